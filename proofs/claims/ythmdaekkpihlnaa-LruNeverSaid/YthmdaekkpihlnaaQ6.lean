/- The document's shelf: Put, where there is room. -/
import Derived.Test.YthmdaekkpihlnaaQ5
namespace Go.Proofs.Ythmdaekkpihlnaa
open Go.RowKit
set_option linter.unusedVariables false

theorem Ref.stored {w1 w2 : World} {X : Nat} {E Y : Int} {v v' : Value} {L : List Ent} {e : Ent} (R : Ref w1 X E Y v L) (hV : Vec w2 4 v' (L.length + 1) (cellsOf L ++ e.cells)) (hO1 : Only (fun k => v.ownBlock = some k) w1 w2)
    (hA : ∀ k, v'.ownBlock = some k → v.ownBlock = some k ∨ w1.heap.size ≤ k) (hk : e.key.size ≤ 140737488355328) (hv : e.val.size ≤ 140737488355328) (hl : L.length < 1000) :
    Ref (w2.setCell ⟨X, 2, none⟩ v') X E Y v' (L ++ [e]) ∧ Kept (OwnR X v) (OwnR X v') w1 (w2.setCell ⟨X, 2, none⟩ v') := by
  have hX : ¬ (v.ownBlock = some X) := R.apart
  have hO2 : Only (fun k => k = X) w2 (w2.setCell ⟨X, 2, none⟩ v') := (Only.refl (fun k => k = X) w2).setCell (p := ⟨X, 2, none⟩) rfl _
  have hap : ∀ g, v'.ownBlock = some g → ¬ g = X := fun g hg e => by
    subst e
    rcases hA g hg with h | h
    · exact hX h
    · have := R.ltX; omega
  have c (i : Nat) := hO1.cell R.ltX hX i
  refine ⟨⟨?_, ?_, World.cell?_setCell_same _ _ _ ((c 2).trans R.c2), fun o => by rw [World.frozen?_setCell]; exact (hO1.frozen R.ltX hX o).trans (R.thaw o), ?_, ?_, fun h => hap X h rfl, ?_, ?_⟩, ?_, ?_⟩
  · rw [World.cell?_setCell_other _ _ _ _ (off_ne (by decide)), c 0]; exact R.c0
  · rw [World.cell?_setCell_other _ _ _ _ (off_ne (by decide)), c 1]; exact R.c1
  · rw [heap_size_setCell]; exact Nat.lt_of_lt_of_le R.ltX hO1.size
  · rw [List.length_append, cellsOf_append]
    have e1 : cellsOf [e] = e.cells := by simp [cellsOf]
    rw [e1]
    exact hV.only hO2 hap
  · intro y hy
    rcases List.mem_append.1 hy with hy | hy
    · exact R.small y hy
    · simp at hy; subst hy; exact ⟨hk, hv⟩
  · simp; omega
  · exact (hO1.mono fun k _ hk => .inr hk).trans2 hO2 fun k _ hk => .inl hk
  · rintro k (hk | hk)
    · exact .inl (.inl hk)
    · rcases hA k hk with h | h
      · exact .inl (.inr h)
      · exact .inr h

theorem pevict_over {E Y : Int} {x : Ent} {r : List Ent} (h : pover E Y (x :: r) = true) : pevict E Y (x :: r) = pevict E Y r := by
  show (if pover E Y (x :: r) then pevict E Y r else x :: r) = _
  rw [if_pos h]
theorem pevict_fits {E Y : Int} {l : List Ent} (h : pover E Y l = false) : pevict E Y l = l := by
  cases l with
  | nil => rfl
  | cons x r => unfold pevict; rw [if_neg (by simp [h])]

/-- the head taken away -/
theorem Ref.tail {w : World} {X g off cap : Nat} {E Y : Int} {x : Ent} {r : List Ent} (R : Ref w X E Y (.slice (some ⟨g, off, none⟩) (r.length + 1) cap) (x :: r)) (v' : Value)
    (hv : v' = .slice (if cap = 1 then some ⟨g, off, none⟩ else some ⟨g, off + 4, none⟩) r.length (cap - 1)) :
    Ref (w.setCell ⟨X, 2, none⟩ v') X E Y v' r ∧ Kept (OwnR X (.slice (some ⟨g, off, none⟩) (r.length + 1) cap)) (OwnR X v') w (w.setCell ⟨X, 2, none⟩ v') := by
  have hO2 : Only (fun k => k = X) w (w.setCell ⟨X, 2, none⟩ v') := (Only.refl (fun k => k = X) w).setCell (p := ⟨X, 2, none⟩) rfl _
  have hown : v'.ownBlock = some g := by subst hv; split <;> rfl
  have hgX : ¬ g = X := fun e => R.apart (by rw [← e]; rfl)
  have hV := R.vec.cut (k := 1) (by simp)
  rw [Nat.one_mul] at hV
  have e2 : (cellsOf (x :: r)).drop 4 = cellsOf r := by
    show (x.cells ++ cellsOf r).drop 4 = _
    exact List.drop_left' rfl
  rw [e2] at hV
  rw [Nat.add_sub_cancel] at hV
  have hap : ∀ k, v'.ownBlock = some k → ¬ k = X := fun k hk e => by rw [hown] at hk; injection hk with hk; exact hgX (hk.trans e)
  refine ⟨⟨?_, ?_, World.cell?_setCell_same _ _ _ R.c2, fun o => by rw [World.frozen?_setCell]; exact R.thaw o, ?_, ?_, fun h => hap X h rfl, fun e he => R.small e (List.mem_cons_of_mem _ he), ?_⟩, ?_, ?_⟩
  · rw [World.cell?_setCell_other _ _ _ _ (off_ne (by decide))]; exact R.c0
  · rw [World.cell?_setCell_other _ _ _ _ (off_ne (by decide))]; exact R.c1
  · rw [heap_size_setCell]; exact R.ltX
  · rw [hv] at hap ⊢; exact hV.only ((Only.refl (fun k => k = X) w).setCell (p := ⟨X, 2, none⟩) rfl _) hap
  · have := R.few; simp at this; omega
  · exact hO2.mono fun k _ hk => .inl hk
  · rintro k (hk | hk)
    · exact .inl (.inl hk)
    · exact .inl (.inr (by rw [hown] at hk; exact hk))

set_option maxRecDepth 8000 in
set_option maxHeartbeats 1000000 in
theorem put18_yes {w : World} {X : Nat} {E Y : Int} {v : Value} {L : List Ent} (R : Ref w X E Y v L) (e : Ent) (hk : e.key.size ≤ 140737488355328) (hv : e.val.size ≤ 140737488355328) (hE : 1 ≤ E) (hY : (e.key.size : Int) + (e.val.size : Int) ≤ Y) (hl : L.length < 1000) :
    Calls Try.prog 18 #[.pointer (some ⟨X, 0, none⟩), .agg #[.string e.key, .string e.val, .int .i64 e.til, .int .i64 e.gra]] w fun r w' => r = .returned (.bool true) ∧ ∃ v', Ref w' X E Y v' (pevict E Y (pdrop L e.key ++ [e])) ∧ Kept (OwnR X v) (OwnR X v') w w' := by
  obtain ⟨i0, hi, hz0, hz1, hz2⟩ := info_parts info50
  have hd := drop20 (R.alloc (entObjR e)) e.key
  have RR := Lib.hid R
  have hpl := pdrop_le L e.key
  have HK := Lib.hid hk
  have HV := Lib.hid hv
  clear R
  have hd1 : decide (E < 1) = false := by simp; omega
  have h2' : ¬ (e.key.size : Int) + (e.val.size : Int) > Y := by omega
  have h3' : (e.key.size : Int) + (e.val.size : Int) ≤ Y := hY
  have b1 : (e.key.size : Int) ≤ 140737488355328 := by omega
  have b2 : (e.val.size : Int) ≤ 140737488355328 := by omega
  clear hY
  go_enter Try.func18, Try.ntmps18
  go_wp2_with fail
  refine hd.mono ?_
  rintro r w1 ⟨rfl, v1, hR1, hK1⟩
  obtain ⟨lx, nx, bx⟩ := RR.out.box hK1
  have c (i : Nat) := cell_of_row w1 w.heap.size i _ 50 (0, 0) bx
  have k0 := c 0
  have k1 := c 1
  have k2 := c 2
  have k3 := c 3
  have c0 := hR1.c0
  have c1 := hR1.c1
  have c2 := hR1.c2
  have R1 := Lib.hid hR1
  have K1 := Lib.hid hK1
  have hw1 : IntKind.i64.wrap ((e.key.size : Int) + (e.val.size : Int)) = (e.key.size : Int) + (e.val.size : Int) := IntWalk.i64_in _ (by omega)
  have lX := hR1.ltX
  have f2 := hR1.thaw 2
  have apX := hR1.apart
  have RV := Lib.hid hR1.vec
  clear hd hR1 hK1 c bx
  go_wp2_with fail
  go_quiet (fail)
  clear hw1
  have R2 := Lib.hid (R1.out.drewN nq)
  have K2 := Lib.hid (K1.out.start.trans (Kept.only' ((Only.refl _ _).drewN nq)))
  have j0 : (w1.drewN nq).cell? ⟨w.heap.size, 0, none⟩ = _ := k0
  have j1 : (w1.drewN nq).cell? ⟨w.heap.size, 1, none⟩ = _ := k1
  have j2 : (w1.drewN nq).cell? ⟨w.heap.size, 2, none⟩ = _ := k2
  have j3 : (w1.drewN nq).cell? ⟨w.heap.size, 3, none⟩ = _ := k3
  have lx' : w.heap.size < (w1.drewN nq).heap.size := lx
  clear k0 k1 k2 k3 c0 c1 c2 R1 K1 lX f2 apX RV lx
  obtain ⟨wd, hwd⟩ : ∃ wd, wd = w1.drewN nq := ⟨_, rfl⟩
  rw [← hwd] at R2 K2 j0 j1 j2 j3 lx' ⊢
  clear hwd w1
  have c0 := R2.out.c0
  have c1 := R2.out.c1
  have c2 := R2.out.c2
  have lX := R2.out.ltX
  have f2 := R2.out.thaw 2
  have apX := R2.out.apart
  have RV := Lib.hid R2.out.vec
  go_upto_region 4 with fail
  go_cut [] from 28 to 37 (fun wx => ∃ v', Ref wx X E Y v' (pdrop L e.key ++ [e]) ∧ Kept (OwnR X v) (OwnR X v') w wx)
  case first =>
    go_region_law (refine step_vec_append _ (by rfl) _ _ 46 (by rfl) 50 i0 _ 4 48 Try.underlying46 hi hz0 hz1 hz2 rfl (by omega) v1 _ _ (by rfl) ((RV.out.alloc _).drew) ⟨wd.heap.size, 0, none⟩ 1 1 e.cells (by rfl) (by rfl) (World.news_of_block (cs := #[.string e.key, .string e.val, .int .i64 e.til, .int .i64 e.gra]) (t := 50) (fr := (0, 0)) (heap_alloc_new wd _)) (by simp [Value.oneCell', Ent.cells]) (by unfold maxLen; omega) (by omega) ?_; intro v2 w2 hv2 hg2 ha2; obtain ⟨av, cv, rfl, _, _⟩ := hv2.shape; have d2 : w2.cell? ⟨X, 2, none⟩ = some v1 := ((hg2.cell_far ⟨X, 2, none⟩ (by simp; omega) (Ne.symm apX)).trans (World.cell?_alloc_lt _ _ _ lX)).trans c2; have g2 : w2.frozen? ⟨X, 2, none⟩ = false := ((hg2.frozen_far ⟨X, 2, none⟩ (by simp; omega) (Ne.symm apX)).trans (World.frozen?_alloc_old _ _ _ (by simp only; omega))).trans f2; have HV2 := Lib.hid hv2; have HG2 := Lib.hid hg2; have HA2 := Lib.hid ha2; clear hv2 hg2 ha2)
    all_goals
      go_wp2_with fail
      go_meet
      have hO1 : Only (fun k => v1.ownBlock = some k) wd w2 := (((Only.refl _ wd).alloc _).drew).grown HG2.out fun k hk => hk
      obtain ⟨hR3, hK3⟩ := R2.out.stored HV2.out hO1 (fun k hk => (HA2.out k hk).imp id fun h => Nat.le_trans (by simp) h) HK.out HV.out (by omega)
      exact ⟨_, hR3, K2.out.trans hK3⟩
  case rest =>
    obtain ⟨v3, hR3, hK3⟩ := hcut
    have R3 := Lib.hid hR3
    have K3 := Lib.hid hK3
    clear hR3 hK3 j0 j1 j2 j3 c0 c1 c2 lX f2 apX RV R2 K2 lx' hd1 h2' h3' b1 b2 nx
    try go_wp2
    go_loopg [] ((pdrop L e.key).length + 1) (fun g wr => ∃ v' L', g = L'.length ∧ Ref wr X E Y v' L' ∧ pevict E Y L' = pevict E Y (pdrop L e.key ++ [e]) ∧ Kept (OwnR X v) (OwnR X v') w wr)
    case atStart => exact ⟨_, _, by simp, R3.out, rfl, K3.out⟩
    case round =>
      obtain ⟨v', L', hg, hR, hev, hK⟩ := hrel
      have RR := Lib.hid hR
      have EV := Lib.hid hev
      have KK := Lib.hid hK
      have HG := Lib.hid hg
      have c0 := hR.c0
      have c1 := hR.c1
      have c2 := hR.c2
      have lX := hR.ltX
      obtain ⟨av, cv, rfl, q1, q2⟩ := hR.vec.shape
      obtain ⟨u, hu⟩ : ∃ u : Int, u = (pbytes L' : Int) := ⟨_, rfl⟩
      obtain ⟨len, hl⟩ : ∃ len : Nat, len = L'.length := ⟨_, rfl⟩
      have hO : pover E Y L' = (decide (E < (len : Int)) || decide (Y < u)) := by rw [hu, hl]; rfl
      have HO := Lib.hid hO
      have hby : ∀ n, Calls Try.prog 30 #[.pointer (some ⟨X, 0, none⟩)] (wr.drewN n) fun e w'' => e = .returned (.int .i64 u) ∧ ∃ m, w'' = wr.drewN m := fun n => Calls.quiet_of (by rw [hu]; exact bytes30 (hR.drewN n))
      have HBY := Lib.hid hby
      have HU := Lib.hid hu
      have HL := Lib.hid hl
      rw [← hl] at c2 q1
      clear hR hev hK hg hO hby hu hl
      cases h1 : decide (E < (len : Int)) with
      | true =>
          have ho : pover E Y L' = true := by rw [HO.out, h1]; rfl
          have hh := h1
          cases L' with
          | nil => exfalso; have a := HU.out; have b := HL.out; simp [pbytes] at a b; simp at h1; simp at hh; omega
          | cons x1 r =>
            obtain ⟨g, off, cap', hcs, q3, q4, q5, q6, q7⟩ := RR.out.vec.at_ (by simp)
            simp only [Value.slice.injEq] at hcs
            obtain ⟨rfl, _, rfl⟩ := hcs
            have EV2 := Lib.hid (pevict_over ho)
            have hlr : len = r.length + 1 := HL.out
            have i1 : (1 : Int) ≤ (cv : Int) := by omega
            have i2 : (1 : Int) ≤ (len : Int) := by omega
            have HLR := Lib.hid hlr
            have f2 := RR.out.thaw 2
            clear ho q6 q7 q3 q4 hlr
            by_cases hc : cv = 1
            · subst hc
              go_wp2_with fail
              go_quiet (fail)
              go_wp2
              go_roundg r.length
              case measure => rw [HG.out]; simp
              case rel =>
                have hz : r.length = 0 := by have := HLR.out; omega
                obtain ⟨g1, g2⟩ := (RR.out.drewN nq).tail (.slice (some ⟨g, off, none⟩) 0 0) (by rw [if_pos rfl, hz])
                exact ⟨_, r, rfl, g1, by rw [← EV.out, EV2.out], (KK.out.trans (Kept.only' ((Only.refl _ _).drewN nq))).trans g2⟩
            · have HC := Lib.hid hc
              go_wp2_with fail
              go_quiet (fail)
              go_wp2
              go_roundg r.length
              case measure => rw [HG.out]; simp
              case rel =>
                have hz : len - 1 = r.length := by have := HLR.out; omega
                obtain ⟨g1, g2⟩ := (RR.out.drewN nq).tail (.slice (some ⟨g, off + 4, none⟩) (len - 1) (cv - 1)) (by rw [if_neg HC.out, hz])
                exact ⟨_, r, rfl, g1, by rw [← EV.out, EV2.out], (KK.out.trans (Kept.only' ((Only.refl _ _).drewN nq))).trans g2⟩
      | false =>
        cases h2 : decide (Y < u) with
        | true =>
          have ho : pover E Y L' = true := by rw [HO.out, h1, h2]; rfl
          have hh := h2
          cases L' with
          | nil => exfalso; have a := HU.out; have b := HL.out; simp [pbytes] at a b; simp at h1; simp at hh; omega
          | cons x1 r =>
            obtain ⟨g, off, cap', hcs, q3, q4, q5, q6, q7⟩ := RR.out.vec.at_ (by simp)
            simp only [Value.slice.injEq] at hcs
            obtain ⟨rfl, _, rfl⟩ := hcs
            have EV2 := Lib.hid (pevict_over ho)
            have hlr : len = r.length + 1 := HL.out
            have i1 : (1 : Int) ≤ (cv : Int) := by omega
            have i2 : (1 : Int) ≤ (len : Int) := by omega
            have HLR := Lib.hid hlr
            have f2 := RR.out.thaw 2
            clear ho q6 q7 q3 q4 hlr
            by_cases hc : cv = 1
            · subst hc
              go_wp2_with fail
              go_quiet ((go_at_call 30; exact HBY.out _))
              go_wp2
              go_roundg r.length
              case measure => rw [HG.out]; simp
              case rel =>
                have hz : r.length = 0 := by have := HLR.out; omega
                obtain ⟨g1, g2⟩ := (RR.out.drewN nq).tail (.slice (some ⟨g, off, none⟩) 0 0) (by rw [if_pos rfl, hz])
                exact ⟨_, r, rfl, g1, by rw [← EV.out, EV2.out], (KK.out.trans (Kept.only' ((Only.refl _ _).drewN nq))).trans g2⟩
            · have HC := Lib.hid hc
              go_wp2_with fail
              go_quiet ((go_at_call 30; exact HBY.out _))
              go_wp2
              go_roundg r.length
              case measure => rw [HG.out]; simp
              case rel =>
                have hz : len - 1 = r.length := by have := HLR.out; omega
                obtain ⟨g1, g2⟩ := (RR.out.drewN nq).tail (.slice (some ⟨g, off + 4, none⟩) (len - 1) (cv - 1)) (by rw [if_neg HC.out, hz])
                exact ⟨_, r, rfl, g1, by rw [← EV.out, EV2.out], (KK.out.trans (Kept.only' ((Only.refl _ _).drewN nq))).trans g2⟩
        | false =>
          have ho : pover E Y L' = false := by rw [HO.out, h1, h2]; rfl
          have EV2 := Lib.hid (pevict_fits ho)
          clear ho
          go_wp2_with fail
          go_quiet ((go_at_call 30; exact HBY.out _))
          go_wp2
          go_ret
          refine ⟨rfl, _, ?_, KK.out.trans (Kept.only' ((Only.refl _ _).drewN _))⟩
          rw [← EV.out, EV2.out]; exact RR.out.drewN _

end Go.Proofs.Ythmdaekkpihlnaa
