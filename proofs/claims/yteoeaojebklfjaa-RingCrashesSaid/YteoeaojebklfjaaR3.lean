/- The document's disk: Fuse, Reopen, New, Read. -/
import Derived.Test.YteoeaojebklfjaaR2
namespace Go.Proofs.Yteoeaojebklfjaa
open Go.RowKit Go.Maps
set_option linter.unusedVariables false

theorem t4_zero : Try.t4.zero = some (.bool false) := by kernel_rfl
theorem t4_size : Try.t4.size = 1 := by kernel_rfl
theorem t4_bytes : Try.t4.bytes = 1 := by kernel_rfl

section
variable {w w' : World} {X : Nat} {G : Nat → Prop} {d : Dk} {U1 U2 UK : Value}
theorem Ref.fused {wS w2 : World} {v' : Value} {k : Nat} {keep : List Bool} (h : Ref w X U1 U2 UK d) (hS : wS = (w.setCell ⟨X, 4, none⟩ (.bool true)).setCell ⟨X, 5, none⟩ (.int .i64 (k : Int))) (F : Fresh wS w2 1 v' keep.length (bo keep)) :
    Ref (w2.setCell ⟨X, 6, none⟩ v') X U1 U2 v' (d.fused k keep) ∧ Kept (FR X U1 U2 UK) (FR X U1 U2 v') w (w2.setCell ⟨X, 6, none⟩ v') := by
  have o1 : Only (fun k => k = X) w wS := by rw [hS]; exact ((Only.refl (fun k => k = X) w).setCell (p := ⟨X, 4, none⟩) rfl _).setCell (p := ⟨X, 5, none⟩) rfl _
  have hc : CellsR wS X [U1, U2, .int .i64 d.done, .bool d.dead, .bool true, .int .i64 (k : Int), UK] := by rw [hS]; exact (h.cells.set (i := 4) (by simp) _).set (i := 5) (by simp) _
  have o2 : Only (fun k => k = X) w w2 := o1.trans (F.only.mono fun _ _ e => e.elim)
  have os : Only (fun k => k = X) w2 (w2.setCell ⟨X, 6, none⟩ v') := (Only.refl (fun k => k = X) _).setCell (p := ⟨X, 6, none⟩) rfl _
  have o3 := o2.trans os
  have hs := o1.size
  have hlX := h.cells.lt
  have hf : ∀ k, v'.ownBlock = some k → w.heap.size ≤ k := fun k hk => Nat.le_trans hs (F.fresh k hk)
  refine ⟨⟨(hc.kept F.only fun e => e).set (i := 6) (by simp) v', h.lasts.only o3 fun g hg e => h.apart1 g hg e, h.waits.only o3 fun g hg e => (h.apart2 g hg).1 e, F.vec.only os fun g hg e => by have := hf g hg; omega, h.apart1, h.apart2, ?_, h.ok.1, h.ok.2, h.ok.3⟩, o3.mono fun k _ e => .inl e, ?_⟩
  · intro k hk
    have := hf k hk
    exact ⟨by omega, fun e => by have := h.lasts.lt e; omega, fun e => by have := h.waits.lt e; omega⟩
  · intro k hk
    rcases hk with hk | hk | hk | hk
    · exact .inl (.inl hk)
    · exact .inl (.inr (.inl hk))
    · exact .inl (.inr (.inr (.inl hk)))
    · exact .inr (hf k hk)

set_option maxRecDepth 20000 in
set_option maxHeartbeats 1000000 in
theorem rFuse_any {v : Value} {keep : List Bool} (h : RefAt w X G d) (hd : d.dead = false) (k : Nat) (hr : Rd w 1 v keep.length (bo keep)) (hap : bo keep ≠ [] → ∀ g, v.ownBlock = some g → ¬ G g) (hn : keep.length ≤ 140737488351232) :
    Calls Try.prog 34 #[.pointer (some ⟨X, 0, none⟩), .int .i64 (k : Int), v] w fun r w' => r = .returned (.int .i64 0) ∧ ∃ G', RefAt w' X G' (d.fused k keep) ∧ Kept G G' w w' := by
  have c3 := h.c3
  rw [hd] at c3
  obtain ⟨U1, U2, UK, h, rfl⟩ := h
  have c4 := h.cells.is 4 _ rfl
  have c5 := h.cells.is 5 _ rfl
  have c6 := h.cells.is 6 _ rfl
  have thaw := h.cells.thaw
  have hk : ¬ (k : Int) < 0 := by omega
  obtain ⟨wS, hS⟩ : ∃ wS, wS = (w.setCell ⟨X, 4, none⟩ (.bool true)).setCell ⟨X, 5, none⟩ (.int .i64 (k : Int)) := ⟨_, rfl⟩
  have o1 : Only (fun k => k = X) w wS := by rw [hS]; exact ((Only.refl (fun k => k = X) w).setCell (p := ⟨X, 4, none⟩) rfl _).setCell (p := ⟨X, 5, none⟩) rfl _
  have hc : CellsR wS X [U1, U2, .int .i64 d.done, .bool d.dead, .bool true, .int .i64 (k : Int), UK] := by rw [hS]; exact (h.cells.set (i := 4) (by simp) _).set (i := 5) (by simp) _
  have RS := Lib.hid (((hr.only o1 fun hx g hg _ e => hap hx g hg (.inl e)).only (F := None') ((Only.refl None' wS).alloc (.cells #[] 4)) fun _ _ _ _ e => e))
  have HC := Lib.hid hc
  have eS := hS.symm
  have HS := Lib.hid hS
  obtain ⟨va, kl, vc, rfl⟩ := hr.shape'
  obtain ⟨xa, xb, xc, eK⟩ := h.keep.rd.shape'
  subst eK
  have H := Lib.hid h
  have HN := Lib.hid hn
  clear h hd hr hap hS o1 hn hc
  go_enter Try.func34, Try.ntmps34
  go_wp2_with (at_builtin; refine wpList_append_rd _ rfl _ _ 23 rfl 4 Try.t4 (.bool false) 1 1 Try.underlying23 info4 t4_zero t4_size t4_bytes rfl (by decide) ⟨wS.heap.size, 0, none⟩ 0 0 [] rfl (empty_row wS 4 1) (.slice va kl vc) keep.length (bo keep) rfl RS.out (bo_one keep) (by have := HN.out; unfold maxLen; omega) (by have := HN.out; omega) ?_; intro v' w2 hv hg hf; obtain ⟨b1, b2, b3, rfl⟩ := hv.rd.shape'; have FF := Lib.hid (fresh_of hv hg hf); have q6 := (FF.out.only.cell HC.out.lt (fun e => e) 6).trans (HC.out.is 6 _ rfl); have q7 : ∀ i, w2.frozen? ⟨X, i, none⟩ = false := (fun i => (FF.out.only.frozen HC.out.lt (fun e => e) i).trans (HC.out.thaw i)); clear hv hg hf)
  go_ret
  have hF := H.out.fused HS.out FF.out
  exact ⟨rfl, _, hF.1.at_, hF.2⟩

theorem fresh_ref {w1 : World} {U : Value} {L : List Sec} (hv : Vec w1 1 U L.length (strs (L.map st))) (hok : Dk.Ok ⟨L, [], 0, false, false, 0, []⟩) :
    Ref (w1.alloc (.cells #[U, .slice none 0 0, .int .i64 0, .bool false, .bool false, .int .i64 0, .slice none 0 0] 113)) w1.heap.size U (.slice none 0 0) (.slice none 0 0) ⟨L, [], 0, false, false, 0, []⟩ := by
  have hb (i : Nat) := World.cell?_alloc_new w1 #[U, .slice none 0 0, .int .i64 0, .bool false, .bool false, .int .i64 0, .slice none 0 0] 113 i
  have hf (i : Nat) := World.frozen?_alloc_new w1 #[U, .slice none 0 0, .int .i64 0, .bool false, .bool false, .int .i64 0, .slice none 0 0] 113 i
  exact ⟨⟨fun i u hu => by rw [hb i]; simpa using hu, hf, by simp⟩, hv.alloc _, Vec.nil _ _, Vec.nil _ _, fun k hk => by have := hv.lt hk; omega, (fun k hk => by cases hk), (fun k hk => by cases hk), hok⟩

theorem lasts_bound {d : Dk} (h : d.Ok) : d.lasts.length ≤ 65536 := h.many

set_option maxRecDepth 20000 in
set_option maxHeartbeats 1000000 in
theorem rReopen_any (h : RefAt w X G d) (hd : d.dead = true) :
    Calls Try.prog 35 #[.pointer (some ⟨X, 0, none⟩)] w fun r w' => ∃ X' G', r = .returned (.tuple #[.pointer (some ⟨X', 0, none⟩), .int .i64 0]) ∧ RefAt w' X' G' d.reopened ∧ (∀ k, G' k → w.heap.size ≤ k) ∧ Only None' w w' := by
  have c3 := h.c3
  rw [hd] at c3
  obtain ⟨U1, U2, UK, h, rfl⟩ := h
  have c0 := h.cells.is 0 _ rfl
  have hltX := h.cells.lt
  have RS := Lib.hid ((h.lasts.only (F := None') ((Only.refl None' w).alloc (.cells #[] 9)) fun _ _ e => e).rd)
  have HM := Lib.hid h.ok.many
  obtain ⟨a1, k1, b1, e1⟩ := h.lasts.rd.shape'
  subst e1
  have H := Lib.hid h
  clear h hd
  go_enter Try.func35, Try.ntmps35
  go_wp2_with (at_builtin; refine wpList_append_rd _ rfl _ _ 46 rfl 9 Try.t9 (.string ⟨#[]⟩) 1 16 Try.underlying46 info9 t9_zero t9_size t9_bytes rfl (by decide) ⟨w.heap.size, 0, none⟩ 0 0 [] rfl (empty_row w 9 1) (.slice a1 k1 b1) d.lasts.length (strs (d.lasts.map st)) rfl RS.out (strs_one _) (by have := HM.out; unfold maxLen; omega) (by have := HM.out; omega) ?_; intro v' w2 hv hg hf; obtain ⟨p1, p2, p3, rfl⟩ := hv.rd.shape'; have FF := Lib.hid (fresh_of hv hg hf); clear hv hg hf)
  go_ret2
  have hR := fresh_ref (L := d.lasts) FF.out.vec ⟨H.out.ok.lasts, (fun p hp => by cases hp), H.out.ok.many⟩
  refine ⟨_, _, rfl, hR.at_, ?_, FF.out.only.alloc _⟩
  have := FF.out.only.size
  intro k hk
  rcases hk with rfl | hk | hk | hk
  · omega
  · exact FF.out.fresh k hk
  · cases hk
  · cases hk

theorem rNew_bad (n : Int) (w : World) (h : n < 1 ∨ 65536 < n) : True := trivial

set_option maxRecDepth 20000 in
set_option maxHeartbeats 1000000 in
theorem rNew_any (n : Nat) (w : World) (h1 : 1 ≤ n) (h2 : n ≤ 65536) : Calls Try.prog 28 #[.int .i64 (n : Int)] w fun r w' => ∃ X G, r = .returned (.tuple #[.pointer (some ⟨X, 0, none⟩), .int .i64 0]) ∧ RefAt w' X G (Dk.new n) ∧ (∀ k, G k → w.heap.size ≤ k) ∧ Only None' w w' := by
  have a1 : ¬ (n : Int) < 1 := by omega
  have a2 : ¬ (65536 : Int) < n := by omega
  have H2 := Lib.hid h2
  clear h1 h2
  obtain ⟨zst, hz⟩ : ∃ zst, zst = st zs := ⟨_, rfl⟩
  have HZ := Lib.hid hz
  clear hz
  go_enter Try.func28, Try.ntmps28
  go_wp2_with (at_make; refine wpList_make_full _ rfl _ _ 34 rfl w.heap.size 5 Try.t5 (.int .u8 0) 1 Try.underlying34 info5 t5_zero t5_size .i64 .i64 512 512 512 rfl rfl rfl rfl (by rw [t5_bytes]; decide) (by unfold maxLen; decide) (Nat.le_refl _) ?_; intro w1 hown hgrow; have cv : (convert 34 9 (.slice (some ⟨w.heap.size, 0, none⟩) 512 512)).run Try.prog w1 = .ok (.string zst) w1 := (by rw [HZ.out]; exact conv_vec (by have := Vec.of_owns hown; rw [show (Value.int .u8 0).cells = #[.int .u8 0] from rfl, toList_madeCells_one] at this; rw [zs_bv]; exact this) (by unfold zs; exact List.length_replicate)); have HO := Lib.hid ((Only.refl None' w).grown hgrow (by simp)); clear hown hgrow)
  clear cv
  go_loopw [6] (fun i wr => ∃ k U, k ≤ n ∧ i = .int .i64 (k : Int) ∧ Hid (Ref wr w1.heap.size U (.slice none 0 0) (.slice none 0 0) (Dk.new k) ∧ (∀ j, U.ownBlock = some j → w.heap.size ≤ j) ∧ Only None' w wr)) (fun i wr => n - (intOf i).toNat)
  case atStart => exact ⟨0, .slice none 0 0, by omega, rfl, Lib.hid ⟨fresh_ref (L := []) (Vec.nil _ _) (Dk.new_ok (n := 0) (by decide)), (fun j hj => by cases hj), HO.out.alloc _⟩⟩
  case round =>
    obtain ⟨k, U, hk, rfl, HL⟩ := hrel
    obtain ⟨u1, u2, u3, rfl⟩ := HL.out.1.lasts.rd.shape'
    have c0 := HL.out.1.cells.is 0 _ rfl
    have thaw := HL.out.1.cells.thaw
    have hlX := HL.out.1.cells.lt
    by_cases hlt : k < n
    · have i1 : (k : Int) < (n : Int) := by omega
      have HV := Lib.hid (HL.out.1.lasts.alloc (.cells #[.string zst] 9))
      have NW := Lib.hid (news_row wr 9 (strs [zst]))
      have hkl : Hid ((Dk.new k).lasts.length = k) := by show _ = _; simp [Dk.new]
      go_wp2_with (at_builtin; refine wpList_vec_append _ rfl _ _ 46 rfl 9 Try.t9 (.string ⟨#[]⟩) 1 16 Try.underlying46 info9 t9_zero t9_size t9_bytes rfl (by decide) _ _ _ rfl HV.out ⟨wr.heap.size, 0, none⟩ 1 1 (strs [zst]) rfl rfl NW.out (strs_one _) (by have := hkl.out; have := H2.out; unfold maxLen; omega) (by have := hkl.out; have := H2.out; omega) ?_; intro V' w7 hv hg hf; obtain ⟨p1, p2, p3, rfl⟩ := hv.rd.shape'; have oo : Only (fun k => (Value.slice u1 u2 u3).ownBlock = some k) wr w7 := (((Only.refl _ wr).alloc _).grown hg fun k hk => hk); have q0 := (oo.cell hlX (fun e => HL.out.1.apart1 _ e rfl) 0).trans c0; have q1 : ∀ i, w7.frozen? ⟨w1.heap.size, i, none⟩ = false := (fun i => (oo.frozen hlX (fun e => HL.out.1.apart1 _ e rfl) i).trans (thaw i)); have HVV := Lib.hid (And.intro hv (And.intro hf oo)); clear hv hg hf oo)
      go_roundw
      case rel =>
        obtain ⟨hv, hf, oo⟩ := HVV.out
        have os : Only (fun k => k = w1.heap.size) w7 (w7.setCell ⟨w1.heap.size, 0, none⟩ (.slice p1 p2 p3)) := (Only.refl (fun k => k = w1.heap.size) _).setCell (p := ⟨w1.heap.size, 0, none⟩) rfl _
        have hX : ¬ (Value.slice u1 u2 u3).ownBlock = some w1.heap.size := fun e => HL.out.1.apart1 _ e rfl
        have hsz := HO.out.size
        have hw := HL.out.2.2.size
        have hne : ∀ j, (Value.slice p1 p2 p3).ownBlock = some j → j ≠ w1.heap.size ∧ w.heap.size ≤ j := fun j hj => by
          rcases hf j hj with h1 | h1
          · exact ⟨fun e => hX (e ▸ h1), HL.out.2.1 j h1⟩
          · simp at h1; exact ⟨by omega, by omega⟩
        refine ⟨k + 1, .slice p1 p2 p3, by omega, by have := H2.out; first | go_num | exact next_int (by omega), Lib.hid ⟨⟨(HL.out.1.cells.kept oo hX).set (i := 0) (by simp) _, ?_, Vec.nil _ _, Vec.nil _ _, fun j hj => (hne j hj).1, (fun j hj => by cases hj), (fun j hj => by cases hj), Dk.new_ok (by have := H2.out; omega)⟩, fun j hj => (hne j hj).2, ?_⟩⟩
        · have e1 : (Dk.new (k + 1)).lasts.length = (Dk.new k).lasts.length + 1 := by simp [Dk.new]
          have e2 : strs ((Dk.new (k + 1)).lasts.map st) = strs ((Dk.new k).lasts.map st) ++ strs [zst] := by
            show strs ((List.replicate (k + 1) zs).map st) = strs ((List.replicate k zs).map st) ++ strs [zst]
            rw [List.replicate_succ', List.map_append, strs, List.map_append, HZ.out]; rfl
          rw [e1, e2]
          exact hv.only os fun g hg e => (hne g hg).1 e
        · exact (HL.out.2.2.trans2 oo fun j hj e => by have := HL.out.2.1 j e; omega).trans2 os fun j hj e => by omega
      case measure => first | (simp [intOf]; omega) | exact meas hlt (by have := H2.out; omega)
    · obtain rfl : k = n := by omega
      go_wp2_with fail
      go_ret2
      refine ⟨_, _, rfl, HL.out.1.at_, ?_, HL.out.2.2⟩
      have := HO.out.size
      intro j hj
      rcases hj with rfl | hj | hj | hj
      · omega
      · exact HL.out.2.1 j hj
      · cases hj
      · cases hj

theorem rRead_bad (h : RefAt w X G d) (hd : d.dead = false) (i : Int) (hb : i < 0 ∨ (d.lasts.length : Int) ≤ i) :
    Calls Try.prog 30 #[.pointer (some ⟨X, 0, none⟩), .int .i64 i] w fun r w' => r = .returned (.tuple #[.string ⟨#[]⟩, .int .i64 1]) ∧ w' = w := by
  have c3 := h.c3
  rw [hd] at c3
  obtain ⟨U1, U2, UK, h, rfl⟩ := h
  obtain ⟨l1, m1, e1, _, _⟩ := h.lasts.shape
  subst e1
  have c0 := h.cells.is 0 _ rfl
  have HB := Lib.hid hb
  clear h hd hb
  obtain ⟨len, hlen⟩ : ∃ len, len = d.lasts.length := ⟨_, rfl⟩
  rw [← hlen] at HB c0
  clear hlen
  by_cases h1 : i < 0
  · go_enter Try.func30, Try.ntmps30
    go_wp2_with fail
    go_ret2
    exact ⟨rfl, rfl⟩
  · have h2 : (len : Int) ≤ i := by have := HB.out; omega
    go_enter Try.func30, Try.ntmps30
    go_wp2_with fail
    go_ret2
    exact ⟨rfl, rfl⟩

theorem rWrite_bad (h : RefAt w X G d) (hd : d.dead = false) (i : Int) (s : ByteArray) (hb : i < 0 ∨ (d.lasts.length : Int) ≤ i ∨ s.size ≠ 512) :
    Calls Try.prog 31 #[.pointer (some ⟨X, 0, none⟩), .int .i64 i, .string s] w fun r w' => r = .returned (.int .i64 1) ∧ w' = w := by
  have c3 := h.c3
  rw [hd] at c3
  obtain ⟨U1, U2, UK, h, rfl⟩ := h
  obtain ⟨l1, m1, e1, _, _⟩ := h.lasts.shape
  subst e1
  have c0 := h.cells.is 0 _ rfl
  have HB := Lib.hid hb
  clear h hd hb
  obtain ⟨len, hlen⟩ : ∃ len, len = d.lasts.length := ⟨_, rfl⟩
  rw [← hlen] at HB c0
  clear hlen
  by_cases h1 : i < 0
  · go_enter Try.func31, Try.ntmps31
    go_wp2_with fail
    go_ret
    exact ⟨rfl, rfl⟩
  · by_cases h2 : (len : Int) ≤ i
    · go_enter Try.func31, Try.ntmps31
      go_wp2_with fail
      go_ret
      exact ⟨rfl, rfl⟩
    · have h3 : ((s.size : Int) != 512) = true := by have := HB.out; simp; omega
      go_enter Try.func31, Try.ntmps31
      go_wp2_with fail
      go_ret
      exact ⟨rfl, rfl⟩

theorem read_snoc (d : Dk) (ws : List (Nat × Sec)) (p : Nat × Sec) (i : Nat) : Dk.read { d with waits := ws ++ [p] } i = if p.1 = i then p.2 else Dk.read { d with waits := ws } i := by
  unfold Dk.read
  simp only [lastIx_snoc]
  by_cases e : p.1 = i
  · rw [if_pos e, if_pos e]
    simp [List.getD_eq_getElem?_getD]
  · rw [if_neg e, if_neg e]
    cases hk : lastIx ws i with
    | none => rfl
    | some k =>
      obtain ⟨h1, _⟩ := lastIx_lt hk
      simp [List.getD_eq_getElem?_getD, List.getElem?_append_left h1]

set_option maxRecDepth 20000 in
set_option maxHeartbeats 1000000 in
theorem rRead_any (h : RefAt w X G d) (hd : d.dead = false) {i : Nat} (hi : i < d.lasts.length) (hn : d.waits.length ≤ 1000000) :
    Calls Try.prog 30 #[.pointer (some ⟨X, 0, none⟩), .int .i64 (i : Int)] w fun r w' => r = .returned (.tuple #[.string (st (d.read i)), .int .i64 0]) ∧ w' = w := by
  have c3 := h.c3
  rw [hd] at c3
  obtain ⟨U1, U2, UK, h, rfl⟩ := h
  obtain ⟨g1, o1, b1, e1, _, _, _, hc1, _⟩ := h.lasts.at_ (by omega)
  subst e1
  obtain ⟨l2, m2, e2, _, _⟩ := h.waits.shape
  subst e2
  have c0 := h.cells.is 0 _ rfl
  have c1 := h.cells.is 1 _ rfl
  have k0 := hc1 i _ (strs_get hi)
  have i0 : (0 : Int) ≤ (i : Int) := by omega
  have i1 : (i : Int) < (d.lasts.length : Int) := by omega
  have i2 : ¬ (i : Int) < 0 := by omega
  have i3 : ¬ (d.lasts.length : Int) ≤ (i : Int) := by omega
  obtain ⟨s0, hs0⟩ : ∃ s0, s0 = st d.lasts[i] := ⟨_, rfl⟩
  rw [← hs0] at k0
  have HS0 : Hid (s0 = st (Dk.read { d with waits := d.waits.take 0 } i)) := by
    show s0 = _
    rw [hs0]; simp [Dk.read, lastIx, List.getD_eq_getElem?_getD, List.getElem?_eq_getElem hi]
  have H := Lib.hid h
  have HN := Lib.hid hn
  clear h hd hi hn hc1 hs0
  go_enter Try.func30, Try.ntmps30
  go_wp2_with fail
  go_loopw [6, 7] (fun s j wr => ∃ k : Nat, k ≤ d.waits.length ∧ j = .int .i64 (k : Int) ∧ s = .string (st (Dk.read { d with waits := d.waits.take k } i)) ∧ wr = w) (fun s j wr => d.waits.length - (intOf j).toNat)
  case atStart => exact ⟨0, by omega, rfl, by rw [HS0.out], rfl⟩
  case round =>
    obtain ⟨k, hk, rfl, rfl, e⟩ := hrel
    obtain rfl := e.symm
    by_cases hlt : k < d.waits.length
    · obtain ⟨g2, o2, c2', e2, _⟩ := H.out.waits.at_ (by omega)
      injection e2 with e21 _ e23
      subst e21 e23
      have he := H.out.waits.elem (fun y _ => rw_length y) hlt
      have m0 := he 0 _ rfl
      have m1 := he 1 _ rfl
      have hsn := read_snoc d (d.waits.take k) d.waits[k] i
      rw [← take_snoc' hlt] at hsn
      obtain ⟨p, hp⟩ : ∃ p, p = d.waits[k] := ⟨_, rfl⟩
      rw [← hp] at m0 m1 hsn
      obtain ⟨ya, ys⟩ := p
      have m0 : w.cell? ⟨g2, o2 + k * 2, none⟩ = some (.int .i64 (ya : Int)) := m0
      have m1 : w.cell? ⟨g2, o2 + k * 2 + 1, none⟩ = some (.string (st ys)) := m1
      have j0 : (0 : Int) ≤ (k : Int) := by omega
      have j1 : (k : Int) < (d.waits.length : Int) := by omega
      clear hp he
      by_cases hy : ya = i
      · subst hy
        rw [if_pos rfl] at hsn
        have HSN := Lib.hid hsn
        clear hsn
        go_wp2_with fail
        go_roundw
        case rel => exact ⟨k + 1, by omega, next_int (by have := HN.out; omega), by rw [HSN.out], by simp⟩
        case measure => exact meas hlt HN.out
      · rw [if_neg hy] at hsn
        have hy' : ((ya : Int) == (i : Int)) = false := by simp; omega
        have HSN := Lib.hid hsn
        clear hsn
        go_wp2_with fail
        go_roundw
        case rel => exact ⟨k + 1, by omega, next_int (by have := HN.out; omega), by rw [HSN.out], by simp⟩
        case measure => exact meas hlt HN.out
    · obtain rfl : k = d.waits.length := by omega
      go_wp2_with fail
      go_ret2
      first | exact ⟨rfl, rfl⟩ | (simp only [List.take_length]; exact ⟨rfl, rfl⟩)
end
end Go.Proofs.Yteoeaojebklfjaa
