/- The document's disk. -/
import Derived.Test.YteoeaojebklfjaaE8
import Derived.Test.YteoeaojebklfjaaR0
namespace Go.Proofs.Yteoeaojebklfjaa
open Go.RowKit Go.Maps
set_option linter.unusedVariables false

def st (s : Sec) : ByteArray := ⟨s.toArray⟩
def rw_ (p : Nat × Sec) : List Value := [.int .i64 (p.1 : Int), .string (st p.2)]
theorem rw_length (p : Nat × Sec) : (rw_ p).length = 2 := rfl
theorem rw_one (p : Nat × Sec) : ∀ u ∈ rw_ p, u.oneCell' = true := by
  intro u hu
  simp only [rw_, List.mem_cons, List.not_mem_nil, or_false] at hu
  rcases hu with rfl | rfl <;> rfl

/-- cells of a block -/
structure CellsR (w : World) (X : Nat) (us : List Value) : Prop where
  is : ∀ i u, us[i]? = some u → w.cell? ⟨X, i, none⟩ = some u
  thaw : ∀ i, w.frozen? ⟨X, i, none⟩ = false
  lt : X < w.heap.size
theorem CellsR.kept {w w' : World} {X : Nat} {us : List Value} (c : CellsR w X us) {S : Nat → Prop} (ho : Only S w w') (hn : ¬ S X) : CellsR w' X us :=
  ⟨fun i u hu => (ho.cell c.lt hn i).trans (c.is i u hu), fun i => (ho.frozen c.lt hn i).trans (c.thaw i), Nat.lt_of_lt_of_le c.lt ho.size⟩
theorem CellsR.set {w : World} {X : Nat} {us : List Value} (c : CellsR w X us) {i : Nat} (hi : i < us.length) (v : Value) : CellsR (w.setCell ⟨X, i, none⟩ v) X (us.set i v) := by
  refine ⟨fun j u hu => ?_, fun j => by rw [World.frozen?_setCell]; exact c.thaw j, by rw [heap_size_setCell]; exact c.lt⟩
  by_cases e : i = j
  · subst e
    rw [List.getElem?_set_self hi] at hu
    injection hu with hu
    subst hu
    exact World.cell?_setCell_same _ _ _ (c.is i _ (List.getElem?_eq_getElem hi))
  · rw [List.getElem?_set_ne e] at hu
    exact (cell_aside w X i j v e).trans (c.is j u hu)

/-- the document's disk lies in w at X -/
structure Ref (w : World) (X : Nat) (U1 U2 UK : Value) (d : Dk) : Prop where
  cells : CellsR w X [U1, U2, .int .i64 d.done, .bool d.dead, .bool d.set, .int .i64 d.left, UK]
  lasts : Vec w 1 U1 d.lasts.length (strs (d.lasts.map st))
  waits : Vec w 2 U2 d.waits.length (d.waits.flatMap rw_)
  keep : Vec w 1 UK d.keep.length (bo d.keep)
  apart1 : ∀ k, U1.ownBlock = some k → k ≠ X
  apart2 : ∀ k, U2.ownBlock = some k → k ≠ X ∧ U1.ownBlock ≠ some k
  apartK : ∀ k, UK.ownBlock = some k → k ≠ X ∧ U1.ownBlock ≠ some k ∧ U2.ownBlock ≠ some k
  ok : d.Ok

def FR (X : Nat) (U1 U2 UK : Value) (k : Nat) : Prop := k = X ∨ U1.ownBlock = some k ∨ U2.ownBlock = some k ∨ UK.ownBlock = some k
def RefAt (w : World) (X : Nat) (G : Nat → Prop) (d : Dk) : Prop := ∃ U1 U2 UK, Ref w X U1 U2 UK d ∧ G = FR X U1 U2 UK

section
variable {w w' : World} {X : Nat} {U1 U2 UK : Value} {d d' : Dk} {G G' : Nat → Prop}
theorem Ref.lt (h : Ref w X U1 U2 UK d) {k : Nat} (hk : FR X U1 U2 UK k) : k < w.heap.size := by
  rcases hk with rfl | h1 | h1 | h1
  · exact h.cells.lt
  · exact h.lasts.lt h1
  · exact h.waits.lt h1
  · exact h.keep.lt h1
theorem Ref.only (h : Ref w X U1 U2 UK d) {S : Nat → Prop} (ho : Only S w w') (hn : ∀ k, FR X U1 U2 UK k → ¬ S k) : Ref w' X U1 U2 UK d :=
  ⟨h.cells.kept ho (hn X (.inl rfl)), h.lasts.only ho fun g hg => hn g (.inr (.inl hg)), h.waits.only ho fun g hg => hn g (.inr (.inr (.inl hg))), h.keep.only ho fun g hg => hn g (.inr (.inr (.inr hg))), h.apart1, h.apart2, h.apartK, h.ok⟩
theorem RefAt.lt (h : RefAt w X G d) {k : Nat} (hk : G k) : k < w.heap.size := by
  obtain ⟨_, _, _, h, rfl⟩ := h
  exact h.lt hk
theorem RefAt.has (h : RefAt w X G d) : G X := by
  obtain ⟨_, _, _, h, rfl⟩ := h
  exact .inl rfl
theorem RefAt.only (h : RefAt w X G d) {S : Nat → Prop} (ho : Only S w w') (hn : ∀ k, G k → ¬ S k) : RefAt w' X G d := by
  obtain ⟨U1, U2, UK, h, rfl⟩ := h
  exact ⟨U1, U2, UK, h.only ho hn, rfl⟩
theorem Ref.at_ (h : Ref w X U1 U2 UK d) : RefAt w X (FR X U1 U2 UK) d := ⟨_, _, _, h, rfl⟩
end

/-- newer than w0 -/
structure Rsk (w0 w : World) (X : Nat) (G : Nat → Prop) (d : Dk) : Prop where
  at_ : RefAt w X G d
  fresh : ∀ k, G k → w0.heap.size ≤ k
  only : Only None' w0 w
section
variable {w0 w w' : World} {X : Nat} {G G' : Nat → Prop} {d d' : Dk}
theorem Rsk.step (h : Rsk w0 w X G d) (hd : RefAt w' X G' d') (k : Kept G G' w w') : Rsk w0 w' X G' d' :=
  ⟨hd, fun i hi => (k.fresh i hi).elim (h.fresh i) (fun h1 => Nat.le_trans h.only.size h1), h.only.cons_new k.only h.fresh⟩
theorem Rsk.new (h : Rsk w0 w X G d) (o : Only None' w w') : Rsk w0 w' X G d := h.step (h.at_.only o fun _ _ e => e) (Kept.new o)
theorem Rsk.other (h : Rsk w0 w X G d) {F F' : Nat → Prop} (k : Kept F F' w w') (hF : ∀ i, F i → w0.heap.size ≤ i) (hn : ∀ i, G i → ¬ F i) : Rsk w0 w' X G d :=
  ⟨h.at_.only k.only hn, h.fresh, h.only.cons_new k.only hF⟩
end

/-! ### due -/
theorem r_due_yes {w : World} {X : Nat} {G : Nat → Prop} {d : Dk} (h : RefAt w X G d) (hd : d.due = true) :
    Calls Try.prog 66 #[.pointer (some ⟨X, 0, none⟩)] w fun r w' => r = .returned (.bool true) ∧ w' = w := by
  obtain ⟨U1, U2, UK, h, rfl⟩ := h
  have c4 := h.cells.is 4 _ rfl
  have c5 := h.cells.is 5 _ rfl
  simp only [Dk.due, Bool.and_eq_true, decide_eq_true_eq] at hd
  rw [hd.1] at c4
  rw [hd.2] at c5
  clear h hd
  go_enter Try.func66, Try.ntmps66
  go_wp2
  go_ret
  exact ⟨rfl, rfl⟩

theorem Ref.ticked {w : World} {X : Nat} {U1 U2 UK : Value} {d : Dk} (h : Ref w X U1 U2 UK d) (hl : -1000000 ≤ d.left) (hl' : d.left ≤ 9223372036854775807) (h0 : 0 ≤ d.done) (h0' : d.done ≤ 1000000) :
    Ref ((w.setCell ⟨X, 5, none⟩ (.int .i64 (wrap64 (d.left - 1)))).setCell ⟨X, 2, none⟩ (.int .i64 (wrap64 (d.done + 1)))) X U1 U2 UK d.tick ∧
      Only (fun k => k = X) w ((w.setCell ⟨X, 5, none⟩ (.int .i64 (wrap64 (d.left - 1)))).setCell ⟨X, 2, none⟩ (.int .i64 (wrap64 (d.done + 1)))) := by
  have ho : Only (fun k => k = X) w ((w.setCell ⟨X, 5, none⟩ (.int .i64 (wrap64 (d.left - 1)))).setCell ⟨X, 2, none⟩ (.int .i64 (wrap64 (d.done + 1)))) := ((Only.refl (fun k => k = X) w).setCell (p := ⟨X, 5, none⟩) rfl _).setCell (p := ⟨X, 2, none⟩) rfl _
  have hc := (h.cells.set (i := 5) (by simp) (.int .i64 (wrap64 (d.left - 1)))).set (i := 2) (by simp) (.int .i64 (wrap64 (d.done + 1)))
  refine ⟨⟨?_, h.lasts.only ho fun g hg e => h.apart1 g hg e, h.waits.only ho fun g hg e => (h.apart2 g hg).1 e, h.keep.only ho fun g hg e => (h.apartK g hg).1 e, h.apart1, h.apart2, h.apartK, h.ok.1, h.ok.2, h.ok.3⟩, ho⟩
  rw [IntWalk.wrap64_in (d.left - 1) (by omega), IntWalk.wrap64_in (d.done + 1) (by omega)] at hc ⊢
  exact hc

theorem r_due_no {w : World} {X : Nat} {U1 U2 UK : Value} {d : Dk} (h : Ref w X U1 U2 UK d) (hd : d.due = false) {n : Nat} (hf : d.Few n) (hn : n ≤ 1000000) :
    Calls Try.prog 66 #[.pointer (some ⟨X, 0, none⟩)] w fun r w' => r = .returned (.bool false) ∧ Ref w' X U1 U2 UK d.tick ∧ Only (fun k => k = X) w w' := by
  have HT := Lib.hid (h.ticked (by have := hf.left0; omega) hf.left hf.done0 (by have := hf.done; omega))
  have c2 := h.cells.is 2 _ rfl
  have c4 := h.cells.is 4 _ rfl
  have c5 := h.cells.is 5 _ rfl
  have thaw := h.cells.thaw
  clear h hf hn
  unfold Dk.due at hd
  cases hs : d.set
  · rw [hs] at c4
    clear hd hs
    go_enter Try.func66, Try.ntmps66
    go_wp2
    go_ret
    exact ⟨rfl, HT.out⟩
  · rw [hs] at c4 hd
    have hne : ¬ d.left = 0 := by simpa using hd
    clear hd hs
    go_enter Try.func66, Try.ntmps66
    go_wp2
    go_ret
    exact ⟨rfl, HT.out⟩

/-! ### crash -/
theorem strs_get {l : List Sec} {j : Nat} (hj : j < l.length) : (strs (l.map st))[j]? = some (.string (st l[j])) := by simp [strs, List.getElem?_eq_getElem hj]

/-- what the loops keep -/
structure RL (w wr : World) (X : Nat) (U1 U2 UK : Value) (d : Dk) (k : Nat → Bool) (j : Nat) : Prop where
  only : Only (fun k => U1.ownBlock = some k) w wr
  lasts : Vec wr 1 U1 d.lasts.length (strs ((settle k 0 (d.waits.take j) d.lasts).map st))
theorem Ref.settled {w wr : World} {X : Nat} {U1 U2 UK : Value} {d : Dk} {k : Nat → Bool} (h : Ref w X U1 U2 UK d) (L : RL w wr X U1 U2 UK d k d.waits.length) :
    Ref (wr.setCell ⟨X, 1, none⟩ (.slice none 0 0)) X U1 (.slice none 0 0) UK (d.settled k) ∧ Kept (FR X U1 U2 UK) (FR X U1 (.slice none 0 0) UK) w (wr.setCell ⟨X, 1, none⟩ (.slice none 0 0)) := by
  have hX : ¬ U1.ownBlock = some X := fun e => h.apart1 X e rfl
  have ho : Only (fun k => k = X) wr (wr.setCell ⟨X, 1, none⟩ (.slice none 0 0)) := (Only.refl (fun k => k = X) wr).setCell (p := ⟨X, 1, none⟩) rfl _
  have hc := (h.cells.kept L.only hX).set (i := 1) (by simp) (.slice none 0 0)
  have hl := L.lasts
  rw [List.take_length] at hl
  refine ⟨⟨hc, ?_, Vec.nil _ _, ?_, h.apart1, (fun k hk => by cases hk), fun k hk => ⟨(h.apartK k hk).1, (h.apartK k hk).2.1, by simp [Value.ownBlock]⟩, Dk.settled_ok h.ok k⟩, (L.only.mono fun k _ e => .inr (.inl e)).trans (ho.mono fun k _ e => .inl e), ?_⟩
  · show Vec _ 1 U1 (settle k 0 d.waits d.lasts).length _
    rw [settle_length]
    exact hl.only ho fun g hg e => h.apart1 g hg e
  · exact (h.keep.only L.only fun g hg e => (h.apartK g hg).2.1 e).only ho fun g hg e => (h.apartK g hg).1 e
  · intro k hk
    rcases hk with hk | hk | hk | hk
    · exact .inl (.inl hk)
    · exact .inl (.inr (.inl hk))
    · cases hk
    · exact .inl (.inr (.inr (.inr hk)))
theorem RL.next {w wr : World} {X : Nat} {U1 U2 UK : Value} {d : Dk} {k : Nat → Bool} {j : Nat} {g o c : Nat} (hU : U1 = .slice (some ⟨g, o, none⟩) d.lasts.length c) (L : RL w wr X U1 U2 UK d k j) (hok : d.Ok) (hj : j < d.waits.length) (hk : k j = true) :
    RL w (wr.drew.setCell ⟨g, o + d.waits[j].1, none⟩ (.string (st d.waits[j].2))) X U1 U2 UK d k (j + 1) := by
  subst hU
  have hp := (hok.waits _ (List.getElem_mem hj)).1
  refine ⟨L.only.drew.setCell (p := ⟨g, o + d.waits[j].1, none⟩) rfl _, ?_⟩
  have h1 := L.lasts.drew.put (o := d.waits[j].1) (vs := [.string (st d.waits[j].2)]) (by simp; omega)
  rw [take_snoc' hj, settle_snoc, Nat.zero_add, List.length_take_of_le (by omega), hk, if_pos rfl, List.map_set, strs, List.map_set]
  have hl := L.lasts.len
  rw [List.set_eq_take_append_cons_drop, if_pos (by rw [strs] at hl; omega)]
  simpa [World.setCells, strs] using h1
theorem RL.skip {w wr : World} {X : Nat} {U1 U2 UK : Value} {d : Dk} {k : Nat → Bool} {j : Nat} (L : RL w wr X U1 U2 UK d k j) (hj : j < d.waits.length) (hk : k j = false) : RL w wr X U1 U2 UK d k (j + 1) := by
  refine ⟨L.only, ?_⟩
  rw [take_snoc' hj, settle_snoc, Nat.zero_add, List.length_take_of_le (by omega), hk, if_neg (by decide)]
  exact L.lasts

theorem settle_short (keep : List Bool) (ws : List (Nat × Sec)) (L : List Sec) {j : Nat} (h : keep.length ≤ j ∨ ws.length ≤ j) : settle (kept keep) 0 (ws.take j) L = settle (kept keep) 0 ws L := by
  rw [settleG_eq, settleG_eq]
  exact settleG_short keep ws L h
theorem Ref.deadened {w : World} {X : Nat} {U1 U2 UK : Value} {d : Dk} (h : Ref w X U1 U2 UK d) : Ref (w.setCell ⟨X, 3, none⟩ (.bool true)) X U1 U2 UK { d with dead := true } ∧ Only (fun k => k = X) w (w.setCell ⟨X, 3, none⟩ (.bool true)) := by
  have ho : Only (fun k => k = X) w (w.setCell ⟨X, 3, none⟩ (.bool true)) := (Only.refl (fun k => k = X) w).setCell (p := ⟨X, 3, none⟩) rfl _
  exact ⟨⟨h.cells.set (i := 3) (by simp) (.bool true), h.lasts.only ho fun g hg e => h.apart1 g hg e, h.waits.only ho fun g hg e => (h.apart2 g hg).1 e, h.keep.only ho fun g hg e => (h.apartK g hg).1 e, h.apart1, h.apart2, h.apartK, h.ok.1, h.ok.2, h.ok.3⟩, ho⟩

set_option maxRecDepth 20000 in
set_option maxHeartbeats 1000000 in
theorem r_crash {w : World} {X : Nat} {U1 U2 UK v : Value} {d : Dk} {keep : List Bool} (h : Ref w X U1 U2 UK d) (hr : Rd w 1 v keep.length (bo keep)) (hap : bo keep ≠ [] → ∀ g, v.ownBlock = some g → U1.ownBlock ≠ some g) (hn : d.waits.length ≤ 1000000) :
    Calls Try.prog 67 #[.pointer (some ⟨X, 0, none⟩), v] w fun e w' => e = .returned (.tuple #[]) ∧ ∃ G', RefAt w' X G' (d.crashed keep) ∧ Kept (FR X U1 U2 UK) G' w w' := by
  obtain ⟨va, kl, vc, rfl⟩ := hr.shape'
  have hkl : kl = keep.length := by
    obtain ⟨a, c, e⟩ := hr.shape
    injection e
  subst hkl
  obtain ⟨a2, n2, c2, e2⟩ := h.waits.rd.shape'
  subst e2
  have hn2 : n2 = d.waits.length := by
    obtain ⟨a, c, e⟩ := h.waits.rd.shape
    injection e
  subst hn2
  obtain ⟨a1, n1, c1, e1⟩ := h.lasts.rd.shape'
  subst e1
  have hn1 : n1 = d.lasts.length := by
    obtain ⟨a, c, e⟩ := h.lasts.rd.shape
    injection e
  subst hn1
  have H := Lib.hid h
  have HR := Lib.hid hr
  have HA := Lib.hid hap
  have HN := Lib.hid hn
  clear h hr hap hn
  go_enter Try.func67, Try.ntmps67
  go_wp2_with fail
  go_loopw [4] (fun i wr => ∃ j : Nat, j ≤ d.waits.length ∧ i = .int .i64 (j : Int) ∧ Hid (RL w wr X (.slice a1 d.lasts.length c1) (.slice a2 d.waits.length c2) UK d (kept keep) j)) (fun i wr => d.waits.length - (intOf i).toNat)
  case atStart => exact ⟨0, by omega, rfl, Lib.hid ⟨Only.refl _ _, H.out.lasts⟩⟩
  case round =>
    obtain ⟨j, hj, rfl, L⟩ := hrel
    have hX : ¬ (Value.slice a1 d.lasts.length c1).ownBlock = some X := fun e => H.out.apart1 X e rfl
    have k0 := (L.out.only.cell H.out.cells.lt hX 0).trans (H.out.cells.is 0 _ rfl)
    have k1 := (L.out.only.cell H.out.cells.lt hX 1).trans (H.out.cells.is 1 _ rfl)
    by_cases hlt : j < d.waits.length ∧ j < keep.length
    · obtain ⟨hlt, hlt2⟩ := hlt
      have RJ := HR.out.only L.out.only fun hx g hg _ => HA.out hx g hg
      obtain ⟨gk, ok, ck, ek, _, hck⟩ := RJ.at_ (by omega)
      injection ek with ek1 _ ek3
      subst ek1 ek3
      have mk := hck j (.bool keep[j]) (by simp [bo, List.getElem?_eq_getElem hlt2])
      have hkk : kept keep j = keep[j] := by simp [kept, List.getD_eq_getElem?_getD, List.getElem?_eq_getElem hlt2]
      have WJ := H.out.waits.only L.out.only fun g hg e => (H.out.apart2 g hg).2 e
      obtain ⟨g2, o2, c2', e2, _⟩ := WJ.at_ (by omega)
      injection e2 with e21 _ e23
      subst e21 e23
      have he := WJ.elem (fun y _ => rw_length y) hlt
      have m0 := he 0 _ rfl
      have m1 := he 1 _ rfl
      have hat := (H.out.ok.waits d.waits[j] (List.getElem_mem hlt)).1
      obtain ⟨g1, o1, c1', e1, _, _, _, hc1, hf1⟩ := L.out.lasts.at_ (by omega)
      injection e1 with e11 _ e13
      subst e11 e13
      have hsl : (settle (kept keep) 0 (d.waits.take j) d.lasts).length = d.lasts.length := settle_length _ _ _ _
      obtain ⟨u2, m2⟩ : ∃ u, wr.cell? ⟨g1, o1 + d.waits[j].1, none⟩ = some u := ⟨_, hc1 d.waits[j].1 _ (strs_get (by rw [hsl]; exact hat))⟩
      have m3 := (hf1 d.waits[j].1 (by have := L.out.lasts.len; omega)).2
      obtain ⟨kb, hkb⟩ : ∃ kb, kb = keep[j] := ⟨_, rfl⟩
      rw [← hkb] at mk hkk
      obtain ⟨p, hp⟩ : ∃ p, p = d.waits[j] := ⟨_, rfl⟩
      rw [← hp] at m0 m1 hat m2 m3
      obtain ⟨ya, ys⟩ := p
      have HP := Lib.hid hp
      have m0 : wr.cell? ⟨g2, o2 + j * 2, none⟩ = some (.int .i64 (ya : Int)) := m0
      have m1 : wr.cell? ⟨g2, o2 + j * 2 + 1, none⟩ = some (.string (st ys)) := m1
      have j0 : (0 : Int) ≤ (j : Int) := by omega
      have j1 : (j : Int) < (d.waits.length : Int) := by omega
      have jk : (j : Int) < (keep.length : Int) := by omega
      have y0 : (0 : Int) ≤ (ya : Int) := by omega
      have y1 : (ya : Int) < (d.lasts.length : Int) := by have : ya < d.lasts.length := hat; omega
      have HKK := Lib.hid hkk
      clear hp hkb hkk hat hsl he hck RJ WJ hc1 hf1
      cases kb
      · go_wp2_with fail
        go_roundw
        case rel => exact ⟨j + 1, by omega, next_int (by have := HN.out; omega), Lib.hid (L.out.skip hlt HKK.out)⟩
        case measure => exact meas hlt HN.out
      · go_wp2_with fail
        go_still_tail 21, (by kernel_rfl)
        go_wp2_with fail
        go_roundw
        case rel =>
          have q := L.out.next rfl H.out.ok hlt HKK.out
          rw [← HP.out] at q
          exact ⟨j + 1, by omega, next_int (by have := HN.out; omega), Lib.hid q⟩
        case measure => exact meas hlt HN.out
    · have Lz : RL w wr X (.slice a1 d.lasts.length c1) (.slice a2 d.waits.length c2) UK d (kept keep) d.waits.length := by
        refine ⟨L.out.only, ?_⟩
        have := L.out.lasts
        rw [settle_short keep d.waits d.lasts (j := j) (by omega)] at this
        rw [List.take_length]
        exact this
      by_cases hlt3 : j < d.waits.length
      · have j1 : (j : Int) < (d.waits.length : Int) := by omega
        have j2 : ¬ (j : Int) < (keep.length : Int) := by omega
        have HS := Lib.hid (H.out.settled Lz)
        have HD := Lib.hid HS.out.1.deadened
        have thaw : ∀ i, wr.frozen? ⟨X, i, none⟩ = false := fun i => (L.out.only.frozen H.out.cells.lt hX i).trans (H.out.cells.thaw i)
        have k3 := (L.out.only.cell H.out.cells.lt hX 3).trans (H.out.cells.is 3 _ rfl)
        go_wp2_with fail
        go_end0
        exact ⟨rfl, _, HD.out.1.at_, HS.out.2.trans (Kept.only' (HD.out.2.mono fun k _ e => .inl e))⟩
      · have j1 : ¬ (j : Int) < (d.waits.length : Int) := by omega
        have HS := Lib.hid (H.out.settled Lz)
        have HD := Lib.hid HS.out.1.deadened
        have thaw : ∀ i, wr.frozen? ⟨X, i, none⟩ = false := fun i => (L.out.only.frozen H.out.cells.lt hX i).trans (H.out.cells.thaw i)
        have k3 := (L.out.only.cell H.out.cells.lt hX 3).trans (H.out.cells.is 3 _ rfl)
        go_wp2_with fail
        go_end0
        exact ⟨rfl, _, HD.out.1.at_, HS.out.2.trans (Kept.only' (HD.out.2.mono fun k _ e => .inl e))⟩
end Go.Proofs.Yteoeaojebklfjaa
