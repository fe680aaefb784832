/- played (19): its states. -/
import Derived.Test.YtajbagdgjbihjaaR3
namespace Go.Proofs.Ytajbagdgjbihjaa
open Go.RowKit Go.Maps
set_option linter.unusedVariables false

theorem own_is {g n m q : Nat} (h : (Value.slice (some ⟨g, 0, none⟩) n m).ownBlock = some q) : q = g := by
  have e : some g = some q := h
  injection e with e
  exact e.symm
/-- the first loop -/
structure LC (w wr : World) (v0 : Value) (l : List Pl) (n g5 g6 g7 g8 : Nat) (fa fc fd fb : Nat → Int) : Prop where
  only : Only None' w wr
  plan : PLR wr v0 l
  r5 : Vec wr 1 (.slice (some ⟨g5, 0, none⟩) 3 3) 3 (rowF 3 fa)
  r6 : Vec wr 1 (.slice (some ⟨g6, 0, none⟩) n n) n (rowF n fc)
  r7 : Vec wr 1 (.slice (some ⟨g7, 0, none⟩) n n) n (rowF n fd)
  r8 : Vec wr 1 (.slice (some ⟨g8, 0, none⟩) n n) n (rowF n fb)
  new : (∀ g, v0.ownBlock = some g → g < w.heap.size) ∧ w.heap.size ≤ g5 ∧ g5 < g6 ∧ g6 < g7 ∧ g7 < g8
section
variable {w wr w1 : World} {v0 : Value} {l : List Pl} {n g5 g6 g7 g8 : Nat} {fa fc fd fb : Nat → Int}
theorem LC.new_ (h : LC w wr v0 l n g5 g6 g7 g8 fa fc fd fb) (o : Only None' wr w1) : LC w w1 v0 l n g5 g6 g7 g8 fa fc fd fb :=
  ⟨h.only.trans o, h.plan.only o fun _ _ e => e, h.r5.only o fun _ _ e => e, h.r6.only o fun _ _ e => e, h.r7.only o fun _ _ e => e, h.r8.only o fun _ _ e => e, h.new⟩
theorem LC.set5 (h : LC w wr v0 l n g5 g6 g7 g8 fa fc fd fb) {i : Nat} (hi : i < 3) (x : Int) : LC w (wr.setCell ⟨g5, 0 + i, none⟩ (.int .i64 x)) v0 l n g5 g6 g7 g8 (upd fa i x) fc fd fb := by
  obtain ⟨h0, h1, h2, h3, h4⟩ := h.new
  have o : Only (fun q => q = g5) wr (wr.setCell ⟨g5, 0 + i, none⟩ (.int .i64 x)) := (Only.refl (fun q => q = g5) wr).setCell (p := ⟨g5, 0 + i, none⟩) rfl _
  refine ⟨h.only.fresh h1 o, h.plan.only o fun q hq e => ?_, h.r5.numSet hi x, h.r6.only o fun q hq e => ?_, h.r7.only o fun q hq e => ?_, h.r8.only o fun q hq e => ?_, h.new⟩
  · have := h0 q hq; omega
  all_goals
    have := own_is hq
    omega
theorem LC.set6 (h : LC w wr v0 l n g5 g6 g7 g8 fa fc fd fb) {i : Nat} (hi : i < n) (x : Int) : LC w (wr.setCell ⟨g6, 0 + i, none⟩ (.int .i64 x)) v0 l n g5 g6 g7 g8 fa (upd fc i x) fd fb := by
  obtain ⟨h0, h1, h2, h3, h4⟩ := h.new
  have o : Only (fun q => q = g6) wr (wr.setCell ⟨g6, 0 + i, none⟩ (.int .i64 x)) := (Only.refl (fun q => q = g6) wr).setCell (p := ⟨g6, 0 + i, none⟩) rfl _
  refine ⟨h.only.fresh (by omega) o, h.plan.only o fun q hq e => ?_, h.r5.only o fun q hq e => ?_, h.r6.numSet hi x, h.r7.only o fun q hq e => ?_, h.r8.only o fun q hq e => ?_, h.new⟩
  · have := h0 q hq; omega
  all_goals
    have := own_is hq
    omega
theorem LC.set7 (h : LC w wr v0 l n g5 g6 g7 g8 fa fc fd fb) {i : Nat} (hi : i < n) (x : Int) : LC w (wr.setCell ⟨g7, 0 + i, none⟩ (.int .i64 x)) v0 l n g5 g6 g7 g8 fa fc (upd fd i x) fb := by
  obtain ⟨h0, h1, h2, h3, h4⟩ := h.new
  have o : Only (fun q => q = g7) wr (wr.setCell ⟨g7, 0 + i, none⟩ (.int .i64 x)) := (Only.refl (fun q => q = g7) wr).setCell (p := ⟨g7, 0 + i, none⟩) rfl _
  refine ⟨h.only.fresh (by omega) o, h.plan.only o fun q hq e => ?_, h.r5.only o fun q hq e => ?_, h.r6.only o fun q hq e => ?_, h.r7.numSet hi x, h.r8.only o fun q hq e => ?_, h.new⟩
  · have := h0 q hq; omega
  all_goals
    have := own_is hq
    omega
theorem LC.set8 (h : LC w wr v0 l n g5 g6 g7 g8 fa fc fd fb) {i : Nat} (hi : i < n) (x : Int) : LC w (wr.setCell ⟨g8, 0 + i, none⟩ (.int .i64 x)) v0 l n g5 g6 g7 g8 fa fc fd (upd fb i x) := by
  obtain ⟨h0, h1, h2, h3, h4⟩ := h.new
  have o : Only (fun q => q = g8) wr (wr.setCell ⟨g8, 0 + i, none⟩ (.int .i64 x)) := (Only.refl (fun q => q = g8) wr).setCell (p := ⟨g8, 0 + i, none⟩) rfl _
  refine ⟨h.only.fresh (by omega) o, h.plan.only o fun q hq e => ?_, h.r5.only o fun q hq e => ?_, h.r6.only o fun q hq e => ?_, h.r7.only o fun q hq e => ?_, h.r8.numSet hi x, h.new⟩
  · have := h0 q hq; omega
  all_goals
    have := own_is hq
    omega
end
/-- till i the moments are those of the plan -/
structure MT (l : List Pl) (i : Nat) (fa fc fd fb : Nat → Int) : Prop where
  at_ : ∀ c, c < 3 → fa c = (atOf (l.take i) c : Int)
  done : ∀ (k : Nat) (q : Pn), k < i → (pns l)[k]? = some q → fc k = (q.call : Int) ∧ fd k = (q.do_ : Int) ∧ fb k = if q.told && q.done then (q.back : Int) else -1
theorem MT.zero (l : List Pl) : MT l 0 (fun _ => 0) (fun _ => 0) (fun _ => 0) fun _ => 0 := ⟨fun c _ => rfl, fun k q h => by omega⟩
theorem MT.next {l : List Pl} {i : Nat} {fa fc fd fb : Nat → Int} {p : Pl} (h : MT l i fa fc fd fb) (hp : l[i]? = some p) {q : Pn} (hq : q = p.pn (atOf (l.take i) p.who)) : MT l (i + 1) (upd fa p.who ((q.back + 1 : Nat) : Int)) (upd fc i (q.call : Int)) (upd fd i (q.do_ : Int)) (upd fb i (if q.told && q.done then (q.back : Int) else -1)) := by
  refine ⟨fun c hc => ?_, fun k x hk hx => ?_⟩
  · rw [atOf_next hp]
    unfold upd stepAt
    by_cases e : c = p.who
    · subst e
      rw [if_pos rfl, if_pos rfl, hq]
    · rw [if_neg e, if_neg e]
      exact h.at_ c hc
  · unfold upd
    by_cases e : k = i
    · subst e
      rw [pns_at hp, ← hq] at hx
      injection hx with hx
      subst hx
      rw [if_pos rfl, if_pos rfl, if_pos rfl]
      exact ⟨rfl, rfl, rfl⟩
    · rw [if_neg e, if_neg e, if_neg e]
      exact h.done k x (by omega) hx
theorem upd_twice (f : Nat → Int) (i : Nat) (x y : Int) : upd (upd f i x) i y = upd f i y := by
  funext k
  unfold upd
  split <;> rfl
theorem upd_here (f : Nat → Int) (i : Nat) (x : Int) : upd f i x i = x := by unfold upd; rw [if_pos rfl]
theorem make74 (n : Nat) (w : World) (hn : n ≤ 1000) : ∃ w', (Instr.makeSlice 74 (.int .i64 (n : Int)) (.int .i64 (n : Int))).run Try.prog w = .ok (.slice (some ⟨w.heap.size, 0, none⟩) n n) w' ∧ Vec w' 3 (.slice (some ⟨w.heap.size, 0, none⟩) n n) n ((List.replicate n Rs.zero).flatMap Rs.row) ∧ Only None' w w' ∧ w.heap.size < w'.heap.size := by
  have hb := t29_bytes
  obtain ⟨w', hrun, r1, r2⟩ := run_make_full (P := Try.prog) w w.heap.size 74 29 Try.t29 Rs.zero.v 3 under74 info29 t29_zero t29_size .i64 .i64 n (by have : Try.t29.bytes * n ≤ 100 * 1000 := Nat.mul_le_mul hb hn; omega) (by unfold maxLen; omega) (Nat.le_refl _)
  have hv := Vec.of_owns r1
  have e : (madeCells Rs.zero.v.cells (n * 3)).toList = (List.replicate n Rs.zero).flatMap Rs.row := by
    refine List.ext_getElem? fun j => ?_
    by_cases hj : j < n * 3
    · have hr : Rs.zero.row[j % 3]? = some (Rs.zero.row[j % 3]'(by show _ < 3; omega)) := List.getElem?_eq_getElem _
      have h1 := flat_at Rs.row 3 (List.replicate n Rs.zero) (j / 3) (fun _ _ => rfl) (by simp; omega) (j % 3) _ (by rw [List.getElem_replicate]; exact hr)
      rw [show j / 3 * 3 + j % 3 = j by omega] at h1
      rw [h1, Array.getElem?_toList]
      unfold madeCells
      rw [Array.getElem?_map, Array.getElem?_range, if_pos hj]
      have h3 : j % 3 = 0 ∨ j % 3 = 1 ∨ j % 3 = 2 := by omega
      show some (Rs.zero.v.cells[j % 3]!) = _
      rw [← hr]
      rcases h3 with e | e | e <;> rw [e] <;> rfl
    · rw [List.getElem?_eq_none (by simp [madeCells]; omega), List.getElem?_eq_none (by rw [flat_length Rs.row 3 _ fun _ _ => rfl]; simp; omega)]
  rw [e] at hv
  refine ⟨w', hrun, hv, (Only.refl None' w).grown r2 (by simp), ?_⟩
  rcases hv.form with ⟨e, _⟩ | ⟨g, off, cap, e, _, _, hl, _⟩
  · cases e
  · cases e
    exact hl
/-- the second loop -/
structure LP (w wr : World) (v0 : Value) (l : List Pl) (n g6 g7 g8 gr : Nat) (fc fd fb : Nat → Int) (hv mv : Value) (h : List Ev) (m : List Pr) (rs : Nat → Rs) : Prop where
  only : Only None' w wr
  plan : PLR wr v0 l
  r6 : Vec wr 1 (.slice (some ⟨g6, 0, none⟩) n n) n (rowF n fc)
  r7 : Vec wr 1 (.slice (some ⟨g7, 0, none⟩) n n) n (rowF n fd)
  r8 : Vec wr 1 (.slice (some ⟨g8, 0, none⟩) n n) n (rowF n fb)
  rr : Vec wr 3 (.slice (some ⟨gr, 0, none⟩) n n) n (((List.range n).map rs).flatMap Rs.row)
  hrow : Vec wr 12 hv h.length (h.flatMap Ev.row)
  mrow : PRow wr mv m
  new : (∀ g, v0.ownBlock = some g → g < w.heap.size) ∧ w.heap.size ≤ g6 ∧ g6 < g7 ∧ g7 < g8 ∧ g8 < gr
  hown : ∀ g, hv.ownBlock = some g → gr < g
  mown : ∀ g, mv.ownBlock = some g → gr < g ∧ hv.ownBlock ≠ some g
section
variable {w wr w1 w2 : World} {v0 hv mv hv' mv' : Value} {l : List Pl} {n g6 g7 g8 gr : Nat} {fc fd fb : Nat → Int} {h h2 : List Ev} {m m2 : List Pr} {rs : Nat → Rs}
theorem LP.new_ (L : LP w wr v0 l n g6 g7 g8 gr fc fd fb hv mv h m rs) (o : Only None' wr w1) : LP w w1 v0 l n g6 g7 g8 gr fc fd fb hv mv h m rs :=
  ⟨L.only.trans o, L.plan.only o fun _ _ e => e, L.r6.only o fun _ _ e => e, L.r7.only o fun _ _ e => e, L.r8.only o fun _ _ e => e, L.rr.only o fun _ _ e => e, L.hrow.only o fun _ _ e => e, L.mrow.new_ o, L.new, L.hown, L.mown⟩
/-- the history grows -/
theorem LP.app (L : LP w wr v0 l n g6 g7 g8 gr fc fd fb hv mv h m rs) (h3 : Vec w1 12 hv' (h ++ h2).length ((h ++ h2).flatMap Ev.row)) (hg : wr.grownBy w1 hv.ownBlock) (hf : ∀ k, hv'.ownBlock = some k → hv.ownBlock = some k ∨ wr.heap.size ≤ k) : LP w w1 v0 l n g6 g7 g8 gr fc fd fb hv' mv (h ++ h2) m rs := by
  obtain ⟨h0, h1, hb, hc, hd⟩ := L.new
  have o : Only (fun q => hv.ownBlock = some q) wr w1 := (Only.refl _ wr).grown hg fun k hk => hk
  have hgr : gr < wr.heap.size ∨ n = 0 := by
    by_cases e : n = 0
    · exact .inr e
    · exact .inl (L.rr.lt rfl)
  have hgr' : gr < wr.heap.size := L.rr.lt rfl
  have ne : ∀ g, g ≤ gr → ¬ hv.ownBlock = some g := fun g hg e => by have := L.hown g e; omega
  refine ⟨L.only.trans2 o fun q hq e => absurd hq (by have := L.hown q e; omega), L.plan.only o fun q hq e => ?_, L.r6.only o fun q hq => ?_, L.r7.only o fun q hq => ?_, L.r8.only o fun q hq => ?_, L.rr.only o fun q hq => ?_, h3, L.mrow.only o fun q hq e => (L.mown q hq).2 e, L.new, fun g hg' => ?_, fun g hg' => ?_⟩
  · have := h0 q hq; have := L.hown q e; omega
  · exact ne q (by have := own_is hq; omega)
  · exact ne q (by have := own_is hq; omega)
  · exact ne q (by have := own_is hq; omega)
  · exact ne q (by have := own_is hq; omega)
  · rcases hf g hg' with e | e
    · exact L.hown g e
    · omega
  · refine ⟨(L.mown g hg').1, fun e => ?_⟩
    rcases hf g e with e | e
    · exact (L.mown g hg').2 e
    · have := L.mrow.row.lt hg'; omega
/-- the map is another -/
theorem LP.map (L : LP w wr v0 l n g6 g7 g8 gr fc fd fb hv mv h m rs) (o : Only None' wr w1) (hm : PRow w1 mv' m2) (hf : ∀ g, mv'.ownBlock = some g → wr.heap.size ≤ g) : LP w w1 v0 l n g6 g7 g8 gr fc fd fb hv mv' h m2 rs := by
  have hgr' : gr < wr.heap.size := L.rr.lt rfl
  have L' := L.new_ o
  refine ⟨L'.only, L'.plan, L'.r6, L'.r7, L'.r8, L'.rr, L'.hrow, hm, L.new, L.hown, fun g hg => ?_⟩
  have := hf g hg
  exact ⟨by omega, fun e => by have := L.hrow.lt e; omega⟩
/-- one does not come back -/
theorem LP.never (L : LP w wr v0 l n g6 g7 g8 gr fc fd fb hv mv h m rs) {i : Nat} (hi : i < n) (x : Int) : LP w (wr.setCell ⟨g8, 0 + i, none⟩ (.int .i64 x)) v0 l n g6 g7 g8 gr fc fd (upd fb i x) hv mv h m rs := by
  obtain ⟨h0, h1, hb, hc, hd⟩ := L.new
  have o : Only (fun q => q = g8) wr (wr.setCell ⟨g8, 0 + i, none⟩ (.int .i64 x)) := (Only.refl (fun q => q = g8) wr).setCell (p := ⟨g8, 0 + i, none⟩) rfl _
  refine ⟨L.only.fresh (by omega) o, L.plan.only o fun q hq e => ?_, L.r6.only o fun q hq e => ?_, L.r7.only o fun q hq e => ?_, L.r8.numSet hi x, L.rr.only o fun q hq e => ?_, L.hrow.only o fun q hq e => ?_, L.mrow.only o fun q hq e => ?_, L.new, L.hown, L.mown⟩
  · have := h0 q hq; omega
  · have := own_is hq; omega
  · have := own_is hq; omega
  · have := own_is hq; omega
  · have := L.hown q hq; omega
  · have := (L.mown q hq).1; omega
/-- a result is noted -/
theorem LP.note (L : LP w wr v0 l n g6 g7 g8 gr fc fd fb hv mv h m rs) {i : Nat} (hi : i < n) (r : Rs) : LP w (wr.setCells gr (0 + i * 3) r.row) v0 l n g6 g7 g8 gr fc fd fb hv mv h m (fun k => if k = i then r else rs k) := by
  obtain ⟨h0, h1, hb, hc, hd⟩ := L.new
  have o : Only (fun q => q = gr) wr (wr.setCells gr (0 + i * 3) r.row) := (Only.refl (fun q => q = gr) wr).setCells rfl _ _
  have hput := L.rr.put (o := i * 3) (vs := r.row) (by show i * 3 + 3 ≤ _; omega)
  have hs := flat_set Rs.row 3 ((List.range n).map rs) i r (fun _ _ => rfl) rfl (by simpa using hi)
  have e : ((List.range n).map rs).set i r = (List.range n).map fun k => if k = i then r else rs k := by
    refine List.ext_getElem? fun k => ?_
    by_cases hk : k < n
    · rw [List.getElem?_map, List.getElem?_range hk]
      by_cases hki : i = k
      · subst hki
        rw [List.getElem?_set_self (by simpa using hk)]
        simp
      · rw [List.getElem?_set_ne hki, List.getElem?_map, List.getElem?_range hk]
        simp only [Option.map_some]
        rw [if_neg fun e => hki e.symm]
    · rw [List.getElem?_eq_none (by simpa using hk), List.getElem?_eq_none (by simpa using hk)]
  refine ⟨L.only.fresh (by omega) o, L.plan.only o fun q hq e => ?_, L.r6.only o fun q hq e => ?_, L.r7.only o fun q hq e => ?_, L.r8.only o fun q hq e => ?_, ?_, L.hrow.only o fun q hq e => ?_, L.mrow.only o fun q hq e => ?_, L.new, L.hown, L.mown⟩
  · have := h0 q hq; omega
  · have := own_is hq; omega
  · have := own_is hq; omega
  · have := own_is hq; omega
  · rw [hs, e] at hput
    exact hput
  · have := L.hown q hq; omega
  · have := (L.mown q hq).1; omega
end
end Go.Proofs.Ytajbagdgjbihjaa
