/- Of (21): what is open; the state of its loop. -/
import Derived.Test.YtajbagdgjbihjaaE5
import Derived.Test.YtajbagdgjbihjaaE6
import Derived.ChangeKeys
namespace Go.Proofs.Ytajbagdgjbihjaa
open Go.RowKit Go.Maps Go.Sort
set_option linter.unusedVariables false

theorem rd_new (w : World) (vs : List Value) (t : TypeId) (n size : Nat) (h : vs.length = n * size) (hn : n ≤ maxLen) : Rd (w.alloc (.cells vs.toArray t)) size (.slice (some ⟨w.heap.size, 0, none⟩) n n) n vs := by
  refine ⟨h, .inr ⟨⟨w.heap.size, 0, none⟩, n, rfl, Nat.le_refl _, hn, fun j u hu => ?_⟩⟩
  rw [add_mid' (⟨w.heap.size, 0, none⟩) j rfl, Nat.zero_add]
  exact (cells_new w vs t).is j u hu
theorem under34 : Try.prog.underlying 34 = some (.slice 31) := by kernel_rfl
def Ev.zero : Ev := ⟨0, 0, 0, false, 0, ⟨#[]⟩, ⟨#[]⟩, ⟨#[]⟩, false, 0, false, ⟨#[]⟩⟩
theorem t31_zero : (Try.t31.zero.map fun z => z.cells.size) = some 12 := by kernel_rfl
theorem t31_bytes : Try.t31.bytes ≤ 200 := by decide
theorem zero31 : ∃ z, Try.t31.zero = some z ∧ z.cells.size = 12 := by
  have h := t31_zero
  cases e : Try.t31.zero with
  | none => rw [e] at h; cases h
  | some z => rw [e] at h; exact ⟨z, rfl, by simpa using h⟩
def Wf (a : Int) : Prop := (Lit.int .i64 a).wf = true
def wk (p : Int × Int) : Lit := .string (keyBytes [.int .i64 p.1, .int .i64 p.2])
def Ev.who (e : Ev) : Int × Int := (e.client, e.id)
theorem wk_inj {p q : Int × Int} (h1 : Wf p.1) (h2 : Wf p.2) (h3 : Wf q.1) (h4 : Wf q.2) (e : wk p = wk q) : p = q := by
  unfold wk at e
  injection e with e
  have := keyBytes_inj (l := [.int .i64 p.1, .int .i64 p.2]) (l' := [.int .i64 q.1, .int .i64 q.2]) ⟨rfl, rfl, trivial⟩ (fun a ha => by
    simp only [List.mem_cons, List.not_mem_nil, or_false] at ha
    rcases ha with rfl | rfl
    · exact h1
    · exact h2) (fun a ha => by
    simp only [List.mem_cons, List.not_mem_nil, or_false] at ha
    rcases ha with rfl | rfl
    · exact h3
    · exact h4) e
  simp only [List.cons.injEq, and_true, Lit.int.injEq, true_and] at this
  exact Prod.ext this.1 this.2
/-- who is open reads 1 -/
def One (o : Bool) : Int := if o then 1 else 0
def Ev.hit (key : ByteArray) (e : Ev) : Bool := e.key.toList == key.toList
def ofl (key : ByteArray) (l : List Ev) : List Ev := picked Ev.who Ev.back (Ev.hit key) [] l
def opn (key : ByteArray) (l : List Ev) (p : Int × Int) : Bool := openB Ev.who Ev.back (Ev.hit key) l p
structure OSt (w wr : World) (b nn : Nat) (key : ByteArray) (l : List Ev) (j : Nat) (D : DataW Unit) (v : Value) : Prop where
  only : Only None' w wr
  own : wr.ownsMap Try.prog 63 (plainElem Try.prog 3) b nn D
  at_ : ∀ p : Int × Int, Wf p.1 → Wf p.2 → D.atKey (wk p) (.lit (.int .i64 0)) = .lit (.int .i64 (One (opn key (l.take j) p)))
  few : nn ≤ j
  new : w.heap.size ≤ b
  row : Vec wr 12 v (ofl key (l.take j)).length ((ofl key (l.take j)).flatMap Ev.row)
  fresh : ∀ g, v.ownBlock = some g → w.heap.size ≤ g ∧ g ≠ b
section
variable {w wr w1 : World} {b nn j : Nat} {key : ByteArray} {l : List Ev} {D : DataW Unit} {v : Value} {e : Ev}
theorem OSt.new_ (h : OSt w wr b nn key l j D v) (o : Only None' wr w1) : OSt w w1 b nn key l j D v :=
  ⟨h.only.trans o, owns_same h.own (o.block b h.own.lt fun e => e), h.at_, h.few, h.new, h.row.only o fun _ _ e => e, h.fresh⟩
theorem opn_succ (he : l[j]? = some e) (p : Int × Int) : opn key (l.take (j + 1)) p = if e.who = p then (if e.back then false else if e.hit key then true else opn key (l.take j) p) else opn key (l.take j) p := openB_succ _ _ _ he p
theorem ofl_succ (he : l[j]? = some e) : ofl key (l.take (j + 1)) = ofl key (l.take j) ++ if (if e.back then opn key (l.take j) e.who else e.hit key) then [e] else [] := picked_succ _ _ _ he
theorem ofl_len : ∀ j, j ≤ l.length → (ofl key (l.take j)).length ≤ j
  | 0, _ => by simp [ofl, picked]
  | j + 1, hj => by
    have ih := ofl_len j (by omega)
    rw [ofl_succ (List.getElem?_eq_getElem (by omega)), List.length_append]
    have : ∀ (c : Bool) (x : Ev), (if c = true then [x] else []).length ≤ 1 := fun c x => by cases c <;> simp
    have := this (if l[j].back then opn key (l.take j) l[j].who else l[j].hit key) l[j]
    omega
theorem ofl_more {m : Nat} (he : l[j]? = some e) (hs : (if e.back then opn key (l.take j) e.who else e.hit key) = true) (hm : m = (ofl key (l.take j)).length) : m + 1 = (ofl key (l.take (j + 1))).length := by
  rw [ofl_succ he, hs, hm]; simp
theorem ofl_less {m : Nat} (he : l[j]? = some e) (hs : (if e.back then opn key (l.take j) e.who else e.hit key) = false) (hm : m = (ofl key (l.take j)).length) : m = (ofl key (l.take (j + 1))).length := by
  rw [ofl_succ he, hs, hm]; simp
/-- nothing is picked, nothing opened -/
theorem OSt.skip (h : OSt w wr b nn key l j D v) (he : l[j]? = some e) (hs : (if e.back then opn key (l.take j) e.who else e.hit key) = false) : OSt w wr b nn key l (j + 1) D v := by
  have ho : ofl key (l.take (j + 1)) = ofl key (l.take j) := by rw [ofl_succ he, hs]; simp
  refine ⟨h.only, h.own, fun p h1 h2 => ?_, by have := h.few; omega, h.new, by rw [ho]; exact h.row, h.fresh⟩
  rw [h.at_ p h1 h2, opn_succ he]
  cases hb : e.back
  · rw [hb] at hs
    have hh : e.hit key = false := hs
    rw [hh]
    simp
  · rw [hb] at hs
    have hh : opn key (l.take j) e.who = false := hs
    by_cases ew : e.who = p
    · subst ew
      rw [hh, if_pos rfl]
      rfl
    · rw [if_neg ew]
/-- the row and the map behind a pick -/
theorem OSt.pick {nn' m : Nat} {D' : DataW Unit} {v' : Value} {wa wb : World} {o : Obj} (h : OSt w wr b nn key l j D v) (he : l[j]? = some e) (hs : (if e.back then opn key (l.take j) e.who else e.hit key) = true) (hm' : m = (ofl key (l.take j)).length)
    (hm : wa.ownsMap Try.prog 63 (plainElem Try.prog 3) b nn' D') (om : Only (fun q => q = b) wr wa) (hn : nn' ≤ j + 1)
    (hat : ∀ p : Int × Int, Wf p.1 → Wf p.2 → D'.atKey (wk p) (.lit (.int .i64 0)) = .lit (.int .i64 (One (opn key (l.take (j + 1)) p))))
    (hv : Vec wb 12 v' (m + 1) ((ofl key (l.take j)).flatMap Ev.row ++ e.row)) (hg : (wa.alloc o).grownBy wb v.ownBlock) (hf : ∀ k, v'.ownBlock = some k → v.ownBlock = some k ∨ (wa.alloc o).heap.size ≤ k) :
    OSt w wb b nn' key l (j + 1) D' v' := by
  subst hm'
  have ho : ofl key (l.take (j + 1)) = ofl key (l.take j) ++ [e] := by rw [ofl_succ he, hs]; simp
  have o1 : Only (fun q => q = b) wr (wa.alloc o) := om.alloc o
  have o2 : Only (fun q => w.heap.size ≤ q) wr wb := (o1.mono fun k _ e => by rw [e]; exact h.new).grown hg fun k hk => (h.fresh k hk).1
  have hbl : b < wr.heap.size := h.own.lt
  have ow : wb.ownsMap Try.prog 63 (plainElem Try.prog 3) b nn' D' := by
    refine owns_same (hm.alloc o) (hg.block b (Nat.lt_of_lt_of_le hbl o1.size) fun e => (h.fresh b e.symm).2 rfl)
  refine ⟨h.only.trans2 o2 fun k hk e => by omega, ow, hat, hn, h.new, ?_, fun g hg' => ?_⟩
  · rw [ho, List.length_append, List.flatMap_append]
    simpa using hv
  · rcases hf g hg' with e1 | e1
    · exact h.fresh g e1
    · have := o1.size
      exact ⟨Nat.le_trans (Nat.le_trans h.only.size o1.size) e1, by omega⟩
end
end Go.Proofs.Ytajbagdgjbihjaa
