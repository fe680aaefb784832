/- CallMarks: the map of what is known; the state. -/
import Derived.Test.YtehoiapadnbklaaT2
import Derived.Test.YtehoiapadnbklaaMR
namespace Go.Proofs.Ytehoiapadnbklaa
open Go.RowKit Go.Maps
set_option linter.unusedVariables false

structure Kw where
  s : ByteArray
  m : Bool
def kwV (p : Kw) : Value := .agg #[.string p.s, .bool p.m]
def kwD (p : Kw) : DataW Unit := .agg [str p.s, .lit (.bool p.m)]
def kwR (v : Value) : Option (DataW Unit × List MemPlace) :=
  match v with
  | .agg xs => match xs.toList with
    | [.string s, .bool m] => some (kwD ⟨s, m⟩, [])
    | _ => none
  | _ => none
theorem kwR_v (p : Kw) : kwR (kwV p) = some (kwD p, []) := rfl
theorem kwD_inj {p q : Kw} (h : kwD p = kwD q) : p = q := by
  unfold kwD at h
  injection h with h
  simp only [List.cons.injEq, and_true] at h
  obtain ⟨h1, h2⟩ := h
  injection h2 with h2
  injection h2 with h2
  cases p
  cases q
  simp only [Kw.mk.injEq]
  exact ⟨str_inj h1, h2⟩
theorem kwR_shape {v : Value} {y : DataW Unit × List MemPlace} (h : kwR v = some y) : ∃ p, v = kwV p ∧ y = (kwD p, []) := by
  unfold kwR at h
  split at h
  · rename_i xs
    split at h
    · rename_i s m e
      injection h with h
      refine ⟨⟨s, m⟩, ?_, h.symm⟩
      unfold kwV
      congr 1
      apply Array.toList_inj.1
      rw [e]
    · cases h
  · cases h
theorem kwR_inv {v : Value} {p : Kw} {ps : List MemPlace} (h : kwR v = some (kwD p, ps)) : v = kwV p := by
  obtain ⟨q, rfl, e⟩ := kwR_shape h
  injection e with e _
  rw [kwD_inj e]
theorem under56 : Try.prog.underlying 56 = some (.map 3 58) := by kernel_rfl
def kwZ : Kw := ⟨⟨#[]⟩, false⟩
theorem zero58 (w : World) : (zeroValue 58).run Try.prog w = .ok (kwV kwZ) w := by kernel_rfl

/-- what a map of such reads as -/
structure Reads (D : DataW Unit) (f : Int → Option Kw) : Prop where
  has : ∀ k, Maps.has D (.int .i64 k) = (f k).isSome
  at_ : ∀ k z, D.atKey (.int .i64 k) z = match f k with
    | some p => kwD p
    | none => z
def updO (f : Int → Option Kw) (k : Int) (v : Option Kw) : Int → Option Kw := fun j => if j = k then v else f j
section
variable {D : DataW Unit} {f : Int → Option Kw} {k : Int} {p : Kw}
theorem Reads.put (h : Reads D f) (hD : IsMap D) : Reads (D.put (.int .i64 k) (kwD p)) (updO f k (some p)) := by
  refine ⟨fun j => ?_, fun j z => ?_⟩ <;> unfold updO <;> by_cases e : j = k
  · subst e
    rw [has_put_same hD (by trivial), if_pos rfl]; rfl
  · rw [has_put_other (fun e' => e (by injection e')), if_neg e, h.has]
  · subst e
    rw [atKey_put_same hD (by trivial), if_pos rfl]
  · rw [atKey_put_other (fun e' => e (by injection e')), if_neg e, h.at_]
theorem Reads.del (h : Reads D f) : Reads (D.del (.int .i64 k)) (updO f k none) := by
  refine ⟨fun j => ?_, fun j z => ?_⟩ <;> unfold updO <;> by_cases e : j = k
  · subst e
    rw [has_del_same, if_pos rfl]; rfl
  · rw [has_del_other (fun e' => e (by injection e')), if_neg e, h.has]
  · subst e
    rw [atKey_del_same, if_pos rfl]
  · rw [atKey_del_other (fun e' => e (by injection e')), if_neg e, h.at_]
theorem Reads.empty : Reads (.map []) (fun _ => none) := ⟨fun _ => rfl, fun _ _ => rfl⟩
end
structure KMap (w : World) (b n : Nat) (f : Int → Option Kw) : Prop where
  own : ∃ D : DataW Unit, w.ownsMap Try.prog 3 kwR b n D ∧ Reads D f
section
variable {w w' : World} {b n : Nat} {f : Int → Option Kw} {S : Nat → Prop}
theorem KMap.lt (h : KMap w b n f) : b < w.heap.size := by obtain ⟨D, h1, _⟩ := h.own; exact h1.lt
theorem KMap.only (h : KMap w b n f) (o : Only S w w') (hn : ¬ S b) : KMap w' b n f := by
  obtain ⟨D, h1, h2⟩ := h.own
  exact ⟨D, owns_same h1 (o.block b h1.lt hn), h2⟩
theorem KMap.look (h : KMap w b n f) {k : Int} (hk : (Lit.int .i64 k).wf = true) : (Instr.lookup 56 (.map (some b)) (.int .i64 k) false).run Try.prog w = .ok (kwV ((f k).getD kwZ)) w := by
  obtain ⟨D, h1, h2⟩ := h.own
  obtain ⟨v, ps, hr, hv⟩ := h1.lookup keyed3 under56 (zero58 w) (kwR_v kwZ) (keyOf_int_mk Try.underlying3 hk)
  rw [hr]
  rw [h2.at_] at hv
  cases e : f k with
  | none => rw [e] at hv; rw [kwR_inv hv]; rfl
  | some p => rw [e] at hv; rw [kwR_inv hv]; rfl
end
/-- at a round's head -/
structure MSt (w wr : World) (B M b n i : Nat) (c : Cl) (f : Int → Option Kw) : Prop where
  only : Only None' w wr
  c_ : CallAt wr B M c
  k_ : KMap wr b n f
  apart : B ≠ b ∧ M ≠ b
  new : w.heap.size ≤ B ∧ w.heap.size ≤ M ∧ w.heap.size ≤ b
  ok : ∀ x ∈ c.ws, f x.req = some ⟨x.key, x.marked⟩
  few : n ≤ i
section
variable {w wr w1 w2 : World} {B M b n i j : Nat} {c c' : Cl} {f f' : Int → Option Kw} {S : Nat → Prop}
theorem MSt.new_ (h : MSt w wr B M b n i c f) (o : Only None' wr w1) : MSt w w1 B M b n i c f :=
  ⟨h.only.trans o, h.c_.new o, h.k_.only o fun e => e, h.apart, h.new, h.ok, h.few⟩
theorem MSt.later (h : MSt w wr B M b n i c f) (hj : i ≤ j) : MSt w wr B M b n j c f := ⟨h.only, h.c_, h.k_, h.apart, h.new, h.ok, by have := h.few; omega⟩
/-- the calls turn -/
theorem MSt.calls (h : MSt w wr B M b n i c f) (o : Only (fun k => k = B ∨ k = M) wr w1) (hc : CallAt w1 B M c') (hok : ∀ x ∈ c'.ws, f x.req = some ⟨x.key, x.marked⟩) : MSt w w1 B M b n i c' f := by
  have h1 := h.new
  have h2 := h.apart
  exact ⟨h.only.trans2 o fun k hk e => by omega, hc, h.k_.only o (by omega), h.apart, h.new, hok, h.few⟩
/-- asked: n is known -/
theorem MSt.asked (h : MSt w wr B M b n i c f) {key : ByteArray} {client id now : Int} (o : Only (fun k => k = B ∨ k = M) wr w1) (hc : CallAt w1 B M (c.asked key client id now)) (hk : KMap w2 b (n + 1) (updO f ((c.life * 1048576 + c.given + 1 : Nat) : Int) (some ⟨key, false⟩))) (o2 : Only (fun k => k = b) w1 w2) :
    MSt w w2 B M b (n + 1) (i + 1) (c.asked key client id now) (updO f ((c.life * 1048576 + c.given + 1 : Nat) : Int) (some ⟨key, false⟩)) := by
  have h1 := h.new
  have h2 := h.apart
  refine ⟨(h.only.trans2 o fun k hk e => by omega).trans2 o2 fun k hk e => by omega, hc.only o2 (by omega) (by omega), hk, h.apart, h.new, fun x hx => ?_, by have := h.few; omega⟩
  unfold updO
  rcases List.mem_append.1 hx with hx | hx
  · have := (h.c_.ok.num x hx).2
    unfold Cl.top at this
    rw [if_neg (by omega)]
    exact h.ok x hx
  · simp at hx
    subst hx
    simp
def upk (key : ByteArray) (p : Kw) : Kw := ⟨p.s, p.m || decide (p.s = key)⟩
theorem MSt.marked (h : MSt w wr B M b n i c f) {key : ByteArray} (hc : CallAt w1 B M (c.mark key)) (o1 : Only (fun k => k = M) wr w1) (o2 : Only (fun k => k = b) w1 w2) (hk : KMap w2 b n (fun k => (f k).map (upk key))) : MSt w w2 B M b n (i + 1) (c.mark key) (fun k => (f k).map (upk key)) := by
  have h1 := h.new
  have h2 := h.apart
  refine ⟨(h.only.trans2 o1 fun k hk e => by omega).trans2 o2 fun k hk e => by omega, hc.only o2 (by omega) (by omega), hk, h.apart, h.new, fun x hx => ?_, by have := h.few; omega⟩
  obtain ⟨y, hy, rfl⟩ := List.mem_map.1 hx
  have hf := h.ok y hy
  by_cases e : y.key = key
  · rw [if_pos (by simpa using e)]
    show (f y.req).map (upk key) = some ⟨y.key, true⟩
    rw [hf]
    simp [upk, e]
  · rw [if_neg (by simpa using e)]
    rw [hf]
    simp [upk, e]
theorem MSt.due (h : MSt w wr B M b n i c f) {now every : Int} (hc : CallAt w1 B M (c.due now every)) (o1 : Only (fun k => k = M) wr w1) : MSt w w1 B M b n i (c.due now every) f :=
  h.calls (o1.mono fun _ _ e => Or.inr e) hc fun x hx => by
    obtain ⟨y, hy, rfl⟩ := List.mem_map.1 hx
    have hf := h.ok y hy
    split
    · exact hf
    · exact hf
theorem MSt.told (h : MSt w wr B M b n i c f) {m : Int} (o : Only (fun k => k = B ∨ k = M) wr w1) (hc : CallAt w1 B M (c.told m)) {w3 : World} (o2 : Only None' w1 w2) (hk : KMap w3 b n (updO f m none)) (o3 : Only (fun k => k = b) w2 w3) : MSt w w3 B M b n (i + 1) (c.told m) (updO f m none) := by
  have h1 := h.new
  have h2 := h.apart
  refine ⟨((h.only.trans2 o fun k hk e => by omega).trans o2).trans2 o3 fun k hk e => by omega, (hc.new o2).only o3 (by omega) (by omega), hk, h.apart, h.new, fun x hx => ?_, by have := h.few; omega⟩
  obtain ⟨h3, h4⟩ := List.mem_filter.1 hx
  unfold updO
  rw [if_neg (by simpa using h4)]
  exact h.ok x h3
end
end Go.Proofs.Ytehoiapadnbklaa
