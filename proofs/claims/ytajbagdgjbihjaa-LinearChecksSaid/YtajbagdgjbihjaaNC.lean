/- Ops (13): its state. -/
import Derived.Test.YtajbagdgjbihjaaD9
import Derived.Test.YtajbagdgjbihjaaE9
namespace Go.Proofs.Ytajbagdgjbihjaa
open Go.RowKit Go.Maps
set_option linter.unusedVariables false

theorem laid63 : Go.WideMaps.KeyLaw Try.prog 63 := deep_law_laid laid (m := 2) (by omega) (of_decide_eq_true (by kernel_rfl)) (by kernel_rfl) (by kernel_rfl)
theorem keyed3 : Keyed Try.prog 3 := Go.Maps.int_keyed Try.underlying3
theorem under61 : Try.prog.underlying 61 = some (.map 3 3) := by kernel_rfl
theorem under35 : Try.prog.underlying 35 = some (.slice 39) := by kernel_rfl
theorem info39 : Try.prog.info? 39 = some Try.t39 := by kernel_rfl
theorem t39_size : Try.t39.size = 12 := by kernel_rfl
theorem zero3' (w : World) : (zeroValue 3).run Try.prog w = .ok (.int .i64 0) w := by kernel_rfl
def Opn.v0 : Value := .agg #[.int .i64 0, .int .i64 0, .int .i64 0, .int .i64 0, .int .u8 0, .string ⟨#[]⟩, .string ⟨#[]⟩, .string ⟨#[]⟩, .bool false, .int .u8 0, .bool false, .string ⟨#[]⟩]
theorem t39_zero : Try.t39.zero = some Opn.v0 := by kernel_rfl
theorem t39_bytes : Try.t39.bytes = 120 := by kernel_rfl
theorem zero39 : ∃ z, Try.t39.zero = some z ∧ z.cells.size = 12 := ⟨Opn.v0, t39_zero, rfl⟩
theorem t39_few : Try.t39.bytes ≤ 200 := by decide
/-- one operation for each call -/
def seenN (all : List Opn) (p : Int × Int) : Int := if all.any (fun o => decide (o.who = p)) then 1 else 0
structure OpIn (l : List Ev) (w wr : World) (SM OM : Nat) (av : Value) (all : List Opn) (k n1 n2 : Nat) (D1 D2 : DataW Unit) : Prop where
  only : Only None' w wr
  row : Vec wr 12 av all.length (all.flatMap Opn.row)
  av_ : ∀ g, av.ownBlock = some g → w.heap.size ≤ g ∧ g ≠ SM ∧ g ≠ OM
  new : w.heap.size ≤ SM ∧ w.heap.size ≤ OM ∧ SM ≠ OM
  seen : wr.ownsMap Try.prog 63 (plainElem Try.prog 3) SM n1 D1
  open_ : wr.ownsMap Try.prog 3 (plainElem Try.prog 3) OM n2 D2
  n_ : n1 ≤ k ∧ n2 ≤ k
  seenAt : ∀ p : Int × Int, Wf p.1 → Wf p.2 → D1.atKey (wk p) (.lit (.int .i64 0)) = .lit (.int .i64 (seenN all p))
  openAt_ : ∀ c : Int, Wf c → ∀ zd, D2.atKey (.int .i64 c) zd = match openAt all c with | some j => .lit (.int .i64 (j : Int)) | none => zd
  run : opRun [] 0 (l.take k) = some all
  few : all.length ≤ k
section
variable {l : List Ev} {w wr w1 w2 w3 : World} {SM OM k n1 n2 n1' n2' : Nat} {av av' : Value} {all : List Opn} {D1 D2 : DataW Unit} {e : Ev}
theorem OpIn.new_ (h : OpIn l w wr SM OM av all k n1 n2 D1 D2) (o : Only None' wr w1) : OpIn l w w1 SM OM av all k n1 n2 D1 D2 :=
  ⟨h.only.trans o, h.row.only o fun _ _ e => e, h.av_, h.new, owns_same h.seen (o.block SM h.seen.lt fun e => e), owns_same h.open_ (o.block OM h.open_.lt fun e => e), h.n_, h.seenAt, h.openAt_, h.run, h.few⟩
theorem OpIn.sane (h : OpIn l w wr SM OM av all k n1 n2 D1 D2) (hk : k ≤ l.length) : Sane k all := sane_run hk h.run
/-- a call's client and number were seen already: it is not well formed -/
theorem OpIn.twice (h : OpIn l w wr SM OM av all k n1 n2 D1 D2) (he : l[k]? = some e) (hb : e.back = false) (hs : seenN all e.who = 1) : opsOf l = none := by
  unfold seenN at hs
  split at hs
  · next ha =>
    have hstep : opStep all k e = none := by
      unfold opStep
      rw [hb, if_neg (by simp), if_pos]
      obtain ⟨o, ho, h1⟩ := List.any_eq_true.1 ha
      refine List.any_eq_true.2 ⟨o, ho, decide_eq_true ?_⟩
      have := of_decide_eq_true h1
      unfold Opn.who Ev.who at this
      injection this with h2 h3
      exact ⟨h2, h3⟩
    have h1 : opRun [] 0 (l.take (k + 1)) = none := by rw [opRun_take he, h.run]; exact hstep
    unfold opsOf
    have h2 : opRun [] 0 l = none := by
      conv => lhs; rw [← List.take_append_drop (k + 1) l]
      rw [opRun_append, h1]; rfl
    rw [h2]; rfl
  · cases hs
theorem OpIn.wrong (h : OpIn l w wr SM OM av all k n1 n2 D1 D2) (he : l[k]? = some e) (hs : opStep all k e = none) : opsOf l = none := by
  have h1 : opRun [] 0 (l.take (k + 1)) = none := by rw [opRun_take he, h.run]; exact hs
  unfold opsOf
  have h2 : opRun [] 0 l = none := by
    conv => lhs; rw [← List.take_append_drop (k + 1) l]
    rw [opRun_append, h1]; rfl
  rw [h2]; rfl
theorem OpIn.call (h : OpIn l w wr SM OM av all k n1 n2 D1 D2) (he : l[k]? = some e) (hb : e.back = false) (hw : Wf e.client ∧ Wf e.id) (hs : seenN all e.who = 0)
    (g1 : w1.ownsMap Try.prog 63 (plainElem Try.prog 3) SM (n1 + 1) (D1.put (wk e.who) (.lit (.int .i64 1)))) (o1 : Only (fun q => q = SM) wr w1)
    (g2 : w2.ownsMap Try.prog 3 (plainElem Try.prog 3) OM (n2 + 1) (D2.put (.int .i64 e.client) (.lit (.int .i64 (all.length : Int))))) (o2 : Only (fun q => q = OM) w1 w2)
    (hv : Vec w3 12 av' (all.length + 1) (all.flatMap Opn.row ++ (e.opn k).row)) (og : Only (fun q => av.ownBlock = some q) w2 w3) (hf : ∀ q, av'.ownBlock = some q → av.ownBlock = some q ∨ w2.heap.size ≤ q) :
    OpIn l w w3 SM OM av' (all ++ [e.opn k]) (k + 1) (n1 + 1) (n2 + 1) (D1.put (wk e.who) (.lit (.int .i64 1))) (D2.put (.int .i64 e.client) (.lit (.int .i64 (all.length : Int)))) := by
  obtain ⟨a1, a2, a3⟩ := h.new
  have s1 := o1.size
  have s2 := o2.size
  have l1 := g1.lt
  have l2 := g2.lt
  have hn := h.n_
  have hno : ∀ o ∈ all, o.who ≠ e.who := fun o ho e1 => by
    unfold seenN at hs
    split at hs
    · cases hs
    · next ha => exact ha (List.any_eq_true.2 ⟨o, ho, decide_eq_true e1⟩)
  refine ⟨((h.only.trans2 o1 fun q hq e => by omega).trans2 o2 fun q hq e => by omega).trans2 og fun q hq e => by have := (h.av_ q e).1; omega, ?_, fun q hq => ?_, h.new, ?_, ?_, ⟨by omega, by omega⟩, fun p h1 h2 => ?_, fun c hc zd => ?_, ?_, ?_⟩
  · rw [List.length_append, List.length_singleton, List.flatMap_append, List.flatMap_singleton]; exact hv
  · rcases hf q hq with h1 | h1
    · exact h.av_ q h1
    · omega
  · exact owns_same (owns_same g1 (o2.block SM l1 a3)) (og.block SM (by omega) fun e1 => (h.av_ SM e1).2.1 rfl)
  · exact owns_same g2 (og.block OM l2 fun e1 => (h.av_ OM e1).2.2 rfl)
  · unfold seenN
    rw [List.any_append]
    by_cases hp : e.who = p
    · subst hp
      rw [atKey_put_same h.seen.isMap (by trivial), if_pos]
      simp [Ev.opn, Opn.who, Ev.who]
    · rw [atKey_put_other (fun e' => hp (wk_inj (p := p) (q := e.who) h1 h2 hw.1 hw.2 e').symm), h.seenAt p h1 h2]
      unfold seenN
      have : ([e.opn k].any fun o => decide (o.who = p)) = false := by
        rw [List.any_cons, List.any_nil, Bool.or_false]
        exact decide_eq_false hp
      rw [this, Bool.or_false]
  · rw [openAt_call]
    by_cases hc2 : e.client = c
    · subst hc2
      rw [atKey_put_same h.open_.isMap (by trivial), if_pos rfl]
    · rw [atKey_put_other (fun e' => hc2 (by injection e' with _ e'; exact e'.symm ▸ rfl)), if_neg hc2]
      exact h.openAt_ c hc zd
  · rw [opRun_take he, h.run]
    exact opStep_call' hb hno
  · rw [List.length_append, List.length_singleton]; have := h.few; omega
theorem OpIn.back (h : OpIn l w wr SM OM av all k n1 n2 D1 D2) (he : l[k]? = some e) (hb : e.back = true) (hw : Wf e.client) {j : Nat} {o : Opn} (hj : openAt all e.client = some j) (ho : all[j]? = some o) (hid : o.id = e.id) (h5 : 1 ≤ e.rkind) (h6 : e.rkind ≤ 3)
    (g2 : w2.ownsMap Try.prog 3 (plainElem Try.prog 3) OM n2' (D2.del (.int .i64 e.client))) (hn2 : n2' ≤ k + 1) (o2 : Only (fun q => q = OM) wr w2)
    (hv : Vec w3 12 av all.length ((all.set j (o.came k e.rs)).flatMap Opn.row)) (og : Only (fun q => av.ownBlock = some q) w2 w3) :
    OpIn l w w3 SM OM av (all.set j (o.came k e.rs)) (k + 1) n1 n2' D1 (D2.del (.int .i64 e.client)) := by
  obtain ⟨a1, a2, a3⟩ := h.new
  have s2 := o2.size
  have l2 := g2.lt
  have hn := h.n_
  have l1 := h.seen.lt
  obtain ⟨g3, x, g4, g5, g6⟩ := openAt_some hj
  rw [ho] at g4
  injection g4 with g4
  subst g4
  have hwho : o.who = e.who := by unfold Opn.who Ev.who; rw [g6, hid]
  refine ⟨(h.only.trans2 o2 fun q hq e => by omega).trans2 og fun q hq e => by have := (h.av_ q e).1; omega, by rw [List.length_set]; exact hv, h.av_, h.new, ?_, ?_, ⟨by omega, by omega⟩, fun p h1 h2 => ?_, fun c hc zd => ?_, ?_, ?_⟩
  · exact owns_same (owns_same h.seen (o2.block SM l1 a3)) (og.block SM (by omega) fun e1 => (h.av_ SM e1).2.1 rfl)
  · exact owns_same g2 (og.block OM l2 fun e1 => (h.av_ OM e1).2.2 rfl)
  · rw [h.seenAt p h1 h2]
    have hjl := lastAt_lt g3
    have hany : ((all.set j (o.came k e.rs)).any fun o => decide (o.who = p)) = all.any fun o => decide (o.who = p) := by
      rw [Bool.eq_iff_iff, List.any_eq_true, List.any_eq_true]
      constructor
      · rintro ⟨y, hy, hyp⟩
        rcases List.mem_or_eq_of_mem_set hy with hy | rfl
        · exact ⟨y, hy, hyp⟩
        · exact ⟨o, List.mem_of_getElem? ho, hyp⟩
      · rintro ⟨y, hy, hyp⟩
        obtain ⟨i, hi, rfl⟩ := List.getElem_of_mem hy
        by_cases hij : j = i
        · subst hij
          refine ⟨o.came k e.rs, List.mem_set hjl _, ?_⟩
          have := (List.getElem?_eq_some_iff.1 ho).2
          rw [this] at hyp
          exact hyp
        · exact ⟨all[i], by rw [List.mem_iff_getElem]; exact ⟨i, by rw [List.length_set]; exact hi, by rw [List.getElem_set_ne hij]⟩, hyp⟩
    unfold seenN
    rw [hany]
  · have := openAt_back (n := k) (r := e.rs) g3 ho g6 c
    unfold Opn.came
    rw [this]
    by_cases hc2 : e.client = c
    · subst hc2
      rw [if_pos rfl, atKey_del_same]
    · rw [if_neg hc2, atKey_del_other (fun e' => hc2 (by injection e' with _ e'; exact e'.symm ▸ rfl))]
      exact h.openAt_ c hc zd
  · rw [opRun_take he, h.run]
    exact opStep_back' hb g3 ho g5 hwho h5 h6
  · rw [List.length_set]; have := h.few; omega
end
end Go.Proofs.Ytajbagdgjbihjaa
