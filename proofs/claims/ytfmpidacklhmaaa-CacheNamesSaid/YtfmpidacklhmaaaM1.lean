/- A drawn region whose operations leave all that was there as it was: each may be taken first, a call of a Go function too. No program. -/
import Derived.Test.YtfmpidacklhmaaaG1
import Derived.OrdersHeld
namespace Go.Proofs.Ytfmpidacklhmaaa
open Go.RowKit
set_option linter.unusedVariables false

theorem Only.quiet {S : Nat → Prop} {a b c : World} (h : Only S a b) (k : Only None' b c) : Only S a c := h.trans2 k fun _ _ e => e.elim
section
variable {P : Program} {ops : Array Oper} {Q : Exit → Act → World → Prop} {md : Region.Mode} {w0 : World} {S : Nat → Prop}
/-- an operation that leaves v, and nothing that was there turned -/
def YR (P : Program) (ops : Array Oper) (S : Nat → Prop) (w0 : World) (o : Oper) (v : Value) (a : Act) : Prop :=
  (Region.wanted o (yielded ops a.tmps) = true ∧ ∀ w, Only S w0 w →
    (∃ w', (execOp a.eval o).run P w = .ok (.value v) w' ∧ Only None' w w') ∨
    (∃ f args, (execOp a.eval o).run P w = .ok (.enter f args) w ∧ Calls P f args w fun e w' => e = .returned v ∧ Only None' w w')) ∨
  (Region.wanted o (yielded ops a.tmps) = false ∧ v = undef)
theorem YR.wpOp {i : Nat} {o : Oper} {v : Value} {a : Act} (hi : ops[i]? = some o) (hy : YR P ops S w0 o v a)
    {K : Act → World → Prop} {w : World} (hS : Only S w0 w) (h : ∀ w', Only None' w w' → K (a.put o.dst v) w') : wpOp P ops Q i K a w := by
  unfold Go.wpOp
  simp only [hi]
  rcases hy with ⟨hw, hv⟩ | ⟨hw, rfl⟩
  · simp only [hw, if_true]
    refine .inl ?_
    unfold Oper.wp
    rcases hv w hS with ⟨w', h1, h2⟩ | ⟨f, args, h1, h2⟩
    · rw [h1]; exact h w' h2
    · rw [h1, Oper.upon_enter]
      refine h2.mono ?_
      rintro e w' ⟨rfl, h3⟩
      exact h w' h3
  · simp only [hw, Bool.false_eq_true, if_false]; exact h w (Only.refl _ _)
theorem YR.of_same {o : Oper} {v : Value} {a a' : Act} (hy : YR P ops S w0 o v a) (he : execOp a'.eval o = execOp a.eval o)
    (hw : Region.wanted o (yielded ops a'.tmps) = Region.wanted o (yielded ops a.tmps)) : YR P ops S w0 o v a' := by
  unfold YR at *
  rw [he, hw]
  exact hy
theorem wpOp_putR {j : Nat} {oi oj : Oper} {v : Value} (hj : ops[j]? = some oj) (hap : oi.apart ops oj = true)
    (hsi : ∀ cs b, oi.op ≠ .select cs b) (hsj : ∀ cs b, oj.op ≠ .select cs b)
    (hQ : ∀ c a w, Q (.panic c) (a.put oi.dst v) w → Q (.panic c) a w) {K : Act → World → Prop} {a : Act} {w : World}
    (hy : YR P ops S w0 oi v a) (h : wpOp P ops Q j K (a.put oi.dst v) w) :
    wpOp P ops Q j (fun a' w' => YR P ops S w0 oi v a' ∧ K (a'.put oi.dst v) w') a w := by
  obtain ⟨h1, h2, h3⟩ := Oper.apart_spec hap
  have keep : ∀ (a : Act), YR P ops S w0 oi v a → ∀ u, YR P ops S w0 oi v (a.put oj.dst u) := fun a hy u =>
    hy.of_same (execOp_put oi hsi a oj.dst u h3) (wanted_put oi a oj.dst u h3)
  have keepD : ∀ d, YR P ops S w0 oi v { a with defers := d :: a.defers } := fun d => hy.of_same rfl rfl
  unfold wpOp at *
  simp only [hj] at *
  rw [wanted_put oj a oi.dst v h1] at h
  split
  · rename_i hw
    simp only [hw, if_true] at h
    rcases h with h | ⟨hasks, hlets⟩
    case inr => exact .inr ⟨by unfold Oper.asks at *; rw [execOp_put oj hsj a oi.dst v h1] at hasks; exact hasks, hlets⟩
    refine .inl ?_
    unfold Oper.wp at *
    rw [execOp_put oj hsj a oi.dst v h1] at h
    generalize (execOp a.eval oj).run P w = r at *
    cases r with
    | ok n w' =>
      cases n <;> simp only [Oper.upon] at h ⊢
      case value u => exact ⟨keep a hy u, by rw [← Act.put_comm a v u h2]; exact h⟩
      case skip => exact ⟨keep a hy _, by rw [← Act.put_comm a v undef h2]; exact h⟩
      case defer d =>
        refine ⟨keep _ (keepD d) _, ?_⟩
        rw [← Act.put_comm _ v undef h2, ← Act.put_defers]
        exact h
      case enter f args =>
        refine Calls.mono h fun e w'' he => ?_
        cases e with
        | returned u => exact ⟨keep a hy u, by rw [← Act.put_comm a v u h2]; exact he⟩
        | panicked c => exact hQ _ _ _ he
        | outgrown => exact he
      case row row args => exact Rows.mono h fun u w'' he => ⟨keep a hy u, by rw [← Act.put_comm a v u h2]; exact he⟩
    | halt x w' =>
      cases x <;> simp only [Oper.upon] at h ⊢
      case panic u => exact hQ _ _ _ h
  · rename_i hw
    simp only [hw] at h
    exact ⟨keep a hy _, by rw [← Act.put_comm a v undef h2]; exact h⟩
/-- whatever order is picked, in whatever world that leaves all that was there as it was -/
def AnyR (P : Program) (md : Region.Mode) (ops : Array Oper) (Q : Exit → Act → World → Prop) (S : Nat → Prop) (w0 : World) : Nat → Array Bool → Act → World → Prop
  | 0, listed, a, w => Region.ready md ops listed = [] ∧ ∀ w', Only None' w w' → Q .normal a w'
  | fuel + 1, listed, a, w => (Region.ready md ops listed = [] → ∀ w', Only None' w w' → Q .normal a w') ∧
    ∀ w', Only None' w w' → ∀ i ∈ Region.ready md ops listed, wpOp P ops Q i (fun a' w'' => Only S w0 w'' ∧ AnyR P md ops Q S w0 fuel (listed.setIfInBounds i true) a' w'') a w'
theorem AnyR.later {fuel : Nat} {listed : Array Bool} {a : Act} {w w1 : World} (h : AnyR P md ops Q S w0 fuel listed a w) (o : Only None' w w1) : AnyR P md ops Q S w0 fuel listed a w1 := by
  cases fuel with
  | zero => exact ⟨h.1, fun w' o' => h.2 w' (o.trans o')⟩
  | succ n => exact ⟨fun hr w' o' => h.1 hr w' (o.trans o'), fun w' o' => h.2 w' (o.trans o')⟩
theorem any_of_R : ∀ (fuel : Nat) (listed : Array Bool) (a : Act) (w : World), AnyR P md ops Q S w0 fuel listed a w → wpAny P md ops Q fuel listed a w
  | 0, _, _, w, h => ⟨h.1, h.2 w (Only.refl _ _)⟩
  | fuel + 1, _, _, w, h => ⟨fun hr => h.1 hr w (Only.refl _ _), fun i hi => wpOp_mono (fun a' w' h' => any_of_R fuel _ a' w' h'.2) (h.2 w (Only.refl _ _) i hi)⟩
theorem anyR_first {i : Nat} {oi : Oper} {v : Value} (hi : ops[i]? = some oi) (hsel : ∀ (j : Nat) (o : Oper) cs b, ops[j]? = some o → o.op ≠ .select cs b)
    (hQ : ∀ c a w, Q (.panic c) (a.put oi.dst v) w → Q (.panic c) a w) :
    ∀ (fuel : Nat) (listed : Array Bool) (a : Act) (w : World),
      (∀ j oj, ops[j]? = some oj → j ≠ i → listed.getD j true = false → (∀ e ∈ oj.after, Region.binds md e = true → e.on ≠ i) → oi.apart ops oj = true) →
      i ∈ Region.ready md ops listed → YR P ops S w0 oi v a → Only S w0 w →
      AnyR P md ops Q S w0 fuel (listed.setIfInBounds i true) (a.put oi.dst v) w → AnyR P md ops Q S w0 (fuel + 1) listed a w := by
  intro fuel
  induction fuel with
  | zero =>
    intro listed a w _ hr hy hS H
    refine ⟨fun h => (by rw [h] at hr; cases hr), fun w' o' j hj => ?_⟩
    by_cases hji : j = i
    · subst hji; exact hy.wpOp hi (hS.quiet o') fun w'' o'' => ⟨(hS.quiet o').quiet o'', H.later (o'.trans o'')⟩
    · have := ready_mono hj hji
      rw [H.1] at this
      cases this
  | succ fuel ih =>
    intro listed a w hfree hr hy hS H
    refine ⟨fun h => (by rw [h] at hr; cases hr), fun w' o' j hj => ?_⟩
    by_cases hji : j = i
    · subst hji; exact hy.wpOp hi (hS.quiet o') fun w'' o'' => ⟨(hS.quiet o').quiet o'', H.later (o'.trans o'')⟩
    · have h1 := H.2 w' o' j (ready_mono hj hji)
      obtain ⟨hjun, oj, hoj, hall⟩ := mem_ready.1 hj
      have hnot : ∀ e ∈ oj.after, Region.binds md e = true → e.on ≠ i := fun e he hb heq => by
        have h1 := hall e he hb
        have h0 := (mem_ready.1 hr).1
        rw [heq] at h1
        rcases Nat.lt_or_ge i listed.size with h' | h'
        · simp [h'] at h0 h1; rw [h0] at h1; cases h1
        · simp [Array.getElem?_eq_none h'] at h1
      have h2 := wpOp_putR hoj (hfree j oj hoj hji hjun hnot) (fun cs b => hsel i oi cs b hi) (fun cs b => hsel j oj cs b hoj) hQ hy h1
      have hfree' : ∀ k ok, ops[k]? = some ok → k ≠ i → (listed.setIfInBounds j true).getD k true = false →
          (∀ e ∈ ok.after, Region.binds md e = true → e.on ≠ i) → oi.apart ops ok = true := fun k ok hk hki hun hno => by
        refine hfree k ok hk hki ?_ hno
        by_cases hjk : j = k
        · subst hjk; exact hjun
        · rw [getD_set_ne true hjk] at hun; exact hun
      refine wpOp_mono (fun a' w'' h3 => ⟨h3.2.1, ih (listed.setIfInBounds j true) a' w'' hfree' (ready_mono hr (Ne.symm hji)) h3.1 h3.2.1 ?_⟩) h2
      rw [Array.setIfInBounds_comm _ _ hji]
      exact h3.2.2
end
section
variable {P : Program} {md : Region.Mode} {l : List Oper} {Q : Exit → Act → World → Prop} {w0 : World} {S : Nat → Prop}
theorem r_drop {l : List Oper} {i : Nat} {oi : Oper} {rs : List Oper} (hi : l.drop i = oi :: rs) : l.toArray[i]? = some oi := by
  rw [List.getElem?_toArray]
  have : (l.drop i)[0]? = some oi := by rw [hi]; rfl
  rwa [List.getElem?_drop, Nat.add_zero] at this
/-- the beginning -/
theorem r_begin {id : Nat} {a : Act} {w : World} (hm : P.follows .mixedOrders = true)
    (h : AnyR P .any l.toArray Q S w (List.length l) (Array.replicate (List.length l) false) a w) : (Code.region id l.toArray true).wp P Q a w := by
  have hd : Only None' w ({ w with drawn := w.drawn + 1 } : World) := (Only.refl _ w).drew
  refine wp_region_any hm ?_
  exact any_of_R _ _ _ _ (h.later hd)
/-- an operation that may come up is taken first -/
theorem r_take (i : Nat) (v : Value) {oi : Oper} {rs : List Oper} {fuel : Nat} {listed : Array Bool} {a : Act} {w : World} (hi : l.drop i = oi :: rs)
    (hc : (Region.noSelect l.toArray && Region.free md l.toArray listed i && (Region.ready md l.toArray listed).contains i) = true)
    (hQ : ∀ c a w, Q (.panic c) (a.put oi.dst v) w → Q (.panic c) a w) (hS : Only S w0 w) (hy : YR P l.toArray S w0 oi v a)
    (h : AnyR P md l.toArray Q S w0 fuel (listed.setIfInBounds i true) (a.put oi.dst v) w) : AnyR P md l.toArray Q S w0 (fuel + 1) listed a w := by
  simp only [Bool.and_eq_true] at hc
  exact anyR_first (r_drop hi) (Region.noSelect_spec hc.1.1) hQ fuel listed a w (Region.free_spec (r_drop hi) hc.1.2) (by simpa using hc.2) hy hS h
/-- the only one that may come up -/
theorem r_one (i : Nat) {oi : Oper} {rs : List Oper} {fuel : Nat} {listed : Array Bool} {a : Act} {w : World} (hi : l.drop i = oi :: rs)
    (hr : Region.ready md l.toArray listed = [i]) (hw : Region.wanted oi (yielded l.toArray a.tmps) = true)
    (h : ∀ w', Only None' w w' → Oper.wp P oi a w' (fun a' w'' => Only S w0 w'' ∧ AnyR P md l.toArray Q S w0 fuel (listed.setIfInBounds i true) a' w'') Q) : AnyR P md l.toArray Q S w0 (fuel + 1) listed a w := by
  refine ⟨fun h0 => (by rw [hr] at h0; cases h0), fun w' o' j hj => ?_⟩
  rw [hr, List.mem_singleton] at hj
  subst hj
  unfold wpOp
  simp only [r_drop hi, hw, if_true]
  exact .inl (h w' o')
theorem r_done {fuel : Nat} {listed : Array Bool} {a : Act} {w : World} (hr : Region.ready md l.toArray listed = []) (h : ∀ w', Only None' w w' → Q .normal a w') : AnyR P md l.toArray Q S w0 fuel listed a w := by
  cases fuel with
  | zero => exact ⟨hr, h⟩
  | succ n => exact ⟨fun _ => h, fun w' o' j hj => by rw [hr] at hj; cases hj⟩
/-- an operation that leaves the world as it is -/
theorem YR.pure {o : Oper} {v : Value} {a : Act} (hw : Region.wanted o (yielded l.toArray a.tmps) = true) (h : ∀ w, Only S w0 w → (execOp a.eval o).run P w = .ok (.value v) w) : YR P l.toArray S w0 o v a :=
  .inl ⟨hw, fun w o => .inl ⟨w, h w o, Only.refl _ _⟩⟩
theorem YR.call {o : Oper} {v : Value} {a : Act} {f : Nat} {args : Array Value} (hw : Region.wanted o (yielded l.toArray a.tmps) = true) (h : ∀ w, (execOp a.eval o).run P w = .ok (.enter f args) w) (hc : ∀ w, Only S w0 w → Calls P f args w fun e w' => e = .returned v ∧ Only None' w w') : YR P l.toArray S w0 o v a :=
  .inl ⟨hw, fun w o => .inr ⟨f, args, h w, hc w o⟩⟩
end
/-! ### a region that does not draw -/
section
variable {P : Program} {l : List Oper} {Q : Exit → Act → World → Prop} {w0 : World}
theorem p_begin {id : Nat} {a : Act} {w : World} (h : ∀ w', Only None' w w' → wpOps P l.toArray Q (List.range (List.length l)) a w') : (Code.region id l.toArray false).wp P Q a w :=
  wp_region (h w (Only.refl _ _))
theorem p_take (i : Nat) (v : Value) {oi : Oper} {rs : List Oper} {is : List Nat} {a : Act} (hi : l.drop i = oi :: rs) (hy : YR P l.toArray None' w0 oi v a)
    (h : ∀ w', Only None' w0 w' → wpOps P l.toArray Q is (a.put oi.dst v) w') : ∀ w', Only None' w0 w' → wpOps P l.toArray Q (i :: is) a w' := fun w' o => by
  rw [wpOps_cons]
  exact hy.wpOp (r_drop hi) o fun w'' o' => h w'' (o.trans o')
theorem p_one (i : Nat) {oi : Oper} {rs : List Oper} {is : List Nat} {a : Act} (hi : l.drop i = oi :: rs) (hw : Region.wanted oi (yielded l.toArray a.tmps) = true)
    (h : ∀ w', Only None' w0 w' → Oper.wp P oi a w' (fun a' w'' => ∀ w3, Only None' w'' w3 → wpOps P l.toArray Q is a' w3) Q) : ∀ w', Only None' w0 w' → wpOps P l.toArray Q (i :: is) a w' := fun w' o => by
  rw [wpOps_cons]
  unfold wpOp
  simp only [r_drop hi, hw, if_true]
  exact .inl (Oper.wp_mono (fun a' w'' h' => h' w'' (Only.refl _ _)) (h w' o))
theorem p_done {a : Act} (h : ∀ w', Only None' w0 w' → Q .normal a w') : ∀ w', Only None' w0 w' → wpOps P l.toArray Q [] a w' := fun w' o => h w' o
end
end Go.Proofs.Ytfmpidacklhmaaa
