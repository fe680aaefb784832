/- Putting in at a place. -/
import Derived.Test.YtajbagdgjbihjaaP0
namespace Go.Proofs.Ytajbagdgjbihjaa
set_option linter.unusedVariables false

/-- the first n are below k -/
def Low (k : Str) (l : List Str) (n : Nat) : Prop := ∀ i x, l[i]? = some x → i < n → x < k
theorem Low.zero {k : Str} {l : List Str} : Low k l 0 := fun _ _ _ h => absurd h (Nat.not_lt_zero _)
theorem Low.succ {k x : Str} {l : List Str} {n : Nat} (h : Low k l n) (hx : l[n]? = some x) (e : x < k) : Low k l (n + 1) := by
  intro i y hi hn
  by_cases e2 : i = n
  · subst e2
    rw [hx] at hi
    injection hi with hi
    subst hi
    exact e
  · exact h i y hi (by omega)
theorem ins_at {k : Str} : ∀ {l : List Str} {n : Nat}, n ≤ l.length → Low k l n → (∀ x, l[n]? = some x → ¬ x < k) → ins k l = if l[n]? = some k then l else l.take n ++ k :: l.drop n
  | [], n, hn, _, _ => by
    have : n = 0 := by simpa using hn
    subst this
    simp [ins]
  | y :: r, 0, _, _, h => by
    have hy := h y rfl
    unfold ins
    rw [if_neg hy]
    by_cases e : y = k
    · rw [if_pos e, if_pos (by simp [e])]
    · rw [if_neg e, if_neg (by simpa using e)]
      rfl
  | y :: r, n + 1, hn, hl, h => by
    have hy : y < k := hl 0 y rfl (by omega)
    have ih := ins_at (k := k) (l := r) (n := n) (by simpa using hn) (fun i x hi hin => hl (i + 1) x (by simpa using hi) (by omega)) fun x hx => h x (by simpa using hx)
    unfold ins
    rw [if_pos hy, ih]
    simp only [List.getElem?_cons_succ, List.take_succ_cons, List.drop_succ_cons]
    split <;> rfl
end Go.Proofs.Ytajbagdgjbihjaa
