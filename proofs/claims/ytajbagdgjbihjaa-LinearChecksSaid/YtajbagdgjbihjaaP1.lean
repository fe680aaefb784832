/- The events of a key, plainly: which are picked. -/
import Derived.Test.YtajbagdgjbihjaaP0
namespace Go.Proofs.Ytajbagdgjbihjaa
set_option linter.unusedVariables false

section
variable {α W : Type} [DecidableEq W] (who : α → W) (back hit : α → Bool)
/-- is a call of w open behind these? -/
def openB (l : List α) (w : W) : Bool := l.foldl (fun o e => if who e = w then (if back e then false else if hit e then true else o) else o) false
theorem openB_snoc (l : List α) (e : α) (w : W) : openB who back hit (l ++ [e]) w = if who e = w then (if back e then false else if hit e then true else openB who back hit l w) else openB who back hit l w := by
  simp [openB]
def sel (pre : List α) (e : α) : Bool := if back e then openB who back hit pre (who e) else hit e
def picked : List α → List α → List α
  | _, [] => []
  | pre, e :: r => (if sel who back hit pre e then [e] else []) ++ picked (pre ++ [e]) r
theorem picked_snoc (pre l : List α) (e : α) : picked who back hit pre (l ++ [e]) = picked who back hit pre l ++ if sel who back hit (pre ++ l) e then [e] else [] := by
  induction l generalizing pre with
  | nil => simp [picked]
  | cons y r ih =>
    rw [List.cons_append, picked, ih, picked, List.append_assoc, List.append_assoc]
    rfl
theorem picked_succ {l : List α} {k : Nat} {e : α} (h : l[k]? = some e) : picked who back hit [] (l.take (k + 1)) = picked who back hit [] (l.take k) ++ if sel who back hit (l.take k) e then [e] else [] := by
  obtain ⟨hk, rfl⟩ := List.getElem?_eq_some_iff.1 h
  rw [List.take_succ_eq_append_getElem hk, picked_snoc, List.nil_append]
theorem openB_succ {l : List α} {k : Nat} {e : α} (h : l[k]? = some e) (w : W) : openB who back hit (l.take (k + 1)) w = if who e = w then (if back e then false else if hit e then true else openB who back hit (l.take k) w) else openB who back hit (l.take k) w := by
  obtain ⟨hk, rfl⟩ := List.getElem?_eq_some_iff.1 h
  rw [List.take_succ_eq_append_getElem hk, openB_snoc]
/-- k is the first coming back behind i of who called there -/
def First (l : List α) (i k : Nat) : Prop := ∃ a b, l[i]? = some a ∧ l[k]? = some b ∧ i < k ∧ back a = false ∧ hit a = true ∧ back b = true ∧ who b = who a ∧ ∀ j c, i < j → j < k → l[j]? = some c → back c = true → who c ≠ who a
theorem openB_iff (l : List α) (w : W) : ∀ k, k ≤ l.length → (openB who back hit (l.take k) w = true ↔ ∃ i a, l[i]? = some a ∧ i < k ∧ back a = false ∧ hit a = true ∧ who a = w ∧ ∀ j c, i < j → j < k → l[j]? = some c → back c = true → who c ≠ w)
  | 0, _ => by
    simp [openB]
  | k + 1, hk => by
    have ih := openB_iff l w k (by omega)
    obtain ⟨e, he⟩ : ∃ e, l[k]? = some e := ⟨_, List.getElem?_eq_getElem (by omega)⟩
    rw [openB_succ who back hit he w]
    by_cases hw : who e = w
    · rw [if_pos hw]
      by_cases hb : back e = true
      · rw [if_pos hb]
        constructor
        · intro h; cases h
        · rintro ⟨i, a, h1, h2, h3, h4, h5, h6⟩
          by_cases hik : i = k
          · subst hik
            rw [he] at h1
            injection h1 with h1
            subst h1
            rw [hb] at h3
            cases h3
          · exact absurd hw (h6 k e (by omega) (by omega) he hb)
      · rw [if_neg hb]
        have hb' : back e = false := by simpa using hb
        by_cases hh : hit e = true
        · rw [if_pos hh]
          refine ⟨fun _ => ⟨k, e, he, by omega, hb', hh, hw, fun j c h1 h2 => by omega⟩, fun _ => rfl⟩
        · rw [if_neg hh, ih]
          constructor
          · rintro ⟨i, a, h1, h2, h3, h4, h5, h6⟩
            refine ⟨i, a, h1, by omega, h3, h4, h5, fun j c hj1 hj2 hc hbc => ?_⟩
            by_cases hjk : j = k
            · subst hjk
              rw [he] at hc
              injection hc with hc
              subst hc
              exact absurd hbc hb
            · exact h6 j c hj1 (by omega) hc hbc
          · rintro ⟨i, a, h1, h2, h3, h4, h5, h6⟩
            have hik : i ≠ k := fun e2 => by
              subst e2
              rw [he] at h1
              injection h1 with h1
              subst h1
              exact hh h4
            exact ⟨i, a, h1, by omega, h3, h4, h5, fun j c hj1 hj2 => h6 j c hj1 (by omega)⟩
    · rw [if_neg hw, ih]
      constructor
      · rintro ⟨i, a, h1, h2, h3, h4, h5, h6⟩
        refine ⟨i, a, h1, by omega, h3, h4, h5, fun j c hj1 hj2 hc hbc => ?_⟩
        by_cases hjk : j = k
        · subst hjk
          rw [he] at hc
          injection hc with hc
          subst hc
          exact hw
        · exact h6 j c hj1 (by omega) hc hbc
      · rintro ⟨i, a, h1, h2, h3, h4, h5, h6⟩
        have hik : i ≠ k := fun e2 => by
          subst e2
          rw [he] at h1
          injection h1 with h1
          subst h1
          exact hw h5
        exact ⟨i, a, h1, by omega, h3, h4, h5, fun j c hj1 hj2 => h6 j c hj1 (by omega)⟩
/-- what the document has marked -/
theorem sel_iff {l : List α} {k : Nat} {e : α} (h : l[k]? = some e) : sel who back hit (l.take k) e = true ↔ (back e = false ∧ hit e = true) ∨ ∃ i, First who back hit l i k := by
  have hk := (List.getElem?_eq_some_iff.1 h).1
  unfold sel
  by_cases hb : back e = true
  · rw [if_pos hb, openB_iff who back hit l _ k (by omega)]
    constructor
    · rintro ⟨i, a, h1, h2, h3, h4, h5, h6⟩
      exact Or.inr ⟨i, a, e, h1, h, h2, h3, h4, hb, h5.symm, fun j c hj1 hj2 hc hbc => by rw [h5]; exact h6 j c hj1 hj2 hc hbc⟩
    · rintro (⟨h1, _⟩ | ⟨i, a, b, h1, h2, h3, h4, h5, h6, h7, h8⟩)
      · rw [hb] at h1; cases h1
      · rw [h] at h2
        injection h2 with h2
        subst h2
        exact ⟨i, a, h1, h3, h4, h5, h7.symm, fun j c hj1 hj2 hc hbc => by rw [h7]; exact h8 j c hj1 hj2 hc hbc⟩
  · have hb' : back e = false := by simpa using hb
    rw [if_neg hb]
    constructor
    · intro hh
      exact Or.inl ⟨hb', hh⟩
    · rintro (⟨_, h1⟩ | ⟨i, a, b, h1, h2, h3, h4, h5, h6, h7, h8⟩)
      · exact h1
      · rw [h] at h2
        injection h2 with h2
        subst h2
        exact absurd h6 hb
end
end Go.Proofs.Ytajbagdgjbihjaa
