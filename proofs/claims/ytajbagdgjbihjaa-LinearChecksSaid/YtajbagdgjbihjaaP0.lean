/- The keys of a history, plainly: put in one by one, each once, is sorted. -/
import Derived.Lib.Hide
namespace Go.Proofs.Ytajbagdgjbihjaa
set_option linter.unusedVariables false

abbrev Str := List UInt8
theorem str_lt_or (a b : Str) : a < b ∨ a = b ∨ b < a := by
  by_cases h1 : a < b
  · exact Or.inl h1
  · by_cases h2 : b < a
    · exact Or.inr (Or.inr h2)
    · exact Or.inr (Or.inl (List.le_antisymm h2 h1))
def ins (k : Str) : List Str → List Str
  | [] => [k]
  | y :: r => if y < k then y :: ins k r else if y = k then y :: r else k :: y :: r
theorem ins_mem (k x : Str) (l : List Str) : x ∈ ins k l ↔ x = k ∨ x ∈ l := by
  induction l with
  | nil => simp [ins]
  | cons y r ih =>
    unfold ins
    split
    · simp only [List.mem_cons, ih]
      constructor
      · rintro (h | h | h)
        · exact Or.inr (Or.inl h)
        · exact Or.inl h
        · exact Or.inr (Or.inr h)
      · rintro (h | h | h)
        · exact Or.inr (Or.inl h)
        · exact Or.inl h
        · exact Or.inr (Or.inr h)
    · split
      · rename_i e
        subst e
        simp
      · simp
theorem ins_rise (k : Str) (l : List Str) (h : l.Pairwise (· < ·)) : (ins k l).Pairwise (· < ·) := by
  induction l with
  | nil => simp [ins]
  | cons y r ih =>
    obtain ⟨h1, h2⟩ := List.pairwise_cons.1 h
    unfold ins
    split
    · rename_i hy
      refine List.pairwise_cons.2 ⟨fun z hz => ?_, ih h2⟩
      rcases (ins_mem k z r).1 hz with rfl | hz
      · exact hy
      · exact h1 z hz
    · split
      · exact h
      · rename_i hy hne
        have hk : k < y := by
          rcases str_lt_or y k with e | e | e
          · exact absurd e hy
          · exact absurd e hne
          · exact e
        refine List.pairwise_cons.2 ⟨fun z hz => ?_, h⟩
        rcases List.mem_cons.1 hz with rfl | hz
        · exact hk
        · exact List.lt_trans hk (h1 z hz)
/-- what is put in, one by one -/
def insAll (l : List Str) : List Str := l.foldl (fun out k => ins k out) []
theorem insAll_snoc (l : List Str) (k : Str) : insAll (l ++ [k]) = ins k (insAll l) := by simp [insAll]
theorem insAll_rise (l : List Str) : (insAll l).Pairwise (· < ·) := by
  rw [← List.reverse_reverse l]
  induction l.reverse with
  | nil => simp [insAll]
  | cons k r ih =>
    rw [List.reverse_cons, insAll_snoc]
    exact ins_rise k _ ih
theorem insAll_mem (l : List Str) (x : Str) : x ∈ insAll l ↔ x ∈ l := by
  rw [← List.reverse_reverse l]
  induction l.reverse with
  | nil => simp [insAll]
  | cons k r ih =>
    rw [List.reverse_cons, insAll_snoc, ins_mem, ih]
    simp [or_comm]
theorem sorted_keys {l ss : List Str} (hn : ss.Nodup) (hm : ∀ x, x ∈ ss ↔ x ∈ l) : ss.mergeSort (fun x y => decide (x ≤ y)) = insAll l := by
  have h1 := insAll_rise l
  have hd : (insAll l).Nodup := h1.imp fun {a b} h e => by subst e; exact List.lt_irrefl a h
  have hp : ss.Perm (insAll l) := (List.perm_ext_iff_of_nodup hn hd).2 fun x => by rw [hm, insAll_mem]
  have htr : ∀ a b c : Str, (decide (a ≤ b)) = true → (decide (b ≤ c)) = true → (decide (a ≤ c)) = true := fun a b c h1 h2 => by
    simp only [decide_eq_true_eq] at *
    exact List.le_trans h1 h2
  have hto : ∀ a b : Str, (decide (a ≤ b) || decide (b ≤ a)) = true := fun a b => by
    simp only [Bool.or_eq_true, decide_eq_true_eq]
    exact List.le_total a b
  have hs := List.pairwise_mergeSort (le := fun x y => decide (x ≤ y)) htr hto ss
  have hs2 : (insAll l).Pairwise (fun x y => decide (x ≤ y) = true) := h1.imp fun {a b} h => by
    simp only [decide_eq_true_eq]
    exact List.le_of_lt h
  refine List.Perm.eq_of_pairwise (le := fun x y => decide (x ≤ y) = true) (fun a b _ _ h1 h2 => ?_) hs hs2 ((List.mergeSort_perm ss _).trans hp)
  simp only [decide_eq_true_eq] at h1 h2
  exact List.le_antisymm h1 h2
end Go.Proofs.Ytajbagdgjbihjaa
