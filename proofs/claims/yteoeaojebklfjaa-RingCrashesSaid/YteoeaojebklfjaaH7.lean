/- Pieces and records, plainly. No program. -/
import Derived.Test.YteoeaojebklfjaaH5
namespace Go.Proofs.Yteoeaojebklfjaa
set_option linter.unusedVariables false

abbrev Rec := List UInt8
/-- the records of pieces; now: what is there of the first one already -/
def grp : List Pc → Rec → List Rec
  | [], _ => []
  | p :: ps, now => if p.last then (now ++ p.data) :: grp ps [] else grp ps (now ++ p.data)
/-- the number of the last whole record's last piece -/
def lastN : List Pc → Nat → Nat
  | [], l => l
  | p :: ps, l => lastN ps (if p.last then p.n else l)
/-- the pieces behind n that are there: k at most -/
def chainG (count : Nat) (g : Nat → Sec) : Nat → Nat → List Pc
  | 0, _ => []
  | k + 1, n => match pieceG count g (n + 1) with
    | none => []
    | some p => p :: chainG count g k (n + 1)
theorem runG_chain {count : Nat} {g : Nat → Sec} : ∀ (k n : Nat) (out : List Rec) (now : Rec) (last : Nat), runG count g k n out now last = (out ++ grp (chainG count g k n) now, lastN (chainG count g k n) last)
  | 0, n, out, now, last => by simp [runG, chainG, grp, lastN]
  | k + 1, n, out, now, last => by
    unfold runG chainG
    cases h : pieceG count g (n + 1) with
    | none => simp [grp, lastN]
    | some p =>
      have hn := (pieceG_some h).2
      simp only [grp, lastN]
      split
      · rw [runG_chain k, hn]; simp
      · rw [runG_chain k]

theorem chainG_len {count : Nat} {g : Nat → Sec} : ∀ (k n : Nat), (chainG count g k n).length ≤ k
  | 0, _ => Nat.le_refl _
  | k + 1, n => by
    unfold chainG
    split
    · simp
    · simp; exact chainG_len k (n + 1)
theorem chainG_at {count : Nat} {g : Nat → Sec} : ∀ (k n j : Nat) (h : j < (chainG count g k n).length), pieceG count g (n + 1 + j) = some (chainG count g k n)[j]
  | 0, _, j, h => absurd h (by simp [chainG])
  | k + 1, n, j, h => by
    cases hp : pieceG count g (n + 1) with
    | none => simp [chainG, hp] at h
    | some p =>
      have e : chainG count g (k + 1) n = p :: chainG count g k (n + 1) := by simp [chainG, hp]
      simp only [e] at h ⊢
      match j, h with
      | 0, h => simpa using hp
      | j + 1, h =>
        simp only [List.getElem_cons_succ]
        rw [show n + 1 + (j + 1) = n + 1 + 1 + j by omega]
        exact chainG_at k (n + 1) j (by simpa using h)
/-- pieces that are there are in the chain -/
theorem chainG_of {count : Nat} {g : Nat → Sec} : ∀ (ps : List Pc) (k n : Nat), (∀ j (h : j < ps.length), pieceG count g (n + 1 + j) = some ps[j]) → ps.length ≤ k → ∃ qs, chainG count g k n = ps ++ qs
  | [], k, n, _, _ => ⟨_, rfl⟩
  | p :: ps, 0, n, _, hk => absurd hk (by simp)
  | p :: ps, k + 1, n, h, hk => by
    have h0 := h 0 (by simp)
    simp only [Nat.add_zero, List.getElem_cons_zero] at h0
    obtain ⟨qs, hq⟩ := chainG_of ps k (n + 1) (fun j hj => by
      have := h (j + 1) (by simpa using hj)
      rw [show n + 1 + 1 + j = n + 1 + (j + 1) by omega]
      simpa using this) (by simpa using hk)
    refine ⟨qs, ?_⟩
    unfold chainG
    rw [h0]
    simp only [hq, List.cons_append]

theorem grp_append : ∀ (ps qs : List Pc) (now : Rec), ∃ m, grp (ps ++ qs) now = grp ps now ++ grp qs m
  | [], qs, now => ⟨now, by simp [grp]⟩
  | p :: ps, qs, now => by
    simp only [List.cons_append, grp]
    split
    · obtain ⟨m, hm⟩ := grp_append ps qs []
      exact ⟨m, by rw [hm]; rfl⟩
    · exact grp_append ps qs _
theorem lastN_append (qs : List Pc) : ∀ (ps : List Pc) (l : Nat), lastN (ps ++ qs) l = lastN qs (lastN ps l)
  | [], l => rfl
  | p :: ps, l => by simp only [List.cons_append, lastN]; exact lastN_append qs ps _

/-! ### a record, cut -/
def cutN (n : Nat) : Nat := if n = 0 then 1 else (n - 1) / 501 + 1
/-- piece number i of a record -/
def cutAt (l : Nat) (rec : Rec) (i : Nat) : Pc := ⟨l + 1 + i, decide (i + 1 = cutN rec.length), (rec.drop (501 * i)).take 501⟩
def cutR (l : Nat) (rec : Rec) : List Pc := (List.range (cutN rec.length)).map (cutAt l rec)
theorem cutR_length (l : Nat) (rec : Rec) : (cutR l rec).length = cutN rec.length := by simp [cutR]
theorem cutN_pos (n : Nat) : 1 ≤ cutN n := by unfold cutN; split <;> omega
theorem cutN_bound (n : Nat) : n ≤ 501 * cutN n ∧ (0 < n → 501 * (cutN n - 1) < n) := by
  unfold cutN
  split <;> omega
theorem cutAt_ok {l : Nat} {rec : Rec} {i : Nat} (hi : i < cutN rec.length) (hl : l + cutN rec.length ≤ 4611686018427387904) : (cutAt l rec i).Ok := by
  refine ⟨by show 1 ≤ l + 1 + i; omega, by show l + 1 + i ≤ _; omega, by simp [cutAt]; omega, fun h => ?_⟩
  have h1 : ¬ i + 1 = cutN rec.length := by simpa [cutAt] using h
  have h2 := cutN_bound rec.length
  have h3 := cutN_pos rec.length
  have h0 : 0 < rec.length := by
    rcases Nat.eq_zero_or_pos rec.length with e | e
    · rw [e] at hi h1
      unfold cutN at hi h1
      simp at hi h1
      omega
    · exact e
  have h4 := h2.2 h0
  simp only [cutAt, List.length_take, List.length_drop]
  have : 501 * (i + 1) ≤ 501 * (cutN rec.length - 1) := Nat.mul_le_mul_left _ (by omega)
  omega
theorem grp_cut (l : Nat) (rec : Rec) (ps : List Pc) : grp (cutR l rec ++ ps) [] = rec :: grp ps [] := by
  have key : ∀ (k i : Nat), i + k + 1 = cutN rec.length → grp ((List.range' i (k + 1)).map (cutAt l rec) ++ ps) (rec.take (501 * i)) = rec :: grp ps [] := by
    intro k
    induction k with
    | zero =>
      intro i hi
      have hb := cutN_bound rec.length
      simp only [List.range'_succ, List.range'_zero, List.map_cons, List.map_nil, List.cons_append, List.nil_append, grp]
      rw [if_pos (by simp [cutAt]; omega)]
      have e : rec.take (501 * i) ++ (cutAt l rec i).data = rec := by
        show rec.take (501 * i) ++ (rec.drop (501 * i)).take 501 = rec
        have h1 : rec.length ≤ 501 * (i + 1) := by rw [show i + 1 = cutN rec.length by omega]; exact hb.1
        have h2 : (rec.drop (501 * i)).take 501 = rec.drop (501 * i) := List.take_of_length_le (by simp only [List.length_drop]; omega)
        rw [h2]
        exact List.take_append_drop _ _
      rw [e]
    | succ k ih =>
      intro i hi
      rw [List.range'_succ, List.map_cons, List.cons_append]
      simp only [grp]
      rw [if_neg (by simp [cutAt]; omega)]
      have e : rec.take (501 * i) ++ (cutAt l rec i).data = rec.take (501 * (i + 1)) := by
        show rec.take (501 * i) ++ (rec.drop (501 * i)).take 501 = _
        rw [Nat.mul_add, Nat.mul_one, List.take_add]
      rw [e]
      exact ih (i + 1) (by omega)
  have hp := cutN_pos rec.length
  have := key (cutN rec.length - 1) 0 (by omega)
  rw [show cutN rec.length - 1 + 1 = cutN rec.length by omega, ← List.range_eq_range', Nat.mul_zero, List.take_zero] at this
  exact this
theorem lastN_cut (l : Nat) (rec : Rec) (m : Nat) : lastN (cutR l rec) m = l + cutN rec.length := by
  have hp := cutN_pos rec.length
  obtain ⟨k, hk⟩ : ∃ k, cutN rec.length = k + 1 := ⟨cutN rec.length - 1, by omega⟩
  unfold cutR
  rw [hk, List.range_succ, List.map_append, lastN_append]
  simp only [List.map_cons, List.map_nil, lastN, cutAt]
  rw [if_pos (by simp [hk])]
  omega
/-- the pieces of records, one behind the other -/
def cutAll : Nat → List Rec → List Pc
  | _, [] => []
  | l, r :: rs => cutR l r ++ cutAll (l + cutN r.length) rs
theorem grp_all : ∀ (l : Nat) (rs : List Rec), grp (cutAll l rs) [] = rs
  | _, [] => rfl
  | l, r :: rs => by rw [cutAll, grp_cut, grp_all]
theorem cutAll_snoc (r : Rec) : ∀ (l : Nat) (rs : List Rec), cutAll l (rs ++ [r]) = cutAll l rs ++ cutR (l + (cutAll l rs).length) r
  | l, [] => by simp [cutAll]
  | l, q :: rs => by
    simp only [List.cons_append, cutAll, cutAll_snoc r, List.append_assoc, List.length_append, cutR_length]
    rw [Nat.add_assoc]
theorem lastN_all : ∀ (l : Nat) (rs : List Rec), lastN (cutAll l rs) l = l + (cutAll l rs).length
  | l, [] => rfl
  | l, r :: rs => by
    rw [cutAll, lastN_append, lastN_cut, lastN_all, List.length_append, cutR_length]; omega
/-- a beginning of pieces tells a beginning of records -/
theorem grp_begin {ps qs : List Pc} (l : Nat) {rs : List Rec} (h : ps ++ qs = cutAll l rs) : ∃ ts, grp ps [] ++ ts = rs := by
  obtain ⟨m, hm⟩ := grp_append ps qs []
  exact ⟨_, by rw [← hm, h, grp_all]⟩
end Go.Proofs.Yteoeaojebklfjaa
