/- What a ring has, plainly. No program. -/
import Derived.Test.YteoeaojebklfjaaH0
namespace Go.Proofs.Yteoeaojebklfjaa
set_option linter.unusedVariables false

/-- what a ring's sector has; g: the ring's sectors -/
def seeG (count : Nat) (g : Nat → Sec) (i : Nat) : Option Pc := match pieceOf (g i) with
  | some p => if p.n % count = i then some p else none
  | none => none
/-- the piece of a number -/
def pieceG (count : Nat) (g : Nat → Sec) (n : Nat) : Option Pc := match seeG count g (n % count) with
  | some p => if p.n = n then some p else none
  | none => none
/-- the greatest number -/
def topG (count : Nat) (g : Nat → Sec) (base : Nat) : Nat → Nat
  | 0 => base
  | k + 1 => match seeG count g k with
    | some p => max (topG count g base k) p.n
    | none => topG count g base k
/-- records and the last one's number: k pieces at most, behind n -/
def runG (count : Nat) (g : Nat → Sec) : Nat → Nat → List (List UInt8) → List UInt8 → Nat → List (List UInt8) × Nat
  | 0, _, out, _, last => (out, last)
  | k + 1, n, out, now, last => match pieceG count g (n + 1) with
    | none => (out, last)
    | some p => if p.last then runG count g k (n + 1) (out ++ [now ++ p.data]) [] (n + 1) else runG count g k (n + 1) out (now ++ p.data) last

theorem seeG_some {count : Nat} {g : Nat → Sec} {i : Nat} {p : Pc} (h : seeG count g i = some p) : pieceOf (g i) = some p ∧ p.n % count = i := by
  unfold seeG at h
  split at h
  · rename_i q hq
    split at h
    · injection h with h
      subst h
      exact ⟨hq, ‹_›⟩
    · cases h
  · cases h
theorem seeG_ok {count : Nat} {g : Nat → Sec} {i : Nat} {p : Pc} (h : seeG count g i = some p) : p.Ok := (pieceOf_some (seeG_some h).1).2
theorem pieceG_some {count : Nat} {g : Nat → Sec} {n : Nat} {p : Pc} (h : pieceG count g n = some p) : pieceOf (g (n % count)) = some p ∧ p.n = n := by
  unfold pieceG at h
  split at h
  · rename_i q hq
    split at h
    · injection h with h
      subst h
      exact ⟨(seeG_some hq).1, ‹_›⟩
    · cases h
  · cases h
theorem pieceG_of {count : Nat} {g : Nat → Sec} {n : Nat} {p : Pc} (h : pieceOf (g (n % count)) = some p) (hn : p.n = n) : pieceG count g n = some p := by
  unfold pieceG seeG
  rw [h]
  simp only
  rw [if_pos (by rw [hn])]
  simp only
  rw [if_pos hn]
theorem topG_le {count : Nat} {g : Nat → Sec} {base : Nat} : ∀ k, base ≤ topG count g base k
  | 0 => Nat.le_refl _
  | k + 1 => by
    unfold topG
    split
    · exact Nat.le_trans (topG_le k) (Nat.le_max_left _ _)
    · exact topG_le k
theorem topG_big {count : Nat} {g : Nat → Sec} {base : Nat} (hb : base ≤ 4611686018427387904) : ∀ k, topG count g base k ≤ 4611686018427387904
  | 0 => hb
  | k + 1 => by
    unfold topG
    split
    · rename_i p hp
      exact Nat.max_le.2 ⟨topG_big hb k, (seeG_ok hp).top⟩
    · exact topG_big hb k
theorem topG_ge {count : Nat} {g : Nat → Sec} {base i : Nat} {p : Pc} (hp : seeG count g i = some p) : ∀ k, i < k → p.n ≤ topG count g base k
  | 0, h => absurd h (by omega)
  | k + 1, h => by
    unfold topG
    by_cases e : i = k
    · subst e
      rw [hp]
      exact Nat.le_max_right _ _
    · have := topG_ge (base := base) hp k (by omega)
      split
      · exact Nat.le_trans this (Nat.le_max_left _ _)
      · exact this
/-- the last number is between what it was and where the pieces end -/
theorem runG_last {count : Nat} {g : Nat → Sec} : ∀ (k n : Nat) (out : List (List UInt8)) (now : List UInt8) (last : Nat), last ≤ n → last ≤ (runG count g k n out now last).2 ∧ (runG count g k n out now last).2 ≤ n + k
  | 0, n, out, now, last, h => ⟨Nat.le_refl _, by unfold runG; omega⟩
  | k + 1, n, out, now, last, h => by
    unfold runG
    split
    · exact ⟨Nat.le_refl _, by simp only; omega⟩
    · rename_i p hp
      split
      · have := runG_last (count := count) (g := g) k (n + 1) (out ++ [now ++ p.data]) [] (n + 1) (Nat.le_refl _)
        exact ⟨by omega, by omega⟩
      · have := runG_last (count := count) (g := g) k (n + 1) out (now ++ p.data) last (by omega)
        exact ⟨this.1, by omega⟩
/-- ... and it is the number of a piece that is there, or what it was -/
theorem runG_top {count : Nat} {g : Nat → Sec} {top : Nat} (ht : ∀ n p, pieceG count g n = some p → p.n ≤ top) : ∀ (k n : Nat) (out : List (List UInt8)) (now : List UInt8) (last : Nat), last ≤ top → (runG count g k n out now last).2 ≤ top
  | 0, n, out, now, last, h => h
  | k + 1, n, out, now, last, h => by
    unfold runG
    split
    · exact h
    · rename_i p hp
      have := ht _ _ hp
      rw [(pieceG_some hp).2] at this
      split
      · exact runG_top ht k _ _ _ _ this
      · exact runG_top ht k _ _ _ _ h
theorem pieceG_top {count : Nat} {g : Nat → Sec} {base : Nat} (hc : 1 ≤ count) {n : Nat} {p : Pc} (h : pieceG count g n = some p) : p.n ≤ topG count g base count := by
  obtain ⟨h1, h2⟩ := pieceG_some h
  refine topG_ge (i := n % count) ?_ count (Nat.mod_lt _ (by omega))
  unfold seeG
  rw [h1]
  simp only
  rw [if_pos (by rw [h2])]
end Go.Proofs.Yteoeaojebklfjaa
