/- A piece, plainly: its sector. No program. -/
import Derived.Test.YteoeaojebklfjaaD0
namespace Go.Proofs.Yteoeaojebklfjaa
set_option linter.unusedVariables false

structure Pc where
  n : Nat
  last : Bool
  data : List UInt8

structure Pc.Ok (p : Pc) : Prop where
  pos : 1 ≤ p.n
  top : p.n ≤ 4611686018427387904
  size : p.data.length ≤ 501
  full : p.last = false → p.data.length = 501

/-- byte number i of a number -/
def byteAt (n i : Nat) : UInt8 := UInt8.ofNat (n / 256 ^ i % 256)
def le8 (n : Nat) : List UInt8 := (List.range 8).map (byteAt n)
def flag (b : Bool) : UInt8 := if b then 1 else 0
/-- a piece laid out -/
def Pc.lay (p : Pc) : Sec := le8 p.n ++ [flag p.last, UInt8.ofNat (p.data.length % 256), UInt8.ofNat (p.data.length / 256 % 256)] ++ p.data ++ List.replicate (501 - p.data.length) 0

theorem le8_length (n : Nat) : (le8 n).length = 8 := by simp [le8]
theorem Pc.lay_length (p : Pc) (h : p.data.length ≤ 501) : p.lay.length = 512 := by
  simp [Pc.lay, le8_length]; omega

/-- a number out of bytes, the lowest first -/
def num : List UInt8 → Nat
  | [] => 0
  | b :: r => b.toNat + 256 * num r
theorem byteAt_toNat (n i : Nat) : (byteAt n i).toNat = n / 256 ^ i % 256 := by
  unfold byteAt
  exact UInt8.toNat_ofNat_of_lt' (by show _ < 256; omega)
theorem num_map (n : Nat) : ∀ (k i : Nat), num ((List.range' i k).map (byteAt n)) = n / 256 ^ i % 256 ^ k
  | 0, i => by simp [num, Nat.mod_one]
  | k + 1, i => by
    rw [List.range'_succ, List.map_cons, num, num_map n k (i + 1), byteAt_toNat]
    have h1 : n / 256 ^ (i + 1) = n / 256 ^ i / 256 := by rw [Nat.pow_succ, Nat.div_div_eq_div_mul]
    rw [h1, Nat.pow_succ 256 k, Nat.mul_comm (256 ^ k) 256, Nat.mod_mul]
theorem num_le8 {n : Nat} (h : n < 18446744073709551616) : num (le8 n) = n := by
  have := num_map n 8 0
  rw [Nat.pow_zero, Nat.div_one] at this
  rw [le8, List.range_eq_range', this]
  exact Nat.mod_eq_of_lt (by omega)

/-- the piece of a sector -/
def pieceN (s : Sec) : Nat := num (s.take 8)
def pieceSize (s : Sec) : Nat := (s.getD 9 0).toNat + 256 * (s.getD 10 0).toNat
def pieceOf (s : Sec) : Option Pc :=
  let p : Pc := ⟨pieceN s, s.getD 8 0 == 1, (s.drop 11).take (pieceSize s)⟩
  if pieceN s < 1 ∨ 4611686018427387904 < pieceN s ∨ 501 < pieceSize s then none
  else if p.lay ≠ s ∨ (p.last = false ∧ pieceSize s ≠ 501) then none
  else some p

theorem flag_is (b : Bool) : (flag b == 1) = b := by cases b <;> rfl

theorem pieceOf_lay {p : Pc} (h : p.Ok) : pieceOf p.lay = some p := by
  obtain ⟨n, last, data⟩ := p
  obtain ⟨h1, h2, h3, h4⟩ := h
  simp only at h1 h2 h3 h4
  have e1 : pieceN (Pc.lay ⟨n, last, data⟩) = n := by
    unfold pieceN Pc.lay
    rw [List.append_assoc, List.append_assoc, List.take_left' (le8_length n)]
    exact num_le8 (by omega)
  have e2 : (Pc.lay ⟨n, last, data⟩).getD 8 0 = flag last := by
    unfold Pc.lay
    simp only [List.getD_eq_getElem?_getD, List.append_assoc]
    rw [List.getElem?_append_right (by rw [le8_length]; exact Nat.le_refl _), le8_length]
    rfl
  have e3 : (Pc.lay ⟨n, last, data⟩).getD 9 0 = UInt8.ofNat (data.length % 256) := by
    unfold Pc.lay
    simp only [List.getD_eq_getElem?_getD, List.append_assoc]
    rw [List.getElem?_append_right (by rw [le8_length]; decide), le8_length]
    rfl
  have e4 : (Pc.lay ⟨n, last, data⟩).getD 10 0 = UInt8.ofNat (data.length / 256 % 256) := by
    unfold Pc.lay
    simp only [List.getD_eq_getElem?_getD, List.append_assoc]
    rw [List.getElem?_append_right (by rw [le8_length]; decide), le8_length]
    rfl
  have e5 : pieceSize (Pc.lay ⟨n, last, data⟩) = data.length := by
    unfold pieceSize
    rw [e3, e4, UInt8.toNat_ofNat_of_lt' (by show _ < 256; omega), UInt8.toNat_ofNat_of_lt' (by show _ < 256; omega)]
    omega
  have e6 : ((Pc.lay ⟨n, last, data⟩).drop 11).take data.length = data := by
    unfold Pc.lay
    rw [List.append_assoc, List.drop_left' (by simp [le8_length]), List.take_left' rfl]
  unfold pieceOf
  simp only [e1, e2, e5, e6, flag_is]
  rw [if_neg (by omega), if_neg (by
    rintro (h | ⟨h, h'⟩)
    · exact h rfl
    · exact h' (h4 h))]

theorem pieceOf_some {s : Sec} {p : Pc} (h : pieceOf s = some p) : s = p.lay ∧ p.Ok := by
  unfold pieceOf at h
  simp only at h
  split at h
  · cases h
  · rename_i h1
    split at h
    · cases h
    · rename_i h2
      injection h with h
      subst h
      simp only [ne_eq, not_or, not_and, Decidable.not_not] at h1 h2
      refine ⟨h2.1.symm, ⟨by simp only; omega, by simp only; omega, ?_, fun hl => ?_⟩⟩
      · simp only [List.length_take]; omega
      · have h3 := h2.2 hl
        have hlen := congrArg List.length h2.1
        have hs : s.length = 512 ∨ s.length ≠ 512 := by omega
        simp only [List.length_take, List.length_drop]
        simp only [Pc.lay, List.length_append, le8_length, List.length_take, List.length_drop, List.length_replicate, List.length_cons, List.length_nil] at hlen
        omega
end Go.Proofs.Yteoeaojebklfjaa
