/- could's look: masks; what was looked at, as keys of a map. -/
import Derived.Test.YtajbagdgjbihjaaD7
import Derived.Test.YtajbagdgjbihjaaD6
import Derived.Test.YtajbagdgjbihjaaQ1
import Derived.ChangeKeys
import Derived.Laws.Bits64b
namespace Go.Proofs.Ytajbagdgjbihjaa
open Go.RowKit Go.Maps
set_option linter.unusedVariables false

theorem wrap_i64_small (n : Nat) (h : n < 4611686018427387904) : IntKind.i64.wrap (n : Int) = (n : Int) := by
  simp only [IntKind.wrap, IntKind.bits, IntKind.signed]
  simp
  omega
theorem bits_and_i64 (a b : Nat) (ha : a < 4611686018427387904) (hb : b < 4611686018427387904) : bits .and .i64 (a : Int) (b : Int) = ((a &&& b : Nat) : Int) := by
  have hx : a &&& b < 2 ^ 62 := Nat.and_lt_two_pow _ (by omega)
  have h1 : (BitVec.ofInt 64 (a : Int)).toNat = a := by
    rw [BitVec.ofInt_natCast, BitVec.toNat_ofNat]; exact Nat.mod_eq_of_lt (by omega)
  have h2 : (BitVec.ofInt 64 (b : Int)).toNat = b := by
    rw [BitVec.ofInt_natCast, BitVec.toNat_ofNat]; exact Nat.mod_eq_of_lt (by omega)
  show IntKind.i64.wrap ((BitVec.ofInt 64 (a : Int) &&& BitVec.ofInt 64 (b : Int)).toNat : Int) = _
  rw [BitVec.toNat_and, h1, h2]
  exact wrap_i64_small _ (by omega)
theorem bits_or_i64 (a b : Nat) (ha : a < 4611686018427387904) (hb : b < 4611686018427387904) : bits .or .i64 (a : Int) (b : Int) = ((a ||| b : Nat) : Int) := by
  have hx : a ||| b < 2 ^ 62 := Nat.or_lt_two_pow (by omega) (by omega)
  have h1 : (BitVec.ofInt 64 (a : Int)).toNat = a := by
    rw [BitVec.ofInt_natCast, BitVec.toNat_ofNat]; exact Nat.mod_eq_of_lt (by omega)
  have h2 : (BitVec.ofInt 64 (b : Int)).toNat = b := by
    rw [BitVec.ofInt_natCast, BitVec.toNat_ofNat]; exact Nat.mod_eq_of_lt (by omega)
  show IntKind.i64.wrap ((BitVec.ofInt 64 (a : Int) ||| BitVec.ofInt 64 (b : Int)).toNat : Int) = _
  rw [BitVec.toNat_or, h1, h2]
  exact wrap_i64_small _ (by omega)
theorem two_pow_small {i : Nat} (hi : i < 14) : 2 ^ i < 16384 := Nat.pow_lt_pow_right (by decide) (show i < 14 from hi)
theorem shl_small {i : Nat} (hi : i < 14) : wrap64 ((2 : Int) ^ i) = ((2 ^ i : Nat) : Int) := by
  have := two_pow_small hi
  have e : ((2 : Int) ^ i) = ((2 ^ i : Nat) : Int) := by simp
  rw [e]
  obtain ⟨p, hp⟩ : ∃ p, p = 2 ^ i := ⟨_, rfl⟩
  rw [← hp] at this ⊢
  exact IntWalk.wrap64_in _ (by omega)
theorem and_bit (a i : Nat) : (a &&& 2 ^ i = 0) ↔ a.testBit i = false := by
  constructor
  · intro h
    have := congrArg (fun x => x.testBit i) h
    simpa [Nat.testBit_and, Nat.testBit_two_pow] using this
  · intro h
    refine Nat.eq_of_testBit_eq fun k => ?_
    rw [Nat.testBit_and, Nat.testBit_two_pow, Nat.zero_testBit]
    by_cases hk : i = k
    · subst hk; rw [h]; rfl
    · rw [decide_eq_false hk, Bool.and_false]
theorem and_need (a n : Nat) : (a &&& n = n) ↔ ∀ i, n.testBit i = true → a.testBit i = true := by
  constructor
  · intro h i hi
    have := congrArg (fun x => x.testBit i) h
    simp only [Nat.testBit_and, hi, Bool.and_true] at this
    exact this
  · intro h
    refine Nat.eq_of_testBit_eq fun i => ?_
    rw [Nat.testBit_and]
    cases hn : n.testBit i with
    | false => simp
    | true => rw [h i hn]; rfl
theorem or_bit (a i : Nat) : (fun k => (a ||| 2 ^ i).testBit k) = fun k => a.testBit k || decide (k = i) := by
  funext k
  rw [Nat.testBit_or, Nat.testBit_two_pow]
  congr 1
  rw [Bool.eq_iff_iff, decide_eq_true_eq, decide_eq_true_eq]
  exact eq_comm
theorem or_small {a i : Nat} (ha : a < 16384) (hi : i < 14) : a ||| 2 ^ i < 16384 := Nat.or_lt_two_pow (n := 14) ha (two_pow_small hi)
/-! ### states -/
def stV (done : Nat) (st : Option ByteArray) : Value := .agg #[.int .i64 (done : Int), .bool st.isSome, .string (st.getD ⟨#[]⟩)]
def sk (s : Nat × Option ByteArray) : Lit := .string (keyBytes [.int .i64 (s.1 : Int), .bool s.2.isSome, .string (s.2.getD ⟨#[]⟩).data.toList])
/-- a state that may be -/
def StOk (s : Nat × Option ByteArray) : Prop := s.1 < 16384 ∧ ∀ v, s.2 = some v → v.size ≤ 2000
theorem StOk.size {s : Nat × Option ByteArray} (h : StOk s) : (s.2.getD ⟨#[]⟩).size ≤ 2000 := by
  cases hs : s.2 with
  | none => decide
  | some v => exact h.2 v hs
theorem StOk.wf {s : Nat × Option ByteArray} (h : StOk s) : (Lit.int .i64 (s.1 : Int)).wf = true := WalkArith.wf_i64 (by have := h.1; omega)
theorem sk_wf {s : Nat × Option ByteArray} (h : StOk s) : ∀ a ∈ [Lit.int .i64 (s.1 : Int), Lit.bool s.2.isSome, Lit.string (s.2.getD ⟨#[]⟩).data.toList], a.keyWf := by
  intro a ha
  simp only [List.mem_cons, List.not_mem_nil, or_false] at ha
  rcases ha with rfl | rfl | rfl
  · exact h.wf
  · trivial
  · have := h.size
    show (s.2.getD ⟨#[]⟩).data.toList.length ≤ maxLen
    have : (s.2.getD ⟨#[]⟩).data.toList.length ≤ 2000 := by simpa using this
    exact Nat.le_trans this (by decide)
theorem sk_inj {s t : Nat × Option ByteArray} (h : StOk s) (h' : StOk t) (e : sk s = sk t) : s = t := by
  unfold sk at e
  injection e with e
  have := keyBytes_inj (l := [.int .i64 (s.1 : Int), .bool s.2.isSome, .string (s.2.getD ⟨#[]⟩).data.toList]) (l' := [.int .i64 (t.1 : Int), .bool t.2.isSome, .string (t.2.getD ⟨#[]⟩).data.toList]) ⟨rfl, ⟨trivial, ⟨trivial, trivial⟩⟩⟩ (sk_wf h) (sk_wf h') e
  simp only [List.cons.injEq, and_true, Lit.string.injEq, Lit.int.injEq, true_and, Lit.bool.injEq] at this
  obtain ⟨h1, h2, h3⟩ := this
  have h4 : (s.2.getD ⟨#[]⟩).data = (t.2.getD ⟨#[]⟩).data := Array.toList_inj.1 h3
  obtain ⟨s1, s2⟩ := s
  obtain ⟨t1, t2⟩ := t
  simp only at h1 h2 h4 ⊢
  have h5 : s1 = t1 := by omega
  subst h5
  congr 1
  cases s2 with
  | none =>
    cases t2 with
    | none => rfl
    | some y => cases h2
  | some x =>
    cases t2 with
    | none => cases h2
    | some y =>
      simp only [Option.getD_some] at h4
      cases x; cases y; simp_all
theorem laid84 : Go.WideMaps.KeyLaw Try.prog 84 := deep_law_laid laid (m := 2) (by omega) (of_decide_eq_true (by kernel_rfl)) (by kernel_rfl) (by kernel_rfl)
theorem keyed84 : Keyed Try.prog 84 := Keyed.of_law laid84
theorem under81 : Try.prog.underlying 81 = some (.map 84 3) := by kernel_rfl
noncomputable def fs84 : Array Field := match Try.prog.underlying 84 with
  | some (.struct fs) => fs
  | _ => #[]
set_option maxRecDepth 20000 in
theorem key_st {s : Nat × Option ByteArray} (h : StOk s) : keyOf Try.prog 84 (stV s.1 s.2) = some (sk s) := by
  have h84 : Try.prog.underlying 84 = some (.struct fs84) := by kernel_rfl
  obtain ⟨d, hd⟩ : ∃ d : Int, d = (s.1 : Int) := ⟨_, rfl⟩
  obtain ⟨b, hb⟩ : ∃ b, b = s.2.isSome := ⟨_, rfl⟩
  obtain ⟨k, hk⟩ : ∃ k, k = s.2.getD ⟨#[]⟩ := ⟨_, rfl⟩
  have hw := h.wf
  have hs := h.size
  unfold stV sk
  rw [← hd, ← hb, ← hk]
  rw [← hd] at hw
  rw [← hk] at hs
  unfold keyOf
  rw [h84]
  simp only
  have e1 : Try.prog.keyType 84 = true := by kernel_rfl
  have e2 : Value.formed Try.prog 84 (.agg #[.int .i64 d, .bool b, .string k]) = true := by kernel_rfl
  have e3 : Try.prog.keyLits (Try.prog.types.size + 1) 84 (Value.agg #[.int .i64 d, .bool b, .string k]).cells.toList = ([if IntKind.i64 = IntKind.i64 ∧ (Lit.int .i64 d).wf = true then some [Lit.int .i64 d] else none, some [Lit.bool b], if k.size ≤ maxLen then some [Lit.string k.data.toList] else none].mapM id).map List.flatten := by
    kernel_rfl
  have f1 : (if k.size ≤ maxLen then some [Lit.string k.data.toList] else none) = some [Lit.string k.data.toList] := if_pos (Nat.le_trans hs (by decide))
  have f2 : (if IntKind.i64 = IntKind.i64 ∧ (Lit.int .i64 d).wf = true then some [Lit.int .i64 d] else none) = some [Lit.int .i64 d] := if_pos ⟨rfl, hw⟩
  rw [f1, f2] at e3
  rw [e3, if_pos (by rw [e1, e2]; rfl)]
  rfl
end Go.Proofs.Ytajbagdgjbihjaa
