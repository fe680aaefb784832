/- Check (35). -/
import Derived.Test.YtfmpidacklhmaaaA1
import Derived.Test.YtfmpidacklhmaaaS4
namespace Go.Proofs.Ytfmpidacklhmaaa
open Go.RowKit Go.Maps
set_option linter.unusedVariables false
set_option maxRecDepth 20000

structure Op5 where
  kind : Int
  key : ByteArray
  val : ByteArray
  old : ByteArray
  had : Bool
  deriving DecidableEq
def Op5.v (o : Op5) : Value := .agg #[.int .u8 o.kind, .string o.key, .string o.val, .string o.old, .bool o.had]
def Op5.code (o : Op5) : Int := if o.kind < 1 ∨ 4 < o.kind then 1 else if o.key.size = 0 ∨ 32 < o.key.size ∨ 2000 < o.val.size ∨ 2000 < o.old.size then 40 else 0
theorem size_zero {a : ByteArray} (h : a.size = 0) : a = ⟨#[]⟩ := by
  cases a with
  | mk d =>
    have : d.size = 0 := h
    rw [Array.eq_empty_of_size_eq_zero this]
set_option maxHeartbeats 1000000 in
theorem dcheck_any (o : Op5) (w : World) : Calls Try.prog 35 #[o.v] w fun e w' => e = .returned (.int .i64 o.code) ∧ Only None' w w' := by
  obtain ⟨kd, key, val, old, had⟩ := o
  have HO := Lib.hid ((Only.refl None' w).alloc (.cells #[.int .u8 kd, .string key, .string val, .string old, .bool had] 34))
  unfold Op5.v Op5.code
  simp only
  go_enter Try.func35, Try.ntmps35
  by_cases h1 : kd < 1
  · have d1 : decide (kd < 1) = true := decide_eq_true h1
    rw [if_pos (.inl h1)]
    go_wp2_with fail
    go_ret
    exact ⟨rfl, HO.out⟩
  · have d1 : decide (kd < 1) = false := decide_eq_false h1
    by_cases h2 : 4 < kd
    · have d2 : decide (4 < kd) = true := decide_eq_true h2
      rw [if_pos (.inr h2)]
      clear h1
      go_wp2_with fail
      go_ret
      exact ⟨rfl, HO.out⟩
    · have d2 : decide (4 < kd) = false := decide_eq_false h2
      rw [if_neg (by omega)]
      clear h1 h2
      by_cases hk : key.size = 0
      · obtain rfl := size_zero hk
        rw [if_pos (.inl hk)]
        clear hk
        go_wp2_with fail
        go_ret
        exact ⟨rfl, HO.out⟩
      · have hk2 : key.toList ≠ [] := fun e => hk (by
          have h := same_str key ⟨#[]⟩
          rw [show (⟨#[]⟩ : ByteArray).toList = [] by rw [ByteArray.toList_eq], e] at h
          have := of_decide_eq_true h.symm
          rw [this]; rfl)
        have hk' : key.toList.isEmpty = false := by
          rw [List.isEmpty_eq_false_iff]; exact hk2
        by_cases h3 : 32 < key.size
        · have d3 : decide ((32 : Int) < (key.size : Int)) = true := by rw [decide_eq_true_eq]; omega
          have d3' : (32 : Int) < (key.size : Int) := by omega
          rw [if_pos (.inr (.inl h3))]
          clear h3 hk
          go_wp2_with fail
          go_ret
          exact ⟨rfl, HO.out⟩
        · have d3 : decide ((32 : Int) < (key.size : Int)) = false := by rw [decide_eq_false_iff_not]; omega
          have d3' : ¬ (32 : Int) < (key.size : Int) := by omega
          by_cases h4 : 2000 < val.size
          · have d4 : decide ((2000 : Int) < (val.size : Int)) = true := by rw [decide_eq_true_eq]; omega
            have d4' : (2000 : Int) < (val.size : Int) := by omega
            rw [if_pos (.inr (.inr (.inl h4)))]
            clear h3 h4 hk
            go_wp2_with fail
            go_ret
            exact ⟨rfl, HO.out⟩
          · have d4 : decide ((2000 : Int) < (val.size : Int)) = false := by rw [decide_eq_false_iff_not]; omega
            have d4' : ¬ (2000 : Int) < (val.size : Int) := by omega
            by_cases h5 : 2000 < old.size
            · have d5 : decide ((2000 : Int) < (old.size : Int)) = true := by rw [decide_eq_true_eq]; omega
              have d5' : (2000 : Int) < (old.size : Int) := by omega
              rw [if_pos (.inr (.inr (.inr h5)))]
              clear h3 h4 h5 hk
              go_wp2_with fail
              go_ret
              exact ⟨rfl, HO.out⟩
            · have d5 : decide ((2000 : Int) < (old.size : Int)) = false := by rw [decide_eq_false_iff_not]; omega
              have d5' : ¬ (2000 : Int) < (old.size : Int) := by omega
              rw [if_neg (by omega)]
              clear h3 h4 h5 hk
              go_wp2_with fail
              go_ret
              exact ⟨rfl, HO.out⟩
/-! ### the closures: does a pair bear the key? -/
end Go.Proofs.Ytfmpidacklhmaaa
