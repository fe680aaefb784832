/- The order of leases: cmp.Compare, cmp.Or, before. -/
import Derived.Test.YtfjfpnlcmjpofaaS5
import Derived.Sort.Walk0
import Derived.Laws.Cover1
import Derived.Shelf.SlSortCmp.WholeK
import Derived.Shelf.Lay
import Derived.Shelf.LaySoft
import Derived.Ground.SlsfProg
namespace Go.Proofs.Ytfjfpnlcmjpofaa
open Go.RowKit Go.Maps Go.Sort
set_option linter.unusedVariables false

abbrev Str := List UInt8
def cmpS (a b : Str) : Int := if a < b then -1 else if b < a then 1 else 0
def cmpI (a b : Int) : Int := if a < b then -1 else if b < a then 1 else 0
def bef (x y : Ls) : Int := if cmpS x.key.data.toList y.key.data.toList = 0 then cmpI x.cache y.cache else cmpS x.key.data.toList y.key.data.toList
theorem isNaN_str (a : ByteArray) (w : World) : Calls Try.prog 50 #[.string a] w fun e w' => e = .returned (.bool false) ∧ w' = w := by
  go_enter Try.func50, Try.ntmps50
  go_wp2_with fail
  go_ret
  exact ⟨rfl, rfl⟩
theorem isNaN_int (a : Int) (w : World) : Calls Try.prog 51 #[.int .i64 a] w fun e w' => e = .returned (.bool false) ∧ w' = w := by
  go_enter Try.func51, Try.ntmps51
  go_wp2_with fail
  go_ret
  exact ⟨rfl, rfl⟩
theorem compare_str (a b : Str) (w : World) : Calls Try.prog 37 #[.string ⟨a.toArray⟩, .string ⟨b.toArray⟩] w fun e w' => e = .returned (.int .i64 (cmpS a b)) ∧ w' = w := by
  have HN := Lib.hid (fun x w => isNaN_str x w)
  unfold cmpS
  by_cases h1 : a < b
  · rw [if_pos h1]
    have e1 : Op.bytesLess a b = true := by rw [bytesLess_eq, decide_eq_true_eq]; exact h1
    clear h1
    go_enter Try.func37, Try.ntmps37
    go_wp2_with (go_at_call 50; refine (HN.out _ _).mono ?_; rintro e w' ⟨rfl, rfl⟩)
    go_ret
    exact ⟨rfl, rfl⟩
  · rw [if_neg h1]
    have e1 : Op.bytesLess a b = false := by rw [bytesLess_eq, decide_eq_false_iff_not]; exact h1
    by_cases h2 : b < a
    · rw [if_pos h2]
      have e2 : (a == b) = false := by rw [beq_eq_false_iff_ne]; rintro rfl; exact List.lt_irrefl a h2
      clear h1 h2
      go_enter Try.func37, Try.ntmps37
      go_wp2_with (go_at_call 50; refine (HN.out _ _).mono ?_; rintro e w' ⟨rfl, rfl⟩)
      go_ret
      exact ⟨rfl, rfl⟩
    · rw [if_neg h2]
      have e2 : (a == b) = true := by rw [beq_iff_eq]; exact List.le_antisymm h2 h1
      clear h1 h2
      go_enter Try.func37, Try.ntmps37
      go_wp2_with (go_at_call 50; refine (HN.out _ _).mono ?_; rintro e w' ⟨rfl, rfl⟩)
      go_ret
      exact ⟨rfl, rfl⟩
theorem compare_int (a b : Int) (w : World) : Calls Try.prog 38 #[.int .i64 a, .int .i64 b] w fun e w' => e = .returned (.int .i64 (cmpI a b)) ∧ w' = w := by
  have HN := Lib.hid (fun x w => isNaN_int x w)
  unfold cmpI
  by_cases h1 : a < b
  · rw [if_pos h1]
    go_enter Try.func38, Try.ntmps38
    go_wp2_with (go_at_call 51; refine (HN.out _ _).mono ?_; rintro e w' ⟨rfl, rfl⟩)
    go_ret
    exact ⟨rfl, rfl⟩
  · rw [if_neg h1]
    by_cases h2 : b < a
    · rw [if_pos h2]
      go_enter Try.func38, Try.ntmps38
      go_wp2_with (go_at_call 51; refine (HN.out _ _).mono ?_; rintro e w' ⟨rfl, rfl⟩)
      go_ret
      exact ⟨rfl, rfl⟩
    · rw [if_neg h2]
      go_enter Try.func38, Try.ntmps38
      go_wp2_with (go_at_call 51; refine (HN.out _ _).mono ?_; rintro e w' ⟨rfl, rfl⟩)
      go_ret
      exact ⟨rfl, rfl⟩
end Go.Proofs.Ytfjfpnlcmjpofaa
