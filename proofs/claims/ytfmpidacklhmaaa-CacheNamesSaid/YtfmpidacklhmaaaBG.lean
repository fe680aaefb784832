/- A6 + A8 in one text. -/
import Derived.Test.YtfmpidacklhmaaaA1
import Derived.Lib.ConvBytes
/- Place (53) of one shard. -/
namespace Go.Proofs.Ytfmpidacklhmaaa
open Go.RowKit Go.Maps Go.Lib
set_option linter.unusedVariables false
set_option maxRecDepth 20000

theorem bytes_only (w : World) (e : TypeId) (s : ByteArray) : Only None' w (bytesWorld w e s) :=
  ⟨rfl, rfl, rfl, by rw [bytesWorld_size]; omega, fun i hi _ => bytesWorld_at_old w e s i hi⟩
theorem place_any (key : ByteArray) (hk : key.size ≤ 1000000) (w : World) : Calls Try.prog 53 #[.string key, .int .i64 1] w fun e w' => e = .returned (.int .i64 0) ∧ Only None' w w' := by
  have hcv := Go.Lib.run_convert_string_bytes (P := Try.prog) w 9 119 5 key Try.underlying9 Try.underlying119 Try.underlying5
  have O1 : Hid (Only None' w (bytesWorld w 5 key)) := Lib.hid (bytes_only w 5 key)
  have HC : Hid (∀ j, j < key.size → (bytesWorld w 5 key).cell? ⟨w.heap.size, j, none⟩ = some (.int .u8 (key.data.toList.getD j 0).toNat)) := Lib.hid fun j hj => bytesWorld_cell w 5 key j hj
  generalize bytesWorld w 5 key = w1 at hcv O1 HC
  generalize grownCap w key.size 0 5 = cp at hcv
  generalize w.heap.size = B at hcv HC
  obtain ⟨n, hn⟩ : ∃ n, n = key.size := ⟨_, rfl⟩
  have HN := Lib.hid (And.intro hn hk)
  rw [← hn] at hcv
  clear hk hn
  go_enter Try.func53, Try.ntmps53
  go_wp2_with fail
  go_loopw [5, 13] (fun u5 u13 wr => ∃ (j : Nat) (z : Int), j ≤ n ∧ u13 = .int .i64 (j : Int) ∧ u5 = .int .i64 z ∧ wr = w1) (fun u5 u13 wr => n - (intOf u13).toNat)
  case atStart => exact ⟨0, 0, by omega, rfl, by first | rfl | trivial, by first | rfl | trivial⟩
  case round =>
    obtain ⟨j, z, hj, rfl, rfl, rfl⟩ := hrel
    by_cases hlt : j < n
    · have hc := HC.out j (by have := HN.out; omega)
      generalize (key.data.toList.getD j 0).toNat = b at hc
      have j0 : (0 : Int) ≤ (j : Int) := by omega
      have j1 : (j : Int) < (n : Int) := by omega
      have HLT := Lib.hid hlt
      clear hlt hj
      go_wp2_with fail
      go_roundw
      case rel => exact ⟨j + 1, _, by have := HLT.out; omega, next_int (by have := HLT.out; have := HN.out; omega), by first | rfl | trivial, by first | rfl | trivial⟩
      case measure => exact meas HLT.out (by have := HN.out; omega)
    · obtain rfl : j = n := by omega
      have hz : Int.tmod z 1 = 0 := Int.tmod_one z
      clear hlt hj
      go_wp2_with fail
      go_ret
      exact ⟨rfl, O1.out⟩
end Go.Proofs.Ytfmpidacklhmaaa
/- place (38); May (15). -/
namespace Go.Proofs.Ytfmpidacklhmaaa
open Go.RowKit Go.Maps
set_option linter.unusedVariables false
set_option maxRecDepth 20000

theorem place38_any {w : World} {C : Nat} (hc : w.cell? ⟨C, 3, none⟩ = some (.int .i64 1)) (key : ByteArray) (hk : key.size ≤ 1000000) : Calls Try.prog 38 #[.pointer (some ⟨C, 0, none⟩), .string key] w fun e w' => e = .returned (.int .i64 0) ∧ Only None' w w' := by
  have HK := Lib.hid hk
  clear hk
  go_enter Try.func38, Try.ntmps38
  go_wp2_with fail
  refine (place_any key HK.out w).mono ?_
  rintro e w1 ⟨rfl, o1⟩
  have O1 := Lib.hid o1
  clear o1
  go_wp2_with fail
  go_ret
  exact ⟨rfl, O1.out⟩
theorem may_su (w : World) : Calls Try.prog 15 #[suV] w fun e w' => e = .returned (.bool true) ∧ Only None' w w' := by
  have hin := fun (n a b : Int) (w : World) => in_any n a b w
  have HI := Lib.hid hin
  have HO : Hid (Only None' w (w.alloc (.cells suR.toArray 28))) := Lib.hid ((Only.refl None' w).alloc _)
  unfold suV
  unfold suR at HO
  clear hin
  go_enter Try.func15, Try.ntmps15
  iterate 14 (go_wp2_with fail; first | (refine (HI.out _ _ _ _).mono ?_; rintro e w1 ⟨rfl, rfl⟩) | skip)
  go_ret
  exact ⟨rfl, HO.out⟩
theorem may_no (w : World) : Calls Try.prog 15 #[suZ] w fun e w' => e = .returned (.bool false) ∧ Only None' w w' := by
  have hin := fun (n a b : Int) (w : World) => in_any n a b w
  have HI := Lib.hid hin
  have HO : Hid (Only None' w (w.alloc (.cells #[.int .i64 0, .int .i64 0, .int .i64 0, .int .i64 0, .int .i64 0, .int .i64 0, .int .i64 0, .int .i64 0, .int .i64 0, .int .i64 0, .int .i64 0, .int .i64 0, .int .i64 0] 28))) := Lib.hid ((Only.refl None' w).alloc _)
  unfold suZ
  clear hin
  go_enter Try.func15, Try.ntmps15
  iterate 3 (go_wp2_with fail; first | (refine (HI.out _ _ _ _).mono ?_; rintro e w1 ⟨rfl, rfl⟩) | skip)
  go_ret
  exact ⟨rfl, HO.out⟩
end Go.Proofs.Ytfmpidacklhmaaa
