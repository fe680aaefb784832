/- The document's table, in a world; has, New, Early. -/
import Derived.Test.YtfjfpnlcmjpofaaKA
namespace Go.Proofs.Ytfjfpnlcmjpofaa
open Go.RowKit Go.Maps Go.Sort Go.Shelf
set_option linter.unusedVariables false

theorem under41 : Try.prog.underlying 41 = some (.slice 66) := by kernel_rfl
theorem under42 : Try.prog.underlying 42 = some (.slice 9) := by kernel_rfl
theorem info66 : Try.prog.info? 66 = some Try.t66 := by kernel_rfl
theorem t66_zero : Try.t66.zero = some Ls.zero.v := by kernel_rfl
theorem t66_size : Try.t66.size = 4 := by kernel_rfl
theorem t66_bytes : Try.t66.bytes = 40 := by kernel_rfl
theorem info9 : Try.prog.info? 9 = some Try.t9 := by kernel_rfl
theorem t9_zero : Try.t9.zero = some (.string ⟨#[]⟩) := by kernel_rfl
theorem t9_size : Try.t9.size = 1 := by kernel_rfl
theorem t9_bytes : Try.t9.bytes = 16 := by kernel_rfl
def sV (k : List UInt8) : Value := .string ⟨k.toArray⟩
theorem sV_key (k : ByteArray) : sV k.data.toList = .string k := by cases k; rfl
theorem data_toList (k : ByteArray) : k.toList = k.data.toList := ByteArray.toList_eq k
theorem sV_one (l : List (List UInt8)) : ∀ u ∈ l.map sV, u.oneCell' = true := by
  intro u hu
  obtain ⟨k, _, rfl⟩ := List.mem_map.1 hu
  rfl
structure DocAt (w : World) (X : Nat) (lv sv : Value) (t : Tb) : Prop where
  cells : CellsR w X [.int .i64 (t.life : Int), .int .i64 t.hold, .int .i64 t.start, .int .i64 (t.given : Int), lv, sv]
  row : Vec w 4 lv t.ls.length (t.ls.flatMap Ls.row)
  shut : Vec w 1 sv t.shut.length (t.shut.map sV)
  apart : (∀ g, lv.ownBlock = some g → g ≠ X) ∧ (∀ g, sv.ownBlock = some g → g ≠ X) ∧ ∀ g, lv.ownBlock = some g → sv.ownBlock ≠ some g
  ok : t.Ok
  few : t.shut.length ≤ t.cnt
section
variable {w w' : World} {X : Nat} {lv sv : Value} {t : Tb} {S : Nat → Prop}
theorem DocAt.only (h : DocAt w X lv sv t) (o : Only S w w') (hX : ¬ S X) (hl : ∀ g, lv.ownBlock = some g → ¬ S g) (hs : ∀ g, sv.ownBlock = some g → ¬ S g) : DocAt w' X lv sv t :=
  ⟨h.cells.kept o hX, h.row.only o hl, h.shut.only o hs, h.apart, h.ok, h.few⟩
theorem DocAt.new (h : DocAt w X lv sv t) (o : Only None' w w') : DocAt w' X lv sv t := h.only o (fun e => e) (fun _ _ e => e) fun _ _ e => e
theorem DocAt.drewN (h : DocAt w X lv sv t) (q : Nat) : DocAt (w.drewN q) X lv sv t := h.new ((Only.refl _ _).drewN q)
end
set_option maxRecDepth 20000 in
/-- is a key in a list of keys? -/
theorem has_any {w : World} {sv : Value} {n : Nat} {l : List (List UInt8)} (hv : Vec w 1 sv n (l.map sV)) (key : ByteArray) : Calls Try.prog 28 #[sv, .string key] w fun e w' => e = .returned (.bool (decide (key.data.toList ∈ l))) ∧ w = w' := by
  obtain ⟨a, k, rfl, hnk, hkm⟩ := hv.shape
  have hl : l.length = n := by have := hv.len; simpa using this
  have HV := Lib.hid hv
  have HL := Lib.hid (And.intro hl (Nat.le_trans hnk hkm))
  clear hv hl hnk hkm
  go_enter Try.func28, Try.ntmps28
  go_wp2_with fail
  go_loopw [5] (fun i wr => ∃ j : Nat, j ≤ n ∧ i = .int .i64 (j : Int) ∧ Hid (key.data.toList ∉ l.take j) ∧ w = wr) (fun i wr => n - (intOf i).toNat)
  case atStart => exact ⟨0, by omega, rfl, Lib.hid (by simp), rfl⟩
  case round =>
    obtain ⟨j, hj, rfl, HN, rfl⟩ := hrel
    by_cases hlt : j < n
    · have hjl : j < l.length := by have := HL.out.1; omega
      obtain ⟨g, off, rfl, hg, hcell, _⟩ := HV.out.form' (by omega)
      obtain ⟨x, hx⟩ : ∃ x, l[j]? = some x := ⟨_, List.getElem?_eq_getElem hjl⟩
      have q0 := hcell j (sV x) (by rw [List.getElem?_map, hx]; rfl)
      unfold sV at q0
      have i0 : (0 : Int) ≤ (j : Int) := by omega
      have i1 : (j : Int) < (n : Int) := by omega
      have HX := Lib.hid hx
      have HLT := Lib.hid hlt
      clear hcell hj hlt hjl hg hx
      by_cases e : x = key.data.toList
      · have b1 : (x == key.toList) = true := by rw [data_toList, beq_iff_eq]; exact e
        have HIN : Hid (key.data.toList ∈ l) := Lib.hid (by rw [← e]; exact List.mem_of_getElem? HX.out)
        clear e
        go_wp2_with fail
        go_ret
        exact ⟨by rw [decide_eq_true HIN.out]; rfl, rfl⟩
      · have b1 : (x == key.toList) = false := by rw [data_toList, beq_eq_false_iff_ne]; exact e
        have HE := Lib.hid e
        clear e
        go_wp2_with fail
        go_roundw
        case rel =>
          refine ⟨j + 1, by have := HLT.out; omega, next_len HLT.out HL.out.2, Lib.hid ?_, trivial⟩
          rw [List.take_add_one, HX.out, List.mem_append]
          rintro (h | h)
          · exact HN.out h
          · simp at h
            exact HE.out h.symm
        case measure => exact meas_len HLT.out HL.out.2
    · obtain rfl : j = n := by omega
      have HF : Hid (key.data.toList ∉ l) := Lib.hid (by have := HN.out; rwa [List.take_of_length_le (by have := HL.out.1; omega)] at this)
      go_wp2_with fail
      go_ret
      exact ⟨by rw [decide_eq_false HF.out]; rfl, rfl⟩
/-! ### New -/
theorem dnew_bad (life hold now : Int) (h : newB life hold now = false) (w : World) : Calls Try.prog 11 #[.int .i64 life, .int .i64 hold, .int .i64 now] w fun e w' => e = .returned (.tuple #[.pointer none, .int .i64 1]) ∧ w = w' := by
  unfold newB clockB at h
  by_cases h1 : life < 1
  · clear h
    go_enter Try.func11, Try.ntmps11
    go_wp2_with fail
    go_ret2
    exact ⟨rfl, rfl⟩
  by_cases h2 : 2047 < life
  · clear h
    go_enter Try.func11, Try.ntmps11
    go_wp2_with fail
    go_ret2
    exact ⟨rfl, rfl⟩
  by_cases h3 : hold < 1
  · clear h
    go_enter Try.func11, Try.ntmps11
    go_wp2_with fail
    go_ret2
    exact ⟨rfl, rfl⟩
  by_cases h4 : 2147483647 < hold
  · clear h
    go_enter Try.func11, Try.ntmps11
    go_wp2_with fail
    go_ret2
    exact ⟨rfl, rfl⟩
  by_cases h5 : now < 0
  · clear h
    go_enter Try.func11, Try.ntmps11
    go_wp2_with fail
    go_ret2
    exact ⟨rfl, rfl⟩
  have h6 : 2147483647 < now := by
    refine Classical.byContradiction fun h6 => ?_
    simp only [Bool.and_eq_false_iff, decide_eq_false_iff_not] at h
    omega
  clear h
  go_enter Try.func11, Try.ntmps11
  go_wp2_with fail
  go_ret2
  exact ⟨rfl, rfl⟩
theorem dnew_any (life : Nat) (hold now : Int) (h : newB (life : Int) hold now = true) (w : World) : Calls Try.prog 11 #[.int .i64 (life : Int), .int .i64 hold, .int .i64 now] w fun e w' => e = .returned (.tuple #[.pointer (some ⟨w.heap.size, 0, none⟩), .int .i64 0]) ∧ DocAt w' w.heap.size (.slice none 0 0) (.slice none 0 0) ⟨life, hold, now, 0, [], [], 0⟩ ∧ Only None' w w' := by
  unfold newB clockB at h
  simp only [Bool.and_eq_true, decide_eq_true_eq] at h
  obtain ⟨⟨⟨⟨h1, h2⟩, h3⟩, h4⟩, h5, h6⟩ := h
  have HK : Hid (1 ≤ life ∧ life ≤ 2047 ∧ 1 ≤ hold ∧ hold ≤ 2147483647 ∧ 0 ≤ now ∧ now ≤ 2147483647) := Lib.hid (by omega)
  go_enter Try.func11, Try.ntmps11
  go_wp2_with fail
  go_ret2
  obtain ⟨b1, b2, b3, b4, b5, b6⟩ := HK.out
  exact ⟨rfl, ⟨cells_new w [.int .i64 (life : Int), .int .i64 hold, .int .i64 now, .int .i64 0, .slice none 0 0, .slice none 0 0] 44, Vec.nil _ _, Vec.nil _ _, ⟨(fun g hg => by cases hg), (fun g hg => by cases hg), fun g hg => by cases hg⟩, ⟨b1, b2, Nat.zero_le _, b3, b4, b5, b6, .nil, fun x hx => absurd hx (List.not_mem_nil), Nat.zero_le _⟩, Nat.le_refl _⟩, (Only.refl _ _).alloc _⟩
/-! ### Early -/
theorem dearly_any {w : World} {X : Nat} {lv sv : Value} {t : Tb} (h : DocAt w X lv sv t) (now : Int) : Calls Try.prog 20 #[.pointer (some ⟨X, 0, none⟩), .int .i64 now] w fun e w' => e = .returned (.bool (decide (now < t.start + t.hold))) ∧ ∃ q, w' = w.drewN q := by
  have c1 := h.cells.is 1 _ rfl
  have c2 := h.cells.is 2 _ rfl
  have o := h.ok
  obtain ⟨a, ha⟩ : ∃ a, a = t.hold := ⟨_, rfl⟩
  obtain ⟨b, hb⟩ : ∃ b, b = t.start := ⟨_, rfl⟩
  have r1 := o.h1
  have r2 := o.h2
  have r3 := o.s1
  have r4 := o.s2
  rw [← ha] at c1 r1 r2 ⊢
  rw [← hb] at c2 r3 r4 ⊢
  clear h o ha hb
  go_enter Try.func20, Try.ntmps20
  go_wp2_with fail
  go_quiet (fail)
  go_wp2_with fail
  go_ret
  exact ⟨rfl, _, rfl⟩
end Go.Proofs.Ytfjfpnlcmjpofaa
