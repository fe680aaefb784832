/- dedup: Check (33), and the small closures (36, 38, 43, 44, 45). -/
import Derived.Test.YtajbagdgjbihjaaQ0
import Derived.Test.YtajbagdgjbihjaaE1
import Derived.Deep.RegionHeld3
import Derived.Laws.Strings
import Derived.Laws.Cover1
namespace Go.Proofs.Ytajbagdgjbihjaa
open Go.RowKit Go.Maps
set_option linter.unusedVariables false

def Op5.v (o : Op5) : Value := .agg #[.int .u8 o.kind, .string o.key, .string o.val, .string o.old, .bool o.had]
def Op5.row (o : Op5) : List Value := [.int .u8 o.kind, .string o.key, .string o.val, .string o.old, .bool o.had]
def Rs.v (r : Rs) : Value := .agg #[.int .u8 r.kind, .bool r.found, .string r.val]
def Rs.row (r : Rs) : List Value := [.int .u8 r.kind, .bool r.found, .string r.val]
def pairV (k v : ByteArray) : Value := .agg #[.string k, .string v]
def pairR (p : ByteArray × ByteArray) : List Value := [.string p.1, .string p.2]
/-- cells of a world -/
def Cs (w : World) (l : List (Nat × Nat × Value)) : Prop := ∀ p ∈ l, w.cell? ⟨p.1, p.2.1, none⟩ = some p.2.2
section
variable {w w' : World} {l : List (Nat × Nat × Value)} {S : Nat → Prop}
theorem Cs.only (h : Cs w l) (o : Only S w w') (hn : ∀ p ∈ l, ¬ S p.1) : Cs w' l := fun p hp => (o.cell (World.block_lt_of_cell? w _ (h p hp)) (hn p hp) _).trans (h p hp)
theorem Cs.new_ (h : Cs w l) (o : Only None' w w') : Cs w' l := h.only o fun _ _ e => e
theorem Cs.drewN (h : Cs w l) (q : Nat) : Cs (w.drewN q) l := h
theorem Cs.drew (h : Cs w l) : Cs w.drew l := h
end
theorem Cs.three {w : World} {a b c : Nat} {i j k : Nat} {x y z : Value} (h : Cs w [(a, i, x), (b, j, y), (c, k, z)]) : w.cell? ⟨a, i, none⟩ = some x ∧ w.cell? ⟨b, j, none⟩ = some y ∧ w.cell? ⟨c, k, none⟩ = some z :=
  ⟨h (a, i, x) (by simp), h (b, j, y) (by simp), h (c, k, z) (by simp)⟩
theorem Cs.four {w : World} {a b c d : Nat} {i j k m : Nat} {x y z u : Value} (h : Cs w [(a, i, x), (b, j, y), (c, k, z), (d, m, u)]) : w.cell? ⟨a, i, none⟩ = some x ∧ w.cell? ⟨b, j, none⟩ = some y ∧ w.cell? ⟨c, k, none⟩ = some z ∧ w.cell? ⟨d, m, none⟩ = some u :=
  ⟨h (a, i, x) (by simp), h (b, j, y) (by simp), h (c, k, z) (by simp), h (d, m, u) (by simp)⟩
theorem same_str (a b : ByteArray) : (a.toList == b.toList) = decide (a = b) := by
  rw [Bool.eq_iff_iff, beq_iff_eq, decide_eq_true_eq]
  constructor
  · intro h
    rw [ByteArray.toList_eq, ByteArray.toList_eq] at h
    have := Array.toList_inj.1 h
    cases a; cases b; simp_all
  · rintro rfl; rfl
theorem size_zero {a : ByteArray} (h : a.size = 0) : a = ⟨#[]⟩ := by
  cases a with
  | mk d =>
    have : d.size = 0 := h
    rw [Array.eq_empty_of_size_eq_zero this]
set_option maxRecDepth 20000 in
set_option maxHeartbeats 1000000 in
theorem dcheck_any (o : Op5) (w : World) : Calls Try.prog 33 #[o.v] w fun e w' => e = .returned (.int .i64 o.code) ∧ Only None' w w' := by
  obtain ⟨kd, key, val, old, had⟩ := o
  have HO := Lib.hid ((Only.refl None' w).alloc (.cells #[.int .u8 kd, .string key, .string val, .string old, .bool had] 24))
  unfold Op5.v Op5.code
  simp only
  go_enter Try.func33, Try.ntmps33
  by_cases h1 : kd < 1
  · have d1 : decide (kd < 1) = true := decide_eq_true h1
    rw [if_pos (.inl h1)]
    go_wp2_with fail
    go_ret
    exact ⟨rfl, HO.out⟩
  · have d1 : decide (kd < 1) = false := decide_eq_false h1
    by_cases h2 : 4 < kd
    · have d2 : decide (4 < kd) = true := decide_eq_true h2
      rw [if_pos (.inr h2)]
      clear h1
      go_wp2_with fail
      go_ret
      exact ⟨rfl, HO.out⟩
    · have d2 : decide (4 < kd) = false := decide_eq_false h2
      rw [if_neg (by omega)]
      clear h1 h2
      by_cases hk : key.size = 0
      · obtain rfl := size_zero hk
        rw [if_pos (.inl hk)]
        clear hk
        go_wp2_with fail
        go_ret
        exact ⟨rfl, HO.out⟩
      · have hk2 : key.toList ≠ [] := fun e => hk (by
          have h := same_str key ⟨#[]⟩
          rw [show (⟨#[]⟩ : ByteArray).toList = [] by rw [ByteArray.toList_eq], e] at h
          have := of_decide_eq_true h.symm
          rw [this]; rfl)
        have hk' : key.toList.isEmpty = false := by
          rw [List.isEmpty_eq_false_iff]; exact hk2
        by_cases h3 : 32 < key.size
        · have d3 : decide ((32 : Int) < (key.size : Int)) = true := by rw [decide_eq_true_eq]; omega
          have d3' : (32 : Int) < (key.size : Int) := by omega
          rw [if_pos (.inr (.inl h3))]
          clear h3 hk
          go_wp2_with fail
          go_ret
          exact ⟨rfl, HO.out⟩
        · have d3 : decide ((32 : Int) < (key.size : Int)) = false := by rw [decide_eq_false_iff_not]; omega
          have d3' : ¬ (32 : Int) < (key.size : Int) := by omega
          by_cases h4 : 2000 < val.size
          · have d4 : decide ((2000 : Int) < (val.size : Int)) = true := by rw [decide_eq_true_eq]; omega
            have d4' : (2000 : Int) < (val.size : Int) := by omega
            rw [if_pos (.inr (.inr (.inl h4)))]
            clear h3 h4 hk
            go_wp2_with fail
            go_ret
            exact ⟨rfl, HO.out⟩
          · have d4 : decide ((2000 : Int) < (val.size : Int)) = false := by rw [decide_eq_false_iff_not]; omega
            have d4' : ¬ (2000 : Int) < (val.size : Int) := by omega
            by_cases h5 : 2000 < old.size
            · have d5 : decide ((2000 : Int) < (old.size : Int)) = true := by rw [decide_eq_true_eq]; omega
              have d5' : (2000 : Int) < (old.size : Int) := by omega
              rw [if_pos (.inr (.inr (.inr h5)))]
              clear h3 h4 h5 hk
              go_wp2_with fail
              go_ret
              exact ⟨rfl, HO.out⟩
            · have d5 : decide ((2000 : Int) < (old.size : Int)) = false := by rw [decide_eq_false_iff_not]; omega
              have d5' : ¬ (2000 : Int) < (old.size : Int) := by omega
              rw [if_neg (by omega)]
              clear h3 h4 h5 hk
              go_wp2_with fail
              go_ret
              exact ⟨rfl, HO.out⟩
/-! ### the closures: does a pair bear the key? -/
set_option maxRecDepth 20000 in
theorem is36 (X : Nat) (o : Op5) (k v : ByteArray) {w : World} (h : w.cell? ⟨X, 1, none⟩ = some (.string o.key)) : Calls Try.prog 36 #[pairV k v, .pointer (some ⟨X, 0, none⟩)] w fun e w' => e = .returned (.bool (k.toList == o.key.toList)) ∧ Only None' w w' := by
  have HO := Lib.hid ((Only.refl None' w).alloc (.cells #[.string k, .string v] 67))
  have lX := World.block_lt_of_cell? w _ h
  unfold pairV
  go_enter Try.func36, Try.ntmps36
  go_wp2_with fail
  go_ret
  exact ⟨rfl, HO.out⟩
set_option maxRecDepth 20000 in
theorem is43 (X : Nat) (key k v : ByteArray) {w : World} (h : w.cell? ⟨X, 0, none⟩ = some (.string key)) : Calls Try.prog 43 #[pairV k v, .pointer (some ⟨X, 0, none⟩)] w fun e w' => e = .returned (.bool (k.toList == key.toList)) ∧ Only None' w w' := by
  have HO := Lib.hid ((Only.refl None' w).alloc (.cells #[.string k, .string v] 67))
  have lX := World.block_lt_of_cell? w _ h
  unfold pairV
  go_enter Try.func43, Try.ntmps43
  go_wp2_with fail
  go_ret
  exact ⟨rfl, HO.out⟩
set_option maxRecDepth 20000 in
theorem key38 (k v : ByteArray) (w : World) : Calls Try.prog 38 #[pairV k v] w fun e w' => e = .returned (.string k) ∧ Only None' w w' := by
  have HO := Lib.hid ((Only.refl None' w).alloc (.cells #[.string k, .string v] 67))
  unfold pairV
  go_enter Try.func38, Try.ntmps38
  go_wp2_with fail
  go_ret
  exact ⟨rfl, HO.out⟩
set_option maxRecDepth 20000 in
theorem is44 (F X : Nat) (key k v : ByteArray) {w : World} (hf : w.cell? ⟨F, 0, none⟩ = some (.func (.func 38) #[] #[])) (h : w.cell? ⟨X, 0, none⟩ = some (.string key)) : Calls Try.prog 44 #[pairV k v, .pointer (some ⟨F, 0, none⟩), .pointer (some ⟨X, 0, none⟩)] w fun e w' => e = .returned (.bool (k.toList == key.toList)) ∧ Only None' w w' := by
  have lX := World.block_lt_of_cell? w _ h
  have lF := World.block_lt_of_cell? w _ hf
  have O1 : Only None' w (w.alloc (.cells #[.string k, .string v] 67)) := (Only.refl None' w).alloc _
  have HO := Lib.hid O1
  have HT := cells_new w [.string k, .string v] 67
  have HQ : Hid (Cs (w.alloc (.cells #[.string k, .string v] 67)) [(F, 0, .func (.func 38) #[] #[]), (w.heap.size, 0, .string k), (w.heap.size, 1, .string v), (X, 0, .string key)]) := Lib.hid (by
    intro p hp
    simp only [List.mem_cons, List.not_mem_nil, or_false] at hp
    rcases hp with rfl | rfl | rfl | rfl
    · exact (O1.cell lF (fun e => e) 0).trans hf
    · exact HT.is 0 _ rfl
    · exact HT.is 1 _ rfl
    · exact (O1.cell lX (fun e => e) 0).trans h)
  unfold pairV
  clear O1 HT
  go_enter Try.func44, Try.ntmps44
  go_wp2_with fail
  go_region_held3 (fun w' => w'.cell? ⟨F, 0, none⟩ = some (.func (.func 38) #[] #[]) ∧ w'.cell? ⟨w.heap.size, 0, none⟩ = some (.string k) ∧ w'.cell? ⟨w.heap.size, 1, none⟩ = some (.string v) ∧ w'.cell? ⟨X, 0, none⟩ = some (.string key))
    (first | exact HQ.out.four | exact (HQ.out.drewN _).four | exact HQ.out.drew.four | exact HQ2.out.four | exact (HQ2.out.drewN _).four | exact HQ2.out.drew.four)
    (first | (go_at_call 38; refine (key38 k v _).mono ?_; rintro e w5 ⟨rfl, o5⟩; (first | (have HQ2 := Lib.hid (HQ.out.new_ o5)) | (have HQ2 := Lib.hid (HQ.out.drew.new_ o5)) | (have HQ2 := Lib.hid ((HQ.out.drewN _).new_ o5))); have O5 := Lib.hid o5; clear o5))
  all_goals (
    go_wp2_with fail
    go_ret
    exact ⟨rfl, by first | exact HO.out.trans O5.out | exact HO.out.drew.trans O5.out | exact (HO.out.drewN _).trans O5.out⟩)
/-- is a key behind another one? -/
def gtS (a b : ByteArray) : Bool := !Op.bytesLess a.toList b.toList && !(a.toList == b.toList)
set_option maxRecDepth 20000 in
theorem is45 (F X : Nat) (key k v : ByteArray) {w : World} (hf : w.cell? ⟨F, 0, none⟩ = some (.func (.func 38) #[] #[])) (h : w.cell? ⟨X, 0, none⟩ = some (.string key)) : Calls Try.prog 45 #[pairV k v, .pointer (some ⟨F, 0, none⟩), .pointer (some ⟨X, 0, none⟩)] w fun e w' => e = .returned (.bool (gtS k key)) ∧ Only None' w w' := by
  have lX := World.block_lt_of_cell? w _ h
  have lF := World.block_lt_of_cell? w _ hf
  have O1 : Only None' w (w.alloc (.cells #[.string k, .string v] 67)) := (Only.refl None' w).alloc _
  have HO := Lib.hid O1
  have HT := cells_new w [.string k, .string v] 67
  have HQ : Hid (Cs (w.alloc (.cells #[.string k, .string v] 67)) [(F, 0, .func (.func 38) #[] #[]), (w.heap.size, 0, .string k), (w.heap.size, 1, .string v), (X, 0, .string key)]) := Lib.hid (by
    intro p hp
    simp only [List.mem_cons, List.not_mem_nil, or_false] at hp
    rcases hp with rfl | rfl | rfl | rfl
    · exact (O1.cell lF (fun e => e) 0).trans hf
    · exact HT.is 0 _ rfl
    · exact HT.is 1 _ rfl
    · exact (O1.cell lX (fun e => e) 0).trans h)
  unfold pairV
  clear O1 HT
  go_enter Try.func45, Try.ntmps45
  go_wp2_with fail
  go_region_held3 (fun w' => w'.cell? ⟨F, 0, none⟩ = some (.func (.func 38) #[] #[]) ∧ w'.cell? ⟨w.heap.size, 0, none⟩ = some (.string k) ∧ w'.cell? ⟨w.heap.size, 1, none⟩ = some (.string v) ∧ w'.cell? ⟨X, 0, none⟩ = some (.string key))
    (first | exact HQ.out.four | exact (HQ.out.drewN _).four | exact HQ.out.drew.four | exact HQ2.out.four | exact (HQ2.out.drewN _).four | exact HQ2.out.drew.four)
    (first | (go_at_call 38; refine (key38 k v _).mono ?_; rintro e w5 ⟨rfl, o5⟩; (first | (have HQ2 := Lib.hid (HQ.out.new_ o5)) | (have HQ2 := Lib.hid (HQ.out.drew.new_ o5)) | (have HQ2 := Lib.hid ((HQ.out.drewN _).new_ o5))); have O5 := Lib.hid o5; clear o5))
  all_goals (
    go_wp2_with fail
    go_ret
    exact ⟨by unfold gtS; first | rfl | simp, by first | exact HO.out.trans O5.out | exact HO.out.drew.trans O5.out | exact (HO.out.drewN _).trans O5.out⟩)
end Go.Proofs.Ytajbagdgjbihjaa
