/- cmp.Or, before. -/
import Derived.Test.YtfjfpnlcmjpofaaS6
import Derived.Test.YtfjfpnlcmjpofaaShelf
namespace Go.Proofs.Ytfjfpnlcmjpofaa
open Go.RowKit Go.Maps Go.Sort Go.Shelf
set_option linter.unusedVariables false

def orI (a b : Int) : Int := if a = 0 then b else a
theorem or_any {w : World} {X : Nat} {a b : Int} (ha : w.cell? ⟨X, 0, none⟩ = some (.int .i64 a)) (hb : w.cell? ⟨X, 1, none⟩ = some (.int .i64 b)) : Calls Try.prog 36 #[.slice (some ⟨X, 0, none⟩) 2 2] w fun e w' => e = .returned (.int .i64 (orI a b)) ∧ w' = w := by
  go_enter Try.func36, Try.ntmps36
  go_wp2_with fail
  go_loopw [8] (fun i wr => wr = w ∧ ((i = .int .i64 0) ∨ (i = .int .i64 1 ∧ a = 0) ∨ (i = .int .i64 2 ∧ a = 0 ∧ b = 0))) (fun i wr => 3 - (intOf i).toNat)
  case atStart => exact ⟨rfl, Or.inl rfl⟩
  case round =>
    obtain ⟨rfl, rfl | ⟨rfl, h1⟩ | ⟨rfl, h1, h2⟩⟩ := hrel
    · by_cases h : a = 0
      · have e : (a == 0) = true := by simpa using h
        have h' := Lib.hid h
        clear h
        go_wp2_with fail
        go_roundw
        case rel => exact ⟨by trivial, Or.inr (Or.inl ⟨rfl, h'.out⟩)⟩
        case measure => simp only [intOf]; decide
      · have e : (a == 0) = false := by simpa using h
        have e2 : (a != 0) = true := by simpa using h
        have h' := Lib.hid h
        clear h
        go_wp2_with fail
        go_ret
        exact ⟨by unfold orI; rw [if_neg h'.out]; rfl, rfl⟩
    · by_cases h : b = 0
      · have e : (b == 0) = true := by simpa using h
        have h' := Lib.hid (And.intro h1 h)
        clear h h1
        go_wp2_with fail
        go_roundw
        case rel => exact ⟨by trivial, Or.inr (Or.inr ⟨rfl, h'.out.1, h'.out.2⟩)⟩
        case measure => simp only [intOf]; decide
      · have e : (b == 0) = false := by simpa using h
        have e2 : (b != 0) = true := by simpa using h
        have h' := Lib.hid h1
        clear h h1
        go_wp2_with fail
        go_ret
        exact ⟨by unfold orI; rw [if_pos h'.out]; rfl, rfl⟩
    · have h' := Lib.hid (And.intro h1 h2)
      clear h1 h2
      go_wp2_with fail
      go_ret
      exact ⟨by unfold orI; rw [if_pos h'.out.1, h'.out.2]; rfl, rfl⟩
theorem bef_or (x y : Ls) : orI (cmpS x.key.data.toList y.key.data.toList) (cmpI x.cache y.cache) = bef x y := rfl
theorem str_mk (s : ByteArray) : (⟨s.data.toList.toArray⟩ : ByteArray) = s := by cases s; simp
set_option maxRecDepth 20000 in
set_option maxHeartbeats 1000000 in
theorem before_any (x y : Ls) (w : World) : Calls Try.prog 31 #[x.v, y.v] w fun e w' => e = .returned (.int .i64 (bef x y)) ∧ ∃ q os, w' = grow (w.drewN q) os := by
  rw [← bef_or]
  obtain ⟨k1, c1, n1, f1⟩ := x
  obtain ⟨k2, c2, n2, f2⟩ := y
  unfold Ls.v
  simp only
  have HS : Hid (∀ w, Calls Try.prog 37 #[.string k1, .string k2] w fun e w' => e = .returned (.int .i64 (cmpS k1.data.toList k2.data.toList)) ∧ w' = w) := Lib.hid (fun w => by
    have := compare_str k1.data.toList k2.data.toList w
    rw [str_mk, str_mk] at this
    exact this)
  have HI : Hid (∀ w, Calls Try.prog 38 #[.int .i64 c1, .int .i64 c2] w fun e w' => e = .returned (.int .i64 (cmpI c1 c2)) ∧ w' = w) := Lib.hid (fun w => compare_int c1 c2 w)
  generalize cmpS k1.data.toList k2.data.toList = a at HS ⊢
  generalize cmpI c1 c2 = b at HI ⊢
  go_enter Try.func31, Try.ntmps31
  go_wp2_with fail
  obtain ⟨w2, hw2⟩ : ∃ w2, w2 = (w.alloc (.cells #[.string k1, .int .i64 c1, .int .i64 n1, .int .i64 f1] 57)).alloc (.cells #[.string k2, .int .i64 c2, .int .i64 n2, .int .i64 f2] 57) := ⟨_, rfl⟩
  obtain ⟨X, hX⟩ : ∃ X, X = w.heap.size := ⟨_, rfl⟩
  have C1 : Hid (CellsR w2 X [.string k1, .int .i64 c1, .int .i64 n1, .int .i64 f1]) := Lib.hid (by rw [hw2, hX]; exact (cells_new w [.string k1, .int .i64 c1, .int .i64 n1, .int .i64 f1] 57).kept ((Only.refl None' _).alloc _) fun e => e)
  have C2 : Hid (CellsR w2 (X + 1) [.string k2, .int .i64 c2, .int .i64 n2, .int .i64 f2]) := Lib.hid (by
    rw [hw2, hX]
    have := cells_new (w.alloc (.cells #[.string k1, .int .i64 c1, .int .i64 n1, .int .i64 f1] 57)) [.string k2, .int .i64 c2, .int .i64 n2, .int .i64 f2] 57
    rwa [World.size_alloc] at this)
  have HW : Hid (∃ q os, w2 = grow (w.drewN q) os) := Lib.hid ⟨0, _, by rw [hw2, alloc_eq_grow, alloc_eq_grow, grow_grow]; rfl⟩
  have x0 := C1.out.is 0 _ rfl
  have x1 := C1.out.is 1 _ rfl
  have y0 := C2.out.is 0 _ rfl
  have y1 := C2.out.is 1 _ rfl
  rw [← hw2, ← hX]
  clear hw2 hX
  go_region_held3 (fun w' => w'.cell? ⟨X, 0, none⟩ = some (.string k1) ∧ w'.cell? ⟨X, 1, none⟩ = some (.int .i64 c1) ∧ w'.cell? ⟨X + 1, 0, none⟩ = some (.string k2) ∧ w'.cell? ⟨X + 1, 1, none⟩ = some (.int .i64 c2))
    (first | exact ⟨x0, x1, y0, y1⟩ | go_keep)
    (first | (go_at_call 37; refine (HS.out _).mono ?_; rintro e w' ⟨rfl, rfl⟩) | (go_at_call 38; refine (HI.out _).mono ?_; rintro e w' ⟨rfl, rfl⟩) | (go_at_call 36; refine (or_any (a := a) (b := b) (by go_simp) (by go_simp)).mono ?_; rintro e w' ⟨rfl, rfl⟩))
  go_wp2_with fail
  go_ret
  obtain ⟨q, os, hw⟩ := HW.out
  exact ⟨rfl, q + 1, _, by rw [hw, alloc_eq_grow, grow_grow]; rfl⟩
/-! ### the sort -/
theorem ltS (a b : Str) : (cmpS a b < 0) ↔ a < b := by
  unfold cmpS
  split
  · rename_i h; simp [h]
  · rename_i h
    split <;> simp [h]
theorem eqS (a b : Str) : cmpS a b = 0 ↔ a = b := by
  unfold cmpS
  split
  · rename_i h
    constructor
    · intro e; cases e
    · rintro rfl; exact absurd h (List.lt_irrefl a)
  · rename_i h
    split
    · rename_i h2
      constructor
      · intro e; cases e
      · rintro rfl; exact absurd h2 (List.lt_irrefl a)
    · rename_i h2
      exact ⟨fun _ => List.le_antisymm h2 h, fun _ => rfl⟩
theorem ltI (a b : Int) : (cmpI a b < 0) ↔ a < b := by
  unfold cmpI
  split
  · rename_i h; simp [h]
  · rename_i h
    split <;> simp [h]
/-- ahead, by key and cache -/
def Bf (x y : Ls) : Prop := x.key.data.toList < y.key.data.toList ∨ (x.key = y.key ∧ x.cache < y.cache)
theorem key_eq {a b : ByteArray} (h : a.data.toList = b.data.toList) : a = b := by
  have : a.data = b.data := Array.toList_inj.1 h
  cases a; cases b; simp_all
theorem ltOf_bef (x y : Ls) : ltOf bef x y = true ↔ Bf x y := by
  unfold ltOf bef Bf
  rw [decide_eq_true_eq]
  by_cases h : cmpS x.key.data.toList y.key.data.toList = 0
  · rw [if_pos h, ltI]
    have e := (eqS _ _).1 h
    have hk := key_eq e
    constructor
    · intro h2; exact Or.inr ⟨hk, h2⟩
    · rintro (h2 | h2)
      · rw [hk] at h2; exact absurd h2 (List.lt_irrefl _)
      · exact h2.2
  · rw [if_neg h, ltS]
    constructor
    · exact Or.inl
    · rintro (h2 | h2)
      · exact h2
      · exact absurd ((eqS _ _).2 (by rw [h2.1])) h
theorem Bf.irrefl (x : Ls) : ¬ Bf x x := by
  rintro (h | h)
  · exact List.lt_irrefl _ h
  · omega
theorem Bf.trans {x y z : Ls} (h : Bf x y) (k : Bf y z) : Bf x z := by
  rcases h with h | ⟨h1, h2⟩
  · rcases k with k | ⟨k1, k2⟩
    · exact Or.inl (List.lt_trans h k)
    · exact Or.inl (k1 ▸ h)
  · rcases k with k | ⟨k1, k2⟩
    · exact Or.inl (h1 ▸ k)
    · exact Or.inr ⟨h1.trans k1, by omega⟩
theorem str_tri (a b : Str) : a < b ∨ a = b ∨ b < a := by
  by_cases h1 : a < b
  · exact Or.inl h1
  · by_cases h2 : b < a
    · exact Or.inr (Or.inr h2)
    · exact Or.inr (Or.inl (List.le_antisymm h2 h1))
theorem Bf.tri (x y : Ls) : Bf x y ∨ (x.key = y.key ∧ x.cache = y.cache) ∨ Bf y x := by
  rcases str_tri x.key.data.toList y.key.data.toList with h | h | h
  · exact Or.inl (Or.inl h)
  · have hk := key_eq h
    rcases Int.lt_trichotomy x.cache y.cache with g | g | g
    · exact Or.inl (Or.inr ⟨hk, g⟩)
    · exact Or.inr (Or.inl ⟨hk, g⟩)
    · exact Or.inr (Or.inr (Or.inr ⟨hk.symm, g⟩))
  · exact Or.inr (Or.inr (Or.inl h))
theorem swo_bef : SWO (ltOf bef) where
  irrefl x := by rw [Bool.eq_false_iff, Ne, ltOf_bef]; exact Bf.irrefl x
  trans x y z h1 h2 := by rw [ltOf_bef] at *; exact h1.trans h2
  ntrans x y z h1 h2 := by
    rw [Bool.eq_false_iff, Ne, ltOf_bef] at *
    intro h3
    rcases Bf.tri x y with g | g | g
    · exact h1 g
    · rcases Bf.tri y z with k | k | k
      · exact h2 k
      · have : Bf x x := by
          rcases h3 with h3 | h3
          · rw [← k.1, ← g.1] at h3; exact absurd h3 (List.lt_irrefl _)
          · have := g.2; have := k.2; omega
        exact Bf.irrefl x this
      · exact Bf.irrefl z (by
          rcases h3 with h3 | h3
          · rcases k with k | k
            · rw [g.1] at h3; exact absurd (List.lt_trans h3 k) (List.lt_irrefl _)
            · rw [g.1, ← k.1] at h3; exact absurd h3 (List.lt_irrefl _)
          · rcases k with k | k
            · rw [← h3.1, g.1] at k; exact absurd k (List.lt_irrefl _)
            · have := g.2; omega)
    · rcases Bf.tri y z with k | k | k
      · exact h2 k
      · exact Bf.irrefl x (h3.trans (by
          rcases g with g | g
          · exact Or.inl (k.1 ▸ g)
          · exact Or.inr ⟨k.1.symm.trans g.1, by have := g.2; have := k.2; omega⟩))
      · exact Bf.irrefl x (h3.trans (k.trans g))
instance : Inhabited Ls := ⟨Ls.zero⟩
theorem isAgg57 (w : World) : (isAgg 57).run Try.prog w = .ok true w := by kernel_rfl
theorem sizeOf57 (w : World) : (Go.sizeOf 57).run Try.prog w = .ok 4 w := by kernel_rfl
theorem v_row (x : Ls) : (Value.agg x.row.toArray) = x.v := rfl
theorem cmpLays (blk off size : Nat) (w : World) : CmpLays Try.prog 31 #[] Ls.row 4 bef blk off size w :=
  fun _ _ _ _ x y => before_any x y _
end Go.Proofs.Ytfjfpnlcmjpofaa
