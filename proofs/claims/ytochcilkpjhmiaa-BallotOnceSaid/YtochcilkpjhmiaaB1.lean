/- The library's functions on lists of numbers that package ballot calls, by their contracts: a slice that reads as a list (RI), a slice of the call's own (OI). -/
import Derived.Test.YtochcilkpjhmiaaPl
import Derived.Test.YtochcilkpjhmiaaShelf
import Derived.Test.YtochcilkpjhmiaaProg
import Derived.WalkKit
import Derived.Lib.Hide
import Derived.Lib.OwnBridge
namespace Go.Proofs.Ytochcilkpjhmiaa
open Go.RowKit
open Go.Sort (Holds putRow)

/-- the slice (p, n, cap) reads as the numbers zs -/
def RI (w : World) (p : Option Addr) (n cap : Nat) (zs : List Int) : Prop :=
  zs.length = n ∧ n ≤ cap ∧ cap ≤ maxLen ∧ (p = none → zs = []) ∧
    ∀ a, p = some a → a.spot = none ∧ a.block < w.heap.size ∧ ∀ j, j < zs.length → w.cell? ⟨a.block, a.off + j, none⟩ = some (.int .i64 (nth zs j))

/-- it is the call's own -/
def OI (B : Nat) (w : World) (p : Option Addr) (n cap : Nat) (zs : List Int) : Prop :=
  w.ownsRow B 3 1 (.slice p n cap) n (zs.map (Value.int .i64))

theorem RI.len {w : World} {p : Option Addr} {n cap : Nat} {zs : List Int} (h : RI w p n cap zs) : zs.length = n := h.1

theorem RI.below {w w' : World} {p : Option Addr} {n cap : Nat} {zs : List Int} (h : RI w p n cap zs) (hb : Below w.heap.size w w') : RI w' p n cap zs := by
  obtain ⟨h1, h2, h3, h4, h5⟩ := h
  refine ⟨h1, h2, h3, h4, fun a ha => ?_⟩
  obtain ⟨s1, s2, s3⟩ := h5 a ha
  exact ⟨s1, Nat.lt_of_lt_of_le s2 hb.size, fun j hj => by rw [hb.cell (p := ⟨a.block, a.off + j, none⟩) s2]; exact s3 j hj⟩

theorem RI.drewN {w : World} {p : Option Addr} {n cap q : Nat} {zs : List Int} (h : RI w p n cap zs) : RI (w.drewN q) p n cap zs := h

theorem OI.len {B : Nat} {w : World} {p : Option Addr} {n cap : Nat} {zs : List Int} (h : OI B w p n cap zs) : zs.length = n := by
  have := h.1; simpa using this

theorem OI.none {B : Nat} {w : World} {n cap : Nat} {zs : List Int} (h : OI B w none n cap zs) : n = 0 ∧ cap = 0 ∧ zs = [] := by
  have hl := h.len
  rcases h.2 with ⟨e, rfl⟩ | ⟨g, cap', cur, e, _⟩
  · injection e with _ _ e3; exact ⟨rfl, e3, by simpa using hl⟩
  · cases e

theorem OI.some {B : Nat} {w : World} {a : Addr} {n cap : Nat} {zs : List Int} (h : OI B w (some a) n cap zs) :
    ∃ g, a = ⟨g, 0, .none⟩ ∧ B ≤ g ∧ g < w.heap.size ∧ n ≤ cap ∧ cap ≤ maxLen ∧ Holds (Value.int .i64) w g 0 zs.toArray := by
  obtain ⟨g, c, e, h1, h2, h3, h4, _, h6⟩ := Lib.holds_of_ownsRow (enc := Value.int .i64) h (by simp)
  injection e with e1 e2 e3
  injection e1 with e1
  exact ⟨g, e1, h1, h2, by omega, by omega, h6⟩

theorem OI.ri {B : Nat} {w : World} {p : Option Addr} {n cap : Nat} {zs : List Int} (h : OI B w p n cap zs) : RI w p n cap zs := by
  have hl := h.len
  cases p with
  | none => obtain ⟨rfl, rfl, rfl⟩ := h.none; exact ⟨rfl, by omega, by simp [maxLen], fun _ => rfl, fun a ha => by cases ha⟩
  | some a =>
    obtain ⟨g, rfl, h1, h2, h3, h4, h5⟩ := h.some
    refine ⟨hl, h3, h4, (by intro h; cases h), fun a ha => ?_⟩
    injection ha with ha
    subst ha
    refine ⟨rfl, h2, fun j hj => ?_⟩
    have := (h5 j (by simpa using hj)).1
    simpa [getElem!_pos, hj, nth_get zs j hj] using this

theorem OI.below {B : Nat} {w w' : World} {p : Option Addr} {n cap : Nat} {zs : List Int} (h : OI B w p n cap zs) (hb : Below w.heap.size w w') : OI B w' p n cap zs := by
  refine ⟨h.1, ?_⟩
  rcases h.2 with ⟨e, e0⟩ | ⟨g, cap', cur, e, h1, h2, h3⟩
  · exact .inl ⟨e, e0⟩
  · have hg : g < w.heap.size := by
      rcases Nat.lt_or_ge g w.heap.size with h' | h'
      · exact h'
      · rw [Array.getElem?_eq_none h'] at h2; cases h2
    exact .inr ⟨g, cap', cur, e, h1, by rw [hb.block g hg]; exact h2, h3⟩

theorem OI.mono {B B' : Nat} {w : World} {p : Option Addr} {n cap : Nat} {zs : List Int} (h : OI B w p n cap zs) (hB : B' ≤ B) : OI B' w p n cap zs := by
  refine ⟨h.1, ?_⟩
  rcases h.2 with ⟨e, e0⟩ | ⟨g, cap', cur, e, h1, h2, h3⟩
  · exact .inl ⟨e, e0⟩
  · exact .inr ⟨g, cap', cur, e, by omega, h2, h3⟩

theorem RI.cells {w : World} {a : Addr} {n cap : Nat} {zs : List Int} (h : RI w (some a) n cap zs) :
    ∃ b off, a = ⟨b, off, none⟩ ∧ b < w.heap.size ∧ ∀ j, j < zs.length → w.cell? ⟨b, off + j, none⟩ = some (.int .i64 (nth zs j)) := by
  obtain ⟨b, off, s⟩ := a
  obtain ⟨_, _, _, _, h5⟩ := h
  obtain ⟨s1, s2, s3⟩ := h5 _ rfl
  simp at s1; subst s1
  exact ⟨b, off, rfl, s2, s3⟩

theorem clone_any (p : Option Addr) (n cap : Nat) (zs : List Int) (w : World) (h : RI w p n cap zs) (hbig : n * 8 ≤ 140737488355328) :
    Calls Try.prog 33 #[.slice p n cap] w fun e w' => ∃ p' cap', e = .returned (.slice p' n cap') ∧ OI w.heap.size w' p' n cap' zs ∧ Below w.heap.size w w' := by
  cases p with
  | none =>
    obtain rfl := h.2.2.2.1 rfl
    obtain rfl : n = 0 := h.1.symm
    refine (Try.slices_Clone_int_nil 0 cap w).mono ?_
    rintro e w' ⟨rfl, rfl⟩
    exact ⟨none, 0, rfl, World.ownsRow_nil _ _ _ _, Below.refl _ _⟩
  | some a =>
    obtain ⟨b, off, rfl, hb, hc⟩ := h.cells
    have hl := h.1
    refine (Try.slices_Clone_int b off n cap zs w (by omega) hbig hc).mono ?_
    rintro e w' ⟨v', rfl, ho, hv, hbel⟩
    rw [List.take_of_length_le (by omega)] at ho
    obtain ⟨g, c, rfl, h1, h2, h3, h4, h5, h6⟩ := Lib.holds_of_ownsRow (enc := Value.int .i64) ho hv
    exact ⟨_, _, rfl, ho, hbel⟩

theorem compact_any (B : Nat) (p : Option Addr) (n cap : Nat) (zs : List Int) (w : World) (h : OI B w p n cap zs) (hB : B ≤ w.heap.size) (hbig : n * 8 ≤ 140737488355328) :
    Calls Try.prog 51 #[.slice p n cap] w fun e w' => e = .returned (.slice p (Lib.compact zs).length cap) ∧ OI B w' p (Lib.compact zs).length cap (Lib.compact zs) ∧ Below B w w' := by
  have hl := h.len
  cases p with
  | none =>
    obtain ⟨rfl, rfl, rfl⟩ := h.none
    refine (Try.slices_Compact_int_empty none 0 w).mono ?_
    rintro e w' ⟨rfl, rfl⟩
    exact ⟨rfl, World.ownsRow_nil _ _ _ _, Below.refl _ _⟩
  | some a =>
    obtain ⟨g, rfl, h1, h2, h3, h4, h5⟩ := h.some
    subst hl
    refine (Try.slices_Compact_int g 0 cap zs w h5 (by omega) h3).mono ?_
    rintro e w' ⟨rfl, m, rfl⟩
    have hlen : (Lib.compact zs).length ≤ zs.length := by
      unfold Lib.compact Lib.compactUpTo
      rw [List.length_map]
      exact Nat.le_trans (List.length_filter_le _ _) (by simp)
    have ho := Lib.ownsRow_putRow (q := m) (k := (Lib.compact zs).length) (ys := Lib.compact zs ++ List.replicate (zs.length - (Lib.compact zs).length) 0) h (by simp; omega) hlen
    have hb := Lib.below_putRow (enc := Value.int .i64) (q := m) (d := (Lib.compact zs ++ List.replicate (zs.length - (Lib.compact zs).length) 0).toArray) (Below.refl B w) h1
    refine ⟨rfl, ?_, hb⟩
    rw [List.take_left'] at ho
    · exact ho
    · rfl

theorem equal_any (p p' : Option Addr) (n n' cap cap' : Nat) (xs ys : List Int) (w : World) (h : RI w p n cap xs) (h' : RI w p' n' cap' ys) (hbig : n * 8 ≤ 140737488355328) (hbig' : n' * 8 ≤ 140737488355328) :
    Calls Try.prog 38 #[.slice p n cap, .slice p' n' cap'] w fun e w' => e = .returned (.bool (eqB xs ys)) ∧ ∃ q, w' = w.drewN q := by
  have hl := h.1
  have hl' := h'.1
  by_cases hn : n = n'
  · subst hn
    by_cases h0 : n = 0
    · subst h0
      obtain rfl : xs = [] := List.length_eq_zero_iff.1 hl
      obtain rfl : ys = [] := List.length_eq_zero_iff.1 hl'
      refine (Try.slices_Equal_int_empty p p' cap 0 cap' w (by omega)).mono ?_
      rintro e w' ⟨he, hw⟩
      exact ⟨by rw [he]; rfl, by first | exact hw | exact ⟨0, hw⟩⟩
    · cases p with
      | none => have := h.2.2.2.1 rfl; subst this; exact absurd hl.symm h0
      | some a =>
        cases p' with
        | none => have := h'.2.2.2.1 rfl; subst this; exact absurd hl'.symm h0
        | some a' =>
          obtain ⟨b, off, rfl, hb, hc⟩ := h.cells
          obtain ⟨b', off', rfl, hb', hc'⟩ := h'.cells
          refine (Try.slices_Equal_int b off n cap b' off' n cap' xs ys w (by omega) (by omega) (by omega) (by omega) hc hc').mono ?_
          rintro e w' ⟨he, hw⟩
          rw [List.take_of_length_le (by omega), List.take_of_length_le (by omega)] at he
          exact ⟨he, hw⟩
  · refine (Try.slices_Equal_int_lens p p' n cap n' cap' w hn).mono ?_
    rintro e w' ⟨he, hw⟩
    have : eqB xs ys = false := by
      unfold eqB; rw [beq_eq_false_iff_ne]; intro e; subst e; omega
    exact ⟨by rw [he, this], by first | exact hw | exact ⟨0, hw⟩⟩

theorem contains_any (p : Option Addr) (n cap : Nat) (zs : List Int) (x : Int) (w : World) (h : RI w p n cap zs) (hbig : n * 8 ≤ 140737488355328) :
    Calls Try.prog 41 #[.slice p n cap, .int .i64 x] w fun e w' => e = .returned (.bool (hasB zs x)) ∧ w' = w := by
  have hl := h.1
  cases p with
  | none =>
    obtain rfl := h.2.2.2.1 rfl
    obtain rfl : n = 0 := h.1.symm
    exact Try.slices_Contains_int_empty none cap x w
  | some a =>
    obtain ⟨b, off, rfl, hb, hc⟩ := h.cells
    refine (Try.slices_Contains_int b off n cap zs x w (by omega) (by omega) hc).mono ?_
    rintro e w' ⟨he, hw⟩
    rw [List.take_of_length_le (by omega)] at he
    exact ⟨he, hw⟩

theorem search_any (p : Option Addr) (n cap : Nat) (zs : List Int) (x : Int) (w : World) (h : RI w p n cap zs) (hbig : n * 8 ≤ 140737488355328) (hs : zs.Pairwise (· ≤ ·)) :
    Calls Try.prog 31 #[.slice p n cap, .int .i64 x] w fun e w' => e = .returned (.tuple #[.int .i64 (rankN zs x : Nat), .bool (hasB zs x)]) ∧ ∃ q, w' = w.drewN q := by
  have hl := h.1
  cases p with
  | none =>
    obtain rfl := h.2.2.2.1 rfl
    obtain rfl : n = 0 := h.1.symm
    exact (Try.slices_BinarySearch_int_empty none cap x w).mono fun e w' ⟨he, hw⟩ => ⟨he, 0, hw⟩
  | some a =>
    obtain ⟨b, off, rfl, hb, hc⟩ := h.cells
    have e0 : zs.take n = zs := List.take_of_length_le (by omega)
    refine (Try.slices_BinarySearch_int b off n cap zs x w (by omega) (by omega) hc (by rw [e0]; exact hs)).mono ?_
    rintro e w' ⟨he, hw⟩
    rw [e0] at he
    exact ⟨he, hw⟩

theorem delete_any (B : Nat) (p : Option Addr) (n cap i : Nat) (zs : List Int) (w : World) (h : OI B w p n cap zs) (hi : i < n) :
    Calls Try.prog 34 #[.slice p n cap, .int .i64 i, .int .i64 (i + 1 : Nat)] w fun e w' => e = .returned (.slice p (n - 1) cap) ∧ OI B w' p (n - 1) cap (zs.take i ++ zs.drop (i + 1)) ∧ Below B w w' := by
  have hl := h.len
  cases p with
  | none => obtain ⟨rfl, rfl, rfl⟩ := h.none; omega
  | some a =>
    obtain ⟨g, rfl, h1, h2, h3, h4, h5⟩ := h.some
    subst hl
    refine (Try.slices_Delete_int g 0 cap i (i + 1) zs w h5 h3 (by unfold maxLen at h4; omega) (by omega) (by omega)).mono ?_
    rintro e w' ⟨rfl, m, rfl⟩
    have e1 : i + 1 - i = 1 := by omega
    rw [e1]
    have ho := Lib.ownsRow_putRow (q := m) (k := zs.length - 1) (ys := zs.take i ++ zs.drop (i + 1) ++ List.replicate 1 0) h (by simp; omega) (by omega)
    have hb := Lib.below_putRow (enc := Value.int .i64) (q := m) (d := (zs.take i ++ zs.drop (i + 1) ++ List.replicate 1 0).toArray) (Below.refl B w) h1
    refine ⟨rfl, ?_, hb⟩
    rw [List.take_left'] at ho
    · exact ho
    · simp; omega

end Go.Proofs.Ytochcilkpjhmiaa
