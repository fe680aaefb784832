/- slices.Sort and unlike: the contracts. -/
import Derived.Test.YtochcilkpjhmiaaB1
import Derived.Sort.Grow
import Derived.Outline
namespace Go.Proofs.Ytochcilkpjhmiaa
open Go.RowKit
open Go.Sort (Holds putRow)

theorem below_grow (X : World) (os : Array Obj) : Below X.heap.size X (Go.Sort.grow X os) :=
  ⟨rfl, rfl, rfl, by simp [Go.Sort.grow], fun k hk => by simp only [Go.Sort.grow]; rw [Array.getElem?_append_left hk]⟩

theorem sort_any (B : Nat) (p : Option Addr) (n cap : Nat) (zs : List Int) (w : World) (h : OI B w p n cap zs) (hB : B ≤ w.heap.size) (hbig : n * 8 ≤ 140737488355328) :
    Calls Try.prog 50 #[.slice p n cap] w fun e w' => e = .returned (.tuple #[]) ∧ OI B w' p n cap (srt zs) ∧ Below B w w' := by
  have hl := h.len
  cases p with
  | none =>
    obtain ⟨rfl, rfl, rfl⟩ := h.none
    refine (Try.slices_Sort_int_none none 0 w).mono ?_
    rintro e w' ⟨rfl, hw⟩
    subst hw
    have e0 : srt [] = [] := by simp [srt]
    rw [e0]
    exact ⟨rfl, World.ownsRow_nil _ _ _ _, Below.refl _ _⟩
  | some a =>
    obtain ⟨g, rfl, h1, h2, h3, h4, h5⟩ := h.some
    subst hl
    refine (Try.slices_Sort_int g 0 cap zs w h5 h2 (by omega)).mono ?_
    rintro e w' ⟨rfl, m, os, rfl⟩
    have ho := Lib.ownsRow_putRow (q := m) (k := zs.length) (ys := srt zs) h (by simp [srt]) (Nat.le_refl _)
    have hb := Lib.below_putRow (enc := Value.int .i64) (q := m) (d := (srt zs).toArray) (Below.refl B w) h1
    have hg := below_grow (putRow (Value.int .i64) (Sort.ahead w m) g 0 (srt zs).toArray) os
    refine ⟨rfl, ?_, hb.trans (hg.mono ?_)⟩
    · refine OI.below (w := putRow (Value.int .i64) (Sort.ahead w m) g 0 (srt zs).toArray) ?_ hg
      have e1 : (srt zs).take zs.length = srt zs := List.take_of_length_le (by simp [srt])
      rw [e1] at ho
      exact ho
    · have := hb.size; omega

theorem unlike_any (p : Option Addr) (n cap : Nat) (zs : List Int) (w : World) (h : RI w p n cap zs) (hbig : n * 8 ≤ 140737488355328) :
    Calls Try.prog 39 #[.slice p n cap] w fun e w' => ∃ p' cap', e = .returned (.slice p' (uniq zs).length cap') ∧ OI w.heap.size w' p' (uniq zs).length cap' (uniq zs) ∧ Below w.heap.size w w' := by
  have H := Lib.hid h
  clear h
  go_enter Try.func39, Try.ntmps39
  go_wp2_with (first
    | (go_at_call 33; refine (clone_any _ _ _ zs _ H.out hbig).mono ?_; rintro e w1 ⟨p1, c1, rfl, ho1, hb1⟩)
    | (go_at_call 50; refine (sort_any w.heap.size _ _ _ zs _ ho1 hb1.size hbig).mono ?_; rintro e w2 ⟨rfl, ho2, hb2⟩)
    | (go_at_call 51; refine (compact_any w.heap.size _ _ _ (srt zs) _ ho2 (Nat.le_trans hb1.size hb2.size) hbig).mono ?_; rintro e w3 ⟨rfl, ho3, hb3⟩))
  go_ret
  exact ⟨_, _, rfl, ho3, (hb1.trans hb2).trans hb3⟩

end Go.Proofs.Ytochcilkpjhmiaa
