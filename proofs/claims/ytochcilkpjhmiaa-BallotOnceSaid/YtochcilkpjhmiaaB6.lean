/- ballot.Turn: the contract. -/
import Derived.Test.YtochcilkpjhmiaaC4
namespace Go.Proofs.Ytochcilkpjhmiaa
open Go.RowKit

theorem delete_any' (B : Nat) (p : Option Addr) (n cap i : Nat) (zs : List Int) (w : World) (h : OI B w p n cap zs) (hi : i < n) :
    Calls Try.prog 34 #[.slice p n cap, .int .i64 i, .int .i64 ((i : Int) + 1)] w fun e w' => e = .returned (.slice p (n - 1) cap) ∧ OI B w' p (n - 1) cap (zs.take i ++ zs.drop (i + 1)) ∧ Below B w w' := by
  have h1 := delete_any B p n cap i zs w h hi
  rw [show (((i + 1 : Nat) : Int)) = (i : Int) + 1 from by omega] at h1
  exact h1

theorem oi_block {B : Nat} {w : World} {p : Option Addr} {n cap : Nat} {zs : List Int} (h : OI B w p n cap zs) : ∀ a, p = some a → a.block ≠ w.heap.size := by
  intro a ha
  rcases oi_cases h with ⟨h, _⟩ | ⟨b, h, _, hb, _⟩
  · rw [h] at ha; cases ha
  · rw [h] at ha; injection ha with ha; subst ha; simp only; omega

theorem oi_alloc {B : Nat} {w : World} {p : Option Addr} {n cap : Nat} {zs : List Int} (h : OI B w p n cap zs) (o : Obj) : OI B (w.alloc o) p n cap zs :=
  h.below ((Below.refl _ _).alloc (Nat.le_refl _) o)

set_option maxHeartbeats 1000000 in
theorem turn_any (p : Option Addr) (n cap : Nat) (vs : List Int) (s : Int) (w : World) (h : RI w p n cap vs) (hbig : (n + 1) * 8 ≤ 140737488355328) :
    Calls Try.prog 16 #[.slice p n cap, .int .i64 s] w fun e w' => TurnPost vs s w.heap.size e w' ∧ Below w.heap.size w w' := by
  have H := Lib.hid h
  have hbig' : n * 8 ≤ 140737488355328 := by omega
  have HLEN := Lib.hid h.1
  clear h
  cases hc : chkB vs with
  | false =>
    have HP := Lib.hid (fun w' => turnPost_no vs s w.heap.size w' (turnOk_chk vs s hc))
    have HC := Lib.hid hc
    clear hc
    go_enter Try.func16, Try.ntmps16
    go_wp2_with (go_at_call 21; refine (check_any _ _ _ vs _ H.out hbig').mono ?_; rintro e w1 ⟨rfl, hb1⟩; rw [HC.out])
    go_ret2
    exact ⟨HP.out _, hb1⟩
  | true =>
    have HC := Lib.hid hc
    by_cases h1 : s < 1
    · have HP := Lib.hid (fun w' => turnPost_no vs s w.heap.size w' (turnOk_low vs s h1))
      clear hc
      go_enter Try.func16, Try.ntmps16
      go_wp2_with (go_at_call 21; refine (check_any _ _ _ vs _ H.out hbig').mono ?_; rintro e w1 ⟨rfl, hb1⟩; rw [HC.out])
      go_ret2
      exact ⟨HP.out _, hb1⟩
    · by_cases h5 : 5 < s
      · have HP := Lib.hid (fun w' => turnPost_no vs s w.heap.size w' (turnOk_high vs s h5))
        clear hc
        go_enter Try.func16, Try.ntmps16
        go_wp2_with (go_at_call 21; refine (check_any _ _ _ vs _ H.out hbig').mono ?_; rintro e w1 ⟨rfl, hb1⟩; rw [HC.out])
        go_ret2
        exact ⟨HP.out _, hb1⟩
      · have hok : turnOk vs s = true := (turnOk_iff vs s).2 ⟨hc, by omega, by omega⟩
        have HP : Hid (vs.Pairwise (· ≤ ·)) := ((chk_iff vs).1 hc).2.1.imp (fun h => by omega)
        cases hs : hasB vs s with
        | false =>
          have HT := Lib.hid (turn_ins vs s hok hs)
          have HT2 := Lib.hid (turn_len_ins vs s hok hs)
          have HS := Lib.hid hs
          have hr : rankN vs s ≤ n := by have := HLEN.out; have : rankN vs s ≤ vs.length := List.countP_le_length; omega
          clear hc hok hs
          go_enter Try.func16, Try.ntmps16
          go_wp2_with (first
            | (go_at_call 21; refine (check_any _ _ _ vs _ H.out hbig').mono ?_; rintro e w1 ⟨rfl, hb1⟩; rw [HC.out])
            | (go_at_call 31; refine (search_any _ _ _ vs _ _ (H.out.below hb1) hbig' HP.out).mono ?_; rintro e w2 ⟨rfl, q, rfl⟩; rw [HS.out])
            | (go_at_call 33; refine (clone_any _ _ _ vs _ ((H.out.below hb1).drewN (q := q)) hbig').mono ?_; rintro e w3 ⟨p3, c3, rfl, ho3, hb3⟩)
            | (go_at_call 32; refine (insert_any w.heap.size p3 n c3 (rankN vs s) w3.heap.size vs s _ ((oi_alloc ho3 _).mono hb1.size) hr hbig (by have := hb1.size; have := hb3.size; simp at *; omega) (heap_new _ _) (oi_block ho3)).mono ?_; rintro e w4 ⟨p4, c4, rfl, ho4, hb4⟩))
          go_ret2
          have hb13 : Below w.heap.size w w3 := hb1.trans ((below_drewN (Below.refl _ _) q).trans (hb3.mono hb1.size))
          refine ⟨⟨p4, c4, ?_, ?_⟩, (hb13.alloc hb13.size _).trans hb4⟩
          · rw [HT2.out.1, HT2.out.2, HLEN.out]; rfl
          · rw [HT2.out.1, HLEN.out, ← HT.out]; exact ho4
        | true =>
          have HT := Lib.hid (turn_del vs s hok hs)
          have HT2 := Lib.hid (turn_len_del vs s hok hs)
          have HS := Lib.hid hs
          have hr : rankN vs s < n := by have := HLEN.out; have := HT.out.1; omega
          clear hc hok hs
          by_cases hn1 : n = 1
          · have ht : ((n : Int) == 1) = true := by simp; omega
            have HN := Lib.hid hn1
            clear hn1
            go_enter Try.func16, Try.ntmps16
            go_wp2_with (first
              | (go_at_call 21; refine (check_any _ _ _ vs _ H.out hbig').mono ?_; rintro e w1 ⟨rfl, hb1⟩; rw [HC.out])
              | (go_at_call 31; refine (search_any _ _ _ vs _ _ (H.out.below hb1) hbig' HP.out).mono ?_; rintro e w2 ⟨rfl, q, rfl⟩; rw [HS.out]))
            go_ret2
            refine ⟨⟨none, 0, ?_, ?_⟩, hb1.trans (below_drewN (Below.refl _ _) q)⟩
            · rw [HT2.out.1, HT2.out.2, HLEN.out, HN.out]; rfl
            · have e0 : (turnL vs s).length = 0 := by rw [HT2.out.1, HLEN.out, HN.out]
              rw [List.length_eq_zero_iff.1 e0]; exact World.ownsRow_nil _ _ _ _
          · have ht : ((n : Int) == 1) = false := by simp; omega
            have HN := Lib.hid hn1
            clear hn1
            go_enter Try.func16, Try.ntmps16
            go_wp2_with (first
              | (go_at_call 21; refine (check_any _ _ _ vs _ H.out hbig').mono ?_; rintro e w1 ⟨rfl, hb1⟩; rw [HC.out])
              | (go_at_call 31; refine (search_any _ _ _ vs _ _ (H.out.below hb1) hbig' HP.out).mono ?_; rintro e w2 ⟨rfl, q, rfl⟩; rw [HS.out])
              | (go_at_call 33; refine (clone_any _ _ _ vs _ ((H.out.below hb1).drewN (q := q)) hbig').mono ?_; rintro e w3 ⟨p3, c3, rfl, ho3, hb3⟩)
              | (go_at_call 34; refine (delete_any' w.heap.size p3 n c3 (rankN vs s) vs _ (ho3.mono hb1.size) hr).mono ?_; rintro e w4 ⟨rfl, ho4, hb4⟩))
            go_ret2
            have hb13 : Below w.heap.size w w3 := hb1.trans ((below_drewN (Below.refl _ _) q).trans (hb3.mono hb1.size))
            refine ⟨⟨p3, c3, ?_, ?_⟩, hb13.trans hb4⟩
            · rw [HT2.out.1, HT2.out.2, HLEN.out, if_neg HN.out]; rfl
            · rw [HT2.out.1, HLEN.out, ← HT.out.2]; exact ho4

end Go.Proofs.Ytochcilkpjhmiaa
