/- The document's functions on lists of numbers (butteryref15): Ints, Won, Near, Check: their contracts. -/
import Derived.Test.YtochcilkpjhmiaaC1
namespace Go.Proofs.Ytochcilkpjhmiaa
open Go.RowKit

theorem quietS {P : Program} {f : FuncId} {args : Array Value} {w : World} {n : Nat} {v : Value}
    (h : Calls P f args (w.drewN n) fun e w' => e = .returned v ∧ w.drewN n = w') : Calls P f args (w.drewN n) fun e w'' => e = .returned v ∧ ∃ m, w'' = w.drewN m :=
  h.mono fun _ _ ⟨he, hm⟩ => ⟨he, n, hm.symm⟩

theorem ints_any (p p' : Option Addr) (n n' cap cap' : Nat) (xs ys : List Int) (w : World) (h : RI w p n cap xs) (h' : RI w p' n' cap' ys) (hbig : n * 8 ≤ 140737488355328) (hbig' : n' * 8 ≤ 140737488355328) :
    Calls Try.prog 18 #[.slice p n cap, .slice p' n' cap'] w fun e w' => e = .returned (.bool (eqB xs ys)) ∧ ∃ q, w' = w.drewN q := by
  have hl := h.1
  have hl' := h'.1
  by_cases hn : n = n'
  · subst hn
    by_cases h0 : n = 0
    · subst h0
      obtain rfl : xs = [] := List.length_eq_zero_iff.1 hl
      obtain rfl : ys = [] := List.length_eq_zero_iff.1 hl'
      clear h h'
      go_enter Try.func18, Try.ntmps18
      go_wp2
      go_loop [5] (fun i => i = .int .i64 0) (fun _ => 0)
      case atStart => rfl
      case round =>
        subst hrel
        go_wp2
        go_ret
        exact ⟨rfl, 0, rfl⟩
    · cases p with
      | none => have := h.2.2.2.1 rfl; subst this; exact absurd hl.symm h0
      | some a =>
        cases p' with
        | none => have := h'.2.2.2.1 rfl; subst this; exact absurd hl'.symm h0
        | some a' =>
          obtain ⟨b, off, rfl, hb, hc⟩ := h.cells
          obtain ⟨b', off', rfl, hb', hc'⟩ := h'.cells
          have HL := Lib.hid hl
          have HL' := Lib.hid hl'
          have hx : n ≤ xs.length := by omega
          have hy : n ≤ ys.length := by omega
          have hnn : ((n : Int) != (n : Int)) = false := by simp
          clear hl hl' h h'
          go_enter Try.func18, Try.ntmps18
          go_wp2
          go_loopw [5] (fun i wr => ∃ k q : Nat, k ≤ n ∧ i = .int .i64 k ∧ eqB (xs.take k) (ys.take k) = true ∧ wr = w.drewN q) (fun i _ => n - (intOf i).toNat)
          case atStart => exact ⟨0, 0, by omega, rfl, rfl, rfl⟩
          case round =>
            obtain ⟨k, q, hk, rfl, hno, rfl⟩ := hrel
            have HNO := Lib.hid hno
            clear hno
            by_cases hlt : k < n
            · have hcell := hc k (by omega)
              have hcell' := hc' k (by omega)
              have hts := Lib.hid (eqB_take_succ xs ys k (by omega) (by omega))
              have hkn : (k : Int) < n := by omega
              clear hc hc'
              cases he : (nth xs k != nth ys k) with
              | true =>
                have HF := Lib.hid (eqB_elem xs ys k he)
                go_wp2
                go_quiet (fail)
                go_wp2
                go_ret
                exact ⟨by rw [HF.out]; rfl, _, World.drewN_drewN _ _ _⟩
              | false =>
                have HE := Lib.hid (show (nth xs k == nth ys k) = true by simpa using he)
                go_wp2
                go_quiet (fail)
                go_wp2
                go_roundw
                case rel => exact ⟨k + 1, _, by omega, by go_num, by rw [hts.out, HNO.out, HE.out]; rfl, rfl⟩
                case measure => simp [intOf]; omega
            · have hfin : eqB xs ys = true := by
                have h1 := HNO.out
                rw [List.take_of_length_le (by have := HL.out; omega), List.take_of_length_le (by have := HL'.out; omega)] at h1
                exact h1
              have HF := Lib.hid hfin
              clear hc hc' hfin
              go_wp2
              go_ret
              exact ⟨by rw [HF.out]; rfl, _, rfl⟩
  · have hnn : ((n : Int) != (n' : Int)) = true := by simp; omega
    have HF := Lib.hid (eqB_len xs ys (by omega))
    clear h h' hl hl' hn
    go_enter Try.func18, Try.ntmps18
    go_wp2
    go_ret
    exact ⟨by rw [HF.out]; rfl, 0, rfl⟩

theorem refWon_any (p p' : Option Addr) (n n' cap cap' : Nat) (vs votes : List Int) (w : World) (h : RI w p n cap vs) (h' : RI w p' n' cap' votes) (hbig : n * 8 ≤ 140737488355328) (hbig' : n' * 8 ≤ 140737488355328) :
    Calls Try.prog 24 #[.slice p n cap, .slice p' n' cap'] w fun e w' => e = .returned (.bool (wonB vs votes)) ∧ Below w.heap.size w w' := by
  have H := Lib.hid h
  have H' := Lib.hid h'
  have hol := once_len vs
  have hl := h.1
  have hol2 : (once vs).length ≤ n := by omega
  clear h h' hol hl
  go_enter Try.func24, Try.ntmps24
  go_wp2_with (go_at_call 37; refine (once_any _ _ _ vs _ H.out hbig).mono ?_; rintro e w1 ⟨p1, c1, rfl, ho, hbel⟩)
  have HB := Lib.hid hbel
  have HO := Lib.hid ho
  have HR' := Lib.hid (H'.out.below hbel)
  cases p1 with
  | none =>
    have hz := ho.none.1
    have HN := Lib.hid ho.none.2.2
    have hz' : (once vs).length ≤ 0 := by omega
    clear hz ho hbel
    go_loop [6, 7] (fun n i => n = .int .i64 0 ∧ i = .int .i64 0) (fun _ _ => 0)
    case atStart => exact ⟨rfl, rfl⟩
    case round =>
      obtain ⟨rfl, rfl⟩ := hrel
      have hge : ¬ ((0 : Int) - 0 < 0) := by omega
      go_wp2
      go_ret
      refine ⟨?_, HB.out⟩
      rw [once_nil HN.out, won_nil]
      rfl
  | some a =>
    obtain ⟨g, rfl, hg1, hg2, hg3, hg4, hH⟩ := ho.some
    obtain ⟨b, off, hba, hb, hc⟩ := ho.ri.cells
    injection hba with e1 e2
    subst e1; subst e2
    clear ho hbel hH
    go_loop [6, 7] (fun n i => ∃ k : Nat, k ≤ (once vs).length ∧ i = .int .i64 k ∧ n = .int .i64 (cnt (once vs) (hasB votes) k)) (fun _ i => (once vs).length - (intOf i).toNat)
    case atStart => exact ⟨0, by omega, rfl, by rw [cnt_zero]; rfl⟩
    case round =>
      obtain ⟨k, hk, rfl, rfl⟩ := hrel
      have hcl := cnt_le (once vs) (hasB votes) k
      by_cases hlt : k < (once vs).length
      · have hcell := hc k hlt
        rw [Nat.zero_add] at hcell
        clear hc
        cases he : hasB votes (nth (once vs) k) with
        | true =>
          have HY := Lib.hid (cnt_yes (once vs) (hasB votes) k hlt he)
          have HE := Lib.hid he
          clear he
          go_wp2_with (go_at_call 35; refine (has_any _ _ _ votes _ _ HR'.out hbig').mono ?_; rintro e w' ⟨rfl, rfl⟩; rw [HE.out])
          go_round
          case rel => exact ⟨k + 1, by omega, by go_num, by rw [HY.out]; go_num⟩
          case measure => simp [intOf]; omega
        | false =>
          have HY := Lib.hid (cnt_no (once vs) (hasB votes) k hlt he)
          have HE := Lib.hid he
          clear he
          go_wp2_with (go_at_call 35; refine (has_any _ _ _ votes _ _ HR'.out hbig').mono ?_; rintro e w' ⟨rfl, rfl⟩; rw [HE.out])
          go_round
          case rel => exact ⟨k + 1, by omega, by go_num, by rw [HY.out]⟩
          case measure => simp [intOf]; omega
      · have hfin := won_once vs votes (cnt (once vs) (hasB votes) k) (cnt_all _ _ k (by omega))
        have HF := Lib.hid hfin
        clear hc hfin
        go_wp2
        go_ret
        refine ⟨?_, HB.out⟩
        rw [← HF.out]; rfl

end Go.Proofs.Ytochcilkpjhmiaa
