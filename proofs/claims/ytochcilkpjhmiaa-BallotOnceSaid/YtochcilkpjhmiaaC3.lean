/- The document's functions on lists of numbers (butteryref15): Check, Near, Turn: their contracts; the law's long. -/
import Derived.Test.YtochcilkpjhmiaaC2
import Derived.Test.YtochcilkpjhmiaaB4
namespace Go.Proofs.Ytochcilkpjhmiaa
open Go.RowKit

theorem oi_cases {B : Nat} {w : World} {p : Option Addr} {n cap : Nat} {zs : List Int} (h : OI B w p n cap zs) :
    (p = none ∧ n ≤ 0) ∨ ∃ g, p = some ⟨g, 0, none⟩ ∧ B ≤ g ∧ g < w.heap.size ∧ ∀ j, j < n → w.cell? ⟨g, j, none⟩ = some (.int .i64 (nth zs j)) := by
  cases p with
  | none => left; exact ⟨rfl, by have := h.none.1; omega⟩
  | some a =>
    right
    obtain ⟨g, rfl, h1, h2, _⟩ := h.some
    refine ⟨g, rfl, h1, h2, fun j hj => ?_⟩
    obtain ⟨b, off, e, _, hc⟩ := h.ri.cells
    injection e with e1 e2
    subst e1; subst e2
    have := hc j (by rw [h.len]; exact hj)
    rw [Nat.zero_add] at this
    exact this

theorem ri_cases {w : World} {p : Option Addr} {n cap : Nat} {zs : List Int} (h : RI w p n cap zs) :
    (p = none ∧ n ≤ 0) ∨ ∃ b off, p = some ⟨b, off, none⟩ ∧ b < w.heap.size ∧ ∀ j, j < n → w.cell? ⟨b, off + j, none⟩ = some (.int .i64 (nth zs j)) := by
  cases p with
  | none => left; refine ⟨rfl, ?_⟩; have e := h.2.2.2.1 rfl; have := h.1; rw [e] at this; simp at this; omega
  | some a => right; obtain ⟨b, off, rfl, hb, hc⟩ := h.cells; exact ⟨b, off, rfl, hb, fun j hj => hc j (by rw [h.1]; exact hj)⟩

def longB (n n' : Nat) : Bool := decide (200 < n ∨ 200 < n')

theorem long_any (p p' : Option Addr) (n n' cap cap' : Nat) (w : World) : Calls Try.prog 15 #[.slice p n cap, .slice p' n' cap'] w fun e w' => e = .returned (.bool (longB n n')) ∧ w = w' := by
  by_cases h1 : 200 < n
  · have HF : Hid (true = longB n n') := by show _ = _; simp [longB, h1]
    have h1' : (200 : Int) < (n : Int) := by omega
    clear h1
    go_enter Try.func15, Try.ntmps15
    go_wp2
    go_ret
    exact ⟨by rw [← HF.out]; rfl, rfl⟩
  · have h1' : ¬ (200 : Int) < (n : Int) := by omega
    by_cases h2 : 200 < n'
    · have HF : Hid (true = longB n n') := by show _ = _; simp [longB, h2]
      have h2' : (200 : Int) < (n' : Int) := by omega
      clear h1 h2
      go_enter Try.func15, Try.ntmps15
      go_wp2
      go_ret
      exact ⟨by rw [← HF.out]; rfl, rfl⟩
    · have HF : Hid (false = longB n n') := by show _ = _; simp [longB, h1, h2]
      have h2' : ¬ (200 : Int) < (n' : Int) := by omega
      clear h1 h2
      go_enter Try.func15, Try.ntmps15
      go_wp2
      go_ret
      exact ⟨by rw [← HF.out]; rfl, rfl⟩

theorem refCheck_any (p : Option Addr) (n cap : Nat) (zs : List Int) (w : World) (h : RI w p n cap zs) (hbig : n * 8 ≤ 140737488355328) :
    Calls Try.prog 22 #[.slice p n cap] w fun e w' => e = .returned (.bool (chkB zs)) ∧ ∃ q, w' = w.drewN q := by
  have hl := h.1
  have HL := Lib.hid hl
  have hln : n ≤ zs.length := by omega
  have hc0 := ri_cases h
  clear hl h
  rcases hc0 with ⟨rfl, hn0⟩ | ⟨b, off, rfl, hb, hc⟩
  · have HC := Lib.hid (chk_nil zs (List.length_eq_zero_iff.1 (by have := HL.out; omega)))
    have hd : ¬ (0 : Int) < (n : Int) := by omega
    go_enter Try.func22, Try.ntmps22
    go_wp2
    go_loop [3] (fun i => i = .int .i64 0) (fun _ => 0)
    case atStart => rfl
    case round =>
      subst hrel
      go_wp2
      go_ret
      exact ⟨by rw [HC.out]; first | (simp; done) | (simp; omega), 0, rfl⟩
  · go_enter Try.func22, Try.ntmps22
    go_wp2
    go_loopw [3] (fun i wr => ∃ k q : Nat, k ≤ n ∧ i = .int .i64 k ∧ (∀ j, j < k → okAt zs j = true) ∧ wr = w.drewN q) (fun i _ => n - (intOf i).toNat)
    case atStart => exact ⟨0, 0, by omega, rfl, fun j hj => by omega, rfl⟩
    case round =>
      obtain ⟨k, q, hk, rfl, hno, rfl⟩ := hrel
      have HNO := Lib.hid hno
      clear hno
      by_cases hlt : k < n
      · have hcell := hc k hlt
        have hcp := hc (k - 1) (by omega)
        clear hc
        have hkn : (k : Int) < n := by omega
        by_cases c1 : nth zs k < 1
        · have HC := Lib.hid (chk_not zs k (by omega) (by simp [okAt]; omega))
          go_wp2
          go_quiet (fail)
          go_wp2
          go_ret
          exact ⟨by rw [HC.out]; rfl, _, World.drewN_drewN _ _ _⟩
        · have d1 : decide (nth zs k < 1) = false := by simp; omega
          by_cases c2 : 5 < nth zs k
          · have HC := Lib.hid (chk_not zs k (by omega) (by simp [okAt]; omega))
            go_wp2
            go_quiet (fail)
            go_wp2
            go_ret
            exact ⟨by rw [HC.out]; rfl, _, World.drewN_drewN _ _ _⟩
          · have d2 : decide (5 < nth zs k) = false := by simp; omega
            by_cases c3 : 0 < k
            · have c3' : (0 : Int) < (k : Int) := by omega
              have hk1 : ((k : Int) - 1).toNat = k - 1 := by omega
              have hk2 : (0 : Int) ≤ (k : Int) - 1 := by omega
              have hk3 : (k : Int) - 1 < (n : Int) := by omega
              by_cases c4 : nth zs k ≤ nth zs (k - 1)
              · have HC := Lib.hid (chk_not zs k (by omega) (by simp [okAt]; omega))
                clear hk1
                go_wp2
                go_quiet (fail)
                go_wp2
                go_ret
                exact ⟨by rw [HC.out]; rfl, _, World.drewN_drewN _ _ _⟩
              · have d4 : decide (nth zs k ≤ nth zs (k - 1)) = false := by simp; omega
                have HO : Hid (okAt zs k = true) := by show _ = _; simp [okAt]; omega
                clear hk1
                go_wp2
                go_quiet (fail)
                go_wp2
                go_roundw
                case rel => exact ⟨k + 1, _, by omega, by go_num, fun j hj => by rcases Nat.lt_or_ge j k with h | h; exact HNO.out j h; (have : j = k := by omega); rw [this]; exact HO.out, rfl⟩
                case measure => simp [intOf]; omega
            · have d3 : decide ((0 : Int) < (k : Int)) = false := by simp; omega
              have HO : Hid (okAt zs k = true) := by show _ = _; simp [okAt]; omega
              go_wp2
              go_quiet (fail)
              go_wp2
              go_roundw
              case rel => exact ⟨k + 1, _, by omega, by go_num, fun j hj => by rcases Nat.lt_or_ge j k with h | h; exact HNO.out j h; (have : j = k := by omega); rw [this]; exact HO.out, rfl⟩
              case measure => simp [intOf]; omega
      · have hkn : k = n := by omega
        by_cases hz : n = 0
        · have HC := Lib.hid (chk_nil zs (List.length_eq_zero_iff.1 (by have := HL.out; omega)))
          clear hc hkn
          go_wp2
          go_ret
          exact ⟨by rw [HC.out]; first | (simp; done) | (simp; omega), q, rfl⟩
        · have HC := Lib.hid (chk_all zs (by intro e; have := HL.out; rw [e] at this; simp at this; omega) (fun j hj => HNO.out j (by have := HL.out; omega)))
          clear hc hkn
          go_wp2
          go_ret
          exact ⟨by rw [HC.out]; first | (simp; done) | (simp; omega), q, rfl⟩

end Go.Proofs.Ytochcilkpjhmiaa
