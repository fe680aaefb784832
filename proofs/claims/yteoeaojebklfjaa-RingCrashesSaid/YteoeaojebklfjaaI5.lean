/- Append, where it refuses: the walk. -/
import Derived.Test.YteoeaojebklfjaaI4
import Derived.Test.YteoeaojebklfjaaH1
namespace Go.Proofs.Yteoeaojebklfjaa
open Go.RowKit Go.Maps
set_option linter.unusedVariables false

/-- why n pieces more are refused -/
def refuse (r : Rg) (n : Nat) : Option Int := if r.count < n then some 40 else if r.last < r.top then some 50 else if r.room < n then some 3 else if 4611686018427387904 < r.last + n then some 70 else none

section
variable {w : World} {R D : Nat} {F : Nat → Prop} {r : Rg} {d : Dk}
set_option maxHeartbeats 1000000 in
theorem append_no (h : RingAt w R D r) (hok : r.Ok) (hd : DiskAt w D F d) (hdd : d.dead = false) (a : Option Addr) (n c : Nat) (hn : n ≤ 140737488355328) {code : Int} (hc : refuse r (cutN n) = some code) :
    Calls Try.prog 40 #[.pointer (some ⟨R, 0, none⟩), .slice a n c] w fun e w' => e = .returned (.int .i64 code) ∧ ∃ q, w' = w.drewN q := by
  have ha := ralive_any h hd
  rw [hdd] at ha
  have HA := Lib.hid ha
  have HP := Lib.hid (fun w => pieces_any n w (by omega))
  have HT := Lib.hid (torn_any h)
  have HR := Lib.hid (fun q => room_any (CellsR.kept h ((Only.refl None' _).drewN q) fun e => e) hok)
  have c2 := h.is 2 _ rfl
  have c4 := h.is 4 _ rfl
  obtain ⟨k1, k2, k3, k4, k5, k6⟩ := hok
  obtain ⟨cn, hcn⟩ : ∃ cn, cn = r.count := ⟨_, rfl⟩
  obtain ⟨la, hla⟩ : ∃ la, la = r.last := ⟨_, rfl⟩
  obtain ⟨m, hm⟩ : ∃ m, m = cutN n := ⟨_, rfl⟩
  obtain ⟨ro, hro⟩ : ∃ ro, ro = r.room := ⟨_, rfl⟩
  unfold refuse at hc
  change Hid (∀ w, Calls Try.prog 41 #[.int .i64 (n : Int)] w fun e w' => e = .returned (.int .i64 (cutN n : Int)) ∧ w' = w) at HP
  rw [← hm] at HP hc
  rw [← hcn] at c2 hc k1 k2
  rw [← hla] at c4 hc HT
  rw [← hro] at hc HR
  have k7 : la ≤ 4611686018427387904 := by omega
  have k8 : cn ≤ 65536 := by omega
  clear h hd hdd ha hcn hm hro k1 k2 k3 k4 k5 k6
  by_cases h1 : cn < m
  · rw [if_pos h1] at hc
    injection hc with hc
    subst hc
    clear k7 k8 hla
    go_enter Try.func40, Try.ntmps40
    go_wp2_with fail
    refine HA.out.mono ?_
    rintro e w1 ⟨rfl, rfl⟩
    go_wp2_with fail
    refine (HP.out _).mono ?_
    rintro e w1 ⟨rfl, rfl⟩
    go_wp2_with fail
    go_ret
    exact ⟨rfl, 0, rfl⟩
  · rw [if_neg h1] at hc
    by_cases h2 : la < r.top
    · rw [if_pos h2] at hc
      injection hc with hc
      subst hc
      have hT' := HT.out
      rw [decide_eq_true h2] at hT'
      have HT := Lib.hid hT'
      clear k7 k8 hla hT' h2
      go_enter Try.func40, Try.ntmps40
      go_wp2_with fail
      refine HA.out.mono ?_
      rintro e w1 ⟨rfl, rfl⟩
      go_wp2_with fail
      refine (HP.out _).mono ?_
      rintro e w1 ⟨rfl, rfl⟩
      go_wp2_with fail
      refine HT.out.mono ?_
      rintro e w1 ⟨rfl, q, rfl⟩
      go_wp2_with fail
      go_ret
      exact ⟨rfl, q, rfl⟩
    · rw [if_neg h2] at hc
      have hT' := HT.out
      rw [decide_eq_false h2] at hT'
      have HT := Lib.hid hT'
      clear hT' h2
      by_cases h3 : ro < m
      · rw [if_pos h3] at hc
        injection hc with hc
        subst hc
        clear k7 k8 hla
        go_enter Try.func40, Try.ntmps40
        go_wp2_with fail
        refine HA.out.mono ?_
        rintro e w1 ⟨rfl, rfl⟩
        go_wp2_with fail
        refine (HP.out _).mono ?_
        rintro e w1 ⟨rfl, rfl⟩
        go_wp2_with fail
        refine HT.out.mono ?_
        rintro e w1 ⟨rfl, q, rfl⟩
        go_wp2_with fail
        refine (HR.out q).mono ?_
        rintro e w1 ⟨rfl, q2, rfl⟩
        go_wp2_with fail
        go_ret
        exact ⟨rfl, q + q2, rfl⟩
      · rw [if_neg h3] at hc
        by_cases h4 : 4611686018427387904 < la + m
        · rw [if_pos h4] at hc
          injection hc with hc
          subst hc
          have e1 : IntKind.i64.wrap ((4611686018427387904 : Int) - (m : Int)) = ((4611686018427387904 - m : Nat) : Int) := by rw [IntWalk.i64_in _ (by omega)]; omega
          obtain ⟨y, hy⟩ : ∃ y, y = 4611686018427387904 - m := ⟨_, rfl⟩
          rw [← hy] at e1
          have h5 : y < la := by omega
          have e2 : (4611686018427387904 : Int) - (m : Int) = (y : Int) := by omega
          clear hla hy h4
          go_enter Try.func40, Try.ntmps40
          go_wp2_with fail
          refine HA.out.mono ?_
          rintro e w1 ⟨rfl, rfl⟩
          go_wp2_with fail
          refine (HP.out _).mono ?_
          rintro e w1 ⟨rfl, rfl⟩
          go_wp2_with fail
          refine HT.out.mono ?_
          rintro e w1 ⟨rfl, q, rfl⟩
          go_wp2_with fail
          refine (HR.out q).mono ?_
          rintro e w1 ⟨rfl, q2, rfl⟩
          go_wp2_with fail
          go_ret
          exact ⟨rfl, q + q2, rfl⟩
        · rw [if_neg h4] at hc
          cases hc
end
end Go.Proofs.Yteoeaojebklfjaa
