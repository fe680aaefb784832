/- Empty, Sync: the walks. -/
import Derived.Test.YteoeaojebklfjaaH1
import Derived.BigRegion
namespace Go.Proofs.Yteoeaojebklfjaa
open Go.RowKit Go.Maps
set_option linter.unusedVariables false

def Rg.emptied (r : Rg) : Rg := { r with base := r.top, last := r.top }

set_option maxHeartbeats 1000000 in
theorem empty_any {w : World} {R D : Nat} {r : Rg} (h : RingAt w R D r) : Calls Try.prog 45 #[.pointer (some ⟨R, 0, none⟩)] w fun e w' => e = .returned (.int .i64 (r.top : Int)) ∧ RingAt w' R D r.emptied ∧ Only (fun k => k = R) w w' := by
  have c3 := h.is 3 _ rfl
  have c4 := h.is 4 _ rfl
  have c5 := h.is 5 _ rfl
  have z := h.thaw
  have H := Lib.hid h
  clear h
  go_enter Try.func45, Try.ntmps45
  go_wp2_with fail
  go_region
  go_wp2_with fail
  go_ret
  refine ⟨rfl, ?_, (((Only.refl (fun k => k = R) _).setCell (p := ⟨R, 3, none⟩) rfl _).setCell (p := ⟨R, 4, none⟩) rfl _).drew⟩
  exact ((H.out.set (i := 3) (by simp) _).set (i := 4) (by simp) _).kept ((Only.refl None' _).drew) fun e => e

set_option maxHeartbeats 1000000 in
theorem sync_dead {w : World} {R D : Nat} {F : Nat → Prop} {r : Rg} {d : Dk} (h : RingAt w R D r) (hd : DiskAt w D F d) (hdd : d.dead = true) : Calls Try.prog 44 #[.pointer (some ⟨R, 0, none⟩)] w fun e w' => e = .returned (.int .i64 20) ∧ w' = w := by
  have ha := ralive_any h hd
  rw [hdd] at ha
  have HA := Lib.hid ha
  clear ha hd hdd h
  go_enter Try.func44, Try.ntmps44
  go_wp2_with fail
  refine HA.out.mono ?_
  rintro e w1 ⟨rfl, rfl⟩
  go_wp2_with fail
  go_ret
  exact ⟨rfl, rfl⟩
set_option maxHeartbeats 1000000 in
theorem sync_any {w : World} {R D : Nat} {F : Nat → Prop} {r : Rg} {d : Dk} (h : RingAt w R D r) (hd : DiskAt w D F d) (hdd : d.dead = false) {n : Nat} (hf : d.Few n) (hn : n ≤ 999999) : Calls Try.prog 44 #[.pointer (some ⟨R, 0, none⟩)] w fun e w' => e = .returned (.int .i64 d.err) ∧ ∃ F', DiskAt w' D F' d.flush ∧ Kept F F' w w' := by
  have ha := ralive_any h hd
  rw [hdd] at ha
  have HA := Lib.hid ha
  have c0 := h.is 0 _ rfl
  have hfl := flush_any hd hdd hf (Nat.le_trans hn (by decide))
  cases hu : d.due
  · have he : d.err = 0 := by unfold Dk.err; rw [hu]; rfl
    rw [he]
    rw [hu] at hfl
    have HF := Lib.hid hfl
    clear ha hd hdd h hu he hfl hf hn
    go_enter Try.func44, Try.ntmps44
    go_wp2_with fail
    refine HA.out.mono ?_
    rintro e w1 ⟨rfl, rfl⟩
    go_wp2_with fail
    refine HF.out.mono ?_
    rintro e w1 ⟨rfl, F', h1, h2⟩
    go_wp2_with fail
    go_ret
    exact ⟨rfl, F', h1, h2⟩
  · have he : d.err = 20 := by unfold Dk.err; rw [hu]; rfl
    rw [he]
    rw [hu] at hfl
    have HF := Lib.hid hfl
    clear ha hd hdd h hu he hfl hf hn
    go_enter Try.func44, Try.ntmps44
    go_wp2_with fail
    refine HA.out.mono ?_
    rintro e w1 ⟨rfl, rfl⟩
    go_wp2_with fail
    refine HF.out.mono ?_
    rintro e w1 ⟨rfl, F', h1, h2⟩
    go_wp2_with fail
    go_ret
    exact ⟨rfl, F', h1, h2⟩
end Go.Proofs.Yteoeaojebklfjaa
