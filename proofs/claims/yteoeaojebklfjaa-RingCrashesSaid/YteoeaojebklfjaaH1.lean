/- A ring in a world: its numbers. -/
import Derived.Test.YteoeaojebklfjaaR1
import Derived.Deep.QuietTactic
namespace Go.Proofs.Yteoeaojebklfjaa
open Go.RowKit Go.Maps
set_option linter.unusedVariables false

/-- a ring's numbers -/
structure Rg where
  first : Nat
  count : Nat
  base : Nat
  last : Nat
  top : Nat

def big : Nat := 4611686018427387904

/-- what a ring is -/
structure Rg.Ok (r : Rg) : Prop where
  count : 1 ≤ r.count
  small : r.first + r.count ≤ 65536
  bl : r.base ≤ r.last
  lt : r.last ≤ r.top
  room : r.last ≤ r.base + r.count
  top : r.top ≤ 4611686018427387904

abbrev RingAt (w : World) (R D : Nat) (r : Rg) : Prop := CellsR w R [.pointer (some ⟨D, 0, none⟩), .int .i64 (r.first : Int), .int .i64 (r.count : Int), .int .i64 (r.base : Int), .int .i64 (r.last : Int), .int .i64 (r.top : Int)]

def Rg.room (r : Rg) : Nat := if r.last < r.top then 0 else r.count - (r.last - r.base)
def Rg.place (r : Rg) (n : Nat) : Nat := r.first + n % r.count

theorem base_nil (w : World) : Calls Try.prog 46 #[.pointer none] w fun r w' => r = .returned (.int .i64 0) ∧ w' = w := by
  go_enter Try.func46, Try.ntmps46
  go_wp2
  go_ret
  exact ⟨rfl, rfl⟩
theorem rlast_nil (w : World) : Calls Try.prog 43 #[.pointer none] w fun r w' => r = .returned (.int .i64 0) ∧ w' = w := by
  go_enter Try.func43, Try.ntmps43
  go_wp2
  go_ret
  exact ⟨rfl, rfl⟩
theorem top_nil (w : World) : Calls Try.prog 47 #[.pointer none] w fun r w' => r = .returned (.int .i64 0) ∧ w' = w := by
  go_enter Try.func47, Try.ntmps47
  go_wp2
  go_ret
  exact ⟨rfl, rfl⟩
theorem room_nil (w : World) : Calls Try.prog 39 #[.pointer none] w fun r w' => r = .returned (.int .i64 0) ∧ w' = w := by
  go_enter Try.func39, Try.ntmps39
  go_wp2
  go_ret
  exact ⟨rfl, rfl⟩
theorem empty_nil (w : World) : Calls Try.prog 45 #[.pointer none] w fun r w' => r = .returned (.int .i64 0) ∧ w' = w := by
  go_enter Try.func45, Try.ntmps45
  go_wp2
  go_ret
  exact ⟨rfl, rfl⟩
theorem ralive_nil (w : World) : Calls Try.prog 71 #[.pointer none] w fun r w' => r = .returned (.int .i64 2) ∧ w' = w := by
  go_enter Try.func71, Try.ntmps71
  go_wp2
  go_ret
  exact ⟨rfl, rfl⟩
theorem sync_nil (w : World) : Calls Try.prog 44 #[.pointer none] w fun r w' => r = .returned (.int .i64 2) ∧ w' = w := by
  have hc := ralive_nil w
  go_enter Try.func44, Try.ntmps44
  go_wp2_with fail
  refine hc.mono ?_
  rintro r w1 ⟨rfl, rfl⟩
  clear hc
  go_wp2_with fail
  go_ret
  exact ⟨rfl, rfl⟩

section
variable {w : World} {R D : Nat} {r : Rg}
theorem base_any (h : RingAt w R D r) : Calls Try.prog 46 #[.pointer (some ⟨R, 0, none⟩)] w fun e w' => e = .returned (.int .i64 (r.base : Int)) ∧ w' = w := by
  have c := h.is 3 _ rfl
  clear h
  go_enter Try.func46, Try.ntmps46
  go_wp2
  go_ret
  exact ⟨rfl, rfl⟩
theorem rlast_any (h : RingAt w R D r) : Calls Try.prog 43 #[.pointer (some ⟨R, 0, none⟩)] w fun e w' => e = .returned (.int .i64 (r.last : Int)) ∧ w' = w := by
  have c := h.is 4 _ rfl
  clear h
  go_enter Try.func43, Try.ntmps43
  go_wp2
  go_ret
  exact ⟨rfl, rfl⟩
theorem top_any (h : RingAt w R D r) : Calls Try.prog 47 #[.pointer (some ⟨R, 0, none⟩)] w fun e w' => e = .returned (.int .i64 (r.top : Int)) ∧ w' = w := by
  have c := h.is 5 _ rfl
  clear h
  go_enter Try.func47, Try.ntmps47
  go_wp2
  go_ret
  exact ⟨rfl, rfl⟩
theorem torn_any (h : RingAt w R D r) : Calls Try.prog 70 #[.pointer (some ⟨R, 0, none⟩)] w fun e w' => e = .returned (.bool (decide (r.last < r.top))) ∧ ∃ q, w' = w.drewN q := by
  have c4 := h.is 4 _ rfl
  have c5 := h.is 5 _ rfl
  clear h
  go_enter Try.func70, Try.ntmps70
  go_wp2_with fail
  go_quiet (fail)
  go_wp2_with fail
  go_ret
  exact ⟨rfl, nq, rfl⟩
theorem place_any (h : RingAt w R D r) (hok : r.Ok) {n : Nat} (hn : n ≤ 4611686018427387904) : Calls Try.prog 73 #[.pointer (some ⟨R, 0, none⟩), .int .i64 (n : Int)] w fun e w' => e = .returned (.int .i64 (r.place n : Int)) ∧ ∃ q, w' = w.drewN q := by
  have c1 := h.is 1 _ rfl
  have c2 := h.is 2 _ rfl
  have h0 := hok.count
  have h1 := hok.small
  obtain ⟨cn, hcn⟩ : ∃ cn, cn = r.count := ⟨_, rfl⟩
  obtain ⟨fi, hfi⟩ : ∃ fi, fi = r.first := ⟨_, rfl⟩
  have hp : r.place n = fi + n % cn := by rw [hcn, hfi]; rfl
  rw [hp]
  rw [← hcn] at c2 h0 h1
  rw [← hfi] at c1 h1
  have hm := Nat.mod_lt n (show cn > 0 by omega)
  have z0 : ¬ (cn : Int) = 0 := by omega
  have z1 : ((cn : Int) == 0) = false := by simpa using z0
  have z2 : ¬ cn = 0 := by omega
  have z3 : (cn == 0) = false := by simpa using z2
  obtain ⟨m, hm'⟩ : ∃ m, m = n % cn := ⟨_, rfl⟩
  have e1 : (n : Int).tmod (cn : Int) = (m : Int) := by rw [hm']; rfl
  have e2 : IntKind.i64.wrap ((m : Int)) = (m : Int) := IntWalk.i64_in _ (by omega)
  have e3 : IntKind.i64.wrap ((fi : Int) + (m : Int)) = ((fi + m : Nat) : Int) := by rw [IntWalk.i64_in _ (by omega)]; rfl
  rw [← hm']
  clear h hok hcn hfi hp hm'
  go_enter Try.func73, Try.ntmps73
  go_wp2_with fail
  go_quiet (fail)
  go_wp2_with fail
  go_ret
  exact ⟨rfl, nq, rfl⟩

theorem room_any (h : RingAt w R D r) (hok : r.Ok) : Calls Try.prog 39 #[.pointer (some ⟨R, 0, none⟩)] w fun e w' => e = .returned (.int .i64 (r.room : Int)) ∧ ∃ q, w' = w.drewN q := by
  have ht := torn_any h
  have c2 := h.is 2 _ rfl
  have c3 := h.is 3 _ rfl
  have c4 := h.is 4 _ rfl
  obtain ⟨k1, k2, k3, k4, k5, k6⟩ := hok
  obtain ⟨cn, hcn⟩ : ∃ cn, cn = r.count := ⟨_, rfl⟩
  obtain ⟨ba, hba⟩ : ∃ ba, ba = r.base := ⟨_, rfl⟩
  obtain ⟨la, hla⟩ : ∃ la, la = r.last := ⟨_, rfl⟩
  have hr : r.room = if la < r.top then 0 else cn - (la - ba) := by rw [hcn, hba, hla]; rfl
  rw [hr]
  rw [← hla] at ht c4 k3 k4 k5
  rw [← hcn] at c2 k1 k2 k5
  rw [← hba] at c3 k3 k5
  cases hb : decide (la < r.top)
  · rw [hb] at ht
    have hb' : ¬ la < r.top := by simpa using hb
    rw [if_neg hb']
    have HT := Lib.hid ht
    have e1 : IntKind.i64.wrap ((la : Int) - (ba : Int)) = ((la - ba : Nat) : Int) := by rw [IntWalk.i64_in _ (by omega)]; omega
    obtain ⟨m, hm⟩ : ∃ m, m = la - ba := ⟨_, rfl⟩
    rw [← hm] at e1
    have e2 : IntKind.i64.wrap ((cn : Int) - (m : Int)) = ((cn - m : Nat) : Int) := by rw [IntWalk.i64_in _ (by omega)]; omega
    have E : Hid ((cn - (la - ba) : Nat) = cn - m) := by show _ = _; rw [hm]
    have HM := Lib.hid (show (la : Int) - (ba : Int) = (m : Int) ∧ (cn : Int) - (m : Int) = ((cn - m : Nat) : Int) by omega)
    clear ht hb hb' h hr hcn hba hla hm k1 k2 k3 k4 k5 k6
    go_enter Try.func39, Try.ntmps39
    go_wp2_with fail
    refine HT.out.mono ?_
    rintro e w1 ⟨rfl, q, rfl⟩
    go_wp2_with fail
    go_quiet (fail)
    go_wp2_with fail
    go_ret
    refine ⟨?_, q + nq, by rw [World.drewN_drewN]⟩
    rw [E.out]
    first | rfl | (rw [HM.out.1, HM.out.2]; rfl) | (rw [← HM.out.2, ← HM.out.1]; rfl) | (trace_state; fail)
  · rw [hb] at ht
    have hb' : la < r.top := by simpa using hb
    rw [if_pos hb']
    have HT := Lib.hid ht
    clear ht hb hb' h hr hcn hba hla k1 k2 k3 k4 k5 k6
    go_enter Try.func39, Try.ntmps39
    go_wp2_with fail
    refine HT.out.mono ?_
    rintro e w1 ⟨rfl, q, rfl⟩
    go_wp2_with fail
    go_ret
    exact ⟨rfl, q, rfl⟩

theorem ralive_any {F : Nat → Prop} {d : Dk} (h : RingAt w R D r) (hd : DiskAt w D F d) : Calls Try.prog 71 #[.pointer (some ⟨R, 0, none⟩)] w fun e w' => e = .returned (.int .i64 (if d.dead then 20 else 0)) ∧ w' = w := by
  have hc := dead_any hd
  have c0 := h.is 0 _ rfl
  clear h hd
  cases hb : d.dead
  · rw [hb] at hc
    have HC := Lib.hid hc
    clear hc hb
    go_enter Try.func71, Try.ntmps71
    go_wp2_with fail
    refine HC.out.mono ?_
    rintro e w1 ⟨rfl, rfl⟩
    go_wp2_with fail
    go_ret
    exact ⟨rfl, rfl⟩
  · rw [hb] at hc
    have HC := Lib.hid hc
    clear hc hb
    go_enter Try.func71, Try.ntmps71
    go_wp2_with fail
    refine HC.out.mono ?_
    rintro e w1 ⟨rfl, rfl⟩
    go_wp2_with fail
    go_ret
    exact ⟨rfl, rfl⟩
end

/-- how many pieces a record has -/
def piecesOf (n : Nat) : Nat := if n = 0 then 1 else (n - 1) / 501 + 1
theorem pieces_neg (n : Int) (w : World) (h : n < 0) : Calls Try.prog 41 #[.int .i64 n] w fun r w' => r = .returned (.int .i64 0) ∧ w' = w := by
  go_enter Try.func41, Try.ntmps41
  go_wp2_with fail
  go_ret
  exact ⟨rfl, rfl⟩
theorem pieces_any (n : Nat) (w : World) (h : n ≤ 4611686018427387904) : Calls Try.prog 41 #[.int .i64 (n : Int)] w fun r w' => r = .returned (.int .i64 (piecesOf n : Int)) ∧ w' = w := by
  by_cases h0 : n = 0
  · subst h0
    go_enter Try.func41, Try.ntmps41
    go_wp2_with fail
    go_ret
    exact ⟨rfl, rfl⟩
  · have h1 : ¬ (n : Int) < 0 := by omega
    have h2 : ((n : Int) == 0) = false := by simpa using h0
    have h3 : ¬ (n : Int) = 0 := by omega
    have e1 : wrap64 ((n : Int) - 1) = ((n - 1 : Nat) : Int) := by rw [IntWalk.wrap64_in _ (by omega)]; omega
    obtain ⟨m, hm⟩ : ∃ m, m = n - 1 := ⟨_, rfl⟩
    have hp : piecesOf n = m / 501 + 1 := by rw [hm]; unfold piecesOf; rw [if_neg h0]
    rw [hp]
    have HM := Lib.hid (And.intro hm h)
    clear hp hm h
    go_enter Try.func41, Try.ntmps41
    go_wp2_with fail
    go_ret
    have hb := HM.out.2
    have hm := HM.out.1
    have e : wrap64 (wrap64 ((m : Int) / 501) + 1) = ((m / 501 + 1 : Nat) : Int) := by
      rw [IntWalk.wrap64_in ((m : Int) / 501) (by omega), IntWalk.wrap64_in _ (by omega)]
      omega
    refine ⟨?_, rfl⟩
    show Ending.returned (.int .i64 (wrap64 (wrap64 (((n - 1 : Nat) : Int) / 501) + 1))) = Ending.returned (.int .i64 ((m / 501 + 1 : Nat) : Int))
    rw [← hm, e]
end Go.Proofs.Yteoeaojebklfjaa
