/- awake (7): the walk. -/
import Derived.Test.YtfjfpnlcmjpofaaL1
namespace Go.Proofs.Ytfjfpnlcmjpofaa
open Go.RowKit Go.Maps Go.Sort Go.Shelf
set_option linter.unusedVariables false

section
variable {w : World} {B M N : Nat} {t : Tb}
theorem new_lit {life : Int} {n : Nat} {hold now : Int} (hn : (n : Int) = life) (h : newB (n : Int) hold now = true) {t : Tb} (ht : (⟨n, hold, now, 0, [], [], 0⟩ : Tb) = t) (w : World) : Calls Try.prog 8 #[.int .i64 life, .int .i64 hold, .int .i64 now] w fun e w' => ∃ B M N, e = .returned (.tuple #[.pointer (some ⟨B, 0, none⟩), .int .i64 0]) ∧ TabAt w' B M N t ∧ w.heap.size ≤ B ∧ w.heap.size ≤ M ∧ w.heap.size ≤ N ∧ Only None' w w' := by
  subst hn ht
  exact new_any n hold now h w
theorem give_lit (h : TabAt w B M N t) {key : ByteArray} {cache now : Int} (hf : Fine key cache) (hc : t.giveCode key.data.toList now = 0) {n : Int} (hn : ((t.top + 1 : Nat) : Int) = n) {t' : Tb} (ht : t.gave key cache now = t') : Calls Try.prog 10 #[.pointer (some ⟨B, 0, none⟩), .string key, .int .i64 cache, .int .i64 now] w fun e w' => e = .returned (.tuple #[.int .i64 n, .int .i64 0]) ∧ TabAt w' B M N t' ∧ Only (fun k => k = B ∨ k = M) w w' := by
  subst hn ht
  exact give_go h key cache now hf hc
theorem early_lit (h : TabAt w B M N t) {now : Int} {b : Bool} (hb : decide (now < t.start + t.hold) = b) : Calls Try.prog 19 #[.pointer (some ⟨B, 0, none⟩), .int .i64 now] w fun e w' => e = .returned (.bool b) ∧ Only None' w w' := by
  subst hb
  exact (early_any h now).mono fun e w' ⟨h1, q, h2⟩ => ⟨h1, by rw [h2]; exact (Only.refl _ _).drewN q⟩
theorem back_lit (h : TabAt w B M N t) {cache num : Int} {b : Bool} (hb : t.has cache num = b) {t' : Tb} (ht : t.back cache num = t') : Calls Try.prog 13 #[.pointer (some ⟨B, 0, none⟩), .int .i64 cache, .int .i64 num] w fun e w' => e = .returned (.bool b) ∧ TabAt w' B M N t' ∧ Only (fun k => k = M) w w' := by
  subst hb ht
  exact back_any h cache num
theorem shut_lit (h : TabAt w B M N t) {key : ByteArray} (hk : key.size ≤ 140737488355328) (hc : t.cnt ≤ 1000000) {t' : Tb} (ht : t.shutted key.data.toList = t') : Calls Try.prog 15 #[.pointer (some ⟨B, 0, none⟩), .string key] w fun e w' => e = .returned (.tuple #[]) ∧ TabAt w' B M N t' ∧ Only (fun k => k = N) w w' := by
  subst ht
  exact shut_any h key hk hc
theorem out_lit (h : TabAt w B M N t) {key : ByteArray} {now : Int} {l0 : List Ls} (hl : (t.ls.filter (live now)).filter (ofKey key) = l0) : Calls Try.prog 22 #[.pointer (some ⟨B, 0, none⟩), .string key, .int .i64 now] w fun e w' => ∃ (v : Value) (l : List Ls), e = .returned v ∧ l.Perm l0 ∧ Up l ∧ Vec w' 4 v l.length (l.flatMap Ls.row) ∧ (∀ k, v.ownBlock = some k → w.heap.size ≤ k) ∧ Only None' w w' := by
  subst hl
  exact outL_any h key now
theorem give_no_lit (h : TabAt w B M N t) {key : ByteArray} (hk : key.size ≤ 140737488355328) {cache now : Int} {code : Int} (hc : t.giveCode key.data.toList now = code) (h0 : code ≠ 0) : Calls Try.prog 10 #[.pointer (some ⟨B, 0, none⟩), .string key, .int .i64 cache, .int .i64 now] w fun e w' => e = .returned (.tuple #[.int .i64 0, .int .i64 code]) ∧ Only None' w w' :=
  (give_no h key hk cache now hc h0).mono fun e w' ⟨h1, q, h2⟩ => ⟨h1, by rw [h2]; exact (Only.refl _ _).drewN q⟩
end
theorem new0 : newB ((2 : Nat) : Int) 9 100 = true := by decide
set_option maxRecDepth 20000 in
set_option maxHeartbeats 1000000 in
theorem awake_any (w : World) : Calls Try.prog 7 #[] w fun e w' => e = .returned (.bool true) ∧ Only None' w w' := by
  go_enter Try.func7, Try.ntmps7
  go_wp2_with fail
  refine (new_lit (life := 2) (n := 2) rfl new0 (t := T0) rfl w).mono ?_
  rintro e w1 ⟨B, M, N, rfl, h1, hB, hM, hN, o1⟩
  have H1 := Lib.hid (And.intro h1 (And.intro hB (And.intro hM (And.intro hN o1))))
  clear h1 hB hM hN o1
  go_wp2_with fail
  refine (early_lit H1.out.1 (now := 108) (b := true) (by decide)).mono ?_
  rintro e w2 ⟨rfl, o2⟩
  have H2 := Lib.hid (And.intro (H1.out.1.new o2) o2)
  clear o2
  go_wp2_with fail
  refine (early_lit H2.out.1 (now := 109) (b := false) (by decide)).mono ?_
  rintro e w3 ⟨rfl, o3⟩
  have H3 := Lib.hid (And.intro (H2.out.1.new o3) o3)
  clear o3
  go_wp2_with fail
  refine (give_lit H3.out.1 (key := kk) (cache := 101) (now := 120) (fine_k 101 (by omega) (by omega)) c1 (n := 2097153) (by decide) g1).mono ?_
  rintro e w4 ⟨rfl, h4, o4⟩
  have H4 := Lib.hid (And.intro h4 o4)
  clear h4 o4
  go_wp2_with fail
  refine (give_lit H4.out.1 (key := kk) (cache := 102) (now := 121) (fine_k 102 (by omega) (by omega)) c2 (n := 2097154) (by decide) g2).mono ?_
  rintro e w5 ⟨rfl, h5, o5⟩
  have H5 := Lib.hid (And.intro h5 o5)
  clear h5 o5
  go_wp2_with fail
  refine (out_lit H5.out.1 (key := kk) (now := 128) live2).mono ?_
  rintro e w6 ⟨v6, l6, rfl, hp6, -, hv6, -, o6⟩
  obtain ⟨a6, k6, rfl, _, _⟩ := hv6.shape
  have e6 : l6.length = 2 := hp6.length_eq
  rw [e6]
  have H6 := Lib.hid (And.intro (H5.out.1.new o6) o6)
  clear hp6 hv6 o6 e6
  go_wp2_with fail
  refine (out_lit H6.out.1 (key := kk) (now := 129) live1).mono ?_
  rintro e w7 ⟨v7, l7, rfl, hp7, -, hv7, hf7, o7⟩
  obtain rfl : l7 = [x2] := List.perm_singleton.1 hp7
  obtain ⟨a7, k7, rfl, _, _⟩ := hv7.shape
  have H7 := Lib.hid (And.intro (H6.out.1.new o7) (And.intro o7 (And.intro hv7 hf7)))
  clear hp7 hv7 o7 hf7
  simp only [List.length_cons, List.length_nil, Nat.zero_add] at H7 ⊢
  go_wp2_with fail
  refine (back_lit H7.out.1 h1 (T2.back_none h1)).mono ?_
  rintro e w8 ⟨rfl, h8, o8⟩
  have H8 := Lib.hid (And.intro h8 o8)
  clear h8 o8
  go_wp2_with fail
  refine (back_lit H8.out.1 h2 g3).mono ?_
  rintro e w9 ⟨rfl, h9, o9⟩
  have H9 := Lib.hid (And.intro h9 o9)
  clear h9 o9
  go_wp2_with fail
  refine (shut_lit H9.out.1 (key := kk) (by decide) (by decide) s1).mono ?_
  rintro e wa ⟨rfl, ha, oa⟩
  have HA := Lib.hid (And.intro ha oa)
  clear ha oa
  go_wp2_with fail
  refine (give_no_lit HA.out.1 (key := kk) (by decide) (cache := 101) (now := 130) c3 (by decide)).mono ?_
  rintro e wb ⟨rfl, ob⟩
  have HB := Lib.hid ob
  clear ob
  have R : Hid (Vec wb 4 (.slice a7 1 k7) 1 x2.row) := Lib.hid (by
    have hv := H7.out.2.2.1
    have hne : ∀ g, (Value.slice a7 1 k7).ownBlock = some g → M ≠ g ∧ N ≠ g := fun g hg => by
      have e1 := H7.out.2.2.2 g hg
      have e2 := H6.out.1.lt
      exact ⟨by omega, by omega⟩
    exact (((hv.only H8.out.2 fun g hg e => (hne g hg).1 e.symm).only H9.out.2 fun g hg e => (hne g hg).1 e.symm).only HA.out.2 fun g hg e => (hne g hg).2 e.symm).only HB.out fun g hg e => e)
  obtain ⟨g, off, cp, e, _, _, hg, hcell, _⟩ := R.out.at_ (by decide)
  injection e with e e2 e3
  subst e
  clear e2 e3
  have q0 : wb.cell? ⟨g, off, none⟩ = some (.string ⟨#[107]⟩) := by have := hcell 0 _ rfl; rwa [Nat.add_zero] at this
  have q1 : wb.cell? ⟨g, off + 1, none⟩ = some (.int .i64 102) := hcell 1 _ rfl
  have q2 : wb.cell? ⟨g, off + 2, none⟩ = some (.int .i64 2097154) := hcell 2 _ rfl
  have q3 : wb.cell? ⟨g, off + 3, none⟩ = some (.int .i64 130) := hcell 3 _ rfl
  clear hcell
  go_wp2_with fail
  go_ret
  refine ⟨rfl, ?_⟩
  obtain ⟨_, hB, hM, hN, o1⟩ := H1.out
  have l3 := (o1.trans H2.out.2).trans H3.out.2
  have l4 := l3.trans2 H4.out.2 fun k hk e => by omega
  have l5 := l4.trans2 H5.out.2 fun k hk e => by omega
  have l7 := (l5.trans H6.out.2).trans H7.out.2.1
  have l8 := l7.trans2 H8.out.2 fun k hk e => by omega
  have l9 := l8.trans2 H9.out.2 fun k hk e => by omega
  have la := l9.trans2 HA.out.2 fun k hk e => by omega
  exact la.trans HB.out
end Go.Proofs.Ytfjfpnlcmjpofaa
