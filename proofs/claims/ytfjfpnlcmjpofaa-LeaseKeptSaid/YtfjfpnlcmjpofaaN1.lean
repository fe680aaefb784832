/- LeaseNames: the walk. -/
import Derived.Test.YtfjfpnlcmjpofaaL2
namespace Go.Proofs.Ytfjfpnlcmjpofaa
open Go.RowKit Go.Maps Go.Sort Go.Shelf
set_option linter.unusedVariables false

def aa : ByteArray := ⟨#[97]⟩
/-- the table of the example: one lease is out -/
def Tn (g : Nat) (l : List Ls) : Tb := ⟨2047, 5, 2147483647, g, l, [], 0⟩
structure NmIn (w wr : World) (B M N k : Nat) : Prop where
  only : Only None' w wr
  new : w.heap.size ≤ B ∧ w.heap.size ≤ M ∧ w.heap.size ≤ N
  tab : ∃ x : Ls, TabAt wr B M N (Tn (k - 1) [x]) ∧ (x.key = kk ∧ x.cache = 101) ∧ (3 ≤ k → x.fin = 12)
theorem Tn_gave {g : Nat} {x : Ls} (h : x.key = kk ∧ x.cache = 101) : (Tn g [x]).gave kk 101 7 = Tn (g + 1) [⟨kk, 101, ((2047 * 1048576 + g + 1 : Nat) : Int), 12⟩] := by
  unfold Tn Tb.gave give
  have e : at_ (Tb.new ⟨2047, 5, 2147483647, g, [x], [], 0⟩ kk 101 7).key (Tb.new ⟨2047, 5, 2147483647, g, [x], [], 0⟩ kk 101 7).cache x = true := by
    unfold at_
    rw [decide_eq_true_eq]
    exact h
  simp only [Tb.mk.injEq, true_and, and_true]
  rw [List.filter_cons, e]
  rfl
theorem Tn_code {g : Nat} {x : Ls} (h : g < 1048575) : (Tn g [x]).giveCode kk.data.toList 7 = 0 := by
  unfold Tb.giveCode Tn
  have e1 : clockB 7 = true := by decide
  have e2 : clockB (7 + 5) = true := by decide
  rw [if_neg (by rw [e1]; decide), if_neg List.not_mem_nil, if_neg (fun hh => hh.elim (fun h' => by simp only at h'; omega) fun h' => by rw [e2] at h'; cases h')]
theorem nm0 : (Tn 0 []).giveCode kk.data.toList 2147483643 = 70 := by decide
theorem nm1 : (Tn 0 []).giveCode kk.data.toList 2147483642 = 0 := by decide
theorem nm2 : (Tn 0 []).gave kk 101 2147483642 = Tn 1 [⟨kk, 101, 2146435073, 2147483647⟩] := rfl
theorem nm3 (x : Ls) : (Tn 1048575 [x]).giveCode kk.data.toList 7 = 70 := by
  unfold Tb.giveCode Tn
  have e1 : clockB 7 = true := by decide
  rw [if_neg (by rw [e1]; decide), if_neg (List.not_mem_nil), if_pos (Or.inl rfl)]
theorem nmb : newB 0 9 0 = false ∧ newB 2048 9 0 = false ∧ newB 1 0 0 = false ∧ newB 1 2147483648 0 = false ∧ newB 1 1 2147483648 = false := by decide
theorem nmg : newB ((2047 : Nat) : Int) 5 2147483647 = true := by decide
theorem all_lit {w : World} {B M N : Nat} {t : Tb} (h : TabAt w B M N t) {now : Int} {l0 : List Ls} (hl : t.ls.filter (live now) = l0) : Calls Try.prog 24 #[.pointer (some ⟨B, 0, none⟩), .int .i64 now] w fun e w' => ∃ (v : Value) (l : List Ls), e = .returned v ∧ l.Perm l0 ∧ Up l ∧ Vec w' 4 v l.length (l.flatMap Ls.row) ∧ (∀ k, v.ownBlock = some k → w.heap.size ≤ k) ∧ Only None' w w' := by
  subst hl
  exact all_any h now
theorem early_nil' (now : Int) (w : World) : Calls Try.prog 19 #[.pointer none, .int .i64 now] w fun e w' => e = .returned (.bool false) ∧ Only None' w w' :=
  (early_nil now w).mono fun e w' ⟨h1, q, h2⟩ => ⟨h1, by rw [h2]; exact (Only.refl _ _).drewN q⟩
set_option maxRecDepth 20000 in
set_option maxHeartbeats 4000000 in
theorem names_walk (w : World) : Calls Try.prog 5 #[] w fun e w' => e = .returned (.bool true) ∧ Below w.heap.size w w' := by
  go_enter Try.func5, Try.ntmps5
  go_wp2_with fail
  refine (shut_nil aa w).mono ?_
  rintro e w1 ⟨rfl, rfl⟩
  go_wp2_with fail
  refine (unshut_nil aa w).mono ?_
  rintro e w1 ⟨rfl, rfl⟩
  go_wp2_with fail
  refine (clear_nil w).mono ?_
  rintro e w1 ⟨rfl, rfl⟩
  go_wp2_with fail
  refine (give_nil aa 1 1 w).mono ?_
  rintro e w1 ⟨rfl, rfl⟩
  go_wp2_with fail
  refine (new_bad 0 9 0 nmb.1 w).mono ?_
  rintro e w1 ⟨rfl, rfl⟩
  go_wp2_with fail
  refine (new_bad 2048 9 0 nmb.2.1 w).mono ?_
  rintro e w1 ⟨rfl, rfl⟩
  go_wp2_with fail
  refine (new_bad 1 0 0 nmb.2.2.1 w).mono ?_
  rintro e w1 ⟨rfl, rfl⟩
  go_wp2_with fail
  refine (new_bad 1 2147483648 0 nmb.2.2.2.1 w).mono ?_
  rintro e w1 ⟨rfl, rfl⟩
  go_wp2_with fail
  refine (new_bad 1 1 2147483648 nmb.2.2.2.2 w).mono ?_
  rintro e w1 ⟨rfl, rfl⟩
  go_wp2_with fail
  refine (new_lit (life := 2047) (n := 2047) rfl nmg (t := Tn 0 []) rfl w).mono ?_
  rintro e w1 ⟨B, M, N, rfl, h1, hB, hM, hN, o1⟩
  have H1 := Lib.hid (And.intro h1 (And.intro hB (And.intro hM (And.intro hN o1))))
  clear h1 hB hM hN o1
  go_wp2_with fail
  refine (give_no_lit H1.out.1 (key := kk) (by decide) (cache := 101) (now := 2147483643) nm0 (by decide)).mono ?_
  rintro e w2 ⟨rfl, o2⟩
  have H2 := Lib.hid (And.intro (H1.out.1.new o2) o2)
  clear o2
  go_wp2_with fail
  refine (give_lit H2.out.1 (key := kk) (cache := 101) (now := 2147483642) (fine_k 101 (by omega) (by omega)) nm1 (n := 2146435073) (by decide) nm2).mono ?_
  rintro e w3 ⟨rfl, h3, o3⟩
  have L1 : Hid (NmIn w w3 B M N 2) := Lib.hid ⟨(H1.out.2.2.2.2.trans H2.out.2).trans2 o3 fun k hk e => by have := H1.out.2; omega, ⟨H1.out.2.1, H1.out.2.2.1, H1.out.2.2.2.1⟩, _, h3, ⟨rfl, rfl⟩, fun h => absurd h (by decide)⟩
  clear h3 o3 H1 H2
  go_wp2_with fail
  go_loopw [20] (fun i wr => ∃ k : Nat, 2 ≤ k ∧ k ≤ 1048576 ∧ i = .int .i64 (k : Int) ∧ Hid (NmIn w wr B M N k)) (fun i wr => 1048576 - (intOf i).toNat)
  case atStart => exact ⟨2, by omega, by omega, rfl, L1⟩
  case round =>
    clear L1
    obtain ⟨k, hk1, hk2, rfl, HI⟩ := hrel
    obtain ⟨x, hx, hpl, hfin⟩ := HI.out.tab
    by_cases hlt : k < 1048576
    · have i0 : (2 : Int) ≤ (k : Int) := by omega
      have i1 : (k : Int) < 1048576 := by omega
      have HK := Lib.hid (And.intro hk1 hlt)
      have HX := Lib.hid (And.intro hx hpl)
      have HG := Lib.hid (give_lit HX.out.1 (key := kk) (cache := 101) (now := 7) (fine_k 101 (by omega) (by omega)) (Tn_code (by omega)) (n := 2146435073 + (k : Int) - 1) (by unfold Tb.top Tn; simp only; omega) (Tn_gave hpl))
      clear hk1 hk2 hlt hx hpl hfin
      go_wp2_with fail
      refine HG.out.mono ?_
      rintro e w4 ⟨rfl, h4, o4⟩
      have H4 : Hid (NmIn w w4 B M N (k + 1)) := Lib.hid ⟨HI.out.only.trans2 o4 fun q hq e => by have := HI.out.new; omega, HI.out.new, _, by (rw [show k + 1 - 1 = k - 1 + 1 from by (have := HK.out; omega)]); exact h4, ⟨rfl, rfl⟩, fun _ => rfl⟩
      clear h4 o4 HG
      go_wp2_with fail
      go_roundw
      case rel => exact ⟨k + 1, by have := HK.out; omega, by have := HK.out; omega, congrArg (Value.int .i64) (by omega), H4⟩
      case measure => exact (show 1048576 - ((k : Int) + 1).toNat < 1048576 - (k : Int).toNat by have := HK.out; omega)
    · obtain rfl : k = 1048576 := by omega
      have HX := Lib.hid (And.intro hx (hfin (by omega)))
      have HO := Lib.hid (And.intro HI.out.only HI.out.new)
      have hl1 : Hid ((Tn (1048576 - 1) [x]).ls.filter (live 11) = [x]) := Lib.hid (by
        have e : live 11 x = true := by unfold live; rw [HX.out.2]; decide
        simp [Tn, e])
      have hl2 : Hid ((Tn (1048576 - 1) [x]).ls.filter (live 12) = []) := Lib.hid (by
        have e : live 12 x = false := by unfold live; rw [HX.out.2]; decide
        simp [Tn, e])
      clear hx hpl hfin hk1 hk2 hlt HI
      go_wp2_with fail
      refine (give_no_lit HX.out.1 (key := kk) (by decide) (cache := 101) (now := 7) (nm3 x) (by decide)).mono ?_
      rintro e w4 ⟨rfl, o4⟩
      have H4 := Lib.hid (And.intro (HX.out.1.new o4) (HO.out.1.trans o4))
      clear o4
      go_wp2_with fail
      refine (early_nil' 0 w4).mono ?_
      rintro e w5 ⟨rfl, o5⟩
      have H5 := Lib.hid (And.intro (H4.out.1.new o5) (H4.out.2.trans o5))
      clear o5
      go_wp2_with fail
      refine (back_nil 1 1 w5).mono ?_
      rintro e w5' ⟨rfl, rfl⟩
      go_wp2_with fail
      refine (outL_nil aa 1).mono ?_
      rintro e w6 ⟨v6, rfl, hv6, o6⟩
      obtain ⟨a6, k6, rfl, _, _⟩ := hv6.shape
      have H6 := Lib.hid (And.intro (H5.out.1.new o6) (H5.out.2.trans o6))
      clear hv6 o6
      go_wp2_with fail
      refine (all_nil 1 w6).mono ?_
      rintro e w7 ⟨v7, rfl, hv7, o7⟩
      obtain ⟨a7, k7, rfl, _, _⟩ := hv7.shape
      have H7 := Lib.hid (And.intro (H6.out.1.new o7) (H6.out.2.trans o7))
      clear hv7 o7
      go_wp2_with fail
      refine (all_lit H7.out.1 (now := 11) hl1.out).mono ?_
      rintro e w8 ⟨v8, l8, rfl, hp8, -, hv8, -, o8⟩
      obtain ⟨a8, k8, rfl, _, _⟩ := hv8.shape
      have e8 : l8.length = 1 := hp8.length_eq
      rw [e8]
      have H8 := Lib.hid (And.intro (H7.out.1.new o8) (H7.out.2.trans o8))
      clear hp8 hv8 o8 e8
      go_wp2_with fail
      refine (all_lit H8.out.1 (now := 12) hl2.out).mono ?_
      rintro e w9 ⟨v9, l9, rfl, hp9, -, hv9, -, o9⟩
      obtain ⟨a9, k9, rfl, _, _⟩ := hv9.shape
      have e9 : l9.length = 0 := hp9.length_eq
      rw [e9]
      have H9 := Lib.hid (H8.out.2.trans o9)
      clear hp9 hv9 o9 e9
      go_wp2_with fail
      refine (awake_any w9).mono ?_
      rintro e wa ⟨rfl, oa⟩
      have HA := Lib.hid (H9.out.trans oa)
      clear oa
      go_wp2_with fail
      go_ret
      exact ⟨rfl, HA.out.below (Nat.le_refl _) fun _ e => e.elim⟩
end Go.Proofs.Ytfjfpnlcmjpofaa
