/- Two lists of the call's own, appended to by turns; the walk of butterylaw15.BallotCommon. -/
import Derived.Test.YtochcilkpjhmiaaL2
import Derived.Maps.AppendAt
namespace Go.Proofs.Ytochcilkpjhmiaa
open Go.RowKit

def Two (B : Nat) (w : World) (p1 : Option Addr) (n1 c1 : Nat) (l1 : List Int) (p2 : Option Addr) (n2 c2 : Nat) (l2 : List Int) : Prop :=
  OI B w p1 n1 c1 l1 ∧ OI B w p2 n2 c2 l2 ∧ ∀ a b, p1 = some a → p2 = some b → a.block ≠ b.block

theorem Two.symm {B : Nat} {w : World} {p1 : Option Addr} {n1 c1 : Nat} {l1 : List Int} {p2 : Option Addr} {n2 c2 : Nat} {l2 : List Int} (h : Two B w p1 n1 c1 l1 p2 n2 c2 l2) : Two B w p2 n2 c2 l2 p1 n1 c1 l1 :=
  ⟨h.2.1, h.1, fun a b ha hb => (h.2.2 b a hb ha).symm⟩

theorem two_nil (B : Nat) (w : World) : Two B w none 0 0 [] none 0 0 [] :=
  ⟨World.ownsRow_nil _ _ _ _, World.ownsRow_nil _ _ _ _, fun a b ha => by cases ha⟩

theorem two_left {B : Nat} {w w' : World} {p1 : Option Addr} {n1 c1 : Nat} {l1 : List Int} {p2 : Option Addr} {n2 c2 : Nat} {l2 : List Int} {o : Obj} {v' : Value} {x : Int}
    (h : Two B w p1 n1 c1 l1 p2 n2 c2 l2) (hown' : w'.ownsRow B 3 1 v' (n1 + 1) (l1.map (Value.int .i64) ++ [.int .i64 x])) (hgrow : (w.alloc o).grownBy w' (Value.slice p1 n1 c1).ownBlock)
    (hat : v'.ownBlock = (Value.slice p1 n1 c1).ownBlock ∨ v'.ownBlock = some (w.heap.size + 1)) : ∃ p' c', v' = .slice p' (n1 + 1) c' ∧ Two B w' p' (n1 + 1) c' (l1 ++ [x]) p2 n2 c2 l2 := by
  obtain ⟨h1, h2, h3⟩ := h
  have hn : w'.ownsRow B 3 1 v' (n1 + 1) ((l1 ++ [x]).map (Value.int .i64)) := by rw [List.map_append]; exact hown'
  obtain ⟨p', c', rfl, ho⟩ := OI.of_owns hn
  have h2' : OI B (w.alloc o) p2 n2 c2 l2 := oi_alloc h2 o
  have hb2 : ∀ b, p2 = some b → b.block < w.heap.size := by
    intro b hb
    rcases oi_cases h2 with ⟨e, _⟩ | ⟨g, e, _, hg, _⟩
    · rw [e] at hb; cases hb
    · rw [e] at hb; injection hb with hb; subst hb; exact hg
  refine ⟨p', c', rfl, ho, ?_, ?_⟩
  · refine World.ownsRow.kept (w := w.alloc o) h2' hgrow ?_
    cases p2 with
    | none => left; rfl
    | some b =>
      right
      cases p1 with
      | none => simp [Value.ownBlock]
      | some a => simp only [Value.ownBlock]; intro e; injection e with e; exact h3 a b rfl rfl e.symm
  · intro a b ha hb
    subst ha
    simp only [Value.ownBlock] at hat
    rcases hat with hat | hat
    · cases p1 with
      | none => simp at hat
      | some a0 => simp only at hat; injection hat with hat; rw [hat]; exact h3 a0 b rfl hb
    · injection hat with hat
      have := hb2 b hb
      omega

theorem two_right {B : Nat} {w w' : World} {p1 : Option Addr} {n1 c1 : Nat} {l1 : List Int} {p2 : Option Addr} {n2 c2 : Nat} {l2 : List Int} {o : Obj} {v' : Value} {x : Int}
    (h : Two B w p1 n1 c1 l1 p2 n2 c2 l2) (hown' : w'.ownsRow B 3 1 v' (n2 + 1) (l2.map (Value.int .i64) ++ [.int .i64 x])) (hgrow : (w.alloc o).grownBy w' (Value.slice p2 n2 c2).ownBlock)
    (hat : v'.ownBlock = (Value.slice p2 n2 c2).ownBlock ∨ v'.ownBlock = some (w.heap.size + 1)) : ∃ p' c', v' = .slice p' (n2 + 1) c' ∧ Two B w' p1 n1 c1 l1 p' (n2 + 1) c' (l2 ++ [x]) := by
  obtain ⟨p', c', e, h'⟩ := two_left h.symm hown' hgrow hat
  exact ⟨p', c', e, h'.symm⟩

theorem oi_lt {B : Nat} {w : World} {p : Option Addr} {n cap : Nat} {zs : List Int} (h : OI B w p n cap zs) : ∀ k, (Value.slice p n cap).ownBlock = some k → B ≤ k := own_block h

/-- the law's two lists, of the first k voters -/
def filUp (vs : List Int) (p : Int → Bool) (k : Nat) : List Int := (vs.take k).filter p
theorem filUp_yes (vs : List Int) (p : Int → Bool) (k : Nat) (h : k < vs.length) (e : p (nth vs k) = true) : filUp vs p (k + 1) = filUp vs p k ++ [nth vs k] := by
  unfold filUp; rw [take_succ vs k h, List.filter_append]; simp [e]
theorem filUp_no (vs : List Int) (p : Int → Bool) (k : Nat) (h : k < vs.length) (e : p (nth vs k) = false) : filUp vs p (k + 1) = filUp vs p k := by
  unfold filUp; rw [take_succ vs k h, List.filter_append]; simp [e]
theorem filUp_all (vs : List Int) (p : Int → Bool) (k : Nat) (h : vs.length ≤ k) : filUp vs p k = vs.filter p := by unfold filUp; rw [List.take_of_length_le h]
theorem filUp_len (vs : List Int) (p : Int → Bool) (k : Nat) : (filUp vs p k).length ≤ k := by unfold filUp; exact Nat.le_trans (List.length_filter_le _ _) (List.length_take_le _ _)

theorem chk_nth (vs : List Int) (h : chkB vs = true) (k : Nat) (hk : k < vs.length) : 1 ≤ nth vs k ∧ nth vs k ≤ 5 := by
  rw [nth_get vs k hk]; exact ((chk_iff vs).1 h).2.2 _ (List.getElem_mem hk)
theorem common_nonneg (vs at' : List Int) : 0 ≤ commonI vs at' := (common_is vs at').pos
theorem kAt_yes (at' : List Int) (v : Int) (h : v ≤ at'.length) : kAt at' v = nth at' (v.toNat - 1) := by unfold kAt; rw [if_pos h]
theorem kAt_no (at' : List Int) (v : Int) (h : ¬ v ≤ at'.length) : kAt at' v = 0 := by unfold kAt; rw [if_neg h]

set_option maxHeartbeats 4000000 in
theorem common_walk (p p' : Option Addr) (n n' cap cap' : Nat) (vs at' : List Int) (w : World) (h : RI w p n cap vs) (h' : RI w p' n' cap' at') (hbig : n * 8 ≤ 140737488351232) :
    Calls Try.prog 6 #[.slice p n cap, .slice p' n' cap'] w fun e w' => e = .returned (.bool true) ∧ Below w.heap.size w w' := by
  have H := Lib.hid h
  have H' := Lib.hid h'
  have hbig1 : n * 8 ≤ 140737488355328 := by omega
  have HLEN := Lib.hid h.1
  have HLEN' := Lib.hid h'.1
  by_cases hb : (200 : Int) < (n' : Int)
  · clear h h'
    go_enter Try.func6, Try.ntmps6
    go_wp2_with fail
    refine (works_any _).mono ?_
    rintro e w1 ⟨rfl, h1⟩
    go_wp2_with fail
    refine (works_any _).mono ?_
    rintro e w2 ⟨rfl, h2⟩
    go_wp2_with fail
    go_ret
    exact ⟨rfl, h1.trans (h2.mono h1.size)⟩
  · cases hc : chkB vs with
    | false =>
      have HC := Lib.hid hc
      clear h h' hc
      go_enter Try.func6, Try.ntmps6
      go_wp2_with fail
      refine (works_any _).mono ?_
      rintro e w1 ⟨rfl, h1⟩
      go_wp2_with fail
      refine (bstep h1 (Nat.le_refl _) (check_any _ _ _ vs _ (H.out.below h1) hbig1)).mono ?_
      rintro e w2 ⟨rfl, h2⟩
      rw [HC.out]
      go_wp2_with fail
      refine (bstep h2 (Nat.le_refl _) (works_any _)).mono ?_
      rintro e w3 ⟨rfl, h3⟩
      go_wp2_with fail
      go_ret
      exact ⟨rfl, h3⟩
    | true =>
      have HC := Lib.hid hc
      have hn' : n' * 8 ≤ 140737488355328 := by omega
      have HCW := Lib.hid (common_won vs at' hc)
      have hnn := common_nonneg vs at'
      have HCN := Lib.hid (chk_nth vs hc)
      have hshape := ri_shape h
      have hshape' := ri_shape h'
      obtain ⟨i0, hi, hz0, hz1, hz2⟩ := info_parts Try.info3
      clear h h' hc
      rcases hshape with rfl | ⟨b, off, rfl⟩
      all_goals
        rcases hshape' with rfl | ⟨b', off', rfl⟩
        all_goals
          go_enter Try.func6, Try.ntmps6
          go_wp2_with fail
          refine (works_any _).mono ?_
          rintro e w0 ⟨rfl, h0⟩
          go_wp2_with fail
          refine (bstep h0 (Nat.le_refl _) (check_any _ _ _ vs _ (H.out.below h0) hbig1)).mono ?_
          rintro e wa ⟨rfl, ha⟩
          rw [HC.out]
          go_wp2_with fail
          refine (bstep ha (Nat.le_refl _) (common_any _ _ _ _ _ _ vs at' _ (H.out.below ha) (H'.out.below ha) hbig1 hn')).mono ?_
          rintro e w1 ⟨rfl, h1⟩
          have BW := Lib.hid h1
          have RV1 := Lib.hid (H.out.below h1)
          have RA1 := Lib.hid (H'.out.below h1)
          clear h0 ha h1
          go_wp2_with fail
          go_loopw [6, 7, 8] (fun x y i wr => ∃ (k : Nat) (p2 : Option Addr) (c2 : Nat) (p3 : Option Addr) (c3 : Nat), k ≤ n ∧ i = .int .i64 k ∧ x = .slice p2 (filUp vs (withP at' (commonI vs at')) k).length c2 ∧ y = .slice p3 (filUp vs (aboveP at' (commonI vs at')) k).length c3 ∧
            Two w1.heap.size wr p2 (filUp vs (withP at' (commonI vs at')) k).length c2 (filUp vs (withP at' (commonI vs at')) k) p3 (filUp vs (aboveP at' (commonI vs at')) k).length c3 (filUp vs (aboveP at' (commonI vs at')) k) ∧ Below w1.heap.size w1 wr) (fun _ _ i _ => n - (intOf i).toNat)
          case atStart => exact ⟨0, none, 0, none, 0, by omega, rfl, rfl, rfl, two_nil _ _, Below.refl _ _⟩
          case round =>
            obtain ⟨k, p2, c2, p3, c3, hk, rfl, rfl, rfl, ht, hbel⟩ := hrel
            have HT := Lib.hid ht
            have HB := Lib.hid hbel
            have hsz := hbel.size
            have hw0 : wr.ownsRow w1.heap.size 3 1 (.slice p2 (filUp vs (withP at' (commonI vs at')) k).length c2) (filUp vs (withP at' (commonI vs at')) k).length ((filUp vs (withP at' (commonI vs at')) k).map (Value.int .i64)) := ht.1
            have HWW := Lib.hid hw0
            have RV := Lib.hid (RV1.out)
            have RVR := Lib.hid (RV1.out.below hbel)
            have RAR := Lib.hid (RA1.out.below hbel)
            have l1 := filUp_len vs (withP at' (commonI vs at')) k
            have l2 := filUp_len vs (aboveP at' (commonI vs at')) k
            have hc3 : (filUp vs (withP at' (commonI vs at')) k).length + 1 ≤ maxLen := by unfold maxLen; omega
            have hc3' : (filUp vs (aboveP at' (commonI vs at')) k).length + 1 ≤ maxLen := by unfold maxLen; omega
            by_cases hlt : k < n
            · have hc4 : ((filUp vs (withP at' (commonI vs at')) k).length + 1) * 8 ≤ 140737488355328 := by omega
              have hc4' : ((filUp vs (aboveP at' (commonI vs at')) k).length + 1) * 8 ≤ 140737488355328 := by omega
              have hkl : k < vs.length := by have := HLEN.out; omega
              obtain ⟨bq, oq, ee, hcell⟩ := ri_at RVR.out k hlt
              cases ee
              all_goals
                obtain ⟨v1, v5⟩ := HCN.out k hkl
                clear ht hbel hw0
                by_cases e1 : nth vs k ≤ (n' : Int)
                · obtain ⟨bq, oq, ee, hcat⟩ := ri_at RAR.out ((nth vs k).toNat - 1) (by omega)
                  cases ee
                  all_goals
                    have x0 : (0 : Int) ≤ nth vs k - 1 := by omega
                    have x1 : nth vs k - 1 < (n' : Int) := by omega
                    have HK := Lib.hid (kAt_yes at' (nth vs k) (by have := HLEN'.out; omega))
                    by_cases d1 : commonI vs at' ≤ nth at' ((nth vs k).toNat - 1)
                    · by_cases d3 : commonI vs at' < nth at' ((nth vs k).toNat - 1)
                      · have F1 := Lib.hid (filUp_yes vs (withP at' (commonI vs at')) k hkl (by simp [withP, HK.out, d1]))
                        have F2 := Lib.hid (filUp_yes vs (aboveP at' (commonI vs at')) k hkl (by simp [aboveP, HK.out, d3]))
                        go_wp2_with (at_builtin; refine wpList_append_own_at _ rfl (.tmp 56) (.tmp 61) 25 rfl w1.heap.size 3 i0 (.int .i64 0) 1 8 Try.underlying25 hi hz0 hz1 hz2 rfl (by decide) _ _ _ rfl (HWW.out.alloc _) ⟨wr.heap.size, 0, none⟩ 1 1 [.int .i64 (nth vs k)] rfl rfl (one_cell _ _ _) (ints_one _) hc3 hc4 (by simp; omega) ?_)
                        intro va w2 hown' hgrow _ hat
                        obtain ⟨q2, d2, hv, ht⟩ := two_left HT.out hown' hgrow hat
                        have HB2 := Lib.hid ((HB.out.alloc hsz _).grown hgrow (by simp; omega) (own_block HWW.out))
                        have HV2 := Lib.hid hv
                        have HT2 := Lib.hid ht
                        have hsz2 := HB2.out.size
                        obtain ⟨b, off, ee, hcell2⟩ := ri_at (RV.out.below HB2.out) k hlt
                        cases ee
                        clear hown' hgrow hat hv ht hcell
                        go_wp2_with (at_builtin; refine wpList_append_own_at _ rfl (.tmp 66) (.tmp 71) 25 rfl w1.heap.size 3 i0 (.int .i64 0) 1 8 Try.underlying25 hi hz0 hz1 hz2 rfl (by decide) _ _ _ rfl (World.ownsRow.alloc (show w2.ownsRow w1.heap.size 3 1 _ _ _ from HT2.out.2.1) _) ⟨w2.heap.size, 0, none⟩ 1 1 [.int .i64 (nth vs k)] rfl rfl (one_cell _ _ _) (ints_one _) hc3' hc4' (by simp; omega) ?_)
                        intro vb w3 hown' hgrow _ hat
                        obtain ⟨q3, d3, hv, ht⟩ := two_right HT2.out hown' hgrow hat
                        have HB3 := Lib.hid ((HB2.out.alloc hsz2 _).grown hgrow (by simp; omega) (oi_lt HT2.out.2.1))
                        have HV3 := Lib.hid hv
                        have HT3 := Lib.hid ht
                        clear hown' hgrow hat hv ht hcell2
                        go_wp2
                        go_roundw
                        case rel => exact ⟨k + 1, q2, d2, q3, d3, by omega, by go_num, by rw [F1.out, List.length_append]; exact HV2.out, by rw [F2.out, List.length_append]; exact HV3.out, by rw [F1.out, F2.out, List.length_append, List.length_append]; exact HT3.out, HB3.out⟩
                        case measure => simp [intOf]; omega
                      · have F1 := Lib.hid (filUp_yes vs (withP at' (commonI vs at')) k hkl (by simp [withP, HK.out, d1]))
                        have F2 := Lib.hid (filUp_no vs (aboveP at' (commonI vs at')) k hkl (by simp [aboveP, HK.out]; omega))
                        go_wp2_with (at_builtin; refine wpList_append_own_at _ rfl (.tmp 56) (.tmp 61) 25 rfl w1.heap.size 3 i0 (.int .i64 0) 1 8 Try.underlying25 hi hz0 hz1 hz2 rfl (by decide) _ _ _ rfl (HWW.out.alloc _) ⟨wr.heap.size, 0, none⟩ 1 1 [.int .i64 (nth vs k)] rfl rfl (one_cell _ _ _) (ints_one _) hc3 hc4 (by simp; omega) ?_)
                        intro va w2 hown' hgrow _ hat
                        obtain ⟨q2, d2, hv, ht⟩ := two_left HT.out hown' hgrow hat
                        have HB2 := Lib.hid ((HB.out.alloc hsz _).grown hgrow (by simp; omega) (own_block HWW.out))
                        have HV2 := Lib.hid hv
                        have HT2 := Lib.hid ht
                        have hsz2 := HB2.out.size
                        obtain ⟨b, off, ee, hcell2⟩ := ri_at (RV.out.below HB2.out) k hlt
                        cases ee
                        clear hown' hgrow hat hv ht hcell
                        go_wp2
                        go_roundw
                        case rel => exact ⟨k + 1, q2, d2, p3, c3, by omega, by go_num, by rw [F1.out, List.length_append]; exact HV2.out, by rw [F2.out], by rw [F1.out, F2.out, List.length_append]; exact HT2.out, HB2.out⟩
                        case measure => simp [intOf]; omega
                    · have d3 : ¬ commonI vs at' < nth at' ((nth vs k).toNat - 1) := by omega
                      by_cases d2 : commonI vs at' = 0
                      · have F1 := Lib.hid (filUp_yes vs (withP at' (commonI vs at')) k hkl (by simp [withP, d2]))
                        have F2 := Lib.hid (filUp_no vs (aboveP at' (commonI vs at')) k hkl (by simp [aboveP, HK.out]; omega))
                        have d2' : (commonI vs at' == 0) = true := by simpa using d2
                        clear d2
                        go_wp2_with (at_builtin; refine wpList_append_own_at _ rfl (.tmp 56) (.tmp 61) 25 rfl w1.heap.size 3 i0 (.int .i64 0) 1 8 Try.underlying25 hi hz0 hz1 hz2 rfl (by decide) _ _ _ rfl (HWW.out.alloc _) ⟨wr.heap.size, 0, none⟩ 1 1 [.int .i64 (nth vs k)] rfl rfl (one_cell _ _ _) (ints_one _) hc3 hc4 (by simp; omega) ?_)
                        intro va w2 hown' hgrow _ hat
                        obtain ⟨q2, d2, hv, ht⟩ := two_left HT.out hown' hgrow hat
                        have HB2 := Lib.hid ((HB.out.alloc hsz _).grown hgrow (by simp; omega) (own_block HWW.out))
                        have HV2 := Lib.hid hv
                        have HT2 := Lib.hid ht
                        have hsz2 := HB2.out.size
                        obtain ⟨b, off, ee, hcell2⟩ := ri_at (RV.out.below HB2.out) k hlt
                        cases ee
                        clear hown' hgrow hat hv ht hcell
                        go_wp2
                        go_roundw
                        case rel => exact ⟨k + 1, q2, d2, p3, c3, by omega, by go_num, by rw [F1.out, List.length_append]; exact HV2.out, by rw [F2.out], by rw [F1.out, F2.out, List.length_append]; exact HT2.out, HB2.out⟩
                        case measure => simp [intOf]; omega
                      · have d2' : (commonI vs at' == 0) = false := by simpa using d2
                        have F1 := Lib.hid (filUp_no vs (withP at' (commonI vs at')) k hkl (by simp [withP, HK.out, d2]; omega))
                        have F2 := Lib.hid (filUp_no vs (aboveP at' (commonI vs at')) k hkl (by simp [aboveP, HK.out]; omega))
                        clear d2
                        go_wp2
                        go_roundw
                        case rel => exact ⟨k + 1, p2, c2, p3, c3, by omega, by go_num, by rw [F1.out], by rw [F2.out], by rw [F1.out, F2.out]; exact HT.out, HB.out⟩
                        case measure => simp [intOf]; omega
                · have HK := Lib.hid (kAt_no at' (nth vs k) (by have := HLEN'.out; omega))
                  by_cases d1 : commonI vs at' ≤ 0
                  · have d3 : ¬ commonI vs at' < 0 := by omega
                    have F1 := Lib.hid (filUp_yes vs (withP at' (commonI vs at')) k hkl (by simp [withP, HK.out]; omega))
                    have F2 := Lib.hid (filUp_no vs (aboveP at' (commonI vs at')) k hkl (by simp [aboveP, HK.out]; omega))
                    go_wp2_with (at_builtin; refine wpList_append_own_at _ rfl (.tmp 56) (.tmp 61) 25 rfl w1.heap.size 3 i0 (.int .i64 0) 1 8 Try.underlying25 hi hz0 hz1 hz2 rfl (by decide) _ _ _ rfl (HWW.out.alloc _) ⟨wr.heap.size, 0, none⟩ 1 1 [.int .i64 (nth vs k)] rfl rfl (one_cell _ _ _) (ints_one _) hc3 hc4 (by simp; omega) ?_)
                    intro va w2 hown' hgrow _ hat
                    obtain ⟨q2, d2, hv, ht⟩ := two_left HT.out hown' hgrow hat
                    have HB2 := Lib.hid ((HB.out.alloc hsz _).grown hgrow (by simp; omega) (own_block HWW.out))
                    have HV2 := Lib.hid hv
                    have HT2 := Lib.hid ht
                    have hsz2 := HB2.out.size
                    obtain ⟨b, off, ee, hcell2⟩ := ri_at (RV.out.below HB2.out) k hlt
                    cases ee
                    clear hown' hgrow hat hv ht hcell
                    go_wp2
                    go_roundw
                    case rel => exact ⟨k + 1, q2, d2, p3, c3, by omega, by go_num, by rw [F1.out, List.length_append]; exact HV2.out, by rw [F2.out], by rw [F1.out, F2.out, List.length_append]; exact HT2.out, HB2.out⟩
                    case measure => simp [intOf]; omega
                  · have d3 : ¬ commonI vs at' < 0 := by omega
                    have d2' : (commonI vs at' == 0) = false := by simp; omega
                    have F1 := Lib.hid (filUp_no vs (withP at' (commonI vs at')) k hkl (by simp [withP, HK.out]; omega))
                    have F2 := Lib.hid (filUp_no vs (aboveP at' (commonI vs at')) k hkl (by simp [aboveP, HK.out]; omega))
                    go_wp2
                    go_roundw
                    case rel => exact ⟨k + 1, p2, c2, p3, c3, by omega, by go_num, by rw [F1.out], by rw [F2.out], by rw [F1.out, F2.out]; exact HT.out, HB.out⟩
                    case measure => simp [intOf]; omega
            · have hkn : k = n := by omega
              have G1 := Lib.hid (filUp_all vs (withP at' (commonI vs at')) k (by have := HLEN.out; omega))
              have G2 := Lib.hid (filUp_all vs (aboveP at' (commonI vs at')) k (by have := HLEN.out; omega))
              clear ht hbel hw0 hkn
              go_wp2_with fail
              refine (won_any _ _ _ _ _ _ vs _ _ RVR.out HT.out.1.ri hbig1 (by omega)).mono ?_
              rintro e w4 ⟨rfl, h4⟩
              rw [G1.out, HCW.out.1]
              have R4 := Lib.hid (RVR.out.below h4)
              have T4 := Lib.hid ((HT.out.2.1.below h4).ri)
              have h04 := HB.out.trans (h4.mono hsz)
              have H04 := Lib.hid h04
              clear h4 h04
              go_wp2_with fail
              refine (won_any _ _ _ _ _ _ vs _ _ R4.out T4.out hbig1 (by omega)).mono ?_
              rintro e w5 ⟨rfl, h5⟩
              rw [G2.out, HCW.out.2]
              go_wp2_with fail
              go_ret
              have h05 := H04.out.trans (h5.mono H04.out.size)
              exact ⟨rfl, BW.out.trans (h05.mono BW.out.size)⟩

end Go.Proofs.Ytochcilkpjhmiaa
