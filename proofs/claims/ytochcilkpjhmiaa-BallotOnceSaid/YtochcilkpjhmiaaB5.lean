/- slices.SortFunc by the greater ones first; ballot.Common: the contracts. -/
import Derived.Test.YtochcilkpjhmiaaB4
import Derived.Test.YtochcilkpjhmiaaA1
namespace Go.Proofs.Ytochcilkpjhmiaa
open Go.RowKit
open Go.Sort (Holds putRow)

def cfD (a b : Int) : Int := cmpI b a
theorem ltOf_cfD (x y : Int) : ltOf cfD x y = decide (y < x) := by
  unfold ltOf cfD cmpI
  rw [decide_eq_decide]
  split
  · simp; omega
  · split <;> simp <;> omega

def descL (zs : List Int) : List Int := zs.mergeSort fun x y => !(ltOf cfD) y x

theorem closure43 (x y : Int) (w : World) : Calls Try.prog 43 #[.int .i64 x, .int .i64 y] w fun e w' => e = .returned (.int .i64 (cfD x y)) ∧ w = w' := by
  go_enter Try.func43, Try.ntmps43
  go_wp2_with (go_at_call 44; refine (cmp_any _ _ _).mono ?_; rintro e w' ⟨rfl, rfl⟩)
  go_ret
  exact ⟨rfl, rfl⟩

theorem swoD : Sort.SWO (ltOf cfD) := by
  refine ⟨fun x => ?_, fun x y z => ?_, fun x y z => ?_⟩
  · rw [ltOf_cfD]; simp
  · rw [ltOf_cfD, ltOf_cfD, ltOf_cfD]; simp; omega
  · rw [ltOf_cfD, ltOf_cfD, ltOf_cfD]; simp; omega

theorem sortfunc_any (B : Nat) (p : Option Addr) (n cap : Nat) (zs : List Int) (w : World) (h : OI B w p n cap zs) (h0 : 0 < n) (hbig : n * 8 ≤ 140737488355328) :
    Calls Try.prog 42 #[.slice p n cap, .func (.func 43) #[] #[]] w fun e w' => e = .returned (.tuple #[]) ∧ OI B w' p n cap (descL zs) ∧ Below B w w' := by
  have hl := h.len
  cases p with
  | none =>
    obtain ⟨rfl, rfl, rfl⟩ := h.none
    omega
  | some a =>
    obtain ⟨g, rfl, h1, h2, h3, h4, h5⟩ := h.some
    subst hl
    have eg : ∀ args w, (callFunc 43 args).run Try.prog w = .ok (.enter 43 args) w := enters_of Try.func43 (by kernel_rfl) rfl
    have hc := Any.slices_SortFunc_total Try.laysSF (Value.int .i64) (fun _ => rfl) cfD swoD 43 #[] g 0 cap zs.toArray w eg
      (fun m os dk _ x y => (closure43 x y _).mono fun e w' ⟨he, hw⟩ => ⟨he, 0, #[], by rw [← hw]; simp [World.drewN_zero]⟩) h5 h2 (by simp; omega)
      (fun x y hx hy => by rw [ltOf_cfD] at hx hy; simp at hx hy; omega)
    change Calls Try.prog 42 _ _ _ at hc
    simp only [List.size_toArray] at hc
    refine hc.mono ?_
    rintro e w' ⟨rfl, m, os, rfl⟩
    have hlen : (descL zs).length = zs.length := by simp [descL]
    have ho := Lib.ownsRow_putRow (q := m) (k := zs.length) (ys := descL zs) h hlen (Nat.le_refl _)
    have hb := Lib.below_putRow (enc := Value.int .i64) (q := m) (d := (descL zs).toArray) (Below.refl B w) h1
    have hg := below_grow (putRow (Value.int .i64) (Sort.ahead w m) g 0 (descL zs).toArray) os
    refine ⟨rfl, ?_, hb.trans (hg.mono ?_)⟩
    · refine OI.below (w := putRow (Value.int .i64) (Sort.ahead w m) g 0 (descL zs).toArray) ?_ hg
      have e1 : (descL zs).take zs.length = descL zs := List.take_of_length_le (by omega)
      rw [e1] at ho
      exact ho
    · have := hb.size; omega

def commonI (vs at' : List Int) : Int := nth (descL ((uniq vs).map (hasAt at'))) ((uniq vs).length / 2)

theorem descL_len (zs : List Int) : (descL zs).length = zs.length := by simp [descL]

theorem oi_cellAt {B : Nat} {w : World} {g n cap : Nat} {zs : List Int} (h : OI B w (some ⟨g, 0, none⟩) n cap zs) (j : Nat) (hj : j < n) : w.cell? ⟨g, j, none⟩ = some (.int .i64 (nth zs j)) := by
  obtain ⟨b, off, e, _, hc⟩ := h.ri.cells
  injection e with e1 e2
  subst e1; subst e2
  have := hc j (by rw [h.len]; exact hj)
  rw [Nat.zero_add] at this
  exact this

theorem common_zero (vs at' : List Int) (h : (uniq vs).length = 0) : commonI vs at' = 0 := by
  unfold commonI; rw [List.length_eq_zero_iff.1 h]; simp [descL, nth]

theorem ints_one (x : Int) : ∀ u ∈ [Value.int .i64 x], u.oneCell' = true := by
  intro u hu; simp at hu; subst hu; rfl

set_option maxHeartbeats 1000000 in
theorem common_any (p p' : Option Addr) (n n' cap cap' : Nat) (vs at' : List Int) (w : World) (h : RI w p n cap vs) (h' : RI w p' n' cap' at') (hbig : n * 8 ≤ 140737488355328) (hbig' : n' * 8 ≤ 140737488355328) :
    Calls Try.prog 25 #[.slice p n cap, .slice p' n' cap'] w fun e w' => e = .returned (.int .i64 (commonI vs at')) ∧ Below w.heap.size w w' := by
  have hol := uniq_len vs
  have hl := h.1
  have hol2 : (uniq vs).length ≤ n := by omega
  have hp : (p' = none ∧ n' ≤ 0) ∨ ∃ b' off', p' = some ⟨b', off', none⟩ := by
    cases p' with
    | none => left; refine ⟨rfl, ?_⟩; have := h'.2.2.2.1 rfl; have := h'.1; simp_all
    | some a => right; obtain ⟨b', off', rfl, _⟩ := h'.cells; exact ⟨b', off', rfl⟩
  have H := Lib.hid h
  have H' := Lib.hid h'
  obtain ⟨i0, hi, hz0, hz1, hz2⟩ := info_parts Try.info3
  clear h h' hol hl
  rcases hp with ⟨rfl, hn0⟩ | ⟨b', off', rfl⟩
  all_goals
    go_enter Try.func25, Try.ntmps25
    go_wp2_with (go_at_call 39; refine (unlike_any _ _ _ vs _ H.out hbig).mono ?_; rintro e w1 ⟨p1, c1, rfl, ho, hbel⟩)
    have HB1 := Lib.hid hbel
    have HV := Lib.hid (H'.out.below hbel)
    cases p1 with
    | none =>
      have hz := ho.none.1
      have HN := Lib.hid ho.none.2.2
      have hz' : (uniq vs).length ≤ 0 := by omega
      clear hz ho hbel
      go_loop [5, 12] (fun v i => v = .slice none 0 0 ∧ i = .int .i64 0) (fun _ _ => 0)
      case atStart => exact ⟨rfl, rfl⟩
      case round =>
        obtain ⟨rfl, rfl⟩ := hrel
        go_wp2
        go_ret
        refine ⟨?_, HB1.out⟩
        unfold commonI
        rw [HN.out]; simp [descL, nth]
    | some ad =>
      obtain ⟨g, rfl, hg1, hg2, hg3, hg4, hH⟩ := ho.some
      obtain ⟨b0, off, hba, hb, hc⟩ := ho.ri.cells
      injection hba with e1 e2
      subst e1; subst e2
      clear ho hbel hH
      go_loopw [5, 12] (fun v i wr => ∃ (k : Nat) (p2 : Option Addr) (c2 : Nat), k ≤ (uniq vs).length ∧ i = .int .i64 k ∧ v = .slice p2 k c2 ∧ OI w1.heap.size wr p2 k c2 (hases at' (uniq vs) k) ∧ Below w1.heap.size w1 wr) (fun _ i _ => (uniq vs).length - (intOf i).toNat)
      case atStart => exact ⟨0, none, 0, by omega, rfl, rfl, World.ownsRow_nil _ _ _ _, Below.refl _ _⟩
      case round =>
        obtain ⟨k, p2, c2, hk, rfl, rfl, ho, hbel⟩ := hrel
        have HO := Lib.hid ho
        have HB := Lib.hid hbel
        have hsz := hbel.size
        have hw0 : wr.ownsRow w1.heap.size 3 1 (.slice p2 k c2) k ((hases at' (uniq vs) k).map (Value.int .i64)) := ho
        have HW := Lib.hid hw0
        have HVR := Lib.hid (HV.out.below hbel)
        have hc3 : k + 1 ≤ maxLen := by unfold maxLen; omega
        have hc4 : (k + 1) * 8 ≤ 140737488355328 ∨ ¬ k < (uniq vs).length := by omega
        by_cases hlt : k < (uniq vs).length
        · have hcell : wr.cell? ⟨g, k, none⟩ = some (.int .i64 (nth (uniq vs) k)) := by
            rw [hbel.cell hb]; have := hc k hlt; rw [Nat.zero_add] at this; exact this
          have HS := Lib.hid (hases_succ at' (uniq vs) k hlt)
          replace hc4 : (k + 1) * 8 ≤ 140737488355328 := by omega
          clear hc ho hbel hw0
          by_cases h1 : 1 ≤ nth (uniq vs) k
          · by_cases h2 : nth (uniq vs) k ≤ (n' : Int)
            · first
                | (exfalso; omega)
                | (have HX := Lib.hid (hasAt_in at' (nth (uniq vs) k) h1 (by have := HVR.out.1; omega))
                   obtain ⟨bq, offq, hq, hb', hc'⟩ := HVR.out.cells
                   injection hq with q1 q2
                   subst q1; subst q2
                   have hcat := hc' ((nth (uniq vs) k).toNat - 1) (by have := HVR.out.1; omega)
                   have h0 : (0 : Int) ≤ nth (uniq vs) k - 1 := by omega
                   have hlt' : nth (uniq vs) k - 1 < (n' : Int) := by omega
                   clear hc'
                   go_wp2_with (at_builtin; refine wpList_append_own _ rfl _ _ 25 rfl w1.heap.size 3 i0 (.int .i64 0) 1 8 Try.underlying25 hi hz0 hz1 hz2 rfl (by decide) _ _ _ rfl (HW.out.alloc _) ⟨wr.heap.size, 0, none⟩ 1 1 [.int .i64 (max 0 (nth at' ((nth (uniq vs) k).toNat - 1)))] rfl rfl (one_cell _ _ _) (ints_one _) hc3 hc4 (by simp; omega) ?_)
                   intro v' w2 hown' hgrow _
                   have hb1 : Below w1.heap.size w1 w2 := (HB.out.alloc hsz _).grown hgrow (by simp; omega) (own_block HW.out)
                   have hn1 : w2.ownsRow w1.heap.size 3 1 v' (k + 1) ((hases at' (uniq vs) (k + 1)).map (Value.int .i64)) := by
                     rw [HS.out, HX.out, List.map_append]; exact hown'
                   obtain ⟨p3, c3, hv, ho1⟩ := OI.of_owns hn1
                   have HN := Lib.hid ho1
                   have HB2 := Lib.hid hb1
                   have HV := Lib.hid hv
                   clear hgrow hown' HB HW hn1 ho1 hb1 hv
                   go_wp2
                   go_roundw
                   case rel => exact ⟨k + 1, p3, c3, by omega, by go_num, HV.out, HN.out, HB2.out⟩
                   case measure => simp [intOf]; omega)
            · have HX := Lib.hid (hasAt_high at' (nth (uniq vs) k) (by have := HVR.out.1; omega))
              go_wp2_with (at_builtin; refine wpList_append_own _ rfl _ _ 25 rfl w1.heap.size 3 i0 (.int .i64 0) 1 8 Try.underlying25 hi hz0 hz1 hz2 rfl (by decide) _ _ _ rfl (HW.out.alloc _) ⟨wr.heap.size, 0, none⟩ 1 1 [.int .i64 0] rfl rfl (one_cell _ _ _) (ints_one _) hc3 hc4 (by simp; omega) ?_)
              intro v' w2 hown' hgrow _
              have hb1 : Below w1.heap.size w1 w2 := (HB.out.alloc hsz _).grown hgrow (by simp; omega) (own_block HW.out)
              have hn1 : w2.ownsRow w1.heap.size 3 1 v' (k + 1) ((hases at' (uniq vs) (k + 1)).map (Value.int .i64)) := by
                rw [HS.out, HX.out, List.map_append]; exact hown'
              obtain ⟨p3, c3, hv, ho1⟩ := OI.of_owns hn1
              have HN := Lib.hid ho1
              have HB2 := Lib.hid hb1
              have HV := Lib.hid hv
              clear hgrow hown' HB HW hn1 ho1 hb1 hv
              go_wp2
              go_roundw
              case rel => exact ⟨k + 1, p3, c3, by omega, by go_num, HV.out, HN.out, HB2.out⟩
              case measure => simp [intOf]; omega
          · have HX := Lib.hid (hasAt_low at' (nth (uniq vs) k) h1)
            go_wp2_with (at_builtin; refine wpList_append_own _ rfl _ _ 25 rfl w1.heap.size 3 i0 (.int .i64 0) 1 8 Try.underlying25 hi hz0 hz1 hz2 rfl (by decide) _ _ _ rfl (HW.out.alloc _) ⟨wr.heap.size, 0, none⟩ 1 1 [.int .i64 0] rfl rfl (one_cell _ _ _) (ints_one _) hc3 hc4 (by simp; omega) ?_)
            intro v' w2 hown' hgrow _
            have hb1 : Below w1.heap.size w1 w2 := (HB.out.alloc hsz _).grown hgrow (by simp; omega) (own_block HW.out)
            have hn1 : w2.ownsRow w1.heap.size 3 1 v' (k + 1) ((hases at' (uniq vs) (k + 1)).map (Value.int .i64)) := by
              rw [HS.out, HX.out, List.map_append]; exact hown'
            obtain ⟨p3, c3, hv, ho1⟩ := OI.of_owns hn1
            have HN := Lib.hid ho1
            have HB2 := Lib.hid hb1
            have HV := Lib.hid hv
            clear hgrow hown' HB HW hn1 ho1 hb1 hv
            go_wp2
            go_roundw
            case rel => exact ⟨k + 1, p3, c3, by omega, by go_num, HV.out, HN.out, HB2.out⟩
            case measure => simp [intOf]; omega
        · have HK := Lib.hid (show k = (uniq vs).length by omega)
          have hhl := Lib.hid (hases_all at' (uniq vs) k (by omega))
          clear hc hbel hw0 hc4
          by_cases h0 : k = 0
          · have ht : ((k : Int) == 0) = true := by simp; omega
            have HZ := Lib.hid (common_zero vs at' (by rw [← HK.out]; exact h0))
            clear h0 ho
            go_wp2
            go_ret
            exact ⟨by rw [HZ.out]; rfl, HB1.out.trans (HB.out.mono HB1.out.size)⟩
          · have ht : ((k : Int) == 0) = false := by simp; omega
            cases p2 with
            | none => exact absurd ho.none.1 h0
            | some a =>
              obtain ⟨g2, rfl, _⟩ := ho.some
              clear ho
              go_wp2_with (go_at_call 42; refine (sortfunc_any w1.heap.size _ _ _ (hases at' (uniq vs) k) _ HO.out (by omega) (by omega)).mono ?_; rintro e w2 ⟨rfl, ho2, hb2⟩; have hcx := oi_cellAt ho2 (k / 2) (by omega))
              go_ret
              refine ⟨?_, HB1.out.trans ((HB.out.trans hb2).mono HB1.out.size)⟩
              unfold commonI
              rw [← hhl.out, ← HK.out]
              rfl

end Go.Proofs.Ytochcilkpjhmiaa
