/- LinearKeys (7): the walk. -/
import Derived.Test.YtajbagdgjbihjaaF2
import Derived.Deep.RegionHeld3
namespace Go.Proofs.Ytajbagdgjbihjaa
open Go.RowKit Go.Maps Go.Sort
set_option linter.unusedVariables false

theorem okWide_string' {P : Program} {W : World} {base : Nat} {t : TypeId} {v : Value} (ht : P.underlying t = some .string) (h : Value.okWide P W .any base t v) : ∃ a, v = .string a := by
  simp only [Value.okWide, ht, Cell.okWide] at h
  cases v <;> simp only [Cell.ok, ht] at h
  exact ⟨_, rfl⟩
theorem flat_one (l : List Ev) : ∀ u ∈ l.flatMap Ev.row, u.oneCell' = true := fun u hu => by
  obtain ⟨e, _, h⟩ := List.mem_flatMap.1 hu
  exact Ev.row_one e u h
set_option maxRecDepth 20000 in
set_option maxHeartbeats 2000000 in
theorem keys_walk (a : Option Addr) (len k : Nat) (key : ByteArray) (l : List Ev) (w : World) (h : ER w (.slice a len k) l) (hw : ∀ e ∈ l, (Wf e.client ∧ Wf e.id) ∧ e.key.size ≤ maxLen) : Calls Try.prog 7 #[.slice a len k, .string key] w fun e w' => e = .returned (.bool true) ∧ Below w.heap.size w w' := by
  obtain rfl : len = l.length := by
    rcases h.form with ⟨e, rfl⟩ | ⟨g, off, cap, e, _⟩
    · injection e with _ e _
    · injection e with _ e _
  have H := Lib.hid h
  have HW := Lib.hid hw
  obtain ⟨n, hn⟩ : ∃ n, n = l.length := ⟨_, rfl⟩
  have HN := Lib.hid hn
  rw [← hn] at H ⊢
  clear h hw hn
  by_cases hbig : 150 < n
  · have d1 : decide ((150 : Int) < (n : Int)) = true := by rw [decide_eq_true_eq]; omega
    have d2 : decide (150 < n) = true := by rw [decide_eq_true_eq]; omega
    have i1 : (150 : Int) < (n : Int) := by omega
    go_enter Try.func7, Try.ntmps7
    go_wp2_with fail
    go_ret
    exact ⟨rfl, Below.refl _ _⟩
  have d1 : decide ((150 : Int) < (n : Int)) = false := by rw [decide_eq_false_iff_not]; omega
  have d2 : decide (150 < n) = false := by rw [decide_eq_false_iff_not]; omega
  have HB : Hid (n ≤ 150) := Lib.hid (by omega)
  have HL : Hid (l.length ≤ 150) := Lib.hid (by rw [← HN.out]; exact HB.out)
  obtain ⟨z31, hz31, hzs31⟩ := zero31
  have HB31 := Lib.hid t31_bytes
  clear hbig
  go_enter Try.func7, Try.ntmps7
  go_upto_region 3 with fail
  go_wp2_with (at_builtin; refine wpList_append_any rfl _ _ 34 rfl 31 Try.t31 z31 12 Try.t31.bytes under34 info31 hz31 t31_size rfl hzs31 (by decide) (.slice (some ⟨w.heap.size, 0, none⟩) 0 0) 0 [] rfl (empty_row w 31 12) (.slice a n k) n (l.flatMap Ev.row) rfl (by have h1 := (H.out.only ((Only.refl None' w).alloc (.cells #[] 31)) fun _ _ e => e).rd; rw [← HN.out] at h1; exact h1) (flat_one l) (by have := HB.out; unfold maxLen; omega) (by have h1 := HB.out; have h2 := HB31.out; have : (0 + n) * Try.t31.bytes ≤ 150 * 200 := Nat.mul_le_mul (by omega) h2; omega) ?_; intro vi w1 hv1 hg1 hf1; rw [Nat.zero_add, List.nil_append] at hv1; obtain ⟨ia, ic, rfl, _, _⟩ := hv1.shape; have L1 : Hid (LH w w1 (.slice ia n ic) (.slice a n k) l) := Lib.hid (by have o : Only None' w w1 := ((Only.refl None' w).alloc (.cells #[] 31)).trans2 ((Only.refl (fun q => q = w.heap.size) _).grown hg1 fun k e => by injection e with e; exact e.symm) (fun q hq e => by omega); exact ⟨o, by rw [HN.out] at hv1 ⊢; exact er_of_vec hv1, H.out.only o fun _ _ e => e⟩); clear hv1 hg1 hf1)
  go_loopw [6] (fun i wr => ∃ r : Nat, r ≤ 2 ∧ i = .int .i64 (r : Int) ∧ Hid (LH w wr (.slice ia n ic) (.slice a n k) l)) (fun i wr => 2 - (intOf i).toNat)
  case atStart => exact ⟨0, by omega, rfl, L1⟩
  case round =>
    clear L1
    obtain ⟨r, hr, rfl, HR⟩ := hrel
    by_cases hlt : r < 2
    · have r0 : (0 : Int) ≤ (r : Int) := by omega
      have r1 : (r : Int) < 2 := by omega
      have e1 : decide ((r : Int) < 2) = true := by rw [decide_eq_true_eq]; omega
      have e2 : decide (r < 2) = true := by rw [decide_eq_true_eq]; omega
      have HRT := Lib.hid hlt
      clear hlt hr
      go_wp2_with fail
      refine (lkeys_any HR.out.i HL.out fun e he => (HW.out e he).2).mono ?_
      rintro e w2 ⟨va, rfl, hva, hna, o2⟩
      obtain ⟨ks, hks⟩ : ∃ ks, ks = insAll (calls l) := ⟨_, rfl⟩
      rw [← hks] at hva
      have HKS := Lib.hid hks
      obtain ⟨aa, ac, rfl, _, _⟩ := hva.shape
      have H2 := Lib.hid (HR.out.new_ o2)
      have HVA := Lib.hid (And.intro hva hna)
      clear hva hna
      obtain ⟨m, hm⟩ : ∃ m, m = ks.length := ⟨_, rfl⟩
      have HM := Lib.hid hm
      rw [← hm] at HVA ⊢
      clear hm hks
      go_wp2_with fail
      refine (dkeys_any H2.out.h HL.out).mono ?_
      rintro e w3 ⟨vb, rfl, hb⟩
      rw [← HKS.out] at hb
      obtain ⟨ba, bc, rfl, _, _⟩ := hb.row.shape
      have HLI : Hid (LI w w3 (.slice ia n ic) (.slice a n k) (.slice aa m ac) (.slice ba m bc) l ks 0) := Lib.hid (by
        have hm := HM.out
        rw [← hm] at hb
        have h1 := hb.row
        rw [← hm] at h1
        refine ⟨H2.out.new_ hb.only, ⟨_, by rw [← hm]; exact HVA.out.1.only hb.only fun _ _ e => e, fun j _ => rfl⟩, by rw [← hm]; exact h1, fun g hg => ?_⟩
        have hg1 := HVA.out.2 g hg
        have hgl := HVA.out.1.lt hg
        refine ⟨Nat.le_trans HR.out.only.size hg1, fun e => ?_, fun e => ?_, fun e => ?_⟩
        · have := HR.out.i.own_lt e
          omega
        · have := HR.out.h.own_lt e
          omega
        · have := hb.new g e
          omega)
      rw [← HM.out]
      clear hb HVA H2
      go_wp2_with fail
      have HM150 : Hid (m ≤ 150) := Lib.hid (by
        rw [HM.out, HKS.out]
        have h1 := (insAll_len (calls l))
        have h2 : (calls l).length ≤ l.length := by unfold calls; rw [List.length_map]; exact List.length_filter_le _ _
        have := HL.out
        omega)
      rename World => w2
      rename World => w3
      go_loopw [9] (fun i wx => ∃ j : Nat, j ≤ m ∧ i = .int .i64 (j : Int) ∧ Hid (LI w wx (.slice ia n ic) (.slice a n k) (.slice aa m ac) (.slice ba m bc) l ks j)) (fun i wx => m - (intOf i).toNat)
      case atStart => exact ⟨0, by omega, rfl, HLI⟩
      case round =>
        rename World => wx
        clear HLI
        obtain ⟨j, hj, rfl, HJ⟩ := hrel
        by_cases hlt : j < m
        · have hjl : j < ks.length := by have := HM.out; omega
          obtain ⟨K, hK⟩ : ∃ K, ks[j]? = some K := ⟨_, List.getElem?_eq_getElem hjl⟩
          obtain ⟨ga, oa, ca, e⟩ := HJ.out.sa hjl
          injection e with e e2 e3
          subst e
          clear e2 e3
          obtain ⟨gb, ob, cb, e⟩ := HJ.out.sb hjl
          injection e with e e2 e3
          subst e
          clear e2 e3
          have HK := Lib.hid hK
          have j0 : (0 : Int) ≤ (j : Int) := by omega
          have j1 : (j : Int) < (m : Int) := by omega
          have HLT := Lib.hid (And.intro hlt hjl)
          have f0 := HJ.out.free hjl
          clear hlt hjl hj hK
          go_wp2_with fail
          go_region_held3 (fun w' => w'.cell? ⟨ga, oa + j, none⟩ = some (encStr K) ∧ w'.cell? ⟨gb, ob + j, none⟩ = some (encStr K))
            (first | exact ⟨HJ.out.ca HK.out, HJ.out.cb HK.out⟩ | exact ⟨(HJ.out.drewN _).ca HK.out, (HJ.out.drewN _).cb HK.out⟩ | exact ⟨HJ.out.drew.ca HK.out, HJ.out.drew.cb HK.out⟩ | exact ⟨HP.out.1.ca HK.out, HP.out.1.cb HK.out⟩ | exact ⟨(HP.out.1.drewN _).ca HK.out, (HP.out.1.drewN _).cb HK.out⟩ | exact ⟨HP.out.1.drew.ca HK.out, HP.out.1.drew.cb HK.out⟩ | exact ⟨HQ.out.1.ca HK.out, HQ.out.1.cb HK.out⟩ | exact ⟨(HQ.out.1.drewN _).ca HK.out, (HQ.out.1.drewN _).cb HK.out⟩ | exact ⟨HQ.out.1.drew.ca HK.out, HQ.out.1.drew.cb HK.out⟩ | exact ⟨HS.out.ca HK.out, HS.out.cb HK.out⟩ | exact ⟨(HS.out.drewN _).ca HK.out, (HS.out.drewN _).cb HK.out⟩ | exact ⟨HS.out.drew.ca HK.out, HS.out.drew.cb HK.out⟩)
            (first | (go_at_call 21; (first | with_reducible refine (LI.of1 HJ.out HL.out (fun e he => (HW.out e he).1) K).mono ?_ | with_reducible refine (LI.of1 (HJ.out.drewN _) HL.out (fun e he => (HW.out e he).1) K).mono ?_ | with_reducible refine (LI.of1 HJ.out.drew HL.out (fun e he => (HW.out e he).1) K).mono ?_); rintro e w5 ⟨v5, rfl, h5⟩; have HP := Lib.hid h5; clear h5) | (go_at_call 22; (first | with_reducible refine (LI.of2 HP.out HL.out K).mono ?_ | with_reducible refine (LI.of2 (P1.drewN HP.out _) HL.out K).mono ?_); rintro e w6 ⟨v6, rfl, h6⟩; have HQ := Lib.hid h6; clear h6) | (go_at_call 15; (first | with_reducible refine (LI.ev HQ.out HL.out).mono ?_ | with_reducible refine (LI.ev (P2.drewN HQ.out _) HL.out).mono ?_); rintro e w7 ⟨rfl, h7⟩; have HS := Lib.hid h7; clear h7))
          all_goals
            have c7 := HS.out.ca HK.out
            have f7 := HS.out.free HLT.out.2
            clear f0
            go_wp2_with fail
            go_roundw
            case rel => exact ⟨j + 1, by have := HLT.out; omega, next_int (by have := HM150.out; have := HLT.out; omega), Lib.hid (HS.out.spoil HLT.out.2 _)⟩
            case measure => exact meas HLT.out.1 (by have := HM150.out; omega)
        · obtain rfl : j = m := by omega
          go_wp2_with fail
          refine (HJ.out.b.of1 HL.out (fun e he => (HW.out e he).1) key).mono ?_
          rintro e w5 ⟨vx, rfl, hx, hf, o5⟩
          obtain ⟨q, hq⟩ : ∃ q, q = (ofl key l).length := ⟨_, rfl⟩
          have HQ := Lib.hid hq
          have hx' := er_of_vec hx
          rw [← hq] at hx
          obtain ⟨xa, xc, rfl, _, _⟩ := hx.shape
          have HX : Hid (LX w w5 (.slice ia n ic) (.slice a n k) (.slice xa q xc) l q) := Lib.hid ⟨HJ.out.b.new_ o5, ⟨_, hx⟩, fun g hg => ⟨Nat.le_trans HJ.out.b.only.size (hf g hg), fun e => by have h1 := HJ.out.b.i.own_lt e; have h2 := hf g hg; omega, fun e => by have h1 := HJ.out.b.h.own_lt e; have h2 := hf g hg; omega⟩⟩
          have HXE := Lib.hid hx'
          clear hx hf hx' hq
          go_wp2_with fail
          refine (HX.out.b.of2 HL.out key).mono ?_
          rintro e w6 ⟨vy, rfl, hy, o6⟩
          have HX6 := Lib.hid (HX.out.new_ o6)
          have HE := Lib.hid (And.intro (HXE.out.only o6 fun _ _ e => e) hy)
          clear hy o5
          go_wp2_with fail
          refine (events_any HE.out.1 HE.out.2 (Nat.le_trans (ofl_le key HL.out) (by decide))).mono ?_
          rintro e w7 ⟨rfl, o7⟩
          have HX7 := Lib.hid (HX6.out.new_ o7)
          have HQ150 : Hid (q ≤ 150) := Lib.hid (by rw [HQ.out]; exact ofl_le key HL.out)
          clear o6 o7 HX HXE HX6 HE
          go_wp2_with fail
          rename World => w6'
          go_loopw [11] (fun i wy => ∃ c : Nat, c ≤ q ∧ i = .int .i64 (c : Int) ∧ Hid (LX w wy (.slice ia n ic) (.slice a n k) (.slice xa q xc) l q)) (fun i wy => q - (intOf i).toNat)
          case atStart => exact ⟨0, by omega, rfl, HX7⟩
          case round =>
            rename World => wy
            clear HX7
            obtain ⟨c, hc, rfl, HY⟩ := hrel
            by_cases hlt : c < q
            · obtain ⟨g, off, xc', u, e, hu, hfz⟩ := HY.out.at_ hlt
              injection e with e e2 e3
              subst e
              clear e2 e3
              have c0 : (0 : Int) ≤ (c : Int) := by omega
              have c1 : (c : Int) < (q : Int) := by omega
              have HLT := Lib.hid hlt
              clear hlt hc
              go_wp2_with fail
              go_roundw
              case rel => exact ⟨c + 1, by have := HLT.out; omega, next_int (by have := HQ150.out; have := HLT.out; omega), Lib.hid (HY.out.spoil HLT.out _)⟩
              case measure => exact meas HLT.out (by have := HQ150.out; omega)
            · obtain rfl : c = q := by omega
              go_wp2_with fail
              go_roundw
              case rel => exact ⟨r + 1, by have := HRT.out; omega, rfl, Lib.hid HY.out.b⟩
              case measure =>
                have h1 := HRT.out
                simp only [intOf]
                omega
    · obtain rfl : r = 2 := by omega
      go_wp2_with fail
      refine (events_any HR.out.i HR.out.h (Nat.le_trans HL.out (by decide))).mono ?_
      rintro e w9 ⟨rfl, o9⟩
      go_wp2_with fail
      go_ret
      exact ⟨rfl, ((HR.out.only.trans o9).below (Nat.le_refl _) fun k e => e.elim)⟩
end Go.Proofs.Ytajbagdgjbihjaa
