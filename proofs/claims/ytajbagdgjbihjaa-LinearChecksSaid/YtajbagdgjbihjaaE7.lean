/- The document's Keys (16): the walk. -/
import Derived.Test.YtajbagdgjbihjaaE6
import Derived.Sort.Walk0
namespace Go.Proofs.Ytajbagdgjbihjaa
open Go.RowKit Go.Maps Go.Sort
set_option linter.unusedVariables false

theorem ER.lt {w : World} {g off n c : Nat} {l : List Ev} (h : ER w (.slice (some ⟨g, off, none⟩) n c) l) : g < w.heap.size := by
  rcases h.form with ⟨e, _⟩ | ⟨g', off', cap, e, _, _, h3, _⟩
  · cases e
  · injection e with e
    injection e with e
    injection e with e
    exact e ▸ h3
set_option maxRecDepth 20000 in
set_option maxHeartbeats 1000000 in
theorem dkeys_any {w : World} {v : Value} {l : List Ev} (h : ER w v l) (hl : l.length ≤ 150) : Calls Try.prog 16 #[v] w fun e w' => ∃ v', e = .returned v' ∧ DK w w' v' (insAll (calls l)) := by
  obtain ⟨a, k, rfl⟩ := h.shape
  have H := Lib.hid h
  obtain ⟨n, hn⟩ : ∃ n, n = l.length := ⟨_, rfl⟩
  have HL := Lib.hid (And.intro hn hl)
  rw [← hn] at H ⊢
  clear h hn hl
  go_enter Try.func16, Try.ntmps16
  go_wp2_with fail
  go_loopw [3, 4] (fun o i wr => ∃ (j m : Nat) (oa : Option Addr) (oc : Nat), j ≤ n ∧ o = .slice oa m oc ∧ i = .int .i64 (j : Int) ∧ Hid (m = (insAll (calls (l.take j))).length ∧ m ≤ j ∧ DK w wr (.slice oa m oc) (insAll (calls (l.take j))))) (fun o i wr => n - (intOf i).toNat)
  case atStart => exact ⟨0, 0, none, 0, by omega, rfl, rfl, Lib.hid ⟨rfl, by omega, Only.refl _ _, Vec.nil _ _, fun g hg => by cases hg⟩⟩
  case round =>
    obtain ⟨j, m, oa, oc, hj, rfl, rfl, HJ⟩ := hrel
    by_cases hlt : j < n
    · have hjl : j < l.length := by have := HL.out.1; omega
      have RV := H.out.only HJ.out.2.2.only fun _ _ e => e
      obtain ⟨g, off, cp, e, hg, hcell⟩ := RV.at_ hjl
      injection e with e e2 e3
      subst e
      clear e2 e3 RV
      have hgw := H.out.lt
      obtain ⟨x, hx⟩ : ∃ x, x = l[j] := ⟨_, rfl⟩
      rw [← hx] at hcell
      have HX : Hid (l[j]? = some x) := Lib.hid (by rw [hx]; exact List.getElem?_eq_getElem hjl)
      clear hx
      obtain ⟨z1, z2, z3, z4, z5, z6, z7, z8, z9, za, zb, zc⟩ := x
      have y3 := hcell 3 _ rfl
      have y5 := hcell 5 _ rfl
      simp only at y3 y5
      have i0 : (0 : Int) ≤ (j : Int) := by omega
      have i1 : (j : Int) < (n : Int) := by omega
      have HLT := Lib.hid hlt
      clear hlt hj hjl hcell hg
      cases z4 with
      | true =>
        have HC : Hid (calls (l.take (j + 1)) = calls (l.take j)) := Lib.hid (by rw [calls_succ HX.out]; rfl)
        go_wp2_with fail
        go_roundw
        case rel => exact ⟨j + 1, m, oa, oc, by have := HLT.out; omega, rfl, next_int (by have := HL.out; have := HLT.out; omega), Lib.hid (by rw [HC.out]; exact ⟨HJ.out.1, by have := HJ.out.2.1; omega, HJ.out.2.2⟩)⟩
        case measure => exact meas HLT.out (by have := HL.out; omega)
      | false =>
        have HC : Hid (insAll (calls (l.take (j + 1))) = ins z6.data.toList (insAll (calls (l.take j)))) := Lib.hid (by rw [calls_succ HX.out]; exact insAll_snoc _ _)
        obtain ⟨L, hL⟩ : ∃ L, L = insAll (calls (l.take j)) := ⟨_, rfl⟩
        rw [← hL] at HJ HC
        clear hL
        obtain ⟨K, hK⟩ : ∃ K : Str, K = z6.data.toList := ⟨_, rfl⟩
        have HZ : Hid (Value.string z6 = encStr K) := Lib.hid (by rw [hK, enc_k])
        have HW : Hid (w.cell? ⟨g, off + j * 12 + 5, none⟩ = some (encStr K)) := Lib.hid (by rw [← HZ.out, ← HJ.out.2.2.only.cell hgw (fun e => e)]; exact y5)
        have HX5 : Hid (insAll (calls (l.take (j + 1))) = ins K L) := Lib.hid (by rw [hK]; exact HC.out)
        clear HX HC y5 HZ hK
        go_upto_block 2 with fail
        go_cut [5] from 18 to 36 (fun z5 wx => ∃ c : Nat, c ≤ m ∧ z5 = .int .i64 (c : Int) ∧ Hid (Low K L c ∧ (∀ x, L[c]? = some x → ¬ x < K) ∧ DK w wx (.slice oa m oc) L))
        case first =>
          go_wp2_with fail
          go_loopw [5] (fun i wq => ∃ c : Nat, c ≤ m ∧ i = .int .i64 (c : Int) ∧ Hid (Low K L c ∧ DK w wq (.slice oa m oc) L)) (fun i wq => m - (intOf i).toNat)
          case atStart => exact ⟨0, by omega, rfl, Lib.hid ⟨Low.zero, HJ.out.2.2⟩⟩
          case round =>
            rename World => wx
            obtain ⟨c, hc, rfl, HK⟩ := hrel
            have y5' := ((HK.out.2.only.cell hgw (fun e => e) _).trans HW.out)
            by_cases hcm : c < m
            · have hcL : c < L.length := by have := HJ.out.1; omega
              obtain ⟨u, hu⟩ : ∃ u, L[c]? = some u := ⟨_, List.getElem?_eq_getElem hcL⟩
              obtain ⟨g2, off2, c2, e, k0⟩ := HK.out.2.at_ hu
              injection e with e e2 e3
              subst e
              clear e2 e3
              have c0 : (0 : Int) ≤ (c : Int) := by omega
              have c1 : (c : Int) < (m : Int) := by omega
              have d1 : decide ((c : Int) < (m : Int)) = true := by rw [decide_eq_true_eq]; omega
              have d2 : decide (c < m) = true := by rw [decide_eq_true_eq]; omega
              have HCM := Lib.hid hcm
              have HU := Lib.hid hu
              obtain ⟨t, ht⟩ : ∃ t, Op.bytesLess u K = t := ⟨_, rfl⟩
              have HT : Hid (decide (u < K) = t) := Lib.hid (by rw [← ht, bytesLess_eq])
              clear hcm hcL hu
              cases t with
              | true =>
                go_wp2_with fail
                go_quiet (fail)
                go_wp2_with fail
                go_roundw
                case rel => exact ⟨c + 1, by have := HCM.out; omega, next_int (by have := HJ.out.2.1; have := HCM.out; have := HL.out; have := HLT.out; omega), Lib.hid ⟨HK.out.1.succ HU.out (of_decide_eq_true HT.out), HK.out.2.drewN _⟩⟩
                case measure => exact meas HCM.out (by have := HJ.out.2.1; have := HL.out; have := HLT.out; omega)
              | false =>
                go_wp2_with fail
                go_quiet (fail)
                go_wp2_with fail
                go_meet
                exact ⟨c, hc, rfl, Lib.hid ⟨HK.out.1, fun x hx => by rw [HU.out] at hx; injection hx with hx; subst hx; exact of_decide_eq_false HT.out, HK.out.2.drewN _⟩⟩
            · obtain rfl : c = m := by omega
              have d1 : decide ((c : Int) < (c : Int)) = false := by rw [decide_eq_false_iff_not]; omega
              have d2 : decide (c < c) = false := by rw [decide_eq_false_iff_not]; omega
              go_wp2_with fail
              go_quiet (fail)
              go_wp2_with fail
              go_meet
              exact ⟨c, hc, rfl, Lib.hid ⟨HK.out.1, fun x hx => by have := (List.getElem?_eq_some_iff.1 hx).1; have := HJ.out.1; omega, HK.out.2.drewN _⟩⟩
        case rest =>
          obtain ⟨c, hc, rfl, HK⟩ := hcut
          rename World => wx
          have y5' := ((HK.out.2.2.only.cell hgw (fun e => e) _).trans HW.out)
          have c0 : (0 : Int) ≤ (c : Int) := by omega
          go_upto_region 9 with fail
          go_cut [53] from 37 to 52 (fun z wy => ∃ tb : Bool, z = .bool tb ∧ Hid (tb = decide (L[c]? = some K)) ∧ Hid (DK w wy (.slice oa m oc) L))
          case first =>
            by_cases hcm : c < m
            · have hcL : c < L.length := by have := HJ.out.1; omega
              obtain ⟨u, hu⟩ : ∃ u, L[c]? = some u := ⟨_, List.getElem?_eq_getElem hcL⟩
              obtain ⟨g2, off2, c2, e, k0⟩ := HK.out.2.2.at_ hu
              injection e with e e2 e3
              subst e
              clear e2 e3
              have c1 : (c : Int) < (m : Int) := by omega
              have d1 : decide ((c : Int) < (m : Int)) = true := by rw [decide_eq_true_eq]; omega
              have d2 : decide (c < m) = true := by rw [decide_eq_true_eq]; omega
              have HU := Lib.hid hu
              obtain ⟨t, ht⟩ : ∃ t, (u == K) = t := ⟨_, rfl⟩
              have HT : Hid (t = decide (L[c]? = some K)) := Lib.hid (by rw [← ht, hu]; by_cases e : u = K <;> simp [e])
              clear hcm hcL hu
              go_wp2_with fail
              go_quiet (fail)
              go_wp2_with fail
              go_meet
              exact ⟨t, rfl, HT, Lib.hid (HK.out.2.2.drewN _)⟩
            · obtain rfl : c = m := by omega
              have d1 : decide ((c : Int) < (c : Int)) = false := by rw [decide_eq_false_iff_not]; omega
              have d2 : decide (c < c) = false := by rw [decide_eq_false_iff_not]; omega
              have HT : Hid (false = decide (L[c]? = some K)) := Lib.hid (by
                rw [List.getElem?_eq_none (by have := HJ.out.1; omega)]
                rfl)
              clear hcm
              go_wp2_with fail
              go_quiet (fail)
              go_wp2_with fail
              go_meet
              exact ⟨false, rfl, HT, Lib.hid (HK.out.2.2.drewN _)⟩
          case rest =>
            obtain ⟨tb, rfl, HT, HD⟩ := hcut
            rename World => wy
            have HI : Hid (ins K L = if tb then L else L.take c ++ K :: L.drop c) := Lib.hid (by
              rw [ins_at (by have := HJ.out.1; omega) HK.out.1 HK.out.2.1, HT.out]
              simp only [decide_eq_true_eq])
            cases tb with
            | true =>
              go_wp2_with fail
              go_roundw
              case rel => exact ⟨j + 1, m, oa, oc, by have := HLT.out; omega, rfl, next_int (by have := HL.out; have := HLT.out; omega), Lib.hid (by rw [HX5.out, HI.out]; exact ⟨HJ.out.1, by have := HJ.out.2.1; omega, HD.out⟩)⟩
              case measure => exact meas HLT.out (by have := HL.out; omega)
            | false =>
              obtain ⟨i9, hi9, hz0, hz1, hz2⟩ := info_parts info9
              have HE : Hid (ins K L = L.take c ++ K :: L.drop c) := Lib.hid HI.out
              have y5' := ((HD.out.only.cell hgw (fun e => e) _).trans HW.out)
              have one : ∀ l : List Str, ∀ u ∈ l.map encStr, u.oneCell' = true := fun l u hu => by
                obtain ⟨x, _, rfl⟩ := List.mem_map.1 hu
                rfl
              have HX6 : Hid (insAll (calls (l.take (j + 1))) = L.take c ++ K :: L.drop c) := Lib.hid (by rw [HX5.out]; exact HE.out)
              have HB : Hid (c ≤ m ∧ m ≤ 150) := Lib.hid (by have := HJ.out.2.1; have := HL.out; have := HLT.out; omega)
              clear HI HT HX5 HE
              rcases oa with _ | ad
              · obtain ⟨rfl, rfl⟩ : m = 0 ∧ oc = 0 := by
                  rcases HD.out.row.form with ⟨e, _⟩ | ⟨g2, off2, cap, e, _⟩
                  · injection e with e1 e2 e3
                    exact ⟨by have := HJ.out.1; omega, e3⟩
                  · injection e with e
                    cases e
                obtain rfl : c = 0 := by omega
                have HL0 : Hid (L = []) := Lib.hid (List.eq_nil_of_length_eq_zero HJ.out.1.symm)
                go_upto_region 11 with fail
                go_wp2_with (first
                  | (at_builtin; refine wpList_append_any rfl _ _ 45 rfl 9 i9 (.string ⟨#[]⟩) 1 16 under45 hi9 hz0 hz1 hz2 rfl (by decide) (.slice none 0 0) 0 [] rfl (Vec.nil _ _) (.slice none 0 0) 0 [] rfl ⟨by simp, .inl ⟨rfl, rfl⟩⟩ (fun u hu => by cases hu) (by unfold maxLen; omega) (by omega) ?_; intro v1 w1 hv1 hg1 hf1; obtain ⟨oa1, oc1, rfl, _, _⟩ := hv1.shape; have HY1 := Lib.hid (And.intro hv1 (And.intro hg1 hf1)); have yw1 := (((HD.out.only.grown hg1 fun k e => by cases e).cell hgw (fun e => e) _).trans HW.out); clear hv1 hg1 hf1)
                  | (at_builtin; refine wpList_append_any rfl _ _ 45 rfl 9 i9 (.string ⟨#[]⟩) 1 16 under45 hi9 hz0 hz1 hz2 rfl (by decide) _ (0 + 0) _ rfl (HY1.out.1.alloc _) (.slice (some ⟨w1.heap.size, 0, none⟩) 1 1) 1 [encStr K] rfl (rd_one' w1 _ 9) (by intro u hu; simp at hu; subst hu; rfl) (by unfold maxLen; omega) (by omega) ?_; intro v2 w2 hv2 hg2 hf2; obtain ⟨oa2, oc2, rfl, _, _⟩ := hv2.shape; have HY2 := Lib.hid (And.intro hv2 (And.intro hg2 hf2)); clear hv2 hg2 hf2)
                  | (at_builtin; refine wpList_append_any rfl _ _ 45 rfl 9 i9 (.string ⟨#[]⟩) 1 16 under45 hi9 hz0 hz1 hz2 rfl (by decide) _ (0 + 0 + 1) _ rfl HY2.out.1 (.slice none 0 0) 0 [] rfl ⟨by simp, .inl ⟨rfl, rfl⟩⟩ (fun u hu => by cases hu) (by unfold maxLen; omega) (by omega) ?_; intro v3 w3 hv3 hg3 hf3; obtain ⟨oa3, oc3, rfl, _, _⟩ := hv3.shape; have HY3 := Lib.hid (And.intro hv3 (And.intro hg3 hf3)); clear hv3 hg3 hf3))
                have HF : Hid (DK w w3 (.slice oa3 1 oc3) (insAll (calls (l.take (j + 1))))) := Lib.hid (by
                  have e : insAll (calls (l.take (j + 1))) = [K] := by rw [HX6.out, HL0.out]; rfl
                  rw [e]
                  refine DK.grown HD.out HY1.out.2.1 (fun k hk => (HY1.out.2.2 k hk).resolve_left (fun e => by cases e)) HY2.out.2.1 HY2.out.2.2 HY3.out.2.1 HY3.out.2.2 ?_
                  have h1 := HY3.out.1
                  simpa using h1)
                go_roundw
                case rel =>
                  have e : insAll (calls (l.take (j + 1))) = [K] := by rw [HX6.out, HL0.out]; rfl
                  exact ⟨j + 1, _, oa3, oc3, by have := HLT.out; omega, rfl, next_int (by have := HL.out; have := HLT.out; omega), Lib.hid ⟨by rw [e]; rfl, by omega, HF.out⟩⟩
                case measure => exact meas HLT.out (by have := HL.out; omega)
              · obtain ⟨g2, off2, hmc, hcl⟩ : ∃ g2 off2, ad = ⟨g2, off2, none⟩ ∧ m ≤ oc := by
                  obtain ⟨_, _, e0, h1, _⟩ := HD.out.row.shape
                  injection e0 with e1 e2 e3
                  rcases HD.out.row.form with ⟨e, _⟩ | ⟨g2, off2, cap, e, _⟩
                  · cases e
                  · injection e with e
                    injection e with e
                    exact ⟨g2, off2, e, by omega⟩
                subst hmc
                go_upto_region 11 with fail
                by_cases hoc : oc = c
                · have hm : c = m := by omega
                  have ho : c = oc := by omega
                  clear hoc
                  subst ho
                  subst hm
                  go_wp2_with (first
                    | (at_builtin; refine wpList_append_any rfl _ _ 45 rfl 9 i9 (.string ⟨#[]⟩) 1 16 under45 hi9 hz0 hz1 hz2 rfl (by decide) (.slice none 0 0) 0 [] rfl (Vec.nil _ _) (.slice (some ⟨g2, off2, none⟩) c c) c ((L.take c).map encStr) rfl (by have h1 := HD.out.row; rw [← HJ.out.1] at h1; have := h1.head hc; rwa [Nat.mul_one, ← List.map_take] at this) (one _) (by have := HB.out; unfold maxLen; omega) (by have := HB.out; omega) ?_; intro v1 w1 hv1 hg1 hf1; rw [Nat.zero_add, List.nil_append] at hv1; obtain ⟨oa1, oc1, rfl, _, _⟩ := hv1.shape; have HY1 := Lib.hid (And.intro hv1 (And.intro hg1 hf1)); have yw1 := (((HD.out.only.grown hg1 fun k e => by cases e).cell hgw (fun e => e) _).trans HW.out); clear hv1 hg1 hf1)
                    | (at_builtin; refine wpList_append_any rfl _ _ 45 rfl 9 i9 (.string ⟨#[]⟩) 1 16 under45 hi9 hz0 hz1 hz2 rfl (by decide) _ (c) _ rfl (HY1.out.1.alloc _) (.slice (some ⟨w1.heap.size, 0, none⟩) 1 1) 1 [encStr K] rfl (rd_one' w1 _ 9) (by intro u hu; simp at hu; subst hu; rfl) (by have := HB.out; unfold maxLen; omega) (by have := HB.out; omega) ?_; intro v2 w2 hv2 hg2 hf2; obtain ⟨oa2, oc2, rfl, _, _⟩ := hv2.shape; have HY2 := Lib.hid (And.intro hv2 (And.intro hg2 hf2)); clear hv2 hg2 hf2)
                    | (at_builtin; refine wpList_append_any rfl _ _ 45 rfl 9 i9 (.string ⟨#[]⟩) 1 16 under45 hi9 hz0 hz1 hz2 rfl (by decide) _ (c + 1) _ rfl HY2.out.1 (.slice (some ⟨g2, off2, none⟩) 0 0) 0 [] rfl ⟨by simp, .inr ⟨_, _, rfl, Nat.le_refl _, by unfold maxLen; omega, fun j u hu => by simp at hu⟩⟩ (fun u hu => by cases hu) (by have := HB.out; unfold maxLen; omega) (by have := HB.out; omega) ?_; intro v3 w3 hv3 hg3 hf3; obtain ⟨oa3, oc3, rfl, _, _⟩ := hv3.shape; have HY3 := Lib.hid (And.intro hv3 (And.intro hg3 hf3)); clear hv3 hg3 hf3))
                  have HF : Hid (DK w w3 (.slice oa3 (c + 1 + 0) oc3) (insAll (calls (l.take (j + 1))))) := Lib.hid (by
                    rw [HX6.out]
                    refine DK.grown HD.out HY1.out.2.1 (fun k hk => (HY1.out.2.2 k hk).resolve_left (fun e => by cases e)) HY2.out.2.1 HY2.out.2.2 HY3.out.2.1 HY3.out.2.2 ?_
                    have h1 := HY3.out.1
                    have e : (L.take c ++ K :: L.drop c).length = c + 1 + 0 := by
                      have := HJ.out.1
                      rw [List.length_append, List.length_take, List.length_cons, List.length_drop]
                      omega
                    rw [e]
                    have hd : L.drop c = [] := List.drop_eq_nil_of_le (by have := HJ.out.1; omega)
                    rw [hd]
                    simpa using h1)
                  go_roundw
                  case rel =>
                    have e : c + 1 + 0 = (insAll (calls (l.take (j + 1)))).length := by
                      have := HJ.out.1
                      rw [HX6.out, List.length_append, List.length_take, List.length_cons, List.length_drop]
                      omega
                    exact ⟨j + 1, _, oa3, oc3, by have := HLT.out; omega, rfl, next_int (by have := HL.out; have := HLT.out; omega), Lib.hid ⟨e, by have := HJ.out.2.1; omega, HF.out⟩⟩
                  case measure => exact meas HLT.out (by have := HL.out; omega)
                · have HNE := Lib.hid hoc
                  have HOLD : Hid (∀ w2, Only (fun k => wy.heap.size ≤ k) wy w2 → Rd w2 1 (.slice (some ⟨g2, off2 + c, none⟩) (m - c) (oc - c)) (m - c) ((L.drop c).map encStr)) := Lib.hid (fun w2 o => by
                    have h1 := HD.out.row
                    rw [← HJ.out.1] at h1
                    have h2 := (h1.only o fun g hg e => by have := h1.lt hg; omega).cut hc
                    rw [Nat.mul_one, ← List.map_drop] at h2
                    rw [if_neg HNE.out] at h2
                    have := h2.rd
                    exact this)
                  go_wp2_with (first
                    | (at_builtin; refine wpList_append_any rfl _ _ 45 rfl 9 i9 (.string ⟨#[]⟩) 1 16 under45 hi9 hz0 hz1 hz2 rfl (by decide) (.slice none 0 0) 0 [] rfl (Vec.nil _ _) (.slice (some ⟨g2, off2, none⟩) c oc) c ((L.take c).map encStr) rfl (by have h1 := HD.out.row; rw [← HJ.out.1] at h1; have := h1.head hc; rwa [Nat.mul_one, ← List.map_take] at this) (one _) (by have := HB.out; unfold maxLen; omega) (by have := HB.out; omega) ?_; intro v1 w1 hv1 hg1 hf1; rw [Nat.zero_add, List.nil_append] at hv1; obtain ⟨oa1, oc1, rfl, _, _⟩ := hv1.shape; have HY1 := Lib.hid (And.intro hv1 (And.intro hg1 hf1)); have yw1 := (((HD.out.only.grown hg1 fun k e => by cases e).cell hgw (fun e => e) _).trans HW.out); clear hv1 hg1 hf1)
                    | (at_builtin; refine wpList_append_any rfl _ _ 45 rfl 9 i9 (.string ⟨#[]⟩) 1 16 under45 hi9 hz0 hz1 hz2 rfl (by decide) _ (c) _ rfl (HY1.out.1.alloc _) (.slice (some ⟨w1.heap.size, 0, none⟩) 1 1) 1 [encStr K] rfl (rd_one' w1 _ 9) (by intro u hu; simp at hu; subst hu; rfl) (by have := HB.out; unfold maxLen; omega) (by have := HB.out; omega) ?_; intro v2 w2 hv2 hg2 hf2; obtain ⟨oa2, oc2, rfl, _, _⟩ := hv2.shape; have HY2 := Lib.hid (And.intro hv2 (And.intro hg2 hf2)); clear hv2 hg2 hf2)
                    | (at_builtin; refine wpList_append_any rfl _ _ 45 rfl 9 i9 (.string ⟨#[]⟩) 1 16 under45 hi9 hz0 hz1 hz2 rfl (by decide) _ (c + 1) _ rfl HY2.out.1 (.slice (some ⟨g2, off2 + c, none⟩) (m - c) (oc - c)) (m - c) ((L.drop c).map encStr) rfl (HOLD.out w2 (((Only.refl (fun k => wy.heap.size ≤ k) wy).grown HY1.out.2.1 fun k e => by cases e).alloc _ |>.grown HY2.out.2.1 fun k e => (HY1.out.2.2 k e).resolve_left fun e => by cases e)) (one _) (by have := HB.out; unfold maxLen; omega) (by have := HB.out; omega) ?_; intro v3 w3 hv3 hg3 hf3; obtain ⟨oa3, oc3, rfl, _, _⟩ := hv3.shape; have HY3 := Lib.hid (And.intro hv3 (And.intro hg3 hf3)); clear hv3 hg3 hf3))
                  have HF : Hid (DK w w3 (.slice oa3 (c + 1 + (m - c)) oc3) (insAll (calls (l.take (j + 1))))) := Lib.hid (by
                    rw [HX6.out]
                    refine DK.grown HD.out HY1.out.2.1 (fun k hk => (HY1.out.2.2 k hk).resolve_left (fun e => by cases e)) HY2.out.2.1 HY2.out.2.2 HY3.out.2.1 HY3.out.2.2 ?_
                    have h1 := HY3.out.1
                    have e : (L.take c ++ K :: L.drop c).length = c + 1 + (m - c) := by
                      have := HJ.out.1
                      rw [List.length_append, List.length_take, List.length_cons, List.length_drop]
                      omega
                    rw [e]
                    simpa using h1)
                  go_roundw
                  case rel =>
                    have e : c + 1 + (m - c) = (insAll (calls (l.take (j + 1)))).length := by
                      have := HJ.out.1
                      rw [HX6.out, List.length_append, List.length_take, List.length_cons, List.length_drop]
                      omega
                    exact ⟨j + 1, _, oa3, oc3, by have := HLT.out; omega, rfl, next_int (by have := HL.out; have := HLT.out; omega), Lib.hid ⟨e, by have := HJ.out.2.1; omega, HF.out⟩⟩
                  case measure => exact meas HLT.out (by have := HL.out; omega)
    · obtain rfl : j = n := by omega
      go_wp2_with fail
      go_ret
      refine ⟨_, rfl, ?_⟩
      have := HJ.out.2.2
      rw [List.take_of_length_le (by have := HL.out.1; omega)] at this
      rw [← HJ.out.1] at *
      exact this
end Go.Proofs.Ytajbagdgjbihjaa
