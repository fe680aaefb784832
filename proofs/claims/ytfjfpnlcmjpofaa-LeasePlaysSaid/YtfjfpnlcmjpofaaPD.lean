/- The document's Back. -/
import Derived.Test.YtfjfpnlcmjpofaaPC
namespace Go.Proofs.Ytfjfpnlcmjpofaa
open Go.RowKit Go.Maps Go.Sort Go.Shelf
set_option linter.unusedVariables false

theorem Vec.head {w : World} {size n c : Nat} {ad : Addr} {xs : List Value} (h : Vec w size (.slice (some ad) n c) n xs) {k : Nat} (hk : k ≤ n) : Rd w size (.slice (some ad) k c) k (xs.take (k * size)) := by
  obtain ⟨a, cap, e, h1, h2⟩ := h.shape
  injection e with e1 e2 e3
  subst e3
  rcases h.form with ⟨h3, _⟩ | ⟨g, off, cap, e4, _, _, _, h4, _⟩
  · cases h3
  · injection e4 with e4 _ e5
    injection e4 with e4
    subst e4 e5
    refine ⟨by rw [List.length_take, h.len]; exact Nat.min_eq_left (Nat.mul_le_mul_right _ hk), .inr ⟨_, _, rfl, by omega, h2, fun j u hu => ?_⟩⟩
    rw [add_mid' (⟨g, off, none⟩) j rfl]
    rw [List.getElem?_take] at hu
    split at hu
    · exact h4 j u hu
    · cases hu
theorem ones (l : List Ls) : ∀ u ∈ l.flatMap Ls.row, u.oneCell' = true := by
  intro u hu
  obtain ⟨x, _, h⟩ := List.mem_flatMap.1 hu
  exact x.row_one u h
theorem back_list {ls : List Ls} (G : Good ls) {j : Nat} {x : Ls} (hx : ls[j]? = some x) {cache num : Int} (hh : hitB cache num x = true) : ls.filter (fun y => !hitB cache num y) = ls.take j ++ ls.drop (j + 1) := by
  obtain ⟨hj, e⟩ := List.getElem?_eq_some_iff.1 hx
  have hs : ls = ls.take j ++ x :: ls.drop (j + 1) := by
    rw [← e, ← List.drop_eq_getElem_cons hj, List.take_append_drop]
  have hr := G.rise
  rw [hs] at hr
  obtain ⟨_, h2, h3⟩ := List.pairwise_append.1 hr
  have h4 := (List.pairwise_cons.1 h2).1
  have hn : x.num = num := by unfold hitB at hh; simp at hh; exact hh.2
  conv => lhs; rw [hs]
  rw [List.filter_append, List.filter_cons, hh]
  simp only [Bool.not_true, Bool.false_eq_true, if_false]
  congr 1
  · rw [List.filter_eq_self]
    intro y hy
    have := h3 y hy x (List.mem_cons_self ..)
    unfold hitB
    simp
    exact Or.inr (by omega)
  · rw [List.filter_eq_self]
    intro y hy
    have := h4 y hy
    unfold hitB
    simp
    exact Or.inr (by omega)
set_option maxRecDepth 20000 in
set_option maxHeartbeats 2000000 in
theorem dback_any {w : World} {X : Nat} {lv sv : Value} {t : Tb} (h : DocAt w X lv sv t) (cache num : Int) : Calls Try.prog 14 #[.pointer (some ⟨X, 0, none⟩), .int .i64 cache, .int .i64 num] w fun e w' => e = .returned (.bool (t.has cache num)) ∧ ∃ lv', DocAt w' X lv' sv (t.back cache num) ∧ Only (fun k => k = X ∨ lv.ownBlock = some k) w w' ∧ ∀ g, lv'.ownBlock = some g → lv.ownBlock = some g ∨ w.heap.size ≤ g := by
  have H := Lib.hid h
  have HLEN : Hid (t.ls.length ≤ 1048575) := Lib.hid (Nat.le_trans h.ok.few h.ok.g)
  obtain ⟨la, lk, rfl, hlk1, hlk2⟩ := h.row.shape
  obtain ⟨m, hm⟩ : ∃ m, m = t.ls.length := ⟨_, rfl⟩
  have HM := Lib.hid hm
  have hrow := h.row
  have c4 := h.cells.is 4 _ rfl
  rw [← hm] at H hrow c4 hlk1 ⊢
  have HROW := Lib.hid hrow
  have HLK : Hid (m ≤ lk ∧ lk ≤ maxLen ∧ m = t.ls.length) := Lib.hid ⟨hlk1, hlk2, hm⟩
  have HML : Hid (m ≤ maxLen) := Lib.hid (by have h1 := HM.out; have h2 := HLEN.out; unfold maxLen; omega)
  clear h hm hrow hlk1 hlk2
  go_enter Try.func14, Try.ntmps14
  go_wp2_with fail
  go_loopw [7] (fun i wr => ∃ j : Nat, j ≤ m ∧ i = .int .i64 (j : Int) ∧ Hid (∀ y ∈ t.ls.take j, hitB cache num y = false) ∧ w = wr) (fun i wr => m - (intOf i).toNat)
  case atStart => exact ⟨0, by omega, rfl, Lib.hid (fun y hy => by simp at hy), rfl⟩
  case round =>
    obtain ⟨j, hj, rfl, HNO, rfl⟩ := hrel
    by_cases hlt : j < m
    · have hjl : j < t.ls.length := by have := HM.out; omega
      obtain ⟨ga, offa, rfl, hga, hcell, _⟩ := HROW.out.form' (by omega)
      obtain ⟨x, hx⟩ : ∃ x, x = t.ls[j] := ⟨_, rfl⟩
      have hcell2 : ∀ i u, (Ls.row x)[i]? = some u → w.cell? ⟨ga, offa + j * 4 + i, none⟩ = some u := fun i u h => by
        rw [hx] at h
        have := hcell (j * 4 + i) u (flat_at Ls.row 4 t.ls j (fun y _ => rfl) hjl i u h)
        rwa [← Nat.add_assoc] at this
      have HX : Hid (t.ls[j]? = some x) := Lib.hid (by rw [hx]; exact List.getElem?_eq_getElem hjl)
      clear hx hcell
      obtain ⟨x0, x1, x2, x3⟩ := x
      have q1 := hcell2 1 _ rfl
      have q2 := hcell2 2 _ rfl
      simp only at q1 q2
      have i0 : (0 : Int) ≤ (j : Int) := by omega
      have i1 : (j : Int) < (m : Int) := by omega
      have HLT := Lib.hid hlt
      clear hj hga hcell2
      by_cases e1 : x1 = cache
      · by_cases e2 : x2 = num
        · have fz := H.out.cells.thaw
          have hX := H.out.cells.lt
          have HHIT : Hid (hitB cache num ⟨x0, x1, x2, x3⟩ = true) := Lib.hid (by simp [hitB, e1, e2])
          have b1 : (x1 == cache) = true := by simpa using e1
          have b2 : (x2 == num) = true := by simpa using e2
          have HJL := Lib.hid hjl
          have hw : wrap64 ((j : Int) + 1) = (j : Int) + 1 := IntWalk.wrap64_in _ (by have := HLEN.out; omega)
          have s1 : j ≤ lk := by have := HLK.out; omega
          have s2 : j + 1 ≤ m := hlt
          have s3 : m ≤ lk := HLK.out.1
          have s4 : j ≤ m := by omega
          clear e1 e2 hjl
          by_cases hlk : lk = j + 1
          · have hm1 : m = j + 1 := by omega
            have HE1 := Lib.hid (And.intro hlk hm1)
            subst hlk
            subst hm1
            have HTL : Hid (∀ w2, Only None' w w2 → Rd w2 4 (.slice (some ⟨ga, offa, none⟩) 0 0) (0) ([])) := Lib.hid (fun w2 o => ⟨by simp, .inr ⟨_, _, rfl, Nat.le_refl _, Nat.zero_le _, fun j u hu => by simp at hu⟩⟩)
            go_wp2_with (first
              | (at_builtin; refine wpList_append_any rfl _ _ 41 rfl 66 Try.t66 Ls.zero.v 4 40 under41 info66 t66_zero t66_size t66_bytes rfl (by decide) (.slice none 0 0) 0 [] rfl (Vec.nil _ _) (.slice (some ⟨ga, offa, none⟩) j (j + 1)) j ((t.ls.take j).flatMap Ls.row) rfl (by have := HROW.out.head (k := j) (by omega); rwa [flat_take Ls.row 4 t.ls j (fun y _ => rfl) (by have := HJL.out; omega)] at this) (ones _) (by have := HLK.out; have := HLEN.out; unfold maxLen; omega) (by have := HLK.out; have := HLEN.out; omega) ?_; intro v1 w1 hv1 hg1 hf1; rw [Nat.zero_add, List.nil_append] at hv1; obtain ⟨oa1, oc1, rfl, _, _⟩ := hv1.shape; have O1 : Hid (Only None' w w1) := Lib.hid ((Only.refl None' w).grown hg1 fun q hq => by cases hq); have C1 := Lib.hid (H.out.cells.kept O1.out fun e => e); have F1 : Hid (∀ q, (Value.slice oa1 j oc1).ownBlock = some q → w.heap.size ≤ q) := Lib.hid (fun q hq => (hf1 q hq).resolve_left fun e => by cases e); have HV1 := Lib.hid hv1; have z4 := C1.out.is 4 _ rfl; clear hv1 hg1 hf1 c4 fz hX)
              | (at_builtin; go_loud (refine wpList_append_any rfl _ _ 41 rfl 66 Try.t66 Ls.zero.v 4 40 under41 info66 t66_zero t66_size t66_bytes rfl (by decide) (.slice oa1 j oc1) j ((t.ls.take j).flatMap Ls.row) rfl HV1.out (.slice (some ⟨ga, offa, none⟩) 0 0) (0) ([]) rfl (HTL.out w1 O1.out) (fun u hu => by cases hu) (by have := HLK.out; have := HLEN.out; unfold maxLen; omega) (by have := HLK.out; have := HLEN.out; omega) ?_); intro v2 w5 hv2 hg2 hf2; obtain ⟨oa2, oc2, rfl, _, _⟩ := hv2.shape; have O2 : Hid (Only (fun q => w.heap.size ≤ q) w1 w5) := Lib.hid ((Only.refl _ w1).grown hg2 fun q hq => F1.out q hq); have C5 := Lib.hid (C1.out.kept O2.out fun e => by have := H.out.cells.lt; omega); have F2 : Hid (∀ q, (Value.slice oa2 (j + (0)) oc2).ownBlock = some q → w.heap.size ≤ q) := Lib.hid (fun q hq => (hf2 q hq).elim (F1.out q) fun e => Nat.le_trans O1.out.size e); have HV2 := Lib.hid hv2; have yf := C5.out.thaw; have yl := C5.out.lt; have y4 := C5.out.is 4 _ rfl; clear hv2 hg2 hf2 z4))
            go_ret
            have hls : (t.back cache num).ls = t.ls.take j ++ t.ls.drop (j + 1) := back_list H.out.ok.good HX.out HHIT.out
            have hhas : t.has cache num = true := by
              unfold Tb.has
              rw [List.any_eq_true]
              exact ⟨_, List.mem_of_getElem? HX.out, HHIT.out⟩
            have hlen : (t.back cache num).ls.length = j + (0) := by
              rw [hls, List.length_append, List.length_take, List.length_drop]
              have h1 := HM.out
              have h2 := HJL.out
              omega
            have hf3 : ∀ g, (Value.slice oa2 (j + (0)) oc2).ownBlock = some g → (Value.slice (some ⟨ga, offa, none⟩) (j + 1) (j + 1)).ownBlock = some g ∨ w.heap.size ≤ g := fun g hg => Or.inr (F2.out g hg)
            have o05 : Only (fun k => k = X ∨ (Value.slice (some ⟨ga, offa, none⟩) (j + 1) (j + 1)).ownBlock = some k) w w5 := (O1.out.mono fun _ _ e => e.elim).trans2 O2.out fun k hk e => by omega
            have hp := docAt_put4 (t' := t.back cache num) H.out o05 (lo := .slice (some ⟨ga, offa, none⟩) (j + 1) (j + 1)) (lv' := .slice oa2 (j + (0)) oc2) C5.out (by
              rw [hlen, hls, List.flatMap_append]
              exact (by have h := HV2.out; rw [List.drop_eq_nil_of_le (by have := HM.out; omega)]; exact h)) hf3 rfl rfl (H.out.ok.back cache num)
            exact ⟨by rw [hhas]; rfl, _, hp.1, hp.2, hf3⟩
          · have HE2 := Lib.hid hlk
            have HTL : Hid (∀ w2, Only None' w w2 → Rd w2 4 (.slice (some ⟨ga, offa + (j + 1) * 4, none⟩) (m - (j + 1)) (lk - (j + 1))) (m - (j + 1)) ((t.ls.drop (j + 1)).flatMap Ls.row)) := Lib.hid (fun w2 o => by
              have h2 := (HROW.out.only o fun _ _ e => e).cut (k := j + 1) s2
              rw [if_neg HE2.out, flat_drop Ls.row 4 t.ls (j + 1) (fun y _ => rfl) (by have := HJL.out; omega)] at h2
              exact h2.rd)
            go_wp2_with (first
              | (at_builtin; refine wpList_append_any rfl _ _ 41 rfl 66 Try.t66 Ls.zero.v 4 40 under41 info66 t66_zero t66_size t66_bytes rfl (by decide) (.slice none 0 0) 0 [] rfl (Vec.nil _ _) (.slice (some ⟨ga, offa, none⟩) j lk) j ((t.ls.take j).flatMap Ls.row) rfl (by have := HROW.out.head (k := j) (by omega); rwa [flat_take Ls.row 4 t.ls j (fun y _ => rfl) (by have := HJL.out; omega)] at this) (ones _) (by have := HLK.out; have := HLEN.out; unfold maxLen; omega) (by have := HLK.out; have := HLEN.out; omega) ?_; intro v1 w1 hv1 hg1 hf1; rw [Nat.zero_add, List.nil_append] at hv1; obtain ⟨oa1, oc1, rfl, _, _⟩ := hv1.shape; have O1 : Hid (Only None' w w1) := Lib.hid ((Only.refl None' w).grown hg1 fun q hq => by cases hq); have C1 := Lib.hid (H.out.cells.kept O1.out fun e => e); have F1 : Hid (∀ q, (Value.slice oa1 j oc1).ownBlock = some q → w.heap.size ≤ q) := Lib.hid (fun q hq => (hf1 q hq).resolve_left fun e => by cases e); have HV1 := Lib.hid hv1; have z4 := C1.out.is 4 _ rfl; clear hv1 hg1 hf1 c4 fz hX)
              | (at_builtin; go_loud (refine wpList_append_any rfl _ _ 41 rfl 66 Try.t66 Ls.zero.v 4 40 under41 info66 t66_zero t66_size t66_bytes rfl (by decide) (.slice oa1 j oc1) j ((t.ls.take j).flatMap Ls.row) rfl HV1.out (.slice (some ⟨ga, offa + (j + 1) * 4, none⟩) (m - (j + 1)) (lk - (j + 1))) (m - (j + 1)) ((t.ls.drop (j + 1)).flatMap Ls.row) rfl (HTL.out w1 O1.out) (ones _) (by have := HLK.out; have := HLEN.out; unfold maxLen; omega) (by have := HLK.out; have := HLEN.out; omega) ?_); intro v2 w5 hv2 hg2 hf2; obtain ⟨oa2, oc2, rfl, _, _⟩ := hv2.shape; have O2 : Hid (Only (fun q => w.heap.size ≤ q) w1 w5) := Lib.hid ((Only.refl _ w1).grown hg2 fun q hq => F1.out q hq); have C5 := Lib.hid (C1.out.kept O2.out fun e => by have := H.out.cells.lt; omega); have F2 : Hid (∀ q, (Value.slice oa2 (j + (m - (j + 1))) oc2).ownBlock = some q → w.heap.size ≤ q) := Lib.hid (fun q hq => (hf2 q hq).elim (F1.out q) fun e => Nat.le_trans O1.out.size e); have HV2 := Lib.hid hv2; have yf := C5.out.thaw; have yl := C5.out.lt; have y4 := C5.out.is 4 _ rfl; clear hv2 hg2 hf2 z4))
            go_ret
            have hls : (t.back cache num).ls = t.ls.take j ++ t.ls.drop (j + 1) := back_list H.out.ok.good HX.out HHIT.out
            have hhas : t.has cache num = true := by
              unfold Tb.has
              rw [List.any_eq_true]
              exact ⟨_, List.mem_of_getElem? HX.out, HHIT.out⟩
            have hlen : (t.back cache num).ls.length = j + (m - (j + 1)) := by
              rw [hls, List.length_append, List.length_take, List.length_drop]
              have h1 := HM.out
              have h2 := HJL.out
              omega
            have hf3 : ∀ g, (Value.slice oa2 (j + (m - (j + 1))) oc2).ownBlock = some g → (Value.slice (some ⟨ga, offa, none⟩) m lk).ownBlock = some g ∨ w.heap.size ≤ g := fun g hg => Or.inr (F2.out g hg)
            have o05 : Only (fun k => k = X ∨ (Value.slice (some ⟨ga, offa, none⟩) m lk).ownBlock = some k) w w5 := (O1.out.mono fun _ _ e => e.elim).trans2 O2.out fun k hk e => by omega
            have hp := docAt_put4 (t' := t.back cache num) H.out o05 (lo := .slice (some ⟨ga, offa, none⟩) m lk) (lv' := .slice oa2 (j + (m - (j + 1))) oc2) C5.out (by
              rw [hlen, hls, List.flatMap_append]
              exact HV2.out) hf3 rfl rfl (H.out.ok.back cache num)
            exact ⟨by rw [hhas]; rfl, _, hp.1, hp.2, hf3⟩
        · have b1 : (x1 == cache) = true := by simpa using e1
          have b2 : (x2 == num) = false := by simpa using e2
          clear hlt hjl
          have HMISS : Hid (hitB cache num ⟨x0, x1, x2, x3⟩ = false) := Lib.hid (by simp [hitB, e2])
          clear e1 e2
          go_wp2_with fail
          go_roundw
          case rel =>
            refine ⟨j + 1, by have := HLT.out; omega, next_len HLT.out HML.out, Lib.hid ?_, trivial⟩
            intro y hy
            rw [List.take_add_one, HX.out, List.mem_append] at hy
            rcases hy with h | h
            · exact HNO.out y h
            · simp at h
              subst h
              exact HMISS.out
          case measure => exact meas_len HLT.out HML.out
      · have b1 : (x1 == cache) = false := by simpa using e1
        clear hlt hjl
        have HMISS : Hid (hitB cache num ⟨x0, x1, x2, x3⟩ = false) := Lib.hid (by simp [hitB, e1])
        clear e1
        go_wp2_with fail
        go_roundw
        case rel =>
          refine ⟨j + 1, by have := HLT.out; omega, next_len HLT.out HML.out, Lib.hid ?_, trivial⟩
          intro y hy
          rw [List.take_add_one, HX.out, List.mem_append] at hy
          rcases hy with h | h
          · exact HNO.out y h
          · simp at h
            subst h
            exact HMISS.out
        case measure => exact meas_len HLT.out HML.out
    · obtain rfl : j = m := by omega
      have HF : Hid (t.has cache num = false) := Lib.hid (by
        unfold Tb.has
        rw [List.any_eq_false]
        intro y hy
        rw [HNO.out y (by rw [List.take_of_length_le (by have := HM.out; omega)]; exact hy)]
        simp)
      clear hj hlt
      go_wp2_with fail
      go_ret
      refine ⟨by rw [HF.out]; rfl, _, ?_, Only.refl _ _, fun g hg => Or.inl hg⟩
      rw [Tb.back_none HF.out]
      exact H.out
end Go.Proofs.Ytfjfpnlcmjpofaa
