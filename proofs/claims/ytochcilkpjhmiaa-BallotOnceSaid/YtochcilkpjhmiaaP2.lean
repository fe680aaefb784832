/- Plain: what ballot.Common computes is what the document's Common computes; what is common is had by a majority, and nothing greater is. -/
import Derived.Test.YtochcilkpjhmiaaC5
namespace Go.Proofs.Ytochcilkpjhmiaa

theorem exists_min (f : Int → Int) : ∀ l : List Int, l ≠ [] → ∃ v ∈ l, ∀ u ∈ l, f v ≤ f u
  | [], h => absurd rfl h
  | [a], _ => ⟨a, by simp, by intro u hu; simp at hu; subst hu; omega⟩
  | a :: b :: l, _ => by
    obtain ⟨v, hv, hm⟩ := exists_min f (b :: l) (by simp)
    by_cases h : f a ≤ f v
    · refine ⟨a, by simp, fun u hu => ?_⟩
      rcases List.mem_cons.1 hu with rfl | hu
      · omega
      · have := hm u hu; omega
    · refine ⟨v, List.mem_cons_of_mem _ hv, fun u hu => ?_⟩
      rcases List.mem_cons.1 hu with rfl | hu
      · omega
      · exact hm u hu

def maj (at' U : List Int) (x : Int) : Prop := U.length < 2 * U.countP (okV at' x)

theorem okV_iff (at' : List Int) (x v : Int) : okV at' x v = true ↔ 1 ≤ v ∧ v ≤ at'.length ∧ x ≤ nth at' (v.toNat - 1) := by unfold okV; rw [decide_eq_true_eq]

structure IsCommon (at' U : List Int) (c : Int) : Prop where
  pos : 0 ≤ c
  has : 0 < c → maj at' U c
  not : ∀ d, c < d → ¬ maj at' U d

theorem IsCommon.uniq {at' U : List Int} {c c' : Int} (h : IsCommon at' U c) (h' : IsCommon at' U c') : c = c' := by
  have a := h.pos
  have b := h'.pos
  rcases Int.lt_trichotomy c c' with h1 | h1 | h1
  · exact absurd (h'.has (by omega)) (h.not c' h1)
  · exact h1
  · exact absurd (h.has (by omega)) (h'.not c h1)

theorem best_common (at' U : List Int) : ∀ k, k ≤ at'.length → 0 ≤ bestUp at' U k ∧ (0 < bestUp at' U k → maj at' U (bestUp at' U k)) ∧ ∀ j, j < k → maj at' U (nth at' j) → nth at' j ≤ bestUp at' U k
  | 0, _ => ⟨by simp [bestUp], by simp [bestUp], fun j hj => by omega⟩
  | k + 1, hk => by
    obtain ⟨h1, h2, h3⟩ := best_common at' U k (by omega)
    have hm : ((U.length : Int) - (majC at' U (nth at' k) : Int) < (majC at' U (nth at' k) : Int)) ↔ maj at' U (nth at' k) := by
      unfold maj majC; omega
    by_cases hc : maj at' U (nth at' k) ∧ bestUp at' U k < nth at' k
    · have e : bestUp at' U (k + 1) = nth at' k := best_yes at' U k _ rfl (hm.2 hc.1) hc.2
      rw [e]
      refine ⟨by omega, fun _ => hc.1, fun j hj hmj => ?_⟩
      rcases Nat.lt_or_ge j k with h | h
      · have := h3 j h hmj; omega
      · have : j = k := by omega
        subst this; omega
    · have e : bestUp at' U (k + 1) = bestUp at' U k := by
        by_cases ha : maj at' U (nth at' k)
        · exact best_no2 at' U k (fun hb => hc ⟨ha, hb⟩)
        · exact best_no1 at' U k _ rfl (fun hb => ha (hm.1 hb))
      rw [e]
      refine ⟨h1, h2, fun j hj hmj => ?_⟩
      rcases Nat.lt_or_ge j k with h | h
      · exact h3 j h hmj
      · have : j = k := by omega
        subst this
        by_cases hb : bestUp at' U j < nth at' j
        · exact absurd ⟨hmj, hb⟩ hc
        · omega

theorem countP_mono {p q : Int → Bool} {l : List Int} (h : ∀ x ∈ l, p x = true → q x = true) : l.countP p ≤ l.countP q :=
  List.countP_mono_left h

theorem best_is (at' U : List Int) : IsCommon at' U (bestUp at' U at'.length) := by
  obtain ⟨h1, h2, h3⟩ := best_common at' U at'.length (Nat.le_refl _)
  refine ⟨h1, h2, fun d hd hm => ?_⟩
  have hne : U.filter (okV at' d) ≠ [] := by
    intro e
    have : U.countP (okV at' d) = 0 := by rw [List.countP_eq_length_filter, e]; rfl
    unfold maj at hm; omega
  obtain ⟨v, hv, hmin⟩ := exists_min (fun v => nth at' (v.toNat - 1)) _ hne
  obtain ⟨hvU, hv2⟩ := List.mem_filter.1 hv
  obtain ⟨a1, a2, a3⟩ := (okV_iff at' d v).1 hv2
  have hmx : maj at' U (nth at' (v.toNat - 1)) := by
    unfold maj at *
    have : U.countP (okV at' d) ≤ U.countP (okV at' (nth at' (v.toNat - 1))) := by
      refine countP_mono (fun u hu hu2 => ?_)
      have b := (okV_iff at' d u).1 hu2
      exact (okV_iff _ _ _).2 ⟨b.1, b.2.1, hmin u (List.mem_filter.2 ⟨hu, hu2⟩)⟩
    omega
  have := h3 (v.toNat - 1) (by omega) hmx
  omega

theorem descL_perm (zs : List Int) : (descL zs).Perm zs := List.mergeSort_perm _ _
theorem descL_sorted (zs : List Int) : (descL zs).Pairwise (fun x y => y ≤ x) := by
  have h := List.pairwise_mergeSort (le := fun x y : Int => !(ltOf cfD) y x) (fun a b c hab hbc => by simp only [ltOf_cfD] at *; simp at *; omega) (fun a b => by simp only [ltOf_cfD]; simp; omega) zs
  exact h.imp (fun h => by simp only [ltOf_cfD] at h; simpa using h)

theorem desc_get (D : List Int) (h : D.Pairwise (fun x y => y ≤ x)) (i j : Nat) (hij : i ≤ j) (hj : j < D.length) : D[j] ≤ D[i] := by
  rcases Nat.lt_or_ge i j with h' | h'
  · exact List.pairwise_iff_getElem.1 h i j (by omega) hj h'
  · have : i = j := by omega
    subst this; exact Int.le_refl _

theorem desc_count_hi (D : List Int) (h : D.Pairwise (fun x y => y ≤ x)) (m : Nat) (hm : m < D.length) : m + 1 ≤ D.countP (fun x => decide (D[m] ≤ x)) := by
  have e : (D.take (m + 1)).countP (fun x => decide (D[m] ≤ x)) = m + 1 := by
    have : (D.take (m + 1)).countP (fun x => decide (D[m] ≤ x)) = (D.take (m + 1)).length := by
      rw [List.countP_eq_length]
      intro x hx
      obtain ⟨i, hi, rfl⟩ := List.getElem_of_mem hx
      rw [List.getElem_take]
      have := desc_get D h i m (by simp at hi; omega) hm
      simpa using this
    rw [this]; simp; omega
  have := List.Sublist.countP_le (p := fun x => decide (D[m] ≤ x)) (List.take_sublist (m + 1) D)
  omega

theorem desc_count_lo (D : List Int) (h : D.Pairwise (fun x y => y ≤ x)) (m : Nat) (hm : m < D.length) (d : Int) (hd : D[m] < d) : D.countP (fun x => decide (d ≤ x)) ≤ m := by
  have e : D.countP (fun x => decide (d ≤ x)) = (D.take m).countP (fun x => decide (d ≤ x)) + (D.drop m).countP (fun x => decide (d ≤ x)) := by
    rw [← List.countP_append, List.take_append_drop]
  have e2 : (D.drop m).countP (fun x => decide (d ≤ x)) = 0 := by
    rw [List.countP_eq_zero]
    intro x hx
    obtain ⟨i, hi, rfl⟩ := List.getElem_of_mem hx
    rw [List.getElem_drop]
    have := desc_get D h m (m + i) (by omega) (by simp at hi; omega)
    simp; omega
  have e3 : (D.take m).countP (fun x => decide (d ≤ x)) ≤ m := Nat.le_trans List.countP_le_length (List.length_take_le _ _)
  omega

theorem hasAt_nonneg (at' : List Int) (v : Int) : 0 ≤ hasAt at' v := by unfold hasAt; split <;> omega
theorem hasAt_ge (at' : List Int) (v d : Int) (hd : 0 < d) : decide (d ≤ hasAt at' v) = okV at' d v := by
  rw [Bool.eq_iff_iff, okV_iff, decide_eq_true_eq]
  unfold hasAt
  by_cases h : 1 ≤ v ∧ v ≤ at'.length
  · rw [if_pos h]; omega
  · rw [if_neg h]; omega

theorem common_is (vs at' : List Int) : IsCommon at' (uniq vs) (commonI vs at') := by
  have hcount : ∀ d, 0 < d → (descL ((uniq vs).map (hasAt at'))).countP (fun x => decide (d ≤ x)) = (uniq vs).countP (okV at' d) := by
    intro d hd
    rw [(descL_perm _).countP_eq, List.countP_map]
    congr 1; funext v; exact hasAt_ge at' v d hd
  have hlen : (descL ((uniq vs).map (hasAt at'))).length = (uniq vs).length := by rw [descL_len]; simp
  have hs := descL_sorted ((uniq vs).map (hasAt at'))
  unfold commonI
  generalize hD : descL ((uniq vs).map (hasAt at')) = D at *
  by_cases h0 : (uniq vs).length = 0
  · have e : nth D ((uniq vs).length / 2) = 0 := by
      have : D = [] := List.length_eq_zero_iff.1 (by omega)
      subst this; simp [nth]
    rw [e]
    exact ⟨by omega, fun h => by omega, fun d hd hm => by
      have : (uniq vs).countP (okV at' d) ≤ (uniq vs).length := List.countP_le_length
      unfold maj at hm; omega⟩
  · have hm : (uniq vs).length / 2 < D.length := by omega
    rw [nth_get D _ hm]
    refine ⟨?_, fun hc => ?_, fun d hd hmaj => ?_⟩
    · have : D[(uniq vs).length / 2] ∈ (uniq vs).map (hasAt at') := by
        rw [← (descL_perm _).mem_iff, hD]; exact List.getElem_mem hm
      obtain ⟨v, _, hv⟩ := List.mem_map.1 this
      rw [← hv]; exact hasAt_nonneg at' v
    · have h1 := desc_count_hi D hs _ hm
      rw [hcount _ hc] at h1
      unfold maj; omega
    · have h1 : 0 ≤ D[(uniq vs).length / 2] := by
        have : D[(uniq vs).length / 2] ∈ (uniq vs).map (hasAt at') := by
          rw [← (descL_perm _).mem_iff, hD]; exact List.getElem_mem hm
        obtain ⟨v, _, hv⟩ := List.mem_map.1 this
        rw [← hv]; exact hasAt_nonneg at' v
      have h2 := desc_count_lo D hs _ hm d hd
      rw [hcount d (by omega)] at h2
      unfold maj at hmaj; omega

theorem isCommon_perm {at' U V : List Int} {c : Int} (h : U.Perm V) (hc : IsCommon at' U c) : IsCommon at' V c := by
  have e : ∀ x, maj at' U x ↔ maj at' V x := by intro x; unfold maj; rw [h.length_eq, h.countP_eq]
  exact ⟨hc.pos, fun h => (e c).1 (hc.has h), fun d hd hm => hc.not d hd ((e d).2 hm)⟩

theorem common_eq (vs at' : List Int) : refCommonI vs at' = commonI vs at' :=
  IsCommon.uniq (isCommon_perm (once_perm vs) (best_is at' (once vs))) (common_is vs at')

/-- the law's own reading of an index -/
def kAt (at' : List Int) (v : Int) : Int := if v ≤ at'.length then nth at' (v.toNat - 1) else 0
def withP (at' : List Int) (n v : Int) : Bool := decide (n ≤ kAt at' v) || (n == 0)
def aboveP (at' : List Int) (n v : Int) : Bool := decide (n < kAt at' v)

theorem hasB_filter (l : List Int) (p : Int → Bool) : l.countP (hasB (l.filter p)) = l.countP p := by
  apply List.countP_congr
  intro x hx
  rw [hasB_iff, List.mem_filter]
  exact ⟨fun h => h.2, fun h => ⟨hx, h⟩⟩

theorem kAt_ge (at' : List Int) (v d : Int) (hv : 1 ≤ v) (hd : 0 < d) : decide (d ≤ kAt at' v) = okV at' d v := by
  rw [Bool.eq_iff_iff, okV_iff, decide_eq_true_eq]
  unfold kAt
  split <;> omega

theorem common_won (vs at' : List Int) (hc : chkB vs = true) : wonB vs (vs.filter (withP at' (commonI vs at'))) = true ∧ wonB vs (vs.filter (aboveP at' (commonI vs at'))) = false := by
  obtain ⟨h0, hp, hr⟩ := (chk_iff vs).1 hc
  have hu := uniq_of_lt hp
  have hC := common_is vs at'
  generalize commonI vs at' = c at *
  rw [hu] at hC
  unfold wonB
  rw [hu, hasB_filter, hasB_filter, decide_eq_true_eq, decide_eq_false_iff_not]
  constructor
  · by_cases hz : c = 0
    · have : vs.countP (withP at' c) = vs.length := by
        rw [List.countP_eq_length]; intro x _; simp [withP, hz]
      have : 0 < vs.length := List.length_pos_iff.2 h0
      omega
    · have hcp : 0 < c := by have := hC.pos; omega
      have e : vs.countP (withP at' c) = vs.countP (okV at' c) := by
        apply List.countP_congr
        intro x hx
        rw [← kAt_ge at' x c (hr x hx).1 hcp]
        simp [withP, hz]
      rw [e]; exact hC.has hcp
  · have e : vs.countP (aboveP at' c) = vs.countP (okV at' (c + 1)) := by
      apply List.countP_congr
      intro x hx
      rw [← kAt_ge at' x (c + 1) (hr x hx).1 (by have := hC.pos; omega)]
      simp [aboveP]; omega
    rw [e]
    exact hC.not (c + 1) (by omega)

end Go.Proofs.Ytochcilkpjhmiaa
