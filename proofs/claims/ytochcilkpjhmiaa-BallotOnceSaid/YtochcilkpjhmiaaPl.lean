/- Plain facts on lists of numbers: sorted, each once; majorities; the greatest index that a majority has. -/
import Derived.Lib.SlicesCompact
namespace Go.Proofs.Ytochcilkpjhmiaa

/-- plain names, closed to simp -/
def nth (zs : List Int) (k : Nat) : Int := zs.getD k 0
def hasB (zs : List Int) (x : Int) : Bool := zs.contains x
def eqB (xs ys : List Int) : Bool := xs == ys
def rankN (zs : List Int) (x : Int) : Nat := zs.countP (· < x)

theorem nth_get (zs : List Int) (k : Nat) (h : k < zs.length) : nth zs k = zs[k] := by simp [nth, List.getD, h]
theorem hasB_iff (zs : List Int) (x : Int) : hasB zs x = true ↔ x ∈ zs := by simp [hasB]
theorem hasB_false (zs : List Int) (x : Int) : hasB zs x = false ↔ x ∉ zs := by simp [hasB]
theorem take_succ (zs : List Int) (k : Nat) (h : k < zs.length) : zs.take (k + 1) = zs.take k ++ [nth zs k] := by
  rw [List.take_succ_eq_append_getElem h, nth_get zs k h]
theorem hasB_take_succ (zs : List Int) (x : Int) (k : Nat) (h : k < zs.length) : hasB (zs.take (k + 1)) x = (hasB (zs.take k) x || (nth zs k == x)) := by
  rw [take_succ zs k h, Bool.eq_iff_iff, Bool.or_eq_true, hasB_iff, hasB_iff, List.mem_append, List.mem_singleton, beq_iff_eq]
  exact or_congr Iff.rfl ⟨Eq.symm, Eq.symm⟩
theorem hasB_nth (zs : List Int) (x : Int) (k : Nat) (h : k < zs.length) (e : (nth zs k == x) = true) : hasB zs x = true := by
  rw [hasB_iff]; have : nth zs k = x := by simpa using e
  rw [← this, nth_get zs k h]; exact List.getElem_mem h

/-- a list's numbers, each once, rising -/
def srt (zs : List Int) : List Int := zs.mergeSort fun x y => decide (x ≤ y)
def uniq (zs : List Int) : List Int := Lib.compact (srt zs)

theorem srt_perm (zs : List Int) : (srt zs).Perm zs := List.mergeSort_perm _ _
theorem srt_sorted (zs : List Int) : (srt zs).Pairwise (· ≤ ·) := by
  have h := List.pairwise_mergeSort (le := fun x y : Int => decide (x ≤ y)) (fun a b c hab hbc => by simp at *; omega) (fun a b => by simp; omega) zs
  exact h.imp (fun h => by simpa using h)

theorem getB (l : List Int) (i : Nat) (h : i < l.length) : l.toArray[i]! = l[i] := by simp [getElem!_pos, h]

theorem compact_mem (l : List Int) (x : Int) : x ∈ Lib.compact l ↔ x ∈ l := by
  unfold Lib.compact Lib.compactUpTo
  simp only [List.mem_map, List.mem_filter, List.mem_range]
  constructor
  · rintro ⟨j, ⟨hj, _⟩, rfl⟩
    rw [getB l j hj]; exact List.getElem_mem hj
  · intro hx
    obtain ⟨i, hi, rfl⟩ := List.getElem_of_mem hx
    induction i using Nat.strongRecOn with
    | _ i ih =>
      by_cases hk : Lib.keeps l.toArray i = true
      · exact ⟨i, ⟨hi, hk⟩, getB l i hi⟩
      · have h0 : i ≠ 0 ∧ l.toArray[i]! = l.toArray[i - 1]! := by
          simp [Lib.keeps] at hk; exact ⟨hk.1, by simpa using hk.2⟩
        have hi1 : i - 1 < l.length := by omega
        have he : l[i] = l[i - 1] := by rw [← getB l i hi, ← getB l (i - 1) hi1]; exact h0.2
        obtain ⟨j, hj, hje⟩ := ih (i - 1) (by omega) hi1 (List.getElem_mem hi1)
        exact ⟨j, hj, by rw [hje, he]⟩

theorem sorted_get (l : List Int) (h : l.Pairwise (· ≤ ·)) (i j : Nat) (hij : i ≤ j) (hj : j < l.length) : l[i] ≤ l[j] := by
  rcases Nat.lt_or_ge i j with h' | h'
  · exact List.pairwise_iff_getElem.1 h i j (by omega) hj h'
  · have : i = j := by omega
    subst this; exact Int.le_refl _

theorem compact_lt (l : List Int) (h : l.Pairwise (· ≤ ·)) : (Lib.compact l).Pairwise (· < ·) := by
  unfold Lib.compact Lib.compactUpTo
  rw [List.pairwise_map, List.pairwise_filter]
  have hr : (List.range l.length).Pairwise (· < ·) := List.pairwise_lt_range
  refine (List.Pairwise.and_mem.1 hr).imp ?_
  rintro i j ⟨hi, hj, hij⟩ _ hk
  have hi' := List.mem_range.1 hi
  have hj' := List.mem_range.1 hj
  have hne : l.toArray[j]! ≠ l.toArray[j - 1]! := by
    simp only [Lib.keeps, decide_eq_true_eq] at hk
    rcases hk with hk | hk
    · omega
    · exact hk
  have hj1 : j - 1 < l.length := by omega
  rw [getB l j hj', getB l (j - 1) hj1] at hne
  rw [getB l i hi', getB l j hj']
  have h1 := sorted_get l h i (j - 1) (by omega) hj1
  have h2 := sorted_get l h (j - 1) j (by omega) hj'
  omega

theorem mem_uniq (zs : List Int) (x : Int) : x ∈ uniq zs ↔ x ∈ zs := by
  unfold uniq; rw [compact_mem]; exact (srt_perm zs).mem_iff
theorem uniq_lt (zs : List Int) : (uniq zs).Pairwise (· < ·) := compact_lt _ (srt_sorted zs)
theorem nodup_of_lt {l : List Int} (h : l.Pairwise (· < ·)) : l.Nodup := h.imp (fun h => by omega)
theorem uniq_nodup (zs : List Int) : (uniq zs).Nodup := nodup_of_lt (uniq_lt zs)
theorem uniq_len (zs : List Int) : (uniq zs).length ≤ zs.length := by
  unfold uniq Lib.compact Lib.compactUpTo
  rw [List.length_map]
  refine Nat.le_trans (List.length_filter_le _ _) ?_
  simp [srt]

/-- two rising lists of the same numbers are one -/
theorem lt_ext : ∀ {l m : List Int}, l.Pairwise (· < ·) → m.Pairwise (· < ·) → (∀ x, x ∈ l ↔ x ∈ m) → l = m
  | [], [], _, _, _ => rfl
  | [], b :: m, _, _, h => by have := (h b).2 (by simp); simp at this
  | a :: l, [], _, _, h => by have := (h a).1 (by simp); simp at this
  | a :: l, b :: m, hl, hm, h => by
    rw [List.pairwise_cons] at hl hm
    have hab : a = b := by
      have h1 := (h a).1 (by simp)
      have h2 := (h b).2 (by simp)
      rcases List.mem_cons.1 h1 with h1 | h1
      · exact h1
      · rcases List.mem_cons.1 h2 with h2 | h2
        · exact h2.symm
        · have := hl.1 b h2; have := hm.1 a h1; omega
    subst hab
    have hx : ∀ x, x ∈ l ↔ x ∈ m := by
      intro x
      constructor
      · intro hx
        have h1 := (h x).1 (by simp [hx])
        rcases List.mem_cons.1 h1 with h1 | h1
        · have := hl.1 x hx; omega
        · exact h1
      · intro hx
        have h1 := (h x).2 (by simp [hx])
        rcases List.mem_cons.1 h1 with h1 | h1
        · have := hm.1 x hx; omega
        · exact h1
    rw [lt_ext hl.2 hm.2 hx]

/-- two lists, each number once, of the same numbers -/
theorem perm_ext {l m : List Int} (hl : l.Nodup) (hm : m.Nodup) (h : ∀ x, x ∈ l ↔ x ∈ m) : l.Perm m :=
  (List.perm_ext_iff_of_nodup hl hm).2 h

/-- the document's Once: each number at its first place -/
def onceStep (out : List Int) (x : Int) : List Int := if hasB out x then out else out ++ [x]
def once (zs : List Int) : List Int := zs.foldl onceStep []
theorem once_take_succ (zs : List Int) (k : Nat) (h : k < zs.length) : once (zs.take (k + 1)) = onceStep (once (zs.take k)) (nth zs k) := by
  unfold once; rw [take_succ zs k h, List.foldl_append]; rfl
theorem once_yes (zs : List Int) (k : Nat) (h : k < zs.length) (e : hasB (once (zs.take k)) (nth zs k) = true) : once (zs.take (k + 1)) = once (zs.take k) := by
  rw [once_take_succ zs k h, onceStep, if_pos e]
theorem once_no (zs : List Int) (k : Nat) (h : k < zs.length) (e : hasB (once (zs.take k)) (nth zs k) = false) : once (zs.take (k + 1)) = once (zs.take k) ++ [nth zs k] := by
  rw [once_take_succ zs k h, onceStep, if_neg (by simp [e])]
theorem once_foldl (zs : List Int) : ∀ (out : List Int), out.Nodup → (zs.foldl onceStep out).Nodup ∧ ∀ x, x ∈ zs.foldl onceStep out ↔ (x ∈ out ∨ x ∈ zs) := by
  induction zs with
  | nil => intro out h; exact ⟨h, by simp⟩
  | cons a zs ih =>
    intro out h
    rw [List.foldl_cons]
    by_cases e : hasB out a = true
    · have : onceStep out a = out := by simp [onceStep, e]
      rw [this]
      obtain ⟨h1, h2⟩ := ih out h
      refine ⟨h1, fun x => ?_⟩
      rw [h2 x, List.mem_cons]
      have := (hasB_iff out a).1 e
      constructor
      · rintro (h | h)
        · exact .inl h
        · exact .inr (.inr h)
      · rintro (h | h | h)
        · exact .inl h
        · subst h; exact .inl this
        · exact .inr h
    · have e' : hasB out a = false := by simpa using e
      have : onceStep out a = out ++ [a] := by simp [onceStep, e']
      rw [this]
      have hn : a ∉ out := (hasB_false out a).1 e'
      obtain ⟨h1, h2⟩ := ih (out ++ [a]) (by
        rw [List.nodup_append]; exact ⟨h, by simp, by intro x hx y hy; simp at hy; subst hy; intro he; subst he; exact hn hx⟩)
      refine ⟨h1, fun x => ?_⟩
      rw [h2 x, List.mem_append, List.mem_singleton, List.mem_cons, or_assoc]
theorem once_nodup (zs : List Int) : (once zs).Nodup := (once_foldl zs [] List.nodup_nil).1
theorem mem_once (zs : List Int) (x : Int) : x ∈ once zs ↔ x ∈ zs := by
  rw [once, (once_foldl zs [] List.nodup_nil).2 x]; simp
theorem once_perm (zs : List Int) : (once zs).Perm (uniq zs) :=
  perm_ext (once_nodup zs) (uniq_nodup zs) (fun x => by rw [mem_once, mem_uniq])
theorem once_len (zs : List Int) : (once zs).length ≤ zs.length := by
  rw [(once_perm zs).length_eq]; exact uniq_len zs

/-- how many of the first k are so -/
def cnt (l : List Int) (p : Int → Bool) (k : Nat) : Nat := (l.take k).countP p
theorem cnt_zero (l : List Int) (p : Int → Bool) : cnt l p 0 = 0 := by simp [cnt]
theorem cnt_yes (l : List Int) (p : Int → Bool) (k : Nat) (h : k < l.length) (e : p (nth l k) = true) : cnt l p (k + 1) = cnt l p k + 1 := by
  unfold cnt; rw [take_succ l k h, List.countP_append]; simp [e]
theorem cnt_no (l : List Int) (p : Int → Bool) (k : Nat) (h : k < l.length) (e : p (nth l k) = false) : cnt l p (k + 1) = cnt l p k := by
  unfold cnt; rw [take_succ l k h, List.countP_append]; simp [e]
theorem cnt_all (l : List Int) (p : Int → Bool) (k : Nat) (h : l.length ≤ k) : cnt l p k = l.countP p := by
  unfold cnt; rw [List.take_of_length_le h]
theorem cnt_le (l : List Int) (p : Int → Bool) (k : Nat) : cnt l p k ≤ k := by
  unfold cnt; exact Nat.le_trans List.countP_le_length (List.length_take_le _ _)

def wonB (vs votes : List Int) : Bool := decide ((uniq vs).length < 2 * (uniq vs).countP (hasB votes))
def lacksN (a b : List Int) : Nat := (uniq a).countP (fun x => !hasB b x)
def nearB (a b : List Int) : Bool := decide (lacksN a b + lacksN b a ≤ 1)

theorem won_once (vs votes : List Int) (n : Nat) (h : n = (once vs).countP (hasB votes)) : decide (((once vs).length : Int) - (n : Int) < (n : Int)) = wonB vs votes := by
  subst h
  unfold wonB
  rw [(once_perm vs).length_eq, (once_perm vs).countP_eq]
  rw [decide_eq_decide]; omega

theorem uniq_nil : uniq [] = [] := by
  have h := uniq_len []
  exact List.length_eq_zero_iff.1 (by simpa using h)
theorem won_nil (votes : List Int) : wonB [] votes = false := by unfold wonB; rw [uniq_nil]; rfl
theorem once_nil {vs : List Int} (h : once vs = []) : vs = [] := by
  cases vs with
  | nil => rfl
  | cons a l => have := (mem_once (a :: l) a).2 (by simp); rw [h] at this; simp at this

theorem eqB_take_succ (xs ys : List Int) (k : Nat) (hx : k < xs.length) (hy : k < ys.length) : eqB (xs.take (k + 1)) (ys.take (k + 1)) = (eqB (xs.take k) (ys.take k) && (nth xs k == nth ys k)) := by
  unfold eqB
  rw [take_succ xs k hx, take_succ ys k hy, Bool.eq_iff_iff, Bool.and_eq_true, beq_iff_eq, beq_iff_eq, beq_iff_eq]
  constructor
  · intro h
    have := List.append_inj h (by simp; omega)
    exact ⟨this.1, by simpa using this.2⟩
  · rintro ⟨h1, h2⟩; rw [h1, h2]
theorem eqB_elem (xs ys : List Int) (k : Nat) (h : (nth xs k != nth ys k) = true) : eqB xs ys = false := by
  unfold eqB; rw [beq_eq_false_iff_ne]; intro e; subst e; simp at h
theorem eqB_len (xs ys : List Int) (h : xs.length ≠ ys.length) : eqB xs ys = false := by
  unfold eqB; rw [beq_eq_false_iff_ne]; intro e; subst e; exact h rfl

/-- who may vote -/
def okAt (l : List Int) (j : Nat) : Bool := decide (1 ≤ nth l j ∧ nth l j ≤ 5 ∧ (0 < j → nth l (j - 1) < nth l j))
def chkB (l : List Int) : Bool := decide (l ≠ [] ∧ l.Pairwise (· < ·) ∧ ∀ x ∈ l, 1 ≤ x ∧ x ≤ 5)
theorem chk_all (l : List Int) (h0 : l ≠ []) (h : ∀ j, j < l.length → okAt l j = true) : chkB l = true := by
  unfold chkB
  rw [decide_eq_true_eq]
  have h' : ∀ j (hj : j < l.length), 1 ≤ l[j] ∧ l[j] ≤ 5 ∧ ∀ h0 : 0 < j, l[j - 1] < l[j] := by
    intro j hj
    have := h j hj
    simp only [okAt, decide_eq_true_eq] at this
    rw [nth_get l j hj] at this
    refine ⟨this.1, this.2.1, fun h0 => ?_⟩
    have h3 := this.2.2 h0
    rw [nth_get l (j - 1) (by omega)] at h3
    exact h3
  refine ⟨h0, ?_, ?_⟩
  · rw [List.pairwise_iff_getElem]
    intro i j hi hj hij
    induction j with
    | zero => omega
    | succ j ih =>
      have h1 := (h' (j + 1) hj).2.2 (by omega)
      simp only [Nat.add_sub_cancel] at h1
      rcases Nat.lt_or_ge i j with h2 | h2
      · have := ih (by omega) h2; omega
      · have : i = j := by omega
        subst this; exact h1
  · intro x hx
    obtain ⟨j, hj, rfl⟩ := List.getElem_of_mem hx
    exact ⟨(h' j hj).1, (h' j hj).2.1⟩
theorem chk_not (l : List Int) (j : Nat) (hj : j < l.length) (h : okAt l j = false) : chkB l = false := by
  unfold chkB
  rw [decide_eq_false_iff_not]
  rintro ⟨h0, h1, h2⟩
  simp only [okAt, decide_eq_false_iff_not] at h
  apply h
  rw [nth_get l j hj]
  have h3 := h2 l[j] (List.getElem_mem hj)
  refine ⟨h3.1, h3.2, fun hp => ?_⟩
  rw [nth_get l (j - 1) (by omega)]
  exact List.pairwise_iff_getElem.1 h1 (j - 1) j (by omega) hj (by omega)
theorem chk_nil (l : List Int) (h : l = []) : chkB l = false := by subst h; rfl

theorem chk_iff (l : List Int) : chkB l = true ↔ l ≠ [] ∧ l.Pairwise (· < ·) ∧ ∀ x ∈ l, 1 ≤ x ∧ x ≤ 5 := by unfold chkB; rw [decide_eq_true_eq]
theorem uniq_of_lt {l : List Int} (h : l.Pairwise (· < ·)) : uniq l = l := lt_ext (uniq_lt l) h (mem_uniq l)
theorem eq_uniq_iff (l : List Int) : eqB l (uniq l) = true ↔ l.Pairwise (· < ·) := by
  unfold eqB; rw [beq_iff_eq]
  constructor
  · intro h; rw [h]; exact uniq_lt l
  · intro h; exact (uniq_of_lt h).symm
theorem chk_ne (l : List Int) (h : eqB l (uniq l) = false) : chkB l = false := by
  rw [Bool.eq_false_iff]; intro hc
  have := (eq_uniq_iff l).2 ((chk_iff l).1 hc).2.1
  rw [h] at this; cases this
theorem chk_low (l : List Int) (h0 : 0 < l.length) (h : ¬ 1 ≤ nth l 0) : chkB l = false := by
  rw [Bool.eq_false_iff]; intro hc
  have := ((chk_iff l).1 hc).2.2 (l[0]) (List.getElem_mem h0)
  rw [nth_get l 0 h0] at h; exact h this.1
theorem chk_high (l : List Int) (n : Nat) (h0 : n < l.length) (h : ¬ nth l n ≤ 5) : chkB l = false := by
  rw [Bool.eq_false_iff]; intro hc
  have := ((chk_iff l).1 hc).2.2 (l[n]) (List.getElem_mem h0)
  rw [nth_get l n h0] at h; exact h this.2
theorem lt_le_last (l : List Int) (hp : l.Pairwise (· < ·)) (i j : Nat) (hij : i ≤ j) (hj : j < l.length) : l[i] ≤ l[j] :=
  sorted_get l (hp.imp (fun h => by omega)) i j hij hj
theorem chk_yes (l : List Int) (n : Nat) (hn : l.length = n + 1) (he : eqB l (uniq l) = true) (h1 : 1 ≤ nth l 0) (h2 : nth l n ≤ 5) : chkB l = true := by
  have hp := (eq_uniq_iff l).1 he
  rw [nth_get l 0 (by omega)] at h1
  rw [nth_get l n (by omega)] at h2
  rw [chk_iff]
  refine ⟨by intro e; subst e; simp at hn, hp, fun x hx => ?_⟩
  obtain ⟨j, hj, rfl⟩ := List.getElem_of_mem hx
  have a := lt_le_last l hp 0 j (by omega) hj
  have b := lt_le_last l hp j n (by omega) (by omega)
  omega

theorem lacks_once (a b : List Int) (n : Nat) (h : n = (once a).countP (fun x => !hasB (once b) x)) : n = lacksN a b := by
  subst h; unfold lacksN
  rw [(once_perm a).countP_eq]
  congr 1; funext x
  rw [Bool.eq_iff_iff]; simp [hasB, mem_once]

/-- what a voter has -/
def hasAt (at' : List Int) (v : Int) : Int := if 1 ≤ v ∧ v ≤ at'.length then max 0 (nth at' (v.toNat - 1)) else 0
theorem hasAt_low (at' : List Int) (v : Int) (h : ¬ 1 ≤ v) : hasAt at' v = 0 := by unfold hasAt; rw [if_neg (by omega)]
theorem hasAt_high (at' : List Int) (v : Int) (h : ¬ v ≤ at'.length) : hasAt at' v = 0 := by unfold hasAt; rw [if_neg (by omega)]
theorem hasAt_in (at' : List Int) (v : Int) (h1 : 1 ≤ v) (h2 : v ≤ at'.length) : hasAt at' v = max 0 (nth at' (v.toNat - 1)) := by unfold hasAt; rw [if_pos ⟨h1, h2⟩]
def hases (at' l : List Int) (k : Nat) : List Int := (l.take k).map (hasAt at')
theorem hases_len (at' l : List Int) (k : Nat) (h : k ≤ l.length) : (hases at' l k).length = k := by simp [hases]; omega
theorem hases_succ (at' l : List Int) (k : Nat) (h : k < l.length) : hases at' l (k + 1) = hases at' l k ++ [hasAt at' (nth l k)] := by
  unfold hases; rw [take_succ l k h, List.map_append]; rfl
theorem hases_all (at' l : List Int) (k : Nat) (h : l.length ≤ k) : hases at' l k = l.map (hasAt at') := by
  unfold hases; rw [List.take_of_length_le h]

theorem near_once (a b : List Int) (n m : Nat) (h : n = (once a).countP (fun x => !hasB (once b) x)) (h' : m = (once b).countP (fun x => !hasB (once a) x)) : decide (((n : Int) + (m : Int)) < 2) = nearB a b := by
  rw [lacks_once a b n h, lacks_once b a m h']
  unfold nearB; rw [decide_eq_decide]; omega

/-- the document's Common -/
def okV (at' : List Int) (x v : Int) : Bool := decide (1 ≤ v ∧ v ≤ at'.length ∧ x ≤ nth at' (v.toNat - 1))
def majC (at' l : List Int) (x : Int) : Nat := l.countP (okV at' x)
def bestUp (at' l : List Int) : Nat → Int
  | 0 => 0
  | k + 1 => if (l.length : Int) - (majC at' l (nth at' k) : Int) < (majC at' l (nth at' k) : Int) ∧ bestUp at' l k < nth at' k then nth at' k else bestUp at' l k
def refCommonI (vs at' : List Int) : Int := bestUp at' (once vs) at'.length

/-- the document's Turn -/
def flip (vs : List Int) (s v : Int) : Bool := hasB vs v != (v == s)
def outUp (vs : List Int) (s : Int) : Nat → List Int
  | 0 => []
  | k + 1 => if flip vs s ((k : Int) + 1) then outUp vs s k ++ [(k : Int) + 1] else outUp vs s k
theorem outUp_yes (vs : List Int) (s : Int) (k : Nat) (h : flip vs s ((k : Int) + 1) = true) : outUp vs s (k + 1) = outUp vs s k ++ [(k : Int) + 1] := by simp [outUp, h]
theorem outUp_no (vs : List Int) (s : Int) (k : Nat) (h : flip vs s ((k : Int) + 1) = false) : outUp vs s (k + 1) = outUp vs s k := by simp [outUp, h]
theorem outUp_len (vs : List Int) (s : Int) : ∀ k, (outUp vs s k).length ≤ k
  | 0 => by simp [outUp]
  | k + 1 => by
    have := outUp_len vs s k
    unfold outUp; split
    · simp; omega
    · omega
theorem mem_outUp (vs : List Int) (s x : Int) : ∀ k : Nat, x ∈ outUp vs s k ↔ 1 ≤ x ∧ x ≤ k ∧ flip vs s x = true
  | 0 => by simp [outUp]; omega
  | k + 1 => by
    have ih := mem_outUp vs s x k
    cases he : flip vs s ((k : Int) + 1) with
    | true =>
      rw [outUp_yes vs s k he, List.mem_append, List.mem_singleton, ih]
      constructor
      · rintro (⟨h1, h2, h3⟩ | rfl)
        · exact ⟨h1, by omega, h3⟩
        · exact ⟨by omega, by omega, he⟩
      · rintro ⟨h1, h2, h3⟩
        by_cases hx : x = (k : Int) + 1
        · exact .inr hx
        · exact .inl ⟨h1, by omega, h3⟩
    | false =>
      rw [outUp_no vs s k he, ih]
      constructor
      · rintro ⟨h1, h2, h3⟩; exact ⟨h1, by omega, h3⟩
      · rintro ⟨h1, h2, h3⟩
        refine ⟨h1, ?_, h3⟩
        by_cases hx : x = (k : Int) + 1
        · rw [hx, he] at h3; cases h3
        · omega
theorem outUp_lt (vs : List Int) (s : Int) : ∀ k : Nat, (outUp vs s k).Pairwise (· < ·)
  | 0 => by simp [outUp]
  | k + 1 => by
    have ih := outUp_lt vs s k
    cases he : flip vs s ((k : Int) + 1) with
    | true =>
      rw [outUp_yes vs s k he, List.pairwise_append]
      refine ⟨ih, by simp, fun a ha b hb => ?_⟩
      have := (mem_outUp vs s a k).1 ha
      simp at hb; subst hb; omega
    | false => rw [outUp_no vs s k he]; exact ih

theorem flip_ne (vs : List Int) (s x : Int) (h : x ≠ s) : flip vs s x = hasB vs x := by
  have e : (x == s) = false := by simpa using h
  simp [flip, e]

theorem rank_split (s : Int) : ∀ l : List Int, l.Pairwise (· < ·) → l.take (rankN l s) = l.filter (· < s) ∧ l.drop (rankN l s) = l.filter (fun x => !decide (x < s))
  | [], _ => by simp [rankN]
  | a :: l, h => by
    rw [List.pairwise_cons] at h
    obtain ⟨h1, h2⟩ := rank_split s l h.2
    unfold rankN at *
    by_cases ha : a < s
    · simp [ha, h1, h2]
    · have h0 : l.countP (· < s) = 0 := by
        rw [List.countP_eq_zero]; intro x hx; have := h.1 x hx; simp; omega
      have h3 : l.filter (· < s) = [] := by
        rw [List.filter_eq_nil_iff]; intro x hx; have := h.1 x hx; simp; omega
      have h4 : l.filter (fun x => !decide (x < s)) = l := by
        rw [List.filter_eq_self]; intro x hx; have := h.1 x hx; simp; omega
      simp [ha, h0, h3, h4]

theorem ins_sorted (l : List Int) (s : Int) (hl : l.Pairwise (· < ·)) (hs : hasB l s = false) :
    (l.take (rankN l s) ++ s :: l.drop (rankN l s)).Pairwise (· < ·) ∧ ∀ x, x ∈ l.take (rankN l s) ++ s :: l.drop (rankN l s) ↔ (x ∈ l ∨ x = s) := by
  obtain ⟨h1, h2⟩ := rank_split s l hl
  have hns := (hasB_false l s).1 hs
  constructor
  · rw [List.pairwise_append, List.pairwise_cons]
    have hd : ∀ x ∈ l.drop (rankN l s), s < x := by
      intro x hx
      rw [h2, List.mem_filter] at hx
      have : x ≠ s := fun e => hns (e ▸ hx.1)
      have := hx.2; simp at this; omega
    refine ⟨hl.sublist (List.take_sublist _ _), ⟨hd, hl.sublist (List.drop_sublist _ _)⟩, fun a ha b hb => ?_⟩
    rw [h1, List.mem_filter] at ha
    have ha2 := ha.2; simp at ha2
    rcases List.mem_cons.1 hb with rfl | hb
    · exact ha2
    · have := hd b hb; omega
  · intro x
    rw [List.mem_append, List.mem_cons, h1, h2, List.mem_filter, List.mem_filter]
    constructor
    · rintro (⟨h, _⟩ | rfl | ⟨h, _⟩)
      · exact .inl h
      · exact .inr rfl
      · exact .inl h
    · rintro (h | h)
      · by_cases hx : x < s
        · exact .inl ⟨h, by simpa using hx⟩
        · exact .inr (.inr ⟨h, by simpa using hx⟩)
      · exact .inr (.inl h)

theorem del_sorted (l : List Int) (s : Int) (hl : l.Pairwise (· < ·)) (hs : hasB l s = true) :
    rankN l s < l.length ∧ (l.take (rankN l s) ++ l.drop (rankN l s + 1)).Pairwise (· < ·) ∧ ∀ x, x ∈ l.take (rankN l s) ++ l.drop (rankN l s + 1) ↔ (x ∈ l ∧ x ≠ s) := by
  obtain ⟨h1, h2⟩ := rank_split s l hl
  have hms := (hasB_iff l s).1 hs
  have hmd : s ∈ l.drop (rankN l s) := by rw [h2, List.mem_filter]; exact ⟨hms, by simp⟩
  have hlt : rankN l s < l.length := by
    rcases Nat.lt_or_ge (rankN l s) l.length with h | h
    · exact h
    · rw [List.drop_eq_nil_of_le h] at hmd; simp at hmd
  have hdp : (l.drop (rankN l s)).Pairwise (· < ·) := hl.sublist (List.drop_sublist _ _)
  have hds : l.drop (rankN l s) = l[rankN l s] :: l.drop (rankN l s + 1) := List.drop_eq_getElem_cons hlt
  have hge : ∀ x ∈ l.drop (rankN l s), s ≤ x := by
    intro x hx; rw [h2, List.mem_filter] at hx; have := hx.2; simp at this; omega
  have hhd : l[rankN l s] = s := by
    rw [hds] at hdp hmd hge
    rw [List.pairwise_cons] at hdp
    have h3 := hge l[rankN l s] List.mem_cons_self
    rcases List.mem_cons.1 hmd with h | h
    · exact h.symm
    · have := hdp.1 s h; omega
  have hgt : ∀ x ∈ l.drop (rankN l s + 1), s < x := by
    intro x hx
    rw [hds, List.pairwise_cons, hhd] at hdp
    exact hdp.1 x hx
  refine ⟨hlt, ?_, fun x => ?_⟩
  · rw [List.pairwise_append]
    refine ⟨hl.sublist (List.take_sublist _ _), hl.sublist (List.drop_sublist _ _), fun a ha b hb => ?_⟩
    rw [h1, List.mem_filter] at ha
    have ha2 := ha.2; simp at ha2
    have := hgt b hb; omega
  · rw [List.mem_append]
    constructor
    · rintro (h | h)
      · have hx := h; rw [h1, List.mem_filter] at hx
        have := hx.2; simp at this
        exact ⟨hx.1, by omega⟩
      · exact ⟨List.mem_of_mem_drop h, by have := hgt x h; omega⟩
    · rintro ⟨h, hne⟩
      have : x ∈ l.take (rankN l s) ++ l.drop (rankN l s) := by rw [List.take_append_drop]; exact h
      rcases List.mem_append.1 this with h | h
      · exact .inl h
      · rw [hds, List.mem_cons, hhd] at h
        rcases h with h | h
        · exact absurd h hne
        · exact .inr h

def turnOk (vs : List Int) (s : Int) : Bool := chkB vs && decide (1 ≤ s) && decide (s ≤ 5)
def turnL (vs : List Int) (s : Int) : List Int := if turnOk vs s then outUp vs s 5 else []
def turnE (vs : List Int) (s : Int) : Int := if turnOk vs s then (if (outUp vs s 5).length = 0 then 50 else 0) else 1
theorem turnL_no (vs : List Int) (s : Int) (h : turnOk vs s = false) : turnL vs s = [] := by simp [turnL, h]
theorem turnE_no (vs : List Int) (s : Int) (h : turnOk vs s = false) : turnE vs s = 1 := by simp [turnE, h]
theorem turnL_yes (vs : List Int) (s : Int) (h : turnOk vs s = true) : turnL vs s = outUp vs s 5 := by simp [turnL, h]
theorem turnE_yes (vs : List Int) (s : Int) (h : turnOk vs s = true) : turnE vs s = if (outUp vs s 5).length = 0 then 50 else 0 := by simp [turnE, h]
theorem turnOk_iff (vs : List Int) (s : Int) : turnOk vs s = true ↔ chkB vs = true ∧ 1 ≤ s ∧ s ≤ 5 := by simp [turnOk, and_assoc]

theorem turn_ins (vs : List Int) (s : Int) (h : turnOk vs s = true) (hs : hasB vs s = false) : vs.take (rankN vs s) ++ s :: vs.drop (rankN vs s) = turnL vs s := by
  obtain ⟨hc, h1, h5⟩ := (turnOk_iff vs s).1 h
  obtain ⟨_, hp, hr⟩ := (chk_iff vs).1 hc
  obtain ⟨hi1, hi2⟩ := ins_sorted vs s hp hs
  rw [turnL_yes vs s h]
  refine lt_ext hi1 (outUp_lt vs s 5) (fun x => ?_)
  rw [hi2, mem_outUp]
  have hns := (hasB_false vs s).1 hs
  constructor
  · rintro (hx | rfl)
    · have := hr x hx
      refine ⟨this.1, this.2, ?_⟩
      have hne : x ≠ s := fun e => hns (e ▸ hx)
      rw [flip_ne vs s x hne]; exact (hasB_iff vs x).2 hx
    · exact ⟨h1, h5, by simp [flip, hs]⟩
  · rintro ⟨_, _, hf⟩
    by_cases e : x = s
    · exact .inr e
    · left; rw [← hasB_iff, ← flip_ne vs s x e]; exact hf

theorem turn_del (vs : List Int) (s : Int) (h : turnOk vs s = true) (hs : hasB vs s = true) : rankN vs s < vs.length ∧ vs.take (rankN vs s) ++ vs.drop (rankN vs s + 1) = turnL vs s := by
  obtain ⟨hc, h1, h5⟩ := (turnOk_iff vs s).1 h
  obtain ⟨_, hp, hr⟩ := (chk_iff vs).1 hc
  obtain ⟨hlt, hi1, hi2⟩ := del_sorted vs s hp hs
  refine ⟨hlt, ?_⟩
  rw [turnL_yes vs s h]
  refine lt_ext hi1 (outUp_lt vs s 5) (fun x => ?_)
  rw [hi2, mem_outUp]
  constructor
  · rintro ⟨hx, hne⟩
    have := hr x hx
    exact ⟨this.1, this.2, by rw [flip_ne vs s x hne]; exact (hasB_iff vs x).2 hx⟩
  · rintro ⟨_, _, hf⟩
    by_cases e : x = s
    · rw [e] at hf; simp [flip, hs] at hf
    · exact ⟨by rw [← hasB_iff, ← flip_ne vs s x e]; exact hf, e⟩

theorem turn_len_ins (vs : List Int) (s : Int) (h : turnOk vs s = true) (hs : hasB vs s = false) : (turnL vs s).length = vs.length + 1 ∧ turnE vs s = 0 := by
  have e := turn_ins vs s h hs
  have hl : (turnL vs s).length = vs.length + 1 := by
    have hr : rankN vs s ≤ vs.length := List.countP_le_length
    rw [← e]; simp; omega
  refine ⟨hl, ?_⟩
  rw [turnE_yes vs s h]
  rw [turnL_yes vs s h] at hl
  rw [if_neg (by omega)]
theorem turn_len_del (vs : List Int) (s : Int) (h : turnOk vs s = true) (hs : hasB vs s = true) : (turnL vs s).length = vs.length - 1 ∧ turnE vs s = if vs.length = 1 then 50 else 0 := by
  obtain ⟨hlt, e⟩ := turn_del vs s h hs
  have hl : (turnL vs s).length = vs.length - 1 := by
    rw [← e]; simp; omega
  refine ⟨hl, ?_⟩
  rw [turnE_yes vs s h]
  rw [turnL_yes vs s h] at hl
  have h0 : 0 < vs.length := by omega
  by_cases h1 : vs.length = 1
  · rw [if_pos h1, if_pos (by omega)]
  · rw [if_neg h1, if_neg (by omega)]

end Go.Proofs.Ytochcilkpjhmiaa
