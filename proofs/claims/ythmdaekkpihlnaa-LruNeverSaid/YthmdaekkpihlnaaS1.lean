/- LruNever: what is remembered, plainly. -/
import Derived.Test.YthmdaekkpihlnaaR9
namespace Go.Proofs.Ythmdaekkpihlnaa
open Go.RowKit
set_option linter.unusedVariables false

/-- the entry that stands for none -/
def noEnt : Ent := ⟨⟨#[]⟩, ⟨#[]⟩, -4611686018427387904, -1⟩

/-- what is on the shelf was put last of its key -/
structure Kin (E Y : Int) (K : List ByteArray) (T : List Ent) (L : List Ent) : Prop where
  len : T.length = K.length
  nd : K.Nodup
  inv : ∀ e ∈ L, ∃ j : Nat, K[j]? = some e.key ∧ T[j]? = some e
  few : (L.length : Int) ≤ E
  fit : (pbytes L : Int) ≤ Y

theorem pbytes_filter (f : Ent → Bool) : ∀ L : List Ent, pbytes (L.filter f) ≤ pbytes L
  | [] => Nat.le_refl _
  | x :: r => by
    have ih := pbytes_filter f r
    have e : pbytes (x :: r) = (x.key.size + x.val.size) + pbytes r := by simp [pbytes]
    by_cases h : f x = true
    · have e2 : pbytes (x :: r.filter f) = (x.key.size + x.val.size) + pbytes (r.filter f) := by simp [pbytes]
      rw [List.filter_cons_of_pos h, e, e2]; omega
    · rw [List.filter_cons_of_neg (by simpa using h), e]; omega

theorem pbytes_drop_some {L : List Ent} {k : ByteArray} {e : Ent} (h : pfind L k = some e) : pbytes (pdrop L k) + (e.key.size + e.val.size) ≤ pbytes L := by
  induction L with
  | nil => simp [pfind] at h
  | cons x r ih =>
    have ex : pbytes (x :: r) = (x.key.size + x.val.size) + pbytes r := by simp [pbytes]
    by_cases hx : x.key = k
    · have : pfind (x :: r) k = some x := by unfold pfind; exact List.find?_cons_of_pos (by simp [hx])
      rw [this] at h
      injection h with h
      subst h
      have hd : pdrop (x :: r) k = pdrop r k := by unfold pdrop; exact List.filter_cons_of_neg (by simp [hx])
      rw [hd, ex]
      have := pbytes_filter (fun e => !decide (e.key = k)) r
      show pbytes (r.filter _) + _ ≤ _
      omega
    · have : pfind (x :: r) k = pfind r k := by unfold pfind; exact List.find?_cons_of_neg (by simp [hx])
      rw [this] at h
      have ih := ih h
      have hd : pdrop (x :: r) k = x :: pdrop r k := by unfold pdrop; exact List.filter_cons_of_pos (by simp [hx])
      have e2 : pbytes (x :: pdrop r k) = (x.key.size + x.val.size) + pbytes (pdrop r k) := by simp [pbytes]
      rw [hd, ex, e2]; omega

theorem pevict_ok {E Y : Int} (hE : 0 ≤ E) (hY : 0 ≤ Y) : ∀ L : List Ent, ((pevict E Y L).length : Int) ≤ E ∧ (pbytes (pevict E Y L) : Int) ≤ Y
  | [] => ⟨by simpa [pevict] using hE, by simpa [pevict, pbytes] using hY⟩
  | x :: r => by
    unfold pevict
    split
    · exact pevict_ok hE hY r
    · rename_i h
      simp only [pover, Bool.or_eq_true, decide_eq_true_eq, not_or] at h
      omega

section
variable {E Y : Int} {K : List ByteArray} {T : List Ent} {L : List Ent}

theorem Kin.sub (h : Kin E Y K T L) {L' : List Ent} (hs : ∀ e ∈ L', e ∈ L) (hl : L'.length ≤ L.length) (hb : pbytes L' ≤ pbytes L) : Kin E Y K T L' :=
  ⟨h.len, h.nd, fun e he => h.inv e (hs e he), by have := h.few; omega, by have := h.fit; omega⟩
theorem Kin.drop (h : Kin E Y K T L) (k : ByteArray) : Kin E Y K T (pdrop L k) := h.sub (fun e he => (List.mem_filter.1 he).1) (pdrop_le _ _) (pbytes_filter _ _)
theorem Kin.live (h : Kin E Y K T L) (now : Int) : Kin E Y K T (plive now L) := h.sub (fun e he => (List.mem_filter.1 he).1) (plive_le _ _) (pbytes_filter _ _)
theorem Kin.got (h : Kin E Y K T L) (k : ByteArray) (now : Int) : Kin E Y K T (pgot L k now) := by
  refine h.sub ?_ (pgot_len _ _ _) ?_
  · intro e he
    unfold pgot at he
    split at he
    · exact he
    · rename_i x hx
      split at he
      · rcases List.mem_append.1 he with h | h
        · exact (List.mem_filter.1 h).1
        · simp at h; subst h; exact List.mem_of_find?_eq_some hx
      · exact (List.mem_filter.1 he).1
  · unfold pgot
    split
    · exact Nat.le_refl _
    · rename_i x hx
      have := pbytes_drop_some hx
      split
      · rw [pbytes_append]; simp [pbytes] at *; omega
      · omega

/-- a key more -/
theorem Kin.more (h : Kin E Y K T L) {k : ByteArray} (hk : k ∉ K) (x : Ent) : Kin E Y (K ++ [k]) (T ++ [x]) L := by
  refine ⟨by simp [h.len], ?_, fun e he => ?_, h.few, h.fit⟩
  · rw [List.nodup_append]
    refine ⟨h.nd, by simp, fun a ha b hb => ?_⟩
    simp at hb; subst hb
    rintro rfl; exact hk ha
  · obtain ⟨j, h1, h2⟩ := h.inv e he
    have hj : j < K.length := (List.getElem?_eq_some_iff.1 h1).1
    refine ⟨j, by rw [List.getElem?_append_left hj]; exact h1, by rw [List.getElem?_append_left (by rw [h.len]; exact hj)]; exact h2⟩

/-- the place of a key that is not on the shelf is written anew -/
theorem Kin.set (h : Kin E Y K T L) {j : Nat} {k : ByteArray} (hj : K[j]? = some k) (x : Ent) (hL : ∀ e ∈ L, ¬ e.key = k) : Kin E Y K (T.set j x) L := by
  refine ⟨by simp [h.len], h.nd, fun e he => ?_, h.few, h.fit⟩
  obtain ⟨i, h1, h2⟩ := h.inv e he
  refine ⟨i, h1, ?_⟩
  have : ¬ j = i := by
    rintro rfl
    rw [hj] at h1
    injection h1 with h1
    exact hL e he h1.symm
  rw [List.getElem?_set_ne this]; exact h2

theorem drop_not {k : ByteArray} : ∀ e ∈ pdrop L k, ¬ e.key = k := by
  intro e he
  have := (List.mem_filter.1 he).2
  simpa using this

theorem Kin.put (h : Kin E Y K T L) (hE : 0 ≤ E) (hY : 0 ≤ Y) {j : Nat} (x : Ent) (hj : K[j]? = some x.key) (hf : pfits E Y x = true) : Kin E Y K (T.set j x) (pput E Y L x) := by
  have hd := (h.drop x.key).set hj x drop_not
  have hjT : j < T.length := by rw [h.len]; exact (List.getElem?_eq_some_iff.1 hj).1
  have hok := pevict_ok hE hY (pdrop L x.key ++ [x])
  have e : pput E Y L x = pevict E Y (pdrop L x.key ++ [x]) := by unfold pput; rw [hf]; rfl
  rw [e]
  refine ⟨hd.len, hd.nd, fun y hy => ?_, hok.1, hok.2⟩
  obtain ⟨p, hp⟩ := pevict_suffix E Y (pdrop L x.key ++ [x])
  have hy' : y ∈ pdrop L x.key ++ [x] := by rw [hp]; exact List.mem_append_right _ hy
  rcases List.mem_append.1 hy' with hy' | hy'
  · exact hd.inv y hy'
  · simp at hy'; subst hy'
    exact ⟨j, hj, by rw [List.getElem?_set_self hjT]⟩
theorem Kin.noput (h : Kin E Y K T L) {j : Nat} (x z : Ent) (hj : K[j]? = some x.key) (hf : pfits E Y x = false) : Kin E Y K ((T.set j x).set j z) (pput E Y L x) := by
  have e : pput E Y L x = pdrop L x.key := by unfold pput; rw [hf]; rfl
  rw [e]
  exact ((h.drop x.key).set hj x drop_not).set hj z drop_not

theorem Kin.at_ (h : Kin E Y K T L) {j : Nat} {k : ByteArray} {e : Ent} (hj : K[j]? = some k) (he : pfind L k = some e) : T[j]? = some e := by
  have hm := List.mem_of_find?_eq_some he
  have hk : e.key = k := by have := List.find?_some he; simpa using this
  obtain ⟨i, h1, h2⟩ := h.inv e hm
  rw [hk] at h1
  have hiK := (List.getElem?_eq_some_iff.1 h1).1
  have : i = j := (List.getElem?_inj hiK h.nd).1 (by rw [h1, hj])
  subst this
  exact h2
end

end Go.Proofs.Ythmdaekkpihlnaa
