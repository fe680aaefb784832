/- LinearKeyByKey (8): the walk. -/
import Derived.Test.YtajbagdgjbihjaaM3
import Derived.Test.YtajbagdgjbihjaaF2
namespace Go.Proofs.Ytajbagdgjbihjaa
open Go.RowKit Go.Maps Go.Sort
set_option linter.unusedVariables false

def bk (k : Str) : ByteArray := ⟨k.toArray⟩
theorem bk_inj {a b : Str} (h : bk a = bk b) : a = b := by
  unfold bk at h
  injection h with h
  have := congrArg Array.toList h
  simpa using this
theorem bk_key (e : Ev) : bk e.k = e.key := rfl
def keysOf (l : List Ev) : List ByteArray := (insAll (calls l)).map bk
theorem keysOf_mem {l : List Ev} : ∀ e ∈ l, e.back = false → e.key ∈ keysOf l := fun e he hb => by
  refine List.mem_map.2 ⟨e.k, (insAll_mem _ _).2 ?_, bk_key e⟩
  exact List.mem_map.2 ⟨e, List.mem_filter.2 ⟨he, by rw [hb]; rfl⟩, rfl⟩
theorem keysOf_nodup (l : List Ev) : (keysOf l).Nodup := (List.pairwise_map.2 ((insAll_nodup _).imp fun {a b} h e => h (bk_inj e)))
theorem check_codes (l : List Ev) : (checkOf l).2 = 4 ∨ (checkOf l).2 = 3 ∨ (checkOf l).2 = 0 := by
  unfold checkOf
  split
  · exact .inl rfl
  · split
    · exact .inr (.inl rfl)
    · exact .inr (.inr rfl)
theorem check_form {l : List Ev} (h : (checkOf l).2 = 4) : (checkOf l).1 = false := by
  unfold checkOf at h ⊢
  split
  · rfl
  · next ho =>
    rw [ho] at h
    simp only at h
    split at h
    · exact absurd (show (3 : Int) = 4 from h) (by decide)
    · exact absurd (show (0 : Int) = 4 from h) (by decide)
theorem check_runs {l : List Ev} (h : (checkOf l).2 ≠ 4) : ∃ all, opRun [] 0 l = some all := by
  unfold checkOf opsOf at h
  cases hr : opRun [] 0 l with
  | none => rw [hr] at h; exact absurd rfl h
  | some all => exact ⟨all, rfl⟩
theorem part_code {l : List Ev} {all : List Opn} (hr : opRun [] 0 l = some all) (key : ByteArray) : (checkOf (ofl key l)).2 = 3 ∨ (checkOf (ofl key l)).2 = 0 := by
  rw [check_part hr rfl]
  split
  · exact .inl rfl
  · exact .inr rfl
/-- what the law's loop knows -/
def sumTo (l : List Ev) (ks : List Str) (j : Nat) : Nat := ((ks.take j).map fun k => (ofl (bk k) l).length).sum
def allTo (l : List Ev) (ks : List Str) (j : Nat) : Bool := (ks.take j).all fun k => (checkOf (ofl (bk k) l)).1
def fullTo (l : List Ev) (ks : List Str) (j : Nat) : Bool := (ks.take j).any fun k => decide ((checkOf (ofl (bk k) l)).2 = 3)
section
variable {l : List Ev} {ks : List Str} {j : Nat} {k : Str}
theorem tk_next (h : ks[j]? = some k) : ks.take (j + 1) = ks.take j ++ [k] := by
  rw [List.take_add_one, h]; rfl
theorem sumTo_next (h : ks[j]? = some k) : sumTo l ks (j + 1) = sumTo l ks j + (ofl (bk k) l).length := by
  unfold sumTo
  rw [tk_next h, List.map_append, List.sum_append]
  simp
theorem allTo_next (h : ks[j]? = some k) : allTo l ks (j + 1) = (allTo l ks j && (checkOf (ofl (bk k) l)).1) := by
  unfold allTo
  rw [tk_next h, List.all_append]
  simp
theorem fullTo_next (h : ks[j]? = some k) : fullTo l ks (j + 1) = (fullTo l ks j || decide ((checkOf (ofl (bk k) l)).2 = 3)) := by
  unfold fullTo
  rw [tk_next h, List.any_append]
  simp
end
/-- the answer at the end -/
theorem kbk_end {l : List Ev} {all : List Opn} (hr : opRun [] 0 l = some all) {m : Nat} (hm : m = (insAll (calls l)).length) :
    sumTo l (insAll (calls l)) m = l.length ∧ checkOf l = if fullTo l (insAll (calls l)) m then (false, 3) else (allTo l (insAll (calls l)) m, 0) := by
  subst hm
  unfold sumTo allTo fullTo
  rw [List.take_length]
  have h1 := sum_len (keysOf_nodup l) keysOf_mem hr
  have h2 := key_by_key (keys := keysOf l) (l := all.filterMap Opn.fix) keysOf_mem hr rfl
  unfold keysOf at h1 h2
  rw [List.map_map] at h1
  rw [List.any_map, List.all_map] at h2
  exact ⟨h1, h2⟩
/-- the state -/
structure KB (w wr : World) (vh va : Value) (l : List Ev) (ks : List Str) : Prop where
  only : Only None' w wr
  h : ER wr vh l
  a : Vec wr 1 va ks.length (ks.map encStr)
theorem KB.new_ {w wr w1 : World} {vh va : Value} {l : List Ev} {ks : List Str} (h : KB w wr vh va l ks) (o : Only None' wr w1) : KB w w1 vh va l ks :=
  ⟨h.only.trans o, h.h.only o fun _ _ e => e, h.a.only o fun _ _ e => e⟩
theorem KB.at_ {w wr : World} {vh : Value} {a : Option Addr} {n c : Nat} {l : List Ev} {ks : List Str} (h : KB w wr vh (.slice a n c) l ks) {j : Nat} {k : Str} (hk : ks[j]? = some k) : ∃ g off, a = some ⟨g, off, none⟩ ∧ wr.cell? ⟨g, off + j, none⟩ = some (encStr k) := by
  have hj := (List.getElem?_eq_some_iff.1 hk).1
  obtain ⟨g, off, c', e, h0, _, _, h4, h5⟩ := h.a.at_ (by omega)
  injection e with e
  exact ⟨g, off, e, h4 j _ (by rw [List.getElem?_map, hk]; rfl)⟩
theorem KB.of {w wr : World} {vh va : Value} {l : List Ev} {ks : List Str} (h : KB w wr vh va l ks) (hl : l.length ≤ 150) (hw : ∀ e ∈ l, Wf e.client ∧ Wf e.id) (k : Str) : Calls Try.prog 21 #[vh, encStr k] wr fun e w' => ∃ a c, e = .returned (.slice a (ofl (bk k) l).length c) ∧ ER w' (.slice a (ofl (bk k) l).length c) (ofl (bk k) l) ∧ KB w w' vh va l ks :=
  (of_any h.h hl hw (bk k)).mono fun e w' ⟨v, e1, h1, _, o⟩ => by
    obtain ⟨a, c, rfl, _, _⟩ := h1.shape
    exact ⟨a, c, e1, er_of_vec h1, h.new_ o⟩
theorem ofl_sub (key : ByteArray) (l : List Ev) : ∀ e ∈ ofl key l, e ∈ l := by
  unfold ofl
  have : ∀ (r h : List Ev), ∀ e ∈ picked Ev.who Ev.back (Ev.hit key) h r, e ∈ r := by
    intro r
    induction r with
    | nil => intro h e he; simp [picked] at he
    | cons x r ih =>
      intro h e he
      unfold picked at he
      rcases List.mem_append.1 he with he | he
      · split at he
        · rw [List.mem_singleton] at he
          exact he ▸ List.mem_cons_self
        · cases he
      · exact List.mem_cons_of_mem _ (ih _ e he)
  exact this l []
theorem ofl_few (key : ByteArray) (l : List Ev) : (ofl key l).length ≤ l.length := by
  have := ofl_len (key := key) (l := l) l.length (Nat.le_refl _)
  rw [List.take_length] at this
  exact this
theorem sumTo_le (l : List Ev) (ks : List Str) : ∀ j, sumTo l ks j ≤ j * l.length
  | 0 => by simp [sumTo]
  | j + 1 => by
    cases h : ks[j]? with
    | none =>
      have : ks.take (j + 1) = ks.take j := by rw [List.take_add_one, h]; simp
      unfold sumTo
      rw [this]
      exact Nat.le_trans (sumTo_le l ks j) (Nat.mul_le_mul_right _ (by omega))
    | some k =>
      rw [sumTo_next h, Nat.succ_mul]
      exact Nat.add_le_add (sumTo_le l ks j) (ofl_few _ l)
theorem add_int {a b : Nat} (h : a + b ≤ 1000000) : Value.int .i64 (wrap64 ((a : Int) + (b : Int))) = .int .i64 ((a + b : Nat) : Int) := by
  rw [IntWalk.wrap64_in _ (by omega)]; rfl
set_option maxRecDepth 20000 in
set_option maxHeartbeats 2000000 in
theorem kbk_walk (a : Option Addr) (len k : Nat) (l : List Ev) (w : World) (h : ER w (.slice a len k) l) (hw : ∀ e ∈ l, (Wf e.client ∧ Wf e.id) ∧ e.key.size ≤ maxLen) : Calls Try.prog 8 #[.slice a len k] w fun e w' => e = .returned (.bool true) ∧ Below w.heap.size w w' := by
  obtain rfl : len = l.length := by
    rcases h.form with ⟨e, rfl⟩ | ⟨g, off, cap, e, _⟩
    · injection e with _ e _
    · injection e with _ e _
  have H := Lib.hid h
  have HW := Lib.hid hw
  obtain ⟨n, hn⟩ : ∃ n, n = l.length := ⟨_, rfl⟩
  have HN := Lib.hid hn
  rw [← hn] at H ⊢
  clear h hw hn
  by_cases hbig : 100 < n
  · have d1 : decide ((100 : Int) < (n : Int)) = true := by rw [decide_eq_true_eq]; omega
    have d2 : decide (100 < n) = true := by rw [decide_eq_true_eq]; omega
    have i1 : (100 : Int) < (n : Int) := by omega
    go_enter Try.func8, Try.ntmps8
    go_wp2_with fail
    refine (works_any _).mono ?_
    rintro e w1 ⟨rfl, o1⟩
    go_wp2_with fail
    refine (works_any _).mono ?_
    rintro e w2 ⟨rfl, o2⟩
    go_wp2_with fail
    go_ret
    exact ⟨rfl, (o1.trans o2).below (Nat.le_refl _) fun k e => e.elim⟩
  have d1 : decide ((100 : Int) < (n : Int)) = false := by rw [decide_eq_false_iff_not]; omega
  have d2 : decide (100 < n) = false := by rw [decide_eq_false_iff_not]; omega
  have HB : Hid (n ≤ 100) := Lib.hid (by omega)
  have HL : Hid (l.length ≤ 100) := Lib.hid (by rw [← HN.out]; exact HB.out)
  clear hbig
  obtain ⟨cb, hcb⟩ : ∃ cb, (checkOf l).1 = cb := ⟨_, rfl⟩
  obtain ⟨cc, hcc⟩ : ∃ cc, (checkOf l).2 = cc := ⟨_, rfl⟩
  have HC := Lib.hid (And.intro hcb hcc)
  have HCK : Hid (∀ w', Only None' w w' → Calls Try.prog 10 #[.slice a n k] w' fun e w'' => e = .returned (.tuple #[.bool cb, .int .i64 cc]) ∧ Only None' w' w'') := Lib.hid fun w' o => by
    rw [← hcb, ← hcc]
    exact check_any (H.out.only o fun _ _ e => e) (Nat.le_trans HL.out (by decide)) fun e he => ⟨(HW.out e he).1.1, (HW.out e he).1.2, (HW.out e he).2⟩
  go_enter Try.func8, Try.ntmps8
  go_wp2_with fail
  refine (works_any _).mono ?_
  rintro e w1 ⟨rfl, o1⟩
  have O1 := Lib.hid o1
  clear o1 hcb hcc
  go_wp2_with fail
  refine (HCK.out _ O1.out).mono ?_
  rintro e w2 ⟨rfl, o2⟩
  have O2 := Lib.hid (O1.out.trans o2)
  clear O1 o2 HCK
  by_cases h4 : cc = 4
  · obtain rfl := h4
    obtain rfl : cb = false := HC.out.1.symm.trans (check_form HC.out.2)
    go_wp2_with fail
    go_ret
    exact ⟨rfl, O2.out.below (Nat.le_refl _) fun k e => e.elim⟩
  have e4 : (cc == 4) = false := by simpa using h4
  have HR := Lib.hid (check_runs (l := l) (by rw [HC.out.2]; exact h4))
  have h3 : cc = 3 ∨ cc = 0 := by
    have := check_codes l
    rw [HC.out.2] at this
    omega
  have H3 := Lib.hid h3
  clear h4 h3
  go_wp2_with fail
  refine (lkeys_any (H.out.only O2.out fun _ _ e => e) (Nat.le_trans HL.out (by decide)) fun e he => (HW.out e he).2).mono ?_
  rintro e w3 ⟨va, rfl, hva, hna, o3⟩
  obtain ⟨ks, hks⟩ : ∃ ks, ks = insAll (calls l) := ⟨_, rfl⟩
  rw [← hks] at hva
  have HKS := Lib.hid hks
  obtain ⟨aa, ac, rfl, _, _⟩ := hva.shape
  obtain ⟨m, hm⟩ : ∃ m, m = ks.length := ⟨_, rfl⟩
  have HM := Lib.hid hm
  have HKB : Hid (KB w w3 (.slice a n k) (.slice aa m ac) l ks) := Lib.hid ⟨O2.out.trans o3, H.out.only (O2.out.trans o3) fun _ _ e => e, by rw [hm]; exact hva⟩
  have HM100 : Hid (m ≤ 100) := Lib.hid (by
    rw [hm, hks]
    have h1 := (insAll_len (calls l))
    have h2 : (calls l).length ≤ l.length := by unfold calls; rw [List.length_map]; exact List.length_filter_le _ _
    have := HL.out
    omega)
  rw [← hm]
  clear hva hna o3 hm hks e4
  go_wp2_with fail
  rename World => w3
  go_loopw [6, 7, 8, 9] (fun u6 u7 u8 u9 wr => ∃ j : Nat, j ≤ m ∧ u9 = .int .i64 (j : Int) ∧ u6 = .bool (allTo l ks j) ∧ u7 = .bool (fullTo l ks j) ∧ u8 = .int .i64 (sumTo l ks j : Int) ∧ Hid (KB w wr (.slice a n k) (.slice aa m ac) l ks)) (fun u6 u7 u8 u9 wr => m - (intOf u9).toNat)
  case atStart => exact ⟨0, by omega, rfl, rfl, rfl, rfl, HKB⟩
  case round =>
    clear HKB
    obtain ⟨j, hj, rfl, rfl, rfl, rfl, HJ⟩ := hrel
    by_cases hlt : j < m
    · have hjl : j < ks.length := by have := HM.out; omega
      obtain ⟨K, hK⟩ : ∃ K, ks[j]? = some K := ⟨_, List.getElem?_eq_getElem hjl⟩
      obtain ⟨ga, oa, e, hcell⟩ := HJ.out.at_ hK
      obtain rfl := e
      have HK := Lib.hid hK
      have j0 : (0 : Int) ≤ (j : Int) := by omega
      have j1 : (j : Int) < (m : Int) := by omega
      have HLT := Lib.hid hlt
      have HOF := Lib.hid (HJ.out.of (Nat.le_trans HL.out (by decide)) (fun e he => (HW.out e he).1) K)
      obtain ⟨ab, hab⟩ : ∃ ab, allTo l ks j = ab := ⟨_, rfl⟩
      obtain ⟨fb, hfb⟩ : ∃ fb, fullTo l ks j = fb := ⟨_, rfl⟩
      obtain ⟨sn, hsn⟩ : ∃ sn, sumTo l ks j = sn := ⟨_, rfl⟩
      rw [hab, hfb, hsn]
      have HS := Lib.hid (And.intro hab (And.intro hfb hsn))
      have HSN : Hid (sn ≤ 10000) := Lib.hid (by
        have h1 := sumTo_le l ks j
        have h2 := HL.out
        have h3 := HM100.out
        rw [hsn] at h1
        have h4 : j * l.length ≤ 100 * 100 := Nat.mul_le_mul (by omega) h2
        omega)
      clear hlt hjl hj hK hab hfb hsn
      go_wp2_with fail
      refine HOF.out.mono ?_
      rintro e w5 ⟨pa, pc, rfl, hpe, hkb⟩
      obtain ⟨q, hq⟩ : ∃ q, q = (ofl (bk K) l).length := ⟨_, rfl⟩
      rw [← hq] at hpe ⊢
      have HQ : Hid (q = (ofl (bk K) l).length ∧ q ≤ 100) := Lib.hid ⟨hq, by rw [hq]; exact Nat.le_trans (ofl_few _ l) HL.out⟩
      have HK5 := Lib.hid hkb
      obtain ⟨pb, hpb⟩ : ∃ pb, (checkOf (ofl (bk K) l)).1 = pb := ⟨_, rfl⟩
      obtain ⟨pn, hpn⟩ : ∃ pn, (checkOf (ofl (bk K) l)).2 = pn := ⟨_, rfl⟩
      have hck := check_any hpe (Nat.le_trans (Nat.le_trans (ofl_few _ l) HL.out) (by decide)) fun e he => ⟨(HW.out e (ofl_sub _ _ e he)).1.1, (HW.out e (ofl_sub _ _ e he)).1.2, (HW.out e (ofl_sub _ _ e he)).2⟩
      rw [hpb, hpn] at hck
      have HCK := Lib.hid hck
      have HP := Lib.hid (And.intro hpb hpn)
      have hp3 : pn = 3 ∨ pn = 0 := by
        obtain ⟨all, hr⟩ := HR.out
        have := part_code hr (bk K)
        rw [hpn] at this
        exact this
      have hadd : Value.int .i64 (wrap64 ((sn : Int) + (q : Int))) = .int .i64 ((sn + q : Nat) : Int) := add_int (by have := HSN.out; have := HQ.out.2; omega)
      have HADD := Lib.hid hadd
      clear hpe hkb hck hpb hpn hq hadd HOF hcell
      go_wp2_with fail
      refine HCK.out.mono ?_
      rintro e w6 ⟨rfl, o6⟩
      have HK6 := Lib.hid (HK5.out.new_ o6)
      clear o6 HCK
      rcases hp3 with rfl | rfl
      all_goals cases ab <;> cases fb <;> cases pb
      all_goals
        go_wp2_with fail
        go_roundw
        case rel =>
          refine ⟨j + 1, by have := HLT.out; omega, next_int (by have := HM100.out; have := HLT.out; omega), ?_, ?_, ?_, HK6⟩
          · rw [allTo_next HK.out, HS.out.1, HP.out.1]; rfl
          · rw [fullTo_next HK.out, HS.out.2.1, HP.out.2]; rfl
          · rw [sumTo_next HK.out, HS.out.2.2, ← HQ.out.1]; exact HADD.out
        case measure => exact meas HLT.out (by have := HM100.out; omega)
    · obtain rfl : j = m := by omega
      have hend : sumTo l ks j = n ∧ checkOf l = if fullTo l ks j then (false, 3) else (allTo l ks j, 0) := by
        obtain ⟨all, hr⟩ := HR.out
        have := kbk_end hr (m := j) (by rw [HM.out, HKS.out])
        rw [← HKS.out, ← HN.out] at this
        exact this
      obtain ⟨e1, e2⟩ := hend
      rw [e1]
      obtain ⟨ab, hab⟩ : ∃ ab, allTo l ks j = ab := ⟨_, rfl⟩
      obtain ⟨fb, hfb⟩ : ∃ fb, fullTo l ks j = fb := ⟨_, rfl⟩
      rw [hab, hfb] at e2
      rw [hab, hfb]
      have HE := Lib.hid e2
      have HC2 := HC
      clear e1 e2 hab hfb hj
      cases fb with
      | true =>
        obtain rfl : cb = false := by rw [← HC.out.1, HE.out]; rfl
        obtain rfl : cc = 3 := by rw [← HC.out.2, HE.out]; rfl
        go_wp2_with fail
        go_ret
        exact ⟨rfl, HJ.out.only.below (Nat.le_refl _) fun k e => e.elim⟩
      | false =>
        obtain rfl : cb = ab := by rw [← HC.out.1, HE.out]; rfl
        obtain rfl : cc = 0 := by rw [← HC.out.2, HE.out]; rfl
        cases cb
        all_goals
          go_wp2_with fail
          go_ret
          exact ⟨rfl, HJ.out.only.below (Nat.le_refl _) fun k e => e.elim⟩
end Go.Proofs.Ytajbagdgjbihjaa
