/- ballot.Won, Check, lacks, Near, Patience: the contracts. -/
import Derived.Test.YtochcilkpjhmiaaB2
import Derived.Test.YtochcilkpjhmiaaC2
import Derived.WalkSmall
namespace Go.Proofs.Ytochcilkpjhmiaa
open Go.RowKit

theorem RI.grownBy {w w' : World} {p : Option Addr} {n cap B : Nat} {zs : List Int} (h : RI w p n cap zs) (hb : w.grownBy w' (some B)) (hne : ∀ a, p = some a → a.block ≠ B) : RI w' p n cap zs := by
  obtain ⟨h1, h2, h3, h4, h5⟩ := h
  refine ⟨h1, h2, h3, h4, fun a ha => ?_⟩
  obtain ⟨s1, s2, s3⟩ := h5 a ha
  refine ⟨s1, Nat.lt_of_lt_of_le s2 hb.size, fun j hj => ?_⟩
  rw [World.cell?_of_block (w := w) (a := ⟨a.block, a.off + j, none⟩) (hb.block _ s2 (by intro e; injection e with e; exact hne a ha e))]
  exact s3 j hj

theorem grownBy_setCell (w : World) (b : Nat) (u : Value) : w.grownBy (w.setCell ⟨b, 0, none⟩ u) (some b) :=
  ⟨rfl, rfl, rfl, by simp, fun k _ hne => by
    simp only [World.setCell, Array.getElem?_modify]
    rw [if_neg (by intro e; exact hne (by rw [e]))]⟩

theorem grownBy_trans {a b c : World} {r : Option Nat} (h : a.grownBy b r) (h' : b.grownBy c r) : a.grownBy c r :=
  ⟨h'.os.trans h.os, h'.tape.trans h.tape, h'.output.trans h.output, Nat.le_trans h.size h'.size, fun k hk hne => (h'.block k (Nat.lt_of_lt_of_le hk h.size) hne).trans (h.block k hk hne)⟩

theorem wonClosure_yes (b1 b2 : Nat) (p : Option Addr) (n cap : Nat) (votes : List Int) (x : Int) (m : Nat) (w : World) (h1 : w.cell? ⟨b1, 0, none⟩ = some (.slice p n cap)) (h2 : w.cell? ⟨b2, 0, none⟩ = some (.int .i64 m)) (hf : w.frozen? ⟨b2, 0, none⟩ = false)
    (hR : RI w p n cap votes) (hbig : n * 8 ≤ 140737488355328) (hm : m < 9223372036854775807) (he : hasB votes x = true) :
    Calls Try.prog 40 #[.int .i64 x, .pointer (some ⟨b1, 0, none⟩), .pointer (some ⟨b2, 0, none⟩)] w fun e w' => e = .returned (.tuple #[]) ∧ w' = w.setCell ⟨b2, 0, none⟩ (.int .i64 (m + 1 : Nat)) := by
  have H := Lib.hid hR
  have HE := Lib.hid he
  clear hR he
  go_enter Try.func40, Try.ntmps40
  go_wp2_with (go_at_call 41; refine (contains_any _ _ _ votes _ _ H.out hbig).mono ?_; rintro e w' ⟨rfl, hw⟩; obtain rfl := hw.symm; rw [HE.out])
  go_end0
  exact ⟨rfl, by rfl⟩

theorem wonClosure_no (b1 b2 : Nat) (p : Option Addr) (n cap : Nat) (votes : List Int) (x : Int) (w : World) (h1 : w.cell? ⟨b1, 0, none⟩ = some (.slice p n cap))
    (hR : RI w p n cap votes) (hbig : n * 8 ≤ 140737488355328) (he : hasB votes x = false) :
    Calls Try.prog 40 #[.int .i64 x, .pointer (some ⟨b1, 0, none⟩), .pointer (some ⟨b2, 0, none⟩)] w fun e w' => e = .returned (.tuple #[]) ∧ w = w' := by
  have H := Lib.hid hR
  have HE := Lib.hid he
  clear hR he
  go_enter Try.func40, Try.ntmps40
  go_wp2_with (go_at_call 41; refine (contains_any _ _ _ votes _ _ H.out hbig).mono ?_; rintro e w' ⟨rfl, hw⟩; obtain rfl := hw.symm; rw [HE.out])
  go_end0
  exact ⟨rfl, rfl⟩

theorem won_uniq (vs votes : List Int) (n : Nat) (h : n = (uniq vs).countP (hasB votes)) : decide (((uniq vs).length : Int) < 2 * (n : Int)) = wonB vs votes := by
  subst h
  unfold wonB
  rw [decide_eq_decide]; omega

theorem won_any (p p' : Option Addr) (n n' cap cap' : Nat) (vs votes : List Int) (w : World) (h : RI w p n cap vs) (h' : RI w p' n' cap' votes) (hbig : n * 8 ≤ 140737488355328) (hbig' : n' * 8 ≤ 140737488355328) :
    Calls Try.prog 23 #[.slice p n cap, .slice p' n' cap'] w fun e w' => e = .returned (.bool (wonB vs votes)) ∧ Below w.heap.size w w' := by
  have hol := uniq_len vs
  have hl := h.1
  have hol2 : (uniq vs).length ≤ n := by omega
  have hA : ∀ o1 o2, RI ((w.alloc o1).alloc o2) p n cap vs := fun o1 o2 => h.below (((Below.refl _ _).alloc (Nat.le_refl _) _).alloc (by simp) _)
  have hA' : ∀ o1 o2, RI ((w.alloc o1).alloc o2) p' n' cap' votes := fun o1 o2 => h'.below (((Below.refl _ _).alloc (Nat.le_refl _) _).alloc (by simp) _)
  have H := Lib.hid hA
  have H' := Lib.hid hA'
  have H0' := Lib.hid h'
  clear h h' hol hl hA hA'
  go_enter Try.func23, Try.ntmps23
  go_wp2_with (go_at_call 39; refine (unlike_any _ _ _ vs _ (H.out _ _) hbig).mono ?_; rintro e w1 ⟨p1, c1, rfl, ho, hbel⟩)
  have hc1 : w1.cell? ⟨w.heap.size, 0, none⟩ = some (.slice p' n' cap') := by rw [hbel.cell (by simp only [World.size_alloc]; omega)]; go_simp
  have hc2 : w1.cell? ⟨w.heap.size + 1, 0, none⟩ = some (.int .i64 0) := by rw [hbel.cell (by simp only [World.size_alloc]; omega)]; go_simp
  have hf2 : w1.frozen? ⟨w.heap.size + 1, 0, none⟩ = false := by rw [hbel.frozen (by simp only [World.size_alloc]; omega)]; go_simp
  have hsz : w.heap.size + 2 ≤ w1.heap.size := by have := hbel.size; simp at this; omega
  have hB1 : Below w.heap.size w w1 := (((Below.refl _ _).alloc (Nat.le_refl _) _).alloc (by simp) _).trans (hbel.mono (by simp; omega))
  have HB1 := Lib.hid hB1
  have HV := Lib.hid ((H'.out _ _).below hbel)
  have hvb : ∀ a, p' = some a → a.block ≠ w.heap.size + 1 := by
    intro a ha
    have := (H0'.out.2.2.2.2 a ha).2.1
    omega
  have HVB := Lib.hid hvb
  clear hvb hB1
  have HO := Lib.hid ho
  cases p1 with
  | none =>
    have hz := ho.none.1
    have HN := Lib.hid ho.none.2.2
    have hz' : (uniq vs).length ≤ 0 := by omega
    clear hz ho hbel
    go_loop [15] (fun i => i = .int .i64 0) (fun _ => 0)
    case atStart => rfl
    case round =>
      subst hrel
      have hge : ¬ ((0 : Int) < ((uniq vs).length : Int)) := by omega
      go_wp2
      go_ret
      refine ⟨?_, HB1.out⟩
      rw [← won_uniq vs votes 0 (by rw [HN.out]; rfl)]
      rfl
  | some a =>
    obtain ⟨g, rfl, hg1, hg2, hg3, hg4, hH⟩ := ho.some
    obtain ⟨b, off, hba, hb, hc⟩ := ho.ri.cells
    injection hba with e1 e2
    subst e1; subst e2
    simp only [World.size_alloc] at hg1
    clear ho hbel hH
    go_loopw [15] (fun i wr => ∃ k : Nat, k ≤ (uniq vs).length ∧ i = .int .i64 k ∧ wr.cell? ⟨w.heap.size + 1, 0, none⟩ = some (.int .i64 (cnt (uniq vs) (hasB votes) k)) ∧ wr.frozen? ⟨w.heap.size + 1, 0, none⟩ = false ∧ w1.grownBy wr (some (w.heap.size + 1))) (fun i _ => (uniq vs).length - (intOf i).toNat)
    case atStart => exact ⟨0, by omega, rfl, by rw [cnt_zero]; exact hc2, hf2, ⟨rfl, rfl, rfl, Nat.le_refl _, fun _ _ _ => rfl⟩⟩
    case round =>
      obtain ⟨k, hk, rfl, hcc, hff, hgr⟩ := hrel
      have HG := Lib.hid hgr
      have hcl := cnt_le (uniq vs) (hasB votes) k
      have hcv : wr.cell? ⟨w.heap.size, 0, none⟩ = some (.slice p' n' cap') := hgr.cell hc1 (by intro e; injection e with e; simp at e)
      have HVR := Lib.hid (HV.out.grownBy hgr HVB.out)
      by_cases hlt : k < (uniq vs).length
      · have hcell : wr.cell? ⟨g, k, none⟩ = some (.int .i64 (nth (uniq vs) k)) := hgr.cell (by have := hc k hlt; rw [Nat.zero_add] at this; exact this) (by intro e; injection e with e; simp at e; omega)
        clear hc hc1 hc2 hf2 hgr
        cases he : hasB votes (nth (uniq vs) k) with
        | true =>
          have HY := Lib.hid (cnt_yes (uniq vs) (hasB votes) k hlt he)
          have HE := Lib.hid he
          clear he
          go_wp2_with (go_at_call 40; refine (wonClosure_yes _ _ _ _ _ votes _ (cnt (uniq vs) (hasB votes) k) _ hcv hcc hff HVR.out hbig' (by omega) HE.out).mono ?_; rintro e w' ⟨rfl, hw⟩; subst hw)
          go_roundw
          case rel => exact ⟨k + 1, by omega, by go_num, by rw [HY.out]; exact World.cell?_setCell_same _ _ _ hcc, by rw [World.frozen?_setCell]; exact hff, grownBy_trans HG.out (grownBy_setCell _ _ _)⟩
          case measure => simp [intOf]; omega
        | false =>
          have HY := Lib.hid (cnt_no (uniq vs) (hasB votes) k hlt he)
          have HE := Lib.hid he
          clear he
          go_wp2_with (go_at_call 40; refine (wonClosure_no _ _ _ _ _ votes _ _ hcv HVR.out hbig' HE.out).mono ?_; rintro e w' ⟨rfl, rfl⟩)
          go_roundw
          case rel => exact ⟨k + 1, by omega, by go_num, by rw [HY.out]; exact hcc, hff, HG.out⟩
          case measure => simp [intOf]; omega
      · have hfin := won_uniq vs votes (cnt (uniq vs) (hasB votes) k) (cnt_all _ _ k (by omega))
        have HF := Lib.hid hfin
        clear hc hfin hc1 hc2 hf2 hgr
        go_wp2
        go_ret
        refine ⟨?_, HB1.out.grown HG.out (by omega) (by intro k hk; injection hk with hk; omega)⟩
        rw [← HF.out]; rfl

theorem check_any (p : Option Addr) (n cap : Nat) (zs : List Int) (w : World) (h : RI w p n cap zs) (hbig : n * 8 ≤ 140737488355328) :
    Calls Try.prog 21 #[.slice p n cap] w fun e w' => e = .returned (.bool (chkB zs)) ∧ Below w.heap.size w w' := by
  have hl := h.1
  have H := Lib.hid h
  have hul : (uniq zs).length * 8 ≤ 140737488355328 := by have := uniq_len zs; omega
  by_cases h0 : n = 0
  · subst h0
    have HC := Lib.hid (chk_nil zs (List.length_eq_zero_iff.1 hl))
    clear h hl hul
    have hd : ¬ (0 : Int) < ((0 : Nat) : Int) := by omega
    go_enter Try.func21, Try.ntmps21
    go_wp2_with fail
    go_ret
    exact ⟨by rw [HC.out]; rfl, Below.refl _ _⟩
  · cases p with
    | none => have := h.2.2.2.1 rfl; subst this; exact absurd hl.symm h0
    | some a =>
      obtain ⟨b, off, rfl, hb, hc⟩ := h.cells
      have hpos : (0 : Int) < (n : Int) := by omega
      have c0 := hc 0 (by omega)
      have cn := hc (n - 1) (by omega)
      have HL := Lib.hid hl
      have hnl : n ≤ zs.length := by omega
      have HB : ∀ (w1 : World), Below w.heap.size w w1 → w1.cell? ⟨b, off, none⟩ = some (.int .i64 (nth zs 0)) ∧ w1.cell? ⟨b, off + (n - 1), none⟩ = some (.int .i64 (nth zs (n - 1))) := fun w1 hb' => ⟨by rw [hb'.cell hb]; exact c0, by rw [hb'.cell hb]; exact cn⟩
      have HBB := Lib.hid HB
      clear h hl hc c0 cn HB h0
      cases he : eqB zs (uniq zs) with
      | false =>
        have HC := Lib.hid (chk_ne zs he)
        have HE := Lib.hid he
        clear he
        go_enter Try.func21, Try.ntmps21
        go_wp2_with (first
          | (go_at_call 39; refine (unlike_any _ _ _ zs _ H.out hbig).mono ?_; rintro e w1 ⟨p1, c1, rfl, ho, hbel⟩)
          | (go_at_call 38; refine (equal_any _ _ _ _ _ _ zs (uniq zs) _ (H.out.below hbel) ho.ri hbig hul).mono ?_; rintro e w2 ⟨rfl, q, rfl⟩; rw [HE.out]))
        go_ret
        exact ⟨by rw [HC.out]; rfl, below_drewN hbel _⟩
      | true =>
        have HE := Lib.hid he
        have hnn : ((n : Int) - 1).toNat = n - 1 := by omega
        have hn1 : (0 : Int) ≤ (n : Int) - 1 := by omega
        by_cases h1 : 1 ≤ nth zs 0
        · by_cases h2 : nth zs (n - 1) ≤ 5
          · have HC := Lib.hid (chk_yes zs (n - 1) (by have := HL.out; omega) he h1 h2)
            clear he
            go_enter Try.func21, Try.ntmps21
            go_wp2_with (first
              | (go_at_call 39; refine (unlike_any _ _ _ zs _ H.out hbig).mono ?_; rintro e w1 ⟨p1, c1, rfl, ho, hbel⟩; obtain ⟨d0, dn⟩ := HBB.out _ hbel)
              | (go_at_call 38; refine (equal_any _ _ _ _ _ _ zs (uniq zs) _ (H.out.below hbel) ho.ri hbig hul).mono ?_; rintro e w2 ⟨rfl, q, rfl⟩; rw [HE.out]))
            go_ret
            exact ⟨by rw [HC.out]; rfl, below_drewN hbel _⟩
          · have HC : Hid (chkB zs = decide (nth zs (n - 1) ≤ 5)) := (chk_high zs (n - 1) (by have := HL.out; omega) h2).trans (by simp; omega)
            clear he
            go_enter Try.func21, Try.ntmps21
            go_wp2_with (first
              | (go_at_call 39; refine (unlike_any _ _ _ zs _ H.out hbig).mono ?_; rintro e w1 ⟨p1, c1, rfl, ho, hbel⟩; obtain ⟨d0, dn⟩ := HBB.out _ hbel)
              | (go_at_call 38; refine (equal_any _ _ _ _ _ _ zs (uniq zs) _ (H.out.below hbel) ho.ri hbig hul).mono ?_; rintro e w2 ⟨rfl, q, rfl⟩; rw [HE.out]))
            go_ret
            exact ⟨by rw [HC.out]; rfl, below_drewN hbel _⟩
        · have HC := Lib.hid (chk_low zs (by have := HL.out; omega) h1)
          clear he
          go_enter Try.func21, Try.ntmps21
          go_wp2_with (first
            | (go_at_call 39; refine (unlike_any _ _ _ zs _ H.out hbig).mono ?_; rintro e w1 ⟨p1, c1, rfl, ho, hbel⟩; obtain ⟨d0, dn⟩ := HBB.out _ hbel)
            | (go_at_call 38; refine (equal_any _ _ _ _ _ _ zs (uniq zs) _ (H.out.below hbel) ho.ri hbig hul).mono ?_; rintro e w2 ⟨rfl, q, rfl⟩; rw [HE.out]))
          go_ret
          exact ⟨by rw [HC.out]; rfl, below_drewN hbel _⟩

theorem patience_any (a b : Int) (w : World) (ha : 0 ≤ a) (ha' : a ≤ 100000) (hb : 0 ≤ b) (hb' : b ≤ 100000) : Calls Try.prog 28 #[.int .i64 a, .int .i64 b] w fun e w' => e = .returned (.int .i64 (a + b - 1)) ∧ w = w' := by
  go_enter Try.func28, Try.ntmps28
  go_wp2
  go_ret
  exact ⟨rfl, rfl⟩

theorem lacks_any (p p' : Option Addr) (n n' cap cap' : Nat) (a b : List Int) (w : World) (h : RI w p n cap a) (h' : RI w p' n' cap' b) (hbig : n * 8 ≤ 140737488355328) (hbig' : n' * 8 ≤ 140737488355328) :
    Calls Try.prog 36 #[.slice p n cap, .slice p' n' cap'] w fun e w' => e = .returned (.int .i64 (lacksN a b)) ∧ Below w.heap.size w w' := by
  have hol := uniq_len a
  have hl := h.1
  have hol2 : (uniq a).length ≤ n := by omega
  have H := Lib.hid h
  have H' := Lib.hid h'
  clear h h' hol hl
  go_enter Try.func36, Try.ntmps36
  go_wp2_with (go_at_call 39; refine (unlike_any _ _ _ a _ H.out hbig).mono ?_; rintro e w1 ⟨p1, c1, rfl, ho, hbel⟩)
  have HB1 := Lib.hid hbel
  have HV := Lib.hid (H'.out.below hbel)
  cases p1 with
  | none =>
    have hz := ho.none.1
    have HN := Lib.hid ho.none.2.2
    have hz' : (uniq a).length ≤ 0 := by omega
    clear hz ho hbel
    go_loop [5, 11] (fun n i => n = .int .i64 0 ∧ i = .int .i64 0) (fun _ _ => 0)
    case atStart => exact ⟨rfl, rfl⟩
    case round =>
      obtain ⟨rfl, rfl⟩ := hrel
      go_wp2
      go_ret
      refine ⟨?_, HB1.out⟩
      unfold lacksN
      rw [HN.out]; rfl
  | some ad =>
    obtain ⟨g, rfl, hg1, hg2, hg3, hg4, hH⟩ := ho.some
    obtain ⟨b0, off, hba, hb, hc⟩ := ho.ri.cells
    injection hba with e1 e2
    subst e1; subst e2
    clear ho hbel hH
    go_loop [5, 11] (fun n i => ∃ k : Nat, k ≤ (uniq a).length ∧ i = .int .i64 k ∧ n = .int .i64 (cnt (uniq a) (fun x => !hasB b x) k)) (fun _ i => (uniq a).length - (intOf i).toNat)
    case atStart => exact ⟨0, by omega, rfl, by rw [cnt_zero]; rfl⟩
    case round =>
      obtain ⟨k, hk, rfl, rfl⟩ := hrel
      have hcl := cnt_le (uniq a) (fun x => !hasB b x) k
      by_cases hlt : k < (uniq a).length
      · have hcell := hc k hlt
        rw [Nat.zero_add] at hcell
        clear hc
        cases he : hasB b (nth (uniq a) k) with
        | false =>
          have HY := Lib.hid (cnt_yes (uniq a) (fun x => !hasB b x) k hlt (by simp [he]))
          have HE := Lib.hid he
          clear he
          go_wp2_with (go_at_call 41; refine (contains_any _ _ _ b _ _ HV.out hbig').mono ?_; rintro e w' ⟨rfl, hw⟩; obtain rfl := hw.symm; rw [HE.out])
          go_round
          case rel => exact ⟨k + 1, by omega, by go_num, by rw [HY.out]; go_num⟩
          case measure => simp [intOf]; omega
        | true =>
          have HY := Lib.hid (cnt_no (uniq a) (fun x => !hasB b x) k hlt (by simp [he]))
          have HE := Lib.hid he
          clear he
          go_wp2_with (go_at_call 41; refine (contains_any _ _ _ b _ _ HV.out hbig').mono ?_; rintro e w' ⟨rfl, hw⟩; obtain rfl := hw.symm; rw [HE.out])
          go_round
          case rel => exact ⟨k + 1, by omega, by go_num, by rw [HY.out]⟩
          case measure => simp [intOf]; omega
      · have hfin : cnt (uniq a) (fun x => !hasB b x) k = lacksN a b := by rw [cnt_all _ _ k (by omega)]; rfl
        have HF := Lib.hid hfin
        clear hc hfin
        go_wp2
        go_ret
        exact ⟨by rw [← HF.out]; rfl, HB1.out⟩

theorem lacksN_le (a b : List Int) : lacksN a b ≤ a.length := Nat.le_trans List.countP_le_length (uniq_len a)

theorem near_any (p p' : Option Addr) (n n' cap cap' : Nat) (a b : List Int) (w : World) (h : RI w p n cap a) (h' : RI w p' n' cap' b) (hbig : n * 8 ≤ 140737488355328) (hbig' : n' * 8 ≤ 140737488355328) :
    Calls Try.prog 19 #[.slice p n cap, .slice p' n' cap'] w fun e w' => e = .returned (.bool (nearB a b)) ∧ Below w.heap.size w w' := by
  have l1 := lacksN_le a b
  have l2 := lacksN_le b a
  have l3 := h.1
  have l4 := h'.1
  have l5 : lacksN a b ≤ 140737488355328 := by omega
  have l6 : lacksN b a ≤ 140737488355328 := by omega
  have H := Lib.hid h
  have H' := Lib.hid h'
  have HF : Hid (decide ((lacksN a b : Int) + (lacksN b a : Int) ≤ 1) = nearB a b) := by
    show _ = _
    unfold nearB; rw [decide_eq_decide]; omega
  clear h h' l1 l2 l3 l4
  go_enter Try.func19, Try.ntmps19
  go_wp2_with fail
  refine (lacks_any _ _ _ _ _ _ a b _ H.out H'.out hbig hbig').mono ?_
  rintro e w1 ⟨rfl, hb1⟩
  have HB1 := Lib.hid hb1
  clear hb1
  go_wp2_with fail
  refine (lacks_any _ _ _ _ _ _ b a _ (H'.out.below HB1.out) (H.out.below HB1.out) hbig' hbig).mono ?_
  rintro e w2 ⟨rfl, hb2⟩
  have HB2 := Lib.hid hb2
  clear hb2
  go_wp2_with fail
  go_ret
  exact ⟨by rw [← HF.out]; rfl, HB1.out.trans (HB2.out.mono HB1.out.size)⟩

end Go.Proofs.Ytochcilkpjhmiaa
