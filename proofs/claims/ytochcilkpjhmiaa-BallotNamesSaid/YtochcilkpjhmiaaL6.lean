/- Two majorities of near voters meet; the walk of butterylaw15.BallotMeets. -/
import Derived.Test.YtochcilkpjhmiaaL2
namespace Go.Proofs.Ytochcilkpjhmiaa
open Go.RowKit

theorem countP_split (l : List Int) (p q : Int → Bool) : l.countP p ≤ (l.filter q).countP p + l.countP (fun x => !q x) := by
  induction l with
  | nil => simp
  | cons a l ih =>
    rw [List.countP_cons, List.countP_cons, List.filter_cons]
    cases q a <;> cases hp : p a <;> simp [hp] <;> omega

theorem countP_two (l : List Int) (p q : Int → Bool) (h : ∀ x ∈ l, ¬ (p x = true ∧ q x = true)) : l.countP p + l.countP q ≤ l.length := by
  induction l with
  | nil => simp
  | cons a l ih =>
    have ih' := ih (fun x hx => h x (List.mem_cons_of_mem _ hx))
    have ha := h a (by simp)
    rw [List.countP_cons, List.countP_cons, List.length_cons]
    cases hp : p a <;> cases hq : q a <;> simp_all <;> omega

theorem filter_len (l : List Int) (q : Int → Bool) : l.length = (l.filter q).length + l.countP (fun x => !q x) := by
  induction l with
  | nil => simp
  | cons a l ih => rw [List.countP_cons, List.filter_cons]; cases q a <;> simp <;> omega

theorem meet_pure (x y a b : List Int) (hn : nearB x y = true) (ha : wonB x a = true) (hb : wonB y b = true) : ∃ v, v ∈ x ∧ v ∈ a ∧ v ∈ b ∧ v ∈ y := by
  have hn' : lacksN x y + lacksN y x ≤ 1 := by simpa [nearB] using hn
  have ha' : (uniq x).length < 2 * (uniq x).countP (hasB a) := by simpa [wonB] using ha
  have hb' : (uniq y).length < 2 * (uniq y).countP (hasB b) := by simpa [wonB] using hb
  have hp : ((uniq x).filter (hasB y)).Perm ((uniq y).filter (hasB x)) :=
    perm_ext ((uniq_nodup x).sublist List.filter_sublist) ((uniq_nodup y).sublist List.filter_sublist) (fun v => by
      rw [List.mem_filter, List.mem_filter, mem_uniq, mem_uniq, hasB_iff, hasB_iff]; exact And.comm)
  have e1 := filter_len (uniq x) (hasB y)
  have e2 := filter_len (uniq y) (hasB x)
  have f1 := countP_split (uniq x) (hasB a) (hasB y)
  have f2 := countP_split (uniq y) (hasB b) (hasB x)
  rw [← hp.countP_eq] at f2
  rw [← hp.length_eq] at e2
  unfold lacksN at hn'
  have key : ∃ v ∈ (uniq x).filter (hasB y), hasB a v = true ∧ hasB b v = true := by
    apply Classical.byContradiction
    intro hno
    have g := countP_two ((uniq x).filter (hasB y)) (hasB a) (hasB b) (fun v hv h => hno ⟨v, hv, h⟩)
    omega
  obtain ⟨v, hv, h1, h2⟩ := key
  rw [List.mem_filter, mem_uniq, hasB_iff] at hv
  exact ⟨v, hv.1, (hasB_iff a v).1 h1, (hasB_iff b v).1 h2, hv.2⟩

theorem count_one (l : List Int) (hl : l.Nodup) (p : Int → Bool) (s : Int) (h : ∀ x ∈ l, p x = true → x = s) : l.countP p ≤ 1 := by
  induction l with
  | nil => simp
  | cons a l ih =>
    rw [List.nodup_cons] at hl
    have ih' := ih hl.2 (fun x hx => h x (List.mem_cons_of_mem _ hx))
    rw [List.countP_cons]
    cases hp : p a with
    | false => simp; omega
    | true =>
      have ha := h a (by simp) hp
      have : l.countP p = 0 := by
        rw [List.countP_eq_zero]; intro x hx hpx
        have := h x (List.mem_cons_of_mem _ hx) hpx
        exact hl.1 (by rw [ha, ← this]; exact hx)
      simp [this]

theorem near_sub (x y : List Int) (s : Int) (h1 : ∀ v ∈ x, v ∈ y) (h2 : ∀ v ∈ y, v ∉ x → v = s) : nearB x y = true ∧ nearB y x = true := by
  have a : lacksN x y = 0 := by
    unfold lacksN; rw [List.countP_eq_zero]; intro v hv; rw [mem_uniq] at hv; simp [hasB, h1 v hv]
  have b : lacksN y x ≤ 1 := by
    unfold lacksN
    refine count_one _ (uniq_nodup y) _ s (fun v hv hp => ?_)
    rw [mem_uniq] at hv
    exact h2 v hv (by simpa [hasB] using hp)
  constructor <;> (unfold nearB; rw [decide_eq_true_eq]; omega)

theorem near_self (x : List Int) : nearB x x = true := (near_sub x x 0 (fun _ h => h) (fun _ h hn => absurd h hn)).1

theorem near_turn (vs : List Int) (s : Int) (h : turnOk vs s = true) : nearB vs (turnL vs s) = true ∧ nearB (turnL vs s) vs = true := by
  cases hs : hasB vs s with
  | false =>
    have e := turn_ins vs s h hs
    obtain ⟨_, hp, _⟩ := (chk_iff vs).1 ((turnOk_iff vs s).1 h).1
    obtain ⟨_, hm⟩ := ins_sorted vs s hp hs
    rw [e] at hm
    refine near_sub vs _ s (fun v hv => (hm v).2 (.inl hv)) (fun v hv hn => ?_)
    rcases (hm v).1 hv with h | h
    · exact absurd h hn
    · exact h
  | true =>
    have e := (turn_del vs s h hs).2
    obtain ⟨_, hp, _⟩ := (chk_iff vs).1 ((turnOk_iff vs s).1 h).1
    obtain ⟨_, _, hm⟩ := del_sorted vs s hp hs
    rw [e] at hm
    have := near_sub (turnL vs s) vs s (fun v hv => ((hm v).1 hv).1) (fun v hv hn => by
      apply Classical.byContradiction; intro hne; exact hn ((hm v).2 ⟨hv, hne⟩))
    exact ⟨this.2, this.1⟩

theorem has2_any (p : Option Addr) (n cap : Nat) (zs : List Int) (x : Int) (w : World) (h : RI w p n cap zs) (hbig : n * 8 ≤ 140737488355328) :
    Calls Try.prog 45 #[.slice p n cap, .int .i64 x] w fun e w' => e = .returned (.bool (hasB zs x)) ∧ w = w' := by
  have HL := Lib.hid h.1
  have H := Lib.hid h
  have hs := ri_shape h
  clear h
  rcases hs with rfl | ⟨b, off, rfl⟩
  all_goals
    go_enter Try.func45, Try.ntmps45
    go_wp2
    go_loop [5] (fun i => ∃ k : Nat, k ≤ n ∧ i = .int .i64 k ∧ hasB (zs.take k) x = false) (fun i => n - (intOf i).toNat)
    case atStart => exact ⟨0, by omega, rfl, by simp [hasB]⟩
    case round =>
      obtain ⟨k, hk, rfl, hno⟩ := hrel
      have HNO := Lib.hid hno
      clear hno
      by_cases hlt : k < n
      · obtain ⟨bq, oq, ee, hcell⟩ := ri_at H.out k hlt
        cases ee
        all_goals
          have hts := Lib.hid (hasB_take_succ zs x k (by have := HL.out; omega))
          cases he : (nth zs k == x) with
          | true =>
            have HF := Lib.hid (hasB_nth zs x k (by have := HL.out; omega) he)
            go_wp2
            go_ret
            exact ⟨by rw [HF.out]; rfl, rfl⟩
          | false =>
            go_wp2
            go_round
            case rel => exact ⟨k + 1, by omega, by go_num, by rw [hts.out, HNO.out, he]; rfl⟩
            case measure => simp [intOf]; omega
      · have hfin : hasB zs x = false := by
          have h1 := HNO.out
          rw [List.take_of_length_le (by have := HL.out; omega)] at h1
          exact h1
        have HF := Lib.hid hfin
        clear hfin
        go_wp2
        go_ret
        exact ⟨by rw [HF.out]; rfl, rfl⟩

def allThree (y a b : List Int) (v : Int) : Bool := hasB a v && hasB b v && hasB y v
theorem three_not (x y a b : List Int) (h : ∀ j, j < x.length → allThree y a b (nth x j) = false) (hm : ∃ v, v ∈ x ∧ v ∈ a ∧ v ∈ b ∧ v ∈ y) : False := by
  obtain ⟨v, h1, h2, h3, h4⟩ := hm
  obtain ⟨j, hj, rfl⟩ := List.getElem_of_mem h1
  have := h j hj
  rw [nth_get x j hj] at this
  simp [allThree, (hasB_iff a _).2 h2, (hasB_iff b _).2 h3, (hasB_iff y _).2 h4] at this

set_option maxHeartbeats 1000000 in
theorem meet_any (p1 p2 p3 p4 : Option Addr) (n1 n2 n3 n4 c1 c2 c3 c4 : Nat) (x y a b : List Int) (w : World) (h1 : RI w p1 n1 c1 x) (h2 : RI w p2 n2 c2 y) (h3 : RI w p3 n3 c3 a) (h4 : RI w p4 n4 c4 b)
    (b1 : n1 * 8 ≤ 140737488355328) (b2 : n2 * 8 ≤ 140737488355328) (b3 : n3 * 8 ≤ 140737488355328) (b4 : n4 * 8 ≤ 140737488355328) (hnear : nearB x y = true) :
    Calls Try.prog 29 #[.slice p1 n1 c1, .slice p2 n2 c2, .slice p3 n3 c3, .slice p4 n4 c4] w fun e w' => e = .returned (.bool true) ∧ Below w.heap.size w w' := by
  have H1 := Lib.hid h1
  have H2 := Lib.hid h2
  have H3 := Lib.hid h3
  have H4 := Lib.hid h4
  have HL := Lib.hid h1.1
  have hs := ri_shape h1
  clear h1 h2 h3 h4
  cases ha : wonB x a with
  | false =>
    have HA := Lib.hid ha
    clear ha
    go_enter Try.func29, Try.ntmps29
    go_wp2_with fail
    refine (won_any _ _ _ _ _ _ x a _ H1.out H3.out b1 b3).mono ?_
    rintro e w1 ⟨rfl, g1⟩
    rw [HA.out]
    go_wp2_with fail
    go_ret
    exact ⟨rfl, g1⟩
  | true =>
    have HA := Lib.hid ha
    cases hb : wonB y b with
    | false =>
      have HB := Lib.hid hb
      clear ha hb
      go_enter Try.func29, Try.ntmps29
      go_wp2_with fail
      refine (won_any _ _ _ _ _ _ x a _ H1.out H3.out b1 b3).mono ?_
      rintro e w1 ⟨rfl, g1⟩
      rw [HA.out]
      go_wp2_with fail
      refine (bstep g1 (Nat.le_refl _) (won_any _ _ _ _ _ _ y b _ (H2.out.below g1) (H4.out.below g1) b2 b4)).mono ?_
      rintro e w2 ⟨rfl, g2⟩
      rw [HB.out]
      go_wp2_with fail
      go_ret
      exact ⟨rfl, g2⟩
    | true =>
      have HB := Lib.hid hb
      have HM := Lib.hid (meet_pure x y a b hnear ha hb)
      clear ha hb
      rcases hs with rfl | ⟨bb, off, rfl⟩
      all_goals
        go_enter Try.func29, Try.ntmps29
        go_wp2_with fail
        refine (won_any _ _ _ _ _ _ x a _ H1.out H3.out b1 b3).mono ?_
        rintro e w1 ⟨rfl, g1⟩
        rw [HA.out]
        go_wp2_with fail
        refine (bstep g1 (Nat.le_refl _) (won_any _ _ _ _ _ _ y b _ (H2.out.below g1) (H4.out.below g1) b2 b4)).mono ?_
        rintro e w2 ⟨rfl, g2⟩
        rw [HB.out]
        have G2 := Lib.hid g2
        have R1 := Lib.hid (H1.out.below g2)
        have R2 := Lib.hid (H2.out.below g2)
        have R3 := Lib.hid (H3.out.below g2)
        have R4 := Lib.hid (H4.out.below g2)
        clear g1 g2
        go_wp2_with fail
        go_loop [9] (fun i => ∃ k : Nat, k ≤ n1 ∧ i = .int .i64 k ∧ ∀ j, j < k → allThree y a b (nth x j) = false) (fun i => n1 - (intOf i).toNat)
        case atStart => exact ⟨0, by omega, rfl, fun j hj => by omega⟩
        case round =>
          obtain ⟨k, hk, rfl, hno⟩ := hrel
          have HNO := Lib.hid hno
          clear hno
          by_cases hlt : k < n1
          · obtain ⟨bq, oq, ee, hcell⟩ := ri_at R1.out k hlt
            cases ee
            all_goals
              cases e1 : hasB a (nth x k) with
              | false =>
                have E1 := Lib.hid e1
                have HT : Hid (allThree y a b (nth x k) = false) := by show _ = _; simp [allThree, e1]
                clear e1
                go_wp2_with (go_at_call 45; (with_reducible refine (has2_any p3 _ _ a _ _ R3.out b3).mono ?_); rintro e w' ⟨rfl, rfl⟩; rw [E1.out])
                go_round
                case rel => exact ⟨k + 1, by omega, by go_num, fun j hj => by rcases Nat.lt_or_ge j k with h | h; exact HNO.out j h; (have : j = k := by omega); rw [this]; exact HT.out⟩
                case measure => simp [intOf]; omega
              | true =>
                have E1 := Lib.hid e1
                cases e2 : hasB b (nth x k) with
                | false =>
                  have E2 := Lib.hid e2
                  have HT : Hid (allThree y a b (nth x k) = false) := by show _ = _; simp [allThree, e2]
                  clear e1 e2
                  go_wp2_with fail
                  refine (has2_any p3 _ _ a _ _ R3.out b3).mono ?_
                  rintro e w' ⟨rfl, rfl⟩
                  rw [E1.out]
                  go_wp2_with fail
                  refine (has2_any p4 _ _ b _ _ R4.out b4).mono ?_
                  rintro e w' ⟨rfl, rfl⟩
                  rw [E2.out]
                  go_wp2_with fail
                  go_round
                  case rel => exact ⟨k + 1, by omega, by go_num, fun j hj => by rcases Nat.lt_or_ge j k with h | h; exact HNO.out j h; (have : j = k := by omega); rw [this]; exact HT.out⟩
                  case measure => simp [intOf]; omega
                | true =>
                  have E2 := Lib.hid e2
                  cases e3 : hasB y (nth x k) with
                  | false =>
                    have E3 := Lib.hid e3
                    have HT : Hid (allThree y a b (nth x k) = false) := by show _ = _; simp [allThree, e3]
                    clear e1 e2 e3
                    go_wp2_with fail
                    refine (has2_any p3 _ _ a _ _ R3.out b3).mono ?_
                    rintro e w' ⟨rfl, rfl⟩
                    rw [E1.out]
                    go_wp2_with fail
                    refine (has2_any p4 _ _ b _ _ R4.out b4).mono ?_
                    rintro e w' ⟨rfl, rfl⟩
                    rw [E2.out]
                    go_wp2_with fail
                    refine (has2_any p2 _ _ y _ _ R2.out b2).mono ?_
                    rintro e w' ⟨rfl, rfl⟩
                    rw [E3.out]
                    go_wp2_with fail
                    go_round
                    case rel => exact ⟨k + 1, by omega, by go_num, fun j hj => by rcases Nat.lt_or_ge j k with h | h; exact HNO.out j h; (have : j = k := by omega); rw [this]; exact HT.out⟩
                    case measure => simp [intOf]; omega
                  | true =>
                    have E3 := Lib.hid e3
                    clear e1 e2 e3
                    go_wp2_with fail
                    refine (has2_any p3 _ _ a _ _ R3.out b3).mono ?_
                    rintro e w' ⟨rfl, rfl⟩
                    rw [E1.out]
                    go_wp2_with fail
                    refine (has2_any p4 _ _ b _ _ R4.out b4).mono ?_
                    rintro e w' ⟨rfl, rfl⟩
                    rw [E2.out]
                    go_wp2_with fail
                    refine (has2_any p2 _ _ y _ _ R2.out b2).mono ?_
                    rintro e w' ⟨rfl, rfl⟩
                    rw [E3.out]
                    go_wp2_with fail
                    go_ret
                    exact ⟨rfl, G2.out⟩
          · exact (three_not x y a b (fun j hj => HNO.out j (by have := HL.out; omega)) HM.out).elim

end Go.Proofs.Ytochcilkpjhmiaa
