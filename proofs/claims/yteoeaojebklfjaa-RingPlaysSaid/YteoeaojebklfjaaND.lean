/- The document's Append: the walk. -/
import Derived.Test.YteoeaojebklfjaaLB
import Derived.Test.YteoeaojebklfjaaLA
namespace Go.Proofs.Yteoeaojebklfjaa
open Go.RowKit Go.Maps
set_option linter.unusedVariables false

section
variable {a : Act} {o : Oper} {x y : Operand} {p q z : Int}
theorem yields_rem (w : World) (ho : o.op = .binOp .rem 3 x y 3) (hx : a.eval x = .int .i64 p) (hy : a.eval y = .int .i64 q) (h0 : ¬ q = 0) (h1 : p.tmod q = z) (h2 : IntKind.i64.wrap z = z) : (execOp a.eval o).run Try.prog w = .ok (.value (.int .i64 z)) w := by
  have h0' : (q == 0) = false := by simpa using h0
  unfold execOp
  simp only [ho, hx, hy]
  go_simp
end
theorem layG_size {count : Nat} : ∀ {ps : List Pc} {g : Nat → Sec}, (∀ p ∈ ps, p.data.length ≤ 501) → (∀ i, i < count → (g i).length = 512) → ∀ i, i < count → (layG count ps g i).length = 512
  | [], g, _, h => h
  | p :: ps, g, hp, h => layG_size (ps := ps) (fun q hq => hp q (by simp [hq])) fun i hi => by
    unfold setG
    by_cases e : i = p.n % count
    · rw [if_pos e]; exact Pc.lay_length _ (hp p (by simp))
    · rw [if_neg e]; exact h i hi
theorem cutR_size {r : Rg} {m : Nat} {rec : Rec} (hm : rec.length = m) (h : refuse r (cutN m) = none) (ok : r.Ok) : ∀ p ∈ cutR r.last rec, p.data.length ≤ 501 := fun p hp => by
  subst hm
  obtain ⟨j, hj, rfl⟩ := List.getElem_of_mem hp
  rw [cutR_at]
  have hj' : j < cutN rec.length := by rwa [cutR_length] at hj
  exact (cutAt_ok hj' (refuse_room ok h).2.2.2).size
set_option maxHeartbeats 1000000 in
theorem docappend_no {w : World} {X : Nat} {a : Option Addr} {c : Nat} {r : Rg} (hx : XAt w X (.slice a r.count c) r) (hok : r.Ok) (ad : Option Addr) (n cp : Nat) (hn : n ≤ 140737488355328) {code : Int} (hc : refuse r (cutN n) = some code) :
    Calls Try.prog 51 #[.pointer (some ⟨X, 0, none⟩), .slice ad n cp] w fun e w' => e = .returned (.int .i64 code) ∧ ∃ q, w' = w.drewN q := by
  have HP := Lib.hid (docpieces_any n w (by omega))
  have HR := Lib.hid (fun q => docroom_any (CellsR.kept hx ((Only.refl None' _).drewN q) fun e => e) hok)
  have c0 := hx.is 0 _ rfl
  have c2 := hx.is 2 _ rfl
  have c3 := hx.is 3 _ rfl
  obtain ⟨k1, k2, k3, k4, k5, k6⟩ := hok
  obtain ⟨cn, hcn⟩ : ∃ cn, cn = r.count := ⟨_, rfl⟩
  obtain ⟨la, hla⟩ : ∃ la, la = r.last := ⟨_, rfl⟩
  obtain ⟨tp, htp⟩ : ∃ tp, tp = r.top := ⟨_, rfl⟩
  obtain ⟨m, hm⟩ : ∃ m, m = cutN n := ⟨_, rfl⟩
  obtain ⟨ro, hro⟩ : ∃ ro, ro = r.room := ⟨_, rfl⟩
  unfold refuse at hc
  rw [← hm] at HP hc
  rw [← hcn] at c0 hc k1 k2
  rw [← hla] at c2 hc
  rw [← htp] at c3 hc
  rw [← hro] at hc HR
  have k7 : la ≤ 4611686018427387904 := by omega
  have k8 : cn ≤ 65536 := by omega
  clear hx hcn hm hro htp k1 k2 k3 k4 k5 k6
  by_cases h1 : cn < m
  · rw [if_pos h1] at hc
    injection hc with hc
    subst hc
    clear k7 k8 hla
    go_enter Try.func51, Try.ntmps51
    go_wp2_with fail
    refine HP.out.mono ?_
    rintro e w1 ⟨rfl, e⟩
    obtain rfl := e
    go_wp2_with fail
    go_ret
    exact ⟨rfl, 0, rfl⟩
  · rw [if_neg h1] at hc
    by_cases h2 : la < tp
    · rw [if_pos h2] at hc
      injection hc with hc
      subst hc
      have d2 : decide (la < tp) = true := decide_eq_true h2
      clear k7 k8 hla h2
      go_enter Try.func51, Try.ntmps51
      go_wp2_with fail
      refine HP.out.mono ?_
      rintro e w1 ⟨rfl, e⟩
      obtain rfl := e
      go_wp2_with fail
      go_quiet (fail)
      go_wp2_with fail
      go_ret
      exact ⟨rfl, nq, rfl⟩
    · rw [if_neg h2] at hc
      have d2 : decide (la < tp) = false := decide_eq_false h2
      by_cases h3 : ro < m
      · rw [if_pos h3] at hc
        injection hc with hc
        subst hc
        clear k7 k8 hla h2
        go_enter Try.func51, Try.ntmps51
        go_wp2_with fail
        refine HP.out.mono ?_
        rintro e w1 ⟨rfl, e⟩
        obtain rfl := e
        go_wp2_with fail
        go_quiet (fail)
        go_wp2_with fail
        refine (HR.out nq).mono ?_
        rintro e w1 ⟨rfl, q2, rfl⟩
        go_wp2_with fail
        go_ret
        exact ⟨rfl, nq + q2, rfl⟩
      · rw [if_neg h3] at hc
        by_cases h4 : 4611686018427387904 < la + m
        · rw [if_pos h4] at hc
          injection hc with hc
          subst hc
          obtain ⟨y, hy⟩ : ∃ y, y = 4611686018427387904 - m := ⟨_, rfl⟩
          have h5 : y < la := by omega
          have e2 : (4611686018427387904 : Int) - (m : Int) = (y : Int) := by omega
          have e1 : wrap64 (y : Int) = (y : Int) := IntWalk.wrap64_in _ (by omega)
          clear hla hy h4 h2
          go_enter Try.func51, Try.ntmps51
          go_wp2_with fail
          refine HP.out.mono ?_
          rintro e w1 ⟨rfl, e⟩
          obtain rfl := e
          go_wp2_with fail
          go_quiet (fail)
          go_wp2_with fail
          refine (HR.out nq).mono ?_
          rintro e w1 ⟨rfl, q2, rfl⟩
          go_wp2_with fail
          go_ret
          exact ⟨rfl, nq + q2, rfl⟩
        · rw [if_neg h4] at hc
          cases hc

theorem arith51 {m la : Nat} (h4 : la + m ≤ 4611686018427387904) : ∃ y : Nat, ¬ y < la ∧ (4611686018427387904 : Int) - (m : Int) = (y : Int) ∧ wrap64 (y : Int) = (y : Int) :=
  ⟨4611686018427387904 - m, by omega, by omega, IntWalk.wrap64_in _ (by omega)⟩
/-- at a round's head: k pieces are written -/
structure DLoop (w wr : World) (P : Nat → Prop) (v : Value) (r : Rg) (rec : Rec) (g : Nat → Sec) (k : Nat) : Prop where
  s : Recs wr P v (secs r.count (layG r.count ((cutR r.last rec).take k) g))
  only : Only (fun j => v.ownBlock = some j) w wr

set_option maxRecDepth 20000 in
set_option maxHeartbeats 4000000 in
theorem docappend_go {w : World} {P : Nat → Prop} {X : Nat} {a : Option Addr} {c : Nat} {r : Rg} {g : Nat → Sec} (hx : XAt w X (.slice a r.count c) r) (hok : r.Ok) (hs : Recs w P (.slice a r.count c) (secs r.count g)) (hPX : ¬ P X) (hnew : ∀ k, w.heap.size ≤ k → P k)
    {b off cp : Nat} {rec : Rec} (hr : Rd w 1 (.slice (some ⟨b, off, none⟩) rec.length cp) rec.length (bv rec)) (hc : rec.length ≤ cp) (hcm : cp ≤ maxLen) (hba : (Value.slice a r.count c).ownBlock ≠ some b) (hbX : b ≠ X) (hb : rec.length ≤ 140737488355328) (hno : refuse r (cutN rec.length) = none) :
    Calls Try.prog 51 #[.pointer (some ⟨X, 0, none⟩), .slice (some ⟨b, off, none⟩) rec.length cp] w fun e w' => e = .returned (.int .i64 0) ∧ XAt w' X (.slice a r.count c) { r with last := r.last + cutN rec.length, top := r.last + cutN rec.length } ∧ Recs w' P (.slice a r.count c) (secs r.count (layG r.count (cutR r.last rec) g)) ∧ Only (fun k => k = X ∨ (Value.slice a r.count c).ownBlock = some k) w w' := by
  have HP := Lib.hid (docpieces_any rec.length w (by omega))
  have HR := Lib.hid (fun q => docroom_any (CellsR.kept hx ((Only.refl None' _).drewN q) fun e => e) hok)
  obtain ⟨ga, ao, ca, x0, ea, -, -, -, -, hga⟩ := hs.at_ (j := 0) (by rw [secs_length]; exact hok.count)
  rw [secs_length] at ea
  injection ea with ea e2 e3
  subst ea
  subst e3
  clear e2
  have HX0 := Lib.hid hx
  have HK := Lib.hid hok
  have HRD := Lib.hid hr
  have HC := Lib.hid (And.intro hc hcm)
  have hab : ga ≠ b := fun e => hba (by rw [e]; rfl)
  have hXg : X ≠ ga := fun e => hPX (e ▸ hga)
  have HG := Lib.hid (And.intro hab (And.intro hXg (And.intro hbX hPX)))
  have HN := Lib.hid hnew
  have HGA := Lib.hid hga
  have HX : Hid (DLoop w w P (.slice (some ⟨ga, ao, none⟩) r.count c) r rec g 0) := ⟨hs, Only.refl _ _⟩
  have c0 := hx.is 0 _ rfl
  have c2 := hx.is 2 _ rfl
  have c3 := hx.is 3 _ rfl
  obtain ⟨h1, h2, h3, h4⟩ := refuse_room hok hno
  have hno2 : ¬ r.room < cutN rec.length := by
    unfold Rg.room
    rw [if_neg (by omega)]
    omega
  have h2' : ¬ r.last < r.top := by omega
  obtain ⟨k1, k2, k3, k4, k5, k6⟩ := hok
  obtain ⟨cn, hcn⟩ : ∃ cn, cn = r.count := ⟨_, rfl⟩
  obtain ⟨la, hla⟩ : ∃ la, la = r.last := ⟨_, rfl⟩
  obtain ⟨tp, htp⟩ : ∃ tp, tp = r.top := ⟨_, rfl⟩
  obtain ⟨m, hm⟩ : ∃ m, m = cutN rec.length := ⟨_, rfl⟩
  obtain ⟨ro, hro⟩ : ∃ ro, ro = r.room := ⟨_, rfl⟩
  have HM := Lib.hid hm
  have HLA := Lib.hid hla
  have HCN := Lib.hid hcn
  have HB := Lib.hid (cutN_bound rec.length)
  rw [← hm] at HP HB h1 h4 hno2
  rw [← hcn] at c0 k1 k2 h1
  rw [← hla] at c2 h4 h2'
  rw [← htp] at c3 h2'
  rw [← hro] at hno2 HR
  have d2 : decide (la < tp) = false := decide_eq_false h2'
  have h1' : ¬ cn < m := Nat.not_lt.2 h1
  obtain ⟨y, h5, e2, e1⟩ := arith51 h4
  have k8 : cn ≤ 65536 := Nat.le_trans (Nat.le_add_left _ _) k2
  have HQ : Hid (m ≤ 65536 ∧ la + m ≤ 4611686018427387904 ∧ 1 ≤ cn ∧ cn ≤ 65536) := ⟨Nat.le_trans h1 k8, h4, k1, k8⟩
  have HLN := Lib.hid hb
  clear hx hs hcn hm hro htp hla k1 k2 k3 k4 k5 k6 h1 h2 h3 h4 h2' hno k8 hr hc hcm hba hbX hb hPX hnew hga hab hXg
  go_enter Try.func51, Try.ntmps51
  go_wp2_with fail
  refine HP.out.mono ?_
  rintro e w1 ⟨rfl, e⟩
  obtain rfl := e
  go_wp2_with fail
  go_quiet (fail)
  go_wp2_with fail
  refine (HR.out nq).mono ?_
  rintro e w1 ⟨rfl, q2, rfl⟩
  go_wp2_with fail
  have HX2 : Hid (DLoop w (w.drewN (nq + q2)) P (.slice (some ⟨ga, ao, none⟩) r.count c) r rec g 0) := ⟨HX.out.s.drewN _, (Only.refl _ _).drewN (nq + q2)⟩
  clear c0 c2 c3 h1' e1 h5 e2 d2 hno2
  go_loopw [6] (fun i wr => ∃ (k : Nat), k ≤ m ∧ i = .int .i64 (k : Int) ∧ Hid (DLoop w wr P (.slice (some ⟨ga, ao, none⟩) r.count c) r rec g k)) (fun i wr => m - (intOf i).toNat)
  case atStart => exact ⟨0, by omega, rfl, HX2⟩
  case round =>
    obtain ⟨k, hk, rfl, HL⟩ := hrel
    have RW0 : XAt wr X (.slice (some ⟨ga, ao, none⟩) r.count c) r := HX0.out.kept HL.out.only fun e => HG.out.2.1 (by injection e with e; exact e.symm)
    by_cases hlt : k < m
    · obtain ⟨L, hL⟩ : ∃ L, L = rec.length := ⟨_, rfl⟩
      have r0 := RW0.is 0 _ rfl
      have r2 := RW0.is 2 _ rfl
      rw [← HLA.out] at r2
      rw [← HCN.out] at r0
      have lR := RW0.lt
      have q1 := HQ.out.1
      have q2' := HQ.out.2
      have hB := HB.out
      have hLL := HLN.out
      have hcc := HC.out
      rw [← hL] at hB hLL hcc
      obtain ⟨l1, hl1⟩ : ∃ l1, l1 = la + 1 := ⟨_, rfl⟩
      obtain ⟨pn, hpn⟩ : ∃ pn, pn = l1 + k := ⟨_, rfl⟩
      obtain ⟨m1, hm1⟩ : ∃ m1, m1 = m - 1 := ⟨_, rfl⟩
      obtain ⟨lb, hlb⟩ : ∃ lb, lb = decide (k + 1 = m) := ⟨_, rfl⟩
      obtain ⟨lo, hlo⟩ : ∃ lo, lo = k * 501 := ⟨_, rfl⟩
      obtain ⟨h0, hh0⟩ : ∃ h0, h0 = lo + 501 := ⟨_, rfl⟩
      obtain ⟨hi, hhi⟩ : ∃ hi, hi = min h0 L := ⟨_, rfl⟩
      have a1 : (la : Int) + 1 = (l1 : Int) := by omega
      have a3 : (l1 : Int) + (k : Int) = (pn : Int) := by omega
      have a5 : (m : Int) - 1 = (m1 : Int) := by omega
      have a7 : ((k : Int) == (m1 : Int)) = lb := by rw [hlb, Bool.eq_iff_iff]; simp; omega
      have a8 : 501 * (k : Int) = (lo : Int) := by omega
      have b1 : (lo : Int) + 501 = (h0 : Int) := by omega
      have b3 : (if (L : Int) < (h0 : Int) then (L : Int) else (h0 : Int)) = (hi : Int) := by split <;> omega
      have hloL : lo ≤ L := by
        rcases Nat.eq_zero_or_pos L with e | e
        · subst e
          have : m = 1 := by rw [HM.out, ← hL]; rfl
          omega
        · have := hB.2 e
          omega
      have b5 : lo ≤ hi := by omega
      have b6 : hi ≤ cp := by omega
      have HW := Lib.hid (show IntKind.i64.wrap (l1 : Int) = (l1 : Int) ∧ IntKind.i64.wrap (pn : Int) = (pn : Int) ∧ IntKind.i64.wrap (m1 : Int) = (m1 : Int) ∧ IntKind.i64.wrap (lo : Int) = (lo : Int) ∧ IntKind.i64.wrap (h0 : Int) = (h0 : Int) from ⟨IntWalk.i64_in _ (by omega), IntWalk.i64_in _ (by omega), IntWalk.i64_in _ (by omega), IntWalk.i64_in _ (by omega), IntWalk.i64_in _ (by omega)⟩)
      have b7 : lo < cp ∨ lo = 0 := by
        rcases Nat.eq_zero_or_pos L with e | e
        · have h3 := HM.out
          rw [← hL, e] at h3
          have h4 : cutN 0 = 1 := rfl
          omega
        · have := hB.2 e
          omega
      have HE := Lib.hid (And.intro hl1 (And.intro hpn (And.intro hm1 (And.intro hlb (And.intro hlo (And.intro hh0 (And.intro hhi hL)))))))
      clear hl1 hpn hm1 hlb hlo hh0 hhi q1 q2' hB hLL hcc hloL
      rw [← hL]
      clear hL
      have HF := Lib.hid (And.intro a1 (And.intro a3 (And.intro a5 (And.intro a7 (And.intro a8 (And.intro b1 (And.intro b3 (And.intro b5 (And.intro b6 b7)))))))))
      clear a1 a3 a5 a7 a8 b1 b3 b5 b6 b7
      have HSS : Hid (∀ w', Only None' wr w' → w'.cell? ⟨X, 2, none⟩ = some (.int .i64 (la : Int))) := fun w' o => (o.cell lR (fun e => e) 2).trans r2
      have HRW := Lib.hid RW0
      clear r0 r2 RW0
      go_upto_region 13 with fail
      go_cut [7] from 43 to 64 (fun p7 wx => ∃ T, p7 = .pointer (some ⟨T, 0, none⟩) ∧ Hid (CellsR wx T [.int .i64 (pn : Int), .bool lb, .slice (some ⟨b, off + lo, none⟩) (hi - lo) (cp - lo)] ∧ Only None' wr wx ∧ wr.heap.size ≤ T))
      case first =>
        as_aux_lemma =>
          refine wp_region_held (S := fun w' => w'.cell? ⟨X, 2, none⟩ = some (.int .i64 (la : Int))) (by kernel_rfl) ?_
          change wpAnyH _ _ _ _ _ _ _ _ (World.drew _)
          have HO : Hid (wr.drew.cell? ⟨X, 2, none⟩ = some (.int .i64 (la : Int)) ∧ Only None' wr wr.drew) := ⟨HSS.out _ (Only.refl _ _).drew, (Only.refl _ _).drew⟩
          obtain ⟨wk, hwk⟩ : ∃ z, z = wr.drew := ⟨_, rfl⟩
          rw [← hwk] at HO ⊢
          clear hwk
          refine held_take 0 (.pointer (some ⟨X, 0, none⟩)) HO.out.1 rfl (by kernel_rfl) (by kernel_rfl) (by kernel_rfl) (fun _ _ _ h => h) (by rfl) (fun w hw => by go_simp) ?_
          simp only [Act.put, List.setIfInBounds_toArray, List.set_cons_zero, List.set_cons_succ]
          refine held_take 1 (.pointer (some ⟨X, 0, none⟩)) HO.out.1 rfl (by kernel_rfl) (by kernel_rfl) (by kernel_rfl) (fun _ _ _ h => h) (by rfl) (fun w hw => by go_simp) ?_
          simp only [Act.put, List.setIfInBounds_toArray, List.set_cons_zero, List.set_cons_succ]
          refine held_take 2 (.pointer (some ⟨X, 2, none⟩)) HO.out.1 rfl (by kernel_rfl) (by kernel_rfl) (by kernel_rfl) (fun _ _ _ h => h) (by rfl) (fun w hw => by go_simp) ?_
          simp only [Act.put, List.setIfInBounds_toArray, List.set_cons_zero, List.set_cons_succ]
          refine held_take 3 (.int .i64 (la : Int)) HO.out.1 rfl (by kernel_rfl) (by kernel_rfl) (by kernel_rfl) (fun _ _ _ h => h) (by rfl) (fun w hw => by have cl : w.cell? ⟨X, 2, none⟩ = some (.int .i64 (la : Int)) := hw; go_simp) ?_
          simp only [Act.put, List.setIfInBounds_toArray, List.set_cons_zero, List.set_cons_succ]
          refine held_take 4 (.int .i64 (l1 : Int)) HO.out.1 rfl (by kernel_rfl) (by kernel_rfl) (by kernel_rfl) (fun _ _ _ h => h) (by rfl) (fun w hw => yields_add w rfl rfl rfl HF.out.1 HW.out.1) ?_
          simp only [Act.put, List.setIfInBounds_toArray, List.set_cons_zero, List.set_cons_succ]
          refine held_take 5 (.int .i64 (k : Int)) HO.out.1 rfl (by kernel_rfl) (by kernel_rfl) (by kernel_rfl) (fun _ _ _ h => h) (by rfl) (fun w hw => by go_simp) ?_
          simp only [Act.put, List.setIfInBounds_toArray, List.set_cons_zero, List.set_cons_succ]
          refine held_take 6 (.int .i64 (pn : Int)) HO.out.1 rfl (by kernel_rfl) (by kernel_rfl) (by kernel_rfl) (fun _ _ _ h => h) (by rfl) (fun w hw => yields_add w rfl rfl rfl HF.out.2.1 HW.out.2.1) ?_
          simp only [Act.put, List.setIfInBounds_toArray, List.set_cons_zero, List.set_cons_succ]
          refine held_take 7 (.int .i64 (k : Int)) HO.out.1 rfl (by kernel_rfl) (by kernel_rfl) (by kernel_rfl) (fun _ _ _ h => h) (by rfl) (fun w hw => by go_simp) ?_
          simp only [Act.put, List.setIfInBounds_toArray, List.set_cons_zero, List.set_cons_succ]
          refine held_take 8 (.int .i64 (m : Int)) HO.out.1 rfl (by kernel_rfl) (by kernel_rfl) (by kernel_rfl) (fun _ _ _ h => h) (by rfl) (fun w hw => by go_simp) ?_
          simp only [Act.put, List.setIfInBounds_toArray, List.set_cons_zero, List.set_cons_succ]
          refine held_take 9 (.int .i64 (m1 : Int)) HO.out.1 rfl (by kernel_rfl) (by kernel_rfl) (by kernel_rfl) (fun _ _ _ h => h) (by rfl) (fun w hw => yields_sub w rfl rfl rfl HF.out.2.2.1 HW.out.2.2.1) ?_
          simp only [Act.put, List.setIfInBounds_toArray, List.set_cons_zero, List.set_cons_succ]
          refine held_take 10 (.bool lb) HO.out.1 rfl (by kernel_rfl) (by kernel_rfl) (by kernel_rfl) (fun _ _ _ h => h) (by rfl) (fun w hw => yields_eql w rfl rfl rfl HF.out.2.2.2.1) ?_
          simp only [Act.put, List.setIfInBounds_toArray, List.set_cons_zero, List.set_cons_succ]
          refine held_take 11 (.slice (some ⟨b, off, none⟩) L cp) HO.out.1 rfl (by kernel_rfl) (by kernel_rfl) (by kernel_rfl) (fun _ _ _ h => h) (by rfl) (fun w hw => by go_simp) ?_
          simp only [Act.put, List.setIfInBounds_toArray, List.set_cons_zero, List.set_cons_succ]
          refine held_take 12 (.int .i64 (k : Int)) HO.out.1 rfl (by kernel_rfl) (by kernel_rfl) (by kernel_rfl) (fun _ _ _ h => h) (by rfl) (fun w hw => by go_simp) ?_
          simp only [Act.put, List.setIfInBounds_toArray, List.set_cons_zero, List.set_cons_succ]
          refine held_take 13 (.int .i64 (lo : Int)) HO.out.1 rfl (by kernel_rfl) (by kernel_rfl) (by kernel_rfl) (fun _ _ _ h => h) (by rfl) (fun w hw => yields_mul w rfl rfl rfl HF.out.2.2.2.2.1 HW.out.2.2.2.1) ?_
          simp only [Act.put, List.setIfInBounds_toArray, List.set_cons_zero, List.set_cons_succ]
          refine held_take 14 (.int .i64 (k : Int)) HO.out.1 rfl (by kernel_rfl) (by kernel_rfl) (by kernel_rfl) (fun _ _ _ h => h) (by rfl) (fun w hw => by go_simp) ?_
          simp only [Act.put, List.setIfInBounds_toArray, List.set_cons_zero, List.set_cons_succ]
          refine held_take 15 (.int .i64 (lo : Int)) HO.out.1 rfl (by kernel_rfl) (by kernel_rfl) (by kernel_rfl) (fun _ _ _ h => h) (by rfl) (fun w hw => yields_mul w rfl rfl rfl HF.out.2.2.2.2.1 HW.out.2.2.2.1) ?_
          simp only [Act.put, List.setIfInBounds_toArray, List.set_cons_zero, List.set_cons_succ]
          refine held_take 16 (.int .i64 (h0 : Int)) HO.out.1 rfl (by kernel_rfl) (by kernel_rfl) (by kernel_rfl) (fun _ _ _ h => h) (by rfl) (fun w hw => yields_add w rfl rfl rfl HF.out.2.2.2.2.2.1 HW.out.2.2.2.2) ?_
          simp only [Act.put, List.setIfInBounds_toArray, List.set_cons_zero, List.set_cons_succ]
          refine held_take 17 (.slice (some ⟨b, off, none⟩) L cp) HO.out.1 rfl (by kernel_rfl) (by kernel_rfl) (by kernel_rfl) (fun _ _ _ h => h) (by rfl) (fun w hw => by go_simp) ?_
          simp only [Act.put, List.setIfInBounds_toArray, List.set_cons_zero, List.set_cons_succ]
          refine held_take 18 (.int .i64 (L : Int)) HO.out.1 rfl (by kernel_rfl) (by kernel_rfl) (by kernel_rfl) (fun _ _ _ h => h) (by rfl) (fun w hw => by go_simp) ?_
          simp only [Act.put, List.setIfInBounds_toArray, List.set_cons_zero, List.set_cons_succ]
          refine held_take 19 (.int .i64 (hi : Int)) HO.out.1 rfl (by kernel_rfl) (by kernel_rfl) (by kernel_rfl) (fun _ _ _ h => h) (by rfl) (fun w hw => yields_min w rfl rfl rfl HF.out.2.2.2.2.2.2.1) ?_
          simp only [Act.put, List.setIfInBounds_toArray, List.set_cons_zero, List.set_cons_succ]
          refine held_take 20 (.slice (some ⟨b, off + lo, none⟩) (hi - lo) (cp - lo)) HO.out.1 rfl (by kernel_rfl) (by kernel_rfl) (by kernel_rfl) (fun _ _ _ h => h) (by rfl) (fun w hw => yields_slice34 w rfl rfl rfl rfl HF.out.2.2.2.2.2.2.2.1 HF.out.2.2.2.2.2.2.2.2.1 HF.out.2.2.2.2.2.2.2.2.2) ?_
          simp only [Act.put, List.setIfInBounds_toArray, List.set_cons_zero, List.set_cons_succ]
          refine held_take 21 (.agg #[.int .i64 (pn : Int), .bool lb, .slice (some ⟨b, off + lo, none⟩) (hi - lo) (cp - lo)]) HO.out.1 rfl (by kernel_rfl) (by kernel_rfl) (by kernel_rfl) (fun _ _ _ h => h) (by rfl) (fun w hw => by go_simp) ?_
          simp only [Act.put, List.setIfInBounds_toArray, List.set_cons_zero, List.set_cons_succ]
          refine held_one (i := 22) rfl (by kernel_rfl) (by rfl) fun K hK => ?_
          go_simp
          refine hK _ _ (HSS.out _ (HO.out.2.alloc _)) ?_
          clear hK K
          refine held_one (i := 23) rfl (by kernel_rfl) (by rfl) fun K hK => ?_
          go_simp
          refine hK _ _ ?_ ?_
          · exact HSS.out _ (HO.out.2.alloc (.cells #[.int .i64 (pn : Int), .bool lb, .slice (some ⟨b, off + lo, none⟩) (hi - lo) (cp - lo)] 83))
          clear hK K
          refine held_done (by kernel_rfl) ?_ _
          go_wp2_with fail
          go_meet
          refine ⟨wk.heap.size, rfl, Lib.hid ⟨?_, HO.out.2.alloc _, HO.out.2.size⟩⟩
          exact cells_new wk [.int .i64 (pn : Int), .bool lb, .slice (some ⟨b, off + lo, none⟩) (hi - lo) (cp - lo)] 83
      case rest =>
        obtain ⟨T, rfl, HT⟩ := hcut
        obtain ⟨sx, hsx⟩ : ∃ s, s = (cutAt la rec k).lay := ⟨_, rfl⟩
        have hok : (cutAt la rec k).Ok := cutAt_ok (by rw [← HM.out]; exact hlt) (by rw [← HM.out]; exact HQ.out.2.1)
        have hs512 : sx.length = 512 := by rw [hsx]; exact Pc.lay_length _ hok.size
        obtain ⟨wk, hwk⟩ : ∃ wk, wk = wc.drew := ⟨_, rfl⟩
        have ok4 : Only None' wc wk := by rw [hwk]; exact (Only.refl _ _).drew
        have HWK := Lib.hid hwk
        have TW := HT.out.1.kept ok4 fun e => e
        have XW := HRW.out.kept (HT.out.2.1.trans ok4) fun e => e
        have hsec : Calls Try.prog 53 #[.agg #[.int .i64 (pn : Int), .bool lb, .slice (some ⟨b, off + lo, none⟩) (hi - lo) (cp - lo)]] wk fun e w' => ∃ gs, e = .returned (.slice (some ⟨gs, 0, none⟩) 512 512) ∧ Vec w' 1 (.slice (some ⟨gs, 0, none⟩) 512 512) 512 (bv sx) ∧ wk.heap.size ≤ gs ∧ Only None' wk w' := by
          obtain ⟨e1, e2, e3, e4, e5, e6, e7, e8⟩ := HE.out
          have hr1 : Rd wk 1 (.slice (some ⟨b, off, none⟩) L cp) rec.length (bv rec) := by
            rw [e8]
            refine ((HRD.out.only HL.out.only fun _ j hj _ e => ?_).only HT.out.2.1 fun _ _ _ _ e => e).only ok4 fun _ _ _ _ e => e
            injection hj with hj
            injection e with e
            exact HG.out.1 (e.trans hj.symm)
          have hlen : hi - lo = ((rec.drop lo).take 501).length := by
            rw [List.length_take, List.length_drop, ← e8]
            omega
          have hcc := HC.out.2
          have := docsector_any wk (cutAt la rec k) hok.top hok.size (.slice (some ⟨b, off + lo, none⟩) (hi - lo) (cp - lo)) (by
            have h5 : 501 * k = lo := by omega
            show Rd wk 1 _ ((rec.drop (501 * k)).take 501).length (bv ((rec.drop (501 * k)).take 501))
            rw [h5]
            exact rd_cut hr1 lo (hi - lo) (by have := HF.out.2.2.2.2.2.2.2.2.1; omega) (by omega) hlen)
          rw [← hsx] at this
          have f1 : ((cutAt la rec k).n : Int) = (pn : Int) := by show ((la + 1 + k : Nat) : Int) = _; omega
          have f2 : (cutAt la rec k).last = lb := by rw [e4, HM.out]; rfl
          rw [f1, f2] at this
          exact this
        have HSEC := Lib.hid hsec
        have HSX := Lib.hid (And.intro hsx (And.intro hs512 hok))
        obtain ⟨pl, hpl⟩ : ∃ pl, pl = pn % cn := ⟨_, rfl⟩
        have hcnp := HQ.out.2.2
        have hplt : pl < cn := by rw [hpl]; exact Nat.mod_lt _ (by omega)
        have HPL := Lib.hid (show ¬ (cn : Int) = 0 ∧ (pn : Int).tmod (cn : Int) = (pl : Int) ∧ IntKind.i64.wrap (pl : Int) = (pl : Int) ∧ (0 : Int) ≤ (pl : Int) ∧ (pl : Int) < (cn : Int) from ⟨by omega, by rw [hpl]; rfl, IntWalk.i64_in _ (by omega), by omega, by omega⟩)
        have HPE := Lib.hid (And.intro hpl hplt)
        have HKEEP : Hid (∀ w', Only None' wk w' → w'.cell? ⟨X, 0, none⟩ = some (.slice (some ⟨ga, ao, none⟩) cn c) ∧ w'.cell? ⟨T, 0, none⟩ = some (.int .i64 (pn : Int)) ∧ w'.cell? ⟨T, 1, none⟩ = some (.bool lb) ∧ w'.cell? ⟨T, 2, none⟩ = some (.slice (some ⟨b, off + lo, none⟩) (hi - lo) (cp - lo))) := fun w' o => by
          have x1 := (XW.kept o fun e => e).is 0 _ rfl
          have t1 := TW.kept o fun e => e
          rw [← HCN.out] at x1
          exact ⟨x1, t1.is 0 _ rfl, t1.is 1 _ rfl, t1.is 2 _ rfl⟩
        have hTg : T ≠ ga := fun e => by
          have h1 := HL.out.s.own ga rfl
          obtain ⟨_, xs, h2, _⟩ := HL.out.s
          have h3 := h2.lt (k := ga) rfl
          have h4 := HT.out.2.2
          omega
        have HKEEP2 : Hid (∀ w', Only (fun j => j = ga) wk w' → w'.cell? ⟨X, 0, none⟩ = some (.slice (some ⟨ga, ao, none⟩) cn c) ∧ w'.cell? ⟨T, 0, none⟩ = some (.int .i64 (pn : Int)) ∧ w'.cell? ⟨T, 1, none⟩ = some (.bool lb) ∧ w'.cell? ⟨T, 2, none⟩ = some (.slice (some ⟨b, off + lo, none⟩) (hi - lo) (cp - lo))) := fun w' o => by
          have x1 := (XW.kept o fun e => HG.out.2.1 e).is 0 _ rfl
          have t1 := TW.kept o fun e => hTg e
          rw [← HCN.out] at x1
          exact ⟨x1, t1.is 0 _ rfl, t1.is 1 _ rfl, t1.is 2 _ rfl⟩
        have hRk : Recs wk P (.slice (some ⟨ga, ao, none⟩) cn c) (secs cn (layG cn ((cutR la rec).take k) g)) := by
          have := (HL.out.s.only HT.out.2.1 fun _ _ e => e).only ok4 fun _ _ e => e
          rw [← HCN.out, ← HLA.out] at this
          exact this
        have HTH : Hid (∀ w', Only None' wk w' → (w'.cell? ⟨ga, ao + pl, none⟩).isSome = true ∧ w'.frozen? ⟨ga, ao + pl, none⟩ = false) := fun w' o => by
          obtain ⟨_, xs, h2, _⟩ := hRk.only o fun _ _ e => e
          rw [secs_length] at h2
          obtain ⟨g', o', c', e, q1, q2, q3, q4, q5⟩ := h2.at_ (by omega)
          injection e with e _ e3
          injection e with e
          injection e with e1 e2
          subst e1 e2 e3
          exact q5 pl (by omega)
        have HO : Hid ((wk.cell? ⟨X, 0, none⟩ = some (.slice (some ⟨ga, ao, none⟩) cn c) ∧ wk.cell? ⟨T, 0, none⟩ = some (.int .i64 (pn : Int)) ∧ wk.cell? ⟨T, 1, none⟩ = some (.bool lb) ∧ wk.cell? ⟨T, 2, none⟩ = some (.slice (some ⟨b, off + lo, none⟩) (hi - lo) (cp - lo))) ∧ True) := ⟨HKEEP.out _ (Only.refl _ _), trivial⟩
        have HRK := Lib.hid (And.intro hRk (And.intro (HT.out.2.1.trans ok4) ok4))
        clear hsx hok hs512 hwk ok4 TW XW hsec hpl hcnp hplt hTg hRk
        go_upto_region 14 with fail
        clear HSS
        as_aux_lemma =>
          refine wp_region_held (S := fun w' => w'.cell? ⟨X, 0, none⟩ = some (.slice (some ⟨ga, ao, none⟩) cn c) ∧ w'.cell? ⟨T, 0, none⟩ = some (.int .i64 (pn : Int)) ∧ w'.cell? ⟨T, 1, none⟩ = some (.bool lb) ∧ w'.cell? ⟨T, 2, none⟩ = some (.slice (some ⟨b, off + lo, none⟩) (hi - lo) (cp - lo))) (by kernel_rfl) ?_
          change wpAnyH _ _ _ _ _ _ _ _ (World.drew _)
          rw [← HWK.out]
          refine held_take 0 (.pointer (some ⟨X, 0, none⟩)) HO.out.1 rfl (by kernel_rfl) (by kernel_rfl) (by kernel_rfl) (fun _ _ _ h => h) (by rfl) (fun w hw => by go_simp) ?_
          simp only [Act.put, List.setIfInBounds_toArray, List.set_cons_zero, List.set_cons_succ]
          refine held_take 1 (.pointer (some ⟨X, 0, none⟩)) HO.out.1 rfl (by kernel_rfl) (by kernel_rfl) (by kernel_rfl) (fun _ _ _ h => h) (by rfl) (fun w hw => by go_simp) ?_
          simp only [Act.put, List.setIfInBounds_toArray, List.set_cons_zero, List.set_cons_succ]
          refine held_take 2 (.pointer (some ⟨X, 0, none⟩)) HO.out.1 rfl (by kernel_rfl) (by kernel_rfl) (by kernel_rfl) (fun _ _ _ h => h) (by rfl) (fun w hw => by go_simp) ?_
          simp only [Act.put, List.setIfInBounds_toArray, List.set_cons_zero, List.set_cons_succ]
          refine held_take 3 (.slice (some ⟨ga, ao, none⟩) cn c) HO.out.1 rfl (by kernel_rfl) (by kernel_rfl) (by kernel_rfl) (fun _ _ _ h => h) (by rfl) (fun w hw => by have cl : w.cell? ⟨X, 0, none⟩ = some (.slice (some ⟨ga, ao, none⟩) cn c) := hw.1; go_simp) ?_
          simp only [Act.put, List.setIfInBounds_toArray, List.set_cons_zero, List.set_cons_succ]
          refine held_take 4 (.pointer (some ⟨T, 0, none⟩)) HO.out.1 rfl (by kernel_rfl) (by kernel_rfl) (by kernel_rfl) (fun _ _ _ h => h) (by rfl) (fun w hw => by go_simp) ?_
          simp only [Act.put, List.setIfInBounds_toArray, List.set_cons_zero, List.set_cons_succ]
          refine held_take 5 (.int .i64 (pn : Int)) HO.out.1 rfl (by kernel_rfl) (by kernel_rfl) (by kernel_rfl) (fun _ _ _ h => h) (by rfl) (fun w hw => by have cl : w.cell? ⟨T, 0, none⟩ = some (.int .i64 (pn : Int)) := hw.2.1; go_simp) ?_
          simp only [Act.put, List.setIfInBounds_toArray, List.set_cons_zero, List.set_cons_succ]
          refine held_take 6 (.pointer (some ⟨X, 0, none⟩)) HO.out.1 rfl (by kernel_rfl) (by kernel_rfl) (by kernel_rfl) (fun _ _ _ h => h) (by rfl) (fun w hw => by go_simp) ?_
          simp only [Act.put, List.setIfInBounds_toArray, List.set_cons_zero, List.set_cons_succ]
          refine held_take 7 (.pointer (some ⟨X, 0, none⟩)) HO.out.1 rfl (by kernel_rfl) (by kernel_rfl) (by kernel_rfl) (fun _ _ _ h => h) (by rfl) (fun w hw => by go_simp) ?_
          simp only [Act.put, List.setIfInBounds_toArray, List.set_cons_zero, List.set_cons_succ]
          refine held_take 8 (.pointer (some ⟨X, 0, none⟩)) HO.out.1 rfl (by kernel_rfl) (by kernel_rfl) (by kernel_rfl) (fun _ _ _ h => h) (by rfl) (fun w hw => by go_simp) ?_
          simp only [Act.put, List.setIfInBounds_toArray, List.set_cons_zero, List.set_cons_succ]
          refine held_take 9 (.slice (some ⟨ga, ao, none⟩) cn c) HO.out.1 rfl (by kernel_rfl) (by kernel_rfl) (by kernel_rfl) (fun _ _ _ h => h) (by rfl) (fun w hw => by have cl : w.cell? ⟨X, 0, none⟩ = some (.slice (some ⟨ga, ao, none⟩) cn c) := hw.1; go_simp) ?_
          simp only [Act.put, List.setIfInBounds_toArray, List.set_cons_zero, List.set_cons_succ]
          refine held_take 10 (.int .i64 (cn : Int)) HO.out.1 rfl (by kernel_rfl) (by kernel_rfl) (by kernel_rfl) (fun _ _ _ h => h) (by rfl) (fun w hw => by go_simp) ?_
          simp only [Act.put, List.setIfInBounds_toArray, List.set_cons_zero, List.set_cons_succ]
          refine held_take 11 (.int .i64 (pl : Int)) HO.out.1 rfl (by kernel_rfl) (by kernel_rfl) (by kernel_rfl) (fun _ _ _ h => h) (by rfl) (fun w hw => yields_rem w rfl rfl rfl HPL.out.1 HPL.out.2.1 HPL.out.2.2.1) ?_
          simp only [Act.put, List.setIfInBounds_toArray, List.set_cons_zero, List.set_cons_succ]
          refine held_take 12 (.agg #[.int .i64 (pn : Int), .bool lb, .slice (some ⟨b, off + lo, none⟩) (hi - lo) (cp - lo)]) HO.out.1 rfl (by kernel_rfl) (by kernel_rfl) (by kernel_rfl) (fun _ _ _ h => h) (by rfl) (fun w hw => by have cl0 : w.cell? ⟨T, 0, none⟩ = some (.int .i64 (pn : Int)) := hw.2.1; have cl1 : w.cell? ⟨T, 1, none⟩ = some (.bool lb) := hw.2.2.1; have cl2 : w.cell? ⟨T, 2, none⟩ = some (.slice (some ⟨b, off + lo, none⟩) (hi - lo) (cp - lo)) := hw.2.2.2; go_simp) ?_
          simp only [Act.put, List.setIfInBounds_toArray, List.set_cons_zero, List.set_cons_succ]
          refine held_one (i := 13) rfl (by kernel_rfl) (by rfl) fun K hK => ?_
          go_simp
          refine HSEC.out.mono ?_
          rintro e w3 ⟨gs, rfl, hv3, hg3, o3⟩
          go_simp
          refine hK _ _ (HKEEP.out _ o3) ?_
          clear hK K
          have HV3 := Lib.hid (And.intro hv3 (And.intro hg3 o3))
          have fz := HTH.out w3 o3
          clear hv3 hg3 o3
          refine held_take 14 (.pointer (some ⟨ga, ao + pl, none⟩)) (HKEEP.out _ HV3.out.2.2) rfl (by kernel_rfl) (by kernel_rfl) (by kernel_rfl) (fun _ _ _ h => h) (by rfl) (fun w hw => by have i0 := HPL.out.2.2.2.1; have i1 := HPL.out.2.2.2.2; go_simp) ?_
          simp only [Act.put, List.setIfInBounds_toArray, List.set_cons_zero, List.set_cons_succ]
          refine held_one (i := 15) rfl (by kernel_rfl) (by rfl) fun K hK => ?_
          obtain ⟨u, hu⟩ := Option.isSome_iff_exists.1 fz.1
          have fz2 := fz.2
          go_simp
          refine hK _ _ ?_ ?_
          · exact HKEEP2.out _ (((HV3.out.2.2.mono fun _ _ e => e.elim)).trans ((Only.refl (fun j => j = ga) w3).setCell (p := ⟨ga, ao + pl, none⟩) rfl _))
          clear hK K fz fz2 hu
          have HNX : Hid (DLoop w (w3.setCell ⟨ga, ao + pl, none⟩ (.slice (some ⟨gs, 0, none⟩) 512 512)) P (.slice (some ⟨ga, ao, none⟩) r.count c) r rec g (k + 1)) := by
            have h1 : Recs w3 P (.slice (some ⟨ga, ao, none⟩) cn c) (secs cn (layG cn ((cutR la rec).take k) g)) := HRK.out.1.only HV3.out.2.2 fun _ _ e => e
            have hl := secs_length cn (layG cn ((cutR la rec).take k) g)
            have hgl : ga < wk.heap.size := by
              obtain ⟨_, xs, h2, _⟩ := HRK.out.1
              exact h2.lt (k := ga) rfl
            have hbig : w.heap.size ≤ wk.heap.size := by have := HL.out.only.size; have := HRK.out.2.1.size; omega
            have h2 := Recs.put (rs := secs cn (layG cn ((cutR la rec).take k) g)) (i := pl) (x := .slice (some ⟨gs, 0, none⟩) 512 512) (s := sx) (c := c) (g := ga) (off := ao) (P := P) (w := w3) (by rw [hl]; exact h1) (by rw [hl]; exact HPE.out.2) (by rw [HSX.out.2.1]; exact HV3.out.1) (fun j hj => by
              injection hj with hj
              have hj : gs = j := hj
              have := HV3.out.2.1
              exact ⟨HN.out j (by omega), by omega⟩)
            rw [hl, secs_set] at h2
            have hn : (cutAt la rec k).n = pn := by
              have h1 := HE.out.1
              have h2 := HE.out.2.1
              show la + 1 + k = pn
              omega
            have hg : setG (layG cn ((cutR la rec).take k) g) pl sx = layG cn ((cutR la rec).take (k + 1)) g := by
              rw [cutR_take la rec (by rw [← HM.out]; exact hlt), layG_snoc, hn, ← HPE.out.1, HSX.out.1]
            rw [hg] at h2
            refine ⟨by rw [← HCN.out, ← HLA.out]; exact h2, ?_⟩
            have o1 : Only None' wr w3 := HRK.out.2.1.trans HV3.out.2.2
            exact (HL.out.only.trans2 o1 fun _ _ e => e.elim).trans2 ((Only.refl (fun j => j = ga) w3).setCell (p := ⟨ga, ao + pl, none⟩) rfl _) fun j _ e => by rw [e]; rfl
          refine held_done (by kernel_rfl) ?_ _
          go_wp2_with fail
          go_roundw
          case rel => exact ⟨k + 1, by omega, next_int (by have := HQ.out.1; omega), HNX⟩
          case measure => exact meas hlt (by have := HQ.out.1; omega)
    · obtain rfl : k = m := by omega
      have r2 := RW0.is 2 _ rfl
      rw [← HLA.out] at r2
      have r3 := RW0.is 3 _ rfl
      have rz := RW0.thaw
      have lR := RW0.lt
      have HRW := Lib.hid RW0
      obtain ⟨lm, hlm⟩ : ∃ lm, lm = la + k := ⟨_, rfl⟩
      have a1 : (la : Int) + (k : Int) = (lm : Int) := by omega
      have HB2 := Lib.hid (show wrap64 (lm : Int) = (lm : Int) from IntWalk.wrap64_in _ (by have := HQ.out.2; omega))
      have HLM := Lib.hid hlm
      have a2 := HB2.out
      clear hlt hk hlm RW0
      go_wp2_with fail
      go_ret
      have os : Only (fun j => j = X) wr ((wr.setCell ⟨X, 2, none⟩ (.int .i64 (lm : Int))).setCell ⟨X, 3, none⟩ (.int .i64 (lm : Int))) := ((Only.refl (fun j => j = X) wr).setCell (p := ⟨X, 2, none⟩) rfl _).setCell (p := ⟨X, 3, none⟩) rfl _
      have hlm2 : r.last + cutN rec.length = lm := by rw [HLM.out, HLA.out, HM.out]
      have hs := HL.out.s
      rw [List.take_of_length_le (by rw [cutR_length, HM.out]; exact Nat.le_refl _)] at hs
      refine ⟨rfl, ?_, hs.only os fun j hj e => HG.out.2.2.2 (e ▸ hj), ?_⟩
      · have := (HRW.out.set (i := 2) (by simp) (.int .i64 (lm : Int))).set (i := 3) (by simp) (.int .i64 (lm : Int))
        rw [hlm2]
        exact this
      · exact (HL.out.only.mono fun j _ e => Or.inr e).trans (os.mono fun j _ e => Or.inl e)
theorem docappend_any {w : World} {P : Nat → Prop} {X : Nat} {a : Option Addr} {c : Nat} {r : Rg} {g : Nat → Sec} (hx : XAt w X (.slice a r.count c) r) (hok : r.Ok) (hs : Recs w P (.slice a r.count c) (secs r.count g)) (hPX : ¬ P X) (hnew : ∀ k, w.heap.size ≤ k → P k)
    {b off m cp : Nat} {rec : Rec} (hm : rec.length = m) (hr : Rd w 1 (.slice (some ⟨b, off, none⟩) m cp) rec.length (bv rec)) (hc : m ≤ cp) (hcm : cp ≤ maxLen) (hba : (Value.slice a r.count c).ownBlock ≠ some b) (hbX : b ≠ X) (hb : m ≤ 140737488355328) :
    Calls Try.prog 51 #[.pointer (some ⟨X, 0, none⟩), .slice (some ⟨b, off, none⟩) m cp] w fun e w' => ∃ code r' g', e = .returned (.int .i64 code) ∧ XAt w' X (.slice a r.count c) r' ∧ Recs w' P (.slice a r.count c) (secs r.count g') ∧ Only (fun k => k = X ∨ (Value.slice a r.count c).ownBlock = some k) w w' ∧
      ((refuse r (cutN m) = some code ∧ r' = r ∧ g' = g) ∨ (refuse r (cutN m) = none ∧ code = 0 ∧ r' = { r with last := r.last + cutN m, top := r.last + cutN m } ∧ g' = layG r.count (cutR r.last rec) g)) := by
  subst hm
  cases hf : refuse r (cutN rec.length) with
  | some cd =>
    refine (docappend_no hx hok (some ⟨b, off, none⟩) rec.length cp hb hf).mono ?_
    rintro e w' ⟨rfl, q, rfl⟩
    have o : Only None' w (w.drewN q) := (Only.refl _ _).drewN q
    exact ⟨cd, r, g, rfl, hx.kept o fun e => e, hs.only o fun _ _ e => e, o.mono fun _ _ e => e.elim, Or.inl ⟨rfl, rfl, rfl⟩⟩
  | none =>
    refine (docappend_go hx hok hs hPX hnew hr hc hcm hba hbX hb hf).mono ?_
    rintro e w' ⟨rfl, h1, h2, h3⟩
    exact ⟨0, _, _, rfl, h1, h2, h3, Or.inr ⟨rfl, rfl, rfl, rfl⟩⟩
end Go.Proofs.Yteoeaojebklfjaa
namespace Go.Proofs.Yteoeaojebklfjaa
open Go.RowKit Go.Maps
set_option linter.unusedVariables false

section
variable {P : Program} {w : World}
theorem wp_append_any {o : Oper} {a : Act} {K : Act → World → Prop} {Q : Exit → Act → World → Prop} (s x : Operand) (t : TypeId)
    (ho : o.op = .call { callee := .builtin .append, args := #[s, x], argTypes := #[t, t] })
    (e : TypeId) (i : TypeInfo) (z : Value) (size bytes : Nat) (ht : P.underlying t = some (.slice e)) (hi : P.info? e = some i) (hz : i.zero = some z)
    (hsize : i.size = size) (hby : i.bytes = bytes) (hzs : z.cells.size = size) (hsz : 0 < size)
    (v1 : Value) (n : Nat) (xs : List Value) (hs : a.eval s = v1) (hv : Vec w size v1 n xs)
    (v : Value) (m : Nat) (news : List Value) (hx : a.eval x = v) (hr : Rd w size v m news) (h1 : ∀ u ∈ news, u.oneCell' = true)
    (h63 : n + m ≤ maxLen) (hbytes : (n + m) * bytes ≤ 140737488355328)
    (h : ∀ v' w', Vec w' size v' (n + m) (xs ++ news) → w.grownBy w' v1.ownBlock → (∀ k, v'.ownBlock = some k → v1.ownBlock = some k ∨ w.heap.size ≤ k) → K (a.put o.dst v') w') : Oper.wp P o a w K Q := by
  obtain ⟨v', w', hrun, h2, h3, h4⟩ := run_append_any (P := P) (w := w) t o.type e i z size bytes ht hi hz hsize hby hzs hsz v1 n xs hv v m news hr h1 h63 hbytes
  unfold Oper.wp execOp
  simp only [ho, resolve, invoke, builtin, Sem.run_bind, Sem.run_pure, Result.andThen_ok, List.map_toArray, List.map_cons, List.map_nil, hs, hx, hrun]
  exact h v' w' h2 h3 h4
end
theorem only_fresh {w wk w2 : World} {gb : Nat} (O : Only None' w wk) (hb : w.heap.size ≤ gb) (hg : wk.grownBy w2 (Value.slice (some ⟨gb, 0, none⟩) 0 0).ownBlock) : Only None' w w2 :=
  O.trans2 ((Only.refl (fun j => j = gb) wk).grown hg fun k hk => by injection hk with hk; exact hk.symm) fun k hk e => by omega
theorem own_fresh {w wk : World} {gb : Nat} {v' : Value} (O : Only None' w wk) (hb : w.heap.size ≤ gb) (hf : ∀ k, v'.ownBlock = some k → (Value.slice (some ⟨gb, 0, none⟩) 0 0).ownBlock = some k ∨ wk.heap.size ≤ k) : ∀ k, v'.ownBlock = some k → w.heap.size ≤ k := fun k hk => by
  rcases hf k hk with h1 | h1
  · injection h1 with h1
    have h1 : gb = k := h1
    omega
  · exact Nat.le_trans O.size h1

/-- at a round's head: k sectors are copied and read -/
structure OpLoop (w wr : World) (X first count base : Nat) (g : Nat → Sec) (k : Nat) (a : Option Addr) (c : Nat) : Prop where
  only : Only None' w wr
  x : XAt wr X (.slice a k c) (Rg.at_ first count base g k)
  s : Recs wr (fun j => w.heap.size ≤ j ∧ j ≠ X) (.slice a k c) (secs k g)
  new : w.heap.size ≤ X
/-- ... copied, not yet read -/
structure OpMid (w wr : World) (X first count base : Nat) (g : Nat → Sec) (k : Nat) (a : Option Addr) (c : Nat) : Prop where
  only : Only None' w wr
  x : XAt wr X (.slice a (k + 1) c) (Rg.at_ first count base g k)
  s : Recs wr (fun j => w.heap.size ≤ j ∧ j ≠ X) (.slice a (k + 1) c) (secs (k + 1) g)
theorem secs_succ (k : Nat) (g : Nat → Sec) : secs (k + 1) g = secs k g ++ [g k] := by unfold secs; rw [List.range_succ, List.map_append]; rfl
section
variable {w wr wb w8 : World} {X first count base k : Nat} {g : Nat → Sec} {a a2 : Option Addr} {c c2 : Nat} {v1 : Value} {xs : List Value}
theorem OpLoop.push (h : OpLoop w wr X first count base g k a c) (O : Only None' wr wb) (hv1 : Vec wb 1 v1 512 (bv (g k))) (hf1 : ∀ j, v1.ownBlock = some j → wr.heap.size ≤ j) (hgk : (g k).length = 512)
    (own : ∀ j, (Value.slice a k c).ownBlock = some j → w.heap.size ≤ j ∧ j ≠ X) (hrow : ∀ (i : Nat) (hi : i < (secs k g).length), ∃ x, xs[i]? = some x ∧ Vec wb 1 x (secs k g)[i].length (bv (secs k g)[i]) ∧ ∀ j, x.ownBlock = some j → (w.heap.size ≤ j ∧ j ≠ X) ∧ (Value.slice a k c).ownBlock ≠ some j)
    (hlx : xs.length = k) (hx : Vec wb 1 (.slice a k c) k xs) (hv2 : Vec w8 1 (.slice a2 (k + 1) c2) (k + 1) (xs ++ [v1])) (hg2 : wb.grownBy w8 (Value.slice a k c).ownBlock) (hf2 : ∀ j, (Value.slice a2 (k + 1) c2).ownBlock = some j → (Value.slice a k c).ownBlock = some j ∨ wb.heap.size ≤ j) :
    Only None' w w8 ∧ XAt w8 X (.slice a k c) (Rg.at_ first count base g k) ∧ ∀ v, v = .slice a2 (k + 1) c2 → OpMid w (w8.setCell ⟨X, 0, none⟩ v) X first count base g k a2 c2 := by
  have o8 : Only (fun j => (Value.slice a k c).ownBlock = some j) wb w8 := (Only.refl _ wb).grown hg2 fun k hk => hk
  have hX := h.x.lt
  have hOs := O.size
  have hws := h.only.size
  have hx8 : XAt w8 X (.slice a k c) (Rg.at_ first count base g k) := (h.x.kept O fun e => e).kept o8 fun e => (own X e).2 rfl
  have o1 : Only None' w w8 := (h.only.trans O).trans2 o8 fun j hj e => by have := (own j e).1; omega
  have hl : (secs k g).length = k := secs_length k g
  have hr8 : Recs w8 (fun j => w.heap.size ≤ j ∧ j ≠ X) (.slice a2 (k + 1) c2) (secs (k + 1) g) := by
    rw [secs_succ]
    refine Recs.push (w := wb) (x := v1) (xs := xs) own hrow (by rw [hl]; exact hv2) (by rw [hl]; exact hlx) hg2 hf2 (by rw [hgk]; exact hv1) (fun j hj => ?_) fun j hj => ⟨by omega, by omega⟩
    have h1 := hf1 j hj
    refine ⟨⟨by omega, by omega⟩, fun e => ?_⟩
    have h2 := h.s.rows
    obtain ⟨ys, hy, _⟩ := h2
    have := hy.lt e
    omega
  refine ⟨o1, hx8, fun v hv => ?_⟩
  subst hv
  have os : Only (fun j => j = X) w8 (w8.setCell ⟨X, 0, none⟩ (.slice a2 (k + 1) c2)) := (Only.refl (fun j => j = X) w8).setCell (p := ⟨X, 0, none⟩) rfl _
  exact ⟨o1.trans2 os fun j hj e => by have := h.new; omega, hx8.set (i := 0) (by simp) _, hr8.only os fun j hj e => hj.2 e⟩
theorem OpMid.stay (h : OpMid w wr X first count base g k a c) (o : Only None' wr wb) (hnew : w.heap.size ≤ X) (hs : seeG count g k = none) : OpLoop w wb X first count base g (k + 1) a c := by
  have e : Rg.at_ first count base g (k + 1) = Rg.at_ first count base g k := by unfold Rg.at_; simp [topG, hs]
  exact ⟨h.only.trans o, by rw [e]; exact h.x.kept o fun e => e, h.s.only o fun _ _ e => e, hnew⟩
theorem OpMid.less (h : OpMid w wr X first count base g k a c) (o : Only None' wr wb) (hnew : w.heap.size ≤ X) {p : Pc} (hs : seeG count g k = some p) (hl : ¬ topG count g base k < p.n) : OpLoop w wb X first count base g (k + 1) a c := by
  have e : Rg.at_ first count base g (k + 1) = Rg.at_ first count base g k := by
    unfold Rg.at_
    have : topG count g base (k + 1) = topG count g base k := by simp only [topG, hs]; exact Nat.max_eq_left (by omega)
    rw [this]
  exact ⟨h.only.trans o, by rw [e]; exact h.x.kept o fun e => e, h.s.only o fun _ _ e => e, hnew⟩
theorem OpMid.more (h : OpMid w wr X first count base g k a c) (o : Only None' wr wb) (hnew : w.heap.size ≤ X) {p : Pc} (hs : seeG count g k = some p) (hl : topG count g base k < p.n) : OpLoop w (wb.setCell ⟨X, 3, none⟩ (.int .i64 (p.n : Int))) X first count base g (k + 1) a c := by
  have e : topG count g base (k + 1) = p.n := by simp only [topG, hs]; exact Nat.max_eq_right (by omega)
  have os : Only (fun j => j = X) wb (wb.setCell ⟨X, 3, none⟩ (.int .i64 (p.n : Int))) := (Only.refl (fun j => j = X) wb).setCell (p := ⟨X, 3, none⟩) rfl _
  refine ⟨(h.only.trans o).trans2 os fun j hj e => by omega, ?_, (h.s.only o fun _ _ e => e).only os fun j hj e => hj.2 e, hnew⟩
  have := (h.x.kept o fun e => e).set (i := 3) (by simp) (.int .i64 (p.n : Int))
  unfold Rg.at_
  rw [e]
  exact this
end

/-- at a round's head of the second loop: j pieces are told -/
structure DRec (w2 wr : World) (X count : Nat) (sv : Value) (r : Rg) (j : Nat) (vo : Value) (out : List Rec) (vn : Value) (now : Rec) (last : Nat) : Prop where
  only : Only (fun k => k = X) w2 wr
  x : XAt wr X sv { r with last := last }
  recs : Recs wr (fun k => w2.heap.size ≤ k ∧ vn.ownBlock ≠ some k) vo out
  row : Vec wr 1 vn now.length (bv now)
  own : ∀ k, vn.ownBlock = some k → w2.heap.size ≤ k
  old : X < w2.heap.size
  small : now.length ≤ 501 * j ∧ out.length ≤ j
section
variable {w2 wr wA xA : World} {X count j : Nat} {sv : Value} {r : Rg} {g : Nat → Sec} {vo vn v' : Value} {out : List Rec} {now : Rec} {last : Nat}
theorem DRec.more (h : DRec w2 wr X count sv r j vo out vn now last) {p : Pc} (hs : p.data.length ≤ 501) (oA : Only None' wr wA) (hv : Vec xA 1 v' (now.length + p.data.length) (bv now ++ bv p.data)) (hg : wA.grownBy xA vn.ownBlock) (hf : ∀ k, v'.ownBlock = some k → vn.ownBlock = some k ∨ wA.heap.size ≤ k) :
    DRec w2 xA X count sv r (j + 1) vo out v' (now ++ p.data) last := by
  have o2 : Only (fun k => vn.ownBlock = some k) wA xA := (Only.refl _ wA).grown hg fun k hk => hk
  have hold := h.old
  have hws := h.only.size
  have hAs := oA.size
  refine ⟨?_, ?_, ?_, ?_, ?_, hold, ?_⟩
  · exact (h.only.trans2 oA fun k hk e => e.elim).trans2 o2 fun k hk e => by have := h.own k e; omega
  · exact (h.x.kept oA fun e => e).kept o2 fun e => by have := h.own X e; omega
  · refine ((h.recs.mono (P' := fun k => (w2.heap.size ≤ k ∧ v'.ownBlock ≠ some k) ∧ vn.ownBlock ≠ some k) fun k hk hk' => ⟨⟨hk'.1, fun e => ?_⟩, hk'.2⟩).only oA fun k hk e => e).only o2 (fun k hk e => hk.2 e) |>.mono fun k _ hk => hk.1
    rcases hf k e with h1 | h1
    · exact hk'.2 h1
    · omega
  · rw [List.length_append]
    have e : bv (now ++ p.data) = bv now ++ bv p.data := by simp [bv]
    rw [e]; exact hv
  · intro k hk
    rcases hf k hk with h1 | h1
    · exact h.own k h1
    · omega
  · rw [List.length_append]; have := h.small; omega
theorem DRec.push (h : DRec w2 wr X count sv r (j + 1) vo out vn now last) {y : World} {xs : List Value} {o : Obj} {nl : Nat} (h1 : ∀ k, vo.ownBlock = some k → w2.heap.size ≤ k ∧ vn.ownBlock ≠ some k) (h3 : ∀ (i : Nat) (hi : i < out.length), ∃ x, xs[i]? = some x ∧ Vec wr 1 x out[i].length (bv out[i]) ∧ ∀ k, x.ownBlock = some k → (w2.heap.size ≤ k ∧ vn.ownBlock ≠ some k) ∧ vo.ownBlock ≠ some k) (hlx : xs.length = out.length)
    (hv : Vec y 1 v' (out.length + 1) (xs ++ [vn])) (hg : (wr.alloc o).grownBy y vo.ownBlock) (hf : ∀ k, v'.ownBlock = some k → vo.ownBlock = some k ∨ (wr.alloc o).heap.size ≤ k) (hl : out.length ≤ j) :
    DRec w2 (y.setCell ⟨X, 2, none⟩ (.int .i64 (nl : Int))) X count sv r (j + 1) v' (out ++ [now]) (.slice none 0 0) [] nl := by
  have hsz : (wr.alloc o).heap.size = wr.heap.size + 1 := by simp
  have oa : Only None' wr (wr.alloc o) := (Only.refl _ _).alloc _
  have og : Only (fun k => vo.ownBlock = some k) (wr.alloc o) y := (Only.refl _ _).grown hg fun k hk => hk
  have os : Only (fun k => k = X) y (y.setCell ⟨X, 2, none⟩ (.int .i64 (nl : Int))) := (Only.refl (fun k => k = X) y).setCell (p := ⟨X, 2, none⟩) rfl _
  have hold := h.old
  have hws := h.only.size
  have hRec : Recs y (fun k => w2.heap.size ≤ k) v' (out ++ [now]) := by
    refine Recs.push (w := wr.alloc o) (P := fun k => w2.heap.size ≤ k) (fun k hk => (h1 k hk).1) (fun i hi => ?_) hv hlx hg hf (h.row.alloc _) (fun k hk => ⟨h.own k hk, fun e => (h1 k e).2 hk⟩) (fun k hk => by omega)
    obtain ⟨x, a, b, c⟩ := h3 i hi
    exact ⟨x, a, b.alloc _, fun k hk => ⟨(c k hk).1.1, (c k hk).2⟩⟩
  refine ⟨?_, ?_, ?_, Vec.nil _ _, fun k hk => (by cases hk), hold, ?_⟩
  · exact ((h.only.trans2 oa fun _ _ e => e.elim).trans2 og fun k hk e => by have := (h1 k e).1; omega).trans2 os fun k hk e => e
  · exact ((h.x.kept oa fun e => e).kept og fun e => by have := (h1 X e).1; omega).set (i := 2) (by simp) (.int .i64 (nl : Int))
  · exact (hRec.only os fun k hk e => by omega).mono fun k _ hk => ⟨hk, fun e => by cases e⟩
  · rw [List.length_append]; simp; omega
end

def OpRes (w : World) (first count base : Nat) (g : Nat → Sec) (e : Ending) (w' : World) : Prop :=
  ∃ X a c vo, e = .returned (.tuple #[.pointer (some ⟨X, 0, none⟩), vo]) ∧ w.heap.size ≤ X ∧ XAt w' X (.slice a count c) (Rg.opened first count base g) ∧ Recs w' (fun k => w.heap.size ≤ k ∧ k ≠ X) (.slice a count c) (secs count g) ∧ Recs w' (fun k => w.heap.size ≤ k ∧ k ≠ X) vo (runG count g count base [] [] base).1 ∧ Only None' w w'
theorem DRec.tell {w w2 wr w' : World} {X first count base j : Nat} {g : Nat → Sec} {a : Option Addr} {c : Nat} {vo vn : Value} {out : List Rec} {now : Rec} {last : Nat} (h : DRec w2 wr X count (.slice a count c) (Rg.at_ first count base g count) j vo out vn now last) (hw : Only None' w w2) (hX : w.heap.size ≤ X) (hs : Recs w2 (fun j => w.heap.size ≤ j ∧ j ≠ X) (.slice a count c) (secs count g)) (o : Only None' wr w') (hrun : RunAt (Rg.at_ first count base g count) g j out now last) (hf : runG count g (count - j) (base + j) out now last = (out, last)) : OpRes w first count base g (.returned (.tuple #[.pointer (some ⟨X, 0, none⟩), vo])) w' := by
  have hr : runG count g count base [] [] base = (out, last) := hrun.trans hf
  have hold := h.old
  refine ⟨X, a, c, vo, rfl, hX, ?_, ?_, ?_, ?_⟩
  · unfold Rg.opened
    rw [hr]
    exact h.x.kept o fun e => e
  · exact (hs.only h.only fun k hk e => hk.2 e).only o fun _ _ e => e
  · rw [hr]
    exact (h.recs.only o fun _ _ e => e).mono fun k _ hk => ⟨Nat.le_trans hw.size hk.1, by have := hk.1; omega⟩
  · exact (hw.trans2 h.only fun k hk e => by omega).trans o

set_option maxRecDepth 20000 in
set_option maxHeartbeats 8000000 in
theorem docopen_all {w : World} {P : Nat → Prop} {ga ao c count base : Nat} {g : Nat → Sec} (first : Nat) (hs : Recs w P (.slice (some ⟨ga, ao, none⟩) count c) (secs count g)) (h512 : ∀ i, i < count → (g i).length = 512) (h1 : 1 ≤ count) (h2 : first + count ≤ 65536) (hb : base ≤ 4611686018427387904) :
    Calls Try.prog 49 #[.slice (some ⟨ga, ao, none⟩) count c, .int .i64 (base : Int)] w (OpRes w first count base g) := by
  have HS := Lib.hid hs
  have H5 := Lib.hid h512
  have HC := Lib.hid (show 1 ≤ count ∧ count ≤ 65536 ∧ base ≤ 4611686018427387904 ∧ first + count ≤ 65536 by omega)
  have HRW : Hid (∀ k, k < count → ∃ gr ro rc, (∀ w', Only None' w w' → w'.cell? ⟨ga, ao + k, none⟩ = some (.slice (some ⟨gr, ro, none⟩) 512 rc)) ∧ Rd w 1 (.slice (some ⟨gr, ro, none⟩) 512 rc) 512 (bv (g k)) ∧ ga < w.heap.size ∧ gr < w.heap.size) := fun k hk => by
    have hl := secs_length count g
    obtain ⟨g', o', c', x, e, _, hcell, hx, _, _⟩ := hs.at_ (j := k) (by omega)
    injection e with e _ _
    injection e with e
    injection e with e1 e2
    subst e1 e2
    rw [secs_at] at hx
    rw [h512 k hk] at hx
    obtain ⟨gr, ro, rc, rfl, _⟩ := hx.at_ (by decide)
    have hlt : ga < w.heap.size := by
      obtain ⟨_, xs, hh, _⟩ := hs
      exact hh.lt (k := ga) rfl
    exact ⟨gr, ro, rc, fun w' o => (o.cell hlt (fun e => e) (ao + k)).trans hcell, hx.rd, hlt, hx.lt (k := gr) rfl⟩
  clear hs h512 h1 h2 hb
  go_enter Try.func49, Try.ntmps49
  go_wp2_with fail
  have HX : Hid (OpLoop w (w.alloc (.cells #[.slice none 0 0, .int .i64 (base : Int), .int .i64 (base : Int), .int .i64 (base : Int)] 81)) w.heap.size first count base g 0 none 0) := ⟨(Only.refl _ _).alloc _, cells_new w _ 81, Recs.nil _ _, Nat.le_refl _⟩
  obtain ⟨X, hX⟩ : ∃ X, X = w.heap.size := ⟨_, rfl⟩
  rw [← hX] at HX ⊢
  have HXN := Lib.hid (show w.heap.size ≤ X by omega)
  clear hX
  go_loopw [7] (fun i wr => ∃ (k : Nat) (a' : Option Addr) (c' : Nat), k ≤ count ∧ i = .int .i64 (k : Int) ∧ Hid (OpLoop w wr X first count base g k a' c')) (fun i wr => count - (intOf i).toNat)
  case atStart => exact ⟨0, none, 0, by omega, rfl, HX⟩
  case round =>
    obtain ⟨k, a', c', hk, rfl, HL⟩ := hrel
    by_cases hlt : k < count
    · obtain ⟨gr, ro, rc, hrow, hrd, hga, -⟩ := HRW.out k hlt
      have HROW2 := Lib.hid hrow
      have HROW : Hid (∀ w', Only None' wr w' → w'.cell? ⟨ga, ao + k, none⟩ = some (.slice (some ⟨gr, ro, none⟩) 512 rc)) := fun w' o => hrow w' (HL.out.only.trans o)
      have HGK := Lib.hid (H5.out k hlt)
      have HRDK : Hid (∀ w', Only None' w w' → Rd w' 1 (.slice (some ⟨gr, ro, none⟩) 512 rc) 512 (bv (g k))) := fun w' o => hrd.only o fun _ _ _ _ e => e
      have HNEWS : Hid (∀ w', Only None' wr w' → ∀ j u, (bv (g k))[j]? = some u → w'.cell? ((⟨gr, ro, none⟩ : Addr).add j) = some u) := fun w' o j u hu => by
        have hj := (List.getElem?_eq_some_iff.1 hu).1
        rw [bv_length, HGK.out] at hj
        have := rd_byte (HRDK.out w' (HL.out.only.trans o)) HGK.out hj
        rw [add_mid' (⟨gr, ro, none⟩) j rfl, this]
        simp only [bv, List.getElem?_map] at hu
        rw [List.getElem?_eq_getElem (by rw [HGK.out]; exact hj)] at hu
        rw [getD_at (by rw [HGK.out]; exact hj)]
        exact hu
      have HX0 : Hid (∀ w', Only None' wr w' → w'.cell? ⟨X, 0, none⟩ = some (.slice a' k c')) := fun w' o => (HL.out.x.kept o fun e => e).is 0 _ rfl
      have HI := Lib.hid (show (0 : Int) ≤ (k : Int) ∧ (k : Int) < (count : Int) by omega)
      have HLT := Lib.hid hlt
      have i1 : (k : Int) < (count : Int) := HI.out.2
      clear hrow hrd hga hk hlt
      go_upto_region 5 with fail
      go_cut [] from 27 to 41 (fun wx => ∃ a2 c2, OpMid w wx X first count base g k a2 c2)
      case first =>
        as_aux_lemma =>
          refine wp_region_held (S := fun w' => w'.cell? ⟨ga, ao + k, none⟩ = some (.slice (some ⟨gr, ro, none⟩) 512 rc)) (by kernel_rfl) ?_
          change wpAnyH _ _ _ _ _ _ _ _ (World.drew _)
          have HO : Hid (Only None' wr wr.drew) := (Only.refl _ _).drew
          obtain ⟨wk, hwk⟩ : ∃ z, z = wr.drew := ⟨_, rfl⟩
          rw [← hwk] at HO ⊢
          clear hwk
          refine held_take 0 (.pointer (some ⟨X, 0, none⟩)) (HROW.out _ HO.out) rfl (by kernel_rfl) (by kernel_rfl) (by kernel_rfl) (fun _ _ _ h => h) (by rfl) (fun w hw => by go_simp) ?_
          simp only [Act.put, List.setIfInBounds_toArray, List.set_cons_zero, List.set_cons_succ]
          refine held_take 1 (.pointer (some ⟨X, 0, none⟩)) (HROW.out _ HO.out) rfl (by kernel_rfl) (by kernel_rfl) (by kernel_rfl) (fun _ _ _ h => h) (by rfl) (fun w hw => by go_simp) ?_
          simp only [Act.put, List.setIfInBounds_toArray, List.set_cons_zero, List.set_cons_succ]
          refine held_take 2 (.pointer (some ⟨X, 0, none⟩)) (HROW.out _ HO.out) rfl (by kernel_rfl) (by kernel_rfl) (by kernel_rfl) (fun _ _ _ h => h) (by rfl) (fun w hw => by go_simp) ?_
          simp only [Act.put, List.setIfInBounds_toArray, List.set_cons_zero, List.set_cons_succ]
          refine held_take 3 (.pointer (some ⟨X, 0, none⟩)) (HROW.out _ HO.out) rfl (by kernel_rfl) (by kernel_rfl) (by kernel_rfl) (fun _ _ _ h => h) (by rfl) (fun w hw => by go_simp) ?_
          simp only [Act.put, List.setIfInBounds_toArray, List.set_cons_zero, List.set_cons_succ]
          refine held_take 6 (.slice (some ⟨ga, ao, none⟩) count c) (HROW.out _ HO.out) rfl (by kernel_rfl) (by kernel_rfl) (by kernel_rfl) (fun _ _ _ h => h) (by rfl) (fun w hw => by go_simp) ?_
          simp only [Act.put, List.setIfInBounds_toArray, List.set_cons_zero, List.set_cons_succ]
          refine held_take 7 (.int .i64 (k : Int)) (HROW.out _ HO.out) rfl (by kernel_rfl) (by kernel_rfl) (by kernel_rfl) (fun _ _ _ h => h) (by rfl) (fun w hw => by go_simp) ?_
          simp only [Act.put, List.setIfInBounds_toArray, List.set_cons_zero, List.set_cons_succ]
          refine held_take 8 (.pointer (some ⟨ga, ao + k, none⟩)) (HROW.out _ HO.out) rfl (by kernel_rfl) (by kernel_rfl) (by kernel_rfl) (fun _ _ _ h => h) (by rfl) (fun w hw => by have i0 := HI.out.1; have i1 := HI.out.2; go_simp) ?_
          simp only [Act.put, List.setIfInBounds_toArray, List.set_cons_zero, List.set_cons_succ]
          refine held_take 9 (.slice (some ⟨gr, ro, none⟩) 512 rc) (HROW.out _ HO.out) rfl (by kernel_rfl) (by kernel_rfl) (by kernel_rfl) (fun _ _ _ h => h) (by rfl) (fun w hw => by have cl : w.cell? ⟨ga, ao + k, none⟩ = some (.slice (some ⟨gr, ro, none⟩) 512 rc) := hw; go_simp) ?_
          simp only [Act.put, List.setIfInBounds_toArray, List.set_cons_zero, List.set_cons_succ]
          refine held_two (i := 4) (j := 5) rfl rfl (by kernel_rfl) (by rfl) (by rfl) (fun K hK => ?_) (fun K hK => ?_)
          · skip
            have cl := HX0.out _ HO.out
            go_simp
            refine hK _ _ (HROW.out _ HO.out) ?_
            clear hK K cl
            refine held_one (i := 5) rfl (by kernel_rfl) (by rfl) fun K hK => ?_
            go_simp
            refine hK _ _ (HROW.out _ (HO.out.alloc _)) ?_
            clear hK K
            have HB := Lib.hid (And.intro (empty_row wk 5 1) HO.out.size)
            obtain ⟨gb, hgb⟩ : ∃ gb, gb = wk.heap.size := ⟨_, rfl⟩
            have HO1 := Lib.hid (HO.out.alloc (.cells #[] 5))
            obtain ⟨wk1, hwk1⟩ : ∃ z, z = wk.alloc (.cells #[] 5) := ⟨_, rfl⟩
            change wpAnyH _ _ _ _ _ _ _ _ (wk.alloc (.cells #[] 5))
            rw [← hgb, ← hwk1] at HB
            rw [← hwk1] at HO1
            rw [← hgb, ← hwk1]
            clear hgb hwk1 HO wk
            rename World => wk
            have HO := HO1
            clear HO1
            refine held_one (i := 10) rfl (by kernel_rfl) (by rfl) fun K hK => ?_
            refine wp_vec_append _ _ _ 34 rfl 5 Try.t5 (.int .u8 0) 1 1 Try.underlying34 info5 zero5 size5 bytes5 rfl (by decide) _ _ _ rfl HB.out.1 ⟨gr, ro, none⟩ 512 rc (bv (g k)) rfl (by rw [bv_length, HGK.out]) (HNEWS.out _ HO.out) (bv_one _) (by unfold maxLen; decide) (by decide) ?_
            intro v' wk2 hv hg hf
            rw [Nat.zero_add, List.nil_append] at hv
            obtain ⟨va, vk, vc, rfl⟩ := hv.rd.shape'
            have HO2 := Lib.hid (only_fresh HO.out HB.out.2 hg)
            have HV := Lib.hid (And.intro hv (own_fresh HO.out HB.out.2 hf))
            refine hK _ _ (HROW.out _ HO2.out) ?_
            clear hK K hv hg hf HB HO wk
            rename World => wk
            have HO := HO2
            clear HO2
            simp only [Act.put, List.setIfInBounds_toArray, List.set_cons_zero, List.set_cons_succ]
            refine held_one (i := 11) rfl (by kernel_rfl) (by rfl) fun K hK => ?_
            go_simp
            refine hK _ _ (HROW.out _ (HO.out.alloc _)) ?_
            clear hK K
            have HB := Lib.hid (rd_one1 wk (.slice va vk vc) 34)
            obtain ⟨gc, hgc⟩ : ∃ gc, gc = wk.heap.size := ⟨_, rfl⟩
            have HO1 := Lib.hid (HO.out.alloc (.cells #[.slice va vk vc] 34))
            have HV1 := Lib.hid (And.intro (HV.out.1.alloc (.cells #[.slice va vk vc] 34)) HV.out.2)
            obtain ⟨wk1, hwk1⟩ : ∃ z, z = wk.alloc (.cells #[.slice va vk vc] 34) := ⟨_, rfl⟩
            change wpAnyH _ _ _ _ _ _ _ _ (wk.alloc (.cells #[.slice va vk vc] 34))
            rw [← hgc, ← hwk1] at HB
            rw [← hwk1] at HO1 HV1
            rw [← hgc, ← hwk1]
            clear hgc hwk1 HO HV wk
            rename World => wk
            have HO := HO1
            have HV := HV1
            clear HO1 HV1
            refine held_one (i := 12) rfl (by kernel_rfl) (by rfl) fun K hK => ?_
            obtain ⟨own, xs, hx, hrow⟩ := HL.out.s.only HO.out fun _ _ e => e
            have hlx : xs.length = k := by have := hx.len; rw [secs_length] at this; omega
            rw [secs_length] at hx
            refine wp_append_any _ _ 64 rfl 34 Try.t34 (.slice none 0 0) 1 24 Try.underlying64 info34 t34_zero t34_size t34_bytes rfl (by decide) (.slice a' k c') k xs rfl hx (.slice (some ⟨gc, 0, none⟩) 1 1) 1 [.slice va vk vc] rfl HB.out (one_slice _ _ _) (by have := HC.out; unfold maxLen; omega) (by have := HC.out; omega) ?_
            intro v2 w8 hv2 hg2 hf2
            obtain ⟨oa2, oc2, rfl, _, _⟩ := hv2.shape
            have HY := Lib.hid (HL.out.push HO.out HV.out.1 HV.out.2 HGK.out own hrow hlx hx hv2 hg2 hf2)
            refine hK _ _ (HROW2.out _ HY.out.1) ?_
            clear hK K own hx hrow hlx hv2 hg2 hf2 HV HB
            simp only [Act.put, List.setIfInBounds_toArray, List.set_cons_zero, List.set_cons_succ]
            refine held_take 13 (.pointer (some ⟨X, 0, none⟩)) (HROW2.out _ HY.out.1) rfl (by kernel_rfl) (by kernel_rfl) (by kernel_rfl) (fun _ _ _ h => h) (by rfl) (fun w hw => by go_simp) ?_
            simp only [Act.put, List.setIfInBounds_toArray, List.set_cons_zero, List.set_cons_succ]
            refine held_take 14 (.pointer (some ⟨X, 0, none⟩)) (HROW2.out _ HY.out.1) rfl (by kernel_rfl) (by kernel_rfl) (by kernel_rfl) (fun _ _ _ h => h) (by rfl) (fun w hw => by go_simp) ?_
            simp only [Act.put, List.setIfInBounds_toArray, List.set_cons_zero, List.set_cons_succ]
            refine held_one (i := 15) rfl (by kernel_rfl) (by rfl) fun K hK => ?_
            have cl := HY.out.2.1.is 0 _ rfl
            have cz := HY.out.2.1.thaw 0
            have lX := HY.out.2.1.lt
            go_simp
            have HZ := Lib.hid (HY.out.2.2 (.slice oa2 (k + 1) oc2) rfl)
            refine hK _ _ (HROW2.out _ HZ.out.1) ?_
            clear hK K cl cz lX
            refine held_done (by kernel_rfl) ?_ _
            go_wp2_with fail
            go_meet
            exact ⟨_, _, HZ.out⟩
          · skip
            go_simp
            refine hK _ _ (HROW.out _ (HO.out.alloc _)) ?_
            clear hK K
            have HB := Lib.hid (And.intro (empty_row wk 5 1) HO.out.size)
            obtain ⟨gb, hgb⟩ : ∃ gb, gb = wk.heap.size := ⟨_, rfl⟩
            have HO1 := Lib.hid (HO.out.alloc (.cells #[] 5))
            obtain ⟨wk1, hwk1⟩ : ∃ z, z = wk.alloc (.cells #[] 5) := ⟨_, rfl⟩
            change wpAnyH _ _ _ _ _ _ _ _ (wk.alloc (.cells #[] 5))
            rw [← hgb, ← hwk1] at HB
            rw [← hwk1] at HO1
            rw [← hgb, ← hwk1]
            clear hgb hwk1 HO wk
            rename World => wk
            have HO := HO1
            clear HO1
            refine held_two (i := 4) (j := 10) rfl rfl (by kernel_rfl) (by rfl) (by rfl) (fun K hK => ?_) (fun K hK => ?_)
            · skip
              have cl := HX0.out _ HO.out
              go_simp
              refine hK _ _ (HROW.out _ HO.out) ?_
              clear hK K cl
              refine held_one (i := 10) rfl (by kernel_rfl) (by rfl) fun K hK => ?_
              refine wp_vec_append _ _ _ 34 rfl 5 Try.t5 (.int .u8 0) 1 1 Try.underlying34 info5 zero5 size5 bytes5 rfl (by decide) _ _ _ rfl HB.out.1 ⟨gr, ro, none⟩ 512 rc (bv (g k)) rfl (by rw [bv_length, HGK.out]) (HNEWS.out _ HO.out) (bv_one _) (by unfold maxLen; decide) (by decide) ?_
              intro v' wk2 hv hg hf
              rw [Nat.zero_add, List.nil_append] at hv
              obtain ⟨va, vk, vc, rfl⟩ := hv.rd.shape'
              have HO2 := Lib.hid (only_fresh HO.out HB.out.2 hg)
              have HV := Lib.hid (And.intro hv (own_fresh HO.out HB.out.2 hf))
              refine hK _ _ (HROW.out _ HO2.out) ?_
              clear hK K hv hg hf HB HO wk
              rename World => wk
              have HO := HO2
              clear HO2
              simp only [Act.put, List.setIfInBounds_toArray, List.set_cons_zero, List.set_cons_succ]
              refine held_one (i := 11) rfl (by kernel_rfl) (by rfl) fun K hK => ?_
              go_simp
              refine hK _ _ (HROW.out _ (HO.out.alloc _)) ?_
              clear hK K
              have HB := Lib.hid (rd_one1 wk (.slice va vk vc) 34)
              obtain ⟨gc, hgc⟩ : ∃ gc, gc = wk.heap.size := ⟨_, rfl⟩
              have HO1 := Lib.hid (HO.out.alloc (.cells #[.slice va vk vc] 34))
              have HV1 := Lib.hid (And.intro (HV.out.1.alloc (.cells #[.slice va vk vc] 34)) HV.out.2)
              obtain ⟨wk1, hwk1⟩ : ∃ z, z = wk.alloc (.cells #[.slice va vk vc] 34) := ⟨_, rfl⟩
              change wpAnyH _ _ _ _ _ _ _ _ (wk.alloc (.cells #[.slice va vk vc] 34))
              rw [← hgc, ← hwk1] at HB
              rw [← hwk1] at HO1 HV1
              rw [← hgc, ← hwk1]
              clear hgc hwk1 HO HV wk
              rename World => wk
              have HO := HO1
              have HV := HV1
              clear HO1 HV1
              refine held_one (i := 12) rfl (by kernel_rfl) (by rfl) fun K hK => ?_
              obtain ⟨own, xs, hx, hrow⟩ := HL.out.s.only HO.out fun _ _ e => e
              have hlx : xs.length = k := by have := hx.len; rw [secs_length] at this; omega
              rw [secs_length] at hx
              refine wp_append_any _ _ 64 rfl 34 Try.t34 (.slice none 0 0) 1 24 Try.underlying64 info34 t34_zero t34_size t34_bytes rfl (by decide) (.slice a' k c') k xs rfl hx (.slice (some ⟨gc, 0, none⟩) 1 1) 1 [.slice va vk vc] rfl HB.out (one_slice _ _ _) (by have := HC.out; unfold maxLen; omega) (by have := HC.out; omega) ?_
              intro v2 w8 hv2 hg2 hf2
              obtain ⟨oa2, oc2, rfl, _, _⟩ := hv2.shape
              have HY := Lib.hid (HL.out.push HO.out HV.out.1 HV.out.2 HGK.out own hrow hlx hx hv2 hg2 hf2)
              refine hK _ _ (HROW2.out _ HY.out.1) ?_
              clear hK K own hx hrow hlx hv2 hg2 hf2 HV HB
              simp only [Act.put, List.setIfInBounds_toArray, List.set_cons_zero, List.set_cons_succ]
              refine held_take 13 (.pointer (some ⟨X, 0, none⟩)) (HROW2.out _ HY.out.1) rfl (by kernel_rfl) (by kernel_rfl) (by kernel_rfl) (fun _ _ _ h => h) (by rfl) (fun w hw => by go_simp) ?_
              simp only [Act.put, List.setIfInBounds_toArray, List.set_cons_zero, List.set_cons_succ]
              refine held_take 14 (.pointer (some ⟨X, 0, none⟩)) (HROW2.out _ HY.out.1) rfl (by kernel_rfl) (by kernel_rfl) (by kernel_rfl) (fun _ _ _ h => h) (by rfl) (fun w hw => by go_simp) ?_
              simp only [Act.put, List.setIfInBounds_toArray, List.set_cons_zero, List.set_cons_succ]
              refine held_one (i := 15) rfl (by kernel_rfl) (by rfl) fun K hK => ?_
              have cl := HY.out.2.1.is 0 _ rfl
              have cz := HY.out.2.1.thaw 0
              have lX := HY.out.2.1.lt
              go_simp
              have HZ := Lib.hid (HY.out.2.2 (.slice oa2 (k + 1) oc2) rfl)
              refine hK _ _ (HROW2.out _ HZ.out.1) ?_
              clear hK K cl cz lX
              refine held_done (by kernel_rfl) ?_ _
              go_wp2_with fail
              go_meet
              exact ⟨_, _, HZ.out⟩
            · skip
              refine wp_vec_append _ _ _ 34 rfl 5 Try.t5 (.int .u8 0) 1 1 Try.underlying34 info5 zero5 size5 bytes5 rfl (by decide) _ _ _ rfl HB.out.1 ⟨gr, ro, none⟩ 512 rc (bv (g k)) rfl (by rw [bv_length, HGK.out]) (HNEWS.out _ HO.out) (bv_one _) (by unfold maxLen; decide) (by decide) ?_
              intro v' wk2 hv hg hf
              rw [Nat.zero_add, List.nil_append] at hv
              obtain ⟨va, vk, vc, rfl⟩ := hv.rd.shape'
              have HO2 := Lib.hid (only_fresh HO.out HB.out.2 hg)
              have HV := Lib.hid (And.intro hv (own_fresh HO.out HB.out.2 hf))
              refine hK _ _ (HROW.out _ HO2.out) ?_
              clear hK K hv hg hf HB HO wk
              rename World => wk
              have HO := HO2
              clear HO2
              simp only [Act.put, List.setIfInBounds_toArray, List.set_cons_zero, List.set_cons_succ]
              refine held_two (i := 4) (j := 11) rfl rfl (by kernel_rfl) (by rfl) (by rfl) (fun K hK => ?_) (fun K hK => ?_)
              · skip
                have cl := HX0.out _ HO.out
                go_simp
                refine hK _ _ (HROW.out _ HO.out) ?_
                clear hK K cl
                refine held_one (i := 11) rfl (by kernel_rfl) (by rfl) fun K hK => ?_
                go_simp
                refine hK _ _ (HROW.out _ (HO.out.alloc _)) ?_
                clear hK K
                have HB := Lib.hid (rd_one1 wk (.slice va vk vc) 34)
                obtain ⟨gc, hgc⟩ : ∃ gc, gc = wk.heap.size := ⟨_, rfl⟩
                have HO1 := Lib.hid (HO.out.alloc (.cells #[.slice va vk vc] 34))
                have HV1 := Lib.hid (And.intro (HV.out.1.alloc (.cells #[.slice va vk vc] 34)) HV.out.2)
                obtain ⟨wk1, hwk1⟩ : ∃ z, z = wk.alloc (.cells #[.slice va vk vc] 34) := ⟨_, rfl⟩
                change wpAnyH _ _ _ _ _ _ _ _ (wk.alloc (.cells #[.slice va vk vc] 34))
                rw [← hgc, ← hwk1] at HB
                rw [← hwk1] at HO1 HV1
                rw [← hgc, ← hwk1]
                clear hgc hwk1 HO HV wk
                rename World => wk
                have HO := HO1
                have HV := HV1
                clear HO1 HV1
                refine held_one (i := 12) rfl (by kernel_rfl) (by rfl) fun K hK => ?_
                obtain ⟨own, xs, hx, hrow⟩ := HL.out.s.only HO.out fun _ _ e => e
                have hlx : xs.length = k := by have := hx.len; rw [secs_length] at this; omega
                rw [secs_length] at hx
                refine wp_append_any _ _ 64 rfl 34 Try.t34 (.slice none 0 0) 1 24 Try.underlying64 info34 t34_zero t34_size t34_bytes rfl (by decide) (.slice a' k c') k xs rfl hx (.slice (some ⟨gc, 0, none⟩) 1 1) 1 [.slice va vk vc] rfl HB.out (one_slice _ _ _) (by have := HC.out; unfold maxLen; omega) (by have := HC.out; omega) ?_
                intro v2 w8 hv2 hg2 hf2
                obtain ⟨oa2, oc2, rfl, _, _⟩ := hv2.shape
                have HY := Lib.hid (HL.out.push HO.out HV.out.1 HV.out.2 HGK.out own hrow hlx hx hv2 hg2 hf2)
                refine hK _ _ (HROW2.out _ HY.out.1) ?_
                clear hK K own hx hrow hlx hv2 hg2 hf2 HV HB
                simp only [Act.put, List.setIfInBounds_toArray, List.set_cons_zero, List.set_cons_succ]
                refine held_take 13 (.pointer (some ⟨X, 0, none⟩)) (HROW2.out _ HY.out.1) rfl (by kernel_rfl) (by kernel_rfl) (by kernel_rfl) (fun _ _ _ h => h) (by rfl) (fun w hw => by go_simp) ?_
                simp only [Act.put, List.setIfInBounds_toArray, List.set_cons_zero, List.set_cons_succ]
                refine held_take 14 (.pointer (some ⟨X, 0, none⟩)) (HROW2.out _ HY.out.1) rfl (by kernel_rfl) (by kernel_rfl) (by kernel_rfl) (fun _ _ _ h => h) (by rfl) (fun w hw => by go_simp) ?_
                simp only [Act.put, List.setIfInBounds_toArray, List.set_cons_zero, List.set_cons_succ]
                refine held_one (i := 15) rfl (by kernel_rfl) (by rfl) fun K hK => ?_
                have cl := HY.out.2.1.is 0 _ rfl
                have cz := HY.out.2.1.thaw 0
                have lX := HY.out.2.1.lt
                go_simp
                have HZ := Lib.hid (HY.out.2.2 (.slice oa2 (k + 1) oc2) rfl)
                refine hK _ _ (HROW2.out _ HZ.out.1) ?_
                clear hK K cl cz lX
                refine held_done (by kernel_rfl) ?_ _
                go_wp2_with fail
                go_meet
                exact ⟨_, _, HZ.out⟩
              · skip
                go_simp
                refine hK _ _ (HROW.out _ (HO.out.alloc _)) ?_
                clear hK K
                have HB := Lib.hid (rd_one1 wk (.slice va vk vc) 34)
                obtain ⟨gc, hgc⟩ : ∃ gc, gc = wk.heap.size := ⟨_, rfl⟩
                have HO1 := Lib.hid (HO.out.alloc (.cells #[.slice va vk vc] 34))
                have HV1 := Lib.hid (And.intro (HV.out.1.alloc (.cells #[.slice va vk vc] 34)) HV.out.2)
                obtain ⟨wk1, hwk1⟩ : ∃ z, z = wk.alloc (.cells #[.slice va vk vc] 34) := ⟨_, rfl⟩
                change wpAnyH _ _ _ _ _ _ _ _ (wk.alloc (.cells #[.slice va vk vc] 34))
                rw [← hgc, ← hwk1] at HB
                rw [← hwk1] at HO1 HV1
                rw [← hgc, ← hwk1]
                clear hgc hwk1 HO HV wk
                rename World => wk
                have HO := HO1
                have HV := HV1
                clear HO1 HV1
                refine held_one (i := 4) rfl (by kernel_rfl) (by rfl) fun K hK => ?_
                have cl := HX0.out _ HO.out
                go_simp
                refine hK _ _ (HROW.out _ HO.out) ?_
                clear hK K cl
                refine held_one (i := 12) rfl (by kernel_rfl) (by rfl) fun K hK => ?_
                obtain ⟨own, xs, hx, hrow⟩ := HL.out.s.only HO.out fun _ _ e => e
                have hlx : xs.length = k := by have := hx.len; rw [secs_length] at this; omega
                rw [secs_length] at hx
                refine wp_append_any _ _ 64 rfl 34 Try.t34 (.slice none 0 0) 1 24 Try.underlying64 info34 t34_zero t34_size t34_bytes rfl (by decide) (.slice a' k c') k xs rfl hx (.slice (some ⟨gc, 0, none⟩) 1 1) 1 [.slice va vk vc] rfl HB.out (one_slice _ _ _) (by have := HC.out; unfold maxLen; omega) (by have := HC.out; omega) ?_
                intro v2 w8 hv2 hg2 hf2
                obtain ⟨oa2, oc2, rfl, _, _⟩ := hv2.shape
                have HY := Lib.hid (HL.out.push HO.out HV.out.1 HV.out.2 HGK.out own hrow hlx hx hv2 hg2 hf2)
                refine hK _ _ (HROW2.out _ HY.out.1) ?_
                clear hK K own hx hrow hlx hv2 hg2 hf2 HV HB
                simp only [Act.put, List.setIfInBounds_toArray, List.set_cons_zero, List.set_cons_succ]
                refine held_take 13 (.pointer (some ⟨X, 0, none⟩)) (HROW2.out _ HY.out.1) rfl (by kernel_rfl) (by kernel_rfl) (by kernel_rfl) (fun _ _ _ h => h) (by rfl) (fun w hw => by go_simp) ?_
                simp only [Act.put, List.setIfInBounds_toArray, List.set_cons_zero, List.set_cons_succ]
                refine held_take 14 (.pointer (some ⟨X, 0, none⟩)) (HROW2.out _ HY.out.1) rfl (by kernel_rfl) (by kernel_rfl) (by kernel_rfl) (fun _ _ _ h => h) (by rfl) (fun w hw => by go_simp) ?_
                simp only [Act.put, List.setIfInBounds_toArray, List.set_cons_zero, List.set_cons_succ]
                refine held_one (i := 15) rfl (by kernel_rfl) (by rfl) fun K hK => ?_
                have cl := HY.out.2.1.is 0 _ rfl
                have cz := HY.out.2.1.thaw 0
                have lX := HY.out.2.1.lt
                go_simp
                have HZ := Lib.hid (HY.out.2.2 (.slice oa2 (k + 1) oc2) rfl)
                refine hK _ _ (HROW2.out _ HZ.out.1) ?_
                clear hK K cl cz lX
                refine held_done (by kernel_rfl) ?_ _
                go_wp2_with fail
                go_meet
                exact ⟨_, _, HZ.out⟩
      case rest =>
        obtain ⟨a2, c2, hm⟩ := hcut
        have HM := Lib.hid hm
        clear hm
        have ck := HROW2.out wc HM.out.only
        have x3 := HM.out.x.is 3 _ rfl
        have xz := HM.out.x.thaw 3
        have xl := HM.out.x.lt
        have hcall := docread_any HGK.out (HRDK.out wc HM.out.only) k count HC.out.1 HC.out.2.1 (docSee_see k)
        have i0 : (0 : Int) ≤ (k : Int) := HI.out.1
        cases hsee : seeG count g k with
        | none =>
          rw [hsee] at hcall
          have HCL := Lib.hid hcall
          have HSE := Lib.hid hsee
          clear hcall hsee
          go_wp2_with fail
          refine HCL.out.mono ?_
          rintro e w3 ⟨o3, rfl⟩
          have HN := Lib.hid (HM.out.stay (o3.alloc (.cells #[.int .i64 0, .bool false, .slice none 0 0] 83)) HXN.out HSE.out)
          clear o3
          go_wp2_with fail
          go_quiet (fail)
          have HN2 : Hid (OpLoop w ((w3.alloc (.cells #[.int .i64 0, .bool false, .slice none 0 0] 83)).drewN nq) X first count base g (k + 1) a2 c2) := ⟨HN.out.only.drewN nq, HN.out.x.kept ((Only.refl None' _).drewN nq) fun e => e, HN.out.s.drewN nq, HN.out.new⟩
          go_wp2_with fail
          go_roundw
          case rel => exact ⟨k + 1, a2, c2, HLT.out, next_int (by have := HC.out; have := HLT.out; omega), HN2⟩
          case measure => exact meas HLT.out (by have := HC.out; omega)
        | some p =>
          rw [hsee] at hcall
          have HCL := Lib.hid hcall
          have HSE := Lib.hid hsee
          clear hcall hsee
          obtain ⟨pn, la, data⟩ := p
          obtain ⟨tk, htk⟩ : ∃ tk, tk = topG count g base k := ⟨_, rfl⟩
          have HTK := Lib.hid htk
          have x3' : wc.cell? ⟨X, 3, none⟩ = some (.int .i64 (tk : Int)) := by rw [htk]; exact x3
          clear x3 htk
          go_wp2_with fail
          refine HCL.out.mono ?_
          rintro e w3 ⟨o3, v, rfl, hv, -⟩
          obtain ⟨va, vk, vc, rfl⟩ := hv.rd.shape'
          clear hv
          have O3 := Lib.hid o3
          have X3 := Lib.hid ((HM.out.x.kept o3 fun e => e))
          have hlX : X < w3.heap.size := X3.out.lt
          have hXne : ¬ X = w3.heap.size := by omega
          have hXne' : ¬ w3.heap.size = X := by omega
          have x3'' : w3.cell? ⟨X, 3, none⟩ = some (.int .i64 (tk : Int)) := by rw [HTK.out]; exact X3.out.is 3 _ rfl
          have xz3 := X3.out.thaw 3
          clear o3 x3' xz xl
          by_cases hd : tk < pn
          · have d1 : decide (tk < pn) = true := decide_eq_true hd
            have HD := Lib.hid hd
            clear hd
            go_wp2_with fail
            go_quiet (fail)
            have HN := Lib.hid (HM.out.more ((O3.out.alloc (.cells #[.int .i64 (pn : Int), .bool la, .slice va vk vc] 83)).drewN nq) HXN.out HSE.out (by rw [← HTK.out]; exact HD.out))
            go_wp2_with fail
            go_roundw
            case rel => exact ⟨k + 1, a2, c2, HLT.out, next_int (by have := HC.out; have := HLT.out; omega), HN⟩
            case measure => exact meas HLT.out (by have := HC.out; omega)
          · have d1 : decide (tk < pn) = false := decide_eq_false hd
            have HN := Lib.hid (HM.out.less (O3.out.alloc (.cells #[.int .i64 (pn : Int), .bool la, .slice va vk vc] 83)) HXN.out HSE.out (by rw [← HTK.out]; exact hd))
            clear hd
            go_wp2_with fail
            go_quiet (fail)
            have HN2 : Hid (OpLoop w ((w3.alloc (.cells #[.int .i64 (pn : Int), .bool la, .slice va vk vc] 83)).drewN nq) X first count base g (k + 1) a2 c2) := ⟨HN.out.only.drewN nq, HN.out.x.kept ((Only.refl None' _).drewN nq) fun e => e, HN.out.s.drewN nq, HN.out.new⟩
            go_wp2_with fail
            go_roundw
            case rel => exact ⟨k + 1, a2, c2, HLT.out, next_int (by have := HC.out; have := HLT.out; omega), HN2⟩
            case measure => exact meas HLT.out (by have := HC.out; omega)
    · obtain rfl : count = k := by omega
      clear hk hlt HX
      have HD : Hid (DRec wr wr X count (.slice a' count c') (Rg.at_ first count base g count) 0 (.slice none 0 0) [] (.slice none 0 0) [] base) := ⟨Only.refl _ _, HL.out.x, Recs.nil _ _, Vec.nil _ _, fun k hk => (by cases hk), HL.out.x.lt, ⟨Nat.le_refl _, Nat.le_refl _⟩⟩
      go_wp2_with fail
      rename World => w2
      go_loopw [10, 11, 12] (fun s u i wx => ∃ (j : Nat) (oa : Option Addr) (out : List Rec) (oc : Nat) (na : Option Addr) (now : Rec) (nc last : Nat), j ≤ count ∧ s = .slice oa out.length oc ∧ u = .slice na now.length nc ∧ i = .int .i64 ((j + 1 : Nat) : Int) ∧ Hid (DRec w2 wx X count (.slice a' count c') (Rg.at_ first count base g count) j s out u now last ∧ RunAt (Rg.at_ first count base g count) g j out now last)) (fun s u i wx => count + 1 - (intOf i).toNat)
      case atStart => exact ⟨0, none, [], 0, none, [], 0, base, by omega, rfl, rfl, rfl, Lib.hid ⟨HD.out, rfl⟩⟩
      case round =>
        obtain ⟨j, oa, out, oc, na, now, nc, last, hj, rfl, rfl, rfl, HJ⟩ := hrel
        obtain ⟨j1, hj1⟩ : ∃ j1, j1 = j + 1 := ⟨_, rfl⟩
        rw [← hj1]
        by_cases hlt : j < count
        · have HB := HC.out
          obtain ⟨bn, hbn⟩ : ∃ bn, bn = base + j1 := ⟨_, rfl⟩
          obtain ⟨pl, hpl⟩ : ∃ pl, pl = bn % count := ⟨_, rfl⟩
          have hplt : pl < count := by rw [hpl]; exact Nat.mod_lt _ (by omega)
          have d0 : decide (j1 ≤ count) = true := by simp; omega
          have d0' : decide ((j1 : Int) ≤ (count : Int)) = true := by simp; omega
          have e1 : (base : Int) + (j1 : Int) = (bn : Int) := by omega
          have m1 : (bn : Int).tmod (count : Int) = (pl : Int) := by rw [hpl]; rfl
          have z0 : ((count : Int) == 0) = false := by simp; omega
          have z1 : ¬ (count : Int) = 0 := by omega
          have z2 : (count == 0) = false := by simp; omega
          have i0 : (0 : Int) ≤ (pl : Int) := by omega
          have i1 : (pl : Int) < (count : Int) := by omega
          have HWX := Lib.hid (show wrap64 (bn : Int) = (bn : Int) ∧ wrap64 (pl : Int) = (pl : Int) from ⟨IntWalk.wrap64_in _ (by omega), IntWalk.wrap64_in _ (by omega)⟩)
          obtain ⟨gr, ro, rc, hrow, hrd, hga, hgr⟩ := HRW.out pl hplt
          have hwX := HXN.out
          have ck : wr.cell? ⟨ga, ao + pl, none⟩ = some (.slice (some ⟨gr, ro, none⟩) 512 rc) := (HJ.out.1.only.cell (by have := HL.out.only.size; omega) (by omega) (ao + pl)).trans (hrow w2 HL.out.only)
          have hrd' : Rd wr 1 (.slice (some ⟨gr, ro, none⟩) 512 rc) 512 (bv (g pl)) := (hrd.only HL.out.only fun _ _ _ _ e => e).only HJ.out.1.only fun _ q hq _ e => by
            injection hq with hq
            have hq : gr = q := hq
            omega
          have hcall := docread_any (H5.out pl hplt) hrd' pl count HC.out.1 HC.out.2.1 (docSee_see pl)
          have HPN : Hid (pl = (base + j + 1) % count ∧ bn = base + j + 1 ∧ j < count ∧ j1 = j + 1) := by
            refine ⟨?_, ?_, hlt, hj1⟩
            · rw [hpl, hbn, hj1, Nat.add_assoc]
            · omega
          clear hbn hpl hplt hrow hrd hga hgr hwX hrd' hj hlt hj1 HB
          obtain ⟨f1, f2⟩ := HWX.out
          cases hsee : seeG count g pl with
          | none =>
            rw [hsee] at hcall
            have HCL := Lib.hid hcall
            have hpc : pieceG count g (base + j + 1) = none := by unfold pieceG; rw [← HPN.out.1, hsee]
            have HPC := Lib.hid hpc
            clear hcall hsee hpc
            go_wp2_with fail
            refine HCL.out.mono ?_
            rintro e w3 ⟨o3, rfl⟩
            have O3 := Lib.hid (o3.alloc (.cells #[.int .i64 0, .bool false, .slice none 0 0] 83))
            clear o3
            go_wp2_with fail
            go_ret2
            refine HJ.out.1.tell HL.out.only HXN.out HL.out.s O3.out HJ.out.2 ?_
            obtain ⟨m, hm⟩ : ∃ m, count - j = m + 1 := ⟨count - j - 1, by have := HPN.out; omega⟩
            rw [hm, runG, HPC.out]
          | some p =>
            rw [hsee] at hcall
            have HCL := Lib.hid hcall
            obtain ⟨pn, la, data⟩ := p
            by_cases hn : pn = bn
            · have hpc : pieceG count g (base + j + 1) = some ⟨pn, la, data⟩ := by
                unfold pieceG
                rw [← HPN.out.1, hsee]
                simp only
                rw [if_pos (by rw [hn, HPN.out.2.1])]
              have HPC := Lib.hid hpc
              have HPO := Lib.hid (seeG_ok hsee)
              subst hn
              clear hcall hsee hpc
              go_wp2_with fail
              refine HCL.out.mono ?_
              rintro e w3 ⟨o3, v, rfl, hv, -⟩
              obtain ⟨va, vk, vc, rfl⟩ := hv.rd.shape'
              have OA := Lib.hid (o3.alloc (.cells #[.int .i64 (pn : Int), .bool la, .slice va vk vc] 83))
              have TA := Lib.hid (cells_new w3 [.int .i64 (pn : Int), .bool la, .slice va vk vc] 83)
              have RD := Lib.hid ((hv.alloc (.cells #[.int .i64 (pn : Int), .bool la, .slice va vk vc] 83)).rd)
              have NA := Lib.hid (HJ.out.1.row.only OA.out fun _ _ e => e)
              have HB1 := Lib.hid (show now.length + data.length ≤ 40000000 by
                have h1 := HPO.out.size
                have h2 := HJ.out.1.small.1
                have h3 := HPN.out.2.2.1
                have h4 := HC.out.2.1
                simp only at h1
                omega)
              have HTN := Lib.hid o3.size
              clear o3 hv
              obtain ⟨wA, hwA⟩ : ∃ wA, wA = w3.alloc (.cells #[.int .i64 (pn : Int), .bool la, .slice va vk vc] 83) := ⟨_, rfl⟩
              obtain ⟨T, hT⟩ : ∃ T, T = w3.heap.size := ⟨_, rfl⟩
              rw [← hwA] at OA TA RD NA
              rw [← hT] at TA
              have eT := hT.symm
              have eA := hwA.symm
              have t0 := TA.out.is 0 _ rfl
              have t2 := TA.out.is 2 _ rfl
              have HTn := Lib.hid (show wr.heap.size ≤ T by have := HTN.out; omega)
              clear hwA hT
              cases la
              · go_wp2_with (first | (at_builtin; refine wpList_append_any rfl _ _ 34 rfl 5 Try.t5 (.int .u8 0) 1 1 Try.underlying34 info5 zero5 size5 bytes5 rfl (by decide) (.slice na now.length nc) now.length (bv now) rfl NA.out (.slice va vk vc) data.length (bv data) rfl RD.out (bv_one _) (by have := HB1.out; unfold maxLen; omega) (by have := HB1.out; omega) ?_; intro v' w4 hv4 hg4 hf4; obtain ⟨na', nc', rfl, _, _⟩ := hv4.shape; have o4 : Only (fun k => (Value.slice na now.length nc).ownBlock = some k) wA w4 := (Only.refl _ wA).grown hg4 fun k hk => hk; have TB := TA.out.kept o4 (fun e => by have := HJ.out.1.row.lt e; have := HTn.out; omega); have t1 := TB.is 1 _ rfl; have HX := Lib.hid (And.intro hv4 (And.intro hg4 hf4)); clear t0 t2 hv4 hg4 hf4 o4))
                go_roundw
                case rel => exact ⟨j + 1, oa, out, oc, na', now ++ data, nc', last, HPN.out.2.2.1, rfl, by rw [List.length_append], by rw [next_int (by have := HPN.out; have := HC.out; omega), HPN.out.2.2.2], Lib.hid ⟨HJ.out.1.more (p := ⟨pn, false, data⟩) HPO.out.size OA.out HX.out.1 HX.out.2.1 HX.out.2.2, HJ.out.2.next HPN.out.2.2.1 HPC.out⟩⟩
                case measure => exact meas (by have := HPN.out; omega) (by have := HC.out; omega)
              · go_wp2_with (first | (at_builtin; refine wpList_append_any rfl _ _ 34 rfl 5 Try.t5 (.int .u8 0) 1 1 Try.underlying34 info5 zero5 size5 bytes5 rfl (by decide) (.slice na now.length nc) now.length (bv now) rfl NA.out (.slice va vk vc) data.length (bv data) rfl RD.out (bv_one _) (by have := HB1.out; unfold maxLen; omega) (by have := HB1.out; omega) ?_; intro v' w4 hv4 hg4 hf4; obtain ⟨na', nc', rfl, _, _⟩ := hv4.shape; have o4 : Only (fun k => (Value.slice na now.length nc).ownBlock = some k) wA w4 := (Only.refl _ wA).grown hg4 fun k hk => hk; have TB := Lib.hid (TA.out.kept o4 (fun e => by have := HJ.out.1.row.lt e; have := HTn.out; omega)); have t1 := TB.out.is 1 _ rfl; have HM := Lib.hid (HJ.out.1.more (p := ⟨pn, true, data⟩) HPO.out.size OA.out hv4 hg4 hf4); obtain ⟨xs, hvx, hrow⟩ := HM.out.recs.rows; have HVX := Lib.hid hvx; have HRX := Lib.hid hrow; clear t0 t2 hv4 hg4 hf4 o4 hvx hrow) | (at_builtin; refine wpList_append_any rfl _ _ 64 rfl 34 Try.t34 (.slice none 0 0) 1 24 Try.underlying64 info34 t34_zero t34_size t34_bytes rfl (by decide) (.slice oa out.length oc) out.length xs rfl (HVX.out.alloc _) (.slice (some ⟨w4.heap.size, 0, none⟩) 1 1) 1 [.slice na' (now.length + data.length) nc'] rfl (rd_one1 w4 _ 34) (one_slice _ _ _) (by have := HM.out.small.2; have := HPN.out.2.2.1; have := HC.out.2.1; unfold maxLen; omega) (by have := HM.out.small.2; have := HPN.out.2.2.1; have := HC.out.2.1; omega) ?_; intro v2 y hv2 hg2 hf2; obtain ⟨oa2, oc2, rfl, _, _⟩ := hv2.shape; have oy : Only (fun k => (Value.slice oa out.length oc).ownBlock = some k) (w4.alloc (.cells #[.slice na' (now.length + data.length) nc'] 34)) y := (Only.refl _ _).grown hg2 fun k hk => hk; have yX := CellsR.kept (CellsR.kept HM.out.x ((Only.refl None' w4).alloc (.cells #[.slice na' (now.length + data.length) nc'] 34)) fun e => e) oy fun e => (by have := (HM.out.recs.own X e).1; have := HM.out.old; omega); have yT := CellsR.kept (CellsR.kept TB.out ((Only.refl None' w4).alloc (.cells #[.slice na' (now.length + data.length) nc'] 34)) fun e => e) oy fun e => (by have h5 := HJ.out.1.recs.rows; obtain ⟨ys, hy, _⟩ := h5; have := hy.lt e; have := HTn.out; omega); have y2 := yX.is 2 _ rfl; have yz := yX.thaw 2; have yt := yT.is 0 _ rfl; have ylX := yX.lt; have HY := Lib.hid (And.intro hv2 (And.intro hg2 hf2)); clear hv2 hg2 hf2 oy t1))
                go_roundw
                case rel =>
                  refine ⟨j + 1, oa2, out ++ [now ++ data], oc2, none, [], 0, pn, HPN.out.2.2.1, by rw [List.length_append]; rfl, rfl, by rw [next_int (by have := HPN.out; have := HC.out; omega), HPN.out.2.2.2], Lib.hid ⟨?_, ?_⟩⟩
                  · exact HM.out.push HM.out.recs.own HRX.out (by have := HVX.out.len; omega) HY.out.1 HY.out.2.1 HY.out.2.2 HJ.out.1.small.2
                  · have h := HJ.out.2.next HPN.out.2.2.1 HPC.out
                    rw [HPN.out.2.1]
                    exact h
                case measure => exact meas (by have := HPN.out; omega) (by have := HC.out; omega)
            · have hpc : pieceG count g (base + j + 1) = none := by
                unfold pieceG
                rw [← HPN.out.1, hsee]
                simp only
                rw [if_neg (by rw [← HPN.out.2.1]; exact hn)]
              have HPC := Lib.hid hpc
              have d1 : ((pn : Int) != (bn : Int)) = true := by simp; omega
              clear hcall hsee hpc hn
              go_wp2_with fail
              refine HCL.out.mono ?_
              rintro e w3 ⟨o3, v, rfl, hv, -⟩
              obtain ⟨va, vk, vc, rfl⟩ := hv.rd.shape'
              have O3 := Lib.hid (o3.alloc (.cells #[.int .i64 (pn : Int), .bool la, .slice va vk vc] 83))
              clear o3 hv
              go_wp2_with fail
              go_ret2
              refine HJ.out.1.tell HL.out.only HXN.out HL.out.s O3.out HJ.out.2 ?_
              obtain ⟨m, hm⟩ : ∃ m, count - j = m + 1 := ⟨count - j - 1, by have := HPN.out; omega⟩
              rw [hm, runG, HPC.out]
        · have d0 : decide (j1 ≤ count) = false := by simp; omega
          have d0' : decide ((j1 : Int) ≤ (count : Int)) = false := by simp; omega
          have HJ0 := Lib.hid (show count - j = 0 by omega)
          clear hlt hj hj1
          go_wp2_with fail
          go_ret2
          refine HJ.out.1.tell HL.out.only HXN.out HL.out.s (Only.refl _ _) HJ.out.2 ?_
          rw [HJ0.out]
          rfl
theorem docopen_any {w : World} {P : Nat → Prop} {a : Option Addr} {c count base : Nat} {g : Nat → Sec} (first : Nat) (hs : Recs w P (.slice a count c) (secs count g)) (h512 : ∀ i, i < count → (g i).length = 512) (h1 : 1 ≤ count) (h2 : first + count ≤ 65536) (hb : base ≤ 4611686018427387904) :
    Calls Try.prog 49 #[.slice a count c, .int .i64 (base : Int)] w (OpRes w first count base g) := by
  have hl := secs_length count g
  obtain ⟨ga, ao, ca, x0, ea, -⟩ := hs.at_ (j := 0) (by omega)
  injection ea with ea _ _
  subst ea
  exact docopen_all first hs h512 h1 h2 hb
end Go.Proofs.Yteoeaojebklfjaa
