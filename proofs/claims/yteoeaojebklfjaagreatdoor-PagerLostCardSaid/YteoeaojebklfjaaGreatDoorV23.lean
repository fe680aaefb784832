/- QH in one text. -/
import Derived.Test.YteoeaojebklfjaaGreatDoorV22
import Derived.Test.YteoeaojebklfjaaGreatDoorV04
namespace Go.Proofs.YteoeaojebklfjaaGreatDoor
open Go.RowKit Go.Maps
set_option linter.unusedVariables false
set_option linter.unusedSimpArgs false
set_option maxRecDepth 20000

section
variable {w : World} {L : Lo} {R : Nat} {F : Nat → Prop} {s : Sy}
set_option maxHeartbeats 8000000 in
theorem commit_any (h : SyAt w L R F s) (hok : s.p.Ok) (hrok : s.r.Ok) (hdd : s.d.dead = false) {n : Nat} (hf : s.d.Few n) (hn : n ≤ 500000) (hl8 : 8 ≤ s.d.lasts.length) (hfit : s.r.first + s.r.count ≤ s.d.lasts.length) (hnow : s.p.now.length ≤ 1000) :
    Calls Tryz.prog 13 #[.pointer (some ⟨L.P, 0, none⟩)] w fun e w' => e = .returned (.int .i64 s.commit.1) ∧ ∃ L' R' F', SyAt w' L' R' F' s.commit.2 ∧ To w w' L R F L' R' F' := by
  have hmm := @run_makeMap Tryz.prog
  have H := Lib.hid h
  have HOK := Lib.hid (And.intro hok (And.intro hrok (And.intro hdd (And.intro hf (And.intro hn (And.intro hl8 (And.intro hfit hnow)))))))
  have HC : Hid (∀ w', Only None' w w' → CellsR w' L.P (s.p.vs L (.pointer (some ⟨R, 0, none⟩)))) := Lib.hid fun w' o => h.pg.cells.kept o fun e => e
  have HKC := Lib.hid h.pg.count
  have HLN : Hid (∀ w', Only None' w w' → Calls Tryz.prog 41 #[.pointer (some ⟨L.D, 0, none⟩)] w' fun r w'' => r = .returned (.int .i64 (s.d.lasts.length : Int)) ∧ w'' = w') := Lib.hid fun w' o => len_any (h.disk.new o)
  have hmany := h.disk.ok.many
  obtain ⟨len, hlen⟩ : ∃ len, len = s.d.lasts.length := ⟨_, rfl⟩
  rw [← hlen] at HLN hmany
  have HLEN := Lib.hid (And.intro hlen hmany)
  obtain ⟨e8, he8⟩ : ∃ e8, e8 = len / 8 := ⟨_, rfl⟩
  have HE8 := Lib.hid he8
  obtain ⟨tb, htb⟩ : ∃ tb, tb = decide ((e8 : Int) < (s.p.count.length : Int)) := ⟨_, rfl⟩
  have HTB := Lib.hid htb
  clear h hok hrok hdd hf hn hl8 hfit hnow hmany hlen he8 htb
  go_enter Tryz.func13, Tryz.ntmps13
  go_upto_region 3 with fail
  refine r_begin (S := None') (by kernel_rfl) ?_
  have HS := Lib.hid (Only.refl (None') w)
  refine r_take 0 (.pointer (some ⟨L.P, 0, none⟩)) rfl (by kernel_rfl) (fun _ _ _ h => h) HS.out (YR.pure (by rfl) fun w hw => y_move w rfl rfl) ?_
  simp only [Act.put, zA, zB, zC]
  refine r_take 1 (.pointer (some ⟨L.P, 0, none⟩)) rfl (by kernel_rfl) (fun _ _ _ h => h) HS.out (YR.pure (by rfl) fun w hw => y_nil w rfl rfl) ?_
  simp only [Act.put, zA, zB, zC]
  refine r_take 2 (.pointer (some ⟨L.P, 15, none⟩)) rfl (by kernel_rfl) (fun _ _ _ h => h) HS.out (YR.pure (by rfl) fun w hw => y_f72_9 w rfl rfl) ?_
  simp only [Act.put, zA, zB, zC]
  refine r_take 3 (.map (some L.Mc)) rfl (by kernel_rfl) (fun _ _ _ h => h) HS.out (YR.pure (by rfl) fun w hw => y_load70 rfl rfl ((HC.out w hw).is 15 _ rfl)) ?_
  simp only [Act.put, zA, zB, zC]
  refine r_take 4 (.int .i64 (s.p.count.length : Int)) rfl (by kernel_rfl) (fun _ _ _ h => h) HS.out (YR.pure (by rfl) fun w hw => y_len70 rfl rfl (HKC.out.new hw)) ?_
  simp only [Act.put, zA, zB, zC]
  refine r_take 5 (.pointer (some ⟨L.P, 0, none⟩)) rfl (by kernel_rfl) (fun _ _ _ h => h) HS.out (YR.pure (by rfl) fun w hw => y_move w rfl rfl) ?_
  simp only [Act.put, zA, zB, zC]
  refine r_take 6 (.pointer (some ⟨L.P, 0, none⟩)) rfl (by kernel_rfl) (fun _ _ _ h => h) HS.out (YR.pure (by rfl) fun w hw => y_nil w rfl rfl) ?_
  simp only [Act.put, zA, zB, zC]
  refine r_take 7 (.pointer (some ⟨L.P, 0, none⟩)) rfl (by kernel_rfl) (fun _ _ _ h => h) HS.out (YR.pure (by rfl) fun w hw => y_f72_0 w rfl rfl) ?_
  simp only [Act.put, zA, zB, zC]
  refine r_take 8 (.pointer (some ⟨L.D, 0, none⟩)) rfl (by kernel_rfl) (fun _ _ _ h => h) HS.out (YR.pure (by rfl) fun w hw => y_load23 rfl rfl ((HC.out w hw).is 0 _ rfl)) ?_
  simp only [Act.put, zA, zB, zC]
  refine r_take 9 (.int .i64 (len : Int)) rfl (by kernel_rfl) (fun _ _ _ h => h) HS.out (YR.call (by rfl) (fun w => y_enter [.pointer (some ⟨L.D, 0, none⟩)] rfl (by rfl) (call41_ _) w) fun w hw => (HLN.out w hw).mono fun e w2 h => ⟨h.1, by rw [h.2]; exact Only.refl _ _⟩) ?_
  simp only [Act.put, zA, zB, zC]
  refine r_take 10 (.int .i64 (e8 : Int)) rfl (by kernel_rfl) (fun _ _ _ h => h) HS.out (YR.pure (by rfl) fun w hw => y_quo3 w (p := len) (q := 8) HE8.out.symm (by decide) (by have := HLEN.out.2; omega) rfl rfl rfl) ?_
  simp only [Act.put, zA, zB, zC]
  refine r_take 11 (.bool tb) rfl (by kernel_rfl) (fun _ _ _ h => h) HS.out (YR.pure (by rfl) fun w hw => y_gtr3 w HTB.out.symm rfl rfl rfl) ?_
  simp only [Act.put, zA, zB, zC]
  refine r_take 12 (.bool tb) rfl (by kernel_rfl) (fun _ _ _ h => h) HS.out (YR.pure (by rfl) fun w hw => y_assign w rfl rfl) ?_
  simp only [Act.put, zA, zB, zC]
  refine r_done (by kernel_rfl) fun wz oz => ?_
  have HO1 := Lib.hid (HS.out.trans oz)
  clear HS oz HC HKC HLN
  generalize wz = w1 at HO1 ⊢
  cases tb with
  | true =>
    go_wp2_with fail
    go_ret
    have e : s.commit = (3, s) := by
      unfold Sy.commit
      have := of_decide_eq_true HTB.out.symm
      rw [if_pos (by have h1 := HE8.out; have h2 := HLEN.out.1; rw [← h2, ← h1]; omega)]
    rw [e]
    exact ⟨rfl, L, R, F, H.out.new HO1.out, To.new HO1.out⟩
  | false =>
    have HNF : Hid (¬ s.d.lasts.length / 8 < s.p.count.length) := Lib.hid (by
      have := of_decide_eq_false HTB.out.symm
      have h1 := HE8.out
      have h2 := HLEN.out.1
      rw [← h2, ← h1]
      omega)
    have h1 := H.out.new HO1.out
    have H1 := Lib.hid h1
    have c10 := h1.pg.cells.is 10 _ rfl
    obtain ⟨rb, hrb⟩ : ∃ rb, rb = decide (s.p.m.root ≠ 0 ∧ s.p.uses (s.p.m.root : Int) = false) := ⟨_, rfl⟩
    have HRB := Lib.hid hrb
    have HU := Lib.hid (uses_any h1.pg HOK.out.1 (s.p.m.root : Int))
    obtain ⟨root, hroot⟩ : ∃ root, root = s.p.m.root := ⟨_, rfl⟩
    change w1.cell? ⟨L.P, 10, none⟩ = some (.int .i64 (s.p.m.root : Int)) at c10
    rw [← hroot] at c10 HU hrb
    have HROOT := Lib.hid hroot
    have r1 : (root : Int) ≤ 10000000000 := by have := HOK.out.1.m.root; omega
    clear h1 hroot
    go_upto_region 5 with fail
    go_cut [24] from 25 to 40 (fun c wx => c = .bool rb ∧ Hid (Only None' w1 wx))
    case first =>
      by_cases h0 : root = 0
      · subst h0
        have e : rb = false := by rw [hrb]; simp
        subst e
        clear hrb
        go_wp2_with fail
        go_meet
        exact ⟨rfl, Lib.hid (Only.refl _ _)⟩
      · have e0 : ((root : Int) == 0) = false := by simp; omega
        have e1 : ((root : Int) != 0) = true := by rw [bne, e0]; rfl
        cases hub : s.p.uses (root : Int) with
        | true =>
          have e : rb = false := by rw [hrb, hub]; simp
          subst e
          rw [hub] at HU
          clear hrb hub h0
          go_wp2_with fail
          refine HU.out.mono ?_
          rintro e w2 ⟨rfl, rfl⟩
          go_wp2_with fail
          go_meet
          exact ⟨rfl, Lib.hid (Only.refl _ _)⟩
        | false =>
          have e : rb = true := by rw [hrb, hub]; simp [h0]
          subst e
          rw [hub] at HU
          clear hrb hub h0
          go_wp2_with fail
          refine HU.out.mono ?_
          rintro e w2 ⟨rfl, rfl⟩
          go_wp2_with fail
          go_meet
          exact ⟨rfl, Lib.hid (Only.refl _ _)⟩
    case rest =>
      obtain ⟨rfl, hO2⟩ := hcut
      have HW1 : Hid (SyAt wc L R F s) := Lib.hid (H1.out.new hO2.out)
      have HO3 := Lib.hid (HO1.out.trans hO2.out)
      clear HU c10 hO2 r1 hrb
      generalize wc = w2 at HW1 HO3 ⊢
      cases rb with
      | true =>
        go_wp2_with fail
        go_ret
        have e : s.commit = (1, s) := by
          unfold Sy.commit
          rw [if_neg HNF.out, if_pos (of_decide_eq_true HRB.out.symm)]
        rw [e]
        exact ⟨rfl, L, R, F, HW1.out, To.new HO3.out⟩
      | false =>
        have HEQ : Hid (s.commit = Sy.finish (Sy.log ⟨s.p.logged, s.r, s.d⟩ s.p.record)) := Lib.hid (by
          unfold Sy.commit
          rw [if_neg HNF.out, if_neg (of_decide_eq_false HRB.out.symm)])
        obtain ⟨pgs, hpgs⟩ : ∃ pgs, pgs = s.p.m.page := ⟨_, rfl⟩
        have HPG := Lib.hid (And.intro hpgs (show pgs.length = 512 by rw [hpgs]; exact Meta.page_len _))
        have HBY : Hid (∀ w', Calls Tryz.prog 42 #[s.p.m.v] w' fun e w'' => e = .returned (.agg (bv pgs).toArray) ∧ Only None' w' w'') := Lib.hid fun w' => by
          rw [hpgs]
          exact bytes_any HOK.out.1.m w'
        have HC : Hid (∀ w', Only (fun k => k = L.Mn) w2 w' → CellsR w' L.P (s.p.vs L (.pointer (some ⟨R, 0, none⟩)))) := Lib.hid fun w' o => HW1.out.pg.cells.kept o fun e => HW1.out.pg.ok.pn e
        have HRM : Hid (∀ w', Only (fun k => k = L.Mn) w2 w' → w'.rangeAt L.P 10 s.p.m.vs) := Lib.hid fun w' o => fun j u hu => by
          refine (HC.out w' o).is (10 + j) u ?_
          rw [← hu]
          have hj : j < 4 := by
            have := (List.getElem?_eq_some_iff.1 hu).1
            simpa [Meta.vs] using this
          rcases j with _ | _ | _ | _ | j
          · rfl
          · rfl
          · rfl
          · rfl
          · omega
        have HN0 := Lib.hid HW1.out.pg.now
        have HNL := Lib.hid HOK.out.2.2.2.2.2.2.2
        clear hpgs
        go_upto_region 7 with fail
        refine r_begin (S := fun k => k = L.Mn) (by kernel_rfl) ?_
        have HS := Lib.hid (Only.refl (fun k => k = L.Mn) w2)
        refine r_take 0 (.pointer (some ⟨L.P, 0, none⟩)) rfl (by kernel_rfl) (fun _ _ _ h => h) HS.out (YR.pure (by rfl) fun w hw => y_move w rfl rfl) ?_
        simp only [Act.put, zA, zB, zC]
        refine r_take 1 (.pointer (some ⟨L.P, 0, none⟩)) rfl (by kernel_rfl) (fun _ _ _ h => h) HS.out (YR.pure (by rfl) fun w hw => y_nil w rfl rfl) ?_
        simp only [Act.put, zA, zB, zC]
        refine r_take 2 (.pointer (some ⟨L.P, 5, none⟩)) rfl (by kernel_rfl) (fun _ _ _ h => h) HS.out (YR.pure (by rfl) fun w hw => y_f72_5 w rfl rfl) ?_
        simp only [Act.put, zA, zB, zC]
        refine r_take 3 (.map (some L.Mn)) rfl (by kernel_rfl) (fun _ _ _ h => h) HS.out (YR.pure (by rfl) fun w hw => y_load69 rfl rfl ((HC.out w hw).is 5 _ rfl)) ?_
        simp only [Act.put, zA, zB, zC]
        refine r_take 4 (.pointer (some ⟨L.P, 0, none⟩)) rfl (by kernel_rfl) (fun _ _ _ h => h) HS.out (YR.pure (by rfl) fun w hw => y_move w rfl rfl) ?_
        simp only [Act.put, zA, zB, zC]
        refine r_take 5 (.pointer (some ⟨L.P, 0, none⟩)) rfl (by kernel_rfl) (fun _ _ _ h => h) HS.out (YR.pure (by rfl) fun w hw => y_nil w rfl rfl) ?_
        simp only [Act.put, zA, zB, zC]
        refine r_take 6 (.pointer (some ⟨L.P, 10, none⟩)) rfl (by kernel_rfl) (fun _ _ _ h => h) HS.out (YR.pure (by rfl) fun w hw => y_f72_7 w rfl rfl) ?_
        simp only [Act.put, zA, zB, zC]
        refine r_take 7 (s.p.m.v) rfl (by kernel_rfl) (fun _ _ _ h => h) HS.out (YR.pure (by rfl) fun w hw => y_load67 rfl rfl (HRM.out w hw)) ?_
        simp only [Act.put, zA, zB, zC]
        refine r_take 8 (.agg (bv pgs).toArray) rfl (by kernel_rfl) (fun _ _ _ h => h) HS.out (YR.call (by rfl) (fun w => y_enter [s.p.m.v] rfl (by rfl) (call42_ _) w) fun w hw => HBY.out w) ?_
        simp only [Act.put, zA, zB, zC]
        refine r_one 9 rfl (by kernel_rfl) (by rfl) fun wi oi => ?_
        refine wp_update69 (n := 0) (s := pgs) rfl rfl rfl rfl (HN0.out.new oi) (by have := HNL.out; omega) (by decide) fun wj hm oj => ⟨(HS.out.quiet oi).trans oj, ?_⟩
        simp only [Act.put, zA, zB, zC]
        have HT := Lib.hid ((HS.out.quiet oi).trans oj)
        have HM6 := Lib.hid hm
        clear HS oi oj hm
        have HS := HT
        clear HT
        refine r_done (by kernel_rfl) fun wz oz => ?_
        obtain ⟨l, hl⟩ : ∃ l, l = ins 0 pgs s.p.now := ⟨_, rfl⟩
        rw [← hl] at HM6
        have h4 := HW1.out.setNow (HM6.out.new oz) (HS.out.quiet oz)
        have H4 := Lib.hid (And.intro h4 (To.owns (L := L) (R := R) (F := F) (HS.out.quiet oz) fun k e => .inl (.inr (.inr (.inl e)))))
        have HLE : Hid (l = ins 0 s.p.m.page s.p.now ∧ l.length ≤ 1001 ∧ (∀ q ∈ l, q.1 ≤ 20000000000 ∧ q.2.length = 512) ∧ ∃ t, l = (0, pgs) :: t) := Lib.hid (by
          refine ⟨by rw [hl, HPG.out.1], ?_, fun q hq => ?_, ?_⟩
          · rw [hl]; have := len_ins 0 pgs s.p.now; have := HNL.out; omega
          · rw [hl] at hq
            rcases mem_ins hq with rfl | hq
            · exact ⟨by simp, HPG.out.2⟩
            · exact HOK.out.1.now q hq
          · rw [hl]; exact ins_zero pgs s.p.now)
        clear HS oz HM6 HC HRM HN0 h4 hl
        generalize wz = w3 at H4 ⊢
        have c5 := H4.out.1.pg.cells.is 5 _ rfl
        have HSO := Lib.hid (sorted_any H4.out.1.pg.now (show l.length ≤ 100000 by have := HLE.out.2.1; omega))
        change Hid (Calls _ _ _ _ (fun e w' => ∃ v, e = .returned v ∧ Vec w' 1 v l.length _ ∧ _ ∧ _)) at HSO
        obtain ⟨ln, hln⟩ : ∃ ln, ln = l.length := ⟨_, rfl⟩
        rw [← hln] at HSO
        have HLN := Lib.hid hln
        have hln1 : (ln : Int) ≤ 1001 := by have := HLE.out.2.1; omega
        clear hln
        go_wp2_with fail
        refine (keys_any (some L.Mn) w3).mono ?_
        rintro e w4 ⟨rfl, rfl⟩
        go_wp2_with fail
        refine HSO.out.mono ?_
        rintro e w5 ⟨v, rfl, hv, hg, o2⟩
        obtain ⟨va, vc, rfl, hvn, hvm⟩ := hv.shape
        have HV := Lib.hid (And.intro hv (And.intro hg o2))
        have HL0 : Hid (CmLoop w5 w5 l 0 (.slice none 0 0)) := Lib.hid ⟨Vec.nil _ _, fun g hg => (by cases hg), Only.refl _ _⟩
        clear hv hg o2 hvn hvm c5
        go_wp2_with fail
        go_loopg [3, 57] ln (fun gg z t wr => ∃ (k : Nat), gg = ln - k ∧ k ≤ ln ∧ t = .int .i64 (k : Int) ∧ Hid (CmLoop w5 wr l k z))
        case atStart => exact ⟨0, rfl, Nat.zero_le _, rfl, HL0⟩
        case round =>
          obtain ⟨k, rfl, hk, rfl, HLP⟩ := hrel
          have hat : SyAt wr L R F ⟨{ s.p with now := l }, s.r, s.d⟩ := (H4.out.1.new HV.out.2.2).new HLP.out.only
          by_cases hlt : k < ln
          · obtain ⟨q, hq⟩ : ∃ q, l[k]? = some q := ⟨_, List.getElem?_eq_getElem (by rw [← HLN.out]; exact hlt)⟩
            have hmem : q ∈ l := List.mem_of_getElem? hq
            have hqd := HLE.out.2.2.1 q hmem
            have hvr := HV.out.1.only HLP.out.only fun _ _ e => e
            obtain ⟨g, off, rfl, hgl, hcell, -⟩ := hvr.form' (by omega)
            obtain ⟨q1, qs⟩ := q
            have hck : wr.cell? ⟨g, off + k, none⟩ = some (.int .i64 (q1 : Int)) := hcell k _ (by simp [hq])
            have hlook : (Instr.lookup 69 (.map (some L.Mn)) (.int .i64 (q1 : Int)) false).run Tryz.prog wr = .ok (.agg (bv qs).toArray) wr := by
              have := hat.pg.now.lookup under69 zeroP (n := q1) (by have := hqd.1; simp only at this; omega)
              rw [look_of_mem hat.pg.now.rise hmem] at this
              exact this
            have c5 := hat.pg.cells.is 5 _ rfl
            have HL5 := Lib.hid hqd.2
            have hv0 := page_zero wr
            have HV0 := Lib.hid hv0
            obtain ⟨W, hW⟩ : ∃ W, W = (wr.alloc (.cells Tryz.zeroCells74 74)).setCells wr.heap.size 0 (bv qs) := ⟨_, rfl⟩
            have oW : Only None' wr W := by rw [hW]; exact ((Only.refl None' wr).alloc _).trans2 ((Only.refl (fun k => k = wr.heap.size) _).setCells rfl 0 _) fun k hk e => by omega
            have hP := page_stored hv0 hqd.2
            rw [← hW] at hP
            have HW := Lib.hid hW
            have HOW := Lib.hid (And.intro oW hP)
            have HQ := Lib.hid hq
            have hq0 : q1 ≤ 2147483647 ∨ 0 < (recG (l.take k)).length := by
              rcases k with _ | k
              · left
                obtain ⟨t, ht⟩ := HLE.out.2.2.2
                rw [ht] at hq
                simp at hq
                omega
              · right
                refine recG_pos fun e => ?_
                have e2 : (l.take (k + 1)).length = 0 := by rw [e]; rfl
                rw [List.length_take] at e2
                have := HLN.out
                omega
            have hrl : (recG (l.take k)).length ≤ 522 * k := by
              refine Nat.le_trans (recG_len _ fun q hq => (HLE.out.2.2.1 q (List.mem_of_mem_take hq)).2) ?_
              rw [List.length_take]
              exact Nat.mul_le_mul_left _ (Nat.min_le_left _ _)
            have HRL : Hid ((recG (l.take k)).length ≤ 522522 ∧ q1 ≤ 20000000000 ∧ (q1 ≤ 2147483647 ∨ 0 < (recG (l.take k)).length)) := Lib.hid ⟨by omega, hqd.1, hq0⟩
            have HTR : Hid (∀ w', Only None' W w' → Calls Tryz.prog 47 #[.slice (some ⟨wr.heap.size, 0, none⟩) 512 512, .string ⟨#[0]⟩] w' fun e w'' => e = .returned (.slice (some ⟨wr.heap.size, 0, none⟩) (trimR qs).length 512) ∧ w' = w'') := Lib.hid fun w' o => trim_at hP hqd.2 o
            have HTD : Hid (∀ w', Only None' W w' → Rd w' 1 (.slice (some ⟨wr.heap.size, 0, none⟩) (trimR qs).length 512) (trimR qs).length (bv (trimR qs))) := Lib.hid fun w' o => trim_rd hP hqd.2 o
            have HTL : Hid ((trimR qs).length ≤ 512 ∧ (uvM q1).length ≤ 5) := Lib.hid ⟨by have := trimR_len qs; have := hqd.2; simp only at this; omega, by
              unfold uvM
              split
              · exact uv_len (by omega)
              · simp⟩
            have HRW := Lib.hid HLP.out.row
            have i1 : (k : Int) < (ln : Int) := by omega
            have HK := Lib.hid hlt
            clear hat hmem hqd hvr hcell hv0 hW oW hP hq hlt hk hq0 hrl
            go_upto_region 13 with (first | (refine wpList_store_mid rfl 74 _ _ rfl wr.heap.size 0 (bv qs).toArray rfl rfl (set_there HV0.out HL5.out) (size74a qs HL5.out) (all_oneCell_toArray (bv_one qs)) ?_; change wpList _ _ _ _ _ ((wr.alloc (.cells Tryz.zeroCells74 74)).setCells wr.heap.size 0 (bv qs)); rw [← HW.out]; clear HW))
            refine r_begin (S := None') (by kernel_rfl) ?_
            have HS := Lib.hid (Only.refl (None') W)
            refine r_take 0 (u3) rfl (by kernel_rfl) (fun _ _ _ h => h) HS.out (YR.pure (by rfl) fun w hw => y_move w rfl rfl) ?_
            simp only [Act.put, zA, zB, zC]
            refine r_take 1 (.int .i64 (q1 : Int)) rfl (by kernel_rfl) (fun _ _ _ h => h) HS.out (YR.pure (by rfl) fun w hw => y_move w rfl rfl) ?_
            simp only [Act.put, zA, zB, zC]
            refine r_take 3 (.slice (some ⟨wr.heap.size, 0, none⟩) 512 512) rfl (by kernel_rfl) (fun _ _ _ h => h) HS.out (YR.pure (by rfl) fun w hw => y_all74 w rfl rfl) ?_
            simp only [Act.put, zA, zB, zC]
            refine r_one 2 rfl (by kernel_rfl) (by rfl) fun wi oi => ?_
            refine wp_enter (y_enter [u3, .int .i64 (q1 : Int)] rfl (by rfl) (call46_ _) wi) ((count_all ((HRW.out.only HOW.out.1 fun _ _ e => e).only oi fun _ _ e => e) (by have := HRL.out.1; omega) q1 (by have := HRL.out.2.1; omega) HRL.out.2.2).mono ?_)
            rintro e wj ⟨v1, rfl, hv1, hf1, oj⟩
            refine ⟨_, rfl, (HS.out.quiet oi).quiet oj, ?_⟩
            simp only [Act.put, zA, zB, zC]
            have HT := Lib.hid ((HS.out.quiet oi).quiet oj)
            have HV1 := Lib.hid (And.intro hv1 (And.intro hf1 (HOW.out.1.trans (oi.trans oj))))
            clear hv1 hf1
            clear HS oi oj
            have HS := HT
            clear HT
            refine r_take 4 (.slice (some ⟨wr.heap.size, 0, none⟩) (trimR qs).length 512) rfl (by kernel_rfl) (fun _ _ _ h => h) HS.out (YR.call (by rfl) (fun w => y_enter [.slice (some ⟨wr.heap.size, 0, none⟩) 512 512, .string ⟨#[0]⟩] rfl (by rfl) (call47_ _) w) fun w hw => (HTR.out w hw).mono fun e w2 h => ⟨h.1, by rw [← h.2]; exact Only.refl _ _⟩) ?_
            simp only [Act.put, zA, zB, zC]
            refine r_take 5 (.string (st (trimR qs))) rfl (by kernel_rfl) (fun _ _ _ h => h) HS.out (YR.pure (by rfl) fun w hw => y_str rfl (HTD.out w hw) rfl rfl) ?_
            simp only [Act.put, zA, zB, zC]
            refine r_one 6 rfl (by kernel_rfl) (by rfl) fun wi oi => ?_
            refine wp_enter (y_enter [v1, .string (st (trimR qs))] rfl (by rfl) (call45_ _) wi) ((str_any (HV1.out.1.only oi fun _ _ e => e) (by have := HRL.out.1; have := HTL.out.2; omega) (trimR qs) (by have := HTL.out.1; omega)).mono ?_)
            rintro e wj ⟨v2, rfl, hv2, hf2, oj⟩
            refine ⟨_, rfl, (HS.out.quiet oi).quiet oj, ?_⟩
            simp only [Act.put, zA, zB, zC]
            have HT := Lib.hid ((HS.out.quiet oi).quiet oj)
            have HV2 := Lib.hid (And.intro hv2 (And.intro hf2 (HV1.out.2.2.trans (oi.trans oj))))
            have HSZ := Lib.hid (Nat.le_trans HV1.out.2.2.size oi.size)
            clear hv2 hf2
            clear HS oi oj
            have HS := HT
            clear HT
            refine r_take 7 (v2) rfl (by kernel_rfl) (fun _ _ _ h => h) HS.out (YR.pure (by rfl) fun w hw => y_assign w rfl rfl) ?_
            simp only [Act.put, zA, zB, zC]
            refine r_done (by kernel_rfl) fun wz oz => ?_
            have HNX : Hid (CmLoop w5 wz l (k + 1) v2) := Lib.hid (HLP.out.next HQ.out (HV2.out.2.2.trans oz) rfl (HV2.out.1.only oz fun _ _ e => e) fun g hg => Nat.le_trans HSZ.out (HV2.out.2.1 g hg))
            clear HS oz HV1 HV2 HSZ HTR HTD HRW
            generalize wz = w7 at HNX ⊢
            go_wp2_with fail
            go_roundg (ln - (k + 1))
            case rel => exact ⟨k + 1, rfl, HK.out, rfl, HNX⟩
            case measure => have := HK.out; omega
          · have hkl : k = ln := by omega
            have hrow := HLP.out.row
            rw [hkl, HLN.out, List.take_length] at hrow
            have hrec : recG l = s.p.record := by unfold Pg.record; rw [HLE.out.1]
            have hrl : (recG l).length ≤ 522522 := by
              have h1 := recG_len l fun q hq => (HLE.out.2.2.1 q hq).2
              have h2 := HLE.out.2.1
              omega
            have hpos : 0 < (recG l).length := recG_pos (by obtain ⟨t, ht⟩ := HLE.out.2.2.2; rw [ht]; simp)
            obtain ⟨rec, hre⟩ : ∃ rec, rec = recG l := ⟨_, rfl⟩
            rw [← hre] at hrow hrec hrl hpos
            rw [← hrec] at HEQ
            obtain ⟨g, off, cap, rfl, _⟩ := hrow.at_ hpos
            have HROW := Lib.hid (And.intro hrow (And.intro hrl (show w3.heap.size ≤ g by have := HLP.out.fresh g rfl; have := HV.out.2.2.size; omega)))
            obtain ⟨rl, hrll⟩ : ∃ rl, rl = rec.length := ⟨_, rfl⟩
            have HRL := Lib.hid hrll
            rw [← hrll]
            have HAT := Lib.hid hat
            have c5 := hat.pg.cells.is 5 _ rfl
            have i1 : ¬ (k : Int) < (ln : Int) := by omega
            clear hat hlt hkl hrow hrec hrl hpos hre hrll hk
            go_upto_region 16 with (refine wpList_delete69 rfl _ _ rfl L.Mn 0 l rfl rfl HAT.out.pg.now (by decide) ?_; intro w8 hm8 o8; have H80 := Lib.hid (And.intro hm8 o8); clear hm8 o8 c5)
            obtain ⟨s0, hs0⟩ : ∃ s0 : Sy, s0 = ⟨s.p.logged, s.r, s.d⟩ := ⟨_, rfl⟩
            rw [← hs0] at HEQ
            have h8 : SyAt w8 L R F s0 := by
              have := HAT.out.setNow H80.out.1 H80.out.2
              rw [hs0]
              unfold Pg.logged
              rw [← HLE.out.1]
              exact this
            have hga : ¬ allS L R F g := fun e => by have := H4.out.1.lt e; have := HROW.out.2.2; omega
            have hgn : g ≠ L.Mn := fun e => hga (.inl (.inr (.inr (.inl e))))
            have hr8 : Vec w8 1 (.slice (some ⟨g, off, none⟩) rec.length cap) rec.length (bv rec) := HROW.out.1.only H80.out.2 fun g' hg' e => by injection hg' with hg'; exact hgn (hg'.trans e)
            have hs0p : s0.p.Ok ∧ s0.r = s.r ∧ s0.d = s.d := by
              rw [hs0]
              refine ⟨⟨HOK.out.1.first, HOK.out.1.pages, HOK.out.1.dirty, fun q hq => ?_, HOK.out.1.dl, ?_, HOK.out.1.il, HOK.out.1.cl, HOK.out.1.m, HOK.out.1.kept⟩, rfl, rfl⟩
              · have hq' : q ∈ kDel (ins 0 s.p.m.page s.p.now) 0 := hq
                rw [← HLE.out.1] at hq'
                exact HLE.out.2.2.1 q (List.mem_filter.1 hq').1
              · show (kDel (ins 0 s.p.m.page s.p.now) 0).length ≤ _
                rw [← HLE.out.1]
                have := len_del l 0
                have := HLE.out.2.1
                omega
            have HS0 := Lib.hid (And.intro hs0 hs0p)
            have ha := append_sy h8 (by rw [hs0p.2.1]; exact HOK.out.2.1) (by rw [hs0p.2.2]; exact HOK.out.2.2.1) (by rw [hs0p.2.1, hs0p.2.2]; exact HOK.out.2.2.2.2.2.2.1) (n := n) (by rw [hs0p.2.2]; exact HOK.out.2.2.2.1) (by have := HOK.out.2.2.2.2.1; omega) hr8 hga (by have := HROW.out.2.1; omega)
            have t28 : To w w8 L R F L R F := ((To.new HO3.out).trans H4.out.2).trans (((To.new HV.out.2.2).trans (To.new HLP.out.only)).trans (To.owns H80.out.2 fun k e => .inl (.inr (.inr (.inl e)))))
            have H8 := Lib.hid (And.intro h8 (And.intro hr8 (And.intro hga t28)))
            have c1 := h8.pg.cells.is 1 _ rfl
            rw [← HRL.out] at ha
            obtain ⟨cA, sA, hA⟩ : ∃ cA sA, s0.append rec = (cA, sA) := ⟨_, _, rfl⟩
            rw [hA] at ha
            have HA := Lib.hid ha
            have HAE := Lib.hid hA
            clear h8 hr8 hga hgn hs0 hs0p ha hA t28
            go_wp2_with fail
            refine HA.out.mono ?_
            rintro e w9 ⟨rfl, F1, h9, t9⟩
            have H9 := Lib.hid (And.intro h9 t9)
            have c1' := h9.pg.cells.is 1 _ rfl
            change w9.cell? ⟨L.P, 1, none⟩ = some (.pointer (some ⟨R, 0, none⟩)) at c1'
            clear c1 h9 t9 HA
            go_upto_if 86 with fail
            go_cut [7] from 87 to 101 (fun c wx => ∃ (cc : Int) (s2 : Sy) (L2 : Lo) (R2 : Nat) (F2 : Nat → Prop), c = .int .i64 cc ∧ Hid (s0.log rec = (cc, s2) ∧ SyAt wx L2 R2 F2 s2 ∧ To w8 wx L R F L2 R2 F2))
            case first =>
              by_cases h3 : cA = 3
              · subst h3
                have hap : appR s0.r s0.d rec = (3, sA.r, sA.d) ∧ sA.p = s0.p := by
                  have := HAE.out
                  unfold Sy.append at this
                  simp only [Prod.mk.injEq] at this
                  obtain ⟨h1, rfl⟩ := this
                  exact ⟨by rw [← h1], rfl⟩
                have hkr : sA.r = s.r := by
                  have := appR_keep (r := s0.r) (d := s0.d) (rec := rec) (by rw [hap.1]; show (3 : Int) ≠ 0; decide)
                  rw [hap.1] at this
                  exact this.trans HS0.out.2.2.1
                have hkd : sA.d.dead = false := by
                  have := appR_live (r := s0.r) (d := s0.d) (rec := rec) (by rw [HS0.out.2.2.2]; exact HOK.out.2.2.1) (by rw [hap.1]; show (3 : Int) ≠ 20; decide)
                  rw [hap.1] at this
                  exact this
                have hcut := cutN_le HROW.out.2.1
                have hkf : sA.d.Few (n + cutN rec.length) := by
                  have := appR_few (r := s0.r) (d := s0.d) (n := n) (by rw [HS0.out.2.2.2]; exact HOK.out.2.2.2.1) rec
                  rw [hap.1] at this
                  exact this
                have hkl : sA.d.lasts.length = s.d.lasts.length := by
                  have := appR_len (r := s0.r) (d := s0.d) rec
                  rw [hap.1, HS0.out.2.2.2] at this
                  exact this
                have htp := top_any H9.out.1.ring
                have hse := settle_any H9.out.1 (by rw [hap.2]; exact HS0.out.2.1) hkd hkf (by have := HOK.out.2.2.2.2.1; omega) (by rw [hkl]; exact HOK.out.2.2.2.2.2.1) (base := sA.r.top) (by rw [hkr]; exact HOK.out.2.1.top)
                obtain ⟨cB, sB, hB⟩ : ∃ cB sB, sA.settle sA.r.top = (cB, sB) := ⟨_, _, rfl⟩
                have hlg : s0.log rec = if cB = 0 then sB.append rec else (cB, sB) := by
                  unfold Sy.log
                  rw [HAE.out]
                  simp only [if_true]
                  rw [hB]
                have hgd := settle_good (s := sA) (base := sA.r.top)
                have hgl := settle_live (s := sA) (base := sA.r.top) hkd
                have hgf := settle_few (base := sA.r.top) hkf
                have hgn := settle_len (s := sA) (base := sA.r.top)
                rw [hB] at hse hgd hgl hgf hgn
                have HTP := Lib.hid htp
                have HSE := Lib.hid hse
                have HLG := Lib.hid hlg
                have HG := Lib.hid (And.intro hgd (And.intro hgl (And.intro hgf (And.intro hgn (And.intro hcut (And.intro hkl (And.intro hkr hap.2)))))))
                clear hap hkr hkd hcut hkf hkl htp hse hB hlg hgd hgl hgf hgn
                go_wp2_with fail
                refine HTP.out.mono ?_
                rintro e w10 ⟨rfl, rfl⟩
                go_wp2_with fail
                refine HSE.out.mono ?_
                rintro e w11 ⟨rfl, L2, R2, F2, h11, t11⟩
                have H11 := Lib.hid (And.intro h11 (H9.out.2.trans t11))
                have c1'' := h11.pg.cells.is 1 _ rfl
                rw [(H9.out.2.trans t11).P] at c1''
                change w11.cell? ⟨L.P, 1, none⟩ = some (.pointer (some ⟨R2, 0, none⟩)) at c1''
                clear h11 t11 c1' HTP HSE
                by_cases h0 : cB = 0
                · subst h0
                  have hr11 : Vec w11 1 (.slice (some ⟨g, off, none⟩) rec.length cap) rec.length (bv rec) := H8.out.2.1.only H11.out.2.kept.only fun g' hg' e => by injection hg' with hg'; have hg2 : g = g' := hg'; exact H8.out.2.2.1 (hg2 ▸ e)
                  have hln8 : 8 ≤ s.d.lasts.length := HOK.out.2.2.2.2.2.1
                  have hmx := HLEN.out
                  have hro : sB.r.Ok := by
                    rw [(HG.out.1 rfl).2]
                    refine Rg.opened_ok ?_ ?_ (by rw [HG.out.2.2.2.2.2.2.1]; exact HOK.out.2.1.top)
                    · rw [HG.out.2.2.2.2.2.1]; omega
                    · rw [HG.out.2.2.2.2.2.1]; omega
                  have hfit : sB.r.first + sB.r.count ≤ sB.d.lasts.length := by
                    rw [(HG.out.1 rfl).2, HG.out.2.2.2.1, HG.out.2.2.2.2.2.1]
                    show 1 + s.d.lasts.length / 4 ≤ _
                    omega
                  have hdl := HS0.out.2.1.dl
                  rw [← HG.out.2.2.2.2.2.2.2] at hdl
                  have ha2 := append_sy H11.out.1 hro (HG.out.2.1 rfl) hfit HG.out.2.2.1 (by have := HG.out.2.2.2.2.1; have := HOK.out.2.2.2.2.1; omega) hr11 (H11.out.2.stay (H8.out.2.1.lt rfl) H8.out.2.2.1) (by have := HROW.out.2.1; omega)
                  rw [← HRL.out] at ha2
                  obtain ⟨cC, sC, hC⟩ : ∃ cC sC, sB.append rec = (cC, sC) := ⟨_, _, rfl⟩
                  rw [hC] at ha2
                  have HA2 := Lib.hid ha2
                  have HLG2 : Hid (s0.log rec = (cC, sC)) := Lib.hid (by rw [HLG.out, if_pos rfl, hC])
                  clear hr11 hln8 hmx hro hfit hdl ha2 hC
                  go_wp2_with fail
                  refine HA2.out.mono ?_
                  rintro e w12 ⟨rfl, F4, h12, t12⟩
                  have H12 := Lib.hid (And.intro h12 (H11.out.2.trans t12))
                  clear h12 t12 c1''
                  go_wp2_with fail
                  go_meet
                  exact ⟨cC, sC, L2, R2, F4, rfl, Lib.hid ⟨HLG2.out, H12.out.1, H12.out.2⟩⟩
                · have e0 : (cB == 0) = false := by simpa using h0
                  have HLG2 : Hid (s0.log rec = (cB, sB)) := Lib.hid (by rw [HLG.out, if_neg h0])
                  clear h0
                  go_wp2_with fail
                  go_meet
                  exact ⟨cB, sB, L2, R2, F2, rfl, Lib.hid ⟨HLG2.out, H11.out.1, H11.out.2⟩⟩
              · have e3 : (cA == 3) = false := by simpa using h3
                have HLG2 : Hid (s0.log rec = (cA, sA)) := Lib.hid (by
                  unfold Sy.log
                  rw [HAE.out, if_neg h3])
                clear h3
                go_wp2_with fail
                go_meet
                exact ⟨cA, sA, L, R, F1, rfl, Lib.hid ⟨HLG2.out, H9.out.1, H9.out.2⟩⟩
            case rest =>
              obtain ⟨cc, s2, L2, R2, F2, rfl, HX⟩ := hcut
              have hL2 : L2.P = L.P := HX.out.2.2.P
              have c1 := HX.out.2.1.pg.cells.is 1 _ rfl
              rw [hL2] at c1
              change wc.cell? ⟨L.P, 1, none⟩ = some (.pointer (some ⟨R2, 0, none⟩)) at c1
              have HL2 := Lib.hid hL2
              clear hL2 c1'
              go_upto_if 103 with fail
              go_cut [7] from 104 to 108 (fun c wx => ∃ (c3 : Int) (s3 : Sy) (F3 : Nat → Prop), c = .int .i64 c3 ∧ Hid (((cc ≠ 0 ∧ c3 = cc ∧ s3 = s2) ∨ (cc = 0 ∧ c3 = s2.d.err ∧ s3 = ⟨s2.p, s2.r, s2.d.flush⟩)) ∧ SyAt wx L2 R2 F3 s3 ∧ To w8 wx L R F L2 R2 F3))
              case first =>
                by_cases h0 : cc = 0
                · subst h0
                  have hlv := log_live (s := s0) (rec := rec) (by rw [HS0.out.2.2.2]; exact HOK.out.2.2.1) (by rw [HX.out.1])
                  have hfw := log_few (s := s0) (n := n) (by rw [HS0.out.2.2.2]; exact HOK.out.2.2.2.1) rec
                  rw [HX.out.1] at hlv hfw
                  have hcut := cutN_le HROW.out.2.1
                  have hdl := HS0.out.2.1.dl
                  have hsy := sync_any HX.out.2.1.ring HX.out.2.1.disk hlv hfw (by have := HOK.out.2.2.2.2.1; omega)
                  obtain ⟨ce, hce⟩ : ∃ ce, ce = s2.d.err := ⟨_, rfl⟩
                  rw [← hce] at hsy
                  have HSY := Lib.hid hsy
                  have HCE := Lib.hid hce
                  clear hlv hfw hcut hdl hsy hce
                  go_wp2_with fail
                  refine HSY.out.mono ?_
                  rintro e w13 ⟨rfl, F5, h13, k13⟩
                  have H13 := Lib.hid (SyAt.disk' HX.out.2.1 h13 k13)
                  clear h13 k13 c1 HSY
                  go_wp2_with fail
                  go_meet
                  exact ⟨ce, _, F5, rfl, Lib.hid ⟨.inr ⟨by trivial, HCE.out, rfl⟩, H13.out.1, HX.out.2.2.trans H13.out.2⟩⟩
                · have e0 : (cc == 0) = false := by simpa using h0
                  have H0 := Lib.hid h0
                  clear h0
                  go_wp2_with fail
                  go_meet
                  exact ⟨cc, s2, F2, rfl, Lib.hid ⟨.inl ⟨H0.out, rfl, rfl⟩, HX.out.2.1, HX.out.2.2⟩⟩
              case rest =>
                obtain ⟨c3, s3, F3, rfl, HY⟩ := hcut
                clear c1
                rename World => wt
                by_cases h3 : c3 = 0
                · have hfg := finish_good HY.out.1 h3
                  have hsm := log_same HX.out.1
                  have HFG := Lib.hid (And.intro hfg hsm)
                  subst h3
                  have h3p := HY.out.2.1
                  rw [show s3 = (⟨s3.p, s3.r, s3.d⟩ : Sy) from rfl, hfg.2] at h3p
                  have H3 := Lib.hid h3p
                  obtain ⟨p2, hp2⟩ : ∃ p2, p2 = s2.p := ⟨_, rfl⟩
                  rw [← hp2] at H3 HFG
                  have HB2 : Hid (p2.m = s.p.m ∧ p2.now.length ≤ 1001 ∧ (∀ q ∈ p2.now, q.1 ≤ 20000000000 ∧ q.2.length = 512) ∧ p2.dirty.length ≤ 100000) := Lib.hid (by
                    have h4 := HFG.out.2
                    have h5 : s0.p = s.p.logged := by rw [HS0.out.1]
                    rw [h5] at h4
                    refine ⟨h4.1, ?_, fun q hq => ?_, ?_⟩
                    · rw [h4.2.1]
                      show (kDel (ins 0 s.p.m.page s.p.now) 0).length ≤ _
                      rw [← HLE.out.1]
                      have := len_del l 0
                      have := HLE.out.2.1
                      omega
                    · rw [h4.2.1] at hq
                      have hq' : q ∈ kDel (ins 0 s.p.m.page s.p.now) 0 := hq
                      rw [← HLE.out.1] at hq'
                      exact HLE.out.2.2.1 q (List.mem_filter.1 hq').1
                    · rcases h4.2.2.1 with e | e
                      · rw [e]; exact HOK.out.1.dl
                      · rw [e]; exact Nat.zero_le _)
                  have HC : Hid (∀ w', Only (fun k => k = L2.Md) wt w' → CellsR w' L.P (p2.vs L2 (.pointer (some ⟨R2, 0, none⟩)))) := Lib.hid fun w' o => by
                    rw [← HL2.out]
                    exact H3.out.pg.cells.kept o fun e => H3.out.pg.ok.pd e
                  have HCW : Hid (∀ w', Only None' wt w' → Calls Tryz.prog 52 #[.map (some L2.Md), .map (some L2.Mn)] w' fun e w'' => e = .returned (.tuple #[]) ∧ Mp pgE w'' L2.Md (insL p2.now p2.dirty) ∧ Only (fun k => k = L2.Md) w' w'') := Lib.hid fun w' o => copy_any (H3.out.pg.now.new o) (H3.out.pg.dirty.new o) (fun e => H3.out.pg.ok.dn e.symm) (by have := HB2.out.2.1; omega) HB2.out.2.2.2 HB2.out.2.2.1
                  clear hfg hsm h3p hp2
                  go_upto_region 25 with fail
                  refine r_begin (S := fun k => k = L2.Md) (by kernel_rfl) ?_
                  have HS := Lib.hid (Only.refl (fun k => k = L2.Md) wt)
                  refine r_take 0 (.pointer (some ⟨L.P, 0, none⟩)) rfl (by kernel_rfl) (fun _ _ _ h => h) HS.out (YR.pure (by rfl) fun w hw => y_move w rfl rfl) ?_
                  simp only [Act.put, zA, zB, zC]
                  refine r_take 1 (.pointer (some ⟨L.P, 0, none⟩)) rfl (by kernel_rfl) (fun _ _ _ h => h) HS.out (YR.pure (by rfl) fun w hw => y_nil w rfl rfl) ?_
                  simp only [Act.put, zA, zB, zC]
                  refine r_take 2 (.pointer (some ⟨L.P, 4, none⟩)) rfl (by kernel_rfl) (fun _ _ _ h => h) HS.out (YR.pure (by rfl) fun w hw => y_f72_4 w rfl rfl) ?_
                  simp only [Act.put, zA, zB, zC]
                  refine r_take 3 (.map (some L2.Md)) rfl (by kernel_rfl) (fun _ _ _ h => h) HS.out (YR.pure (by rfl) fun w hw => y_load69 rfl rfl ((HC.out w hw).is 4 _ rfl)) ?_
                  simp only [Act.put, zA, zB, zC]
                  refine r_take 4 (.pointer (some ⟨L.P, 0, none⟩)) rfl (by kernel_rfl) (fun _ _ _ h => h) HS.out (YR.pure (by rfl) fun w hw => y_move w rfl rfl) ?_
                  simp only [Act.put, zA, zB, zC]
                  refine r_take 5 (.pointer (some ⟨L.P, 0, none⟩)) rfl (by kernel_rfl) (fun _ _ _ h => h) HS.out (YR.pure (by rfl) fun w hw => y_nil w rfl rfl) ?_
                  simp only [Act.put, zA, zB, zC]
                  refine r_take 6 (.pointer (some ⟨L.P, 5, none⟩)) rfl (by kernel_rfl) (fun _ _ _ h => h) HS.out (YR.pure (by rfl) fun w hw => y_f72_5 w rfl rfl) ?_
                  simp only [Act.put, zA, zB, zC]
                  refine r_take 7 (.map (some L2.Mn)) rfl (by kernel_rfl) (fun _ _ _ h => h) HS.out (YR.pure (by rfl) fun w hw => y_load69 rfl rfl ((HC.out w hw).is 5 _ rfl)) ?_
                  simp only [Act.put, zA, zB, zC]
                  refine r_one 8 rfl (by kernel_rfl) (by rfl) fun wi oi => ?_
                  refine wp_enter (y_enter [.map (some L2.Md), .map (some L2.Mn)] rfl (by rfl) (call52_ _) wi) ((HCW.out wi oi).mono ?_)
                  rintro e wj ⟨rfl, hmj, oj⟩
                  refine ⟨_, rfl, (HS.out.quiet oi).trans oj, ?_⟩
                  simp only [Act.put, zA, zB, zC]
                  have HT := Lib.hid ((HS.out.quiet oi).trans oj)
                  have HMJ := Lib.hid hmj
                  clear HS oi oj hmj
                  have HS := HT
                  clear HT
                  refine r_done (by kernel_rfl) fun wz oz => ?_
                  have h5 := H3.out.setDirty (HMJ.out.new oz) (HS.out.quiet oz)
                  have H5 := Lib.hid (And.intro h5 (To.owns (L := L2) (R := R2) (F := F3) (HS.out.quiet oz) fun k e => .inl (.inr (.inl e))))
                  clear HS oz HMJ HC HCW h5
                  generalize wz = w5 at H5 ⊢
                  have HC : Hid (∀ w', Only (fun k => k = L2.Md) w5 w' → CellsR w' L.P (Pg.vs L2 (.pointer (some ⟨R2, 0, none⟩)) { p2 with dirty := insL p2.now p2.dirty })) := Lib.hid fun w' o => by
                    rw [← HL2.out]
                    exact H5.out.1.pg.cells.kept o fun e => H5.out.1.pg.ok.pd e
                  have HRM : Hid (∀ w', Only (fun k => k = L2.Md) w5 w' → w'.rangeAt L.P 10 s.p.m.vs) := Lib.hid fun w' o => fun j u hu => by
                    refine (HC.out w' o).is (10 + j) u ?_
                    rw [← hu, ← HB2.out.1]
                    have hj : j < 4 := by
                      have := (List.getElem?_eq_some_iff.1 hu).1
                      simpa [Meta.vs] using this
                    rcases j with _ | _ | _ | _ | j
                    · rfl
                    · rfl
                    · rfl
                    · rfl
                    · omega
                  have HN0 : Hid (Mp pgE w5 L2.Md (insL p2.now p2.dirty)) := Lib.hid H5.out.1.pg.dirty
                  have HNL2 : Hid ((insL p2.now p2.dirty).length < 1000000) := Lib.hid (by have := len_insL p2.now p2.dirty; have := HB2.out.2.1; have := HB2.out.2.2.2; omega)
                  go_upto_region 26 with fail
                  refine r_begin (S := fun k => k = L2.Md) (by kernel_rfl) ?_
                  have HS := Lib.hid (Only.refl (fun k => k = L2.Md) w5)
                  refine r_take 0 (.pointer (some ⟨L.P, 0, none⟩)) rfl (by kernel_rfl) (fun _ _ _ h => h) HS.out (YR.pure (by rfl) fun w hw => y_move w rfl rfl) ?_
                  simp only [Act.put, zA, zB, zC]
                  refine r_take 1 (.pointer (some ⟨L.P, 0, none⟩)) rfl (by kernel_rfl) (fun _ _ _ h => h) HS.out (YR.pure (by rfl) fun w hw => y_nil w rfl rfl) ?_
                  simp only [Act.put, zA, zB, zC]
                  refine r_take 2 (.pointer (some ⟨L.P, 4, none⟩)) rfl (by kernel_rfl) (fun _ _ _ h => h) HS.out (YR.pure (by rfl) fun w hw => y_f72_4 w rfl rfl) ?_
                  simp only [Act.put, zA, zB, zC]
                  refine r_take 3 (.map (some L2.Md)) rfl (by kernel_rfl) (fun _ _ _ h => h) HS.out (YR.pure (by rfl) fun w hw => y_load69 rfl rfl ((HC.out w hw).is 4 _ rfl)) ?_
                  simp only [Act.put, zA, zB, zC]
                  refine r_take 4 (.pointer (some ⟨L.P, 0, none⟩)) rfl (by kernel_rfl) (fun _ _ _ h => h) HS.out (YR.pure (by rfl) fun w hw => y_move w rfl rfl) ?_
                  simp only [Act.put, zA, zB, zC]
                  refine r_take 5 (.pointer (some ⟨L.P, 0, none⟩)) rfl (by kernel_rfl) (fun _ _ _ h => h) HS.out (YR.pure (by rfl) fun w hw => y_nil w rfl rfl) ?_
                  simp only [Act.put, zA, zB, zC]
                  refine r_take 6 (.pointer (some ⟨L.P, 10, none⟩)) rfl (by kernel_rfl) (fun _ _ _ h => h) HS.out (YR.pure (by rfl) fun w hw => y_f72_7 w rfl rfl) ?_
                  simp only [Act.put, zA, zB, zC]
                  refine r_take 7 (s.p.m.v) rfl (by kernel_rfl) (fun _ _ _ h => h) HS.out (YR.pure (by rfl) fun w hw => y_load67 rfl rfl (HRM.out w hw)) ?_
                  simp only [Act.put, zA, zB, zC]
                  refine r_take 8 (.agg (bv pgs).toArray) rfl (by kernel_rfl) (fun _ _ _ h => h) HS.out (YR.call (by rfl) (fun w => y_enter [s.p.m.v] rfl (by rfl) (call42_ _) w) fun w hw => HBY.out w) ?_
                  simp only [Act.put, zA, zB, zC]
                  refine r_one 9 rfl (by kernel_rfl) (by rfl) fun wi oi => ?_
                  refine wp_update69 (n := 0) (s := pgs) rfl rfl rfl rfl (HN0.out.new oi) HNL2.out (by decide) fun wj hm oj => ⟨(HS.out.quiet oi).trans oj, ?_⟩
                  simp only [Act.put, zA, zB, zC]
                  have HT := Lib.hid ((HS.out.quiet oi).trans oj)
                  have HM6 := Lib.hid hm
                  clear HS oi oj hm
                  have HS := HT
                  clear HT
                  refine r_done (by kernel_rfl) fun wz oz => ?_
                  have h6 := H5.out.1.setDirty (HM6.out.new oz) (HS.out.quiet oz)
                  have H6 := Lib.hid (And.intro h6 (H5.out.2.trans (To.owns (L := L2) (R := R2) (F := F3) (HS.out.quiet oz) fun k e => .inl (.inr (.inl e)))))
                  clear HS oz HM6 HC HRM HN0 h6
                  generalize wz = w6 at H6 ⊢
                  obtain ⟨m, hm⟩ : ∃ m, m = s.p.m := ⟨_, rfl⟩
                  have HM := Lib.hid hm
                  have hcl := H6.out.1.pg.cells
                  rw [HL2.out] at hcl
                  have hrm : w6.rangeAt L.P 10 m.vs := fun j u hu => by
                    refine hcl.is (10 + j) u ?_
                    rw [← hu, hm, ← HB2.out.1]
                    have hj : j < 4 := by
                      have := (List.getElem?_eq_some_iff.1 hu).1
                      simpa [Meta.vs] using this
                    rcases j with _ | _ | _ | _ | j
                    · rfl
                    · rfl
                    · rfl
                    · rfl
                    · omega
                  have hcA := hcl.kept (((Only.refl None' w6).alloc (.map #[] 0)).alloc (.map #[] 0)) fun e => e
                  have hth := hcA.there (off := 6) (k := m.vs.length) (by simp [Pg.vs, Meta.vs])
                  have hcB := hcA.puts m.vs 6 _ _ (by simp [Pg.vs, Meta.vs])
                  have hcC := hcB.set (i := 5) (by simp [Pg.vs, Meta.vs]) (.map (some w6.heap.size))
                  obtain ⟨WB, hWB⟩ : ∃ WB, WB = ((w6.alloc (.map #[] 0)).alloc (.map #[] 0)).setCells L.P 6 m.vs := ⟨_, rfl⟩
                  rw [← hWB] at hcB hcC
                  have f5 := hcB.thaw 5
                  have c5 := hcB.is 5 _ rfl
                  have f15 := hcC.thaw 15
                  have c15 := hcC.is 15 _ rfl
                  have HWB := Lib.hid hWB
                  have HRM := Lib.hid hrm
                  have HTH := Lib.hid hth
                  have hz0 : (Tryz.prog.info? 67).map (·.size) = some m.vs.toArray.size := size67 m
                  have hu67 := Tryz.underlying67
                  clear hm hcl hrm hcA hth hcB hcC hWB
                  go_wp2_with (first | (refine wpList_load_mid rfl 67 _ rfl L.P 10 rfl m.vs _ HRM.out hu67 rfl (size67 m) ?_) | (refine wpList_store_mid rfl 67 _ _ rfl L.P 6 m.vs.toArray rfl rfl HTH.out hz0 (all_oneCell_toArray m.vs_one) ?_; change wpList _ _ _ _ _ (((w6.alloc (.map #[] 0)).alloc (.map #[] 0)).setCells L.P 6 m.vs); rw [← HWB.out]))
                  go_ret
                  rw [HEQ.out, HX.out.1, HFG.out.1.1]
                  have hdn := H6.out.1.done (m := m) (by show p2.m = m; rw [HM.out]; exact HB2.out.1) (w1 := (WB.setCell ⟨L.P, 5, none⟩ (.map (some w6.heap.size))).setCell ⟨L.P, 15, none⟩ (.map (some (w6.heap.size + 1)))) (by rw [HWB.out, HL2.out])
                  refine ⟨rfl, L2.clean w6.heap.size, R2, F3, ?_, (H8.out.2.2.2.trans (HY.out.2.2.trans H6.out.2)).trans hdn.2⟩
                  have hfin : (⟨s3.p.done, s3.r, s3.d⟩ : Sy) = ⟨{ p2 with dirty := ins 0 pgs (insL p2.now p2.dirty), kept := p2.m, now := [], count := [] }, s3.r, s3.d⟩ := by
                    have h4 := HFG.out.2
                    have h5 : s0.p.m = s.p.m := by rw [HS0.out.1]; rfl
                    rw [HFG.out.1.2, h4.2.2.2, h4.1, h5, ← h4.2.1, HPG.out.1]
                  rw [hfin]
                  exact hdn.1
                · have hfb := finish_bad HY.out.1 h3
                  have e3 : (c3 == 0) = false := by simpa using h3
                  have e4 : (c3 != 0) = true := by rw [bne, e3]; rfl
                  have HFB := Lib.hid hfb
                  clear h3 hfb
                  go_wp2_with fail
                  go_ret
                  rw [HEQ.out, HX.out.1, HFB.out]
                  exact ⟨rfl, L2, R2, F3, HY.out.2.1, H8.out.2.2.2.trans HY.out.2.2⟩
end
end Go.Proofs.YteoeaojebklfjaaGreatDoor
