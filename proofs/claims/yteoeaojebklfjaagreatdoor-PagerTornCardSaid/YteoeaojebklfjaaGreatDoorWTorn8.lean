/- Y3 Y1 in one text. -/
import Derived.Test.YteoeaojebklfjaaGreatDoorWTorn7
import Derived.Test.YteoeaojebklfjaaGreatDoorWTorn0
import Derived.Test.YteoeaojebklfjaaGreatDoorV00
namespace Go.Proofs.YteoeaojebklfjaaGreatDoor
open Go.RowKit Go.Maps
set_option linter.unusedVariables false
set_option linter.unusedSimpArgs false
set_option maxRecDepth 20000
section
variable {a : Act} {o : Oper} {x y z : Operand} {g off : Nat}
theorem y_rem3 (w : World) {p q r : Nat} (he : p % q = r) (hq : 0 < q) (h1 : p ≤ 9223372036854775807) (ho : o.op = .binOp .rem 3 x y 3) (hx : a.eval x = .int .i64 (p : Int)) (hy : a.eval y = .int .i64 (q : Int)) : (execOp a.eval o).run Tryz.prog w = .ok (.value (.int .i64 (r : Int))) w := by
  subst he
  have h0 : (0 : Int) ≤ (p : Int) := by omega
  have h2 : (p : Int) ≤ 9223372036854775807 := by omega
  have h3 : ¬ (q : Int) = 0 := by omega
  have h4 : ((q : Int) == 0) = false := by simp; omega
  unfold execOp
  simp only [ho, hx, hy]
  go_simp
  rw [if_neg (by omega), Int.tmod_eq_emod_of_nonneg h0]
theorem y_idx35 (w : World) {g off n cap k : Nat} (hk : k < n) (ho : o.op = .indexAddr 35 x y) (hx : a.eval x = .slice (some ⟨g, off, none⟩) n cap) (hy : a.eval y = .int .i64 (k : Int)) : (execOp a.eval o).run Tryz.prog w = .ok (.value (.pointer (some ⟨g, off + k, none⟩))) w := by
  have i0 : (0 : Int) ≤ (k : Int) := by omega
  have i1 : (k : Int) < (n : Int) := by omega
  have hs : (Tryz.prog.info? 5).map (·.size) = some 1 := by kernel_rfl
  unfold execOp
  simp only [ho, hx, hy]
  go_simp
theorem y_load5 {w : World} {z : Int} (ho : o.op = .load 5 x) (hx : a.eval x = .pointer (some ⟨g, off, none⟩)) (hc : w.cell? ⟨g, off, none⟩ = some (.int .u8 z)) : (execOp a.eval o).run Tryz.prog w = .ok (.value (.int .u8 z)) w := by
  unfold execOp
  simp only [ho, hx]
  go_simp
theorem call13_ (args : Array Value) (w : World) : (callFunc 13 args).run Tryz.prog w = .ok (.enter 13 args) w := by go_simp
end
theorem mod12 (x : Int) : ∃ k : Nat, wrap64 ((IntKind.u64.wrap x).tmod 12) = (k : Int) ∧ k < 12 := by
  obtain ⟨m, h1, h2⟩ := mod_is x 12 (by decide) (by decide)
  exact ⟨m, h1, by omega⟩
def cb (j : Nat) : UInt8 := UInt8.ofNat (100 + j)
theorem cb_is {j : Nat} (h : j < 4) : IntKind.u8.wrap ((100 + j : Nat) : Int) = ((cb j).toNat : Int) := by
  have : j = 0 ∨ j = 1 ∨ j = 2 ∨ j = 3 := by omega
  rcases this with rfl | rfl | rfl | rfl <;> rfl
def Qi (l : List Nat) (pg : List UInt8) (i : Nat) (V : Nat → Sec) : Prop := 1 ≤ i → ∀ k, l[(i - 1) % 4]? = some k → V k = fullB (pg.getD (i - 1) 0)
set_option maxHeartbeats 8000000 in
theorem torn_main (x : Int) (kv : Value) (a : Option Addr) (n c : Nat) (keep : List Bool) (pg : List UInt8) (w : World) (rdk : Rd w 1 kv keep.length (bo keep)) (hkl : keep.length ≤ 140737488351232) (rdp : Rd w 1 (.slice a n c) pg.length (bv pg)) (h : n ≤ 20) : Calls Tryz.prog 7 #[.int .i64 x, kv, .slice a n c] w fun e w' => e = .returned (.bool true) ∧ Only None' w w' := by
  have h20 : ¬ (20 : Int) < (n : Int) := by omega
  have d20 : decide ((20 : Int) < (n : Int)) = false := decide_eq_false h20
  have HLN : Hid (pg.length = n ∧ n ≤ 20) := Lib.hid ⟨by
    obtain ⟨a', c', e⟩ := rdp.shape
    injection e with _ e _
    exact e.symm, h⟩
  obtain ⟨fu, hfu, hfu2⟩ := mod12 x
  have RDK : Hid (∀ w', Only None' w w' → Rd w' 1 kv keep.length (bo keep)) := Lib.hid fun w' o => rdk.only o fun _ _ _ _ e => e
  have RDP : Hid (∀ w', Only None' w w' → Rd w' 1 (.slice a n c) pg.length (bv pg)) := Lib.hid fun w' o => rdp.only o fun _ _ _ _ e => e
  have HKP : Hid (keep.length ≤ 140737488351232 ∧ (bo keep ≠ [] → ∀ g, kv.ownBlock = some g → g < w.heap.size) ∧ fu ≤ 1000) := Lib.hid ⟨hkl, fun hx g hg => rdk.lt hx hg, by omega⟩
  clear rdk hkl rdp h hfu2
  go_enter Tryz.func7, Tryz.ntmps7
  go_wp2_with fail
  refine (works_any w).mono ?_
  rintro e w1 ⟨rfl, o1⟩
  have O1 := Lib.hid o1
  clear o1
  go_wp2_with fail
  refine (fresh_any 400 400 rfl (by decide) (by decide) w1).mono ?_
  rintro e w2 ⟨L, R, F, rfl, hp⟩
  have hp0 : Pw w w2 L R F (formatS 400) 400 4 0 [] [] := ⟨hp.at_, fun k hk => by have := hp.new k hk; have := O1.out.size; omega, O1.out.trans hp.only, hp.lv, hp.lg, hp.calm⟩
  have hfr0 : (formatS 400).p.free = 298 := rfl
  have hcn0 : (formatS 400).p.count = [] := rfl
  have hrt0 : (formatS 400).p.m.root = 0 := rfl
  obtain ⟨s, hs⟩ : ∃ s, s = formatS 400 := ⟨_, rfl⟩
  rw [← hs] at hp0 hfr0 hcn0 hrt0
  have HP0 := Lib.hid (And.intro hp0 (And.intro hfr0 (And.intro hcn0 hrt0)))
  have HFU := Lib.hid hfu
  clear hp hp0 hfr0 hcn0 hrt0 hs O1 hfu h20 d20
  go_wp2_with fail
  go_loopg [9, 10] 4 (fun gg u t wr => ∃ (i : Nat) (l : List Nat) (s2 : Sy) (G : List Nat), gg = 4 - i ∧ i ≤ 4 ∧ t = .int .i64 (i : Int) ∧ Hid (Pw w wr L R F s2 400 4 0 G [] ∧ Nums w wr L R F u l ∧ InUse s2.p l ∧ l.length = i ∧ s2.p.free = 298 - (i : Int) ∧ s2.p.count.length ≤ 2 * i ∧ s2.p.m.root = 0))
  case atStart => exact ⟨0, [], s, [], rfl, Nat.zero_le _, rfl, Lib.hid ⟨HP0.out.1, Nums.nil, ⟨fun k hk => by simp at hk, List.nodup_nil⟩, rfl, by rw [HP0.out.2.1]; rfl, by rw [HP0.out.2.2.1]; exact Nat.le_refl _, HP0.out.2.2.2⟩⟩
  case round =>
    obtain ⟨i, l, s2, G, rfl, hi, rfl, HL⟩ := hrel
    rename World => wr
    obtain ⟨va, vc, hve, _, _⟩ := HL.out.2.1.row.shape
    subst hve
    by_cases hlt : i < 4
    · have i0 : (0 : Int) ≤ (i : Int) := by omega
      have i1 : (i : Int) < 4 := by omega
      have hll := HL.out.2.2.2.1
      have hfre := HL.out.2.2.2.2.1
      obtain ⟨k, p', G', ht, hc⟩ := wk_alloc HL.out.1 (by decide) (by omega)
      have HT := Lib.hid ht
      have HC := Lib.hid hc
      have HK := Lib.hid (And.intro hlt (And.intro hll hfre))
      clear ht hc hlt hll hfre hi
      go_wp2_with fail
      refine HC.out.mono ?_
      rintro e w5 ⟨rfl, h5, t5⟩
      have hN5 := HL.out.2.1.to t5
      have hu5 : p'.uses (k : Int) = true := by rw [HT.out.uses]; simp
      have H5 := Lib.hid (And.intro h5 (And.intro hN5 hu5))
      clear h5 t5 hN5 hu5 HC
      go_wp2_with fail
      refine (full_any 1 w5).mono ?_
      rintro e w6 ⟨g6, rfl, hv6, hg6, o6⟩
      have hw6 := wk_write (H5.out.1.quiet o6) H5.out.2.2 hv6 (fullB_len _) (own_lit H5.out.1 hg6)
      have HW6 := Lib.hid hw6
      have HN6 := Lib.hid (H5.out.2.1.quiet o6)
      clear hv6 hg6 o6 hw6
      go_wp2_with fail
      refine HW6.out.mono ?_
      rintro e w7 ⟨rfl, h7, t7⟩
      have HP7 := Lib.hid h7
      have HN7 := Lib.hid (HN6.out.to t7)
      have HU7 : Hid (InUse p' (l ++ [k])) := Lib.hid ⟨fun n hn => by
        rw [HT.out.uses]
        rcases List.mem_append.1 hn with hn | hn
        · rw [HL.out.2.2.1.uses n hn]; rfl
        · simp at hn; subst hn; simp, by
        rw [List.nodup_append]
        refine ⟨HL.out.2.2.1.nd, List.nodup_cons.2 ⟨List.not_mem_nil, List.nodup_nil⟩, fun n hn m hm e => ?_⟩
        simp at hm
        subst hm; subst e
        have := HL.out.2.2.1.uses n hn
        rw [HT.out.was] at this
        cases this⟩
      have HSZ := Lib.hid (show l.length + 1 ≤ 1000 by have := HK.out.1; have := HK.out.2.1; omega)
      clear h7 t7 HW6 HN6 H5
      go_wp2_with (first | (at_builtin; refine wpList_append_any rfl _ _ 28 rfl 3 Tryz.t3 (.int .i64 0) 1 8 Tryz.underlying28 info3 t3_zero t3_size t3_bytes rfl (by decide) (.slice va l.length vc) l.length (inv l) rfl (HN7.out.row.only ((Only.refl None' w7).alloc _) fun _ _ e => e) (.slice (some ⟨w7.heap.size, 0, none⟩) 1 1) 1 [.int .i64 (k : Int)] rfl (rd_one' w7 _ 3) (one_int _) (by have := HSZ.out; unfold maxLen; omega) (by have := HSZ.out; omega) ?_; intro v2 w8 hv2 hg2 hf2; have HY := Lib.hid (And.intro hv2 (And.intro hg2 hf2)); clear hv2 hg2 hf2))
      go_roundg (4 - (i + 1))
      case rel =>
        have og : Only (fun k => (Value.slice va l.length vc).ownBlock = some k) (w7.alloc (.cells #[.int .i64 (k : Int)] 3)) w8 := (Only.refl _ _).grown HY.out.2.1 fun k hk => hk
        refine ⟨i + 1, l ++ [k], ⟨p'.touched k (fullB 1), s2.r, s2.d⟩, G', rfl, HK.out.1, by first | exact next_int (by have := HK.out.1; omega) | rfl | (congr 1), Lib.hid ⟨(HP7.out.quiet ((Only.refl None' w7).alloc _)).aside og fun k e => HN7.out.fresh k e, HN7.out.push (fun k hk => HP7.out.at_.lt hk) HP7.out.only.size ((Only.refl None' w7).alloc _) HY.out.1 HY.out.2.2, ⟨HU7.out.uses, HU7.out.nd⟩, by rw [List.length_append, HK.out.2.1]; rfl, ?_, ?_, ?_⟩⟩
        · show p'.free = _
          rw [HT.out.free, HK.out.2.2]
          omega
        · show (ins k true p'.count).length ≤ _
          rw [HT.out.count]
          have := len_ins k true (ins k true s2.p.count)
          have := len_ins k true s2.p.count
          have := HL.out.2.2.2.2.2.1
          omega
        · show p'.m.root = 0
          rw [HT.out.root]
          exact HL.out.2.2.2.2.2.2
      case measure => have := HK.out.1; omega
    · have hi4 : i = 4 := by omega
      subst hi4
      clear hlt hi
      have hll := HL.out.2.2.2.1
      have hr0 := HL.out.2.2.2.2.2.2
      obtain ⟨s6, m6, k6, n6, c6, v6, cm6, hc6⟩ := wk_commit HL.out.1 (by decide) (by decide) (by have := HL.out.2.2.2.2.2.1; omega) (.inl hr0)
      have HC6 := Lib.hid hc6
      have HX6 := Lib.hid (And.intro m6 (And.intro k6 (And.intro n6 (And.intro c6 HL.out.1.lv))))
      obtain ⟨l0, hl0⟩ : ∃ l0, l[0]? = some l0 := ⟨_, List.getElem?_eq_getElem (by omega)⟩
      obtain ⟨g, off, cap, hve, hcell⟩ := HL.out.2.1.cell hl0
      injection hve with hve _ hve2
      subst hve; subst hve2
      have HR0 := Lib.hid hr0
      obtain ⟨ln, hln⟩ : ∃ ln, ln = l.length := ⟨_, rfl⟩
      have HLL := Lib.hid (And.intro hln hll)
      rw [← hln]
      have ln4 : (ln : Int) = 4 := by omega
      clear m6 k6 n6 c6 v6 cm6 hc6 hll hr0 hl0 hcell hln
      go_wp2_with fail
      refine HC6.out.mono ?_
      rintro e w6 ⟨rfl, L6, R6, F6, h6, t6⟩
      have hu6 : InUse s6.p l := ⟨fun k hk => by
        rw [Lv.uses_same HX6.out.2.2.2.2 h6.lv (by rw [HX6.out.1])]
        exact HL.out.2.2.1.uses k hk, HL.out.2.2.1.nd⟩
      have H6 := Lib.hid (And.intro h6 (And.intro (HL.out.2.1.to t6) (And.intro hu6 (And.intro t6.P t6.D))))
      have HM6 : Hid (s6.p.kept = s6.p.m ∧ s6.p.m.root = 0 ∧ s6.p.count = []) := Lib.hid ⟨by rw [HX6.out.2.1, HX6.out.1], by rw [HX6.out.1]; exact HR0.out, HX6.out.2.2.2.1⟩
      clear h6 t6 hu6 HC6 HL HX6 HR0 HP0
      go_wp2_with fail
      go_loopg [13] 4 (fun gg t wr => ∃ (j : Nat) (s3 : Sy), gg = 4 - j ∧ j ≤ 4 ∧ t = .int .i64 (j : Int) ∧ Hid (Pw w wr L6 R6 F6 s3 400 604 100 G G ∧ Nums w wr L6 R6 F6 (.slice (some ⟨g, off, none⟩) l.length vc) l ∧ s3.p.m = s6.p.m ∧ s3.p.kept = s6.p.m ∧ s3.p.count.length ≤ j))
      case atStart => exact ⟨0, s6, rfl, Nat.zero_le _, rfl, Lib.hid ⟨H6.out.1, H6.out.2.1, rfl, HM6.out.1, by rw [HM6.out.2.2]; exact Nat.le_refl _⟩⟩
      case round =>
        obtain ⟨j, s3, rfl, hj, rfl, HC3⟩ := hrel
        rename World => wx
        by_cases hlt : j < 4
        · have hjl : j < l.length := by have := HLL.out.2; omega
          obtain ⟨kk, hkk⟩ : ∃ kk, l[j]? = some kk := ⟨_, List.getElem?_eq_getElem hjl⟩
          obtain ⟨g2, off2, cap2, e, cl⟩ := HC3.out.2.1.cell hkk
          injection e with e e2 e3
          injection e with e
          injection e with e e4
          subst e; subst e4; subst e3
          clear e2
          have hus : s3.p.uses (kk : Int) = true := by
            rw [Lv.uses_same H6.out.1.lv HC3.out.1.lv (by rw [HC3.out.2.2.1])]
            exact H6.out.2.2.1.uses kk (List.mem_of_getElem? hkk)
          have HCELL : Hid (∀ w', Only (allS L6 R6 F6) wx w' → w'.cell? ⟨g, off + j, none⟩ = some (.int .i64 (kk : Int))) := Lib.hid fun w' o => by
            have hn := HC3.out.2.1.fresh g rfl
            rw [o.cell (HC3.out.2.1.row.lt rfl) hn.2]
            exact cl
          have HWR : Hid (∀ w', Only None' wx w' → ∀ g5, Vec w' 1 (.slice (some ⟨g5, 0, none⟩) 512 512) 512 (bv (fullB (cb j))) → wx.heap.size ≤ g5 → Calls Tryz.prog 14 #[.pointer (some ⟨L.P, 0, none⟩), .int .i64 (kk : Int), .slice (some ⟨g5, 0, none⟩) 512 512] w' fun e w'' => e = .returned (.int .i64 0) ∧ Pw w w'' L6 R6 F6 ⟨s3.p.touched kk (fullB (cb j)), s3.r, s3.d⟩ 400 604 100 G G ∧ To w' w'' L6 R6 F6 L6 R6 F6) := Lib.hid fun w' o g5 hv hg => by
            have := wk_write (HC3.out.1.quiet o) hus hv (fullB_len _) (own_lit HC3.out.1 hg)
            rw [H6.out.2.2.2.1] at this
            exact this
          have HSUM : Hid ((100 : Int) + (j : Int) = ((100 + j : Nat) : Int) ∧ j < 4) := Lib.hid ⟨by omega, hlt⟩
          have j0 : (0 : Int) ≤ (j : Int) := by omega
          have j1 : (j : Int) < 4 := by omega
          have HJL : Hid (j < ln) := Lib.hid (by have := HLL.out; omega)
          clear hlt hjl hkk cl hus hj
          go_upto_region 17 with fail
          refine r_begin (S := allS L6 R6 F6) (by kernel_rfl) ?_
          have HS := Lib.hid (Only.refl (allS L6 R6 F6) wx)
          refine r_take 0 (.pointer (some ⟨L.P, 0, none⟩)) rfl (by kernel_rfl) (fun _ _ _ h => h) HS.out (YR.pure (by rfl) fun w hw => y_move w rfl rfl) ?_
          simp only [Act.put, zA, zB, zC]
          refine r_take 1 (.slice (some ⟨g, off, none⟩) ln vc) rfl (by kernel_rfl) (fun _ _ _ h => h) HS.out (YR.pure (by rfl) fun w hw => y_move w rfl rfl) ?_
          simp only [Act.put, zA, zB, zC]
          refine r_take 2 (.int .i64 (j : Int)) rfl (by kernel_rfl) (fun _ _ _ h => h) HS.out (YR.pure (by rfl) fun w hw => y_move w rfl rfl) ?_
          simp only [Act.put, zA, zB, zC]
          refine r_take 3 (.pointer (some ⟨g, off + j, none⟩)) rfl (by kernel_rfl) (fun _ _ _ h => h) HS.out (YR.pure (by rfl) fun w hw => y_idx28 w HJL.out rfl rfl rfl) ?_
          simp only [Act.put, zA, zB, zC]
          refine r_take 4 (.int .i64 (kk : Int)) rfl (by kernel_rfl) (fun _ _ _ h => h) HS.out (YR.pure (by rfl) fun w hw => y_load3 rfl rfl (HCELL.out w hw)) ?_
          simp only [Act.put, zA, zB, zC]
          refine r_take 5 (.int .i64 (j : Int)) rfl (by kernel_rfl) (fun _ _ _ h => h) HS.out (YR.pure (by rfl) fun w hw => y_move w rfl rfl) ?_
          simp only [Act.put, zA, zB, zC]
          refine r_take 6 (.int .i64 ((100 + j : Nat) : Int)) rfl (by kernel_rfl) (fun _ _ _ h => h) HS.out (YR.pure (by rfl) fun w hw => y_add3 w HSUM.out.1 (by have := HSUM.out.2; omega) (by have := HSUM.out.2; omega) rfl rfl rfl) ?_
          simp only [Act.put, zA, zB, zC]
          refine r_take 7 (.int .u8 ((cb j).toNat : Int)) rfl (by kernel_rfl) (fun _ _ _ h => h) HS.out (YR.pure (by rfl) fun w hw => (by rw [← cb_is HSUM.out.2]; exact y_conv35 w rfl rfl)) ?_
          simp only [Act.put, zA, zB, zC]
          refine r_one 8 rfl (by kernel_rfl) (by rfl) fun wi oi => ?_
          refine wp_enter (y_enter [.int .u8 ((cb j).toNat : Int)] rfl (by rfl) (call15_ _) wi) ((full_any (cb j) wi).mono ?_)
          rintro e wj ⟨g5, rfl, hv5, hg5, oj⟩
          refine ⟨_, rfl, (HS.out.quiet oi).quiet oj, ?_⟩
          simp only [Act.put, zA, zB, zC]
          have HT := Lib.hid ((HS.out.quiet oi).quiet oj)
          have HV5 := Lib.hid (And.intro hv5 (And.intro (Nat.le_trans oi.size hg5) (oi.trans oj)))
          clear hv5 hg5
          clear HS oi oj
          have HS := HT
          clear HT
          refine r_one 9 rfl (by kernel_rfl) (by rfl) fun wi oi => ?_
          refine wp_enter (y_enter [.pointer (some ⟨L.P, 0, none⟩), .int .i64 (kk : Int), .slice (some ⟨g5, 0, none⟩) 512 512] rfl (by rfl) (call14_ _) wi) ((HWR.out wi (HV5.out.2.2.trans oi) g5 (HV5.out.1.only oi fun _ _ e => e) HV5.out.2.1).mono ?_)
          rintro e wj ⟨rfl, hp6, t6⟩
          have oj := t6.only
          refine ⟨_, rfl, (HS.out.quiet oi).trans oj, ?_⟩
          simp only [Act.put, zA, zB, zC]
          have HT := Lib.hid ((HS.out.quiet oi).trans oj)
          have H7 := Lib.hid (And.intro hp6 ((To.new (HV5.out.2.2.trans oi)).trans t6))
          clear HS oi oj hp6 t6
          have HS := HT
          clear HT
          refine r_take 10 (.bool false) rfl (by kernel_rfl) (fun _ _ _ h => h) HS.out (YR.pure (by rfl) fun w hw => y_ne29 w rfl rfl rfl rfl) ?_
          simp only [Act.put, zA, zB, zC]
          refine r_done (by kernel_rfl) fun wz oz => ?_
          have H8 := Lib.hid (And.intro (H7.out.1.quiet oz) (H7.out.2.trans (To.new oz)))
          clear HS oz H7 HWR HV5 HCELL
          go_wp2_with fail
          go_roundg (4 - (j + 1))
          case rel => exact ⟨j + 1, ⟨s3.p.touched kk (fullB (cb j)), s3.r, s3.d⟩, rfl, HSUM.out.2, by first | exact next_int (by have := HSUM.out.2; omega) | rfl | (congr 1), Lib.hid ⟨H8.out.1, HC3.out.2.1.to H8.out.2, HC3.out.2.2.1, HC3.out.2.2.2.1, by
            show (ins kk true s3.p.count).length ≤ _
            have := len_ins kk true s3.p.count
            have := HC3.out.2.2.2.2
            omega⟩⟩
          case measure => have := HSUM.out.2; omega
        · have hj4 : j = 4 := by omega
          subst hj4
          clear hlt hj
          obtain ⟨s7, p7, w7w, hc7⟩ := tn_settle HC3.out.1 (by decide)
          rw [H6.out.2.2.2.1] at hc7
          have HC7 := Lib.hid hc7
          have HX7 := Lib.hid (And.intro p7 w7w)
          clear p7 w7w hc7
          go_wp2_with fail
          refine HC7.out.mono ?_
          rintro e w7 ⟨rfl, L7, R7, F7, h7, t7⟩
          have hP7 : L7.P = L.P := t7.P.trans H6.out.2.2.2.1
          have hD7 : L7.D = L.D := t7.D.trans H6.out.2.2.2.2
          have hm7 : s7.p.m = s6.p.m := by rw [HX7.out.1]; exact HC3.out.2.2.1
          have hcm := torn_commit (Q := Qi l pg 0) h7 (HC3.out.2.1.to t7) HX7.out.2 (by rw [hm7]; exact HM6.out.2.1) (by rw [HX7.out.1]; show s3.p.kept = s3.p.m; rw [HC3.out.2.2.1, HC3.out.2.2.2.1]) (fun k hk => by
            rw [Lv.uses_same H6.out.1.lv h7.lv (by rw [hm7])]
            exact H6.out.2.2.1.uses k hk) (by rw [HX7.out.1]; show s3.p.count.length ≤ _; have := HC3.out.2.2.2.2; omega) (by decide) (by decide) fu HKP.out.2.2 (RDK.out w7 h7.only) HKP.out.1 (fun V h => by omega)
          rw [hP7, hD7] at hcm
          have HCM := Lib.hid hcm
          clear h7 t7 hP7 hD7 hm7 hcm HC7 HX7 HC3 H6 HM6
          go_wp2_with fail
          simp only [HFU.out]
          refine HCM.out.mono ?_
          rintro e w8 ⟨rfl, hc8⟩
          have HC8 := Lib.hid hc8
          clear hc8 HCM
          go_upto_region 21 with fail
          go_cut [14] from 86 to 87 (fun u14 wx => ∃ c : Int, u14 = .int .i64 c ∧ Hid ((c = 0 ∨ c = 20) ∧ ∃ b, Td w wx L.D (.slice (some ⟨g, off, none⟩) l.length vc) l 200 (Qi l pg 0) b))
          case first =>
            go_wp2_with fail
            refine HC8.out.mono ?_
            rintro e w9 ⟨cc, rfl, hc, hb⟩
            have HB := Lib.hid (And.intro hc hb)
            clear hc hb HC8
            go_wp2_with fail
            go_meet
            case rel => exact ⟨cc, rfl, HB⟩
          case rest =>
          clear HC8
          obtain ⟨cc, rfl, HB⟩ := hcut
          rename World => wa
          go_upto_region 22 with fail
          go_cut [93] from 88 to 93 (fun u93 wx => u93 = .bool false ∧ Hid (∃ b, Td w wx L.D (.slice (some ⟨g, off, none⟩) l.length vc) l 200 (Qi l pg 0) b))
          case first =>
            rcases HB.out with ⟨rfl | rfl, hb⟩
            · have HB2 := Lib.hid hb
              clear hb HB
              go_wp2_with fail
              go_meet
              case rel => exact ⟨rfl, HB2⟩
            · have HB2 := Lib.hid hb
              clear hb HB
              go_wp2_with fail
              go_meet
              case rel => exact ⟨rfl, HB2⟩
          case rest =>
          clear HB
          obtain ⟨rfl, HB⟩ := hcut
          rename World => wb
          go_wp2_with fail
          go_loopg [7, 15] n (fun gg dv t wr => ∃ (i D : Nat) (b : Bool), gg = n - i ∧ i ≤ n ∧ t = .int .i64 (i : Int) ∧ dv = .pointer (some ⟨D, 0, none⟩) ∧ Hid (Td w wr D (.slice (some ⟨g, off, none⟩) l.length vc) l (200 + 100 * i) (Qi l pg i) b))
          case atStart =>
            obtain ⟨b, hb⟩ := HB.out
            exact ⟨0, L.D, b, rfl, Nat.zero_le _, rfl, rfl, Lib.hid hb⟩
          case round =>
            clear HB
            obtain ⟨i, D, b, rfl, hi, rfl, rfl, HT⟩ := hrel
            rename World => wi
            by_cases hlt : i < n
            · have i0 : (0 : Int) ≤ (i : Int) := by omega
              have i1 : (i : Int) < (n : Int) := by omega
              have HI := Lib.hid (And.intro hlt HLN.out.2)
              have hpl : 0 < pg.length * 1 := by have := HLN.out.1; omega
              obtain ⟨gp, op, cp, e, _, _⟩ := (RDP.out w (Only.refl _ _)).at_ hpl
              injection e with e e2 e3
              subst e
              clear hlt hi hpl e2 e3
              go_upto_region 27 with fail
              go_cut [108] from 100 to 108 (fun u108 wx => u108 = .bool false ∧ Hid (Td w wx D (.slice (some ⟨g, off, none⟩) l.length vc) l (200 + 100 * i) (Qi l pg i) true))
              case first =>
                cases b with
                | true =>
                  go_wp2_with fail
                  refine HT.out.isDead.mono ?_
                  rintro e w5 ⟨rfl, rfl⟩
                  go_wp2_with fail
                  go_meet
                  case rel => exact ⟨rfl, HT⟩
                | false =>
                  go_wp2_with fail
                  refine HT.out.isDead.mono ?_
                  rintro e w5 ⟨rfl, rfl⟩
                  go_wp2_with fail
                  refine (HT.out.crash (RDK.out _ HT.out.only) HKP.out.2.1).mono ?_
                  rintro e w5 ⟨rfl, ht⟩
                  have HT2 := Lib.hid ht
                  clear ht
                  go_wp2_with fail
                  go_meet
                  case rel => exact ⟨rfl, HT2⟩
              case rest =>
              clear HT
              obtain ⟨rfl, HT⟩ := hcut
              rename World => wj
              go_wp2_with fail
              refine HT.out.reopen.mono ?_
              rintro e w5 ⟨D2, rfl, hr⟩
              have HR := Lib.hid (hr.open_ (by have := HI.out; omega))
              clear hr HT
              go_wp2_with fail
              refine HR.out.mono ?_
              rintro e w6 ⟨P, rfl, hp⟩
              obtain ⟨L3, R3, F3, s5, K, rfl, rfl, hpw, hnu, hr0, hus, hcn, hq⟩ := hp
              have HP := Lib.hid (And.intro hpw (And.intro hnu (And.intro hr0 (And.intro hus (And.intro hcn hq)))))
              clear hpw hnu hr0 hus hcn hq HR
              go_upto_if 125 with fail
              go_cut [19, 20, 125] from 126 to 150 (fun u19 u20 u125 wx => Hid (Only None' w6 wx))
              case first =>
                by_cases hi0 : i = 0
                · subst hi0
                  go_wp2_with fail
                  go_meet
                  case rel => exact Lib.hid (Only.refl _ _)
                · have ip : (0 : Int) < (i : Int) := by omega
                  have hi20 := HI.out.2
                  have hi19 := HI.out.1
                  obtain ⟨q, hq, hqe⟩ : ∃ q : Nat, (wrap64 ((i : Int) - 1)).tmod 4 = (q : Int) ∧ q = (i - 1) % 4 := ⟨(i - 1) % 4, by rw [IntWalk.wrap64_in _ (by omega), Int.tmod_eq_emod_of_nonneg (by omega)]; omega, rfl⟩
                  have q4 : q < 4 := by omega
                  have hl4 := HLL.out.2
                  obtain ⟨kk, hkk⟩ : ∃ kk, l[q]? = some kk := ⟨_, List.getElem?_eq_getElem (by omega)⟩
                  obtain ⟨g2, off2, cap2, e, cl⟩ := HP.out.2.1.cell hkk
                  injection e with e e2 e3
                  injection e with e
                  injection e with e e4
                  subst e; subst e4; subst e3
                  clear e2
                  have hus := HP.out.2.2.2.1 kk (List.mem_of_getElem? hkk)
                  have hpx := HP.out.2.2.2.2.2 (by omega) kk (by rw [← hqe]; exact hkk)
                  have hrd := wk_read HP.out.1 (by decide) hus
                  obtain ⟨pb, hpb⟩ : ∃ pb, pb = pg.getD (i - 1) 0 := ⟨_, rfl⟩
                  obtain ⟨px, hpxe⟩ : ∃ px, px = fullB pb := ⟨_, rfl⟩
                  rw [hpx, ← hpb, ← hpxe] at hrd
                  have HRD := Lib.hid hrd
                  have HPX := Lib.hid (And.intro hpxe (show px.length = 512 by rw [hpxe]; exact fullB_len _))
                  have HPC : Hid (∀ w', Only None' w6 w' → w'.cell? ⟨gp, op + (i - 1), none⟩ = some (.int .u8 (pb.toNat : Int))) := Lib.hid fun w' o => by
                    obtain ⟨g3, o3, c3, e, _, hc⟩ := (RDP.out w' (HP.out.1.only.trans o)).at_ (by have := HLN.out.1; omega)
                    injection e with e _ _
                    injection e with e
                    injection e with e e4
                    subst e; subst e4
                    refine hc (i - 1) _ ?_
                    have hlt : i - 1 < pg.length := by have := HLN.out.1; omega
                    show (pg.map fun c => Value.int .u8 (c.toNat : Int))[i - 1]? = _
                    rw [List.getElem?_map, List.getElem?_eq_getElem hlt, hpb, List.getD_eq_getElem?_getD, List.getElem?_eq_getElem hlt]
                    rfl
                  have HSUM : Hid ((i : Int) - 1 = ((i - 1 : Nat) : Int) ∧ i - 1 ≤ 1000 ∧ i - 1 < n) := Lib.hid ⟨by omega, by omega, by omega⟩
                  obtain ⟨sx, hsx⟩ : ∃ sx, sx = st px := ⟨_, rfl⟩
                  have HSX := Lib.hid hsx
                  have q0 : (0 : Int) ≤ (q : Int) := by omega
                  have q1 : (q : Int) < 4 := by omega
                  clear hqe q4 hl4 hkk hus hpx hrd hpb hpxe hsx hi20 hi19
                  go_wp2_with fail
                  refine HRD.out.mono ?_
                  rintro e w7 ⟨v1, rfl, hv1, _, _, o7⟩
                  have HV1 := Lib.hid (And.intro hv1 o7)
                  clear hv1 o7 cl hq HRD
                  go_upto_region 38 with fail
                  refine r_begin (S := None') (by kernel_rfl) ?_
                  have HS := Lib.hid (Only.refl (None') w7)
                  refine r_take 0 (.int .i64 0) rfl (by kernel_rfl) (fun _ _ _ h => h) HS.out (YR.pure (by rfl) fun w hw => y_move w rfl rfl) ?_
                  simp only [Act.put, zA, zB, zC]
                  refine r_take 1 (.bool false) rfl (by kernel_rfl) (fun _ _ _ h => h) HS.out (YR.pure (by rfl) fun w hw => y_ne29 w rfl rfl rfl rfl) ?_
                  simp only [Act.put, zA, zB, zC]
                  refine r_take 2 (.bool false) rfl (by kernel_rfl) (fun _ _ _ h => h) HS.out (YR.pure (by rfl) fun w hw => y_move w rfl rfl) ?_
                  simp only [Act.put, zA, zB, zC]
                  refine r_take 3 (v1) rfl (by kernel_rfl) (fun _ _ _ h => h) HS.out (YR.pure (by rfl) fun w hw => y_move w rfl rfl) ?_
                  simp only [Act.put, zA, zB, zC]
                  refine r_take 4 (.string sx) rfl (by kernel_rfl) (fun _ _ _ h => h) HS.out (YR.pure (by rfl) fun w hw => (by rw [HSX.out]; exact y_str HPX.out.2.symm ((HV1.out.1.only hw fun _ _ e => e).rd) rfl rfl)) ?_
                  simp only [Act.put, zA, zB, zC]
                  refine r_take 5 (.slice (some ⟨gp, op, none⟩) n c) rfl (by kernel_rfl) (fun _ _ _ h => h) HS.out (YR.pure (by rfl) fun w hw => y_move w rfl rfl) ?_
                  simp only [Act.put, zA, zB, zC]
                  refine r_take 6 (.int .i64 (i : Int)) rfl (by kernel_rfl) (fun _ _ _ h => h) HS.out (YR.pure (by rfl) fun w hw => y_move w rfl rfl) ?_
                  simp only [Act.put, zA, zB, zC]
                  refine r_take 7 (.int .i64 ((i - 1 : Nat) : Int)) rfl (by kernel_rfl) (fun _ _ _ h => h) HS.out (YR.pure (by rfl) fun w hw => y_sub3 w HSUM.out.1 (by omega) (by have := HSUM.out.2.1; omega) rfl rfl rfl) ?_
                  simp only [Act.put, zA, zB, zC]
                  refine r_take 8 (.pointer (some ⟨gp, op + (i - 1), none⟩)) rfl (by kernel_rfl) (fun _ _ _ h => h) HS.out (YR.pure (by rfl) fun w hw => y_idx35 w HSUM.out.2.2 rfl rfl rfl) ?_
                  simp only [Act.put, zA, zB, zC]
                  refine r_take 9 (.int .u8 (pb.toNat : Int)) rfl (by kernel_rfl) (fun _ _ _ h => h) HS.out (YR.pure (by rfl) fun w hw => y_load5 rfl rfl (HPC.out w (HV1.out.2.trans hw))) ?_
                  simp only [Act.put, zA, zB, zC]
                  refine r_one 10 rfl (by kernel_rfl) (by rfl) fun wi oi => ?_
                  refine wp_enter (y_enter [.int .u8 (pb.toNat : Int)] rfl (by rfl) (call15_ _) wi) ((full_any pb wi).mono ?_)
                  rintro e wj ⟨g5, rfl, hv5, hg5, oj⟩
                  refine ⟨_, rfl, (HS.out.quiet oi).quiet oj, ?_⟩
                  simp only [Act.put, zA, zB, zC]
                  have HT := Lib.hid ((HS.out.quiet oi).quiet oj)
                  have HV5 := Lib.hid (hv5)
                  clear hv5 hg5
                  clear HS oi oj
                  have HS := HT
                  clear HT
                  refine r_one 11 rfl (by kernel_rfl) (by rfl) fun wi oi => ?_
                  refine wp_val (v := .string sx) (by rw [HSX.out, HPX.out.1]; exact y_str (fullB_len _).symm ((HV5.out.only oi fun _ _ e => e).rd) rfl rfl) ⟨HS.out.quiet oi, ?_⟩
                  simp only [Act.put, zA, zB, zC]
                  have HT := Lib.hid (HS.out.quiet oi)
                  clear HS oi
                  have HS := HT
                  clear HT
                  refine r_take 12 (.bool false) rfl (by kernel_rfl) (fun _ _ _ h => h) HS.out (YR.pure (by rfl) fun w hw => y_ne9 w (by simp) rfl rfl rfl) ?_
                  simp only [Act.put, zA, zB, zC]
                  refine r_take 13 (.bool false) rfl (by kernel_rfl) (fun _ _ _ h => h) HS.out (YR.pure (by rfl) fun w hw => y_pickF w rfl rfl rfl) ?_
                  simp only [Act.put, zA, zB, zC]
                  refine r_done (by kernel_rfl) fun wz oz => ?_
                  have HW2 := Lib.hid (HV1.out.2.trans (HS.out.quiet oz))
                  clear HS oz HV1 HV5
                  go_wp2_with fail
                  go_meet
                  case rel => exact HW2
              case rest =>
              rename World => wk
              have HW := Lib.hid hcut.out
              clear hcut
              have hi20 := HI.out.2
              have hi19 := HI.out.1
              have hl4 := HLL.out.2
              obtain ⟨q, hqe⟩ : ∃ q : Nat, i % 4 = q := ⟨_, rfl⟩
              have q4 : q < 4 := by omega
              obtain ⟨kk, hkk⟩ : ∃ kk, l[q]? = some kk := ⟨_, List.getElem?_eq_getElem (by omega)⟩
              have hnk := HP.out.2.1.quiet HW.out
              obtain ⟨g2, off2, cap2, e, cl⟩ := hnk.cell hkk
              injection e with e e2 e3
              injection e with e
              injection e with e e4
              subst e; subst e4; subst e3
              clear e2
              have hus := HP.out.2.2.2.1 kk (List.mem_of_getElem? hkk)
              obtain ⟨pb, hpb⟩ : ∃ pb, pb = pg.getD i 0 := ⟨_, rfl⟩
              have hpk := HP.out.1.quiet HW.out
              have HCELL : Hid (∀ w', Only (allS L3 R3 F3) wk w' → w'.cell? ⟨g, off + q, none⟩ = some (.int .i64 (kk : Int))) := Lib.hid fun w' o => by
                have hn := hnk.fresh g rfl
                rw [o.cell (hnk.row.lt rfl) hn.2]
                exact cl
              have HPC : Hid (∀ w', Only (allS L3 R3 F3) wk w' → w'.cell? ⟨gp, op + i, none⟩ = some (.int .u8 (pb.toNat : Int))) := Lib.hid fun w' o => by
                have hlt : i < pg.length := by have := HLN.out.1; omega
                obtain ⟨g3, o3, c3, e, hg3, hc⟩ := (RDP.out w (Only.refl _ _)).at_ (by omega)
                injection e with e _ _
                injection e with e
                injection e with e e4
                subst e; subst e4
                have hc0 := hc i (.int .u8 (pb.toNat : Int)) (by
                  show (pg.map fun c => Value.int .u8 (c.toNat : Int))[i]? = _
                  rw [List.getElem?_map, List.getElem?_eq_getElem hlt, hpb, List.getD_eq_getElem?_getD, List.getElem?_eq_getElem hlt]
                  rfl)
                have hs := hpk.only.size
                rw [o.cell (Nat.lt_of_lt_of_le hg3 hs) (fun e => by have := hpk.new gp e; omega), hpk.only.cell hg3 fun e => e]
                exact hc0
              have HWR : Hid (∀ w', Only None' wk w' → ∀ g5, Vec w' 1 (.slice (some ⟨g5, 0, none⟩) 512 512) 512 (bv (fullB pb)) → wk.heap.size ≤ g5 → Calls Tryz.prog 14 #[.pointer (some ⟨L3.P, 0, none⟩), .int .i64 (kk : Int), .slice (some ⟨g5, 0, none⟩) 512 512] w' fun e w'' => e = .returned (.int .i64 0) ∧ Pw w w'' L3 R3 F3 ⟨s5.p.touched kk (fullB pb), s5.r, s5.d⟩ 400 403 (200 + 100 * i) K K ∧ To w' w'' L3 R3 F3 L3 R3 F3) := Lib.hid fun w' o g5 hv hg => wk_write (hpk.quiet o) hus hv (fullB_len _) (own_lit hpk hg)
              have HCNT : Hid ((⟨s5.p.touched kk (fullB pb), s5.r, s5.d⟩ : Sy).p.count.length ≤ 400 / 8 ∧ (⟨s5.p.touched kk (fullB pb), s5.r, s5.d⟩ : Sy).p.m.root = 0) := Lib.hid ⟨by
                show (ins kk true s5.p.count).length ≤ _
                rw [HP.out.2.2.2.2.1]
                exact Nat.le_of_lt (by decide : 1 < 50), HP.out.2.2.1⟩
              have HIQ : Hid (i % 4 = q ∧ i ≤ 1000 ∧ l[q]? = some kk ∧ pb = pg.getD i 0) := Lib.hid ⟨hqe, by omega, hkk, hpb⟩
              have HJL : Hid (q < ln ∧ i < n) := Lib.hid (by have := HLL.out; omega)
              have HNK := Lib.hid (And.intro hnk hus)
              clear hi20 hi19 hl4 hqe q4 hkk hnk cl hus hpb hpk
              go_upto_region 40 with fail
              refine r_begin (S := allS L3 R3 F3) (by kernel_rfl) ?_
              have HS := Lib.hid (Only.refl (allS L3 R3 F3) wk)
              refine r_take 0 (.pointer (some ⟨L3.P, 0, none⟩)) rfl (by kernel_rfl) (fun _ _ _ h => h) HS.out (YR.pure (by rfl) fun w hw => y_move w rfl rfl) ?_
              simp only [Act.put, zA, zB, zC]
              refine r_take 1 (.slice (some ⟨g, off, none⟩) ln vc) rfl (by kernel_rfl) (fun _ _ _ h => h) HS.out (YR.pure (by rfl) fun w hw => y_move w rfl rfl) ?_
              simp only [Act.put, zA, zB, zC]
              refine r_take 2 (.int .i64 (i : Int)) rfl (by kernel_rfl) (fun _ _ _ h => h) HS.out (YR.pure (by rfl) fun w hw => y_move w rfl rfl) ?_
              simp only [Act.put, zA, zB, zC]
              refine r_take 3 (.int .i64 (q : Int)) rfl (by kernel_rfl) (fun _ _ _ h => h) HS.out (YR.pure (by rfl) fun w hw => y_rem3 (q := 4) w HIQ.out.1 (by decide) (by have := HIQ.out.2.1; omega) rfl rfl rfl) ?_
              simp only [Act.put, zA, zB, zC]
              refine r_take 4 (.pointer (some ⟨g, off + q, none⟩)) rfl (by kernel_rfl) (fun _ _ _ h => h) HS.out (YR.pure (by rfl) fun w hw => y_idx28 w HJL.out.1 rfl rfl rfl) ?_
              simp only [Act.put, zA, zB, zC]
              refine r_take 5 (.int .i64 (kk : Int)) rfl (by kernel_rfl) (fun _ _ _ h => h) HS.out (YR.pure (by rfl) fun w hw => y_load3 rfl rfl (HCELL.out w hw)) ?_
              simp only [Act.put, zA, zB, zC]
              refine r_take 6 (.slice (some ⟨gp, op, none⟩) n c) rfl (by kernel_rfl) (fun _ _ _ h => h) HS.out (YR.pure (by rfl) fun w hw => y_move w rfl rfl) ?_
              simp only [Act.put, zA, zB, zC]
              refine r_take 7 (.int .i64 (i : Int)) rfl (by kernel_rfl) (fun _ _ _ h => h) HS.out (YR.pure (by rfl) fun w hw => y_move w rfl rfl) ?_
              simp only [Act.put, zA, zB, zC]
              refine r_take 8 (.pointer (some ⟨gp, op + i, none⟩)) rfl (by kernel_rfl) (fun _ _ _ h => h) HS.out (YR.pure (by rfl) fun w hw => y_idx35 w HJL.out.2 rfl rfl rfl) ?_
              simp only [Act.put, zA, zB, zC]
              refine r_take 9 (.int .u8 (pb.toNat : Int)) rfl (by kernel_rfl) (fun _ _ _ h => h) HS.out (YR.pure (by rfl) fun w hw => y_load5 rfl rfl (HPC.out w hw)) ?_
              simp only [Act.put, zA, zB, zC]
              refine r_one 10 rfl (by kernel_rfl) (by rfl) fun wi oi => ?_
              refine wp_enter (y_enter [.int .u8 (pb.toNat : Int)] rfl (by rfl) (call15_ _) wi) ((full_any pb wi).mono ?_)
              rintro e wj ⟨g5, rfl, hv5, hg5, oj⟩
              refine ⟨_, rfl, (HS.out.quiet oi).quiet oj, ?_⟩
              simp only [Act.put, zA, zB, zC]
              have HT := Lib.hid ((HS.out.quiet oi).quiet oj)
              have HV5 := Lib.hid (And.intro hv5 (And.intro (Nat.le_trans oi.size hg5) (oi.trans oj)))
              clear hv5 hg5
              clear HS oi oj
              have HS := HT
              clear HT
              refine r_one 11 rfl (by kernel_rfl) (by rfl) fun wi oi => ?_
              refine wp_enter (y_enter [.pointer (some ⟨L3.P, 0, none⟩), .int .i64 (kk : Int), .slice (some ⟨g5, 0, none⟩) 512 512] rfl (by rfl) (call14_ _) wi) ((HWR.out wi (HV5.out.2.2.trans oi) g5 (HV5.out.1.only oi fun _ _ e => e) HV5.out.2.1).mono ?_)
              rintro e wj ⟨rfl, hp6, t6⟩
              have oj := t6.only
              refine ⟨_, rfl, (HS.out.quiet oi).trans oj, ?_⟩
              simp only [Act.put, zA, zB, zC]
              have HT := Lib.hid ((HS.out.quiet oi).trans oj)
              have H7 := Lib.hid (And.intro hp6 ((To.new (HV5.out.2.2.trans oi)).trans t6))
              clear HS oi oj hp6 t6
              have HS := HT
              clear HT
              refine r_take 12 (.bool false) rfl (by kernel_rfl) (fun _ _ _ h => h) HS.out (YR.pure (by rfl) fun w hw => y_ne29 w rfl rfl rfl rfl) ?_
              simp only [Act.put, zA, zB, zC]
              refine r_take 13 (.bool false) rfl (by kernel_rfl) (fun _ _ _ h => h) HS.out (YR.pure (by rfl) fun w hw => y_move w rfl rfl) ?_
              simp only [Act.put, zA, zB, zC]
              refine r_take 14 (.pointer (some ⟨L3.P, 0, none⟩)) rfl (by kernel_rfl) (fun _ _ _ h => h) HS.out (YR.pure (by rfl) fun w hw => y_move w rfl rfl) ?_
              simp only [Act.put, zA, zB, zC]
              refine r_one 15 rfl (by kernel_rfl) (by rfl) fun wi oi => ?_
              obtain ⟨s9, m9, k9, ww9, v9, hc9⟩ := tn_commit (H7.out.1.quiet oi) (by decide) (by have := HI.out; omega) HCNT.out.1 (.inl HCNT.out.2)
              refine wp_enter (y_enter [.pointer (some ⟨L3.P, 0, none⟩)] rfl (by rfl) (call13_ _) wi) (hc9.mono ?_)
              rintro e wj ⟨rfl, L9, R9, F9, h9, t9⟩
              have oj := t9.only
              refine ⟨_, rfl, (HS.out.quiet oi).trans oj, ?_⟩
              simp only [Act.put, zA, zB, zC]
              have HT := Lib.hid ((HS.out.quiet oi).trans oj)
              have H9 := Lib.hid (And.intro h9 (And.intro ((H7.out.2.trans (To.new oi)).trans t9) (And.intro m9 (And.intro k9 (And.intro ww9 v9)))))
              clear HS oi oj h9 t9 m9 k9 ww9 v9 hc9
              have HS := HT
              clear HT
              refine r_take 16 (.bool false) rfl (by kernel_rfl) (fun _ _ _ h => h) HS.out (YR.pure (by rfl) fun w hw => y_ne29 w rfl rfl rfl rfl) ?_
              simp only [Act.put, zA, zB, zC]
              refine r_take 17 (.bool false) rfl (by kernel_rfl) (fun _ _ _ h => h) HS.out (YR.pure (by rfl) fun w hw => y_pickF w rfl rfl rfl) ?_
              simp only [Act.put, zA, zB, zC]
              refine r_done (by kernel_rfl) fun wz oz => ?_
              have HF : Hid (Td w wz L3.D (.slice (some ⟨g, off, none⟩) l.length vc) l (200 + 100 * (i + 1)) (Qi l pg (i + 1)) false) := Lib.hid (by
                have hp9 := H9.out.1.quiet oz
                have ht9 := H9.out.2.1.trans (To.new (L := L9) (R := R9) (F := F9) oz)
                have hlv := H7.out.1.lv
                have hd := Pw.td (Q := Qi l pg (i + 1)) hp9 (HNK.out.1.to ht9) H9.out.2.2.2.2.1 (by rw [H9.out.2.2.1]; exact HCNT.out.2) (by rw [H9.out.2.2.2.1, H9.out.2.2.1]) (fun k hk => by
                  rw [Lv.uses_same hlv hp9.lv (by rw [H9.out.2.2.1])]
                  exact HP.out.2.2.2.1 k hk) (fun _ k hk => by
                  rw [Nat.add_sub_cancel] at hk ⊢
                  rw [HIQ.out.1, HIQ.out.2.2.1] at hk
                  injection hk with hk
                  subst hk
                  obtain ⟨k', e1, k1, _⟩ := HP.out.1.lv.in_use HNK.out.2
                  have e2 : k' = kk := by omega
                  subst e2
                  rw [H9.out.2.2.2.2.2 k' k1]
                  show (s5.p.touched k' (fullB pb)).view s5.d k' = _
                  rw [(HP.out.1.lv.write HNK.out.2 (fullB_len pb)).2]
                  simp only [if_true]
                  rw [HIQ.out.2.2.2])
                rw [ht9.D] at hd
                rw [show 200 + 100 * (i + 1) = 200 + 100 * i + 100 by omega]
                exact hd)
              clear HS oz H7 H9 HV5 HWR HCELL HPC HP HNK
              go_wp2_with fail
              go_roundg (n - (i + 1))
              case rel => exact ⟨i + 1, L3.D, false, rfl, HI.out.1, by first | exact next_int (by have := HI.out.2; have := HI.out.1; omega) | rfl | (congr 1), rfl, HF⟩
              case measure => have := HI.out.1; omega
            · have i1 : ¬ (i : Int) < (n : Int) := by omega
              clear hi hlt
              go_wp2_with fail
              go_ret
              exact ⟨rfl, HT.out.only⟩
theorem torn_long (x : Int) (kv : Value) (a : Option Addr) (n c : Nat) (w : World) (h : 20 < n) : Calls Tryz.prog 7 #[.int .i64 x, kv, .slice a n c] w fun e w' => e = .returned (.bool true) ∧ Only None' w w' := by
  have h1 : (20 : Int) < (n : Int) := by omega
  go_enter Tryz.func7, Tryz.ntmps7
  go_wp2_with fail
  refine (works_any w).mono ?_
  rintro e w1 ⟨rfl, o⟩
  have O := Lib.hid o
  clear o
  go_wp2_with fail
  refine (works_any w1).mono ?_
  rintro e w2 ⟨rfl, o⟩
  have O2 := Lib.hid (O.out.trans o)
  clear o
  go_wp2_with fail
  go_ret
  exact ⟨rfl, O2.out⟩
theorem torn_walk (x : Int) (kv v : Value) (keep : List Bool) (pg : List UInt8) (w : World) (rdk : Rd w 1 kv keep.length (bo keep)) (hkl : keep.length ≤ 140737488351232) (rdp : Rd w 1 v pg.length (bv pg)) : Calls Tryz.prog 7 #[.int .i64 x, kv, v] w fun e w' => e = .returned (.bool true) ∧ Below w.heap.size w w' := by
  obtain ⟨a, n, c, rfl⟩ := rdp.shape'
  by_cases h : n ≤ 20
  · exact (torn_main x kv a n c keep pg w rdk hkl rdp h).mono fun e w' ⟨h1, o⟩ => ⟨h1, o.below (Nat.le_refl _) fun _ e => e.elim⟩
  · exact (torn_long x kv a n c w (by omega)).mono fun e w' ⟨h1, o⟩ => ⟨h1, o.below (Nat.le_refl _) fun _ e => e.elim⟩
end Go.Proofs.YteoeaojebklfjaaGreatDoor
namespace Go.Proofs.YteoeaojebklfjaaGreatDoor
open Go.RowKit Go.Maps Go.WideShapes Go.ChangeShapes
theorem cells4 : Tryz.prog.cellsOf 4 = 1 := by kernel_rfl
theorem bytes4 : Tryz.prog.bytesOf 4 = 1 := by kernel_rfl
theorem reach_le : reachBytes ≤ 140737488351232 := by decide
set_option maxRecDepth 20000 in
theorem open_keep {H : Type} {enc : TypeId × Value → H} {W : World} {base : Nat} {v : Value} {d : DataW H} {ps : List MemPlace}
    (hok : Value.okWide Tryz.prog W .any base 43 v) (hd : DataW.Trod enc Tryz.prog W 0 (fun _ => true) true 43 v d ps) (hw : ∀ n ∈ d.weights Tryz.prog 43, n ≤ reachBytes) :
    ∃ l : List Bool, Rd W 1 v l.length (bo l) ∧ l.length ≤ 140737488351232 := by
  obtain ⟨l, h1, h2⟩ := open_bools Tryz.underlying43 Tryz.underlying4 cells4 hok hd hw
  rw [bytes4, Nat.mul_one] at h2
  exact ⟨l, h1, Nat.le_trans h2 reach_le⟩
end Go.Proofs.YteoeaojebklfjaaGreatDoor
