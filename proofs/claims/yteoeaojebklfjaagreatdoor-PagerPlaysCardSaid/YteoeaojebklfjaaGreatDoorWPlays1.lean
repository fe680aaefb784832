/- T8 T9 in one text. -/
import Derived.Test.YteoeaojebklfjaaGreatDoorWPlays0
/- PagerMany (3): the walk. -/
namespace Go.Proofs.YteoeaojebklfjaaGreatDoor
open Go.RowKit Go.Maps
set_option linter.unusedVariables false
set_option linter.unusedSimpArgs false
set_option maxRecDepth 20000
theorem old_get {len : Nat} {p q : Pg} {d d' : Dk} {G K : List Nat} (h : Lv len p d G K) (hn : p.now = []) (hq : q.comm d' = p.comm d) (hqd : q.dirty = []) (hqf : q.first = p.first) (hdl : d'.lasts.length = len) {k : Nat} (hk : k < p.pages) : p.get d' k = (p.comm d k, 0) := by
  have e : d'.read (p.first + k) = p.comm d k := by
    have := congrFun hq k
    unfold Pg.comm at this
    rw [hqd, kLook_nil, hqf] at this
    exact this
  have hl := h.fit hk
  unfold Pg.get
  rw [hn, kLook_nil]
  simp only
  cases hx : kLook p.dirty k with
  | some x =>
    simp only
    unfold Pg.comm
    rw [hx]; rfl
  | none =>
    simp only
    rw [if_pos (by rw [hdl]; rw [h.dlen] at hl; exact hl), e]
/-- all pages of a list are in use, and unlike -/
structure InUse (p : Pg) (l : List Nat) : Prop where
  uses : ∀ k ∈ l, p.uses (k : Int) = true
  nd : l.Nodup
theorem nodup_at {l : List Nat} (h : l.Nodup) {i j k : Nat} (hi : l[i]? = some k) (hj : l[j]? = some k) : i = j := by
  obtain ⟨h1, e1⟩ := List.getElem?_eq_some_iff.1 hi
  exact (List.getElem?_inj h1 h).1 (hi.trans hj.symm)
set_option maxHeartbeats 8000000 in
theorem many_main (x y : Int) (c : UInt8) (z : Int) (w : World) : Calls Tryz.prog 3 #[.int .i64 x, .int .i64 y, .int .u8 (c.toNat : Int), .int .i64 z] w fun e w' => e = .returned (.bool true) ∧ Only None' w w' := by
  obtain ⟨p0, hp0, hp1⟩ := mod_is x 9 (by decide) (by decide)
  obtain ⟨cm, hcm, hcm1⟩ := mod_is y 60 (by decide) (by decide)
  obtain ⟨z0, hz0, hz1⟩ := mod_is z 20 (by decide) (by decide)
  obtain ⟨pages, hpw, hpg⟩ : ∃ pages : Nat, wrap64 (1 + wrap64 ((IntKind.u64.wrap x).tmod 9)) = (pages : Int) ∧ 1 ≤ pages ∧ pages ≤ 9 := ⟨p0 + 1, by rw [hp0, IntWalk.wrap64_in _ (by omega)]; omega, by omega, by omega⟩
  obtain ⟨zz, hzw, hzg⟩ : ∃ zz : Nat, wrap64 (1 + wrap64 ((IntKind.u64.wrap z).tmod 20)) = (zz : Int) ∧ 1 ≤ zz ∧ zz ≤ 20 := ⟨z0 + 1, by rw [hz0, IntWalk.wrap64_in _ (by omega)]; omega, by omega, by omega⟩
  have HB := Lib.hid (And.intro hpg (And.intro hzg (show cm < 60 by omega)))
  obtain ⟨cv, hcv⟩ : ∃ cv, cv = (c.toNat : Int) := ⟨_, rfl⟩
  have HCV := Lib.hid hcv
  rw [← hcv]
  clear hp1 hcm1 hz1 hp0 hz0 hcv hpg hzg p0 z0
  go_enter Tryz.func3, Tryz.ntmps3
  go_wp2_with fail
  refine (works_any w).mono ?_
  rintro e w1 ⟨rfl, o1⟩
  have O1 := Lib.hid o1
  clear o1
  go_wp2_with fail
  refine (fresh_any 200 200 rfl (by decide) (by decide) w1).mono ?_
  rintro e w2 ⟨L, R, F, rfl, hp⟩
  have hp0 : Pw w w2 L R F (formatS 200) 200 4 0 [] [] := ⟨hp.at_, fun k hk => by have := hp.new k hk; have := O1.out.size; omega, O1.out.trans hp.only, hp.lv, hp.lg, hp.calm⟩
  have hf148 : (formatS 200).p.free = 148 := rfl
  have hcn0 : (formatS 200).p.count = [] := rfl
  obtain ⟨s, hs⟩ : ∃ s, s = formatS 200 := ⟨_, rfl⟩
  rw [← hs] at hp0 hf148 hcn0
  have HP0 := Lib.hid (And.intro hp0 (And.intro hf148 hcn0))
  clear hp hp0 hf148 hcn0 hs O1
  go_wp2_with fail
  simp only [hpw, hzw, hcm]
  clear hpw hzw hcm
  go_loopg [11, 12] pages (fun gg u t wr => ∃ (i : Nat) (l : List Nat) (s2 : Sy) (G : List Nat), gg = pages - i ∧ i ≤ pages ∧ t = .int .i64 (i : Int) ∧ Hid (Pw w wr L R F s2 200 4 0 G [] ∧ Nums w wr L R F u l ∧ InUse s2.p l ∧ l.length = i ∧ s2.p.free = 148 - (i : Int) ∧ s2.p.count.length ≤ i))
  case atStart => exact ⟨0, [], s, [], rfl, Nat.zero_le _, rfl, Lib.hid ⟨HP0.out.1, Nums.nil, ⟨fun k hk => by simp at hk, List.nodup_nil⟩, rfl, by rw [HP0.out.2.1]; rfl, by rw [HP0.out.2.2]; exact Nat.le_refl _⟩⟩
  case round =>
    obtain ⟨i, l, s2, G, rfl, hi, rfl, HL⟩ := hrel
    obtain ⟨va, vc, hve, _, _⟩ := HL.out.2.1.row.shape
    subst hve
    by_cases hlt : i < pages
    · have i0 : (0 : Int) ≤ (i : Int) := by omega
      have i1 : (i : Int) < (pages : Int) := by omega
      have hll := HL.out.2.2.2.1
      have hfre := HL.out.2.2.2.2.1
      have hp9 := HB.out.1.2
      obtain ⟨k, p', G', ht, hc⟩ := wk_alloc HL.out.1 (by decide) (by omega)
      have HT := Lib.hid ht
      have HC := Lib.hid hc
      have HK := Lib.hid (And.intro hlt (And.intro hll hfre))
      clear ht hc hlt hll hfre hi hp9
      go_wp2_with fail
      refine HC.out.mono ?_
      rintro e w5 ⟨rfl, h5, t5⟩
      have HP5 := Lib.hid h5
      have HN5 := Lib.hid (HL.out.2.1.to t5)
      have HU5 : Hid (InUse p' (l ++ [k])) := Lib.hid ⟨fun n hn => by
        rw [HT.out.uses]
        rcases List.mem_append.1 hn with hn | hn
        · rw [HL.out.2.2.1.uses n hn]; rfl
        · simp at hn; subst hn; simp, by
        rw [List.nodup_append]
        refine ⟨HL.out.2.2.1.nd, List.nodup_cons.2 ⟨List.not_mem_nil, List.nodup_nil⟩, fun n hn m hm e => ?_⟩
        simp at hm
        subst hm; subst e
        have := HL.out.2.2.1.uses n hn
        rw [HT.out.was] at this
        cases this⟩
      have HSZ := Lib.hid (show l.length + 1 ≤ 1000 by have := HK.out.1; have := HK.out.2.1; have := HB.out.1.2; omega)
      clear h5 t5 HC
      go_wp2_with (first | (at_builtin; refine wpList_append_any rfl _ _ 28 rfl 3 Tryz.t3 (.int .i64 0) 1 8 Tryz.underlying28 info3 t3_zero t3_size t3_bytes rfl (by decide) (.slice va l.length vc) l.length (inv l) rfl (HN5.out.row.only ((Only.refl None' w5).alloc _) fun _ _ e => e) (.slice (some ⟨w5.heap.size, 0, none⟩) 1 1) 1 [.int .i64 (k : Int)] rfl (rd_one' w5 _ 3) (one_int _) (by have := HSZ.out; unfold maxLen; omega) (by have := HSZ.out; omega) ?_; intro v2 w8 hv2 hg2 hf2; have HY := Lib.hid (And.intro hv2 (And.intro hg2 hf2)); clear hv2 hg2 hf2))
      go_roundg (pages - (i + 1))
      case rel =>
        have og : Only (fun k => (Value.slice va l.length vc).ownBlock = some k) (w5.alloc (.cells #[.int .i64 (k : Int)] 3)) w8 := (Only.refl _ _).grown HY.out.2.1 fun k hk => hk
        refine ⟨i + 1, l ++ [k], ⟨p', s2.r, s2.d⟩, G', rfl, HK.out.1, by first | exact next_int (by have := HK.out.1; have := HB.out.1.2; omega) | rfl | (congr 1), Lib.hid ⟨(HP5.out.quiet ((Only.refl None' w5).alloc _)).aside og fun k e => HN5.out.fresh k e, HN5.out.push (fun k hk => HP5.out.at_.lt hk) HP5.out.only.size ((Only.refl None' w5).alloc _) HY.out.1 HY.out.2.2, HU5.out, by rw [List.length_append, HK.out.2.1]; rfl, ?_, ?_⟩⟩
        · show p'.free = _
          rw [HT.out.free, HK.out.2.2]
          omega
        · show p'.count.length ≤ _
          rw [HT.out.count]
          have := len_ins k true s2.p.count
          have := HL.out.2.2.2.2.2
          omega
      case measure => have := HK.out.1; omega
    · have hip : pages = i := by omega
      subst hip
      have hp9 := HB.out.1
      have hll := HL.out.2.2.2.1
      obtain ⟨l0, hl0⟩ : ∃ l0, l[0]? = some l0 := ⟨_, List.getElem?_eq_getElem (by omega)⟩
      obtain ⟨g, off, cap, hve, hcell⟩ := HL.out.2.1.cell hl0
      injection hve with hve _ hve2
      subst hve; subst hve2
      rw [Nat.add_zero] at hcell
      have hu0 := HL.out.2.2.1.uses l0 (List.mem_of_getElem? hl0)
      have hsr := wk_setRoot HL.out.1 (.inr hu0)
      have HSR := Lib.hid hsr
      have HL0 := Lib.hid (And.intro hl0 (And.intro hu0 hll))
      obtain ⟨ln, hln⟩ : ∃ ln, ln = l.length := ⟨_, rfl⟩
      have HLN := Lib.hid (hln.trans hll)
      rw [← hln]
      have l1 : (1 : Int) ≤ (ln : Int) := by omega
      have l9 : (ln : Int) ≤ 9 := by omega
      have i1 : ¬ (pages : Int) < (pages : Int) := by omega
      clear hlt hi hp9 hll hl0 hu0 hsr hln
      go_wp2_with fail
      refine HSR.out.mono ?_
      rintro e w5 ⟨rfl, h5, t5⟩
      have hcnt : (s2.p.rooted l0).count.length ≤ 200 / 8 := by have h1 : s2.p.count.length ≤ pages := HL.out.2.2.2.2.2; have := HB.out.1.2; show s2.p.count.length ≤ _; omega
      obtain ⟨s6, m6, k6, n6, c6, v6, cm6, hc6⟩ := wk_commit h5 (by decide) (by decide) hcnt (.inr (show (s2.p.rooted l0).uses (l0 : Int) = true from HL0.out.2.1))
      have HC6 := Lib.hid hc6
      have HX6 := Lib.hid (And.intro m6 (And.intro k6 (And.intro n6 (And.intro c6 h5.lv))))
      have HN5 := Lib.hid (HL.out.2.1.to t5)
      clear h5 t5 hcnt m6 k6 n6 c6 v6 cm6 hc6 hcell HSR
      go_wp2_with fail
      refine HC6.out.mono ?_
      rintro e w6 ⟨rfl, L6, R6, F6, h6, t6⟩
      have hu6 : InUse s6.p l := ⟨fun k hk => by
        rw [Lv.uses_same HX6.out.2.2.2.2 h6.lv (by rw [HX6.out.1])]
        exact HL.out.2.2.1.uses k hk, HL.out.2.2.1.nd⟩
      have H6 := Lib.hid (And.intro h6 (And.intro (HN5.out.to t6) (And.intro hu6 (And.intro t6.P t6.D))))
      clear h6 t6 hu6 HC6
      go_wp2_with fail
      obtain ⟨m0, hm0⟩ : ∃ m0, m0 = s6.p.m := ⟨_, rfl⟩
      have HM0 := Lib.hid (And.intro hm0 (show m0.root = l0 by rw [hm0, HX6.out.1]; rfl))
      have c0 : (0 : Int) ≤ (cm : Int) := by omega
      have c60 : (cm : Int) < 60 := by have := HB.out.2.2; omega
      have p1 : (1 : Int) ≤ (pages : Int) := by have := HB.out.1.1; omega
      have p9 : (pages : Int) ≤ 9 := by have := HB.out.1.2; omega
      have z1 : (1 : Int) ≤ (zz : Int) := by have := HB.out.2.1.1; omega
      have z20 : (zz : Int) ≤ 20 := by have := HB.out.2.1.2; omega
      have znz : ((zz : Int) == 0) = false := by simp; omega
      clear hm0 i1
      go_loopg [15] cm (fun gg t wr => ∃ (i : Nat) (s2 : Sy) (L2 : Lo) (R2 : Nat) (F2 : Nat → Prop), gg = cm - i ∧ i ≤ cm ∧ t = .int .i64 (i : Int) ∧ Hid (Pw w wr L2 R2 F2 s2 200 (604 + 1200 * i) (100 + 100 * i) G G ∧ Nums w wr L2 R2 F2 (.slice (some ⟨g, off, none⟩) l.length vc) l ∧ InUse s2.p l ∧ (L2.P = L.P ∧ L2.D = L.D) ∧ s2.p.m = m0 ∧ s2.p.kept = m0 ∧ s2.p.now = [] ∧ s2.p.count = [] ∧ (1 ≤ i → ∀ (j k : Nat), l[j]? = some k → s2.p.comm s2.d k = fullB (byteOf c (i - 1 + j)))))
      case atStart => exact ⟨0, s6, L6, R6, F6, rfl, Nat.zero_le _, rfl, Lib.hid ⟨H6.out.1, H6.out.2.1, H6.out.2.2.1, H6.out.2.2.2, HM0.out.1.symm, HX6.out.2.1.trans (by rw [HM0.out.1, HX6.out.1]), HX6.out.2.2.1, HX6.out.2.2.2.1, fun h => by omega⟩⟩
      case round =>
        clear H6 HX6 HN5 HL
        obtain ⟨i, s2, L2, R2, F2, rfl, hi, rfl, HA⟩ := hrel
        rename World => wr2
        by_cases hlt : i < cm
        · have i0 : (0 : Int) ≤ (i : Int) := by omega
          have i1 : (i : Int) < (cm : Int) := by omega
          have HI := Lib.hid hlt
          clear hi hlt
          go_wp2_with fail
          go_loopg [16] pages (fun gg t wx => ∃ (j : Nat) (s3 : Sy), gg = pages - j ∧ j ≤ pages ∧ t = .int .i64 (j : Int) ∧ Hid (Pw w wx L2 R2 F2 s3 200 (604 + 1200 * i) (100 + 100 * i) G G ∧ Nums w wx L2 R2 F2 (.slice (some ⟨g, off, none⟩) l.length vc) l ∧ s3.p.m = m0 ∧ s3.p.count.length ≤ j ∧ (∀ (j2 k : Nat), j2 < j → l[j2]? = some k → s3.p.view s3.d k = fullB (byteOf c (i + j2)))))
          case atStart => exact ⟨0, s2, rfl, Nat.zero_le _, rfl, Lib.hid ⟨HA.out.1, HA.out.2.1, HA.out.2.2.2.2.1, by rw [HA.out.2.2.2.2.2.2.2.1]; exact Nat.le_refl _, fun j2 k h => by omega⟩⟩
          case round =>
            obtain ⟨j, s3, rfl, hj, rfl, HC3⟩ := hrel
            rename World => wx
            by_cases hlt : j < pages
            · have hjl : j < l.length := by have := HL0.out.2.2; omega
              obtain ⟨kk, hkk⟩ : ∃ kk, l[j]? = some kk := ⟨_, List.getElem?_eq_getElem hjl⟩
              obtain ⟨g2, off2, cap2, e, cl⟩ := HC3.out.2.1.cell hkk
              injection e with e e2 e3
              injection e with e
              injection e with e e4
              subst e; subst e4; subst e3
              clear e2
              have hus : s3.p.uses (kk : Int) = true := by
                rw [Lv.uses_same HA.out.1.lv HC3.out.1.lv (by rw [HC3.out.2.2.1, HA.out.2.2.2.2.1])]
                exact HA.out.2.2.1.uses kk (List.mem_of_getElem? hkk)
              have HCELL : Hid (∀ w', Only (allS L2 R2 F2) wx w' → w'.cell? ⟨g, off + j, none⟩ = some (.int .i64 (kk : Int))) := Lib.hid fun w' o => by
                have hn := HC3.out.2.1.fresh g rfl
                rw [o.cell (HC3.out.2.1.row.lt rfl) hn.2]
                exact cl
              have HWR : Hid (∀ w', Only None' wx w' → ∀ g5, Vec w' 1 (.slice (some ⟨g5, 0, none⟩) 512 512) 512 (bv (fullB (byteOf c (i + j)))) → wx.heap.size ≤ g5 → Calls Tryz.prog 14 #[.pointer (some ⟨L.P, 0, none⟩), .int .i64 (kk : Int), .slice (some ⟨g5, 0, none⟩) 512 512] w' fun e w'' => e = .returned (.int .i64 0) ∧ Pw w w'' L2 R2 F2 ⟨s3.p.touched kk (fullB (byteOf c (i + j))), s3.r, s3.d⟩ 200 (604 + 1200 * i) (100 + 100 * i) G G ∧ To w' w'' L2 R2 F2 L2 R2 F2) := Lib.hid fun w' o g5 hv hg => by
                have := wk_write (HC3.out.1.quiet o) hus hv (fullB_len _) (own_lit HC3.out.1 hg)
                rw [HA.out.2.2.2.1.1] at this
                exact this
              have HSUM : Hid ((i : Int) + (j : Int) = ((i + j : Nat) : Int) ∧ i + j ≤ 1000) := Lib.hid ⟨by omega, by have := HI.out; have := HB.out.1.2; have := HB.out.2.2; omega⟩
              have HJ := Lib.hid (And.intro hlt (And.intro hkk (And.intro hus (show ln = pages from HLN.out))))
              have j0 : (0 : Int) ≤ (j : Int) := by omega
              have j1 : (j : Int) < (pages : Int) := by omega
              have HJL : Hid (j < ln) := Lib.hid (by have := HLN.out; omega)
              clear hlt hjl hkk cl hus hj
              go_upto_region 23 with fail
              refine r_begin (S := allS L2 R2 F2) (by kernel_rfl) ?_
              have HS := Lib.hid (Only.refl (allS L2 R2 F2) wx)
              refine r_take 0 (.pointer (some ⟨L.P, 0, none⟩)) rfl (by kernel_rfl) (fun _ _ _ h => h) HS.out (YR.pure (by rfl) fun w hw => y_move w rfl rfl) ?_
              simp only [Act.put, List.setIfInBounds_toArray, List.set_cons_zero, List.set_cons_succ]
              refine r_take 1 (.slice (some ⟨g, off, none⟩) ln vc) rfl (by kernel_rfl) (fun _ _ _ h => h) HS.out (YR.pure (by rfl) fun w hw => y_move w rfl rfl) ?_
              simp only [Act.put, List.setIfInBounds_toArray, List.set_cons_zero, List.set_cons_succ]
              refine r_take 2 (.int .i64 (j : Int)) rfl (by kernel_rfl) (fun _ _ _ h => h) HS.out (YR.pure (by rfl) fun w hw => y_move w rfl rfl) ?_
              simp only [Act.put, List.setIfInBounds_toArray, List.set_cons_zero, List.set_cons_succ]
              refine r_take 3 (.pointer (some ⟨g, off + j, none⟩)) rfl (by kernel_rfl) (fun _ _ _ h => h) HS.out (YR.pure (by rfl) fun w hw => y_idx28 w HJL.out rfl rfl rfl) ?_
              simp only [Act.put, List.setIfInBounds_toArray, List.set_cons_zero, List.set_cons_succ]
              refine r_take 4 (.int .i64 (kk : Int)) rfl (by kernel_rfl) (fun _ _ _ h => h) HS.out (YR.pure (by rfl) fun w hw => y_load3 rfl rfl (HCELL.out w hw)) ?_
              simp only [Act.put, List.setIfInBounds_toArray, List.set_cons_zero, List.set_cons_succ]
              refine r_take 5 (.int .u8 cv) rfl (by kernel_rfl) (fun _ _ _ h => h) HS.out (YR.pure (by rfl) fun w hw => y_move w rfl rfl) ?_
              simp only [Act.put, List.setIfInBounds_toArray, List.set_cons_zero, List.set_cons_succ]
              refine r_take 6 (.int .i64 (i : Int)) rfl (by kernel_rfl) (fun _ _ _ h => h) HS.out (YR.pure (by rfl) fun w hw => y_move w rfl rfl) ?_
              simp only [Act.put, List.setIfInBounds_toArray, List.set_cons_zero, List.set_cons_succ]
              refine r_take 7 (.int .i64 (j : Int)) rfl (by kernel_rfl) (fun _ _ _ h => h) HS.out (YR.pure (by rfl) fun w hw => y_move w rfl rfl) ?_
              simp only [Act.put, List.setIfInBounds_toArray, List.set_cons_zero, List.set_cons_succ]
              refine r_take 8 (.int .i64 ((i + j : Nat) : Int)) rfl (by kernel_rfl) (fun _ _ _ h => h) HS.out (YR.pure (by rfl) fun w hw => y_add3 w HSUM.out.1 (by have := HSUM.out.2; omega) (by have := HSUM.out.2; omega) rfl rfl rfl) ?_
              simp only [Act.put, List.setIfInBounds_toArray, List.set_cons_zero, List.set_cons_succ]
              refine r_take 9 (.int .u8 (IntKind.u8.wrap ((i + j : Nat) : Int))) rfl (by kernel_rfl) (fun _ _ _ h => h) HS.out (YR.pure (by rfl) fun w hw => y_conv35 w rfl rfl) ?_
              simp only [Act.put, List.setIfInBounds_toArray, List.set_cons_zero, List.set_cons_succ]
              refine r_take 10 (.int .u8 ((byteOf c (i + j)).toNat : Int)) rfl (by kernel_rfl) (fun _ _ _ h => h) HS.out (YR.pure (by rfl) fun w hw => (by rw [← byteOf_is, ← HCV.out]; exact y_add5 w rfl rfl rfl)) ?_
              simp only [Act.put, List.setIfInBounds_toArray, List.set_cons_zero, List.set_cons_succ]
              refine r_one 11 rfl (by kernel_rfl) (by rfl) fun wi oi => ?_
              refine wp_enter (y_enter [.int .u8 ((byteOf c (i + j)).toNat : Int)] rfl (by rfl) (call15_ _) wi) ((full_any (byteOf c (i + j)) wi).mono ?_)
              rintro e wj ⟨g5, rfl, hv5, hg5, oj⟩
              refine ⟨_, rfl, (HS.out.quiet oi).quiet oj, ?_⟩
              simp only [Act.put, List.setIfInBounds_toArray, List.set_cons_zero, List.set_cons_succ]
              have HT := Lib.hid ((HS.out.quiet oi).quiet oj)
              have HV5 := Lib.hid (And.intro hv5 (And.intro (Nat.le_trans oi.size hg5) (oi.trans oj)))
              clear hv5 hg5
              clear HS oi oj
              have HS := HT
              clear HT
              refine r_one 12 rfl (by kernel_rfl) (by rfl) fun wi oi => ?_
              refine wp_enter (y_enter [.pointer (some ⟨L.P, 0, none⟩), .int .i64 (kk : Int), .slice (some ⟨g5, 0, none⟩) 512 512] rfl (by rfl) (call14_ _) wi) ((HWR.out wi (HV5.out.2.2.trans oi) g5 (HV5.out.1.only oi fun _ _ e => e) HV5.out.2.1).mono ?_)
              rintro e wj ⟨rfl, hp6, t6⟩
              have oj := t6.only
              refine ⟨_, rfl, (HS.out.quiet oi).trans oj, ?_⟩
              simp only [Act.put, List.setIfInBounds_toArray, List.set_cons_zero, List.set_cons_succ]
              have HT := Lib.hid ((HS.out.quiet oi).trans oj)
              have H7 := Lib.hid (And.intro hp6 ((To.new (HV5.out.2.2.trans oi)).trans t6))
              clear HS oi oj hp6 t6
              have HS := HT
              clear HT
              refine r_take 13 (.bool false) rfl (by kernel_rfl) (fun _ _ _ h => h) HS.out (YR.pure (by rfl) fun w hw => y_ne29 w rfl rfl rfl rfl) ?_
              simp only [Act.put, List.setIfInBounds_toArray, List.set_cons_zero, List.set_cons_succ]
              refine r_done (by kernel_rfl) fun wz oz => ?_
              have H8 := Lib.hid (And.intro (H7.out.1.quiet oz) (H7.out.2.trans (To.new oz)))
              clear HS oz H7 HV5 HWR HCELL
              generalize wz = w7 at H8 ⊢
              go_wp2_with fail
              go_roundg (pages - (j + 1))
              case rel =>
                refine ⟨j + 1, _, rfl, HJ.out.1, by first | exact next_int (by have := HJ.out.1; have := HB.out.1.2; omega) | rfl | (congr 1), Lib.hid ⟨H8.out.1, HC3.out.2.1.to H8.out.2, HC3.out.2.2.1, ?_, fun j2 k hj2 hk => ?_⟩⟩
                · show (ins kk true s3.p.count).length ≤ _
                  have := len_ins kk true s3.p.count
                  have := HC3.out.2.2.2.1
                  omega
                · have hv := (HC3.out.1.lv.write HJ.out.2.2.1 (fullB_len (byteOf c (i + j)))).2
                  show (s3.p.touched kk (fullB (byteOf c (i + j)))).view s3.d k = _
                  rw [hv]
                  by_cases e : kk = k
                  · subst e
                    show (if kk = kk then _ else _) = _
                    rw [if_pos rfl]
                    have := nodup_at HA.out.2.2.1.nd hk HJ.out.2.1
                    rw [this]
                  · show (if kk = k then _ else _) = _
                    rw [if_neg e]
                    refine HC3.out.2.2.2.2 j2 k ?_ hk
                    rcases Nat.lt_or_ge j2 j with e2 | e2
                    · exact e2
                    · have : j2 = j := by omega
                      subst this
                      rw [HJ.out.2.1] at hk
                      injection hk with hk
                      exact absurd hk e
              case measure => have := HJ.out.1; omega
            · have hjp : pages = j := by omega
              subst hjp
              have hu0 : s3.p.uses (l0 : Int) = true := by
                rw [Lv.uses_same HA.out.1.lv HC3.out.1.lv (by rw [HC3.out.2.2.1, HA.out.2.2.2.2.1])]
                exact HA.out.2.2.1.uses l0 (List.mem_of_getElem? HL0.out.1)
              obtain ⟨s6', m6, k6, n6, c6, v6, cm6, hc6⟩ := wk_commit HC3.out.1 (by omega) (by omega) (by have := HC3.out.2.2.2.1; have := HB.out.1.2; omega) (.inr (by rw [HC3.out.2.2.1, HM0.out.2]; exact hu0))
              rw [HA.out.2.2.2.1.1] at hc6
              have HC6 := Lib.hid hc6
              have HG6 := Lib.hid (And.intro m6 (And.intro k6 (And.intro n6 (And.intro c6 cm6))))
              have hwr : wrap64 ((i : Int).tmod (zz : Int)) = (i : Int).tmod (zz : Int) := by
                have a1 := Int.tmod_nonneg (zz : Int) (show (0 : Int) ≤ (i : Int) by omega)
                have a2 := Int.tmod_lt_of_pos (i : Int) (show (0 : Int) < (zz : Int) by omega)
                exact IntWalk.wrap64_in _ (by omega)
              have HREL : Hid (∀ (wz : World) (sz : Sy) (Lz : Lo) (Rz : Nat) (Fz : Nat → Prop), Pw w wz Lz Rz Fz sz 200 (604 + 1200 * i + 1200) (100 + 100 * i + 100) G G → To wx wz L2 R2 F2 Lz Rz Fz → sz.p.m = m0 → sz.p.kept = m0 → sz.p.now = [] → sz.p.count = [] → (∀ k, 1 ≤ k → sz.p.comm sz.d k = s3.p.view s3.d k) → Pw w wz Lz Rz Fz sz 200 (604 + 1200 * (i + 1)) (100 + 100 * (i + 1)) G G ∧ Nums w wz Lz Rz Fz (.slice (some ⟨g, off, none⟩) l.length vc) l ∧ InUse sz.p l ∧ (Lz.P = L.P ∧ Lz.D = L.D) ∧ sz.p.m = m0 ∧ sz.p.kept = m0 ∧ sz.p.now = [] ∧ sz.p.count = [] ∧ (1 ≤ i + 1 → ∀ (j k : Nat), l[j]? = some k → sz.p.comm sz.d k = fullB (byteOf c (i + 1 - 1 + j)))) := Lib.hid fun wz sz Lz Rz Fz a b e1 e2 e3 e4 e5 => by
                refine ⟨a.few (by omega) (by omega), HC3.out.2.1.to b, ⟨fun k hk => ?_, HA.out.2.2.1.nd⟩, ⟨b.P.trans HA.out.2.2.2.1.1, b.D.trans HA.out.2.2.2.1.2⟩, e1, e2, e3, e4, fun _ j2 k hk => ?_⟩
                · rw [Lv.uses_same HA.out.1.lv a.lv (by rw [e1, HA.out.2.2.2.2.1])]
                  exact HA.out.2.2.1.uses k hk
                · obtain ⟨k2, ek, k1, _⟩ := HA.out.1.lv.in_use (HA.out.2.2.1.uses k (List.mem_of_getElem? hk))
                  rw [e5 k (by omega), Nat.add_sub_cancel]
                  exact HC3.out.2.2.2.2 j2 k (by have := (List.getElem?_eq_some_iff.1 hk).1; have := HL0.out.2.2; omega) hk
              have HNX : Hid ((i : Int) + 1 = ((i + 1 : Nat) : Int) ∧ i + 1 ≤ 1000) := Lib.hid ⟨by omega, by have := HI.out; have := HB.out.2.2; omega⟩
              clear hu0 m6 k6 n6 c6 v6 cm6 hc6 hlt hj
              by_cases hcc : (i : Int) % (zz : Int) = 0
              case neg =>
                go_wp2_with fail
                refine HC6.out.mono ?_
                rintro e w6 ⟨rfl, L6', R6', F6', h6, t6⟩
                have H6 := Lib.hid (And.intro h6 t6)
                clear h6 t6 HC6
                go_wp2_with fail
                go_roundg (cm - (i + 1))
                case rel => exact ⟨i + 1, _, _, _, _, rfl, HI.out, by first | exact next_int (by have := HNX.out.2; omega) | rfl | (congr 1), Lib.hid (HREL.out _ _ _ _ _ (H6.out.1.few (by omega) (Nat.le_refl _)) H6.out.2 (HG6.out.1.trans HC3.out.2.2.1) (HG6.out.2.1.trans HC3.out.2.2.1) HG6.out.2.2.1 HG6.out.2.2.2.1 HG6.out.2.2.2.2)⟩
                case measure => have := HI.out; omega
              case pos =>
                go_wp2_with fail
                refine HC6.out.mono ?_
                rintro e w6 ⟨rfl, L6', R6', F6', h6, t6⟩
                have hLP : L6'.P = L.P := t6.P.trans HA.out.2.2.2.1.1
                obtain ⟨s7, e7, c7, v7, hc7⟩ := wk_settle h6 (by omega)
                rw [hLP] at hc7
                have HC7 := Lib.hid hc7
                have HG7 := Lib.hid (And.intro e7 c7)
                have H6 := Lib.hid (And.intro h6 t6)
                clear h6 t6 HC6 e7 c7 v7 hc7 hLP
                go_wp2_with fail
                refine HC7.out.mono ?_
                rintro e w7 ⟨rfl, L7, R7, F7, h7, t7⟩
                have H7 := Lib.hid (And.intro h7 (H6.out.2.trans t7))
                clear h7 t7 HC7
                go_wp2_with fail
                go_roundg (cm - (i + 1))
                case rel => exact ⟨i + 1, _, _, _, _, rfl, HI.out, by first | exact next_int (by have := HNX.out.2; omega) | rfl | (congr 1), Lib.hid (HREL.out _ _ _ _ _ (H7.out.1.few (by omega) (Nat.le_refl _)) H7.out.2 (by rw [HG7.out.1]; exact HG6.out.1.trans HC3.out.2.2.1) (by rw [HG7.out.1]; exact HG6.out.2.1.trans HC3.out.2.2.1) (by rw [HG7.out.1]; exact HG6.out.2.2.1) (by rw [HG7.out.1]; exact HG6.out.2.2.2.1) (by rw [HG7.out.2]; exact HG6.out.2.2.2.2))⟩
                case measure => have := HI.out; omega
        · have hip : cm = i := by omega
          subst hip
          obtain ⟨s5, m5, k5, cq5, v5, n5, ct5, pg5, fs5, dy5, hc5⟩ := wk_open HA.out.1 (by omega)
          rw [HA.out.2.2.2.1.2] at hc5
          have HC5 := Lib.hid hc5
          have HG5 := Lib.hid (And.intro (m5.trans HA.out.2.2.2.2.2.1) (And.intro cq5 (And.intro v5 (And.intro pg5 (And.intro fs5 dy5)))))
          clear hlt hi m5 k5 cq5 v5 n5 ct5 pg5 fs5 dy5 hc5
          go_wp2_with fail
          refine HC5.out.mono ?_
          rintro e wo ⟨L5, R5, F5, rfl, h5, hD5, hown, hR, hK⟩
          have hpgo := HA.out.1.at_.pg.only hK.only fun k hk => HA.out.1.at_.ap k hk
          have hnuo : Nums w wo L2 R2 F2 (.slice (some ⟨g, off, none⟩) l.length vc) l := HA.out.2.1.only hK.only fun k hk => fun hf => (HA.out.2.1.fresh k hk).2 (.inr (.inr hf))
          have HO := Lib.hid (And.intro h5 (And.intro hpgo (And.intro hnuo (show L5.D = L2.D by rw [hD5, HA.out.2.2.2.1.2]))))
          clear h5 hpgo hnuo hD5 hown hR hK HC5
          have HRT : Hid (∀ w', Only None' wo w' → Calls Tryz.prog 18 #[.pointer (some ⟨L5.P, 0, none⟩)] w' fun e w'' => e = .returned (.int .i64 (l0 : Int)) ∧ w' = w'') := Lib.hid fun w' o => by
            have := wk_root (HO.out.1.quiet o)
            rw [HG5.out.1, HM0.out.2] at this
            exact this
          obtain ⟨fq, hfq⟩ : ∃ fq, fq = s5.p.free := ⟨_, rfl⟩
          have HFQ : Hid (∀ w', Only None' wo w' → Calls Tryz.prog 19 #[.pointer (some ⟨L5.P, 0, none⟩)] w' fun e w'' => e = .returned (.int .i64 fq) ∧ Only None' w' w'') := Lib.hid fun w' o => by
            rw [hfq]
            exact (wk_free (HO.out.1.quiet o)).mono fun e w2 h => ⟨h.1, h.2.2⟩
          have HFP : Hid (∀ w', Only None' wo w' → Calls Tryz.prog 19 #[.pointer (some ⟨L.P, 0, none⟩)] w' fun e w'' => e = .returned (.int .i64 fq) ∧ Only None' w' w'') := Lib.hid fun w' o => by
            have e1 : s5.p.free = s2.p.free := Lv.free_same HA.out.1.lv HO.out.1.lv (by rw [HG5.out.1, HA.out.2.2.2.2.1]) HG5.out.2.2.2.1
            rw [hfq, e1, ← HA.out.2.2.2.1.1]
            exact free_any (HO.out.2.1.new o) HA.out.1.lv.ok
          have HLD : Hid (∀ w', Only None' wo w' → ∀ (j k : Nat), l[j]? = some k → w'.cell? ⟨g, off + j, none⟩ = some (.int .i64 (k : Int))) := Lib.hid fun w' o j k hk => by
            obtain ⟨g2, off2, cap2, e, cl⟩ := HO.out.2.2.1.cell hk
            injection e with e e2 e3
            injection e with e
            injection e with e e4
            subst e; subst e4
            rw [o.cell (HO.out.2.2.1.row.lt rfl) fun e => e]
            exact cl
          have HL00 : Hid (0 < ln ∧ ∀ w', Only None' wo w' → w'.cell? ⟨g, off + 0, none⟩ = some (.int .i64 (l0 : Int))) := Lib.hid ⟨by have := HLN.out; omega, fun w' o => HLD.out w' o 0 l0 HL0.out.1⟩
          clear hfq
          go_upto_region 28 with fail
          refine r_begin (S := None') (by kernel_rfl) ?_
          have HS := Lib.hid (Only.refl (None') wo)
          refine r_take 0 (.int .i64 0) rfl (by kernel_rfl) (fun _ _ _ h => h) HS.out (YR.pure (by rfl) fun w hw => y_move w rfl rfl) ?_
          simp only [Act.put, List.setIfInBounds_toArray, List.set_cons_zero, List.set_cons_succ]
          refine r_take 1 (.bool false) rfl (by kernel_rfl) (fun _ _ _ h => h) HS.out (YR.pure (by rfl) fun w hw => y_ne29 w rfl rfl rfl rfl) ?_
          simp only [Act.put, List.setIfInBounds_toArray, List.set_cons_zero, List.set_cons_succ]
          refine r_take 2 (.bool false) rfl (by kernel_rfl) (fun _ _ _ h => h) HS.out (YR.pure (by rfl) fun w hw => y_move w rfl rfl) ?_
          simp only [Act.put, List.setIfInBounds_toArray, List.set_cons_zero, List.set_cons_succ]
          refine r_take 3 (.pointer (some ⟨L5.P, 0, none⟩)) rfl (by kernel_rfl) (fun _ _ _ h => h) HS.out (YR.pure (by rfl) fun w hw => y_move w rfl rfl) ?_
          simp only [Act.put, List.setIfInBounds_toArray, List.set_cons_zero, List.set_cons_succ]
          refine r_take 4 (.int .i64 (l0 : Int)) rfl (by kernel_rfl) (fun _ _ _ h => h) HS.out (YR.call (by rfl) (fun w => y_enter [.pointer (some ⟨L5.P, 0, none⟩)] rfl (by rfl) (call18_ _) w) fun w hw => (HRT.out w hw).mono fun e w2 h => ⟨h.1, by rw [← h.2]; exact Only.refl _ _⟩) ?_
          simp only [Act.put, List.setIfInBounds_toArray, List.set_cons_zero, List.set_cons_succ]
          refine r_take 5 (.slice (some ⟨g, off, none⟩) ln vc) rfl (by kernel_rfl) (fun _ _ _ h => h) HS.out (YR.pure (by rfl) fun w hw => y_move w rfl rfl) ?_
          simp only [Act.put, List.setIfInBounds_toArray, List.set_cons_zero, List.set_cons_succ]
          refine r_take 6 (.pointer (some ⟨g, off + 0, none⟩)) rfl (by kernel_rfl) (fun _ _ _ h => h) HS.out (YR.pure (by rfl) fun w hw => y_idx28 w HL00.out.1 rfl rfl rfl) ?_
          simp only [Act.put, List.setIfInBounds_toArray, List.set_cons_zero, List.set_cons_succ]
          refine r_take 7 (.int .i64 (l0 : Int)) rfl (by kernel_rfl) (fun _ _ _ h => h) HS.out (YR.pure (by rfl) fun w hw => y_load3 rfl rfl (HL00.out.2 w hw)) ?_
          simp only [Act.put, List.setIfInBounds_toArray, List.set_cons_zero, List.set_cons_succ]
          refine r_take 8 (.bool false) rfl (by kernel_rfl) (fun _ _ _ h => h) HS.out (YR.pure (by rfl) fun w hw => y_ne3 w (by simp) rfl rfl rfl) ?_
          simp only [Act.put, List.setIfInBounds_toArray, List.set_cons_zero, List.set_cons_succ]
          refine r_take 9 (.bool false) rfl (by kernel_rfl) (fun _ _ _ h => h) HS.out (YR.pure (by rfl) fun w hw => y_pickF w rfl rfl rfl) ?_
          simp only [Act.put, List.setIfInBounds_toArray, List.set_cons_zero, List.set_cons_succ]
          refine r_take 10 (.bool false) rfl (by kernel_rfl) (fun _ _ _ h => h) HS.out (YR.pure (by rfl) fun w hw => y_move w rfl rfl) ?_
          simp only [Act.put, List.setIfInBounds_toArray, List.set_cons_zero, List.set_cons_succ]
          refine r_take 11 (.pointer (some ⟨L5.P, 0, none⟩)) rfl (by kernel_rfl) (fun _ _ _ h => h) HS.out (YR.pure (by rfl) fun w hw => y_move w rfl rfl) ?_
          simp only [Act.put, List.setIfInBounds_toArray, List.set_cons_zero, List.set_cons_succ]
          refine r_take 12 (.int .i64 fq) rfl (by kernel_rfl) (fun _ _ _ h => h) HS.out (YR.call (by rfl) (fun w => y_enter [.pointer (some ⟨L5.P, 0, none⟩)] rfl (by rfl) (call19_ _) w) fun w hw => HFQ.out w hw) ?_
          simp only [Act.put, List.setIfInBounds_toArray, List.set_cons_zero, List.set_cons_succ]
          refine r_take 13 (.pointer (some ⟨L.P, 0, none⟩)) rfl (by kernel_rfl) (fun _ _ _ h => h) HS.out (YR.pure (by rfl) fun w hw => y_move w rfl rfl) ?_
          simp only [Act.put, List.setIfInBounds_toArray, List.set_cons_zero, List.set_cons_succ]
          refine r_take 14 (.int .i64 fq) rfl (by kernel_rfl) (fun _ _ _ h => h) HS.out (YR.call (by rfl) (fun w => y_enter [.pointer (some ⟨L.P, 0, none⟩)] rfl (by rfl) (call19_ _) w) fun w hw => HFP.out w hw) ?_
          simp only [Act.put, List.setIfInBounds_toArray, List.set_cons_zero, List.set_cons_succ]
          refine r_take 15 (.bool false) rfl (by kernel_rfl) (fun _ _ _ h => h) HS.out (YR.pure (by rfl) fun w hw => y_ne3 w (by simp) rfl rfl rfl) ?_
          simp only [Act.put, List.setIfInBounds_toArray, List.set_cons_zero, List.set_cons_succ]
          refine r_take 16 (.bool false) rfl (by kernel_rfl) (fun _ _ _ h => h) HS.out (YR.pure (by rfl) fun w hw => y_pickF w rfl rfl rfl) ?_
          simp only [Act.put, List.setIfInBounds_toArray, List.set_cons_zero, List.set_cons_succ]
          refine r_done (by kernel_rfl) fun wz oz => ?_
          have HW1 := Lib.hid (HS.out.quiet oz)
          clear HS oz HRT HFQ HFP HL00
          go_wp2_with fail
          go_loopg [19] pages (fun gg t wr => ∃ (j : Nat), gg = pages - j ∧ j ≤ pages ∧ t = .int .i64 (j : Int) ∧ Hid (Only None' wo wr))
          case atStart => exact ⟨0, rfl, Nat.zero_le _, rfl, HW1⟩
          case round =>
            obtain ⟨j, rfl, hj, rfl, HWR⟩ := hrel
            rename World => wx
            by_cases hlt : j < pages
            · have j0 : (0 : Int) ≤ (j : Int) := by omega
              have j1 : (j : Int) < (pages : Int) := by omega
              by_cases hcm : 0 < cm
              · have cp : (0 : Int) < (cm : Int) := by omega
                have hjl : j < l.length := by have := HL0.out.2.2; omega
                obtain ⟨kk, hkk⟩ : ∃ kk, l[j]? = some kk := ⟨_, List.getElem?_eq_getElem hjl⟩
                have hus := HA.out.2.2.1.uses kk (List.mem_of_getElem? hkk)
                obtain ⟨k2, ek, k1, klt, _⟩ := HA.out.1.lv.in_use hus
                have ek2 : kk = k2 := by omega
                subst ek2
                have hkp : kk < s2.p.pages := by have := HA.out.1.lv.mu.2; omega
                have hpx := HA.out.2.2.2.2.2.2.2.2 hcm j kk hkk
                obtain ⟨px, hpe⟩ : ∃ px, px = fullB (byteOf c (cm - 1 + j)) := ⟨_, rfl⟩
                rw [← hpe] at hpx
                have HPX := Lib.hid (And.intro hpe (show px.length = 512 by rw [hpe]; exact fullB_len _))
                have HRP : Hid (∀ w', Only None' wo w' → Calls Tryz.prog 20 #[.pointer (some ⟨L.P, 0, none⟩), .int .i64 (kk : Int)] w' fun e w'' => ∃ v, e = .returned (.tuple #[v, .int .i64 0]) ∧ Vec w'' 1 v 512 (bv px) ∧ Only None' w' w'') := Lib.hid fun w' o => by
                  have hg := old_get (q := s5.p) (d' := s5.d) HA.out.1.lv HA.out.2.2.2.2.2.2.1 HG5.out.2.1 HG5.out.2.2.2.2.2 HG5.out.2.2.2.2.1 HO.out.1.lv.dlen hkp
                  rw [hpx] at hg
                  have hd := (HO.out.1.quiet o).at_.disk
                  rw [HO.out.2.2.2] at hd
                  rw [← HA.out.2.2.2.1.1]
                  exact (pread_ok (HO.out.2.1.new o) HA.out.1.lv.ok hd HO.out.1.calm.dead (HO.out.1.waits (by omega)) hus hg).mono fun e w2 ⟨v, a1, a2, _, a4⟩ => ⟨v, a1, a2, a4⟩
                have HRQ : Hid (∀ w', Only None' wo w' → Calls Tryz.prog 20 #[.pointer (some ⟨L5.P, 0, none⟩), .int .i64 (kk : Int)] w' fun e w'' => ∃ v, e = .returned (.tuple #[v, .int .i64 0]) ∧ Vec w'' 1 v 512 (bv px) ∧ Only None' w' w'') := Lib.hid fun w' o => by
                  have hu5 : s5.p.uses (kk : Int) = true := by
                    rw [Lv.uses_same HA.out.1.lv HO.out.1.lv (by rw [HG5.out.1, HA.out.2.2.2.2.1])]
                    exact hus
                  have := wk_read (HO.out.1.quiet o) (by omega) hu5
                  rw [HG5.out.2.2.1, hpx] at this
                  exact this.mono fun e w2 ⟨v, a1, a2, _, _, a4⟩ => ⟨v, a1, a2, a4⟩
                have hcl := HLD.out wx HWR.out j kk hkk
                have HSUM : Hid ((cm : Int) - 1 = ((cm - 1 : Nat) : Int) ∧ ((cm - 1 : Nat) : Int) + (j : Int) = ((cm - 1 + j : Nat) : Int) ∧ cm - 1 + j ≤ 1000 ∧ cm - 1 ≤ 1000) := Lib.hid ⟨by omega, by omega, by have := HB.out.1.2; have := HB.out.2.2; omega, by have := HB.out.2.2; omega⟩
                have HJ := Lib.hid (And.intro hlt hkk)
                have HJL : Hid (j < ln) := Lib.hid (by have := HLN.out; omega)
                have jln : (j : Int) < (ln : Int) := by have := HLN.out; omega
                clear hlt hcm hjl hkk hus ek k1 klt hkp hpx hpe hj
                go_wp2_with fail
                refine (HRP.out wx HWR.out).mono ?_
                rintro e w7 ⟨v1, rfl, hv1, o7⟩
                have hcl7 := HLD.out w7 (HWR.out.trans o7) j kk HJ.out.2
                have HV1 := Lib.hid (And.intro hv1 (HWR.out.trans o7))
                clear hv1 o7 hcl
                go_wp2_with fail
                refine (HRQ.out w7 HV1.out.2).mono ?_
                rintro e w8 ⟨v2, rfl, hv2, o8⟩
                have HV2 := Lib.hid (And.intro hv2 (And.intro (HV1.out.1.only o8 fun _ _ e => e) (HV1.out.2.trans o8)))
                clear hv2 o8 hcl7 HV1
                obtain ⟨sx, hsx⟩ : ∃ sx, sx = st px := ⟨_, rfl⟩
                have HSX := Lib.hid hsx
                clear hsx
                go_upto_region 35 with fail
                refine r_begin (S := None') (by kernel_rfl) ?_
                have HS := Lib.hid (Only.refl (None') w8)
                refine r_take 0 (.int .i64 0) rfl (by kernel_rfl) (fun _ _ _ h => h) HS.out (YR.pure (by rfl) fun w hw => y_move w rfl rfl) ?_
                simp only [Act.put, List.setIfInBounds_toArray, List.set_cons_zero, List.set_cons_succ]
                refine r_take 1 (.bool false) rfl (by kernel_rfl) (fun _ _ _ h => h) HS.out (YR.pure (by rfl) fun w hw => y_ne29 w rfl rfl rfl rfl) ?_
                simp only [Act.put, List.setIfInBounds_toArray, List.set_cons_zero, List.set_cons_succ]
                refine r_take 2 (.bool false) rfl (by kernel_rfl) (fun _ _ _ h => h) HS.out (YR.pure (by rfl) fun w hw => y_move w rfl rfl) ?_
                simp only [Act.put, List.setIfInBounds_toArray, List.set_cons_zero, List.set_cons_succ]
                refine r_take 3 (.int .i64 0) rfl (by kernel_rfl) (fun _ _ _ h => h) HS.out (YR.pure (by rfl) fun w hw => y_move w rfl rfl) ?_
                simp only [Act.put, List.setIfInBounds_toArray, List.set_cons_zero, List.set_cons_succ]
                refine r_take 4 (.bool false) rfl (by kernel_rfl) (fun _ _ _ h => h) HS.out (YR.pure (by rfl) fun w hw => y_ne29 w rfl rfl rfl rfl) ?_
                simp only [Act.put, List.setIfInBounds_toArray, List.set_cons_zero, List.set_cons_succ]
                refine r_take 5 (.bool false) rfl (by kernel_rfl) (fun _ _ _ h => h) HS.out (YR.pure (by rfl) fun w hw => y_pickF w rfl rfl rfl) ?_
                simp only [Act.put, List.setIfInBounds_toArray, List.set_cons_zero, List.set_cons_succ]
                refine r_take 6 (.bool false) rfl (by kernel_rfl) (fun _ _ _ h => h) HS.out (YR.pure (by rfl) fun w hw => y_move w rfl rfl) ?_
                simp only [Act.put, List.setIfInBounds_toArray, List.set_cons_zero, List.set_cons_succ]
                refine r_take 7 (v1) rfl (by kernel_rfl) (fun _ _ _ h => h) HS.out (YR.pure (by rfl) fun w hw => y_move w rfl rfl) ?_
                simp only [Act.put, List.setIfInBounds_toArray, List.set_cons_zero, List.set_cons_succ]
                refine r_take 8 (.string sx) rfl (by kernel_rfl) (fun _ _ _ h => h) HS.out (YR.pure (by rfl) fun w hw => (by rw [HSX.out]; exact y_str HPX.out.2.symm ((HV2.out.2.1.only hw fun _ _ e => e).rd) rfl rfl)) ?_
                simp only [Act.put, List.setIfInBounds_toArray, List.set_cons_zero, List.set_cons_succ]
                refine r_take 9 (.int .u8 cv) rfl (by kernel_rfl) (fun _ _ _ h => h) HS.out (YR.pure (by rfl) fun w hw => y_move w rfl rfl) ?_
                simp only [Act.put, List.setIfInBounds_toArray, List.set_cons_zero, List.set_cons_succ]
                refine r_take 10 (.int .i64 (cm : Int)) rfl (by kernel_rfl) (fun _ _ _ h => h) HS.out (YR.pure (by rfl) fun w hw => y_move w rfl rfl) ?_
                simp only [Act.put, List.setIfInBounds_toArray, List.set_cons_zero, List.set_cons_succ]
                refine r_take 11 (.int .i64 ((cm - 1 : Nat) : Int)) rfl (by kernel_rfl) (fun _ _ _ h => h) HS.out (YR.pure (by rfl) fun w hw => y_sub3 w HSUM.out.1 (by omega) (by have := HSUM.out.2.2.2; omega) rfl rfl rfl) ?_
                simp only [Act.put, List.setIfInBounds_toArray, List.set_cons_zero, List.set_cons_succ]
                refine r_take 12 (.int .i64 (j : Int)) rfl (by kernel_rfl) (fun _ _ _ h => h) HS.out (YR.pure (by rfl) fun w hw => y_move w rfl rfl) ?_
                simp only [Act.put, List.setIfInBounds_toArray, List.set_cons_zero, List.set_cons_succ]
                refine r_take 13 (.int .i64 ((cm - 1 + j : Nat) : Int)) rfl (by kernel_rfl) (fun _ _ _ h => h) HS.out (YR.pure (by rfl) fun w hw => y_add3 w HSUM.out.2.1 (by omega) (by have := HSUM.out.2.2.1; omega) rfl rfl rfl) ?_
                simp only [Act.put, List.setIfInBounds_toArray, List.set_cons_zero, List.set_cons_succ]
                refine r_take 14 (.int .u8 (IntKind.u8.wrap ((cm - 1 + j : Nat) : Int))) rfl (by kernel_rfl) (fun _ _ _ h => h) HS.out (YR.pure (by rfl) fun w hw => y_conv35 w rfl rfl) ?_
                simp only [Act.put, List.setIfInBounds_toArray, List.set_cons_zero, List.set_cons_succ]
                refine r_take 15 (.int .u8 ((byteOf c (cm - 1 + j)).toNat : Int)) rfl (by kernel_rfl) (fun _ _ _ h => h) HS.out (YR.pure (by rfl) fun w hw => (by rw [← byteOf_is, ← HCV.out]; exact y_add5 w rfl rfl rfl)) ?_
                simp only [Act.put, List.setIfInBounds_toArray, List.set_cons_zero, List.set_cons_succ]
                refine r_one 16 rfl (by kernel_rfl) (by rfl) fun wi oi => ?_
                refine wp_enter (y_enter [.int .u8 ((byteOf c (cm - 1 + j)).toNat : Int)] rfl (by rfl) (call15_ _) wi) ((full_any (byteOf c (cm - 1 + j)) wi).mono ?_)
                rintro e wj ⟨g5, rfl, hv5, hg5, oj⟩
                refine ⟨_, rfl, (HS.out.quiet oi).quiet oj, ?_⟩
                simp only [Act.put, List.setIfInBounds_toArray, List.set_cons_zero, List.set_cons_succ]
                have HT := Lib.hid ((HS.out.quiet oi).quiet oj)
                have HV5 := Lib.hid (hv5)
                clear hv5 hg5
                clear HS oi oj
                have HS := HT
                clear HT
                refine r_one 17 rfl (by kernel_rfl) (by rfl) fun wi oi => ?_
                refine wp_val (v := .string sx) (by rw [HSX.out, HPX.out.1]; exact y_str (fullB_len _).symm ((HV5.out.only oi fun _ _ e => e).rd) rfl rfl) ⟨HS.out.quiet oi, ?_⟩
                simp only [Act.put, List.setIfInBounds_toArray, List.set_cons_zero, List.set_cons_succ]
                have HT := Lib.hid (HS.out.quiet oi)
                clear HS oi
                have HS := HT
                clear HT
                refine r_take 18 (.bool false) rfl (by kernel_rfl) (fun _ _ _ h => h) HS.out (YR.pure (by rfl) fun w hw => y_ne9 w (by simp) rfl rfl rfl) ?_
                simp only [Act.put, List.setIfInBounds_toArray, List.set_cons_zero, List.set_cons_succ]
                refine r_take 19 (.bool false) rfl (by kernel_rfl) (fun _ _ _ h => h) HS.out (YR.pure (by rfl) fun w hw => y_pickF w rfl rfl rfl) ?_
                simp only [Act.put, List.setIfInBounds_toArray, List.set_cons_zero, List.set_cons_succ]
                refine r_take 20 (.bool false) rfl (by kernel_rfl) (fun _ _ _ h => h) HS.out (YR.pure (by rfl) fun w hw => y_move w rfl rfl) ?_
                simp only [Act.put, List.setIfInBounds_toArray, List.set_cons_zero, List.set_cons_succ]
                refine r_take 21 (v2) rfl (by kernel_rfl) (fun _ _ _ h => h) HS.out (YR.pure (by rfl) fun w hw => y_move w rfl rfl) ?_
                simp only [Act.put, List.setIfInBounds_toArray, List.set_cons_zero, List.set_cons_succ]
                refine r_take 22 (.string sx) rfl (by kernel_rfl) (fun _ _ _ h => h) HS.out (YR.pure (by rfl) fun w hw => (by rw [HSX.out]; exact y_str HPX.out.2.symm ((HV2.out.1.only hw fun _ _ e => e).rd) rfl rfl)) ?_
                simp only [Act.put, List.setIfInBounds_toArray, List.set_cons_zero, List.set_cons_succ]
                refine r_take 23 (v1) rfl (by kernel_rfl) (fun _ _ _ h => h) HS.out (YR.pure (by rfl) fun w hw => y_move w rfl rfl) ?_
                simp only [Act.put, List.setIfInBounds_toArray, List.set_cons_zero, List.set_cons_succ]
                refine r_take 24 (.string sx) rfl (by kernel_rfl) (fun _ _ _ h => h) HS.out (YR.pure (by rfl) fun w hw => (by rw [HSX.out]; exact y_str HPX.out.2.symm ((HV2.out.2.1.only hw fun _ _ e => e).rd) rfl rfl)) ?_
                simp only [Act.put, List.setIfInBounds_toArray, List.set_cons_zero, List.set_cons_succ]
                refine r_take 25 (.bool false) rfl (by kernel_rfl) (fun _ _ _ h => h) HS.out (YR.pure (by rfl) fun w hw => y_ne9 w (by simp) rfl rfl rfl) ?_
                simp only [Act.put, List.setIfInBounds_toArray, List.set_cons_zero, List.set_cons_succ]
                refine r_take 26 (.bool false) rfl (by kernel_rfl) (fun _ _ _ h => h) HS.out (YR.pure (by rfl) fun w hw => y_pickF w rfl rfl rfl) ?_
                simp only [Act.put, List.setIfInBounds_toArray, List.set_cons_zero, List.set_cons_succ]
                refine r_done (by kernel_rfl) fun wz oz => ?_
                have HW2 := Lib.hid (HV2.out.2.2.trans (HS.out.quiet oz))
                clear HS oz HRP HRQ HV2 HV5
                go_wp2_with fail
                go_roundg (pages - (j + 1))
                case rel => exact ⟨j + 1, rfl, HJ.out.1, by first | exact next_int (by have := HJ.out.1; have := HB.out.1.2; omega) | rfl | (congr 1), HW2⟩
                case measure => have := HJ.out.1; omega
              · have cp : ¬ (0 : Int) < (cm : Int) := by omega
                go_wp2_with fail
                go_ret
                exact ⟨rfl, HO.out.1.only.trans HWR.out⟩
            · have j1 : ¬ (j : Int) < (pages : Int) := by omega
              go_wp2_with fail
              go_ret
              exact ⟨rfl, HO.out.1.only.trans HWR.out⟩
theorem many_walk (x y : Int) (c : UInt8) (z : Int) (w : World) : Calls Tryz.prog 3 #[.int .i64 x, .int .i64 y, .int .u8 (c.toNat : Int), .int .i64 z] w fun e w' => e = .returned (.bool true) ∧ Below w.heap.size w w' :=
  (many_main x y c z w).mono fun e w' ⟨h1, o⟩ => ⟨h1, o.below (Nat.le_refl _) fun _ e => e.elim⟩
end Go.Proofs.YteoeaojebklfjaaGreatDoor
/- A byte of a literal. -/
namespace Go.Proofs.YteoeaojebklfjaaGreatDoor
theorem u8_of {n : Int} (h : (Lit.int .u8 n).wf = true) : ∃ a : UInt8, n = (a.toNat : Int) := by
  simp [Lit.wf, IntKind.min, IntKind.max, IntKind.signed, IntKind.bits] at h
  refine ⟨UInt8.ofNat n.toNat, ?_⟩
  rw [UInt8.toNat_ofNat']
  omega
end Go.Proofs.YteoeaojebklfjaaGreatDoor
