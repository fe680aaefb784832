/- QK S1 S3 in one text. -/
import Derived.Test.YteoeaojebklfjaaGreatDoorV24
import Derived.Test.YteoeaojebklfjaaGreatDoorV18
namespace Go.Proofs.YteoeaojebklfjaaGreatDoor
open Go.RowKit Go.Maps
set_option linter.unusedVariables false
set_option linter.unusedSimpArgs false
set_option maxRecDepth 20000
theorem st_inj {a b : Sec} (h : st a = st b) : a = b := by
  unfold st at h
  injection h with h
  exact Array.toList_inj.2 h |> fun e => by simpa using e
theorem equal_any {w : World} {v1 v2 : Value} {n1 n2 : Nat} {s1 s2 : Sec} (h1 : Rd w 1 v1 n1 (bv s1)) (h2 : Rd w 1 v2 n2 (bv s2)) : Calls Tryz.prog 65 #[v1, v2] w fun e w' => e = .returned (.bool (decide (s1 = s2))) ∧ w = w' := by
  obtain ⟨a1, c1, rfl⟩ := h1.shape
  obtain ⟨a2, c2, rfl⟩ := h2.shape
  have hc1 := rd_string (by have := h1.len; rw [bv_length] at this; omega) h1
  have hc2 := rd_string (by have := h2.len; rw [bv_length] at this; omega) h2
  have hd : decide (s1 = s2) = ((st s1).toList == (st s2).toList) := by
    rw [same_str]
    by_cases e : s1 = s2
    · subst e; simp
    · rw [decide_eq_false e, decide_eq_false fun h => e (st_inj h)]
  rw [hd]
  obtain ⟨x1, hx1⟩ : ∃ x1, x1 = st s1 := ⟨_, rfl⟩
  obtain ⟨x2, hx2⟩ : ∃ x2, x2 = st s2 := ⟨_, rfl⟩
  rw [← hx1] at hc1 ⊢
  rw [← hx2] at hc2 ⊢
  clear h1 h2 hd hx1 hx2
  go_enter Tryz.func65, Tryz.ntmps65
  go_wp2_with fail
  go_ret
  exact ⟨rfl, rfl⟩
theorem make35 (n : Nat) (w : World) (hn : n ≤ 1000000) : ∃ w', (Instr.makeSlice 35 (.int .i64 (n : Int)) (.int .i64 (n : Int))).run Tryz.prog w = .ok (.slice (some ⟨w.heap.size, 0, none⟩) n n) w' ∧ Vec w' 1 (.slice (some ⟨w.heap.size, 0, none⟩) n n) n (bv (List.replicate n 0)) ∧ Only None' w w' ∧ w.heap.size < w'.heap.size := by
  obtain ⟨w', hrun, r1, r2⟩ := run_make_full (P := Tryz.prog) w w.heap.size 35 5 Tryz.t5 (.int .u8 0) 1 Tryz.underlying35 info5 zero5 size5 .i64 .i64 n (by rw [bytes5]; omega) (by unfold maxLen; omega) (Nat.le_refl _)
  have hv := Vec.of_owns r1
  rw [show (Value.int .u8 0).cells = #[.int .u8 0] from rfl, toList_madeCells_one, Nat.mul_one] at hv
  have e : bv (List.replicate n 0) = List.replicate n (.int .u8 0) := by unfold bv; rw [List.map_replicate]; rfl
  rw [e]
  refine ⟨w', hrun, hv, (Only.refl None' w).grown r2 (by simp), ?_⟩
  rcases hv.form with ⟨e, _⟩ | ⟨g, off, cap, e, _, _, hl, _⟩
  · cases e
  · injection e with e1 _ _
    injection e1 with e1
    injection e1 with e1 _
    omega
def meta1 : Meta := ⟨0, 1, 0, 0⟩
def formatD (len : Nat) : Dk := (headR ((Dk.new len).write (1 + len / 4) meta1.page).flush 0).2
def formatS (len : Nat) : Sy := ⟨{ Pg.made len with kept := meta1, m := meta1 }, Rg.opened 1 (len / 4) 0 (gAt 1 (formatD len)), formatD len⟩
theorem setMeta3 {w w1 : World} {L : Lo} {lg : Value} {p q : Pg} (h : PgAt w L lg p) {m : Meta} (hw1 : w1 = (w.setCells L.P 6 m.vs).setCells L.P 10 m.vs) (hq : q = { p with kept := m, m := m }) : PgAt w1 L lg q ∧ Only (fun k => k = L.P) w w1 := by
  have o1 : Only (fun k => k = L.P) w w1 := by rw [hw1]; exact ((Only.refl (fun k => k = L.P) _).setCells rfl _ _).setCells rfl _ _
  refine ⟨h.setMeta ?_ o1 (by rw [hq]) (by rw [hq]) (by rw [hq]) (by rw [hq]), o1⟩
  have := (h.cells.puts m.vs 6 w _ (by simp [Pg.vs, Meta.vs])).puts m.vs 10 _ _ (by simp [Pg.vs, Meta.vs])
  rw [← hw1] at this
  rw [hq]
  exact this
theorem Dk.Calm.flush {d : Dk} {len n : Nat} (h : d.Calm len n) : d.flush.Calm len (n + 1) := by
  refine ⟨flush_live h.dead h.due, ?_, by rw [Dk.flush_len]; exact h.len, h.few.flush⟩
  unfold Dk.flush
  rw [h.due, if_neg (by decide)]
  exact h.set
theorem Dk.Calm.head {d : Dk} {len n : Nat} (h : d.Calm len n) (base : Nat) : headR d base = (0, (d.write 0 (headB base)).flush) ∧ (headR d base).2.Calm len (n + 2) := by
  have h1 := (h.write 0 (headB base)).2
  have e : headR d base = (0, (d.write 0 (headB base)).flush) := by
    unfold headR
    rw [h.due, if_neg (by decide), h1.err]
  rw [e]
  exact ⟨rfl, h1.flush⟩
theorem formatD_calm (len : Nat) : (formatD len).Calm len 4 := by
  unfold formatD
  exact ((((calm_new len).write _ _).2).flush.head 0).2
set_option maxHeartbeats 8000000 in
theorem Format_any {w : World} {D : Nat} {F : Nat → Prop} {len : Nat} (h : DiskAt w D F (Dk.new len)) (hl1 : 64 ≤ len) (hl2 : len ≤ 1000) :
    Calls Tryz.prog 27 #[.pointer (some ⟨D, 0, none⟩)] w fun e w' => ∃ L R F', e = .returned (.tuple #[.pointer (some ⟨L.P, 0, none⟩), .int .i64 0]) ∧ SyAt w' L R F' (formatS len) ∧ L.D = D ∧ (∀ k, L.own k → w.heap.size ≤ k) ∧ w.heap.size ≤ R ∧ Kept F F' w w' := by
  have H := Lib.hid h
  have hcalm := calm_new len
  have HLN := Lib.hid (len_any h)
  have hdl : (Dk.new len).lasts.length = len := hcalm.len
  have HM := Lib.hid (made_any h (by rw [hdl]; omega))
  rw [hdl] at HLN HM
  have HB := Lib.hid (And.intro hl1 (And.intro hl2 (And.intro hcalm hdl)))
  have n0 : ¬ (len : Int) < 64 := by omega
  have n1 : (len : Int) ≤ 1000 := by omega
  clear h hcalm hdl hl1 hl2
  go_enter Tryz.func27, Tryz.ntmps27
  go_wp2_with fail
  refine HLN.out.mono ?_
  rintro e w1 ⟨rfl, rfl⟩
  go_wp2_with fail
  refine HM.out.mono ?_
  rintro e w3 ⟨L, rfl, hLD, hP, hLn, o3⟩
  have HP := Lib.hid (And.intro hP (And.intro hLD (And.intro hLn o3)))
  have HD3 := Lib.hid (H.out.new o3)
  have hpl := places_any HD3.out
  rw [HB.out.2.2.2] at hpl
  obtain ⟨q, hq⟩ : ∃ q, q = len / 4 := ⟨_, rfl⟩
  rw [← hq] at hpl
  have HQ := Lib.hid hq
  have HPL := Lib.hid hpl
  have q1 : (q : Int) ≤ 250 := by have := HB.out.2.1; omega
  clear hP hLD hLn o3 hpl hq n0 n1
  go_wp2_with fail
  refine HPL.out.mono ?_
  rintro e w4 ⟨rfl, rfl⟩
  go_wp2_with fail
  go_loopg [27] q (fun gg t wr => ∃ k : Nat, gg = q - k ∧ k ≤ q ∧ t = .int .i64 (k : Int) ∧ Hid (Only None' w3 wr))
  case atStart => exact ⟨0, rfl, Nat.zero_le _, rfl, Lib.hid (Only.refl _ _)⟩
  case round =>
    obtain ⟨k, rfl, hk, rfl, HO⟩ := hrel
    by_cases hlt : k < q
    · have hki : 1 + k < len := by have := HQ.out; omega
      have hrd := read_any (i := 1 + k) (HD3.out.new HO.out) HB.out.2.2.1.dead (by rw [HB.out.2.2.2]; exact hki) (by have := HB.out.2.2.1.few.waits; omega)
      rw [new_read hki] at hrd
      rw [show ((1 + k : Nat) : Int) = 1 + (k : Int) by omega] at hrd
      have HRD := Lib.hid hrd
      have i1 : (k : Int) < (q : Int) := by omega
      have HK := Lib.hid hlt
      clear hki hrd hlt hk
      go_wp2_with fail
      refine HRD.out.mono ?_
      rintro e w5 ⟨v, rfl, hv, hfr, o5⟩
      obtain ⟨a5, c5, rfl, _, _⟩ := hv.shape
      have HV5 := Lib.hid (And.intro hv o5)
      clear hv hfr o5
      obtain ⟨w6, hm, hv6, o6, l6⟩ := make35 512 w5 (by decide)
      have hm2 : (Instr.makeSlice 35 (.int .i64 512) (.int .i64 512)).run Tryz.prog w5 = .ok (.slice (some ⟨w5.heap.size, 0, none⟩) 512 512) w6 := hm
      have HEQ := Lib.hid (equal_any (HV5.out.1.only o6 fun _ _ e => e).rd hv6.rd)
      rw [decide_eq_true rfl] at HEQ
      have HO6 := Lib.hid (HO.out.trans (HV5.out.2.trans o6))
      clear hm hv6 o6 l6
      go_wp2_with fail
      refine HEQ.out.mono ?_
      rintro e w7 ⟨rfl, rfl⟩
      clear hm2
      go_wp2_with fail
      go_roundg (q - (k + 1))
      case rel => exact ⟨k + 1, rfl, HK.out, rfl, HO6⟩
      case measure => have := HK.out; omega
    · have i1 : ¬ (k : Int) < (q : Int) := by omega
      have hO := HO.out
      have hp4 := HP.out.1.new hO
      have HO := Lib.hid hO
      obtain ⟨w5, hw5⟩ : ∃ w5, w5 = wr.setCells L.P 6 meta1.vs := ⟨_, rfl⟩
      obtain ⟨w6, hw6⟩ : ∃ w6, w6 = w5.setCells L.P 10 meta1.vs := ⟨_, rfl⟩
      obtain ⟨h6, o6⟩ := setMeta3 (m := meta1) (q := { Pg.made len with kept := meta1, m := meta1 }) hp4 (w1 := w6) (by rw [hw6, hw5]) rfl
      have c5 := hp4.cells.puts meta1.vs 6 wr _ (by simp [Pg.vs, Meta.vs])
      rw [← hw5] at c5
      have hr5 : w5.rangeAt L.P 6 meta1.vs := fun j u hu => c5.is (6 + j) u (by
        have hj : j < 4 := by
          have := (List.getElem?_eq_some_iff.1 hu).1
          simpa [Meta.vs] using this
        rw [← hu]
        rcases j with _ | _ | _ | _ | j
        · rfl
        · rfl
        · rfl
        · rfl
        · omega)
      have hr6 : w6.rangeAt L.P 6 meta1.vs := fun j u hu => h6.cells.is (6 + j) u (by
        have hj : j < 4 := by
          have := (List.getElem?_eq_some_iff.1 hu).1
          simpa [Meta.vs] using this
        rw [← hu]
        rcases j with _ | _ | _ | _ | j
        · rfl
        · rfl
        · rfl
        · rfl
        · omega)
      have HT4 := Lib.hid (hp4.cells.there (off := 6) (k := meta1.vs.length) (by simp [Pg.vs, Meta.vs]))
      have HT5 := Lib.hid (c5.there (off := 10) (k := meta1.vs.length) (by simp [Pg.vs, Meta.vs]))
      have HR5 := Lib.hid hr5
      have HR6 := Lib.hid hr6
      have HW5 := Lib.hid hw5
      have HW6 := Lib.hid hw6
      have H6 := Lib.hid (And.intro h6 ((HP.out.2.2.2.trans hO).trans2 o6 fun k hk e => by have := HP.out.2.2.1 k (.inl e); omega))
      have hz0 : (Tryz.prog.info? 67).map (·.size) = some meta1.vs.toArray.size := size67 meta1
      have hu67 := Tryz.underlying67
      have hb67 : ∀ w, (Instr.build 67 #[(1, .int .i64 1)]).run Tryz.prog w = .ok (.agg meta1.vs.toArray) w := fun w => by kernel_rfl
      have HBY := Lib.hid (fun w => bytes_any (m := meta1) ⟨by decide, by decide, by decide, by decide, by decide⟩ w)
      clear hO hp4 hw5 hw6 h6 o6 c5 hr5 hr6 hlt hk
      go_wp2_with (first | (refine wpList_load_mid rfl 67 _ rfl L.P 6 rfl meta1.vs _ HR5.out hu67 rfl (size67 meta1) ?_) | (refine wpList_load_mid rfl 67 _ rfl L.P 6 rfl meta1.vs _ HR6.out hu67 rfl (size67 meta1) ?_) | (refine wpList_store_mid rfl 67 _ _ rfl L.P 6 meta1.vs.toArray rfl rfl HT4.out hz0 (all_oneCell_toArray meta1.vs_one) ?_; change wpList _ _ _ _ _ (wr.setCells L.P 6 meta1.vs); rw [← HW5.out]) | (refine wpList_store_mid rfl 67 _ _ rfl L.P 10 meta1.vs.toArray rfl rfl HT5.out hz0 (all_oneCell_toArray meta1.vs_one) ?_; change wpList _ _ _ _ _ (w5.setCells L.P 10 meta1.vs); rw [← HW6.out]))
      refine (HBY.out w6).mono ?_
      rintro e w7 ⟨rfl, o7⟩
      obtain ⟨pg, hpg⟩ : ∃ pg, pg = meta1.page := ⟨_, rfl⟩
      rw [← hpg]
      have HPGE := Lib.hid (And.intro hpg (show pg.length = 512 by rw [hpg]; exact Meta.page_len _))
      have hv0 := page_zero w7
      have HV0 := Lib.hid hv0
      obtain ⟨w8, hw8⟩ : ∃ w8, w8 = (w7.alloc (.cells Tryz.zeroCells74 74)).setCells w7.heap.size 0 (bv pg) := ⟨_, rfl⟩
      have o8 : Only None' w7 w8 := by rw [hw8]; exact ((Only.refl None' w7).alloc _).trans2 ((Only.refl (fun k => k = w7.heap.size) _).setCells rfl 0 _) fun k hk e => by omega
      have hv8 := page_stored hv0 HPGE.out.2
      rw [← hw8] at hv8
      have HW8 := Lib.hid hw8
      have H8 := Lib.hid (And.intro (H6.out.1.new (o7.trans o8)) (And.intro (H6.out.2.trans (o7.trans o8)) (And.intro hv8 (show w1.heap.size ≤ w7.heap.size from Nat.le_trans H6.out.2.size o7.size))))
      have hd8 : DiskAt w8 D F (Dk.new len) := H.out.new H8.out.2.1
      have hFl : ∀ k, F k → k < w1.heap.size := fun k hk => H.out.lt hk
      have hq4 := HQ.out
      have hl64 := HB.out.1
      have HWR : Hid (∀ w', Only None' w8 w' → Calls Tryz.prog 29 #[.pointer (some ⟨D, 0, none⟩), .int .i64 ((Pg.made len).first : Int), .slice (some ⟨w7.heap.size, 0, none⟩) 512 512] w' fun r w'' => r = .returned (.int .i64 0) ∧ ∃ F', DiskAt w'' D F' ((Dk.new len).write (1 + len / 4) pg) ∧ Kept F F' w' w'' ∧ Only F w' w'') := Lib.hid fun w' o => write_any' (i := 1 + len / 4) (hd8.new o) HB.out.2.2.1.dead (by rw [HB.out.2.2.2]; omega) ((H8.out.2.2.1.only o fun _ _ e => e).rd) (fun g hg hF => by injection hg with hg; have hg' : w7.heap.size = g := hg; have := hFl g hF; have := H8.out.2.2.2; omega) HPGE.out.2 HB.out.2.2.1.few (by decide) (by rw [HB.out.2.2.1.due]; rfl)
      have HFL := Lib.hid hFl
      have HC : Hid (∀ w', Only F w8 w' → CellsR w' L.P (Pg.vs L (.pointer none) { Pg.made len with kept := meta1, m := meta1 })) := Lib.hid fun w' o => H8.out.1.cells.kept o fun e => by have := hFl _ e; have := HP.out.2.2.1 _ (.inl rfl); omega
      clear o7 hv0 hw8 o8 hv8 hd8 hFl hq4 hl64 hb67 hz0 hu67 HR5 HR6 HT4 HT5 HW5 HW6 HBY hpg
      go_upto_region 20 with (first | (refine wpList_store_mid rfl 74 _ _ rfl w7.heap.size 0 (bv pg).toArray rfl rfl (set_there HV0.out HPGE.out.2) (size74a pg HPGE.out.2) (all_oneCell_toArray (bv_one pg)) ?_; change wpList _ _ _ _ _ ((w7.alloc (.cells Tryz.zeroCells74 74)).setCells w7.heap.size 0 (bv pg)); rw [← HW8.out]; clear HW8))
      refine r_begin (S := F) (by kernel_rfl) ?_
      have HS := Lib.hid (Only.refl (F) w8)
      refine r_take 0 (.pointer (some ⟨D, 0, none⟩)) rfl (by kernel_rfl) (fun _ _ _ h => h) HS.out (YR.pure (by rfl) fun w hw => y_move w rfl rfl) ?_
      simp only [Act.put, zA, zB, zC]
      refine r_take 1 (.pointer (some ⟨L.P, 0, none⟩)) rfl (by kernel_rfl) (fun _ _ _ h => h) HS.out (YR.pure (by rfl) fun w hw => y_move w rfl rfl) ?_
      simp only [Act.put, zA, zB, zC]
      refine r_take 2 (.pointer (some ⟨L.P, 0, none⟩)) rfl (by kernel_rfl) (fun _ _ _ h => h) HS.out (YR.pure (by rfl) fun w hw => y_nil w rfl rfl) ?_
      simp only [Act.put, zA, zB, zC]
      refine r_take 3 (.pointer (some ⟨L.P, 2, none⟩)) rfl (by kernel_rfl) (fun _ _ _ h => h) HS.out (YR.pure (by rfl) fun w hw => y_f72_2 w rfl rfl) ?_
      simp only [Act.put, zA, zB, zC]
      refine r_take 4 (.int .i64 ((Pg.made len).first : Int)) rfl (by kernel_rfl) (fun _ _ _ h => h) HS.out (YR.pure (by rfl) fun w hw => y_load3 rfl rfl ((HC.out w hw).is 2 _ rfl)) ?_
      simp only [Act.put, zA, zB, zC]
      refine r_take 5 (.slice (some ⟨w7.heap.size, 0, none⟩) 512 512) rfl (by kernel_rfl) (fun _ _ _ h => h) HS.out (YR.pure (by rfl) fun w hw => y_all74 w rfl rfl) ?_
      simp only [Act.put, zA, zB, zC]
      refine r_one 6 rfl (by kernel_rfl) (by rfl) fun wi oi => ?_
      refine wp_enter (y_enter [.pointer (some ⟨D, 0, none⟩), .int .i64 ((Pg.made len).first : Int), .slice (some ⟨w7.heap.size, 0, none⟩) 512 512] rfl (by rfl) (call29_ _) wi) ((HWR.out wi oi).mono ?_)
      rintro e wj ⟨rfl, F1, hD1, hK1, oj⟩
      refine ⟨_, rfl, (HS.out.quiet oi).trans oj, ?_⟩
      simp only [Act.put, zA, zB, zC]
      have HT := Lib.hid ((HS.out.quiet oi).trans oj)
      have HD1 := Lib.hid (And.intro hD1 ((Kept.new oi).trans hK1))
      clear HS oi oj hD1 hK1
      have HS := HT
      clear HT
      refine r_take 7 (.int .i64 0) rfl (by kernel_rfl) (fun _ _ _ h => h) HS.out (YR.pure (by rfl) fun w hw => y_assign w rfl rfl) ?_
      simp only [Act.put, zA, zB, zC]
      refine r_done (by kernel_rfl) fun wz oz => ?_
      have H9 := Lib.hid (And.intro (HD1.out.1.new oz) (HD1.out.2.trans (Kept.new oz)))
      clear HS oz HD1 HC HWR
      generalize wz = w9 at H9 ⊢
      have hc1 := ((HB.out.2.2.1.write (1 + len / 4) pg).2)
      have hfl := flush_any H9.out.1 hc1.dead hc1.few (by decide)
      rw [hc1.due] at hfl
      have HF2 := Lib.hid hfl
      have HC1 := Lib.hid hc1
      clear hfl hc1
      go_wp2_with fail
      refine HF2.out.mono ?_
      rintro e w10 ⟨rfl, F2, hD2, hK2⟩
      have hc2 := HC1.out.flush
      have hhd := head_any hD2 hc2.dead (by rw [hc2.len]; have := HB.out.1; omega) hc2.few (by decide) (base := 0) (by decide)
      rw [(hc2.head 0).1] at hhd
      have HH := Lib.hid hhd
      have H10 := Lib.hid (And.intro hD2 hK2)
      have HC3 := Lib.hid (hc2.head 0)
      clear hD2 hK2 hc2 hhd
      simp only [Bool.false_eq_true, if_false]
      go_wp2_with fail
      refine HH.out.mono ?_
      rintro e w11 ⟨rfl, F3, hD3, hK3⟩
      have hde : (((Dk.new len).write (1 + len / 4) pg).flush.write 0 (headB 0)).flush = formatD len := by
        unfold formatD
        rw [← HPGE.out.1, HC3.out.1]
      rw [hde] at hD3
      have hc3 := formatD_calm len
      have hK := (H9.out.2.trans H10.out.2).trans hK3
      have H11 := Lib.hid (And.intro hD3 hK)
      have hpl := places_any hD3
      rw [hc3.len] at hpl
      have hro := ropen_any hD3 hc3.dead (by have := hc3.few.waits; omega) (first := 1) (count := len / 4) (base := 0) (by have := HB.out.1; omega) (by rw [hc3.len]; have := HB.out.1; omega) (by decide)
      rw [← HQ.out] at hpl hro
      have HPL2 := Lib.hid hpl
      have HRO := Lib.hid hro
      clear hD3 hde hc3 hK hpl hro hK3
      go_wp2_with fail
      refine HPL2.out.mono ?_
      rintro e w12 ⟨rfl, rfl⟩
      go_wp2_with fail
      refine HRO.out.mono ?_
      rintro e w12 ⟨R, v2, rfl, hsz, hrg, -, o12⟩
      have hPown := HP.out.2.2.1
      have hFl := HFL.out
      have hs8 := H8.out.2.1.size
      have h12 : PgAt w12 L (.pointer none) { Pg.made len with kept := meta1, m := meta1 } := (H8.out.1.only H11.out.2.only fun k hk e => by have := hFl k e; have := hPown k hk; omega).new o12
      have f1 := h12.cells.thaw 1
      have c1 := h12.cells.is 1 _ rfl
      obtain ⟨w13, hw13⟩ : ∃ w13, w13 = w12.setCell ⟨L.P, 1, none⟩ (.pointer (some ⟨R, 0, none⟩)) := ⟨_, rfl⟩
      obtain ⟨h13, o13⟩ := h12.setLog hw13
      have hs11 := H11.out.2.only.size
      have hs12 := o12.size
      have hLw : ∀ k, L.own k → k < w8.heap.size := fun k hk => H8.out.1.lt hk
      have hF3 : ∀ k, F3 k → k < w1.heap.size ∧ F k ∨ w8.heap.size ≤ k := fun k hk => (H11.out.2.fresh k hk).imp (fun e => ⟨hFl k e, e⟩) id
      have hd13 : DiskAt w13 D F3 (formatD len) := (H11.out.1.new o12).only o13 fun k hk e => by
        have h1 := hPown k (.inl e)
        have h2 := hLw k (.inl e)
        rcases hF3 k hk with e | e <;> omega
      have hfin : SyAt w13 L R F3 (formatS len) := by
        refine ⟨h13, ?_, ?_, fun k hk hk' => ?_, fun hk => ?_, fun hk => ?_⟩
        · show RingAt w13 R L.D _
          rw [HP.out.2.1]
          unfold formatS
          rw [← HQ.out]
          exact hrg.kept o13 fun e => by have := hLw R (.inl e); omega
        · show DiskAt w13 L.D F3 _
          rw [HP.out.2.1]; exact hd13
        · have h1 := hPown k hk
          have h2 := hLw k hk
          rcases hF3 k hk' with e | e <;> omega
        · have := hLw R hk; omega
        · have := H11.out.1.lt hk; omega
      have HFIN := Lib.hid (And.intro hfin (And.intro (show w1.heap.size ≤ R by omega) (show Kept F F3 w1 w13 from ⟨(((H8.out.2.1.mono (S' := F) fun _ _ e => e.elim).trans H11.out.2.only).trans2 o12 fun _ _ e => e.elim).trans2 o13 fun k hk e => by have := hPown k (.inl e); omega, fun k hk => (hF3 k hk).imp (fun e => e.2) fun e => by omega⟩)))
      have HW13 := Lib.hid hw13
      clear hsz hrg o12 hPown hFl hs8 h12 hw13 h13 o13 hs11 hs12 hLw hF3 hd13 hfin
      go_wp2_with fail
      go_ret2
      rw [← HW13.out]
      exact ⟨L, R, F3, rfl, HFIN.out.1, HP.out.2.1, HP.out.2.2.1, HFIN.out.2.1, HFIN.out.2.2⟩
end Go.Proofs.YteoeaojebklfjaaGreatDoor
namespace Go.Proofs.YteoeaojebklfjaaGreatDoor
open Go.RowKit Go.Maps
set_option linter.unusedVariables false

def nextV (V : Nat → Sec) (n : Nat) : Nat := numB ((V n).take 4)
def Chain (V : Nat → Sec) (used : Nat) : Nat → List Nat → Prop
  | h, [] => h = 0
  | h, n :: F => h = n ∧ n ≠ 0 ∧ n < used ∧ Chain V used (nextV V n) F
theorem Chain.of_view {V V' : Nat → Sec} {u u' : Nat} (hu : u ≤ u') : ∀ {F : List Nat} {h : Nat}, Chain V u h F → (∀ n ∈ F, V' n = V n) → Chain V' u' h F
  | [], _, h, _ => h
  | n :: F, _, ⟨h1, h2, h3, h4⟩, he => ⟨h1, h2, Nat.lt_of_lt_of_le h3 hu, by
      have e : nextV V' n = nextV V n := by unfold nextV; rw [he n (by simp)]
      rw [e]
      exact Chain.of_view hu h4 fun m hm => he m (by simp [hm])⟩
theorem Chain.mem {V : Nat → Sec} {u : Nat} : ∀ {F : List Nat} {h : Nat}, Chain V u h F → ∀ n ∈ F, n ≠ 0 ∧ n < u
  | [], _, _, n, hn => by simp at hn
  | m :: F, _, ⟨h1, h2, h3, h4⟩, n, hn => by
    rcases List.mem_cons.1 hn with rfl | hn
    · exact ⟨h2, h3⟩
    · exact Chain.mem h4 n hn
structure Frees (V : Nat → Sec) (m : Meta) (F : List Nat) : Prop where
  chain : Chain V m.used m.head F
  nodup : F.Nodup
  free : m.free = (F.length : Int)
theorem nodup_len : ∀ (m : Nat) (F : List Nat), F.Nodup → (∀ n ∈ F, n < m) → F.length ≤ m
  | 0, F, _, h => by
    cases F with
    | nil => exact Nat.le_refl _
    | cons n F => have := h n (by simp); omega
  | m + 1, F, hn, h => by
    have h1 := nodup_len m (F.filter fun n => decide (n ≠ m)) (hn.filter _) fun n hx => by
      have := h n (List.mem_filter.1 hx).1
      have h2 := (List.mem_filter.1 hx).2
      simp only [decide_eq_true_eq] at h2
      omega
    have h3 : F.length ≤ (F.filter fun n => decide (n ≠ m)).length + 1 := by
      clear h1 h
      induction F with
      | nil => simp
      | cons n F ih =>
        have hn' := List.nodup_cons.1 hn
        by_cases e : n = m
        · subst e
          have : F.filter (fun k => decide (k ≠ n)) = F := by
            rw [List.filter_eq_self]
            intro k hk
            simp only [decide_eq_true_eq]
            rintro rfl
            exact hn'.1 hk
          rw [List.filter_cons, this]
          simp
        · have := ih hn'.2
          rw [List.filter_cons, if_pos (by simpa using e), List.length_cons, List.length_cons]
          omega
    omega
theorem Frees.small {V : Nat → Sec} {m : Meta} {F : List Nat} (h : Frees V m F) (hu : 1 ≤ m.used) : F.length ≤ m.used - 1 := by
  have h1 := nodup_len (m.used - 1) (F.map fun n => n - 1) (by
    have := h.nodup
    have hm := h.chain.mem
    clear h
    induction F with
    | nil => simp
    | cons n F ih =>
      have hn := List.nodup_cons.1 this
      rw [List.map_cons, List.nodup_cons]
      refine ⟨fun hx => ?_, ih hn.2 fun k hk => hm k (by simp [hk])⟩
      obtain ⟨k, hk, e⟩ := List.mem_map.1 hx
      have h1 := hm k (by simp [hk])
      have h2 := hm n (by simp)
      have : k = n := by omega
      subst this
      exact hn.1 hk) fun k hk => by
    obtain ⟨n, hn, rfl⟩ := List.mem_map.1 hk
    have := h.chain.mem n hn
    omega
  simpa using h1
def marksOf (F : List Nat) : List (Nat × Bool) := insL (F.map fun n => (n, true)) []
theorem look_marks (n : Nat) : ∀ (F : List Nat) (I : List (Nat × Bool)), (kLook (insL (F.map fun n => (n, true)) I) n).getD false = (decide (n ∈ F) || (kLook I n).getD false)
  | [], I => by simp [insL_nil]
  | m :: F, I => by
    rw [List.map_cons, insL_cons, look_marks n F, look_ins]
    by_cases e : m = n
    · subst e; simp
    · have e' : ¬ n = m := fun h => e h.symm
      rw [if_neg e]
      simp [e']
theorem look_marksOf (F : List Nat) (n : Nat) : (kLook (marksOf F) n).getD false = decide (n ∈ F) := by
  unfold marksOf
  rw [look_marks]
  simp [kLook_nil]
theorem marksOf_len (F : List Nat) : (marksOf F).length ≤ F.length := by
  have := len_insL (F.map fun n => (n, true)) []
  simpa [marksOf] using this
theorem marksOf_rise (F : List Nat) : kRise (marksOf F) := rise_insL _ _ List.Pairwise.nil
theorem chase_is {p : Pg} {d : Dk} {V : Nat → Sec} {u : Nat} (hu : u ≤ p.pages) : ∀ (F : List Nat) (f h : Nat) (I : List (Nat × Bool)), Chain V u h F → F.Nodup → (∀ n ∈ F, (p.get d n).1 = V n) → (∀ n ∈ F, (kLook I n).getD false = false) → F.length < f → p.chase d f h I = insL (F.map fun n => (n, true)) I
  | [], f + 1, h, I, hc, _, _, _, _ => by
    have e : h = 0 := hc
    unfold Pg.chase
    rw [if_pos (.inl e)]
    rfl
  | n :: F, f + 1, h, I, hc, hn, hv, hI, hf => by
    obtain ⟨rfl, h2, h3, h4⟩ := hc
    unfold Pg.chase
    have hI0 := hI h (by simp)
    have hn' := List.nodup_cons.1 hn
    rw [if_neg (by
      rintro (e | e | e)
      · exact h2 e
      · omega
      · rw [hI0] at e; cases e)]
    rw [List.map_cons, insL_cons]
    have e := hv h (by simp)
    rw [e]
    refine chase_is hu F f _ _ h4 hn'.2 (fun n hm => hv n (by simp [hm])) (fun k hk => ?_) (by simp only [List.length_cons] at hf; omega)
    rw [look_ins]
    by_cases e : h = k
    · subst e; exact absurd hk hn'.1
    · rw [if_neg e]; exact hI k (by simp [hk])
end Go.Proofs.YteoeaojebklfjaaGreatDoor
namespace Go.Proofs.YteoeaojebklfjaaGreatDoor
open Go.RowKit Go.Maps
set_option linter.unusedVariables false

def Pg.comm (p : Pg) (d : Dk) (n : Nat) : Sec := (kLook p.dirty n).getD (d.read (p.first + n))
def Pg.view (p : Pg) (d : Dk) (n : Nat) : Sec := (kLook p.now n).getD (p.comm d n)
structure Lv (len : Nat) (p : Pg) (d : Dk) (F K : List Nat) : Prop where
  l64 : 64 ≤ len
  l400 : len ≤ 400
  first : p.first = 1 + len / 4
  pages : p.pages = len - 1 - len / 4
  dlen : d.lasts.length = len
  dok : d.Ok
  dirty : ∀ q ∈ p.dirty, q.1 < p.pages ∧ q.2.length = 512
  dr : kRise p.dirty
  now : ∀ q ∈ p.now, 1 ≤ q.1 ∧ q.1 < p.m.used ∧ q.2.length = 512
  nr : kRise p.now
  count : p.count = p.now.map fun q => (q.1, true)
  idle : p.idle = marksOf F
  mu : 1 ≤ p.m.used ∧ p.m.used ≤ p.pages
  mr : p.m.root < p.m.used
  fr : Frees (p.view d) p.m F
  ku : 1 ≤ p.kept.used ∧ p.kept.used ≤ p.pages
  kr : p.kept.root = 0 ∨ (p.kept.root < p.kept.used ∧ p.kept.root ∉ K)
  km : metaOf (p.comm d 0) = p.kept
  fk : Frees (p.comm d) p.kept K
theorem Frees.head {V : Nat → Sec} {m : Meta} {F : List Nat} (h : Frees V m F) (hu : 1 ≤ m.used) : m.head < m.used := by
  have hc := h.chain
  cases F with
  | nil => have e : m.head = 0 := hc; omega
  | cons n F => obtain ⟨h1, h2, h3, _⟩ := hc; omega
theorem Frees.fits {V : Nat → Sec} {m : Meta} {F : List Nat} (h : Frees V m F) (hu : 1 ≤ m.used ∧ m.used ≤ 400) (hr : m.root ≤ 400) : m.Fits := by
  have h1 := h.head hu.1
  have h2 := h.small hu.1
  have h3 := h.free
  constructor <;> omega
section
variable {len : Nat} {p : Pg} {d : Dk} {F K : List Nat}
theorem Lv.few (h : Lv len p d F K) : p.pages ≤ 400 := by have := h.pages; have := h.l400; omega
theorem Lv.fits (h : Lv len p d F K) : p.m.Fits := h.fr.fits ⟨h.mu.1, by have := h.few; have := h.mu.2; omega⟩ (by have := h.mr; have := h.few; have := h.mu.2; omega)
theorem Lv.kfits (h : Lv len p d F K) : p.kept.Fits := h.fk.fits ⟨h.ku.1, by have := h.few; have := h.ku.2; omega⟩ (by have := h.few; have := h.ku.2; rcases h.kr with e | e <;> omega)
theorem Lv.fl (h : Lv len p d F K) : F.length ≤ p.m.used - 1 := h.fr.small h.mu.1
theorem Lv.nlen (h : Lv len p d F K) : p.now.length ≤ p.pages := rise_le h.nr fun q hq => by have := h.now q hq; have := h.mu.2; omega
theorem Lv.ok (h : Lv len p d F K) : p.Ok := by
  have hp := h.few
  have h1 := h.nlen
  have h2 : p.dirty.length ≤ p.pages := rise_le h.dr fun q hq => (h.dirty q hq).1
  have h3 := h.fl
  have h4 := marksOf_len F
  have h5 := h.mu
  refine ⟨by have := h.first; have := h.l400; omega, by omega, fun q hq => ?_, fun q hq => ?_, by omega, by omega, by rw [h.idle]; omega, by rw [h.count, List.length_map]; omega, h.fits, h.kfits⟩
  · have := h.dirty q hq; exact ⟨by omega, this.2⟩
  · have := h.now q hq; exact ⟨by omega, this.2.2⟩
theorem Lv.fit (h : Lv len p d F K) {n : Nat} (hn : n < p.pages) : p.first + n < d.lasts.length := by
  have := h.first; have := h.pages; have := h.dlen; have := h.l64; omega
theorem Lv.get (h : Lv len p d F K) {n : Nat} (hn : n < p.pages) : p.get d n = (p.view d n, 0) := by
  unfold Pg.get Pg.view Pg.comm
  have := h.fit hn
  split
  · rename_i s e; rw [e]; rfl
  · rename_i e
    rw [e]
    split
    · rename_i s e2; rw [e2]; rfl
    · rename_i e2
      rw [e2, if_pos this]; rfl
theorem Lv.uses (h : Lv len p d F K) (n : Int) : p.uses n = (decide (0 < n) && decide (n < (p.m.used : Int)) && !decide (n.toNat ∈ F)) := by
  unfold Pg.uses
  rw [h.idle, look_marksOf]
theorem Lv.free (h : Lv len p d F K) : p.free = (p.pages : Int) - (p.m.used : Int) + (F.length : Int) := by
  unfold Pg.free
  rw [h.fr.free]
theorem Lv.free0 (h : Lv len p d F K) : 0 ≤ p.free := by
  rw [h.free]
  have := h.mu.2
  omega
theorem Lv.view_len (h : Lv len p d F K) {n : Nat} (hn : n < p.pages) : (p.view d n).length = 512 := by
  have := get_len h.ok h.dok n
  rwa [h.get hn] at this
theorem view_now {n k : Nat} {s : Sec} {c : List (Nat × Bool)} {m : Meta} {i : List (Nat × Bool)} : ({ p with now := ins n s p.now, count := c, m := m, idle := i } : Pg).view d k = if n = k then s else p.view d k := by
  unfold Pg.view
  show (kLook (ins n s p.now) k).getD (p.comm d k) = _
  rw [look_ins]
  by_cases e : n = k
  · rw [if_pos e, if_pos e]; rfl
  · rw [if_neg e, if_neg e]
theorem ins_map (n : Nat) (s : Sec) : ∀ l : List (Nat × Sec), ins n true (l.map fun q => (q.1, true)) = (ins n s l).map fun q => (q.1, true)
  | [] => rfl
  | p :: l => by
    rw [List.map_cons]
    unfold ins
    simp only
    split
    · rfl
    · split
      · rfl
      · rw [List.map_cons, ins_map n s l]
theorem Lv.touch (h : Lv len p d F K) {n u : Nat} {s : Sec} {m : Meta} {G : List Nat} (hn : 1 ≤ n) (hs : s.length = 512) (hm : n < m.used) (hu : p.m.used ≤ m.used ∧ m.used ≤ p.pages) (hr : m.root = p.m.root) (hf : Frees (fun k => if n = k then s else p.view d k) m G) : Lv len { p with now := ins n s p.now, count := ins n true p.count, m := m, idle := marksOf G } d G K := by
  have hmr := h.mr
  have hmu := h.mu
  refine ⟨h.l64, h.l400, h.first, h.pages, h.dlen, h.dok, h.dirty, h.dr, fun q hq => ?_, rise_ins h.nr, ?_, rfl, ⟨by show 1 ≤ m.used; omega, hu.2⟩, by show m.root < m.used; omega, ?_, h.ku, h.kr, h.km, h.fk⟩
  · rcases mem_ins hq with rfl | hq
    · exact ⟨hn, hm, hs⟩
    · have := h.now q hq
      exact ⟨this.1, by show q.1 < m.used; omega, this.2.2⟩
  · show ins n true p.count = _
    rw [h.count]
    exact ins_map n s p.now
  · have e : ({ p with now := ins n s p.now, count := ins n true p.count, m := m, idle := marksOf G } : Pg).view d = fun k => if n = k then s else p.view d k := by
      funext k
      exact view_now
    rw [e]
    exact hf
theorem Lv.in_use (h : Lv len p d F K) {n : Int} (hu : p.uses n = true) : ∃ k : Nat, n = (k : Int) ∧ 1 ≤ k ∧ k < p.m.used ∧ k ∉ F := by
  rw [h.uses] at hu
  simp only [Bool.and_eq_true, decide_eq_true_eq, Bool.not_eq_true', decide_eq_false_iff_not] at hu
  exact ⟨n.toNat, by omega, by omega, by omega, hu.2⟩
theorem Lv.use (h : Lv len p d F K) {k : Nat} (h1 : 1 ≤ k) (h2 : k < p.m.used) (h3 : k ∉ F) : p.uses (k : Int) = true := by
  rw [h.uses]
  simp only [Bool.and_eq_true, decide_eq_true_eq, Bool.not_eq_true', decide_eq_false_iff_not, Int.toNat_natCast]
  exact ⟨⟨by omega, by omega⟩, h3⟩
theorem Lv.write (h : Lv len p d F K) {n : Nat} (hu : p.uses (n : Int) = true) {s : Sec} (hs : s.length = 512) : Lv len (p.touched n s) d F K ∧ (p.touched n s).view d = fun k => if n = k then s else p.view d k := by
  obtain ⟨k, e, h1, h2, h3⟩ := h.in_use hu
  have e' : n = k := by omega
  subst e'
  have := h.touch (u := 0) (n := n) (s := s) (m := p.m) (G := F) h1 hs h2 ⟨Nat.le_refl _, h.mu.2⟩ rfl ⟨h.fr.chain.of_view (Nat.le_refl _) fun k hk => by
    have : n ≠ k := fun e => h3 (e ▸ hk)
    show (if n = k then s else p.view d k) = _
    rw [if_neg this], h.fr.nodup, h.fr.free⟩
  rw [← h.idle] at this
  exact ⟨this, funext fun k => view_now (p := p) (d := d)⟩
theorem Lv.alloc_full (h : Lv len p d F K) (hf : p.free = 0) : p.alloc d = ((0, 3), p) := by
  unfold Pg.alloc
  rw [if_pos hf]
structure Took (len : Nat) (p p' : Pg) (d : Dk) (F' K : List Nat) (n : Nat) : Prop where
  lv : Lv len p' d F' K
  pos : 1 ≤ n
  lt : n < p.pages
  was : p.uses (n : Int) = false
  uses : ∀ m, p'.uses m = (p.uses m || decide (m = (n : Int)))
  view : p'.view d = fun k => if n = k then zs else p.view d k
  root : p'.m.root = p.m.root
  free : p'.free = p.free - 1
  count : p'.count = ins n true p.count
  kept : p'.kept = p.kept
  dirty : p'.dirty = p.dirty
  first : p'.first = p.first
  pages : p'.pages = p.pages
theorem look_marksOf' (G : List Nat) (k : Nat) : kLook (marksOf G) k = if k ∈ G then some true else none := by
  have h1 := look_marksOf G k
  have h2 : ∀ q ∈ marksOf G, q.2 = true := fun q hq => by
    unfold marksOf at hq
    rcases mem_insL hq with hq | hq
    · obtain ⟨x, _, rfl⟩ := List.mem_map.1 hq; rfl
    · simp at hq
  cases hx : kLook (marksOf G) k with
  | none =>
    rw [hx] at h1
    have : k ∉ G := by simpa using h1
    rw [if_neg this]
  | some b =>
    have hb := h2 _ (look_mem hx)
    simp only at hb
    subst hb
    rw [hx] at h1
    have : k ∈ G := by simpa using h1
    rw [if_pos this]
theorem marks_del {n : Nat} {F : List Nat} (hn : n ∉ F) : kDel (marksOf (n :: F)) n = marksOf F := by
  refine rise_ext (rise_del (marksOf_rise _) n) (marksOf_rise F) fun k => ?_
  rw [look_del, look_marksOf', look_marksOf']
  by_cases e : n = k
  · subst e; rw [if_pos rfl, if_neg hn]
  · rw [if_neg e]
    have e' : ¬ k = n := fun h => e h.symm
    simp [e']
theorem Lv.alloc (h : Lv len p d F K) (hf : p.free ≠ 0) : ∃ n F', (p.alloc d).1 = (n, 0) ∧ Took len p (p.alloc d).2 d F' K n ∧ ((p.m.head = 0 ∧ n = p.m.used ∧ (p.alloc d).2 = p.fresh) ∨ (p.m.head ≠ 0 ∧ n = p.m.head ∧ p.get d p.m.head = (p.view d p.m.head, 0) ∧ (p.alloc d).2 = p.again (p.view d p.m.head))) := by
  unfold Pg.alloc
  rw [if_neg hf]
  by_cases hh : p.m.head = 0
  · rw [if_pos hh]
    have hF : F = [] := by
      cases F with
      | nil => rfl
      | cons n F => obtain ⟨h1, h2, _⟩ := h.fr.chain; exact absurd (h1.symm.trans hh) h2
    subst hF
    have hfr := h.free
    have hlt : p.m.used < p.pages := by
      have := h.mu.2
      rw [List.length_nil] at hfr
      omega
    have hz : zs.length = 512 := zs_len
    have ht := h.touch (u := 0) (n := p.m.used) (s := zs) (m := { p.m with used := p.m.used + 1 }) (G := []) h.mu.1 hz (Nat.lt_succ_self _) ⟨Nat.le_succ _, hlt⟩ rfl ⟨hh, List.nodup_nil, h.fr.free⟩
    rw [← h.idle] at ht
    refine ⟨p.m.used, [], rfl, ⟨ht, h.mu.1, hlt, ?_, fun m => ?_, funext fun k => view_now (p := p) (d := d), rfl, ?_, rfl, rfl, rfl, rfl, rfl⟩, .inl ⟨hh, rfl, rfl⟩⟩
    · rw [h.uses]; simp
    · rw [h.uses]
      have := ht.uses m
      refine this.trans ?_
      show (decide (0 < m) && decide (m < ((p.m.used + 1 : Nat) : Int)) && !decide (m.toNat ∈ ([] : List Nat))) = _
      have := h.mu.1
      rw [Bool.eq_iff_iff]
      simp only [List.not_mem_nil, decide_false, Bool.not_false, Bool.and_true, Bool.and_eq_true, decide_eq_true_eq, Bool.or_eq_true]
      omega
    · show (p.pages : Int) - ((p.m.used + 1 : Nat) : Int) + p.m.free = (p.pages : Int) - (p.m.used : Int) + p.m.free - 1
      omega
  · rw [if_neg hh]
    obtain ⟨n, F', hF⟩ : ∃ n F', F = n :: F' := by
      cases F with
      | nil => exact absurd h.fr.chain hh
      | cons n F => exact ⟨n, F, rfl⟩
    subst hF
    obtain ⟨h1, h2, h3, h4⟩ := h.fr.chain
    have hnd := List.nodup_cons.1 h.fr.nodup
    have hlt : p.m.head < p.pages := by have := h.mu.2; omega
    have hg := h.get hlt
    rw [hg, if_pos rfl]
    have hfr := h.fr.free
    have hz : zs.length = 512 := zs_len
    have ht := h.touch (u := 0) (n := p.m.head) (s := zs) (m := { p.m with head := numB ((p.view d p.m.head).take 4), free := p.m.free - 1 }) (G := F') (by omega) hz (by show p.m.head < p.m.used; omega) ⟨Nat.le_refl _, h.mu.2⟩ rfl ⟨by
      have e : nextV (p.view d) n = numB ((p.view d p.m.head).take 4) := by rw [h1]; rfl
      rw [e] at h4
      refine h4.of_view (Nat.le_refl _) fun k hk => ?_
      have : p.m.head ≠ k := fun e => hnd.1 (h1 ▸ e ▸ hk)
      show (if p.m.head = k then zs else p.view d k) = _
      rw [if_neg this], hnd.2, by show p.m.free - 1 = _; rw [hfr]; simp only [List.length_cons]; omega⟩
    have he : p.again (p.view d p.m.head) = { p with now := ins p.m.head zs p.now, count := ins p.m.head true p.count, m := { p.m with head := numB ((p.view d p.m.head).take 4), free := p.m.free - 1 }, idle := marksOf F' } := by
      unfold Pg.again Pg.touched
      rw [h.idle, h1, marks_del hnd.1]
    rw [he]
    refine ⟨p.m.head, F', rfl, ⟨ht, by omega, hlt, ?_, fun m => ?_, funext fun k => view_now (p := p) (d := d), rfl, ?_, rfl, rfl, rfl, rfl, rfl⟩, .inr ⟨hh, rfl, rfl, rfl⟩⟩
    · rw [h.uses, h1]; simp
    · rw [h.uses]
      refine (ht.uses m).trans ?_
      show (decide (0 < m) && decide (m < (p.m.used : Int)) && !decide (m.toNat ∈ F')) = _
      rw [Bool.eq_iff_iff]
      simp only [List.mem_cons, Bool.and_eq_true, decide_eq_true_eq, Bool.or_eq_true, Bool.not_eq_true', decide_eq_false_iff_not, not_or]
      constructor
      · rintro ⟨⟨a1, a2⟩, a3⟩
        by_cases e : m = (p.m.head : Int)
        · exact .inr e
        · exact .inl ⟨⟨a1, a2⟩, by omega, a3⟩
      · rintro (⟨⟨a1, a2⟩, a3, a4⟩ | rfl)
        · exact ⟨⟨a1, a2⟩, a4⟩
        · refine ⟨⟨by omega, by omega⟩, ?_⟩
          rw [Int.toNat_natCast, h1]
          exact hnd.1
    · show (p.pages : Int) - (p.m.used : Int) + (p.m.free - 1) = (p.pages : Int) - (p.m.used : Int) + p.m.free - 1
      omega
theorem Lv.drop (h : Lv len p d F K) {n : Nat} (hu : p.uses (n : Int) = true) : Lv len (p.dropped n) d (n :: F) K ∧ (∀ m, (p.dropped n).uses m = (p.uses m && decide (m ≠ (n : Int)))) ∧ ((p.dropped n).view d = fun k => if n = k then freeB p.m.head else p.view d k) ∧ (p.dropped n).free = p.free + 1 := by
  obtain ⟨k, e, h1, h2, h3⟩ := h.in_use hu
  have e' : n = k := by omega
  subst e'
  have hh := h.fr.head h.mu.1
  have hfw := h.few
  have hmu := h.mu
  have ht := h.touch (u := 0) (n := n) (s := freeB p.m.head) (m := { p.m with head := n, free := p.m.free + 1 }) (G := n :: F) h1 (freeB_len _) h2 ⟨Nat.le_refl _, h.mu.2⟩ rfl ⟨⟨rfl, by omega, h2, by
    have e : nextV (fun k => if n = k then freeB p.m.head else p.view d k) n = p.m.head := by
      unfold nextV
      simp only [if_true]
      exact numB_free (by omega)
    rw [e]
    refine h.fr.chain.of_view (Nat.le_refl _) fun k hk => ?_
    have : n ≠ k := fun e => h3 (e ▸ hk)
    show (if n = k then freeB p.m.head else p.view d k) = _
    rw [if_neg this]⟩, List.nodup_cons.2 ⟨h3, h.fr.nodup⟩, by show p.m.free + 1 = _; rw [h.fr.free]; simp⟩
  have he : p.dropped n = { p with now := ins n (freeB p.m.head) p.now, count := ins n true p.count, m := { p.m with head := n, free := p.m.free + 1 }, idle := marksOf (n :: F) } := by
    unfold Pg.dropped Pg.touched
    rw [h.idle]
    have : marksOf (n :: F) = ins n true (marksOf F) := by
      refine rise_ext (marksOf_rise _) (rise_ins (marksOf_rise _)) fun k => ?_
      rw [look_ins, look_marksOf', look_marksOf']
      by_cases e : n = k
      · subst e; simp
      · have e' : ¬ k = n := fun h => e h.symm
        rw [if_neg e]
        simp [e']
    rw [this]
  rw [he]
  refine ⟨ht, fun m => ?_, funext fun k => view_now (p := p) (d := d), ?_⟩
  · refine (ht.uses m).trans ?_
    rw [h.uses]
    show (decide (0 < m) && decide (m < (p.m.used : Int)) && !decide (m.toNat ∈ n :: F)) = _
    rw [Bool.eq_iff_iff]
    simp only [List.mem_cons, Bool.and_eq_true, decide_eq_true_eq, Bool.not_eq_true', decide_eq_false_iff_not, not_or]
    constructor
    · rintro ⟨⟨a1, a2⟩, a3, a4⟩
      exact ⟨⟨⟨a1, a2⟩, a4⟩, by omega⟩
    · rintro ⟨⟨⟨a1, a2⟩, a4⟩, a3⟩
      exact ⟨⟨a1, a2⟩, by omega, a4⟩
  · show (p.pages : Int) - (p.m.used : Int) + (p.m.free + 1) = (p.pages : Int) - (p.m.used : Int) + p.m.free + 1
    omega
theorem Lv.setRoot (h : Lv len p d F K) {n : Nat} (hu : n = 0 ∨ p.uses (n : Int) = true) : Lv len (p.rooted n) d F K := by
  have hn : n < p.m.used := by
    rcases hu with e | e
    · have := h.mu.1; omega
    · obtain ⟨k, e, h1, h2, h3⟩ := h.in_use e; omega
  exact ⟨h.l64, h.l400, h.first, h.pages, h.dlen, h.dok, h.dirty, h.dr, h.now, h.nr, h.count, h.idle, h.mu, hn, ⟨h.fr.chain, h.fr.nodup, h.fr.free⟩, h.ku, h.kr, h.km, h.fk⟩
end
end Go.Proofs.YteoeaojebklfjaaGreatDoor
