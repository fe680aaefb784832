/- T1 T2 T3 T6 in one text. -/
import Derived.Test.YteoeaojebklfjaaGreatDoorV26
namespace Go.Proofs.YteoeaojebklfjaaGreatDoor
open Go.RowKit Go.Maps
set_option linter.unusedVariables false
set_option linter.unusedSimpArgs false
set_option maxRecDepth 20000
def fullB (c : UInt8) : Sec := 1 :: List.replicate 511 c
theorem fullB_len (c : UInt8) : (fullB c).length = 512 := by unfold fullB; rw [List.length_cons, List.length_replicate]
theorem set_next (c : UInt8) {k : Nat} (hk : k < 512) : (List.replicate k c ++ List.replicate (512 - k) 0).set k c = List.replicate (k + 1) c ++ List.replicate (512 - (k + 1)) 0 := by
  rw [List.set_append_right _ _ (by rw [List.length_replicate]; exact Nat.le_refl _), List.length_replicate, Nat.sub_self]
  obtain ⟨m, hm⟩ : ∃ m, 512 - k = m + 1 := ⟨511 - k, by omega⟩
  rw [hm, List.replicate_succ, List.set_cons_zero, show 512 - (k + 1) = m by omega, List.replicate_succ']
  simp
set_option maxHeartbeats 1000000 in
theorem full_any (c : UInt8) (w : World) : Calls Tryz.prog 15 #[.int .u8 (c.toNat : Int)] w fun e w' => ∃ g, e = .returned (.slice (some ⟨g, 0, none⟩) 512 512) ∧ Vec w' 1 (.slice (some ⟨g, 0, none⟩) 512 512) 512 (bv (fullB c)) ∧ w.heap.size ≤ g ∧ Only None' w w' := by
  obtain ⟨w1, hm, hv, o1, l1⟩ := make35 512 w (by decide)
  have hm2 : (Instr.makeSlice 35 (.int .i64 512) (.int .i64 512)).run Tryz.prog w = .ok (.slice (some ⟨w.heap.size, 0, none⟩) 512 512) w1 := hm
  obtain ⟨cv, hcv⟩ : ∃ cv, cv = (c.toNat : Int) := ⟨_, rfl⟩
  have HC := Lib.hid hcv
  have H1 := Lib.hid (And.intro hv o1)
  obtain ⟨g, hg⟩ : ∃ g, g = w.heap.size := ⟨_, rfl⟩
  have HG := Lib.hid hg
  rw [← hg] at H1
  rw [← hcv]
  clear hm hv o1 l1 hcv hg
  go_enter Tryz.func15, Tryz.ntmps15
  go_wp2_with fail
  rw [← HG.out]
  clear hm2
  go_loopg [4] 512 (fun gg t wr => ∃ k : Nat, gg = 512 - k ∧ k ≤ 512 ∧ t = .int .i64 (k : Int) ∧ Hid (Vec wr 1 (.slice (some ⟨g, 0, none⟩) 512 512) 512 (bv (List.replicate k c ++ List.replicate (512 - k) 0)) ∧ Only (fun i => i = g) w1 wr))
  case atStart => exact ⟨0, rfl, Nat.zero_le _, rfl, Lib.hid ⟨H1.out.1, Only.refl _ _⟩⟩
  case round =>
    obtain ⟨k, rfl, hk, rfl, HL⟩ := hrel
    by_cases hlt : k < 512
    · have i1 : (k : Int) < 512 := by omega
      have i0 : (0 : Int) ≤ (k : Int) := by omega
      have hf := HL.out.1.free0 (k := k) (by omega)
      obtain ⟨u, hu⟩ := Option.isSome_iff_exists.1 hf.1
      have hz := hf.2
      have HK := Lib.hid hlt
      clear hf hlt hk
      go_wp2_with fail
      go_roundg (512 - (k + 1))
      case rel =>
        refine ⟨k + 1, rfl, HK.out, by first | rfl | (congr 1), Lib.hid ⟨?_, HL.out.2.trans ((Only.refl (fun i => i = g) wr).setCell (p := ⟨g, k, none⟩) rfl _)⟩⟩
        have := HL.out.1.set1 HK.out (.int .u8 (c.toNat : Int))
        rw [bv_set, set_next c HK.out, ← HC.out] at this
        exact this
      case measure => have := HK.out; omega
    · have hk2 : k = 512 := by omega
      subst hk2
      have hf := HL.out.1.free0 (k := 0) (by omega)
      obtain ⟨u, hu⟩ := Option.isSome_iff_exists.1 hf.1
      have hz := hf.2
      clear hf hlt hk
      go_wp2_with fail
      go_ret
      refine ⟨g, rfl, ?_, by rw [HG.out]; exact Nat.le_refl _, H1.out.2.trans2 (HL.out.2.trans ((Only.refl (fun i => i = g) wr).setCell (p := ⟨g, 0, none⟩) rfl _)) fun i hi e => by have := HG.out; omega⟩
      have := HL.out.1.set1 (k := 0) (by decide) (.int .u8 ((1 : UInt8).toNat : Int))
      rw [bv_set] at this
      exact this
theorem fresh_any (n : Nat) (k : Int) (hk : (n : Int) = k) (h1 : 64 ≤ n) (h2 : n ≤ 400) (w : World) : Calls Tryz.prog 10 #[.int .i64 k] w fun e w' => ∃ L R F, e = .returned (.tuple #[.pointer (some ⟨L.D, 0, none⟩), .pointer (some ⟨L.P, 0, none⟩)]) ∧ Pw w w' L R F (formatS n) n 4 0 [] [] := by
  have HN := Lib.hid (new_dsk n k hk w w (Only.refl _ _) (by omega) (by omega))
  have HB := Lib.hid (And.intro h1 h2)
  clear hk h1 h2
  go_enter Tryz.func10, Tryz.ntmps10
  go_wp2_with fail
  refine HN.out.mono ?_
  rintro e w1 ⟨D, F, rfl, hd, hF, o1⟩
  have HD := Lib.hid (And.intro hd (And.intro hF o1))
  have HF := Lib.hid (Format_any hd.at_ HB.out.1 (by have := HB.out.2; omega))
  clear hd hF o1
  go_wp2_with fail
  refine HF.out.mono ?_
  rintro e w2 ⟨L, R, F2, rfl, hs, hLD, hown, hR, hK⟩
  have H2 := Lib.hid (And.intro hs (And.intro hLD (And.intro hown (And.intro hR hK))))
  clear hs hLD hown hR hK
  go_wp2_with fail
  go_ret2
  have hf := format_lv HB.out.1 HB.out.2
  have hs1 := HD.out.2.2.size
  refine ⟨L, R, F2, by rw [H2.out.2.1]; rfl, ⟨H2.out.1, fun k hk => ?_, HD.out.2.2.trans2 H2.out.2.2.2.2.only fun k hk e => by have := HD.out.2.1 k e; omega, hf.1, ⟨0, [], hf.2.1, by rw [many_nil]; omega⟩, hf.2.2.1⟩⟩
  rcases hk with hk | rfl | hk
  · have := H2.out.2.2.1 k hk; omega
  · have := H2.out.2.2.2.1; omega
  · rcases H2.out.2.2.2.2.fresh k hk with e | e
    · exact HD.out.2.1 k e
    · omega
theorem Lv.uses_same {len len' : Nat} {p p' : Pg} {d d' : Dk} {G K K' : List Nat} (h : Lv len p d G K) (h' : Lv len' p' d' G K') (hu : p'.m.used = p.m.used) (n : Int) : p'.uses n = p.uses n := by
  rw [h.uses, h'.uses, hu]
theorem Lv.free_same {len len' : Nat} {p p' : Pg} {d d' : Dk} {G K K' : List Nat} (h : Lv len p d G K) (h' : Lv len' p' d' G K') (hu : p'.m.used = p.m.used) (hp : p'.pages = p.pages) : p'.free = p.free := by
  rw [h.free, h'.free, hu, hp]
section
variable {a : Act} {o : Oper} {x y z : Operand}
theorem y_eq3 (w : World) {p q : Int} {b : Bool} (hb : (p == q) = b) (ho : o.op = .binOp .eql 3 x y 3) (hx : a.eval x = .int .i64 p) (hy : a.eval y = .int .i64 q) : (execOp a.eval o).run Tryz.prog w = .ok (.value (.bool b)) w := by
  subst hb
  unfold execOp
  simp only [ho, hx, hy]
  go_simp
theorem y_eq29 (w : World) {p q : Int} {b : Bool} (hb : (p == q) = b) (ho : o.op = .binOp .eql 29 x y 29) (hx : a.eval x = .int .i64 p) (hy : a.eval y = .int .i64 q) : (execOp a.eval o).run Tryz.prog w = .ok (.value (.bool b)) w := by
  subst hb
  unfold execOp
  simp only [ho, hx, hy]
  go_simp
theorem y_eq9 (w : World) {p q : ByteArray} {b : Bool} (hb : (p.toList == q.toList) = b) (ho : o.op = .binOp .eql 9 x y 9) (hx : a.eval x = .string p) (hy : a.eval y = .string q) : (execOp a.eval o).run Tryz.prog w = .ok (.value (.bool b)) w := by
  subst hb
  unfold execOp
  simp only [ho, hx, hy]
  go_simp
theorem wp_val {w : World} {v : Value} {K : Act → World → Prop} {Q : Exit → Act → World → Prop} (h : (execOp a.eval o).run Tryz.prog w = .ok (.value v) w) (hK : K (a.put o.dst v) w) : o.wp Tryz.prog a w K Q := by
  unfold Oper.wp
  simp only [h]
  exact hK
theorem call18_ (args : Array Value) (w : World) : (callFunc 18 args).run Tryz.prog w = .ok (.enter 18 args) w := by go_simp
theorem call19_ (args : Array Value) (w : World) : (callFunc 19 args).run Tryz.prog w = .ok (.enter 19 args) w := by go_simp
theorem call15_ (args : Array Value) (w : World) : (callFunc 15 args).run Tryz.prog w = .ok (.enter 15 args) w := by go_simp
theorem y_pickT (w : World) {v : Value} (ho : o.op = .pick x y z) (hx : a.eval x = .bool true) (hy : a.eval y = v) : (execOp a.eval o).run Tryz.prog w = .ok (.value v) w := by
  unfold execOp
  simp only [ho, hx, hy]
  go_simp
end
end Go.Proofs.YteoeaojebklfjaaGreatDoor
namespace Go.Proofs.YteoeaojebklfjaaGreatDoor
open Go.RowKit Go.Maps
set_option linter.unusedVariables false
set_option linter.unusedSimpArgs false
set_option maxRecDepth 20000
theorem own_lit {L : Lo} {w0 w : World} {R : Nat} {F : Nat → Prop} {s : Sy} {len n T : Nat} {G K : List Nat} (h : Pw w0 w L R F s len n T G K) {g : Nat} (hg : w.heap.size ≤ g) : ¬ L.own g := fun e => h.lit hg (.inl e)
theorem lenB (n : Nat) (x : Sec) (y : Sec) : (ins n true (ins n true [])).length = 1 := by
  have : ins n true ([] : List (Nat × Bool)) = [(n, true)] := rfl
  rw [this]
  unfold ins
  rw [if_neg (Nat.lt_irrefl _), if_pos rfl]
  rfl
set_option maxHeartbeats 4000000 in
theorem works_any (w : World) : Calls Tryz.prog 9 #[] w fun e w' => e = .returned (.bool true) ∧ Only None' w w' := by
  have HF := Lib.hid (fresh_any 400 400 rfl (by decide) (by decide) w)
  go_enter Tryz.func9, Tryz.ntmps9
  go_wp2_with fail
  refine HF.out.mono ?_
  rintro e w1 ⟨L, R, F, rfl, h1⟩
  have H1 := Lib.hid h1
  have hfm := format_lv (len := 400) (by decide) (by decide)
  have hpg : (formatS 400).p.pages = 299 := rfl
  have hfr : (formatS 400).p.free = 298 := rfl
  have hcn := hfm.2.2.2.2.2.2.1
  have hp1 := wk_pages h1
  rw [hpg] at hp1
  have hp2 := wk_free h1
  rw [hfr] at hp2
  have HP1 : Hid (Calls Tryz.prog 21 #[.pointer (some ⟨L.P, 0, none⟩)] w1 fun e w' => e = .returned (.int .i64 299) ∧ w1 = w') := Lib.hid hp1
  have HP2 := Lib.hid hp2
  obtain ⟨s, hs⟩ : ∃ s, s = formatS 400 := ⟨_, rfl⟩
  rw [← hs] at H1 HP2 hpg hfr hcn
  have HS := Lib.hid (And.intro hpg (And.intro hfr hcn))
  clear h1 hfm hpg hfr hcn hp1 hp2 hs HF
  go_wp2_with fail
  refine HP1.out.mono ?_
  rintro e w2 ⟨rfl, rfl⟩
  go_wp2_with fail
  refine HP2.out.mono ?_
  rintro e w2 ⟨rfl, h2, o2⟩
  obtain ⟨k, p2, G2, ht, hc⟩ := wk_alloc h2 (by decide) (by rw [HS.out.2.1]; decide)
  have HT := Lib.hid ht
  have HC := Lib.hid hc
  clear h2 o2 ht hc HP1 HP2
  go_wp2_with fail
  refine HC.out.mono ?_
  rintro e w3 ⟨rfl, h3, t3⟩
  have hu3 : p2.uses (k : Int) = true := by rw [HT.out.uses]; simp
  have H3 := Lib.hid (And.intro h3 hu3)
  clear h3 t3 hu3 HC
  go_wp2_with fail
  refine (full_any 120 w3).mono ?_
  rintro e w4 ⟨g4, rfl, hv4, hg4, o4⟩
  have h4 := H3.out.1.quiet o4
  have hw4 := wk_write h4 H3.out.2 hv4 (fullB_len _) (own_lit H3.out.1 hg4)
  have HW4 := Lib.hid hw4
  clear hv4 hg4 o4 h4 hw4
  go_wp2_with fail
  refine HW4.out.mono ?_
  rintro e w5 ⟨rfl, h5, t5⟩
  have hu5 : (p2.touched k (fullB 120)).uses (k : Int) = true := by rw [Lv.uses_same H3.out.1.lv h5.lv rfl]; exact H3.out.2
  have hr5 := wk_setRoot h5 (.inr hu5)
  have HR5 := Lib.hid hr5
  have HU5 := Lib.hid hu5
  clear h5 t5 hr5 hu5 HW4
  go_wp2_with fail
  refine HR5.out.mono ?_
  rintro e w6 ⟨rfl, h6, t6⟩
  have hcnt : ((p2.touched k (fullB 120)).rooted k).count.length = 1 := by
    show (ins k true p2.count).length = 1
    rw [HT.out.count, HS.out.2.2]
    exact lenB k [] []
  have hu6 : ((p2.touched k (fullB 120)).rooted k).uses (k : Int) = true := HU5.out
  obtain ⟨s7, m7, k7, n7, c7, v7, cm7, hc7⟩ := wk_commit h6 (by decide) (by decide) (by show ((p2.touched k (fullB 120)).rooted k).count.length ≤ _; rw [hcnt]; decide) (.inr hu6)
  have hk1 := HT.out.pos
  have hv6 : ((p2.touched k (fullB 120)).rooted k).view s.d k = fullB 120 := by
    have := (H3.out.1.lv.write H3.out.2 (fullB_len 120)).2
    have e : ((p2.touched k (fullB 120)).rooted k).view s.d k = (p2.touched k (fullB 120)).view s.d k := rfl
    rw [e, this]
    simp
  have H7 := Lib.hid (And.intro m7 (And.intro k7 (And.intro (cm7 k hk1) (And.intro hv6 h6.lv))))
  have HC7 := Lib.hid hc7
  clear h6 t6 hcnt hu6 m7 k7 n7 c7 v7 cm7 hc7 hk1 hv6 HR5
  go_wp2_with fail
  refine HC7.out.mono ?_
  rintro e w8 ⟨rfl, L8, R8, F8, h8, t8⟩
  have H8 := Lib.hid (And.intro h8 t8)
  clear h8 t8 HC7
  go_wp2_with fail
  refine (full_any 121 w8).mono ?_
  rintro e w9 ⟨g9, rfl, hv9, hg9, o9⟩
  have h9 := H8.out.1.quiet o9
  have hu9 : s7.p.uses (k : Int) = true := by
    rw [Lv.uses_same H7.out.2.2.2.2 h9.lv (by rw [H7.out.1])]
    exact HU5.out
  have hw9 := wk_write h9 hu9 hv9 (fullB_len _) (own_lit H8.out.1 hg9)
  rw [H8.out.2.P] at hw9
  have HW9 := Lib.hid hw9
  clear hv9 hg9 o9 h9 hu9 hw9
  go_wp2_with fail
  refine HW9.out.mono ?_
  rintro e wa ⟨rfl, ha, ta⟩
  obtain ⟨s10, m10, k10, cm10, v10, n10, c10, d10, hab⟩ := wk_abort ha (by decide)
  rw [H8.out.2.P] at hab
  have HA := Lib.hid (And.intro m10 (And.intro k10 cm10))
  have HAB := Lib.hid hab
  clear ha ta m10 k10 cm10 v10 n10 c10 d10 hab HW9
  go_wp2_with fail
  refine HAB.out.mono ?_
  rintro e wb ⟨rfl, Lb, Rb, Fb, hb, tb⟩
  have hLD : Lb.D = L.D := tb.D.trans H8.out.2.D
  obtain ⟨s11, m11, k11, cm11, v11, n11, c11, pg11, f11, dr11, ho⟩ := wk_open hb (by decide)
  rw [hLD] at ho
  have HO := Lib.hid ho
  have hcomm : s11.p.view s11.d k = fullB 120 := by
    rw [v11, HA.out.2.2]
    have e : (s7.p.touched k (fullB 121)).comm s7.d k = s7.p.comm s7.d k := rfl
    show (s7.p.touched k (fullB 121)).comm s7.d k = _
    rw [e, H7.out.2.2.1]
    exact H7.out.2.2.2.1
  have hm11 : s11.p.m = ((p2.touched k (fullB 120)).rooted k).m := by
    rw [m11, HA.out.2.1]
    exact H7.out.2.1
  have HCM := Lib.hid (And.intro hcomm (And.intro hm11 (And.intro pg11 hb.lv)))
  clear hb tb hLD m11 k11 cm11 v11 n11 c11 pg11 f11 dr11 ho hcomm hm11 HAB
  go_wp2_with fail
  refine HO.out.mono ?_
  rintro e wc ⟨Lc, Rc, Fc, rfl, hc, -, hcown, hcR, hcK⟩
  have huc : s11.p.uses (k : Int) = true := by
    rw [Lv.uses_same H7.out.2.2.2.2 hc.lv (by rw [HCM.out.2.1])]
    exact HU5.out
  have hrd := wk_read hc (by decide) huc
  rw [HCM.out.1] at hrd
  have HRD := Lib.hid hrd
  have hrc : s11.p.m.root = k := by rw [HCM.out.2.1]; rfl
  have hfc : s11.p.free = 297 := by
    have h1 := HT.out.free
    rw [HS.out.2.1] at h1
    have e1 := Lv.free_same H3.out.1.lv hc.lv (by rw [HCM.out.2.1]; rfl) (by
      have a1 := hc.lv.pages
      have a2 := H3.out.1.lv.pages
      rw [a1, ← a2])
    rw [e1]
    exact h1
  have HFC := Lib.hid (And.intro hrc hfc)
  clear hc hcown hcR hcK huc hrd hrc hfc HO
  go_wp2_with fail
  refine HRD.out.mono ?_
  rintro e wd ⟨v, rfl, hv, hvf, hd, od⟩
  obtain ⟨va, vc, rfl, _, _⟩ := hv.shape
  have HD := Lib.hid (And.intro hd hv)
  have HRT : Hid (∀ w', Only None' wd w' → Calls Tryz.prog 18 #[.pointer (some ⟨Lc.P, 0, none⟩)] w' fun e w'' => e = .returned (.int .i64 (k : Int)) ∧ w' = w'') := Lib.hid fun w' o => by
    have := wk_root (hd.quiet o)
    rw [HFC.out.1] at this
    exact this
  have HFR : Hid (∀ w', Only None' wd w' → Calls Tryz.prog 19 #[.pointer (some ⟨Lc.P, 0, none⟩)] w' fun e w'' => e = .returned (.int .i64 297) ∧ Only None' w' w'') := Lib.hid fun w' o => by
    have := wk_free (hd.quiet o)
    rw [HFC.out.2] at this
    exact this.mono fun e w2 h => ⟨h.1, h.2.2⟩
  obtain ⟨sx, hsx⟩ : ∃ sx, sx = st (fullB 120) := ⟨_, rfl⟩
  have HSX := Lib.hid hsx
  have HST : Hid (∀ w', Only None' wd w' → ∀ {g : Nat}, Vec w' 1 (.slice (some ⟨g, 0, none⟩) 512 512) 512 (bv (fullB 120)) → True) := Lib.hid fun _ _ _ _ => trivial
  have HOD := Lib.hid hd.only
  clear hv hvf hd od hsx HRD
  go_upto_region 11 with fail
  refine r_begin (S := None') (by kernel_rfl) ?_
  have HS := Lib.hid (Only.refl (None') wd)
  refine r_take 0 (.int .i64 0) rfl (by kernel_rfl) (fun _ _ _ h => h) HS.out (YR.pure (by rfl) fun w hw => y_move w rfl rfl) ?_
  simp only [Act.put, zA, zB, zC]
  refine r_take 1 (.bool true) rfl (by kernel_rfl) (fun _ _ _ h => h) HS.out (YR.pure (by rfl) fun w hw => y_eq29 w rfl rfl rfl rfl) ?_
  simp only [Act.put, zA, zB, zC]
  refine r_take 2 (.bool true) rfl (by kernel_rfl) (fun _ _ _ h => h) HS.out (YR.pure (by rfl) fun w hw => y_move w rfl rfl) ?_
  simp only [Act.put, zA, zB, zC]
  refine r_take 3 (.slice va 512 vc) rfl (by kernel_rfl) (fun _ _ _ h => h) HS.out (YR.pure (by rfl) fun w hw => y_move w rfl rfl) ?_
  simp only [Act.put, zA, zB, zC]
  refine r_take 4 (.string sx) rfl (by kernel_rfl) (fun _ _ _ h => h) HS.out (YR.pure (by rfl) fun w hw => (by rw [HSX.out]; exact y_str (fullB_len 120).symm ((HD.out.2.only hw fun _ _ e => e).rd) rfl rfl)) ?_
  simp only [Act.put, zA, zB, zC]
  refine r_one 5 rfl (by kernel_rfl) (by rfl) fun wi oi => ?_
  refine wp_enter (y_enter [.int .u8 120] rfl (by rfl) (call15_ _) wi) ((full_any 120 wi).mono ?_)
  rintro e wj ⟨g5, rfl, hv5, hg5, oj⟩
  refine ⟨_, rfl, (HS.out.quiet oi).quiet oj, ?_⟩
  simp only [Act.put, zA, zB, zC]
  have HT := Lib.hid ((HS.out.quiet oi).quiet oj)
  have HV5 := Lib.hid (hv5)
  clear hv5 hg5
  clear HS oi oj
  have HS := HT
  clear HT
  refine r_one 6 rfl (by kernel_rfl) (by rfl) fun wi oi => ?_
  refine wp_val (v := .string sx) (by rw [HSX.out]; exact y_str (fullB_len 120).symm ((HV5.out.only oi fun _ _ e => e).rd) rfl rfl) ⟨HS.out.quiet oi, ?_⟩
  simp only [Act.put, zA, zB, zC]
  have HT := Lib.hid (HS.out.quiet oi)
  clear HS oi
  have HS := HT
  clear HT
  refine r_take 7 (.bool true) rfl (by kernel_rfl) (fun _ _ _ h => h) HS.out (YR.pure (by rfl) fun w hw => y_eq9 w (by rw [beq_self_eq_true]) rfl rfl rfl) ?_
  simp only [Act.put, zA, zB, zC]
  refine r_take 8 (.bool true) rfl (by kernel_rfl) (fun _ _ _ h => h) HS.out (YR.pure (by rfl) fun w hw => y_pickT w rfl rfl rfl) ?_
  simp only [Act.put, zA, zB, zC]
  refine r_take 9 (.bool true) rfl (by kernel_rfl) (fun _ _ _ h => h) HS.out (YR.pure (by rfl) fun w hw => y_move w rfl rfl) ?_
  simp only [Act.put, zA, zB, zC]
  refine r_take 10 (.pointer (some ⟨Lc.P, 0, none⟩)) rfl (by kernel_rfl) (fun _ _ _ h => h) HS.out (YR.pure (by rfl) fun w hw => y_move w rfl rfl) ?_
  simp only [Act.put, zA, zB, zC]
  refine r_take 11 (.int .i64 (k : Int)) rfl (by kernel_rfl) (fun _ _ _ h => h) HS.out (YR.call (by rfl) (fun w => y_enter [.pointer (some ⟨Lc.P, 0, none⟩)] rfl (by rfl) (call18_ _) w) fun w hw => (HRT.out w hw).mono fun e w2 h => ⟨h.1, by rw [← h.2]; exact Only.refl _ _⟩) ?_
  simp only [Act.put, zA, zB, zC]
  refine r_take 12 (.int .i64 (k : Int)) rfl (by kernel_rfl) (fun _ _ _ h => h) HS.out (YR.pure (by rfl) fun w hw => y_move w rfl rfl) ?_
  simp only [Act.put, zA, zB, zC]
  refine r_take 13 (.bool true) rfl (by kernel_rfl) (fun _ _ _ h => h) HS.out (YR.pure (by rfl) fun w hw => y_eq3 w (by rw [beq_self_eq_true]) rfl rfl rfl) ?_
  simp only [Act.put, zA, zB, zC]
  refine r_take 14 (.bool true) rfl (by kernel_rfl) (fun _ _ _ h => h) HS.out (YR.pure (by rfl) fun w hw => y_pickT w rfl rfl rfl) ?_
  simp only [Act.put, zA, zB, zC]
  refine r_take 15 (.bool true) rfl (by kernel_rfl) (fun _ _ _ h => h) HS.out (YR.pure (by rfl) fun w hw => y_move w rfl rfl) ?_
  simp only [Act.put, zA, zB, zC]
  refine r_take 16 (.pointer (some ⟨Lc.P, 0, none⟩)) rfl (by kernel_rfl) (fun _ _ _ h => h) HS.out (YR.pure (by rfl) fun w hw => y_move w rfl rfl) ?_
  simp only [Act.put, zA, zB, zC]
  refine r_take 17 (.int .i64 297) rfl (by kernel_rfl) (fun _ _ _ h => h) HS.out (YR.call (by rfl) (fun w => y_enter [.pointer (some ⟨Lc.P, 0, none⟩)] rfl (by rfl) (call19_ _) w) fun w hw => HFR.out w hw) ?_
  simp only [Act.put, zA, zB, zC]
  refine r_take 18 (.bool true) rfl (by kernel_rfl) (fun _ _ _ h => h) HS.out (YR.pure (by rfl) fun w hw => y_eq3 w rfl rfl rfl rfl) ?_
  simp only [Act.put, zA, zB, zC]
  refine r_take 19 (.bool true) rfl (by kernel_rfl) (fun _ _ _ h => h) HS.out (YR.pure (by rfl) fun w hw => y_pickT w rfl rfl rfl) ?_
  simp only [Act.put, zA, zB, zC]
  refine r_take 20 (.bool true) rfl (by kernel_rfl) (fun _ _ _ h => h) HS.out (YR.pure (by rfl) fun w hw => y_assign w rfl rfl) ?_
  simp only [Act.put, zA, zB, zC]
  refine r_done (by kernel_rfl) fun wz oz => ?_
  have HO9 := Lib.hid (HOD.out.trans (HS.out.trans oz))
  clear HS oz
  generalize wz = we at HO9 ⊢
  go_wp2_with fail
  go_ret
  exact ⟨rfl, HO9.out⟩
end Go.Proofs.YteoeaojebklfjaaGreatDoor
namespace Go.Proofs.YteoeaojebklfjaaGreatDoor
open Go.RowKit Go.Maps
set_option linter.unusedVariables false
set_option linter.unusedSimpArgs false
theorem u64_nonneg (x : Int) : 0 ≤ IntKind.u64.wrap x := by
  unfold IntKind.wrap
  simp only [IntKind.signed, Bool.false_and, if_false]
  exact Int.emod_nonneg _ (by decide)
theorem mod_is (x k : Int) (hk : 0 < k) (hk' : k ≤ 1000) : ∃ m : Nat, wrap64 ((IntKind.u64.wrap x).tmod k) = (m : Int) ∧ (m : Int) < k := by
  have h0 := u64_nonneg x
  have e : (IntKind.u64.wrap x).tmod k = (IntKind.u64.wrap x) % k := Int.tmod_eq_emod_of_nonneg h0
  have h1 := Int.emod_nonneg (IntKind.u64.wrap x) (Int.ne_of_gt hk)
  have h2 := Int.emod_lt_of_pos (IntKind.u64.wrap x) hk
  refine ⟨((IntKind.u64.wrap x) % k).toNat, ?_, by omega⟩
  rw [e, IntWalk.wrap64_in _ (by omega)]
  omega
theorem info3 : Tryz.prog.info? 3 = some Tryz.t3 := by kernel_rfl
theorem t3_zero : Tryz.t3.zero = some (.int .i64 0) := by kernel_rfl
theorem t3_size : Tryz.t3.size = 1 := by kernel_rfl
theorem t3_bytes : Tryz.t3.bytes = 8 := by kernel_rfl
theorem t4_zero : Tryz.t4.zero = some (.bool false) := by kernel_rfl
theorem t4_size : Tryz.t4.size = 1 := by kernel_rfl
theorem t4_bytes : Tryz.t4.bytes = 1 := by kernel_rfl
theorem make43 (n : Nat) (w : World) (hn : n ≤ 1000000) : ∃ w', (Instr.makeSlice 43 (.int .i64 (n : Int)) (.int .i64 (n : Int))).run Tryz.prog w = .ok (.slice (some ⟨w.heap.size, 0, none⟩) n n) w' ∧ Vec w' 1 (.slice (some ⟨w.heap.size, 0, none⟩) n n) n (bo (List.replicate n false)) ∧ Only None' w w' ∧ w.heap.size < w'.heap.size := by
  obtain ⟨w', hrun, r1, r2⟩ := run_make_full (P := Tryz.prog) w w.heap.size 43 4 Tryz.t4 (.bool false) 1 Tryz.underlying43 info4 t4_zero t4_size .i64 .i64 n (by rw [t4_bytes]; omega) (by unfold maxLen; omega) (Nat.le_refl _)
  have hv := Vec.of_owns r1
  rw [show (Value.bool false).cells = #[.bool false] from rfl, toList_madeCells_one, Nat.mul_one] at hv
  have e : bo (List.replicate n false) = List.replicate n (.bool false) := by unfold bo; rw [List.map_replicate]
  rw [e]
  refine ⟨w', hrun, hv, (Only.refl None' w).grown r2 (by simp), ?_⟩
  rcases hv.form with ⟨e, _⟩ | ⟨g, off, cap, e, _, _, hl, _⟩
  · cases e
  · injection e with e1 _ _
    injection e1 with e1
    injection e1 with e1 _
    omega
def inv (l : List Nat) : List Value := l.map fun n : Nat => Value.int .i64 (n : Int)
theorem inv_len (l : List Nat) : (inv l).length = l.length := by unfold inv; rw [List.length_map]
theorem one_int (n : Int) : ∀ u ∈ [Value.int .i64 n], u.oneCell' = true := by
  intro u hu
  simp only [List.mem_cons, List.not_mem_nil, or_false] at hu
  subst hu; rfl
structure Nums (w0 w : World) (L : Lo) (R : Nat) (F : Nat → Prop) (v : Value) (l : List Nat) : Prop where
  row : Vec w 1 v l.length (inv l)
  fresh : ∀ g, v.ownBlock = some g → w0.heap.size ≤ g ∧ ¬ allS L R F g
section
variable {w0 w w' : World} {L L' : Lo} {R R' : Nat} {F F' : Nat → Prop} {v v' : Value} {l : List Nat} {n : Nat} {S : Nat → Prop}
theorem Nums.nil : Nums w0 w L R F (.slice none 0 0) [] := ⟨(Vec.nil w 1 : Vec w 1 (.slice none 0 0) 0 []), fun g hg => by cases hg⟩
theorem Nums.to (h : Nums w0 w L R F v l) (t : To w w' L R F L' R' F') : Nums w0 w' L' R' F' v l :=
  ⟨h.row.only t.only fun g hg => (h.fresh g hg).2, fun g hg => ⟨(h.fresh g hg).1, t.stay (h.row.lt hg) (h.fresh g hg).2⟩⟩
theorem Nums.only (h : Nums w0 w L R F v l) (o : Only S w w') (hS : ∀ g, v.ownBlock = some g → ¬ S g) : Nums w0 w' L R F v l := ⟨h.row.only o hS, h.fresh⟩
theorem Nums.quiet (h : Nums w0 w L R F v l) (o : Only None' w w') : Nums w0 w' L R F v l := h.only o fun _ _ e => e
theorem Nums.cell (h : Nums w0 w L R F v l) {i : Nat} (hi : l[i]? = some n) : ∃ g off cap, v = .slice (some ⟨g, off, none⟩) l.length cap ∧ w.cell? ⟨g, off + i, none⟩ = some (.int .i64 (n : Int)) := by
  obtain ⟨hl, _⟩ := List.getElem?_eq_some_iff.1 hi
  obtain ⟨g, off, cap, e, _, _, _, hc, _⟩ := h.row.at_ (by omega)
  exact ⟨g, off, cap, e, hc i _ (by unfold inv; rw [List.getElem?_map, hi]; rfl)⟩
theorem Nums.push (h : Nums w0 w L R F v l) {w2 : World} (hlt : ∀ k, allS L R F k → k < w.heap.size) (hw0 : w0.heap.size ≤ w.heap.size) (o : Only None' w w2) (hv : Vec w' 1 v' (l.length + 1) (inv l ++ [.int .i64 (n : Int)])) (hf : ∀ k, v'.ownBlock = some k → v.ownBlock = some k ∨ w2.heap.size ≤ k) : Nums w0 w' L R F v' (l ++ [n]) := by
  refine ⟨?_, fun g hg => ?_⟩
  · have e : inv (l ++ [n]) = inv l ++ [.int .i64 (n : Int)] := by unfold inv; rw [List.map_append]; rfl
    rw [List.length_append, List.length_singleton, e]
    exact hv
  · have := o.size
    rcases hf g hg with e | e
    · exact h.fresh g e
    · exact ⟨by omega, fun hx => by have := hlt g hx; omega⟩
end
end Go.Proofs.YteoeaojebklfjaaGreatDoor
namespace Go.Proofs.YteoeaojebklfjaaGreatDoor
open Go.RowKit Go.WideShapes Go.ChangeShapes
set_option linter.unusedVariables false

theorem rd_ints {H : Type} {P : Program} {enc : TypeId × Value → H} {W : World} {spare : Nat → Bool} {held : Bool} {t e : TypeId} {fuel : Nat} {v : Value} {x : DataW H × List MemPlace}
    (ht : P.underlying t = some (.slice e)) (he : P.underlying e = some (.int .i64)) (hc : P.cellsOf e = 1) (h : DataW.trod enc P W 0 spare held fuel t [v] = some x) (hw : ∀ n ∈ x.1.weights P t, n ≤ reachBytes) :
    ∃ l : List Int, Rd W 1 v l.length (l.map (Value.int .i64)) ∧ l.length * P.bytesOf e ≤ reachBytes := by
  rcases Go.Deep.open_slice1 ht hc h with ⟨hv, _⟩ | ⟨a, len, cap, m, n, V, D, Pl, hv, _, hl, hm, hmm, hxe, hx⟩
  · simp at hv
    exact ⟨[], ⟨by simp, .inl ⟨hv, rfl⟩⟩, by simp⟩
  · simp at hv
    have hlm : len ≤ m := by rw [hmm]; split <;> omega
    have hww : (len + (m - len)) * P.bytesOf e ≤ reachBytes := by
      rw [hxe] at hw
      refine hw _ ?_
      simp [DataW.weights, ht]
    have key : ∀ j, j < len → ∃ b : Int, W.cell? (a.add j) = some (.int .i64 b) := by
      intro j hj
      obtain ⟨h1, h2⟩ := hx j (by omega)
      obtain ⟨b, q, _⟩ := DataW.trod_int he h2
      simp at q
      exact ⟨b, by rw [h1, q]⟩
    obtain ⟨l, hll, hp⟩ := list_of _ len key
    refine ⟨l, ⟨by simp, .inr ⟨a, cap, by rw [hv, hll], by omega, hm, fun j u hu => ?_⟩⟩, Nat.le_trans (Nat.mul_le_mul_right _ (by omega)) hww⟩
    rw [List.getElem?_map] at hu
    cases hj : l[j]? with
    | none => rw [hj] at hu; cases hu
    | some b =>
      rw [hj] at hu
      injection hu with hu
      obtain ⟨h1, rfl⟩ := List.getElem?_eq_some_iff.1 hj
      rw [← hu]; exact hp j h1

theorem open_ints {H : Type} {P : Program} {enc : TypeId × Value → H} {W : World} {base : Nat} {t e : TypeId} {v : Value} {d : DataW H} {ps : List MemPlace}
    (ht : P.underlying t = some (.slice e)) (he : P.underlying e = some (.int .i64)) (hc : P.cellsOf e = 1) (hok : Value.okWide P W .any base t v) (hd : DataW.Trod enc P W 0 (fun _ => true) true t v d ps) (hw : ∀ n ∈ d.weights P t, n ≤ reachBytes) :
    ∃ l : List Int, Rd W 1 v l.length (l.map (Value.int .i64)) ∧ l.length * P.bytesOf e ≤ reachBytes := by
  obtain ⟨fuel, hm⟩ := hd
  obtain ⟨a, len, cap, rfl⟩ := okWide_slice' ht hok
  exact rd_ints ht he hc (x := (d, ps)) (by simpa [Value.cells] using hm) hw
theorem cells3 : Tryz.prog.cellsOf 3 = 1 := by kernel_rfl
end Go.Proofs.YteoeaojebklfjaaGreatDoor
