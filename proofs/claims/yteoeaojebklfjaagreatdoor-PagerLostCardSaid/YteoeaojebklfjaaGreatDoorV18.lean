/- QA S0 in one text. -/
import Derived.Test.YteoeaojebklfjaaGreatDoorV17
import Derived.Test.YteoeaojebklfjaaGreatDoorV05
namespace Go.Proofs.YteoeaojebklfjaaGreatDoor
open Go.RowKit Go.Maps
set_option linter.unusedVariables false
set_option linter.unusedSimpArgs false
set_option maxRecDepth 20000

def Pg.fresh (p : Pg) : Pg := { p.touched p.m.used zs with m := { p.m with used := p.m.used + 1 } }
def Pg.again (p : Pg) (s : Sec) : Pg := { p.touched p.m.head zs with m := { p.m with head := numB (s.take 4), free := p.m.free - 1 }, idle := kDel p.idle p.m.head }
def Pg.alloc (p : Pg) (d : Dk) : (Nat × Int) × Pg :=
  if p.free = 0 then ((0, 3), p) else if p.m.head = 0 then ((p.m.used, 0), p.fresh) else
    if (p.get d p.m.head).2 = 0 then ((p.m.head, 0), p.again (p.get d p.m.head).1) else ((0, 1), p)
section
variable {w : World} {L : Lo} {lg : Value} {p : Pg} {F : Nat → Prop} {d : Dk}
theorem alloc_full (h : PgAt w L lg p) (hok : p.Ok) (hf : p.free = 0) : Calls Tryz.prog 11 #[.pointer (some ⟨L.P, 0, none⟩)] w fun e w' => e = .returned (.tuple #[.int .i64 0, .int .i64 3]) ∧ Only None' w w' := by
  have HU := Lib.hid (free_any h hok)
  rw [hf] at HU
  clear h hok hf
  go_enter Tryz.func11, Tryz.ntmps11
  go_wp2_with fail
  refine HU.out.mono ?_
  rintro e w2 ⟨rfl, o2⟩
  have HO := Lib.hid o2
  clear o2
  go_wp2_with fail
  go_ret2
  exact ⟨rfl, HO.out⟩
set_option maxHeartbeats 1000000 in
theorem alloc_bad (h : PgAt w L lg p) (hok : p.Ok) (hd : DiskAt w L.D F d) (hdd : d.dead = false) (hw : d.waits.length ≤ 1000000) (hf : p.free ≠ 0) (hh : p.m.head ≠ 0) (hg : (p.get d p.m.head).2 = 1) : Calls Tryz.prog 11 #[.pointer (some ⟨L.P, 0, none⟩)] w fun e w' => e = .returned (.tuple #[.int .i64 0, .int .i64 1]) ∧ Only None' w w' := by
  have HU := Lib.hid (free_any h hok)
  have H := Lib.hid h
  have HG : Hid (∀ w', Only None' w w' → Calls Tryz.prog 38 #[.pointer (some ⟨L.P, 0, none⟩), .int .i64 (p.m.head : Int)] w' fun e w'' => e = .returned (.tuple #[.agg (bv (p.get d p.m.head).1).toArray, .int .i64 (p.get d p.m.head).2]) ∧ Only None' w' w'') := Lib.hid fun w' o => get_any (h.new o) hok (hd.new o) hdd hw (by have := hok.m.head; omega)
  have HL := Lib.hid (get_len hok hd.ok p.m.head)
  rw [hg] at HG
  obtain ⟨s, hs⟩ : ∃ s, s = (p.get d p.m.head).1 := ⟨_, rfl⟩
  rw [← hs] at HG HL
  obtain ⟨f, hff⟩ : ∃ f, f = p.free := ⟨_, rfl⟩
  rw [← hff] at HU hf
  have f0 : (f == 0) = false := by simpa using hf
  obtain ⟨hd0, hhd⟩ : ∃ hd0, hd0 = p.m.head := ⟨_, rfl⟩
  rw [← hhd] at hh HG
  have g0 : ((hd0 : Int) == 0) = false := by simp; omega
  have g1 : (hd0 == 0) = false := by simpa using hh
  have HHD := Lib.hid hhd
  clear h hok hd hdd hw hf hg hs hff hhd hh
  go_enter Tryz.func11, Tryz.ntmps11
  go_wp2_with fail
  refine HU.out.mono ?_
  rintro e w2 ⟨rfl, o2⟩
  have HO := Lib.hid o2
  have c12 := (H.out.cells.kept o2 fun e => e).is 12 _ rfl
  change w2.cell? ⟨L.P, 12, none⟩ = some (.int .i64 (p.m.head : Int)) at c12
  rw [← HHD.out] at c12
  clear o2
  go_wp2_with fail
  refine (HG.out w2 HO.out).mono ?_
  rintro e w3 ⟨rfl, o3⟩
  have HV := Lib.hid (page_zero w3)
  have HO3 := Lib.hid (((HO.out.trans o3).alloc (.cells Tryz.zeroCells74 74)).trans2 ((Only.refl (fun k => k = w3.heap.size) _).setCells rfl 0 (bv s)) fun k hk e => by have := o3.size; have := HO.out.size; omega)
  clear o3 c12
  go_wp2_with (refine wpList_store_mid rfl 74 _ _ rfl w3.heap.size 0 (bv s).toArray rfl rfl (set_there HV.out HL.out) (size74a s HL.out) (all_oneCell_toArray (bv_one s)) ?_)
  go_ret2
  exact ⟨rfl, HO3.out⟩
set_option maxHeartbeats 1000000 in
theorem alloc_fresh (h : PgAt w L lg p) (hok : p.Ok) (hf : p.free ≠ 0) (hh : p.m.head = 0) : Calls Tryz.prog 11 #[.pointer (some ⟨L.P, 0, none⟩)] w fun e w' => e = .returned (.tuple #[.int .i64 (p.m.used : Int), .int .i64 0]) ∧ PgAt w' L lg p.fresh ∧ Only L.own w w' := by
  have HU := Lib.hid (free_any h hok)
  have H := Lib.hid h
  have HBN0 : Hid (p.now.length < 1000000 ∧ p.count.length < 1000000 ∧ p.m.used ≤ 100000000000) := Lib.hid ⟨by have := hok.nl; omega, by have := hok.cl; omega, by have := hok.m.used; omega⟩
  have HAP := Lib.hid h.ok
  obtain ⟨f, hff⟩ : ∃ f, f = p.free := ⟨_, rfl⟩
  rw [← hff] at HU hf
  have f0 : (f == 0) = false := by simpa using hf
  have HHD := Lib.hid hh
  obtain ⟨n, hn⟩ : ∃ n, n = p.m.used := ⟨_, rfl⟩
  have HNE := Lib.hid hn
  have HBN := HBN0
  rw [← hn] at HBN
  have n0 : (0 : Int) ≤ (n : Int) := by omega
  have n1 : (n : Int) ≤ 100000000000 := by have := HBN.out.2.2; omega
  clear h hok hf hff hh hn
  go_enter Tryz.func11, Tryz.ntmps11
  go_wp2_with fail
  refine HU.out.mono ?_
  rintro e w2 ⟨rfl, o2⟩
  have HO := Lib.hid o2
  have hc := H.out.cells.kept o2 fun e => e
  have c12 := hc.is 12 _ rfl
  have c11 := hc.is 11 _ rfl
  have f11 := hc.thaw 11
  change w2.cell? ⟨L.P, 12, none⟩ = some (.int .i64 (p.m.head : Int)) at c12
  change w2.cell? ⟨L.P, 11, none⟩ = some (.int .i64 (p.m.used : Int)) at c11
  rw [HHD.out] at c12
  rw [← HNE.out] at c11
  have H2 := Lib.hid (H.out.new o2)
  obtain ⟨w3, hw3⟩ : ∃ w3, w3 = w2.setCell ⟨L.P, 11, none⟩ (.int .i64 ((n : Int) + 1)) := ⟨_, rfl⟩
  have o3 : Only (fun k => k = L.P) w2 w3 := by rw [hw3]; exact (Only.refl (fun k => k = L.P) _).setCell (p := ⟨L.P, 11, none⟩) rfl _
  obtain ⟨p3, hp3⟩ : ∃ p3 : Pg, p3 = { p with m := { p.m with used := p.m.used + 1 } } := ⟨_, rfl⟩
  have H3 : Hid (PgAt w3 L lg p3) := Lib.hid (by
    rw [hp3]
    refine H2.out.setMeta ?_ o3 rfl rfl rfl rfl
    rw [hw3, HNE.out]
    exact H2.out.cells.set (i := 11) (by simp [Pg.vs]) (.int .i64 (((p.m.used + 1 : Nat) : Int))))
  have HE3 : Hid (p3.now = p.now ∧ p3.count = p.count ∧ p3.touched n zs = p.fresh) := Lib.hid (by rw [hp3, HNE.out]; exact ⟨rfl, rfl, rfl⟩)
  have HW3 := Lib.hid hw3
  have HO3 := Lib.hid o3
  clear o2 hc o3 hw3 hp3
  go_upto_region 8 with fail
  rw [← HW3.out]
  clear HW3 c11 c12 f11
  have HC : Hid (∀ w', Only (fun k => k = L.Mn ∨ k = L.Mc) w3 w' → CellsR w' L.P (p3.vs L lg)) := Lib.hid fun w' o => H3.out.cells.kept o fun e => e.elim HAP.out.pn HAP.out.pc
  have HN := Lib.hid H3.out.now
  have HK := Lib.hid H3.out.count
  rw [HE3.out.1] at HN
  rw [HE3.out.2.1] at HK
  refine r_begin (S := fun k => k = L.Mn ∨ k = L.Mc) (by kernel_rfl) ?_
  have HS := Lib.hid (Only.refl (fun k => k = L.Mn ∨ k = L.Mc) w3)
  refine r_take 0 (.pointer (some ⟨L.P, 0, none⟩)) rfl (by kernel_rfl) (fun _ _ _ h => h) HS.out (YR.pure (by rfl) fun w hw => y_move w rfl rfl) ?_
  simp only [Act.put, zA, zB, zC]
  refine r_take 1 (.pointer (some ⟨L.P, 0, none⟩)) rfl (by kernel_rfl) (fun _ _ _ h => h) HS.out (YR.pure (by rfl) fun w hw => y_nil w rfl rfl) ?_
  simp only [Act.put, zA, zB, zC]
  refine r_take 2 (.pointer (some ⟨L.P, 5, none⟩)) rfl (by kernel_rfl) (fun _ _ _ h => h) HS.out (YR.pure (by rfl) fun w hw => y_f72_5 w rfl rfl) ?_
  simp only [Act.put, zA, zB, zC]
  refine r_take 3 (.map (some L.Mn)) rfl (by kernel_rfl) (fun _ _ _ h => h) HS.out (YR.pure (by rfl) fun w hw => y_load69 rfl rfl ((HC.out w hw).is 5 _ rfl)) ?_
  simp only [Act.put, zA, zB, zC]
  refine r_take 4 (.int .i64 (n : Int)) rfl (by kernel_rfl) (fun _ _ _ h => h) HS.out (YR.pure (by rfl) fun w hw => y_move w rfl rfl) ?_
  simp only [Act.put, zA, zB, zC]
  refine r_take 5 (.pointer (some ⟨L.P, 0, none⟩)) rfl (by kernel_rfl) (fun _ _ _ h => h) HS.out (YR.pure (by rfl) fun w hw => y_move w rfl rfl) ?_
  simp only [Act.put, zA, zB, zC]
  refine r_take 6 (.pointer (some ⟨L.P, 0, none⟩)) rfl (by kernel_rfl) (fun _ _ _ h => h) HS.out (YR.pure (by rfl) fun w hw => y_nil w rfl rfl) ?_
  simp only [Act.put, zA, zB, zC]
  refine r_take 7 (.pointer (some ⟨L.P, 15, none⟩)) rfl (by kernel_rfl) (fun _ _ _ h => h) HS.out (YR.pure (by rfl) fun w hw => y_f72_9 w rfl rfl) ?_
  simp only [Act.put, zA, zB, zC]
  refine r_take 8 (.map (some L.Mc)) rfl (by kernel_rfl) (fun _ _ _ h => h) HS.out (YR.pure (by rfl) fun w hw => y_load70 rfl rfl ((HC.out w hw).is 15 _ rfl)) ?_
  simp only [Act.put, zA, zB, zC]
  refine r_take 9 (.int .i64 (n : Int)) rfl (by kernel_rfl) (fun _ _ _ h => h) HS.out (YR.pure (by rfl) fun w hw => y_move w rfl rfl) ?_
  simp only [Act.put, zA, zB, zC]
  refine r_take 10 (.agg (bv zs).toArray) rfl (by kernel_rfl) (fun _ _ _ h => h) HS.out (YR.pure (by rfl) fun w hw => y_zero74 w rfl) ?_
  simp only [Act.put, zA, zB, zC]
  refine r_one 11 rfl (by kernel_rfl) (by rfl) fun wi oi => ?_
  refine wp_entry69 (n := n) rfl rfl rfl (HN.out.new oi) HBN.out.1 HBN.out.2.2 fun v0 st wj hh oj => ⟨(HS.out.quiet oi).trans (oj.mono fun k hk e => .inl e), ?_⟩
  simp only [Act.put, zA, zB, zC]
  have HT := Lib.hid ((HS.out.quiet oi).trans (oj.mono fun k hk e => .inl e))
  have HH := Lib.hid hh
  have HK2 := Lib.hid ((HK.out.new oi).only oj fun e => HAP.out.nc e.symm)
  clear hh HN HK
  clear HS oi oj
  have HS := HT
  clear HT
  refine r_take 12 (goInt st) rfl (by kernel_rfl) (fun _ _ _ h => h) HS.out (YR.pure (by rfl) fun w hw => y_ext1 w rfl rfl) ?_
  simp only [Act.put, zA, zB, zC]
  refine r_one 13 rfl (by kernel_rfl) (by rfl) fun wi oi => ?_
  refine wp_estore69 (st := st) (s := zs) rfl rfl rfl rfl (HH.out.only oi fun e => e) fun wj hm oj => ⟨(HS.out.quiet oi).trans (oj.mono fun k hk e => .inl e), ?_⟩
  simp only [Act.put, zA, zB, zC]
  have HT := Lib.hid ((HS.out.quiet oi).trans (oj.mono fun k hk e => .inl e))
  have HN := Lib.hid hm
  have HK := Lib.hid ((HK2.out.new oi).only oj fun e => HAP.out.nc e.symm)
  clear hm HH HK2
  clear HS oi oj
  have HS := HT
  clear HT
  refine r_one 14 rfl (by kernel_rfl) (by rfl) fun wi oi => ?_
  refine wp_entry70 (n := n) rfl rfl rfl (HK.out.new oi) HBN.out.2.1 HBN.out.2.2 fun v1 st2 wj hh oj => ⟨(HS.out.quiet oi).trans (oj.mono fun k hk e => .inr e), ?_⟩
  simp only [Act.put, zA, zB, zC]
  have HT := Lib.hid ((HS.out.quiet oi).trans (oj.mono fun k hk e => .inr e))
  have HH := Lib.hid hh
  have HN2 := Lib.hid ((HN.out.new oi).only oj fun e => HAP.out.nc e)
  clear hh HN HK
  clear HS oi oj
  have HS := HT
  clear HT
  refine r_take 15 (goInt st2) rfl (by kernel_rfl) (fun _ _ _ h => h) HS.out (YR.pure (by rfl) fun w hw => y_ext1 w rfl rfl) ?_
  simp only [Act.put, zA, zB, zC]
  refine r_one 16 rfl (by kernel_rfl) (by rfl) fun wi oi => ?_
  refine wp_estore70 (st := st2) (s := true) rfl rfl rfl rfl (HH.out.only oi fun e => e) fun wj hm oj => ⟨(HS.out.quiet oi).trans (oj.mono fun k hk e => .inr e), ?_⟩
  simp only [Act.put, zA, zB, zC]
  have HT := Lib.hid ((HS.out.quiet oi).trans (oj.mono fun k hk e => .inr e))
  have HK := Lib.hid hm
  have HN := Lib.hid ((HN2.out.new oi).only oj fun e => HAP.out.nc e)
  clear hm HH HN2
  clear HS oi oj
  have HS := HT
  clear HT
  refine r_done (by kernel_rfl) fun wz oz => ?_
  have HF2 := Lib.hid (And.intro (HN.out.new oz) (And.intro (HK.out.new oz) (HS.out.quiet oz)))
  clear HS oz HN HK HC
  generalize wz = w5 at HF2 ⊢
  go_wp2_with fail
  go_ret2
  refine ⟨by rw [HNE.out]; rfl, ?_, ?_⟩
  · have := H3.out.touched (n := n) (s := zs) HF2.out.2.2 (by rw [HE3.out.1]; exact HF2.out.1) (by rw [HE3.out.2.1]; exact HF2.out.2.1)
    rw [HE3.out.2.2] at this
    exact this
  · have oA := (HO.out.mono (S' := L.own) fun _ _ e => e.elim).trans2 (S := L.own) HO3.out fun k hk e => .inl e
    exact oA.trans2 HF2.out.2.2 fun k hk e => e.elim (fun e => .inr (.inr (.inl e))) fun e => .inr (.inr (.inr (.inr e)))
theorem wpList_delete70 {w : World} {ops : Array Oper} {rest : List Oper} {o : Oper} {a : Act} {Q : Exit → Act → World → Prop} (hgd : o.guard = none) (x y : Operand) (ho : o.op = .call { callee := .builtin .delete, args := #[x, y], argTypes := #[70, 3] }) (b n : Nat) (l : List (Nat × Bool)) (hx : a.eval x = .map (some b)) (hy : a.eval y = .int .i64 (n : Int))
    (h : Mp mkE w b l) (hn : n ≤ 100000000000)
    (hK : ∀ w', Mp mkE w' b (kDel l n) → Only (fun k => k = b) w w' → wpList Tryz.prog ops Q rest (a.put o.dst (.tuple #[])) w') : wpList Tryz.prog ops Q (o :: rest) a w := by
  refine wpList_plain hgd fun K hK2 => ?_
  obtain ⟨w', h1, h2, h3⟩ := h.delete under70 hn o.type
  unfold Oper.wp execOp
  simp only [ho, resolve, invoke, builtin, Sem.run_bind, Sem.run_pure, Result.andThen_ok, List.map_toArray, List.map_cons, List.map_nil, hx, hy, h1]
  exact hK2 _ _ (hK _ h2 h3)
set_option maxHeartbeats 1000000 in
theorem alloc_again (h : PgAt w L lg p) (hok : p.Ok) (hd : DiskAt w L.D F d) (hdd : d.dead = false) (hw : d.waits.length ≤ 1000000) (hf : p.free ≠ 0) (hh : p.m.head ≠ 0) {s : Sec} (hg : p.get d p.m.head = (s, 0)) : Calls Tryz.prog 11 #[.pointer (some ⟨L.P, 0, none⟩)] w fun e w' => e = .returned (.tuple #[.int .i64 (p.m.head : Int), .int .i64 0]) ∧ PgAt w' L lg (p.again s) ∧ Only L.own w w' := by
  have HU := Lib.hid (free_any h hok)
  have H := Lib.hid h
  have HG : Hid (∀ w', Only None' w w' → Calls Tryz.prog 38 #[.pointer (some ⟨L.P, 0, none⟩), .int .i64 (p.m.head : Int)] w' fun e w'' => e = .returned (.tuple #[.agg (bv (p.get d p.m.head).1).toArray, .int .i64 (p.get d p.m.head).2]) ∧ Only None' w' w'') := Lib.hid fun w' o => get_any (h.new o) hok (hd.new o) hdd hw (by have := hok.m.head; omega)
  have HL := Lib.hid (get_len hok hd.ok p.m.head)
  rw [hg] at HG HL
  have HBN0 : Hid (p.now.length < 1000000 ∧ p.count.length < 1000000 ∧ p.m.head ≤ 100000000000) := Lib.hid ⟨by have := hok.nl; omega, by have := hok.cl; omega, by have := hok.m.head; omega⟩
  have HAP := Lib.hid h.ok
  have HFR : Hid (-10000000000 ≤ p.m.free ∧ p.m.free ≤ 10000000000) := Lib.hid ⟨hok.m.free0, hok.m.free⟩
  obtain ⟨f, hff⟩ : ∃ f, f = p.free := ⟨_, rfl⟩
  rw [← hff] at HU hf
  have f0 : (f == 0) = false := by simpa using hf
  obtain ⟨n, hhd⟩ : ∃ n, n = p.m.head := ⟨_, rfl⟩
  have HBN := HBN0
  rw [← hhd] at hh HG HBN
  have g0 : ((n : Int) == 0) = false := by simp; omega
  have g1 : (n == 0) = false := by simpa using hh
  have HHD := Lib.hid hhd
  clear h hok hd hdd hw hf hg hff hhd hh
  go_enter Tryz.func11, Tryz.ntmps11
  go_wp2_with fail
  refine HU.out.mono ?_
  rintro e w2 ⟨rfl, o2⟩
  have HO := Lib.hid o2
  have c12 := (H.out.cells.kept o2 fun e => e).is 12 _ rfl
  change w2.cell? ⟨L.P, 12, none⟩ = some (.int .i64 (p.m.head : Int)) at c12
  rw [← HHD.out] at c12
  clear o2
  go_wp2_with fail
  refine (HG.out w2 HO.out).mono ?_
  rintro e w3 ⟨rfl, o3⟩
  have HV := Lib.hid (page_zero w3)
  have o4 := (((HO.out.trans o3).alloc (.cells Tryz.zeroCells74 74)).trans2 ((Only.refl (fun k => k = w3.heap.size) _).setCells rfl 0 (bv s)) fun k hk e => by have := o3.size; have := HO.out.size; omega)
  have HP := page_stored HV.out HL.out
  obtain ⟨W, hW⟩ : ∃ W, W = (w3.alloc (.cells Tryz.zeroCells74 74)).setCells w3.heap.size 0 (bv s) := ⟨_, rfl⟩
  rw [← hW] at o4 HP
  have HW := Lib.hid hW
  have HO4 := Lib.hid (And.intro HP o4)
  clear o3 c12 o4 HP hW
  go_upto_region 14 with (first | (refine wpList_store_mid rfl 74 _ _ rfl w3.heap.size 0 (bv s).toArray rfl rfl (set_there HV.out HL.out) (size74a s HL.out) (all_oneCell_toArray (bv_one s)) ?_; change wpList _ _ _ _ _ ((w3.alloc (.cells Tryz.zeroCells74 74)).setCells w3.heap.size 0 (bv s)); rw [← HW.out]; clear HW))
  have H4 : Hid (PgAt W L lg p) := Lib.hid (H.out.new HO4.out.2)
  obtain ⟨fr, hfr⟩ : ∃ fr, fr = p.m.free - 1 := ⟨_, rfl⟩
  have HFE := Lib.hid (And.intro hfr.symm (show -10000000001 ≤ fr ∧ fr ≤ 10000000000 by have := HFR.out; omega))
  have hl4 : (s.take 4).length = 4 := by rw [List.length_take, HL.out]; decide
  have HNU : Hid (∀ w', Only None' W w' → Calls Tryz.prog 39 #[.slice (some ⟨w3.heap.size, 0, none⟩) 4 512] w' fun e w'' => e = .returned (.int .i64 (numB (s.take 4) : Int)) ∧ w'' = w') := Lib.hid fun w' o => by
    have := number_any (w := w') (g := w3.heap.size) (off := 0) (cap := 512) (s := s.take 4) (fun j u hu => by
      have hj : j < 4 := by
        have := (List.getElem?_eq_some_iff.1 hu).1
        rwa [bv_length, hl4] at this
      refine (HO4.out.1.only o fun _ _ e => e).range j u ?_
      unfold bv at hu ⊢
      rwa [List.map_take, List.getElem?_take_of_lt hj] at hu) (by omega) (by omega) (by have := numB_lt4 hl4; omega)
    rw [hl4] at this
    exact this.mono fun e w'' h => ⟨h.1, h.2.symm⟩
  obtain ⟨nx, hnx⟩ : ∃ nx, nx = numB (s.take 4) := ⟨_, rfl⟩
  have HNX := Lib.hid (And.intro hnx (show nx < 4294967296 by rw [hnx]; exact numB_lt4 hl4))
  rw [← hnx] at HNU
  have HC : Hid (∀ w', Only None' W w' → CellsR w' L.P (p.vs L lg)) := Lib.hid fun w' o => H4.out.cells.kept o fun e => e
  have HC0 := Lib.hid H4.out.cells
  clear hl4 hnx hfr
  refine r_begin' (W := [13, 17]) (S := fun k => k = L.P) (by kernel_rfl) ?_
  have HS := Lib.hid (Only.refl None' W)
  refine r_take' 0 (.pointer (some ⟨L.P, 0, none⟩)) rfl (by kernel_rfl) (fun _ _ _ h => h) (HS.out.mono fun _ _ e => e.elim) (YR.pure (by rfl) fun w hw => y_move w rfl rfl) ?_
  simp only [Act.put, zA, zB, zC]
  refine r_take' 1 (.pointer (some ⟨L.P, 0, none⟩)) rfl (by kernel_rfl) (fun _ _ _ h => h) (HS.out.mono fun _ _ e => e.elim) (YR.pure (by rfl) fun w hw => y_move w rfl rfl) ?_
  simp only [Act.put, zA, zB, zC]
  refine r_take' 2 (.slice (some ⟨w3.heap.size, 0, none⟩) 4 512) rfl (by kernel_rfl) (fun _ _ _ h => h) (HS.out.mono fun _ _ e => e.elim) (YR.pure (by rfl) fun w hw => y_slice74_4 w rfl rfl rfl) ?_
  simp only [Act.put, zA, zB, zC]
  refine r_takeN 3 (.int .i64 (nx : Int)) rfl (by kernel_rfl) (by kernel_rfl) (fun _ _ _ h => h) HS.out (YR.call (by rfl) (fun w => y_enter [.slice (some ⟨w3.heap.size, 0, none⟩) 4 512] rfl (by rfl) (call39_ _) w) fun w hw => (HNU.out w hw).mono fun e w2 h => ⟨h.1, by rw [h.2]; exact Only.refl _ _⟩) ?_
  simp only [Act.put, zA, zB, zC]
  refine r_take' 4 (.pointer (some ⟨L.P, 0, none⟩)) rfl (by kernel_rfl) (fun _ _ _ h => h) (HS.out.mono fun _ _ e => e.elim) (YR.pure (by rfl) fun w hw => y_move w rfl rfl) ?_
  simp only [Act.put, zA, zB, zC]
  refine r_take' 5 (.pointer (some ⟨L.P, 0, none⟩)) rfl (by kernel_rfl) (fun _ _ _ h => h) (HS.out.mono fun _ _ e => e.elim) (YR.pure (by rfl) fun w hw => y_nil w rfl rfl) ?_
  simp only [Act.put, zA, zB, zC]
  refine r_take' 6 (.pointer (some ⟨L.P, 10, none⟩)) rfl (by kernel_rfl) (fun _ _ _ h => h) (HS.out.mono fun _ _ e => e.elim) (YR.pure (by rfl) fun w hw => y_f72_7 w rfl rfl) ?_
  simp only [Act.put, zA, zB, zC]
  refine r_take' 7 (.pointer (some ⟨L.P, 13, none⟩)) rfl (by kernel_rfl) (fun _ _ _ h => h) (HS.out.mono fun _ _ e => e.elim) (YR.pure (by rfl) fun w hw => y_f67_3 w rfl rfl) ?_
  simp only [Act.put, zA, zB, zC]
  refine r_takeN 8 (.int .i64 p.m.free) rfl (by kernel_rfl) (by kernel_rfl) (fun _ _ _ h => h) HS.out (YR.pure (by rfl) fun w hw => y_load3 rfl rfl ((HC.out w hw).is 13 _ rfl)) ?_
  simp only [Act.put, zA, zB, zC]
  refine r_take' 9 (.int .i64 fr) rfl (by kernel_rfl) (fun _ _ _ h => h) (HS.out.mono fun _ _ e => e.elim) (YR.pure (by rfl) fun w hw => y_sub3 w (p := p.m.free) (q := 1) HFE.out.1 (by have := HFE.out.2; omega) (by have := HFE.out.2; omega) rfl rfl rfl) ?_
  simp only [Act.put, zA, zB, zC]
  refine r_take' 10 (.pointer (some ⟨L.P, 0, none⟩)) rfl (by kernel_rfl) (fun _ _ _ h => h) (HS.out.mono fun _ _ e => e.elim) (YR.pure (by rfl) fun w hw => y_nil w rfl rfl) ?_
  simp only [Act.put, zA, zB, zC]
  refine r_take' 11 (.pointer (some ⟨L.P, 10, none⟩)) rfl (by kernel_rfl) (fun _ _ _ h => h) (HS.out.mono fun _ _ e => e.elim) (YR.pure (by rfl) fun w hw => y_f72_7 w rfl rfl) ?_
  simp only [Act.put, zA, zB, zC]
  refine r_take' 12 (.pointer (some ⟨L.P, 12, none⟩)) rfl (by kernel_rfl) (fun _ _ _ h => h) (HS.out.mono fun _ _ e => e.elim) (YR.pure (by rfl) fun w hw => y_f67_2 w rfl rfl) ?_
  simp only [Act.put, zA, zB, zC]
  refine r_one' 13 rfl (by kernel_rfl) (by rfl) fun wi oi => ?_
  refine wp_setR (p := (nx : Int)) rfl rfl rfl (HC0.out.kept oi fun e => e) (by simp [Pg.vs]) fun wj hc oj => ⟨oj.mono fun k _ e => ⟨rfl, e⟩, ?_⟩
  simp only [Act.put, zA, zB, zC]
  have HT := Lib.hid (((HS.out.mono (S' := fun k => k = L.P) fun _ _ e => e.elim).quiet oi).trans oj)
  have HC1 := Lib.hid hc
  clear HS oi oj hc
  have HS := HT
  clear HT
  refine r_take' 14 (.pointer (some ⟨L.P, 0, none⟩)) rfl (by kernel_rfl) (fun _ _ _ h => h) HS.out (YR.pure (by rfl) fun w hw => y_nil w rfl rfl) ?_
  simp only [Act.put, zA, zB, zC]
  refine r_take' 15 (.pointer (some ⟨L.P, 10, none⟩)) rfl (by kernel_rfl) (fun _ _ _ h => h) HS.out (YR.pure (by rfl) fun w hw => y_f72_7 w rfl rfl) ?_
  simp only [Act.put, zA, zB, zC]
  refine r_take' 16 (.pointer (some ⟨L.P, 13, none⟩)) rfl (by kernel_rfl) (fun _ _ _ h => h) HS.out (YR.pure (by rfl) fun w hw => y_f67_3 w rfl rfl) ?_
  simp only [Act.put, zA, zB, zC]
  refine r_one' 17 rfl (by kernel_rfl) (by rfl) fun wi oi => ?_
  refine wp_setR (p := fr) rfl rfl rfl (HC1.out.kept oi fun e => e) (by simp [Pg.vs]) fun wj hc oj => ⟨oj.mono fun k _ e => ⟨rfl, e⟩, ?_⟩
  simp only [Act.put, zA, zB, zC]
  have HT := Lib.hid ((HS.out.quiet oi).trans oj)
  have HC2 := Lib.hid hc
  clear HS oi oj hc
  have HS := HT
  clear HT
  refine r_done' (by kernel_rfl) fun wz oz => ?_
  obtain ⟨p6, hp6⟩ : ∃ p6 : Pg, p6 = { p with m := { p.m with head := nx, free := p.m.free - 1 } } := ⟨_, rfl⟩
  have H6 : Hid (PgAt wz L lg p6) := Lib.hid (by
    rw [hp6]
    refine H4.out.setMeta ?_ (HS.out.quiet oz) rfl rfl rfl rfl
    have := HC2.out.kept oz fun e => e
    rw [← HFE.out.1] at this
    exact this)
  have HE6 : Hid (p6.now = p.now ∧ p6.count = p.count ∧ p6.idle = p.idle ∧ ({ p6 with idle := kDel p.idle n } : Pg).touched n zs = p.again s) := Lib.hid (by rw [hp6, HHD.out, HNX.out.1]; exact ⟨rfl, rfl, rfl, rfl⟩)
  have HO6 := Lib.hid (HS.out.quiet oz)
  clear HS oz HC2 HC0 HC hp6
  generalize wz = w6 at H6 HO6 ⊢
  have c14 := H6.out.cells.is 14 _ rfl
  go_upto_region 16 with (refine wpList_delete70 rfl _ _ rfl L.Mi n p.idle rfl rfl (by have := H6.out.idle; rwa [HE6.out.2.2.1] at this) HBN.out.2.2 ?_; intro w7 hm7 o7; have H7 := Lib.hid (And.intro hm7 o7); clear hm7 o7 c14)
  have H8 : Hid (PgAt w7 L lg { p6 with idle := kDel p.idle n }) := Lib.hid (H6.out.setIdle H7.out.1 H7.out.2)
  have HC : Hid (∀ w', Only (fun k => k = L.Mn ∨ k = L.Mc) w7 w' → CellsR w' L.P (Pg.vs L lg { p6 with idle := kDel p.idle n })) := Lib.hid fun w' o => H8.out.cells.kept o fun e => e.elim HAP.out.pn HAP.out.pc
  have HN := Lib.hid H8.out.now
  have HK := Lib.hid H8.out.count
  change Hid (Mp pgE w7 L.Mn p6.now) at HN
  change Hid (Mp mkE w7 L.Mc p6.count) at HK
  rw [HE6.out.1] at HN
  rw [HE6.out.2.1] at HK
  refine r_begin (S := fun k => k = L.Mn ∨ k = L.Mc) (by kernel_rfl) ?_
  have HS := Lib.hid (Only.refl (fun k => k = L.Mn ∨ k = L.Mc) w7)
  refine r_take 0 (.pointer (some ⟨L.P, 0, none⟩)) rfl (by kernel_rfl) (fun _ _ _ h => h) HS.out (YR.pure (by rfl) fun w hw => y_move w rfl rfl) ?_
  simp only [Act.put, zA, zB, zC]
  refine r_take 1 (.pointer (some ⟨L.P, 0, none⟩)) rfl (by kernel_rfl) (fun _ _ _ h => h) HS.out (YR.pure (by rfl) fun w hw => y_nil w rfl rfl) ?_
  simp only [Act.put, zA, zB, zC]
  refine r_take 2 (.pointer (some ⟨L.P, 5, none⟩)) rfl (by kernel_rfl) (fun _ _ _ h => h) HS.out (YR.pure (by rfl) fun w hw => y_f72_5 w rfl rfl) ?_
  simp only [Act.put, zA, zB, zC]
  refine r_take 3 (.map (some L.Mn)) rfl (by kernel_rfl) (fun _ _ _ h => h) HS.out (YR.pure (by rfl) fun w hw => y_load69 rfl rfl ((HC.out w hw).is 5 _ rfl)) ?_
  simp only [Act.put, zA, zB, zC]
  refine r_take 4 (.int .i64 (n : Int)) rfl (by kernel_rfl) (fun _ _ _ h => h) HS.out (YR.pure (by rfl) fun w hw => y_move w rfl rfl) ?_
  simp only [Act.put, zA, zB, zC]
  refine r_take 5 (.pointer (some ⟨L.P, 0, none⟩)) rfl (by kernel_rfl) (fun _ _ _ h => h) HS.out (YR.pure (by rfl) fun w hw => y_move w rfl rfl) ?_
  simp only [Act.put, zA, zB, zC]
  refine r_take 6 (.pointer (some ⟨L.P, 0, none⟩)) rfl (by kernel_rfl) (fun _ _ _ h => h) HS.out (YR.pure (by rfl) fun w hw => y_nil w rfl rfl) ?_
  simp only [Act.put, zA, zB, zC]
  refine r_take 7 (.pointer (some ⟨L.P, 15, none⟩)) rfl (by kernel_rfl) (fun _ _ _ h => h) HS.out (YR.pure (by rfl) fun w hw => y_f72_9 w rfl rfl) ?_
  simp only [Act.put, zA, zB, zC]
  refine r_take 8 (.map (some L.Mc)) rfl (by kernel_rfl) (fun _ _ _ h => h) HS.out (YR.pure (by rfl) fun w hw => y_load70 rfl rfl ((HC.out w hw).is 15 _ rfl)) ?_
  simp only [Act.put, zA, zB, zC]
  refine r_take 9 (.int .i64 (n : Int)) rfl (by kernel_rfl) (fun _ _ _ h => h) HS.out (YR.pure (by rfl) fun w hw => y_move w rfl rfl) ?_
  simp only [Act.put, zA, zB, zC]
  refine r_take 10 (.agg (bv zs).toArray) rfl (by kernel_rfl) (fun _ _ _ h => h) HS.out (YR.pure (by rfl) fun w hw => y_zero74 w rfl) ?_
  simp only [Act.put, zA, zB, zC]
  refine r_one 11 rfl (by kernel_rfl) (by rfl) fun wi oi => ?_
  refine wp_entry69 (n := n) rfl rfl rfl (HN.out.new oi) HBN.out.1 HBN.out.2.2 fun v0 st wj hh oj => ⟨(HS.out.quiet oi).trans (oj.mono fun k hk e => .inl e), ?_⟩
  simp only [Act.put, zA, zB, zC]
  have HT := Lib.hid ((HS.out.quiet oi).trans (oj.mono fun k hk e => .inl e))
  have HH := Lib.hid hh
  have HK2 := Lib.hid ((HK.out.new oi).only oj fun e => HAP.out.nc e.symm)
  clear hh HN HK
  clear HS oi oj
  have HS := HT
  clear HT
  refine r_take 12 (goInt st) rfl (by kernel_rfl) (fun _ _ _ h => h) HS.out (YR.pure (by rfl) fun w hw => y_ext1 w rfl rfl) ?_
  simp only [Act.put, zA, zB, zC]
  refine r_one 13 rfl (by kernel_rfl) (by rfl) fun wi oi => ?_
  refine wp_estore69 (st := st) (s := zs) rfl rfl rfl rfl (HH.out.only oi fun e => e) fun wj hm oj => ⟨(HS.out.quiet oi).trans (oj.mono fun k hk e => .inl e), ?_⟩
  simp only [Act.put, zA, zB, zC]
  have HT := Lib.hid ((HS.out.quiet oi).trans (oj.mono fun k hk e => .inl e))
  have HN := Lib.hid hm
  have HK := Lib.hid ((HK2.out.new oi).only oj fun e => HAP.out.nc e.symm)
  clear hm HH HK2
  clear HS oi oj
  have HS := HT
  clear HT
  refine r_one 14 rfl (by kernel_rfl) (by rfl) fun wi oi => ?_
  refine wp_entry70 (n := n) rfl rfl rfl (HK.out.new oi) HBN.out.2.1 HBN.out.2.2 fun v1 st2 wj hh oj => ⟨(HS.out.quiet oi).trans (oj.mono fun k hk e => .inr e), ?_⟩
  simp only [Act.put, zA, zB, zC]
  have HT := Lib.hid ((HS.out.quiet oi).trans (oj.mono fun k hk e => .inr e))
  have HH := Lib.hid hh
  have HN2 := Lib.hid ((HN.out.new oi).only oj fun e => HAP.out.nc e)
  clear hh HN HK
  clear HS oi oj
  have HS := HT
  clear HT
  refine r_take 15 (goInt st2) rfl (by kernel_rfl) (fun _ _ _ h => h) HS.out (YR.pure (by rfl) fun w hw => y_ext1 w rfl rfl) ?_
  simp only [Act.put, zA, zB, zC]
  refine r_one 16 rfl (by kernel_rfl) (by rfl) fun wi oi => ?_
  refine wp_estore70 (st := st2) (s := true) rfl rfl rfl rfl (HH.out.only oi fun e => e) fun wj hm oj => ⟨(HS.out.quiet oi).trans (oj.mono fun k hk e => .inr e), ?_⟩
  simp only [Act.put, zA, zB, zC]
  have HT := Lib.hid ((HS.out.quiet oi).trans (oj.mono fun k hk e => .inr e))
  have HK := Lib.hid hm
  have HN := Lib.hid ((HN2.out.new oi).only oj fun e => HAP.out.nc e)
  clear hm HH HN2
  clear HS oi oj
  have HS := HT
  clear HT
  refine r_done (by kernel_rfl) fun wz oz => ?_
  have HF2 := Lib.hid (And.intro (HN.out.new oz) (And.intro (HK.out.new oz) (HS.out.quiet oz)))
  clear HS oz HN HK HC
  generalize wz = w9 at HF2 ⊢
  go_wp2_with fail
  go_ret2
  refine ⟨by rw [← HHD.out]; rfl, ?_, ?_⟩
  · have := H8.out.touched (n := n) (s := zs) HF2.out.2.2 (by show Mp pgE w9 L.Mn (ins n zs p6.now); rw [HE6.out.1]; exact HF2.out.1) (by show Mp mkE w9 L.Mc (ins n true p6.count); rw [HE6.out.2.1]; exact HF2.out.2.1)
    rw [HE6.out.2.2.2] at this
    exact this
  · have oA := (HO4.out.2.mono (S' := L.own) fun _ _ e => e.elim).trans2 (S := L.own) HO6.out fun k hk e => .inl e
    have oB := oA.trans2 H7.out.2 fun k hk e => .inr (.inr (.inr (.inl e)))
    exact oB.trans2 HF2.out.2.2 fun k hk e => e.elim (fun e => .inr (.inr (.inl e))) fun e => .inr (.inr (.inr (.inr e)))
end
end Go.Proofs.YteoeaojebklfjaaGreatDoor
namespace Go.Proofs.YteoeaojebklfjaaGreatDoor
open Go.RowKit Go.Maps
set_option linter.unusedVariables false

section
variable {α : Type}
theorem rise_len : ∀ (l : List (Nat × α)) (a m : Nat), kRise l → (∀ q ∈ l, a ≤ q.1 ∧ q.1 < m) → l.length ≤ m - a
  | [], _, _, _, _ => Nat.zero_le _
  | p :: l, a, m, hr, hb => by
    have h0 := hb p (by simp)
    have hp := List.pairwise_cons.1 hr
    have h1 := rise_len l (p.1 + 1) m hp.2 fun q hq => ⟨hp.1 q hq, (hb q (by simp [hq])).2⟩
    simp only [List.length_cons]
    omega
theorem rise_le {l : List (Nat × α)} {m : Nat} (hr : kRise l) (hb : ∀ q ∈ l, q.1 < m) : l.length ≤ m := by
  have := rise_len l 0 m hr fun q hq => ⟨Nat.zero_le _, hb q hq⟩
  omega
theorem len_ins_new (n : Nat) (x : α) : ∀ l : List (Nat × α), kLook l n = none → (ins n x l).length = l.length + 1
  | [], _ => rfl
  | p :: l, h => by
    rw [kLook_cons] at h
    by_cases e : p.1 = n
    · rw [if_pos e] at h; cases h
    · rw [if_neg e] at h
      unfold ins
      by_cases e1 : n < p.1
      · rw [if_pos e1]; rfl
      · rw [if_neg e1, if_neg e, List.length_cons, len_ins_new n x l h, List.length_cons]
def insL (l : List (Nat × α)) (D : List (Nat × α)) : List (Nat × α) := l.foldl (fun D q => ins q.1 q.2 D) D
theorem insL_nil (D : List (Nat × α)) : insL [] D = D := rfl
theorem insL_cons (q : Nat × α) (l D : List (Nat × α)) : insL (q :: l) D = insL l (ins q.1 q.2 D) := rfl
theorem insL_append (a b D : List (Nat × α)) : insL (a ++ b) D = insL b (insL a D) := List.foldl_append ..
theorem rise_insL : ∀ (l D : List (Nat × α)), kRise D → kRise (insL l D)
  | [], _, h => h
  | q :: l, D, h => rise_insL l _ (rise_ins h)
theorem len_insL : ∀ (l D : List (Nat × α)), (insL l D).length ≤ D.length + l.length
  | [], _ => Nat.le_refl _
  | q :: l, D => by
    have h1 := len_insL l (ins q.1 q.2 D)
    have h2 := len_ins q.1 q.2 D
    rw [insL_cons, List.length_cons]
    omega
theorem mem_insL {q : Nat × α} : ∀ {l D : List (Nat × α)}, q ∈ insL l D → q ∈ l ∨ q ∈ D
  | [], _, h => .inr h
  | p :: l, D, h => by
    rcases mem_insL (l := l) h with h | h
    · exact .inl (List.mem_cons_of_mem _ h)
    · rcases mem_ins h with rfl | h
      · exact .inl (by simp)
      · exact .inr h
theorem look_insL (n : Nat) : ∀ (l D : List (Nat × α)), kRise l → kLook (insL l D) n = (kLook l n).or (kLook D n)
  | [], D, _ => by simp [insL_nil, kLook_nil]
  | q :: l, D, h => by
    have hp := List.pairwise_cons.1 h
    rw [insL_cons, look_insL n l _ hp.2, look_ins, kLook_cons]
    by_cases e : q.1 = n
    · rw [if_pos e, if_pos e]
      have : kLook l n = none := by
        cases hx : kLook l n with
        | none => rfl
        | some x =>
          have := hp.1 _ (look_mem hx)
          simp only at this
          omega
      rw [this]; rfl
    · rw [if_neg e, if_neg e]
end

def Pg.chase (p : Pg) (d : Dk) : Nat → Nat → List (Nat × Bool) → List (Nat × Bool)
  | 0, _, I => I
  | f + 1, n, I => if n = 0 ∨ p.pages ≤ n ∨ (kLook I n).getD false = true then I
      else Pg.chase p d f (numB ((p.get d n).1.take 4)) (ins n true I)
def Pg.cleared (p : Pg) : Pg := { p with now := [], count := [], idle := [] }
def Pg.aborting (p : Pg) (d : Dk) (I : List (Nat × Bool)) : Pg := { p.cleared with kept := metaOf (p.cleared.get d 0).1, m := metaOf (p.cleared.get d 0).1, idle := I }
def Pg.abort (p : Pg) (d : Dk) : Pg := p.aborting d (p.cleared.chase d (p.pages + 1) (metaOf (p.cleared.get d 0).1).head [])

def layP (first : Nat) : List (Nat × Sec) → Dk → Int × Dk
  | [], d => (0, d)
  | q :: l, d => if first + q.1 < d.lasts.length then (if d.due then (20, d.write (first + q.1) q.2) else layP first l (d.write (first + q.1) q.2)) else (1, d)
theorem layP_cons (first : Nat) (q : Nat × Sec) (l : List (Nat × Sec)) (d : Dk) : layP first (q :: l) d = if first + q.1 < d.lasts.length then (if d.due then (20, d.write (first + q.1) q.2) else layP first l (d.write (first + q.1) q.2)) else (1, d) := rfl
def Pg.settled (p : Pg) : Pg := { p with dirty := [] }
def settleD (first : Nat) (l : List (Nat × Sec)) (d : Dk) (base : Nat) : Int × Dk :=
  if (layP first l d).1 ≠ 0 then layP first l d
  else if (layP first l d).2.due then (20, (layP first l d).2.flush)
  else headR (layP first l d).2.flush base
structure Sy where
  p : Pg
  r : Rg
  d : Dk
def Sy.settle (s : Sy) (base : Nat) : Int × Sy :=
  if (settleD s.p.first s.p.dirty s.d base).1 = 0 then (0, ⟨s.p.settled, Rg.opened 1 (s.d.lasts.length / 4) base (gAt 1 (settleD s.p.first s.p.dirty s.d base).2), (settleD s.p.first s.p.dirty s.d base).2⟩)
  else ((settleD s.p.first s.p.dirty s.d base).1, ⟨s.p, s.r, (settleD s.p.first s.p.dirty s.d base).2⟩)

def uvM (n : Nat) : List UInt8 := if n ≤ 2147483647 then uv n else []
def recOneG (p : Nat × Sec) : List UInt8 := uvM p.1 ++ (uv (trimR p.2).length ++ trimR p.2)
def recG (l : List (Nat × Sec)) : List UInt8 := l.flatMap recOneG
theorem recG_eq {l : List (Nat × Sec)} (h : ∀ q ∈ l, q.1 ≤ 2147483647) : recG l = recB l := by
  unfold recG recB
  induction l with
  | nil => rfl
  | cons q l ih =>
    rw [List.flatMap_cons, List.flatMap_cons, ih fun x hx => h x (by simp [hx])]
    congr 1
    unfold recOneG uvM
    rw [if_pos (h q (by simp))]
    rfl
theorem recOneG_len {p : Nat × Sec} (h2 : p.2.length = 512) : (recOneG p).length ≤ 522 := by
  have h1 := recOne_len (p := (if p.1 ≤ 2147483647 then p.1 else 0, p.2)) (by simp only; split <;> omega) h2
  refine Nat.le_trans ?_ h1
  unfold recOneG recOne uvM
  simp only [List.length_append]
  split
  · omega
  · have := uv_pos 0
    simp only [List.length_nil]
    omega
theorem recG_len : ∀ (l : List (Nat × Sec)), (∀ q ∈ l, q.2.length = 512) → (recG l).length ≤ 522 * l.length
  | [], _ => Nat.le_refl _
  | q :: l, h => by
    have h1 := recG_len l fun x hx => h x (by simp [hx])
    have h2 := recOneG_len (h q (by simp))
    unfold recG at h1 ⊢
    rw [List.flatMap_cons, List.length_append, List.length_cons]
    omega
theorem recG_snoc (l : List (Nat × Sec)) (q : Nat × Sec) : recG (l ++ [q]) = recG l ++ recOneG q := by
  unfold recG
  rw [List.flatMap_append]
  simp
def Pg.record (p : Pg) : Rec := recG (ins 0 p.m.page p.now)
def Pg.logged (p : Pg) : Pg := { p with now := kDel (ins 0 p.m.page p.now) 0 }
def Pg.done (p : Pg) : Pg := { p with dirty := ins 0 p.m.page (insL p.now p.dirty), kept := p.m, now := [], count := [] }
def Sy.append (s : Sy) (rec : Rec) : Int × Sy := ((appR s.r s.d rec).1, ⟨s.p, (appR s.r s.d rec).2.1, (appR s.r s.d rec).2.2⟩)
def Sy.log (s : Sy) (rec : Rec) : Int × Sy :=
  if (s.append rec).1 = 3 then
    (if ((s.append rec).2.settle (s.append rec).2.r.top).1 = 0 then ((s.append rec).2.settle (s.append rec).2.r.top).2.append rec
    else (s.append rec).2.settle (s.append rec).2.r.top)
  else s.append rec
def Sy.finish (a : Int × Sy) : Int × Sy :=
  if a.1 ≠ 0 then a else if a.2.d.err ≠ 0 then (a.2.d.err, ⟨a.2.p, a.2.r, a.2.d.flush⟩) else (0, ⟨a.2.p.done, a.2.r, a.2.d.flush⟩)
def Sy.commit (s : Sy) : Int × Sy :=
  if s.d.lasts.length / 8 < s.p.count.length then (3, s)
  else if s.p.m.root ≠ 0 ∧ s.p.uses (s.p.m.root : Int) = false then (1, s)
  else Sy.finish (Sy.log ⟨s.p.logged, s.r, s.d⟩ s.p.record)
def Sy.abort (s : Sy) : Sy := { s with p := s.p.abort s.d }

def replayAll (most : Int) : List Rec → List (Nat × Sec) → Option (List (Nat × Sec))
  | [], D => some D
  | b :: rs, D => match replayL most b.length b with
    | none => none
    | some l => replayAll most rs (insL l D)
def openS (d : Dk) : Int × Sy :=
  let no : Sy := ⟨Pg.made d.lasts.length, Rg.opened 1 (d.lasts.length / 4) 0 (gAt 1 d), d⟩
  if d.lasts.length < 64 ∨ (d.read 0).take 8 ≠ markB ∨ 127 < ((d.read 0).getD 8 0).toNat then (4, no)
  else
    let base := numB (((d.read 0).drop 8).take 8)
    if 4611686018427387904 < base then (4, no)
    else
      match replayAll (((Pg.made d.lasts.length).pages : Int) - 1) (runG (d.lasts.length / 4) (gAt 1 d) (d.lasts.length / 4) base [] [] base).1 [] with
      | none => (4, no)
      | some D =>
        let s : Sy := ⟨{ Pg.made d.lasts.length with dirty := D }, Rg.opened 1 (d.lasts.length / 4) base (gAt 1 d), d⟩
        if (s.settle s.r.top).1 ≠ 0 then s.settle s.r.top else (0, (s.settle s.r.top).2.abort)
end Go.Proofs.YteoeaojebklfjaaGreatDoor
