/- Q8 Q9 in one text. -/
import Derived.Test.YteoeaojebklfjaaGreatDoorV16
namespace Go.Proofs.YteoeaojebklfjaaGreatDoor
open Go.RowKit Go.Maps
set_option linter.unusedVariables false
set_option linter.unusedSimpArgs false
set_option maxRecDepth 20000

def Pg.touched (p : Pg) (n : Nat) (s : Sec) : Pg := { p with now := ins n s p.now, count := ins n true p.count }
theorem PgAt.touched {w w' : World} {L : Lo} {lg : Value} {p : Pg} (h : PgAt w L lg p) {n : Nat} {s : Sec} (o : Only (fun k => k = L.Mn ∨ k = L.Mc) w w') (hn : Mp pgE w' L.Mn (ins n s p.now)) (hc : Mp mkE w' L.Mc (ins n true p.count)) : PgAt w' L lg (p.touched n s) :=
  ⟨h.cells.kept o fun e => e.elim h.ok.pn h.ok.pc, h.dirty.only o fun e => e.elim h.ok.dn h.ok.dc, hn, h.idle.only o fun e => e.elim (fun e => h.ok.ni e.symm) h.ok.ic, hc, h.ok⟩
section
variable {w : World} {L : Lo} {lg : Value} {p : Pg}
theorem pwrite_no (h : PgAt w L lg p) (hok : p.Ok) {n : Int} (hu : p.uses n = false) (v : Value) : Calls Tryz.prog 14 #[.pointer (some ⟨L.P, 0, none⟩), .int .i64 n, v] w fun e w' => e = .returned (.int .i64 1) ∧ w = w' := by
  have HU := Lib.hid (uses_any h hok n)
  rw [hu] at HU
  clear h hok hu
  go_enter Tryz.func14, Tryz.ntmps14
  go_wp2_with fail
  refine HU.out.mono ?_
  rintro e w2 ⟨rfl, rfl⟩
  go_wp2_with fail
  go_ret
  exact ⟨rfl, rfl⟩
theorem pwrite_len (h : PgAt w L lg p) (hok : p.Ok) {n : Int} (hu : p.uses n = true) (a : Option Addr) (m c : Nat) (hm : m ≠ 512) : Calls Tryz.prog 14 #[.pointer (some ⟨L.P, 0, none⟩), .int .i64 n, .slice a m c] w fun e w' => e = .returned (.int .i64 1) ∧ w = w' := by
  have HU := Lib.hid (uses_any h hok n)
  rw [hu] at HU
  have hb : ((m : Int) == 512) = false := by simp; omega
  have hb2 : (m == 512) = false := by simpa using hm
  clear h hok hu
  go_enter Tryz.func14, Tryz.ntmps14
  go_wp2_with fail
  refine HU.out.mono ?_
  rintro e w2 ⟨rfl, rfl⟩
  go_wp2_with fail
  go_ret
  exact ⟨rfl, rfl⟩
set_option maxHeartbeats 1000000 in
theorem pwrite_ok (h : PgAt w L lg p) (hok : p.Ok) {n : Nat} (hu : p.uses (n : Int) = true) {g off cap : Nat} {s : Sec} (hv : Vec w 1 (.slice (some ⟨g, off, none⟩) 512 cap) 512 (bv s)) (hs : s.length = 512) (hg : ¬ L.own g) :
    Calls Tryz.prog 14 #[.pointer (some ⟨L.P, 0, none⟩), .int .i64 (n : Int), .slice (some ⟨g, off, none⟩) 512 cap] w fun e w' => e = .returned (.int .i64 0) ∧ PgAt w' L lg (p.touched n s) ∧ Only (fun k => k = L.Mn ∨ k = L.Mc) w w' := by
  have HU := Lib.hid (uses_any h hok (n : Int))
  rw [hu] at HU
  have hn := Pg.uses_nat hu hok
  have H := Lib.hid h
  have HL := Lib.hid hs
  have HBN : Hid (p.now.length < 1000000 ∧ p.count.length < 1000000 ∧ n ≤ 100000000000) := Lib.hid ⟨by have := hok.nl; omega, by have := hok.cl; omega, by omega⟩
  have HAP := Lib.hid h.ok
  have HC : Hid (∀ w', Only (fun k => k = L.Mn ∨ k = L.Mc) w w' → CellsR w' L.P (p.vs L lg)) := Lib.hid fun w' o => h.cells.kept o fun e => e.elim h.ok.pn h.ok.pc
  have HR : Hid (∀ w', Only (fun k => k = L.Mn ∨ k = L.Mc) w w' → w'.rangeAt g off (bv s)) := Lib.hid fun w' o => (hv.only o fun g' hg' e => hg (by
    injection hg' with hg'
    have e2 : g = g' := hg'
    subst e2
    exact e.elim (fun e => .inr (.inr (.inl e))) fun e => .inr (.inr (.inr (.inr e))))).range
  have HN := Lib.hid h.now
  have HK := Lib.hid h.count
  clear h hok hu hv hs hg hn
  go_enter Tryz.func14, Tryz.ntmps14
  go_wp2_with fail
  refine HU.out.mono ?_
  rintro e w2 ⟨rfl, rfl⟩
  go_upto_region 5 with fail
  refine r_begin (S := fun k => k = L.Mn ∨ k = L.Mc) (by kernel_rfl) ?_
  have HS := Lib.hid (Only.refl (fun k => k = L.Mn ∨ k = L.Mc) w)
  refine r_take 0 (.pointer (some ⟨L.P, 0, none⟩)) rfl (by kernel_rfl) (fun _ _ _ h => h) HS.out (YR.pure (by rfl) fun w hw => y_move w rfl rfl) ?_
  simp only [Act.put, zA, zB, zC]
  refine r_take 1 (.pointer (some ⟨L.P, 0, none⟩)) rfl (by kernel_rfl) (fun _ _ _ h => h) HS.out (YR.pure (by rfl) fun w hw => y_nil w rfl rfl) ?_
  simp only [Act.put, zA, zB, zC]
  refine r_take 2 (.pointer (some ⟨L.P, 5, none⟩)) rfl (by kernel_rfl) (fun _ _ _ h => h) HS.out (YR.pure (by rfl) fun w hw => y_f72_5 w rfl rfl) ?_
  simp only [Act.put, zA, zB, zC]
  refine r_take 3 (.map (some L.Mn)) rfl (by kernel_rfl) (fun _ _ _ h => h) HS.out (YR.pure (by rfl) fun w hw => y_load69 rfl rfl ((HC.out w hw).is 5 _ rfl)) ?_
  simp only [Act.put, zA, zB, zC]
  refine r_take 4 (.int .i64 (n : Int)) rfl (by kernel_rfl) (fun _ _ _ h => h) HS.out (YR.pure (by rfl) fun w hw => y_move w rfl rfl) ?_
  simp only [Act.put, zA, zB, zC]
  refine r_take 5 (.pointer (some ⟨L.P, 0, none⟩)) rfl (by kernel_rfl) (fun _ _ _ h => h) HS.out (YR.pure (by rfl) fun w hw => y_move w rfl rfl) ?_
  simp only [Act.put, zA, zB, zC]
  refine r_take 6 (.pointer (some ⟨L.P, 0, none⟩)) rfl (by kernel_rfl) (fun _ _ _ h => h) HS.out (YR.pure (by rfl) fun w hw => y_nil w rfl rfl) ?_
  simp only [Act.put, zA, zB, zC]
  refine r_take 7 (.pointer (some ⟨L.P, 15, none⟩)) rfl (by kernel_rfl) (fun _ _ _ h => h) HS.out (YR.pure (by rfl) fun w hw => y_f72_9 w rfl rfl) ?_
  simp only [Act.put, zA, zB, zC]
  refine r_take 8 (.map (some L.Mc)) rfl (by kernel_rfl) (fun _ _ _ h => h) HS.out (YR.pure (by rfl) fun w hw => y_load70 rfl rfl ((HC.out w hw).is 15 _ rfl)) ?_
  simp only [Act.put, zA, zB, zC]
  refine r_take 9 (.int .i64 (n : Int)) rfl (by kernel_rfl) (fun _ _ _ h => h) HS.out (YR.pure (by rfl) fun w hw => y_move w rfl rfl) ?_
  simp only [Act.put, zA, zB, zC]
  refine r_take 10 (.slice (some ⟨g, off, none⟩) 512 cap) rfl (by kernel_rfl) (fun _ _ _ h => h) HS.out (YR.pure (by rfl) fun w hw => y_move w rfl rfl) ?_
  simp only [Act.put, zA, zB, zC]
  refine r_take 11 (.pointer (some ⟨g, off, none⟩)) rfl (by kernel_rfl) (fun _ _ _ h => h) HS.out (YR.pure (by rfl) fun w hw => y_arr74 w rfl rfl) ?_
  simp only [Act.put, zA, zB, zC]
  refine r_take 12 (.agg (bv s).toArray) rfl (by kernel_rfl) (fun _ _ _ h => h) HS.out (YR.pure (by rfl) fun w hw => y_load74 rfl rfl HL.out (HR.out w hw)) ?_
  simp only [Act.put, zA, zB, zC]
  refine r_one 13 rfl (by kernel_rfl) (by rfl) fun wi oi => ?_
  refine wp_entry69 (n := n) rfl rfl rfl (HN.out.new oi) HBN.out.1 HBN.out.2.2 fun v0 st wj hh oj => ⟨(HS.out.quiet oi).trans (oj.mono fun k hk e => .inl e), ?_⟩
  simp only [Act.put, zA, zB, zC]
  have HT := Lib.hid ((HS.out.quiet oi).trans (oj.mono fun k hk e => .inl e))
  have HH := Lib.hid hh
  have HK2 := Lib.hid ((HK.out.new oi).only oj fun e => HAP.out.nc e.symm)
  clear hh HN HK
  clear HS oi oj
  have HS := HT
  clear HT
  refine r_take 14 (goInt st) rfl (by kernel_rfl) (fun _ _ _ h => h) HS.out (YR.pure (by rfl) fun w hw => y_ext1 w rfl rfl) ?_
  simp only [Act.put, zA, zB, zC]
  refine r_one 15 rfl (by kernel_rfl) (by rfl) fun wi oi => ?_
  refine wp_estore69 (st := st) (s := s) rfl rfl rfl rfl (HH.out.only oi fun e => e) fun wj hm oj => ⟨(HS.out.quiet oi).trans (oj.mono fun k hk e => .inl e), ?_⟩
  simp only [Act.put, zA, zB, zC]
  have HT := Lib.hid ((HS.out.quiet oi).trans (oj.mono fun k hk e => .inl e))
  have HN := Lib.hid hm
  have HK := Lib.hid ((HK2.out.new oi).only oj fun e => HAP.out.nc e.symm)
  clear hm HH HK2
  clear HS oi oj
  have HS := HT
  clear HT
  refine r_one 16 rfl (by kernel_rfl) (by rfl) fun wi oi => ?_
  refine wp_entry70 (n := n) rfl rfl rfl (HK.out.new oi) HBN.out.2.1 HBN.out.2.2 fun v1 st2 wj hh oj => ⟨(HS.out.quiet oi).trans (oj.mono fun k hk e => .inr e), ?_⟩
  simp only [Act.put, zA, zB, zC]
  have HT := Lib.hid ((HS.out.quiet oi).trans (oj.mono fun k hk e => .inr e))
  have HH := Lib.hid hh
  have HN2 := Lib.hid ((HN.out.new oi).only oj fun e => HAP.out.nc e)
  clear hh HN HK
  clear HS oi oj
  have HS := HT
  clear HT
  refine r_take 17 (goInt st2) rfl (by kernel_rfl) (fun _ _ _ h => h) HS.out (YR.pure (by rfl) fun w hw => y_ext1 w rfl rfl) ?_
  simp only [Act.put, zA, zB, zC]
  refine r_one 18 rfl (by kernel_rfl) (by rfl) fun wi oi => ?_
  refine wp_estore70 (st := st2) (s := true) rfl rfl rfl rfl (HH.out.only oi fun e => e) fun wj hm oj => ⟨(HS.out.quiet oi).trans (oj.mono fun k hk e => .inr e), ?_⟩
  simp only [Act.put, zA, zB, zC]
  have HT := Lib.hid ((HS.out.quiet oi).trans (oj.mono fun k hk e => .inr e))
  have HK := Lib.hid hm
  have HN := Lib.hid ((HN2.out.new oi).only oj fun e => HAP.out.nc e)
  clear hm HH HN2
  clear HS oi oj
  have HS := HT
  clear HT
  refine r_done (by kernel_rfl) fun wz oz => ?_
  have HF := Lib.hid (And.intro (HN.out.new oz) (And.intro (HK.out.new oz) (HS.out.quiet oz)))
  clear HS oz HN HK HC HR
  generalize wz = w5 at HF ⊢
  go_wp2_with fail
  go_ret
  exact ⟨rfl, H.out.touched HF.out.2.2 HF.out.1 HF.out.2.1, HF.out.2.2⟩
end
end Go.Proofs.YteoeaojebklfjaaGreatDoor
namespace Go.Proofs.YteoeaojebklfjaaGreatDoor
open Go.RowKit Go.Maps
set_option linter.unusedVariables false
set_option linter.unusedSimpArgs false
set_option maxRecDepth 20000

def freeB (h : Nat) : Sec := beB 4 h ++ List.replicate 508 0
theorem freeB_len (h : Nat) : (freeB h).length = 512 := by unfold freeB; rw [List.length_append, beB_len, List.length_replicate]
theorem freeB_is (h : Nat) : putL zs (0 + 4) h 4 = freeB h := by
  rw [show zs = [] ++ List.replicate 512 0 from rfl, put_pre (a := 0) rfl (by decide)]
  rfl
theorem numB_free {h : Nat} (hh : h < 4294967296) : numB ((freeB h).take 4) = h := by
  unfold freeB
  rw [List.take_left' (beB_len 4 h), numB_be' (by omega)]
def Pg.dropped (p : Pg) (n : Nat) : Pg := { p.touched n (freeB p.m.head) with m := { p.m with head := n, free := p.m.free + 1 }, idle := ins n true p.idle }
theorem wpList_update70 {w : World} {ops : Array Oper} {rest : List Oper} {o : Oper} {a : Act} {Q : Exit → Act → World → Prop} (hgd : o.guard = none) (x y z : Operand) (ho : o.op = .mapUpdate 70 x y z) (b n : Nat) (l : List (Nat × Bool)) (s : Bool) (hx : a.eval x = .map (some b)) (hy : a.eval y = .int .i64 (n : Int)) (hz : a.eval z = .bool s)
    (h : Mp mkE w b l) (hm : l.length < 1000000) (hn : n ≤ 100000000000)
    (hK : ∀ w', Mp mkE w' b (ins n s l) → Only (fun k => k = b) w w' → wpList Tryz.prog ops Q rest (a.put o.dst undef) w') : wpList Tryz.prog ops Q (o :: rest) a w := by
  refine wpList_plain hgd fun K hK2 => ?_
  obtain ⟨w', h1, h2, h3⟩ := h.update under70 hm hn s
  change (Instr.mapUpdate 70 (.map (some b)) (.int .i64 (n : Int)) (.bool s)).run Tryz.prog w = _ at h1
  unfold Oper.wp execOp
  simp only [ho, hx, hy, hz, Sem.run_bind, h1, Result.andThen_ok, Sem.run_pure]
  exact hK2 _ _ (hK _ h2 h3)
theorem PgAt.setIdle {w w' : World} {L : Lo} {lg : Value} {p : Pg} (h : PgAt w L lg p) {l : List (Nat × Bool)} (hm : Mp mkE w' L.Mi l) (o : Only (fun k => k = L.Mi) w w') : PgAt w' L lg { p with idle := l } :=
  ⟨h.cells.kept o h.ok.pi, h.dirty.only o h.ok.di, h.now.only o h.ok.ni, hm, h.count.only o fun e => h.ok.ic e.symm, h.ok⟩
section
variable {w : World} {L : Lo} {lg : Value} {p : Pg}
theorem drop_no (h : PgAt w L lg p) (hok : p.Ok) {n : Int} (hu : p.uses n = false) : Calls Tryz.prog 22 #[.pointer (some ⟨L.P, 0, none⟩), .int .i64 n] w fun e w' => e = .returned (.int .i64 1) ∧ w = w' := by
  have HU := Lib.hid (uses_any h hok n)
  rw [hu] at HU
  clear h hok hu
  go_enter Tryz.func22, Tryz.ntmps22
  go_wp2_with fail
  refine HU.out.mono ?_
  rintro e w2 ⟨rfl, rfl⟩
  go_wp2_with fail
  go_ret
  exact ⟨rfl, rfl⟩
set_option maxHeartbeats 1000000 in
theorem drop_ok (h : PgAt w L lg p) (hok : p.Ok) {n : Nat} (hu : p.uses (n : Int) = true) :
    Calls Tryz.prog 22 #[.pointer (some ⟨L.P, 0, none⟩), .int .i64 (n : Int)] w fun e w' => e = .returned (.int .i64 0) ∧ PgAt w' L lg (p.dropped n) ∧ Only L.own w w' := by
  have HU := Lib.hid (uses_any h hok (n : Int))
  rw [hu] at HU
  have hn := Pg.uses_nat hu hok
  have H := Lib.hid h
  have HBN : Hid (p.now.length < 1000000 ∧ p.count.length < 1000000 ∧ n ≤ 100000000000) := Lib.hid ⟨by have := hok.nl; omega, by have := hok.cl; omega, by omega⟩
  have HIL : Hid (p.idle.length < 1000000) := Lib.hid (by have := hok.il; omega)
  have HAP := Lib.hid h.ok
  have HFR : Hid (-10000000000 ≤ p.m.free ∧ p.m.free ≤ 10000000000) := Lib.hid ⟨hok.m.free0, hok.m.free⟩
  have HHD : Hid (p.m.head ≤ 10000000000) := Lib.hid hok.m.head
  clear h hok hu hn
  go_enter Tryz.func22, Tryz.ntmps22
  go_wp2_with fail
  refine HU.out.mono ?_
  rintro e w2 ⟨rfl, rfl⟩
  go_upto_region 6 with fail
  obtain ⟨B, hB⟩ : ∃ B, B = w.heap.size := ⟨_, rfl⟩
  obtain ⟨w1, hw1⟩ : ∃ w1, w1 = w.alloc (.cells Tryz.zeroCells74 74) := ⟨_, rfl⟩
  have hrow := page_zero w
  have o1 : Only None' w w1 := by rw [hw1]; exact (Only.refl _ _).alloc _
  rw [← hw1, ← hB] at hrow ⊢
  have hnB : ∀ k, L.own k → ¬ k = B := fun k hk e => by have := H.out.lt hk; omega
  have HA := Lib.hid (And.intro hrow (And.intro o1 (And.intro hB hnB)))
  have HC : Hid (∀ w', Only (fun k => k = B) w1 w' → CellsR w' L.P (p.vs L lg)) := Lib.hid fun w' o => (H.out.cells.kept o1 fun e => e).kept o (hnB _ (.inl rfl))
  have HP : Hid (∀ w', Only None' w1 w' → Calls Tryz.prog 58 #[.slice (some ⟨B, 0, none⟩) 4 512, .int .i64 (p.m.head : Int)] w' fun e w'' => e = .returned (.tuple #[]) ∧ Vec w'' 1 (.slice (some ⟨B, 0, none⟩) 512 512) 512 (bv (freeB p.m.head)) ∧ Only (fun j => j = B) w' w'') := Lib.hid fun w' o => by
    have hh := HHD.out
    have := put_any (w := w') (g := B) (off := 0) (m := 4) (cap := 512) (hrow.only o fun _ _ e => e) (by omega) (by omega) (p.m.head : Int) (by omega) (by omega)
    rw [word_nat (by omega), freeB_is] at this
    exact this
  clear hrow o1 hw1 hB hnB
  refine r_begin (S := fun k => k = B) (by kernel_rfl) ?_
  have HS := Lib.hid (Only.refl (fun k => k = B) w1)
  refine r_take 0 (.slice (some ⟨B, 0, none⟩) 4 512) rfl (by kernel_rfl) (fun _ _ _ h => h) HS.out (YR.pure (by rfl) fun w hw => y_slice74_4 w rfl rfl rfl) ?_
  simp only [Act.put, zA, zB, zC]
  refine r_take 1 (.pointer (some ⟨L.P, 0, none⟩)) rfl (by kernel_rfl) (fun _ _ _ h => h) HS.out (YR.pure (by rfl) fun w hw => y_move w rfl rfl) ?_
  simp only [Act.put, zA, zB, zC]
  refine r_take 2 (.pointer (some ⟨L.P, 0, none⟩)) rfl (by kernel_rfl) (fun _ _ _ h => h) HS.out (YR.pure (by rfl) fun w hw => y_nil w rfl rfl) ?_
  simp only [Act.put, zA, zB, zC]
  refine r_take 3 (.pointer (some ⟨L.P, 10, none⟩)) rfl (by kernel_rfl) (fun _ _ _ h => h) HS.out (YR.pure (by rfl) fun w hw => y_f72_7 w rfl rfl) ?_
  simp only [Act.put, zA, zB, zC]
  refine r_take 4 (.pointer (some ⟨L.P, 12, none⟩)) rfl (by kernel_rfl) (fun _ _ _ h => h) HS.out (YR.pure (by rfl) fun w hw => y_f67_2 w rfl rfl) ?_
  simp only [Act.put, zA, zB, zC]
  refine r_take 5 (.int .i64 (p.m.head : Int)) rfl (by kernel_rfl) (fun _ _ _ h => h) HS.out (YR.pure (by rfl) fun w hw => y_load3 rfl rfl ((HC.out w hw).is 12 _ rfl)) ?_
  simp only [Act.put, zA, zB, zC]
  refine r_one 6 rfl (by kernel_rfl) (by rfl) fun wi oi => ?_
  refine wp_enter (y_enter [.slice (some ⟨B, 0, none⟩) 4 512, .int .i64 (p.m.head : Int)] rfl (by rfl) (call58_ _) wi) ((HP.out wi oi).mono ?_)
  rintro e wj ⟨rfl, hv, oj⟩
  refine ⟨_, rfl, (HS.out.quiet oi).trans oj, ?_⟩
  simp only [Act.put, zA, zB, zC]
  have HT := Lib.hid ((HS.out.quiet oi).trans oj)
  have HV := Lib.hid hv
  clear hv
  clear HS oi oj
  have HS := HT
  clear HT
  refine r_done (by kernel_rfl) fun wz oz => ?_
  have HF := Lib.hid (And.intro (HV.out.only oz fun _ _ e => e) (HS.out.quiet oz))
  clear HS oz HV HP HC
  generalize wz = w3 at HF ⊢
  go_upto_region 7 with fail
  have H3 : Hid (PgAt w3 L lg p) := Lib.hid ((H.out.new HA.out.2.1).only HF.out.2 HA.out.2.2.2)
  have HC : Hid (∀ w', Only (fun k => k = L.Mn ∨ k = L.Mc) w3 w' → CellsR w' L.P (p.vs L lg)) := Lib.hid fun w' o => H3.out.cells.kept o fun e => e.elim HAP.out.pn HAP.out.pc
  obtain ⟨s, hs⟩ : ∃ s, s = freeB p.m.head := ⟨_, rfl⟩
  have HSS := Lib.hid hs
  have HL : Hid (s.length = 512) := Lib.hid (by rw [hs]; exact freeB_len _)
  rw [← hs] at HF
  have HR : Hid (∀ w', Only (fun k => k = L.Mn ∨ k = L.Mc) w3 w' → w'.rangeAt B 0 (bv s)) := Lib.hid fun w' o => (HF.out.1.only o fun g hg e => by
    injection hg with hg
    have e2 : B = g := hg
    subst e2
    exact e.elim (fun e => HA.out.2.2.2 _ (.inr (.inr (.inl rfl))) e.symm) fun e => HA.out.2.2.2 _ (.inr (.inr (.inr (.inr rfl)))) e.symm).range
  have HN := Lib.hid H3.out.now
  have HK := Lib.hid H3.out.count
  clear hs
  refine r_begin (S := fun k => k = L.Mn ∨ k = L.Mc) (by kernel_rfl) ?_
  have HS := Lib.hid (Only.refl (fun k => k = L.Mn ∨ k = L.Mc) w3)
  refine r_take 0 (.pointer (some ⟨L.P, 0, none⟩)) rfl (by kernel_rfl) (fun _ _ _ h => h) HS.out (YR.pure (by rfl) fun w hw => y_move w rfl rfl) ?_
  simp only [Act.put, zA, zB, zC]
  refine r_take 1 (.pointer (some ⟨L.P, 0, none⟩)) rfl (by kernel_rfl) (fun _ _ _ h => h) HS.out (YR.pure (by rfl) fun w hw => y_nil w rfl rfl) ?_
  simp only [Act.put, zA, zB, zC]
  refine r_take 2 (.pointer (some ⟨L.P, 5, none⟩)) rfl (by kernel_rfl) (fun _ _ _ h => h) HS.out (YR.pure (by rfl) fun w hw => y_f72_5 w rfl rfl) ?_
  simp only [Act.put, zA, zB, zC]
  refine r_take 3 (.map (some L.Mn)) rfl (by kernel_rfl) (fun _ _ _ h => h) HS.out (YR.pure (by rfl) fun w hw => y_load69 rfl rfl ((HC.out w hw).is 5 _ rfl)) ?_
  simp only [Act.put, zA, zB, zC]
  refine r_take 4 (.int .i64 (n : Int)) rfl (by kernel_rfl) (fun _ _ _ h => h) HS.out (YR.pure (by rfl) fun w hw => y_move w rfl rfl) ?_
  simp only [Act.put, zA, zB, zC]
  refine r_take 5 (.pointer (some ⟨L.P, 0, none⟩)) rfl (by kernel_rfl) (fun _ _ _ h => h) HS.out (YR.pure (by rfl) fun w hw => y_move w rfl rfl) ?_
  simp only [Act.put, zA, zB, zC]
  refine r_take 6 (.pointer (some ⟨L.P, 0, none⟩)) rfl (by kernel_rfl) (fun _ _ _ h => h) HS.out (YR.pure (by rfl) fun w hw => y_nil w rfl rfl) ?_
  simp only [Act.put, zA, zB, zC]
  refine r_take 7 (.pointer (some ⟨L.P, 15, none⟩)) rfl (by kernel_rfl) (fun _ _ _ h => h) HS.out (YR.pure (by rfl) fun w hw => y_f72_9 w rfl rfl) ?_
  simp only [Act.put, zA, zB, zC]
  refine r_take 8 (.map (some L.Mc)) rfl (by kernel_rfl) (fun _ _ _ h => h) HS.out (YR.pure (by rfl) fun w hw => y_load70 rfl rfl ((HC.out w hw).is 15 _ rfl)) ?_
  simp only [Act.put, zA, zB, zC]
  refine r_take 9 (.int .i64 (n : Int)) rfl (by kernel_rfl) (fun _ _ _ h => h) HS.out (YR.pure (by rfl) fun w hw => y_move w rfl rfl) ?_
  simp only [Act.put, zA, zB, zC]
  refine r_take 10 (.agg (bv s).toArray) rfl (by kernel_rfl) (fun _ _ _ h => h) HS.out (YR.pure (by rfl) fun w hw => y_load74 rfl rfl HL.out (HR.out w hw)) ?_
  simp only [Act.put, zA, zB, zC]
  refine r_one 11 rfl (by kernel_rfl) (by rfl) fun wi oi => ?_
  refine wp_entry69 (n := n) rfl rfl rfl (HN.out.new oi) HBN.out.1 HBN.out.2.2 fun v0 st wj hh oj => ⟨(HS.out.quiet oi).trans (oj.mono fun k hk e => .inl e), ?_⟩
  simp only [Act.put, zA, zB, zC]
  have HT := Lib.hid ((HS.out.quiet oi).trans (oj.mono fun k hk e => .inl e))
  have HH := Lib.hid hh
  have HK2 := Lib.hid ((HK.out.new oi).only oj fun e => HAP.out.nc e.symm)
  clear hh HN HK
  clear HS oi oj
  have HS := HT
  clear HT
  refine r_take 12 (goInt st) rfl (by kernel_rfl) (fun _ _ _ h => h) HS.out (YR.pure (by rfl) fun w hw => y_ext1 w rfl rfl) ?_
  simp only [Act.put, zA, zB, zC]
  refine r_one 13 rfl (by kernel_rfl) (by rfl) fun wi oi => ?_
  refine wp_estore69 (st := st) (s := s) rfl rfl rfl rfl (HH.out.only oi fun e => e) fun wj hm oj => ⟨(HS.out.quiet oi).trans (oj.mono fun k hk e => .inl e), ?_⟩
  simp only [Act.put, zA, zB, zC]
  have HT := Lib.hid ((HS.out.quiet oi).trans (oj.mono fun k hk e => .inl e))
  have HN := Lib.hid hm
  have HK := Lib.hid ((HK2.out.new oi).only oj fun e => HAP.out.nc e.symm)
  clear hm HH HK2
  clear HS oi oj
  have HS := HT
  clear HT
  refine r_one 14 rfl (by kernel_rfl) (by rfl) fun wi oi => ?_
  refine wp_entry70 (n := n) rfl rfl rfl (HK.out.new oi) HBN.out.2.1 HBN.out.2.2 fun v1 st2 wj hh oj => ⟨(HS.out.quiet oi).trans (oj.mono fun k hk e => .inr e), ?_⟩
  simp only [Act.put, zA, zB, zC]
  have HT := Lib.hid ((HS.out.quiet oi).trans (oj.mono fun k hk e => .inr e))
  have HH := Lib.hid hh
  have HN2 := Lib.hid ((HN.out.new oi).only oj fun e => HAP.out.nc e)
  clear hh HN HK
  clear HS oi oj
  have HS := HT
  clear HT
  refine r_take 15 (goInt st2) rfl (by kernel_rfl) (fun _ _ _ h => h) HS.out (YR.pure (by rfl) fun w hw => y_ext1 w rfl rfl) ?_
  simp only [Act.put, zA, zB, zC]
  refine r_one 16 rfl (by kernel_rfl) (by rfl) fun wi oi => ?_
  refine wp_estore70 (st := st2) (s := true) rfl rfl rfl rfl (HH.out.only oi fun e => e) fun wj hm oj => ⟨(HS.out.quiet oi).trans (oj.mono fun k hk e => .inr e), ?_⟩
  simp only [Act.put, zA, zB, zC]
  have HT := Lib.hid ((HS.out.quiet oi).trans (oj.mono fun k hk e => .inr e))
  have HK := Lib.hid hm
  have HN := Lib.hid ((HN2.out.new oi).only oj fun e => HAP.out.nc e)
  clear hm HH HN2
  clear HS oi oj
  have HS := HT
  clear HT
  refine r_done (by kernel_rfl) fun wz oz => ?_
  have HF2 := Lib.hid (And.intro (HN.out.new oz) (And.intro (HK.out.new oz) (HS.out.quiet oz)))
  clear HS oz HN HK HC HR
  generalize wz = w5 at HF2 ⊢
  have HT : Hid (PgAt w5 L lg (p.touched n s)) := Lib.hid (H3.out.touched HF2.out.2.2 HF2.out.1 HF2.out.2.1)
  have c12 := HT.out.cells.is 12 _ rfl
  have c13 := HT.out.cells.is 13 _ rfl
  have f12 := HT.out.cells.thaw 12
  have f13 := HT.out.cells.thaw 13
  have c14 := HT.out.cells.is 14 _ rfl
  change w5.cell? ⟨L.P, 12, none⟩ = some (.int .i64 (p.m.head : Int)) at c12
  change w5.cell? ⟨L.P, 13, none⟩ = some (.int .i64 p.m.free) at c13
  obtain ⟨fr, hfr⟩ : ∃ fr, fr = p.m.free := ⟨_, rfl⟩
  have HFE := Lib.hid hfr
  rw [← hfr] at c13 HFR
  have fr0 : -10000000000 ≤ fr := HFR.out.1
  have fr1 : fr ≤ 10000000000 := HFR.out.2
  obtain ⟨w6, hw6⟩ : ∃ w6, w6 = (w5.setCell ⟨L.P, 12, none⟩ (.int .i64 (n : Int))).setCell ⟨L.P, 13, none⟩ (.int .i64 (fr + 1)) := ⟨_, rfl⟩
  have o6 : Only (fun k => k = L.P) w5 w6 := by rw [hw6]; exact ((Only.refl (fun k => k = L.P) _).setCell (p := ⟨L.P, 12, none⟩) rfl _).setCell (p := ⟨L.P, 13, none⟩) rfl _
  have hc6 : CellsR w6 L.P (Pg.vs L lg { p.touched n s with m := { p.m with head := n, free := p.m.free + 1 } }) := by
    rw [hw6, hfr]
    exact (HT.out.cells.set (i := 12) (by simp [Pg.vs]) (.int .i64 (n : Int))).set (i := 13) (by simp [Pg.vs]) (.int .i64 (p.m.free + 1))
  have H6 := Lib.hid (HT.out.setMeta (p' := { p.touched n s with m := { p.m with head := n, free := p.m.free + 1 } }) hc6 o6 rfl rfl rfl rfl)
  have HW6 := Lib.hid hw6
  have HO6 := Lib.hid o6
  have c14' := H6.out.cells.is 14 _ rfl
  clear hw6 o6 hc6 hfr
  go_upto_region 9 with fail
  rw [← HW6.out]
  clear HW6 c12 c13 f12 f13 c14
  go_wp2_with (refine wpList_update70 rfl _ _ _ rfl L.Mi n p.idle true rfl rfl rfl H6.out.idle HIL.out HBN.out.2.2 ?_; intro w7 hm7 o7; have H7 := Lib.hid (And.intro hm7 o7); clear hm7 o7)
  go_ret
  refine ⟨rfl, ?_, ?_⟩
  · have := H6.out.setIdle H7.out.1 H7.out.2
    rw [HSS.out] at this
    exact this
  · have oA := HA.out.2.1.trans2 HF.out.2 (S' := fun k => k = B) fun k hk e => by
      have := HA.out.2.2.1
      have e2 : k = B := e
      omega
    have oB := (oA.mono (S' := L.own) fun _ _ e => e.elim).trans2 (S := L.own) (S' := fun k => k = L.Mn ∨ k = L.Mc) HF2.out.2.2 fun k hk e => e.elim (fun e => .inr (.inr (.inl e))) fun e => .inr (.inr (.inr (.inr e)))
    exact (oB.trans2 HO6.out fun k hk e => .inl e).trans2 H7.out.2 fun k hk e => .inr (.inr (.inr (.inl e)))
end
end Go.Proofs.YteoeaojebklfjaaGreatDoor
