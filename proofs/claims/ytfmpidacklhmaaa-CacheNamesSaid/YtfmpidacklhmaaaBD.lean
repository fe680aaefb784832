/- AT + AU + AV in one text. -/
import Derived.Test.YtfmpidacklhmaaaBH
/- works (4). (Printed by tp.py.) -/
namespace Go.Proofs.Ytfmpidacklhmaaa
open Go.RowKit Go.Maps
set_option linter.unusedVariables false
set_option linter.unusedSimpArgs false
set_option maxRecDepth 20000

theorem FilledAt.fl {w w' : World} {b : Bk} {s : Cs} (h : FilledAt w w' b s) : Fl w w' b s := ⟨h.at_, h.own, h.only⟩
theorem eq36 (w : World) : (binOp .eql 36 (resV 1 true vB) (resV 1 true vB)).run Try.prog w = .ok (.bool true) w := by kernel_rfl
theorem dropK (xn : Nat) : Lru.dropKey [(xn, ⟨kB, vB, 5, 7⟩)] kB = [] := by
  simp [Lru.dropKey]
theorem entries_len {w : World} {b : Bk} {s : Cs} {t : Int} {l : List Lru.Node} {c : Cl} {n : Nat} {q : Option Int} (h : CacheAt w b s) (d : Sd s t l c n q) (m : Nat) (hm : l.length = m) : Calls Try.prog 11 #[.pointer (some ⟨b.C, 0, none⟩)] w fun e w' => ∃ a cap, e = .returned (.slice a m cap) ∧ Only None' w w' := by
  refine (entries_any h).mono ?_
  rintro e w' ⟨v, rfl, hv, o⟩
  have hw := Vec.of_owns hv
  rw [d.l, hm] at hw
  obtain ⟨a, cap, rfl, _⟩ := hw.shape
  exact ⟨a, cap, rfl, o⟩
set_option maxHeartbeats 1000000 in
theorem works_any (w : World) : Calls Try.prog 4 #[] w fun e w' => e = .returned (.bool true) ∧ Only None' w w' := by
  go_enter Try.func4, Try.ntmps4
  go_wp2_with fail
  refine (filled_any w).mono ?_
  rintro e w1 ⟨b, s, rfl, hf⟩
  obtain ⟨xn, hsd⟩ := hf.sd
  have HF := Lib.hid (And.intro hf.fl hsd)
  clear hf hsd
  go_wp2_with fail
  refine (get_any _ _ w1).mono ?_
  rintro e w2 ⟨rfl, o2⟩
  have HF2 := Lib.hid (And.intro (HF.out.1.on o2) HF.out.2)
  clear HF o2
  go_wp2_with fail
  refine (st_hit (x := (xn, ⟨kB, vB, 5, 7⟩)) HF2.out.1.at_ HF2.out.2 1048578 (show 1 ≤ kB.size by decide) (show kB.size ≤ 32 by decide) (show ¬ (5 : Int) ≤ 0 by decide)).mono ?_
  rintro e w3 ⟨v, rfl, s3, ⟨R, hm, hR, hN⟩, hd, hsd⟩
  obtain ⟨rfl, hrow⟩ := hm
  have HF3 := Lib.hid (And.intro (HF2.out.1.to hd) (And.intro hsd (And.intro hrow hN)))
  clear HF2 hR hN hd hrow hsd
  go_wp2_with fail
  refine (st_inval HF3.out.1.at_ HF3.out.2.1 kB 7 (by decide)).mono ?_
  rintro e w4 ⟨v, rfl, s4, ⟨R4, hm, hR, hN⟩, hd, hsd⟩
  obtain ⟨rfl, hrow⟩ := hm
  rw [dropK] at hsd
  have HF4 := Lib.hid (And.intro (HF3.out.1.to hd) hsd)
  have hlt := (cells_of_row HF3.out.2.2.1).lt
  have hc := cells_of_row ((hd.kept.only.block R hlt HF3.out.2.2.2).trans HF3.out.2.2.1)
  have hc4 := cells_of_row hrow
  have k1 : w4.cell? ⟨R, 1, none⟩ = some (.int .i64 201) := hc.is 1 _ rfl
  have k15 : w4.cell? ⟨R, 15, none⟩ = some (.int .u8 1) := hc.is 15 _ rfl
  have k16 : w4.cell? ⟨R, 16, none⟩ = some (.bool true) := hc.is 16 _ rfl
  have k17 : w4.cell? ⟨R, 17, none⟩ = some (.string ⟨#[118]⟩) := hc.is 17 _ rfl
  have q1 : w4.cell? ⟨R4, 1, none⟩ = some (.int .i64 2) := hc4.is 1 _ rfl
  have q2 : w4.cell? ⟨R4, 2, none⟩ = some (.int .u8 17) := hc4.is 2 _ rfl
  have q18 : w4.cell? ⟨R4, 18, none⟩ = some (.int .i64 7) := hc4.is 18 _ rfl
  clear HF3 hR hN hd hrow hsd hlt hc hc4
  go_wp2_with fail
  clear k1 k15 k16 k17 q1 q2 q18
  refine (entries_len HF4.out.1.at_ HF4.out.2 0 rfl).mono ?_
  rintro e w5 ⟨a, cap, rfl, o5⟩
  have HF5 := Lib.hid (HF4.out.1.only.trans o5)
  clear o5 HF4
  go_wp2_with fail
  go_ret
  exact ⟨rfl, HF5.out⟩
end Go.Proofs.Ytfmpidacklhmaaa
/- bare (13). (Printed by tp.py.) -/
namespace Go.Proofs.Ytfmpidacklhmaaa
open Go.RowKit Go.Maps
set_option linter.unusedVariables false
set_option linter.unusedSimpArgs false
set_option maxRecDepth 20000

def c11 : Cl := ⟨1, 1, []⟩
theorem next11 : c11.next = 1048578 := by kernel_rfl
def zW : Wt := ⟨1048578, zB, 201, 5, 0, 0, false⟩
theorem call8_ (args : Array Value) (w : World) : (callFunc 8 args).run Try.prog w = .ok (.enter 8 args) w := by go_simp
theorem told11 : (⟨1, 2, [zW]⟩ : Cl).told 1048578 = ⟨1, 2, []⟩ := by kernel_rfl
theorem asked11 : c11.asked zB 201 5 0 = ⟨1, 2, [zW]⟩ := by kernel_rfl
/-- filled, and z asked for -/
theorem st_z {w w1 : World} {b : Bk} {s : Cs} {xn : Nat} (h : Fl w w1 b s) (d : Sd s 0 [(xn, ⟨kB, vB, 5, 7⟩)] c11 3 none) :
    Calls Try.prog 8 #[.pointer (some ⟨b.C, 0, none⟩), .int .i64 201, (getM zB 5).v] w1 fun e w' => ∃ R s', e = .returned (.slice (some ⟨R, 0, none⟩) 1 1) ∧ CellsR w' R (mailR 2 (readM 12 1048578 5 (getM zB 5))) ∧ ¬ b.own s'.l R ∧ Fl w w' b s' ∧ Sd s' 0 [(xn, ⟨kB, vB, 5, 7⟩)] ⟨1, 2, [zW]⟩ 5 (some 1048578) := by
  have := st_miss h.at_ d zB 5 (by decide) (by decide) (by simp [Lru.hasKey, kB, zB]) (by kernel_rfl) (by decide)
  rw [next11, asked11] at this
  refine this.mono ?_
  rintro e w' ⟨v, rfl, s', ⟨R, hm, hR, hN⟩, hd, hsd⟩
  obtain ⟨rfl, hrow⟩ := hm
  exact ⟨R, s', rfl, cells_of_row hrow, hN, h.to hd, hsd⟩
set_option maxHeartbeats 1000000 in
theorem bare_any (w : World) : Calls Try.prog 13 #[] w fun e w' => e = .returned (.bool true) ∧ Only None' w w' := by
  have L0 : Hid (Only None' w w) := Lib.hid (Only.refl None' w)
  go_enter Try.func13, Try.ntmps13
  go_wp2_with fail
  go_loopw [1] (fun i wr => ∃ k : Int, 0 ≤ k ∧ k ≤ 2 ∧ i = .int .i64 k ∧ Hid (Only None' w wr)) (fun i wr => 2 - (intOf i).toNat)
  case atStart => exact ⟨0, by omega, by omega, rfl, L0⟩
  case round =>
    obtain ⟨k, h0, h2, rfl, HK⟩ := hrel
    clear L0
    rcases (show k = 0 ∨ k = 1 ∨ k = 2 by omega) with rfl | rfl | rfl
    · clear h0 h2
      go_wp2_with fail
      refine (filled_any wr).mono ?_
      rintro e w1 ⟨b, s, rfl, hf⟩
      obtain ⟨xn, hsd⟩ := hf.sd
      have HF := Lib.hid (And.intro hf.fl hsd)
      clear hf hsd
      go_wp2_with fail
      refine (get_any _ _ w1).mono ?_
      rintro e w2 ⟨rfl, o2⟩
      have HF2 := Lib.hid (And.intro (HF.out.1.on o2) HF.out.2)
      clear HF o2
      go_wp2_with fail
      refine (st_z HF2.out.1 HF2.out.2).mono ?_
      rintro e w3 ⟨R, s3, rfl, hc, hN, hfl, hsd⟩
      have HF3 := Lib.hid (And.intro hfl hsd)
      have k2 : w3.cell? ⟨R, 2, none⟩ = some (.int .u8 12) := hc.is 2 _ rfl
      have k6 : w3.cell? ⟨R, 6, none⟩ = some (.int .i64 1048578) := hc.is 6 _ rfl
      clear HF2 hc hN hfl hsd
      go_upto_region 11 with (refine wpList_store_row rfl 44 (.tmp 4) (.tmp 37) rfl _ (Mg.row { kind := 13, req := 1048578, code := 0, grant := 0, rk := 1, rf := true }).toArray rfl rfl 44 _ (heap_alloc_new _ _) (by kernel_rfl) (by kernel_rfl) (Mg.row_one _) ?_)
      clear k2 k6
      generalize hX : w3.heap.size = X
      generalize hw4 : World.setRow _ _ _ = w4
      have HG : Hid (w4.heap[X]? = some (.cells (Mg.row { kind := 13, req := 1048578, code := 0, grant := 0, rk := 1, rf := true }).toArray 44 (0, 0))) := Lib.hid (by rw [← hw4, ← hX]; exact setRow_heap _ _ _ _ _ _ (heap_alloc_new _ _))
      have HF4 := Lib.hid (And.intro (HF3.out.1.on (wy := w4) (by rw [← hw4, ← hX]; exact ((Only.refl None' w3).alloc _).setRow (Nat.le_refl _) _)) HF3.out.2)
      clear hw4 hX HF3
      refine p_begin ?_
      refine p_take 0 (.pointer (some ⟨b.C, 0, none⟩)) rfl (YR.pure (by rfl) fun w hw => y_move w rfl rfl) ?_
      simp only [Act.put, List.setIfInBounds_toArray, List.set_cons_zero, List.set_cons_succ]
      refine p_take 1 (Mg.v { kind := 13, req := 1048578, code := 0, grant := 0, rk := 1, rf := true }) rfl (YR.pure (by rfl) fun w hw => y_load44 rfl rfl ((hw.block X (Array.getElem?_eq_some_iff.1 HG.out).1 fun e => e).trans HG.out)) ?_
      simp only [Act.put, List.setIfInBounds_toArray, List.set_cons_zero, List.set_cons_succ]
      refine p_one 2 rfl (by rfl) fun wi oi => ?_
      refine wp_enter (y_enter [.pointer (some ⟨b.C, 0, none⟩), .int .i64 2, Mg.v { kind := 13, req := 1048578, code := 0, grant := 0, rk := 1, rf := true }] rfl (by rfl) (call8_ _) wi) ((st_told_B (HF4.out.1.on oi).at_ HF4.out.2 ⟨#[]⟩ 1048578 (by decide) zW (by kernel_rfl) rfl rfl (by decide) rfl).mono ?_)
      rintro e w7 ⟨v, rfl, s7, ⟨R7, hm, hR, hN⟩, hd, hsd⟩
      refine ⟨_, rfl, ?_⟩
      obtain ⟨rfl, hrow⟩ := hm
      have HF7 := Lib.hid (And.intro ((HF4.out.1.on oi).to hd) (And.intro hsd hrow))
      clear HF4 HG hR hN hd hsd hrow oi
      simp only [Act.put, List.setIfInBounds_toArray, List.set_cons_zero, List.set_cons_succ]
      refine p_take 3 (.slice (some ⟨R7, 0, none⟩) 1 1) rfl (YR.pure (by rfl) fun w hw => y_assign w rfl rfl) ?_
      simp only [Act.put, List.setIfInBounds_toArray, List.set_cons_zero, List.set_cons_succ]
      refine p_done fun wz oz => ?_
      have hc := (cells_of_row HF7.out.2.2).kept oz fun e => e
      have HF8 := Lib.hid (And.intro (HF7.out.1.on oz) HF7.out.2.1)
      have k1 : wz.cell? ⟨R7, 1, none⟩ = some (.int .i64 201) := hc.is 1 _ rfl
      have k6 : wz.cell? ⟨R7, 6, none⟩ = some (.int .i64 5) := hc.is 6 _ rfl
      clear HF7 oz hc
      go_wp2_with fail
      clear k1 k6
      refine (entries_len HF8.out.1.at_ HF8.out.2 1 rfl).mono ?_
      rintro e w9 ⟨a, cap, rfl, o9⟩
      have HF9 := Lib.hid (HF8.out.1.only.trans o9)
      clear o9 HF8
      go_wp2_with fail
      go_roundw
      case rel => exact ⟨1, by omega, by omega, rfl, Lib.hid (HK.out.trans HF9.out)⟩
      case measure => decide
    · clear h0 h2
      go_wp2_with fail
      refine (filled_any wr).mono ?_
      rintro e w1 ⟨b, s, rfl, hf⟩
      obtain ⟨xn, hsd⟩ := hf.sd
      have HF := Lib.hid (And.intro hf.fl hsd)
      clear hf hsd
      go_wp2_with fail
      refine (get_any _ _ w1).mono ?_
      rintro e w2 ⟨rfl, o2⟩
      have HF2 := Lib.hid (And.intro (HF.out.1.on o2) HF.out.2)
      clear HF o2
      go_wp2_with fail
      refine (st_z HF2.out.1 HF2.out.2).mono ?_
      rintro e w3 ⟨R, s3, rfl, hc, hN, hfl, hsd⟩
      have HF3 := Lib.hid (And.intro hfl hsd)
      have k2 : w3.cell? ⟨R, 2, none⟩ = some (.int .u8 12) := hc.is 2 _ rfl
      have k6 : w3.cell? ⟨R, 6, none⟩ = some (.int .i64 1048578) := hc.is 6 _ rfl
      clear HF2 hc hN hfl hsd
      go_upto_region 11 with (refine wpList_store_row rfl 44 (.tmp 4) (.tmp 37) rfl _ (Mg.row { kind := 13, req := 1048578, code := 0, grant := 8, rk := 1, rf := false }).toArray rfl rfl 44 _ (heap_alloc_new _ _) (by kernel_rfl) (by kernel_rfl) (Mg.row_one _) ?_)
      clear k2 k6
      generalize hX : w3.heap.size = X
      generalize hw4 : World.setRow _ _ _ = w4
      have HG : Hid (w4.heap[X]? = some (.cells (Mg.row { kind := 13, req := 1048578, code := 0, grant := 8, rk := 1, rf := false }).toArray 44 (0, 0))) := Lib.hid (by rw [← hw4, ← hX]; exact setRow_heap _ _ _ _ _ _ (heap_alloc_new _ _))
      have HF4 := Lib.hid (And.intro (HF3.out.1.on (wy := w4) (by rw [← hw4, ← hX]; exact ((Only.refl None' w3).alloc _).setRow (Nat.le_refl _) _)) HF3.out.2)
      clear hw4 hX HF3
      refine p_begin ?_
      refine p_take 0 (.pointer (some ⟨b.C, 0, none⟩)) rfl (YR.pure (by rfl) fun w hw => y_move w rfl rfl) ?_
      simp only [Act.put, List.setIfInBounds_toArray, List.set_cons_zero, List.set_cons_succ]
      refine p_take 1 (Mg.v { kind := 13, req := 1048578, code := 0, grant := 8, rk := 1, rf := false }) rfl (YR.pure (by rfl) fun w hw => y_load44 rfl rfl ((hw.block X (Array.getElem?_eq_some_iff.1 HG.out).1 fun e => e).trans HG.out)) ?_
      simp only [Act.put, List.setIfInBounds_toArray, List.set_cons_zero, List.set_cons_succ]
      refine p_one 2 rfl (by rfl) fun wi oi => ?_
      refine wp_enter (y_enter [.pointer (some ⟨b.C, 0, none⟩), .int .i64 2, Mg.v { kind := 13, req := 1048578, code := 0, grant := 8, rk := 1, rf := false }] rfl (by rfl) (call8_ _) wi) ((st_told_C (HF4.out.1.on oi).at_ HF4.out.2 ⟨#[]⟩ 1048578 (by decide) zW (by kernel_rfl) rfl rfl (by decide) rfl).mono ?_)
      rintro e w7 ⟨v, rfl, s7, ⟨R7, hm, hR, hN⟩, hd, hsd⟩
      refine ⟨_, rfl, ?_⟩
      obtain ⟨rfl, hrow⟩ := hm
      have HF7 := Lib.hid (And.intro ((HF4.out.1.on oi).to hd) (And.intro hsd hrow))
      clear HF4 HG hR hN hd hsd hrow oi
      simp only [Act.put, List.setIfInBounds_toArray, List.set_cons_zero, List.set_cons_succ]
      refine p_take 3 (.slice (some ⟨R7, 0, none⟩) 1 1) rfl (YR.pure (by rfl) fun w hw => y_assign w rfl rfl) ?_
      simp only [Act.put, List.setIfInBounds_toArray, List.set_cons_zero, List.set_cons_succ]
      refine p_done fun wz oz => ?_
      have hc := (cells_of_row HF7.out.2.2).kept oz fun e => e
      have HF8 := Lib.hid (And.intro (HF7.out.1.on oz) HF7.out.2.1)
      have k1 : wz.cell? ⟨R7, 1, none⟩ = some (.int .i64 201) := hc.is 1 _ rfl
      have k6 : wz.cell? ⟨R7, 6, none⟩ = some (.int .i64 5) := hc.is 6 _ rfl
      clear HF7 oz hc
      go_wp2_with fail
      clear k1 k6
      refine (entries_len HF8.out.1.at_ HF8.out.2 1 rfl).mono ?_
      rintro e w9 ⟨a, cap, rfl, o9⟩
      have HF9 := Lib.hid (HF8.out.1.only.trans o9)
      clear o9 HF8
      go_wp2_with fail
      go_roundw
      case rel => exact ⟨2, by omega, by omega, rfl, Lib.hid (HK.out.trans HF9.out)⟩
      case measure => decide
    · clear h0 h2
      go_wp2_with fail
      go_ret
      exact ⟨rfl, HK.out⟩
end Go.Proofs.Ytfmpidacklhmaaa
/- olds (14). (Printed by tp.py.) -/
namespace Go.Proofs.Ytfmpidacklhmaaa
open Go.RowKit Go.Maps
set_option linter.unusedVariables false
set_option linter.unusedSimpArgs false
set_option maxRecDepth 20000

theorem Sd.weak {s : Cs} {t : Int} {l : List Lru.Node} {c : Cl} {n : Nat} {q : Option Int} (d : Sd s t l c n q) : Sd s t l c n none :=
  ⟨d.clock, d.l, d.c, d.n, d.ow, d.ep, fun r hr => by cases hr⟩
def lI (xn : Nat) (i : Int) : List Lru.Node := if i < 5 then [(xn, ⟨kB, vB, 5, 7⟩)] else []
def cI (i : Int) : Cl := if i < 20 then ⟨1, 2, [zW]⟩ else ⟨1, 2, []⟩
def qI (i : Int) : Option Int := if i < 20 then some 1048578 else none
theorem live_i (xn : Nat) (i : Int) : Lru.live (i + 1) (lI xn i) = lI xn (i + 1) := by
  unfold lI
  by_cases h : i + 1 < 5
  · rw [if_pos (by omega), if_pos h]
    simp only [Lru.live, List.filter_cons, List.filter_nil]
    rw [decide_eq_true (by omega : i + 1 < 5)]
    rfl
  · rw [if_neg h]
    split
    · simp only [Lru.live, List.filter_cons, List.filter_nil]
      rw [decide_eq_false h]
      rfl
    · rfl
theorem ago_i {i : Int} (h0 : 0 ≤ i) (h1 : i ≤ 100) : agoB zW.first i 20 = decide (20 ≤ i) := by
  unfold agoB zW
  simp only [Int.sub_zero]
  rw [IntWalk.wrap64_in i (by omega), decide_eq_true (by omega : (1 : Int) ≤ 20), decide_eq_true h0]
  rfl
theorem old_i {i : Int} (h0 : 0 ≤ i) (h1 : i ≤ 100) : (cI i).old (i + 1) 20 = cI (i + 1) := by
  unfold cI
  by_cases h : i + 1 < 20
  · rw [if_pos (by omega), if_pos h]
    simp only [Cl.old, Cl.with_, List.filter_cons, List.filter_nil]
    rw [ago_i (by omega) (by omega), decide_eq_false (by omega)]
    rfl
  · rw [if_neg h]
    split
    · simp only [Cl.old, Cl.with_, List.filter_cons, List.filter_nil]
      rw [ago_i (by omega) (by omega), decide_eq_true (by omega)]
      rfl
    · rfl
/-- behind i ticks -/
structure Oi (w wz : World) (b : Bk) (i : Int) (xn R : Nat) (row : List Value) : Prop where
  s : ∃ s, Fl w wz b s ∧ Sd s i (lI xn i) (cI i) 5 (qI i) ∧ ¬ b.own s.l R
  row : CellsR wz R row
theorem tick_i {w wz : World} {b : Bk} {i : Int} {xn R : Nat} {row : List Value} (h : Oi w wz b i xn R row) (h0 : 0 ≤ i) (h1 : i < 20) :
    Calls Try.prog 10 #[.pointer (some ⟨b.C, 0, none⟩)] wz fun e w' => e = .returned (.slice none 0 0) ∧ Oi w w' b (i + 1) xn R row := by
  obtain ⟨⟨s, hfl, hsd, hno⟩, hrow⟩ := h
  have fin : ∀ q', qI (i + 1) = q' → (∀ w', (∃ s', Did b s s' wz w' ∧ Sd s' (i + 1) (Lru.live (i + 1) (lI xn i)) ((cI i).old (i + 1) 20) 5 q') → Oi w w' b (i + 1) xn R row) := by
    rintro q' hq w' ⟨s', hd, hs'⟩
    rw [live_i, old_i h0 (by omega), ← hq] at hs'
    exact ⟨⟨s', hfl.to hd, hs', (hd.kept.stay hrow.lt hno).2.1⟩, hrow.kept hd.kept.only hno⟩
  by_cases h2 : i + 1 < 20
  · have hq : qI i = some 1048578 := if_pos h1
    rw [hq] at hsd
    refine (st_tick hfl.at_ hsd h0 (by omega) fun r hr x hx ha => ?_).mono fun e w' h' => ⟨h'.1, fin _ (if_pos h2) w' h'.2⟩
    unfold cI at hx
    rw [if_pos h1] at hx
    have hx : x = zW := List.mem_singleton.1 hx
    rw [hx, ago_i (by omega) (by omega), decide_eq_true_eq] at ha
    omega
  · exact (st_tick hfl.at_ hsd.weak h0 (by omega) (fun r hr => by cases hr)).mono fun e w' h' => ⟨h'.1, fin _ (if_neg h2) w' h'.2⟩
set_option maxHeartbeats 1000000 in
theorem olds_law (w : World) : Calls Try.prog 14 #[] w fun e w' => e = .returned (.bool true) ∧ Only None' w w' := by
  have L0 : Hid (Only None' w w) := Lib.hid (Only.refl None' w)
  go_enter Try.func14, Try.ntmps14
  go_wp2_with fail
  go_loopw [1] (fun i wr => ∃ k : Int, 19 ≤ k ∧ k ≤ 21 ∧ i = .int .i64 k ∧ Hid (Only None' w wr)) (fun i wr => 21 - (intOf i).toNat)
  case atStart => exact ⟨19, by omega, by omega, rfl, L0⟩
  case round =>
    obtain ⟨k, h0, h2, rfl, HK⟩ := hrel
    clear L0
    rcases (show k = 19 ∨ k = 20 ∨ k = 21 by omega) with rfl | rfl | rfl
    · clear h0 h2
      go_wp2_with fail
      refine (filled_any wr).mono ?_
      rintro e w1 ⟨b, s, rfl, hf⟩
      obtain ⟨xn, hsd⟩ := hf.sd
      have HF := Lib.hid (And.intro hf.fl hsd)
      clear hf hsd
      go_wp2_with fail
      refine (get_any _ _ w1).mono ?_
      rintro e w2 ⟨rfl, o2⟩
      have HF2 := Lib.hid (And.intro (HF.out.1.on o2) HF.out.2)
      clear HF o2
      go_wp2_with fail
      refine (st_z HF2.out.1 HF2.out.2).mono ?_
      rintro e w3 ⟨R, s3, rfl, hc, hN, hfl, hsd⟩
      have M0 : Hid (Oi wr w3 b 0 xn R (mailR 2 (readM 12 1048578 5 (getM zB 5)))) := Lib.hid ⟨⟨s3, hfl, hsd, hN⟩, hc⟩
      clear HF2 hc hN hfl hsd
      go_wp2_with fail
      go_loopw [4] (fun i wy => ∃ j : Nat, j ≤ 19 ∧ i = .int .i64 (j : Int) ∧ Hid (Oi wr wy b (j : Int) xn R (mailR 2 (readM 12 1048578 5 (getM zB 5))))) (fun i wy => 19 - (intOf i).toNat)
      case atStart => exact ⟨0, by omega, rfl, M0⟩
      case round =>
        obtain ⟨j, hj, rfl, HJ⟩ := hrel
        clear M0
        by_cases hlt : j < 19
        · have i0 : (0 : Int) ≤ (j : Int) := by omega
          have i1 : (j : Int) < 19 := by omega
          have HLT := Lib.hid hlt
          clear hlt hj
          go_wp2_with fail
          refine (tick_i HJ.out (by omega) (by omega)).mono ?_
          rintro e w5 ⟨rfl, h5⟩
          have HJ5 := Lib.hid h5
          clear h5 HJ
          go_wp2_with fail
          go_roundw
          case rel => exact ⟨j + 1, by have := HLT.out; omega, rfl, HJ5⟩
          case measure =>
            show 19 - ((j : Int) + 1).toNat < 19 - (j : Int).toNat
            have := HLT.out
            omega
        · obtain rfl : j = 19 := by omega
          clear hlt hj
          obtain ⟨s9, hfl, hsd, hno⟩ := HJ.out.s
          have HF9 : Hid (Fl _ _ b s9 ∧ Sd s9 19 [] ⟨1, 2, [zW]⟩ 5 (some 1048578)) := Lib.hid ⟨hfl, hsd⟩
          have k6 : World.cell? _ ⟨R, 6, none⟩ = some (.int .i64 1048578) := HJ.out.row.is 6 _ rfl
          clear hfl hsd hno HJ
          go_wp2_with fail
          clear k6
          refine (st_told_D HF9.out.1.at_ HF9.out.2 ⟨#[]⟩ 1048578 (by decide) zW (by kernel_rfl) rfl rfl (by decide) rfl).mono ?_
          rintro e w6 ⟨v, rfl, s6, ⟨R6, hm, hR, hN⟩, hd, hs6⟩
          obtain ⟨rfl, hrow⟩ := hm
          have HF6 := Lib.hid (HF9.out.1.to hd)
          clear hd HF9 hR hN hs6 hrow
          go_wp2_with fail
          go_roundw
          case rel => exact ⟨20, by omega, by omega, rfl, Lib.hid (HK.out.trans HF6.out.only)⟩
          case measure => decide
    · clear h0 h2
      go_wp2_with fail
      refine (filled_any wr).mono ?_
      rintro e w1 ⟨b, s, rfl, hf⟩
      obtain ⟨xn, hsd⟩ := hf.sd
      have HF := Lib.hid (And.intro hf.fl hsd)
      clear hf hsd
      go_wp2_with fail
      refine (get_any _ _ w1).mono ?_
      rintro e w2 ⟨rfl, o2⟩
      have HF2 := Lib.hid (And.intro (HF.out.1.on o2) HF.out.2)
      clear HF o2
      go_wp2_with fail
      refine (st_z HF2.out.1 HF2.out.2).mono ?_
      rintro e w3 ⟨R, s3, rfl, hc, hN, hfl, hsd⟩
      have M0 : Hid (Oi wr w3 b 0 xn R (mailR 2 (readM 12 1048578 5 (getM zB 5)))) := Lib.hid ⟨⟨s3, hfl, hsd, hN⟩, hc⟩
      clear HF2 hc hN hfl hsd
      go_wp2_with fail
      go_loopw [4] (fun i wy => ∃ j : Nat, j ≤ 20 ∧ i = .int .i64 (j : Int) ∧ Hid (Oi wr wy b (j : Int) xn R (mailR 2 (readM 12 1048578 5 (getM zB 5))))) (fun i wy => 20 - (intOf i).toNat)
      case atStart => exact ⟨0, by omega, rfl, M0⟩
      case round =>
        obtain ⟨j, hj, rfl, HJ⟩ := hrel
        clear M0
        by_cases hlt : j < 20
        · have i0 : (0 : Int) ≤ (j : Int) := by omega
          have i1 : (j : Int) < 20 := by omega
          have HLT := Lib.hid hlt
          clear hlt hj
          go_wp2_with fail
          refine (tick_i HJ.out (by omega) (by omega)).mono ?_
          rintro e w5 ⟨rfl, h5⟩
          have HJ5 := Lib.hid h5
          clear h5 HJ
          go_wp2_with fail
          go_roundw
          case rel => exact ⟨j + 1, by have := HLT.out; omega, rfl, HJ5⟩
          case measure =>
            show 20 - ((j : Int) + 1).toNat < 20 - (j : Int).toNat
            have := HLT.out
            omega
        · obtain rfl : j = 20 := by omega
          clear hlt hj
          obtain ⟨s9, hfl, hsd, hno⟩ := HJ.out.s
          have HF9 : Hid (Fl _ _ b s9 ∧ Sd s9 20 [] ⟨1, 2, []⟩ 5 none) := Lib.hid ⟨hfl, hsd⟩
          have k6 : World.cell? _ ⟨R, 6, none⟩ = some (.int .i64 1048578) := HJ.out.row.is 6 _ rfl
          clear hfl hsd hno HJ
          go_wp2_with fail
          clear k6
          refine (st_told_none HF9.out.1.at_ HF9.out.2 { kind := 13, req := 1048578, code := 61 } rfl (by decide) (by kernel_rfl)).mono ?_
          rintro e w6 ⟨v, rfl, hv, hd⟩
          obtain rfl := hv
          have HF6 := Lib.hid (HF9.out.1.to hd)
          clear hd HF9
          go_wp2_with fail
          go_roundw
          case rel => exact ⟨21, by omega, by omega, rfl, Lib.hid (HK.out.trans HF6.out.only)⟩
          case measure => decide
    · clear h0 h2
      go_wp2_with fail
      go_ret
      exact ⟨rfl, HK.out⟩
end Go.Proofs.Ytfmpidacklhmaaa
