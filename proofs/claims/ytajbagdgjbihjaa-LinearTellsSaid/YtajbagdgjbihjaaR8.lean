/- LinearTells (6): the walk. -/
import Derived.Test.YtajbagdgjbihjaaR6
import Derived.Laws.IdiomStrings
namespace Go.Proofs.Ytajbagdgjbihjaa
open Go.RowKit Go.Maps
set_option linter.unusedVariables false

theorem under55 : Try.prog.underlying 55 = some (.slice 5) := by kernel_rfl
theorem info5 : Try.prog.info? 5 = some Try.t5 := by kernel_rfl
theorem t5_zero : Try.t5.zero = some (.int .u8 0) := by kernel_rfl
theorem t5_size : Try.t5.size = 1 := by kernel_rfl
theorem t5_bytes : Try.t5.bytes = 1 := by kernel_rfl
theorem make55 (n : Nat) (w : World) (hn : n ≤ 5000) : ∃ w', (Instr.makeSlice 55 (.int .i64 (n : Int)) (.int .i64 (n : Int))).run Try.prog w = .ok (.slice (some ⟨w.heap.size, 0, none⟩) n n) w' ∧ Vec w' 1 (.slice (some ⟨w.heap.size, 0, none⟩) n n) n (List.replicate n (.int .u8 0)) ∧ Only None' w w' := by
  obtain ⟨w', hrun, r1, r2⟩ := run_make_full (P := Try.prog) w w.heap.size 55 5 Try.t5 (.int .u8 0) 1 under55 info5 t5_zero t5_size .i64 .i64 n (by rw [t5_bytes]; omega) (by unfold maxLen; omega) (Nat.le_refl _)
  have hv := Vec.of_owns r1
  rw [show (Value.int .u8 0).cells = #[.int .u8 0] from rfl, toList_madeCells_one, Nat.mul_one] at hv
  exact ⟨w', hrun, hv, (Only.refl None' w).grown r2 (by simp)⟩
/-- a text of zeros -/
def zeroT (n : Nat) : ByteArray := ⟨(List.replicate n (0 : UInt8)).toArray⟩
theorem zeroT_size (n : Nat) : (zeroT n).size = n := by
  show (List.replicate n (0 : UInt8)).toArray.size = n
  simp
theorem conv55 {w : World} {g n : Nat} (h : Vec w 1 (.slice (some ⟨g, 0, none⟩) n n) n (List.replicate n (.int .u8 0))) : (convert 55 9 (.slice (some ⟨g, 0, none⟩) n n)).run Try.prog w = .ok (.string (zeroT n)) w := by
  have hl : (List.replicate n (0 : UInt8)).length = n := List.length_replicate
  have := run_convert_bytes_back (P := Try.prog) w 55 9 5 ⟨g, 0, none⟩ n (List.replicate n (0 : UInt8)) under55 Try.underlying5 Try.underlying9 (fun j hj => by
    rw [hl] at hj
    obtain ⟨g', off, c, e, _, _, _, h4, _⟩ := h.at_ (by omega)
    cases e
    rw [add_mid' (⟨g, 0, none⟩) j rfl]
    refine h4 j _ ?_
    rw [List.getElem?_replicate, if_pos hj, List.getElem_replicate]
    rfl)
  rw [hl] at this
  exact this
theorem turnAll_at (r : Nat → Rs → Rs) : ∀ (l : List Ev) (n j : Nat), (turnAll r n l)[j]? = l[j]?.map fun e => e.turn r (n + j)
  | [], n, j => by simp [turnAll]
  | e :: l, n, 0 => by simp [turnAll]
  | e :: l, n, j + 1 => by
    unfold turnAll
    rw [List.getElem?_cons_succ, List.getElem?_cons_succ, turnAll_at r l (n + 1) j, show n + 1 + j = n + (j + 1) by omega]
theorem long_at (kk : Nat) (big : ByteArray) (h : List Ev) (j : Nat) {x e : Ev} (he : h[kk]? = some e) (hb : e.back = true) (hx : h[j]? = some x) : (turnAll (longR kk big) 0 h)[j]? = some (if j = kk then { e with found := true, rval := big } else x) := by
  rw [turnAll_at, hx, Nat.zero_add]
  simp only [Option.map_some]
  by_cases hj : j = kk
  · subst hj
    rw [he] at hx
    injection hx with hx
    subst hx
    rw [if_pos rfl]
    unfold Ev.turn longR
    rw [if_pos hb, if_pos rfl]
    rfl
  · rw [if_neg hj]
    unfold Ev.turn longR
    rw [if_neg hj]
    split <;> rfl
/-- a slice of events, event by event -/
theorem er_elems {w : World} {g off c : Nat} {l : List Ev} (hc : l.length ≤ c) (hm : c ≤ maxLen) (hg : g < w.heap.size) (h : ∀ (j : Nat) (e : Ev), l[j]? = some e → ∀ i u, e.row[i]? = some u → w.cell? ⟨g, off + j * 12 + i, none⟩ = some u) : ER w (.slice (some ⟨g, off, none⟩) l.length c) l := by
  refine ⟨.inr ⟨g, off, c, rfl, hc, hm, hg, fun j u hu => ?_⟩⟩
  have hlen : (l.flatMap Ev.row).length = l.length * 12 := flat_length Ev.row 12 l fun x _ => rfl
  have hj := (List.getElem?_eq_some_iff.1 hu).1
  rw [hlen] at hj
  have hq : j / 12 < l.length := by omega
  have h2 := flat_at Ev.row 12 l (j / 12) (fun y _ => rfl) hq (j % 12)
  have hr : (l[j / 12]).row[j % 12]? = some ((l[j / 12]).row[j % 12]'(by show _ < 12; omega)) := List.getElem?_eq_getElem _
  have h3 := h2 _ hr
  have ej : j / 12 * 12 + j % 12 = j := by omega
  rw [ej, hu] at h3
  injection h3 with h3
  have h4 := h (j / 12) l[j / 12] (List.getElem?_eq_getElem hq) (j % 12) _ hr
  rw [← h3, Nat.add_assoc, ej] at h4
  exact h4
theorem turnAll_len (r : Nat → Rs → Rs) : ∀ (l : List Ev) (n : Nat), (turnAll r n l).length = l.length
  | [], n => rfl
  | e :: l, n => by unfold turnAll; rw [List.length_cons, turnAll_len r l, List.length_cons]
theorem long_er {w : World} {g off q c kk : Nat} {big : ByteArray} {h : List Ev} {e : Ev} (hv : Vec w 12 (.slice (some ⟨g, off, none⟩) q c) q (h.flatMap Ev.row)) (hq : q = h.length) (he : h[kk]? = some e) (hb : e.back = true) :
    ER ((w.setCell ⟨g, off + kk * 12 + 11, none⟩ (.string big)).setCell ⟨g, off + kk * 12 + 10, none⟩ (.bool true)) (.slice (some ⟨g, off, none⟩) q c) (turnAll (longR kk big) 0 h) := by
  have hkl := (List.getElem?_eq_some_iff.1 he).1
  obtain ⟨g', off', c', e', h1, h2, h3, h4, h5⟩ := hv.at_ (by omega)
  cases e'
  have hl : (turnAll (longR kk big) 0 h).length = q := by rw [turnAll_len, hq]
  have hcell : ∀ (j : Nat) (x : Ev), h[j]? = some x → ∀ i u, x.row[i]? = some u → w.cell? ⟨g, off + j * 12 + i, none⟩ = some u := fun j x hx i u hu => by
    obtain ⟨hj, rfl⟩ := List.getElem?_eq_some_iff.1 hx
    rw [Nat.add_assoc]
    exact h4 _ u (flat_at Ev.row 12 h j (fun _ _ => rfl) hj i u hu)
  have := er_elems (w := (w.setCell ⟨g, off + kk * 12 + 11, none⟩ (.string big)).setCell ⟨g, off + kk * 12 + 10, none⟩ (.bool true)) (g := g) (off := off) (c := c) (l := turnAll (longR kk big) 0 h) (by rw [hl]; exact h1) h2 (by rw [heap_size_setCell, heap_size_setCell]; exact h3) fun j x hx i u hu => ?_
  · rw [hl] at this
    exact this
  have hjl : j < h.length := by have := (List.getElem?_eq_some_iff.1 hx).1; rwa [turnAll_len] at this
  have hi : i < 12 := (List.getElem?_eq_some_iff.1 hu).1
  have hy : h[j]? = some h[j] := List.getElem?_eq_getElem hjl
  rw [long_at kk big h j he hb hy] at hx
  injection hx with hx
  subst hx
  by_cases hjk : j = kk
  · subst hjk
    rw [if_pos rfl] at hu
    by_cases h10 : i = 10
    · subst h10
      have hs : (w.setCell ⟨g, off + j * 12 + 11, none⟩ (.string big)).cell? ⟨g, off + j * 12 + 10, none⟩ = some (.bool e.found) := by
        rw [cell_aside _ _ _ _ _ (by omega)]
        exact hcell j e he 10 _ rfl
      rw [World.cell?_setCell_same _ _ _ (by rw [hs])]
      exact hu
    · rw [cell_aside _ _ _ _ _ (by omega)]
      by_cases h11 : i = 11
      · subst h11
        have hs : w.cell? ⟨g, off + j * 12 + 11, none⟩ = some (.string e.rval) := hcell j e he 11 _ rfl
        rw [World.cell?_setCell_same _ _ _ (by rw [hs])]
        exact hu
      · rw [cell_aside _ _ _ _ _ (by omega)]
        refine hcell j e he i u ?_
        rw [← hu]
        have : i = 0 ∨ i = 1 ∨ i = 2 ∨ i = 3 ∨ i = 4 ∨ i = 5 ∨ i = 6 ∨ i = 7 ∨ i = 8 ∨ i = 9 := by omega
        rcases this with rfl | rfl | rfl | rfl | rfl | rfl | rfl | rfl | rfl | rfl <;> rfl
  · rw [if_neg hjk] at hu
    rw [cell_aside _ _ _ _ _ (by omega), cell_aside _ _ _ _ _ (by omega)]
    exact hcell j _ hy i u hu
theorem EvsOk.turn {h : List Ev} (g : EvsOk h) (kk : Nat) (big : ByteArray) : EvsOk (turnAll (longR kk big) 0 h) := by
  refine ⟨by rw [turnAll_len]; exact g.1, fun e he => ?_⟩
  obtain ⟨j, hj, rfl⟩ := List.getElem_of_mem he
  have hjl : j < h.length := by rwa [turnAll_len] at hj
  have h1 := turnAll_at (longR kk big) h 0 j
  rw [List.getElem?_eq_getElem hj, List.getElem?_eq_getElem hjl] at h1
  simp only [Option.map_some] at h1
  injection h1 with h1
  rw [h1]
  have := g.2 h[j] (List.getElem_mem hjl)
  unfold Ev.turn
  split <;> exact this
/-- the comings back till j -/
def bks (h : List Ev) (j : Nat) : List Nat := (List.range j).filter fun i => match h[i]? with
  | some e => e.back && decide (e.rkind = 1)
  | none => false
theorem bks_next {h : List Ev} {j : Nat} {e : Ev} (he : h[j]? = some e) : bks h (j + 1) = bks h j ++ if e.back = true ∧ e.rkind = 1 then [j] else [] := by
  unfold bks
  rw [List.range_succ, List.filter_append]
  congr 1
  by_cases hc : e.back = true ∧ e.rkind = 1
  · rw [if_pos hc, List.filter_cons_of_pos]
    · rfl
    · rw [he]
      simp only
      rw [hc.1, decide_eq_true hc.2]; rfl
  · rw [if_neg hc, List.filter_cons_of_neg]
    · rfl
    · rw [he]
      simp only
      cases hb : e.back with
      | false => simp
      | true => rw [decide_eq_false fun h => hc ⟨hb, h⟩]; decide
theorem bks_mem {h : List Ev} {j i : Nat} (hi : i ∈ bks h j) : i < j ∧ ∃ e, h[i]? = some e ∧ e.back = true := by
  obtain ⟨h1, h2⟩ := List.mem_filter.1 hi
  refine ⟨List.mem_range.1 h1, ?_⟩
  cases he : h[i]? with
  | none => rw [he] at h2; cases h2
  | some e =>
    rw [he] at h2
    simp only [Bool.and_eq_true] at h2
    exact ⟨e, rfl, h2.1⟩
def nrow (l : List Nat) : List Value := l.map fun (i : Nat) => Value.int .i64 (i : Int)
/-- the state -/
structure TL (w wr : World) (vh vb : Value) (h : List Ev) (l : List Nat) : Prop where
  only : Only None' w wr
  hist : ER wr vh h
  row : Vec wr 1 vb l.length (nrow l)
  new : ∀ g, vb.ownBlock = some g → w.heap.size ≤ g ∧ vh.ownBlock ≠ some g
section
variable {w wr w1 : World} {vh vb v' : Value} {h : List Ev} {l l2 : List Nat}
theorem TL.new_ (q : TL w wr vh vb h l) (o : Only None' wr w1) : TL w w1 vh vb h l := ⟨q.only.trans o, q.hist.only o fun _ _ e => e, q.row.only o fun _ _ e => e, q.new⟩
theorem TL.app (q : TL w wr vh vb h l) (h3 : Vec w1 1 v' (l ++ l2).length (nrow (l ++ l2))) (hg : wr.grownBy w1 vb.ownBlock) (hf : ∀ k, v'.ownBlock = some k → vb.ownBlock = some k ∨ wr.heap.size ≤ k) : TL w w1 vh v' h (l ++ l2) := by
  have o : Only (fun g => vb.ownBlock = some g) wr w1 := (Only.refl _ wr).grown hg fun k hk => hk
  refine ⟨q.only.trans2 o fun g hg e => absurd hg (by have := (q.new g e).1; omega), q.hist.only o fun g hg e => (q.new g e).2 hg, h3, fun g hg' => ?_⟩
  rcases hf g hg' with e | e
  · exact q.new g e
  · exact ⟨Nat.le_trans q.only.size e, fun e' => by have := q.hist.own_lt' e'; omega⟩
end
theorem y_len54 {a : Act} {o : Oper} {x : Operand} (w : World) {p : Option Addr} {n c : Nat} (ho : o.op = .call { callee := .builtin .len, args := #[x], argTypes := #[54] }) (hx : a.eval x = .slice p n c) : (execOp a.eval o).run Try.prog w = .ok (.value (.int .i64 (n : Int))) w := by
  unfold execOp
  simp only [ho, resolve, invoke, builtin, Sem.run_bind, Sem.run_pure, Result.andThen_ok, List.map_toArray, List.map_cons, List.map_nil, hx]
  go_simp
theorem TL.at_ {w wr : World} {vh : Value} {ba : Option Addr} {m bc : Nat} {h : List Ev} {l : List Nat} (q : TL w wr vh (.slice ba m bc) h l) (hm : m = l.length) {i : Nat} (hi : i < m) : ∃ g off, ba = some ⟨g, off, none⟩ ∧ ∀ w', Only None' wr w' → w'.cell? ⟨g, off + i, none⟩ = some (.int .i64 ((l[i]'(by omega) : Nat) : Int)) := by
  subst hm
  obtain ⟨g, off, c, e, _⟩ := q.row.at_ (by omega)
  cases e
  refine ⟨g, off, rfl, fun w' o => ?_⟩
  obtain ⟨g', off', c', e', _, _, _, h4, _⟩ := (q.new_ o).row.at_ (by omega)
  cases e'
  refine h4 i _ ?_
  unfold nrow
  rw [List.getElem?_map, List.getElem?_eq_getElem hi]
  rfl
set_option maxRecDepth 20000 in
set_option maxHeartbeats 4000000 in
theorem tells_walk (a : Option Addr) (len c : Nat) (hd : Int) (l : List Pl) (w : World) (h0 : PLR w (.slice a len c) l) (hw : ∀ p ∈ l, (Wf p.client ∧ Wf p.call ∧ Wf p.do_ ∧ Wf p.back) ∧ p.op.key.size ≤ maxLen) : Calls Try.prog 6 #[.slice a len c, .int .i64 hd] w fun e w' => e = .returned (.bool true) ∧ Below w.heap.size w w' := by
  obtain rfl : len = l.length := by
    rcases h0.form with ⟨e, rfl⟩ | ⟨g, off, cap, e, _⟩
    · cases e; rfl
    · cases e; rfl
  have H := Lib.hid h0
  have HW := Lib.hid hw
  obtain ⟨n, hn⟩ : ∃ n, n = l.length := ⟨_, rfl⟩
  have HN := Lib.hid hn
  rw [← hn] at H ⊢
  clear h0 hw hn
  by_cases hbig : 14 < n
  · have d1 : decide ((14 : Int) < (n : Int)) = true := by rw [decide_eq_true_eq]; omega
    have d2 : decide (14 < n) = true := by rw [decide_eq_true_eq]; omega
    have i1 : (14 : Int) < (n : Int) := by omega
    go_enter Try.func6, Try.ntmps6
    go_wp2_with fail
    refine (works_any _).mono ?_
    rintro e w1 ⟨rfl, o1⟩
    go_wp2_with fail
    refine (works_any _).mono ?_
    rintro e w2 ⟨rfl, o2⟩
    go_wp2_with fail
    go_ret
    exact ⟨rfl, (o1.trans o2).below (Nat.le_refl _) fun k e => e.elim⟩
  have d1 : decide ((14 : Int) < (n : Int)) = false := by rw [decide_eq_false_iff_not]; omega
  have d2 : decide (14 < n) = false := by rw [decide_eq_false_iff_not]; omega
  have HB : Hid (n ≤ 14) := Lib.hid (by omega)
  have HL : Hid (l.length ≤ 14) := Lib.hid (by rw [← HN.out]; exact HB.out)
  clear hbig
  go_enter Try.func6, Try.ntmps6
  go_wp2_with fail
  refine (works_any _).mono ?_
  rintro e w1 ⟨rfl, o1⟩
  have O1 := Lib.hid o1
  clear o1
  go_wp2_with fail
  refine (played_any (l := l) (by have := H.out.only O1.out fun _ _ e => e; exact this) HL.out).mono ?_
  rintro e w2 ⟨vh, h, m, rs, t, rfl, hv2, hn2, o2, g2⟩
  have HG := Lib.hid g2
  have HO2 := Lib.hid (O1.out.trans o2)
  have HCK := Lib.hid (g2.check (by rw [pns_len]; exact HL.out))
  have HOK := Lib.hid (g2.ok HL.out fun p hp => (HW.out p hp).2)
  obtain ⟨ha, hc, rfl, _, _⟩ := hv2.shape
  obtain ⟨q, hq⟩ : ∃ q, q = h.length := ⟨_, rfl⟩
  have HQN := Lib.hid hq
  have HER := Lib.hid (er_vec hv2)
  rw [← hq] at HER ⊢
  clear hv2 hn2 o2 g2 hq O1
  have HT0 : Hid (TL w2 w2 (.slice ha q hc) (.slice none 0 0) h []) := Lib.hid ⟨Only.refl _ _, HER.out, Vec.nil _ _, (fun g hg => by cases hg)⟩
  have HQ28 : Hid (q ≤ 28) := Lib.hid (by rw [HQN.out]; exact HCK.out.1)
  obtain ⟨z31, hz31, hzs31⟩ := zero31
  have HB31 := Lib.hid t31_bytes
  clear HER
  go_wp2_with fail
  go_loopw [6, 7] (fun u6 u7 wr => ∃ j : Nat, j ≤ q ∧ u7 = .int .i64 (j : Int) ∧ Hid (TL w2 wr (.slice ha q hc) u6 h (bks h j))) (fun u6 u7 wr => q - (intOf u7).toNat)
  case atStart => exact ⟨0, by omega, rfl, HT0⟩
  case round =>
    clear HT0
    rename World => wr
    obtain ⟨j, hj, rfl, HJ⟩ := hrel
    by_cases hlt : j < q
    · have hjl : j < h.length := by have := HQN.out; omega
      obtain ⟨g, off, cp, e, hg, hcell⟩ := HJ.out.hist.at_ hjl
      injection e with e e2 e3
      subst e
      clear e2 e3
      obtain ⟨x, hx⟩ : ∃ x, x = h[j] := ⟨_, rfl⟩
      rw [← hx] at hcell
      have HXX : Hid (h[j]? = some x) := Lib.hid (by rw [hx]; exact List.getElem?_eq_getElem hjl)
      clear hx
      obtain ⟨xb, hxb⟩ : ∃ xb, x.back = xb := ⟨_, rfl⟩
      obtain ⟨xk, hxk⟩ : ∃ xk, x.rkind = xk := ⟨_, rfl⟩
      have y3 := hcell 3 _ rfl
      have y9 := hcell 9 _ rfl
      rw [hxb] at y3
      rw [hxk] at y9
      have i0 : (0 : Int) ≤ (j : Int) := by omega
      have i1 : (j : Int) < (q : Int) := by omega
      have HLT := Lib.hid hlt
      have hbl : (bks h j).length ≤ j := Nat.le_trans (List.length_filter_le _ _) (by rw [List.length_range]; exact Nat.le_refl _)
      have HBL := Lib.hid hbl
      clear hlt hj hjl hcell hg hbl
      by_cases hm : xb = true ∧ xk = 1
      · obtain ⟨rfl, rfl⟩ := hm
        have HX2 := Lib.hid (And.intro hxb hxk)
        clear hxb hxk
        go_wp2_with (at_builtin; refine wpList_append_any rfl _ _ 54 rfl 3 Try.t3 (.int .i64 0) 1 8 under54 info3 t3_zero t3_size t3_bytes rfl (by decide) u6 (bks h j).length (nrow (bks h j)) rfl (HJ.out.row.alloc _) (.slice (some ⟨wr.heap.size, 0, none⟩) 1 1) 1 [.int .i64 (j : Int)] rfl (rd_one' wr _ 3) (by intro u hu; rw [List.mem_singleton] at hu; subst hu; rfl) (by have := HBL.out; have := HQ28.out; have := HLT.out; unfold maxLen; omega) (by have := HBL.out; have := HQ28.out; have := HLT.out; omega) ?_; intro v5 w5 hv5 hg5 hf5; have HJ5 := Lib.hid ((HJ.out.new_ ((Only.refl None' wr).alloc (.cells #[.int .i64 (j : Int)] 3))).app (l2 := [j]) (by unfold nrow at hv5 ⊢; rw [List.length_append, List.map_append]; exact hv5) hg5 hf5); clear hv5 hg5 hf5)
        go_roundw
        case rel => exact ⟨j + 1, by have := HLT.out; omega, next_int (by have := HQ28.out; have := HLT.out; omega), Lib.hid (by rw [bks_next HXX.out, if_pos HX2.out]; exact HJ5.out)⟩
        case measure => exact meas HLT.out (by have := HQ28.out; omega)
      · have HM : Hid (¬ (x.back = true ∧ x.rkind = 1)) := Lib.hid (by rw [hxb, hxk]; exact hm)
        have hz : xb = false ∨ (xb = true ∧ (xk == 1) = false) := by
          cases xb with
          | false => exact .inl rfl
          | true => exact .inr ⟨rfl, by rw [beq_eq_false_iff_ne]; exact fun e => hm ⟨rfl, e⟩⟩
        clear hm hxb hxk
        rcases hz with rfl | ⟨rfl, hz⟩
        all_goals
          go_wp2_with fail
          go_roundw
          case rel => exact ⟨j + 1, by have := HLT.out; omega, next_int (by have := HQ28.out; have := HLT.out; omega), Lib.hid (by rw [bks_next HXX.out, if_neg HM.out, List.append_nil]; exact HJ.out)⟩
          case measure => exact meas HLT.out (by have := HQ28.out; omega)
    · obtain rfl : j = q := by omega
      clear hlt hj
      obtain ⟨bs, hbs⟩ : ∃ bs, bs = bks h j := ⟨_, rfl⟩
      rw [← hbs] at HJ
      have HBS := Lib.hid hbs
      obtain ⟨ba, bc, rfl, _, _⟩ := HJ.out.row.shape
      obtain ⟨m, hm⟩ : ∃ m, m = bs.length := ⟨_, rfl⟩
      have HM := Lib.hid hm
      have HM28 : Hid (m ≤ 28) := Lib.hid (by
        rw [hm, hbs]
        have h1 := List.length_filter_le (fun i => match h[i]? with | some e => e.back && decide (e.rkind = 1) | none => false) (List.range j)
        rw [List.length_range] at h1
        exact Nat.le_trans h1 HQ28.out)
      rw [← hm] at HJ ⊢
      clear hbs hm
      by_cases h0 : m = 0
      · subst h0
        go_wp2_with fail
        go_ret
        exact ⟨rfl, (HO2.out.trans HJ.out.only).below (Nat.le_refl _) fun k e => e.elim⟩
      have hm0 : 0 < m := by omega
      have e0 : ((m : Int) == 0) = false := by rw [beq_eq_false_iff_ne]; omega
      have HM0 := Lib.hid hm0
      obtain ⟨ix, hix⟩ : ∃ ix, ix = um hd m := ⟨_, rfl⟩
      have hixm : ix < m := by rw [hix]; exact um_lt hd hm0
      obtain ⟨gb, ob, rfl, hbc⟩ := HJ.out.at_ HM.out hixm
      obtain ⟨kk, hkk⟩ : ∃ kk, kk = bs[ix]'(by have := HM.out; omega) := ⟨_, rfl⟩
      rw [← hkk] at hbc
      have hkm : kk ∈ bks h j := by rw [hkk, ← HBS.out]; exact List.getElem_mem _
      obtain ⟨hkj, e, hke, hkb⟩ := bks_mem hkm
      have HKE := Lib.hid (And.intro hke (And.intro hkb hkj))
      have HBC := Lib.hid hbc
      have HIX := Lib.hid (And.intro hix hixm)
      clear h0 hm0 hkk hkm hbc hke hkb hkj hixm
      go_upto_region 12 with fail
      go_cut [8] from 49 to 58 (fun u8 wx => u8 = .int .i64 (kk : Int) ∧ Hid (Only None' wr wx))
      case first =>
        refine p_begin ?_
        have HS : Hid (Only None' wr wr) := Lib.hid (Only.refl _ _)
        have HN : Hid (Only None' wr wr) := Lib.hid (Only.refl _ _)
        refine p_take 0 (.slice (some ⟨gb, ob, none⟩) m bc) rfl (YR.pure (by rfl) fun w hw => y_move w rfl rfl) ?_
        simp only [Act.put, List.setIfInBounds_toArray, List.set_cons_zero, List.set_cons_succ]
        refine p_take 1 (.int .i64 hd) rfl (YR.pure (by rfl) fun w hw => y_move w rfl rfl) ?_
        simp only [Act.put, List.setIfInBounds_toArray, List.set_cons_zero, List.set_cons_succ]
        refine p_take 2 (.int .u64 (((hd % 18446744073709551616).toNat : Nat) : Int)) rfl (YR.pure (by rfl) fun w hw => y_conv_u w rfl rfl rfl) ?_
        simp only [Act.put, List.setIfInBounds_toArray, List.set_cons_zero, List.set_cons_succ]
        refine p_take 3 (.slice (some ⟨gb, ob, none⟩) m bc) rfl (YR.pure (by rfl) fun w hw => y_move w rfl rfl) ?_
        simp only [Act.put, List.setIfInBounds_toArray, List.set_cons_zero, List.set_cons_succ]
        refine p_take 4 (.int .i64 (m : Int)) rfl (YR.pure (by rfl) fun w hw => y_len54 w rfl rfl) ?_
        simp only [Act.put, List.setIfInBounds_toArray, List.set_cons_zero, List.set_cons_succ]
        refine p_take 5 (.int .u64 (m : Int)) rfl (YR.pure (by rfl) fun w hw => y_conv_u (m := m) w rfl rfl (by have := HM28.out; omega)) ?_
        simp only [Act.put, List.setIfInBounds_toArray, List.set_cons_zero, List.set_cons_succ]
        refine p_take 6 (.int .u64 ((ix : Nat) : Int)) rfl (YR.pure (by rfl) fun w hw => by rw [HIX.out.1]; exact y_rem (m := (hd % 18446744073709551616).toNat) (k := m) w rfl rfl rfl HM0.out (by omega)) ?_
        simp only [Act.put, List.setIfInBounds_toArray, List.set_cons_zero, List.set_cons_succ]
        refine p_take 7 (.int .i64 ((ix : Nat) : Int)) rfl (YR.pure (by rfl) fun w hw => y_conv_i w rfl rfl (by have := HIX.out.2; have := HM28.out; omega)) ?_
        simp only [Act.put, List.setIfInBounds_toArray, List.set_cons_zero, List.set_cons_succ]
        refine p_take 8 (.pointer (some ⟨gb, ob + ix, none⟩)) rfl (YR.pure (by rfl) fun w hw => y_ix54 w rfl rfl rfl HIX.out.2) ?_
        simp only [Act.put, List.setIfInBounds_toArray, List.set_cons_zero, List.set_cons_succ]
        refine p_take 9 (.int .i64 (kk : Int)) rfl (YR.pure (by rfl) fun w hw => y_load3 rfl rfl (HBC.out w hw)) ?_
        simp only [Act.put, List.setIfInBounds_toArray, List.set_cons_zero, List.set_cons_succ]
        refine p_take 10 (.int .i64 (kk : Int)) rfl (YR.pure (by rfl) fun w hw => y_assign w rfl rfl) ?_
        simp only [Act.put, List.setIfInBounds_toArray, List.set_cons_zero, List.set_cons_succ]
        refine p_done fun wz oz => ?_
        have HZ := Lib.hid (HN.out.trans oz)
        clear HS oz
        go_wp2_with fail
        go_meet
        exact ⟨rfl, HZ⟩
      case rest =>
        obtain ⟨rfl, HX⟩ := hcut
        rename World => wx
        have HER := Lib.hid ((HJ.out.new_ HX.out).hist)
        go_upto_region 14 with (at_builtin; refine wpList_append_any rfl _ _ 34 rfl 31 Try.t31 z31 12 Try.t31.bytes under34 info31 hz31 t31_size rfl hzs31 (by decide) (.slice (some ⟨wx.heap.size, 0, none⟩) 0 0) 0 [] rfl (made_nil wx 31 12) (.slice ha j hc) j (h.flatMap Ev.row) rfl (by have h1 := er_rd (HER.out.only ((Only.refl None' wx).alloc (.cells #[] 31)) fun _ _ e => e); rw [← HQN.out] at h1; exact h1) (evs_one h) (by have := HQ28.out; unfold maxLen; omega) (by have h1 := HQ28.out; have h2 := HB31.out; have : (0 + j) * Try.t31.bytes ≤ 28 * 200 := Nat.mul_le_mul (by omega) h2; omega) ?_; intro vx w9 hv9 hg9 hf9; rw [Nat.zero_add, List.nil_append] at hv9; have HV9 := Lib.hid hv9; have HO9 : Hid (Only None' wx w9) := Lib.hid (((Only.refl None' wx).alloc (.cells #[] 31)).trans2 ((Only.refl (fun q => q = wx.heap.size) _).grown hg9 fun k e => by injection e with e; exact e.symm) (fun q hq e => by omega)); have HF9 : Hid (∀ g, vx.ownBlock = some g → wx.heap.size ≤ g) := Lib.hid fun g hg => (by rcases hf9 g hg with e | e; (have e : some wx.heap.size = some g := e; injection e with e; omega); (have : wx.heap.size ≤ (wx.alloc (.cells #[] 31)).heap.size := ((Only.refl None' wx).alloc (.cells #[] 31)).size; omega)); clear hv9 hg9 hf9)
        rename World => w9
        rename Value => vx
        obtain ⟨gx, ox, cx, rfl, hcx, hcm, hgx, hcell, hall⟩ := HV9.out.at_ (by have := HKE.out.2.2; omega)
        obtain ⟨N, hN⟩ : ∃ N, N = 2001 := ⟨_, rfl⟩
        obtain ⟨w10, hmk, hvz, o10⟩ := make55 N w9 (by omega)
        obtain ⟨B, hB⟩ : ∃ B, B = w9.heap.size := ⟨_, rfl⟩
        rw [← hB] at hmk hvz
        have hmk2 : (Instr.makeSlice 55 (.int .i64 2001) (.int .i64 2001)).run Try.prog w9 = .ok (.slice (some ⟨B, 0, none⟩) N N) w10 := by
          rw [hN] at hmk ⊢
          exact hmk
        have hcv := conv55 hvz
        obtain ⟨big, hbig⟩ : ∃ big, big = zeroT N := ⟨_, rfl⟩
        rw [← hbig] at hcv
        have HBIG : Hid (2000 < big.size) := Lib.hid (by rw [hbig, zeroT_size]; omega)
        have HV10 := Lib.hid (HV9.out.only o10 fun _ _ e => e)
        have HO10 := Lib.hid o10
        have hkl : kk < h.length := by have := HKE.out.2.2; have := HQN.out; omega
        have hcell2 : ∀ i u, e.row[i]? = some u → w10.cell? ⟨gx, ox + kk * 12 + i, none⟩ = some u := fun i u hu => by
          have h1 := (List.getElem?_eq_some_iff.1 HKE.out.1).2
          rw [Nat.add_assoc, o10.cell hgx (fun e => e)]
          exact hcell _ u (flat_at Ev.row 12 h kk (fun _ _ => rfl) hkl i u (by rw [h1]; exact hu))
        have hfz : ∀ i, i < 12 → w10.frozen? ⟨gx, ox + kk * 12 + i, none⟩ = false := fun i hi => by
          rw [Nat.add_assoc, o10.frozen hgx (fun e => e)]
          exact (hall _ (by have := HKE.out.2.2; omega)).2
        have c11 := hcell2 11 _ rfl
        have c10 := hcell2 10 _ rfl
        have f11 := hfz 11 (by omega)
        have f10 := hfz 10 (by omega)
        have i0 : (0 : Int) ≤ (kk : Int) := by omega
        have i1 : (kk : Int) < (j : Int) := by have := HKE.out.2.2; omega
        have HCKX : Hid (Calls Try.prog 10 #[.slice (some ⟨gx, ox, none⟩) j cx] ((w10.setCell ⟨gx, ox + kk * 12 + 11, none⟩ (.string big)).setCell ⟨gx, ox + kk * 12 + 10, none⟩ (.bool true)) fun e w' => e = .returned (.tuple #[.bool false, .int .i64 0]) ∧ Only None' ((w10.setCell ⟨gx, ox + kk * 12 + 11, none⟩ (.string big)).setCell ⟨gx, ox + kk * 12 + 10, none⟩ (.bool true)) w') := Lib.hid (by
          have h1 := check_any (long_er (big := big) HV10.out HQN.out HKE.out.1 HKE.out.2.1) (HOK.out.turn kk big).1 (HOK.out.turn kk big).2
          rw [HCK.out.2.2.2.2 kk e big HKE.out.1 HKE.out.2.1 HBIG.out] at h1
          exact h1)
        have HOS : Hid (Only (fun p => p = gx) w10 ((w10.setCell ⟨gx, ox + kk * 12 + 11, none⟩ (.string big)).setCell ⟨gx, ox + kk * 12 + 10, none⟩ (.bool true))) := Lib.hid (((Only.refl (fun p => p = gx) w10).setCell (p := ⟨gx, ox + kk * 12 + 11, none⟩) rfl _).setCell (p := ⟨gx, ox + kk * 12 + 10, none⟩) rfl _)
        have HGX : Hid (wx.heap.size ≤ gx) := Lib.hid (HF9.out gx rfl)
        clear hcell hall hcell2 hfz hmk hvz hB hN hbig hkl o10 hcx hcm hgx e0
        go_wp2_with fail
        refine HCKX.out.mono ?_
        rintro e w11 ⟨rfl, o11⟩
        have HO11 := Lib.hid o11
        clear o11 HCKX
        go_wp2_with fail
        go_ret
        have oa := HO2.out.trans (HJ.out.only.trans HX.out)
        have ob := (oa.trans (HO9.out.trans HO10.out)).trans2 HOS.out (fun q hq e => by have h1 := oa.size; have h2 := HGX.out; omega)
        exact ⟨rfl, (ob.trans HO11.out).below (Nat.le_refl _) fun k e => e.elim⟩
end Go.Proofs.Ytajbagdgjbihjaa
