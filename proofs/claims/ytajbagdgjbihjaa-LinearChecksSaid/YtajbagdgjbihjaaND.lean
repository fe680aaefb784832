/- Ops (13): the walk. -/
import Derived.Test.YtajbagdgjbihjaaNC
import Derived.BigQuiet
import Derived.Deep.CutBlock
import Derived.Laws.Cover1
namespace Go.Proofs.Ytajbagdgjbihjaa
open Go.RowKit Go.Maps
set_option linter.unusedVariables false

/-- what Ops hands back -/
def OpsEnd (l : List Ev) (w : World) (e : Ending) (w' : World) : Prop := Only None' w w' ∧ match opsOf l with
  | none => e = .returned (.tuple #[.slice none 0 0, .int .i64 4])
  | some ops => ∃ v', e = .returned (.tuple #[v', .int .i64 0]) ∧ Vec w' 12 v' ops.length (ops.flatMap Opn.row) ∧ ∀ g, v'.ownBlock = some g → w.heap.size ≤ g
theorem only4 {w : World} {g o m ac a b c d : Nat} {v1 v2 v3 v4 : Value} : Only (fun q => (Value.slice (some ⟨g, o, none⟩) m ac).ownBlock = some q) w ((((w.setCell ⟨g, a, none⟩ v1).setCell ⟨g, b, none⟩ v2).setCell ⟨g, c, none⟩ v3).setCell ⟨g, d, none⟩ v4).drew :=
  (((((Only.refl (fun q => (Value.slice (some ⟨g, o, none⟩) m ac).ownBlock = some q) w).setCell (p := ⟨g, a, none⟩) rfl _).setCell (p := ⟨g, b, none⟩) rfl _).setCell (p := ⟨g, c, none⟩) rfl _).setCell (p := ⟨g, d, none⟩) rfl _).drew
theorem setOp {w : World} {g off cap n : Nat} {l : List Opn} (h : Vec w 12 (.slice (some ⟨g, off, none⟩) n cap) n (l.flatMap Opn.row)) {j : Nat} {o : Opn} (ho : l[j]? = some o) (hn : n = l.length) (k : Nat) (r : Rs) : Vec ((((w.setCell ⟨g, off + j * 12 + 3, none⟩ (.int .i64 (k : Int))).setCell ⟨g, off + j * 12 + 9, none⟩ (.int .u8 r.kind)).setCell ⟨g, off + j * 12 + 10, none⟩ (.bool r.found)).setCell ⟨g, off + j * 12 + 11, none⟩ (.string r.val)) 12 (.slice (some ⟨g, off, none⟩) n cap) n ((l.set j (o.came k r)).flatMap Opn.row) := by
  have hj := (List.getElem?_eq_some_iff.1 ho).1
  have ho' := (List.getElem?_eq_some_iff.1 ho).2
  have hlen : (l.flatMap Opn.row).length = l.length * 12 := flat_length Opn.row 12 l fun _ _ => rfl
  have h1 : Vec (w.setCells g (off + (j * 12 + 3)) [.int .i64 (k : Int)]) 12 (.slice (some ⟨g, off, none⟩) n cap) n _ := h.put (o := j * 12 + 3) (vs := [.int .i64 (k : Int)]) (by show j * 12 + 3 + 1 ≤ n * 12; omega)
  have h2 : Vec ((w.setCells g (off + (j * 12 + 3)) [.int .i64 (k : Int)]).setCells g (off + (j * 12 + 9)) [.int .u8 r.kind, .bool r.found, .string r.val]) 12 (.slice (some ⟨g, off, none⟩) n cap) n _ := h1.put (o := j * 12 + 9) (vs := [.int .u8 r.kind, .bool r.found, .string r.val]) (by show j * 12 + 9 + 3 ≤ n * 12; omega)
  have e3 : off + (j * 12 + 9) + 1 = off + j * 12 + 10 := by omega
  have e4 : off + (j * 12 + 9) + 1 + 1 = off + j * 12 + 11 := by omega
  have e1 : off + (j * 12 + 3) = off + j * 12 + 3 := by omega
  have e2 : off + (j * 12 + 9) = off + j * 12 + 9 := by omega
  have hr : ((o.came k r).row) = [.int .i64 o.cl, .int .i64 o.id, .int .i64 o.fr, .int .i64 (k : Int), .int .u8 o.op.kind, .string o.op.key, .string o.op.val, .string o.op.old, .bool o.op.had, .int .u8 r.kind, .bool r.found, .string r.val] := rfl
  have hxs : ((l.set j (o.came k r)).flatMap Opn.row) = ((((l.flatMap Opn.row).take (j * 12 + 3) ++ ([.int .i64 (k : Int)] : List Value) ++ (l.flatMap Opn.row).drop (j * 12 + 3 + 1))).take (j * 12 + 9) ++ [.int .u8 r.kind, .bool r.found, .string r.val] ++ (((l.flatMap Opn.row).take (j * 12 + 3) ++ ([.int .i64 (k : Int)] : List Value) ++ (l.flatMap Opn.row).drop (j * 12 + 3 + 1))).drop (j * 12 + 9 + 3)) := by
    have hs : l = l.take j ++ o :: l.drop (j + 1) := by
      conv => lhs; rw [← List.take_append_drop j l]
      rw [← ho', List.drop_eq_getElem_cons hj]
    have hset : l.set j (o.came k r) = l.take j ++ o.came k r :: l.drop (j + 1) := by
      rw [List.set_eq_take_append_cons_drop, if_pos hj]
    have hA : ((l.take j).flatMap Opn.row).length = j * 12 := by
      rw [flat_length Opn.row 12 _ fun _ _ => rfl, List.length_take]
      omega
    rw [hset]
    conv => rhs; rw [hs]
    simp only [List.flatMap_append, List.flatMap_cons, hr]
    obtain ⟨A, hAe⟩ : ∃ A, A = (l.take j).flatMap Opn.row := ⟨_, rfl⟩
    obtain ⟨B, hBe⟩ : ∃ B, B = (l.drop (j + 1)).flatMap Opn.row := ⟨_, rfl⟩
    rw [← hAe, ← hBe]
    rw [← hAe] at hA
    have t1 : ∀ (R : List Value) (i : Nat), (A ++ R).take (j * 12 + i) = A ++ R.take i := fun R i => by rw [← hA, List.take_length_add_append]
    have t2 : ∀ (R : List Value) (i : Nat), (A ++ R).drop (j * 12 + i) = R.drop i := fun R i => by rw [← hA, List.drop_length_add_append]
    simp only [Opn.row, Nat.add_assoc, List.append_assoc, t1, t2]
    simp
  have hw : ((w.setCells g (off + (j * 12 + 3)) [.int .i64 (k : Int)]).setCells g (off + (j * 12 + 9)) [.int .u8 r.kind, .bool r.found, .string r.val]) = ((((w.setCell ⟨g, off + j * 12 + 3, none⟩ (.int .i64 (k : Int))).setCell ⟨g, off + j * 12 + 9, none⟩ (.int .u8 r.kind)).setCell ⟨g, off + j * 12 + 10, none⟩ (.bool r.found)).setCell ⟨g, off + j * 12 + 11, none⟩ (.string r.val)) := by
    show ((((w.setCell ⟨g, off + (j * 12 + 3), none⟩ _).setCell ⟨g, off + (j * 12 + 9), none⟩ _).setCell ⟨g, off + (j * 12 + 9) + 1, none⟩ _).setCell ⟨g, off + (j * 12 + 9) + 1 + 1, none⟩ _) = _
    rw [e4, e3, e1, e2]
  rw [hxs, ← hw]
  exact h2
/-- the second loop: what goes on -/
structure OutIn (w wr : World) (av ov : Value) (all : List Opn) (j c : Nat) : Prop where
  only : Only None' w wr
  row : Vec wr 12 av all.length (all.flatMap Opn.row)
  out : Vec wr 12 ov c (((all.take j).filterMap Opn.fix).flatMap Opn.row)
  c_ : c = ((all.take j).filterMap Opn.fix).length
  apart : ∀ g, ov.ownBlock = some g → av.ownBlock ≠ some g
  new : ∀ g, ov.ownBlock = some g → w.heap.size ≤ g
theorem fix_take {all : List Opn} {j : Nat} {o : Opn} (h : all[j]? = some o) : (all.take (j + 1)).filterMap Opn.fix = (all.take j).filterMap Opn.fix ++ o.fix.toList := by
  rw [List.take_add_one, h, List.filterMap_append]
  have e : List.filterMap Opn.fix [o] = o.fix.toList := by
    rw [List.filterMap_cons, List.filterMap_nil]
    cases o.fix <;> rfl
  exact congrArg _ e
theorem OutIn.keep {w wr w1 : World} {av ov : Value} {all : List Opn} {j c : Nat} (h : OutIn w wr av ov all j c) (o : Only None' wr w1) : OutIn w w1 av ov all j c :=
  ⟨h.only.trans o, h.row.only o fun _ _ e => e, h.out.only o fun _ _ e => e, h.c_, h.apart, h.new⟩
theorem OutIn.aside {w wr w1 : World} {av ov : Value} {all : List Opn} {j c T : Nat} (h : OutIn w wr av ov all j c) (hT : w.heap.size ≤ T ∧ (∀ q, ov.ownBlock = some q → q ≠ T) ∧ ∀ q, av.ownBlock = some q → q ≠ T) (o : Only (fun q => q = T) wr w1) : OutIn w w1 av ov all j c :=
  ⟨h.only.fresh hT.1 o, h.row.only o fun q hq e => hT.2.2 q hq e, h.out.only o fun q hq e => hT.2.1 q hq e, h.c_, h.apart, h.new⟩
theorem only4' {w : World} {g a b c d : Nat} {v1 v2 v3 v4 : Value} : Only (fun q => q = g) w ((((w.setCell ⟨g, a, none⟩ v1).setCell ⟨g, b, none⟩ v2).setCell ⟨g, c, none⟩ v3).setCell ⟨g, d, none⟩ v4) :=
  ((((Only.refl (fun q => q = g) w).setCell (p := ⟨g, a, none⟩) rfl _).setCell (p := ⟨g, b, none⟩) rfl _).setCell (p := ⟨g, c, none⟩) rfl _).setCell (p := ⟨g, d, none⟩) rfl _
theorem OutIn.skip {w wr : World} {av ov : Value} {all : List Opn} {j c : Nat} {o : Opn} (h : OutIn w wr av ov all j c) (ho : all[j]? = some o) (hf : o.fix = none) : OutIn w wr av ov all (j + 1) c := by
  have e : (all.take (j + 1)).filterMap Opn.fix = (all.take j).filterMap Opn.fix := by rw [fix_take ho, hf]; exact List.append_nil _
  refine ⟨h.only, h.row, ?_, ?_, h.apart, h.new⟩
  · rw [e]; exact h.out
  · rw [e]; exact h.c_
theorem OutIn.put {w wr w1 w2 : World} {av ov ov' : Value} {all : List Opn} {j c : Nat} {o o' : Opn} (h : OutIn w wr av ov all j c) (ho : all[j]? = some o) (hf : o.fix = some o') (o1 : Only None' wr w1)
    (hv : Vec w2 12 ov' (c + 1) (((all.take j).filterMap Opn.fix).flatMap Opn.row ++ o'.row)) (og : Only (fun q => ov.ownBlock = some q) w1 w2) (hn : ∀ q, ov'.ownBlock = some q → ov.ownBlock = some q ∨ w1.heap.size ≤ q) : OutIn w w2 av ov' all (j + 1) (c + 1) := by
  have e : (all.take (j + 1)).filterMap Opn.fix = (all.take j).filterMap Opn.fix ++ [o'] := by rw [fix_take ho, hf]; rfl
  have s0 := h.only.size
  have s1 := o1.size
  refine ⟨(h.only.trans o1).trans2 og fun q hq e => absurd hq (by have := h.new q e; omega), (h.row.only o1 fun _ _ e => e).only og fun q hq e => h.apart q e hq, ?_, ?_, fun q hq e => ?_, fun q hq => ?_⟩
  · rw [e, List.flatMap_append, List.flatMap_singleton]; exact hv
  · rw [e, List.length_append, ← h.c_]; rfl
  · rcases hn q hq with h1 | h1
    · exact h.apart q h1 e
    · have := h.row.lt e; omega
  · rcases hn q hq with h1 | h1
    · exact h.new q h1
    · omega
theorem OutIn.c_le {w wr : World} {av ov : Value} {all : List Opn} {j c : Nat} (h : OutIn w wr av ov all j c) : c ≤ j := by
  rw [h.c_]
  exact Nat.le_trans (List.length_filterMap_le ..) (by rw [List.length_take]; omega)
theorem OpIn.done {l : List Ev} {w wr : World} {SM OM k n1 n2 : Nat} {av : Value} {all : List Opn} {D1 D2 : DataW Unit} (h : OpIn l w wr SM OM av all k n1 n2 D1 D2) (hk : k = l.length) : opsOf l = some (all.filterMap Opn.fix) := by
  have := h.run
  rw [hk, List.take_length] at this
  unfold opsOf
  rw [this]; rfl
set_option maxRecDepth 20000 in
set_option maxHeartbeats 8000000 in
theorem ops_any {w : World} {v : Value} {l : List Ev} (h : ER w v l) (hl : l.length ≤ 1000) (hw : ∀ e ∈ l, Wf e.client ∧ Wf e.id) : Calls Try.prog 13 #[v] w (OpsEnd l w) := by
  obtain ⟨a, ca, rfl⟩ := h.shape
  have H := Lib.hid h
  have HW := Lib.hid hw
  obtain ⟨n, hn⟩ : ∃ n, n = l.length := ⟨_, rfl⟩
  have HL := Lib.hid (And.intro hn hl)
  have hmm := @run_makeMap Try.prog
  rw [← hn] at H ⊢
  clear h hn hl hw
  obtain ⟨z39, hz39, hzs39⟩ := zero39
  have HB39 := Lib.hid t39_few
  obtain ⟨SM, hSM⟩ : ∃ SM, SM = w.heap.size := ⟨_, rfl⟩
  obtain ⟨w1, hw1⟩ : ∃ w1, w1 = w.alloc (.map #[] 0) := ⟨_, rfl⟩
  obtain ⟨OM, hOM⟩ : ∃ OM, OM = w1.heap.size := ⟨_, rfl⟩
  obtain ⟨w2, hw2⟩ : ∃ w2, w2 = w1.alloc (.map #[] 0) := ⟨_, rfl⟩
  have o1 : Only None' w w1 := by rw [hw1]; exact (Only.refl None' w).alloc _
  have o2 : Only None' w1 w2 := by rw [hw2]; exact (Only.refl None' w1).alloc _
  have m1 : w1.ownsMap Try.prog 63 (plainElem Try.prog 3) SM 0 (.map [] : DataW Unit) := by rw [hw1, hSM]; exact World.ownsMap_made w Try.prog 63 _
  have m2 : w2.ownsMap Try.prog 3 (plainElem Try.prog 3) OM 0 (.map [] : DataW Unit) := by rw [hw2, hOM]; exact World.ownsMap_made w1 Try.prog 3 _
  have hs1 : w1.heap.size = w.heap.size + 1 := by rw [hw1]; simp
  have L0 : Hid (OpIn l w w2 SM OM (.slice none 0 0) [] 0 0 0 (.map []) (.map [])) := Lib.hid
    ⟨o1.trans o2, Vec.nil _ _, (fun g hg => by cases hg), ⟨by omega, by omega, by omega⟩, owns_same m1 (o2.block SM m1.lt fun e => e), m2, ⟨Nat.le_refl _, Nat.le_refl _⟩, fun p _ _ => rfl, fun c _ zd => rfl, by rw [List.take_zero]; rfl, Nat.le_refl _⟩
  have ew1 := hw1.symm
  have ew2 := hw2.symm
  have eSM := hSM.symm
  have eOM := hOM.symm
  clear o1 o2 m1 m2 hs1 hw1 hw2 hSM hOM
  go_enter Try.func13, Try.ntmps13
  go_wp2_with fail
  go_loopw [4, 19] (fun av i wr => ∃ (k m : Nat) (aa : Option Addr) (ac n1 n2 : Nat) (D1 D2 : DataW Unit) (all : List Opn), k ≤ n ∧ av = .slice aa m ac ∧ i = .int .i64 (k : Int) ∧ Hid (m = all.length) ∧ Hid (OpIn l w wr SM OM (.slice aa m ac) all k n1 n2 D1 D2)) (fun av i wr => n - (intOf i).toNat)
  case atStart => exact ⟨0, 0, none, 0, 0, 0, _, _, [], by omega, rfl, rfl, Lib.hid rfl, L0⟩
  case round =>
    clear L0 ew1 ew2 eSM eOM hmm
    obtain ⟨k, m, aa, ac, n1, n2, D1, D2, all, hk, rfl, rfl, HM, HI⟩ := hrel
    by_cases hlt : k < n
    · have hkl : k < l.length := by have := HL.out.1; omega
      have RV := H.out.only HI.out.only fun _ _ e => e
      obtain ⟨g, off, cp, e, hg, hcell⟩ := RV.at_ hkl
      injection e with e e2 e3
      subst e
      clear e2 e3 RV
      obtain ⟨x, hx⟩ : ∃ x, x = l[k] := ⟨_, rfl⟩
      rw [← hx] at hcell
      have HX : Hid (l[k]? = some x) := Lib.hid (by rw [hx]; exact List.getElem?_eq_getElem hkl)
      have HWX : Hid (Wf x.client ∧ Wf x.id) := Lib.hid (HW.out x (by rw [hx]; exact List.getElem_mem hkl))
      have HLT := Lib.hid hlt
      obtain ⟨x0, x1, x2, x3, x4, x5, x6, x7, x8, x9, x10, x11⟩ := x
      have r0 := hcell 0 _ rfl
      have r1 := hcell 1 _ rfl
      have r2 := hcell 2 _ rfl
      have r3 := hcell 3 _ rfl
      have r4 := hcell 4 _ rfl
      have r5 := hcell 5 _ rfl
      have r6 := hcell 6 _ rfl
      have r7 := hcell 7 _ rfl
      have r8 := hcell 8 _ rfl
      have r9 := hcell 9 _ rfl
      have r10 := hcell 10 _ rfl
      have r11 := hcell 11 _ rfl
      rw [Nat.add_zero] at r0
      simp only at r0 r1 r2 r3 r4 r5 r6 r7 r8 r9 r10 r11 HWX
      have i0 : (0 : Int) ≤ (k : Int) := by omega
      have i1 : (k : Int) < (n : Int) := by omega
      obtain ⟨T, hT⟩ : ∃ T, T = wr.heap.size := ⟨_, rfl⟩
      obtain ⟨w4, hw4⟩ : ∃ w4, w4 = wr.alloc (.cells #[.int .i64 x0, .int .i64 x1, .int .i64 x2, .bool x3, .int .u8 x4, .string x5, .string x6, .string x7, .bool x8, .int .u8 x9, .bool x10, .string x11] 31) := ⟨_, rfl⟩
      obtain ⟨U, hU⟩ : ∃ U, U = w4.heap.size := ⟨_, rfl⟩
      obtain ⟨w5, hw5⟩ : ∃ w5, w5 = w4.alloc (.cells #[.int .i64 x0, .int .i64 x1] 63) := ⟨_, rfl⟩
      have o4 : Only None' wr w4 := by rw [hw4]; exact (Only.refl None' wr).alloc _
      have o5 : Only None' w4 w5 := by rw [hw5]; exact (Only.refl None' w4).alloc _
      have cT : CellsR w4 T [.int .i64 x0, .int .i64 x1, .int .i64 x2, .bool x3, .int .u8 x4, .string x5, .string x6, .string x7, .bool x8, .int .u8 x9, .bool x10, .string x11] := by rw [hw4, hT]; exact cells_new wr [.int .i64 x0, .int .i64 x1, .int .i64 x2, .bool x3, .int .u8 x4, .string x5, .string x6, .string x7, .bool x8, .int .u8 x9, .bool x10, .string x11] 31
      have cU : CellsR w5 U [.int .i64 x0, .int .i64 x1] := by rw [hw5, hU]; exact cells_new w4 [.int .i64 x0, .int .i64 x1] 63
      have HI5 := Lib.hid (HI.out.new_ (o4.trans o5))
      have CT := Lib.hid (cT.kept o5 fun e => e)
      have CU := Lib.hid cU
      have hsz := HI.out.only.size
      have HN := Lib.hid (show (T ≠ SM ∧ T ≠ OM ∧ ∀ q, (Value.slice aa m ac).ownBlock = some q → q ≠ T) ∧ (U ≠ SM ∧ U ≠ OM ∧ ∀ q, (Value.slice aa m ac).ownBlock = some q → q ≠ U) from by
        have h1 := HI.out.seen.lt
        have h2 := HI.out.open_.lt
        have h3 := o4.size
        exact ⟨⟨by omega, by omega, fun q hq => by have := HI.out.row.lt hq; omega⟩, ⟨by omega, by omega, fun q hq => by have := HI.out.row.lt hq; omega⟩⟩)
      have t0 := cT.is 0 _ rfl
      have t1 := cT.is 1 _ rfl
      have t3 := CT.out.is 3 _ rfl
      have ew4 := hw4.symm
      have eT := hT.symm
      have ew5 := hw5.symm
      have eU := hU.symm
      have HM1000 : Hid (m ≤ 1000) := Lib.hid (by have h1 := HI.out.few; have h2 := HM.out; have h3 := HL.out; omega)
      clear hx hkl hg hcell o4 o5 cT cU hsz hw4 hT hw5 hU hlt
      cases x3 with
      | false =>
        have hwf : Wf x0 ∧ Wf x1 := HWX.out
        obtain ⟨cv, stp, w6, hat, hwc, hlk, hme, hlk1, hg1, hes⟩ := own_entry laid63 keyed63 (w := w5.drew) HI5.out.seen.drew under60 Try.underlying3 zero3' (by have h1 := HI5.out.n_; have h2 := HL.out; have h3 := HLT.out; unfold maxLen; omega) (key_who hwf.1 hwf.2)
        have hcv : cv = seenN all (x0, x1) := by
          have := HI5.out.seenAt (x0, x1) hwf.1 hwf.2
          unfold wk at this
          rw [this] at hat
          injection hat with hat
          injection hat with _ hat
          exact hat.symm
        have h01 : cv = 0 ∨ cv = 1 := by rw [hcv]; unfold seenN; split <;> simp
        obtain ⟨nx, hnx⟩ : ∃ nx : Int, nx = cv + 1 := ⟨_, rfl⟩
        have hx : wrap64 (cv + 1) = nx := by rw [IntWalk.wrap64_in _ (by omega), hnx]
        obtain ⟨w7, hes1, own7, hg7⟩ := hes nx (WalkArith.wf_i64 (by omega))
        have o6 : Only (fun q => q = SM) w5 w6 := (Only.refl (fun q => q = SM) w5).drew.grown hg1 fun q hq => by injection hq with hq; exact hq.symm
        have o7 : Only (fun q => q = SM) w5 w7 := (Only.refl (fun q => q = SM) w5).drew.grown hg7 fun q hq => by injection hq with hq; exact hq.symm
        have U6 := CU.out.kept o6 HN.out.2.1
        have U7 := CU.out.kept o7 HN.out.2.1
        have T7 := CT.out.kept o7 HN.out.1.1
        have a0 := CU.out.is 0 _ rfl
        have a1 := CU.out.is 1 _ rfl
        have b0 := U6.is 0 _ rfl
        have b1 := U6.is 1 _ rfl
        have c0 := U7.is 0 _ rfl
        have c1 := U7.is 1 _ rfl
        have d0 := T7.is 0 _ rfl
        obtain ⟨c7, hlk7, hat7, _⟩ := own7.lookup_int keyed63 under60 Try.underlying3 (zero3' w7) (key_who hwf.1 hwf.2)
        have hc7 : c7 = nx := by
          rw [atKey_put_same HI5.out.seen.isMap (by trivial)] at hat7
          injection hat7 with hat7
          injection hat7 with _ hat7
          exact hat7.symm
        subst hc7
        have OWN7 := Lib.hid own7
        have O7 := Lib.hid o7
        have HT7 := Lib.hid T7
        have HCV := Lib.hid (And.intro hcv hnx)
        unfold whoV at hlk hme hlk1 hlk7
        clear hat hwc hes hg1 own7 hg7 o6 o7 U6 U7 T7 hat7 hcv hnx hwf
        rcases h01 with hz | hz
        · have dn : decide ((1 : Int) < c7) = false := by rw [decide_eq_false_iff_not]; have := HCV.out.2; omega
          have dn' : ¬ (1 : Int) < c7 := by have := HCV.out.2; omega
          have HZ := Lib.hid hz
          subst hz
          have e7 : c7 = 1 := by have := HCV.out.2; omega
          subst e7
          have HO7 := Lib.hid (owns_same HI5.out.open_ (O7.out.block OM HI5.out.open_.lt fun e => HI5.out.new.2.2 e.symm))
          have HR7 := Lib.hid (HI5.out.row.only O7.out fun q hq e => (HI5.out.av_ q hq).2.1 e)
          go_wp2_with fail
          go_region
          go_wp2_with (first
            | (at_mapUpdate; refine wpList_mapUpdate_in _ rfl _ _ _ 61 rfl 3 3 keyed3 under61 (plainElem Try.prog 3) OM n2 D2 rfl HO7.out (by have h1 := HI5.out.n_; have h2 := HL.out; have h3 := HLT.out; unfold maxLen; omega) (.int .i64 x0) (.int .i64 (m : Int)) (.int .i64 x0) rfl rfl (keyOf_int_mk Try.underlying3 HWX.out.1) (.lit (.int .i64 (m : Int))) [] (plainElem_int Try.underlying3 (WalkArith.wf_i64 (by have := HM1000.out; omega))) ?_; intro w8 ho8 ht8; have HO8 := Lib.hid ho8; have O8 : Hid (Only (fun q => q = OM) w7 w8) := Lib.hid ((Only.refl _ _).turned ht8 rfl); have T8 := Lib.hid (HT7.out.kept O8.out fun e => HN.out.1.2.1 e); have HR8 := Lib.hid (HR7.out.only O8.out fun q hq e => (HI5.out.av_ q hq).2.2 e); have s0 := T8.out.is 0 _ rfl; have s1 := T8.out.is 1 _ rfl; have s4 := T8.out.is 4 _ rfl; have s5 := T8.out.is 5 _ rfl; have s6 := T8.out.is 6 _ rfl; have s7 := T8.out.is 7 _ rfl; have s8 := T8.out.is 8 _ rfl; rw [← HM.out] at HR8; clear ho8 ht8)
            | (at_builtin; refine wpList_append_any rfl _ _ 35 rfl 39 Try.t39 z39 12 Try.t39.bytes under35 info39 hz39 t39_size rfl hzs39 (by decide) (.slice aa m ac) m (all.flatMap Opn.row) rfl (HR8.out.alloc _) (.slice (some ⟨w8.heap.size, 0, none⟩) 1 1) 1 [.int .i64 x0, .int .i64 x1, .int .i64 (k : Int), .int .i64 (-1), .int .u8 x4, .string x5, .string x6, .string x7, .bool x8, .int .u8 0, .bool false, .string ⟨#[]⟩] rfl (rd_new w8 [.int .i64 x0, .int .i64 x1, .int .i64 (k : Int), .int .i64 (-1), .int .u8 x4, .string x5, .string x6, .string x7, .bool x8, .int .u8 0, .bool false, .string ⟨#[]⟩] 39 1 12 rfl (by decide)) (Opn.row_one ⟨x0, x1, (k : Int), -1, ⟨x4, x5, x6, x7, x8⟩, ⟨0, false, ⟨#[]⟩⟩⟩) (by have := HM1000.out; unfold maxLen; omega) (by have h1 := HM1000.out; have h2 := HB39.out; have : (m + 1) * Try.t39.bytes ≤ 1001 * 200 := Nat.mul_le_mul (by omega) h2; omega) ?_; intro v2 w9 hv2 hg2 hf2; obtain ⟨oa2, oc2, rfl, _, _⟩ := hv2.shape; have HY := Lib.hid (And.intro hv2 (And.intro hg2 hf2)); clear hv2 hg2 hf2 hlk hme hlk1 hx hes1 hlk7 a0 a1 b0 b1 c0 c1 d0 s0 s1 s4 s5 s6 s7 s8 t0 t1 t3 ew4 ew5 eT eU r0 r1 r2 r3 r4 r5 r6 r7 r8 r9 r10 r11 dn dn'))
          go_roundw
          case rel =>
            refine ⟨k + 1, m + 1, oa2, oc2, n1 + 1, n2 + 1, _, _, all ++ [Ev.opn ⟨x0, x1, x2, false, x4, x5, x6, x7, x8, x9, x10, x11⟩ k], by have := HLT.out; omega, rfl, next_int (by have := HLT.out; have := HL.out; omega), Lib.hid (by rw [List.length_append, ← HM.out]; rfl), Lib.hid (HI5.out.call HX.out rfl HWX.out HCV.out.1.symm OWN7.out O7.out (by rw [← HM.out]; exact HO8.out) O8.out (by rw [← HM.out]; exact HY.out.1) ((((Only.refl (fun q => (Value.slice aa m ac).ownBlock = some q) w8).alloc _)).grown HY.out.2.1 fun q hq => hq) fun q hq => ?_)⟩
            rcases HY.out.2.2 q hq with e | e
            · exact .inl e
            · simp at e; exact .inr (by omega)
          case measure =>
            rw [next_int (by have := HLT.out; have := HL.out; omega)]
            show n - ((k + 1 : Nat) : Int).toNat < n - (k : Int).toNat
            have := HLT.out
            omega
        · have dn : decide ((1 : Int) < c7) = true := by rw [decide_eq_true_eq]; have := HCV.out.2; omega
          have dn' : (1 : Int) < c7 := by have := HCV.out.2; omega
          have HZ : Hid (seenN all (x0, x1) = 1) := Lib.hid (by rw [← HCV.out.1]; exact hz)
          clear hz
          go_wp2_with fail
          go_region
          go_wp2_with fail
          go_ret2
          have hno : opsOf l = none := HI.out.twice HX.out rfl HZ.out
          exact ⟨HI5.out.only.fresh HI5.out.new.1 O7.out, by rw [hno]; rfl⟩
      | true =>
        have HOK := HI5.out.open_
        have hlo : ∃ c : Int, (Instr.lookup 61 (.map (some OM)) (.int .i64 x0) true).run Try.prog w5 = .ok (.tuple #[.int .i64 c, .bool (openAt all x0).isSome]) w5 ∧ c = (match openAt all x0 with | some j => (j : Int) | none => 0) := by
          obtain ⟨v, ps, h1, h2⟩ := HOK.look_ok keyed3 under61 (zero3' w5) (plainElem_int Try.underlying3 (by decide)) (keyOf_int_mk Try.underlying3 HWX.out.1)
          obtain ⟨cv, rfl, h3, _⟩ := plainElem_int_inv Try.underlying3 h2
          simp only [Prod.mk.injEq] at h3
          have hat := fun zd => HI5.out.openAt_ x0 HWX.out.1 zd
          refine ⟨cv, ?_, ?_⟩
          · rw [h1]
            cases ho : openAt all x0 with
            | none =>
              simp only [ho] at hat
              rw [Maps.has_false_of_atKey hat]; rfl
            | some j =>
              simp only [ho] at hat
              rw [Maps.has_true_of_atKey hat]; rfl
          · have h4 := h3.1
            rw [hat] at h4
            cases ho : openAt all x0 with
            | none =>
              rw [ho] at h4
              injection h4 with h4
              injection h4 with _ h4
              exact h4.symm
            | some j =>
              rw [ho] at h4
              injection h4 with h4
              injection h4 with _ h4
              exact h4.symm
        obtain ⟨c, hlo, hc⟩ := hlo
        have t0' := CT.out.is 0 _ rfl
        have t1' := CT.out.is 1 _ rfl
        have t9 := CT.out.is 9 _ rfl
        have t10 := CT.out.is 10 _ rfl
        have t11 := CT.out.is 11 _ rfl
        clear HOK
        cases ho : openAt all x0 with
        | none =>
          rw [ho] at hlo hc
          simp only at hc
          simp only [Option.isSome_none] at hlo
          have hno : opsOf l = none := HI.out.wrong HX.out (by unfold opStep; rw [if_pos rfl]; simp only [ho])
          have HNO := Lib.hid hno
          subst hc
          clear hno ho
          go_wp2_with fail
          go_quiet (fail)
          go_wp2_with fail
          go_ret2
          exact ⟨HI5.out.only.drewN _, by rw [HNO.out]; rfl⟩
        | some j =>
          rw [ho] at hlo hc
          simp only at hc
          simp only [Option.isSome_some] at hlo
          subst hc
          obtain ⟨g3, o, g4, g5, g6⟩ := openAt_some ho
          have HOA := Lib.hid ho
          have HOJ := Lib.hid g4
          have hjl := lastAt_lt g3
          have hst : opStep all k ⟨x0, x1, x2, true, x4, x5, x6, x7, x8, x9, x10, x11⟩ = if o.id = x1 ∧ 1 ≤ x9 ∧ x9 ≤ 3 then some (all.set j (o.came k ⟨x9, x10, x11⟩)) else none := by
            unfold opStep
            rw [if_pos rfl]
            simp only [ho, g4]
            rfl
          have HST := Lib.hid hst
          have hjm : j < m := by rw [HM.out]; exact hjl
          have hrow := HI5.out.row
          rw [← HM.out] at hrow
          obtain ⟨ga, oa, rfl, hga, hcell, hall⟩ := hrow.form' (by omega)
          have hoj : all[j] = o := (List.getElem?_eq_some_iff.1 g4).2
          have q1 := hcell (j * 12 + 1) (.int .i64 o.id) (by rw [← hoj]; exact flat_at Opn.row 12 all j (fun y _ => rfl) hjl 1 _ rfl)
          rw [← Nat.add_assoc] at q1
          have j0 : (0 : Int) ≤ (j : Int) := by omega
          have j1 : (j : Int) < (m : Int) := by omega
          have HJM := Lib.hid hjm
          obtain ⟨oi, hoi⟩ : ∃ oi, oi = o.id := ⟨_, rfl⟩
          rw [← hoi] at q1
          have HOI := Lib.hid hoi
          clear hst hjl hrow hga hcell hall hoj ho g3 g4 g5 g6 hjm hoi
          by_cases h1 : oi = x1
          · have b1 : (oi == x1) = true := by simpa using h1
            have b1' : (oi != x1) = false := by rw [bne, b1]; rfl
            by_cases h2 : x9 < 1
            · have d2 : decide (x9 < 1) = true := decide_eq_true h2
              have HNO : Hid (opsOf l = none) := Lib.hid (HI.out.wrong HX.out (by rw [HST.out, if_neg (by omega)]))
              clear h1 h2
              go_wp2_with fail
              go_quiet (fail)
              go_wp2_with fail
              go_ret2
              exact ⟨HI5.out.only.drewN _, by rw [HNO.out]; rfl⟩
            · have d2 : decide (x9 < 1) = false := decide_eq_false h2
              by_cases h3 : 3 < x9
              · have d3 : decide (3 < x9) = true := decide_eq_true h3
                have HNO : Hid (opsOf l = none) := Lib.hid (HI.out.wrong HX.out (by rw [HST.out, if_neg (by omega)]))
                clear h1 h2 h3
                go_wp2_with fail
                go_quiet (fail)
                go_wp2_with fail
                go_ret2
                exact ⟨HI5.out.only.drewN _, by rw [HNO.out]; rfl⟩
              · have d3 : decide (3 < x9) = false := decide_eq_false h3
                have HK := Lib.hid (show o.id = x1 ∧ 1 ≤ x9 ∧ x9 ≤ 3 from ⟨by rw [← HOI.out]; exact h1, by omega, by omega⟩)
                clear h1 h2 h3
                go_wp2_with fail
                go_quiet (fail)
                have HO6 : Hid ((w5.drewN nq).ownsMap Try.prog 3 (plainElem Try.prog 3) OM n2 D2) := Lib.hid (owns_same HI5.out.open_ rfl)
                have T6 : Hid (CellsR (w5.drewN nq) T [.int .i64 x0, .int .i64 x1, .int .i64 x2, .bool true, .int .u8 x4, .string x5, .string x6, .string x7, .bool x8, .int .u8 x9, .bool x10, .string x11]) := Lib.hid (CT.out.kept ((Only.refl None' w5).drewN nq) fun e => e)
                have s0 := T6.out.is 0 _ rfl
                go_upto_region 18 with (first | (at_delete; refine wpList_delete_own _ rfl _ _ 61 3 rfl 3 keyed3 under61 (plainElem Try.prog 3) OM n2 D2 rfl HO6.out (.int .i64 x0) _ rfl (keyOf_int_mk Try.underlying3 HWX.out.1) ?_; intro w7 ho7 ht7; have HO7 := Lib.hid ho7; have O7 : Hid (Only (fun q => q = OM) (w5.drewN nq) w7) := Lib.hid ((Only.refl _ _).turned ht7 rfl); clear ho7 ht7))
                have T7 := T6.out.kept O7.out HN.out.1.2.1
                have R7 := (HI5.out.row.only ((Only.refl None' w5).drewN nq) fun _ _ e => e).only O7.out fun q hq e => (HI5.out.av_ q hq).2.2 e
                have R7m := R7
                rw [← HM.out] at R7m
                obtain ⟨_, _, ee, hga, hcell, hall⟩ := R7m.form' (by have := HJM.out; omega)
                injection ee with ee
                injection ee with ee1 ee2
                subst ee1 ee2
                have hcap : m ≤ ac := by rcases R7m.form with ⟨e, _⟩ | ⟨_, _, _, e, h1, _⟩; cases e; injection e with e1 e2 e3; omega
                have y9 := T7.is 9 _ rfl
                have y10 := T7.is 10 _ rfl
                have y11 := T7.is 11 _ rfl
                have z3 := hall (j * 12 + 3) (by have := HJM.out; omega)
                have z9 := hall (j * 12 + 9) (by have := HJM.out; omega)
                have z10 := hall (j * 12 + 10) (by have := HJM.out; omega)
                have z11 := hall (j * 12 + 11) (by have := HJM.out; omega)
                obtain ⟨v3, k3⟩ := Option.isSome_iff_exists.1 z3.1
                obtain ⟨v9, k9⟩ := Option.isSome_iff_exists.1 z9.1
                obtain ⟨v10, k10⟩ := Option.isSome_iff_exists.1 z10.1
                obtain ⟨v11, k11⟩ := Option.isSome_iff_exists.1 z11.1
                have f3 := z3.2
                have f9 := z9.2
                have f10 := z10.2
                have f11 := z11.2
                rw [← Nat.add_assoc] at k3 k9 k10 k11 f3 f9 f10 f11
                have hTg : T ≠ ga := fun e => HN.out.1.2.2 ga rfl e.symm
                have R7H := Lib.hid R7m
                clear T7 R7 R7m hga hcell hall hcap z3 z9 z10 z11
                go_wp2_with fail
                go_region
                go_wp2_with fail
                go_roundw
                case rel =>
                  refine ⟨k + 1, m, some ⟨ga, oa, none⟩, ac, n1, _, D1, _, all.set j (o.came k ⟨x9, x10, x11⟩), by have := HLT.out; omega, rfl, next_int (by have := HLT.out; have := HL.out; omega), Lib.hid (by rw [List.length_set]; exact HM.out), Lib.hid (HI5.out.back HX.out rfl HWX.out.1 HOA.out HOJ.out HK.out.1 HK.out.2.1 HK.out.2.2 HO7.out ?_ (((Only.refl (fun q => q = OM) w5).drewN nq).trans O7.out) ?_ ?_)⟩
                  · have := HI5.out.n_
                    omega
                  · have h1 := setOp (k := k) (r := ⟨x9, x10, x11⟩) R7H.out HOJ.out HM.out
                    rw [← HM.out]
                    exact h1.only ((Only.refl None' _).drew) fun _ _ e => e
                  · exact only4
                case measure =>
                  rw [next_int (by have := HLT.out; have := HL.out; omega)]
                  show n - ((k + 1 : Nat) : Int).toNat < n - (k : Int).toNat
                  have := HLT.out
                  omega
          · have b1 : (oi == x1) = false := by simpa using h1
            have b1' : (oi != x1) = true := by rw [bne, b1]; rfl
            have HNO : Hid (opsOf l = none) := Lib.hid (HI.out.wrong HX.out (by rw [HST.out, if_neg (fun h => h1 (by rw [HOI.out]; exact h.1))]))
            clear h1
            go_wp2_with fail
            go_quiet (fail)
            go_wp2_with fail
            go_ret2
            exact ⟨HI5.out.only.drewN _, by rw [HNO.out]; rfl⟩
    · obtain rfl : k = n := by omega
      have HR : Hid (opsOf l = some (all.filterMap Opn.fix)) := Lib.hid (HI.out.done HL.out.1)
      have HM1000 : Hid (m ≤ 1000) := Lib.hid (by have h1 := HI.out.few; have h2 := HM.out; have h3 := HL.out; omega)
      have HO0 : Hid (OutIn w wr (.slice aa m ac) (.slice none 0 0) all 0 0) := Lib.hid ⟨HI.out.only, HI.out.row, Vec.nil _ _, rfl, (fun g hg => by cases hg), (fun g hg => by cases hg)⟩
      clear HI H
      go_wp2_with fail
      go_loopw [12, 107] (fun ov i wr => ∃ (j c : Nat) (ba : Option Addr) (bc : Nat), j ≤ m ∧ ov = .slice ba c bc ∧ i = .int .i64 (j : Int) ∧ Hid (OutIn w wr (.slice aa m ac) (.slice ba c bc) all j c)) (fun ov i wr => m - (intOf i).toNat)
      case atStart => exact ⟨0, 0, none, 0, by omega, rfl, rfl, HO0⟩
      case round =>
        clear HO0
        obtain ⟨j, c, ba, bc, hj, rfl, rfl, HJ⟩ := hrel
        by_cases hlt : j < m
        · have hjl : j < all.length := by have := HM.out; omega
          have HC : Hid (c ≤ 1000) := Lib.hid (by have h1 := HJ.out.c_le; have h2 := HM1000.out; omega)
          have RV := HJ.out.row
          rw [← HM.out] at RV
          obtain ⟨ga, oa, rfl, hga, hcell, _⟩ := RV.form' (by omega)
          obtain ⟨o, ho⟩ : ∃ o, o = all[j] := ⟨_, rfl⟩
          have HO : Hid (all[j]? = some o) := Lib.hid (by rw [ho]; exact List.getElem?_eq_getElem hjl)
          have HLT := Lib.hid hlt
          have hx : ∀ i u, o.row[i]? = some u → wr.cell? ⟨ga, oa + j * 12 + i, none⟩ = some u := fun i u hu => by
            rw [Nat.add_assoc]
            exact hcell _ _ (flat_at Opn.row 12 all j (fun y _ => rfl) hjl i u (by rw [← ho]; exact hu))
          clear hcell ho hjl hga RV
          obtain ⟨y0, y1, y2, y3, ⟨y4, y5, y6, y7, y8⟩, ⟨y9, y10, y11⟩⟩ := o
          have r0 := hx 0 _ rfl
          have r1 := hx 1 _ rfl
          have r2 := hx 2 _ rfl
          have r3 := hx 3 _ rfl
          have r4 := hx 4 _ rfl
          have r5 := hx 5 _ rfl
          have r6 := hx 6 _ rfl
          have r7 := hx 7 _ rfl
          have r8 := hx 8 _ rfl
          have r9 := hx 9 _ rfl
          have r10 := hx 10 _ rfl
          have r11 := hx 11 _ rfl
          rw [Nat.add_zero] at r0
          clear hx
          have i0 : (0 : Int) ≤ (j : Int) := by omega
          have i1 : (j : Int) < (m : Int) := by omega
          obtain ⟨T, hT⟩ : ∃ T, T = wr.heap.size := ⟨_, rfl⟩
          obtain ⟨w6, hw6⟩ : ∃ w6, w6 = wr.alloc (.cells #[.int .i64 y0, .int .i64 y1, .int .i64 y2, .int .i64 y3, .int .u8 y4, .string y5, .string y6, .string y7, .bool y8, .int .u8 y9, .bool y10, .string y11] 39) := ⟨_, rfl⟩
          have o6 : Only None' wr w6 := by rw [hw6]; exact (Only.refl None' wr).alloc _
          have cT : CellsR w6 T [.int .i64 y0, .int .i64 y1, .int .i64 y2, .int .i64 y3, .int .u8 y4, .string y5, .string y6, .string y7, .bool y8, .int .u8 y9, .bool y10, .string y11] := by rw [hw6, hT]; exact cells_new wr [.int .i64 y0, .int .i64 y1, .int .i64 y2, .int .i64 y3, .int .u8 y4, .string y5, .string y6, .string y7, .bool y8, .int .u8 y9, .bool y10, .string y11] 39
          have CT := Lib.hid cT
          have HJ5 := Lib.hid (HJ.out.keep o6)
          have HT := Lib.hid (show w.heap.size ≤ T ∧ (∀ q, (Value.slice ba c bc).ownBlock = some q → q ≠ T) ∧ (∀ q, (Value.slice (some ⟨ga, oa, none⟩) m ac).ownBlock = some q → q ≠ T) from ⟨by rw [hT]; exact HJ.out.only.size, fun q hq => by have := HJ.out.out.lt hq; omega, fun q hq => by have := HJ.out.row.lt hq; omega⟩)
          have t0 := cT.is 0 _ rfl
          have t9 := cT.is 9 _ rfl
          have ew6 := hw6.symm
          have eT := hT.symm
          clear o6 cT hw6 hT hlt
          by_cases h3 : y9 = 3
          · have b3 : (y9 == 3) = true := by rw [h3]; rfl
            have HF : Hid (Opn.fix ⟨y0, y1, y2, y3, ⟨y4, y5, y6, y7, y8⟩, ⟨y9, y10, y11⟩⟩ = none) := Lib.hid (by unfold Opn.fix; rw [if_pos h3])
            clear h3
            go_wp2_with fail
            go_roundw
            case rel => exact ⟨j + 1, c, ba, bc, by have := HLT.out; omega, rfl, next_int (by have := HLT.out; have := HM1000.out; omega), Lib.hid (HJ5.out.skip HO.out HF.out)⟩
            case measure =>
              rw [next_int (by have := HLT.out; have := HM1000.out; omega)]
              show m - ((j + 1 : Nat) : Int).toNat < m - (j : Int).toNat
              have := HLT.out
              omega
          · have b3 : (y9 == 3) = false := by simpa using h3
            by_cases h2 : y9 = 2
            · have b2 : (y9 == 2) = true := by rw [h2]; rfl
              have HF : Hid (Opn.fix ⟨y0, y1, y2, y3, ⟨y4, y5, y6, y7, y8⟩, ⟨y9, y10, y11⟩⟩ = some ⟨y0, y1, y2, -1, ⟨y4, y5, y6, y7, y8⟩, ⟨0, false, ⟨#[]⟩⟩⟩) := Lib.hid (by unfold Opn.fix; rw [if_neg h3, if_pos h2]; rfl)
              clear h3 h2
              have t3 := CT.out.is 3 _ rfl
              have t10 := CT.out.is 10 _ rfl
              have t11 := CT.out.is 11 _ rfl
              have f3 := CT.out.thaw 3
              have f9 := CT.out.thaw 9
              have f10 := CT.out.thaw 10
              have f11 := CT.out.thaw 11
              obtain ⟨w7, hw7⟩ : ∃ w7, w7 = ((((w6.setCell ⟨T, 3, none⟩ (.int .i64 (-1))).setCell ⟨T, 9, none⟩ (.int .u8 0)).setCell ⟨T, 10, none⟩ (.bool false)).setCell ⟨T, 11, none⟩ (.string ⟨#[]⟩)) := ⟨_, rfl⟩
              have c7 : CellsR w7 T [.int .i64 y0, .int .i64 y1, .int .i64 y2, .int .i64 (-1), .int .u8 y4, .string y5, .string y6, .string y7, .bool y8, .int .u8 0, .bool false, .string ⟨#[]⟩] := by
                rw [hw7]
                exact (((CT.out.set (i := 3) (by simp) _).set (i := 9) (by simp) _).set (i := 10) (by simp) _).set (i := 11) (by simp) _
              have HJ6 : Hid (OutIn w w7 (.slice (some ⟨ga, oa, none⟩) m ac) (.slice ba c bc) all j c) := Lib.hid (HJ5.out.aside HT.out (by rw [hw7]; exact only4'))
              have ew7 := hw7.symm
              have s0 := c7.is 0 _ rfl
              have s1 := c7.is 1 _ rfl
              have s2 := c7.is 2 _ rfl
              have s3 := c7.is 3 _ rfl
              have s4 := c7.is 4 _ rfl
              have s5 := c7.is 5 _ rfl
              have s6 := c7.is 6 _ rfl
              have s7 := c7.is 7 _ rfl
              have s8 := c7.is 8 _ rfl
              have s9 := c7.is 9 _ rfl
              have s10 := c7.is 10 _ rfl
              have s11 := c7.is 11 _ rfl
              clear hw7 c7
              go_wp2_with (first | (at_builtin; go_loud (refine wpList_append_any rfl _ _ 35 rfl 39 Try.t39 z39 12 Try.t39.bytes under35 info39 hz39 t39_size rfl hzs39 (by decide) (.slice ba c bc) c (((all.take j).filterMap Opn.fix).flatMap Opn.row) rfl (HJ6.out.out.alloc _) (.slice (some ⟨w7.heap.size, 0, none⟩) 1 1) 1 [.int .i64 y0, .int .i64 y1, .int .i64 y2, .int .i64 (-1), .int .u8 y4, .string y5, .string y6, .string y7, .bool y8, .int .u8 0, .bool false, .string ⟨#[]⟩] rfl (rd_new w7 [.int .i64 y0, .int .i64 y1, .int .i64 y2, .int .i64 (-1), .int .u8 y4, .string y5, .string y6, .string y7, .bool y8, .int .u8 0, .bool false, .string ⟨#[]⟩] 39 1 12 rfl (by decide)) (Opn.row_one ⟨y0, y1, y2, -1, ⟨y4, y5, y6, y7, y8⟩, ⟨0, false, ⟨#[]⟩⟩⟩) (by have := HC.out; unfold maxLen; omega) (by have h1 := HC.out; have h2 := HB39.out; have : (c + 1) * Try.t39.bytes ≤ 1001 * 200 := Nat.mul_le_mul (by omega) h2; omega) ?_; intro v2 w9 hv2 hg2 hf2; obtain ⟨oa2, oc2, rfl, _, _⟩ := hv2.shape; have HY := Lib.hid (And.intro hv2 (And.intro hg2 hf2)); clear hv2 hg2 hf2)))
              go_roundw
              case rel =>
                refine ⟨j + 1, c + 1, oa2, oc2, by have := HLT.out; omega, rfl, next_int (by have := HLT.out; have := HM1000.out; omega), Lib.hid (HJ6.out.put HO.out HF.out ((Only.refl None' w7).alloc _) HY.out.1 ((Only.refl (fun q => (Value.slice ba c bc).ownBlock = some q) _).grown HY.out.2.1 fun q hq => hq) HY.out.2.2)⟩
              case measure =>
                rw [next_int (by have := HLT.out; have := HM1000.out; omega)]
                show m - ((j + 1 : Nat) : Int).toNat < m - (j : Int).toNat
                have := HLT.out
                omega
            · have b2 : (y9 == 2) = false := by simpa using h2
              have HF : Hid (Opn.fix ⟨y0, y1, y2, y3, ⟨y4, y5, y6, y7, y8⟩, ⟨y9, y10, y11⟩⟩ = some ⟨y0, y1, y2, y3, ⟨y4, y5, y6, y7, y8⟩, ⟨y9, y10, y11⟩⟩) := Lib.hid (by unfold Opn.fix; rw [if_neg h3, if_neg h2])
              have HJ6 := HJ5
              clear h3 h2
              have t1 := CT.out.is 1 _ rfl
              have t2 := CT.out.is 2 _ rfl
              have t3 := CT.out.is 3 _ rfl
              have t4 := CT.out.is 4 _ rfl
              have t5 := CT.out.is 5 _ rfl
              have t6 := CT.out.is 6 _ rfl
              have t7 := CT.out.is 7 _ rfl
              have t8 := CT.out.is 8 _ rfl
              have t10 := CT.out.is 10 _ rfl
              have t11 := CT.out.is 11 _ rfl
              go_wp2_with (first | (at_builtin; go_loud (refine wpList_append_any rfl _ _ 35 rfl 39 Try.t39 z39 12 Try.t39.bytes under35 info39 hz39 t39_size rfl hzs39 (by decide) (.slice ba c bc) c (((all.take j).filterMap Opn.fix).flatMap Opn.row) rfl (HJ6.out.out.alloc _) (.slice (some ⟨w6.heap.size, 0, none⟩) 1 1) 1 [.int .i64 y0, .int .i64 y1, .int .i64 y2, .int .i64 y3, .int .u8 y4, .string y5, .string y6, .string y7, .bool y8, .int .u8 y9, .bool y10, .string y11] rfl (rd_new w6 [.int .i64 y0, .int .i64 y1, .int .i64 y2, .int .i64 y3, .int .u8 y4, .string y5, .string y6, .string y7, .bool y8, .int .u8 y9, .bool y10, .string y11] 39 1 12 rfl (by decide)) (Opn.row_one ⟨y0, y1, y2, y3, ⟨y4, y5, y6, y7, y8⟩, ⟨y9, y10, y11⟩⟩) (by have := HC.out; unfold maxLen; omega) (by have h1 := HC.out; have h2 := HB39.out; have : (c + 1) * Try.t39.bytes ≤ 1001 * 200 := Nat.mul_le_mul (by omega) h2; omega) ?_; intro v2 w9 hv2 hg2 hf2; obtain ⟨oa2, oc2, rfl, _, _⟩ := hv2.shape; have HY := Lib.hid (And.intro hv2 (And.intro hg2 hf2)); clear hv2 hg2 hf2)))
              go_roundw
              case rel =>
                refine ⟨j + 1, c + 1, oa2, oc2, by have := HLT.out; omega, rfl, next_int (by have := HLT.out; have := HM1000.out; omega), Lib.hid (HJ6.out.put HO.out HF.out ((Only.refl None' w6).alloc _) HY.out.1 ((Only.refl (fun q => (Value.slice ba c bc).ownBlock = some q) _).grown HY.out.2.1 fun q hq => hq) HY.out.2.2)⟩
              case measure =>
                rw [next_int (by have := HLT.out; have := HM1000.out; omega)]
                show m - ((j + 1 : Nat) : Int).toNat < m - (j : Int).toNat
                have := HLT.out
                omega
        · obtain rfl : j = m := by omega
          go_wp2_with fail
          go_ret2
          refine ⟨HJ.out.only, ?_⟩
          rw [HR.out]
          have h1 := HJ.out.c_
          have h2 := HJ.out.out
          rw [HM.out, List.take_length] at h1 h2
          exact ⟨_, rfl, by rw [← h1]; exact h2, HJ.out.new⟩

end Go.Proofs.Ytajbagdgjbihjaa
