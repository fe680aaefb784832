/- could (23). -/
import Derived.Test.YtajbagdgjbihjaaNA
import Derived.Laws.EntriesVeiled
namespace Go.Proofs.Ytajbagdgjbihjaa
open Go.RowKit Go.Maps
set_option linter.unusedVariables false

theorem look_all (l : List Opn) (hl : l.length ≤ 14) (need : Nat) (hN : Needs l need) : ∀ (r : Nat) (s : St), StOk s → free l s.1 ≤ r → LookOK l need s
  | 0, s, hs, h => look_step l hl need hN s hs fun t _ ht => by omega
  | r + 1, s, hs, h => look_step l hl need hN s hs fun t hto ht => look_all l hl need hN r t hto (by omega)
/-- which are needed, of the first of them -/
def NeedTo (l : List Opn) (k need : Nat) : Prop := need < 2 ^ k ∧ ∀ i, need.testBit i = true ↔ i < k ∧ ∃ o, l[i]? = some o ∧ 0 ≤ o.til
theorem NeedTo.zero (l : List Opn) : NeedTo l 0 0 := ⟨by decide, fun i => by simp⟩
theorem NeedTo.yes {l : List Opn} {k need : Nat} {o : Opn} (h : NeedTo l k need) (ho : l[k]? = some o) (h0 : 0 ≤ o.til) : NeedTo l (k + 1) (need ||| 2 ^ k) := by
  refine ⟨Nat.or_lt_two_pow (Nat.lt_of_lt_of_le h.1 (Nat.pow_le_pow_right (by decide) (Nat.le_succ k))) (Nat.pow_lt_pow_right (by decide) (Nat.lt_succ_self k)), fun i => ?_⟩
  have := congrFun (or_bit need k) i
  rw [this, Bool.or_eq_true, decide_eq_true_eq, h.2]
  constructor
  · rintro (⟨h1, h2⟩ | rfl)
    · exact ⟨by omega, h2⟩
    · exact ⟨by omega, o, ho, h0⟩
  · rintro ⟨h1, h2⟩
    by_cases hik : i = k
    · exact .inr hik
    · exact .inl ⟨by omega, h2⟩
theorem NeedTo.no {l : List Opn} {k need : Nat} {o : Opn} (h : NeedTo l k need) (ho : l[k]? = some o) (h0 : o.til < 0) : NeedTo l (k + 1) need := by
  refine ⟨Nat.lt_of_lt_of_le h.1 (Nat.pow_le_pow_right (by decide) (Nat.le_succ k)), fun i => ?_⟩
  rw [h.2]
  constructor
  · rintro ⟨h1, h2⟩; exact ⟨by omega, h2⟩
  · rintro ⟨h1, x, hx, hx0⟩
    by_cases hik : i = k
    · subst hik
      rw [ho] at hx
      injection hx with hx
      subst hx
      omega
    · exact ⟨by omega, x, hx, hx0⟩
theorem NeedTo.all {l : List Opn} {need : Nat} (hl : l.length ≤ 14) (h : NeedTo l l.length need) : Needs l need := by
  refine ⟨Nat.lt_of_lt_of_le h.1 (Nat.pow_le_pow_right (show 2 > 0 by decide) (show l.length ≤ 14 from hl)), fun i => ?_⟩
  rw [h.2]
  constructor
  · rintro ⟨_, h2⟩; exact h2
  · rintro ⟨o, ho, h0⟩; exact ⟨(List.getElem?_eq_some_iff.1 ho).1, o, ho, h0⟩
theorem cost_fine {l : List Opn} (hl : l.length ≤ 14) : 0 + cost (free l 0) ≤ 2305843009213693952 := by
  have h1 := cost_mono (show free l 0 ≤ 14 by have := free_le l 0; omega)
  have h2 : cost 14 ≤ 2305843009213693952 := by decide
  omega
set_option maxRecDepth 20000 in
set_option maxHeartbeats 4000000 in
/-- could: whether the operations of a key could be that of one map -/
theorem could_any {w : World} {v : Value} {l : List Opn} (h : OR w v l) (hl : l.length ≤ 14) (hs : Sharp l) : Calls Try.prog 23 #[v] w fun e w' => e = .returned (.bool (couldB l)) ∧ Only None' w w' := by
  have H := Lib.hid h
  have HL := Lib.hid hl
  have HSH := Lib.hid hs
  obtain ⟨a, c, rfl⟩ := h.shape
  obtain ⟨ln, hln⟩ : ∃ ln, ln = l.length := ⟨_, rfl⟩
  have HLN := Lib.hid hln
  rw [← hln] at H ⊢
  obtain ⟨LB, hLB⟩ : ∃ LB, LB = w.heap.size := ⟨_, rfl⟩
  obtain ⟨w1, hw1⟩ : ∃ w1, w1 = (w.alloc (.cells #[.slice a ln c] 35)).alloc (.cells #[.int .i64 0] 3) := ⟨_, rfl⟩
  have o1 : Only None' w w1 := by rw [hw1]; exact ((Only.refl None' w).alloc _).alloc _
  have cL : CellsR w1 LB [.slice a ln c] := by
    rw [hw1, hLB]
    exact (cells_new w [.slice a ln c] 35).kept ((Only.refl None' _).alloc _) fun e => e
  have cN : CellsR w1 (LB + 1) [.int .i64 0] := by
    rw [hw1, hLB]
    have := cells_new (w.alloc (.cells #[.slice a ln c] 35)) [.int .i64 0] 3
    have e2 : (w.alloc (.cells #[.slice a ln c] 35)).heap.size = w.heap.size + 1 := by simp
    rw [e2] at this
    exact this
  obtain ⟨w2, hw2⟩ : ∃ w2, w2 = w1.setCell ⟨LB + 1, 0, none⟩ (.int .i64 0) := ⟨_, rfl⟩
  have o2 : Only (fun q => q = LB + 1) w1 w2 := by rw [hw2]; exact (Only.refl (fun q => q = LB + 1) w1).setCell (p := ⟨LB + 1, 0, none⟩) rfl _
  have cN2 : CellsR w2 (LB + 1) [.int .i64 0] := by rw [hw2]; exact cN.set (i := 0) (by simp) (.int .i64 0)
  have cL2 := cL.kept o2 (by omega)
  have n0 := cN.is 0 _ rfl
  have f0 := cN.thaw 0
  have e0 := cL2.is 0 _ rfl
  have ew2 := hw2.symm
  have HW := Lib.hid (show w.heap.size ≤ LB by omega)
  have ew := hw1.symm
  have eL := hLB.symm
  have O1 : Hid (Only None' w w2) := Lib.hid (o1.fresh (X := LB + 1) (by omega) o2)
  have CL := Lib.hid cL2
  have CN := Lib.hid cN2
  clear h hl hs hln o1 cL cN hw1 hLB hw2 o2 cN2 cL2
  go_enter Try.func23, Try.ntmps23
  go_wp2_with fail
  go_loopw [10] (fun i wr => ∃ (k nd : Nat), k ≤ ln ∧ i = .int .i64 (k : Int) ∧ Hid (NeedTo l k nd) ∧ Hid (CellsR wr (LB + 1) [.int .i64 (nd : Int)]) ∧ Hid (CellsR wr LB [.slice a ln c]) ∧ Hid (OR wr (.slice a ln c) l) ∧ Hid (Only None' w wr)) (fun i wr => ln - (intOf i).toNat)
  case atStart => exact ⟨0, 0, by omega, rfl, Lib.hid (NeedTo.zero l), CN, CL, Lib.hid (H.out.only O1.out fun _ _ e => e), O1⟩
  case round =>
    clear ew ew2 eL e0 n0 f0 CL CN
    obtain ⟨k, nd, hk, rfl, HND, HCN, HCL, HR, HO⟩ := hrel
    by_cases hlt : k < ln
    · have hj : k < l.length := by have := HLN.out; omega
      obtain ⟨x, hx⟩ : ∃ x, x = l[k] := ⟨_, rfl⟩
      have hx' : l[k]? = some x := by rw [hx]; exact List.getElem?_eq_getElem hj
      have hrow := HR.out
      obtain ⟨g, off, c2, e, hgl, hcell⟩ := hrow.at_ hj
      injection e with e1 e2 e3
      subst e1 e3
      rw [← hx] at hcell
      have HX := Lib.hid hx'
      have HLT := Lib.hid hlt
      obtain ⟨x0, x1, x2, x3, ⟨x4, x5, x6, x7, x8⟩, ⟨x9, x10, x11⟩⟩ := x
      have r0 := hcell 0 _ rfl
      have r1 := hcell 1 _ rfl
      have r2 := hcell 2 _ rfl
      have r3 := hcell 3 _ rfl
      have r4 := hcell 4 _ rfl
      have r5 := hcell 5 _ rfl
      have r6 := hcell 6 _ rfl
      have r7 := hcell 7 _ rfl
      have r8 := hcell 8 _ rfl
      have r9 := hcell 9 _ rfl
      have r10 := hcell 10 _ rfl
      have r11 := hcell 11 _ rfl
      rw [Nat.add_zero] at r0
      simp only at r0 r1 r2 r3 r4 r5 r6 r7 r8 r9 r10 r11
      have i0 : (0 : Int) ≤ (k : Int) := by omega
      have i1 : (k : Int) < (ln : Int) := by omega
      obtain ⟨O, hO⟩ : ∃ O, O = wr.heap.size := ⟨_, rfl⟩
      obtain ⟨w4, hw4⟩ : ∃ w4, w4 = wr.alloc (.cells #[.int .i64 x0, .int .i64 x1, .int .i64 x2, .int .i64 x3, .int .u8 x4, .string x5, .string x6, .string x7, .bool x8, .int .u8 x9, .bool x10, .string x11] 39) := ⟨_, rfl⟩
      have o4 : Only None' wr w4 := by rw [hw4]; exact (Only.refl None' wr).alloc _
      have cO : CellsR w4 O [.int .i64 x0, .int .i64 x1, .int .i64 x2, .int .i64 x3, .int .u8 x4, .string x5, .string x6, .string x7, .bool x8, .int .u8 x9, .bool x10, .string x11] := by rw [hw4, hO]; exact cells_new wr [.int .i64 x0, .int .i64 x1, .int .i64 x2, .int .i64 x3, .int .u8 x4, .string x5, .string x6, .string x7, .bool x8, .int .u8 x9, .bool x10, .string x11] 39
      have N4 := HCN.out.kept o4 fun e => e
      have q3 := cO.is 3 _ rfl
      have n0 := N4.is 0 _ rfl
      have f0 := N4.thaw 0
      have R4 := Lib.hid (HR.out.only o4 fun _ _ e => e)
      have L4 := Lib.hid (HCL.out.kept o4 fun e => e)
      have N4 := Lib.hid N4
      have O4 := Lib.hid (HO.out.trans o4)
      have HRLT : Hid (∀ gg, (Value.slice (some ⟨g, off, none⟩) ln c).ownBlock = some gg → gg ≠ LB + 1) := Lib.hid fun gg hg e => by
        have hg : some g = some gg := hg
        injection hg with hg
        have h1 := H.out.own_lt (g := g) rfl
        have h2 := HW.out
        omega
      have ew4 := hw4.symm
      have eO := hO.symm
      clear hx hx' hrow e2 hgl hcell o4 cO hw4 hO hj hlt
      by_cases hx3 : x3 < 0
      · have dx : decide ((0 : Int) ≤ x3) = false := by rw [decide_eq_false_iff_not]; omega
        have dx' : ¬ (0 : Int) ≤ x3 := by omega
        have HND2 := Lib.hid (HND.out.no HX.out hx3)
        clear hx3
        go_wp2_with fail
        go_roundw
        case rel => exact ⟨k + 1, nd, by have := HLT.out; omega, (by first | rfl | exact next_int (by have := HLT.out; have := HLN.out; have := HL.out; omega)), HND2, N4, L4, R4, O4⟩
        case measure =>
          rw [next_int (by have := HLT.out; have := HLN.out; have := HL.out; omega)]
          show ln - ((k + 1 : Nat) : Int).toNat < ln - (k : Int).toNat
          have := HLT.out
          omega
      · have dx : decide ((0 : Int) ≤ x3) = true := by rw [decide_eq_true_eq]; omega
        have dx' : (0 : Int) ≤ x3 := by omega
        obtain ⟨p2, hp2⟩ : ∃ p2, p2 = 2 ^ k := ⟨_, rfl⟩
        obtain ⟨n2, hn2⟩ : ∃ n2, n2 = nd ||| p2 := ⟨_, rfl⟩
        have hk14 : k < 14 := by have := HLT.out; have := HLN.out; have := HL.out; omega
        have hsh : wrap64 ((2 : Int) ^ k) = (p2 : Int) := by rw [hp2]; exact shl_small hk14
        have hnd : nd < 16384 := Nat.lt_of_lt_of_le HND.out.1 (Nat.pow_le_pow_right (show 2 > 0 by decide) (show k ≤ 14 by omega))
        have hp14 : p2 < 16384 := by rw [hp2]; exact two_pow_small hk14
        have hbo : bits .or .i64 (nd : Int) (p2 : Int) = (n2 : Int) := by rw [hn2]; exact bits_or_i64 _ _ (by omega) (by omega)
        have i14 : (k : Int) < 64 := by omega
        have HND2 : Hid (NeedTo l (k + 1) n2) := Lib.hid (by rw [hn2, hp2]; exact HND.out.yes HX.out dx')
        obtain ⟨w5, hw5⟩ : ∃ w5, w5 = w4.setCell ⟨LB + 1, 0, none⟩ (.int .i64 (n2 : Int)) := ⟨_, rfl⟩
        have o5 : Only (fun q => q = LB + 1) w4 w5 := by rw [hw5]; exact (Only.refl (fun q => q = LB + 1) w4).setCell (p := ⟨LB + 1, 0, none⟩) rfl _
        have N5 : Hid (CellsR w5 (LB + 1) [.int .i64 (n2 : Int)]) := Lib.hid (by rw [hw5]; exact N4.out.set (i := 0) (by simp) (.int .i64 (n2 : Int)))
        have L5 := Lib.hid (L4.out.kept o5 (by omega))
        have R5 := Lib.hid (R4.out.only o5 fun gg hg e => HRLT.out gg hg e)
        have O5 := Lib.hid (O4.out.fresh (X := LB + 1) (by have := HW.out; omega) o5)
        have HW5 := Lib.hid hw5
        clear hx3 hp2 hn2 hk14 hnd hp14 hw5 o5
        go_wp2_with fail
        go_region
        go_wp2_with fail
        go_roundw
        case rel => exact ⟨k + 1, n2, by have := HLT.out; omega, (by first | rfl | exact next_int (by have := HLT.out; have := HLN.out; have := HL.out; omega)), HND2, Lib.hid (by rw [← HW5.out]; exact N5.out.kept (Only.refl None' w5).drew fun e => e), Lib.hid (by rw [← HW5.out]; exact L5.out.kept (Only.refl None' w5).drew fun e => e), Lib.hid (by rw [← HW5.out]; exact R5.out.only (Only.refl None' w5).drew fun _ _ e => e), Lib.hid (by rw [← HW5.out]; exact O5.out.drew)⟩
        case measure =>
          show ln - ((k : Int) + 1).toNat < ln - (k : Int).toNat
          have := HLT.out
          omega
    · obtain rfl : k = ln := by omega
      have hmm := @run_makeMap Try.prog
      have l0 := HCL.out.is 0 _ rfl
      obtain ⟨FV, hFV⟩ : ∃ FV, FV = Value.func (Fn.func 29) #[] #[.pointer (some ⟨LB + 1, 0, none⟩), .pointer (some ⟨wr.heap.size + 1, 0, none⟩), .pointer (some ⟨LB, 0, none⟩), .pointer (some ⟨wr.heap.size + 1 + 1, 0, none⟩)] := ⟨_, rfl⟩
      obtain ⟨wm, hwm⟩ : ∃ wm, wm = wr.alloc (.map #[] 0) := ⟨_, rfl⟩
      obtain ⟨wb, hwb⟩ : ∃ wb, wb = wm.alloc (.cells #[.map (some wr.heap.size)] 81) := ⟨_, rfl⟩
      obtain ⟨wz, hwz⟩ : ∃ wz, wz = wb.alloc (.cells #[Value.nilFunc] 82) := ⟨_, rfl⟩
      obtain ⟨wy, hwy⟩ : ∃ wy, wy = wz.setCell ⟨wr.heap.size + 1 + 1, 0, none⟩ FV := ⟨_, rfl⟩
      have sm : wm.heap.size = wr.heap.size + 1 := by rw [hwm]; simp
      have sb : wb.heap.size = wr.heap.size + 1 + 1 := by rw [hwb, ← sm]; simp
      have om : Only None' wr wm := by rw [hwm]; exact (Only.refl None' wr).alloc _
      have ob : Only None' wm wb := by rw [hwb]; exact (Only.refl None' wm).alloc _
      have oz : Only None' wb wz := by rw [hwz]; exact (Only.refl None' wb).alloc _
      have oy : Only (fun q => q = wr.heap.size + 1 + 1) wz wy := by rw [hwy]; exact (Only.refl (fun q => q = wr.heap.size + 1 + 1) wz).setCell (p := ⟨wr.heap.size + 1 + 1, 0, none⟩) rfl _
      have cB : CellsR wb (wr.heap.size + 1) [.map (some wr.heap.size)] := by rw [hwb, ← sm]; exact cells_new wm [.map (some wr.heap.size)] 81
      have cF : CellsR wz (wr.heap.size + 1 + 1) [Value.nilFunc] := by rw [hwz, ← sb]; exact cells_new wb [Value.nilFunc] 82
      have hM : wm.ownsMap Try.prog 84 (plainElem Try.prog 3) wr.heap.size 0 (.map [] : DataW Unit) := by rw [hwm]; exact World.ownsMap_made wr Try.prog 84 _
      have cY : CellsR wy (wr.heap.size + 1 + 1) [FV] := by rw [hwy]; exact cF.set (i := 0) (by simp) FV
      have lts := HCL.out.lt
      have ltn := HCN.out.lt
      have oall : Only None' wr wz := (om.trans ob).trans oz
      have HEnv : Hid (Env wy (LB + 1) (wr.heap.size + 1) LB (wr.heap.size + 1 + 1) wr.heap.size nd (.slice a k c) l) := Lib.hid
        ⟨((HCN.out.kept oall fun e => e).kept oy (by omega)).is 0 _ rfl, ((cB.kept oz fun e => e).kept oy (by omega)).is 0 _ rfl, ((HCL.out.kept oall fun e => e).kept oy (by omega)).is 0 _ rfl, by rw [cY.is 0 _ rfl, hFV], (HR.out.only oall fun _ _ e => e).only oy (fun g hg e => by have := HR.out.own_lt hg; omega), by omega, by omega, by omega, by omega, fun e => by have := HR.out.own_lt e; omega⟩
      have HOwn : Hid (wy.ownsMap Try.prog 84 (plainElem Try.prog 3) wr.heap.size 0 (.map [] : DataW Unit)) := Lib.hid (owns_same (owns_same (owns_same hM (ob.block _ (by omega) fun e => e)) (oz.block _ (by omega) fun e => e)) (oy.block _ (by have := oz.size; omega) (by omega)))
      have HNEED : Hid (Needs l nd) := Lib.hid (by have h := HND.out; rw [HLN.out] at h; exact NeedTo.all HL.out h)
      have hst0 : StOk ((0, none) : St) := ⟨by decide, fun v hv => by cases hv⟩
      have HLK := Lib.hid (look_all l HL.out nd HNEED.out l.length (0, none) hst0 (free_le l 0) wy (LB + 1) (wr.heap.size + 1) LB (wr.heap.size + 1 + 1) wr.heap.size (.slice a k c) (.map []) 0 (fun _ => 0) HEnv.out HOwn.out ⟨fun s _ => rfl, fun s => Nat.le_refl _⟩ (cost_fine HL.out) (fun t _ h0 => absurd h0 (by decide)))
      have OY : Hid (Only None' w wy) := Lib.hid ((HO.out.trans oall).fresh (X := wr.heap.size + 1 + 1) (by have := HO.out.size; omega) oy)
      have HWR : Hid (w.heap.size ≤ wr.heap.size) := Lib.hid HO.out.size
      have z0 := cF.is 0 _ rfl
      have y0 := cY.is 0 _ rfl
      have zf := cF.thaw 0
      have ewm := hwm.symm
      have ewb := hwb.symm
      have ewz := hwz.symm
      have ewy := hwy.symm
      have hsm : wm.heap.size = wr.heap.size + 1 := sm
      have hsb : wb.heap.size = wr.heap.size + 1 + 1 := sb
      rw [hFV] at ewy y0
      unfold stV at HLK
      simp only [Option.isSome_none, Option.getD_none] at HLK
      clear hlt hwm hwb hwz hwy om ob oz oy cB cF hM cY lts ltn oall sm sb hFV
      go_wp2_with fail
      refine HLK.out.mono ?_
      rintro e w9 ⟨b, rfl, o9, hb1, hb2⟩
      have O9 := Lib.hid o9
      have HBB : Hid (couldB l = b) := Lib.hid (by
        have e0 : (fun k => Nat.testBit 0 k) = fun _ => false := by funext k; simp
        have hi := could_iff HSH.out
        rw [← e0] at hi
        cases b with
        | true => exact hi.2 (hb1 rfl)
        | false =>
          have h := (hb2 rfl).1
          cases hc : couldB l with
          | true => exact absurd (hi.1 hc) h
          | false => rfl)
      clear o9 hb1 hb2
      go_wp2_with fail
      go_ret
      exact ⟨by rw [HBB.out]; rfl, OY.out.fresh HWR.out O9.out⟩
end Go.Proofs.Ytajbagdgjbihjaa
