/- Check (10): the walk. -/
import Derived.Test.YtajbagdgjbihjaaNE
import Derived.BigQuiet
import Derived.Deep.CutBlock
import Derived.Deep.RegionLaw
import Derived.Laws.Cover1
namespace Go.Proofs.Ytajbagdgjbihjaa
open Go.RowKit Go.Maps
set_option linter.unusedVariables false

/-- the first loop: the operations by their keys -/
structure CSt (w wr : World) (B : Nat) (D : DataW Value) (n : Nat) (L : List Opn) (f : ByteArray → Value) (j : Nat) (av : Value) : Prop where
  by_ : ByIn w wr B D n (L.take j) f
  n_ : n ≤ j
  src : Vec wr 12 av L.length (L.flatMap Opn.row)
  ap : ∀ g, av.ownBlock = some g → g ≠ B ∧ ∀ key, (f key).ownBlock ≠ some g
section
variable {w wr w1 w2 w3 : World} {B n j : Nat} {D : DataW Value} {L : List Opn} {f : ByteArray → Value} {o : Opn} {v av : Value}
theorem CSt.keep (h : CSt w wr B D n L f j av) (o : Only None' wr w1) : CSt w w1 B D n L f j av := ⟨h.by_.keep o, h.n_, h.src.only o fun _ _ e => e, h.ap⟩
theorem take_next {o : Opn} (ho : L[j]? = some o) : L.take (j + 1) = L.take j ++ [o] := by rw [List.take_add_one, ho]; rfl
theorem CSt.skip (h : CSt w wr B D n L f j av) (ho : L[j]? = some o) (hl : ¬ (0 ≤ o.til ∨ o.op.kind ≠ 1)) : CSt w wr B D n L f (j + 1) av :=
  ⟨by rw [take_next ho]; exact h.by_.skip hl, Nat.le_succ_of_le h.n_, h.src, h.ap⟩
theorem CSt.put (h : CSt w wr B D n L f j av) (ho : L[j]? = some o) (hl : 0 ≤ o.til ∨ o.op.kind ≠ 1) (hk : o.op.key.size ≤ maxLen) (o1 : Only None' wr w1)
    (hv : Vec w2 12 v ((byKey (L.take j) o.op.key).length + 1) ((byKey (L.take j) o.op.key).flatMap Opn.row ++ o.row)) (og : Only (fun q => (f o.op.key).ownBlock = some q) w1 w2) (hf : ∀ q, v.ownBlock = some q → (f o.op.key).ownBlock = some q ∨ w1.heap.size ≤ q)
    (g3 : w3.ownsMap Try.prog 9 rowR B (n + 1) (D.put (ks o.op.key) (.held v))) (o3 : Only (fun q => q = B) w2 w3) : CSt w w3 B (D.put (ks o.op.key) (.held v)) (n + 1) L (fun key => if key = o.op.key then v else f key) (j + 1) av := by
  have s1 := o1.size
  refine ⟨by rw [take_next ho]; exact h.by_.put hl hk o1 hv og hf g3 o3, Nat.succ_le_succ h.n_, ((h.src.only o1 fun _ _ e => e).only og fun q hq e => (h.ap q hq).2 _ e).only o3 fun q hq e => (h.ap q hq).1 e, fun g hg => ⟨(h.ap g hg).1, fun key e => ?_⟩⟩
  replace e : (if key = o.op.key then v else f key).ownBlock = some g := e
  split at e
  · rcases hf g e with h1 | h1
    · exact (h.ap g hg).2 _ h1
    · have := h.src.lt hg; omega
  · exact (h.ap g hg).2 _ e
end
theorem step_append_eq {P : Program} {ops : Array Oper} {o : Oper} {a : Act} {w w' : World} {K : Act → World → Prop} {Q : Exit → Act → World → Prop} {E : Prop} (hgd : o.guard = none) (s x : Operand) (t : TypeId)
    (ho : o.op = .call { callee := .builtin .append, args := #[s, x], argTypes := #[t, t] }) {v1 v v' : Value} (hs : a.eval s = v1) (hx : a.eval x = v) (hrun : (Builtin.append_ #[t, t] o.type #[v1, v]).run P w = .ok v' w') (h : K (a.put o.dst v') w') :
    if Region.wanted o (yielded ops a.tmps) = true then Oper.wp P o a w K Q else E := by
  have hw : Region.wanted o (yielded ops a.tmps) = true := by simp [Region.wanted, hgd]
  rw [if_pos hw]
  unfold Oper.wp execOp
  simp only [ho, resolve, invoke, builtin, Sem.run_bind, Sem.run_pure, Result.andThen_ok, List.map_toArray, List.map_cons, List.map_nil, hs, hx, hrun]
  exact h
/-- what the store leaves -/
theorem by_store {w : World} {B n : Nat} {D : DataW Value} (h : w.ownsMap Try.prog 9 rowR B n D) (hn : n < maxLen) {key : ByteArray} (hk : key.size ≤ maxLen) (a : Option Addr) (m c : Nat) :
    ∃ w', (Instr.mapUpdate 58 (.map (some B)) (.string key) (.slice a m c)).run Try.prog w = .ok () w' ∧ w'.ownsMap Try.prog 9 rowR B (n + 1) (D.put (ks key) (.held (.slice a m c))) ∧ w.grownBy w' (some B) :=
  h.update keyed9 under58 hn (Go.WideMaps.keyOf_string_mk under9 hk) (rowR_slice a m c)

set_option maxRecDepth 20000 in
set_option maxHeartbeats 8000000 in
theorem check_any {w : World} {v : Value} {l : List Ev} (h : ER w v l) (hl : l.length ≤ 1000) (hw : ∀ e ∈ l, Wf e.client ∧ Wf e.id ∧ e.key.size ≤ maxLen) : Calls Try.prog 10 #[v] w fun e w' => e = .returned (.tuple #[.bool (checkOf l).1, .int .i64 (checkOf l).2]) ∧ Only None' w w' := by
  have HO := Lib.hid (ops_any h hl (fun e he => ⟨(hw e he).1, (hw e he).2.1⟩))
  obtain ⟨a, ca, rfl⟩ := h.shape
  have HL := Lib.hid hl
  have HW := Lib.hid hw
  obtain ⟨n0, hn0⟩ : ∃ n0, n0 = l.length := ⟨_, rfl⟩
  rw [← hn0] at HO ⊢
  have hmm := @run_makeMap Try.prog
  obtain ⟨z39, hz39, hzs39⟩ := zero39
  have HB39 := Lib.hid t39_few
  clear h hl hw hn0
  go_enter Try.func10, Try.ntmps10
  go_wp2_with fail
  refine HO.out.mono ?_
  rintro e w1 ⟨o1, hE⟩
  clear HO
  cases hops : opsOf l with
  | none =>
    rw [hops] at hE
    obtain rfl := hE
    have HN : Hid (checkOf l = (false, 4)) := Lib.hid (by unfold checkOf; rw [hops])
    clear hops
    go_wp2_with fail
    go_ret2
    rw [HN.out]
    exact ⟨rfl, o1⟩
  | some L =>
    rw [hops] at hE
    obtain ⟨v, rfl, hv, hvf⟩ := hE
    obtain ⟨aa, ac, rfl, _, _⟩ := hv.shape
    have HOPS := Lib.hid hops
    obtain ⟨m, hm⟩ : ∃ m, m = L.length := ⟨_, rfl⟩
    have HM : Hid (m = L.length ∧ m ≤ 1000) := Lib.hid ⟨hm, by rw [hm]; exact Nat.le_trans (ops_few hops) HL.out⟩
    have HK : Hid (∀ o ∈ L, o.op.key.size ≤ maxLen) := Lib.hid fun o ho => by
      unfold opsOf at hops
      cases hr : opRun [] 0 l with
      | none => rw [hr] at hops; cases hops
      | some all =>
        rw [hr] at hops
        injection hops with hops
        obtain ⟨e, he, _, h2⟩ := op_key hr hops.symm o ho
        rw [← h2]
        exact (HW.out e he).2.2
    have HSH : Hid (Sharp L) := Lib.hid (ops_sharp hops)
    obtain ⟨B, hB⟩ : ∃ B, B = w1.heap.size := ⟨_, rfl⟩
    obtain ⟨w2, hw2⟩ : ∃ w2, w2 = w1.alloc (.map #[] 0) := ⟨_, rfl⟩
    have L0 : Hid (CSt w w2 B (.map []) 0 L (fun _ => .slice none 0 0) 0 (.slice aa L.length ac)) := Lib.hid (by
      rw [hw2]
      exact ⟨by rw [List.take_zero]; exact ByIn.made o1 hB, Nat.le_refl _, hv.alloc _, fun g hg => ⟨by have := hv.lt hg; omega, fun key e => by cases e⟩⟩)
    rw [← hm] at L0 ⊢
    have ew2 := hw2.symm
    have eB := hB.symm
    clear hops hv hvf o1 hw2 hB hm
    go_wp2_with fail
    go_loopw [24] (fun i wr => ∃ (j n : Nat) (D : DataW Value) (f : ByteArray → Value), j ≤ m ∧ i = .int .i64 (j : Int) ∧ Hid (CSt w wr B D n L f j (.slice aa m ac))) (fun i wr => m - (intOf i).toNat)
    case atStart => exact ⟨0, 0, _, _, by omega, rfl, L0⟩
    case round =>
      clear L0 ew2 eB hmm
      obtain ⟨j, n, D, f, hj, rfl, HJ⟩ := hrel
      by_cases hlt : j < m
      · have hjl : j < L.length := by have := HM.out.1; omega
        have RV := HJ.out.src
        rw [← HM.out.1] at RV
        obtain ⟨ga, oa, rfl, hga, hcell, _⟩ := RV.form' (by omega)
        obtain ⟨o, ho⟩ : ∃ o, o = L[j] := ⟨_, rfl⟩
        have HO : Hid (L[j]? = some o) := Lib.hid (by rw [ho]; exact List.getElem?_eq_getElem hjl)
        have HKO : Hid (o.op.key.size ≤ maxLen) := Lib.hid (HK.out o (by rw [ho]; exact List.getElem_mem hjl))
        have HLT := Lib.hid hlt
        have hx : ∀ i u, o.row[i]? = some u → wr.cell? ⟨ga, oa + j * 12 + i, none⟩ = some u := fun i u hu => by
          rw [Nat.add_assoc]
          exact hcell _ _ (flat_at Opn.row 12 L j (fun y _ => rfl) hjl i u (by rw [← ho]; exact hu))
        clear hcell ho hjl hga RV
        obtain ⟨y0, y1, y2, y3, ⟨y4, y5, y6, y7, y8⟩, ⟨y9, y10, y11⟩⟩ := o
        have r0 := hx 0 _ rfl
        have r1 := hx 1 _ rfl
        have r2 := hx 2 _ rfl
        have r3 := hx 3 _ rfl
        have r4 := hx 4 _ rfl
        have r5 := hx 5 _ rfl
        have r6 := hx 6 _ rfl
        have r7 := hx 7 _ rfl
        have r8 := hx 8 _ rfl
        have r9 := hx 9 _ rfl
        have r10 := hx 10 _ rfl
        have r11 := hx 11 _ rfl
        rw [Nat.add_zero] at r0
        simp only at HKO
        clear hx
        have i0 : (0 : Int) ≤ (j : Int) := by omega
        have i1 : (j : Int) < (m : Int) := by omega
        obtain ⟨T, hT⟩ : ∃ T, T = wr.heap.size := ⟨_, rfl⟩
        obtain ⟨w4, hw4⟩ : ∃ w4, w4 = wr.alloc (.cells #[.int .i64 y0, .int .i64 y1, .int .i64 y2, .int .i64 y3, .int .u8 y4, .string y5, .string y6, .string y7, .bool y8, .int .u8 y9, .bool y10, .string y11] 39) := ⟨_, rfl⟩
        have o4 : Only None' wr w4 := by rw [hw4]; exact (Only.refl None' wr).alloc _
        have cT : CellsR w4 T [.int .i64 y0, .int .i64 y1, .int .i64 y2, .int .i64 y3, .int .u8 y4, .string y5, .string y6, .string y7, .bool y8, .int .u8 y9, .bool y10, .string y11] := by rw [hw4, hT]; exact cells_new wr [.int .i64 y0, .int .i64 y1, .int .i64 y2, .int .i64 y3, .int .u8 y4, .string y5, .string y6, .string y7, .bool y8, .int .u8 y9, .bool y10, .string y11] 39
        have CT := Lib.hid cT
        have HJ4 := Lib.hid (HJ.out.keep o4)
        have HT : Hid (T < w4.heap.size ∧ ∀ g, (f y5).ownBlock = some g → g < T) := Lib.hid ⟨cT.lt, fun g hg => by have := (HJ.out.by_.row y5).lt hg; omega⟩
        have t3 := cT.is 3 _ rfl
        have t4 := cT.is 4 _ rfl
        have ew4 := hw4.symm
        have eT := hT.symm
        clear o4 cT hw4 hT hlt
        by_cases hlk : 0 ≤ y3 ∨ y4 ≠ 1
        · have hsh := (HJ4.out.by_.row y5).shape
          obtain ⟨fa, fc, hfv, _, _⟩ := hsh
          obtain ⟨q, hq⟩ : ∃ q, q = (byKey (L.take j) y5).length := ⟨_, rfl⟩
          have hq1 : q ≤ j := by rw [hq]; exact Nat.le_trans (List.length_filter_le _ _) (by rw [List.length_take]; omega)
          have hrow := HJ4.out.by_.row y5
          have hlook := (HJ4.out.keep ((Only.refl None' w4).drew)).by_.look HKO.out
          rw [← hq] at hfv hrow
          rw [hfv] at hlook hrow
          obtain ⟨w6, hw6⟩ : ∃ w6, w6 = w4.drew.alloc (.cells #[.int .i64 y0, .int .i64 y1, .int .i64 y2, .int .i64 y3, .int .u8 y4, .string y5, .string y6, .string y7, .bool y8, .int .u8 y9, .bool y10, .string y11] 39) := ⟨_, rfl⟩
          obtain ⟨S, hS⟩ : ∃ S, S = w4.heap.size := ⟨_, rfl⟩
          have o6 : Only None' w4 w6 := by rw [hw6]; exact ((Only.refl None' w4).drew).alloc _
          have hlook6 := (HJ4.out.keep o6).by_.look HKO.out
          rw [hfv] at hlook6
          have hrow6 := hrow.only o6 fun _ _ e => e
          have hnew : Rd w6 12 (.slice (some ⟨S, 0, none⟩) 1 1) 1 [.int .i64 y0, .int .i64 y1, .int .i64 y2, .int .i64 y3, .int .u8 y4, .string y5, .string y6, .string y7, .bool y8, .int .u8 y9, .bool y10, .string y11] := by rw [hw6, hS]; exact rd_new w4.drew [.int .i64 y0, .int .i64 y1, .int .i64 y2, .int .i64 y3, .int .u8 y4, .string y5, .string y6, .string y7, .bool y8, .int .u8 y9, .bool y10, .string y11] 39 1 12 rfl (by decide)
          obtain ⟨v7, w7, hap, hv7, hg7, hf7⟩ := run_append_any (P := Try.prog) (w := w6) 35 35 39 Try.t39 z39 12 Try.t39.bytes under35 info39 hz39 t39_size rfl hzs39 (by decide) _ q _ hrow6 _ 1 [.int .i64 y0, .int .i64 y1, .int .i64 y2, .int .i64 y3, .int .u8 y4, .string y5, .string y6, .string y7, .bool y8, .int .u8 y9, .bool y10, .string y11] hnew (Opn.row_one ⟨y0, y1, y2, y3, ⟨y4, y5, y6, y7, y8⟩, ⟨y9, y10, y11⟩⟩) (by have := HM.out.2; have := HLT.out; unfold maxLen; omega) (by have h1 := HM.out.2; have h2 := HB39.out; have h3 := HLT.out; have : (q + 1) * Try.t39.bytes ≤ 1001 * 200 := Nat.mul_le_mul (by omega) h2; omega)
          obtain ⟨va, vc, rfl, _, _⟩ := hv7.shape
          have hg7f : Only (fun g => (f y5).ownBlock = some g) w6 w7 := (Only.refl _ _).grown hg7 fun g hg => by rw [hfv]; exact hg
          have own6 : w6.ownsMap Try.prog 9 rowR B n D := (HJ4.out.keep o6).by_.map
          have own7 : w7.ownsMap Try.prog 9 rowR B n D := owns_sameV own6 (hg7f.block B own6.lt fun e => (HJ4.out.by_.own y5 B e).2 rfl)
          obtain ⟨w8, hmu, hown8, hg8⟩ := by_store own7 (by have h1 := HJ.out.n_; have h2 := HM.out.2; have h3 := HLT.out; unfold maxLen; omega) HKO.out va (q + 1) vc
          have t5 := CT.out.is 5 _ rfl
          have CT6 := CT.out.kept o6 fun e => e
          have s5 := CT6.is 5 _ rfl
          have CT7 := CT6.kept hg7f fun e => by have h2 := HT.out.2 _ e; omega
          have v5 := CT7.is 5 _ rfl
          have t0 := CT.out.is 0 _ rfl
          have t1 := CT.out.is 1 _ rfl
          have t2 := CT.out.is 2 _ rfl
          have t6 := CT.out.is 6 _ rfl
          have t7 := CT.out.is 7 _ rfl
          have t8 := CT.out.is 8 _ rfl
          have t9 := CT.out.is 9 _ rfl
          have t10 := CT.out.is 10 _ rfl
          have t11 := CT.out.is 11 _ rfl
          have HJ9 : Hid (CSt w w8 B (D.put (ks y5) (.held (.slice va (q + 1) vc))) (n + 1) L (fun key => if key = y5 then .slice va (q + 1) vc else f key) (j + 1) (.slice (some ⟨ga, oa, none⟩) m ac)) := Lib.hid (HJ4.out.put HO.out hlk HKO.out o6 (by rw [← hq]; exact hv7) hg7f (fun g hg => by have := hf7 g hg; rw [hfv]; exact this) hown8 ((Only.refl (fun g => g = B) w7).grown hg8 fun g hg => by injection hg with hg; exact hg.symm))
          have ew6 := hw6.symm
          have eS := hS.symm
          have HLK := Lib.hid hlk
          have HQ := Lib.hid hq1
          clear hlk hfv hrow o6 hrow6 hnew hv7 hg7 hf7 hg7f own6 own7 hown8 hg8 CT6 CT7 hw6 hS hq hq1
          by_cases d3' : 0 ≤ y3
          · have d3 : decide ((0 : Int) ≤ y3) = true := decide_eq_true d3'
            clear d3'
            go_wp2_with fail
            go_region_law (refine step_append_eq (by rfl) _ _ 35 (by rfl) (by rfl) (by rfl) hap ?_)
            go_wp2_with fail
            all_goals
              go_roundw
              case rel => exact ⟨j + 1, n + 1, _, _, by have := HLT.out; omega, next_int (by have := HLT.out; have := HM.out.2; omega), HJ9⟩
              case measure =>
                rw [next_int (by have := HLT.out; have := HM.out.2; omega)]
                show m - ((j + 1 : Nat) : Int).toNat < m - (j : Int).toNat
                have := HLT.out
                omega
          · have d3 : decide ((0 : Int) ≤ y3) = false := decide_eq_false d3'
            have b4 : (y4 != 1) = true := by
              rcases HLK.out with h | h
              · exact absurd h d3'
              · rw [bne_iff_ne]; exact h
            clear d3'
            go_wp2_with fail
            go_region_law (refine step_append_eq (by rfl) _ _ 35 (by rfl) (by rfl) (by rfl) hap ?_)
            go_wp2_with fail
            all_goals
              go_roundw
              case rel => exact ⟨j + 1, n + 1, _, _, by have := HLT.out; omega, next_int (by have := HLT.out; have := HM.out.2; omega), HJ9⟩
              case measure =>
                rw [next_int (by have := HLT.out; have := HM.out.2; omega)]
                show m - ((j + 1 : Nat) : Int).toNat < m - (j : Int).toNat
                have := HLT.out
                omega
        · have d3 : decide ((0 : Int) ≤ y3) = false := decide_eq_false fun h => hlk (Or.inl h)
          have b4 : (y4 != 1) = false := by
            have : y4 = 1 := Classical.byContradiction fun h => hlk (Or.inr h)
            rw [this]; rfl
          have HLK := Lib.hid hlk
          clear hlk
          go_wp2_with fail
          go_roundw
          case rel => exact ⟨j + 1, n, D, f, by have := HLT.out; omega, next_int (by have := HLT.out; have := HM.out.2; omega), Lib.hid (HJ4.out.skip HO.out HLK.out)⟩
          case measure =>
            rw [next_int (by have := HLT.out; have := HM.out.2; omega)]
            show m - ((j + 1 : Nat) : Int).toNat < m - (j : Int).toNat
            have := HLT.out
            omega
      · obtain rfl : j = m := by omega
        have HB := Lib.hid HJ.out.by_
        have hid1 : L.take j = L := List.take_of_length_le (by have := HM.out.1; omega)
        rw [hid1] at HB
        clear hid1 HJ hj hlt
        go_wp2_with (first | (at_range; refine wpList_range_own _ rfl _ 58 rfl 9 35 keyed9 under58 rowR B n D rfl HB.out.map ?_; intro w0 hrg0 hg0 hs0; have HR0 := Lib.hid (And.intro hrg0 (And.intro hg0 hs0)); clear hrg0 hg0 hs0))
        go_frame
        obtain ⟨R, hR⟩ : ∃ R, R = wr.heap.size := ⟨_, rfl⟩
        have L1 : Hid (RSt w w0 B R n D L f (fun key => (byKey L key).length ≤ 14) (Maps.has D) (Maps.size D)) := Lib.hid (by rw [hR]; exact RSt.start HB.out HR0.out.1 HR0.out.2.1)
        rw [← hR]
        clear hR HR0 HB
        go_loopw [] (fun wy => ∃ (left : Lit → Bool) (cnt : Nat), Hid (RSt w wy B R n D L f (fun key => (byKey L key).length ≤ 14) left cnt)) (fun wy => wy.rangeLeft B R)
        case atStart => exact ⟨_, _, L1⟩
        case round =>
          clear L1
          obtain ⟨left, cnt, HR⟩ := hrel
          rename World => wy
          go_wp2_with (first | (at_next; refine wpList_next_ranges _ rfl _ rfl 9 keyed9 rowR Value.string sliceP kinv9 vinvR B R n D left cnt rfl HR.out.rg ?_ ?_))
          · intro _ hl0
            have HALL : Hid (∀ o ∈ L, (byKey L o.op.key).length ≤ 14) := Lib.hid fun o ho => by
              by_cases hne : byKey L o.op.key = []
              · rw [hne]; exact Nat.zero_le _
              · exact HR.out.over hl0 (HK.out o ho) hne
            have HB := Lib.hid HR.out.by_
            clear hl0 HR
            go_wp2_with (first | (at_range; refine wpList_range_own _ rfl _ 58 rfl 9 35 keyed9 under58 rowR B n D rfl HB.out.map ?_; intro w7 hrg0 hg0 hs0; have HR0 := Lib.hid (And.intro hrg0 (And.intro hg0 hs0)); clear hrg0 hg0 hs0))
            go_frame
            obtain ⟨R2, hR⟩ : ∃ R2, R2 = wy.heap.size := ⟨_, rfl⟩
            have L2 : Hid (RSt w w7 B R2 n D L f (fun key => couldB (byKey L key) = true) (Maps.has D) (Maps.size D)) := Lib.hid (by rw [hR]; exact RSt.start HB.out HR0.out.1 HR0.out.2.1)
            rw [← hR]
            clear hR HR0 HB
            go_loopw [] (fun wz => ∃ (left : Lit → Bool) (cnt : Nat), Hid (RSt w wz B R2 n D L f (fun key => couldB (byKey L key) = true) left cnt)) (fun wz => wz.rangeLeft B R2)
            case atStart => exact ⟨_, _, L2⟩
            case round =>
              clear L2
              obtain ⟨left, cnt, HR⟩ := hrel
              rename World => wz
              go_wp2_with (first | (at_next; refine wpList_next_ranges _ rfl _ rfl 9 keyed9 rowR Value.string sliceP kinv9 vinvR B R2 n D left cnt rfl HR.out.rg ?_ ?_))
              · intro _ hl0
                have HC : Hid (checkOf l = (true, 0)) := Lib.hid (check_yes HOPS.out HALL.out fun o ho => by
                  by_cases hne : byKey L o.op.key = []
                  · rw [hne]; exact couldB_nil
                  · exact HR.out.over hl0 (HK.out o ho) hne)
                clear hl0
                go_wp2_with fail
                go_ret2
                exact ⟨by rw [HC.out]; rfl, HR.out.by_.only⟩
              · intro x ca cb cc kl y1 y2 w5 cnt5 hkey hlx hRv hat hrg1 hlt hg1 hs1 hen
                obtain ⟨hk1, rfl, hfx⟩ := HR.out.here hkey hRv hat
                have hrow := HR.out.row hg1 x
                rw [hfx] at hrow
                have HOR := Lib.hid hrow.or
                obtain ⟨_, _, e, _, _⟩ := hrow.shape
                obtain ⟨q, hq⟩ : ∃ q, q = (byKey L x).length := ⟨_, rfl⟩
                dsimp only [sliceP] at hen e HOR
                injection e with e1 e2 e3
                rw [← hq] at e2
                subst e2
                have hq14 : (byKey L x).length ≤ 14 := by
                  cases hb : byKey L x with
                  | nil => exact Nat.zero_le _
                  | cons o t =>
                    have hm : o ∈ byKey L x := by rw [hb]; exact List.mem_cons_self
                    obtain ⟨h1, h2⟩ := List.mem_filter.1 hm
                    have hok : o.op.key = x := (of_decide_eq_true h2).1
                    have := HALL.out o h1
                    rw [hok, hb] at this
                    exact this
                have HRG := Lib.hid (And.intro hrg1 (And.intro hg1 hlt))
                have HCA := Lib.hid (could_any HOR.out hq14 (sharp_byKey HSH.out x))
                obtain ⟨b, hb⟩ : ∃ b, b = couldB (byKey L x) := ⟨_, rfl⟩
                rw [← hb] at HCA
                have HBB := Lib.hid hb
                clear hkey hlx hRv hat hrg1 hg1 hs1 hlt e1 e3 hrow hfx hq hq14 hb HOR
                go_wp2_with fail
                refine HCA.out.mono ?_
                rintro e w6 ⟨rfl, o6⟩
                have O6 := Lib.hid o6
                clear HCA o6
                cases b with
                | false =>
                  go_wp2_with fail
                  go_ret2
                  have h1 := (HR.out.by_.iter HR.out.new HR.out.rg.ne HR.out.aside ((Only.refl (fun q => q = R2) wz).grown HRG.out.2.1 fun k hk => by injection hk with hk; exact hk.symm)).keep O6.out
                  exact ⟨by rw [check_not HOPS.out HALL.out HBB.out.symm]; rfl, h1.only⟩
                | true =>
                  go_wp2_with fail
                  go_roundw
                  case rel => exact ⟨_, cnt5, Lib.hid (HR.out.next HRG.out.1 HRG.out.2.1 O6.out HBB.out.symm)⟩
                  case measure =>
                    rw [(HR.out.next (P := fun key => couldB (byKey L key) = true) HRG.out.1 HRG.out.2.1 O6.out HBB.out.symm).rg.left_eq, HR.out.rg.left_eq]
                    exact HRG.out.2.2
          · intro x ca cb cc kl y1 y2 w5 cnt5 hkey hlx hRv hat hrg1 hlt hg1 hs1 hen
            obtain ⟨hk1, rfl, hfx⟩ := HR.out.here hkey hRv hat
            have hrow := HR.out.row hg1 x
            rw [hfx] at hrow
            obtain ⟨_, _, e, _, _⟩ := hrow.shape
            obtain ⟨q, hq⟩ : ∃ q, q = (byKey L x).length := ⟨_, rfl⟩
            dsimp only [sliceP] at hen e
            injection e with e1 e2 e3
            rw [← hq] at e2
            subst e2
            have HRG := Lib.hid (And.intro hrg1 (And.intro hg1 hlt))
            have HQ := Lib.hid hq
            clear hkey hlx hRv hat hrg1 hg1 hs1 hlt e1 e3 hrow hfx hq
            by_cases h14 : 14 < cb
            · have d14 : decide ((14 : Int) < (cb : Int)) = true := decide_eq_true (by omega)
              have HF : Hid (checkOf l = (false, 3)) := Lib.hid (check_full HOPS.out (key := x) (by rw [← HQ.out]; exact h14))
              clear h14
              go_wp2_with fail
              go_ret2
              have h1 := HR.out.by_.iter HR.out.new HR.out.rg.ne HR.out.aside ((Only.refl (fun q => q = R) wy).grown HRG.out.2.1 fun k hk => by injection hk with hk; exact hk.symm)
              exact ⟨by rw [HF.out]; rfl, h1.only⟩
            · have d14 : decide ((14 : Int) < (cb : Int)) = false := decide_eq_false (by omega)
              have HF : Hid ((byKey L x).length ≤ 14) := Lib.hid (by rw [← HQ.out]; omega)
              clear h14
              go_wp2_with fail
              go_roundw
              case rel => exact ⟨_, cnt5, Lib.hid (HR.out.next HRG.out.1 HRG.out.2.1 (Only.refl None' _) HF.out)⟩
              case measure =>
                rw [(HR.out.next (P := fun key => (byKey L key).length ≤ 14) HRG.out.1 HRG.out.2.1 (Only.refl None' _) HF.out).rg.left_eq, HR.out.rg.left_eq]
                exact HRG.out.2.2

end Go.Proofs.Ytajbagdgjbihjaa
