/- CallMarks: the walk. -/
import Derived.Test.YtehoiapadnbklaaT3
import Derived.Test.YtehoiapadnbklaaT5
namespace Go.Proofs.Ytehoiapadnbklaa
open Go.RowKit Go.Maps
set_option linter.unusedVariables false

theorem field0 (s : ByteArray) (m : Bool) (w : World) : (Instr.field 58 (.agg #[.string s, .bool m]) 0).run Try.prog w = .ok (.string s) w := by kernel_rfl
theorem field1 (s : ByteArray) (m : Bool) (w : World) : (Instr.field 58 (.agg #[.string s, .bool m]) 1).run Try.prog w = .ok (.bool m) w := by kernel_rfl
theorem kinv (key : Value) (kl : Lit) (h : keyOf Try.prog 3 key = some kl) : ∃ x : Int, key = .int .i64 x := by
  obtain ⟨x, h1, _⟩ := Maps.keyOf_int_inv Try.underlying3 h
  exact ⟨x, h1⟩
theorem vinv (v : Value) (y : DataW Unit × List MemPlace) (h : kwR v = some y) : ∃ p : Kw, v = kwV p := by
  obtain ⟨p, h1, _⟩ := kwR_shape h
  exact ⟨p, h1⟩
theorem reads_some {D : DataW Unit} {f : Int → Option Kw} {k : Int} {p : Kw} (h : Reads D f) (ha : ∀ zd, D.atKey (.int .i64 k) zd = kwD p) : f k = some p := by
  have h1 := ha .nil
  rw [h.at_] at h1
  cases e : f k with
  | none => rw [e] at h1; cases h1
  | some q => rw [e] at h1; rw [kwD_inj h1]
/-- within the round over what is known -/
structure RSt (w2 wy : World) (b r n : Nat) (f : Int → Option Kw) (key : ByteArray) (D : DataW Unit) (left : Lit → Bool) (cnt : Nat) : Prop where
  rg : wy.ranges Try.prog 3 kwR b r n D left cnt
  rd : Reads D fun k => if left (.int .i64 k) then f k else (f k).map (upk key)
  only : Only (fun q => q = b) w2 wy
  rb : w2.heap.size ≤ r
theorem RSt.next {w2 wy w1 w3 : World} {b r n : Nat} {f : Int → Option Kw} {key : ByteArray} {D : DataW Unit} {left : Lit → Bool} {cnt cnt1 : Nat} {x : Int} {p : Kw} {o : Obj} (h : RSt w2 wy b r n f key D left cnt) (hl : left (.int .i64 x) = true) (ha : ∀ zd, D.atKey (.int .i64 x) zd = kwD p) (g1 : wy.grownBy w1 (some r))
    (h3 : w3.ranges Try.prog 3 kwR b r n (D.put (.int .i64 x) (kwD (upk key p))) (fun z => left z && !z.sameKey (.int .i64 x)) cnt1) (ht : (w1.alloc o).mapTurned w3 b) : RSt w2 w3 b r n f key (D.put (.int .i64 x) (kwD (upk key p))) (fun z => left z && !z.sameKey (.int .i64 x)) cnt1 := by
  have hx := reads_some h.rd ha
  rw [if_pos hl] at hx
  refine ⟨h3, ?_, ?_, h.rb⟩
  · have hp := h.rd.put (k := x) (p := upk key p) h.rg.owns.isMap
    have e : updO (fun k => if left (.int .i64 k) then f k else (f k).map (upk key)) x (some (upk key p)) = fun k => if (left (.int .i64 k) && !(Lit.int .i64 k).sameKey (.int .i64 x)) then f k else (f k).map (upk key) := by
      funext k
      unfold updO
      by_cases e : k = x
      · subst e
        rw [if_pos rfl, same_int]
        simp [hx]
      · rw [if_neg e, same_int]
        simp [e]
    rw [← e]
    exact hp
  · have o1 : Only (fun q => q = r) wy w1 := (Only.refl _ _).grown g1 fun q hq => by injection hq with hq; exact hq.symm
    have o3 : Only (fun q => q = b) (w1.alloc o) w3 := (Only.refl _ _).turned ht rfl
    have hb := h.rb
    exact ((h.only.trans2 o1 fun q hq e => by omega).trans2 ((Only.refl None' w1).alloc o) fun q hq e => e.elim).trans o3
set_option maxRecDepth 20000 in
theorem marks_long (a : Option Addr) (n c : Nat) (w : World) (h : 150 < n) : Calls Try.prog 6 #[.slice a n c] w fun e w' => e = .returned (.bool true) ∧ Below w.heap.size w w' := by
  have h1 : (150 : Int) < (n : Int) := by omega
  have d1 : decide ((150 : Int) < (n : Int)) = true := by rw [decide_eq_true_eq]; exact h1
  clear h
  go_enter Try.func6, Try.ntmps6
  go_wp2_with fail
  refine (awake_any w).mono ?_
  rintro e w1 ⟨rfl, o⟩
  have O := Lib.hid o
  clear o
  go_wp2_with fail
  go_ret
  exact ⟨rfl, O.out.below (Nat.le_refl _) fun _ e => e.elim⟩
set_option maxRecDepth 20000 in
set_option maxHeartbeats 8000000 in
theorem marks_main (a : Option Addr) (n c : Nat) (ss : List Stp) (w : World) (rd : Steps w a n ss) (h : n ≤ 150) : Calls Try.prog 6 #[.slice a n c] w fun e w' => e = .returned (.bool true) ∧ Below w.heap.size w w' := by
  have h1 : ¬ (150 : Int) < (n : Int) := by omega
  have d1 : decide ((150 : Int) < (n : Int)) = false := by rw [decide_eq_false_iff_not]; exact h1
  have RD := Lib.hid rd
  have H150 := Lib.hid h
  have hmm := @run_makeMap Try.prog
  have hf0 := field0
  have hf1 := field1
  clear rd h h1
  go_enter Try.func6, Try.ntmps6
  go_wp2_with fail
  refine (awake_any w).mono ?_
  rintro e w1 ⟨rfl, o⟩
  have O := Lib.hid o
  clear o
  go_wp2_with fail
  refine (new_lit (life := 1) rfl (by decide) (by decide) w1).mono ?_
  rintro e w2 ⟨B, M, rfl, hc, hB, hM, o2⟩
  obtain ⟨b, hb⟩ : ∃ b, b = w2.heap.size := ⟨_, rfl⟩
  have L0 : Hid (MSt w (w2.alloc (.map #[] 0)) B M b 0 0 ⟨1, 0, []⟩ (fun _ => none)) := Lib.hid (by
    have hs := O.out.size
    have hs2 := o2.size
    have l1 := hc.cells.lt
    have l2 := hc.lt
    refine ⟨(O.out.trans o2).alloc _, hc.new ((Only.refl _ _).alloc _), ⟨_, by rw [hb]; exact World.ownsMap_made w2 Try.prog 3 kwR, Reads.empty⟩, ⟨by omega, by omega⟩, ⟨by omega, by omega, by omega⟩, fun x hx => absurd hx List.not_mem_nil, Nat.le_refl _⟩)
  clear hc hB hM o2 O d1
  go_wp2_with fail
  rw [← hb]
  clear hb
  go_loopw [6] (fun i wr => ∃ (j nb : Nat) (c : Cl) (f : Int → Option Kw), j ≤ n ∧ i = .int .i64 (j : Int) ∧ Hid (MSt w wr B M b nb j c f)) (fun i wr => n - (intOf i).toNat)
  case atStart => exact ⟨0, 0, _, _, by omega, rfl, L0⟩
  case round =>
    clear L0
    obtain ⟨j, nb, c, f, hj, rfl, HI⟩ := hrel
    rename World => wx
    by_cases hlt : j < n
    · have hjs : j < ss.length := by have := RD.out.len; omega
      obtain ⟨bb, off, rfl, hb, hA⟩ := RD.out.at_ j hjs
      obtain ⟨s, hs⟩ : ∃ s, s = ss[j] := ⟨_, rfl⟩
      rw [← hs] at hA
      clear hs
      obtain ⟨kd, key, cl, id, now, nn, raw⟩ := s
      have hA2 := hA.only hb HI.out.only fun e => e
      have k0 := hA2.k0
      have k1 := hA2.k1
      have k2 := hA2.k2
      have k3 := hA2.k3
      have k4 := hA2.k4
      have k5 := hA2.k5
      have k6 := hA2.k6
      simp only at k0 k1 k2 k3 k4 k5 k6
      have i0 : (0 : Int) ≤ (j : Int) := by omega
      have i1 : (j : Int) < (n : Int) := by omega
      have HJ := Lib.hid hlt
      obtain ⟨T, hT⟩ : ∃ T, T = wx.heap.size := ⟨_, rfl⟩
      obtain ⟨wb, hwb⟩ : ∃ wb, wb = wx.alloc (.cells #[.int .u8 (kd : Int), .string key, .int .i64 cl, .int .i64 id, .int .i64 now, .int .i64 nn, .bool raw] 32) := ⟨_, rfl⟩
      have HA : Hid (MSt w wb B M b nb j c f) := Lib.hid (HI.out.new_ (by rw [hwb]; exact (Only.refl None' wx).alloc _))
      have CT : Hid (CellsR wb T [.int .u8 (kd : Int), .string key, .int .i64 cl, .int .i64 id, .int .i64 now, .int .i64 nn, .bool raw]) := Lib.hid (by rw [hwb, hT]; exact cells_new wx [.int .u8 (kd : Int), .string key, .int .i64 cl, .int .i64 id, .int .i64 now, .int .i64 nn, .bool raw] 32)
      have HTn : Hid (T ≠ B ∧ T ≠ M ∧ T ≠ b) := Lib.hid (by have h1 := HI.out.c_.cells.lt; have h2 := HI.out.c_.lt; have h3 := HI.out.k_.lt; omega)
      have HNB := Lib.hid (show nb ≤ 150 by have h1 := HI.out.few; have h2 := H150.out; omega)
      have ewb := hwb.symm
      have eT := hT.symm
      clear hb hA hA2 hjs hlt hj hwb hT
      have c0 := CT.out.is 0 _ rfl
      have c1 := CT.out.is 1 _ rfl
      have c2 := CT.out.is 2 _ rfl
      have c3 := CT.out.is 3 _ rfl
      have c4 := CT.out.is 4 _ rfl
      have c5 := CT.out.is 5 _ rfl
      by_cases hk0 : kd = 0
      · as_aux_lemma =>
        have z0 : ((kd : Int) == 0) = true := by simp; omega
        have z0' : (kd == 0) = true := by simpa using hk0
        obtain ⟨N, hN⟩ : ∃ N : Nat, N = c.life * 1048576 + c.given + 1 := ⟨_, rfl⟩
        have HNN := Lib.hid hN
        by_cases hcode : c.askCode now = 0
        · have HK := Lib.hid (ask_go HA.out.c_ key cl id now hcode)
          rw [← hN] at HK
          have HOK := Lib.hid (HI.out.c_.ok.asked (key := key) (client := cl) (id := id) hcode)
          have hb1 : (1 : Int) ≤ (N : Int) := by omega
          have hb2 : (N : Int) ≤ 2147483647 := by
            have h1 := HI.out.c_.ok.l2
            have h2 := HOK.out.g
            simp only [Cl.asked] at h2
            omega
          have HWF := Lib.hid (wf64 (a := (N : Int)) (by omega) (by omega))
          clear hcode hk0 hN
          go_wp2_with fail
          refine HK.out.mono ?_
          rintro e w2 ⟨rfl, h2, o2⟩
          have H2 := Lib.hid (And.intro h2 o2)
          have CT2 := Lib.hid (CT.out.kept o2 fun e => by have := HTn.out; omega)
          have y1 := CT2.out.is 1 _ rfl
          obtain ⟨D, hD1, hD2⟩ := (HA.out.k_.only o2 fun e => by have := HA.out.apart; omega).own
          have HD := Lib.hid (And.intro hD1 hD2)
          clear h2 o2 hD1 hD2 k0 k1 k2 k3 k4 k5 k6 c0 c1 c2 c3 c4 c5 HK
          go_wp2_with (first | (at_mapUpdate; refine wpList_mapUpdate_in _ rfl _ _ _ 56 rfl 3 58 keyed3 under56 kwR b nb D rfl HD.out.1 (by have := HNB.out; unfold maxLen; omega) (.int .i64 (N : Int)) (.agg #[.string key, .bool false]) (.int .i64 (N : Int)) rfl rfl (keyOf_int_mk Try.underlying3 HWF.out) (kwD ⟨key, false⟩) [] rfl ?_; intro w3 ho3 ht3; have HO3 := Lib.hid ho3; have O3 : Hid (Only (fun q => q = b) w2 w3) := Lib.hid ((Only.refl _ _).turned ht3 rfl); clear ho3 ht3))
          go_roundw
          case rel =>
            have e := HNN.out
            subst e
            exact ⟨j + 1, nb + 1, _, _, by have := HJ.out; omega, next_int (by have := HJ.out; have := H150.out; omega), Lib.hid (HA.out.asked H2.out.2 H2.out.1 ⟨_, HO3.out, HD.out.2.put HD.out.1.isMap⟩ O3.out)⟩
          case measure => exact meas HJ.out (by have := H150.out; omega)
        · obtain ⟨code, hcd⟩ : ∃ code, c.askCode now = code := ⟨_, rfl⟩
          have hne : code ≠ 0 := by rw [← hcd]; exact hcode
          have HK := Lib.hid (ask_no HA.out.c_ key cl id now hcd hne)
          have e3 : (code == 0) = false := by simpa using hne
          clear hcode hk0 hN hcd hne
          go_wp2_with fail
          refine HK.out.mono ?_
          rintro e w2 ⟨rfl, q, hq⟩
          have o2 : Only None' wb w2 := by rw [hq]; exact (Only.refl None' _).drewN q
          have H2 := Lib.hid (HA.out.new_ o2)
          clear hq o2
          go_wp2_with fail
          go_roundw
          case rel => exact ⟨j + 1, nb, c, f, by have := HJ.out; omega, next_int (by have := HJ.out; have := H150.out; omega), Lib.hid (H2.out.later (by omega))⟩
          case measure => exact meas HJ.out (by have := H150.out; omega)
      have z0 : ((kd : Int) == 0) = false := by simp; omega
      have z0' : (kd == 0) = false := by simpa using hk0
      by_cases hk3 : kd = 3
      · as_aux_lemma =>
        have z3 : ((kd : Int) == 3) = true := by simp; omega
        have z3' : (kd == 3) = true := by simpa using hk3
        have HK := Lib.hid (mark_any HA.out.c_ key)
        clear hk0 hk3
        go_wp2_with fail
        refine HK.out.mono ?_
        rintro e w2 ⟨rfl, h2, o2⟩
        have H2 := Lib.hid (And.intro h2 o2)
        have CT2 := Lib.hid (CT.out.kept o2 fun e => by have := HTn.out; omega)
        obtain ⟨D0, hD1, hD2⟩ := (HA.out.k_.only o2 fun e => by have := HA.out.apart; omega).own
        have HD := Lib.hid (And.intro hD1 hD2)
        clear h2 o2 hD1 hD2 k0 k1 k2 k3 k4 k5 k6 c0 c1 c2 c3 c4 c5 HK
        go_wp2_with (first | (at_range; refine wpList_range_own _ rfl _ 56 rfl 3 58 keyed3 under56 kwR b nb D0 rfl HD.out.1 ?_; intro w0 hrg0 hg0 hs0; have HR0 := Lib.hid (And.intro hrg0 (And.intro hg0 hs0)); clear hrg0 hg0 hs0))
        go_frame
        obtain ⟨r, hr⟩ : ∃ r, r = w2.heap.size := ⟨_, rfl⟩
        have L1 : Hid (RSt w2 w0 b r nb f key D0 (Maps.has D0) (Maps.size D0)) := Lib.hid (by
          refine ⟨by rw [hr]; exact HR0.out.1, ?_, ?_, by omega⟩
          · have : (fun k => if Maps.has D0 (.int .i64 k) then f k else (f k).map (upk key)) = f := by
              funext k
              rw [HD.out.2.has]
              cases f k <;> rfl
            rw [this]
            exact HD.out.2
          · exact (Only.refl _ _).grown HR0.out.2.1 fun q hq => by cases hq)
        rw [← hr]
        clear hr HR0
        go_loopw [10] (fun _ wy => ∃ (D : DataW Unit) (left : Lit → Bool) (cnt : Nat), Hid (RSt w2 wy b r nb f key D left cnt)) (fun _ wy => wy.rangeLeft b r)
        case atStart => exact ⟨_, _, _, L1⟩
        case round =>
          clear L1
          obtain ⟨D, left, cnt, HR⟩ := hrel
          rename World => wy
          go_wp2_with (first | (at_next; refine wpList_next_ranges _ rfl _ rfl 3 keyed3 kwR (Value.int .i64) kwV kinv vinv b r nb D left cnt rfl HR.out.rg ?_ ?_))
          · intro _ hl0
            have HF : Hid (KMap wy b nb fun k => (f k).map (upk key)) := Lib.hid ⟨D, HR.out.rg.owns, by
              have h1 := HR.out.rd
              have : (fun k => if left (.int .i64 k) then f k else (f k).map (upk key)) = fun k => (f k).map (upk key) := by
                funext k
                rw [hl0]; rfl
              rw [this] at h1
              exact h1⟩
            clear hl0
            go_wp2_with fail
            go_roundw
            case rel => exact ⟨j + 1, nb, _, _, by have := HJ.out; omega, next_int (by have := HJ.out; have := H150.out; omega), Lib.hid (HA.out.marked H2.out.1 H2.out.2 HR.out.only HF.out)⟩
            case measure => exact meas HJ.out (by have := H150.out; omega)
          · intro x p kl y y2 w1 cnt1 hkey hlx hRv hat hrg1 hlt hg1 hs1 hen
            obtain ⟨x', ex, rfl, hwx⟩ := Maps.keyOf_int_inv Try.underlying3 hkey
            cases ex
            obtain ⟨ps, pm⟩ := p
            rw [kwR_v] at hRv
            injection hRv with hRv
            injection hRv with hRv _
            have hat' : ∀ zd, D.atKey (.int .i64 x) zd = kwD ⟨ps, pm⟩ := fun zd => by rw [hat zd, hRv]
            have HX := Lib.hid (And.intro hlx (And.intro hat' (And.intro hrg1 (And.intro hlt (And.intro hg1 hwx)))))
            have hhas : Hid (Maps.has D (.int .i64 x) = true) := Lib.hid (by rw [HR.out.rd.has, reads_some HR.out.rd hat']; rfl)
            have CT3 := Lib.hid ((CT2.out.kept HR.out.only fun e => HTn.out.2.2 e).kept ((Only.refl (fun q => q = r) wy).grown hg1 fun q hq => by injection hq with hq; exact hq.symm) fun e => by have h1 := HR.out.rb; have h2 := CT2.out.lt; omega)
            have y1 := CT3.out.is 1 _ rfl
            have lT := CT3.out.lt
            clear hRv hat hat' hlx hrg1 hlt hg1 hs1 hkey hwx
            dsimp only [kwV] at hen ⊢
            obtain ⟨qb, hqb⟩ : ∃ qb, qb = (ps.toList == key.toList) := ⟨_, rfl⟩
            have HQB : Hid (qb = decide (ps = key)) := Lib.hid (by rw [hqb]; exact same_str ps key)
            cases pm with
            | true =>
              go_wp2_with (first | (at_mapUpdate; refine wpList_store_ranges _ rfl _ _ _ 56 rfl 3 58 keyed3 under56 kwR b r nb D (fun z => left z && !z.sameKey (.int .i64 x)) cnt1 rfl (HX.out.2.2.1.alloc _) (by have := HNB.out; unfold maxLen; omega) (.int .i64 x) (.agg #[.string ps, .bool true]) (.int .i64 x) rfl rfl (keyOf_int_mk Try.underlying3 HX.out.2.2.2.2.2) (kwD (upk key ⟨ps, true⟩)) [] rfl hhas.out ?_; intro w3 hrg3 ht3; have HN3 := Lib.hid (HR.out.next HX.out.1 HX.out.2.1 HX.out.2.2.2.2.1 hrg3 ht3); clear hrg3 ht3; go_frame))
              go_roundw
              case rel => exact ⟨_, _, _, HN3⟩
              case measure => rw [HN3.out.rg.left_eq, HR.out.rg.left_eq]; exact HX.out.2.2.2.1
            | false =>
              rw [eq_comm] at hqb
              go_wp2_with (first | (at_mapUpdate; refine wpList_store_ranges _ rfl _ _ _ 56 rfl 3 58 keyed3 under56 kwR b r nb D (fun z => left z && !z.sameKey (.int .i64 x)) cnt1 rfl (HX.out.2.2.1.alloc _) (by have := HNB.out; unfold maxLen; omega) (.int .i64 x) (.agg #[.string ps, .bool qb]) (.int .i64 x) rfl rfl (keyOf_int_mk Try.underlying3 HX.out.2.2.2.2.2) (kwD (upk key ⟨ps, false⟩)) [] (by rw [HQB.out]; rfl) hhas.out ?_; intro w3 hrg3 ht3; have HN3 := Lib.hid (HR.out.next HX.out.1 HX.out.2.1 HX.out.2.2.2.2.1 hrg3 ht3); clear hrg3 ht3; go_frame))
              go_roundw
              case rel => exact ⟨_, _, _, HN3⟩
              case measure => rw [HN3.out.rg.left_eq, HR.out.rg.left_eq]; exact HX.out.2.2.2.1
      have z3 : ((kd : Int) == 3) = false := by simp; omega
      have z3' : (kd == 3) = false := by simpa using hk3
      by_cases hk4 : kd = 4 ∨ kd = 5
      · rcases hk4 with h4 | h4
        · as_aux_lemma =>
          have z4 : ((kd : Int) == 4) = true := by simp; omega
          have z4' : (kd == 4) = true := by simpa using h4
          clear h4
          obtain ⟨l, hl⟩ : ∃ l, l = ((c.ws.filter fun x => agoB x.last now nn).map (Wt.at_ now)) := ⟨_, rfl⟩
          obtain ⟨q, hq⟩ : ∃ q, q = l.length := ⟨_, rfl⟩
          have HK := Lib.hid (due_lit HA.out.c_ now nn hl.symm hq.symm rfl)
          have HLK : Hid (∀ x ∈ l, f x.req = some ⟨x.key, x.marked⟩ ∧ x.last = now ∧ (Lit.int .i64 x.req).wf = true) := Lib.hid fun x hx => by
            rw [hl] at hx
            obtain ⟨y, hy, rfl⟩ := List.mem_map.1 hx
            have hy2 := (List.mem_filter.1 hy).1
            exact ⟨HA.out.ok y hy2, rfl, (show (Lit.int .i64 y.req).wf = true from HA.out.c_.ok.wf hy2)⟩
          have HQ := Lib.hid hq
          have HQ64 : Hid (q ≤ 64) := Lib.hid (by rw [hq, hl, List.length_map]; exact Nat.le_trans (List.length_filter_le _ _) HA.out.c_.ok.few)
          clear hl hq hk0 hk3
          go_wp2_with fail
          refine HK.out.mono ?_
          rintro e w2 ⟨a2, k2', rfl, hr, hnew, hc, o2⟩
          have H2 := Lib.hid (HA.out.due hc o2)
          have R2 := Lib.hid hr
          have CT2 := Lib.hid (CT.out.kept o2 HTn.out.2.1)
          clear hr hnew hc o2 HK k0 k1 k2 k3 k4 k5 k6 c0 c1 c2 c3 c4 c5
          go_wp2_with fail
          go_loopw [168] (fun i wy => ∃ k : Nat, k ≤ q ∧ i = .int .i64 (k : Int) ∧ Hid (Only None' w2 wy)) (fun i wy => q - (intOf i).toNat)
          case atStart => exact ⟨0, by omega, rfl, Lib.hid (Only.refl _ _)⟩
          case round =>
            obtain ⟨k, hkq, rfl, HO⟩ := hrel
            rename World => wy
            by_cases hlt : k < q
            · have hjl : k < l.length := by have := HQ.out; omega
              obtain ⟨g, off3, cp, e, hg, hcell, _⟩ := (R2.out.only HO.out fun _ _ e => e).at_ hjl
              injection e with e e2 e3
              subst e
              clear e2 e3
              obtain ⟨x, hx⟩ : ∃ x, x = l[k] := ⟨_, rfl⟩
              rw [← hx] at hcell
              have hm := HLK.out x (by rw [hx]; exact List.getElem_mem hjl)
              clear hx hjl
              obtain ⟨x1, x2, x3, x4, x5, x6, x7⟩ := x
              obtain ⟨m1, m2, m3⟩ := hm
              simp only at m1 m2 m3
              subst m2
              have oz : Only None' wy (wy.alloc (.cells #[.int .i64 x1, .string x2, .int .i64 x3, .int .i64 x4, .int .i64 x5, .int .i64 x6, .bool x7] 36)) := (Only.refl None' wy).alloc _
              have hlk := ((H2.out.k_.only HO.out fun e => e).only oz fun e => e).look m3
              rw [m1] at hlk
              change (Instr.lookup 56 (.map (some b)) (.int .i64 x1) false).run Try.prog (wy.alloc (.cells #[.int .i64 x1, .string x2, .int .i64 x3, .int .i64 x4, .int .i64 x5, .int .i64 x6, .bool x7] 36)) = .ok (.agg #[.string x2, .bool x7]) (wy.alloc (.cells #[.int .i64 x1, .string x2, .int .i64 x3, .int .i64 x4, .int .i64 x5, .int .i64 x6, .bool x7] 36)) at hlk
              have CT3 := CT2.out.kept HO.out fun e => e
              have lT := CT3.lt
              have q0 := hcell 0 _ rfl
              have q1 := hcell 1 _ rfl
              have q2 := hcell 2 _ rfl
              have q3 := hcell 3 _ rfl
              have q4 := hcell 4 _ rfl
              have q5 := hcell 5 _ rfl
              have q6 := hcell 6 _ rfl
              rw [Nat.add_zero] at q0
              have t4 := CT3.is 4 _ rfl
              have i2 : (0 : Int) ≤ (k : Int) := by omega
              have i3 : (k : Int) < (q : Int) := by omega
              have OZ := Lib.hid (HO.out.trans oz)
              have HLT := Lib.hid hlt
              clear hcell m1 m3 oz CT3 hlt hkq
              cases x7
              all_goals (
                go_wp2_with fail
                go_roundw
                case rel => exact ⟨k + 1, by have := HLT.out; omega, next_int (by have := HLT.out; have := HQ64.out; omega), OZ⟩
                case measure => exact meas HLT.out (by have := HQ64.out; omega))
            · obtain rfl : k = q := by omega
              go_wp2_with fail
              go_roundw
              case rel => exact ⟨j + 1, nb, _, f, by have := HJ.out; omega, next_int (by have := HJ.out; have := H150.out; omega), Lib.hid ((H2.out.new_ HO.out).later (by omega))⟩
              case measure => exact meas HJ.out (by have := H150.out; omega)
        · as_aux_lemma =>
          have z4 : ((kd : Int) == 4) = false := by simp; omega
          have z4' : (kd == 4) = false := by simp; omega
          have z5 : ((kd : Int) == 5) = true := by simp; omega
          have z5' : (kd == 5) = true := by simpa using h4
          clear h4
          obtain ⟨l, hl⟩ : ∃ l, l = ((c.ws.filter fun x => agoB x.last now nn).map (Wt.at_ now)) := ⟨_, rfl⟩
          obtain ⟨q, hq⟩ : ∃ q, q = l.length := ⟨_, rfl⟩
          have HK := Lib.hid (due_lit HA.out.c_ now nn hl.symm hq.symm rfl)
          have HLK : Hid (∀ x ∈ l, f x.req = some ⟨x.key, x.marked⟩ ∧ x.last = now ∧ (Lit.int .i64 x.req).wf = true) := Lib.hid fun x hx => by
            rw [hl] at hx
            obtain ⟨y, hy, rfl⟩ := List.mem_map.1 hx
            have hy2 := (List.mem_filter.1 hy).1
            exact ⟨HA.out.ok y hy2, rfl, (show (Lit.int .i64 y.req).wf = true from HA.out.c_.ok.wf hy2)⟩
          have HQ := Lib.hid hq
          have HQ64 : Hid (q ≤ 64) := Lib.hid (by rw [hq, hl, List.length_map]; exact Nat.le_trans (List.length_filter_le _ _) HA.out.c_.ok.few)
          clear hl hq hk0 hk3
          go_wp2_with fail
          refine HK.out.mono ?_
          rintro e w2 ⟨a2, k2', rfl, hr, hnew, hc, o2⟩
          have H2 := Lib.hid (HA.out.due hc o2)
          have R2 := Lib.hid hr
          have CT2 := Lib.hid (CT.out.kept o2 HTn.out.2.1)
          clear hr hnew hc o2 HK k0 k1 k2 k3 k4 k5 k6 c0 c1 c2 c3 c4 c5
          go_wp2_with fail
          go_loopw [168] (fun i wy => ∃ k : Nat, k ≤ q ∧ i = .int .i64 (k : Int) ∧ Hid (Only None' w2 wy)) (fun i wy => q - (intOf i).toNat)
          case atStart => exact ⟨0, by omega, rfl, Lib.hid (Only.refl _ _)⟩
          case round =>
            obtain ⟨k, hkq, rfl, HO⟩ := hrel
            rename World => wy
            by_cases hlt : k < q
            · have hjl : k < l.length := by have := HQ.out; omega
              obtain ⟨g, off3, cp, e, hg, hcell, _⟩ := (R2.out.only HO.out fun _ _ e => e).at_ hjl
              injection e with e e2 e3
              subst e
              clear e2 e3
              obtain ⟨x, hx⟩ : ∃ x, x = l[k] := ⟨_, rfl⟩
              rw [← hx] at hcell
              have hm := HLK.out x (by rw [hx]; exact List.getElem_mem hjl)
              clear hx hjl
              obtain ⟨x1, x2, x3, x4, x5, x6, x7⟩ := x
              obtain ⟨m1, m2, m3⟩ := hm
              simp only at m1 m2 m3
              subst m2
              have oz : Only None' wy (wy.alloc (.cells #[.int .i64 x1, .string x2, .int .i64 x3, .int .i64 x4, .int .i64 x5, .int .i64 x6, .bool x7] 36)) := (Only.refl None' wy).alloc _
              have hlk := ((H2.out.k_.only HO.out fun e => e).only oz fun e => e).look m3
              rw [m1] at hlk
              change (Instr.lookup 56 (.map (some b)) (.int .i64 x1) false).run Try.prog (wy.alloc (.cells #[.int .i64 x1, .string x2, .int .i64 x3, .int .i64 x4, .int .i64 x5, .int .i64 x6, .bool x7] 36)) = .ok (.agg #[.string x2, .bool x7]) (wy.alloc (.cells #[.int .i64 x1, .string x2, .int .i64 x3, .int .i64 x4, .int .i64 x5, .int .i64 x6, .bool x7] 36)) at hlk
              have CT3 := CT2.out.kept HO.out fun e => e
              have lT := CT3.lt
              have q0 := hcell 0 _ rfl
              have q1 := hcell 1 _ rfl
              have q2 := hcell 2 _ rfl
              have q3 := hcell 3 _ rfl
              have q4 := hcell 4 _ rfl
              have q5 := hcell 5 _ rfl
              have q6 := hcell 6 _ rfl
              rw [Nat.add_zero] at q0
              have t4 := CT3.is 4 _ rfl
              have i2 : (0 : Int) ≤ (k : Int) := by omega
              have i3 : (k : Int) < (q : Int) := by omega
              have OZ := Lib.hid (HO.out.trans oz)
              have HLT := Lib.hid hlt
              clear hcell m1 m3 oz CT3 hlt hkq
              cases x7
              all_goals (
                go_wp2_with fail
                go_roundw
                case rel => exact ⟨k + 1, by have := HLT.out; omega, next_int (by have := HLT.out; have := HQ64.out; omega), OZ⟩
                case measure => exact meas HLT.out (by have := HQ64.out; omega))
            · obtain rfl : k = q := by omega
              go_wp2_with fail
              go_roundw
              case rel => exact ⟨j + 1, nb, _, f, by have := HJ.out; omega, next_int (by have := HJ.out; have := H150.out; omega), Lib.hid ((H2.out.new_ HO.out).later (by omega))⟩
              case measure => exact meas HJ.out (by have := H150.out; omega)
      have z4 : ((kd : Int) == 4) = false := by simp; omega
      have z4' : (kd == 4) = false := by simp; omega
      have z5 : ((kd : Int) == 5) = false := by simp; omega
      have z5' : (kd == 5) = false := by simp; omega
      as_aux_lemma =>
      obtain ⟨q, hq⟩ : ∃ q, q = c.ws.length := ⟨_, rfl⟩
      have HK := Lib.hid (fun wq (oq : Only None' wb wq) => all_lit (HA.out.new_ oq).c_ hq.symm)
      have HQ := Lib.hid hq
      have HQ64 : Hid (q ≤ 64) := Lib.hid (by rw [hq]; exact HA.out.c_.ok.few)
      clear hq hk0 hk3 hk4
      go_wp2_with fail
      refine (HK.out wb (Only.refl _ _)).mono ?_
      rintro e w2 ⟨a2, k2', rfl, hr, -, o2⟩
      have R2 := Lib.hid hr
      have O2 := Lib.hid o2
      clear hr o2 k0 k1 k2 k3 k4 k5 k6 c0 c1 c2 c3 c4 c5
      go_wp2_with fail
      go_loopw [49] (fun i wy => ∃ k : Nat, k ≤ q ∧ i = .int .i64 (k : Int) ∧ Hid (Only None' w2 wy)) (fun i wy => q - (intOf i).toNat)
      case atStart => exact ⟨0, by omega, rfl, Lib.hid (Only.refl _ _)⟩
      case round =>
        obtain ⟨k, hkq, rfl, HO⟩ := hrel
        rename World => wy
        by_cases hlt : k < q
        · have hjl : k < c.ws.length := by have := HQ.out; omega
          obtain ⟨g, off3, cp, e, hg, hcell, _⟩ := (R2.out.only HO.out fun _ _ e => e).at_ hjl
          injection e with e e2 e3
          subst e
          clear e2 e3
          obtain ⟨x, hx⟩ : ∃ x, x = c.ws[k] := ⟨_, rfl⟩
          rw [← hx] at hcell
          have hmem : x ∈ c.ws := by rw [hx]; exact List.getElem_mem hjl
          have m1 := HA.out.ok x hmem
          have m3 := HA.out.c_.ok.wf hmem
          clear hx hjl hmem
          obtain ⟨x1, x2, x3, x4, x5, x6, x7⟩ := x
          simp only at m1 m3
          have oz : Only None' wy (wy.alloc (.cells #[.int .i64 x1, .string x2, .int .i64 x3, .int .i64 x4, .int .i64 x5, .int .i64 x6, .bool x7] 36)) := (Only.refl None' wy).alloc _
          have hlk := (((HA.out.k_.only O2.out fun e => e).only HO.out fun e => e).only oz fun e => e).look m3
          rw [m1] at hlk
          change (Instr.lookup 56 (.map (some b)) (.int .i64 x1) false).run Try.prog (wy.alloc (.cells #[.int .i64 x1, .string x2, .int .i64 x3, .int .i64 x4, .int .i64 x5, .int .i64 x6, .bool x7] 36)) = .ok (.agg #[.string x2, .bool x7]) (wy.alloc (.cells #[.int .i64 x1, .string x2, .int .i64 x3, .int .i64 x4, .int .i64 x5, .int .i64 x6, .bool x7] 36)) at hlk
          have q0 := hcell 0 _ rfl
          have q1 := hcell 1 _ rfl
          have q2 := hcell 2 _ rfl
          have q3 := hcell 3 _ rfl
          have q4 := hcell 4 _ rfl
          have q5 := hcell 5 _ rfl
          have q6 := hcell 6 _ rfl
          rw [Nat.add_zero] at q0
          have i2 : (0 : Int) ≤ (k : Int) := by omega
          have i3 : (k : Int) < (q : Int) := by omega
          have OZ := Lib.hid (HO.out.trans oz)
          have HLT := Lib.hid hlt
          clear hcell m1 m3 oz hlt hkq
          cases x7
          all_goals (
            go_wp2_with fail
            go_roundw
            case rel => exact ⟨k + 1, by have := HLT.out; omega, next_int (by have := HLT.out; have := HQ64.out; omega), OZ⟩
            case measure => exact meas HLT.out (by have := HQ64.out; omega))
        · obtain rfl : k = q := by omega
          clear hlt hkq
          go_wp2_with fail
          refine (HK.out wy (O2.out.trans HO.out)).mono ?_
          rintro e w3 ⟨a3, k3', rfl, hr3, hn3, o3⟩
          have R3 := Lib.hid hr3
          have O3 := Lib.hid ((O2.out.trans HO.out).trans o3)
          clear hr3 hn3 o3
          by_cases hq0 : k = 0
          · have e3 : decide ((0 : Int) < (k : Int)) = false := by rw [decide_eq_false_iff_not]; omega
            have e4 : decide (0 < k) = false := by rw [decide_eq_false_iff_not]; omega
            clear hq0
            go_wp2_with fail
            go_roundw
            case rel => exact ⟨j + 1, nb, c, f, by have := HJ.out; omega, next_int (by have := HJ.out; have := H150.out; omega), Lib.hid ((HA.out.new_ O3.out).later (by omega))⟩
            case measure => exact meas HJ.out (by have := H150.out; omega)
          · have e3 : decide ((0 : Int) < (k : Int)) = true := by rw [decide_eq_true_eq]; omega
            have e4 : decide (0 < k) = true := by rw [decide_eq_true_eq]; omega
            have h64 := HQ64.out
            obtain ⟨jx, hjx, hjq⟩ := modk nn k (by omega) (by omega)
            have q0 : (0 : Int) ≤ (k : Int) := by omega
            have q1 : (k : Int) ≤ 64 := by omega
            have hjl : jx < c.ws.length := by have := HQ.out; omega
            obtain ⟨g, off3, cp, e, hg, hcell, _⟩ := R3.out.at_ hjl
            injection e with e e2' e3'
            subst e
            clear e2' e3'
            obtain ⟨x, hx⟩ : ∃ x, x = c.ws[jx] := ⟨_, rfl⟩
            rw [← hx] at hcell
            have hmem : x ∈ c.ws := by rw [hx]; exact List.getElem_mem hjl
            have m1 := HA.out.ok x hmem
            have HWF := Lib.hid (HA.out.c_.ok.wf hmem)
            have hfd : c.find x.req = some x := by rw [hx]; exact find_rise HA.out.c_.ok.rise hjl
            have HT := Lib.hid (tell_any (HA.out.new_ O3.out).c_ x.req HWF.out)
            rw [hfd] at HT
            have cq := hcell 0 _ rfl
            rw [Nat.add_zero] at cq
            have ct5 := (CT.out.kept O3.out fun e => e).is 5 _ rfl
            have j0 : (0 : Int) ≤ (jx : Int) := by omega
            have j1 : (jx : Int) < (k : Int) := by omega
            clear hx hjl hmem hfd hcell hq0 hjq h64
            obtain ⟨x1, x2, x3, x4, x5, x6, x7⟩ := x
            simp only [Option.getD_some, Option.isSome_some] at HT m1 HWF
            unfold Wt.v at HT
            simp only at HT
            go_wp2_with fail
            refine HT.out.mono ?_
            rintro e w4 ⟨rfl, h4, o4⟩
            have H4 := Lib.hid (And.intro h4 o4)
            have oz : Only None' w4 (w4.alloc (.cells #[.int .i64 x1, .string x2, .int .i64 x3, .int .i64 x4, .int .i64 x5, .int .i64 x6, .bool x7] 36)) := (Only.refl None' w4).alloc _
            have HKz := ((HA.out.new_ O3.out).k_.only o4 fun e => by have := HA.out.apart; omega).only oz fun e => e
            have hlk := HKz.look HWF.out
            rw [m1] at hlk
            change (Instr.lookup 56 (.map (some b)) (.int .i64 x1) false).run Try.prog (w4.alloc (.cells #[.int .i64 x1, .string x2, .int .i64 x3, .int .i64 x4, .int .i64 x5, .int .i64 x6, .bool x7] 36)) = .ok (.agg #[.string x2, .bool x7]) (w4.alloc (.cells #[.int .i64 x1, .string x2, .int .i64 x3, .int .i64 x4, .int .i64 x5, .int .i64 x6, .bool x7] 36)) at hlk
            obtain ⟨D, hD1, hD2⟩ := HKz.own
            have HD := Lib.hid (And.intro hD1 hD2)
            have OZ := Lib.hid oz
            clear oz HKz hD1 hD2 m1 h4 o4 HT cq ct5
            cases x7
            all_goals (
              go_wp2_with (first | (at_delete; refine wpList_delete_own _ rfl _ _ 56 3 rfl 58 keyed3 under56 kwR b nb D rfl HD.out.1 (.int .i64 x1) _ rfl (keyOf_int_mk Try.underlying3 HWF.out) ?_; intro w5 ho5 ht5; have HO5 := Lib.hid ho5; have O5 : Hid (Only (fun q => q = b) _ w5) := Lib.hid ((Only.refl _ _).turned ht5 rfl); clear ho5 ht5))
              go_roundw
              case rel => exact ⟨j + 1, nb, _, _, by have := HJ.out; omega, next_int (by have := HJ.out; have := H150.out; omega), Lib.hid ((HA.out.new_ O3.out).told H4.out.2 H4.out.1 OZ.out ⟨_, HO5.out, HD.out.2.del⟩ O5.out)⟩
              case measure => exact meas HJ.out (by have := H150.out; omega))
    · obtain rfl : j = n := by omega
      go_wp2_with fail
      go_ret
      exact ⟨rfl, HI.out.only.below (Nat.le_refl _) fun _ e => e.elim⟩
theorem marks_walk (a : Option Addr) (n c : Nat) (ss : List Stp) (w : World) (rd : Steps w a n ss) : Calls Try.prog 6 #[.slice a n c] w fun e w' => e = .returned (.bool true) ∧ Below w.heap.size w w' := by
  by_cases h : 150 < n
  · exact marks_long a n c w h
  · exact marks_main a n c ss w rd (by omega)
end Go.Proofs.Ytehoiapadnbklaa
