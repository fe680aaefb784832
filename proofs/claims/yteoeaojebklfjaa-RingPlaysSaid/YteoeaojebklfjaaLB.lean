/- The document's Sector: the walk. -/
import Derived.Test.YteoeaojebklfjaaH2
import Derived.Test.YteoeaojebklfjaaJ1
import Derived.StillTailTactics
import Derived.Test.YteoeaojebklfjaaI9
import Derived.Test.YteoeaojebklfjaaH8
import Derived.Test.YteoeaojebklfjaaJ3
import Derived.Test.YteoeaojebklfjaaE6
import Derived.BigQuiet
namespace Go.Proofs.Yteoeaojebklfjaa
open Go.RowKit Go.Maps
set_option linter.unusedVariables false

set_option maxRecDepth 20000 in
set_option maxHeartbeats 4000000 in
theorem docsector_any (w : World) (p : Pc) (hn : p.n ≤ 4611686018427387904) (hd : p.data.length ≤ 501) (v : Value) (hr : Rd w 1 v p.data.length (bv p.data)) :
    Calls Try.prog 53 #[.agg #[.int .i64 (p.n : Int), .bool p.last, v]] w fun e w' => ∃ g, e = .returned (.slice (some ⟨g, 0, none⟩) 512 512) ∧ Vec w' 1 (.slice (some ⟨g, 0, none⟩) 512 512) 512 (bv p.lay) ∧ w.heap.size ≤ g ∧ Only None' w w' := by
  obtain ⟨n, la, data⟩ := p
  obtain ⟨va, vn, vc, rfl⟩ := hr.shape'
  have hvn : vn = data.length := by
    obtain ⟨a, c, e⟩ := hr.shape
    injection e
  subst hvn
  simp only at hn hd
  have HR := Lib.hid hr
  have HN := Lib.hid (And.intro hn hd)
  clear hr hn hd
  obtain ⟨w1, hw1⟩ : ∃ w1, w1 = w.alloc (.cells #[.int .i64 (n : Int), .bool la, .slice va data.length vc] 83) := ⟨_, rfl⟩
  have CB : CellsR w1 w.heap.size [.int .i64 (n : Int), .bool la, .slice va data.length vc] := by rw [hw1]; exact cells_new w _ 83
  have o1 : Only None' w w1 := by rw [hw1]; exact (Only.refl _ _).alloc _
  have hs1 : w1.heap.size = w.heap.size + 1 := by rw [hw1]; simp
  obtain ⟨w3, hm, hS, o3, l3⟩ := make34 512 w1 (by decide)
  have hm2 : (Instr.makeSlice 34 (.int .i64 512) (.int .i64 512)).run Try.prog w1 = .ok (.slice (some ⟨w1.heap.size, 0, none⟩) 512 512) w3 := hm
  have e1 := hw1.symm
  have CB3 := CB.kept o3 fun e => e
  have o13 := o1.trans o3
  have hs3 : w1.heap.size < w3.heap.size := l3
  obtain ⟨S, hSe⟩ : ∃ S, S = w1.heap.size := ⟨_, rfl⟩
  rw [← hSe] at hS hm2 hs3
  have hSB : S = w.heap.size + 1 := by omega
  have HS := Lib.hid hS
  have O3 := Lib.hid o13
  have HCB := Lib.hid CB3
  have HSE := Lib.hid (And.intro hSB hs3)
  clear hm hS o3 l3 CB CB3 hs3 hSB o1 o13 hs1 hSe hw1
  go_enter Try.func53, Try.ntmps53
  go_wp2_with fail
  clear hm2 e1
  go_loopw [4] (fun i wr => ∃ k : Nat, k ≤ 8 ∧ i = .int .i64 (k : Int) ∧ Hid (Vec wr 1 (.slice (some ⟨S, 0, none⟩) 512 512) 512 (bv (numbered n k)) ∧ Only (fun j => j = S) w3 wr)) (fun i wr => 8 - (intOf i).toNat)
  case atStart => exact ⟨0, by omega, rfl, Lib.hid ⟨by rw [numbered_zero]; exact HS.out, Only.refl _ _⟩⟩
  case round =>
    obtain ⟨k, hk, rfl, HL⟩ := hrel
    have hBS : w.heap.size ≠ S := by have := HSE.out.1; omega
    have CB := HCB.out.kept HL.out.2 fun e => hBS e
    have b0 := CB.is 0 _ rfl
    have b1 := CB.is 1 _ rfl
    have b2 := CB.is 2 _ rfl
    clear CB
    by_cases hlt : k < 8
    · have i0 : (0 : Int) ≤ (k : Int) := by omega
      have i1 : (k : Int) < 8 := by omega
      have i2 : (k : Int) < 512 := by omega
      obtain ⟨f1, f2⟩ := HL.out.1.free0 (k := k) (by omega)
      obtain ⟨u, hu⟩ := Option.isSome_iff_exists.1 f1
      clear f1
      go_wp2_with fail
      go_roundw
      case rel =>
        refine ⟨k + 1, by omega, by go_num, Lib.hid ⟨?_, HL.out.2.trans ((Only.refl (fun j => j = S) wr).setCell (p := ⟨S, k, none⟩) rfl _)⟩⟩
        have := HL.out.1.set1 (show k < 512 by omega) (.int .u8 ((byteAt n k).toNat : Int))
        rw [bv_set, numbered_next n k (by omega)] at this
        first | (rw [byte_val]; exact this) | (trace_state; fail)
      case measure => simp [intOf]; omega
    · obtain rfl : k = 8 := by omega
      have f8 := HL.out.1.free0 (k := 8) (by decide)
      obtain ⟨u8, h8⟩ := Option.isSome_iff_exists.1 f8.1
      have g8 := f8.2
      clear f8
      go_upto_if 20 with fail
      go_cut [] from 21 to 22 (fun wx => Hid (Vec wx 1 (.slice (some ⟨S, 0, none⟩) 512 512) 512 (bv ((numbered n 8).set 8 (flag la))) ∧ Only (fun j => j = S) w3 wx))
      case first =>
        cases la
        · go_wp2_with fail
          go_meet
          exact Lib.hid ⟨by rw [numbered_eight]; exact HL.out.1, HL.out.2⟩
        · go_wp2_with fail
          go_meet
          have := HL.out.1.set1 (show 8 < 512 by decide) (.int .u8 ((flag true).toNat : Int))
          rw [bv_set] at this
          exact Lib.hid ⟨this, HL.out.2.trans ((Only.refl (fun j => j = S) wr).setCell (p := ⟨S, 8, none⟩) rfl _)⟩
      case rest =>
        have HC := hcut
        clear hcut h8 g8 b0 b1 b2
        have CB := HCB.out.kept HC.out.2 fun e => hBS e
        have b2 := CB.is 2 _ rfl
        have f9 := HC.out.1.free0 (k := 9) (by decide)
        have f10 := HC.out.1.free0 (k := 10) (by decide)
        obtain ⟨u9', h9⟩ := Option.isSome_iff_exists.1 f9.1
        obtain ⟨u10', h10⟩ := Option.isSome_iff_exists.1 f10.1
        have g9 := f9.2
        have g10 := f10.2
        clear f9 f10 CB
        have hBS' : S ≠ w.heap.size := fun e => hBS e.symm
        have b2d : Hid (wc.drew.cell? ⟨w.heap.size, 2, none⟩ = some (.slice va data.length vc)) := b2
        have K1 : Hid (∀ v, (wc.drew.setCell ⟨S, 9, none⟩ v).cell? ⟨w.heap.size, 2, none⟩ = some (.slice va data.length vc)) := fun v => (World.cell?_setCell_far _ _ _ _ hBS').trans b2
        have K2 : Hid (∀ u v, ((wc.drew.setCell ⟨S, 9, none⟩ u).setCell ⟨S, 10, none⟩ v).cell? ⟨w.heap.size, 2, none⟩ = some (.slice va data.length vc)) := fun u v => (World.cell?_setCell_far _ _ _ _ hBS').trans ((World.cell?_setCell_far _ _ _ _ hBS').trans b2)
        have K3 : Hid (∀ v, (wc.drew.setCell ⟨S, 10, none⟩ v).cell? ⟨w.heap.size, 2, none⟩ = some (.slice va data.length vc)) := fun v => (World.cell?_setCell_far _ _ _ _ hBS').trans b2
        have HB2 := Lib.hid b2
        go_wp2_with fail
        go_region_held3 (fun w' => w'.cell? ⟨w.heap.size, 2, none⟩ = some (.slice va data.length vc)) (first | exact b2d.out | exact K1.out _ | exact K2.out _ _ | exact K3.out _) (fail)
        have v9 : IntKind.u8.wrap ((data.length : Int).tmod 256) = ((UInt8.ofNat (data.length % 256)).toNat : Int) := by
          have e : (data.length : Int).tmod 256 = ((data.length % 256 : Nat) : Int) := rfl
          rw [e, u8_wrap, Nat.mod_mod]
        have v10 : IntKind.u8.wrap (IntKind.i64.wrap ((data.length : Int) / 256)) = ((UInt8.ofNat (data.length / 256 % 256)).toNat : Int) := by
          have e : (data.length : Int) / 256 = ((data.length / 256 : Nat) : Int) := rfl
          rw [e, IntWalk.i64_in _ (by have := HN.out.2; omega), u8_wrap]
        rw [v9, v10]
        obtain ⟨w10, hw10⟩ : ∃ w10, w10 = ((wc.setCell ⟨S, 9, none⟩ (.int .u8 ((UInt8.ofNat (data.length % 256)).toNat : Int))).setCell ⟨S, 10, none⟩ (.int .u8 ((UInt8.ofNat (data.length / 256 % 256)).toNat : Int))).drew := ⟨_, rfl⟩
        rw [← hw10]
        have hV : Vec w10 1 (.slice (some ⟨S, 0, none⟩) 512 512) 512 (bv (headed n la data.length)) := by
          have h1 := (HC.out.1.set1 (show 9 < 512 by decide) (.int .u8 ((UInt8.ofNat (data.length % 256)).toNat : Int))).set1 (show 10 < 512 by decide) (.int .u8 ((UInt8.ofNat (data.length / 256 % 256)).toNat : Int))
          rw [bv_set, bv_set, headed_is] at h1
          rw [hw10]
          exact h1.drew
        have oS : Only (fun j => j = S) w3 w10 := by
          rw [hw10]
          exact (((HC.out.2).setCell (p := ⟨S, 9, none⟩) rfl _).setCell (p := ⟨S, 10, none⟩) rfl _).drew
        have HV := Lib.hid hV
        have OS := Lib.hid oS
        have CB2 := HCB.out.kept oS fun e => hBS e
        have b3 := CB2.is 2 _ rfl
        have RD := Lib.hid (HR.out.only ((O3.out.trans2 oS fun k hk e => by have := HSE.out.1; omega).drew) fun _ _ _ _ e => e)
        clear hV oS hw10 h9 h10 g9 g10 b2 b2d HB2 CB2 v9 v10
        go_wp2_with fail
        go_still_tail 4, (by kernel_rfl)
        refine wpList_copy_rd rfl _ _ 34 rfl 5 Try.underlying34 info5s S 11 501 501 rfl (.slice va data.length vc) data.length (bv data) rfl RD.out (by have := HN.out.2; omega) (fun j hj => by
          have := HV.out.drew.free0 (k := 11 + j) (by have := HN.out.2; omega)
          exact this) (bv_one data) ?_
        obtain ⟨w11, hw11⟩ : ∃ w11, w11 = w10.drew.setCells S 11 (bv data) := ⟨_, rfl⟩
        have hV11 : Vec w11 1 (.slice (some ⟨S, 0, none⟩) 512 512) 512 (bv (Pc.lay ⟨n, la, data⟩)) := by
          have h1 := HV.out.drew.put (o := 11) (vs := bv data) (by rw [bv_length]; have := HN.out.2; omega)
          rw [Nat.zero_add, bv_length, bv_take', ← headed_data ⟨n, la, data⟩ HN.out.2] at *
          rw [hw11]
          simpa [bv, List.map_append, List.map_take, List.map_drop] using h1
        have o11 : Only (fun j => j = S) w3 w11 := by rw [hw11]; exact OS.out.drew.setCells rfl 11 (bv data)
        have HV11 := Lib.hid hV11
        have O11 := Lib.hid o11
        change wpList _ _ _ _ _ (w10.drew.setCells S 11 (bv data))
        rw [← hw11]
        simp only [Act.put]
        clear hV11 o11 hw11 b3
        go_wp2_with fail
        go_ret
        exact ⟨S, rfl, HV11.out, by have := HSE.out.1; omega, O3.out.trans2 O11.out fun k hk e => by have := HSE.out.1; omega⟩
end Go.Proofs.Yteoeaojebklfjaa
namespace Go.Proofs.Yteoeaojebklfjaa
open Go.RowKit Go.Maps
set_option linter.unusedVariables false

theorem cutN_zero : cutN 0 = 1 := rfl
theorem cutN_full {n : Nat} (h : 0 < n) (hm : n % 501 = 0) : cutN n = n / 501 := by unfold cutN; rw [if_neg (by omega)]; omega
theorem cutN_rest {n : Nat} (hm : n % 501 ≠ 0) : cutN n = n / 501 + 1 := by unfold cutN; rw [if_neg (by omega)]; omega
theorem docpieces_any (n : Nat) (w : World) (h : n ≤ 4611686018427387904) : Calls Try.prog 75 #[.int .i64 (n : Int)] w fun e w' => e = .returned (.int .i64 (cutN n : Int)) ∧ w = w' := by
  by_cases h0 : n = 0
  · subst h0
    go_enter Try.func75, Try.ntmps75
    go_wp2_with fail
    go_ret
    exact ⟨rfl, rfl⟩
  · have d0 : decide ((0 : Int) < (n : Int)) = true := by simp; omega
    have d0' : decide (0 < n) = true := by simp; omega
    have d1 : decide ((n : Int) < 0) = false := by simp
    obtain ⟨r, hr⟩ : ∃ r, r = n % 501 := ⟨_, rfl⟩
    obtain ⟨q, hq⟩ : ∃ q, q = n / 501 := ⟨_, rfl⟩
    have e1 : (n : Int).tmod 501 = (r : Int) := by rw [hr]; rfl
    have e2 : (n : Int) / 501 = (q : Int) := by rw [hq]; rfl
    have e3 : (n : Int).tdiv 501 = (q : Int) := by rw [hq]; rfl
    obtain ⟨q1, hq1⟩ : ∃ q1, q1 = q + 1 := ⟨_, rfl⟩
    have e4 : (q : Int) + 1 = (q1 : Int) := by omega
    have HW := Lib.hid (show wrap64 (q : Int) = (q : Int) ∧ wrap64 (q1 : Int) = (q1 : Int) from ⟨IntWalk.wrap64_in _ (by omega), IntWalk.wrap64_in _ (by omega)⟩)
    by_cases hm : r = 0
    · have hc : cutN n = q := by rw [hq]; exact cutN_full (by omega) (by omega)
      rw [hc]
      subst hm
      clear hr hq hq1 hc h0 h
      obtain ⟨a1, a2⟩ := HW.out
      go_enter Try.func75, Try.ntmps75
      go_wp2_with fail
      go_ret
      refine ⟨?_, rfl⟩
      first | exact congrArg (fun z => Ending.returned (Value.int .i64 z)) a1 | exact congrArg (fun z => Ending.returned (Value.int .i64 z)) a2
    · have hc : cutN n = q1 := by rw [hq1, hq]; exact cutN_rest (by omega)
      rw [hc]
      have d2 : ((r : Int) == 0) = false := by simp; omega
      have d3 : (r == 0) = false := by simpa using hm
      clear hr hq hq1 hc h0 h
      obtain ⟨a1, a2⟩ := HW.out
      go_enter Try.func75, Try.ntmps75
      go_wp2_with fail
      go_ret
      refine ⟨?_, rfl⟩
      first | exact congrArg (fun z => Ending.returned (Value.int .i64 z)) a1 | exact congrArg (fun z => Ending.returned (Value.int .i64 z)) a2

/-- the document's ring in a world: its sectors' row and its numbers -/
abbrev XAt (w : World) (X : Nat) (v : Value) (r : Rg) : Prop := CellsR w X [v, .int .i64 (r.base : Int), .int .i64 (r.last : Int), .int .i64 (r.top : Int)]
section
variable {w : World} {X : Nat} {a : Option Addr} {c : Nat} {r : Rg}
theorem docroom_any (h : XAt w X (.slice a r.count c) r) (hok : r.Ok) : Calls Try.prog 76 #[.pointer (some ⟨X, 0, none⟩)] w fun e w' => e = .returned (.int .i64 (r.room : Int)) ∧ ∃ q, w' = w.drewN q := by
  have c0 := h.is 0 _ rfl
  have c1 := h.is 1 _ rfl
  have c2 := h.is 2 _ rfl
  have c3 := h.is 3 _ rfl
  obtain ⟨k1, k2, k3, k4, k5, k6⟩ := hok
  obtain ⟨cn, hcn⟩ : ∃ cn, cn = r.count := ⟨_, rfl⟩
  obtain ⟨ba, hba⟩ : ∃ ba, ba = r.base := ⟨_, rfl⟩
  obtain ⟨la, hla⟩ : ∃ la, la = r.last := ⟨_, rfl⟩
  obtain ⟨tp, htp⟩ : ∃ tp, tp = r.top := ⟨_, rfl⟩
  have hr : r.room = if la < tp then 0 else cn - (la - ba) := by rw [hcn, hba, hla, htp]; rfl
  rw [hr]
  rw [← hcn] at c0 k1 k2 k5
  rw [← hba] at c1 k3 k5
  rw [← hla] at c2 k3 k4 k5
  rw [← htp] at c3 k4 k6
  by_cases hb : la < tp
  · rw [if_pos hb]
    have d1 : decide (la < tp) = true := by simpa using hb
    clear h hr hcn hba hla htp k1 k2 k3 k4 k5 k6
    go_enter Try.func76, Try.ntmps76
    go_wp2_with fail
    go_quiet (fail)
    go_wp2_with fail
    go_ret
    exact ⟨rfl, nq, rfl⟩
  · rw [if_neg hb]
    have d1 : decide (la < tp) = false := by simpa using hb
    obtain ⟨m, hm⟩ : ∃ m, m = la - ba := ⟨_, rfl⟩
    obtain ⟨z, hz⟩ : ∃ z, z = cn - m := ⟨_, rfl⟩
    have e1 : (la : Int) - (ba : Int) = (m : Int) := by omega
    have e2 : (cn : Int) - (m : Int) = (z : Int) := by omega
    have hz' : cn - (la - ba) = z := by omega
    rw [hz']
    have HW := Lib.hid (show wrap64 (m : Int) = (m : Int) ∧ wrap64 (z : Int) = (z : Int) from ⟨IntWalk.wrap64_in _ (by omega), IntWalk.wrap64_in _ (by omega)⟩)
    have HW2 := Lib.hid (show IntKind.i64.wrap (m : Int) = (m : Int) ∧ IntKind.i64.wrap (z : Int) = (z : Int) from ⟨IntWalk.i64_in _ (by omega), IntWalk.i64_in _ (by omega)⟩)
    clear h hr hcn hba hla htp k1 k2 k3 k4 k5 k6 hm hz hz' hb
    obtain ⟨a1, a2⟩ := HW.out
    obtain ⟨a3, a4⟩ := HW2.out
    go_enter Try.func76, Try.ntmps76
    go_wp2_with fail
    go_quiet (fail)
    go_wp2_with fail
    go_quiet (fail)
    go_wp2_with fail
    go_ret
    exact ⟨rfl, _, World.drewN_drewN _ _ _⟩
set_option maxHeartbeats 1000000 in
theorem docempty_any {v : Value} (h : XAt w X v r) : Calls Try.prog 52 #[.pointer (some ⟨X, 0, none⟩)] w fun e w' => e = .returned (.int .i64 (r.top : Int)) ∧ XAt w' X v r.emptied ∧ Only (fun k => k = X) w w' := by
  have c1 := h.is 1 _ rfl
  have c2 := h.is 2 _ rfl
  have c3 := h.is 3 _ rfl
  have z := h.thaw
  have H := Lib.hid h
  clear h
  go_enter Try.func52, Try.ntmps52
  go_wp2_with fail
  go_region
  go_wp2_with fail
  go_ret
  refine ⟨rfl, ?_, (((Only.refl (fun k => k = X) _).setCell (p := ⟨X, 1, none⟩) rfl _).setCell (p := ⟨X, 2, none⟩) rfl _).drew⟩
  exact ((H.out.set (i := 1) (by simp) _).set (i := 2) (by simp) _).kept ((Only.refl None' _).drew) fun e => e
end
end Go.Proofs.Yteoeaojebklfjaa
namespace Go.Proofs.Yteoeaojebklfjaa
open Go.RowKit Go.Maps
set_option linter.unusedVariables false

theorem mod3000 (x : Int) : ∃ N : Nat, wrap64 ((IntKind.u64.wrap x).tmod 3000) = (N : Int) ∧ N < 3000 := by
  have h0 := u64_nonneg x
  have e : (IntKind.u64.wrap x).tmod 3000 = (IntKind.u64.wrap x) % 3000 := Int.tmod_eq_emod_of_nonneg h0
  have h1 := Int.emod_nonneg (IntKind.u64.wrap x) (show (3000 : Int) ≠ 0 by decide)
  have h2 := Int.emod_lt_of_pos (IntKind.u64.wrap x) (show (0 : Int) < 3000 by decide)
  refine ⟨((IntKind.u64.wrap x) % 3000).toNat, ?_, by omega⟩
  rw [e, IntWalk.wrap64_in _ (by omega)]
  omega
theorem u8_mod' (z : Int) : ∃ b : UInt8, z % 256 = (b.toNat : Int) := by
  have h2 := Int.emod_nonneg z (show (256 : Int) ≠ 0 by decide)
  have h3 := Int.emod_lt_of_pos z (show (0 : Int) < 256 by decide)
  refine ⟨UInt8.ofNat (z % 256).toNat, ?_⟩
  rw [UInt8.toNat_ofNat_of_lt' (by show _ < 256; omega)]
  omega

theorem rd_one1 (w : World) (v : Value) (t : TypeId) : Rd (w.alloc (.cells #[v] t)) 1 (.slice (some ⟨w.heap.size, 0, none⟩) 1 1) 1 [v] := by
  refine ⟨rfl, .inr ⟨_, 1, rfl, Nat.le_refl _, by unfold maxLen; decide, fun j u hu => ?_⟩⟩
  rw [add_mid' (⟨w.heap.size, 0, none⟩) j rfl]
  match j with
  | 0 =>
    simp at hu
    subst hu
    rw [World.cell?_alloc_new]; rfl
  | j + 1 => simp at hu
set_option maxRecDepth 20000 in
theorem record_any (kd : Int) (ln : Int) (wh : Int) (nn : Int) (w : World) : Calls Try.prog 50 #[.agg #[.int .u8 kd, .int .i64 ln, .int .u8 wh, .int .i64 nn]] w fun e w' => ∃ (g : Nat) (s : Rec), e = .returned (.slice (some ⟨g, 0, none⟩) s.length s.length) ∧ s.length < 3000 ∧ Vec w' 1 (.slice (some ⟨g, 0, none⟩) s.length s.length) s.length (bv s) ∧ w.heap.size ≤ g ∧ Only None' w w' := by
  obtain ⟨L, hL, hL2⟩ := mod3000 ln
  obtain ⟨w1, hw1⟩ : ∃ w1, w1 = w.alloc (.cells #[.int .u8 kd, .int .i64 ln, .int .u8 wh, .int .i64 nn] 78) := ⟨_, rfl⟩
  have o1 : Only None' w w1 := by rw [hw1]; exact (Only.refl _ _).alloc _
  have CB : CellsR w1 w.heap.size [.int .u8 kd, .int .i64 ln, .int .u8 wh, .int .i64 nn] := by rw [hw1]; exact cells_new w _ 78
  have hs1 : w1.heap.size = w.heap.size + 1 := by rw [hw1]; simp
  obtain ⟨w4, hm, hV, o4, l4⟩ := make34 L w1 (by omega)
  have e1 := hw1.symm
  have HCB := Lib.hid CB
  have HO := Lib.hid (And.intro o1 (And.intro o4 hs1))
  obtain ⟨B, hB⟩ : ∃ B, B = w1.heap.size := ⟨_, rfl⟩
  rw [← hB] at hm hV
  have HV := Lib.hid hV
  have HB := Lib.hid (show w.heap.size < B by omega)
  have HL2 := Lib.hid hL2
  have b1 := CB.is 1 _ rfl
  clear hw1 o1 CB hs1 hV o4 l4 hB hL2
  go_enter Try.func50, Try.ntmps50
  go_wp2_with fail
  clear hm hL b1 e1
  go_loopw [4] (fun i wx => ∃ (j : Nat) (s : Sec), j ≤ L ∧ i = .int .i64 (j : Int) ∧ s.length = L ∧ Hid (Vec wx 1 (.slice (some ⟨B, 0, none⟩) L L) L (bv s) ∧ Only (fun k => k = B) w4 wx)) (fun i wx => L - (intOf i).toNat)
  case atStart => exact ⟨0, _, by omega, rfl, List.length_replicate, Lib.hid ⟨HV.out, Only.refl _ _⟩⟩
  case round =>
    obtain ⟨j, s, hj, rfl, hs, HJ⟩ := hrel
    by_cases hlt2 : j < L
    · have j0 : (0 : Int) ≤ (j : Int) := by omega
      have j1 : (j : Int) < (L : Int) := by omega
      obtain ⟨f1, f2⟩ := HJ.out.1.free (k := j) (by omega)
      rw [Nat.zero_add] at f1 f2
      obtain ⟨u, hu⟩ := Option.isSome_iff_exists.1 f1
      have CB' := (HCB.out.kept HO.out.2.1 fun e => e).kept HJ.out.2 (by have := HB.out; omega)
      have b2 := CB'.is 2 _ rfl
      clear f1 CB'
      go_wp2_with fail
      obtain ⟨b8, hb8⟩ := u8_mod' (wh + (j : Int))
      rw [hb8]
      refine ⟨⟨j + 1, s.set j b8, by omega, next_int (by have := HL2.out; omega), by rw [List.length_set]; exact hs, Lib.hid ⟨?_, HJ.out.2.trans ((Only.refl (fun k => k = B) wr).setCell (p := ⟨B, j, none⟩) rfl _)⟩⟩, meas hlt2 (by have := HL2.out; omega)⟩
      rw [← bv_set]
      exact HJ.out.1.set1 hlt2 _
    · obtain rfl : j = L := by omega
      have hvx := HJ.out.1
      rw [← hs] at hvx
      have HVX := Lib.hid hvx
      have HLS := Lib.hid hs
      clear hvx
      go_wp2_with fail
      go_ret
      refine ⟨B, s, by rw [HLS.out]; rfl, by rw [HLS.out]; exact HL2.out, HVX.out, by have := HB.out; omega, (HO.out.1.trans HO.out.2.1).trans2 HJ.out.2 fun k hk e => by have := HB.out; omega⟩

set_option maxRecDepth 20000 in
set_option maxHeartbeats 2000000 in
theorem sectors_any {w : World} {D : Nat} {F : Nat → Prop} {d : Dk} (hd : DiskAt w D F d) (hdd : d.dead = false) (hw : d.waits.length ≤ 1000000) {first count : Nat} (h2 : first + count ≤ d.lasts.length) :
    Calls Try.prog 48 #[.pointer (some ⟨D, 0, none⟩), .int .i64 (first : Int), .int .i64 (count : Int)] w fun e w' => ∃ v, e = .returned (.tuple #[v, .bool true]) ∧ Recs w' (fun k => w.heap.size ≤ k) v ((List.range count).map (gAt first d)) ∧ Only None' w w' := by
  have hmany := hd.ok.many
  have HD := Lib.hid hd
  have HDD := Lib.hid (And.intro hdd (And.intro hw h2))
  have HM := Lib.hid (show first + count ≤ 65536 by omega)
  clear hd hdd hw h2 hmany
  go_enter Try.func48, Try.ntmps48
  go_wp2_with fail
  go_loopw [8, 9] (fun p i wr => ∃ (k : Nat) (a : Option Addr) (c : Nat), k ≤ count ∧ p = .slice a k c ∧ i = .int .i64 (k : Int) ∧ Hid (Recs wr (fun k => w.heap.size ≤ k) (.slice a k c) ((List.range k).map (gAt first d)) ∧ Only None' w wr)) (fun p i wr => count - (intOf i).toNat)
  case atStart => exact ⟨0, none, 0, by omega, rfl, rfl, Lib.hid ⟨Recs.nil _ _, Only.refl _ _⟩⟩
  case round =>
    obtain ⟨k, a, c, hk, rfl, rfl, HL⟩ := hrel
    by_cases hlt : k < count
    · have hi : first + k < d.lasts.length := by have := HDD.out.2.2; omega
      have HR := Lib.hid (read_any (HD.out.new HL.out.2) HDD.out.1 hi HDD.out.2.1)
      have HS := Lib.hid (Dk.read_length HD.out.ok hi)
      obtain ⟨fk, hfk⟩ : ∃ fk, fk = first + k := ⟨_, rfl⟩
      have e1 : (first : Int) + (k : Int) = (fk : Int) := by omega
      have HW := Lib.hid (show wrap64 (fk : Int) = (fk : Int) from IntWalk.wrap64_in _ (by have := HM.out; omega))
      have HFK := Lib.hid hfk
      rw [← hfk] at HR HS
      have a1 := HW.out
      clear hi hfk
      go_wp2_with fail
      refine HR.out.mono ?_
      rintro r w1 ⟨v, rfl, hv, hge, ho⟩
      obtain ⟨g, off, cp, rfl, _⟩ := hv.at_ (by decide)
      have HV := Lib.hid (And.intro hv (And.intro (hge g rfl) ho))
      obtain ⟨own, xs, hx, hrow⟩ := HL.out.1.only ho fun _ _ e => e
      have hlx : xs.length = k := by have := hx.len; simp at this; omega
      have hx' : Vec w1 1 (.slice a k c) k xs := by have := hx; simpa using this
      have HX := Lib.hid hx'
      have HROW := Lib.hid (And.intro own (And.intro hrow hlx))
      have HSZ := Lib.hid (show k + 1 ≤ maxLen ∧ (k + 1) * 24 ≤ 140737488355328 from ⟨by have := HM.out; unfold maxLen; omega, by have := HM.out; omega⟩)
      clear hv hge ho own hx hrow hlx hx' a1 e1
      go_wp2_with (first | (at_builtin; refine wpList_append_any rfl _ _ 64 rfl 34 Try.t34 (.slice none 0 0) 1 24 Try.underlying64 info34 t34_zero t34_size t34_bytes rfl (by decide) (.slice a k c) k xs rfl (HX.out.alloc _) (.slice (some ⟨w1.heap.size, 0, none⟩) 1 1) 1 [.slice (some ⟨g, off, none⟩) 512 cp] rfl (rd_one1 w1 _ 34) (one_slice _ _ _) HSZ.out.1 HSZ.out.2 ?_; intro v2 w8 hv2 hg2 hf2; obtain ⟨oa2, oc2, rfl, _, _⟩ := hv2.shape; have HY := Lib.hid (And.intro hv2 (And.intro hg2 hf2)); clear hv2 hg2 hf2))
      go_roundw
      case rel =>
        refine ⟨k + 1, oa2, oc2, by omega, rfl, next_int (by have := HM.out; omega), Lib.hid ⟨?_, ?_⟩⟩
        · obtain ⟨own, hrow, hlx⟩ := HROW.out
          obtain ⟨hv, hgk, ho⟩ := HV.out
          have hsz := HL.out.2.size
          have hsz2 := ho.size
          have e : (List.range (k + 1)).map (gAt first d) = (List.range k).map (gAt first d) ++ [gAt first d k] := by rw [List.range_succ, List.map_append]; rfl
          rw [e]
          have hlk : ((List.range k).map (gAt first d)).length = k := by simp
          have hgv : (gAt first d k).length = 512 := by have := HS.out; rw [HFK.out] at this; exact this
          have hsa : (w1.alloc (.cells #[.slice (some ⟨g, off, none⟩) 512 cp] 34)).heap.size = w1.heap.size + 1 := by simp
          refine Recs.push (w := w1.alloc (.cells #[.slice (some ⟨g, off, none⟩) 512 cp] 34)) (x := .slice (some ⟨g, off, none⟩) 512 cp) (xs := xs) own (fun i hi => ?_) (by rw [hlk]; exact HY.out.1) (by rw [hlk]; exact hlx) HY.out.2.1 HY.out.2.2 (by rw [hgv]; have := hv.alloc (.cells #[.slice (some ⟨g, off, none⟩) 512 cp] 34); rw [HFK.out] at this; exact this) (fun j hj => ?_) (fun j hj => by omega)
          · obtain ⟨x, a1, b1, c1⟩ := hrow i hi
            exact ⟨x, a1, b1.alloc _, c1⟩
          · injection hj with hj
            have hj : g = j := hj
            subst hj
            refine ⟨by omega, fun e2 => ?_⟩
            have h5 := HL.out.1.rows
            obtain ⟨ys, hy, _⟩ := h5
            have := hy.lt e2
            omega
        · exact (HL.out.2.trans HV.out.2.2).trans2 (((Only.refl None' w1).alloc (.cells #[.slice (some ⟨g, off, none⟩) 512 cp] 34)).mono (S' := fun j => (Value.slice a k c).ownBlock = some j) (fun _ _ e => e.elim) |>.trans ((Only.refl _ _).grown HY.out.2.1 fun j hj => hj)) fun j hj e => by
            have := HROW.out.1 j e
            omega
      case measure => exact meas hlt (by have := HM.out; omega)
    · obtain rfl : k = count := by omega
      go_wp2_with fail
      go_ret2
      exact ⟨_, rfl, HL.out.1, HL.out.2⟩

set_option maxRecDepth 20000 in
set_option maxHeartbeats 2000000 in
theorem told_any {w : World} {R D X : Nat} {a : Option Addr} {c : Nat} {r : Rg} (h : RingAt w R D r) (hx : XAt w X (.slice a r.count c) r) (hok : r.Ok) : Calls Try.prog 54 #[.pointer (some ⟨R, 0, none⟩), .pointer (some ⟨X, 0, none⟩)] w fun e w' => e = .returned (.bool true) ∧ ∃ q, w' = w.drewN q := by
  have B46 : ∀ q, Calls Try.prog 46 #[.pointer (some ⟨R, 0, none⟩)] (w.drewN q) fun e w' => e = .returned (.int .i64 (r.base : Int)) ∧ w' = w.drewN q := fun q => base_any (CellsR.kept h ((Only.refl None' _).drewN q) fun e => e)
  have B43 : ∀ q, Calls Try.prog 43 #[.pointer (some ⟨R, 0, none⟩)] (w.drewN q) fun e w' => e = .returned (.int .i64 (r.last : Int)) ∧ w' = w.drewN q := fun q => rlast_any (CellsR.kept h ((Only.refl None' _).drewN q) fun e => e)
  have B47 : ∀ q, Calls Try.prog 47 #[.pointer (some ⟨R, 0, none⟩)] (w.drewN q) fun e w' => e = .returned (.int .i64 (r.top : Int)) ∧ w' = w.drewN q := fun q => top_any (CellsR.kept h ((Only.refl None' _).drewN q) fun e => e)
  have B39 : ∀ q, Calls Try.prog 39 #[.pointer (some ⟨R, 0, none⟩)] (w.drewN q) fun e w' => e = .returned (.int .i64 (r.room : Int)) ∧ ∃ m, w' = (w.drewN q).drewN m := fun q => room_any (CellsR.kept h ((Only.refl None' _).drewN q) fun e => e) hok
  have B76 : ∀ q, Calls Try.prog 76 #[.pointer (some ⟨X, 0, none⟩)] (w.drewN q) fun e w' => e = .returned (.int .i64 (r.room : Int)) ∧ ∃ m, w' = (w.drewN q).drewN m := fun q => docroom_any (CellsR.kept hx ((Only.refl None' _).drewN q) fun e => e) hok
  have H46 := Lib.hid B46
  have H43 := Lib.hid B43
  have H47 := Lib.hid B47
  have H39 := Lib.hid B39
  have H76 := Lib.hid B76
  have c1 := hx.is 1 _ rfl
  have c2 := hx.is 2 _ rfl
  have c3 := hx.is 3 _ rfl
  clear h hx hok B46 B43 B47 B39 B76
  go_enter Try.func54, Try.ntmps54
  go_wp2_with fail
  go_quiet ((first | (go_at_call 46; exact Calls.quiet_of_same (H46.out _)) | (go_at_call 43; exact Calls.quiet_of_same (H43.out _)) | (go_at_call 47; exact Calls.quiet_of_same (H47.out _)) | (go_at_call 39; exact Calls.quiet_of (H39.out _)) | (go_at_call 76; exact Calls.quiet_of (H76.out _))))
  go_wp2_with fail
  go_ret
  exact ⟨rfl, nq, rfl⟩
end Go.Proofs.Yteoeaojebklfjaa
namespace Go.Proofs.Yteoeaojebklfjaa
open Go.RowKit Go.Maps
set_option linter.unusedVariables false

/-- a ring's sectors, as a list -/
def secs (count : Nat) (g : Nat → Sec) : List Sec := (List.range count).map g
theorem secs_length (count : Nat) (g : Nat → Sec) : (secs count g).length = count := by simp [secs]
theorem secs_at {count : Nat} {g : Nat → Sec} {i : Nat} (h : i < (secs count g).length) : (secs count g)[i] = g i := by simp [secs]
theorem secs_set {count : Nat} {g : Nat → Sec} {i : Nat} (s : Sec) : (secs count g).set i s = secs count (setG g i s) := by
  refine List.ext_getElem (by simp [secs]) fun k h1 h2 => ?_
  rw [List.getElem_set, secs_at, secs_at]
  unfold setG
  by_cases e : i = k
  · rw [if_pos e, if_pos e.symm]
  · rw [if_neg e, if_neg fun h => e h.symm]
/-- sectors, as a function -/
def ofL (ss : List Sec) : Nat → Sec := fun i => ss.getD i []
theorem ofL_at {ss : List Sec} {i : Nat} (h : i < ss.length) : ofL ss i = ss[i] := by unfold ofL; rw [List.getD_eq_getElem?_getD, List.getElem?_eq_getElem h]; rfl
theorem secs_ofL (ss : List Sec) : secs ss.length (ofL ss) = ss := by
  refine List.ext_getElem (by simp [secs]) fun k h1 h2 => ?_
  rw [secs_at]
  exact ofL_at h2
/-- pieces, written one by one -/
def layG (count : Nat) : List Pc → (Nat → Sec) → Nat → Sec
  | [], g => g
  | p :: ps, g => layG count ps (setG g (p.n % count) p.lay)
theorem layG_snoc {count : Nat} {p : Pc} : ∀ (ps : List Pc) (g : Nat → Sec), layG count (ps ++ [p]) g = setG (layG count ps g) (p.n % count) p.lay
  | [], g => rfl
  | q :: ps, g => layG_snoc ps _
theorem puts_lay {r : Rg} {len : Nat} : ∀ (ps : List Pc) (d d' : Dk) (n : Nat), d.Calm len n → Dk.puts r.place ps d = (d', true) → gOf r d' = layG r.count ps (gOf r d)
  | [], d, d', n, h, e => by
    injection e with e
    subst e
    rfl
  | p :: ps, d, d', n, h, e => by
    obtain ⟨e1, h1⟩ := h.write (r.place p.n) p.lay
    unfold Dk.puts at e
    rw [h.due] at e
    have h2 := puts_lay ps _ d' (n + 1) h1 e
    rw [h2]
    have e3 : gOf r (d.write (r.place p.n) p.lay) = setG (gOf r d) (p.n % r.count) p.lay := by
      funext i
      rw [e1, gOf_wrote]
    rw [e3]
    rfl
theorem gOf_gAt (r : Rg) (d : Dk) : gOf r d = gAt r.first d := rfl
theorem cutR_take (l : Nat) (rec : Rec) {k : Nat} (h : k < cutN rec.length) : (cutR l rec).take (k + 1) = (cutR l rec).take k ++ [cutAt l rec k] := by
  have hk : k < (cutR l rec).length := by rw [cutR_length]; exact h
  rw [List.take_succ_eq_append_getElem hk, cutR_at]

/-! ### a flush keeps what is read -/
theorem settle_all (i : Nat) : ∀ (ws : List (Nat × Sec)) (k : Nat) (L : List Sec), (∀ p ∈ ws, p.1 < L.length) → (settle (fun _ => true) k ws L).getD i [] = match lastIx ws i with
    | some j => (ws.getD j (0, [])).2
    | none => L.getD i []
  | [], k, L, _ => rfl
  | p :: r, k, L, h => by
    rw [settle, if_pos rfl, settle_all i r (k + 1) _ (fun q hq => by rw [List.length_set]; exact h q (by simp [hq])), lastIx]
    cases hl : lastIx r i with
    | some j => simp
    | none =>
      simp only
      by_cases e : p.1 = i
      · subst e
        rw [if_pos rfl]
        simp [List.getD_eq_getElem?_getD, List.getElem?_set_self (h p (by simp))]
      · rw [if_neg e]
        simp [List.getD_eq_getElem?_getD, List.getElem?_set_ne e]
theorem Dk.read_flushed {d : Dk} (ok : d.Ok) (i : Nat) : d.flushed.read i = d.read i := by
  unfold Dk.flushed Dk.settled Dk.read
  simp only [lastIx]
  exact settle_all i d.waits 0 d.lasts fun p hp => (ok.waits p hp).1
theorem Dk.Calm.flush {d : Dk} {len n : Nat} (h : d.Calm len n) : d.flush = d.tick.flushed ∧ d.flush.Calm len (n + 1) ∧ d.flush.waits.length = 0 := by
  have e : d.flush = d.tick.flushed := by unfold Dk.flush; rw [h.due]; rfl
  have hf := h.few.flush
  rw [e] at hf ⊢
  refine ⟨rfl, ⟨h.dead, h.set, ?_, hf⟩, rfl⟩
  show (settle _ 0 d.waits d.lasts).length = len
  rw [settle_length]
  exact h.len

theorem Vec.set1o {w : World} {n g off cap : Nat} {xs : List Value} (h : Vec w 1 (.slice (some ⟨g, off, none⟩) n cap) n xs) {k : Nat} (hk : k < n) (v : Value) : Vec (w.setCell ⟨g, off + k, none⟩ v) 1 (.slice (some ⟨g, off, none⟩) n cap) n (xs.set k v) := by
  have h1 := h.put (o := k) (vs := [v]) (by simp; omega)
  have hl := h.len
  rw [List.length_singleton] at h1
  rw [List.set_eq_take_append_cons_drop, if_pos (by omega)]
  simpa [World.setCells] using h1
theorem Recs.put {w : World} {P : Nat → Prop} {g off c : Nat} {rs : List Rec} {i : Nat} (h : Recs w P (.slice (some ⟨g, off, none⟩) rs.length c) rs) (hi : i < rs.length) {x : Value} {s : Rec} (hx : Vec w 1 x s.length (bv s)) (hp : ∀ k, x.ownBlock = some k → P k ∧ k ≠ g) :
    Recs (w.setCell ⟨g, off + i, none⟩ x) P (.slice (some ⟨g, off, none⟩) rs.length c) (rs.set i s) := by
  obtain ⟨h1, xs, h2, h3⟩ := h
  have hl : xs.length = rs.length := by have := h2.len; omega
  have o : Only (fun k => k = g) w (w.setCell ⟨g, off + i, none⟩ x) := (Only.refl (fun k => k = g) w).setCell (p := ⟨g, off + i, none⟩) rfl _
  refine ⟨h1, xs.set i x, by rw [List.length_set]; exact h2.set1o hi x, fun j hj => ?_⟩
  rw [List.length_set] at hj
  by_cases e : i = j
  · subst e
    refine ⟨x, by rw [List.getElem?_set_self (by omega)], ?_, fun k hk => ⟨(hp k hk).1, fun e => ?_⟩⟩
    · rw [List.getElem_set_self]
      exact hx.only o fun k hk e => (hp k hk).2 e
    · injection e with e
      exact (hp k hk).2 e.symm
  · obtain ⟨y, a, b, c⟩ := h3 j hj
    refine ⟨y, by rw [List.getElem?_set_ne e]; exact a, ?_, c⟩
    rw [List.getElem_set_ne e]
    exact b.only o fun k hk e => (c k hk).2 (by rw [e]; rfl)

section
variable {w0 w w' : World} {R D : Nat} {F : Nat → Prop} {r : Rg} {d : Dk} {len n : Nat}
/-- an append, and the sectors behind it -/
theorem Rk.appends (h : Rk w0 w R D F r d len n) (hn : n ≤ 800000) {g off c m : Nat} {rec : Rec} (hm : rec.length = m) (hr : Rd w 1 (.slice (some ⟨g, off, none⟩) m c) rec.length (bv rec)) (hc : m ≤ c) (hcm : c ≤ maxLen) (hgF : ¬ F g) (hgl : g < w.heap.size) (hgR : g ≠ R) (hb : m ≤ 140737488355328) :
    Calls Try.prog 40 #[.pointer (some ⟨R, 0, none⟩), .slice (some ⟨g, off, none⟩) m c] w fun e w' => ∃ code r' d' F', e = .returned (.int .i64 code) ∧ Rk w0 w' R D F' r' d' len (n + r.count) ∧ Kept (fun k => F k ∨ k = R) (fun k => F' k ∨ k = R) w w' ∧
      ((refuse r (cutN m) = some code ∧ r' = r ∧ d' = d) ∨ (refuse r (cutN m) = none ∧ code = 0 ∧ r' = { r with last := r.last + cutN m, top := r.last + cutN m } ∧ gOf r d' = layG r.count (cutR r.last rec) (gOf r d))) := by
  subst hm
  cases hf : refuse r (cutN rec.length) with
  | some cd =>
    refine (append_no h.ring h.ok h.dsk.at_ h.calm.dead _ _ _ hb hf).mono ?_
    rintro e w' ⟨rfl, q, rfl⟩
    exact ⟨cd, r, d, F, rfl, (h.only ((Only.refl None' w).drewN q)).few (by omega), Kept.new ((Only.refl None' w).drewN q), Or.inl ⟨rfl, rfl, rfl⟩⟩
  | none =>
    obtain ⟨d2, hd1, hd2⟩ := puts_live r.place (cutR r.last rec) d n h.calm
    have hap := app_free hf hd1
    have hcut := (refuse_room h.ok hf).1
    refine (append_go h.ring h.ok h.dsk.at_ h.calm.dead (by rw [h.calm.len]; exact h.fit) h.calm.few (by omega) h.apart hr hc hcm hgF hgl hgR hb hf).mono ?_
    rintro e w' ⟨rfl, F', hR', hD', hnR, hk⟩
    rw [hap] at hR' hD' ⊢
    refine ⟨0, _, d2, F', rfl, ⟨hR', ⟨hD', fun k hk' => ?_, ?_⟩, ⟨hd2.dead, hd2.set, hd2.len, hd2.few.mono ?_⟩, grown_ok h.ok hf, h.new, hnR, h.fit⟩, hk, Or.inr ⟨rfl, rfl, rfl, puts_lay _ _ _ _ h.calm hd1⟩⟩
    · rcases hk.fresh k (Or.inl hk') with (h1 | h1) | h1
      · exact h.dsk.fresh k h1
      · rw [h1]; exact h.new
      · exact Nat.le_trans h.dsk.only.size h1
    · exact h.dsk.only.cons_new hk.only fun i hi => hi.elim (h.dsk.fresh i) fun e => e ▸ h.new
    · rw [cutR_length]; omega
end
end Go.Proofs.Yteoeaojebklfjaa
