/- A piece's sector: the walk. -/
import Derived.Test.YteoeaojebklfjaaH0
import Derived.Test.YteoeaojebklfjaaH1
import Derived.Deep.RegionHeld3
namespace Go.Proofs.Yteoeaojebklfjaa
open Go.RowKit Go.Maps
set_option linter.unusedVariables false

theorem zero124 : Try.zeroCells124 = Array.replicate 512 (.int .u8 0) := by kernel_rfl
theorem info124 : Try.prog.info? 124 = some Try.t124 := by kernel_rfl
theorem t124_size : Try.t124.size = 512 := by kernel_rfl
theorem size124 (s : Sec) (h : s.length = 512) : (Try.prog.info? 124).map (·.size) = some (bv s).length := by
  rw [info124, bv_length, h]; exact congrArg some t124_size
theorem size124a (s : Sec) (h : s.length = 512) : (Try.prog.info? 124).map (·.size) = some (bv s).toArray.size := by
  rw [size124 s h]; simp
theorem zsize124 : Try.zeroCells124.size = 512 := by kernel_rfl

/-- a fresh array of zeros, as a row -/
theorem array_row (w : World) : Vec (w.alloc (.cells Try.zeroCells124 124)) 1 (.slice (some ⟨w.heap.size, 0, none⟩) 512 512) 512 (bv zs) := by
  refine ⟨by rw [zs_bv, List.length_replicate], .inr ⟨w.heap.size, 0, 512, rfl, Nat.le_refl _, by unfold maxLen; decide, by simp, fun j u hu => ?_, fun j hj => ?_⟩⟩
  · rw [Nat.zero_add, World.cell?_alloc_new, zero124]
    rw [zs_bv] at hu
    rw [Array.getElem?_replicate]
    rw [List.getElem?_replicate] at hu
    exact hu
  · rw [Nat.zero_add, World.cell?_alloc_new, zero124]
    exact ⟨by simp; omega, World.frozen?_alloc_new _ _ _ _⟩

/-- the sector when so many bytes of the number are there -/
def numbered (n i : Nat) : Sec := (List.range i).map (byteAt n) ++ List.replicate (512 - i) 0
theorem numbered_length (n i : Nat) (h : i ≤ 512) : (numbered n i).length = 512 := by simp [numbered]; omega
theorem numbered_zero (n : Nat) : numbered n 0 = zs := by unfold numbered zs; rfl
theorem numbered_next (n i : Nat) (h : i < 512) : (numbered n i).set i (byteAt n i) = numbered n (i + 1) := by
  unfold numbered
  rw [List.set_append_right _ _ (by simp), List.length_map, List.length_range, Nat.sub_self]
  obtain ⟨m, hm⟩ : ∃ m, 512 - i = m + 1 := ⟨511 - i, by omega⟩
  rw [hm, List.replicate_succ, List.set_cons_zero, List.range_succ, List.map_append, List.append_assoc, show 512 - (i + 1) = m by omega]
  rfl
theorem bv_take' (s : Sec) (m : Nat) : (bv s).take m = bv (s.take m) := by simp [bv, List.map_take]
theorem bv_set (s : Sec) (i : Nat) (c : UInt8) : (bv s).set i (.int .u8 (c.toNat : Int)) = bv (s.set i c) := by simp [bv, List.map_set]

section
variable {P : Program}
theorem wpList_copy_rd {w : World} {ops : Array Oper} {rest : List Oper} {o : Oper} {a : Act} {Q : Exit → Act → World → Prop} (hgd : o.guard = none) (d s : Operand) (t : TypeId)
    (ho : o.op = .call { callee := .builtin .copy, args := #[d, s], argTypes := #[t, t] }) (e : TypeId) (ht : P.underlying t = some (.slice e)) (hs1 : (P.info? e).map (·.size) = some 1)
    (g off dLen dCap : Nat) (hd : a.eval d = .slice (some ⟨g, off, none⟩) dLen dCap) (v : Value) (n : Nat) (xs : List Value) (hx : a.eval s = v) (hr : Rd w 1 v n xs) (hn : n ≤ dLen)
    (hc : ∀ j, j < n → (w.cell? ⟨g, off + j, none⟩).isSome = true ∧ w.frozen? ⟨g, off + j, none⟩ = false) (h1 : ∀ u ∈ xs, u.oneCell' = true)
    (h : wpList P ops Q rest (a.put o.dst (goInt n)) (w.setCells g off xs)) : wpList P ops Q (o :: rest) a w := by
  have hl : xs.length = n := by rw [hr.len, Nat.mul_one]
  have hrun : (Builtin.copy_ #[t, t] o.type #[.slice (some ⟨g, off, none⟩) dLen dCap, v]).run P w = .ok (goInt n) (w.setCells g off xs) := by
    rcases hr.form with ⟨rfl, rfl⟩ | ⟨ad, c, rfl, _, _, hsrc⟩
    · have hx : xs = [] := List.eq_nil_of_length_eq_zero hl
      subst hx
      exact run_copy_none w t t o.type e _ _ _ _ _ _ ht hs1 (Nat.zero_min _)
    · have := run_copy_cells (P := P) w t t o.type e g off dLen dCap ad n c xs ht hs1 (by rw [hl]; exact (Nat.min_eq_left hn).symm) hsrc (fun j hj => (hc j (by omega)).1) (fun j hj => (hc j (by omega)).2) h1
      rw [hl] at this
      exact this
  refine wpList_plain hgd fun K hK => ?_
  unfold Oper.wp execOp
  simp only [ho, resolve, invoke, builtin, Sem.run_bind, Sem.run_pure, Result.andThen_ok, List.map_toArray, List.map_cons, List.map_nil, hd, hx, hrun]
  exact hK _ _ h
end

theorem byte_val (n k : Nat) : ((n : Int) / 2 ^ (8 * k) % 256) = ((byteAt n k).toNat : Int) := by
  have h : ((256 ^ k : Nat) : Int) = (2 : Int) ^ (8 * k) := by
    rw [show (256 : Nat) = 2 ^ 8 from rfl, ← Nat.pow_mul, Int.natCast_pow]; rfl
  rw [byteAt_toNat, ← h]
  rfl
theorem info5s : (Try.prog.info? 5).map (·.size) = some 1 := by kernel_rfl

/-- the sector with its number, its flag and its size -/
def headed (n : Nat) (la : Bool) (m : Nat) : Sec := le8 n ++ [flag la, UInt8.ofNat (m % 256), UInt8.ofNat (m / 256 % 256)] ++ List.replicate 501 0

theorem u8_wrap (m : Nat) : IntKind.u8.wrap (m : Int) = ((UInt8.ofNat (m % 256)).toNat : Int) := by
  rw [UInt8.toNat_ofNat_of_lt' (by show _ < 256; omega)]
  unfold IntKind.wrap
  simp only [IntKind.signed, Bool.false_and, if_false]
  rfl
theorem results_cell_mid {P : Program} {fn : Func} {p : Tmp} {ty : TypeId} (h : fn.results = #[.cell p ty]) (tmps : Array Value) (w : World) (g : Nat) (cs : List Value) (d : TypeDesc)
    (hp : tmps.getD p undef = .pointer (some ⟨g, 0, none⟩)) (hc : w.rangeAt g 0 cs) (hu : P.underlying ty = some d) (hd : d.isRow = true) (hi : (P.info? ty).map (·.size) = some cs.length) :
    (results fn tmps).run P w = .ok (.agg cs.toArray) w := by
  have hp' : tmps[p]?.getD undef = .pointer (some ⟨g, 0, none⟩) := by simpa using hp
  simp [results, h, hp', asAddr, run_loadVar_mid w g 0 ty cs d hc hu hd hi]
theorem headed_length (n : Nat) (la : Bool) (m : Nat) : (headed n la m).length = 512 := by
  simp only [headed, List.length_append, le8_length, List.length_cons, List.length_nil, List.length_replicate]
theorem headed_is (n : Nat) (la : Bool) (m : Nat) : (((numbered n 8).set 8 (flag la)).set 9 (UInt8.ofNat (m % 256))).set 10 (UInt8.ofNat (m / 256 % 256)) = headed n la m := by
  have e : numbered n 8 = le8 n ++ List.replicate 504 0 := rfl
  rw [e, List.set_append_right _ _ (by rw [le8_length]; decide), le8_length, List.set_append_right _ _ (by rw [le8_length]; decide), le8_length, List.set_append_right _ _ (by rw [le8_length]; decide), le8_length]
  rw [show (504 : Nat) = 501 + 1 + 1 + 1 from rfl, List.replicate_succ, List.replicate_succ, List.replicate_succ]
  simp only [headed, Nat.sub_self, List.set_cons_zero, List.append_assoc, List.cons_append, List.nil_append]
  rfl
theorem numbered_eight (n : Nat) : (numbered n 8).set 8 (flag false) = numbered n 8 := by
  have e : numbered n 8 = le8 n ++ List.replicate 504 0 := rfl
  rw [e, List.set_append_right _ _ (by rw [le8_length]; exact Nat.le_refl _), le8_length, show (504 : Nat) = 503 + 1 from rfl, List.replicate_succ]
  rfl
theorem headed_data (p : Pc) (h : p.data.length ≤ 501) : (headed p.n p.last p.data.length).take 11 ++ p.data ++ (headed p.n p.last p.data.length).drop (11 + p.data.length) = p.lay := by
  have hl : (le8 p.n ++ [flag p.last, UInt8.ofNat (p.data.length % 256), UInt8.ofNat (p.data.length / 256 % 256)]).length = 11 := by simp [le8_length]
  unfold headed Pc.lay
  rw [List.take_left' hl, List.drop_append, hl, List.drop_eq_nil_of_le (by rw [hl]; omega), List.nil_append, show 11 + p.data.length - 11 = p.data.length by omega, List.drop_replicate]

set_option maxRecDepth 20000 in
set_option maxHeartbeats 2000000 in
theorem sector_any (w : World) (p : Pc) (hn : p.n ≤ 4611686018427387904) (hd : p.data.length ≤ 501) (v : Value) (hr : Rd w 1 v p.data.length (bv p.data)) :
    Calls Try.prog 72 #[.agg #[.int .i64 (p.n : Int), .bool p.last, v]] w fun r w' => r = .returned (.agg (bv p.lay).toArray) ∧ Only None' w w' := by
  obtain ⟨n, la, data⟩ := p
  obtain ⟨va, vn, vc, rfl⟩ := hr.shape'
  have hvn : vn = data.length := by
    obtain ⟨a, c, e⟩ := hr.shape
    injection e
  subst hvn
  simp only at hn hd
  have HR := Lib.hid hr
  have HN := Lib.hid (And.intro hn hd)
  clear hr hn hd
  go_enter Try.func72, Try.ntmps72
  go_wp2_with fail
  obtain ⟨w3, hw3⟩ : ∃ w3, w3 = ((w.alloc (.cells #[.int .i64 (n : Int), .bool la, .slice va data.length vc] 119)).alloc (.cells Try.zeroCells124 124)).alloc (.cells Try.zeroCells124 124) := ⟨_, rfl⟩
  rw [← hw3]
  have hs2 : ((w.alloc (.cells #[.int .i64 (n : Int), .bool la, .slice va data.length vc] 119)).alloc (.cells Try.zeroCells124 124)).heap.size = w.heap.size + 1 + 1 := by simp
  have hS := array_row ((w.alloc (.cells #[.int .i64 (n : Int), .bool la, .slice va data.length vc] 119)).alloc (.cells Try.zeroCells124 124))
  rw [← hw3, hs2] at hS
  have hT := (array_row (w.alloc (.cells #[.int .i64 (n : Int), .bool la, .slice va data.length vc] 119))).alloc (.cells Try.zeroCells124 124)
  rw [← hw3, show (w.alloc (.cells #[.int .i64 (n : Int), .bool la, .slice va data.length vc] 119)).heap.size = w.heap.size + 1 by simp] at hT
  have o3 : Only None' w w3 := by rw [hw3]; exact (((Only.refl _ _).alloc _).alloc _).alloc _
  have CB : CellsR w3 w.heap.size [.int .i64 (n : Int), .bool la, .slice va data.length vc] := by
    rw [hw3]
    have c0 : CellsR (w.alloc (.cells #[.int .i64 (n : Int), .bool la, .slice va data.length vc] 119)) w.heap.size [.int .i64 (n : Int), .bool la, .slice va data.length vc] :=
      ⟨fun i u hu => by rw [World.cell?_alloc_new]; simpa using hu, fun i => World.frozen?_alloc_new _ _ _ _, by simp⟩
    exact (c0.kept ((Only.refl None' _).alloc _) fun e => e).kept ((Only.refl None' _).alloc _) fun e => e
  have hs3 : w3.heap.size = w.heap.size + 1 + 1 + 1 := by rw [hw3]; simp
  clear hw3 hs2
  obtain ⟨S, hSe⟩ : ∃ S, S = w.heap.size + 1 + 1 := ⟨_, rfl⟩
  rw [← hSe] at hS ⊢
  have HS := Lib.hid hS
  have HT := Lib.hid hT
  have O3 := Lib.hid o3
  have HCB := Lib.hid CB
  have HSE := Lib.hid (And.intro hSe hs3)
  clear hS hT o3 CB hSe hs3
  go_loopw [5] (fun i wr => ∃ k : Nat, k ≤ 8 ∧ i = .int .i64 (k : Int) ∧ Hid (Vec wr 1 (.slice (some ⟨S, 0, none⟩) 512 512) 512 (bv (numbered n k)) ∧ Only (fun j => j = S) w3 wr)) (fun i wr => 8 - (intOf i).toNat)
  case atStart => exact ⟨0, by omega, rfl, Lib.hid ⟨by rw [numbered_zero]; exact HS.out, Only.refl _ _⟩⟩
  case round =>
    obtain ⟨k, hk, rfl, HL⟩ := hrel
    have hBS : w.heap.size ≠ S := by have := HSE.out.1; omega
    have CB := HCB.out.kept HL.out.2 fun e => hBS e
    have b0 := CB.is 0 _ rfl
    have b1 := CB.is 1 _ rfl
    have b2 := CB.is 2 _ rfl
    clear CB
    by_cases hlt : k < 8
    · have i0 : (0 : Int) ≤ (k : Int) := by omega
      have i1 : (k : Int) < 8 := by omega
      have i2 : (k : Int) < 512 := by omega
      obtain ⟨f1, f2⟩ := HL.out.1.free0 (k := k) (by omega)
      obtain ⟨u, hu⟩ := Option.isSome_iff_exists.1 f1
      clear f1
      go_wp2_with fail
      go_roundw
      case rel =>
        refine ⟨k + 1, by omega, by go_num, Lib.hid ⟨?_, HL.out.2.trans ((Only.refl (fun j => j = S) wr).setCell (p := ⟨S, k, none⟩) rfl _)⟩⟩
        have := HL.out.1.set1 (show k < 512 by omega) (.int .u8 ((byteAt n k).toNat : Int))
        rw [bv_set, numbered_next n k (by omega)] at this
        rw [byte_val]
        exact this
      case measure => simp [intOf]; omega
    · obtain rfl : k = 8 := by omega
      have f8 := HL.out.1.free0 (k := 8) (by decide)
      have f9 := HL.out.1.free0 (k := 9) (by decide)
      have f10 := HL.out.1.free0 (k := 10) (by decide)
      obtain ⟨u8, h8⟩ := Option.isSome_iff_exists.1 f8.1
      obtain ⟨u9, h9⟩ := Option.isSome_iff_exists.1 f9.1
      obtain ⟨u10, h10⟩ := Option.isSome_iff_exists.1 f10.1
      have g8 := f8.2
      have g9 := f9.2
      have g10 := f10.2
      clear f8 f9 f10
      go_upto_if 18 with fail
      go_cut [] from 19 to 19 (fun wx => Hid (Vec wx 1 (.slice (some ⟨S, 0, none⟩) 512 512) 512 (bv ((numbered n 8).set 8 (flag la))) ∧ Only (fun j => j = S) w3 wx))
      case first =>
        cases la
        · go_wp2_with fail
          go_meet
          exact Lib.hid ⟨by rw [numbered_eight]; exact HL.out.1, HL.out.2⟩
        · go_wp2_with fail
          go_meet
          have := HL.out.1.set1 (show 8 < 512 by decide) (.int .u8 ((flag true).toNat : Int))
          rw [bv_set] at this
          exact Lib.hid ⟨this, HL.out.2.trans ((Only.refl (fun j => j = S) wr).setCell (p := ⟨S, 8, none⟩) rfl _)⟩
      case rest =>
        have HC := hcut
        clear hcut h8 h9 h10 g8 g9 g10 b0 b1 b2
        have CB := HCB.out.kept HC.out.2 fun e => hBS e
        have b2 := CB.is 2 _ rfl
        have f9 := HC.out.1.free0 (k := 9) (by decide)
        have f10 := HC.out.1.free0 (k := 10) (by decide)
        obtain ⟨u9', h9⟩ := Option.isSome_iff_exists.1 f9.1
        obtain ⟨u10', h10⟩ := Option.isSome_iff_exists.1 f10.1
        have g9 := f9.2
        have g10 := f10.2
        clear f9 f10 CB
        have hBS' : S ≠ w.heap.size := fun e => hBS e.symm
        have b2d : Hid (wc.drew.cell? ⟨w.heap.size, 2, none⟩ = some (.slice va data.length vc)) := b2
        have K1 : Hid (∀ v, (wc.drew.setCell ⟨S, 9, none⟩ v).cell? ⟨w.heap.size, 2, none⟩ = some (.slice va data.length vc)) := fun v => (World.cell?_setCell_far _ _ _ _ hBS').trans b2
        have K2 : Hid (∀ u v, ((wc.drew.setCell ⟨S, 9, none⟩ u).setCell ⟨S, 10, none⟩ v).cell? ⟨w.heap.size, 2, none⟩ = some (.slice va data.length vc)) := fun u v => (World.cell?_setCell_far _ _ _ _ hBS').trans ((World.cell?_setCell_far _ _ _ _ hBS').trans b2)
        have HB2 := Lib.hid b2
        go_wp2_with fail
        go_region_held3 (fun w' => w'.cell? ⟨w.heap.size, 2, none⟩ = some (.slice va data.length vc)) (first | exact b2d.out | exact K1.out _ | exact K2.out _ _) (fail)
        obtain ⟨w10, hw10⟩ : ∃ w10, w10 = ((wc.setCell ⟨S, 9, none⟩ (.int .u8 (IntKind.u8.wrap (data.length : Int)))).setCell ⟨S, 10, none⟩ (.int .u8 (IntKind.u8.wrap ((data.length : Int) / 256)))).drew := ⟨_, rfl⟩
        rw [← hw10]
        have hV : Vec w10 1 (.slice (some ⟨S, 0, none⟩) 512 512) 512 (bv (headed n la data.length)) := by
          have h1 := (HC.out.1.set1 (show 9 < 512 by decide) (.int .u8 ((UInt8.ofNat (data.length % 256)).toNat : Int))).set1 (show 10 < 512 by decide) (.int .u8 ((UInt8.ofNat (data.length / 256 % 256)).toNat : Int))
          rw [bv_set, bv_set, headed_is, ← u8_wrap, ← u8_wrap (data.length / 256)] at h1
          rw [hw10]
          exact h1.drew
        have oS : Only (fun j => j = S) w3 w10 := by
          rw [hw10]
          exact (((HC.out.2).setCell (p := ⟨S, 9, none⟩) rfl _).setCell (p := ⟨S, 10, none⟩) rfl _).drew
        have HV := Lib.hid hV
        have OS := Lib.hid oS
        have CB2 := HCB.out.kept oS fun e => hBS e
        have b3 := CB2.is 2 _ rfl
        have RD := Lib.hid (HR.out.only ((O3.out.trans2 oS fun k hk e => by have := HSE.out.1; omega).drew) fun _ _ _ _ e => e)
        clear hV oS hw10 h9 h10 g9 g10 b2 b2d HB2 CB2
        go_wp2_with fail
        go_still_tail 3, (by kernel_rfl)
        refine wpList_copy_rd rfl _ _ 34 rfl 5 Try.underlying34 info5s S 11 501 501 rfl (.slice va data.length vc) data.length (bv data) rfl RD.out (by have := HN.out.2; omega) (fun j hj => by
          have := HV.out.drew.free0 (k := 11 + j) (by have := HN.out.2; omega)
          exact this) (bv_one data) ?_
        obtain ⟨w11, hw11⟩ : ∃ w11, w11 = w10.drew.setCells S 11 (bv data) := ⟨_, rfl⟩
        have hV11 : Vec w11 1 (.slice (some ⟨S, 0, none⟩) 512 512) 512 (bv (Pc.lay ⟨n, la, data⟩)) := by
          have h1 := HV.out.drew.put (o := 11) (vs := bv data) (by rw [bv_length]; have := HN.out.2; omega)
          rw [Nat.zero_add, bv_length, bv_take', ← headed_data ⟨n, la, data⟩ HN.out.2] at *
          rw [hw11]
          simpa [bv, List.map_append, List.map_take, List.map_drop] using h1
        have o11 : Only (fun j => j = S) w3 w11 := by rw [hw11]; exact OS.out.drew.setCells rfl 11 (bv data)
        have hTS : w.heap.size + 1 ≠ S := by have := HSE.out.1; omega
        have hll : (Pc.lay ⟨n, la, data⟩).length = 512 := Pc.lay_length _ HN.out.2
        have hth : w11.there (w.heap.size + 1) 0 512 := by
          have := (HT.out.only o11 fun g hg e => hTS (by injection hg with hg; exact hg.trans e)).there (o := 0) (k := 512) (by decide)
          simpa using this
        have HV11 := Lib.hid hV11.range
        have HTH := Lib.hid hth
        have HLL := Lib.hid hll
        have O11 := Lib.hid o11
        change wpList _ _ _ _ _ (w10.drew.setCells S 11 (bv data))
        rw [← hw11]
        simp only [Act.put]
        obtain ⟨s, hs⟩ : ∃ s, s = Pc.lay ⟨n, la, data⟩ := ⟨_, rfl⟩
        rw [← hs] at HV11 HLL
        have HSL := Lib.hid hs
        clear b3 hV11 hth hll o11 hw11 hs
        go_wp2_with (first | (refine wpList_load_mid rfl 124 _ rfl S 0 rfl (bv s) _ HV11.out Try.underlying124 rfl (size124 s HLL.out) ?_) | (refine wpList_store_mid rfl 124 _ _ rfl (w.heap.size + 1) 0 (bv s).toArray rfl rfl ((show 512 = (bv s).toArray.size by simp [bv_length, HLL.out]) ▸ HTH.out) (size124a s HLL.out) (all_oneCell_toArray (bv_one s)) ?_))
        have hth' : w11.there (w.heap.size + 1) 0 (bv s).length := by rw [bv_length, HLL.out]; exact HTH.out
        refine bodyPost_ret (v := .agg (bv s).toArray) (results_cell_mid rfl _ _ (w.heap.size + 1) (bv s) _ rfl (World.rangeAt_setCells_same _ _ _ _ hth') Try.underlying124 rfl (size124 s HLL.out)) rfl ⟨by rw [HSL.out], ?_⟩
        refine (O3.out.trans2 O11.out fun k hk e => by have := HSE.out.1; omega).trans2 (S := None') ((Only.refl (fun j => j = w.heap.size + 1) w11).setCells rfl 0 _) fun k hk e => by omega
end Go.Proofs.Yteoeaojebklfjaa
