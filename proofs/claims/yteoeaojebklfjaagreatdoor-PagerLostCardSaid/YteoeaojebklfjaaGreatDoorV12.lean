/- N2 N3 N4 N5 N6 in one text. -/
import Derived.Test.YteoeaojebklfjaaGreatDoorV11
import Derived.Test.YteoeaojebklfjaaGreatDoorV09
import Derived.Lib.AppendStr
import Derived.ArgAppend
import Derived.Test.YteoeaojebklfjaaGreatDoorV06
namespace Go.Proofs.YteoeaojebklfjaaGreatDoor
open Go.RowKit Go.Maps
set_option linter.unusedVariables false
set_option maxRecDepth 20000

theorem cell_one' (w : World) (v : Value) (t : TypeId) : ∀ j u, [v][j]? = some u → (w.alloc (.cells #[v] t)).cell? ((⟨w.heap.size, 0, none⟩ : Addr).add j) = some u := by
  intro j u hu
  rw [add_mid' (⟨w.heap.size, 0, none⟩) j rfl]
  match j with
  | 0 =>
    rw [World.cell?_alloc_new]
    simpa using hu
  | _ + 1 => simp at hu
theorem rd_one' (w : World) (v : Value) (t : TypeId) : Rd (w.alloc (.cells #[v] t)) 1 (.slice (some ⟨w.heap.size, 0, none⟩) 1 1) 1 [v] :=
  ⟨rfl, .inr ⟨_, 1, rfl, Nat.le_refl _, by decide, cell_one' w v t⟩⟩
theorem or128 (k : Nat) : bits .or .u8 ((k : Int) % 256) 128 = ((UInt8.ofNat (k % 128 + 128)).toNat : Int) := by
  have key : ∀ c : Fin 256, bits .or .u8 ((c.val : Nat) : Int) 128 = ((c.val % 128 + 128 : Nat) : Int) := by decide +kernel
  have h := key ⟨k % 256, Nat.mod_lt _ (by omega)⟩
  have e : ((k % 256 : Nat) : Int) = (k : Int) % 256 := by omega
  simp only at h
  rw [e] at h
  rw [h, toNat_of (by omega)]
  have : k % 256 % 128 = k % 128 := by omega
  rw [this]
structure UvLoop (w wr : World) (xs : List UInt8) (u k : Nat) (v : Value) (m : Nat) : Prop where
  row : ∃ pre, Vec wr 1 v m (bv (xs ++ pre)) ∧ uv u = pre ++ uv k
  new : ∀ g, v.ownBlock = some g → w.heap.size ≤ g
  only : Only None' w wr
  le : k ≤ 2147483647
theorem push_one {w wr w3 : World} {xs pre : List UInt8} {v v' : Value} {m : Nat} {c : UInt8} {z : Int} {o : Obj} (hz : z = (c.toNat : Int)) (hnew : ∀ g, v.ownBlock = some g → w.heap.size ≤ g) (ho : Only None' w wr) (hv3 : Vec w3 1 v' (m + 1) (bv (xs ++ pre) ++ [.int .u8 z])) (hg : (wr.alloc o).grownBy w3 v.ownBlock) (hf : ∀ g, v'.ownBlock = some g → v.ownBlock = some g ∨ (wr.alloc o).heap.size ≤ g) :
    Vec w3 1 v' (m + 1) (bv (xs ++ (pre ++ [c]))) ∧ (∀ g, v'.ownBlock = some g → w.heap.size ≤ g) ∧ Only None' w w3 := by
  have e : bv (xs ++ (pre ++ [c])) = bv (xs ++ pre) ++ [.int .u8 z] := by rw [hz, ← List.append_assoc]; simp [bv]
  refine ⟨by rw [e]; exact hv3, fun g hg' => ?_, (ho.alloc o).trans2 ((Only.refl (fun g => v.ownBlock = some g) _).grown hg fun k hk => hk) fun k hk e => by have := hnew k e; omega⟩
  rcases hf g hg' with h1 | h1
  · exact hnew g h1
  · have := ho.size
    simp at h1
    omega
set_option maxHeartbeats 1000000 in
theorem uvarint_any {w : World} {v : Value} {n : Nat} {xs : List UInt8} (h : Vec w 1 v n (bv xs)) (hn : n ≤ 900000) (u : Nat) (hu : u ≤ 2147483647) :
    Calls Tryz.prog 77 #[v, .int .u64 (u : Int)] w fun e w' => ∃ v', e = .returned v' ∧ Vec w' 1 v' (n + (uv u).length) (bv (xs ++ uv u)) ∧ (∀ g, v'.ownBlock = some g → w.heap.size ≤ g) ∧ Only None' w w' := by
  have HC := Lib.hid (clone_bytes h (bv_one xs) (by omega))
  have HU := Lib.hid hu
  have HL : Hid (n = xs.length) := Lib.hid (by have := h.len; rw [bv_length] at this; omega)
  clear h hu
  go_enter Tryz.func77, Tryz.ntmps77
  go_wp2_with fail
  refine HC.out.mono ?_
  rintro e w1 ⟨v1, rfl, hv, hf, o1⟩
  have L0 : Hid (UvLoop w w1 xs u u v1 n) := Lib.hid ⟨⟨[], by rw [List.append_nil]; exact hv, rfl⟩, hf, o1, HU.out⟩
  clear hv hf o1 HC
  go_wp2_with fail
  go_loopw [1, 5] (fun i v wr => ∃ k m : Nat, i = .int .u64 (k : Int) ∧ Hid (UvLoop w wr xs u k v m)) (fun i v wr => (intOf i).toNat)
  case atStart => exact ⟨u, n, rfl, L0⟩
  case round =>
    obtain ⟨k, m, rfl, HK⟩ := hrel
    clear L0
    by_cases hk : k < 128
    · have d1 : decide ((127 : Int) < (k : Int)) = false := by rw [decide_eq_false_iff_not]; omega
      obtain ⟨pre, hv, hu⟩ := HK.out.row
      obtain ⟨a0, c0, rfl, _⟩ := hv.shape
      have HV := Lib.hid hv
      have HUV := Lib.hid hu
      have HM : Hid (m = xs.length + pre.length) := Lib.hid (by have := hv.len; rw [bv_length, List.length_append] at this; omega)
      have HB : Hid (pre.length ≤ 5) := Lib.hid (by have h1 := uv_len HU.out; rw [hu, List.length_append] at h1; omega)
      clear hv hu
      go_wp2_with (at_builtin; refine wpList_append_any rfl _ _ 35 rfl 5 Tryz.t5 (.int .u8 0) 1 1 Tryz.underlying35 info5 zero5 size5 bytes5 rfl (by decide) _ m (bv (xs ++ pre)) rfl (HV.out.alloc _) _ 1 [.int .u8 (k : Int)] rfl (rd_one' wr _ 5) (by intro u hu; rw [List.mem_singleton] at hu; subst hu; rfl) (by have h1 := HB.out; have h2 := HM.out; have h3 := HL.out; unfold maxLen; omega) (by have h1 := HB.out; have h2 := HM.out; have h3 := HL.out; omega) ?_; intro v' w3 hv3 hg3 hf3)
      go_ret
      obtain ⟨p1, p2, p3⟩ := push_one (c := UInt8.ofNat k) (by rw [toNat_of (by omega)]) HK.out.new HK.out.only hv3 hg3 hf3
      have e1 : uv u = pre ++ [UInt8.ofNat k] := by rw [HUV.out, uv_low hk]
      rw [e1, List.length_append, List.length_singleton]
      refine ⟨v', rfl, ?_, p2, p3⟩
      have e2 : n + (pre.length + 1) = m + 1 := by have h2 := HM.out; have h3 := HL.out; omega
      rw [e2]
      exact p1
    · have d1 : decide ((127 : Int) < (k : Int)) = true := by rw [decide_eq_true_eq]; omega
      obtain ⟨pre, hv, hu⟩ := HK.out.row
      obtain ⟨a0, c0, rfl, _⟩ := hv.shape
      have HV := Lib.hid hv
      have HUV := Lib.hid hu
      have HM : Hid (m = xs.length + pre.length) := Lib.hid (by have := hv.len; rw [bv_length, List.length_append] at this; omega)
      have HB : Hid (pre.length ≤ 5) := Lib.hid (by have h1 := uv_len HU.out; rw [hu, List.length_append] at h1; omega)
      have HKB := Lib.hid hk
      have hkb : (k : Int) ≤ 2147483647 := by have := HK.out.le; omega
      have hk0 : (0 : Int) ≤ (k : Int) := by omega
      clear hv hu hk
      go_wp2_with (at_builtin; refine wpList_append_any rfl _ _ 35 rfl 5 Tryz.t5 (.int .u8 0) 1 1 Tryz.underlying35 info5 zero5 size5 bytes5 rfl (by decide) _ m (bv (xs ++ pre)) rfl (HV.out.alloc _) _ 1 [.int .u8 (bits .or .u8 ((k : Int) % 256) 128)] rfl (rd_one' wr _ 5) (by intro u hu; rw [List.mem_singleton] at hu; subst hu; rfl) (by have h1 := HB.out; have h2 := HM.out; have h3 := HL.out; unfold maxLen; omega) (by have h1 := HB.out; have h2 := HM.out; have h3 := HL.out; omega) ?_; intro v' w3 hv3 hg3 hf3)
      have HP := Lib.hid (push_one (or128 k) HK.out.new HK.out.only hv3 hg3 hf3)
      clear hv3 hg3 hf3
      go_roundw
      case rel =>
        refine ⟨k / 128, m + 1, rfl, Lib.hid ⟨⟨pre ++ [UInt8.ofNat (k % 128 + 128)], HP.out.1, ?_⟩, HP.out.2.1, HP.out.2.2, by have := HK.out.le; omega⟩⟩
        rw [HUV.out, uv_high HKB.out, List.append_assoc]
        rfl
      case measure =>
        show ((k : Int) / 128).toNat < (k : Int).toNat
        have := HKB.out
        omega
theorem count_any {w : World} {v : Value} {n : Nat} {xs : List UInt8} (h : Vec w 1 v n (bv xs)) (hn : n ≤ 900000) (u : Nat) (hu : u ≤ 2147483647) :
    Calls Tryz.prog 46 #[v, .int .i64 (u : Int)] w fun e w' => ∃ v', e = .returned v' ∧ Vec w' 1 v' (n + (uv u).length) (bv (xs ++ uv u)) ∧ (∀ g, v'.ownBlock = some g → w.heap.size ≤ g) ∧ Only None' w w' := by
  have HC := Lib.hid (uvarint_any h hn u hu)
  have d1 : decide ((u : Int) < 0) = false := by rw [decide_eq_false_iff_not]; omega
  have d2 : decide ((2147483647 : Int) < (u : Int)) = false := by rw [decide_eq_false_iff_not]; omega
  have u0 : (0 : Int) ≤ (u : Int) := by omega
  have u1 : (u : Int) ≤ 2147483647 := by omega
  clear h hu
  go_enter Tryz.func46, Tryz.ntmps46
  go_wp2_with fail
  refine HC.out.mono ?_
  rintro e w1 ⟨v1, rfl, h1⟩
  have H1 := Lib.hid h1
  clear h1 HC
  go_wp2_with fail
  go_ret
  exact ⟨v1, rfl, H1.out⟩
end Go.Proofs.YteoeaojebklfjaaGreatDoor
namespace Go.Proofs.YteoeaojebklfjaaGreatDoor
open Go.RowKit Go.Maps Go.Lib
set_option linter.unusedVariables false
set_option maxRecDepth 20000

section
variable {P : Program} (w : World)
theorem run_append_room_str (t u ty e : TypeId) (i : TypeInfo) (ht : P.underlying t = some (.slice e)) (hu : P.underlying u = some .string) (hi : P.info? e = some i) (hs1 : i.size = 1)
    (b off sLen sCap : Nat) (s : ByteArray) (hroom : sLen + s.size ≤ sCap) (hc : ∀ j, j < s.size → (w.cell? ⟨b, off + sLen + j, none⟩).isSome = true) (hf : ∀ j, j < s.size → w.frozen? ⟨b, off + sLen + j, none⟩ = false) :
    (Builtin.append_ #[t, u] ty #[.slice (some ⟨b, off, none⟩) sLen sCap, .string s]).run P w = .ok (.slice (some ⟨b, off, none⟩) (sLen + s.size) sCap) (w.setCells b (off + sLen) (strCells s)) := by
  have hfc := run_firstCells_string (P := P) w 1 s
  have hst := run_storeCells_cells (P := P) b (off + sLen) (strCells s) 0 w (by simpa [strCells_length] using hc) (by simpa [strCells_length] using hf) (strCells_oneCell s)
  simp only [Nat.add_zero] at hst
  simp [Builtin.append_, run_underlying ht, run_underlying hu, sizeOf, typeInfo, hi, hs1, Builtin.lenOf, hroom, hfc, Addr.add_lit, hst]
theorem run_vec_append_str (t u ty e : TypeId) (i : TypeInfo) (ht : P.underlying t = some (.slice e)) (hu : P.underlying u = some .string) (hi : P.info? e = some i) (hz : i.zero = some (.int .u8 0))
    (hsize : i.size = 1) (hby : i.bytes = 1)
    (v : Value) (n : Nat) (xs : List Value) (hv : Vec w 1 v n xs) (s : ByteArray)
    (h63 : n + s.size ≤ maxLen) (hbytes : n + s.size ≤ 140737488355328) :
    ∃ v' w', (Builtin.append_ #[t, u] ty #[v, .string s]).run P w = .ok v' w' ∧ Vec w' 1 v' (n + s.size) (xs ++ strCells s) ∧ w.grownBy w' v.ownBlock ∧ (∀ k, v'.ownBlock = some k → v.ownBlock = some k ∨ w.heap.size ≤ k) := by
  rcases hv.form with ⟨rfl, rfl⟩ | ⟨g, off, cap, rfl, h2, h3, h4, h5, h6⟩
  · have hx : xs = [] := List.eq_nil_of_length_eq_zero (by simpa using hv.len)
    subst hx
    obtain ⟨v', w', hr, k1, k2, k3⟩ := run_append_own_string (P := P) w w.heap.size t u ty e i ht hu hi hz hsize hby (.slice none 0 0) 0 [] (World.ownsRow_nil _ _ _ _) s h63 hbytes (Nat.le_refl _)
    exact ⟨v', w', hr, Vec.of_owns k1, k2, fun k hk => .inr (k1.lt k hk).1⟩
  · have hxl : xs.length = n := by simpa using hv.len
    by_cases hroom : n + s.size ≤ cap
    · have hb : ∀ j, j < s.size → n + j < cap * 1 := fun j hj => by omega
      have hr := run_append_room_str (P := P) w t u ty e i ht hu hi hsize g off n cap s hroom (fun j hj => by rw [Nat.add_assoc]; exact (h6 _ (hb j hj)).1) (fun j hj => by rw [Nat.add_assoc]; exact (h6 _ (hb j hj)).2)
      have hin : ∀ j, j < (strCells s).length → (w.cell? ⟨g, off + n + j, none⟩).isSome = true := fun j hj => by
        rw [strCells_length] at hj
        rw [Nat.add_assoc]; exact (h6 _ (hb j hj)).1
      refine ⟨_, _, hr, ⟨by rw [List.length_append, hxl, strCells_length, Nat.mul_one], .inr ⟨g, off, cap, rfl, hroom, h3, ?_, ?_, ?_⟩⟩, ?_, fun k hk => .inl hk⟩
      · rw [size_setCells]; exact h4
      · intro j x hu
        rcases Nat.lt_or_ge j xs.length with hj | hj
        · rw [List.getElem?_append_left hj] at hu
          rw [World.cell?_setCells_out g (strCells s) _ w ⟨g, off + j, none⟩ (fun _ _ => .inl (by simp only; omega))]
          exact h5 j x hu
        · rw [List.getElem?_append_right hj] at hu
          have hj2 : j - xs.length < (strCells s).length := (List.getElem?_eq_some_iff.1 hu).1
          have := World.cell?_setCells_in g (strCells s) (off + n) w hin (j - xs.length) hj2
          have e : off + n + (j - xs.length) = off + j := by omega
          rw [e] at this
          rw [this]
          rw [List.getElem?_eq_getElem hj2] at hu
          exact hu
      · intro j hj
        rw [World.frozen?_setCells]
        refine ⟨?_, (h6 j hj).2⟩
        by_cases hin2 : n ≤ j ∧ j < n + (strCells s).length
        · have := World.cell?_setCells_in g (strCells s) (off + n) w hin (j - n) (by omega)
          have e : off + n + (j - n) = off + j := by omega
          rw [e] at this
          rw [this]; rfl
        · rw [World.cell?_setCells_out g (strCells s) _ w ⟨g, off + j, none⟩ (fun _ _ => by simp only; omega)]
          exact (h6 j hj).1
      · exact grown_setCells _ _ _ _
    · have holds : ∀ j x, xs[j]? = some x → w.cell? ((⟨g, off, none⟩ : Addr).add j) = some x := fun j x hx => by rw [add_mid' (⟨g, off, none⟩) j rfl]; exact h5 j x hx
      have hge := grownCap_ge w (n + s.size) cap e
      have hcm : grownCap w (n + s.size) cap e ≤ maxLen := grownCap_le_maxLen w (n + s.size) cap e h63
      have h63' : n + s.size ≤ 9223372036854775807 := by simp only [maxLen] at h63; omega
      have hr := run_append_grow_string (P := P) w t u ty e i (.int .u8 0) ht hu hi hz ⟨g, off, none⟩ n cap xs (by rw [hsize]; simpa using hxl) holds s (by omega) (by omega) (by rw [hby]; exact growslice_fits (by omega) (by omega))
      have hlen : (xs ++ strCells s).length = (n + s.size) * 1 := by rw [List.length_append, hxl, strCells_length, Nat.mul_one]
      have own : (w.drew.alloc (.cells (xs.toArray ++ (strCells s).toArray ++ Builtin.zeroCells (Value.int .u8 0).cells (grownCap w (n + s.size) cap e - (n + s.size))) e)).ownsRow w.heap.size e 1 (.slice (some ⟨w.heap.size, 0, none⟩) (n + s.size) (grownCap w (n + s.size) cap e)) (n + s.size) (xs ++ strCells s) := by
        refine ⟨hlen, .inr ⟨w.heap.size, _, _, rfl, Nat.le_refl _, heap_alloc_new w.drew _, hge, hcm, ?_, ?_⟩⟩
        · have hz1 : (Value.int IntKind.u8 0).cells.size = 1 := rfl
          simp only [Array.size_append, List.size_toArray, size_zeroCells, hz1, hxl, strCells_length]
          omega
        · simp only [Array.toList_append, List.append_assoc]
          rw [← List.append_assoc, ← hlen]
          exact List.take_left
      exact ⟨_, _, hr, Vec.of_owns own, ⟨rfl, rfl, rfl, by simp, fun k hk _ => Below.heap_alloc w.drew _ k hk⟩, fun k hk => .inr (own.lt k hk).1⟩
end
theorem wpList_append_str {P : Program} {w : World} {ops : Array Oper} {rest : List Oper} {o : Oper} {a : Act} {Q : Exit → Act → World → Prop} (hgd : o.guard = none) (sl x : Operand) (t u : TypeId)
    (ho : o.op = .call { callee := .builtin .append, args := #[sl, x], argTypes := #[t, u] })
    (e : TypeId) (i : TypeInfo) (ht : P.underlying t = some (.slice e)) (hu : P.underlying u = some .string) (hi : P.info? e = some i) (hz : i.zero = some (.int .u8 0))
    (hsize : i.size = 1) (hby : i.bytes = 1)
    (v : Value) (n : Nat) (xs : List Value) (hs : a.eval sl = v) (hv : Vec w 1 v n xs) (s : ByteArray) (hx : a.eval x = .string s)
    (h63 : n + s.size ≤ maxLen) (hbytes : n + s.size ≤ 140737488355328)
    (h : ∀ v' w', Vec w' 1 v' (n + s.size) (xs ++ strCells s) → w.grownBy w' v.ownBlock → (∀ k, v'.ownBlock = some k → v.ownBlock = some k ∨ w.heap.size ≤ k) → wpList P ops Q rest (a.put o.dst v') w') : wpList P ops Q (o :: rest) a w := by
  refine wpList_plain hgd fun K hK => ?_
  obtain ⟨v', w', hr, h2, h3, h4⟩ := run_vec_append_str (P := P) w t u o.type e i ht hu hi hz hsize hby v n xs hv s h63 hbytes
  unfold Oper.wp execOp
  simp only [ho, resolve, invoke, builtin, Sem.run_bind, Sem.run_pure, Result.andThen_ok, List.map_toArray, List.map_cons, List.map_nil, hs, hx, hr]
  exact hK _ _ (h v' w' h2 h3 h4)
theorem strCells_st (s : List UInt8) : strCells (st s) = bv s := by simp [strCells, st, bv]
theorem st_size (s : List UInt8) : (st s).size = s.length := by simp [st, ByteArray.size]
set_option maxHeartbeats 1000000 in
theorem str_any {w : World} {v : Value} {n : Nat} {xs : List UInt8} (h : Vec w 1 v n (bv xs)) (hn : n ≤ 800000) (s : List UInt8) (hs : s.length ≤ 50000) :
    Calls Tryz.prog 45 #[v, .string (st s)] w fun e w' => ∃ v', e = .returned v' ∧ Vec w' 1 v' (n + (uv s.length).length + s.length) (bv (xs ++ (uv s.length ++ s))) ∧ (∀ g, v'.ownBlock = some g → w.heap.size ≤ g) ∧ Only None' w w' := by
  have HC := Lib.hid (count_any h (by omega) s.length (by omega))
  have HS := Lib.hid hs
  have HL : Hid (n = xs.length ∧ (uv s.length).length ≤ 5) := Lib.hid ⟨by have := h.len; rw [bv_length] at this; omega, uv_len (by omega)⟩
  obtain ⟨sb, hsb⟩ : ∃ sb, sb = st s := ⟨_, rfl⟩
  have HSB := Lib.hid hsb
  obtain ⟨k, hk⟩ : ∃ k, k = s.length := ⟨_, rfl⟩
  have hsz : sb.size = k := by rw [hsb, st_size, hk]
  have d1 : decide ((2147483647 : Int) < (k : Int)) = false := by rw [decide_eq_false_iff_not]; omega
  rw [← hsb]
  rw [← hk] at HC
  have HK := Lib.hid hk
  clear h hs hsb hk
  go_enter Tryz.func45, Tryz.ntmps45
  go_wp2_with fail
  refine HC.out.mono ?_
  rintro e w1 ⟨v1, rfl, hv, hf, o1⟩
  have HV := Lib.hid (And.intro hv (And.intro hf o1))
  obtain ⟨a0, c0, rfl, _⟩ := hv.shape
  clear hv hf o1 HC
  go_wp2_with (at_builtin; refine wpList_append_str rfl _ _ 35 9 rfl 5 Tryz.t5 Tryz.underlying35 Tryz.underlying9 info5 zero5 size5 bytes5 _ _ _ rfl HV.out.1 sb rfl (by have h1 := HS.out; have h2 := HL.out; have h3 := HK.out; rw [HSB.out, st_size, h3]; unfold maxLen; omega) (by have h1 := HS.out; have h2 := HL.out; have h3 := HK.out; rw [HSB.out, st_size, h3]; omega) ?_; intro v' w3 hv3 hg3 hf3)
  go_ret
  obtain ⟨hv, hf, o1⟩ := HV.out
  rw [HSB.out, st_size, strCells_st, HK.out] at hv3
  have e : bv (xs ++ (uv s.length ++ s)) = bv (xs ++ uv s.length) ++ bv s := by rw [← List.append_assoc]; simp [bv]
  refine ⟨v', rfl, by rw [e]; exact hv3, fun g hg => ?_, o1.trans2 ((Only.refl (fun g => (Value.slice a0 _ c0).ownBlock = some g) _).grown hg3 fun k hk => hk) fun k hk e => by have := hf k e; omega⟩
  rcases hf3 g hg with h1 | h1
  · exact hf g h1
  · exact Nat.le_trans o1.size h1
end Go.Proofs.YteoeaojebklfjaaGreatDoor
namespace Go.Proofs.YteoeaojebklfjaaGreatDoor
open Go.RowKit Go.Maps
set_option linter.unusedVariables false
set_option maxRecDepth 20000

structure FiLoop (b : List UInt8) (k u : Nat) : Prop where
  le : k ≤ b.length
  ten : k ≤ 10
  lt : u < 2 ^ (7 * k)
  is : firstL b 0 0 = firstL (b.drop k) k u
theorem and127 (c : UInt8) : bits .and .u8 (c.toNat : Int) 127 = ((c.toNat % 128 : Nat) : Int) := by
  have key : ∀ c : Fin 256, bits .and .u8 ((c.val : Nat) : Int) 127 = ((c.val % 128 : Nat) : Int) := by decide +kernel
  exact key ⟨c.toNat, c.toNat_lt⟩
theorem pow7 (k : Nat) : 128 ^ k = 2 ^ (7 * k) := by rw [Nat.pow_mul]
theorem or_step {k x : Nat} {c : UInt8} (hx : x < 2 ^ (7 * k)) (hk : k ≤ 8 ∨ (k = 9 ∧ c.toNat ≤ 1)) :
    bits .or .u64 (x : Int) (IntKind.u64.wrap (IntKind.u64.wrap (bits .and .u8 (c.toNat : Int) 127) * 2 ^ (7 * k))) = ((x + c.toNat % 128 * 128 ^ k : Nat) : Int) := by
  have hc : c.toNat % 128 < 128 := Nat.mod_lt _ (by omega)
  rw [and127, pow7]
  obtain ⟨d, hd⟩ : ∃ d, d = c.toNat % 128 := ⟨_, rfl⟩
  rw [← hd] at hc ⊢
  have hm : d * 2 ^ (7 * k) + 2 ^ (7 * k) ≤ 18446744073709551616 := by
    rcases hk with hk | ⟨rfl, h1⟩
    · have h8 : 2 ^ (7 * k) ≤ 2 ^ 56 := Nat.pow_le_pow_right (by decide) (by omega)
      have : d * 2 ^ (7 * k) ≤ 127 * 2 ^ 56 := Nat.mul_le_mul (by omega) h8
      omega
    · have : d ≤ 1 := by omega
      have e : (2 : Nat) ^ (7 * 9) = 9223372036854775808 := by decide
      rw [e]
      omega
  have hp : 0 < 2 ^ (7 * k) := Nat.pow_pos (by omega)
  have e0 : (IntKind.u64.wrap (d : Int)) * 2 ^ (7 * k) = ((d * 2 ^ (7 * k) : Nat) : Int) := by
    rw [u64_in (by omega), Int.natCast_mul, Int.natCast_pow]; rfl
  have h2 := or_disjoint (a := x) (b := d) (m := 7 * k) hx
  rw [e0, u64_in (by omega), bits_u64 (by omega) (by omega) (by rw [h2]; omega), h2]
theorem FiLoop.next {b : List UInt8} {k x : Nat} {c : UInt8} (h : FiLoop b k x) (hd : b.drop k = c :: b.drop (k + 1)) (hk : k ≤ 8) (hc : ¬ c.toNat < 128) (hl : k < b.length) : FiLoop b (k + 1) (x + c.toNat % 128 * 128 ^ k) := by
  have h1 := h.lt
  refine ⟨hl, by omega, ?_, ?_⟩
  · have hm : c.toNat % 128 < 128 := Nat.mod_lt _ (by omega)
    have e : 7 * (k + 1) = 7 * k + 7 := by omega
    rw [pow7, e, Nat.pow_add]
    have : c.toNat % 128 * 2 ^ (7 * k) ≤ 127 * 2 ^ (7 * k) := Nat.mul_le_mul_right _ (by omega)
    omega
  · rw [h.is, hd, firstL, if_neg (by omega), if_neg hc]
theorem FiLoop.done {b : List UInt8} {k x : Nat} {c : UInt8} (h : FiLoop b k x) (hd : b.drop k = c :: b.drop (k + 1)) (hk : k ≤ 8 ∨ (k = 9 ∧ c.toNat ≤ 1)) (hc : c.toNat < 128) : firstL b 0 0 = (x + c.toNat % 128 * 128 ^ k, k + 1) := by
  rw [h.is, hd, firstL, if_neg (by omega), if_pos hc]
theorem FiLoop.bad {b : List UInt8} {k x : Nat} {c : UInt8} (h : FiLoop b k x) (hd : b.drop k = c :: b.drop (k + 1)) (hk : k = 10 ∨ (k = 9 ∧ 1 < c.toNat)) : firstL b 0 0 = (0, 0) := by
  rw [h.is, hd, firstL, if_pos hk]
set_option maxHeartbeats 1000000 in
theorem first_any {w : World} {v : Value} {b : List UInt8} (h : Vec w 1 v b.length (bv b)) (hn : b.length ≤ 1000000) :
    Calls Tryz.prog 128 #[v] w fun e w' => e = .returned (.tuple #[.int .u64 ((firstL b 0 0).1 : Int), .int .i64 ((firstL b 0 0).2 : Int)]) ∧ w = w' := by
  rcases h.form with ⟨rfl, h0⟩ | ⟨g, off, cap, rfl, h1, h2, h3, h4, h5⟩
  · have hb : b = [] := List.eq_nil_of_length_eq_zero h0
    subst hb
    clear h h0
    go_enter Tryz.func128, Tryz.ntmps128
    go_wp2_with fail
    go_loopw [4, 9] (fun u i wr => u = .int .u64 0 ∧ i = .int .i64 0 ∧ wr = w) (fun u i wr => 0)
    case atStart => exact ⟨rfl, rfl, rfl⟩
    case round =>
      obtain ⟨rfl, rfl, rfl⟩ := hrel
      go_wp2_with fail
      go_ret2
      exact ⟨rfl, rfl⟩
  · obtain ⟨n, hn'⟩ : ∃ n, n = b.length := ⟨_, rfl⟩
    have HN := Lib.hid (And.intro hn hn')
    have HC := Lib.hid h4
    rw [← hn']
    have n1 : (n : Int) ≤ 1000000 := by omega
    clear h hn h1 h2 h3 h4 h5 hn'
    have L0 : Hid (FiLoop b 0 0) := Lib.hid ⟨Nat.zero_le _, by omega, by simp, rfl⟩
    go_enter Tryz.func128, Tryz.ntmps128
    go_wp2_with fail
    go_loopw [4, 9] (fun u i wr => ∃ k x : Nat, u = .int .u64 (x : Int) ∧ i = .int .i64 (k : Int) ∧ wr = w ∧ Hid (FiLoop b k x)) (fun u i wr => n - (intOf i).toNat)
    case atStart => exact ⟨0, 0, rfl, rfl, rfl, L0⟩
    case round =>
      obtain ⟨k, x, rfl, rfl, rfl, HK⟩ := hrel
      clear L0
      by_cases hlt : k < n
      · have hk : k < b.length := by have := HN.out.2; omega
        obtain ⟨c, hc⟩ : ∃ c, c = b[k] := ⟨_, rfl⟩
        have kc : wr.cell? ⟨g, off + k, none⟩ = some (.int .u8 (c.toNat : Int)) := by
          refine HC.out k _ ?_
          rw [hc]
          simp [bv, hk]
        have HD : Hid (b.drop k = c :: b.drop (k + 1)) := Lib.hid (by rw [hc]; exact List.drop_eq_getElem_cons hk)
        have i0 : (0 : Int) ≤ (k : Int) := by omega
        have i1 : (k : Int) < (n : Int) := by omega
        have HLT := Lib.hid hlt
        have c0 : (0 : Int) ≤ (c.toNat : Int) := by omega
        have c1 : (c.toNat : Int) ≤ 255 := by have := c.toNat_lt; omega
        have HCL := Lib.hid c.toNat_lt
        clear hc hk hlt
        by_cases h10 : k = 10
        · have e10 : ((k : Int) == 10) = true := by rw [beq_iff_eq]; omega
          have HB := Lib.hid (HK.out.bad HD.out (.inl h10))
          clear h10
          go_wp2_with fail
          go_ret2
          rw [HB.out]
          exact ⟨rfl, rfl⟩
        · have e10 : ((k : Int) == 10) = false := by rw [beq_eq_false_iff_ne]; omega
          have e10' : (k == 10) = false := by rw [beq_eq_false_iff_ne]; omega
          by_cases h9 : k = 9
          · have e9 : ((k : Int) == 9) = true := by rw [beq_iff_eq]; omega
            have k9 : (k : Int) ≤ 9 := by omega
            by_cases hc : 1 < c.toNat
            · have d1 : decide ((1 : Int) < (c.toNat : Int)) = true := by rw [decide_eq_true_eq]; omega
              have HB := Lib.hid (HK.out.bad HD.out (.inr ⟨h9, hc⟩))
              clear h10 h9 hc
              go_wp2_with fail
              go_ret2
              rw [HB.out]
              exact ⟨rfl, rfl⟩
            · have d1 : decide ((1 : Int) < (c.toNat : Int)) = false := by rw [decide_eq_false_iff_not]; omega
              have d2 : decide ((c.toNat : Int) < 128) = true := by rw [decide_eq_true_eq]; omega
              have HB := Lib.hid (HK.out.done HD.out (.inr ⟨h9, by omega⟩) (by omega))
              have HO := Lib.hid (or_step (c := c) HK.out.lt (.inr ⟨h9, by omega⟩))
              clear h10 h9 hc
              go_wp2_with fail
              go_ret2
              rw [HB.out]
              exact ⟨by rw [HO.out]; rfl, rfl⟩
          · have e9 : ((k : Int) == 9) = false := by rw [beq_eq_false_iff_ne]; omega
            have e9' : (k == 9) = false := by rw [beq_eq_false_iff_ne]; omega
            have k8 : (k : Int) ≤ 8 := by have := HK.out.ten; omega
            have HO := Lib.hid (or_step (c := c) HK.out.lt (.inl (by omega)))
            by_cases hc : c.toNat < 128
            · have d1 : decide ((c.toNat : Int) < 128) = true := by rw [decide_eq_true_eq]; omega
              have HB := Lib.hid (HK.out.done HD.out (.inl (by omega)) hc)
              clear h10 h9 hc
              go_wp2_with fail
              go_ret2
              rw [HB.out]
              exact ⟨by rw [HO.out]; rfl, rfl⟩
            · have d1 : decide ((c.toNat : Int) < 128) = false := by rw [decide_eq_false_iff_not]; omega
              have NX := Lib.hid (HK.out.next HD.out (by omega) hc (by have := HN.out.2; have := HLT.out; omega))
              clear h10 h9 hc
              go_wp2_with fail
              go_roundw
              case rel => exact ⟨k + 1, _, by rw [HO.out], by rfl, trivial, NX⟩
              case measure =>
                show n - ((k : Int) + 1).toNat < n - (k : Int).toNat
                have := HLT.out
                omega
      · have hk : k = n := by have := HK.out.le; have := HN.out.2; omega
        have HE : Hid (firstL b 0 0 = (0, 0)) := Lib.hid (by
          rw [HK.out.is, List.drop_eq_nil_of_le (by have := HN.out.2; omega)]
          rfl)
        subst hk
        go_wp2_with fail
        go_ret2
        rw [HE.out]
        first | exact ⟨rfl, rfl⟩ | exact ⟨rfl, trivial⟩
end Go.Proofs.YteoeaojebklfjaaGreatDoor
namespace Go.Proofs.YteoeaojebklfjaaGreatDoor
open Go.RowKit Go.Maps
set_option linter.unusedVariables false
set_option maxRecDepth 20000

structure RdAt (w : World) (Q S : Nat) (b : List UInt8) (failed : Bool) : Prop where
  q : CellsR w Q [.pointer (some ⟨S, 0, none⟩)]
  s : ∃ v, CellsR w S [v, .bool failed] ∧ Vec w 1 v b.length (bv b) ∧ v.ownBlock ≠ some S
  ne : Q ≠ S
section
variable {w w' : World} {Q S : Nat} {b : List UInt8} {failed : Bool}
theorem RdAt.only {T : Nat → Prop} (h : RdAt w Q S b failed) (o : Only T w w') (hT : ∀ k, T k → w.heap.size ≤ k) : RdAt w' Q S b failed := by
  obtain ⟨v, h1, h2, h3⟩ := h.s
  exact ⟨h.q.kept o fun e => by have := hT _ e; have := h.q.lt; omega, ⟨v, h1.kept o fun e => by have := hT _ e; have := h1.lt; omega, h2.only o fun g hg e => by have := hT _ e; have := h2.lt hg; omega, h3⟩, h.ne⟩
theorem RdAt.new (h : RdAt w Q S b failed) (o : Only None' w w') : RdAt w' Q S b failed := h.only o fun _ e => e.elim
theorem rok_any (h : RdAt w Q S b failed) : Calls Tryz.prog 107 #[.pointer (some ⟨S, 0, none⟩)] w fun e w' => e = .returned (.bool (!failed)) ∧ w = w' := by
  obtain ⟨v, h1, h2, h3⟩ := h.s
  have s1 := h1.is 1 _ rfl
  clear h h1 h2 h3
  go_enter Tryz.func107, Tryz.ntmps107
  go_wp2_with fail
  go_ret
  exact ⟨rfl, rfl⟩
theorem ok_any (h : RdAt w Q S b failed) : Calls Tryz.prog 91 #[.pointer (some ⟨Q, 0, none⟩)] w fun e w' => e = .returned (.bool (!failed)) ∧ w = w' := by
  have q0 := h.q.is 0 _ rfl
  have HC := Lib.hid (rok_any h)
  clear h
  go_enter Tryz.func91, Tryz.ntmps91
  go_wp2_with fail
  refine HC.out.mono ?_
  rintro e w1 ⟨rfl, rfl⟩
  clear HC
  go_wp2_with fail
  go_ret
  exact ⟨rfl, rfl⟩
theorem rleft_any (h : RdAt w Q S b false) : Calls Tryz.prog 127 #[.pointer (some ⟨S, 0, none⟩)] w fun e w' => e = .returned (.int .i64 (b.length : Int)) ∧ w = w' := by
  obtain ⟨v, h1, h2, h3⟩ := h.s
  have s0 := h1.is 0 _ rfl
  have s1 := h1.is 1 _ rfl
  obtain ⟨a, c, rfl, _⟩ := h2.shape
  obtain ⟨n, hn⟩ : ∃ n, n = b.length := ⟨_, rfl⟩
  rw [← hn] at s0 ⊢
  clear h h1 h2 h3 hn
  go_enter Tryz.func127, Tryz.ntmps127
  go_wp2_with fail
  go_ret
  exact ⟨rfl, rfl⟩
theorem left_any (h : RdAt w Q S b false) : Calls Tryz.prog 108 #[.pointer (some ⟨Q, 0, none⟩)] w fun e w' => e = .returned (.int .i64 (b.length : Int)) ∧ w = w' := by
  have q0 := h.q.is 0 _ rfl
  have HC := Lib.hid (rleft_any h)
  clear h
  go_enter Tryz.func108, Tryz.ntmps108
  go_wp2_with fail
  refine HC.out.mono ?_
  rintro e w1 ⟨rfl, rfl⟩
  clear HC
  go_wp2_with fail
  go_ret
  exact ⟨rfl, rfl⟩
theorem done_any (h : RdAt w Q S b failed) : Calls Tryz.prog 92 #[.pointer (some ⟨Q, 0, none⟩)] w fun e w' => e = .returned (.bool (!failed && decide (b.length = 0))) ∧ w = w' := by
  have HC := Lib.hid (ok_any h)
  cases failed with
  | true =>
    clear h
    go_enter Tryz.func92, Tryz.ntmps92
    go_wp2_with fail
    refine HC.out.mono ?_
    rintro e w1 ⟨rfl, rfl⟩
    clear HC
    go_wp2_with fail
    go_ret
    exact ⟨rfl, rfl⟩
  | false =>
    have HL := Lib.hid (left_any h)
    obtain ⟨n, hn⟩ : ∃ n, n = b.length := ⟨_, rfl⟩
    have HE : Hid (((n : Int) == 0) = decide (n = 0)) := Lib.hid (by rw [Bool.eq_iff_iff, beq_iff_eq, decide_eq_true_eq]; omega)
    rw [← hn] at HL ⊢
    clear h hn
    go_enter Tryz.func92, Tryz.ntmps92
    go_wp2_with fail
    refine HC.out.mono ?_
    rintro e w1 ⟨rfl, rfl⟩
    clear HC
    go_wp2_with fail
    refine HL.out.mono ?_
    rintro e w1 ⟨rfl, rfl⟩
    clear HL
    go_wp2_with fail
    go_ret
    exact ⟨by rw [HE.out]; rfl, rfl⟩
theorem RdAt.fail (h : RdAt w Q S b failed) : RdAt (w.setCell ⟨S, 1, none⟩ (.bool true)) Q S b true ∧ Only (fun k => k = S) w (w.setCell ⟨S, 1, none⟩ (.bool true)) := by
  obtain ⟨v, h1, h2, h3⟩ := h.s
  have o : Only (fun k => k = S) w (w.setCell ⟨S, 1, none⟩ (.bool true)) := (Only.refl (fun k => k = S) w).setCell (p := ⟨S, 1, none⟩) rfl _
  exact ⟨⟨h.q.kept o h.ne, ⟨v, h1.set (i := 1) (by show 1 < 2; omega) (.bool true), h2.only o fun g hg e => h3 (by rw [hg, e]), h3⟩, h.ne⟩, o⟩
theorem told_int (h : RdAt w Q S b failed) (x : Int) (ok : Bool) : Calls Tryz.prog 110 #[.pointer (some ⟨Q, 0, none⟩), .int .i64 x, .bool ok] w fun e w' => e = .returned (if failed || !ok then .int .i64 0 else .int .i64 x) ∧ RdAt w' Q S b (failed || !ok) ∧ Only (fun k => k = S) w w' := by
  have H := Lib.hid h
  obtain ⟨v, h1, h2, h3⟩ := h.s
  have q0 := h.q.is 0 _ rfl
  have s1 := h1.is 1 _ rfl
  have f1 := h1.thaw 1
  clear h h1 h2 h3
  cases ok with
  | true =>
    cases failed
    all_goals
      go_enter Tryz.func110, Tryz.ntmps110
      go_wp2_with fail
      go_ret
      exact ⟨rfl, H.out, Only.refl _ _⟩
  | false =>
    have HF := Lib.hid H.out.fail
    cases failed
    all_goals
      go_enter Tryz.func110, Tryz.ntmps110
      go_wp2_with fail
      go_ret
      exact ⟨rfl, HF.out.1, HF.out.2⟩
theorem told_str (h : RdAt w Q S b failed) (x : ByteArray) (ok : Bool) : Calls Tryz.prog 111 #[.pointer (some ⟨Q, 0, none⟩), .string x, .bool ok] w fun e w' => e = .returned (if failed || !ok then .string ⟨#[]⟩ else .string x) ∧ RdAt w' Q S b (failed || !ok) ∧ Only (fun k => k = S) w w' := by
  have H := Lib.hid h
  obtain ⟨v, h1, h2, h3⟩ := h.s
  have q0 := h.q.is 0 _ rfl
  have s1 := h1.is 1 _ rfl
  have f1 := h1.thaw 1
  clear h h1 h2 h3
  cases ok with
  | true =>
    cases failed
    all_goals
      go_enter Tryz.func111, Tryz.ntmps111
      go_wp2_with fail
      go_ret
      exact ⟨rfl, H.out, Only.refl _ _⟩
  | false =>
    have HF := Lib.hid H.out.fail
    cases failed
    all_goals
      go_enter Tryz.func111, Tryz.ntmps111
      go_wp2_with fail
      go_ret
      exact ⟨rfl, HF.out.1, HF.out.2⟩
theorem RdAt.taken {v v2 : Value} {n : Nat} (h : RdAt w Q S b false) (h1 : CellsR w S [v, .bool false]) (hv2 : Vec w 1 v2 (b.drop n).length (bv (b.drop n))) (hb : v2.ownBlock ≠ some S) : RdAt (w.setCell ⟨S, 0, none⟩ v2) Q S (b.drop n) false ∧ Only (fun k => k = S) w (w.setCell ⟨S, 0, none⟩ v2) := by
  have o : Only (fun k => k = S) w (w.setCell ⟨S, 0, none⟩ v2) := (Only.refl (fun k => k = S) w).setCell (p := ⟨S, 0, none⟩) rfl _
  exact ⟨⟨h.q.kept o h.ne, ⟨v2, h1.set (i := 0) (by show 0 < 2; omega) v2, hv2.only o fun g hg e => hb (by rw [hg, e]), hb⟩, h.ne⟩, o⟩
theorem bv_drop_ (s : List UInt8) (m : Nat) : (bv s).drop m = bv (s.drop m) := by simp [bv, List.map_drop]
theorem vec_drop {g off cap m n : Nat} (h : Vec w 1 (.slice (some ⟨g, off, none⟩) m cap) m (bv b)) (hn : n ≤ m) (hm : m = b.length) : Vec w 1 (.slice (if cap = n then some ⟨g, off, none⟩ else some ⟨g, off + n, none⟩) (m - n) (cap - n)) (b.drop n).length (bv (b.drop n)) := by
  have := h.cut hn
  rw [Nat.mul_one, bv_drop_] at this
  rw [List.length_drop, ← hm]
  exact this
theorem rd_take {g off cap m n : Nat} (h : Vec w 1 (.slice (some ⟨g, off, none⟩) m cap) m (bv b)) (hn : n ≤ m) (o : Only (fun k => k = S) w w') (hg : g ≠ S) : Rd w' 1 (.slice (some ⟨g, off, none⟩) n cap) n (bv (b.take n)) := by
  have hl := h.len
  rw [bv_length] at hl
  rcases h.form with ⟨h1, _⟩ | ⟨g', off', cap', e, h1, h2, h3, h4, h5⟩
  · cases h1
  · simp only [Value.slice.injEq, Option.some.injEq, Addr.mk.injEq, and_true, true_and] at e
    obtain ⟨⟨rfl, rfl⟩, rfl⟩ := e
    refine ⟨by rw [bv_length, List.length_take]; omega, .inr ⟨⟨g, off, none⟩, cap, rfl, by omega, h2, fun j u hu => ?_⟩⟩
    rw [add_mid' (⟨g, off, none⟩) j rfl]
    have hj : (bv b)[j]? = some u := by
      have e : bv (b.take n) = (bv b).take n := by simp [bv, List.map_take]
      rw [e] at hu
      have hlt := (List.getElem?_eq_some_iff.1 hu).1
      rw [List.length_take] at hlt
      rwa [List.getElem?_take_of_lt (by omega)] at hu
    exact (o.cell h3 hg _).trans (h4 j u hj)
theorem take_any (h : RdAt w Q S b false) (n : Nat) (hn : n ≤ b.length) (hb : b.length ≤ 1000000) : Calls Tryz.prog 112 #[.pointer (some ⟨S, 0, none⟩), .int .i64 (n : Int)] w fun e w' => ∃ v, e = .returned v ∧ Rd w' 1 v n (bv (b.take n)) ∧ RdAt w' Q S (b.drop n) false ∧ Only (fun k => k = S) w w' := by
  have H := Lib.hid h
  obtain ⟨v, h1, h2, h3⟩ := h.s
  have s0 := h1.is 0 _ rfl
  have f0 := h1.thaw 0
  have H1 := Lib.hid (And.intro h1 (And.intro h2 h3))
  rcases h2.form with ⟨rfl, h0⟩ | ⟨g, off, cap, rfl, g1, g2, g3, g4, g5⟩
  · have hb0 : b = [] := List.eq_nil_of_length_eq_zero h0
    subst hb0
    obtain rfl : n = 0 := by simpa using hn
    clear h h1 h2 h3 h0 hn hb
    go_enter Tryz.func112, Tryz.ntmps112
    go_wp2_with fail
    go_ret
    obtain ⟨p1, p2⟩ := H.out.taken (n := 0) H1.out.1 H1.out.2.1 H1.out.2.2
    exact ⟨_, rfl, ⟨rfl, .inl ⟨rfl, rfl⟩⟩, p1, p2⟩
  · obtain ⟨m, hm⟩ : ∃ m, m = b.length := ⟨_, rfl⟩
    have HM := Lib.hid hm
    rw [← hm] at s0 g1
    have n0 : (0 : Int) ≤ (n : Int) := by omega
    have n1 : (n : Int) ≤ (m : Int) := by omega
    have n2 : (n : Int) ≤ (cap : Int) := by omega
    have hgS : g ≠ S := fun e => h3 (by rw [← e]; rfl)
    have HV2 := Lib.hid (vec_drop (n := n) h2 hn rfl)
    have HR := Lib.hid (fun w' (o : Only (fun k => k = S) w w') => rd_take (n := n) h2 hn o hgS)
    have HGS := Lib.hid hgS
    rw [← hm] at HV2
    clear h h1 h2 h3 g2 g3 g4 g5 hn hb hm hgS
    by_cases hc : cap = n
    · have HV3 : Hid (Vec w 1 (.slice (some ⟨g, off, none⟩) 0 0) (b.drop n).length (bv (b.drop n))) := Lib.hid (by have hv := HV2.out; have e0 : m - n = 0 := (by omega); rwa [if_pos hc, hc, Nat.sub_self, e0] at hv)
      subst hc
      clear HV2
      go_enter Tryz.func112, Tryz.ntmps112
      go_wp2_with fail
      go_ret
      obtain ⟨p1, p2⟩ := H.out.taken (n := cap) H1.out.1 HV3.out (fun e => HGS.out (by injection e))
      exact ⟨_, rfl, HR.out _ p2, p1, p2⟩
    · have HV3 : Hid (Vec w 1 (.slice (some ⟨g, off + n, none⟩) (m - n) (cap - n)) (b.drop n).length (bv (b.drop n))) := Lib.hid (by have hv := HV2.out; rwa [if_neg hc] at hv)
      clear HV2
      go_enter Tryz.func112, Tryz.ntmps112
      go_wp2_with fail
      go_ret
      obtain ⟨p1, p2⟩ := H.out.taken (n := n) H1.out.1 HV3.out (fun e => HGS.out (by injection e))
      exact ⟨_, rfl, HR.out _ p2, p1, p2⟩
end
end Go.Proofs.YteoeaojebklfjaaGreatDoor
namespace Go.Proofs.YteoeaojebklfjaaGreatDoor
open Go.RowKit Go.Maps
set_option linter.unusedVariables false
set_option maxRecDepth 20000

theorem firstL_le : ∀ (b : List UInt8) (i u : Nat), (firstL b i u).2 ≤ i + b.length
  | [], i, u => by simp [firstL]
  | c :: r, i, u => by
    unfold firstL
    split
    · simp
    · split
      · simp only [List.length_cons]; omega
      · have := firstL_le r (i + 1) (u + c.toNat % 128 * 128 ^ i)
        simp only [List.length_cons]
        omega
def badU (b : List UInt8) : Prop := (firstL b 0 0).2 = 0 ∨ (1 < (firstL b 0 0).2 ∧ b.getD ((firstL b 0 0).2 - 1) 0 = 0)
instance (b : List UInt8) : Decidable (badU b) := by unfold badU; infer_instance
theorem u8_zero (c : UInt8) : ((c.toNat : Int) == 0) = decide (c = 0) := by
  rw [Bool.eq_iff_iff, beq_iff_eq, decide_eq_true_eq]
  constructor
  · intro h
    have h0 : c.toNat = 0 := by omega
    apply UInt8.toNat_inj.1
    exact h0
  · rintro rfl
    rfl
section
variable {w w' : World} {Q S : Nat} {b : List UInt8}
set_option maxHeartbeats 1000000 in
theorem ruv_bad (h : RdAt w Q S b false) (hb : b.length ≤ 1000000) (hbad : badU b) : Calls Tryz.prog 109 #[.pointer (some ⟨Q, 0, none⟩)] w fun e w' => e = .returned (.tuple #[.int .u64 0, .bool false]) ∧ w = w' := by
  have HOK := Lib.hid (ok_any h)
  have q0 := h.q.is 0 _ rfl
  obtain ⟨v, h1, h2, h3⟩ := h.s
  have s0 := h1.is 0 _ rfl
  have HF := Lib.hid (first_any h2 hb)
  have hle := firstL_le b 0 0
  unfold badU at hbad
  obtain ⟨u, hu⟩ : ∃ u, u = (firstL b 0 0).1 := ⟨_, rfl⟩
  obtain ⟨n, hn⟩ : ∃ n, n = (firstL b 0 0).2 := ⟨_, rfl⟩
  rw [← hu, ← hn] at HF
  rw [← hn] at hle hbad
  clear hu hn
  rcases hbad with h0 | ⟨hn1, hz⟩
  · subst h0
    clear h h1 h2 h3 hb hle
    go_enter Tryz.func109, Tryz.ntmps109
    go_wp2_with fail
    refine HOK.out.mono ?_
    rintro e w1 ⟨rfl, rfl⟩
    clear HOK
    go_wp2_with fail
    refine HF.out.mono ?_
    rintro e w1 ⟨rfl, rfl⟩
    clear HF
    go_wp2_with fail
    go_ret2
    exact ⟨rfl, rfl⟩
  · obtain ⟨g, off, cap, rfl, g1, g2, g3, g4, g5⟩ := h2.at_ (by omega)
    have kc : w.cell? ⟨g, off + ((n : Int) - 1).toNat, none⟩ = some (.int .u8 0) := by
      have e : ((n : Int) - 1).toNat = n - 1 := by omega
      rw [e]
      refine g4 (n - 1) _ ?_
      have hk : n - 1 < b.length := by omega
      rw [List.getD_eq_getElem?_getD, List.getElem?_eq_getElem hk] at hz
      have hz : b[n - 1] = 0 := hz
      simp [bv, hk, hz]
    have kc' : w.cell? ⟨g, off + (n - 1), none⟩ = some (.int .u8 0) := by
      have e : ((n : Int) - 1).toNat = n - 1 := by omega
      rwa [e] at kc
    obtain ⟨m, hm⟩ : ∃ m, m = b.length := ⟨_, rfl⟩
    rw [← hm] at s0 hle HF
    have k0 : (0 : Int) ≤ (n : Int) - 1 := by omega
    have k1 : (n : Int) - 1 < (m : Int) := by omega
    have k2 : decide ((1 : Int) < (n : Int)) = true := by rw [decide_eq_true_eq]; omega
    have k3 : decide ((n : Int) ≤ 0) = false := by rw [decide_eq_false_iff_not]; omega
    have k3' : (n == 0) = false := by rw [beq_eq_false_iff_ne]; omega
    have k4 : (n : Int) ≤ 1000001 := by omega
    have k6 : ¬ n = 0 := by omega
    have k7 : decide (n = 0) = false := by rw [decide_eq_false_iff_not]; omega
    have k5 : decide (1 < n) = true := by rw [decide_eq_true_eq]; omega
    clear h h1 h2 h3 hb hle g1 g2 g3 g4 g5 hn1 hz hm
    go_enter Tryz.func109, Tryz.ntmps109
    go_wp2_with fail
    refine HOK.out.mono ?_
    rintro e w1 ⟨rfl, rfl⟩
    clear HOK
    go_wp2_with fail
    refine HF.out.mono ?_
    rintro e w1 ⟨rfl, rfl⟩
    clear HF
    go_wp2_with fail
    go_ret2
    exact ⟨rfl, rfl⟩
set_option maxHeartbeats 1000000 in
theorem ruv_good (h : RdAt w Q S b false) (hb : b.length ≤ 1000000) (hgood : ¬ badU b) : Calls Tryz.prog 109 #[.pointer (some ⟨Q, 0, none⟩)] w fun e w' => e = .returned (.tuple #[.int .u64 ((firstL b 0 0).1 : Int), .bool true]) ∧ RdAt w' Q S (b.drop (firstL b 0 0).2) false ∧ Only (fun k => k = S) w w' := by
  have HOK := Lib.hid (ok_any h)
  have q0 := h.q.is 0 _ rfl
  obtain ⟨v, h1, h2, h3⟩ := h.s
  have s0 := h1.is 0 _ rfl
  have HF := Lib.hid (first_any h2 hb)
  have hle := firstL_le b 0 0
  unfold badU at hgood
  obtain ⟨u, hu⟩ : ∃ u, u = (firstL b 0 0).1 := ⟨_, rfl⟩
  obtain ⟨n, hn⟩ : ∃ n, n = (firstL b 0 0).2 := ⟨_, rfl⟩
  rw [← hu, ← hn] at HF ⊢
  rw [← hn] at hle hgood
  have HT := Lib.hid (take_any h n (by omega) hb)
  have hn0 : n ≠ 0 := fun e => hgood (.inl e)
  clear hu hn
  have k3 : decide ((n : Int) ≤ 0) = false := by rw [decide_eq_false_iff_not]; omega
  have k3' : (n == 0) = false := by rw [beq_eq_false_iff_ne]; omega
  have k6 : ¬ n = 0 := by omega
  have k7 : decide (n = 0) = false := by rw [decide_eq_false_iff_not]; omega
  by_cases hn1 : 1 < n
  · obtain ⟨g, off, cap, rfl, g1, g2, g3, g4, g5⟩ := h2.at_ (by omega)
    obtain ⟨c, hc⟩ : ∃ c : UInt8, c = b.getD (n - 1) 0 := ⟨_, rfl⟩
    have kc' : w.cell? ⟨g, off + (n - 1), none⟩ = some (.int .u8 (c.toNat : Int)) := by
      refine g4 (n - 1) _ ?_
      have hk : n - 1 < b.length := by omega
      rw [List.getD_eq_getElem?_getD, List.getElem?_eq_getElem hk] at hc
      have hc : c = b[n - 1] := hc
      simp [bv, hk, hc]
    have hc0 : c.toNat ≠ 0 := fun e => hgood (.inr ⟨hn1, by rw [← hc]; exact UInt8.toNat_inj.1 e⟩)
    obtain ⟨z, hz⟩ : ∃ z : Nat, z = c.toNat := ⟨_, rfl⟩
    rw [← hz] at kc' hc0
    have z1 : ((z : Int) == 0) = false := by rw [beq_eq_false_iff_ne]; omega
    have z2 : (z == 0) = false := by rw [beq_eq_false_iff_ne]; omega
    have kc : w.cell? ⟨g, off + ((n : Int) - 1).toNat, none⟩ = some (.int .u8 (z : Int)) := by
      have e : ((n : Int) - 1).toNat = n - 1 := by omega
      rwa [e]
    obtain ⟨m, hm⟩ : ∃ m, m = b.length := ⟨_, rfl⟩
    rw [← hm] at s0 hle HF
    have k0 : (0 : Int) ≤ (n : Int) - 1 := by omega
    have k1 : (n : Int) - 1 < (m : Int) := by omega
    have k2 : decide ((1 : Int) < (n : Int)) = true := by rw [decide_eq_true_eq]; omega
    have k4 : (n : Int) ≤ 1000001 := by omega
    have k5 : decide (1 < n) = true := by rw [decide_eq_true_eq]; omega
    clear h h1 h2 h3 hb hle g1 g2 g3 g4 g5 hn1 hm hgood hc hc0 hz hn0
    go_enter Tryz.func109, Tryz.ntmps109
    go_wp2_with fail
    refine HOK.out.mono ?_
    rintro e w1 ⟨rfl, rfl⟩
    clear HOK
    go_wp2_with fail
    refine HF.out.mono ?_
    rintro e w1 ⟨rfl, rfl⟩
    clear HF
    go_wp2_with fail
    refine HT.out.mono ?_
    rintro e w1 ⟨v2, rfl, hr, hd, o⟩
    have HE := Lib.hid (And.intro hd o)
    clear HT hr hd o kc kc' s0 q0
    go_wp2_with fail
    go_ret2
    exact ⟨rfl, HE.out⟩
  · obtain rfl : n = 1 := by omega
    obtain ⟨a0, c0, rfl, _⟩ := h2.shape
    obtain ⟨m, hm⟩ : ∃ m, m = b.length := ⟨_, rfl⟩
    rw [← hm] at s0 hle HF
    clear h h1 h2 h3 hb hle hn1 hm hgood hn0 k3 k3' k6 k7
    go_enter Tryz.func109, Tryz.ntmps109
    go_wp2_with fail
    refine HOK.out.mono ?_
    rintro e w1 ⟨rfl, rfl⟩
    clear HOK
    go_wp2_with fail
    refine HF.out.mono ?_
    rintro e w1 ⟨rfl, rfl⟩
    clear HF
    go_wp2_with fail
    refine HT.out.mono ?_
    rintro e w1 ⟨v2, rfl, hr, hd, o⟩
    have HE := Lib.hid (And.intro hd o)
    clear HT hr hd o s0 q0
    go_wp2_with fail
    go_ret2
    exact ⟨rfl, HE.out⟩
end
end Go.Proofs.YteoeaojebklfjaaGreatDoor
