/- DiskLasts: the walk. -/
import Derived.Test.YteoeaojebklfjaaE5
import Derived.Deep.QuietTactic
namespace Go.Proofs.Yteoeaojebklfjaa
open Go.RowKit Go.Maps
set_option linter.unusedVariables false

set_option maxRecDepth 20000 in
theorem lasts_long (x : Int) (a : Option Addr) (n c : Nat) (v : Value) (w : World) (h : 80 < n) :
    Calls Try.prog 4 #[.int .i64 x, .slice a n c, v] w fun r w' => r = .returned (.bool true) ∧ Below w.heap.size w w' := by
  have h1 : (80 : Int) < (n : Int) := by omega
  clear h
  go_enter Try.func4, Try.ntmps4
  go_wp2_with fail
  refine (works_any _).mono ?_
  rintro r w1 ⟨rfl, o1⟩
  have O1 := Lib.hid o1
  clear o1
  go_wp2_with fail
  refine (works_any _).mono ?_
  rintro r w2 ⟨rfl, o2⟩
  have O2 := Lib.hid (O1.out.trans o2)
  clear o2
  go_wp2_with fail
  go_ret
  exact ⟨rfl, O2.out.below (Nat.le_refl _) fun _ h => h.elim⟩

theorem u64_nonneg (x : Int) : 0 ≤ IntKind.u64.wrap x := by
  unfold IntKind.wrap
  simp only [IntKind.signed, Bool.false_and, if_false]
  exact Int.emod_nonneg _ (by decide)
theorem mod_is (x k : Int) (hk : 0 < k) (hk' : k ≤ 1000) : ∃ m : Nat, wrap64 ((IntKind.u64.wrap x).tmod k) = (m : Int) ∧ (m : Int) < k := by
  have h0 := u64_nonneg x
  have e : (IntKind.u64.wrap x).tmod k = (IntKind.u64.wrap x) % k := Int.tmod_eq_emod_of_nonneg h0
  have h1 := Int.emod_nonneg (IntKind.u64.wrap x) (Int.ne_of_gt hk)
  have h2 := Int.emod_lt_of_pos (IntKind.u64.wrap x) hk
  refine ⟨((IntKind.u64.wrap x) % k).toNat, ?_, by omega⟩
  rw [e, IntWalk.wrap64_in _ (by omega)]
  omega
theorem mod12 (x : Int) : ∃ N : Nat, wrap64 (1 + wrap64 ((IntKind.u64.wrap x).tmod 12)) = (N : Int) ∧ 1 ≤ N ∧ N ≤ 12 := by
  obtain ⟨m, h1, h2⟩ := mod_is x 12 (by decide) (by decide)
  refine ⟨m + 1, ?_, by omega, by omega⟩
  rw [h1, IntWalk.wrap64_in _ (by omega)]
  omega
theorem at_mod {k N : Nat} (hN : 1 ≤ N) (hk : k < 256) : (wrap64 (k : Int)).tmod (N : Int) = ((k % N : Nat) : Int) := by
  rw [IntWalk.wrap64_in _ (by omega)]
  rfl

/-- how things stand in the loop: a disk d, of Bd with Wd waiting; the rows of bytes and of what waits -/
structure LS (w0 w : World) (N D : Nat) (F : Nat → Prop) (d : Dk) (g : Nat) (V : Value) (Bd : List UInt8) (Wd : List (Nat × UInt8)) (Br : List UInt8) (Ws : List (Nat × UInt8)) : Prop where
  dsk : Dsk w0 w D F d
  bytes : Bytes d Bd Wd
  nB : Bd.length = N
  nR : Br.length = N
  at_ : ∀ p ∈ Ws, p.1 < N
  last : Vec w 1 (.slice (some ⟨g, 0, none⟩) N N) N (by_ Br)
  wait : Vec w 3 V Ws.length (Ws.flatMap pv)
  gF : ¬ F g
  g0 : w0.heap.size ≤ g
  gl : g < w.heap.size
  vF : ∀ j, V.ownBlock = some j → ¬ F j ∧ j ≠ g ∧ w0.heap.size ≤ j

section
variable {w0 w w' : World} {N D : Nat} {F F' : Nat → Prop} {d d' : Dk} {g : Nat} {V : Value} {Bd Br Bd' : List UInt8} {Wd Ws Wd' : List (Nat × UInt8)}
theorem LS.new (h : LS w0 w N D F d g V Bd Wd Br Ws) (o : Only None' w w') : LS w0 w' N D F d g V Bd Wd Br Ws :=
  ⟨h.dsk.new o, h.bytes, h.nB, h.nR, h.at_, h.last.only o fun _ _ e => e, h.wait.only o fun _ _ e => e, h.gF, h.g0, Nat.lt_of_lt_of_le h.gl o.size, h.vF⟩
/-- the disk turns -/
theorem LS.disk (h : LS w0 w N D F d g V Bd Wd Br Ws) (hd : Dsk w0 w' D F' d') (k : Kept F F' w w') (hb : Bytes d' Bd' Wd') (hn : Bd'.length = N) : LS w0 w' N D F' d' g V Bd' Wd' Br Ws :=
  ⟨hd, hb, hn, h.nR, h.at_, h.last.only k.only fun j hj e => by injection hj with hj; subst hj; exact h.gF e, h.wait.only k.only fun j hj => (h.vF j hj).1, fun e => (k.fresh g e).elim h.gF fun e => by have := h.gl; omega, h.g0, Nat.lt_of_lt_of_le h.gl k.only.size,
    fun j hj => ⟨fun e => (k.fresh j e).elim (h.vF j hj).1 fun e => by have := h.wait.lt hj; omega, (h.vF j hj).2⟩⟩
/-- one more waits -/
theorem LS.more (h : LS w0 w N D F d g V Bd Wd Br Ws) {p : Nat × UInt8} (hp : p.1 < N) {V' : Value} {o : Obj} (hv : Vec w' 3 V' (Ws.length + 1) (Ws.flatMap pv ++ pv p)) (hg : (w.alloc o).grownBy w' V.ownBlock)
    (hf : ∀ k, V'.ownBlock = some k → V.ownBlock = some k ∨ (w.alloc o).heap.size ≤ k) : LS w0 w' N D F d g V' Bd Wd Br (Ws ++ [p]) := by
  have ho : Only (fun k => V.ownBlock = some k) w w' := ((Only.refl _ w).alloc o).grown hg fun k hk => hk
  have hl := h.gl
  refine ⟨⟨h.dsk.at_.only ho fun k hk e => (h.vF k e).1 hk, h.dsk.fresh, h.dsk.only.cons_new ho fun k hk => (h.vF k hk).2.2⟩, h.bytes, h.nB, h.nR, ?_, h.last.only ho fun j hj e => (h.vF j e).2.1 (by injection hj with hj; exact hj.symm), ?_, h.gF, h.g0, Nat.lt_of_lt_of_le hl ho.size, fun j hj => ?_⟩
  · intro q hq
    rcases List.mem_append.1 hq with hq | hq
    · exact h.at_ q hq
    · rw [List.mem_singleton.1 hq]; exact hp
  · rw [List.length_append, List.flatMap_append]
    simp only [List.flatMap_cons, List.flatMap_nil, List.append_nil, List.length_cons, List.length_nil, Nat.zero_add]
    exact hv
  · rcases hf j hj with h1 | h1
    · exact h.vF j h1
    · simp at h1
      exact ⟨fun e => by have := h.dsk.at_.lt e; omega, by omega, by have := h.dsk.only.size; omega⟩
/-- a byte is set -/
theorem LS.set (h : LS w0 w N D F d g V Bd Wd Br Ws) {i : Nat} (hi : i < N) (c : UInt8) : LS w0 (w.setCell ⟨g, i, none⟩ (.int .u8 (c.toNat : Int))) N D F d g V Bd Wd (Br.set i c) Ws := by
  have ho : Only (fun k => k = g) w (w.setCell ⟨g, i, none⟩ (.int .u8 (c.toNat : Int))) := (Only.refl (fun k => k = g) w).setCell (p := ⟨g, i, none⟩) rfl _
  refine ⟨⟨h.dsk.at_.only ho fun k hk e => h.gF (e ▸ hk), h.dsk.fresh, h.dsk.only.cons_new ho fun k hk => hk ▸ h.g0⟩, h.bytes, h.nB, by rw [List.length_set]; exact h.nR, h.at_, ?_, h.wait.only ho fun j hj e => (h.vF j hj).2.1 e, h.gF, h.g0, Nat.lt_of_lt_of_le h.gl ho.size, h.vF⟩
  have := h.last.set1 hi (.int .u8 (c.toNat : Int))
  rw [by_, List.map_set]
  exact this
theorem LS.nil (h : LS w0 w N D F d g V Bd Wd Br Ws) : LS w0 w N D F d g (.slice none 0 0) Bd Wd Br [] :=
  ⟨h.dsk, h.bytes, h.nB, h.nR, (fun p hp => by cases hp), h.last, Vec.nil _ _, h.gF, h.g0, h.gl, fun j hj => by cases hj⟩
theorem by_cell {l : List UInt8} {j : Nat} (hj : j < l.length) : (by_ l)[j]? = some (.int .u8 (l[j].toNat : Int)) := by simp [by_, List.getElem?_eq_getElem hj]
theorem LS.cell (h : LS w0 w N D F d g V Bd Wd Br Ws) {i : Nat} (hi : i < Br.length) : w.cell? ⟨g, i, none⟩ = some (.int .u8 (Br[i].toNat : Int)) := by
  have := h.last.range i _ (by_cell hi)
  rwa [Nat.zero_add] at this
theorem LS.free (h : LS w0 w N D F d g V Bd Wd Br Ws) {i : Nat} (hi : i < N) : w.frozen? ⟨g, i, none⟩ = false := (h.last.free0 (k := i) (by omega)).2
theorem LS.swap (h : LS w0 w N D F d g V Bd Wd Br Ws) {D' : Nat} (hd : Dsk w0 w D' F' d') (hF : ∀ i, F' i → i ≠ g ∧ V.ownBlock ≠ some i) (hb : Bytes d' Bd' Wd') (hn : Bd'.length = N) : LS w0 w N D' F' d' g V Bd' Wd' Br Ws :=
  ⟨hd, hb, hn, h.nR, h.at_, h.last, h.wait, fun e => (hF g e).1 rfl, h.g0, h.gl, fun j hj => ⟨fun e => (hF j e).2 hj, (h.vF j hj).2⟩⟩
/-- what waits, number j -/
theorem LS.waiting (h : LS w0 w N D F d g V Bd Wd Br Ws) {j : Nat} (hj : j < Ws.length) : ∃ b o c, V = .slice (some ⟨b, o, none⟩) Ws.length c ∧ w.cell? ⟨b, o + j * 3, none⟩ = some (.int .u8 (Ws[j].1 : Int)) ∧ w.cell? ⟨b, o + j * 3 + 1, none⟩ = some (.int .u8 (Ws[j].2.toNat : Int)) := by
  obtain ⟨b, o, c, rfl, _⟩ := h.wait.at_ (by omega)
  have he := h.wait.elem (fun y _ => pv_length y) hj
  exact ⟨b, o, c, rfl, he 0 _ rfl, he 1 _ rfl⟩
end

theorem Dk.live {d : Dk} (h : d.set = false) : d.due = false := by unfold Dk.due; rw [h]; rfl
theorem Dk.live_err {d : Dk} (h : d.set = false) : d.err = 0 := by unfold Dk.err; rw [Dk.live h]; rfl
theorem Dk.live_write {d : Dk} (h : d.set = false) (i : Nat) (s : Sec) : d.write i s = (d.wrote i s).tick := by unfold Dk.write; rw [if_neg (by rw [Dk.live h]; decide)]
theorem Dk.live_flush {d : Dk} (h : d.set = false) : d.flush = d.tick.flushed := by unfold Dk.flush; rw [if_neg (by rw [Dk.live h]; decide)]

theorem info32 : Try.prog.info? 32 = some Try.t32 := by kernel_rfl
theorem t32_zero : Try.t32.zero = some (.agg #[.int .u8 0, .int .u8 0, .bool false]) := by kernel_rfl
theorem t32_size : Try.t32.size = 3 := by kernel_rfl
theorem t32_bytes : Try.t32.bytes = 3 := by kernel_rfl
theorem u8_in {q : Nat} (h : q < 256) : IntKind.u8.wrap (q : Int) = (q : Int) := by
  unfold IntKind.wrap
  simp only [IntKind.signed, Bool.false_and, if_false]
  exact Int.emod_eq_of_lt (by omega) (by show (q : Int) < 256; omega)
theorem outRd {w : World} {F : Nat → Prop} {v : Value} {n : Nat} {xs : List Value} (R : Rd w 1 v n xs) (hF : ∀ k, F k → w.heap.size ≤ k) : xs ≠ [] → ∀ g, v.ownBlock = some g → ¬ F g := fun hx g hg e => by
  have := R.lt hx hg
  have := hF g e
  omega
theorem news_row (w : World) (t : TypeId) (l : List Value) : ∀ j u, l[j]? = some u → (w.alloc (.cells l.toArray t)).cell? ((⟨w.heap.size, 0, none⟩ : Addr).add j) = some u := fun j u hu => by
  rw [add_mid' (⟨w.heap.size, 0, none⟩) j rfl, Nat.zero_add, World.cell?_alloc_new]
  simpa using hu
/-- in the loop -/
structure Lo (w0 w : World) (N D g : Nat) (k : Nat) (V : Value) (F : Nat → Prop) (d : Dk) (Bs : List UInt8) (Ws : List (Nat × UInt8)) : Prop where
  ls : LS w0 w N D F d g V Bs Ws Bs Ws
  few : d.Few (2 * k)
  dead : d.dead = false
  set : d.set = false
  many : Ws.length ≤ k

set_option maxRecDepth 20000 in
set_option maxHeartbeats 4000000 in
theorem lasts_main (x : Int) (a : Option Addr) (n c : Nat) (ps : List Put) (w : World) (P : Puts w a n ps) (v : Value) (keep : List Bool) (R : Rd w 1 v keep.length (bo keep)) (hk : keep.length ≤ 140737488351232) (h : n ≤ 80) :
    Calls Try.prog 4 #[.int .i64 x, .slice a n c, v] w fun r w' => r = .returned (.bool true) ∧ Below w.heap.size w w' := by
  obtain ⟨ka, kn, kc, e⟩ := R.shape'
  subst e
  have hkn : kn = keep.length := by
    obtain ⟨a, c, e⟩ := R.shape
    injection e
  subst hkn
  have h1 : ¬ (80 : Int) < (n : Int) := by omega
  have PP := Lib.hid P
  have RR := Lib.hid R
  have HK := Lib.hid hk
  have H80 := Lib.hid h
  obtain ⟨N, hN, hN1, hN12⟩ := mod12 x
  clear P R hk h
  go_enter Try.func4, Try.ntmps4
  go_wp2_with fail
  refine (works_any _).mono ?_
  rintro r w1 ⟨rfl, o1⟩
  have O1 := Lib.hid o1
  clear o1
  go_wp2_with fail
  rw [hN]
  clear hN
  refine (new_dsk N N rfl w _ O1.out hN1 (by omega)).mono ?_
  rintro r w2 ⟨D, F2, rfl, h1, -, -⟩
  have S2 := Lib.hid h1
  clear h1
  have p1 : (0 : Int) ≤ (N : Int) := by omega
  have p2 : ¬ (N : Int) = 0 := by omega
  go_wp2_with (at_make; refine wpList_make_full _ rfl _ _ 34 rfl w2.heap.size 5 Try.t5 (.int .u8 0) 1 Try.underlying34 info5 t5_zero t5_size .i64 .i64 (N : Int) (N : Int) N rfl rfl rfl rfl (by rw [t5_bytes]; omega) (by unfold maxLen; omega) (Nat.le_refl _) ?_; intro w3 hown hgrow)
  have hown := Vec.of_owns hown
  have e0 : (madeCells (Value.int .u8 0).cells (N * 1)).toList = by_ (List.replicate N 0) := by
    rw [show (Value.int .u8 0).cells = #[.int .u8 0] from rfl, toList_madeCells_one, Nat.mul_one, by_, List.map_replicate]; rfl
  rw [e0] at hown
  have o3 : Only None' w2 w3 := (Only.refl None' w2).grown hgrow (by simp)
  obtain ⟨g, hg⟩ : ∃ g, g = w2.heap.size := ⟨_, rfl⟩
  rw [← hg] at hown ⊢
  have L0 : Hid (Lo w w3 N D g 0 (.slice none 0 0) F2 (Dk.new N) (List.replicate N 0) []) :=
    ⟨⟨S2.out.new o3, Bytes.new N, by simp, by simp, (fun p hp => by cases hp), hown, Vec.nil _ _, S2.out.out (by omega), by have := S2.out.only.size; omega, hown.lt rfl, fun j hj => by cases hj⟩, Dk.Few.new, rfl, rfl, Nat.zero_le _⟩
  have HN := Lib.hid (And.intro hN1 hN12)
  clear e0 hown o3 hgrow hg S2 hN1 hN12
  go_loopw [10, 11] (fun V i wr => ∃ k F d Bs Ws, k ≤ n ∧ i = .int .i64 (k : Int) ∧ Hid (Lo w wr N D g k V F d Bs Ws)) (fun V i wr => n - (intOf i).toNat)
  case atStart => exact ⟨0, _, _, _, _, by omega, rfl, L0⟩
  case round =>
    obtain ⟨k, F, d, Bs, Ws, hk, rfl, HL⟩ := hrel
    by_cases hlt : k < n
    · have hj : k < ps.length := by have := PP.out.len; omega
      obtain ⟨b, off, rfl, hb, hA⟩ := PP.out.at_ k hj
      have hby := PP.out.byte k hj
      obtain ⟨p, hp⟩ : ∃ p, p = ps[k] := ⟨_, rfl⟩
      rw [← hp] at hA hby
      clear hp
      obtain ⟨pa, pw, pf⟩ := p
      have HB := Lib.hid hb
      obtain ⟨q, hq⟩ : ∃ q, q = pa % N := ⟨_, rfl⟩
      have e1 := at_mod HN.out.1 hby
      rw [← hq] at e1
      have HQ := Lib.hid (And.intro (show q < N by rw [hq]; exact Nat.mod_lt _ (by have := HN.out.1; omega)) hby)
      have e2 := u8_in (q := q) (by have := HQ.out.1; have := HN.out.2; omega)
      have k0 := (HL.out.ls.dsk.only.cell hb (fun e => e) (off + k * 3)).trans hA.k0
      have k1 := (HL.out.ls.dsk.only.cell hb (fun e => e) (off + k * 3 + 1)).trans hA.k1
      have i0 : (0 : Int) ≤ (k : Int) := by omega
      have i1 : (k : Int) < (n : Int) := by omega
      clear hq hby hb
      cases pf
      · have hA := hA
        have BA := Lib.hid hA
        obtain ⟨va, vk, vc, rfl⟩ := HL.out.ls.wait.rd.shape'
        have hvk : vk = Ws.length := by
          obtain ⟨a, c, e⟩ := HL.out.ls.wait.rd.shape
          injection e
        subst hvk
        go_wp2_with fail
        refine (full_any pw _).mono ?_
        rintro r w5 ⟨gf, rfl, hg, hv, ho⟩
        have L5 := Lib.hid (HL.out.ls.new ho)
        have V5 := Lib.hid hv
        have A5 := Lib.hid (outF (F := F) (v := .slice (some ⟨gf, 0, none⟩) 512 512) rfl hg fun k hk => HL.out.ls.dsk.at_.lt hk)
        clear hg hv ho
        go_wp2_with fail
        refine (L5.out.dsk.write (i := q) rfl HL.out.few (by have := H80.out; omega) HL.out.dead (by rw [L5.out.bytes.len.1, L5.out.nB]; exact HQ.out.1) V5.out.rd A5.out (sec_length _) (e := 0) (Dk.live_err HL.out.set) (Dk.live_write HL.out.set q (sec pw))).mono ?_
        rintro r w6 ⟨rfl, F6, hd, hK⟩
        have L6 := Lib.hid (L5.out.disk hd hK (L5.out.bytes.wrote q pw).tick L5.out.nB)
        have FEW6 := Lib.hid (HL.out.few.wroteTick q (sec pw))
        clear hd hK
        have b0 := (L6.out.dsk.only.cell HB.out (fun e => e) (off + k * 3)).trans BA.out.k0
        have b1 := (L6.out.dsk.only.cell HB.out (fun e => e) (off + k * 3 + 1)).trans BA.out.k1
        have hlW := Lib.hid (show Ws.length ≤ 80 by have := HL.out.many; have := H80.out; omega)
        have HNW := Lib.hid (news_row w6 32 (pv (q, pw)))
        have L6a := Lib.hid (L6.out.new ((Only.refl None' w6).alloc (.cells (pv (q, pw)).toArray 32)))
        go_wp2_with (at_builtin; refine wpList_vec_append _ rfl _ _ 22 rfl 32 Try.t32 (.agg #[.int .u8 0, .int .u8 0, .bool false]) 3 3 Try.underlying22 info32 t32_zero t32_size t32_bytes rfl (by decide) _ _ _ rfl L6a.out.wait ⟨w6.heap.size, 0, none⟩ 1 1 (pv (q, pw)) rfl rfl HNW.out (pv_one _) (by have := hlW.out; unfold maxLen; omega) (by have := hlW.out; omega) ?_; intro V7 w7 hv7 hg7 hf7; have L7 := Lib.hid (L6.out.more (p := (q, pw)) HQ.out.1 hv7 hg7 hf7); have b2 := (L7.out.dsk.only.cell HB.out (fun e => e) (off + k * 3 + 2)).trans BA.out.k2; clear hv7 hg7 hf7)
        go_roundw
        case rel =>
          exact ⟨k + 1, _, _, _, _, by omega, by go_num, Lib.hid ⟨L7.out, FEW6.out.mono (by omega), HL.out.dead, HL.out.set, by have := HL.out.many; simp; omega⟩⟩
        case measure => simp [intOf]; omega
      · have hA := hA
        have BA := Lib.hid hA
        obtain ⟨va, vk, vc, rfl⟩ := HL.out.ls.wait.rd.shape'
        have hvk : vk = Ws.length := by
          obtain ⟨a, c, e⟩ := HL.out.ls.wait.rd.shape
          injection e
        subst hvk
        go_wp2_with fail
        refine (full_any pw _).mono ?_
        rintro r w5 ⟨gf, rfl, hg, hv, ho⟩
        have L5 := Lib.hid (HL.out.ls.new ho)
        have V5 := Lib.hid hv
        have A5 := Lib.hid (outF (F := F) (v := .slice (some ⟨gf, 0, none⟩) 512 512) rfl hg fun k hk => HL.out.ls.dsk.at_.lt hk)
        clear hg hv ho
        go_wp2_with fail
        refine (L5.out.dsk.write (i := q) rfl HL.out.few (by have := H80.out; omega) HL.out.dead (by rw [L5.out.bytes.len.1, L5.out.nB]; exact HQ.out.1) V5.out.rd A5.out (sec_length _) (e := 0) (Dk.live_err HL.out.set) (Dk.live_write HL.out.set q (sec pw))).mono ?_
        rintro r w6 ⟨rfl, F6, hd, hK⟩
        have L6 := Lib.hid (L5.out.disk hd hK (L5.out.bytes.wrote q pw).tick L5.out.nB)
        have FEW6 := Lib.hid (HL.out.few.wroteTick q (sec pw))
        clear hd hK
        have b0 := (L6.out.dsk.only.cell HB.out (fun e => e) (off + k * 3)).trans BA.out.k0
        have b1 := (L6.out.dsk.only.cell HB.out (fun e => e) (off + k * 3 + 1)).trans BA.out.k1
        have hlW := Lib.hid (show Ws.length ≤ 80 by have := HL.out.many; have := H80.out; omega)
        have HNW := Lib.hid (news_row w6 32 (pv (q, pw)))
        have L6a := Lib.hid (L6.out.new ((Only.refl None' w6).alloc (.cells (pv (q, pw)).toArray 32)))
        go_wp2_with (at_builtin; refine wpList_vec_append _ rfl _ _ 22 rfl 32 Try.t32 (.agg #[.int .u8 0, .int .u8 0, .bool false]) 3 3 Try.underlying22 info32 t32_zero t32_size t32_bytes rfl (by decide) _ _ _ rfl L6a.out.wait ⟨w6.heap.size, 0, none⟩ 1 1 (pv (q, pw)) rfl rfl HNW.out (pv_one _) (by have := hlW.out; unfold maxLen; omega) (by have := hlW.out; omega) ?_; intro V7 w7 hv7 hg7 hf7; have L7 := Lib.hid (L6.out.more (p := (q, pw)) HQ.out.1 hv7 hg7 hf7); have b2 := (L7.out.dsk.only.cell HB.out (fun e => e) (off + k * 3 + 2)).trans BA.out.k2; clear hv7 hg7 hf7)
        refine (L7.out.dsk.flush FEW6.out (by have := H80.out; omega) HL.out.dead (e := 0) (Dk.live_err (d := (d.wrote q (sec pw)).tick) HL.out.set) (Dk.live_flush (d := (d.wrote q (sec pw)).tick) HL.out.set)).mono ?_
        rintro r w8 ⟨rfl, F8, hd, hK⟩
        have L8 := Lib.hid (L7.out.disk hd hK (L7.out.bytes.tick.settled fun _ => true) ((settleG_length _ _ _ _).trans L7.out.nB))
        have FEW8 := Lib.hid (FEW6.out.tick.settled fun _ => true)
        clear hd hK b0 b1 b2
        go_wp2_with fail
        refine (L8.out.dsk.wait (n := 0) rfl).mono ?_
        rintro r w9 ⟨rfl, rfl⟩
        obtain ⟨vd, vk, ve, rfl⟩ := L8.out.wait.rd.shape'
        have hvk : vk = (Ws ++ [(q, pw)]).length := by
          obtain ⟨a, c, e⟩ := L8.out.wait.rd.shape
          injection e
        subst hvk
        obtain ⟨Wt, hWt⟩ : ∃ Wt, Wt = Ws ++ [(q, pw)] := ⟨_, rfl⟩
        have hWl : Hid (Wt.length ≤ k + 1 ∧ Wt.length ≤ 81) := by
          have h1 : Wt.length = Ws.length + 1 := by rw [hWt]; simp
          have := HL.out.many
          have := hlW.out
          exact ⟨by omega, by omega⟩
        rw [← hWt] at L8 ⊢
        clear L7 L6 L6a L5 hWt HNW k0 k1 e1
        go_wp2_with fail
        go_loopw [13] (fun i wr => ∃ j : Nat, j ≤ Wt.length ∧ i = .int .i64 (j : Int) ∧ Hid (LS w wr N D F8 ((d.wrote q (sec pw)).tick.tick.flushed) g (.slice vd Wt.length ve) (settleG (fun _ => true) 0 Wt Bs) [] (settleG (fun _ => true) 0 (Wt.take j) Bs) Wt)) (fun i wr => Wt.length - (intOf i).toNat)
        case atStart => exact ⟨0, by omega, rfl, L8⟩
        case round =>
          obtain ⟨j, hj, rfl, HJ⟩ := hrel
          by_cases hlt2 : j < Wt.length
          · obtain ⟨b', o', c', e', m0, m1⟩ := HJ.out.waiting hlt2
            injection e' with e1' _ e3'
            subst e1' e3'
            have hat := HJ.out.at_ Wt[j] (List.getElem_mem hlt2)
            obtain ⟨y, hy⟩ : ∃ y, y = Wt[j] := ⟨_, rfl⟩
            rw [← hy] at m0 m1 hat
            obtain ⟨ya, yw⟩ := y
            have HY := Lib.hid hy
            have hrl : ya < (settleG (fun _ => true) 0 (Wt.take j) Bs).length := by rw [settleG_length, ← (show Bs.length = N from HL.out.ls.nB) ] at *; exact hat
            have m2 := HJ.out.cell hrl
            have m3 := HJ.out.free hat
            have j0 : (0 : Int) ≤ (j : Int) := by omega
            have j1 : (j : Int) < (Wt.length : Int) := by omega
            have j2 : (0 : Int) ≤ (ya : Int) := by omega
            have j3 : (ya : Int) < (N : Int) := by have : ya < N := hat; omega
            have HAT := Lib.hid (show ya < N from hat)
            clear hy hat
            go_wp2_with fail
            go_still_tail 12, (by kernel_rfl)
            go_wp2_with fail
            go_roundw
            case rel =>
              refine ⟨j + 1, by omega, next_int (by have := hWl.out.2; omega), Lib.hid ?_⟩
              have := (HJ.out.new (Only.refl None' _).drew).set HAT.out yw
              rw [take_snoc' hlt2, settleG_snoc, ← HY.out, if_pos rfl]
              exact this
            case measure => exact meas hlt2 (by have := hWl.out.2; omega)
          · obtain rfl : j = Wt.length := by omega
            rw [List.take_length] at HJ
            go_wp2_with fail
            go_roundw
            case rel =>
              exact ⟨k + 1, _, _, _, _, by omega, by go_num, Lib.hid ⟨HJ.out.nil, FEW8.out.mono (by omega), HL.out.dead, HL.out.set, Nat.zero_le _⟩⟩
            case measure => simp [intOf]; omega
    · obtain rfl : k = n := by omega
      obtain ⟨va, vk, vc, rfl⟩ := HL.out.ls.wait.rd.shape'
      have hvk : vk = Ws.length := by
        obtain ⟨a, c, e⟩ := HL.out.ls.wait.rd.shape
        injection e
      subst hvk
      have hlW := Lib.hid (show Ws.length ≤ 80 by have := HL.out.many; have := H80.out; omega)
      go_wp2_with fail
      refine (HL.out.ls.dsk.wait (n := (Ws.length : Int)) (by rw [HL.out.ls.bytes.len.2])).mono ?_
      rintro r w4 ⟨rfl, rfl⟩
      have R4 := Lib.hid (RR.out.only HL.out.ls.dsk.only fun _ _ _ _ e => e)
      go_wp2_with fail
      refine (HL.out.ls.dsk.crash HL.out.few (by have := H80.out; omega) HL.out.dead R4.out (outRd RR.out HL.out.ls.dsk.fresh) rfl).mono ?_
      rintro r w5 ⟨rfl, F5, hd, hK⟩
      have L5 := Lib.hid (HL.out.ls.disk hd hK (HL.out.ls.bytes.crashed keep) ((settleG_length _ _ _ _).trans HL.out.ls.nB))
      clear hd hK
      go_wp2_with fail
      refine (L5.out.dsk.isDead (b := true) rfl).mono ?_
      rintro r w6 ⟨rfl, rfl⟩
      go_wp2_with fail
      refine (flush_dead L5.out.dsk.at_ rfl).mono ?_
      rintro r w6 ⟨rfl, e⟩
      obtain rfl := e.symm
      go_wp2_with fail
      go_loopw [14] (fun i wr => ∃ j : Nat, j ≤ Ws.length ∧ i = .int .i64 (j : Int) ∧ Hid (LS w wr N D F5 (d.crashed keep) g (.slice va Ws.length vc) (settleG (kept keep) 0 Ws Bs) [] (settleG (kept keep) 0 (Ws.take j) Bs) Ws)) (fun i wr => Ws.length - (intOf i).toNat)
      case atStart => exact ⟨0, by omega, rfl, L5⟩
      case round =>
        obtain ⟨j, hj, rfl, HJ⟩ := hrel
        by_cases hlt2 : j < Ws.length ∧ j < keep.length
        · obtain ⟨hlt2, hlt3⟩ := hlt2
          obtain ⟨b', o', c', e', m0, m1⟩ := HJ.out.waiting hlt2
          injection e' with e1' _ e3'
          subst e1' e3'
          have RJ := RR.out.only HJ.out.dsk.only fun _ _ _ _ e => e
          obtain ⟨gk, ok, ck, ek, _, hck⟩ := RJ.at_ (by omega)
          injection ek with ek1 _ ek3
          subst ek1 ek3
          have mk := hck j (.bool keep[j]) (by simp [bo, List.getElem?_eq_getElem hlt3])
          have hkk : kept keep j = keep[j] := by simp [kept, List.getD_eq_getElem?_getD, List.getElem?_eq_getElem hlt3]
          have hat := HJ.out.at_ Ws[j] (List.getElem_mem hlt2)
          obtain ⟨y, hy⟩ : ∃ y, y = Ws[j] := ⟨_, rfl⟩
          rw [← hy] at m0 m1 hat
          obtain ⟨ya, yw⟩ := y
          have HY := Lib.hid hy
          have hrl : ya < (settleG (kept keep) 0 (Ws.take j) Bs).length := by rw [settleG_length, show Bs.length = N from HL.out.ls.nB]; exact hat
          have m2 := HJ.out.cell hrl
          have m3 := HJ.out.free hat
          have j0 : (0 : Int) ≤ (j : Int) := by omega
          have j1 : (j : Int) < (Ws.length : Int) := by omega
          have jk : (j : Int) < (keep.length : Int) := by omega
          have j2 : (0 : Int) ≤ (ya : Int) := by omega
          have j3 : (ya : Int) < (N : Int) := by have : ya < N := hat; omega
          have HAT := Lib.hid (show ya < N from hat)
          obtain ⟨kb, hkb⟩ : ∃ kb, kb = keep[j] := ⟨_, rfl⟩
          rw [← hkb] at mk hkk
          have HKK := Lib.hid hkk
          clear hy hat hkk hkb RJ hck
          cases kb
          · go_wp2_with fail
            go_roundw
            case rel =>
              refine ⟨j + 1, by omega, next_int (by have := hlW.out; omega), Lib.hid ?_⟩
              rw [take_snoc' hlt2, settleG_snoc, Nat.zero_add, List.length_take_of_le (by omega), HKK.out, if_neg (by decide)]
              exact HJ.out
            case measure => exact meas hlt2 (by have := hlW.out; omega)
          · go_wp2_with fail
            go_still_tail 12, (by kernel_rfl)
            go_wp2_with fail
            go_roundw
            case rel =>
              refine ⟨j + 1, by omega, next_int (by have := hlW.out; omega), Lib.hid ?_⟩
              have := (HJ.out.new (Only.refl None' _).drew).set HAT.out yw
              rw [take_snoc' hlt2, settleG_snoc, ← HY.out, Nat.zero_add, List.length_take_of_le (by omega), HKK.out, if_pos rfl]
              exact this
            case measure => exact meas hlt2 (by have := hlW.out; omega)
        · have hb : keep.length ≤ j ∨ Ws.length ≤ j := by omega
          have HJ' : Hid (LS w wr N D F5 (d.crashed keep) g (.slice va Ws.length vc) (settleG (kept keep) 0 Ws Bs) [] (settleG (kept keep) 0 Ws Bs) Ws) := by
            have := HJ.out
            rw [settleG_short keep Ws Bs hb] at this
            exact this
          clear hb
          by_cases hlt3 : j < Ws.length
          · have j1 : (j : Int) < (Ws.length : Int) := by omega
            have j2 : ¬ (j : Int) < (keep.length : Int) := by omega
            go_wp2_with fail
            refine (HJ'.out.dsk.reopen rfl rfl).mono ?_
            rintro r w7 ⟨D', F7, rfl, hd, -, hf, ho⟩
            have L7 := Lib.hid ((HJ'.out.new ho).swap hd (fun i hi => ⟨fun e => by have := hf i hi; have := HJ'.out.gl; omega, fun e => by have := hf i hi; have := HJ'.out.wait.lt e; omega⟩) HJ'.out.bytes.reopened HJ'.out.nB)
            clear hd hf ho
            go_wp2_with fail
            refine (L7.out.dsk.wait (n := 0) rfl).mono ?_
            rintro r w8 ⟨rfl, rfl⟩
            go_wp2_with fail
            refine (L7.out.dsk.done (n := 0) rfl).mono ?_
            rintro r w8 ⟨rfl, rfl⟩
            go_wp2_with fail
            refine (L7.out.dsk.isDead (b := false) rfl).mono ?_
            rintro r w8 ⟨rfl, rfl⟩
            go_wp2_with fail
            refine (L7.out.dsk.len (n := (N : Int)) (by rw [L7.out.bytes.len.1, L7.out.nB])).mono ?_
            rintro r w8 ⟨rfl, rfl⟩
            obtain ⟨Bz, hBz⟩ : ∃ Bz, Bz = settleG (kept keep) 0 Ws Bs := ⟨_, rfl⟩
            rw [← hBz] at L7
            obtain ⟨dz, hdz⟩ : ∃ dz, dz = (d.crashed keep).reopened := ⟨_, rfl⟩
            have fz : Hid (dz.Few 0 ∧ dz.dead = false) := by rw [hdz]; exact ⟨Dk.Few.reopened, rfl⟩
            rw [← hdz] at L7
            clear hBz hdz HJ HJ' L5
            go_wp2_with fail
            go_loopw [16] (fun i wr => ∃ j : Nat, j ≤ N ∧ i = .int .i64 (j : Int) ∧ Hid (LS w wr N D' F7 dz g (.slice va Ws.length vc) Bz [] Bz Ws)) (fun i wr => N - (intOf i).toNat)
            case atStart => exact ⟨0, by omega, rfl, L7⟩
            case round =>
              obtain ⟨j, hj, rfl, HJ⟩ := hrel
              by_cases hlt2 : j < N
              · have hjB : j < Bz.length := by rw [HJ.out.nB]; exact hlt2
                have j0 : (0 : Int) ≤ (j : Int) := by omega
                have j1 : (j : Int) < (N : Int) := by omega
                go_wp2_with fail
                refine (HJ.out.dsk.read fz.out.1 (by decide) fz.out.2 (i := j) rfl (by rw [HJ.out.bytes.len.1]; exact hjB) (HJ.out.bytes.read hjB)).mono ?_
                rintro r w9 ⟨gr, og, cr, rfl, hv, hge, -, ho⟩
                have L9 := Lib.hid (HJ.out.new ho)
                have V9 := Lib.hid hv
                have m0 := Lib.hid (L9.out.cell hjB)
                obtain ⟨bc, hbc⟩ : ∃ bc, bc = Bz[j] := ⟨_, rfl⟩
                rw [← hbc] at m0 V9
                have HBC := Lib.hid hbc
                clear hv hge ho hbc
                go_wp2_with fail
                go_loopw [19] (fun i wr => ∃ y q : Nat, y ≤ 512 ∧ i = .int .i64 (y : Int) ∧ wr = w9.drewN q) (fun i wr => 512 - (intOf i).toNat)
                case atStart => exact ⟨0, 0, by omega, rfl, rfl⟩
                case round =>
                  obtain ⟨y, q, hy, rfl, rfl⟩ := hrel
                  by_cases hlt3 : y < 512
                  · have y0 : (0 : Int) ≤ (y : Int) := by omega
                    have y1 : (y : Int) < 512 := by omega
                    have m1 := sec_cell V9.out hlt3
                    have m2 := m0.out
                    go_wp2_with fail
                    go_quiet (fail)
                    go_wp2_with fail
                    go_roundw
                    case rel => exact ⟨y + 1, q + nq, by omega, by go_num, rfl⟩
                    case measure => simp [intOf]; omega
                  · obtain rfl : y = 512 := by omega
                    go_wp2_with fail
                    go_roundw
                    case rel => exact ⟨j + 1, by omega, by have := HN.out; first | go_num | exact next_int (by omega), Lib.hid (L9.out.new ((Only.refl None' _).drewN q))⟩
                    case measure => first | (simp [intOf]; omega) | exact meas hlt2 (by have := HN.out; omega)
              · obtain rfl : j = N := by omega
                go_wp2_with fail
                go_ret
                exact ⟨rfl, HJ.out.dsk.only.below (Nat.le_refl _) fun _ h => h.elim⟩
          · have j1 : ¬ (j : Int) < (Ws.length : Int) := by omega
            go_wp2_with fail
            refine (HJ'.out.dsk.reopen rfl rfl).mono ?_
            rintro r w7 ⟨D', F7, rfl, hd, -, hf, ho⟩
            have L7 := Lib.hid ((HJ'.out.new ho).swap hd (fun i hi => ⟨fun e => by have := hf i hi; have := HJ'.out.gl; omega, fun e => by have := hf i hi; have := HJ'.out.wait.lt e; omega⟩) HJ'.out.bytes.reopened HJ'.out.nB)
            clear hd hf ho
            go_wp2_with fail
            refine (L7.out.dsk.wait (n := 0) rfl).mono ?_
            rintro r w8 ⟨rfl, rfl⟩
            go_wp2_with fail
            refine (L7.out.dsk.done (n := 0) rfl).mono ?_
            rintro r w8 ⟨rfl, rfl⟩
            go_wp2_with fail
            refine (L7.out.dsk.isDead (b := false) rfl).mono ?_
            rintro r w8 ⟨rfl, rfl⟩
            go_wp2_with fail
            refine (L7.out.dsk.len (n := (N : Int)) (by rw [L7.out.bytes.len.1, L7.out.nB])).mono ?_
            rintro r w8 ⟨rfl, rfl⟩
            obtain ⟨Bz, hBz⟩ : ∃ Bz, Bz = settleG (kept keep) 0 Ws Bs := ⟨_, rfl⟩
            rw [← hBz] at L7
            obtain ⟨dz, hdz⟩ : ∃ dz, dz = (d.crashed keep).reopened := ⟨_, rfl⟩
            have fz : Hid (dz.Few 0 ∧ dz.dead = false) := by rw [hdz]; exact ⟨Dk.Few.reopened, rfl⟩
            rw [← hdz] at L7
            clear hBz hdz HJ HJ' L5
            go_wp2_with fail
            go_loopw [16] (fun i wr => ∃ j : Nat, j ≤ N ∧ i = .int .i64 (j : Int) ∧ Hid (LS w wr N D' F7 dz g (.slice va Ws.length vc) Bz [] Bz Ws)) (fun i wr => N - (intOf i).toNat)
            case atStart => exact ⟨0, by omega, rfl, L7⟩
            case round =>
              obtain ⟨j, hj, rfl, HJ⟩ := hrel
              by_cases hlt2 : j < N
              · have hjB : j < Bz.length := by rw [HJ.out.nB]; exact hlt2
                have j0 : (0 : Int) ≤ (j : Int) := by omega
                have j1 : (j : Int) < (N : Int) := by omega
                go_wp2_with fail
                refine (HJ.out.dsk.read fz.out.1 (by decide) fz.out.2 (i := j) rfl (by rw [HJ.out.bytes.len.1]; exact hjB) (HJ.out.bytes.read hjB)).mono ?_
                rintro r w9 ⟨gr, og, cr, rfl, hv, hge, -, ho⟩
                have L9 := Lib.hid (HJ.out.new ho)
                have V9 := Lib.hid hv
                have m0 := Lib.hid (L9.out.cell hjB)
                obtain ⟨bc, hbc⟩ : ∃ bc, bc = Bz[j] := ⟨_, rfl⟩
                rw [← hbc] at m0 V9
                have HBC := Lib.hid hbc
                clear hv hge ho hbc
                go_wp2_with fail
                go_loopw [19] (fun i wr => ∃ y q : Nat, y ≤ 512 ∧ i = .int .i64 (y : Int) ∧ wr = w9.drewN q) (fun i wr => 512 - (intOf i).toNat)
                case atStart => exact ⟨0, 0, by omega, rfl, rfl⟩
                case round =>
                  obtain ⟨y, q, hy, rfl, rfl⟩ := hrel
                  by_cases hlt3 : y < 512
                  · have y0 : (0 : Int) ≤ (y : Int) := by omega
                    have y1 : (y : Int) < 512 := by omega
                    have m1 := sec_cell V9.out hlt3
                    have m2 := m0.out
                    go_wp2_with fail
                    go_quiet (fail)
                    go_wp2_with fail
                    go_roundw
                    case rel => exact ⟨y + 1, q + nq, by omega, by go_num, rfl⟩
                    case measure => simp [intOf]; omega
                  · obtain rfl : y = 512 := by omega
                    go_wp2_with fail
                    go_roundw
                    case rel => exact ⟨j + 1, by omega, by have := HN.out; first | go_num | exact next_int (by omega), Lib.hid (L9.out.new ((Only.refl None' _).drewN q))⟩
                    case measure => first | (simp [intOf]; omega) | exact meas hlt2 (by have := HN.out; omega)
              · obtain rfl : j = N := by omega
                go_wp2_with fail
                go_ret
                exact ⟨rfl, HJ.out.dsk.only.below (Nat.le_refl _) fun _ h => h.elim⟩

theorem lasts_walk (x : Int) (a : Option Addr) (n c : Nat) (ps : List Put) {w : World} (P : Puts w a n ps) (v : Value) (keep : List Bool) (R : Rd w 1 v keep.length (bo keep)) (hk : keep.length * Try.prog.bytesOf 4 ≤ reachBytes) :
    Calls Try.prog 4 #[.int .i64 x, .slice a n c, v] w fun r w' => r = .returned (.bool true) ∧ Below w.heap.size w w' := by
  rw [bytes4, reach_eq, Nat.mul_one] at hk
  by_cases h : 80 < n
  · exact lasts_long x a n c v w h
  · exact lasts_main x a n c ps w P v keep R hk (by omega)
end Go.Proofs.Yteoeaojebklfjaa
