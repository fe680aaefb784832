/- awake: the walk. -/
import Derived.Test.YteoeaojebklfjaaI9
import Derived.Test.YteoeaojebklfjaaI8
import Derived.Test.YteoeaojebklfjaaE3
import Derived.Lib.SlBytesConst
namespace Go.Proofs.Yteoeaojebklfjaa
open Go.RowKit Go.Maps
set_option linter.unusedVariables false

theorem rd_lit8 (w : World) (t : TypeId) (l : List UInt8) (cs : Array Value) (fr : Nat × Nat) (h : cs = (bv l).toArray) {n c : Nat} (hn : n = l.length) (hc : n ≤ c) (hm : c ≤ maxLen) : Rd (w.alloc (.cells cs t fr)) 1 (.slice (some ⟨w.heap.size, 0, none⟩) n c) l.length (bv l) := by
  subst h hn
  refine ⟨by simp [bv], .inr ⟨_, c, rfl, hc, hm, fun j u hu => ?_⟩⟩
  rw [add_mid' (⟨w.heap.size, 0, none⟩) j rfl, Nat.zero_add, World.cell?_alloc_mark]
  simpa using hu
section
variable {w0 w : World} {R D : Nat} {F : Nat → Prop} {first count base : Nat} {rs : List Rec} {d : Dk} {len n : Nat}
theorem Bd.open_lit (h : Bd w0 w D F first count base rs d len n) (hn : n ≤ 900000) {f c b : Int} (hf : (first : Int) = f) (hc : (count : Int) = c) (hb : (base : Int) = b) {m : Nat} (hm : rs.length = m) : Calls Try.prog 38 #[.pointer (some ⟨D, 0, none⟩), .int .i64 f, .int .i64 c, .int .i64 b] w fun e w' => ∃ R a k, e = .returned (.tuple #[.pointer (some ⟨R, 0, none⟩), .slice a m k, .int .i64 0]) ∧ w.heap.size ≤ R ∧
      Bk w0 w' R D F first count base rs d len n ∧ Recs w' (fun k => w.heap.size ≤ k ∧ k ≠ R) (.slice a m k) rs ∧ Only None' w w' := by
  subst hf hc hb hm
  exact h.open_ hn
theorem Bk.add_lit (h : Bk w0 w R D F first count base rs d len n) (hn : n ≤ 800000) {g off c m : Nat} {rec : Rec} (hm : rec.length = m) (hr : Rd w 1 (.slice (some ⟨g, off, none⟩) m c) rec.length (bv rec)) (hc : m ≤ c) (hcm : c ≤ maxLen) (hgF : ¬ F g) (hgl : g < w.heap.size) (hgR : g ≠ R) (hb : m ≤ 140737488355328)
    (hfit : many base rs + cutN m ≤ count) {rs' : List Rec} (hrs : rs ++ [rec] = rs') {n' : Nat} (hn' : n + cutN m ≤ n') : Calls Try.prog 40 #[.pointer (some ⟨R, 0, none⟩), .slice (some ⟨g, off, none⟩) m c] w fun e w' => e = .returned (.int .i64 0) ∧ ∃ F' d', Bk w0 w' R D F' first count base rs' d' len n' ∧ Kept (fun k => F k ∨ k = R) (fun k => F' k ∨ k = R) w w' := by
  subst hm hrs
  refine (h.add hn hr hc hcm hgF hgl hgR hb hfit).mono ?_
  rintro e w' ⟨rfl, F', d', h1, h2⟩
  exact ⟨rfl, F', d', h1.few hn', h2⟩
end

/-- a fresh row of zeros -/
theorem make34 (n : Nat) (w : World) (hn : n ≤ 140737488355328) : ∃ w', (Instr.makeSlice 34 (.int .i64 (n : Int)) (.int .i64 (n : Int))).run Try.prog w = .ok (.slice (some ⟨w.heap.size, 0, none⟩) n n) w' ∧ Vec w' 1 (.slice (some ⟨w.heap.size, 0, none⟩) n n) n (bv (List.replicate n 0)) ∧ Only None' w w' ∧ w.heap.size < w'.heap.size := by
  obtain ⟨w', hrun, r1, r2⟩ := run_make_full (P := Try.prog) w w.heap.size 34 5 Try.t5 (.int .u8 0) 1 Try.underlying34 info5 t5_zero t5_size .i64 .i64 n (by rw [t5_bytes]; omega) (by unfold maxLen; omega) (Nat.le_refl _)
  have hv := Vec.of_owns r1
  rw [show (Value.int .u8 0).cells = #[.int .u8 0] from rfl, toList_madeCells_one, Nat.mul_one] at hv
  rw [bv_replicate]
  refine ⟨w', hrun, hv, (Only.refl None' w).grown r2 (by simp), ?_⟩
  rcases hv.form with ⟨e, _⟩ | ⟨g, off, cap, e, _, _, hl, _⟩
  · cases e
  · injection e with e1 _ _
    injection e1 with e1
    injection e1 with e1 _
    omega

def ab : Rec := [97, 98]
def z502 : Rec := List.replicate 502 0
theorem many_ab : many 0 [ab] = 1 := rfl
theorem z502_length : z502.length = 502 := List.length_replicate
theorem many_two : many 0 [ab, z502] = 3 := by
  have := many_snoc 0 [ab] z502
  rw [many_ab, z502_length] at this
  exact this
theorem awake_sector {d : Dk} (h : Holds 4 (gAt 2 d) 0 (cutAll 0 [ab, z502])) : d.read 3 = (cutAt 0 ab 0).lay := by
  have hl : 0 < (cutAll 0 [ab, z502]).length := by have := many_two; unfold many at this; omega
  have h0 := h.has 0 hl
  have h1 := (pieceOf_some (pieceG_some h0).1).1
  exact h1

set_option maxRecDepth 20000 in
set_option maxHeartbeats 2000000 in
theorem awake_any (w : World) : Calls Try.prog 37 #[] w fun e w' => e = .returned (.bool true) ∧ Only None' w w' := by
  go_enter Try.func37, Try.ntmps37
  go_wp2_with fail
  refine (new_dsk 20 20 rfl w _ (Only.refl _ _) (by decide) (by decide)).mono ?_
  rintro r w1 ⟨D, F1, rfl, h1, -, -⟩
  have S1 := Lib.hid (bd_new (first := 2) (count := 4) (base := 0) ⟨by decide, by decide, by decide, by decide, by decide⟩ h1)
  clear h1
  go_wp2_with fail
  refine (S1.out.open_lit (by decide) (f := 2) (c := 4) (b := 0) rfl rfl rfl (m := 0) rfl).mono ?_
  rintro r w2 ⟨R, a, k, rfl, hR, hB, -, -⟩
  have S2 := Lib.hid hB
  clear hB
  have kc := fun (w : World) (C : Array Value) (n c : Nat) => Lib.run_convert_bytes_const (P := Try.prog) w 34 5 C n c Try.underlying34 Try.underlying5
  have S2' := Lib.hid (S2.out.only ((Only.refl None' w2).alloc (.cells #[.int .u8 97, .int .u8 98] 5 (2, 3))))
  have lR := Lib.hid S2.out.ring.lt
  go_wp2_with fail
  clear kc
  refine (S2'.out.add_lit (by decide) (rec := ab) (m := 2) rfl (rd_lit8 w2 5 ab _ _ rfl rfl (by decide) (by unfold maxLen; decide)) (by decide) (by unfold maxLen; decide) (fun e => by have := S2.out.bd.dsk.at_.lt e; omega) (by simp) (by have := lR.out; omega) (by decide) (by decide) (rs' := [ab]) rfl (n' := 1) (by decide)).mono ?_
  rintro r w3 ⟨rfl, F3, d3, hB, -⟩
  have S3 := Lib.hid hB
  clear hB
  obtain ⟨w4, hm, hV, o4, l4⟩ := make34 502 w3 (by decide)
  have S4 := Lib.hid (S3.out.only o4)
  have V4 := Lib.hid hV
  have hm2 : (Instr.makeSlice 34 (.int .i64 502) (.int .i64 502)).run Try.prog w3 = .ok (.slice (some ⟨w3.heap.size, 0, none⟩) 502 502) w4 := hm
  clear hV o4 hm
  go_wp2_with fail
  clear hm2
  refine (S4.out.add_lit (by decide) (rec := z502) (m := 502) z502_length (by rw [z502_length]; exact V4.out.rd) (by decide) (by unfold maxLen; decide) (fun e => by have := S3.out.bd.dsk.at_.lt e; omega) l4 (by have := S3.out.ring.lt; omega) (by decide) (by rw [many_ab]; decide) (rs' := [ab, z502]) rfl (n' := 3) (by decide)).mono ?_
  rintro r w5 ⟨rfl, F5, d5, hB, -⟩
  have S5 := Lib.hid hB
  clear hB
  go_wp2_with fail
  refine (S5.out.lasted (m := 3) (by rw [many_two]; rfl)).mono ?_
  rintro r w' ⟨rfl, rfl⟩
  go_wp2_with fail
  refine (S5.out.roomed (m := 1) (by rw [many_two]; rfl)).mono ?_
  rintro r w6 ⟨rfl, o6⟩
  have S6 := Lib.hid (S5.out.only o6)
  clear o6
  go_wp2_with fail
  refine (S6.out.bd.dsk.read S6.out.bd.calm.few (by decide) S6.out.bd.calm.dead (i := 3) rfl (by rw [S6.out.bd.calm.len]; decide) (awake_sector S6.out.bd.holds)).mono ?_
  rintro r w7 ⟨g7, o7, c7, rfl, hV, -, -, ho⟩
  have S7 := Lib.hid (S6.out.only ho)
  have V7 := Lib.hid hV
  clear hV ho
  go_wp2_with fail
  refine (S7.out.bd.open_lit (by decide) (f := 2) (c := 4) (b := 0) rfl rfl rfl (m := 2) rfl).mono ?_
  rintro r w8 ⟨R8, a8, k8, rfl, hR8, hB, hrec, ho⟩
  have S8 := Lib.hid hB
  have W8 := V7.out.only ho fun _ _ e => e
  have c0 : w8.cell? ⟨g7, o7, none⟩ = some (.int .u8 1) := W8.range 0 _ rfl
  have c8 : w8.cell? ⟨g7, o7 + 8, none⟩ = some (.int .u8 1) := W8.range 8 _ rfl
  have c9 : w8.cell? ⟨g7, o7 + 9, none⟩ = some (.int .u8 2) := W8.range 9 _ rfl
  have c11 : w8.cell? ⟨g7, o7 + 11, none⟩ = some (.int .u8 97) := W8.range 11 _ rfl
  obtain ⟨gr, or, cr, x0, er, _, hx0, vx0, -, -⟩ := hrec.at_ (j := 0) (by decide)
  obtain ⟨gr', or', cr', x1, er', _, hx1, vx1, -, -⟩ := hrec.at_ (j := 1) (by decide)
  injection er with er1 _ er3
  injection er' with er1' _ er3'
  subst er1 er3
  injection er1' with er1'
  injection er1' with e1 e2
  subst e1 e2
  have cv := conv_row vx0
  obtain ⟨ax, cx, rfl, _, _⟩ := vx1.shape
  replace cv : (convert 34 9 x0).run Try.prog w8 = .ok (.string ⟨#[97, 98]⟩) w8 := cv
  rw [Nat.add_zero] at hx0
  replace hx1 : w8.cell? ⟨gr, or + 1, none⟩ = some (.slice ax 502 cx) := hx1
  clear W8 hrec ho vx0 vx1 hB er3'
  go_wp2_with fail
  refine (S8.out.lasted (m := 3) (by rw [many_two]; rfl)).mono ?_
  rintro r w' ⟨rfl, rfl⟩
  go_wp2_with fail
  go_ret
  exact ⟨rfl, S8.out.bd.dsk.only⟩
end Go.Proofs.Yteoeaojebklfjaa
