/- DiskNames: the walk. -/
import Derived.Test.YteoeaojebklfjaaE3
namespace Go.Proofs.Yteoeaojebklfjaa
open Go.RowKit Go.Maps
set_option linter.unusedVariables false

def y0 : Dk := Dk.new 1
def y1 : Dk := y0.fused 0 [true]
def y2 : Dk := y1.write 0 (sec 7)
def y3 : Dk := y2.reopened
theorem fewy0 : y0.Few 0 := Dk.Few.new
theorem fewy1 : y1.Few 0 := ⟨Nat.le_refl _, by decide, by decide, by decide, by decide, by decide⟩
theorem fewy3 : y3.Few 0 := Dk.Few.reopened
theorem y3_read : y3.read 0 = sec 7 := rfl
theorem y3_len : y3.lasts.length = 1 := rfl
theorem y2_dead : y2.dead = true := rfl

set_option maxRecDepth 20000 in
set_option maxHeartbeats 2000000 in
theorem names_any (w : World) : Calls Try.prog 6 #[] w fun r w' => r = .returned (.bool true) ∧ Only None' w w' := by
  go_enter Try.func6, Try.ntmps6
  go_wp2_with fail
  refine (works_any _).mono ?_
  rintro r w1 ⟨rfl, h1⟩
  have O1 := Lib.hid h1
  clear h1
  go_wp2_with fail
  refine (new_bad 0 _ (by decide)).mono ?_
  rintro r w' ⟨rfl, e⟩
  obtain rfl := e.symm
  go_wp2_with fail
  refine (new_bad 65537 _ (by decide)).mono ?_
  rintro r w' ⟨rfl, e⟩
  obtain rfl := e.symm
  go_wp2_with fail
  refine (new_dsk 65536 65536 rfl w _ O1.out (by decide) (by decide)).mono ?_
  rintro r w2 ⟨Dq, Fq, rfl, h1, -, -⟩
  have O2 := Lib.hid h1.only
  clear h1
  go_wp2_with fail
  refine (read_nil _ _).mono ?_
  rintro r w' ⟨rfl, e⟩
  obtain rfl := e.symm
  go_wp2_with fail
  refine (reopen_nil _).mono ?_
  rintro r w' ⟨rfl, e⟩
  obtain rfl := e.symm
  go_wp2_with fail
  refine (new_dsk 2 2 rfl w _ O2.out (by decide) (by decide)).mono ?_
  rintro r w3 ⟨Dx, Fx, rfl, h1, -, -⟩
  have X3 := Lib.hid h1
  clear h1
  go_wp2_with fail
  refine (read_bad X3.out.at_ rfl 2 (.inr (by decide))).mono ?_
  rintro r w' ⟨rfl, e⟩
  obtain rfl := e.symm
  go_wp2_with fail
  refine (reopen_live X3.out.at_ rfl).mono ?_
  rintro r w' ⟨rfl, e⟩
  obtain rfl := e.symm
  have oa : Only None' w3 (w3.alloc (.cells #[.bool true] 4)) := (Only.refl _ _).alloc _
  have OA := Lib.hid oa
  have R4 := Lib.hid (rd_lit w3 4 [true] #[.bool true] rfl (n := 1) (c := 1) rfl (by decide) (by unfold maxLen; decide))
  clear oa
  go_wp2_with fail
  refine (new_dsk 1 1 rfl w3 _ OA.out (by decide) (by decide)).mono ?_
  rintro r w5 ⟨Dy, F5, rfl, h1, h2, h3⟩
  have Y5 := Lib.hid (show Dsk w3 w5 Dy F5 y0 from h1)
  have G5 := Lib.hid h2
  have R5 := Lib.hid (R4.out.only h3 fun _ _ _ _ e => e)
  have t5 := (h3.cell (b := w3.heap.size) (by simp) (fun e => e) 0).trans (World.cell?_alloc_new w3 #[.bool true] 4 0)
  have z5 : w5.frozen? ⟨w3.heap.size, 0, none⟩ = false := (h3.frozen (b := w3.heap.size) (by simp) (fun e => e) 0).trans (World.frozen?_alloc_new w3 _ _ _)
  have T5 := Lib.hid (And.intro t5 (And.intro z5 h3.size))
  clear h1 h2 h3 t5 z5
  go_wp2_with fail
  refine (Y5.out.setFuse rfl (k := 0) rfl (keep := [true]) R5.out (by decide) (d' := y1) rfl).mono ?_
  rintro r w6 ⟨rfl, F6, h1, h2⟩
  have Y6 := Lib.hid h1
  have hn5 : ∀ i, F5 i → i ≠ w3.heap.size := fun i hi e => by have := G5.out i hi; simp at this; omega
  have hs3 : w3.heap.size < w5.heap.size := by have := T5.out.2.2; simp at this; omega
  have t6 := (h2.only.cell (b := w3.heap.size) hs3 (fun e => hn5 _ e rfl) 0).trans T5.out.1
  have z6 : w6.frozen? ⟨w3.heap.size, 0, none⟩ = false := (h2.only.frozen (b := w3.heap.size) hs3 (fun e => hn5 _ e rfl) 0).trans T5.out.2.1
  have N6 := Lib.hid (fun hF => (h2.fresh _ hF).elim (fun e => hn5 _ e rfl) (fun e => by omega) : ¬ F6 w3.heap.size)
  have e6 : #[Value.bool true][0]? = some (.bool true) := rfl
  rw [e6] at t6
  have os : Only (fun k => k = w3.heap.size) w6 (w6.setCell ⟨w3.heap.size, 0, none⟩ (.bool false)) := (Only.refl (fun k => k = w3.heap.size) _).setCell (p := ⟨w3.heap.size, 0, none⟩) rfl _
  have Y7 := Lib.hid (Y6.out.other (Kept.only' os) (fun i e => by omega) (fun i hi e => N6.out (e ▸ hi)))
  clear h1 h2 os e6 hn5 hs3
  go_wp2_with fail
  clear t6 z6
  refine (full_lit 7 7 rfl _).mono ?_
  rintro r w8 ⟨g, rfl, hg, hv, ho⟩
  have Y8 := Lib.hid (Y7.out.new ho)
  have V8 := Lib.hid hv
  have A8 := Lib.hid (outF (F := F6) (v := .slice (some ⟨g, 0, none⟩) 512 512) rfl hg fun k hk => Y7.out.at_.lt hk)
  clear hg hv ho
  go_wp2_with fail
  refine (Y8.out.write (i := 0) rfl fewy1 (by decide) rfl (by decide) V8.out.rd A8.out (sec_length _) (e := 20) rfl (d' := y2) rfl).mono ?_
  rintro r w9 ⟨rfl, F9, h1, -⟩
  have Y9 := Lib.hid h1
  clear h1
  go_wp2_with fail
  refine (Y9.out.reopen y2_dead (d' := y3) rfl).mono ?_
  rintro r w10 ⟨Dz, F10, rfl, h1, -, -, -⟩
  have Y10 := Lib.hid h1
  clear h1
  go_wp2_with fail
  refine (Y10.out.read fewy3 (by decide) rfl (i := 0) rfl (by rw [y3_len]; decide) y3_read).mono ?_
  rintro r w11 ⟨g11, o11, c11, rfl, hv, -, h1, -⟩
  have X11 := Lib.hid (X3.out.new h1.only)
  have k11 := sec_cell hv (j := 9) (by decide)
  rw [show ((7 : UInt8).toNat : Int) = 7 from rfl] at k11
  clear h1 hv
  go_wp2_with fail
  clear k11
  refine (full_lit 1 1 rfl _).mono ?_
  rintro r w12 ⟨g12, rfl, -, -, ho⟩
  have X12 := Lib.hid (X11.out.new ho)
  clear ho
  go_wp2_with fail
  refine (write_nil _ _ _).mono ?_
  rintro r w' ⟨rfl, e⟩
  obtain rfl := e.symm
  go_wp2_with fail
  refine (flush_nil _).mono ?_
  rintro r w' ⟨rfl, e⟩
  obtain rfl := e.symm
  go_wp2_with fail
  refine (Crash_nil _ _).mono ?_
  rintro r w' ⟨rfl, e⟩
  obtain rfl := e.symm
  go_wp2_with fail
  refine (fuse_nil _ _ _).mono ?_
  rintro r w' ⟨rfl, e⟩
  obtain rfl := e.symm
  go_wp2_with fail
  refine (copy_nil _).mono ?_
  rintro r w' ⟨rfl, e⟩
  obtain rfl := e.symm
  go_wp2_with fail
  refine (dead_nil _).mono ?_
  rintro r w' ⟨rfl, e⟩
  obtain rfl := e.symm
  go_wp2_with fail
  refine (len_nil _).mono ?_
  rintro r w' ⟨rfl, e⟩
  obtain rfl := e.symm
  go_wp2_with fail
  refine (waits_nil _).mono ?_
  rintro r w' ⟨rfl, e⟩
  obtain rfl := e.symm
  go_wp2_with fail
  refine (done_nil _).mono ?_
  rintro r w' ⟨rfl, e⟩
  obtain rfl := e.symm
  go_wp2_with fail
  refine (fuse_neg X12.out.at_ rfl (-1) (by decide) _).mono ?_
  rintro r w' ⟨rfl, e⟩
  obtain rfl := e.symm
  go_wp2_with fail
  refine (full_lit 1 1 rfl _).mono ?_
  rintro r w13 ⟨g13, rfl, -, -, ho⟩
  have X13 := Lib.hid (X12.out.new ho)
  clear ho
  go_wp2_with fail
  refine (write_bad X13.out.at_ rfl 0 _ 511 _ (.inr (.inr (by decide)))).mono ?_
  rintro r w' ⟨rfl, e⟩
  obtain rfl := e.symm
  go_wp2_with fail
  refine (full_lit 1 1 rfl _).mono ?_
  rintro r w14 ⟨g14, rfl, -, -, ho⟩
  have X14 := Lib.hid (X13.out.new ho)
  clear ho
  go_wp2_with fail
  refine (write_bad X14.out.at_ rfl (-1) _ 512 _ (.inl (by decide))).mono ?_
  rintro r w' ⟨rfl, e⟩
  obtain rfl := e.symm
  go_wp2_with fail
  refine (X14.out.done (n := 0) rfl).mono ?_
  rintro r w' ⟨rfl, rfl⟩
  go_wp2_with fail
  go_ret
  exact ⟨rfl, X14.out.only⟩

theorem names_below (w : World) : Calls Try.prog 6 #[] w fun r w' => r = .returned (.bool true) ∧ Below w.heap.size w w' :=
  (names_any w).mono fun _ _ ⟨h1, h2⟩ => ⟨h1, h2.below (Nat.le_refl _) fun _ h => h.elim⟩
end Go.Proofs.Yteoeaojebklfjaa
