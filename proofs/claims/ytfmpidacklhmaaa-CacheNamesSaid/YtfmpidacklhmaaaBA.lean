/- A9 + AA + AB in one text. -/
import Derived.Test.YtfmpidacklhmaaaA1
import Derived.Laws.OwnMore
import Derived.Great.BuildSlice
/- route: New (18), Owner (43), next (59), Turn (54), of three stores and one shard. -/
namespace Go.Proofs.Ytfmpidacklhmaaa
open Go.RowKit Go.Maps
set_option linter.unusedVariables false
set_option maxRecDepth 20000

/-- a route of three stores and one shard: whose turn it is, who owns the shard -/
structure RtAt (w : World) (R T : Nat) (at_ owner epoch : Int) : Prop where
  blk : CellsR w R [.int .i64 3, .int .i64 at_, .slice (some ⟨T, 0, none⟩) 1 1]
  row : Vec w 2 (.slice (some ⟨T, 0, none⟩) 1 1) 1 [.int .i64 owner, .int .i64 epoch]
  ne : R ≠ T
theorem RtAt.only {w w' : World} {R T : Nat} {at_ owner epoch : Int} {S : Nat → Prop} (h : RtAt w R T at_ owner epoch) (o : Only S w w') (h1 : ¬ S R) (h2 : ¬ S T) : RtAt w' R T at_ owner epoch := ⟨h.blk.kept o h1, h.row.only o fun g hg e => h2 (by injection hg with hg; have hg : T = g := hg; rw [hg]; exact e), h.ne⟩
theorem RtAt.cells {w : World} {R T : Nat} {at_ owner epoch : Int} (h : RtAt w R T at_ owner epoch) : w.cell? ⟨T, 0, none⟩ = some (.int .i64 owner) ∧ w.cell? ⟨T, 1, none⟩ = some (.int .i64 epoch) ∧ w.frozen? ⟨T, 0, none⟩ = false ∧ w.frozen? ⟨T, 1, none⟩ = false ∧ T < w.heap.size := by
  obtain ⟨g, off, c, e, _, _, h3, h4, h5⟩ := h.row.at_ (by omega)
  cases e
  exact ⟨h4 0 _ rfl, h4 1 _ rfl, (h5 0 (by omega)).2, (h5 1 (by omega)).2, h3⟩
theorem owner_any {w : World} {R T : Nat} {at_ owner epoch : Int} (h : RtAt w R T at_ owner epoch) : Calls Try.prog 43 #[.pointer (some ⟨R, 0, none⟩), .int .i64 0] w fun e w' => e = .returned (.tuple #[.int .i64 owner, .int .i64 epoch]) ∧ Only None' w w' := by
  have c2 := h.blk.is 2 _ rfl
  obtain ⟨r0, r1, _⟩ := h.cells
  have HS := Lib.hid (Only.refl None' w)
  clear h
  go_enter Try.func43, Try.ntmps43
  go_wp2_with fail
  go_quiet (fail)
  go_wp2_with fail
  go_ret2
  exact ⟨rfl, HS.out.drewN _⟩
theorem next_any {w : World} {R T : Nat} {at_ owner epoch : Int} (h : RtAt w R T at_ owner epoch) (h0 : at_ = 0) : Calls Try.prog 59 #[.pointer (some ⟨R, 0, none⟩)] w fun e w' => e = .returned (.int .i64 1) ∧ RtAt w' R T 1 owner epoch ∧ Only (fun k => k = R) w w' := by
  subst h0
  have H := Lib.hid h
  have c0 := h.blk.is 0 _ rfl
  have c1 := h.blk.is 1 _ rfl
  have f1 := h.blk.thaw 1
  clear h
  go_enter Try.func59, Try.ntmps59
  go_wp2_with fail
  go_region
  go_wp2_with fail
  go_ret
  have o : Only (fun k => k = R) w (w.setCell ⟨R, 1, none⟩ (.int .i64 1)) := (Only.refl (fun k => k = R) w).setCell (p := ⟨R, 1, none⟩) rfl _
  exact ⟨rfl, ⟨(H.out.blk.set (i := 1) (by show 1 < 3; omega) (.int .i64 1)).kept ((Only.refl None' _).drew) fun e => e, (H.out.row.only o fun g hg e => H.out.ne (by injection hg with hg; exact (hg.trans e).symm)).only ((Only.refl None' _).drew) fun _ _ e => e, H.out.ne⟩, o.drew⟩
theorem turn_any {w : World} {R T : Nat} {at_ owner epoch : Int} (h : RtAt w R T at_ owner epoch) (h0 : at_ = 0) : Calls Try.prog 54 #[.pointer (some ⟨R, 0, none⟩)] w fun e w' => e = .returned (.int .i64 1) ∧ RtAt w' R T 1 owner epoch ∧ Only (fun k => k = R) w w' := by
  have H := Lib.hid h
  have H0 := Lib.hid h0
  clear h h0
  go_enter Try.func54, Try.ntmps54
  go_wp2_with fail
  refine (next_any H.out H0.out).mono ?_
  rintro e w1 ⟨rfl, h1, o1⟩
  have H1 := Lib.hid (And.intro h1 o1)
  clear h1 o1
  go_wp2_with fail
  go_ret
  exact ⟨rfl, H1.out⟩
end Go.Proofs.Ytfmpidacklhmaaa
/- route: Learn (42), of three stores and one shard. -/
namespace Go.Proofs.Ytfmpidacklhmaaa
open Go.RowKit Go.Maps
set_option linter.unusedVariables false
set_option maxRecDepth 20000

/-- nothing is learned of owner 0 -/
theorem learn_no {w : World} {R T : Nat} {at_ owner epoch : Int} (h : RtAt w R T at_ owner epoch) (ep : Int) : Calls Try.prog 42 #[.pointer (some ⟨R, 0, none⟩), .int .i64 0, .int .i64 ep, .int .i64 0] w fun e w' => e = .returned (.bool false) ∧ w = w' := by
  have c2 := h.blk.is 2 _ rfl
  clear h
  go_enter Try.func42, Try.ntmps42
  go_wp2_with fail
  go_ret
  exact ⟨rfl, rfl⟩
/-- the first belief -/
theorem learn_first {w : World} {R T : Nat} {at_ : Int} (h : RtAt w R T at_ 0 0) : Calls Try.prog 42 #[.pointer (some ⟨R, 0, none⟩), .int .i64 0, .int .i64 1, .int .i64 2] w fun e w' => e = .returned (.bool true) ∧ RtAt w' R T at_ 2 1 ∧ Only (fun k => k = T) w w' := by
  have H := Lib.hid h
  have c0 := h.blk.is 0 _ rfl
  have c2 := h.blk.is 2 _ rfl
  obtain ⟨r0, r1, f0, f1, lT⟩ := h.cells
  have lR := h.blk.lt
  clear h
  go_enter Try.func42, Try.ntmps42
  go_wp2_with fail
  go_ret
  have o : Only (fun k => k = T) w ((w.setCell ⟨T, 0, none⟩ (.int .i64 2)).setCell ⟨T, 1, none⟩ (.int .i64 1)) := ((Only.refl (fun k => k = T) w).setCell (p := ⟨T, 0, none⟩) rfl _).setCell (p := ⟨T, 1, none⟩) rfl _
  exact ⟨rfl, ⟨(H.out.blk.kept o H.out.ne).kept ((Only.refl None' _).alloc _) fun e => e, (Vec.put H.out.row (o := 0) (vs := [.int .i64 2, .int .i64 1]) (by show 0 + 2 ≤ 1 * 2; omega)).only ((Only.refl None' _).alloc _) fun _ _ e => e, H.out.ne⟩, o.alloc _⟩
end Go.Proofs.Ytfmpidacklhmaaa
/- route: New (18), of three stores and one shard. -/
namespace Go.Proofs.Ytfmpidacklhmaaa
open Go.RowKit Go.Maps
set_option linter.unusedVariables false
set_option maxRecDepth 20000

theorem under85 : Try.prog.underlying 85 = some (.slice 116) := by kernel_rfl
theorem info116 : Try.prog.info? 116 = some Try.t116 := by kernel_rfl
theorem t116_zero : Try.t116.zero = some (.agg #[.int .i64 0, .int .i64 0]) := by kernel_rfl
theorem t116_size : Try.t116.size = 2 := by kernel_rfl
theorem t116_bytes : Try.t116.bytes = 16 := by kernel_rfl
theorem make85 (w : World) : ∃ w', (Instr.makeSlice 85 (.int .i64 1) (.int .i64 1)).run Try.prog w = .ok (.slice (some ⟨w.heap.size, 0, none⟩) 1 1) w' ∧ Vec w' 2 (.slice (some ⟨w.heap.size, 0, none⟩) 1 1) 1 [.int .i64 0, .int .i64 0] ∧ Only None' w w' := by
  obtain ⟨w', hrun, r1, r2⟩ := run_make_full (P := Try.prog) w w.heap.size 85 116 Try.t116 (.agg #[.int .i64 0, .int .i64 0]) 2 under85 info116 t116_zero t116_size .i64 .i64 1 (by rw [t116_bytes]; omega) (by unfold maxLen; omega) (Nat.le_refl _)
  have hv := Vec.of_owns r1
  have e : (madeCells (Value.agg #[Value.int .i64 0, Value.int .i64 0]).cells (1 * 2)).toList = [.int .i64 0, .int .i64 0] := by kernel_rfl
  rw [e] at hv
  exact ⟨w', hrun, hv, (Only.refl None' w).grown r2 (by simp)⟩
theorem rnew_any (w : World) : Calls Try.prog 18 #[.int .i64 1, .int .i64 3] w fun e w' => ∃ R T, e = .returned (.tuple #[.pointer (some ⟨R, 0, none⟩), .int .i64 0]) ∧ RtAt w' R T 0 0 0 ∧ w.heap.size ≤ R ∧ w.heap.size ≤ T ∧ Only None' w w' := by
  obtain ⟨w1, hmk, hv, o1⟩ := make85 w
  generalize hT : w.heap.size = T at hmk hv
  have H := Lib.hid (And.intro hv (And.intro o1 hT))
  clear hv o1 hT
  go_enter Try.func18, Try.ntmps18
  go_wp2_with fail
  go_ret2
  refine ⟨w1.heap.size, T, rfl, ⟨cells_new w1 _ 87, H.out.1.only ((Only.refl None' w1).alloc _) fun _ _ e => e, ?_⟩, ?_, ?_, H.out.2.1.alloc _⟩
  · have h1 : T < w1.heap.size := H.out.1.lt rfl
    omega
  · have h1 := H.out.2.1.size; have h2 := H.out.2.2; omega
  · have h2 := H.out.2.2; omega
end Go.Proofs.Ytfmpidacklhmaaa
