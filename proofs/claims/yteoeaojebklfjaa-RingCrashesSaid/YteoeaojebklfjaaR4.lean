/- The document's disk: Copy; alike. -/
import Derived.Test.YteoeaojebklfjaaR3
import Derived.Lib.BufferRead
namespace Go.Proofs.Yteoeaojebklfjaa
open Go.RowKit Go.Maps
set_option linter.unusedVariables false

theorem waitsR_one {d : Dk} : ∀ u ∈ d.waits.flatMap rw_, u.oneCell' = true := by
  intro u hu
  obtain ⟨p, _, h⟩ := List.mem_flatMap.1 hu
  exact rw_one p u h

theorem copiedR {wA q1 y1 q2 y2 q3 y3 : World} {C : Nat} {v1 v2 v3 : Value} {d : Dk} (hok : d.Ok) (hC : C < wA.heap.size) (F1 : Fresh wA q1 1 v1 d.lasts.length (strs (d.lasts.map st))) (o1 : Only (fun k => k = C) q1 y1)
    (F2 : Fresh y1 q2 2 v2 d.waits.length (d.waits.flatMap rw_)) (o2 : Only (fun k => k = C) q2 y2) (F3 : Fresh y2 q3 1 v3 d.keep.length (bo d.keep)) (o3 : Only (fun k => k = C) q3 y3)
    (hc : CellsR y3 C [v1, v2, .int .i64 d.done, .bool d.dead, .bool d.set, .int .i64 d.left, v3]) : Ref y3 C v1 v2 v3 d ∧ ∀ k, FR C v1 v2 v3 k → C ≤ k := by
  have s1 := F1.only.size
  have s2 := o1.size
  have s3 := F2.only.size
  have s4 := o2.size
  have s5 := F3.only.size
  have f1 := F1.fresh
  have f2 := F2.fresh
  have f3 := F3.fresh
  have l1 : ∀ k, v1.ownBlock = some k → k < q1.heap.size := fun k hk => F1.vec.lt hk
  have l2 : ∀ k, v2.ownBlock = some k → k < q2.heap.size := fun k hk => F2.vec.lt hk
  refine ⟨⟨hc, ?_, ?_, ?_, fun k hk => by have := f1 k hk; omega, fun k hk => ⟨by have := f2 k hk; omega, fun e => by have := f2 k hk; have := l1 k e; omega⟩, fun k hk => ⟨by have := f3 k hk; omega, fun e => by have := f3 k hk; have := l1 k e; omega, fun e => by have := f3 k hk; have := l2 k e; omega⟩, hok⟩, fun k hk => ?_⟩
  · exact ((((F1.vec.only o1 fun g hg e => by have := f1 g hg; omega).only F2.only fun _ _ e => e).only o2 fun g hg e => by have := f1 g hg; omega).only F3.only fun _ _ e => e).only o3 fun g hg e => by have := f1 g hg; omega
  · exact ((F2.vec.only o2 fun g hg e => by have := f2 g hg; omega).only F3.only fun _ _ e => e).only o3 fun g hg e => by have := f2 g hg; omega
  · exact F3.vec.only o3 fun g hg e => by have := f3 g hg; omega
  · rcases hk with rfl | hk | hk | hk
    · exact Nat.le_refl _
    · have := f1 k hk; omega
    · have := f2 k hk; omega
    · have := f3 k hk; omega

theorem Only.setNew {w0 w : World} {C : Nat} (h : Only None' w0 w) (hC : w0.heap.size ≤ C) (i : Nat) (v : Value) : Only None' w0 (w.setCell ⟨C, i, none⟩ v) :=
  h.trans2 ((Only.refl (fun k => k = C) w).setCell (p := ⟨C, i, none⟩) rfl v) fun k hk e => by omega

set_option maxRecDepth 20000 in
set_option maxHeartbeats 2000000 in
theorem rCopy_any {w : World} {X : Nat} {G : Nat → Prop} {d : Dk} (h : RefAt w X G d) (hn : d.waits.length ≤ 1000000) (hk : d.keep.length ≤ 140737488351232) :
    Calls Try.prog 36 #[.pointer (some ⟨X, 0, none⟩)] w fun r w' => ∃ X' G', r = .returned (.pointer (some ⟨X', 0, none⟩)) ∧ RefAt w' X' G' d ∧ (∀ k, G' k → w.heap.size ≤ k) ∧ Only None' w w' := by
  obtain ⟨U1, U2, UK, h, rfl⟩ := h
  obtain ⟨a1, k1, a2, k2, aK, kK, rfl, rfl, rfl⟩ := h.shapes
  have c0 := h.cells.is 0 _ rfl
  have c1 := h.cells.is 1 _ rfl
  have c2 := h.cells.is 2 _ rfl
  have c3 := h.cells.is 3 _ rfl
  have c4 := h.cells.is 4 _ rfl
  have c5 := h.cells.is 5 _ rfl
  have c6 := h.cells.is 6 _ rfl
  have ltX := h.cells.lt
  obtain ⟨n1, hn1⟩ : ∃ n1, n1 = d.lasts.length := ⟨_, rfl⟩
  obtain ⟨n2, hn2⟩ : ∃ n2, n2 = d.waits.length := ⟨_, rfl⟩
  obtain ⟨n3, hn3⟩ : ∃ n3, n3 = d.keep.length := ⟨_, rfl⟩
  obtain ⟨wA, hwA⟩ : ∃ wA, wA = w.alloc (.cells #[.slice a1 d.lasts.length k1, .slice a2 d.waits.length k2, .int .i64 d.done, .bool d.dead, .bool d.set, .int .i64 d.left, .slice aK d.keep.length kK] 113) := ⟨_, rfl⟩
  have oA : Only None' w wA := by rw [hwA]; exact (Only.refl _ _).alloc _
  have lA : w.heap.size < wA.heap.size := by rw [hwA]; simp
  have CA : Hid (CellsR wA w.heap.size [.slice a1 d.lasts.length k1, .slice a2 d.waits.length k2, .int .i64 d.done, .bool d.dead, .bool d.set, .int .i64 d.left, .slice aK d.keep.length kK]) := by
    rw [hwA]
    exact ⟨fun i u hu => by rw [World.cell?_alloc_new]; simpa using hu, fun i => World.frozen?_alloc_new _ _ _ _, by simp⟩
  have eA := hwA.symm
  have cA := (oA.cell ltX (fun e => e) 0).trans c0
  have lXA : X < wA.heap.size := by omega
  have H := Lib.hid h
  have HOA := Lib.hid oA
  have R1 := Lib.hid ((h.lasts.only (oA.alloc (.cells #[] 9)) fun _ _ e => e).rd)
  have HB := Lib.hid (And.intro h.ok.many (And.intro hn hk))
  have HLA := Lib.hid (And.intro lA ltX)
  clear h hn hk hwA oA lA hn1 hn2 hn3
  go_enter Try.func36, Try.ntmps36
  go_wp2_with (first
    | (at_builtin; refine wpList_append_rd _ rfl _ _ 46 rfl 9 Try.t9 (.string ⟨#[]⟩) 1 16 Try.underlying46 info9 t9_zero t9_size t9_bytes rfl (by decide) ⟨wA.heap.size, 0, none⟩ 0 0 [] rfl (empty_row wA 9 1) _ d.lasts.length (strs (d.lasts.map st)) rfl R1.out (strs_one _) (by have := HB.out.1; unfold maxLen; omega) (by have := HB.out.1; omega) ?_; intro v1 q1 hv hg hf; obtain ⟨p1, p2, p3, rfl⟩ := hv.rd.shape'; have F1 := Lib.hid (fresh_of hv hg hf); have C1 := Lib.hid (CA.out.kept F1.out.only fun e => e); have t0 := C1.out.is 0 _ rfl; have tf := C1.out.thaw; obtain ⟨y1, hy1⟩ : ∃ y1, y1 = q1.setCell ⟨w.heap.size, 0, none⟩ (.slice p1 p2 p3) := ⟨_, rfl⟩; have D1 : Hid (CellsR y1 w.heap.size [.slice p1 p2 p3, .slice a2 d.waits.length k2, .int .i64 d.done, .bool d.dead, .bool d.set, .int .i64 d.left, .slice aK d.keep.length kK]) := (by rw [hy1]; exact C1.out.set (i := 0) (by simp) _); have O1 : Hid (Only None' w y1) := (by rw [hy1]; exact (HOA.out.trans F1.out.only).setNew (Nat.le_refl _) 0 _); have P1 : Hid (Only (fun k => k = w.heap.size) q1 y1) := (by rw [hy1]; exact (Only.refl (fun k => k = w.heap.size) q1).setCell (p := ⟨w.heap.size, 0, none⟩) rfl _); have ey1 := hy1.symm; have lX1 : X < y1.heap.size := Nat.lt_of_lt_of_le HLA.out.2 O1.out.size; have x1 := (O1.out.cell HLA.out.2 (fun e => e) 1).trans c1; have R2 := Lib.hid ((H.out.waits.only (O1.out.alloc (.cells #[] 115)) fun _ _ e => e).rd); clear hv hg hf hy1)
    | (at_builtin; refine wpList_append_rd _ rfl _ _ 111 rfl 115 Try.t115 (.agg #[.int .i64 0, .string ⟨#[]⟩]) 2 24 Try.underlying111 info115 t115_zero t115_size t115_bytes rfl (by decide) ⟨y1.heap.size, 0, none⟩ 0 0 [] rfl (empty_row y1 115 2) _ d.waits.length (d.waits.flatMap rw_) rfl R2.out waitsR_one (by have := HB.out.2.1; unfold maxLen; omega) (by have := HB.out.2.1; omega) ?_; intro v2 q2 hv hg hf; obtain ⟨s1, s2, s3, rfl⟩ := hv.rd.shape'; have F2 := Lib.hid (fresh_of hv hg hf); have C2 := Lib.hid (D1.out.kept F2.out.only fun e => e); have u0 := C2.out.is 1 _ rfl; have uf := C2.out.thaw; obtain ⟨y2, hy2⟩ : ∃ y2, y2 = q2.setCell ⟨w.heap.size, 1, none⟩ (.slice s1 s2 s3) := ⟨_, rfl⟩; have D2 : Hid (CellsR y2 w.heap.size [.slice p1 p2 p3, .slice s1 s2 s3, .int .i64 d.done, .bool d.dead, .bool d.set, .int .i64 d.left, .slice aK d.keep.length kK]) := (by rw [hy2]; exact C2.out.set (i := 1) (by simp) _); have O2 : Hid (Only None' w y2) := (by rw [hy2]; exact (O1.out.trans F2.out.only).setNew (Nat.le_refl _) 1 _); have P2 : Hid (Only (fun k => k = w.heap.size) q2 y2) := (by rw [hy2]; exact (Only.refl (fun k => k = w.heap.size) q2).setCell (p := ⟨w.heap.size, 1, none⟩) rfl _); have ey2 := hy2.symm; have lX2 : X < y2.heap.size := Nat.lt_of_lt_of_le HLA.out.2 O2.out.size; have x2 := (O2.out.cell HLA.out.2 (fun e => e) 6).trans c6; have R3 := Lib.hid ((H.out.keep.only (O2.out.alloc (.cells #[] 4)) fun _ _ e => e).rd); clear hv hg hf hy2)
    | (at_builtin; refine wpList_append_rd _ rfl _ _ 23 rfl 4 Try.t4 (.bool false) 1 1 Try.underlying23 info4 t4_zero t4_size t4_bytes rfl (by decide) ⟨y2.heap.size, 0, none⟩ 0 0 [] rfl (empty_row y2 4 1) _ d.keep.length (bo d.keep) rfl R3.out (bo_one _) (by have := HB.out.2.2; unfold maxLen; omega) (by have := HB.out.2.2; omega) ?_; intro v3 q3 hv hg hf; obtain ⟨r1, r2, r3, rfl⟩ := hv.rd.shape'; have F3 := Lib.hid (fresh_of hv hg hf); have C3 := Lib.hid (D2.out.kept F3.out.only fun e => e); have z0 := C3.out.is 6 _ rfl; have zf := C3.out.thaw; clear hv hg hf))
  have os3 : Only (fun k => k = w.heap.size) q3 (q3.setCell ⟨w.heap.size, 6, none⟩ (.slice r1 r2 r3)) := (Only.refl (fun k => k = w.heap.size) q3).setCell (p := ⟨w.heap.size, 6, none⟩) rfl _
  have hcp := Lib.hid (copiedR H.out.ok HLA.out.1 F1.out P1.out F2.out P2.out F3.out os3 (C3.out.set (i := 6) (by simp) _))
  have HO3 := Lib.hid ((O2.out.trans F3.out.only).setNew (Nat.le_refl _) 6 (.slice r1 r2 r3))
  clear t0 tf u0 uf z0 zf os3
  go_ret
  exact ⟨_, _, rfl, hcp.out.1.at_, hcp.out.2, HO3.out⟩
end Go.Proofs.Yteoeaojebklfjaa
