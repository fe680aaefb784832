/- slices.AppendSeq, Collect, SortedFunc of leases; All. -/
import Derived.Test.YtfjfpnlcmjpofaaS9
namespace Go.Proofs.Ytfjfpnlcmjpofaa
open Go.RowKit Go.Maps Go.Sort Go.Shelf
set_option linter.unusedVariables false
attribute [local go_sem] Oper.semAt_some

theorem under47 : Try.prog.underlying 47 = some (.slice 57) := by kernel_rfl
theorem info57 : Try.prog.info? 57 = some Try.t57 := by kernel_rfl
theorem t57_zero : Try.t57.zero = some Ls.zero.v := by kernel_rfl
theorem t57_size : Try.t57.size = 4 := by kernel_rfl
theorem t57_bytes : Try.t57.bytes = 40 := by kernel_rfl
/-- a lease in a block of its own -/
def BoxS (W : World) (B : Nat) (x : Ls) : Prop := W.heap[B]? = some (.cells x.row.toArray 57 (0, 0))
theorem BoxS.new (W : World) (x : Ls) : BoxS (W.alloc (.cells x.row.toArray 57)) W.heap.size x := World.alloc_heap_new W _
theorem BoxS.cells {W : World} {B : Nat} {x : Ls} (h : BoxS W B x) : W.cell? ⟨B, 0, none⟩ = some (.string x.key) ∧ W.cell? ⟨B, 1, none⟩ = some (.int .i64 x.cache) ∧ W.cell? ⟨B, 2, none⟩ = some (.int .i64 x.num) ∧ W.cell? ⟨B, 3, none⟩ = some (.int .i64 x.fin) := by
  refine ⟨?_, ?_, ?_, ?_⟩ <;> simp [World.cell?, show W.heap[B]? = _ from h, Ls.row]
theorem boxS_own (B : Nat) (x : Ls) (Bf : Nat) : OwnFrom Bf (fun (_ : Unit) W => BoxS W B x) := fun s X Y row hs hg hr => by
  have hs' : X.heap[B]? = some (.cells x.row.toArray 57 (0, 0)) := hs
  exact (hg.block B (Array.getElem?_eq_some_iff.1 hs').1 (fun e => by
    obtain ⟨_, o, ho, hc⟩ := hr B e.symm
    rw [hs'] at ho
    cases ho
    cases hc)).trans hs'
theorem KeepsOthers.walks {W W' : World} (h : KeepsOthers W W') : KeepsWalks W W' := ⟨h.size, fun k o hk ho => h.same k o hk (by cases o <;> first | rfl | cases ho)⟩
theorem kp_t {Y : Nat} {A B C : World} (h : Kp Y A B) (k : Kp Y B C) : Kp Y A C := ⟨h.1.trans k.1, k.2.trans h.2⟩
theorem kp_b {Y : Nat} {w : World} (hn : Y < w.heap.size) (W : World) (l : Nat) (o o' : Obj) (hl : w.heap.size ≤ l) (h : W.heap[l]? = some o) (hc : o.isCells = false) (hw : o.isWalk = false) : Kp Y W (W.putObj l o') :=
  ⟨walksK_b (w := w) W l o o' hl h hc hw, World.putObj_heap_other (by omega)⟩
theorem rows_own (n₀ B : Nat) (f : List Ls → List Ls) : Own (fun (s : List Ls) W => ∃ v, Boxed W B 47 v ∧ W.ownsRow n₀ 57 4 v (f s).length ((f s).flatMap Ls.row) ∧ True) :=
  holdsRow_own n₀ B 47 57 4 (fun s => (f s).length) (fun s => (f s).flatMap Ls.row) (fun _ _ => True)
theorem one_lease (W : World) (x : Ls) : ∀ j u, x.row[j]? = some u → (W.alloc (.cells x.row.toArray 57)).cell? ((⟨W.heap.size, 0, none⟩ : Addr).add j) = some u := by
  intro j u hu
  rw [add_mid' (⟨W.heap.size, 0, none⟩) j rfl, Nat.zero_add]
  exact (cells_new W x.row 57).is j u hu
set_option maxRecDepth 100000 in
set_option maxHeartbeats 2000000 in
theorem appendSeq_in (F : Fence) (n : Nat) (h52 : F.fn 52) (hro : F.round = none) (hn : 2 ≤ n) (g : Nat) (lb : Array Value) (hFg : F.fn g) (eg : ∀ args w, (callFunc g args).run Try.prog w = .ok (.enter g args) w)
    (S : List Ls → Prop) (N : Nat) (hN : N ≤ 2000000) (w : World) (Y : Nat) (hYl : Y < w.heap.size) (hseq : SeqStopsK F (n - 1) Try.prog g lb (fun x : Ls => #[x.v]) (Kp Y) S (fun _ => True) N w) :
    CallsIn F n Try.prog 52 #[.slice none 0 0, .func (.func g) #[] lb] w fun e w' => ∃ (v : Value) (ss : List Ls), e = .returned v ∧ S ss ∧ w'.ownsRow w.heap.size 57 4 v ss.length (ss.flatMap Ls.row) ∧ Below w.heap.size w w' := by
  have h1 : 1 ≤ n := by omega
  refine callsIn_of_wp_marks Try.func52 rfl h52 ?_ hro
  simp only [Try.ntmps52, List.size_toArray, List.length_cons, List.length_nil, Nat.reduceAdd, Nat.reduceSub, Array.replicate_succ, Array.replicate_zero, List.push_toArray, List.append_toArray, List.nil_append, List.cons_append]
  gi_wp2
  have bO := Boxed.new w 47 (.slice none 0 0)
  have hB0 : Below w.heap.size w (w.alloc (.cells #[.slice none 0 0] 47)) := (Below.refl _ w).alloc (Nat.le_refl _) _
  obtain ⟨W0, hW0⟩ : ∃ W0, w.alloc (.cells #[.slice none 0 0] 47) = W0 := ⟨_, rfl⟩
  have hsz : W0.heap.size = w.heap.size + 1 := by rw [← hW0]; simp
  rw [hW0] at bO hB0 ⊢
  clear hW0
  refine wpIn_rangeFunc_ownH hro h1 (gf := g) (lb := lb) rfl hFg eg hseq kp_t (kp_b (by omega)) hB0 (fun _ => rfl)
    (fun pre W => (∃ v, Boxed W w.heap.size 47 v ∧ W.ownsRow w.heap.size 57 4 v pre.length (pre.flatMap Ls.row) ∧ True) ∧ Below w.heap.size w W)
    (fun _ _ _ => False)
    (OwnFrom.and (Own.from (rows_own w.heap.size w.heap.size id) _) (ownFrom_below (Nat.le_refl _) (by omega)))
    (fun _ _ _ _ _ hs _ _ => hs)
    ⟨⟨_, bO, World.ownsRow_nil _ _ _ _, trivial⟩, hB0⟩
    (fun x a' W => ∃ Bx, w.heap.size < Bx ∧ BoxS W Bx x ∧ a' = { tmps := #[.slice none 0 0, .func (.func g) #[] lb, .pointer (some ⟨w.heap.size, 0, none⟩), undef, .slice none 0 0, .pointer (some ⟨Bx, 0, none⟩), .func (.func g) #[] lb, x.v, undef, undef, undef, undef, undef], defers := [] })
    (fun x a' _ X Y row hs hg hr => by obtain ⟨Bx, h1, h2, h3⟩ := hs; exact ⟨Bx, h1, boxS_own Bx x _ () X Y row h2 hg hr, h3⟩)
    ?assign ?body ?done ?stop
  case assign =>
    rintro l pre x W K ⟨⟨v, hv, hrow, _⟩, hB⟩ hK
    dsimp only [Ls.v]
    gi_wp2
    exact hK _ _ ((KeepsOthers.alloc _ _).from _) ⟨KeepsWalks.alloc _ _, Below.heap_alloc _ _ Y (by have := hB.size; omega)⟩ ⟨⟨v, hv.alloc _, hrow.alloc _, trivial⟩, hB.alloc hB.size _⟩ ⟨W.heap.size, hv.lt, BoxS.new W x, rfl⟩
  case body =>
    rintro l pre x a' W hl ⟨r, hr⟩ ⟨⟨v, hv, hrow, _⟩, hB⟩ ⟨Bx, hBx, bX, rfl⟩ hlt
    have hc := hv.cell
    obtain ⟨x0, x1, x2, x3⟩ := bX.cells
    dsimp only [Ls.v]
    gi_wp2_with (gi_at_builtin; refine wpListIn_append_own _ rfl _ _ 47 rfl w.heap.size 57 Try.t57 Ls.zero.v 4 40 under47 info57 t57_zero t57_size t57_bytes rfl (by decide) _ _ _ rfl (hrow.alloc _) ⟨W.heap.size, 0, none⟩ 1 1 x.row rfl rfl (one_lease W x) (by intro u hu; exact Ls.row_one x u hu) (by unfold maxLen; omega) (by omega) (by have := hB.size; simp; omega) ?_; intro v' w1 hown' hgrow _; obtain ⟨g', cap', rfl⟩ := ownsRow_succ hown'; obtain ⟨hv1, hv2, hr2, hk2, hb2⟩ := hv.appended (by decide) hrow hB.size (Nat.le_refl _) hown' hgrow; have hc1 := hv1.cell; have hf1 := hv1.frozen)
    exact ⟨hk2.from _, ⟨KeepsOthers.walks hk2, hb2.block Y hYl⟩, ⟨_, hv2, by rw [List.length_append, List.flatMap_append, List.flatMap_singleton]; exact hr2, trivial⟩, hB.trans hb2⟩
  case done =>
    rintro D ss W hD hS ⟨⟨v, hv, hrow, _⟩, hB⟩ hK
    have hc := hv.cell
    gi_wp2
    refine ⟨by simp, .inl ⟨_, _, rfl, run_takeDeferred hK, ?_⟩⟩
    exact ⟨_, results_tmp rfl _ _ _, v, ss, rfl, hS, ownsRow_putObj hrow _ hK rfl, hB.trans (belowK_b (w := w) (Nat.le_refl _) W D _ _ (by omega) hK rfl rfl)⟩
  case stop =>
    rintro D c pre W _ _ h _
    exact h.elim
end Go.Proofs.Ytfjfpnlcmjpofaa
