/- Out. -/
import Derived.Test.YtfjfpnlcmjpofaaSB
namespace Go.Proofs.Ytfjfpnlcmjpofaa
open Go.RowKit Go.Maps Go.Sort Go.Shelf
set_option linter.unusedVariables false
attribute [local go_sem] Oper.semAt_some

/-- of a key -/
def ofKey (k : ByteArray) (x : Ls) : Bool := x.key.toList == k.toList
theorem ownsRow_base' {W : World} {base base' : Nat} {e : TypeId} {size : Nat} {v : Value} {k : Nat} {xs : List Value} (h : W.ownsRow base e size v k xs) (hb : base' ≤ base) : W.ownsRow base' e size v k xs := by
  refine ⟨h.1, ?_⟩
  rcases h.2 with hn | ⟨g, cap, cur, hv, hbg, rest⟩
  · exact .inl hn
  · exact .inr ⟨g, cap, cur, hv, Nat.le_trans hb hbg, rest⟩
theorem Boxed.sorted {W W2 : World} {B base n : Nat} {v : Value} {xs : List Value} (hv : Boxed W B 47 v) (hrow : W.ownsRow base 57 4 v n xs) (o : Only (fun k => v.ownBlock = some k) W W2) (hB : B < base) : Boxed W2 B 47 v :=
  (o.block B hv.lt fun e => by have := (hrow.lt B e).1; omega).trans hv
set_option maxRecDepth 100000 in
set_option maxHeartbeats 2000000 in
theorem outP (p : Option Addr) (key : ByteArray) (now : Int) (w : World) (S : List Ls → Prop) (N : Nat) (hN : N ≤ 2000000) (hlen : ∀ ss, S ss → ss.length ≤ N)
    (hseq : ∀ W0, Only None' w W0 → ∀ X Y, X < W0.heap.size → Y < W0.heap.size → W0.cell? ⟨X, 0, none⟩ = some (.pointer p) → W0.cell? ⟨Y, 0, none⟩ = some (.int .i64 now) → SeqStopsK Fence.wide 4 Try.prog 33 #[.pointer (some ⟨X, 0, none⟩), .pointer (some ⟨Y, 0, none⟩)] (fun x : Ls => #[x.v]) (Kp Y) S (fun _ => True) N W0) :
    CallsIn Fence.wide 5 Try.prog 22 #[.pointer p, .string key, .int .i64 now] w fun e w' => ∃ (v : Value) (ss l : List Ls), e = .returned v ∧ S ss ∧ l.Perm (ss.filter (ofKey key)) ∧ Up l ∧ Vec w' 4 v l.length (l.flatMap Ls.row) ∧ (∀ k, v.ownBlock = some k → w.heap.size ≤ k) ∧ Only None' w w' := by
  refine callsIn_of_wp_marks Try.func22 rfl trivial ?_ rfl
  simp only [Try.ntmps22, List.size_toArray, List.length_cons, List.length_nil, Nat.reduceAdd, Nat.reduceSub, Array.replicate_succ, Array.replicate_zero, List.push_toArray, List.append_toArray, List.nil_append, List.cons_append]
  gi_wp2_with (refine ⟨trivial, ?_⟩; gi_at_call 29; refine (out_any p now Fence.wide 4 trivial rfl _).mono ?_; rintro e w' ⟨rfl, rfl⟩)
  have bK0 := Boxed.new w 9 (.string key)
  have bO0 := Boxed.new (w.alloc (.cells #[.string key] 9)) 47 (.slice none 0 0)
  rw [World.size_alloc] at bO0
  obtain ⟨b1, b2, b3⟩ := boxes p now ((w.alloc (.cells #[.string key] 9)).alloc (.cells #[.slice none 0 0] 47))
  obtain ⟨W0, hW0⟩ : ∃ W0, (((w.alloc (.cells #[.string key] 9)).alloc (.cells #[.slice none 0 0] 47)).alloc (.cells #[.pointer p] 27)).alloc (.cells #[.int .i64 now] 3) = W0 := ⟨_, rfl⟩
  have bK : Boxed W0 w.heap.size 9 (.string key) := by rw [← hW0]; exact ((bK0.alloc _).alloc _).alloc _
  have bO : Boxed W0 (w.heap.size + 1) 47 (.slice none 0 0) := by rw [← hW0]; exact (bO0.alloc _).alloc _
  have hB0 : Below w.heap.size w W0 := by rw [← hW0]; exact ((((Below.refl _ w).alloc (Nat.le_refl _) _).alloc (by simp) _).alloc (by simp; omega) _).alloc (by simp; omega) _
  rw [hW0] at b1 b2 b3
  simp only [World.size_alloc] at b1 b2 b3
  have hsz : W0.heap.size = w.heap.size + 4 := by omega
  have hS := hseq W0 (Only.of_below hB0 _) (w.heap.size + 1 + 1) (w.heap.size + 1 + 1 + 1) (by omega) (by omega) b1 b2
  rw [hW0]
  clear hW0 bK0 bO0 hseq
  refine wpIn_rangeFunc_ownH rfl (by omega) (gf := 33) (lb := #[.pointer (some ⟨w.heap.size + 1 + 1, 0, none⟩), .pointer (some ⟨w.heap.size + 1 + 1 + 1, 0, none⟩)]) rfl trivial e33 hS kp_t (kp_b (by omega)) (Below.refl _ _) (fun _ => rfl)
    (fun pre W => ((∃ v, Boxed W (w.heap.size + 1) 47 v ∧ W.ownsRow W0.heap.size 57 4 v (pre.filter (ofKey key)).length ((pre.filter (ofKey key)).flatMap Ls.row) ∧ True) ∧ Boxed W w.heap.size 9 (.string key)) ∧ Below w.heap.size W0 W)
    (fun _ _ _ => False)
    (OwnFrom.and (OwnFrom.and (Own.from (rows_own W0.heap.size (w.heap.size + 1) (fun s => s.filter (ofKey key))) _) (Own.from (boxed_own _ _ (fun (_ : List Ls) => Value.string key)) _)) (ownFrom_below (by omega) (by omega)))
    (fun _ _ _ _ _ hs _ _ => hs)
    ⟨⟨⟨_, bO, World.ownsRow_nil _ _ _ _, trivial⟩, bK⟩, Below.refl _ _⟩
    (fun x a' W => ∃ Bx, w.heap.size + 1 < Bx ∧ BoxS W Bx x ∧ a' = { tmps := #[.pointer p, .string key, .int .i64 now, undef, .pointer (some ⟨w.heap.size, 0, none⟩), undef, .slice none 0 0, .pointer (some ⟨w.heap.size + 1, 0, none⟩), .pointer (some ⟨Bx, 0, none⟩), .pointer p, .int .i64 now, .func (.func 33) #[] #[.pointer (some ⟨w.heap.size + 1 + 1, 0, none⟩), .pointer (some ⟨w.heap.size + 1 + 1 + 1, 0, none⟩)], x.v, undef, undef, undef, undef, undef, undef, undef, undef, undef, undef, undef], defers := [] })
    (fun x a' _ X Y row hs hg hr => by obtain ⟨Bx, h1, h2, h3⟩ := hs; exact ⟨Bx, h1, boxS_own Bx x _ () X Y row h2 hg hr, h3⟩)
    ?assign ?body ?done ?stop
  case assign =>
    rintro l pre x W K ⟨⟨⟨v, hv, hrow, _⟩, hk⟩, hB⟩ hK
    dsimp only [Ls.v]
    gi_wp2
    exact hK _ _ ((KeepsOthers.alloc _ _).from _) ⟨KeepsWalks.alloc _ _, Below.heap_alloc _ _ _ (by have := hB.size; omega)⟩ ⟨⟨⟨v, hv.alloc _, hrow.alloc _, trivial⟩, hk.alloc _⟩, hB.alloc (by have := hB.size; omega) _⟩ ⟨W.heap.size, hv.lt, BoxS.new W x, rfl⟩
  case body =>
    rintro l pre x a' W hl ⟨r, hr⟩ ⟨⟨⟨v, hv, hrow, _⟩, hk⟩, hB⟩ ⟨Bx, hBx, bX, rfl⟩ hlt
    have hc := hv.cell
    have hkc := hk.cell
    have hBs := hB.size
    have hfl : (pre.filter (ofKey key)).length ≤ pre.length := List.length_filter_le _ _
    obtain ⟨x0, x1, x2, x3⟩ := bX.cells
    obtain ⟨b, hb⟩ : ∃ b, (x.key.toList == key.toList) = b := ⟨_, rfl⟩
    have hb' : ofKey key x = b := hb
    dsimp only [Ls.v]
    cases b with
    | false =>
      have e : (pre ++ [x]).filter (ofKey key) = pre.filter (ofKey key) := by rw [List.filter_append]; simp [hb']
      gi_wp2
      exact ⟨KeepsFrom.refl _ _, ⟨KeepsWalks.refl _, rfl⟩, ⟨⟨v, hv, by rw [e]; exact hrow, trivial⟩, hk⟩, hB⟩
    | true =>
      have e : (pre ++ [x]).filter (ofKey key) = pre.filter (ofKey key) ++ [x] := by rw [List.filter_append]; simp [hb']
      have hrow' : W.ownsRow w.heap.size 57 4 v (pre.filter (ofKey key)).length ((pre.filter (ofKey key)).flatMap Ls.row) := ownsRow_base' hrow (by omega)
      gi_wp2_with (gi_at_builtin; refine wpListIn_append_own _ rfl _ _ 47 rfl W0.heap.size 57 Try.t57 Ls.zero.v 4 40 under47 info57 t57_zero t57_size t57_bytes rfl (by decide) _ _ _ rfl (hrow.alloc _) ⟨W.heap.size, 0, none⟩ 1 1 x.row rfl rfl (one_lease W x) (by intro u hu; exact Ls.row_one x u hu) (by unfold maxLen; omega) (by omega) (by simp; omega) ?_; intro v' w1 hown' hgrow _; obtain ⟨g', cap', rfl⟩ := ownsRow_succ hown'; obtain ⟨hv1, hv2, hr2, hk2, hb2⟩ := hv.appended (by decide) hrow' (by omega) (by omega) (ownsRow_base' hown' (by omega)) hgrow; have hc1 := hv1.cell; have hf1 := hv1.frozen)
      have hY : (w1.setCell ⟨w.heap.size + 1, 0, none⟩ (.slice (some ⟨g', 0, none⟩) ((pre.filter (ofKey key)).length + 1) cap')).heap[w.heap.size + 1 + 1 + 1]? = W.heap[w.heap.size + 1 + 1 + 1]? := by
        rw [Below.heap_setCell _ _ _ _ (by simp only; omega)]
        refine (hgrow.block _ (by simp; omega) (fun e => ?_)).trans (Below.heap_alloc _ _ _ (by omega))
        have := (hrow.lt _ e.symm).1
        omega
      have hr3 := hown'.kept (grownBy_setCell' w1 (w.heap.size + 1) (.slice (some ⟨g', 0, none⟩) ((pre.filter (ofKey key)).length + 1) cap')) (.inr fun e => by have := (hown'.lt _ e).1; omega)
      have hk3 : Boxed (w1.setCell ⟨w.heap.size + 1, 0, none⟩ (.slice (some ⟨g', 0, none⟩) ((pre.filter (ofKey key)).length + 1) cap')) w.heap.size 9 (.string key) := by
        show (w1.setCell _ _).heap[w.heap.size]? = _
        rw [Below.heap_setCell _ _ _ _ (by simp only; omega)]
        refine ((hgrow.block _ (by simp; omega) (fun e => ?_)).trans (Below.heap_alloc _ _ _ (by omega))).trans hk
        have := (hrow.lt _ e.symm).1
        omega
      exact ⟨hk2.from _, ⟨KeepsOthers.walks hk2, hY⟩, ⟨⟨_, hv2, by rw [e, List.length_append, List.flatMap_append, List.flatMap_singleton]; exact hr3, trivial⟩, hk3⟩, hB.trans hb2⟩
  case done =>
    rintro D ss W hD hS ⟨⟨⟨v, hv, hrow, _⟩, hk⟩, hB⟩ hK
    have hc := hv.cell
    have hvec := Vec.of_owns hrow
    have hfl : (ss.filter (ofKey key)).length ≤ ss.length := List.length_filter_le _ _
    have hl := hlen ss hS
    have hsort := sort_any hvec (by omega)
    gi_wp2_with (refine ⟨trivial, ?_⟩; gi_at_call 30; refine (callsIn_wide.2 hsort).mono ?_; rintro e W2 ⟨rfl, l', hp, hu, hv2, o2⟩; have hv3 := Boxed.sorted hv hrow o2 (by omega); have hc3 := hv3.cell)
    have hK3 : W2.heap[D]? = some (.deferred (some [])) := (o2.block D (Array.getElem?_eq_some_iff.1 hK).1 (fun e => by
      rcases hrow.2 with ⟨e2, _⟩ | ⟨g, cap, cur, e2, _, hg, _⟩
      · rw [e2] at e; cases e
      · rw [e2] at e
        injection e with e
        subst e
        rw [hK] at hg
        cases hg)).trans hK
    refine ⟨by simp, .inl ⟨_, _, rfl, run_takeDeferred hK3, ?_⟩⟩
    refine ⟨_, results_tmp rfl _ _ _, v, ss, l', rfl, hS, hp, hu, ?_, fun k hk => by have := (hrow.lt k hk).1; omega, ?_⟩
    · rw [hp.length_eq]
      refine hv2.kept (by simp) fun g hg => World.putObj_heap_other fun e => ?_
      subst e
      rcases hrow.2 with ⟨e2, _⟩ | ⟨g', cap, cur, e2, _, hg', _⟩
      · rw [e2] at hg; cases hg
      · rw [e2] at hg
        injection hg with hg
        subst hg
        rw [hK] at hg'
        cases hg'
    · have o1 : Only None' w W := Only.of_below (hB0.trans hB) _
      have o3 : Only (fun k => W0.heap.size ≤ k) W W2 := o2.mono fun k _ e => (hrow.lt k e).1
      have o4 : Only (fun k => W0.heap.size ≤ k) W2 (W2.putObj D (.deferred none)) := ⟨rfl, rfl, rfl, by simp, fun k hk hn => World.putObj_heap_other (by omega)⟩
      exact o1.trans2 (o3.trans o4) fun k hk e => by omega
  case stop =>
    rintro D c pre W _ _ h _
    exact h.elim
section
variable {w w' : World} {B M N : Nat} {t : Tb}
theorem ofKey_iff (k : ByteArray) (x : Ls) : ofKey k x = true ↔ x.key = k := by
  unfold ofKey
  rw [beq_iff_eq, ByteArray.toList_eq, ByteArray.toList_eq]
  exact ⟨key_eq, fun e => by rw [e]⟩
theorem outL_any (h : TabAt w B M N t) (key : ByteArray) (now : Int) : Calls Try.prog 22 #[.pointer (some ⟨B, 0, none⟩), .string key, .int .i64 now] w fun e w' => ∃ (v : Value) (l : List Ls), e = .returned v ∧ l.Perm ((t.ls.filter (live now)).filter (ofKey key)) ∧ Up l ∧ Vec w' 4 v l.length (l.flatMap Ls.row) ∧ (∀ k, v.ownBlock = some k → w.heap.size ≤ k) ∧ Only None' w w' := by
  have hc := (callsIn_wide (n := 5)).1 (outP (some ⟨B, 0, none⟩) key now w (fun ss => ss.Perm (t.ls.filter (live now))) t.ls.length h.small (fun ss hs => by rw [hs.length_eq]; exact List.length_filter_le _ _) fun W0 o X Y hX hY cX cY => (h.new o).stops now hX hY cX cY)
  refine hc.mono fun e w' ⟨v, ss, l, h1, h2, h3, h4, h5, h6, h7⟩ => ⟨v, l, h1, h3.trans (h2.filter _), h4, h5, h6, h7⟩
theorem outL_nil (key : ByteArray) (now : Int) : Calls Try.prog 22 #[.pointer none, .string key, .int .i64 now] w fun e w' => ∃ (v : Value), e = .returned v ∧ Vec w' 4 v 0 [] ∧ Only None' w w' := by
  have hc := (callsIn_wide (n := 5)).1 (outP none key now w (fun ss => ss.Perm []) 0 (by omega) (fun ss hs => by rw [hs.length_eq]; exact Nat.le_refl _) fun W0 o X Y hX hY cX cY => out_stops_nil Fence.wide 4 trivial rfl X _ _ _ hX cX)
  refine hc.mono fun e w' ⟨v, ss, l, h1, h2, h3, h4, h5, h6, h7⟩ => ?_
  obtain rfl := h2.eq_nil
  obtain rfl := h3.eq_nil
  exact ⟨v, h1, h5, h7⟩
end
end Go.Proofs.Ytfjfpnlcmjpofaa
