/- slices.Insert (46) of a pair, ahead of others. -/
import Derived.Test.YtajbagdgjbihjaaD3
import Derived.Lib.Overlaps
import Derived.Lib.AppendZerosOnto
import Derived.Lib.JoinLaws
import Derived.Laws.NewBlocks
import Derived.Laws.IdiomCopy
import Derived.Deep.RegionLaw
import Derived.WalkKit
namespace Go.Proofs.Ytajbagdgjbihjaa
open Go.RowKit Go.Maps
set_option linter.unusedVariables false

section
variable {P : Program}
theorem run_copy_many (w : World) (dT sT ty elem : TypeId) (i : TypeInfo) (size b o dLen dCap : Nat) (a : Addr) (sLen sCap m : Nat) (cs : List Value)
    (hu : P.underlying dT = some (.slice elem)) (hq : P.info? elem = some i) (hi : i.size = size) (hm : m = Nat.min sLen dLen) (hn : cs.length = m * size)
    (hsrc : ∀ j v, cs[j]? = some v → w.cell? (a.add j) = some v) (hc : ∀ j, j < cs.length → (w.cell? ⟨b, o + j, none⟩).isSome = true) (hf : ∀ j, j < cs.length → w.frozen? ⟨b, o + j, none⟩ = false) (h1 : ∀ v ∈ cs, v.oneCell' = true) :
    (Builtin.copy_ #[dT, sT] ty #[.slice (some ⟨b, o, none⟩) dLen dCap, .slice (some a) sLen sCap]).run P w = .ok (goInt m) (w.setCells b o cs) := by
  have hl := run_loadCells_list (P := P) w a cs hsrc
  have hst := run_storeCells_cells (P := P) b o cs 0 w (by simpa using hc) (by simpa using hf) h1
  subst hi
  simp [Builtin.copy_, run_underlying hu, Builtin.lenOf, Builtin.firstCells, sizeOf, typeInfo, hq, ← hm, ← hn, hl, hst]
theorem wpList_copy_run {w : World} {ops : Array Oper} {rest : List Oper} {o : Oper} {a : Act} {Q : Exit → Act → World → Prop} (hgd : o.guard = none) (d s : Operand) (t t' : TypeId)
    (ho : o.op = .call { callee := .builtin .copy, args := #[d, s], argTypes := #[t, t'] }) (v u : Value) (hd : a.eval d = v) (hs : a.eval s = u) {v' : Value} {w' : World}
    (hr : (Builtin.copy_ #[t, t'] o.type #[v, u]).run P w = .ok v' w') (h : wpList P ops Q rest (a.put o.dst v') w') : wpList P ops Q (o :: rest) a w := by
  refine wpList_plain hgd fun K hK => ?_
  unfold Oper.wp execOp
  simp only [ho, resolve, invoke, builtin, Sem.run_bind, Sem.run_pure, Result.andThen_ok, List.map_toArray, List.map_cons, List.map_nil, hd, hs, hr]
  exact hK _ _ h
end
section
variable {w : World} {g off n cap i : Nat} {ps : List Pr} {x : Pr}
theorem rows2 (l : List Pr) : (l.flatMap pairR).length = l.length * 2 := flat_length pairR 2 l fun _ _ => rfl
/-- a row has one more element where there is room -/
theorem Vec.more {xs : List Value} (h : Vec w 2 (.slice (some ⟨g, off, none⟩) n cap) n xs) (hc : n < cap) : ∃ a b, Vec w 2 (.slice (some ⟨g, off, none⟩) (n + 1) cap) (n + 1) (xs ++ [a, b]) := by
  rcases h.form with ⟨e, _⟩ | ⟨g', off', cap', e, h1, h2, h3, h4, h5⟩
  · cases e
  · injection e with e1 e2 e3
    injection e1 with e1
    injection e1 with e1 e4 _
    subst e1 e4 e3
    obtain ⟨a, ha⟩ := Option.isSome_iff_exists.1 (h5 (n * 2) (by omega)).1
    obtain ⟨b, hb⟩ := Option.isSome_iff_exists.1 (h5 (n * 2 + 1) (by omega)).1
    refine ⟨a, b, by simp [h.len]; omega, .inr ⟨g, off, cap, rfl, hc, h2, h3, fun j u hu => ?_, h5⟩⟩
    have hl := h.len
    by_cases hj : j < n * 2
    · rw [List.getElem?_append_left (by omega)] at hu
      exact h4 j u hu
    · rw [List.getElem?_append_right (by omega), hl] at hu
      have hj2 : j - n * 2 < 2 := (List.getElem?_eq_some_iff.1 hu).1
      have : j = n * 2 ∨ j = n * 2 + 1 := by omega
      rcases this with rfl | rfl
      · rw [show n * 2 - n * 2 = 0 by omega] at hu
        injection hu with hu
        rw [← hu]; exact ha
      · rw [show n * 2 + 1 - n * 2 = 1 by omega] at hu
        injection hu with hu
        rw [← hu]; exact hb
/-- what stands behind is put one further, the pair put in -/
theorem ins_rows {xs : List Value} (hi : i < n) (hn : n = ps.length) (hl : xs.length = (n + 1) * 2) :
    let ys := xs.take ((i + 1) * 2) ++ (ps.drop i).flatMap pairR ++ xs.drop ((i + 1) * 2 + ((ps.drop i).flatMap pairR).length)
    (ys.take (i * 2) ++ pairR x ++ ys.drop (i * 2 + (pairR x).length)) = xs.take (i * 2) ++ pairR x ++ (ps.drop i).flatMap pairR := by
  intro ys
  have e1 : ((ps.drop i).flatMap pairR).length = (n - i) * 2 := by rw [rows2, List.length_drop, hn]
  have e2 : xs.drop ((i + 1) * 2 + ((ps.drop i).flatMap pairR).length) = [] := List.drop_eq_nil_of_le (by rw [e1]; omega)
  have e3 : (pairR x).length = 2 := rfl
  show (ys.take (i * 2) ++ pairR x ++ ys.drop (i * 2 + (pairR x).length)) = _
  have e4 : ys = xs.take ((i + 1) * 2) ++ (ps.drop i).flatMap pairR := by show _ ++ _ ++ _ = _; rw [e2, List.append_nil]
  have e5 : (xs.take ((i + 1) * 2)).length = (i + 1) * 2 := by rw [List.length_take]; omega
  rw [e4, e3, List.take_append_of_le_length (by omega), List.take_take, Nat.min_eq_left (by omega), List.drop_append_of_le_length (by omega), List.drop_eq_nil_of_le (by omega), List.nil_append]
end
theorem run_overlaps50 (w : World) (vb voff vc g o lb cb : Nat) (hne : vb ≠ g) (c : Array Value) (t : TypeId) (h : w.heap[vb]? = some (.cells c t)) (c2 : Array Value) (t2 : TypeId) (f2 : Nat × Nat) (h2 : w.heap[g]? = some (.cells c2 t2 f2)) (hk : c2.size ≠ 0) :
    (callFunc 50 #[.slice (some ⟨vb, voff, none⟩) 1 vc, .slice (some ⟨g, o, none⟩) lb cb]).run Try.prog w = .ok (.value (.bool false)) w := by
  have hs : ∀ w : World, (Go.sizeOf 67).run Try.prog w = .ok 2 w := fun w => by simp [sizeOf, typeInfo, info67, t67_size]
  rw [run_callFunc_extern Try.func50 (by kernel_rfl) (by kernel_rfl) (by kernel_rfl) (e := Extern.SlicesOverlaps.overlaps #[65, 65] #[4]) (by kernel_rfl),
    Lib.run_overlaps_apart w 65 4 67 under65 2 hs ⟨vb, voff, none⟩ ⟨g, o, none⟩ 1 vc lb cb hne t t2 c.size c2.size (by simp [World.shape?, h]) (by simp [World.shape?, h2]) hk (by simp [World.frozen?, h]) (by simp [World.frozen?, h])]
  rfl
set_option maxRecDepth 20000 in
set_option maxHeartbeats 1000000 in
theorem ins_room {w : World} {g off n cap i vb voff vc : Nat} {ps : List Pr} {x : Pr} (h : Vec w 2 (.slice (some ⟨g, off, none⟩) n cap) n (ps.flatMap pairR)) (hu : Vec w 2 (.slice (some ⟨vb, voff, none⟩) 1 vc) 1 (pairR x)) (hne : vb ≠ g)
    (hpl : ∃ c t, w.heap[vb]? = some (.cells c t)) (hi : i < n) (hn : n = ps.length) (hn2 : n ≤ 100000) (hroom : n + 1 ≤ cap) :
    Calls Try.prog 46 #[.slice (some ⟨g, off, none⟩) n cap, .int .i64 (i : Int), .slice (some ⟨vb, voff, none⟩) 1 vc] w fun e w' => e = .returned (.slice (some ⟨g, off, none⟩) (n + 1) cap) ∧ w' = (w.drew.setCells g (off + (i + 1) * 2) ((ps.drop i).flatMap pairR)).setCells g (off + i * 2) (pairR x) := by
  have hsz : (Try.prog.info? 67).map (·.size) = some 2 := by rw [info67]; rfl
  have i0 : (0 : Int) ≤ (i : Int) := by omega
  have i1 : (i : Int) ≤ (n : Int) := by omega
  have e1 : wrap64 ((n : Int) + 1) = (n : Int) + 1 := IntWalk.wrap64_in _ (by omega)
  have e2 : wrap64 ((i : Int) + 1) = (i : Int) + 1 := IntWalk.wrap64_in _ (by omega)
  have e3 : IntKind.i64.wrap ((i : Int) + 1) = (i : Int) + 1 := by rw [IntKind.wrap_i64]; omega
  have d1 : decide ((cap : Int) < (n : Int) + 1) = false := by rw [decide_eq_false_iff_not]; omega
  have b1 : ((i : Int) == (n : Int)) = false := by rw [beq_eq_false_iff_ne]; omega
  have c1 : (0 : Int) ≤ (n : Int) + 1 := by omega
  have c2 : (n : Int) + 1 ≤ (cap : Int) := by omega
  have c3 : (0 : Int) ≤ (i : Int) + 1 := by omega
  have c4 : (i : Int) + 1 ≤ (n : Int) + 1 := by omega
  have c5 : ¬ cap = i := by omega
  have c6 : ¬ cap = i + 1 := by omega
  have c7 : (i : Int) ≤ (n : Int) + 1 := by omega
  have hlenv : (pairR x).length = 2 := rfl
  obtain ⟨gg, oo, e, hvg, hvc, hva⟩ := hu.form' (by omega)
  injection e with e
  injection e with e4 e5 _
  subst e4 e5
  obtain ⟨gg, oo, e, hgg, hgc, hga⟩ := h.form' (by omega)
  injection e with e
  injection e with e4 e5 _
  subst e4 e5
  have hall : ∀ j, j < cap * 2 → (w.cell? ⟨g, off + j, none⟩).isSome = true ∧ w.frozen? ⟨g, off + j, none⟩ = false := by
    rcases h.form with ⟨q, _⟩ | ⟨g', off', cap', q, _, _, _, _, h5⟩
    · cases q
    · cases q
      exact h5
  have hdl : ((ps.drop i).flatMap pairR).length = (n - i) * 2 := by rw [rows2, List.length_drop, hn]
  obtain ⟨dr, hdr⟩ : ∃ dr, dr = (ps.drop i).flatMap pairR := ⟨_, rfl⟩
  rw [← hdr] at hdl ⊢
  have hd1 : ∀ v ∈ dr, v.oneCell' = true := by
    intro v hv
    rw [hdr] at hv
    obtain ⟨p, _, hp⟩ := List.mem_flatMap.1 hv
    exact pairR_one p v hp
  have hsrc : ∀ j v, dr[j]? = some v → w.cell? ((⟨g, off + i * 2, none⟩ : Addr).add j) = some v := fun j v hv => by
    rw [add_mid' (⟨g, off + i * 2, none⟩) j rfl, Nat.add_assoc]
    refine hgc (i * 2 + j) v ?_
    rw [hdr, ← flat_drop pairR 2 ps i (fun _ _ => rfl) (by omega)] at hv
    rwa [List.getElem?_drop] at hv
  obtain ⟨W1, hW1⟩ : ∃ W1, W1 = w.drew.setCells g (off + (i + 1) * 2) dr := ⟨_, rfl⟩
  have hcp1 : ∀ ty, (Builtin.copy_ #[65, 65] ty #[.slice (some ⟨g, off + (i + 1) * 2, none⟩) (n - i) (cap - (i + 1)), .slice (some ⟨g, off + i * 2, none⟩) (n + 1 - i) (cap - i)]).run Try.prog w.drew = .ok (goInt ((n - i : Nat) : Int)) W1 := fun ty => by
    rw [hW1]
    exact run_copy_many w.drew 65 65 ty 67 Try.t67 2 g _ (n - i) (cap - (i + 1)) ⟨g, off + i * 2, none⟩ (n + 1 - i) (cap - i) (n - i) dr under65 info67 t67_size (by simp only [Nat.min_def]; split <;> omega) hdl hsrc
      (fun j hj => by rw [Nat.add_assoc]; exact (hall ((i + 1) * 2 + j) (by rw [hdl] at hj; omega)).1) (fun j hj => by rw [Nat.add_assoc]; exact (hall ((i + 1) * 2 + j) (by rw [hdl] at hj; omega)).2) hd1
  obtain ⟨W2, hW2⟩ : ∃ W2, W2 = W1.setCells g (off + i * 2) (pairR x) := ⟨_, rfl⟩
  have hcp2 : ∀ ty, (Builtin.copy_ #[65, 65] ty #[.slice (some ⟨g, off + i * 2, none⟩) (n + 1 - i) (cap - i), .slice (some ⟨vb, voff, none⟩) 1 vc]).run Try.prog W1 = .ok (goInt 1) W2 := fun ty => by
    rw [hW2]
    refine run_copy_many W1 65 65 ty 67 Try.t67 2 g _ (n + 1 - i) (cap - i) ⟨vb, voff, none⟩ 1 vc 1 (pairR x) under65 info67 t67_size (by simp only [Nat.min_def]; split <;> omega) (by rw [hlenv]) (fun j v hj => ?_) (fun j hj => ?_) (fun j hj => ?_) (pairR_one x)
    · rw [add_mid' (⟨vb, voff, none⟩) j rfl, hW1, World.cell?_setCells_out _ _ _ _ _ (fun e _ => absurd e hne)]
      exact hvc j v hj
    · rw [hlenv] at hj
      rw [hW1, Nat.add_assoc, World.cell?_setCells_out _ _ _ _ _ (fun _ _ => by show off + (i * 2 + j) < off + (i + 1) * 2 ∨ off + (i + 1) * 2 + dr.length ≤ off + (i * 2 + j); left; omega)]
      exact (hall (i * 2 + j) (by omega)).1
    · rw [hlenv] at hj
      rw [hW1, Nat.add_assoc, World.frozen?_setCells]
      exact (hall (i * 2 + j) (by omega)).2
  have hov : ∀ lb cb, (callFunc 50 #[.slice (some ⟨vb, voff, none⟩) 1 vc, .slice (some ⟨g, off + (i + 1) * 2, none⟩) lb cb]).run Try.prog w = .ok (.value (.bool false)) w := fun lb cb => by
    obtain ⟨c, t, hc⟩ := hpl
    have h0 := (hall 0 (by omega)).1
    obtain ⟨u0, hu0⟩ := Option.isSome_iff_exists.1 h0
    unfold World.cell? at hu0
    cases hg : w.heap[g]? with
    | none => simp [hg] at hu0
    | some ob =>
      cases ob with
      | cells c2 t2 f2 =>
        refine run_overlaps50 w vb voff vc g _ lb cb hne c t hc c2 t2 f2 hg fun e0 => ?_
        have : c2 = #[] := Array.eq_empty_of_size_eq_zero e0
        subst this
        simp [hg] at hu0
      | _ => simp [hg] at hu0
  have HRES : Hid (W2 = (w.drew.setCells g (off + (i + 1) * 2) dr).setCells g (off + i * 2) (pairR x)) := Lib.hid (by rw [hW2, hW1])
  clear hn h hu hpl hvg hvc hva hgg hgc hga hall hdr hd1 hsrc hW1 hW2 hdl
  go_enter Try.func46, Try.ntmps46
  go_upto_region 15 with fail
  go_region
  go_wp2_with fail
  go_ret
  exact ⟨rfl, HRES.out⟩
set_option maxRecDepth 20000 in
set_option maxHeartbeats 1000000 in
theorem ins_grow {w : World} {g off n cap i vb voff vc : Nat} {ps : List Pr} {x : Pr} (h : Vec w 2 (.slice (some ⟨g, off, none⟩) n cap) n (ps.flatMap pairR)) (hu : Vec w 2 (.slice (some ⟨vb, voff, none⟩) 1 vc) 1 (pairR x))
    (hi : i < n) (hn : n = ps.length) (hn2 : n ≤ 100000) (hcap : n ≤ cap) (hroom : cap < n + 1) :
    Calls Try.prog 46 #[.slice (some ⟨g, off, none⟩) n cap, .int .i64 (i : Int), .slice (some ⟨vb, voff, none⟩) 1 vc] w fun e w' => ∃ G W1 xs, e = .returned (.slice (some ⟨w.heap.size, 0, none⟩) (n + 1) G) ∧ Only None' w W1 ∧ w.heap.size < W1.heap.size ∧ Vec W1 2 (.slice (some ⟨w.heap.size, 0, none⟩) (n + 1) G) (n + 1) xs ∧ xs.take (i * 2) = (ps.take i).flatMap pairR ∧ w' = (W1.setCells w.heap.size (i * 2) (pairR x)).drew.setCells w.heap.size ((i + 1) * 2) ((ps.drop i).flatMap pairR) := by
  have hsz : (Try.prog.info? 67).map (·.size) = some 2 := by rw [info67]; rfl
  have i0 : (0 : Int) ≤ (i : Int) := by omega
  have i1 : (i : Int) ≤ (n : Int) := by omega
  have e1 : wrap64 ((n : Int) + 1) = (n : Int) + 1 := IntWalk.wrap64_in _ (by omega)
  have e2 : wrap64 ((i : Int) + 1) = (i : Int) + 1 := IntWalk.wrap64_in _ (by omega)
  have e3 : IntKind.i64.wrap ((i : Int) + 1) = (i : Int) + 1 := by rw [IntKind.wrap_i64]; omega
  have e4 : wrap64 ((n : Int) + 1 - (i : Int)) = (n : Int) + 1 - (i : Int) := IntWalk.wrap64_in _ (by omega)
  have d1 : decide ((cap : Int) < (n : Int) + 1) = true := by rw [decide_eq_true_eq]; omega
  have b1 : ((i : Int) == (n : Int)) = false := by rw [beq_eq_false_iff_ne]; omega
  have c1 : (i : Int) ≤ (cap : Int) := by omega
  have c3 : (0 : Int) ≤ (i : Int) + 1 := by omega
  have c4 : (i : Int) + 1 ≤ (n : Int) + 1 := by omega
  have c5 : ¬ cap = i := by omega
  have c7 : (i : Int) ≤ (n : Int) + 1 := by omega
  have hlenv : (pairR x).length = 2 := rfl
  obtain ⟨gg, oo, e, hvg, hvc, hva⟩ := hu.form' (by omega)
  cases e
  obtain ⟨gg, oo, e, hgg, hgc, hga⟩ := h.form' (by omega)
  cases e
  have hdl : ((ps.drop i).flatMap pairR).length = (n - i) * 2 := by rw [rows2, List.length_drop, hn]
  have htl : ((ps.take i).flatMap pairR).length = i * 2 := by rw [rows2, List.length_take]; omega
  obtain ⟨tk, htk⟩ : ∃ tk, tk = (ps.take i).flatMap pairR := ⟨_, rfl⟩
  have hsrcT : ∀ j v, tk[j]? = some v → w.drew.cell? ((⟨g, off, none⟩ : Addr).add j) = some v := fun j v hv => by
    rw [add_mid' (⟨g, off, none⟩) j rfl]
    refine hgc j v ?_
    rw [htk, ← flat_take pairR 2 ps i (fun _ _ => rfl) (by omega), List.getElem?_take] at hv
    split at hv
    · exact hv
    · cases hv
  obtain ⟨dr, hdr⟩ : ∃ dr, dr = (ps.drop i).flatMap pairR := ⟨_, rfl⟩
  rw [← hdr] at hdl ⊢
  rw [← htk] at htl ⊢
  have hd1 : ∀ v ∈ dr, v.oneCell' = true := by
    intro v hv
    rw [hdr] at hv
    obtain ⟨p, _, hp⟩ := List.mem_flatMap.1 hv
    exact pairR_one p v hp
  have hsrc : ∀ j v, dr[j]? = some v → w.cell? ((⟨g, off + i * 2, none⟩ : Addr).add j) = some v := fun j v hv => by
    rw [add_mid' (⟨g, off + i * 2, none⟩) j rfl, Nat.add_assoc]
    refine hgc (i * 2 + j) v ?_
    rw [hdr, ← flat_drop pairR 2 ps i (fun _ _ => rfl) (by omega)] at hv
    rwa [List.getElem?_drop] at hv
  obtain ⟨N, hN⟩ : ∃ N, N = w.heap.size := ⟨_, rfl⟩
  obtain ⟨G, hG⟩ : ∃ G, G = grownCap w (n + 1) cap 67 := ⟨_, rfl⟩
  have hGn : n + 1 ≤ G := by rw [hG]; exact grownCap_ge w _ _ _
  have hGm : G ≤ maxLen := by rw [hG]; exact grownCap_le_maxLen w (n + 1) cap 67 (by unfold maxLen; omega)
  obtain ⟨row, hrow⟩ : ∃ row : Array Value, row = tk.toArray ++ Builtin.zeroCells (pairV ⟨#[]⟩ ⟨#[]⟩).cells (n + 1 - i) ++ Builtin.zeroCells (pairV ⟨#[]⟩ ⟨#[]⟩).cells (G - (n + 1)) := ⟨_, rfl⟩
  have hz2 : (pairV ⟨#[]⟩ ⟨#[]⟩).cells.size = 2 := rfl
  have hrl : row.size = G * 2 := by
    rw [hrow]
    simp only [Array.size_append, List.size_toArray, htl, Builtin.zeroCells, Array.size_map, Array.size_range, hz2]
    omega
  obtain ⟨W1, hW1⟩ : ∃ W1, W1 = w.drew.alloc (.cells row 67) := ⟨_, rfl⟩
  have hap : ∀ ty, (Builtin.append_ #[65, 3] ty #[.slice (some ⟨g, off, none⟩) i cap, .int .i64 ((n : Int) + 1 - (i : Int))]).run Try.prog w = .ok (.slice (some ⟨N, 0, none⟩) (n + 1) G) W1 := fun ty => by
    have hh := Lib.run_append_grow_zeros w 65 3 ty 67 Try.t67 (pairV ⟨#[]⟩ ⟨#[]⟩) .i64 .i64 under65 Try.underlying3 info67 t67_zero (some ⟨g, off, none⟩) i cap tk
      (by rw [t67_size]; exact run_firstCells_some w.drew 2 i ⟨g, off, none⟩ i cap tk htl hsrcT) (n + 1 - i) (by omega) (by rw [t67_size]; omega) (by omega) (by omega) (by rw [t67_bytes]; omega)
      (by rw [t67_bytes]; exact growslice_fits (by omega) (by omega))
    rw [show i + (n + 1 - i) = n + 1 by omega, ← hG, ← hN, show (((n + 1 - i : Nat) : Int)) = (n : Int) + 1 - (i : Int) by omega, ← hrow, ← hW1] at hh
    exact hh
  have o1 : Only None' w W1 := by rw [hW1]; exact (Only.refl None' w).drew.alloc _
  have hs1 : N < W1.heap.size := by rw [hW1, hN]; simp
  have hcW : ∀ j, W1.cell? ⟨N, j, none⟩ = row[j]? := fun j => by
    rw [hW1, hN]
    exact World.cell?_alloc_new w.drew row 67 j
  have hfW : ∀ j, W1.frozen? ⟨N, j, none⟩ = false := fun j => by
    rw [hW1]; exact World.frozen?_alloc_at (w := w.drew) row _ N j hN
  obtain ⟨xs, hxs⟩ : ∃ xs, xs = row.toList.take ((n + 1) * 2) := ⟨_, rfl⟩
  have hV1 : Vec W1 2 (.slice (some ⟨N, 0, none⟩) (n + 1) G) (n + 1) xs := by
    refine ⟨by rw [hxs, List.length_take, Array.length_toList, hrl]; omega, .inr ⟨N, 0, G, rfl, hGn, hGm, hs1, fun j u hj => ?_, fun j hj => ?_⟩⟩
    · rw [Nat.zero_add, hcW]
      rw [hxs, List.getElem?_take] at hj
      split at hj
      · rw [← Array.getElem?_toList]; exact hj
      · cases hj
    · rw [Nat.zero_add, hcW]
      exact ⟨by rw [Array.getElem?_eq_getElem (by omega)]; rfl, hfW _⟩
  have hxt : xs.take (i * 2) = tk := by
    rw [hxs, List.take_take, Nat.min_eq_left (by omega), hrow]
    simp only [Array.toList_append]
    rw [List.append_assoc, List.take_append_of_le_length (by simp [htl])]
    exact List.take_of_length_le (by simp [htl])
  have hci : ∀ j, j < (n + 1) * 2 → (W1.cell? ⟨N, j, none⟩).isSome = true := fun j hj => by
    rw [hcW, Array.getElem?_eq_getElem (by omega)]; rfl
  have hgN : g ≠ N := by omega
  have hvN : vb ≠ N := by omega
  obtain ⟨W2, hW2⟩ : ∃ W2, W2 = W1.setCells N (i * 2) (pairR x) := ⟨_, rfl⟩
  have hcp1 : ∀ ty, (Builtin.copy_ #[65, 65] ty #[.slice (some ⟨N, i * 2, none⟩) (n + 1 - i) (G - i), .slice (some ⟨vb, voff, none⟩) 1 vc]).run Try.prog W1 = .ok (goInt 1) W2 := fun ty => by
    rw [hW2]
    refine run_copy_many W1 65 65 ty 67 Try.t67 2 N _ (n + 1 - i) (G - i) ⟨vb, voff, none⟩ 1 vc 1 (pairR x) under65 info67 t67_size (by simp only [Nat.min_def]; split <;> omega) (by rw [hlenv]) (fun j v hj => ?_) (fun j hj => ?_) (fun j hj => hfW _) (pairR_one x)
    · rw [add_mid' (⟨vb, voff, none⟩) j rfl, o1.cell hvg (fun e => e)]
      exact hvc j v hj
    · rw [hlenv] at hj
      exact hci _ (by omega)
  obtain ⟨W3, hW3⟩ : ∃ W3, W3 = W2.drew.setCells N ((i + 1) * 2) dr := ⟨_, rfl⟩
  have hcp2 : ∀ ty, (Builtin.copy_ #[65, 65] ty #[.slice (some ⟨N, (i + 1) * 2, none⟩) (n - i) (G - (i + 1)), .slice (some ⟨g, off + i * 2, none⟩) (n - i) (cap - i)]).run Try.prog W2.drew = .ok (goInt ((n - i : Nat) : Int)) W3 := fun ty => by
    rw [hW3]
    refine run_copy_many W2.drew 65 65 ty 67 Try.t67 2 N _ (n - i) (G - (i + 1)) ⟨g, off + i * 2, none⟩ (n - i) (cap - i) (n - i) dr under65 info67 t67_size (by simp only [Nat.min_def]; split <;> omega) hdl (fun j v hj => ?_) (fun j hj => ?_) (fun j hj => ?_) hd1
    · show W2.cell? _ = _
      have := hsrc j v hj
      rw [add_mid' (⟨g, off + i * 2, none⟩) j rfl] at this ⊢
      rw [hW2, World.cell?_setCells_out _ _ _ _ _ (fun e _ => absurd e hgN), o1.cell hgg (fun e => e)]
      exact this
    · show (W2.cell? _).isSome = true
      rw [hdl] at hj
      rw [hW2, World.cell?_setCells_out _ _ _ _ _ (fun _ _ => by show (i + 1) * 2 + j < i * 2 ∨ i * 2 + (pairR x).length ≤ (i + 1) * 2 + j; right; rw [hlenv]; omega)]
      exact hci _ (by omega)
    · show W2.frozen? _ = false
      rw [hW2, World.frozen?_setCells]
      exact hfW _
  have c8 : (i : Int) + 1 ≤ (G : Int) := by omega
  have c9 : ¬ G = i := by omega
  have c10 : ¬ G = i + 1 := by omega
  have HRES : Hid (Only None' w W1 ∧ N < W1.heap.size ∧ Vec W1 2 (.slice (some ⟨N, 0, none⟩) (n + 1) G) (n + 1) xs ∧ xs.take (i * 2) = tk ∧ W3 = (W1.setCells N (i * 2) (pairR x)).drew.setCells N ((i + 1) * 2) dr) := Lib.hid ⟨o1, hs1, hV1, hxt, by rw [hW3, hW2]⟩
  have HNN := Lib.hid hN
  rw [← hN]
  clear hn h hu hvg hvc hva hgg hgc hga hdr hd1 hsrc hsrcT hW1 hW2 hW3 hdl htl htk hG hrow hrl o1 hs1 hcW hfW hxs hV1 hxt hci hN hgN hvN
  go_enter Try.func46, Try.ntmps46
  go_upto_region 9 with fail
  go_wp2_with (first
    | (at_builtin; refine Lib.wpList_append_run _ rfl _ _ _ _ rfl _ _ rfl rfl _ _ (hap _) ?_)
    | (at_builtin; refine wpList_copy_run rfl _ _ 65 65 rfl _ _ rfl rfl (hcp1 _) ?_))
  go_region
  go_wp2_with fail
  go_ret
  refine ⟨G, W1, xs, rfl, HRES.out⟩
theorem ins_row {ps : List Pr} {i n : Nat} (x : Pr) (hi : i < n) (hn : n = ps.length) : pairR x ++ (ps.drop i).flatMap pairR = (x :: ps.drop i).flatMap pairR := rfl
theorem ins_mid {ps : List Pr} {i : Nat} (hi : i < ps.length) (hn2 : ps.length ≤ 100000) : InsOK ps i := by
  intro w v u x h hu hne hpl
  obtain ⟨vb, voff, vc, rfl, hvc1, hvc2, hvb, _⟩ := hu.at_ (by omega)
  obtain ⟨g, off, cap, rfl, hcap, hcm, hg, _⟩ := h.row.at_ (by omega)
  have hvg : vb ≠ g := fun e => hne vb rfl (by rw [e]; rfl)
  have hlen : (ps.take i ++ x :: ps.drop i).length = ps.length + 1 := by
    rw [List.length_append, List.length_take, List.length_cons, List.length_drop]; omega
  have hrows : (ps.take i ++ x :: ps.drop i).flatMap pairR = (ps.take i).flatMap pairR ++ pairR x ++ (ps.drop i).flatMap pairR := by
    rw [List.flatMap_append, List.flatMap_cons, List.append_assoc]
  by_cases hroom : ps.length + 1 ≤ cap
  · refine (ins_room (x := x) h.row hu hvg (hpl vb rfl) hi rfl hn2 hroom).mono ?_
    rintro e w' ⟨rfl, rfl⟩
    obtain ⟨a, b, h1⟩ := h.row.more hroom
    have hd := h1.drew
    have hrl : ((ps.drop i).flatMap pairR).length = (ps.length - i) * 2 := by rw [rows2, List.length_drop]
    have h2 := hd.put (o := (i + 1) * 2) (vs := (ps.drop i).flatMap pairR) (by rw [hrl]; omega)
    have h3 := h2.put (o := i * 2) (vs := pairR x) (by show i * 2 + 2 ≤ _; omega)
    rw [ins_rows hi rfl (by rw [List.length_append, rows2]; simp; omega)] at h3
    rw [List.take_append_of_le_length (by rw [rows2]; omega), flat_take pairR 2 ps i (fun _ _ => rfl) (by omega), ← hrows] at h3
    refine ⟨_, rfl, ⟨?_⟩, fun q hq => .inl hq, ?_⟩
    · rw [hlen]; exact h3
    · exact (((Only.refl (fun q => (Value.slice (some ⟨g, off, none⟩) ps.length cap).ownBlock = some q) w).drew).setCells rfl _ _).setCells rfl _ _
  · refine (ins_grow (x := x) h.row hu hi rfl hn2 hcap (by omega)).mono ?_
    rintro e w' ⟨G, W1, xs, rfl, o1, hs, hv, hx, rfl⟩
    have hrl : ((ps.drop i).flatMap pairR).length = (ps.length - i) * 2 := by rw [rows2, List.length_drop]
    have h2 := (hv.put (o := i * 2) (vs := pairR x) (by show i * 2 + 2 ≤ _; omega)).drew
    rw [Nat.zero_add] at h2
    have h3 := h2.put (o := (i + 1) * 2) (vs := (ps.drop i).flatMap pairR) (by rw [hrl]; omega)
    rw [Nat.zero_add] at h3
    have hxl := hv.len
    have e1 : (pairR x).length = 2 := rfl
    have e2 : ((xs.take (i * 2) ++ pairR x).length) = (i + 1) * 2 := by rw [List.length_append, List.length_take, e1]; omega
    rw [List.take_append_of_le_length (by rw [e2]; exact Nat.le_refl _), List.take_of_length_le (by rw [e2]; exact Nat.le_refl _), hx] at h3
    have e3 : (List.drop ((i + 1) * 2 + ((ps.drop i).flatMap pairR).length) ((ps.take i).flatMap pairR ++ pairR x ++ xs.drop (i * 2 + (pairR x).length))) = [] := by
      refine List.drop_eq_nil_of_le ?_
      rw [← hx, hrl, List.length_append, e2, List.length_drop, hxl, e1]; omega
    rw [e3, List.append_nil, ← hrows] at h3
    refine ⟨_, rfl, ⟨?_⟩, fun q hq => .inr ?_, ?_⟩
    · rw [hlen]; exact h3
    · injection hq with hq
      exact Nat.le_of_eq hq
    · have oo : Only (fun q => q = w.heap.size) W1 ((W1.setCells w.heap.size (i * 2) (pairR x)).drew.setCells w.heap.size ((i + 1) * 2) ((ps.drop i).flatMap pairR)) := (((Only.refl (fun q => q = w.heap.size) W1).setCells rfl _ _).drew).setCells rfl _ _
      exact (o1.trans2 oo fun q hq e => by omega).mono fun _ _ e => e.elim
/-- a pair is put in, wherever -/
theorem ins_all {ps : List Pr} {i : Nat} (hi : i ≤ ps.length) (hn2 : ps.length ≤ 100000) : InsOK ps i := by
  rcases Nat.lt_or_ge i ps.length with h | h
  · exact ins_mid h hn2
  · obtain rfl : i = ps.length := by omega
    exact ins_end hn2
end Go.Proofs.Ytajbagdgjbihjaa
