/- maps.Clone; Copy. -/
import Derived.Test.YteoeaojebklfjaaD9
import Derived.Shelf.SlMaps.Clone
import Derived.Deep.RegionHeld3
namespace Go.Proofs.Yteoeaojebklfjaa
open Go.RowKit Go.Maps
set_option linter.unusedVariables false

set_option maxRecDepth 20000 in
theorem clone_map {w : World} {B : Nat} {es : Array MapEntry} {clock : Nat} (hb : w.heap[B]? = some (.map es clock)) :
    Calls Try.prog 65 #[.map (some B)] w fun e w' => e = .returned (.map (some w.heap.size)) ∧ w' = w.alloc (.map es clock) := by
  have hq := run_eql_map_nil_sl (P := Try.prog) w 92 3 3 (some B) under92
  go_enter Try.func65, Try.ntmps65
  go_wp2
  rw [run_callFunc_extern (P := Try.prog) (f := 78) (fn := Try.f78) Try.func78 (by kernel_rfl) (by kernel_rfl) (by kernel_rfl) (e := Extern.MapsClone.clone) (by kernel_rfl), run_maps_clone_sl w 92 hb]
  simp only [Result.andThen]
  rw [Oper.upon_value]
  go_wp2
  rw [run_typeAssert_map_sl _ 92 20 _ _ _ under92]
  simp only [Result.andThen]
  rw [Oper.upon_value]
  go_wp2
  go_ret
  exact ⟨rfl, rfl⟩

theorem clone_ints {w : World} {B n : Nat} {M : DataW Unit} (h : Ints w B n M) :
    Calls Try.prog 65 #[.map (some B)] w fun e w' => ∃ B', e = .returned (.map (some B')) ∧ B' = w.heap.size ∧ Ints w' B' n M ∧ Only None' w w' := by
  obtain ⟨es, clock, hb, hr⟩ := h
  refine (clone_map hb).mono ?_
  rintro r w' ⟨rfl, rfl⟩
  exact ⟨_, rfl, rfl, ⟨es, clock, (MapKept.heap_alloc w _).1, hr⟩, (Only.refl _ _).alloc _⟩

theorem copy_nil (w : World) : Calls Try.prog 26 #[.pointer none] w fun r w' => r = .returned (.pointer none) ∧ w' = w := by
  go_enter Try.func26, Try.ntmps26
  go_wp2_with fail
  go_ret
  exact ⟨rfl, rfl⟩

/-- what the copying region reads -/
abbrev CS (wA : World) (C D : Nat) (V1 V2 V3 VK : Value) (w' : World) : Prop := w'.cell? ⟨D, 0, none⟩ = some V1 ∧ w'.cell? ⟨D, 1, none⟩ = some V2 ∧ w'.cell? ⟨D, 2, none⟩ = some V3 ∧ w'.cell? ⟨D, 7, none⟩ = some VK ∧ Only (fun k => k = C) wA w'
theorem CS.step {wA w1 w2 : World} {C D : Nat} {V1 V2 V3 VK : Value} (h : CS wA C D V1 V2 V3 VK w1) (hl : D < wA.heap.size) (ho : Only None' w1 w2) : CS wA C D V1 V2 V3 VK w2 := by
  obtain ⟨a, b, c, d, g⟩ := h
  have hl1 : D < w1.heap.size := Nat.lt_of_lt_of_le hl g.size
  exact ⟨(ho.cell hl1 (fun h => h) 0).trans a, (ho.cell hl1 (fun h => h) 1).trans b, (ho.cell hl1 (fun h => h) 2).trans c, (ho.cell hl1 (fun h => h) 7).trans d, g.trans (ho.mono fun _ _ h => h.elim)⟩
theorem CS.set {wA w1 : World} {C D : Nat} {V1 V2 V3 VK : Value} (h : CS wA C D V1 V2 V3 VK w1) (hD : D ≠ C) (i : Nat) (v : Value) : CS wA C D V1 V2 V3 VK (w1.setCell ⟨C, i, none⟩ v) := by
  obtain ⟨a, b, c, d, g⟩ := h
  have q (j : Nat) : (w1.setCell ⟨C, i, none⟩ v).cell? ⟨D, j, none⟩ = w1.cell? ⟨D, j, none⟩ := World.cell?_setCell_far _ _ _ _ (fun e => hD e.symm)
  exact ⟨(q 0).trans a, (q 1).trans b, (q 2).trans c, (q 7).trans d, g.setCell rfl v⟩
theorem CS.old {w wA w1 : World} {D : Nat} {V1 V2 V3 VK : Value} (h : CS wA w.heap.size D V1 V2 V3 VK w1) (o : Only None' w wA) : Only None' w w1 :=
  o.trans2 h.2.2.2.2 fun k hk e => by omega

theorem copied {w0 q1 q2 q3 q4 : World} {C B' : Nat} {v1 v2 vk u1 u2 uK x0 x1 x2 x7 : Value} {M : DataW Unit} {d : Dk} (hok : d.Ok) (hC : C < w0.heap.size)
    (cs : Cells8 q4 C x0 x1 x2 (.int .i64 d.done) (.bool d.dead) (.bool d.set) (.int .i64 d.left) x7) (h1 : Cloned w0 q1 512 v1 u1 d.lasts.length (d.lasts.flatMap bv)) (h2 : Cloned q1 q2 513 v2 u2 d.waits.length (d.waits.flatMap wv))
    (hB : B' = q2.heap.size) (hM : Ints q3 B' d.waits.length M) (hN : NowOf M d.waits) (h3 : Only None' q2 q3) (h4 : Cloned q3 q4 1 vk uK d.keep.length (bo d.keep)) :
    DiskAt ((((q4.setCell ⟨C, 0, none⟩ u1).setCell ⟨C, 1, none⟩ u2).setCell ⟨C, 2, none⟩ (.map (some B'))).setCell ⟨C, 7, none⟩ uK) C (Foot C B' u1 u2 uK) d ∧
      Only (fun k => k = C) q4 ((((q4.setCell ⟨C, 0, none⟩ u1).setCell ⟨C, 1, none⟩ u2).setCell ⟨C, 2, none⟩ (.map (some B'))).setCell ⟨C, 7, none⟩ uK) := by
  have os : Only (fun k => k = C) q4 ((((q4.setCell ⟨C, 0, none⟩ u1).setCell ⟨C, 1, none⟩ u2).setCell ⟨C, 2, none⟩ (.map (some B'))).setCell ⟨C, 7, none⟩ uK) :=
    ((((Only.refl (fun k => k = C) _).setCell (p := ⟨C, 0, none⟩) rfl _).setCell (p := ⟨C, 1, none⟩) rfl _).setCell (p := ⟨C, 2, none⟩) rfl _).setCell (p := ⟨C, 7, none⟩) rfl _
  have s1 := h1.only.size
  have s2 := h2.only.size
  have s3 := h3.size
  have s4 := h4.only.size
  have f1 := h1.fresh
  have f2 := h2.fresh
  have f4 := h4.fresh
  have l1 : ∀ k, u1.ownBlock = some k → k < q1.heap.size := fun k hk => h1.vec.lt hk
  have l2 : ∀ k, u2.ownBlock = some k → k < q2.heap.size := fun k hk => h2.vec.lt hk
  have l3 := hM.lt
  refine ⟨⟨B', u1, u2, uK, Lies.join ((((cs.set0 u1).set1 u2).set2 _).set7 uK) ⟨?_, ?_, ?_, ⟨M, ?_, hN⟩, by omega, ?_, ?_, ?_, hok⟩, rfl⟩, os⟩
  · exact (((h1.vec.only h2.only fun _ _ h => h).only h3 fun _ _ h => h).only h4.only fun _ _ h => h).only os fun g hg e => by have := f1 g hg; omega
  · exact ((h2.vec.only h3 fun _ _ h => h).only h4.only fun _ _ h => h).only os fun g hg e => by have := f2 g hg; omega
  · exact h4.vec.only os fun g hg e => by have := f4 g hg; omega
  · obtain ⟨es, clock, hh, hr⟩ := hM
    exact ⟨es, clock, (os.block B' (by omega) (by omega)).trans ((h4.only.block B' l3 fun h => h).trans hh), hr⟩
  · intro k hk
    have := f1 k hk
    have := l1 k hk
    exact ⟨by omega, by omega⟩
  · intro k hk
    have := f2 k hk
    have := l2 k hk
    exact ⟨by omega, by omega, fun e => by have := l1 k e; omega⟩
  · intro k hk
    have := f4 k hk
    exact ⟨by omega, by omega, fun e => by have := l1 k e; omega, fun e => by have := l2 k e; omega⟩

theorem keep_one {d : Dk} : ∀ u ∈ bo d.keep, u.oneCell' = true := bo_one _

set_option maxRecDepth 20000 in
set_option maxHeartbeats 4000000 in
theorem copy_lies {w : World} {D B : Nat} {V1 V2 VK : Value} {d : Dk} (h : Lies w D B V1 V2 VK d) (hn : d.waits.length ≤ 1000000) (hk : d.keep.length ≤ 140737488351232) :
    Calls Try.prog 26 #[.pointer (some ⟨D, 0, none⟩)] w fun r w' => ∃ D' F', r = .returned (.pointer (some ⟨D', 0, none⟩)) ∧ DiskAt w' D' F' d ∧ (∀ k, F' k → w.heap.size ≤ k) ∧ Only None' w w' := by
  obtain ⟨x1, y1, z1, e1⟩ := h.lasts.rd.shape'
  subst e1
  obtain ⟨x2, y2, z2, e2⟩ := h.waits.rd.shape'
  subst e2
  obtain ⟨xK, yK, zK, eK⟩ := h.keep.rd.shape'
  subst eK
  have c0 := h.c0
  have c1 := h.c1
  have c2 := h.c2
  have c3 := h.c3
  have c4 := h.c4
  have c5 := h.c5
  have c6 := h.c6
  have c7 := h.c7
  have H := Lib.hid h
  have hltD := h.ltD
  obtain ⟨wA, hwA⟩ : ∃ wA, wA = w.alloc (.cells #[.slice x1 y1 z1, .slice x2 y2 z2, .map (some B), .int .i64 d.done, .bool d.dead, .bool d.set, .int .i64 d.left, .slice xK yK zK] 97) := ⟨_, rfl⟩
  have oA : Only None' w wA := by rw [hwA]; exact (Only.refl _ _).alloc _
  have HA := Lib.hid oA
  have lA : w.heap.size < wA.heap.size := by rw [hwA]; simp
  have DA : D < wA.heap.size := by omega
  have eA := hwA.symm
  have nD : D ≠ w.heap.size := by omega
  have hc (i : Nat) : wA.cell? ⟨w.heap.size, i, none⟩ = #[.slice x1 y1 z1, .slice x2 y2 z2, .map (some B), .int .i64 d.done, .bool d.dead, .bool d.set, .int .i64 d.left, .slice xK yK zK][i]? := by rw [hwA]; exact World.cell?_alloc_new _ _ _ _
  have hfz (i : Nat) : wA.frozen? ⟨w.heap.size, i, none⟩ = false := by rw [hwA]; exact World.frozen?_alloc_new _ _ _ _
  have S0 : Hid (CS wA w.heap.size D (.slice x1 y1 z1) (.slice x2 y2 z2) (.map (some B)) (.slice xK yK zK) wA.drew) := ⟨(oA.cell hltD (fun h => h) 0).trans c0, (oA.cell hltD (fun h => h) 1).trans c1, (oA.cell hltD (fun h => h) 2).trans c2, (oA.cell hltD (fun h => h) 7).trans c7, (Only.refl _ _).drew⟩
  have HN := Lib.hid (And.intro hn hk)
  have HS := Lib.hid hc
  have HFZ := Lib.hid hfz
  have HLT := Lib.hid (And.intro lA (And.intro DA nD))
  clear h hn hk hc hfz oA hwA lA DA
  go_enter Try.func26, Try.ntmps26
  go_wp2_with fail
  go_region_held3 (fun w' => CS wA w.heap.size D (.slice x1 y1 z1) (.slice x2 y2 z2) (.map (some B)) (.slice xK yK zK) w')
    (first | exact S0.out | exact CS.step (by assumption) HLT.out.2.1 HC4.out.only | exact CS.step (by assumption) HLT.out.2.1 HO3.out | exact CS.step (by assumption) HLT.out.2.1 HC2.out.only | exact CS.step (by assumption) HLT.out.2.1 HC1.out.only | exact CS.set (by assumption) HLT.out.2.2 _ _)
    (first | (go_at_call 62; (have hq := (by assumption : CS wA w.heap.size D _ _ _ _ _)); (with_reducible refine (clone_secs (H.out.lasts.only (hq.old HA.out) (fun _ _ e => e)) lasts_one (Nat.le_trans H.out.ok.many (by decide))).mono ?_); rintro r q1 ⟨v1, rfl, hC1⟩; obtain ⟨a1, b1, d1, e1⟩ := hC1.vec.rd.shape'; subst e1; have HC1 := Lib.hid hC1; clear hC1 hq) | (go_at_call 64; (have hq := (by assumption : CS wA w.heap.size D _ _ _ _ _)); (with_reducible refine (clone_writes (H.out.waits.only (hq.old HA.out) (fun _ _ e => e)) waits_one HN.out.1).mono ?_); rintro r q2 ⟨v2, rfl, hC2⟩; obtain ⟨a2, b2, d2, e2⟩ := hC2.vec.rd.shape'; subst e2; have HC2 := Lib.hid hC2; clear hC2 hq) | (go_at_call 65; (have hq := (by assumption : CS wA w.heap.size D _ _ _ _ _)); obtain ⟨M, hM, hNow⟩ := (H.out.kept (hq.old HA.out).size (fun k hk => (hq.old HA.out).block k (H.out.lt hk) (fun e => e))).now; (with_reducible refine (clone_ints hM).mono ?_); rintro r q3 ⟨B', rfl, hB', hM', hO3⟩; have HM := Lib.hid hM'; have HNow := Lib.hid hNow; have HO3 := Lib.hid hO3; have HB' := Lib.hid hB'; clear hM' hNow hO3 hB' hM hq) | (go_at_call 57; (have hq := (by assumption : CS wA w.heap.size D _ _ _ _ _)); (with_reducible refine (clone_bools (H.out.keep.only (hq.old HA.out) (fun _ _ e => e)).rd keep_one HN.out.2).mono ?_); rintro r q4 ⟨v4, rfl, hC4⟩; obtain ⟨a4, b4, d4, e4⟩ := hC4.vec.rd.shape'; subst e4; have HC4 := Lib.hid hC4; have on := ((HC1.out.only.trans HC2.out.only).trans HO3.out).trans HC4.out.only; have t0 := (on.cell (b := w.heap.size) HLT.out.1 (fun h => h) 0).trans (HS.out 0); have t1 := (on.cell (b := w.heap.size) HLT.out.1 (fun h => h) 1).trans (HS.out 1); have t2 := (on.cell (b := w.heap.size) HLT.out.1 (fun h => h) 2).trans (HS.out 2); have t7 := (on.cell (b := w.heap.size) HLT.out.1 (fun h => h) 7).trans (HS.out 7); have tf : ∀ i, q4.frozen? ⟨w.heap.size, i, none⟩ = false := (fun i => (on.frozen (b := w.heap.size) HLT.out.1 (fun h => h) i).trans (HFZ.out i)); have ON := Lib.hid on; clear on hC4 hq))
  have sA := HA.out.size
  have lA := HLT.out.1
  have hcp := copied (w0 := wA.drew) (C := w.heap.size) H.out.ok HLT.out.1 ⟨t0, t1, t2, (ON.out.cell (b := w.heap.size) HLT.out.1 (fun h => h) 3).trans (HS.out 3), (ON.out.cell (b := w.heap.size) HLT.out.1 (fun h => h) 4).trans (HS.out 4), (ON.out.cell (b := w.heap.size) HLT.out.1 (fun h => h) 5).trans (HS.out 5), (ON.out.cell (b := w.heap.size) HLT.out.1 (fun h => h) 6).trans (HS.out 6), t7, tf, Nat.lt_of_lt_of_le lA ON.out.size⟩ HC1.out HC2.out HB'.out HM.out HNow.out HO3.out HC4.out
  have HCP := Lib.hid hcp
  clear hcp t0 t1 t2 t7 tf
  go_wp2_with fail
  go_ret
  refine ⟨_, _, rfl, HCP.out.1, ?_, ?_⟩
  · have s1 := HC1.out.only.size
    have s2 := HC2.out.only.size
    have s3 := HO3.out.size
    have hb := HB'.out
    have e1 : wA.drew.heap.size = wA.heap.size := rfl
    intro k hk
    rcases hk with rfl | rfl | hk | hk | hk
    · omega
    · omega
    · have := HC1.out.fresh k hk; omega
    · have := HC2.out.fresh k hk; omega
    · have := HC4.out.fresh k hk; omega
  · exact (HA.out.drew.trans ON.out).trans2 HCP.out.2 fun k hk e => by omega

theorem copy_any {w : World} {D : Nat} {F : Nat → Prop} {d : Dk} (h : DiskAt w D F d) (hn : d.waits.length ≤ 1000000) (hk : d.keep.length ≤ 140737488351232) :
    Calls Try.prog 26 #[.pointer (some ⟨D, 0, none⟩)] w fun r w' => ∃ D' F', r = .returned (.pointer (some ⟨D', 0, none⟩)) ∧ DiskAt w' D' F' d ∧ (∀ k, F' k → w.heap.size ≤ k) ∧ Only None' w w' := by
  obtain ⟨B, V1, V2, VK, h, rfl⟩ := h
  exact copy_lies h hn hk
end Go.Proofs.Yteoeaojebklfjaa
