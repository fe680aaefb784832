/- D8 D9 in one text. -/
import Derived.Test.YteoeaojebklfjaaGreatDoorV02
namespace Go.Proofs.YteoeaojebklfjaaGreatDoor
open Go.RowKit Go.Maps
set_option linter.unusedVariables false

theorem yields_build {P : Program} (w : World) (a : Act) (o : Oper) (t : TypeId) (parts : Array (Nat × Operand)) (ho : o.op = .build t parts) (cells : Array Value) (h : P.built t (parts.map fun (i, x) => (i, a.eval x)).toList = some cells) : (execOp a.eval o).run P w = .ok (.value (.agg cells)) w := by
  unfold execOp
  simp only [ho, Sem.run_bind, run_build w t _ cells h, Result.andThen_ok, Sem.run_pure]

section
variable {P : Program} {md : Region.Mode} {l : List Oper} {Q : Exit → Act → World → Prop}
theorem drop_at {l : List Oper} {i : Nat} {oi : Oper} {rs : List Oper} (hi : l.drop i = oi :: rs) : l.toArray[i]? = some oi := by
  rw [List.getElem?_toArray]
  have : (l.drop i)[0]? = some oi := by rw [hi]; rfl
  rwa [List.getElem?_drop, Nat.add_zero] at this
theorem any_take (i : Nat) (v : Value) {oi : Oper} {rs : List Oper} {fuel : Nat} {listed : Array Bool} {a : Act} {w : World} (hi : l.drop i = oi :: rs)
    (hs : Region.noSelect l.toArray = true) (hf : Region.free md l.toArray listed i = true) (hr : (Region.ready md l.toArray listed).contains i = true)
    (hQ : ∀ c a w, Q (.panic c) (a.put oi.dst v) w → Q (.panic c) a w) (hy : Yields P l.toArray oi v a)
    (h : wpAny P md l.toArray Q fuel (listed.setIfInBounds i true) (a.put oi.dst v) w) : wpAny P md l.toArray Q (fuel + 1) listed a w :=
  wpAny_take (drop_at hi) hs hf hr hQ hy h
theorem ready_cons {oi : Oper} {rest : List Oper} {fuel : Nat} {listed : Array Bool} {a : Act} {w : World} {i : Nat} {rs : List Nat} (hi : l.drop i = oi :: rest)
    (h : ∀ K' : Act → World → Prop, (∀ a w, wpAny P md l.toArray Q fuel (listed.setIfInBounds i true) a w → K' a w) → if Region.wanted oi (yielded l.toArray a.tmps) = true then Oper.wp P oi a w K' Q else K' (a.put oi.dst undef) w)
    (hs : AllReady P md l.toArray Q fuel listed a w rs) : AllReady P md l.toArray Q fuel listed a w (i :: rs) := AllReady.cons (drop_at hi) h hs
end

theorem wf64 {i : Nat} (h : i ≤ 100000000) : (Lit.int .i64 (i : Int)).wf = true := by
  have h1 : IntKind.min .i64 = -9223372036854775808 := by decide
  have h2 : IntKind.max .i64 = 9223372036854775807 := by decide
  simp only [Lit.wf, h1, h2, Bool.and_eq_true, decide_eq_true_eq]
  omega

theorem array_at (w : World) (p : Option Addr) (c : Nat) : (Instr.arrayAt 110 (.slice p 512 c)).run Tryz.prog w = .ok (.pointer p) w := by simp [Instr.arrayAt, run_underlying Tryz.underlying110]

theorem Lies.wrote {w w1 w2 : World} {D B : Nat} {V1 V2 VK v' : Value} {d : Dk} {i : Nat} {s : Sec} {M : DataW Unit} {o : Obj} (h : Lies w D B V1 V2 VK d) (hi : i < d.lasts.length) (hs : s.length = 512) (o1 : Only (fun k => k = B) w w1)
    (hM : Ints w1 B (d.waits.length + 1) M) (hN : NowOf M (d.waits ++ [(i, s)])) (hv : Vec w2 513 v' (d.waits.length + 1) (d.waits.flatMap wv ++ wv (i, s))) (hg : (w1.drew.alloc o).grownBy w2 V2.ownBlock)
    (hf : ∀ k, v'.ownBlock = some k → V2.ownBlock = some k ∨ (w1.drew.alloc o).heap.size ≤ k) :
    ∃ F', DiskAt (w2.setCell ⟨D, 1, none⟩ v') D F' (d.wrote i s) ∧ Kept (Foot D B V1 V2 VK) F' w (w2.setCell ⟨D, 1, none⟩ v') := by
  have hs1 := o1.size
  have hf' : ∀ k, v'.ownBlock = some k → V2.ownBlock = some k ∨ w.heap.size ≤ k := fun k hk => (hf k hk).imp id fun h => by simp at h; omega
  have o2 : Only (fun k => V2.ownBlock = some k) w1 w2 := (((Only.refl _ w1).drew).alloc o).grown hg fun k hk => hk
  have o12 : Only (fun k => k = B ∨ V2.ownBlock = some k) w w2 := (o1.mono fun _ _ h => .inl h).trans (o2.mono fun _ _ h => .inr h)
  have os : Only (fun k => k = D) w2 (w2.setCell ⟨D, 1, none⟩ v') := (Only.refl (fun k => k = D) _).setCell (p := ⟨D, 1, none⟩) rfl _
  have hDB := h.DB
  have hl1 : ∀ k, V1.ownBlock = some k → k < w.heap.size := fun k hk => h.lasts.lt hk
  have hlK : ∀ k, VK.ownBlock = some k → k < w.heap.size := fun k hk => h.keep.lt hk
  have hlB := h.ltB
  have hlD := h.ltD
  have hD : ¬ (D = B ∨ V2.ownBlock = some D) := fun e => e.elim hDB fun e => (h.apart2 D e).1 rfl
  have hvD : ∀ k, v'.ownBlock = some k → k ≠ D ∧ k ≠ B ∧ V1.ownBlock ≠ some k := fun k hk => by
    rcases hf' k hk with h1 | h1
    · exact h.apart2 k h1
    · exact ⟨by omega, by omega, fun e => by have := hl1 k e; omega⟩
  refine ⟨Foot D B V1 v' VK, ⟨B, V1, v', VK, Lies.join ((h.cells.only o12 hD).set1 v') ⟨?_, ?_, ?_, ⟨M, ?_, hN⟩, hDB, h.apart1, hvD, ?_, Dk.wrote_ok h.ok hi hs⟩, rfl⟩, ⟨?_, ?_⟩⟩
  · exact (h.lasts.only o12 fun g hg e => e.elim (fun e => (h.apart1 g hg).2 e) fun e => (h.apart2 g e).2.2 hg).only os fun g hg e => (h.apart1 g hg).1 e
  · show Vec _ 513 v' (d.waits ++ [(i, s)]).length ((d.waits ++ [(i, s)]).flatMap wv)
    rw [List.length_append, List.flatMap_append]
    simp only [List.flatMap_cons, List.flatMap_nil, List.append_nil, List.length_cons, List.length_nil, Nat.zero_add]
    exact hv.only os fun g hg e => (hvD g hg).1 e
  · exact (h.keep.only o12 fun g hg e => e.elim (fun e => (h.apartK g hg).2.1 e) fun e => (h.apartK g hg).2.2.2 e).only os fun g hg e => (h.apartK g hg).1 e
  · show Ints _ B (d.waits ++ [(i, s)]).length M
    rw [List.length_append]
    obtain ⟨es, clock, hh, hr⟩ := hM
    refine ⟨es, clock, ?_, hr⟩
    rw [os.block B (by have := o12.size; omega) (fun e => hDB e.symm), o2.block B (by omega) fun e => (h.apart2 B e).2.1 rfl]
    exact hh
  · intro k hk
    refine ⟨(h.apartK k hk).1, (h.apartK k hk).2.1, (h.apartK k hk).2.2.1, fun e => ?_⟩
    rcases hf' k e with h1 | h1
    · exact (h.apartK k hk).2.2.2 h1
    · have := hlK k hk; omega
  · exact (o12.mono fun k _ e => e.elim (fun e => .inr (.inl e)) fun e => .inr (.inr (.inr (.inl e)))).trans (os.mono fun k _ e => .inl e)
  · intro k hk
    rcases hk with hk | hk | hk | hk | hk
    · exact .inl (.inl hk)
    · exact .inl (.inr (.inl hk))
    · exact .inl (.inr (.inr (.inl hk)))
    · exact (hf' k hk).imp (fun e => .inr (.inr (.inr (.inl e)))) id
    · exact .inl (.inr (.inr (.inr (.inr hk))))

set_option maxRecDepth 20000 in
set_option maxHeartbeats 4000000 in
theorem write_lies {w : World} {D B : Nat} {V1 V2 VK vb : Value} {d : Dk} {i : Nat} {s : Sec} (h : Lies w D B V1 V2 VK d) (hd : d.dead = false) (hi : i < d.lasts.length) (hb : Rd w 1 vb 512 (bv s)) (hap : ∀ g, vb.ownBlock = some g → ¬ Foot D B V1 V2 VK g) (hs : s.length = 512) {n : Nat} (hf : d.Few n) (hn1 : n ≤ 999999) :
    Calls Tryz.prog 29 #[.pointer (some ⟨D, 0, none⟩), .int .i64 (i : Int), vb] w fun r w' => r = .returned (.int .i64 (if d.due then 20 else 0)) ∧ ∃ F', DiskAt w' D F' (d.write i s) ∧ Kept (Foot D B V1 V2 VK) F' w w' := by
  have hn : d.waits.length ≤ 999999 := Nat.le_trans hf.waits hn1
  have HF := Lib.hid hf
  obtain ⟨ec, he⟩ : ∃ e : Int, (if d.due then 20 else 0) = e := ⟨_, rfl⟩
  rw [he]
  have HE := Lib.hid he
  clear he
  have hc := alive_any ⟨B, V1, V2, VK, h, rfl⟩
  rw [show d.errno = 0 by unfold Dk.errno; rw [if_neg (by simp [hd])]] at hc
  obtain ⟨M, hM, hNow⟩ := h.now
  obtain ⟨gb, ob, cb, rfl, hgb, hrb⟩ := hb.at_ (by decide)
  obtain ⟨l1, k1, m1, e1⟩ := h.lasts.rd.shape'
  obtain ⟨a2, c2', e2, _, _⟩ := h.waits.shape
  subst e2
  have c0 := h.c0
  have c1 := h.c1
  have c2 := h.c2
  have thaw := h.thaw
  have i0 : ¬ (i : Int) < 0 := by omega
  have hk1 : k1 = d.lasts.length := by
    obtain ⟨a, c, e, _⟩ := h.lasts.shape
    rw [e1] at e
    injection e
  subst hk1
  subst e1
  have i1 : ¬ (d.lasts.length : Int) ≤ (i : Int) := by omega
  have hltD := h.ltD
  have H := Lib.hid h
  have HC := Lib.hid hc
  have HM := Lib.hid hM
  have HNow := Lib.hid hNow
  have HN := Lib.hid hn
  have HS := Lib.hid hs
  have HI := Lib.hid (And.intro hi h.ok.many)
  have HB := Lib.hid hrb
  have HA := Lib.hid (hap gb rfl)
  have BU := Lib.hid (built102 (i : Int) s hs)
  clear h hc hM hNow hn hs hb hrb hd hi hap hf
  go_enter Tryz.func29, Tryz.ntmps29
  go_wp2_with fail
  refine HC.out.mono ?_
  rintro r w' ⟨rfl, e⟩
  obtain rfl := e.symm
  go_wp2_with fail
  go_still_tail 10, (by kernel_rfl)
  refine wpList_mapUpdate_in _ rfl _ _ _ 102 rfl 3 3 keyed3 under92 (plainElem Tryz.prog 3) B _ M rfl (HM.out.drew) (by have := HN.out; unfold maxLen; omega) (.int .i64 (i : Int)) (.int .i64 (d.waits.length : Int)) (.int .i64 (i : Int)) rfl rfl (keyOf_int_mk Tryz.underlying3 (wf64 (by have := HI.out; omega))) (.lit (.int .i64 (d.waits.length : Int))) [] (plainElem_int Tryz.underlying3 (wf64 (by have := HN.out; omega))) ?_
  intro w1 hM1 ht1
  simp only [Act.put]
  have O1 := Lib.hid (((Only.refl (fun k => k = B) w).drew).turned ht1 rfl)
  have HM1 := Lib.hid hM1
  have c1' := (O1.out.cell hltD (fun e => H.out.DB e) 1).trans c1
  have thaw1 : ∀ j, w1.frozen? ⟨D, j, none⟩ = false := fun j => (O1.out.frozen hltD (fun e => H.out.DB e) j).trans (thaw j)
  have hl1 : D < w1.heap.size := Nat.lt_of_lt_of_le hltD O1.out.size
  have V1' := Lib.hid ((H.out.waits.only O1.out fun g hg e => (H.out.apart2 g hg).2.1 e))
  have RB : Hid (w1.drew.rangeAt gb ob (bv s)) := fun j u hu => (O1.out.drew.cell hgb (fun e => HA.out (.inr (.inl e))) (ob + j)).trans (HB.out j u hu)
  have VA : Hid (Vec (w1.drew.alloc (.cells (wv (i, s)).toArray 113)) 513 (.slice a2 d.waits.length c2') d.waits.length (d.waits.flatMap wv)) := V1'.out.drew.alloc _
  have NW : Hid (∀ j u, (wv (i, s))[j]? = some u → (w1.drew.alloc (.cells (wv (i, s)).toArray 113)).cell? ((⟨w1.heap.size, 0, none⟩ : Addr).add j) = some u) := fun j u hu => by
    rw [add_mid' (⟨w1.heap.size, 0, none⟩) j rfl, Nat.zero_add]
    have := World.cell?_alloc_new w1.drew (wv (i, s)).toArray 113 j
    rw [show w1.drew.heap.size = w1.heap.size from rfl] at this
    rw [this]; simpa using hu
  have DC : Hid ((∀ w2, (w1.drew.alloc (.cells (wv (i, s)).toArray 113)).grownBy w2 (Value.slice a2 d.waits.length c2').ownBlock → w2.cell? ⟨D, 1, none⟩ = some (.slice a2 d.waits.length c2')) ∧ (∀ w2, (w1.drew.alloc (.cells (wv (i, s)).toArray 113)).grownBy w2 (Value.slice a2 d.waits.length c2').ownBlock → ∀ j, w2.frozen? ⟨D, j, none⟩ = false)) := by
    have oa : Only None' w1 (w1.drew.alloc (.cells (wv (i, s)).toArray 113)) := ((Only.refl _ w1).drew).alloc _
    have q : ∀ w2, (w1.drew.alloc (.cells (wv (i, s)).toArray 113)).grownBy w2 (Value.slice a2 d.waits.length c2').ownBlock → Only (fun k => (Value.slice a2 d.waits.length c2').ownBlock = some k) w1 w2 := fun w2 hg => (oa.mono fun _ _ h => h.elim).grown hg fun k hk => hk
    exact ⟨fun w2 hg => ((q w2 hg).cell hl1 (fun e => (H.out.apart2 D e).1 rfl) 1).trans c1', fun w2 hg j => ((q w2 hg).frozen hl1 (fun e => (H.out.apart2 D e).1 rfl) j).trans (thaw1 j)⟩
  clear hM1 ht1 c0 c1 c2 thaw
  have HNow' := Lib.hid (HNow.out.put (i, s))
  go_upto_region 7 with fail
  go_cut [] from 39 to 52 (fun wx => ∃ F', DiskAt wx D F' (d.wrote i s) ∧ Kept (Foot D B (.slice l1 d.lasts.length m1) (.slice a2 d.waits.length c2') VK) F' w wx)
  case first =>
    refine wp_region_any (by kernel_rfl) ?_
    change wpAny _ _ _ _ _ _ _ (World.drew _)
    refine any_take 0 (.pointer (some ⟨D, 0, none⟩)) rfl (by kernel_rfl) (by kernel_rfl) (by kernel_rfl) (fun _ _ _ h => h) (Or.inl ⟨by rfl, fun w => by go_simp⟩) ?_
    simp only [Act.put, zA, zB, zC]
    refine any_take 1 (.pointer (some ⟨D, 0, none⟩)) rfl (by kernel_rfl) (by kernel_rfl) (by kernel_rfl) (fun _ _ _ h => h) (Or.inl ⟨by rfl, fun w => by go_simp⟩) ?_
    simp only [Act.put, zA, zB, zC]
    refine any_take 2 (.pointer (some ⟨D, 0, none⟩)) rfl (by kernel_rfl) (by kernel_rfl) (by kernel_rfl) (fun _ _ _ h => h) (Or.inl ⟨by rfl, fun w => by go_simp⟩) ?_
    simp only [Act.put, zA, zB, zC]
    refine any_take 3 (.pointer (some ⟨D, 1, none⟩)) rfl (by kernel_rfl) (by kernel_rfl) (by kernel_rfl) (fun _ _ _ h => h) (Or.inl ⟨by rfl, fun w => by go_simp⟩) ?_
    simp only [Act.put, zA, zB, zC]
    refine any_take 5 (.int .i64 (i : Int)) rfl (by kernel_rfl) (by kernel_rfl) (by kernel_rfl) (fun _ _ _ h => h) (Or.inl ⟨by rfl, fun w => by go_simp⟩) ?_
    simp only [Act.put, zA, zB, zC]
    refine any_take 6 (.slice (some ⟨gb, ob, none⟩) 512 cb) rfl (by kernel_rfl) (by kernel_rfl) (by kernel_rfl) (fun _ _ _ h => h) (Or.inl ⟨by rfl, fun w => by go_simp⟩) ?_
    simp only [Act.put, zA, zB, zC]
    refine any_take 7 (.pointer (some ⟨gb, ob, none⟩)) rfl (by kernel_rfl) (by kernel_rfl) (by kernel_rfl) (fun _ _ _ h => h) (Or.inl ⟨by rfl, fun w => by go_simp; rw [array_at]; rfl⟩) ?_
    simp only [Act.put, zA, zB, zC]
    refine wpAny_ready (rs := [4, 8]) (by kernel_rfl) (by simp) ?_
    refine ready_cons rfl (fun K hK => ?_) (ready_cons rfl (fun K hK => ?_) AllReady.nil)
    · go_simp
      refine hK _ _ ?_
      clear hK K
      refine wpAny_ready (rs := [8]) (by kernel_rfl) (by simp) ?_
      refine ready_cons rfl (fun K hK => ?_) AllReady.nil
      refine step_plain rfl ?_
      refine wp_load_mid 110 _ rfl gb ob rfl (bv s) _ RB.out Tryz.underlying110 rfl (size100 s HS.out) ?_
      refine hK _ _ ?_
      clear hK K
      simp only [Act.put, zA, zB, zC]
      refine any_take 9 (.agg (wv (i, s)).toArray) rfl (by kernel_rfl) (by kernel_rfl) (by kernel_rfl) (fun _ _ _ h => h) (Or.inl ⟨by rfl, fun w => yields_build w _ _ 113 #[(0, .tmp 44), (1, .tmp 47)] rfl _ (by simp only [List.map_toArray, List.map_cons, List.map_nil]; exact BU.out)⟩) ?_
      simp only [Act.put, zA, zB, zC]
      refine wpAny_ready (rs := [10]) (by kernel_rfl) (by simp) ?_
      refine ready_cons rfl (fun K hK => ?_) AllReady.nil
      refine step_plain rfl ?_
      refine wp_buildSlice 103 113 1 #[(0, .tmp 48)] rfl (wv (i, s)).toArray Tryz.t113 (.agg Tryz.zeroCells113) Tryz.underlying103 info102 t102_zero (by rw [t102_size]; decide) (by rw [t102_size]; decide) (by simp only [List.map_toArray, List.map_cons, List.map_nil]; exact filled93 (wv (i, s)) (by rw [wv_length, HS.out])) ?_
      refine hK _ _ ?_
      clear hK K
      simp only [Act.put, zA, zB, zC]
      refine wpAny_ready (rs := [11]) (by kernel_rfl) (by simp) ?_
      refine ready_cons rfl (fun K hK => ?_) AllReady.nil
      refine step_vec_append _ rfl _ _ 103 rfl 113 Tryz.t113 (.agg Tryz.zeroCells113) 513 520 Tryz.underlying103 info102 t102_zero t102_size t102_bytes zsize102 (by decide) _ _ _ rfl VA.out ⟨w1.heap.size, 0, none⟩ 1 1 (wv (i, s)) rfl (by rw [wv_length, HS.out]) NW.out (wv_one _) (by have := HN.out; unfold maxLen; omega) (by have := HN.out; omega) ?_
      intro v' w2 hv hg hf
      obtain ⟨va, vk, vc, rfl⟩ := hv.rd.shape'
      refine hK _ _ ?_
      clear hK K
      simp only [Act.put, zA, zB, zC]
      have d1 := DC.out.1 w2 hg
      have d2 := DC.out.2 w2 hg
      have HW := Lib.hid (H.out.wrote HI.out.1 HS.out O1.out HM1.out HNow'.out hv hg hf)
      clear hv hg hf
      refine any_take 12 (.pointer (some ⟨D, 0, none⟩)) rfl (by kernel_rfl) (by kernel_rfl) (by kernel_rfl) (fun _ _ _ h => h) (Or.inl ⟨by rfl, fun w => by go_simp⟩) ?_
      simp only [Act.put, zA, zB, zC]
      refine any_take 13 (.pointer (some ⟨D, 1, none⟩)) rfl (by kernel_rfl) (by kernel_rfl) (by kernel_rfl) (fun _ _ _ h => h) (Or.inl ⟨by rfl, fun w => by go_simp⟩) ?_
      simp only [Act.put, zA, zB, zC]
      refine wpAny_ready (rs := [14]) (by kernel_rfl) (by simp) ?_
      refine ready_cons rfl (fun K hK => ?_) AllReady.nil
      go_simp
      refine hK _ _ ?_
      clear hK K
      refine wpAny_done (by kernel_rfl) ?_ _
      go_wp2_with fail
      go_meet
      exact HW.out
    · refine step_plain rfl ?_
      refine wp_load_mid 110 _ rfl gb ob rfl (bv s) _ RB.out Tryz.underlying110 rfl (size100 s HS.out) ?_
      refine hK _ _ ?_
      clear hK K
      simp only [Act.put, zA, zB, zC]
      refine any_take 9 (.agg (wv (i, s)).toArray) rfl (by kernel_rfl) (by kernel_rfl) (by kernel_rfl) (fun _ _ _ h => h) (Or.inl ⟨by rfl, fun w => yields_build w _ _ 113 #[(0, .tmp 44), (1, .tmp 47)] rfl _ (by simp only [List.map_toArray, List.map_cons, List.map_nil]; exact BU.out)⟩) ?_
      simp only [Act.put, zA, zB, zC]
      refine wpAny_ready (rs := [4, 10]) (by kernel_rfl) (by simp) ?_
      refine ready_cons rfl (fun K hK => ?_) (ready_cons rfl (fun K hK => ?_) AllReady.nil)
      · go_simp
        refine hK _ _ ?_
        clear hK K
        refine wpAny_ready (rs := [10]) (by kernel_rfl) (by simp) ?_
        refine ready_cons rfl (fun K hK => ?_) AllReady.nil
        refine step_plain rfl ?_
        refine wp_buildSlice 103 113 1 #[(0, .tmp 48)] rfl (wv (i, s)).toArray Tryz.t113 (.agg Tryz.zeroCells113) Tryz.underlying103 info102 t102_zero (by rw [t102_size]; decide) (by rw [t102_size]; decide) (by simp only [List.map_toArray, List.map_cons, List.map_nil]; exact filled93 (wv (i, s)) (by rw [wv_length, HS.out])) ?_
        refine hK _ _ ?_
        clear hK K
        simp only [Act.put, zA, zB, zC]
        refine wpAny_ready (rs := [11]) (by kernel_rfl) (by simp) ?_
        refine ready_cons rfl (fun K hK => ?_) AllReady.nil
        refine step_vec_append _ rfl _ _ 103 rfl 113 Tryz.t113 (.agg Tryz.zeroCells113) 513 520 Tryz.underlying103 info102 t102_zero t102_size t102_bytes zsize102 (by decide) _ _ _ rfl VA.out ⟨w1.heap.size, 0, none⟩ 1 1 (wv (i, s)) rfl (by rw [wv_length, HS.out]) NW.out (wv_one _) (by have := HN.out; unfold maxLen; omega) (by have := HN.out; omega) ?_
        intro v' w2 hv hg hf
        obtain ⟨va, vk, vc, rfl⟩ := hv.rd.shape'
        refine hK _ _ ?_
        clear hK K
        simp only [Act.put, zA, zB, zC]
        have d1 := DC.out.1 w2 hg
        have d2 := DC.out.2 w2 hg
        have HW := Lib.hid (H.out.wrote HI.out.1 HS.out O1.out HM1.out HNow'.out hv hg hf)
        clear hv hg hf
        refine any_take 12 (.pointer (some ⟨D, 0, none⟩)) rfl (by kernel_rfl) (by kernel_rfl) (by kernel_rfl) (fun _ _ _ h => h) (Or.inl ⟨by rfl, fun w => by go_simp⟩) ?_
        simp only [Act.put, zA, zB, zC]
        refine any_take 13 (.pointer (some ⟨D, 1, none⟩)) rfl (by kernel_rfl) (by kernel_rfl) (by kernel_rfl) (fun _ _ _ h => h) (Or.inl ⟨by rfl, fun w => by go_simp⟩) ?_
        simp only [Act.put, zA, zB, zC]
        refine wpAny_ready (rs := [14]) (by kernel_rfl) (by simp) ?_
        refine ready_cons rfl (fun K hK => ?_) AllReady.nil
        go_simp
        refine hK _ _ ?_
        clear hK K
        refine wpAny_done (by kernel_rfl) ?_ _
        go_wp2_with fail
        go_meet
        exact HW.out
      · refine step_plain rfl ?_
        refine wp_buildSlice 103 113 1 #[(0, .tmp 48)] rfl (wv (i, s)).toArray Tryz.t113 (.agg Tryz.zeroCells113) Tryz.underlying103 info102 t102_zero (by rw [t102_size]; decide) (by rw [t102_size]; decide) (by simp only [List.map_toArray, List.map_cons, List.map_nil]; exact filled93 (wv (i, s)) (by rw [wv_length, HS.out])) ?_
        refine hK _ _ ?_
        clear hK K
        simp only [Act.put, zA, zB, zC]
        refine wpAny_ready (rs := [4]) (by kernel_rfl) (by simp) ?_
        refine ready_cons rfl (fun K hK => ?_) AllReady.nil
        go_simp
        refine hK _ _ ?_
        clear hK K
        refine wpAny_ready (rs := [11]) (by kernel_rfl) (by simp) ?_
        refine ready_cons rfl (fun K hK => ?_) AllReady.nil
        refine step_vec_append _ rfl _ _ 103 rfl 113 Tryz.t113 (.agg Tryz.zeroCells113) 513 520 Tryz.underlying103 info102 t102_zero t102_size t102_bytes zsize102 (by decide) _ _ _ rfl VA.out ⟨w1.heap.size, 0, none⟩ 1 1 (wv (i, s)) rfl (by rw [wv_length, HS.out]) NW.out (wv_one _) (by have := HN.out; unfold maxLen; omega) (by have := HN.out; omega) ?_
        intro v' w2 hv hg hf
        obtain ⟨va, vk, vc, rfl⟩ := hv.rd.shape'
        refine hK _ _ ?_
        clear hK K
        simp only [Act.put, zA, zB, zC]
        have d1 := DC.out.1 w2 hg
        have d2 := DC.out.2 w2 hg
        have HW := Lib.hid (H.out.wrote HI.out.1 HS.out O1.out HM1.out HNow'.out hv hg hf)
        clear hv hg hf
        refine any_take 12 (.pointer (some ⟨D, 0, none⟩)) rfl (by kernel_rfl) (by kernel_rfl) (by kernel_rfl) (fun _ _ _ h => h) (Or.inl ⟨by rfl, fun w => by go_simp⟩) ?_
        simp only [Act.put, zA, zB, zC]
        refine any_take 13 (.pointer (some ⟨D, 1, none⟩)) rfl (by kernel_rfl) (by kernel_rfl) (by kernel_rfl) (fun _ _ _ h => h) (Or.inl ⟨by rfl, fun w => by go_simp⟩) ?_
        simp only [Act.put, zA, zB, zC]
        refine wpAny_ready (rs := [14]) (by kernel_rfl) (by simp) ?_
        refine ready_cons rfl (fun K hK => ?_) AllReady.nil
        go_simp
        refine hK _ _ ?_
        clear hK K
        refine wpAny_done (by kernel_rfl) ?_ _
        go_wp2_with fail
        go_meet
        exact HW.out
  case rest =>
    obtain ⟨F', hD, hK⟩ := hcut
    have HD := Lib.hid hD
    have HK := Lib.hid hK
    clear hD hK
    cases hdue : d.due
    · have hb := burns_not HD.out (show (d.wrote i s).due = false from hdue) (by have h1 := HF.out.left0; show _ ≤ d.left; omega) HF.out.left HF.out.done0 (by have h1 := HF.out.done; show d.done ≤ _; omega)
      have HB2 := Lib.hid hb
      have HDU := Lib.hid hdue
      clear hb hdue
      go_wp2_with fail
      refine HB2.out.mono ?_
      rintro r w3 ⟨rfl, hD, hO⟩
      have HD3 := Lib.hid hD
      have HO3 := Lib.hid hO
      clear hD hO
      go_wp2_with fail
      go_ret
      refine ⟨by rw [← HE.out, HDU.out]; rfl, F', by rw [Dk.write, if_neg (by rw [HDU.out]; decide)]; exact HD3.out, HK.out.trans (Kept.only' (HO3.out.mono fun k _ e => e ▸ HD.out.has))⟩
    · have hb := burns_due HD.out (show (d.wrote i s).due = true from hdue)
      obtain ⟨B', W1, W2, WK, hL, hF'⟩ := HD.out
      obtain ⟨ka, kn, kc, hk⟩ := hL.keep.rd.shape'
      subst hk
      subst hF'
      have hX := crash_any (keep := d.keep) hL hL.keep.rd (fun _ g hg => (hL.apartK g hg).2.2.1) (by show (d.waits ++ [(i, s)]).length ≤ _; have := HN.out; simp; omega)
      have c7 := hL.c7
      have HX := Lib.hid hX
      have HB2 := Lib.hid hb
      have HDU := Lib.hid hdue
      clear hb hdue hL hX
      go_wp2_with fail
      refine HB2.out.mono ?_
      rintro r w3 ⟨rfl, e⟩
      obtain rfl := e.symm
      go_wp2_with fail
      refine HX.out.mono ?_
      rintro r w4 ⟨rfl, F'', hD, hK⟩
      have HD4 := Lib.hid hD
      have HK4 := Lib.hid hK
      clear hD hK
      go_wp2_with fail
      go_ret
      refine ⟨by rw [← HE.out, HDU.out]; rfl, F'', by rw [Dk.write, if_pos HDU.out]; exact HD4.out, HK.out.trans HK4.out⟩

theorem write_any {w : World} {D : Nat} {F : Nat → Prop} {vb : Value} {d : Dk} {i : Nat} {s : Sec} (h : DiskAt w D F d) (hd : d.dead = false) (hi : i < d.lasts.length) (hb : Rd w 1 vb 512 (bv s)) (hap : ∀ g, vb.ownBlock = some g → ¬ F g) (hs : s.length = 512) {n : Nat} (hf : d.Few n) (hn1 : n ≤ 999999) :
    Calls Tryz.prog 29 #[.pointer (some ⟨D, 0, none⟩), .int .i64 (i : Int), vb] w fun r w' => r = .returned (.int .i64 (if d.due then 20 else 0)) ∧ ∃ F', DiskAt w' D F' (d.write i s) ∧ Kept F F' w w' := by
  obtain ⟨B, V1, V2, VK, h, rfl⟩ := h
  exact write_lies h hd hi hb hap hs hf hn1

theorem write_nil (i : Int) (v : Value) (w : World) : Calls Tryz.prog 29 #[.pointer none, .int .i64 i, v] w fun r w' => r = .returned (.int .i64 2) ∧ w' = w := by
  have hc := alive_nil w
  go_enter Tryz.func29, Tryz.ntmps29
  go_wp2_with fail
  refine hc.mono ?_
  rintro r w1 ⟨rfl, rfl⟩
  clear hc
  go_wp2_with fail
  go_ret
  exact ⟨rfl, rfl⟩

theorem write_dead {w : World} {D : Nat} {F : Nat → Prop} {d : Dk} (h : DiskAt w D F d) (hd : d.dead = true) (i : Int) (v : Value) :
    Calls Tryz.prog 29 #[.pointer (some ⟨D, 0, none⟩), .int .i64 i, v] w fun r w' => r = .returned (.int .i64 20) ∧ w' = w := by
  have hc := alive_any h
  rw [show d.errno = 20 by unfold Dk.errno; rw [if_pos hd]] at hc
  clear h hd
  go_enter Tryz.func29, Tryz.ntmps29
  go_wp2_with fail
  refine hc.mono ?_
  rintro r w1 ⟨rfl, rfl⟩
  clear hc
  go_wp2_with fail
  go_ret
  exact ⟨rfl, rfl⟩

theorem write_bad {w : World} {D : Nat} {F : Nat → Prop} {d : Dk} (h : DiskAt w D F d) (hd : d.dead = false) (i : Int) (va : Option Addr) (m c : Nat) (hb : i < 0 ∨ (d.lasts.length : Int) ≤ i ∨ m ≠ 512) :
    Calls Tryz.prog 29 #[.pointer (some ⟨D, 0, none⟩), .int .i64 i, .slice va m c] w fun r w' => r = .returned (.int .i64 1) ∧ w' = w := by
  have hc := alive_any h
  rw [show d.errno = 0 by unfold Dk.errno; rw [if_neg (by simp [hd])]] at hc
  obtain ⟨B, V1, V2, VK, h, rfl⟩ := h
  obtain ⟨l1, m1, e1, _, _⟩ := h.lasts.shape
  subst e1
  have c0 := h.c0
  have HC := Lib.hid hc
  have HB := Lib.hid hb
  clear h hd hc hb
  obtain ⟨len, hlen⟩ : ∃ len, len = d.lasts.length := ⟨_, rfl⟩
  rw [← hlen] at HB c0
  clear hlen
  by_cases h1 : i < 0
  · go_enter Tryz.func29, Tryz.ntmps29
    go_wp2_with fail
    refine HC.out.mono ?_
    rintro r w' ⟨rfl, e⟩
    obtain rfl := e.symm
    go_wp2_with fail
    go_ret
    exact ⟨rfl, rfl⟩
  · by_cases h2 : (len : Int) ≤ i
    · go_enter Tryz.func29, Tryz.ntmps29
      go_wp2_with fail
      refine HC.out.mono ?_
      rintro r w' ⟨rfl, e⟩
      obtain rfl := e.symm
      go_wp2_with fail
      go_ret
      exact ⟨rfl, rfl⟩
    · have h3 : ((m : Int) != 512) = true := by have := HB.out; simp; omega
      go_enter Tryz.func29, Tryz.ntmps29
      go_wp2_with fail
      refine HC.out.mono ?_
      rintro r w' ⟨rfl, e⟩
      obtain rfl := e.symm
      go_wp2_with fail
      go_ret
      exact ⟨rfl, rfl⟩

end Go.Proofs.YteoeaojebklfjaaGreatDoor
namespace Go.Proofs.YteoeaojebklfjaaGreatDoor
open Go.RowKit Go.Maps
set_option linter.unusedVariables false

theorem read_nil (i : Int) (w : World) : Calls Tryz.prog 28 #[.pointer none, .int .i64 i] w fun r w' => r = .returned (.tuple #[.slice none 0 0, .int .i64 2]) ∧ w' = w := by
  have hc := alive_nil w
  go_enter Tryz.func28, Tryz.ntmps28
  go_wp2_with fail
  refine hc.mono ?_
  rintro r w1 ⟨rfl, rfl⟩
  clear hc
  go_wp2_with fail
  go_ret2
  exact ⟨rfl, rfl⟩

theorem read_dead {w : World} {D : Nat} {F : Nat → Prop} {d : Dk} (h : DiskAt w D F d) (hd : d.dead = true) (i : Int) :
    Calls Tryz.prog 28 #[.pointer (some ⟨D, 0, none⟩), .int .i64 i] w fun r w' => r = .returned (.tuple #[.slice none 0 0, .int .i64 20]) ∧ w' = w := by
  have hc := alive_any h
  rw [show d.errno = 20 by unfold Dk.errno; rw [if_pos hd]] at hc
  clear h hd
  go_enter Tryz.func28, Tryz.ntmps28
  go_wp2_with fail
  refine hc.mono ?_
  rintro r w1 ⟨rfl, rfl⟩
  clear hc
  go_wp2_with fail
  go_ret2
  exact ⟨rfl, rfl⟩

theorem read_bad {w : World} {D : Nat} {F : Nat → Prop} {d : Dk} (h : DiskAt w D F d) (hd : d.dead = false) (i : Int) (hb : i < 0 ∨ (d.lasts.length : Int) ≤ i) :
    Calls Tryz.prog 28 #[.pointer (some ⟨D, 0, none⟩), .int .i64 i] w fun r w' => r = .returned (.tuple #[.slice none 0 0, .int .i64 1]) ∧ w' = w := by
  have hc := alive_any h
  rw [show d.errno = 0 by unfold Dk.errno; rw [if_neg (by simp [hd])]] at hc
  obtain ⟨B, V1, V2, VK, h, rfl⟩ := h
  obtain ⟨l1, m1, e1, _, _⟩ := h.lasts.shape
  subst e1
  have c0 := h.c0
  have HC := Lib.hid hc
  have HB := Lib.hid hb
  clear h hd hc hb
  obtain ⟨len, hlen⟩ : ∃ len, len = d.lasts.length := ⟨_, rfl⟩
  rw [← hlen] at HB c0
  clear hlen
  by_cases h1 : i < 0
  · go_enter Tryz.func28, Tryz.ntmps28
    go_wp2_with fail
    refine HC.out.mono ?_
    rintro r w' ⟨rfl, e⟩
    obtain rfl := e.symm
    go_wp2_with fail
    go_ret2
    exact ⟨rfl, rfl⟩
  · have h2 : (len : Int) ≤ i := by have := HB.out; omega
    go_enter Tryz.func28, Tryz.ntmps28
    go_wp2_with fail
    refine HC.out.mono ?_
    rintro r w' ⟨rfl, e⟩
    obtain rfl := e.symm
    go_wp2_with fail
    go_ret2
    exact ⟨rfl, rfl⟩

theorem zsize100' : Tryz.zeroCells110.size = 512 := by kernel_rfl
theorem zero3 (w : World) : (zeroValue 3).run Tryz.prog w = .ok (.int .i64 0) w := by go_simp

theorem sector_row (w : World) (s : Sec) (h : s.length = 512) : Vec ((w.alloc (.cells Tryz.zeroCells110 110)).setCells w.heap.size 0 (bv s)) 1 (.slice (some ⟨w.heap.size, 0, none⟩) 512 512) 512 (bv s) := by
  have hth := there_new w 110 512 Tryz.zeroCells110 zsize100'
  have hl : (bv s).length = 512 := by rw [bv_length, h]
  refine ⟨by rw [hl], .inr ⟨w.heap.size, 0, 512, rfl, Nat.le_refl _, by unfold maxLen; decide, by rw [size_setCells]; simp, fun j u hu => ?_, fun j hj => ?_⟩⟩
  · exact World.rangeAt_setCells_same _ _ _ _ (by rw [hl]; exact hth) j u hu
  · exact World.there_setCells hth w.heap.size 0 (bv s) j (by omega)

set_option maxRecDepth 20000 in
set_option maxHeartbeats 2000000 in
theorem read_lies {w : World} {D B : Nat} {V1 V2 VK : Value} {d : Dk} {i : Nat} (h : Lies w D B V1 V2 VK d) (hd : d.dead = false) (hi : i < d.lasts.length) (hn : d.waits.length ≤ 1000000) :
    Calls Tryz.prog 28 #[.pointer (some ⟨D, 0, none⟩), .int .i64 (i : Int)] w fun r w' => ∃ v, r = .returned (.tuple #[v, .int .i64 0]) ∧ Vec w' 1 v 512 (bv (d.read i)) ∧ (∀ k, v.ownBlock = some k → w.heap.size ≤ k) ∧ Only None' w w' := by
  have hc := alive_any ⟨B, V1, V2, VK, h, rfl⟩
  rw [show d.errno = 0 by unfold Dk.errno; rw [if_neg (by simp [hd])]] at hc
  obtain ⟨M, hM, hNow⟩ := h.now
  obtain ⟨g1, o1, m1, e1, _, _, hg1, _, _⟩ := h.lasts.at_ (by omega)
  subst e1
  have hel := h.lasts.elem (fun y hy => by rw [bv_length, h.ok.lasts y hy]) hi
  have c0 := h.c0
  have c1 := h.c1
  have c2 := h.c2
  have i0 : (0 : Int) ≤ (i : Int) := by omega
  have i1 : (i : Int) < (d.lasts.length : Int) := by omega
  have i2 : ¬ (i : Int) < 0 := by omega
  have i3 : ¬ (d.lasts.length : Int) ≤ (i : Int) := by omega
  have HL := Lib.hid (h.ok.lasts _ (List.getElem_mem hi))
  obtain ⟨s, hs⟩ : ∃ s, s = d.lasts[i] := ⟨_, rfl⟩
  rw [← hs] at hel HL
  have HR := Lib.hid (Dk.read_length h.ok hi)
  have HEL := Lib.hid hel
  have H := Lib.hid h
  have HC := Lib.hid hc
  have HM := Lib.hid hM
  have HI := Lib.hid (And.intro hi h.ok.many)
  have hhas := hNow.has i
  have hltD := h.ltD
  obtain ⟨w3, hw3⟩ : ∃ w3, w3 = (w.alloc (.cells Tryz.zeroCells110 110)).setCells w.heap.size 0 (bv s) := ⟨_, rfl⟩
  have hb3 : Only None' w w3 := by
    have := ((Below.refl w.heap.size w).alloc (Nat.le_refl _) (.cells Tryz.zeroCells110 110)).grown (grown_setCells w.heap.size (bv s) 0 _) (by simp) (by intro k hk; injection hk with hk; omega)
    rw [← hw3] at this
    exact Only.of_below this _
  have hv3 := sector_row w s HL.out
  rw [← hw3] at hv3
  have hs3 : w3.heap.size = w.heap.size + 1 := by rw [hw3, size_setCells]; simp
  have c0' := (hb3.cell hltD (fun e => e) 0).trans c0
  have c1' := (hb3.cell hltD (fun e => e) 1).trans c1
  have c2' := (hb3.cell hltD (fun e => e) 2).trans c2
  have HB3 := Lib.hid hb3
  have HV3 := Lib.hid hv3
  have H3 := Lib.hid (H.out.kept hb3.size (fun k hk => hb3.block k (H.out.lt hk) fun e => e))
  obtain ⟨M3, hM3, hN3⟩ := H3.out.now
  have HM3 := Lib.hid hM3
  have hh3 := Lib.hid (hN3.has i)
  have hz3 := Lib.hid (hN3.at_ i)
  have e3 := hw3.symm
  have HW3 := Lib.hid hs3
  clear h hc hM hNow hn hd hel hhas hw3 hb3 hv3 hM3 hN3 hs3
  cases hk : lastIx d.waits i with
  | none =>
    have HX : Hid (d.read i = s) := by show d.read i = s; unfold Dk.read; rw [hk, hs]; simp [List.getD_eq_getElem?_getD, List.getElem?_eq_getElem hi]
    have hh : Hid (has M3 (.int .i64 (i : Int)) = false) := by show _ = _; rw [hh3.out, hk]; rfl
    clear hi hs hk hh3 hz3
    go_enter Tryz.func28, Tryz.ntmps28
    go_wp2_with fail
    refine HC.out.mono ?_
    rintro r w' ⟨rfl, e⟩
    obtain rfl := e.symm
    go_wp2_with (first | (refine wpList_load_mid rfl 110 _ rfl g1 (o1 + i * 512) rfl (bv s) _ HEL.out Tryz.underlying110 rfl (size100 s HL.out) ?_) | (refine wpList_store_mid rfl 110 _ _ rfl w.heap.size 0 (bv s).toArray rfl rfl (there_new _ _ _ _ (zsize100'.trans (by simp [bv_length, HL.out]))) (size100a s HL.out) (all_oneCell_toArray (bv_one s)) ?_) | (at_lookup; refine wpList_lookup_own_ok_int _ rfl _ _ 102 rfl 3 3 .i64 keyed3 under92 Tryz.underlying3 (zero3 _) B _ M3 rfl HM3.out (.int .i64 (i : Int)) (.int .i64 (i : Int)) rfl (keyOf_int_mk Tryz.underlying3 (wf64 (by have := HI.out; omega))) ?_; intro c hat hwc; rw [hh.out]; clear hat hwc))
    refine (clone_bytes HV3.out (bv_one s) (by decide)).mono ?_
    rintro r w4 ⟨v', rfl, hC⟩
    have HCl := Lib.hid hC
    clear hC
    go_wp2_with fail
    go_ret2
    rw [HX.out]
    refine ⟨v', rfl, HCl.out.vec, fun k hk => ?_, HB3.out.trans HCl.out.only⟩
    have := HCl.out.fresh k hk
    have := HB3.out.size
    omega
  | some k =>
    obtain ⟨hk1, hk2⟩ := lastIx_lt hk
    obtain ⟨p, hp⟩ : ∃ p, p = d.waits[k] := ⟨_, rfl⟩
    have hp512 := Lib.hid (H.out.ok.waits d.waits[k] (List.getElem_mem hk1)).2
    have HX : Hid (d.read i = p.2) := by show d.read i = p.2; unfold Dk.read; rw [hk, hp]; simp [List.getD_eq_getElem?_getD, List.getElem?_eq_getElem hk1]
    have hh : Hid (has M3 (.int .i64 (i : Int)) = true) := by show _ = _; rw [hh3.out, hk]; rfl
    have hz : Hid (∀ z, M3.atKey (.int .i64 (i : Int)) z = .lit (.int .i64 (k : Int))) := fun z => hz3.out k z hk
    obtain ⟨g2, o2, m2, e2, _, _, hg2, _, _⟩ := H3.out.waits.at_ (by omega)
    subst e2
    have hel2 := H3.out.waits.elem (fun y hy => by rw [wv_length, (H3.out.ok.waits y hy).2]) hk1
    rw [← hp] at hel2 hp512
    have j1 : Hid (w3.rangeAt g2 (o2 + k * 513 + 1) (bv p.2)) := fun j u hu => by
      have := hel2 (j + 1) u (by simpa [wv] using hu)
      rwa [show o2 + k * 513 + (j + 1) = o2 + k * 513 + 1 + j by omega] at this
    have k0 : (0 : Int) ≤ (k : Int) := by omega
    have k1 : (k : Int) < (d.waits.length : Int) := by omega
    obtain ⟨q, hq⟩ : ∃ q, q = p.2 := ⟨_, rfl⟩
    rw [← hq] at HX j1 hp512
    have hth : w3.there w.heap.size 0 512 := by
      have := HV3.out.there (o := 0) (k := 512) (by decide)
      simpa using this
    obtain ⟨w4, hw4⟩ : ∃ w4, w4 = w3.setCells w.heap.size 0 (bv q) := ⟨_, rfl⟩
    have ho4 : Only (fun k => k = w.heap.size) w3 w4 := by rw [hw4]; exact (Only.refl (fun k => k = w.heap.size) w3).setCells rfl 0 (bv q)
    have hv4 : Vec w4 1 (.slice (some ⟨w.heap.size, 0, none⟩) 512 512) 512 (bv q) := by
      have h1 := HV3.out.put (o := 0) (vs := bv q) (by rw [bv_length, hp512.out]; decide)
      rw [Nat.add_zero, ← hw4, Nat.zero_add, bv_length, hp512.out, List.take_zero, List.nil_append, List.drop_eq_nil_of_le (by rw [bv_length, HL.out]; exact Nat.le_refl _), List.append_nil] at h1
      exact h1
    have e4 := hw4.symm
    have HO4 := Lib.hid ho4
    have HV4 := Lib.hid hv4
    have HT := Lib.hid hth
    clear hi hs hk hh3 hz3 hel2 hp hq ho4 hv4 hw4 hk1 hk2 hth
    go_enter Tryz.func28, Tryz.ntmps28
    go_wp2_with fail
    refine HC.out.mono ?_
    rintro r w' ⟨rfl, e⟩
    obtain rfl := e.symm
    go_wp2_with (first | (refine wpList_load_mid rfl 110 _ rfl g1 (o1 + i * 512) rfl (bv s) _ HEL.out Tryz.underlying110 rfl (size100 s HL.out) ?_) | (refine wpList_store_mid rfl 110 _ _ rfl w.heap.size 0 (bv s).toArray rfl rfl (there_new _ _ _ _ (zsize100'.trans (by simp [bv_length, HL.out]))) (size100a s HL.out) (all_oneCell_toArray (bv_one s)) ?_) | (at_lookup; refine wpList_lookup_own_ok_int _ rfl _ _ 102 rfl 3 3 .i64 keyed3 under92 Tryz.underlying3 (zero3 _) B _ M3 rfl HM3.out (.int .i64 (i : Int)) (.int .i64 (i : Int)) rfl (keyOf_int_mk Tryz.underlying3 (wf64 (by have := HI.out; omega))) ?_; intro c hat hwc; rw [hh.out]; obtain rfl : c = (k : Int) := (by rw [hz.out] at hat; injection hat with hat; injection hat with _ hat; exact hat.symm); clear hat hwc) | (refine wpList_load_mid rfl 110 _ rfl g2 (o2 + k * 513 + 1) rfl (bv q) _ j1.out Tryz.underlying110 rfl (size100 q hp512.out) ?_) | (refine wpList_store_mid rfl 110 _ _ rfl w.heap.size 0 (bv q).toArray rfl rfl ((show 512 = (bv q).toArray.size by simp [bv_length, hp512.out]) ▸ HT.out) (size100a q hp512.out) (all_oneCell_toArray (bv_one q)) ?_))
    refine (clone_bytes HV4.out (bv_one q) (by decide)).mono ?_
    rintro r w5 ⟨v', rfl, hC⟩
    have HCl := Lib.hid hC
    clear hC
    go_wp2_with fail
    go_ret2
    rw [HX.out]
    have o4 : Only None' w w4 := HB3.out.trans2 HO4.out fun k hk e => by omega
    refine ⟨v', rfl, HCl.out.vec, fun k hk => ?_, o4.trans HCl.out.only⟩
    have := HCl.out.fresh k hk
    have := o4.size
    omega

theorem read_any {w : World} {D : Nat} {F : Nat → Prop} {d : Dk} {i : Nat} (h : DiskAt w D F d) (hd : d.dead = false) (hi : i < d.lasts.length) (hn : d.waits.length ≤ 1000000) :
    Calls Tryz.prog 28 #[.pointer (some ⟨D, 0, none⟩), .int .i64 (i : Int)] w fun r w' => ∃ v, r = .returned (.tuple #[v, .int .i64 0]) ∧ Vec w' 1 v 512 (bv (d.read i)) ∧ (∀ k, v.ownBlock = some k → w.heap.size ≤ k) ∧ Only None' w w' := by
  obtain ⟨B, V1, V2, VK, h, rfl⟩ := h
  exact read_lies h hd hi hn

theorem reopen_nil (w : World) : Calls Tryz.prog 34 #[.pointer none] w fun r w' => r = .returned (.tuple #[.pointer none, .int .i64 2]) ∧ w' = w := by
  go_enter Tryz.func34, Tryz.ntmps34
  go_wp2_with fail
  go_ret2
  exact ⟨rfl, rfl⟩

theorem reopen_live {w : World} {D : Nat} {F : Nat → Prop} {d : Dk} (h : DiskAt w D F d) (hd : d.dead = false) : Calls Tryz.prog 34 #[.pointer (some ⟨D, 0, none⟩)] w fun r w' => r = .returned (.tuple #[.pointer none, .int .i64 50]) ∧ w' = w := by
  have c4 := h.cell4.1
  rw [hd] at c4
  clear h hd
  go_enter Tryz.func34, Tryz.ntmps34
  go_wp2_with fail
  go_ret2
  exact ⟨rfl, rfl⟩

theorem lasts_one {d : Dk} : ∀ u ∈ d.lasts.flatMap bv, u.oneCell' = true := by
  intro u hu
  obtain ⟨s, _, h⟩ := List.mem_flatMap.1 hu
  exact bv_one s u h
theorem waits_one {d : Dk} : ∀ u ∈ d.waits.flatMap wv, u.oneCell' = true := by
  intro u hu
  obtain ⟨s, _, h⟩ := List.mem_flatMap.1 hu
  exact wv_one s u h

theorem reopen_any {w : World} {D : Nat} {F : Nat → Prop} {d : Dk} (h : DiskAt w D F d) (hd : d.dead = true) :
    Calls Tryz.prog 34 #[.pointer (some ⟨D, 0, none⟩)] w fun r w' => ∃ D' F', r = .returned (.tuple #[.pointer (some ⟨D', 0, none⟩), .int .i64 0]) ∧ DiskAt w' D' F' d.reopened ∧ (∀ k, F' k → w.heap.size ≤ k) ∧ Only None' w w' := by
  obtain ⟨B, V1, V2, VK, h, rfl⟩ := h
  have c4 := h.c4
  rw [hd] at c4
  have c0 := h.c0
  have hcl := clone_secs h.lasts lasts_one (Nat.le_trans h.ok.many (by decide))
  obtain ⟨k1, m1, n1, e1⟩ := h.lasts.rd.shape'
  subst e1
  have HCl := Lib.hid hcl
  have H := Lib.hid h
  have hmm := @run_makeMap Tryz.prog
  clear h hd hcl
  go_enter Tryz.func34, Tryz.ntmps34
  go_wp2_with fail
  refine HCl.out.mono ?_
  rintro r w1 ⟨v', rfl, hC⟩
  obtain ⟨k2, m2, n2, e2⟩ := hC.vec.rd.shape'
  subst e2
  have HC := Lib.hid hC
  clear hC
  go_wp2_with fail
  go_ret2
  have hd := fresh_disk (L := d.lasts) HC.out.vec H.out.ok.lasts H.out.ok.many
  refine ⟨_, _, rfl, hd, ?_, (HC.out.only.alloc _).alloc _⟩
  have := HC.out.only.size
  intro k hk
  rcases hk with rfl | rfl | hk | hk | hk
  · omega
  · omega
  · exact HC.out.fresh k hk
  · cases hk
  · cases hk
end Go.Proofs.YteoeaojebklfjaaGreatDoor
