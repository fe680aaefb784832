/- settle. -/
import Derived.Test.YteoeaojebklfjaaP1
import Derived.Test.YteoeaojebklfjaaK1
import Derived.StillTailTactics
namespace Go.Proofs.Yteoeaojebklfjaa
open Go.RowKit Go.Maps
set_option linter.unusedVariables false

theorem settle_snoc (kept : Nat → Bool) (p : Nat × Sec) : ∀ (ws : List (Nat × Sec)) (k : Nat) (L : List Sec), settle kept k (ws ++ [p]) L = if kept (k + ws.length) then (settle kept k ws L).set p.1 p.2 else settle kept k ws L
  | [], k, L => by simp [settle]
  | q :: r, k, L => by
    rw [List.cons_append, settle, settle_snoc kept p r (k + 1), settle, List.length_cons, Nat.add_right_comm, Nat.add_assoc k]
theorem take_snoc' {α : Type} {l : List α} {k : Nat} (h : k < l.length) : l.take (k + 1) = l.take k ++ [l[k]] := by rw [List.take_add_one, List.getElem?_eq_getElem h]; rfl

theorem wv_one (p : Nat × Sec) : ∀ u ∈ wv p, u.oneCell' = true := by
  intro u hu
  rcases List.mem_cons.1 hu with rfl | h
  · rfl
  · exact bv_one _ u h
theorem size102 (p : Nat × Sec) (h : p.2.length = 512) : (Try.prog.info? 102).map (·.size) = some (wv p).length := by
  rw [info102, wv_length, h]; exact congrArg some t102_size
theorem size100 (s : Sec) (h : s.length = 512) : (Try.prog.info? 100).map (·.size) = some (bv s).length := by
  rw [info100, bv_length, h]; exact congrArg some t100_size
theorem size100a (s : Sec) (h : s.length = 512) : (Try.prog.info? 100).map (·.size) = some (bv s).toArray.size := by
  rw [size100 s h]; simp
theorem size102a (p : Nat × Sec) (h : p.2.length = 512) : (Try.prog.info? 102).map (·.size) = some (wv p).toArray.size := by
  rw [size102 p h]; simp

theorem hlen (p : Nat × Sec) (h : p.2.length = 512) : 513 = (wv p).toArray.size := by simp [wv_length, h]
theorem there_new (w : World) (t : TypeId) (n : Nat) (zc : Array Value) (h : zc.size = n) : (w.alloc (.cells zc t)).there w.heap.size 0 n := by
  intro j hj
  rw [Nat.zero_add]
  refine ⟨?_, World.frozen?_alloc_new _ _ _ _⟩
  rw [World.cell?_alloc_new]
  simp [h, hj]

theorem next_int {k : Nat} (h : k ≤ 1000000) : Value.int .i64 (wrap64 ((k : Int) + 1)) = .int .i64 ((k + 1 : Nat) : Int) := by
  rw [IntWalk.wrap64_in _ (by omega)]; rfl
theorem meas {n k : Nat} (h : k < n) (hn : n ≤ 1000000) : n - (intOf (.int .i64 (wrap64 ((k : Int) + 1)))).toNat < n - (intOf (.int .i64 (k : Int))).toNat := by
  rw [next_int (by omega)]
  simp only [intOf]
  omega
theorem zsize102' : Try.zeroCells102.size = 513 := by kernel_rfl

section
variable {P : Program} {ops : Array Oper}
theorem wpStill_load_mid {w : World} {op : Oper} {rest : List Oper} {a : Act} {Q : Act → Prop} (hgd : op.guard = none) (ty : TypeId) (x : Operand) (ho : op.op = .load ty x)
    (b o : Nat) (hx : a.eval x = .pointer (some ⟨b, o, none⟩)) (cs : List Value) (d : TypeDesc) (hc : w.rangeAt b o cs)
    (hu : P.underlying ty = some d) (hd : d.isRow = true) (hi : (P.info? ty).map (·.size) = some cs.length)
    (h : wpStill P ops w Q rest (a.put op.dst (.agg cs.toArray))) : wpStill P ops w Q (op :: rest) a :=
  wpStill_step fun K hK => by
    have hw : Region.wanted op (yielded ops a.tmps) = true := by simp [Region.wanted, hgd]
    rw [if_pos hw]
    unfold Oper.still execOp
    simp only [ho, hx, Instr.loadAt, Instr.sureAddr, Sem.run_bind, Sem.run_pure, Result.andThen_ok, run_loadVar_mid w b o ty cs d hc hu hd hi]
    exact ⟨rfl, hK _ h⟩
end

theorem Lies.settled {w wr : World} {D B : Nat} {V1 V2 VK : Value} {d : Dk} {kept : Nat → Bool} (h : Lies w D B V1 V2 VK d) (ho : Only (fun k => V1.ownBlock = some k) w wr) (hv : Vec wr 512 V1 d.lasts.length ((settle kept 0 d.waits d.lasts).flatMap bv)) :
    ∃ F', DiskAt (((wr.alloc (.map #[] 0)).setCell ⟨D, 1, none⟩ (.slice none 0 0)).setCell ⟨D, 2, none⟩ (.map (some wr.heap.size))) D F' (d.settled kept) ∧
      Kept (Foot D B V1 V2 VK) F' w (((wr.alloc (.map #[] 0)).setCell ⟨D, 1, none⟩ (.slice none 0 0)).setCell ⟨D, 2, none⟩ (.map (some wr.heap.size))) := by
  have hD : ¬ V1.ownBlock = some D := fun e => (h.apart1 D e).1 rfl
  have oa : Only None' wr (wr.alloc (.map #[] 0)) := (Only.refl _ _).alloc _
  have os : Only (fun k => k = D) (wr.alloc (.map #[] 0)) (((wr.alloc (.map #[] 0)).setCell ⟨D, 1, none⟩ (.slice none 0 0)).setCell ⟨D, 2, none⟩ (.map (some wr.heap.size))) :=
    ((Only.refl (fun k => k = D) _).setCell (p := ⟨D, 1, none⟩) rfl _).setCell (p := ⟨D, 2, none⟩) rfl _
  have hc := (((h.cells.only ho hD).only oa (fun h => h)).set1 (.slice none 0 0)).set2 (.map (some wr.heap.size))
  have hs := ho.size
  have hlD := h.ltD
  have hl1 : ∀ k, V1.ownBlock = some k → k < wr.heap.size := fun k hk => Nat.lt_of_lt_of_le (h.lasts.lt hk) hs
  have hlK : ∀ k, VK.ownBlock = some k → k < wr.heap.size := fun k hk => Nat.lt_of_lt_of_le (h.keep.lt hk) hs
  refine ⟨Foot D wr.heap.size V1 (.slice none 0 0) VK, ⟨wr.heap.size, V1, .slice none 0 0, VK, Lies.join hc ⟨?_, Vec.nil _ _, ?_, ⟨.map [], ?_, NowOf.nil⟩, by omega, ?_, (fun k hk => by cases hk), ?_, Dk.settled_ok h.ok kept⟩, rfl⟩, ⟨?_, ?_⟩⟩
  · show Vec _ 512 V1 (settle kept 0 d.waits d.lasts).length _
    rw [settle_length]
    exact (hv.alloc _).only os fun g hg e => hD (e ▸ hg)
  · exact ((h.keep.only ho fun g hg e => (h.apartK g hg).2.2.1 e).alloc _).only os fun g hg e => (h.apartK g hg).1 e
  · obtain ⟨es, clock, hh, hr⟩ := World.ownsMap_made wr Try.prog 3 (plainElem Try.prog 3)
    exact ⟨es, clock, (os.block wr.heap.size (by simp) (by omega)).trans hh, hr⟩
  · intro k hk
    have := hl1 k hk
    exact ⟨(h.apart1 k hk).1, by omega⟩
  · intro k hk
    have := hlK k hk
    exact ⟨(h.apartK k hk).1, by omega, (h.apartK k hk).2.2.1, by simp [Value.ownBlock]⟩
  · refine (ho.mono fun k _ hk => .inr (.inr (.inl hk))).trans ((oa.mono fun _ _ h => h.elim).trans (os.mono fun k _ hk => .inl hk))
  · intro k hk
    rcases hk with hk | hk | hk | hk | hk
    · exact .inl (.inl hk)
    · exact .inr (by omega)
    · exact .inl (.inr (.inr (.inl hk)))
    · cases hk
    · exact .inl (.inr (.inr (.inr (.inr hk))))

set_option maxRecDepth 20000 in
theorem settle_walk {w : World} {D B : Nat} {V1 V2 VK : Value} {d : Dk} (h : Lies w D B V1 V2 VK d) (F : Nat) (cap : Array Value) (kept : Nat → Bool) (hn : d.waits.length ≤ 1000000) (hcf : ∀ args w, (callFunc F args).run Try.prog w = .ok (.enter F args) w)
    (hc : ∀ w1 i, Only (fun k => V1.ownBlock = some k) w w1 → i < d.waits.length → Calls Try.prog F (#[.int .i64 (i : Int)] ++ cap) w1 fun e w' => e = .returned (.bool (kept i)) ∧ w' = w1) :
    Calls Try.prog 60 #[.pointer (some ⟨D, 0, none⟩), .func (.func F) #[] cap] w fun e w' => e = .returned (.tuple #[]) ∧ ∃ F', DiskAt w' D F' (d.settled kept) ∧ Kept (Foot D B V1 V2 VK) F' w w' := by
  obtain ⟨a2, cap2, e2, _, _⟩ := h.waits.shape
  subst e2
  have c1 := h.c1
  have H := Lib.hid h
  have HN := Lib.hid hn
  have HC := Lib.hid hc
  have hmm := @run_makeMap Try.prog
  clear h hc hn
  go_enter Try.func60, Try.ntmps60
  go_wp2
  go_loopw [11] (fun i wr => ∃ k : Nat, k ≤ d.waits.length ∧ i = .int .i64 k ∧ Hid (Only (fun k => V1.ownBlock = some k) w wr ∧ Vec wr 512 V1 d.lasts.length ((settle kept 0 (d.waits.take k) d.lasts).flatMap bv))) (fun i wr => d.waits.length - (intOf i).toNat)
  case atStart => exact ⟨0, by omega, rfl, Lib.hid ⟨Only.refl _ _, H.out.lasts⟩⟩
  case round =>
    obtain ⟨k, hk, rfl, HH⟩ := hrel
    by_cases hlt : k < d.waits.length
    · have i0 : (0 : Int) ≤ (k : Int) := by omega
      have i1 : (k : Int) < (d.waits.length : Int) := by omega
      have hw := H.out.waits.only HH.out.1 (fun g hg e => (H.out.apart2 g hg).2.2 e)
      obtain ⟨g2, o2, e2, hg2, _, _⟩ := hw.form' (by omega)
      subst e2
      have hr := Lib.hid (hw.elem (fun y hy => by rw [wv_length, (H.out.ok.waits y hy).2]) hlt)
      obtain ⟨p, hp⟩ : ∃ p, p = d.waits[k] := ⟨_, rfl⟩
      rw [← hp] at hr
      have HP := Lib.hid hp
      have hp2 := Lib.hid (H.out.ok.waits p (by rw [hp]; exact List.getElem_mem hlt))
      clear hw hp
      go_wp2_with (first | (refine wpList_load_mid rfl 102 _ rfl g2 (o2 + k * 513) rfl (wv p) _ hr.out Try.underlying102 rfl (size102 p hp2.out.2) ?_) | (refine wpList_store_mid rfl 102 _ _ rfl wr.heap.size 0 (wv p).toArray rfl rfl (there_new _ _ _ _ (zsize102'.trans (hlen p hp2.out.2))) (size102a p hp2.out.2) (all_oneCell_toArray (wv_one p)) ?_))
      obtain ⟨w3, hw3⟩ : ∃ w3, w3 = (wr.alloc (.cells Try.zeroCells102 102)).setCells wr.heap.size 0 (wv p) := ⟨_, rfl⟩
      rw [← hw3]
      have hth := there_new wr 102 (wv p).length Try.zeroCells102 (zsize102'.trans ((hlen p hp2.out.2).trans (by simp)))
      have hr3 := Lib.hid (World.rangeAt_setCells_same _ _ _ _ hth)
      have hb3 := Lib.hid (((Below.refl wr.heap.size wr).alloc (Nat.le_refl _) (.cells Try.zeroCells102 102)).grown (grown_setCells wr.heap.size (wv p) 0 _) (by simp) (by intro k hk; injection hk with hk; omega))
      rw [← hw3] at hr3 hb3
      have hlt3 : wr.heap.size < w3.heap.size := by rw [hw3, size_setCells]; simp
      clear hth hw3
      obtain ⟨b, hb⟩ : ∃ b, b = wr.heap.size := ⟨_, rfl⟩
      rw [← hb] at hr3 hlt3 ⊢
      refine (HC.out w3 k (HH.out.1.trans (Only.of_below hb3.out _)) hlt).mono ?_
      rintro r w4 ⟨rfl, rfl⟩
      have HV := Lib.hid (HH.out.2.kept hb3.out.size fun g hg => hb3.out.block g (HH.out.2.lt hg))
      have HO := Lib.hid (HH.out.1.trans (Only.of_below hb3.out (fun k => V1.ownBlock = some k)))
      have HB := Lib.hid hb
      clear hb
      cases hkk : kept k
      · have HK := Lib.hid hkk
        clear hkk
        go_wp2_with fail
        go_roundw
        case rel =>
          have := HN.out
          refine ⟨k + 1, by omega, next_int (by omega), Lib.hid ⟨HO.out, ?_⟩⟩
          rw [take_snoc' hlt, settle_snoc, Nat.zero_add, List.length_take_of_le (by omega), HK.out, if_neg (by decide)]
          exact HV.out
        case measure => exact meas hlt HN.out
      · have HK := Lib.hid hkk
        clear hkk
        have hpl := hp2.out.1
        obtain ⟨g1, o1, cap1, e1, _, _, hg1, _, _⟩ := HV.out.at_ (by omega)
        have j0 : w4.cell? ⟨b, 0, none⟩ = some (.int .i64 (p.1 : Int)) := hr3.out 0 (.int .i64 (p.1 : Int)) rfl
        have j1 : Hid (w4.rangeAt b 1 (bv p.2)) := fun i u hu => by
          have := hr3.out (i + 1) u (by simpa [wv] using hu)
          rwa [show 0 + (i + 1) = 1 + i by omega] at this
        subst e1
        have hth := Lib.hid (HV.out.there (o := p.1 * 512) (k := 512) (by omega))
        have c0 : w4.cell? ⟨D, 0, none⟩ = some (.slice (some ⟨g1, o1, none⟩) d.lasts.length cap1) := (HO.out.cell H.out.ltD (fun e => (H.out.apart1 _ e).1 rfl) 0).trans H.out.c0
        have i2 : (p.1 : Int) < (d.lasts.length : Int) := by omega
        have i3 : (0 : Int) ≤ (p.1 : Int) := by omega
        go_wp2_with fail
        have m3 : (bv p.2).toArray.size = 512 := by simp [bv_length, hp2.out.2]
        refine wp_region_still_tail 9 (by kernel_rfl) (by kernel_rfl) ?_
        simp only [List.take_succ_cons, List.take_zero, List.drop_succ_cons, List.drop_zero]
        still_step
        still_step
        still_step
        still_step
        still_step
        still_step
        still_step
        refine wpStill_load_mid rfl 100 _ rfl b 1 rfl (bv p.2) _ j1.out Try.underlying100 rfl (size100 p.2 hp2.out.2) ?_
        still_step
        refine wpStill_nil ?_
        refine wpList_store_mid rfl 100 _ _ rfl g1 (o1 + p.1 * 512) (bv p.2).toArray rfl rfl (m3.symm ▸ hth.out) (size100a p.2 hp2.out.2) (all_oneCell_toArray (bv_one p.2)) ?_
        go_wp2_with fail
        go_roundw
        case rel =>
          have := HN.out
          refine ⟨k + 1, by omega, next_int (by omega), Lib.hid ⟨(HO.out.drew).setCells rfl _ _, ?_⟩⟩
          rw [take_snoc' hlt, settle_snoc, Nat.zero_add, List.length_take_of_le (by omega), HK.out, if_pos rfl, ← HP.out]
          refine HV.out.drew.setElem (fun y hy => by rw [bv_length]; exact settle_ok kept _ _ _ (fun q hq => H.out.ok.waits q (List.mem_of_mem_take hq)) H.out.ok.lasts y hy) ?_ (settle_length kept _ _ _).symm p.2 (by rw [bv_length, hp2.out.2])
          rw [settle_length]; exact hpl
        case measure => exact meas hlt HN.out
    · obtain rfl : k = d.waits.length := by omega
      have c1' := (HH.out.1.cell H.out.ltD (fun e => (H.out.apart1 _ e).1 rfl) 1).trans H.out.c1
      have c2' := (HH.out.1.cell H.out.ltD (fun e => (H.out.apart1 _ e).1 rfl) 2).trans H.out.c2
      have thaw : ∀ i, wr.frozen? ⟨D, i, none⟩ = false := fun i => (HH.out.1.frozen H.out.ltD (fun e => (H.out.apart1 _ e).1 rfl) i).trans (H.out.thaw i)
      have hlD : D < wr.heap.size := Nat.lt_of_lt_of_le H.out.ltD HH.out.1.size
      have HV := HH.out.2
      rw [List.take_length] at HV
      have HS := H.out.settled HH.out.1 HV
      rw [World.setCell_alloc_past _ _ _ _ hlD, World.setCell_alloc_past _ _ _ _ (by simpa using hlD)] at HS
      have HS := Lib.hid HS
      clear HV
      go_wp2
      go_end0
      exact ⟨rfl, HS.out⟩
end Go.Proofs.Yteoeaojebklfjaa
