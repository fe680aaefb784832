/- D5 D6 D7 in one text. -/
import Derived.Test.YteoeaojebklfjaaGreatDoorV01
import Derived.Test.YteoeaojebklfjaaGreatDoorV00
import Derived.StillTailTactics
import Derived.Great.BuildSlice
import Derived.Great.FillDense
import Derived.Laws.Tables
namespace Go.Proofs.YteoeaojebklfjaaGreatDoor
open Go.RowKit Go.Maps
set_option linter.unusedVariables false

theorem settle_snoc (kept : Nat → Bool) (p : Nat × Sec) : ∀ (ws : List (Nat × Sec)) (k : Nat) (L : List Sec), settle kept k (ws ++ [p]) L = if kept (k + ws.length) then (settle kept k ws L).set p.1 p.2 else settle kept k ws L
  | [], k, L => by simp [settle]
  | q :: r, k, L => by
    rw [List.cons_append, settle, settle_snoc kept p r (k + 1), settle, List.length_cons, Nat.add_right_comm, Nat.add_assoc k]
theorem take_snoc' {α : Type} {l : List α} {k : Nat} (h : k < l.length) : l.take (k + 1) = l.take k ++ [l[k]] := by rw [List.take_add_one, List.getElem?_eq_getElem h]; rfl

theorem wv_one (p : Nat × Sec) : ∀ u ∈ wv p, u.oneCell' = true := by
  intro u hu
  rcases List.mem_cons.1 hu with rfl | h
  · rfl
  · exact bv_one _ u h
theorem size102 (p : Nat × Sec) (h : p.2.length = 512) : (Tryz.prog.info? 113).map (·.size) = some (wv p).length := by
  rw [info102, wv_length, h]; exact congrArg some t102_size
theorem size100 (s : Sec) (h : s.length = 512) : (Tryz.prog.info? 110).map (·.size) = some (bv s).length := by
  rw [info100, bv_length, h]; exact congrArg some t100_size
theorem size100a (s : Sec) (h : s.length = 512) : (Tryz.prog.info? 110).map (·.size) = some (bv s).toArray.size := by
  rw [size100 s h]; simp
theorem size102a (p : Nat × Sec) (h : p.2.length = 512) : (Tryz.prog.info? 113).map (·.size) = some (wv p).toArray.size := by
  rw [size102 p h]; simp

theorem hlen (p : Nat × Sec) (h : p.2.length = 512) : 513 = (wv p).toArray.size := by simp [wv_length, h]
theorem there_new (w : World) (t : TypeId) (n : Nat) (zc : Array Value) (h : zc.size = n) : (w.alloc (.cells zc t)).there w.heap.size 0 n := by
  intro j hj
  rw [Nat.zero_add]
  refine ⟨?_, World.frozen?_alloc_new _ _ _ _⟩
  rw [World.cell?_alloc_new]
  simp [h, hj]

theorem next_int {k : Nat} (h : k ≤ 1000000) : Value.int .i64 (wrap64 ((k : Int) + 1)) = .int .i64 ((k + 1 : Nat) : Int) := by
  rw [IntWalk.wrap64_in _ (by omega)]; rfl
theorem meas {n k : Nat} (h : k < n) (hn : n ≤ 1000000) : n - (intOf (.int .i64 (wrap64 ((k : Int) + 1)))).toNat < n - (intOf (.int .i64 (k : Int))).toNat := by
  rw [next_int (by omega)]
  simp only [intOf]
  omega
theorem zsize102' : Tryz.zeroCells113.size = 513 := by kernel_rfl

section
variable {P : Program} {ops : Array Oper}
theorem wpStill_load_mid {w : World} {op : Oper} {rest : List Oper} {a : Act} {Q : Act → Prop} (hgd : op.guard = none) (ty : TypeId) (x : Operand) (ho : op.op = .load ty x)
    (b o : Nat) (hx : a.eval x = .pointer (some ⟨b, o, none⟩)) (cs : List Value) (d : TypeDesc) (hc : w.rangeAt b o cs)
    (hu : P.underlying ty = some d) (hd : d.isRow = true) (hi : (P.info? ty).map (·.size) = some cs.length)
    (h : wpStill P ops w Q rest (a.put op.dst (.agg cs.toArray))) : wpStill P ops w Q (op :: rest) a :=
  wpStill_step fun K hK => by
    have hw : Region.wanted op (yielded ops a.tmps) = true := by simp [Region.wanted, hgd]
    rw [if_pos hw]
    unfold Oper.still execOp
    simp only [ho, hx, Instr.loadAt, Instr.sureAddr, Sem.run_bind, Sem.run_pure, Result.andThen_ok, run_loadVar_mid w b o ty cs d hc hu hd hi]
    exact ⟨rfl, hK _ h⟩
end

theorem Lies.settled {w wr : World} {D B : Nat} {V1 V2 VK : Value} {d : Dk} {kept : Nat → Bool} (h : Lies w D B V1 V2 VK d) (ho : Only (fun k => V1.ownBlock = some k) w wr) (hv : Vec wr 512 V1 d.lasts.length ((settle kept 0 d.waits d.lasts).flatMap bv)) :
    ∃ F', DiskAt (((wr.alloc (.map #[] 0)).setCell ⟨D, 1, none⟩ (.slice none 0 0)).setCell ⟨D, 2, none⟩ (.map (some wr.heap.size))) D F' (d.settled kept) ∧
      Kept (Foot D B V1 V2 VK) F' w (((wr.alloc (.map #[] 0)).setCell ⟨D, 1, none⟩ (.slice none 0 0)).setCell ⟨D, 2, none⟩ (.map (some wr.heap.size))) := by
  have hD : ¬ V1.ownBlock = some D := fun e => (h.apart1 D e).1 rfl
  have oa : Only None' wr (wr.alloc (.map #[] 0)) := (Only.refl _ _).alloc _
  have os : Only (fun k => k = D) (wr.alloc (.map #[] 0)) (((wr.alloc (.map #[] 0)).setCell ⟨D, 1, none⟩ (.slice none 0 0)).setCell ⟨D, 2, none⟩ (.map (some wr.heap.size))) :=
    ((Only.refl (fun k => k = D) _).setCell (p := ⟨D, 1, none⟩) rfl _).setCell (p := ⟨D, 2, none⟩) rfl _
  have hc := (((h.cells.only ho hD).only oa (fun h => h)).set1 (.slice none 0 0)).set2 (.map (some wr.heap.size))
  have hs := ho.size
  have hlD := h.ltD
  have hl1 : ∀ k, V1.ownBlock = some k → k < wr.heap.size := fun k hk => Nat.lt_of_lt_of_le (h.lasts.lt hk) hs
  have hlK : ∀ k, VK.ownBlock = some k → k < wr.heap.size := fun k hk => Nat.lt_of_lt_of_le (h.keep.lt hk) hs
  refine ⟨Foot D wr.heap.size V1 (.slice none 0 0) VK, ⟨wr.heap.size, V1, .slice none 0 0, VK, Lies.join hc ⟨?_, Vec.nil _ _, ?_, ⟨.map [], ?_, NowOf.nil⟩, by omega, ?_, (fun k hk => by cases hk), ?_, Dk.settled_ok h.ok kept⟩, rfl⟩, ⟨?_, ?_⟩⟩
  · show Vec _ 512 V1 (settle kept 0 d.waits d.lasts).length _
    rw [settle_length]
    exact (hv.alloc _).only os fun g hg e => hD (e ▸ hg)
  · exact ((h.keep.only ho fun g hg e => (h.apartK g hg).2.2.1 e).alloc _).only os fun g hg e => (h.apartK g hg).1 e
  · obtain ⟨es, clock, hh, hr⟩ := World.ownsMap_made wr Tryz.prog 3 (plainElem Tryz.prog 3)
    exact ⟨es, clock, (os.block wr.heap.size (by simp) (by omega)).trans hh, hr⟩
  · intro k hk
    have := hl1 k hk
    exact ⟨(h.apart1 k hk).1, by omega⟩
  · intro k hk
    have := hlK k hk
    exact ⟨(h.apartK k hk).1, by omega, (h.apartK k hk).2.2.1, by simp [Value.ownBlock]⟩
  · refine (ho.mono fun k _ hk => .inr (.inr (.inl hk))).trans ((oa.mono fun _ _ h => h.elim).trans (os.mono fun k _ hk => .inl hk))
  · intro k hk
    rcases hk with hk | hk | hk | hk | hk
    · exact .inl (.inl hk)
    · exact .inr (by omega)
    · exact .inl (.inr (.inr (.inl hk)))
    · cases hk
    · exact .inl (.inr (.inr (.inr (.inr hk))))

set_option maxRecDepth 20000 in
theorem settle_walk {w : World} {D B : Nat} {V1 V2 VK : Value} {d : Dk} (h : Lies w D B V1 V2 VK d) (F : Nat) (cap : Array Value) (kept : Nat → Bool) (hn : d.waits.length ≤ 1000000) (hcf : ∀ args w, (callFunc F args).run Tryz.prog w = .ok (.enter F args) w)
    (hc : ∀ w1 i, Only (fun k => V1.ownBlock = some k) w w1 → i < d.waits.length → Calls Tryz.prog F (#[.int .i64 (i : Int)] ++ cap) w1 fun e w' => e = .returned (.bool (kept i)) ∧ w' = w1) :
    Calls Tryz.prog 95 #[.pointer (some ⟨D, 0, none⟩), .func (.func F) #[] cap] w fun e w' => e = .returned (.tuple #[]) ∧ ∃ F', DiskAt w' D F' (d.settled kept) ∧ Kept (Foot D B V1 V2 VK) F' w w' := by
  obtain ⟨a2, cap2, e2, _, _⟩ := h.waits.shape
  subst e2
  have c1 := h.c1
  have H := Lib.hid h
  have HN := Lib.hid hn
  have HC := Lib.hid hc
  have hmm := @run_makeMap Tryz.prog
  clear h hc hn
  go_enter Tryz.func95, Tryz.ntmps95
  go_wp2
  go_loopw [11] (fun i wr => ∃ k : Nat, k ≤ d.waits.length ∧ i = .int .i64 k ∧ Hid (Only (fun k => V1.ownBlock = some k) w wr ∧ Vec wr 512 V1 d.lasts.length ((settle kept 0 (d.waits.take k) d.lasts).flatMap bv))) (fun i wr => d.waits.length - (intOf i).toNat)
  case atStart => exact ⟨0, by omega, rfl, Lib.hid ⟨Only.refl _ _, H.out.lasts⟩⟩
  case round =>
    obtain ⟨k, hk, rfl, HH⟩ := hrel
    by_cases hlt : k < d.waits.length
    · have i0 : (0 : Int) ≤ (k : Int) := by omega
      have i1 : (k : Int) < (d.waits.length : Int) := by omega
      have hw := H.out.waits.only HH.out.1 (fun g hg e => (H.out.apart2 g hg).2.2 e)
      obtain ⟨g2, o2, e2, hg2, _, _⟩ := hw.form' (by omega)
      subst e2
      have hr := Lib.hid (hw.elem (fun y hy => by rw [wv_length, (H.out.ok.waits y hy).2]) hlt)
      obtain ⟨p, hp⟩ : ∃ p, p = d.waits[k] := ⟨_, rfl⟩
      rw [← hp] at hr
      have HP := Lib.hid hp
      have hp2 := Lib.hid (H.out.ok.waits p (by rw [hp]; exact List.getElem_mem hlt))
      clear hw hp
      go_wp2_with (first | (refine wpList_load_mid rfl 113 _ rfl g2 (o2 + k * 513) rfl (wv p) _ hr.out Tryz.underlying113 rfl (size102 p hp2.out.2) ?_) | (refine wpList_store_mid rfl 113 _ _ rfl wr.heap.size 0 (wv p).toArray rfl rfl (there_new _ _ _ _ (zsize102'.trans (hlen p hp2.out.2))) (size102a p hp2.out.2) (all_oneCell_toArray (wv_one p)) ?_))
      obtain ⟨w3, hw3⟩ : ∃ w3, w3 = (wr.alloc (.cells Tryz.zeroCells113 113)).setCells wr.heap.size 0 (wv p) := ⟨_, rfl⟩
      rw [← hw3]
      have hth := there_new wr 113 (wv p).length Tryz.zeroCells113 (zsize102'.trans ((hlen p hp2.out.2).trans (by simp)))
      have hr3 := Lib.hid (World.rangeAt_setCells_same _ _ _ _ hth)
      have hb3 := Lib.hid (((Below.refl wr.heap.size wr).alloc (Nat.le_refl _) (.cells Tryz.zeroCells113 113)).grown (grown_setCells wr.heap.size (wv p) 0 _) (by simp) (by intro k hk; injection hk with hk; omega))
      rw [← hw3] at hr3 hb3
      have hlt3 : wr.heap.size < w3.heap.size := by rw [hw3, size_setCells]; simp
      clear hth hw3
      obtain ⟨b, hb⟩ : ∃ b, b = wr.heap.size := ⟨_, rfl⟩
      rw [← hb] at hr3 hlt3 ⊢
      refine (HC.out w3 k (HH.out.1.trans (Only.of_below hb3.out _)) hlt).mono ?_
      rintro r w4 ⟨rfl, rfl⟩
      have HV := Lib.hid (HH.out.2.kept hb3.out.size fun g hg => hb3.out.block g (HH.out.2.lt hg))
      have HO := Lib.hid (HH.out.1.trans (Only.of_below hb3.out (fun k => V1.ownBlock = some k)))
      have HB := Lib.hid hb
      clear hb
      cases hkk : kept k
      · have HK := Lib.hid hkk
        clear hkk
        go_wp2_with fail
        go_roundw
        case rel =>
          have := HN.out
          refine ⟨k + 1, by omega, next_int (by omega), Lib.hid ⟨HO.out, ?_⟩⟩
          rw [take_snoc' hlt, settle_snoc, Nat.zero_add, List.length_take_of_le (by omega), HK.out, if_neg (by decide)]
          exact HV.out
        case measure => exact meas hlt HN.out
      · have HK := Lib.hid hkk
        clear hkk
        have hpl := hp2.out.1
        obtain ⟨g1, o1, cap1, e1, _, _, hg1, _, _⟩ := HV.out.at_ (by omega)
        have j0 : w4.cell? ⟨b, 0, none⟩ = some (.int .i64 (p.1 : Int)) := hr3.out 0 (.int .i64 (p.1 : Int)) rfl
        have j1 : Hid (w4.rangeAt b 1 (bv p.2)) := fun i u hu => by
          have := hr3.out (i + 1) u (by simpa [wv] using hu)
          rwa [show 0 + (i + 1) = 1 + i by omega] at this
        subst e1
        have hth := Lib.hid (HV.out.there (o := p.1 * 512) (k := 512) (by omega))
        have c0 : w4.cell? ⟨D, 0, none⟩ = some (.slice (some ⟨g1, o1, none⟩) d.lasts.length cap1) := (HO.out.cell H.out.ltD (fun e => (H.out.apart1 _ e).1 rfl) 0).trans H.out.c0
        have i2 : (p.1 : Int) < (d.lasts.length : Int) := by omega
        have i3 : (0 : Int) ≤ (p.1 : Int) := by omega
        go_wp2_with fail
        have m3 : (bv p.2).toArray.size = 512 := by simp [bv_length, hp2.out.2]
        refine wp_region_still_tail 9 (by kernel_rfl) (by kernel_rfl) ?_
        simp only [List.take_succ_cons, List.take_zero, List.drop_succ_cons, List.drop_zero]
        still_step
        still_step
        still_step
        still_step
        still_step
        still_step
        still_step
        refine wpStill_load_mid rfl 110 _ rfl b 1 rfl (bv p.2) _ j1.out Tryz.underlying110 rfl (size100 p.2 hp2.out.2) ?_
        still_step
        refine wpStill_nil ?_
        refine wpList_store_mid rfl 110 _ _ rfl g1 (o1 + p.1 * 512) (bv p.2).toArray rfl rfl (m3.symm ▸ hth.out) (size100a p.2 hp2.out.2) (all_oneCell_toArray (bv_one p.2)) ?_
        go_wp2_with fail
        go_roundw
        case rel =>
          have := HN.out
          refine ⟨k + 1, by omega, next_int (by omega), Lib.hid ⟨(HO.out.drew).setCells rfl _ _, ?_⟩⟩
          rw [take_snoc' hlt, settle_snoc, Nat.zero_add, List.length_take_of_le (by omega), HK.out, if_pos rfl, ← HP.out]
          refine HV.out.drew.setElem (fun y hy => by rw [bv_length]; exact settle_ok kept _ _ _ (fun q hq => H.out.ok.waits q (List.mem_of_mem_take hq)) H.out.ok.lasts y hy) ?_ (settle_length kept _ _ _).symm p.2 (by rw [bv_length, hp2.out.2])
          rw [settle_length]; exact hpl
        case measure => exact meas hlt HN.out
    · obtain rfl : k = d.waits.length := by omega
      have c1' := (HH.out.1.cell H.out.ltD (fun e => (H.out.apart1 _ e).1 rfl) 1).trans H.out.c1
      have c2' := (HH.out.1.cell H.out.ltD (fun e => (H.out.apart1 _ e).1 rfl) 2).trans H.out.c2
      have thaw : ∀ i, wr.frozen? ⟨D, i, none⟩ = false := fun i => (HH.out.1.frozen H.out.ltD (fun e => (H.out.apart1 _ e).1 rfl) i).trans (H.out.thaw i)
      have hlD : D < wr.heap.size := Nat.lt_of_lt_of_le H.out.ltD HH.out.1.size
      have HV := HH.out.2
      rw [List.take_length] at HV
      have HS := H.out.settled HH.out.1 HV
      rw [World.setCell_alloc_past _ _ _ _ hlD, World.setCell_alloc_past _ _ _ _ (by simpa using hlD)] at HS
      have HS := Lib.hid HS
      clear HV
      go_wp2
      go_end0
      exact ⟨rfl, HS.out⟩
end Go.Proofs.YteoeaojebklfjaaGreatDoor
namespace Go.Proofs.YteoeaojebklfjaaGreatDoor
open Go.RowKit Go.Maps
set_option linter.unusedVariables false

theorem enter61 (args : Array Value) (w : World) : (callFunc 96 args).run Tryz.prog w = .ok (.enter 96 args) w := by go_simp
theorem enter77 (args : Array Value) (w : World) : (callFunc 97 args).run Tryz.prog w = .ok (.enter 97 args) w := by go_simp

theorem flush1_any (i : Int) (w : World) : Calls Tryz.prog 96 #[.int .i64 i] w fun e w' => e = .returned (.bool true) ∧ w' = w := by
  go_enter Tryz.func96, Tryz.ntmps96
  go_wp2
  go_ret
  exact ⟨rfl, rfl⟩

theorem crash1_any {w : World} {bx : Nat} {v : Value} {keep : List Bool} (hbx : w.cell? ⟨bx, 0, none⟩ = some v) (hr : Rd w 1 v keep.length (bo keep)) (i : Nat) :
    Calls Tryz.prog 97 #[.int .i64 (i : Int), .pointer (some ⟨bx, 0, none⟩)] w fun e w' => e = .returned (.bool (kept keep i)) ∧ w' = w := by
  by_cases hlt : i < keep.length
  · obtain ⟨g, off, cap, rfl, hg, hc⟩ := hr.at_ (by omega)
    have hk : kept keep i = keep[i] := by simp [kept, List.getD_eq_getElem?_getD, List.getElem?_eq_getElem hlt]
    have hcell : w.cell? ⟨g, off + i, none⟩ = some (.bool keep[i]) := hc i _ (by simp [bo, List.getElem?_eq_getElem hlt])
    rw [hk]
    obtain ⟨b, hb⟩ : ∃ b, b = keep[i] := ⟨_, rfl⟩
    rw [← hb] at hcell ⊢
    have i0 : (0 : Int) ≤ (i : Int) := by omega
    have i1 : (i : Int) < (keep.length : Int) := by omega
    clear hr hc hk hb
    obtain ⟨len, hl⟩ : ∃ len, len = keep.length := ⟨_, rfl⟩
    rw [← hl] at hbx i1
    clear hl hlt
    go_enter Tryz.func97, Tryz.ntmps97
    go_wp2
    go_ret
    exact ⟨rfl, rfl⟩
  · obtain ⟨a, cap, rfl⟩ := hr.shape
    have hk : kept keep i = false := by simp [kept, List.getD_eq_getElem?_getD, List.getElem?_eq_none (Nat.le_of_not_lt hlt)]
    have i1 : ¬ (i : Int) < (keep.length : Int) := by omega
    rw [hk]
    clear hr hk hlt
    obtain ⟨len, hl⟩ : ∃ len, len = keep.length := ⟨_, rfl⟩
    rw [← hl] at hbx i1
    clear hl
    go_enter Tryz.func97, Tryz.ntmps97
    go_wp2
    go_ret
    exact ⟨rfl, rfl⟩

theorem DiskAt.dead {w : World} {D : Nat} {F : Nat → Prop} {d : Dk} (h : DiskAt w D F d) : DiskAt (w.setCell ⟨D, 4, none⟩ (.bool true)) D F { d with dead := true } ∧ Only (fun k => k = D) w (w.setCell ⟨D, 4, none⟩ (.bool true)) := by
  obtain ⟨B, V1, V2, VK, h, rfl⟩ := h
  have ho : Only (fun k => k = D) w (w.setCell ⟨D, 4, none⟩ (.bool true)) := (Only.refl (fun k => k = D) w).setCell (p := ⟨D, 4, none⟩) rfl _
  exact ⟨⟨B, V1, V2, VK, Lies.join (h.cells.set4 _) ((h.rest.only ho).of rfl rfl rfl), rfl⟩, ho⟩

theorem DiskAt.cell4 {w : World} {D : Nat} {F : Nat → Prop} {d : Dk} (h : DiskAt w D F d) : w.cell? ⟨D, 4, none⟩ = some (.bool d.dead) ∧ ∀ i, w.frozen? ⟨D, i, none⟩ = false := by
  obtain ⟨B, V1, V2, VK, h, rfl⟩ := h
  exact ⟨h.c4, h.thaw⟩

theorem bo_ne {l : List Bool} (h : bo l ≠ []) : l ≠ [] := fun e => h (by rw [e]; rfl)

theorem crash_any {w : World} {D B : Nat} {V1 V2 VK v : Value} {d : Dk} {keep : List Bool} (h : Lies w D B V1 V2 VK d) (hr : Rd w 1 v keep.length (bo keep)) (hap : bo keep ≠ [] → ∀ g, v.ownBlock = some g → V1.ownBlock ≠ some g) (hn : d.waits.length ≤ 1000000) :
    Calls Tryz.prog 70 #[.pointer (some ⟨D, 0, none⟩), v] w fun e w' => e = .returned (.tuple #[]) ∧ ∃ F', DiskAt w' D F' (d.crashed keep) ∧ Kept (Foot D B V1 V2 VK) F' w w' := by
  obtain ⟨va, kl, vc, rfl⟩ := hr.shape'
  have oa : Only None' w (w.alloc (.cells #[.slice va kl vc] 43)) := (Only.refl _ _).alloc _
  have hl := h.kept oa.size (fun k hk => oa.block k (h.lt hk) fun e => e)
  have hs := settle_walk hl 97 #[.pointer (some ⟨w.heap.size, 0, none⟩)] (kept keep) hn enter77 (fun w1 i ho hi => crash1_any (v := .slice va kl vc) (by
    have hV : ¬ V1.ownBlock = some w.heap.size := fun e => by have := h.lasts.lt e; omega
    rw [ho.cell (by simp) hV, World.cell?_alloc_new]; rfl) ((hr.only oa fun _ _ _ _ e => e).only ho fun hx g hg _ => hap hx g hg) i)
  have HS := Lib.hid hs
  have OA := Lib.hid oa
  clear hs hl h hr hap oa
  go_enter Tryz.func70, Tryz.ntmps70
  go_wp2_with fail
  refine HS.out.mono ?_
  rintro r w2 ⟨rfl, F2, hD, hK⟩
  have HD := Lib.hid hD
  have HK := Lib.hid hK
  obtain ⟨c4, thaw⟩ := hD.cell4
  clear hD hK
  go_wp2
  go_end0
  obtain ⟨h1, h2⟩ := HD.out.dead
  exact ⟨rfl, F2, h1, ((Kept.new OA.out).trans HK.out).trans (Kept.only' (h2.mono fun k _ e => e ▸ HD.out.has))⟩

theorem Crash_dead {w : World} {D : Nat} {F : Nat → Prop} {d : Dk} (h : DiskAt w D F d) (hd : d.dead = true) (v : Value) :
    Calls Tryz.prog 33 #[.pointer (some ⟨D, 0, none⟩), v] w fun r w' => r = .returned (.int .i64 20) ∧ w' = w := by
  have hc := alive_any h
  rw [show d.errno = 20 by unfold Dk.errno; rw [if_pos hd]] at hc
  clear h hd
  go_enter Tryz.func33, Tryz.ntmps33
  go_wp2_with fail
  refine hc.mono ?_
  rintro r w1 ⟨rfl, rfl⟩
  clear hc
  go_wp2_with fail
  go_ret
  exact ⟨rfl, rfl⟩

theorem Crash_any {w : World} {D : Nat} {F : Nat → Prop} {d : Dk} {v : Value} {keep : List Bool} (h : DiskAt w D F d) (hd : d.dead = false) (hr : Rd w 1 v keep.length (bo keep)) (hap : bo keep ≠ [] → ∀ g, v.ownBlock = some g → ¬ F g) (hn : d.waits.length ≤ 1000000) :
    Calls Tryz.prog 33 #[.pointer (some ⟨D, 0, none⟩), v] w fun r w' => r = .returned (.int .i64 0) ∧ ∃ F', DiskAt w' D F' (d.crashed keep) ∧ Kept F F' w w' := by
  have hc := alive_any h
  rw [show d.errno = 0 by unfold Dk.errno; rw [if_neg (by simp [hd])]] at hc
  obtain ⟨B, V1, V2, VK, h, rfl⟩ := h
  have hx := crash_any h hr (fun hk g hg e => hap hk g hg (.inr (.inr (.inl e)))) hn
  have HX := Lib.hid hx
  have HC := Lib.hid hc
  obtain ⟨va, kl, vc, rfl⟩ := hr.shape'
  clear h hd hx hc hr hap
  go_enter Tryz.func33, Tryz.ntmps33
  go_wp2_with fail
  refine HC.out.mono ?_
  rintro r w1 ⟨rfl, rfl⟩
  go_wp2_with fail
  refine HX.out.mono ?_
  rintro r w2 ⟨rfl, hD⟩
  have HD := Lib.hid hD
  clear hD
  go_wp2_with fail
  go_ret
  exact ⟨rfl, HD.out⟩

theorem Crash_nil (v : Value) (w : World) : Calls Tryz.prog 33 #[.pointer none, v] w fun r w' => r = .returned (.int .i64 2) ∧ w' = w := by
  have hc := alive_nil w
  go_enter Tryz.func33, Tryz.ntmps33
  go_wp2_with fail
  refine hc.mono ?_
  rintro r w1 ⟨rfl, rfl⟩
  clear hc
  go_wp2_with fail
  go_ret
  exact ⟨rfl, rfl⟩

theorem flush_nil (w : World) : Calls Tryz.prog 66 #[.pointer none] w fun r w' => r = .returned (.int .i64 2) ∧ w' = w := by
  have hc := alive_nil w
  go_enter Tryz.func66, Tryz.ntmps66
  go_wp2_with fail
  refine hc.mono ?_
  rintro r w1 ⟨rfl, rfl⟩
  clear hc
  go_wp2_with fail
  go_ret
  exact ⟨rfl, rfl⟩

theorem flush_dead {w : World} {D : Nat} {F : Nat → Prop} {d : Dk} (h : DiskAt w D F d) (hd : d.dead = true) :
    Calls Tryz.prog 66 #[.pointer (some ⟨D, 0, none⟩)] w fun r w' => r = .returned (.int .i64 20) ∧ w' = w := by
  have hc := alive_any h
  rw [show d.errno = 20 by unfold Dk.errno; rw [if_pos hd]] at hc
  clear h hd
  go_enter Tryz.func66, Tryz.ntmps66
  go_wp2_with fail
  refine hc.mono ?_
  rintro r w1 ⟨rfl, rfl⟩
  clear hc
  go_wp2_with fail
  go_ret
  exact ⟨rfl, rfl⟩

theorem flush_any {w : World} {D : Nat} {F : Nat → Prop} {d : Dk} {n : Nat} (h : DiskAt w D F d) (hd : d.dead = false) (hf : d.Few n) (hn : n ≤ 1000000) :
    Calls Tryz.prog 66 #[.pointer (some ⟨D, 0, none⟩)] w fun r w' => r = .returned (.int .i64 (if d.due then 20 else 0)) ∧ ∃ F', DiskAt w' D F' d.flush ∧ Kept F F' w w' := by
  have hc := alive_any h
  rw [show d.errno = 0 by unfold Dk.errno; rw [if_neg (by simp [hd])]] at hc
  have HC := Lib.hid hc
  have h0 := h
  have H0 := Lib.hid h
  unfold Dk.flush
  have hw := hf.waits
  cases hdue : d.due
  · have hb := burns_not h hdue (by have := hf.left0; omega) hf.left hf.done0 (by have := hf.done; omega)
    have HB := Lib.hid hb
    have HN := Lib.hid (Nat.le_trans hw hn)
    clear h h0 hc hb hd hdue hf hn hw
    go_enter Tryz.func66, Tryz.ntmps66
    go_wp2_with fail
    refine HC.out.mono ?_
    rintro r w1 ⟨rfl, rfl⟩
    go_wp2_with fail
    refine HB.out.mono ?_
    rintro r w2 ⟨rfl, hD, hO⟩
    obtain ⟨B, V1, V2, VK, hL, rfl⟩ := hD
    have HL := Lib.hid (settle_walk hL 96 #[] (fun _ => true) HN.out enter61 (fun w1 i ho hi => flush1_any _ _))
    have HO := Lib.hid hO
    clear hL hO
    go_wp2_with fail
    refine HL.out.mono ?_
    rintro r w3 ⟨rfl, F', hD, hK⟩
    have HD := Lib.hid hD
    have HK := Lib.hid hK
    clear hD hK
    go_wp2_with fail
    go_ret
    exact ⟨rfl, F', HD.out, (Kept.only' (HO.out.mono fun k _ e => e ▸ H0.out.has)).trans HK.out⟩
  · have hb := burns_due h hdue
    obtain ⟨B, V1, V2, VK, hL, rfl⟩ := h
    have hX := crash_any hL hL.keep.rd (fun _ g hg => (hL.apartK g hg).2.2.1) (Nat.le_trans hw hn)
    have HX := Lib.hid hX
    have HB := Lib.hid hb
    obtain ⟨va, kl, vc, e⟩ := hL.keep.rd.shape'
    subst e
    have c7 := hL.c7
    clear h0 hc hb hd hdue hf hn hw hL hX
    go_enter Tryz.func66, Tryz.ntmps66
    go_wp2_with fail
    refine HC.out.mono ?_
    rintro r w1 ⟨rfl, rfl⟩
    go_wp2_with fail
    refine HB.out.mono ?_
    rintro r w1 ⟨rfl, rfl⟩
    go_wp2_with fail
    refine HX.out.mono ?_
    rintro r w3 ⟨rfl, hD⟩
    have HD := Lib.hid hD
    clear hD
    go_wp2_with fail
    go_ret
    exact ⟨rfl, HD.out⟩
end Go.Proofs.YteoeaojebklfjaaGreatDoor
namespace Go.Proofs.YteoeaojebklfjaaGreatDoor
open Go.RowKit Go.Maps
set_option linter.unusedVariables false

theorem fill_one (place : Nat → Option (Nat × Nat)) (cells : Array Value) (i : Nat) (v : Value) (rest : List (Nat × Value)) (off size : Nat) (hp : place i = some (off, size)) (h1 : v.cells.size = size) (h2 : off + size ≤ cells.size) :
    Instr.fill place cells ((i, v) :: rest) = Instr.fill place ((v.cells.toList.zipIdx 0).foldl (fun cs (x : Value × Nat) => cs.setIfInBounds (off + x.2) x.1) cells) rest := by
  rw [Instr.fill]
  simp only [hp]
  rw [if_neg (by simp [h1]; omega), ← Array.foldl_toList, Array.toList_zipIdx]

theorem fill_two (z : Array Value) (u : Value) (s : List Value) (n : Nat) (hu : u.cells = #[u]) (hs : s.length = n) (hz : z.size = n + 1) :
    Instr.fill ((([(0, 1), (1, n)] : List (Nat × Nat)).toArray)[·]?) z [(0, u), (1, .agg s.toArray)] = some (u :: s).toArray := by
  rw [fill_one _ _ _ _ _ 0 1 rfl (by rw [hu]; rfl) (by omega)]
  have g0 := Go.Great.foldl_set 0 u.cells.toList 0 z
  generalize (u.cells.toList.zipIdx 0).foldl (fun cs (x : Value × Nat) => cs.setIfInBounds (0 + x.2) x.1) z = z1 at g0 ⊢
  have hss : (Value.agg s.toArray).cells.toList = s := by simp [Value.cells]
  rw [fill_one _ _ _ _ _ 1 n rfl (by simp [Value.cells, hs]) (by rw [g0.1]; omega), hss]
  have g1 := Go.Great.foldl_set 1 s 0 z1
  generalize (s.zipIdx 0).foldl (fun cs (x : Value × Nat) => cs.setIfInBounds (1 + x.2) x.1) z1 = z2 at g1 ⊢
  rw [Instr.fill]
  congr 1
  apply Array.ext_getElem?
  intro k
  rw [g1.2 k, g0.2 k, g0.1, hu, hz, hs]
  rcases k with _ | k
  · simp
  · by_cases hk : k < n
    · rw [if_pos (by omega)]
      simp
    · rw [if_neg (by omega), if_neg (by simp)]
      rw [Array.getElem?_eq_none (by omega), Array.getElem?_eq_none (by simp; omega)]

theorem places102 : ∃ fs, Tryz.prog.underlying 113 = some (.struct fs) ∧ fs.toList.mapM (fun f => (Tryz.prog.info? f.type).map fun i => (f.offset, i.size)) = some [(0, 1), (1, 512)] := ⟨_, Tryz.underlying113, by kernel_rfl⟩

theorem built102 (i : Int) (s : Sec) (h : s.length = 512) : Tryz.prog.built 113 [(0, .int .i64 i), (1, .agg (bv s).toArray)] = some (Value.int .i64 i :: bv s).toArray := by
  obtain ⟨fs, h1, h2⟩ := places102
  unfold Program.built
  simp only [info102, h1, t102_zero, h2]
  exact fill_two _ _ _ 512 rfl (by rw [bv_length, h]) (by rw [show (Value.agg Tryz.zeroCells113).cells = Tryz.zeroCells113 from rfl, zsize102'])

theorem filled93 (cs : List Value) (h : cs.length = 513) : Instr.fill (fun i => some (i * Tryz.t113.size, Tryz.t113.size)) ((Array.range (1 * Tryz.t113.size)).map ((Value.agg Tryz.zeroCells113).cells[· % (Value.agg Tryz.zeroCells113).cells.size]!)) [(0, .agg cs.toArray)] = some cs.toArray := by
  rw [t102_size]
  have := Go.Great.fill_whole (s := 513) (by decide) [.agg cs.toArray] ((Array.range (1 * 513)).map ((Value.agg Tryz.zeroCells113).cells[· % (Value.agg Tryz.zeroCells113).cells.size]!)) (by intro v hv; rw [List.mem_singleton.1 hv]; simpa [Value.cells] using h) (by simp)
  simpa [Value.cells] using this

section
variable {P : Program} {ops : Array Oper}
theorem step_plain {o : Oper} {a : Act} {w : World} {K : Act → World → Prop} {Q : Exit → Act → World → Prop} {E : Prop} (hgd : o.guard = none) (h : Oper.wp P o a w K Q) : if Region.wanted o (yielded ops a.tmps) = true then Oper.wp P o a w K Q else E := by
  have hw : Region.wanted o (yielded ops a.tmps) = true := by simp [Region.wanted, hgd]
  rw [if_pos hw]; exact h
end

end Go.Proofs.YteoeaojebklfjaaGreatDoor
