/- Read; Reopen. -/
import Derived.Test.YteoeaojebklfjaaD8
namespace Go.Proofs.Yteoeaojebklfjaa
open Go.RowKit Go.Maps
set_option linter.unusedVariables false

theorem read_nil (i : Int) (w : World) : Calls Try.prog 22 #[.pointer none, .int .i64 i] w fun r w' => r = .returned (.tuple #[.slice none 0 0, .int .i64 2]) ∧ w' = w := by
  have hc := alive_nil w
  go_enter Try.func22, Try.ntmps22
  go_wp2_with fail
  refine hc.mono ?_
  rintro r w1 ⟨rfl, rfl⟩
  clear hc
  go_wp2_with fail
  go_ret2
  exact ⟨rfl, rfl⟩

theorem read_dead {w : World} {D : Nat} {F : Nat → Prop} {d : Dk} (h : DiskAt w D F d) (hd : d.dead = true) (i : Int) :
    Calls Try.prog 22 #[.pointer (some ⟨D, 0, none⟩), .int .i64 i] w fun r w' => r = .returned (.tuple #[.slice none 0 0, .int .i64 20]) ∧ w' = w := by
  have hc := alive_any h
  rw [show d.errno = 20 by unfold Dk.errno; rw [if_pos hd]] at hc
  clear h hd
  go_enter Try.func22, Try.ntmps22
  go_wp2_with fail
  refine hc.mono ?_
  rintro r w1 ⟨rfl, rfl⟩
  clear hc
  go_wp2_with fail
  go_ret2
  exact ⟨rfl, rfl⟩

theorem read_bad {w : World} {D : Nat} {F : Nat → Prop} {d : Dk} (h : DiskAt w D F d) (hd : d.dead = false) (i : Int) (hb : i < 0 ∨ (d.lasts.length : Int) ≤ i) :
    Calls Try.prog 22 #[.pointer (some ⟨D, 0, none⟩), .int .i64 i] w fun r w' => r = .returned (.tuple #[.slice none 0 0, .int .i64 1]) ∧ w' = w := by
  have hc := alive_any h
  rw [show d.errno = 0 by unfold Dk.errno; rw [if_neg (by simp [hd])]] at hc
  obtain ⟨B, V1, V2, VK, h, rfl⟩ := h
  obtain ⟨l1, m1, e1, _, _⟩ := h.lasts.shape
  subst e1
  have c0 := h.c0
  have HC := Lib.hid hc
  have HB := Lib.hid hb
  clear h hd hc hb
  obtain ⟨len, hlen⟩ : ∃ len, len = d.lasts.length := ⟨_, rfl⟩
  rw [← hlen] at HB c0
  clear hlen
  by_cases h1 : i < 0
  · go_enter Try.func22, Try.ntmps22
    go_wp2_with fail
    refine HC.out.mono ?_
    rintro r w' ⟨rfl, e⟩
    obtain rfl := e.symm
    go_wp2_with fail
    go_ret2
    exact ⟨rfl, rfl⟩
  · have h2 : (len : Int) ≤ i := by have := HB.out; omega
    go_enter Try.func22, Try.ntmps22
    go_wp2_with fail
    refine HC.out.mono ?_
    rintro r w' ⟨rfl, e⟩
    obtain rfl := e.symm
    go_wp2_with fail
    go_ret2
    exact ⟨rfl, rfl⟩

theorem zsize100' : Try.zeroCells100.size = 512 := by kernel_rfl
theorem zero3 (w : World) : (zeroValue 3).run Try.prog w = .ok (.int .i64 0) w := by go_simp

/-- a fresh row of a sector -/
theorem sector_row (w : World) (s : Sec) (h : s.length = 512) : Vec ((w.alloc (.cells Try.zeroCells100 100)).setCells w.heap.size 0 (bv s)) 1 (.slice (some ⟨w.heap.size, 0, none⟩) 512 512) 512 (bv s) := by
  have hth := there_new w 100 512 Try.zeroCells100 zsize100'
  have hl : (bv s).length = 512 := by rw [bv_length, h]
  refine ⟨by rw [hl], .inr ⟨w.heap.size, 0, 512, rfl, Nat.le_refl _, by unfold maxLen; decide, by rw [size_setCells]; simp, fun j u hu => ?_, fun j hj => ?_⟩⟩
  · exact World.rangeAt_setCells_same _ _ _ _ (by rw [hl]; exact hth) j u hu
  · exact World.there_setCells hth w.heap.size 0 (bv s) j (by omega)

set_option maxRecDepth 20000 in
set_option maxHeartbeats 2000000 in
theorem read_lies {w : World} {D B : Nat} {V1 V2 VK : Value} {d : Dk} {i : Nat} (h : Lies w D B V1 V2 VK d) (hd : d.dead = false) (hi : i < d.lasts.length) (hn : d.waits.length ≤ 1000000) :
    Calls Try.prog 22 #[.pointer (some ⟨D, 0, none⟩), .int .i64 (i : Int)] w fun r w' => ∃ v, r = .returned (.tuple #[v, .int .i64 0]) ∧ Vec w' 1 v 512 (bv (d.read i)) ∧ (∀ k, v.ownBlock = some k → w.heap.size ≤ k) ∧ Only None' w w' := by
  have hc := alive_any ⟨B, V1, V2, VK, h, rfl⟩
  rw [show d.errno = 0 by unfold Dk.errno; rw [if_neg (by simp [hd])]] at hc
  obtain ⟨M, hM, hNow⟩ := h.now
  obtain ⟨g1, o1, m1, e1, _, _, hg1, _, _⟩ := h.lasts.at_ (by omega)
  subst e1
  have hel := h.lasts.elem (fun y hy => by rw [bv_length, h.ok.lasts y hy]) hi
  have c0 := h.c0
  have c1 := h.c1
  have c2 := h.c2
  have i0 : (0 : Int) ≤ (i : Int) := by omega
  have i1 : (i : Int) < (d.lasts.length : Int) := by omega
  have i2 : ¬ (i : Int) < 0 := by omega
  have i3 : ¬ (d.lasts.length : Int) ≤ (i : Int) := by omega
  have HL := Lib.hid (h.ok.lasts _ (List.getElem_mem hi))
  obtain ⟨s, hs⟩ : ∃ s, s = d.lasts[i] := ⟨_, rfl⟩
  rw [← hs] at hel HL
  have HR := Lib.hid (Dk.read_length h.ok hi)
  have HEL := Lib.hid hel
  have H := Lib.hid h
  have HC := Lib.hid hc
  have HM := Lib.hid hM
  have HI := Lib.hid (And.intro hi h.ok.many)
  have hhas := hNow.has i
  have hltD := h.ltD
  obtain ⟨w3, hw3⟩ : ∃ w3, w3 = (w.alloc (.cells Try.zeroCells100 100)).setCells w.heap.size 0 (bv s) := ⟨_, rfl⟩
  have hb3 : Only None' w w3 := by
    have := ((Below.refl w.heap.size w).alloc (Nat.le_refl _) (.cells Try.zeroCells100 100)).grown (grown_setCells w.heap.size (bv s) 0 _) (by simp) (by intro k hk; injection hk with hk; omega)
    rw [← hw3] at this
    exact Only.of_below this _
  have hv3 := sector_row w s HL.out
  rw [← hw3] at hv3
  have hs3 : w3.heap.size = w.heap.size + 1 := by rw [hw3, size_setCells]; simp
  have c0' := (hb3.cell hltD (fun e => e) 0).trans c0
  have c1' := (hb3.cell hltD (fun e => e) 1).trans c1
  have c2' := (hb3.cell hltD (fun e => e) 2).trans c2
  have HB3 := Lib.hid hb3
  have HV3 := Lib.hid hv3
  have H3 := Lib.hid (H.out.kept hb3.size (fun k hk => hb3.block k (H.out.lt hk) fun e => e))
  obtain ⟨M3, hM3, hN3⟩ := H3.out.now
  have HM3 := Lib.hid hM3
  have hh3 := Lib.hid (hN3.has i)
  have hz3 := Lib.hid (hN3.at_ i)
  have e3 := hw3.symm
  have HW3 := Lib.hid hs3
  clear h hc hM hNow hn hd hel hhas hw3 hb3 hv3 hM3 hN3 hs3
  cases hk : lastIx d.waits i with
  | none =>
    have HX : Hid (d.read i = s) := by show d.read i = s; unfold Dk.read; rw [hk, hs]; simp [List.getD_eq_getElem?_getD, List.getElem?_eq_getElem hi]
    have hh : Hid (has M3 (.int .i64 (i : Int)) = false) := by show _ = _; rw [hh3.out, hk]; rfl
    clear hi hs hk hh3 hz3
    go_enter Try.func22, Try.ntmps22
    go_wp2_with fail
    refine HC.out.mono ?_
    rintro r w' ⟨rfl, e⟩
    obtain rfl := e.symm
    go_wp2_with (first | (refine wpList_load_mid rfl 100 _ rfl g1 (o1 + i * 512) rfl (bv s) _ HEL.out Try.underlying100 rfl (size100 s HL.out) ?_) | (refine wpList_store_mid rfl 100 _ _ rfl w.heap.size 0 (bv s).toArray rfl rfl (there_new _ _ _ _ (zsize100'.trans (by simp [bv_length, HL.out]))) (size100a s HL.out) (all_oneCell_toArray (bv_one s)) ?_) | (at_lookup; refine wpList_lookup_own_ok_int _ rfl _ _ 92 rfl 3 3 .i64 keyed3 under92 Try.underlying3 (zero3 _) B _ M3 rfl HM3.out (.int .i64 (i : Int)) (.int .i64 (i : Int)) rfl (keyOf_int_mk Try.underlying3 (wf64 (by have := HI.out; omega))) ?_; intro c hat hwc; rw [hh.out]; clear hat hwc))
    refine (clone_bytes HV3.out (bv_one s) (by decide)).mono ?_
    rintro r w4 ⟨v', rfl, hC⟩
    have HCl := Lib.hid hC
    clear hC
    go_wp2_with fail
    go_ret2
    rw [HX.out]
    refine ⟨v', rfl, HCl.out.vec, fun k hk => ?_, HB3.out.trans HCl.out.only⟩
    have := HCl.out.fresh k hk
    have := HB3.out.size
    omega
  | some k =>
    obtain ⟨hk1, hk2⟩ := lastIx_lt hk
    obtain ⟨p, hp⟩ : ∃ p, p = d.waits[k] := ⟨_, rfl⟩
    have hp512 := Lib.hid (H.out.ok.waits d.waits[k] (List.getElem_mem hk1)).2
    have HX : Hid (d.read i = p.2) := by show d.read i = p.2; unfold Dk.read; rw [hk, hp]; simp [List.getD_eq_getElem?_getD, List.getElem?_eq_getElem hk1]
    have hh : Hid (has M3 (.int .i64 (i : Int)) = true) := by show _ = _; rw [hh3.out, hk]; rfl
    have hz : Hid (∀ z, M3.atKey (.int .i64 (i : Int)) z = .lit (.int .i64 (k : Int))) := fun z => hz3.out k z hk
    obtain ⟨g2, o2, m2, e2, _, _, hg2, _, _⟩ := H3.out.waits.at_ (by omega)
    subst e2
    have hel2 := H3.out.waits.elem (fun y hy => by rw [wv_length, (H3.out.ok.waits y hy).2]) hk1
    rw [← hp] at hel2 hp512
    have j1 : Hid (w3.rangeAt g2 (o2 + k * 513 + 1) (bv p.2)) := fun j u hu => by
      have := hel2 (j + 1) u (by simpa [wv] using hu)
      rwa [show o2 + k * 513 + (j + 1) = o2 + k * 513 + 1 + j by omega] at this
    have k0 : (0 : Int) ≤ (k : Int) := by omega
    have k1 : (k : Int) < (d.waits.length : Int) := by omega
    obtain ⟨q, hq⟩ : ∃ q, q = p.2 := ⟨_, rfl⟩
    rw [← hq] at HX j1 hp512
    have hth : w3.there w.heap.size 0 512 := by
      have := HV3.out.there (o := 0) (k := 512) (by decide)
      simpa using this
    obtain ⟨w4, hw4⟩ : ∃ w4, w4 = w3.setCells w.heap.size 0 (bv q) := ⟨_, rfl⟩
    have ho4 : Only (fun k => k = w.heap.size) w3 w4 := by rw [hw4]; exact (Only.refl (fun k => k = w.heap.size) w3).setCells rfl 0 (bv q)
    have hv4 : Vec w4 1 (.slice (some ⟨w.heap.size, 0, none⟩) 512 512) 512 (bv q) := by
      have h1 := HV3.out.put (o := 0) (vs := bv q) (by rw [bv_length, hp512.out]; decide)
      rw [Nat.add_zero, ← hw4, Nat.zero_add, bv_length, hp512.out, List.take_zero, List.nil_append, List.drop_eq_nil_of_le (by rw [bv_length, HL.out]; exact Nat.le_refl _), List.append_nil] at h1
      exact h1
    have e4 := hw4.symm
    have HO4 := Lib.hid ho4
    have HV4 := Lib.hid hv4
    have HT := Lib.hid hth
    clear hi hs hk hh3 hz3 hel2 hp hq ho4 hv4 hw4 hk1 hk2 hth
    go_enter Try.func22, Try.ntmps22
    go_wp2_with fail
    refine HC.out.mono ?_
    rintro r w' ⟨rfl, e⟩
    obtain rfl := e.symm
    go_wp2_with (first | (refine wpList_load_mid rfl 100 _ rfl g1 (o1 + i * 512) rfl (bv s) _ HEL.out Try.underlying100 rfl (size100 s HL.out) ?_) | (refine wpList_store_mid rfl 100 _ _ rfl w.heap.size 0 (bv s).toArray rfl rfl (there_new _ _ _ _ (zsize100'.trans (by simp [bv_length, HL.out]))) (size100a s HL.out) (all_oneCell_toArray (bv_one s)) ?_) | (at_lookup; refine wpList_lookup_own_ok_int _ rfl _ _ 92 rfl 3 3 .i64 keyed3 under92 Try.underlying3 (zero3 _) B _ M3 rfl HM3.out (.int .i64 (i : Int)) (.int .i64 (i : Int)) rfl (keyOf_int_mk Try.underlying3 (wf64 (by have := HI.out; omega))) ?_; intro c hat hwc; rw [hh.out]; obtain rfl : c = (k : Int) := (by rw [hz.out] at hat; injection hat with hat; injection hat with _ hat; exact hat.symm); clear hat hwc) | (refine wpList_load_mid rfl 100 _ rfl g2 (o2 + k * 513 + 1) rfl (bv q) _ j1.out Try.underlying100 rfl (size100 q hp512.out) ?_) | (refine wpList_store_mid rfl 100 _ _ rfl w.heap.size 0 (bv q).toArray rfl rfl ((show 512 = (bv q).toArray.size by simp [bv_length, hp512.out]) ▸ HT.out) (size100a q hp512.out) (all_oneCell_toArray (bv_one q)) ?_))
    refine (clone_bytes HV4.out (bv_one q) (by decide)).mono ?_
    rintro r w5 ⟨v', rfl, hC⟩
    have HCl := Lib.hid hC
    clear hC
    go_wp2_with fail
    go_ret2
    rw [HX.out]
    have o4 : Only None' w w4 := HB3.out.trans2 HO4.out fun k hk e => by omega
    refine ⟨v', rfl, HCl.out.vec, fun k hk => ?_, o4.trans HCl.out.only⟩
    have := HCl.out.fresh k hk
    have := o4.size
    omega

theorem read_any {w : World} {D : Nat} {F : Nat → Prop} {d : Dk} {i : Nat} (h : DiskAt w D F d) (hd : d.dead = false) (hi : i < d.lasts.length) (hn : d.waits.length ≤ 1000000) :
    Calls Try.prog 22 #[.pointer (some ⟨D, 0, none⟩), .int .i64 (i : Int)] w fun r w' => ∃ v, r = .returned (.tuple #[v, .int .i64 0]) ∧ Vec w' 1 v 512 (bv (d.read i)) ∧ (∀ k, v.ownBlock = some k → w.heap.size ≤ k) ∧ Only None' w w' := by
  obtain ⟨B, V1, V2, VK, h, rfl⟩ := h
  exact read_lies h hd hi hn

theorem reopen_nil (w : World) : Calls Try.prog 21 #[.pointer none] w fun r w' => r = .returned (.tuple #[.pointer none, .int .i64 2]) ∧ w' = w := by
  go_enter Try.func21, Try.ntmps21
  go_wp2_with fail
  go_ret2
  exact ⟨rfl, rfl⟩

theorem reopen_live {w : World} {D : Nat} {F : Nat → Prop} {d : Dk} (h : DiskAt w D F d) (hd : d.dead = false) : Calls Try.prog 21 #[.pointer (some ⟨D, 0, none⟩)] w fun r w' => r = .returned (.tuple #[.pointer none, .int .i64 50]) ∧ w' = w := by
  have c4 := h.cell4.1
  rw [hd] at c4
  clear h hd
  go_enter Try.func21, Try.ntmps21
  go_wp2_with fail
  go_ret2
  exact ⟨rfl, rfl⟩

theorem lasts_one {d : Dk} : ∀ u ∈ d.lasts.flatMap bv, u.oneCell' = true := by
  intro u hu
  obtain ⟨s, _, h⟩ := List.mem_flatMap.1 hu
  exact bv_one s u h
theorem waits_one {d : Dk} : ∀ u ∈ d.waits.flatMap wv, u.oneCell' = true := by
  intro u hu
  obtain ⟨s, _, h⟩ := List.mem_flatMap.1 hu
  exact wv_one s u h

theorem reopen_any {w : World} {D : Nat} {F : Nat → Prop} {d : Dk} (h : DiskAt w D F d) (hd : d.dead = true) :
    Calls Try.prog 21 #[.pointer (some ⟨D, 0, none⟩)] w fun r w' => ∃ D' F', r = .returned (.tuple #[.pointer (some ⟨D', 0, none⟩), .int .i64 0]) ∧ DiskAt w' D' F' d.reopened ∧ (∀ k, F' k → w.heap.size ≤ k) ∧ Only None' w w' := by
  obtain ⟨B, V1, V2, VK, h, rfl⟩ := h
  have c4 := h.c4
  rw [hd] at c4
  have c0 := h.c0
  have hcl := clone_secs h.lasts lasts_one (Nat.le_trans h.ok.many (by decide))
  obtain ⟨k1, m1, n1, e1⟩ := h.lasts.rd.shape'
  subst e1
  have HCl := Lib.hid hcl
  have H := Lib.hid h
  have hmm := @run_makeMap Try.prog
  clear h hd hcl
  go_enter Try.func21, Try.ntmps21
  go_wp2_with fail
  refine HCl.out.mono ?_
  rintro r w1 ⟨v', rfl, hC⟩
  obtain ⟨k2, m2, n2, e2⟩ := hC.vec.rd.shape'
  subst e2
  have HC := Lib.hid hC
  clear hC
  go_wp2_with fail
  go_ret2
  have hd := fresh_disk (L := d.lasts) HC.out.vec H.out.ok.lasts H.out.ok.many
  refine ⟨_, _, rfl, hd, ?_, (HC.out.only.alloc _).alloc _⟩
  have := HC.out.only.size
  intro k hk
  rcases hk with rfl | rfl | hk | hk | hk
  · omega
  · omega
  · exact HC.out.fresh k hk
  · cases hk
  · cases hk
end Go.Proofs.Yteoeaojebklfjaa
