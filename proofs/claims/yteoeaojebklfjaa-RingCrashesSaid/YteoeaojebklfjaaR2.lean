/- The document's disk: Crash, Flush, Write, Fuse, Read. -/
import Derived.Test.YteoeaojebklfjaaR1
namespace Go.Proofs.Yteoeaojebklfjaa
open Go.RowKit Go.Maps
set_option linter.unusedVariables false

section
variable {w w' : World} {X : Nat} {G : Nat → Prop} {d : Dk} {U1 U2 UK : Value}
theorem Ref.shapes (h : Ref w X U1 U2 UK d) : ∃ a1 c1 a2 c2 aK cK, U1 = .slice a1 d.lasts.length c1 ∧ U2 = .slice a2 d.waits.length c2 ∧ UK = .slice aK d.keep.length cK := by
  obtain ⟨a1, c1, e1, _⟩ := h.lasts.shape
  obtain ⟨a2, c2, e2, _⟩ := h.waits.shape
  obtain ⟨aK, cK, eK, _⟩ := h.keep.shape
  exact ⟨a1, c1, a2, c2, aK, cK, e1, e2, eK⟩
theorem RefAt.c3 (h : RefAt w X G d) : w.cell? ⟨X, 3, none⟩ = some (.bool d.dead) := by
  obtain ⟨_, _, _, h, _⟩ := h
  exact h.cells.is 3 _ rfl

theorem rCrash_dead (h : RefAt w X G d) (hd : d.dead = true) (v : Value) : Calls Try.prog 33 #[.pointer (some ⟨X, 0, none⟩), v] w fun r w' => r = .returned (.int .i64 20) ∧ w' = w := by
  have c3 := h.c3
  rw [hd] at c3
  clear h hd
  go_enter Try.func33, Try.ntmps33
  go_wp2_with fail
  go_ret
  exact ⟨rfl, rfl⟩
theorem rFlush_dead (h : RefAt w X G d) (hd : d.dead = true) : Calls Try.prog 32 #[.pointer (some ⟨X, 0, none⟩)] w fun r w' => r = .returned (.int .i64 20) ∧ w' = w := by
  have c3 := h.c3
  rw [hd] at c3
  clear h hd
  go_enter Try.func32, Try.ntmps32
  go_wp2_with fail
  go_ret
  exact ⟨rfl, rfl⟩
theorem rFuse_dead (h : RefAt w X G d) (hd : d.dead = true) (k : Int) (v : Value) : Calls Try.prog 34 #[.pointer (some ⟨X, 0, none⟩), .int .i64 k, v] w fun r w' => r = .returned (.int .i64 20) ∧ w' = w := by
  have c3 := h.c3
  rw [hd] at c3
  clear h hd
  go_enter Try.func34, Try.ntmps34
  go_wp2_with fail
  go_ret
  exact ⟨rfl, rfl⟩
theorem rFuse_neg (h : RefAt w X G d) (hd : d.dead = false) (k : Int) (hk : k < 0) (v : Value) : Calls Try.prog 34 #[.pointer (some ⟨X, 0, none⟩), .int .i64 k, v] w fun r w' => r = .returned (.int .i64 1) ∧ w' = w := by
  have c3 := h.c3
  rw [hd] at c3
  clear h hd
  go_enter Try.func34, Try.ntmps34
  go_wp2_with fail
  go_ret
  exact ⟨rfl, rfl⟩
theorem rWrite_dead (h : RefAt w X G d) (hd : d.dead = true) (i : Int) (v : Value) : Calls Try.prog 31 #[.pointer (some ⟨X, 0, none⟩), .int .i64 i, v] w fun r w' => r = .returned (.int .i64 20) ∧ w' = w := by
  have c3 := h.c3
  rw [hd] at c3
  clear h hd
  go_enter Try.func31, Try.ntmps31
  go_wp2_with fail
  go_ret
  exact ⟨rfl, rfl⟩
theorem rRead_dead (h : RefAt w X G d) (hd : d.dead = true) (i : Int) : Calls Try.prog 30 #[.pointer (some ⟨X, 0, none⟩), .int .i64 i] w fun r w' => r = .returned (.tuple #[.string ⟨#[]⟩, .int .i64 20]) ∧ w' = w := by
  have c3 := h.c3
  rw [hd] at c3
  clear h hd
  go_enter Try.func30, Try.ntmps30
  go_wp2_with fail
  go_ret2
  exact ⟨rfl, rfl⟩
theorem rReopen_live (h : RefAt w X G d) (hd : d.dead = false) : Calls Try.prog 35 #[.pointer (some ⟨X, 0, none⟩)] w fun r w' => r = .returned (.tuple #[.pointer none, .int .i64 50]) ∧ w' = w := by
  have c3 := h.c3
  rw [hd] at c3
  clear h hd
  go_enter Try.func35, Try.ntmps35
  go_wp2_with fail
  go_ret2
  exact ⟨rfl, rfl⟩

theorem rCrash_any {v : Value} {keep : List Bool} (h : RefAt w X G d) (hd : d.dead = false) (hr : Rd w 1 v keep.length (bo keep)) (hap : bo keep ≠ [] → ∀ g, v.ownBlock = some g → ¬ G g) (hn : d.waits.length ≤ 1000000) :
    Calls Try.prog 33 #[.pointer (some ⟨X, 0, none⟩), v] w fun r w' => r = .returned (.int .i64 0) ∧ ∃ G', RefAt w' X G' (d.crashed keep) ∧ Kept G G' w w' := by
  have c3 := h.c3
  rw [hd] at c3
  obtain ⟨U1, U2, UK, h, rfl⟩ := h
  have HX := Lib.hid (r_crash h hr (fun hk g hg e => hap hk g hg (.inr (.inl e))) hn)
  obtain ⟨va, kl, vc, rfl⟩ := hr.shape'
  clear h hd hr hap
  go_enter Try.func33, Try.ntmps33
  go_wp2_with fail
  refine HX.out.mono ?_
  rintro r w2 ⟨rfl, hD⟩
  have HD := Lib.hid hD
  clear hD
  go_wp2_with fail
  go_ret
  exact ⟨rfl, HD.out⟩

set_option maxRecDepth 20000 in
set_option maxHeartbeats 1000000 in
theorem rFlush_lies (h : Ref w X U1 U2 UK d) (hd : d.dead = false) {n : Nat} (hf : d.Few n) (hn : n ≤ 1000000) {e : Int} (he : d.err = e) {d' : Dk} (hd' : d.flush = d') :
    Calls Try.prog 32 #[.pointer (some ⟨X, 0, none⟩)] w fun r w' => r = .returned (.int .i64 e) ∧ ∃ G', RefAt w' X G' d' ∧ Kept (FR X U1 U2 UK) G' w w' := by
  subst hd' he
  have c3 := h.cells.is 3 _ rfl
  rw [hd] at c3
  have hw := hf.waits
  cases hdue : d.due
  · rw [Dk.no_err hdue, Dk.no_flush hdue]
    have hb := r_due_no h hdue hf hn
    have HB := Lib.hid hb
    have HN := Lib.hid (Nat.le_trans hw hn)
    clear h hb hd hdue hf hn hw
    go_enter Try.func32, Try.ntmps32
    go_wp2_with fail
    refine HB.out.mono ?_
    rintro r w2 ⟨rfl, hD, hO⟩
    have HO := Lib.hid hO
    obtain ⟨a1, c1, a2, c2, aK, cK, rfl, rfl, rfl⟩ := hD.shapes
    have H := Lib.hid hD
    clear hO hD
    go_wp2_with fail
    go_loopw [3] (fun i wr => ∃ j : Nat, j ≤ d.tick.waits.length ∧ i = .int .i64 (j : Int) ∧ Hid (RL w2 wr X (.slice a1 d.tick.lasts.length c1) (.slice a2 d.tick.waits.length c2) (.slice aK d.tick.keep.length cK) d.tick (fun _ => true) j)) (fun i wr => d.tick.waits.length - (intOf i).toNat)
    case atStart => exact ⟨0, by omega, rfl, Lib.hid ⟨Only.refl _ _, H.out.lasts⟩⟩
    case round =>
      obtain ⟨j, hj, rfl, L⟩ := hrel
      have HN : Hid (d.tick.waits.length ≤ 1000000) := HN
      have hX : ¬ (Value.slice a1 d.tick.lasts.length c1).ownBlock = some X := fun e => H.out.apart1 X e rfl
      have k0 := (L.out.only.cell H.out.cells.lt hX 0).trans (H.out.cells.is 0 _ rfl)
      have k1 := (L.out.only.cell H.out.cells.lt hX 1).trans (H.out.cells.is 1 _ rfl)
      by_cases hlt : j < d.tick.waits.length
      · have WJ := H.out.waits.only L.out.only fun g hg e => (H.out.apart2 g hg).2 e
        obtain ⟨g2, o2, c2', e2, _⟩ := WJ.at_ (by omega)
        injection e2 with e21 _ e23
        subst e21 e23
        have he := WJ.elem (fun y _ => rw_length y) hlt
        have m0 := he 0 _ rfl
        have m1 := he 1 _ rfl
        have hat := (H.out.ok.waits d.tick.waits[j] (List.getElem_mem hlt)).1
        obtain ⟨g1, o1, c1', e1, _, _, _, hc1, hf1⟩ := L.out.lasts.at_ (by omega)
        injection e1 with e11 _ e13
        subst e11 e13
        have hsl : (settle (fun _ => true) 0 (d.tick.waits.take j) d.tick.lasts).length = d.tick.lasts.length := settle_length _ _ _ _
        obtain ⟨u2, m2⟩ : ∃ u, wr.cell? ⟨g1, o1 + d.tick.waits[j].1, none⟩ = some u := ⟨_, hc1 d.tick.waits[j].1 _ (strs_get (by rw [hsl]; exact hat))⟩
        have m3 := (hf1 d.tick.waits[j].1 (by have := L.out.lasts.len; omega)).2
        obtain ⟨p, hp⟩ : ∃ p, p = d.tick.waits[j] := ⟨_, rfl⟩
        rw [← hp] at m0 m1 hat m2 m3
        obtain ⟨ya, ys⟩ := p
        have HP := Lib.hid hp
        have m0 : wr.cell? ⟨g2, o2 + j * 2, none⟩ = some (.int .i64 (ya : Int)) := m0
        have m1 : wr.cell? ⟨g2, o2 + j * 2 + 1, none⟩ = some (.string (st ys)) := m1
        have j0 : (0 : Int) ≤ (j : Int) := by omega
        have j1 : (j : Int) < (d.tick.waits.length : Int) := by omega
        have y0 : (0 : Int) ≤ (ya : Int) := by omega
        have y1 : (ya : Int) < (d.tick.lasts.length : Int) := by have : ya < d.tick.lasts.length := hat; omega
        clear hp hat hsl he WJ hc1 hf1
        go_wp2_with fail
        go_still_tail 21, (by kernel_rfl)
        go_wp2_with fail
        go_roundw
        case rel =>
          have q := L.out.next rfl H.out.ok hlt rfl
          rw [← HP.out] at q
          exact ⟨j + 1, by omega, next_int (by have := HN.out; omega), Lib.hid q⟩
        case measure => exact meas hlt HN.out
      · obtain rfl : j = d.tick.waits.length := by omega
        have HS := Lib.hid (H.out.settled L.out)
        have thaw : ∀ i, wr.frozen? ⟨X, i, none⟩ = false := fun i => (L.out.only.frozen H.out.cells.lt hX i).trans (H.out.cells.thaw i)
        go_wp2_with fail
        go_ret
        exact ⟨rfl, _, HS.out.1.at_, (Kept.only' (HO.out.mono fun k _ e => .inl e)).trans HS.out.2⟩
  · rw [Dk.yes_err hdue, Dk.yes_flush hdue]
    have HB := Lib.hid (r_due_yes h.at_ hdue)
    have hX := r_crash h h.keep.rd (fun _ g hg => (h.apartK g hg).2.1) (Nat.le_trans hw hn)
    have HX := Lib.hid hX
    have c6 := h.cells.is 6 _ rfl
    obtain ⟨va, kl, vc, e⟩ := h.keep.rd.shape'
    subst e
    clear hd hdue hf hn hw h hX
    go_enter Try.func32, Try.ntmps32
    go_wp2_with fail
    refine HB.out.mono ?_
    rintro r w1 ⟨rfl, e⟩
    obtain rfl := e.symm
    go_wp2_with fail
    refine HX.out.mono ?_
    rintro r w3 ⟨rfl, hD⟩
    have HD := Lib.hid hD
    clear hD
    go_wp2_with fail
    go_ret
    exact ⟨rfl, HD.out⟩

theorem info115 : Try.prog.info? 115 = some Try.t115 := by kernel_rfl
theorem t115_zero : Try.t115.zero = some (.agg #[.int .i64 0, .string ⟨#[]⟩]) := by kernel_rfl
theorem t115_size : Try.t115.size = 2 := by kernel_rfl
theorem t115_bytes : Try.t115.bytes = 24 := by kernel_rfl

theorem Ref.wrote {w2 : World} {U' : Value} {i : Nat} {s : Sec} {o : Obj} (h : Ref w X U1 U2 UK d) (hi : i < d.lasts.length) (hs : s.length = 512) (hv : Vec w2 2 U' (d.waits.length + 1) (d.waits.flatMap rw_ ++ rw_ (i, s))) (hg : (w.alloc o).grownBy w2 U2.ownBlock)
    (hf : ∀ k, U'.ownBlock = some k → U2.ownBlock = some k ∨ (w.alloc o).heap.size ≤ k) :
    Ref (w2.setCell ⟨X, 1, none⟩ U') X U1 U' UK (d.wrote i s) ∧ Kept (FR X U1 U2 UK) (FR X U1 U' UK) w (w2.setCell ⟨X, 1, none⟩ U') := by
  have hf' : ∀ k, U'.ownBlock = some k → U2.ownBlock = some k ∨ w.heap.size ≤ k := fun k hk => (hf k hk).imp id fun h => by simp at h; omega
  have o2 : Only (fun k => U2.ownBlock = some k) w w2 := ((Only.refl _ w).alloc o).grown hg fun k hk => hk
  have os : Only (fun k => k = X) w2 (w2.setCell ⟨X, 1, none⟩ U') := (Only.refl (fun k => k = X) _).setCell (p := ⟨X, 1, none⟩) rfl _
  have hX : ¬ U2.ownBlock = some X := fun e => (h.apart2 X e).1 rfl
  have hlX := h.cells.lt
  have hU : ∀ k, U'.ownBlock = some k → k ≠ X ∧ U1.ownBlock ≠ some k := fun k hk => by
    rcases hf' k hk with h1 | h1
    · exact h.apart2 k h1
    · exact ⟨by omega, fun e => by have := h.lasts.lt e; omega⟩
  refine ⟨⟨(h.cells.kept o2 hX).set (i := 1) (by simp) U', ?_, ?_, ?_, h.apart1, hU, ?_, Dk.wrote_ok h.ok hi hs⟩, (o2.mono fun k _ e => .inr (.inr (.inl e))).trans (os.mono fun k _ e => .inl e), ?_⟩
  · exact (h.lasts.only o2 fun g hg e => (h.apart2 g e).2 hg).only os fun g hg e => h.apart1 g hg e
  · show Vec _ 2 U' (d.waits ++ [(i, s)]).length ((d.waits ++ [(i, s)]).flatMap rw_)
    rw [List.length_append, List.flatMap_append]
    simp only [List.flatMap_cons, List.flatMap_nil, List.append_nil, List.length_cons, List.length_nil, Nat.zero_add]
    exact hv.only os fun g hg e => (hU g hg).1 e
  · exact (h.keep.only o2 fun g hg e => (h.apartK g hg).2.2 e).only os fun g hg e => (h.apartK g hg).1 e
  · intro k hk
    refine ⟨(h.apartK k hk).1, (h.apartK k hk).2.1, fun e => ?_⟩
    rcases hf' k e with h1 | h1
    · exact (h.apartK k hk).2.2 h1
    · have := h.keep.lt hk; omega
  · intro k hk
    rcases hk with hk | hk | hk | hk
    · exact .inl (.inl hk)
    · exact .inl (.inr (.inl hk))
    · exact (hf' k hk).imp (fun e => .inr (.inr (.inl e))) id
    · exact .inl (.inr (.inr (.inr hk)))

set_option maxRecDepth 20000 in
set_option maxHeartbeats 1000000 in
theorem rWrite_lies (h : Ref w X U1 U2 UK d) (hd : d.dead = false) {i : Nat} (hi : i < d.lasts.length) {s : Sec} (hs : s.length = 512) {n : Nat} (hf : d.Few n) (hn : n ≤ 999999) {e : Int} (he : d.err = e) {d' : Dk} (hd' : d.write i s = d') :
    Calls Try.prog 31 #[.pointer (some ⟨X, 0, none⟩), .int .i64 (i : Int), .string (st s)] w fun r w' => r = .returned (.int .i64 e) ∧ ∃ G', RefAt w' X G' d' ∧ Kept (FR X U1 U2 UK) G' w w' := by
  subst hd' he
  have c3 := h.cells.is 3 _ rfl
  rw [hd] at c3
  have c0 := h.cells.is 0 _ rfl
  have c1 := h.cells.is 1 _ rfl
  have thaw := h.cells.thaw
  obtain ⟨a1, k1, a2, k2, aK, kK, rfl, rfl, rfl⟩ := h.shapes
  have i0 : ¬ (i : Int) < 0 := by omega
  have i1 : ¬ (d.lasts.length : Int) ≤ (i : Int) := by omega
  have hsz : (st s).size = 512 := by show s.toArray.size = 512; simp [hs]
  obtain ⟨ss, hss⟩ : ∃ ss, ss = st s := ⟨_, rfl⟩
  rw [← hss] at hsz ⊢
  have H := Lib.hid h
  have HA := Lib.hid (h.only (S := None') ((Only.refl None' w).alloc (.cells #[.int .i64 (i : Int), .string ss] 115)) fun _ _ e => e)
  have HNW : Hid (∀ j u, (rw_ (i, s))[j]? = some u → (w.alloc (.cells #[.int .i64 (i : Int), .string ss] 115)).cell? ((⟨w.heap.size, 0, none⟩ : Addr).add j) = some u) := by
    rw [hss]; exact news_row w 115 (rw_ (i, s))
  have HF := Lib.hid (And.intro hf hn)
  have HI := Lib.hid (And.intro hi hs)
  have hltX := h.cells.lt
  have HW := Lib.hid (show d.waits.length ≤ 999999 from Nat.le_trans hf.waits hn)
  obtain ⟨ec, hec⟩ : ∃ ec, ec = d.err := ⟨_, rfl⟩
  rw [← hec]
  have HE := Lib.hid hec
  clear h hd hf hn hi hs hss hec
  have hsz' : ((ss.size : Nat) : Int) = 512 := by rw [hsz]; rfl
  go_enter Try.func31, Try.ntmps31
  go_upto_region 6 with (at_builtin; refine wpList_vec_append _ rfl _ _ 111 rfl 115 Try.t115 (.agg #[.int .i64 0, .string ⟨#[]⟩]) 2 24 Try.underlying111 info115 t115_zero t115_size t115_bytes rfl (by decide) _ _ _ rfl HA.out.waits ⟨w.heap.size, 0, none⟩ 1 1 (rw_ (i, s)) rfl rfl HNW.out (rw_one _) (by have := HW.out; unfold maxLen; omega) (by have := HW.out; omega) ?_; intro U' w2 hv hg hf; obtain ⟨b1, b2, b3, rfl⟩ := hv.rd.shape'; have HR := Lib.hid (H.out.wrote HI.out.1 HI.out.2 hv hg hf); have oo : Only (fun k => (Value.slice a2 d.waits.length k2).ownBlock = some k) w w2 := (((Only.refl _ w).alloc _).grown hg fun k hk => hk); have q1 := (oo.cell hltX (fun e => (H.out.apart2 X e).1 rfl) 1).trans c1; have q2 : ∀ i, w2.frozen? ⟨X, i, none⟩ = false := (fun i => (oo.frozen hltX (fun e => (H.out.apart2 X e).1 rfl) i).trans (thaw i)); clear hv hg hf oo)
  obtain ⟨wx, hwx⟩ : ∃ wx, wx = w2.setCell ⟨X, 1, none⟩ (.slice b1 b2 b3) := ⟨_, rfl⟩
  rw [← hwx] at HR ⊢
  clear q1 q2 hwx
  cases hdue : d.due
  · have HB := Lib.hid (r_due_no (d := d.wrote i s) HR.out.1 hdue (HF.out.1.wrote i s) (by have := HF.out.2; omega))
    have HDU := Lib.hid hdue
    clear hdue
    go_wp2_with fail
    refine HB.out.mono ?_
    rintro r w3 ⟨rfl, hD, hO⟩
    have HD := Lib.hid hD
    have HO := Lib.hid hO
    clear hD hO
    go_wp2_with fail
    go_ret
    refine ⟨by rw [HE.out, Dk.no_err HDU.out]; rfl, _, by rw [Dk.no_write HDU.out]; exact HD.out.at_, HR.out.2.trans (Kept.only' (HO.out.mono fun k _ e => .inl e))⟩
  · have HB := Lib.hid (r_due_yes (d := d.wrote i s) HR.out.1.at_ hdue)
    have HX := Lib.hid (r_crash (keep := d.keep) HR.out.1 HR.out.1.keep.rd (fun _ g hg => (HR.out.1.apartK g hg).2.1) (by show (d.waits ++ [(i, s)]).length ≤ _; have := HW.out; simp; omega))
    have c6 := HR.out.1.cells.is 6 _ rfl
    have HDU := Lib.hid hdue
    clear hdue
    go_wp2_with fail
    refine HB.out.mono ?_
    rintro r w3 ⟨rfl, e⟩
    obtain rfl := e.symm
    go_wp2_with fail
    refine HX.out.mono ?_
    rintro r w4 ⟨rfl, G', hD, hK⟩
    have HD := Lib.hid hD
    have HK := Lib.hid hK
    clear hD hK
    go_wp2_with fail
    go_ret
    exact ⟨by rw [HE.out, Dk.yes_err HDU.out]; rfl, G', by rw [Dk.yes_write HDU.out]; exact HD.out, HR.out.2.trans HK.out⟩
end
end Go.Proofs.Yteoeaojebklfjaa
