/- crash, Crash, Flush. -/
import Derived.Test.YteoeaojebklfjaaD5
namespace Go.Proofs.Yteoeaojebklfjaa
open Go.RowKit Go.Maps
set_option linter.unusedVariables false

theorem enter61 (args : Array Value) (w : World) : (callFunc 61 args).run Try.prog w = .ok (.enter 61 args) w := by go_simp
theorem enter77 (args : Array Value) (w : World) : (callFunc 77 args).run Try.prog w = .ok (.enter 77 args) w := by go_simp

theorem flush1_any (i : Int) (w : World) : Calls Try.prog 61 #[.int .i64 i] w fun e w' => e = .returned (.bool true) ∧ w' = w := by
  go_enter Try.func61, Try.ntmps61
  go_wp2
  go_ret
  exact ⟨rfl, rfl⟩

theorem crash1_any {w : World} {bx : Nat} {v : Value} {keep : List Bool} (hbx : w.cell? ⟨bx, 0, none⟩ = some v) (hr : Rd w 1 v keep.length (bo keep)) (i : Nat) :
    Calls Try.prog 77 #[.int .i64 (i : Int), .pointer (some ⟨bx, 0, none⟩)] w fun e w' => e = .returned (.bool (kept keep i)) ∧ w' = w := by
  by_cases hlt : i < keep.length
  · obtain ⟨g, off, cap, rfl, hg, hc⟩ := hr.at_ (by omega)
    have hk : kept keep i = keep[i] := by simp [kept, List.getD_eq_getElem?_getD, List.getElem?_eq_getElem hlt]
    have hcell : w.cell? ⟨g, off + i, none⟩ = some (.bool keep[i]) := hc i _ (by simp [bo, List.getElem?_eq_getElem hlt])
    rw [hk]
    obtain ⟨b, hb⟩ : ∃ b, b = keep[i] := ⟨_, rfl⟩
    rw [← hb] at hcell ⊢
    have i0 : (0 : Int) ≤ (i : Int) := by omega
    have i1 : (i : Int) < (keep.length : Int) := by omega
    clear hr hc hk hb
    obtain ⟨len, hl⟩ : ∃ len, len = keep.length := ⟨_, rfl⟩
    rw [← hl] at hbx i1
    clear hl hlt
    go_enter Try.func77, Try.ntmps77
    go_wp2
    go_ret
    exact ⟨rfl, rfl⟩
  · obtain ⟨a, cap, rfl⟩ := hr.shape
    have hk : kept keep i = false := by simp [kept, List.getD_eq_getElem?_getD, List.getElem?_eq_none (Nat.le_of_not_lt hlt)]
    have i1 : ¬ (i : Int) < (keep.length : Int) := by omega
    rw [hk]
    clear hr hk hlt
    obtain ⟨len, hl⟩ : ∃ len, len = keep.length := ⟨_, rfl⟩
    rw [← hl] at hbx i1
    clear hl
    go_enter Try.func77, Try.ntmps77
    go_wp2
    go_ret
    exact ⟨rfl, rfl⟩

theorem DiskAt.dead {w : World} {D : Nat} {F : Nat → Prop} {d : Dk} (h : DiskAt w D F d) : DiskAt (w.setCell ⟨D, 4, none⟩ (.bool true)) D F { d with dead := true } ∧ Only (fun k => k = D) w (w.setCell ⟨D, 4, none⟩ (.bool true)) := by
  obtain ⟨B, V1, V2, VK, h, rfl⟩ := h
  have ho : Only (fun k => k = D) w (w.setCell ⟨D, 4, none⟩ (.bool true)) := (Only.refl (fun k => k = D) w).setCell (p := ⟨D, 4, none⟩) rfl _
  exact ⟨⟨B, V1, V2, VK, Lies.join (h.cells.set4 _) ((h.rest.only ho).of rfl rfl rfl), rfl⟩, ho⟩

theorem DiskAt.cell4 {w : World} {D : Nat} {F : Nat → Prop} {d : Dk} (h : DiskAt w D F d) : w.cell? ⟨D, 4, none⟩ = some (.bool d.dead) ∧ ∀ i, w.frozen? ⟨D, i, none⟩ = false := by
  obtain ⟨B, V1, V2, VK, h, rfl⟩ := h
  exact ⟨h.c4, h.thaw⟩

theorem bo_ne {l : List Bool} (h : bo l ≠ []) : l ≠ [] := fun e => h (by rw [e]; rfl)

theorem crash_any {w : World} {D B : Nat} {V1 V2 VK v : Value} {d : Dk} {keep : List Bool} (h : Lies w D B V1 V2 VK d) (hr : Rd w 1 v keep.length (bo keep)) (hap : bo keep ≠ [] → ∀ g, v.ownBlock = some g → V1.ownBlock ≠ some g) (hn : d.waits.length ≤ 1000000) :
    Calls Try.prog 59 #[.pointer (some ⟨D, 0, none⟩), v] w fun e w' => e = .returned (.tuple #[]) ∧ ∃ F', DiskAt w' D F' (d.crashed keep) ∧ Kept (Foot D B V1 V2 VK) F' w w' := by
  obtain ⟨va, kl, vc, rfl⟩ := hr.shape'
  have oa : Only None' w (w.alloc (.cells #[.slice va kl vc] 23)) := (Only.refl _ _).alloc _
  have hl := h.kept oa.size (fun k hk => oa.block k (h.lt hk) fun e => e)
  have hs := settle_walk hl 77 #[.pointer (some ⟨w.heap.size, 0, none⟩)] (kept keep) hn enter77 (fun w1 i ho hi => crash1_any (v := .slice va kl vc) (by
    have hV : ¬ V1.ownBlock = some w.heap.size := fun e => by have := h.lasts.lt e; omega
    rw [ho.cell (by simp) hV, World.cell?_alloc_new]; rfl) ((hr.only oa fun _ _ _ _ e => e).only ho fun hx g hg _ => hap hx g hg) i)
  have HS := Lib.hid hs
  have OA := Lib.hid oa
  clear hs hl h hr hap oa
  go_enter Try.func59, Try.ntmps59
  go_wp2_with fail
  refine HS.out.mono ?_
  rintro r w2 ⟨rfl, F2, hD, hK⟩
  have HD := Lib.hid hD
  have HK := Lib.hid hK
  obtain ⟨c4, thaw⟩ := hD.cell4
  clear hD hK
  go_wp2
  go_end0
  obtain ⟨h1, h2⟩ := HD.out.dead
  exact ⟨rfl, F2, h1, ((Kept.new OA.out).trans HK.out).trans (Kept.only' (h2.mono fun k _ e => e ▸ HD.out.has))⟩

theorem Crash_dead {w : World} {D : Nat} {F : Nat → Prop} {d : Dk} (h : DiskAt w D F d) (hd : d.dead = true) (v : Value) :
    Calls Try.prog 18 #[.pointer (some ⟨D, 0, none⟩), v] w fun r w' => r = .returned (.int .i64 20) ∧ w' = w := by
  have hc := alive_any h
  rw [show d.errno = 20 by unfold Dk.errno; rw [if_pos hd]] at hc
  clear h hd
  go_enter Try.func18, Try.ntmps18
  go_wp2_with fail
  refine hc.mono ?_
  rintro r w1 ⟨rfl, rfl⟩
  clear hc
  go_wp2_with fail
  go_ret
  exact ⟨rfl, rfl⟩

theorem Crash_any {w : World} {D : Nat} {F : Nat → Prop} {d : Dk} {v : Value} {keep : List Bool} (h : DiskAt w D F d) (hd : d.dead = false) (hr : Rd w 1 v keep.length (bo keep)) (hap : bo keep ≠ [] → ∀ g, v.ownBlock = some g → ¬ F g) (hn : d.waits.length ≤ 1000000) :
    Calls Try.prog 18 #[.pointer (some ⟨D, 0, none⟩), v] w fun r w' => r = .returned (.int .i64 0) ∧ ∃ F', DiskAt w' D F' (d.crashed keep) ∧ Kept F F' w w' := by
  have hc := alive_any h
  rw [show d.errno = 0 by unfold Dk.errno; rw [if_neg (by simp [hd])]] at hc
  obtain ⟨B, V1, V2, VK, h, rfl⟩ := h
  have hx := crash_any h hr (fun hk g hg e => hap hk g hg (.inr (.inr (.inl e)))) hn
  have HX := Lib.hid hx
  have HC := Lib.hid hc
  obtain ⟨va, kl, vc, rfl⟩ := hr.shape'
  clear h hd hx hc hr hap
  go_enter Try.func18, Try.ntmps18
  go_wp2_with fail
  refine HC.out.mono ?_
  rintro r w1 ⟨rfl, rfl⟩
  go_wp2_with fail
  refine HX.out.mono ?_
  rintro r w2 ⟨rfl, hD⟩
  have HD := Lib.hid hD
  clear hD
  go_wp2_with fail
  go_ret
  exact ⟨rfl, HD.out⟩

theorem Crash_nil (v : Value) (w : World) : Calls Try.prog 18 #[.pointer none, v] w fun r w' => r = .returned (.int .i64 2) ∧ w' = w := by
  have hc := alive_nil w
  go_enter Try.func18, Try.ntmps18
  go_wp2_with fail
  refine hc.mono ?_
  rintro r w1 ⟨rfl, rfl⟩
  clear hc
  go_wp2_with fail
  go_ret
  exact ⟨rfl, rfl⟩

theorem flush_nil (w : World) : Calls Try.prog 19 #[.pointer none] w fun r w' => r = .returned (.int .i64 2) ∧ w' = w := by
  have hc := alive_nil w
  go_enter Try.func19, Try.ntmps19
  go_wp2_with fail
  refine hc.mono ?_
  rintro r w1 ⟨rfl, rfl⟩
  clear hc
  go_wp2_with fail
  go_ret
  exact ⟨rfl, rfl⟩

theorem flush_dead {w : World} {D : Nat} {F : Nat → Prop} {d : Dk} (h : DiskAt w D F d) (hd : d.dead = true) :
    Calls Try.prog 19 #[.pointer (some ⟨D, 0, none⟩)] w fun r w' => r = .returned (.int .i64 20) ∧ w' = w := by
  have hc := alive_any h
  rw [show d.errno = 20 by unfold Dk.errno; rw [if_pos hd]] at hc
  clear h hd
  go_enter Try.func19, Try.ntmps19
  go_wp2_with fail
  refine hc.mono ?_
  rintro r w1 ⟨rfl, rfl⟩
  clear hc
  go_wp2_with fail
  go_ret
  exact ⟨rfl, rfl⟩

theorem flush_any {w : World} {D : Nat} {F : Nat → Prop} {d : Dk} {n : Nat} (h : DiskAt w D F d) (hd : d.dead = false) (hf : d.Few n) (hn : n ≤ 1000000) :
    Calls Try.prog 19 #[.pointer (some ⟨D, 0, none⟩)] w fun r w' => r = .returned (.int .i64 (if d.due then 20 else 0)) ∧ ∃ F', DiskAt w' D F' d.flush ∧ Kept F F' w w' := by
  have hc := alive_any h
  rw [show d.errno = 0 by unfold Dk.errno; rw [if_neg (by simp [hd])]] at hc
  have HC := Lib.hid hc
  have h0 := h
  have H0 := Lib.hid h
  unfold Dk.flush
  have hw := hf.waits
  cases hdue : d.due
  · have hb := burns_not h hdue (by have := hf.left0; omega) hf.left hf.done0 (by have := hf.done; omega)
    have HB := Lib.hid hb
    have HN := Lib.hid (Nat.le_trans hw hn)
    clear h h0 hc hb hd hdue hf hn hw
    go_enter Try.func19, Try.ntmps19
    go_wp2_with fail
    refine HC.out.mono ?_
    rintro r w1 ⟨rfl, rfl⟩
    go_wp2_with fail
    refine HB.out.mono ?_
    rintro r w2 ⟨rfl, hD, hO⟩
    obtain ⟨B, V1, V2, VK, hL, rfl⟩ := hD
    have HL := Lib.hid (settle_walk hL 61 #[] (fun _ => true) HN.out enter61 (fun w1 i ho hi => flush1_any _ _))
    have HO := Lib.hid hO
    clear hL hO
    go_wp2_with fail
    refine HL.out.mono ?_
    rintro r w3 ⟨rfl, F', hD, hK⟩
    have HD := Lib.hid hD
    have HK := Lib.hid hK
    clear hD hK
    go_wp2_with fail
    go_ret
    exact ⟨rfl, F', HD.out, (Kept.only' (HO.out.mono fun k _ e => e ▸ H0.out.has)).trans HK.out⟩
  · have hb := burns_due h hdue
    obtain ⟨B, V1, V2, VK, hL, rfl⟩ := h
    have hX := crash_any hL hL.keep.rd (fun _ g hg => (hL.apartK g hg).2.2.1) (Nat.le_trans hw hn)
    have HX := Lib.hid hX
    have HB := Lib.hid hb
    obtain ⟨va, kl, vc, e⟩ := hL.keep.rd.shape'
    subst e
    have c7 := hL.c7
    clear h0 hc hb hd hdue hf hn hw hL hX
    go_enter Try.func19, Try.ntmps19
    go_wp2_with fail
    refine HC.out.mono ?_
    rintro r w1 ⟨rfl, rfl⟩
    go_wp2_with fail
    refine HB.out.mono ?_
    rintro r w1 ⟨rfl, rfl⟩
    go_wp2_with fail
    refine HX.out.mono ?_
    rintro r w3 ⟨rfl, hD⟩
    have HD := Lib.hid hD
    clear hD
    go_wp2_with fail
    go_ret
    exact ⟨rfl, HD.out⟩
end Go.Proofs.Yteoeaojebklfjaa
