/- QI QJ in one text. -/
import Derived.Test.YteoeaojebklfjaaGreatDoorV23
namespace Go.Proofs.YteoeaojebklfjaaGreatDoor
open Go.RowKit Go.Maps
set_option linter.unusedVariables false
set_option linter.unusedSimpArgs false
set_option maxRecDepth 20000

theorem grp_small : ∀ (ps : List Pc) (now : Rec), (∀ p ∈ ps, p.data.length ≤ 501) → (grp ps now).length ≤ ps.length ∧ ∀ r ∈ grp ps now, r.length ≤ now.length + 501 * ps.length
  | [], now, _ => ⟨Nat.le_refl _, fun r hr => by simp [grp] at hr⟩
  | p :: ps, now, h => by
    have hp := h p (by simp)
    unfold grp
    split
    · have h1 := grp_small ps [] fun q hq => h q (by simp [hq])
      refine ⟨by simp only [List.length_cons]; omega, fun r hr => ?_⟩
      rcases List.mem_cons.1 hr with rfl | hr
      · rw [List.length_append, List.length_cons]; omega
      · have := h1.2 r hr
        simp only [List.length_nil, List.length_cons] at this ⊢
        omega
    · have h1 := grp_small ps (now ++ p.data) fun q hq => h q (by simp [hq])
      refine ⟨by simp only [List.length_cons]; omega, fun r hr => ?_⟩
      have := h1.2 r hr
      rw [List.length_append] at this
      rw [List.length_cons]
      omega
theorem run_small {count base : Nat} {g : Nat → Sec} : ((runG count g count base [] [] base).1).length ≤ count ∧ ∀ r ∈ (runG count g count base [] [] base).1, r.length ≤ 501 * count := by
  rw [runG_chain]
  simp only [List.nil_append]
  have hl := chainG_len (count := count) (g := g) count base
  have h := grp_small (chainG count g count base) [] fun p hp => by
    obtain ⟨j, hj, rfl⟩ := List.mem_iff_getElem.1 hp
    have h1 := chainG_at (count := count) (g := g) count base j hj
    exact (pieceOf_some (pieceG_some h1).1).2.size
  refine ⟨Nat.le_trans h.1 hl, fun r hr => ?_⟩
  have := h.2 r hr
  simp only [List.length_nil] at this
  have h3 : 501 * (chainG count g count base).length ≤ 501 * count := Nat.mul_le_mul_left _ hl
  omega
theorem replayL_ok {most : Int} : ∀ (f : Nat) (b : List UInt8) (l : List (Nat × Sec)), replayL most f b = some l → ∀ q ∈ l, q.2.length = 512
  | f, [], l, h => by
    have : l = [] := by cases f <;> simpa [replayL] using h.symm
    subst this
    intro q hq
    simp at hq
  | 0, _ :: _, l, h => by simp [replayL] at h
  | f + 1, c :: b, l, h => by
    rw [replayL] at h
    · split at h
      · cases h
      · split at h
        · cases h
        · rename_i n r hc t r' hs
          obtain ⟨l', h1, rfl⟩ := Option.map_eq_some_iff.1 h
          intro q hq
          rcases List.mem_cons.1 hq with rfl | hq
          · exact pad_len (rdStr_len hs).1
          · exact replayL_ok f r' l' h1 q hq
    · simp
theorem replayAll_ok {most : Int} : ∀ (rs : List Rec) (D D' : List (Nat × Sec)), replayAll most rs D = some D' → (∀ q ∈ D, q.2.length = 512) → ∀ q ∈ D', q.2.length = 512
  | [], D, D', h, h0 => by
    injection h with h
    subst h
    exact h0
  | b :: rs, D, D', h, h0 => by
    rw [replayAll] at h
    split at h
    · cases h
    · rename_i l hl
      refine replayAll_ok rs _ _ h fun q hq => ?_
      rcases mem_insL hq with hq | hq
      · exact replayL_ok _ _ _ hl q hq
      · exact h0 q hq
section
variable {w : World} {L : Lo} {R : Nat} {F : Nat → Prop} {s : Sy}
theorem abort_sy (h : SyAt w L R F s) (hok : s.p.Ok) (hdd : s.d.dead = false) {n : Nat} (hf : s.d.Few n) (hn : n ≤ 900000) (hlen : s.p.first + s.p.pages ≤ s.d.lasts.length) (hp : 1 ≤ s.p.pages) :
    Calls Tryz.prog 30 #[.pointer (some ⟨L.P, 0, none⟩)] w fun e w' => e = .returned (.int .i64 0) ∧ ∃ L' R' F', SyAt w' L' R' F' s.abort ∧ To w w' L R F L' R' F' := by
  refine (abort_any h.pg hok h.disk hdd (by have := hf.waits; omega) hlen hp (h.ap _ (.inl rfl))).mono ?_
  rintro e w' ⟨rfl, h1, o⟩
  have hl := fun k hk => h.disk.lt (k := k) hk
  have hR := h.ring.lt
  refine ⟨rfl, L.anew w.heap.size, R, F, ⟨h1, h.ring.kept o fun e => h.rp (.inl e), h.disk.only o fun k hk e => h.ap k (.inl e) hk, ?_, ?_, h.rf⟩, rfl, rfl, o.mono fun k _ e => .inl (.inl e), ?_, fun k hk => .inl hk⟩
  · rintro k (e | e | e | e | e) hF
    · exact h.ap k (.inl e) hF
    · exact h.ap k (.inr (.inl e)) hF
    · have := hl _ hF; simp only [Lo.anew] at e; omega
    · have := hl _ hF; simp only [Lo.anew] at e; omega
    · have := hl _ hF; simp only [Lo.anew] at e; omega
  · rintro (e | e | e | e | e)
    · exact h.rp (.inl e)
    · exact h.rp (.inr (.inl e))
    · simp only [Lo.anew] at e; omega
    · simp only [Lo.anew] at e; omega
    · simp only [Lo.anew] at e; omega
  · rintro k (hk | hk)
    · rcases hk with e | e | e | e | e
      · exact .inl (.inl (.inl e))
      · exact .inl (.inl (.inr (.inl e)))
      · simp only [Lo.anew] at e; right; omega
      · simp only [Lo.anew] at e; right; omega
      · simp only [Lo.anew] at e; right; omega
    · exact .inl (.inr hk)
theorem PgAt.setLog {w : World} {L : Lo} {lg : Value} {p : Pg} (h : PgAt w L lg p) {lg' : Value} {w1 : World} (hw1 : w1 = w.setCell ⟨L.P, 1, none⟩ lg') : PgAt w1 L lg' p ∧ Only (fun k => k = L.P) w w1 := by
  have o1 : Only (fun k => k = L.P) w w1 := by rw [hw1]; exact (Only.refl (fun k => k = L.P) _).setCell (p := ⟨L.P, 1, none⟩) rfl _
  refine ⟨⟨?_, h.dirty.only o1 fun e => h.ok.pd e.symm, h.now.only o1 fun e => h.ok.pn e.symm, h.idle.only o1 fun e => h.ok.pi e.symm, h.count.only o1 fun e => h.ok.pc e.symm, h.ok⟩, o1⟩
  have := h.cells.set (i := 1) (by simp [Pg.vs]) lg'
  rw [← hw1] at this
  exact this
end
def OpenRes (w : World) (D : Nat) (F : Nat → Prop) (d : Dk) (e : Ending) (w' : World) : Prop :=
  ((openS d).1 ≠ 0 ∧ e = .returned (.tuple #[.pointer none, .int .i64 (openS d).1]) ∧ ∃ F', DiskAt w' D F' (openS d).2.d ∧ Kept F F' w w') ∨
  ((openS d).1 = 0 ∧ ∃ L R F', e = .returned (.tuple #[.pointer (some ⟨L.P, 0, none⟩), .int .i64 0]) ∧ SyAt w' L R F' (openS d).2 ∧ L.D = D ∧ (∀ k, L.own k → w.heap.size ≤ k) ∧ w.heap.size ≤ R ∧ Kept F F' w w')
theorem open_form {d : Dk} (h : d.lasts.length < 64 ∨ (d.read 0).take 8 ≠ markB ∨ 127 < ((d.read 0).getD 8 0).toNat) : (openS d).1 = 4 ∧ (openS d).2.d = d := by
  unfold openS
  simp only
  rw [if_pos h]
  exact ⟨rfl, rfl⟩
theorem open_great {d : Dk} (h : ¬ (d.lasts.length < 64 ∨ (d.read 0).take 8 ≠ markB ∨ 127 < ((d.read 0).getD 8 0).toNat)) (h2 : 4611686018427387904 < numB (((d.read 0).drop 8).take 8)) : (openS d).1 = 4 ∧ (openS d).2.d = d := by
  unfold openS
  simp only
  rw [if_neg h, if_pos h2]
  exact ⟨rfl, rfl⟩
theorem open_torn {d : Dk} {base : Nat} (h : ¬ (d.lasts.length < 64 ∨ (d.read 0).take 8 ≠ markB ∨ 127 < ((d.read 0).getD 8 0).toNat)) (hb : base = numB (((d.read 0).drop 8).take 8)) (h2 : base ≤ 4611686018427387904) (h3 : replayAll (((Pg.made d.lasts.length).pages : Int) - 1) (runG (d.lasts.length / 4) (gAt 1 d) (d.lasts.length / 4) base [] [] base).1 [] = none) : (openS d).1 = 4 ∧ (openS d).2.d = d := by
  subst hb
  unfold openS
  simp only
  rw [if_neg h, if_neg (by omega), h3]
  exact ⟨rfl, rfl⟩
theorem open_on {d : Dk} {base : Nat} {D : List (Nat × Sec)} (h : ¬ (d.lasts.length < 64 ∨ (d.read 0).take 8 ≠ markB ∨ 127 < ((d.read 0).getD 8 0).toNat)) (hb : base = numB (((d.read 0).drop 8).take 8)) (h2 : base ≤ 4611686018427387904) (h3 : replayAll (((Pg.made d.lasts.length).pages : Int) - 1) (runG (d.lasts.length / 4) (gAt 1 d) (d.lasts.length / 4) base [] [] base).1 [] = some D) {s : Sy} (hs : s = ⟨{ Pg.made d.lasts.length with dirty := D }, Rg.opened 1 (d.lasts.length / 4) base (gAt 1 d), d⟩) : openS d = if (s.settle s.r.top).1 ≠ 0 then s.settle s.r.top else (0, (s.settle s.r.top).2.abort) := by
  subst hb
  unfold openS
  simp only
  rw [if_neg h, if_neg (by omega), h3]
  simp only
  rw [hs]
end Go.Proofs.YteoeaojebklfjaaGreatDoor
namespace Go.Proofs.YteoeaojebklfjaaGreatDoor
open Go.RowKit Go.Maps
set_option linter.unusedVariables false
set_option linter.unusedSimpArgs false
set_option maxRecDepth 20000
theorem same_str (a b : ByteArray) : (a.toList == b.toList) = decide (a = b) := by
  rw [Bool.eq_iff_iff, beq_iff_eq, decide_eq_true_eq]
  constructor
  · intro h
    rw [ByteArray.toList_eq, ByteArray.toList_eq] at h
    have := Array.toList_inj.1 h
    cases a; cases b; simp_all
  · rintro rfl; rfl
theorem st_mark (s : Sec) : (st s = ⟨#[98, 117, 116, 116, 101, 114, 121, 49]⟩) ↔ s = markB := by
  constructor
  · intro h
    unfold st at h
    injection h with h
    have := congrArg Array.toList h
    exact this
  · rintro rfl; rfl
theorem numB_lt8 {s : List UInt8} (h : s.length = 512) (h8 : (s.getD 8 0).toNat ≤ 127) : numB ((s.drop 8).take 8) < 9223372036854775808 := by
  have e : (s.drop 8).take 8 = s.getD 8 0 :: (s.drop 9).take 7 := by
    have hd : s.drop 8 = s.getD 8 0 :: s.drop 9 := by
      rw [List.getD_eq_getElem?_getD, List.getElem?_eq_getElem (by rw [h]; decide)]
      exact List.drop_eq_getElem_cons (by rw [h]; decide)
    rw [hd]
    rfl
  rw [e, numB_cons]
  have hl : ((s.drop 9).take 7).length = 7 := by rw [List.length_take, List.length_drop, h]; decide
  have := numB_lt ((s.drop 9).take 7)
  rw [hl] at this ⊢
  have e7 : (256 : Nat) ^ 7 = 72057594037927936 := by decide
  rw [e7] at this ⊢
  omega
section
variable {a : Act} {o : Oper} {x : Operand}
theorem slice_8 (w : World) {g off cap : Nat} (hc : 512 ≤ cap) : (Instr.sliceAt 35 (.slice (some ⟨g, off, none⟩) 512 cap) (some (.int .i64 8)) (some (.int .i64 16)) none).run Tryz.prog w = .ok (.slice (some ⟨g, off + 8, none⟩) 8 (cap - 8)) w := by
  have hs : (Tryz.prog.info? 5).map (·.size) = some 1 := info5s
  have c0 : (0 : Int) ≤ (cap : Int) := by omega
  have c1 : (16 : Int) ≤ (cap : Int) := by omega
  have c2 : ¬ cap = 8 := by omega
  go_simp
theorem y_slice8 (w : World) {g off cap : Nat} {lo hi : Operand} (hc : 512 ≤ cap) (ho : o.op = .slice 35 x (some lo) (some hi) none) (hx : a.eval x = .slice (some ⟨g, off, none⟩) 512 cap) (hl : a.eval lo = .int .i64 8) (hh : a.eval hi = .int .i64 16) : (execOp a.eval o).run Tryz.prog w = .ok (.value (.slice (some ⟨g, off + 8, none⟩) 8 (cap - 8))) w := by
  unfold execOp
  simp only [ho, Sem.run_bind, Option.map_some, Option.map_none, hx, hl, hh, slice_8 w hc, Result.andThen_ok, Sem.run_pure]
end
theorem To.from {w W w2 : World} {L L' : Lo} {R R' : Nat} {F F' : Nat → Prop} (o : Only None' w W) (t : To W w2 L R F L' R' F') (hL : ∀ k, L.own k → w.heap.size ≤ k) (hR : w.heap.size ≤ R) : Kept F F' w w2 ∧ (∀ k, L'.own k → w.heap.size ≤ k) ∧ w.heap.size ≤ R' := by
  have hs := o.size
  refine ⟨⟨(o.mono (S' := F) fun _ _ e => e.elim).trans2 t.only fun k hk e => ?_, fun k hk => (t.dsk k hk).imp id fun e => by omega⟩, fun k hk => ?_, ?_⟩
  · rcases e with e | rfl | e
    · have := hL k e; omega
    · omega
    · exact e
  · rcases t.own k (.inl hk) with (e | e) | e
    · exact hL k e
    · omega
    · omega
  · rcases t.own R' (.inr rfl) with (e | e) | e
    · exact hL _ e
    · omega
    · omega
set_option maxHeartbeats 8000000 in
theorem Open_any {w : World} {D : Nat} {F : Nat → Prop} {d : Dk} (h : DiskAt w D F d) (hdd : d.dead = false) {n : Nat} (hf : d.Few n) (hn : n ≤ 700000) (hl1 : 1 ≤ d.lasts.length) (hl2 : d.lasts.length ≤ 1000) :
    Calls Tryz.prog 17 #[.pointer (some ⟨D, 0, none⟩)] w (OpenRes w D F d) := by
  have H := Lib.hid h
  have hrd := read_any h hdd (i := 0) (by omega) (by have := hf.waits; omega)
  have HRD := Lib.hid hrd
  have HOK := Lib.hid (And.intro hdd (And.intro hf (And.intro hn (And.intro hl1 hl2))))
  have HLN := Lib.hid (fun w' (o : Only None' w w') => len_any (h.new o))
  obtain ⟨len, hlen⟩ : ∃ len, len = d.lasts.length := ⟨_, rfl⟩
  rw [← hlen] at HLN
  have HLEN := Lib.hid hlen
  obtain ⟨b0, hb0⟩ : ∃ b0, b0 = d.read 0 := ⟨_, rfl⟩
  rw [← hb0] at HRD
  have HB0 := Lib.hid (And.intro hb0 (show b0.length = 512 by rw [hb0]; exact Dk.read_len h.ok (by omega)))
  have n1 : (len : Int) ≤ 1000 := by omega
  clear h hdd hf hn hl1 hl2 hrd hlen hb0
  go_enter Tryz.func17, Tryz.ntmps17
  go_wp2_with fail
  refine HRD.out.mono ?_
  rintro e w1 ⟨v, rfl, hv, hfr, o1⟩
  obtain ⟨g, off, cap, rfl, hcap, hmx, hgl, hcl, hth⟩ := hv.at_ (by decide)
  have HV := Lib.hid (And.intro hv (And.intro o1 (hfr g rfl)))
  have hlb := HB0.out.2
  have c8 : w1.cell? ⟨g, off + 8, none⟩ = some (.int .u8 ((b0.getD 8 0).toNat : Int)) := by
    refine hcl 8 _ ?_
    unfold bv
    rw [List.getElem?_map, List.getElem?_eq_getElem (by rw [hlb]; decide), List.getD_eq_getElem?_getD, List.getElem?_eq_getElem (by rw [hlb]; decide)]
    rfl
  have hlen1 := HLN.out w1 o1
  have HL1 := Lib.hid hlen1
  have hrow8 : ∀ j u, (bv (b0.take 8))[j]? = some u → w1.cell? ⟨g, off + j, none⟩ = some u := fun j u hu => by
    refine hcl j u ?_
    unfold bv at hu ⊢
    rw [List.map_take] at hu
    have hj : j < 8 := by
      have := (List.getElem?_eq_some_iff.1 hu).1
      rw [List.length_take] at this
      omega
    rwa [List.getElem?_take_of_lt hj] at hu
  have hst : ∀ c, 8 ≤ c → c ≤ maxLen → (convert 35 9 (.slice (some ⟨g, off, none⟩) 8 c)).run Tryz.prog w1 = .ok (.string (st (b0.take 8))) w1 := fun c h1 h2 => rd_string (n := 8) (by rw [List.length_take, hlb]; decide) ⟨by rw [bv_length, List.length_take, hlb]; decide, .inr ⟨⟨g, off, none⟩, c, rfl, h1, h2, fun j u hu => by rw [add_mid' (⟨g, off, none⟩) j rfl]; exact hrow8 j u hu⟩⟩
  have hst1 := hst cap (by omega) hmx
  clear hv o1 hfr hcl hth hlen1 hrow8 hst
  obtain ⟨cn, hcn⟩ : ∃ cn, cn = (b0.getD 8 0).toNat := ⟨_, rfl⟩
  have hcn2 : cn ≤ 255 := by rw [hcn]; have := (b0.getD 8 0).toNat_lt; omega
  rw [← hcn] at c8
  obtain ⟨fb, hfb⟩ : ∃ fb, fb = decide (len < 64 ∨ b0.take 8 ≠ markB ∨ 127 < cn) := ⟨_, rfl⟩
  have HFB := Lib.hid (And.intro hfb (And.intro hcn hcn2))
  obtain ⟨s8, hs8⟩ : ∃ s8, s8 = st (b0.take 8) := ⟨_, rfl⟩
  rw [← hs8] at hst1
  have cn0 : (0 : Int) ≤ (cn : Int) := by omega
  have hca : (512 : Int) ≤ (cap : Int) := by omega
  have hcm : (cap : Int) ≤ 9223372036854775807 := by unfold maxLen at hmx; omega
  have HCAP := Lib.hid (And.intro hcap hmx)
  clear hcn hlb hmx hcap
  go_upto_region 6 with fail
  go_cut [35] from 21 to 35 (fun c wx => c = .bool fb ∧ Hid (Only None' w1 wx))
  case first =>
    by_cases a1 : len < 64
    · have e : fb = true := by rw [hfb]; simp [a1]
      have d1 : (len : Int) < 64 := by omega
      subst e
      clear hfb a1 hst1 hs8
      go_wp2_with fail
      refine HL1.out.mono ?_
      rintro e w2 ⟨rfl, rfl⟩
      go_wp2_with fail
      go_meet
      exact ⟨rfl, Lib.hid (Only.refl _ _)⟩
    · have d1 : ¬ (len : Int) < 64 := by omega
      have d0 : decide ((len : Int) < 64) = false := decide_eq_false d1
      have hml : (⟨#[98, 117, 116, 116, 101, 114, 121, 49]⟩ : ByteArray).toList = [98, 117, 116, 116, 101, 114, 121, 49] := by rw [ByteArray.toList_eq]
      by_cases a2 : b0.take 8 = markB
      · have hq0 : (s8.toList == (⟨#[98, 117, 116, 116, 101, 114, 121, 49]⟩ : ByteArray).toList) = true := by rw [same_str, decide_eq_true_eq, hs8]; exact (st_mark _).2 a2
        rw [hml, beq_iff_eq] at hq0
        have hq1 : (s8.toList == [98, 117, 116, 116, 101, 114, 121, 49]) = true := by rw [beq_iff_eq]; exact hq0
        clear hml
        by_cases a3 : 127 < cn
        · have e : fb = true := by rw [hfb]; simp [a3]
          have d3 : (127 : Int) < (cn : Int) := by omega
          have d4 : decide ((127 : Int) < (cn : Int)) = true := decide_eq_true d3
          subst e
          clear hfb a1 a2 a3 hs8
          go_wp2_with fail
          refine HL1.out.mono ?_
          rintro e w2 ⟨rfl, rfl⟩
          go_wp2_with fail
          go_meet
          exact ⟨by first | rfl | (rw [d0, d4]; rfl), Lib.hid (Only.refl _ _)⟩
        · have e : fb = false := by rw [hfb]; simp [a1, a2, a3]
          have d3 : ¬ (127 : Int) < (cn : Int) := by omega
          have d4 : decide ((127 : Int) < (cn : Int)) = false := decide_eq_false d3
          subst e
          clear hfb a1 a2 a3 hs8
          go_wp2_with fail
          refine HL1.out.mono ?_
          rintro e w2 ⟨rfl, rfl⟩
          go_wp2_with fail
          go_meet
          exact ⟨by first | rfl | (rw [d0, d4]; rfl), Lib.hid (Only.refl _ _)⟩
      · have hq0 : (s8.toList == (⟨#[98, 117, 116, 116, 101, 114, 121, 49]⟩ : ByteArray).toList) = false := by
          rw [same_str, decide_eq_false_iff_not, hs8]
          exact fun h => a2 ((st_mark _).1 h)
        rw [hml] at hq0
        have hq1 : ¬ s8.toList = [98, 117, 116, 116, 101, 114, 121, 49] := fun e => by rw [e] at hq0; simp at hq0
        clear hml
        have e : fb = true := by rw [hfb]; simp [a2]
        subst e
        clear hfb a1 a2 hs8
        go_wp2_with fail
        refine HL1.out.mono ?_
        rintro e w2 ⟨rfl, rfl⟩
        go_wp2_with fail
        go_meet
        exact ⟨by first | rfl | (rw [d0]; rfl), Lib.hid (Only.refl _ _)⟩
  case rest =>
    obtain ⟨rfl, HO2⟩ := hcut
    have HO : Hid (Only None' w wc) := Lib.hid (HV.out.2.1.trans HO2.out)
    have HVC : Hid (Vec wc 1 (.slice (some ⟨g, off, none⟩) 512 cap) 512 (bv b0)) := Lib.hid (HV.out.1.only HO2.out fun _ _ e => e)
    clear c8 hst1 hs8 hfb HL1 HLN HRD cn0 hca hcm hcn2 hgl HV HO2
    generalize wc = w2 at HO HVC ⊢
    cases fb with
    | true =>
      go_wp2_with fail
      go_ret2
      have hof := open_form (d := d) (by
        have := of_decide_eq_true HFB.out.1.symm
        rw [HFB.out.2.1, HB0.out.1, HLEN.out] at this
        exact this)
      left
      refine ⟨by rw [hof.1]; decide, by rw [hof.1]; rfl, F, by rw [hof.2]; exact H.out.new HO.out, Kept.new HO.out⟩
    | false =>
      have HNB : Hid (¬ (d.lasts.length < 64 ∨ (d.read 0).take 8 ≠ markB ∨ 127 < ((d.read 0).getD 8 0).toNat)) := Lib.hid (by
        have := of_decide_eq_false HFB.out.1.symm
        rw [HFB.out.2.1, HB0.out.1, HLEN.out] at this
        exact this)
      have HM := Lib.hid (made_any (H.out.new HO.out) (show 4 ≤ d.lasts.length by have := HNB.out; omega))
      clear HFB
      go_wp2_with fail
      refine HM.out.mono ?_
      rintro e w3 ⟨L, rfl, hLD, hP, hLn, o3⟩
      have HP := Lib.hid (And.intro hP (And.intro hLD (And.intro (show ∀ k, L.own k → w.heap.size ≤ k from fun k hk => Nat.le_trans HO.out.size (hLn k hk)) (HO.out.trans o3))))
      have HV3 : Hid (∀ w', Only None' w3 w' → Vec w' 1 (.slice (some ⟨g, off, none⟩) 512 cap) 512 (bv b0)) := Lib.hid fun w' o => (HVC.out.only o3 fun _ _ e => e).only o fun _ _ e => e
      have hd3 : DiskAt w3 D F d := (H.out.new HO.out).new o3
      have HD3 := Lib.hid hd3
      have HPL : Hid (∀ w', Only None' w3 w' → Calls Tryz.prog 55 #[.pointer (some ⟨D, 0, none⟩)] w' fun e w'' => e = .returned (.int .i64 ((d.lasts.length / 4 : Nat) : Int)) ∧ w' = w'') := Lib.hid fun w' o => places_any (hd3.new o)
      obtain ⟨q, hq⟩ : ∃ q, q = d.lasts.length / 4 := ⟨_, rfl⟩
      have HQ := Lib.hid hq
      rw [← hq] at HPL
      obtain ⟨base, hbase⟩ : ∃ base, base = numB (((d.read 0).drop 8).take 8) := ⟨_, rfl⟩
      have HBA := Lib.hid hbase
      have hb63 : base < 9223372036854775808 := by
        rw [hbase]
        refine numB_lt8 (by rw [← HB0.out.1]; exact HB0.out.2) ?_
        have := HNB.out
        omega
      have HNU : Hid (∀ w', Only None' w3 w' → Calls Tryz.prog 39 #[.slice (some ⟨g, off + 8, none⟩) 8 (cap - 8)] w' fun e w'' => e = .returned (.int .i64 (base : Int)) ∧ w' = w'') := Lib.hid fun w' o => by
        have hl8 : ((b0.drop 8).take 8).length = 8 := by rw [List.length_take, List.length_drop, HB0.out.2]; decide
        have := number_any (w := w') (g := g) (off := off + 8) (cap := cap - 8) (s := (b0.drop 8).take 8) (fun j u hu => by
          have hj : j < 8 := by
            have := (List.getElem?_eq_some_iff.1 hu).1
            rwa [bv_length, hl8] at this
          have h2 := (HV3.out w' o).range (8 + j) u (by
            unfold bv at hu ⊢
            rw [List.map_take, List.map_drop, List.getElem?_take_of_lt hj, List.getElem?_drop] at hu
            exact hu)
          rw [show off + 8 + j = off + (8 + j) by omega]
          exact h2) (by omega) (by have := HCAP.out.1; omega) (by rw [HB0.out.1, ← hbase]; exact hb63)
        rw [hl8, HB0.out.1, ← hbase] at this
        exact this
      clear hP hLD hLn o3 hq hbase hb63 hd3 HM
      by_cases hbig : base ≤ 4611686018427387904
      · have HBG := Lib.hid hbig
        have HRO : Hid (∀ w', Only None' w3 w' → Calls Tryz.prog 54 #[.pointer (some ⟨D, 0, none⟩), .int .i64 1, .int .i64 (q : Int), .int .i64 (base : Int)] w' fun e w'' => ∃ R v2, e = .returned (.tuple #[.pointer (some ⟨R, 0, none⟩), v2, .int .i64 0]) ∧ w'.heap.size ≤ R ∧ RingAt w'' R D (Rg.opened 1 q base (gAt 1 d)) ∧ Recs w'' (fun k => w'.heap.size ≤ k ∧ k ≠ R) v2 (runG q (gAt 1 d) q base [] [] base).1 ∧ Only None' w' w'') := Lib.hid fun w' o => by
          have h1 := HNB.out
          have h2 := HQ.out
          exact ropen_any (HD3.out.new o) HOK.out.1 (by have := HOK.out.2.1.waits; have := HOK.out.2.2.1; omega) (first := 1) (count := q) (base := base) (by omega) (by omega) hbig
        clear hbig
        go_upto_region 9 with fail
        refine r_begin (S := None') (by kernel_rfl) ?_
        have HS := Lib.hid (Only.refl (None') w3)
        refine r_take 0 (.pointer (some ⟨D, 0, none⟩)) rfl (by kernel_rfl) (fun _ _ _ h => h) HS.out (YR.pure (by rfl) fun w hw => y_move w rfl rfl) ?_
        simp only [Act.put, zA, zB, zC]
        refine r_take 1 (.pointer (some ⟨D, 0, none⟩)) rfl (by kernel_rfl) (fun _ _ _ h => h) HS.out (YR.pure (by rfl) fun w hw => y_move w rfl rfl) ?_
        simp only [Act.put, zA, zB, zC]
        refine r_take 2 (.int .i64 (q : Int)) rfl (by kernel_rfl) (fun _ _ _ h => h) HS.out (YR.call (by rfl) (fun w => y_enter [.pointer (some ⟨D, 0, none⟩)] rfl (by rfl) (call55_ _) w) fun w hw => (HPL.out w hw).mono fun e w2 h => ⟨h.1, by rw [h.2]; exact Only.refl _ _⟩) ?_
        simp only [Act.put, zA, zB, zC]
        refine r_take 3 (.slice (some ⟨g, off, none⟩) 512 cap) rfl (by kernel_rfl) (fun _ _ _ h => h) HS.out (YR.pure (by rfl) fun w hw => y_move w rfl rfl) ?_
        simp only [Act.put, zA, zB, zC]
        refine r_take 4 (.slice (some ⟨g, off + 8, none⟩) 8 (cap - 8)) rfl (by kernel_rfl) (fun _ _ _ h => h) HS.out (YR.pure (by rfl) fun w hw => y_slice8 w HCAP.out.1 rfl rfl rfl rfl) ?_
        simp only [Act.put, zA, zB, zC]
        refine r_take 5 (.int .i64 (base : Int)) rfl (by kernel_rfl) (fun _ _ _ h => h) HS.out (YR.call (by rfl) (fun w => y_enter [.slice (some ⟨g, off + 8, none⟩) 8 (cap - 8)] rfl (by rfl) (call39_ _) w) fun w hw => (HNU.out w hw).mono fun e w2 h => ⟨h.1, by rw [h.2]; exact Only.refl _ _⟩) ?_
        simp only [Act.put, zA, zB, zC]
        refine r_one 6 rfl (by kernel_rfl) (by rfl) fun wi oi => ?_
        refine wp_enter (y_enter [.pointer (some ⟨D, 0, none⟩), .int .i64 1, .int .i64 (q : Int), .int .i64 (base : Int)] rfl (by rfl) (call54_ _) wi) ((HRO.out wi oi).mono ?_)
        rintro e wj ⟨R, v2, rfl, hsz, hrg, hrc, oj⟩
        refine ⟨_, rfl, (HS.out.quiet oi).quiet oj, ?_⟩
        simp only [Act.put, zA, zB, zC]
        have HT := Lib.hid ((HS.out.quiet oi).quiet oj)
        have HRG := Lib.hid (And.intro (Nat.le_trans oi.size hsz) (And.intro hrg (hrc.mono fun k _ hk => (⟨Nat.le_trans oi.size hk.1, hk.2⟩ : w3.heap.size ≤ k ∧ k ≠ R))))
        clear hsz hrg hrc
        clear HS oi oj
        have HS := HT
        clear HT
        refine r_take 7 (.tuple #[.pointer (some ⟨R, 0, none⟩), v2, .int .i64 0]) rfl (by kernel_rfl) (fun _ _ _ h => h) HS.out (YR.pure (by rfl) fun w hw => y_move w rfl rfl) ?_
        simp only [Act.put, zA, zB, zC]
        refine r_take 8 (.pointer (some ⟨R, 0, none⟩)) rfl (by kernel_rfl) (fun _ _ _ h => h) HS.out (YR.pure (by rfl) fun w hw => y_t0 w rfl rfl) ?_
        simp only [Act.put, zA, zB, zC]
        refine r_take 9 (v2) rfl (by kernel_rfl) (fun _ _ _ h => h) HS.out (YR.pure (by rfl) fun w hw => y_t1 w rfl rfl) ?_
        simp only [Act.put, zA, zB, zC]
        refine r_take 10 (.int .i64 0) rfl (by kernel_rfl) (fun _ _ _ h => h) HS.out (YR.pure (by rfl) fun w hw => y_t2 w rfl rfl) ?_
        simp only [Act.put, zA, zB, zC]
        refine r_take 11 (.pointer (some ⟨R, 0, none⟩)) rfl (by kernel_rfl) (fun _ _ _ h => h) HS.out (YR.pure (by rfl) fun w hw => y_assign w rfl rfl) ?_
        simp only [Act.put, zA, zB, zC]
        refine r_take 12 (v2) rfl (by kernel_rfl) (fun _ _ _ h => h) HS.out (YR.pure (by rfl) fun w hw => y_assign w rfl rfl) ?_
        simp only [Act.put, zA, zB, zC]
        refine r_take 13 (.int .i64 0) rfl (by kernel_rfl) (fun _ _ _ h => h) HS.out (YR.pure (by rfl) fun w hw => y_assign w rfl rfl) ?_
        simp only [Act.put, zA, zB, zC]
        refine r_done (by kernel_rfl) fun wz oz => ?_
        have HO4 := Lib.hid (And.intro (HS.out.trans oz) (And.intro HRG.out.1 (And.intro (HRG.out.2.1.kept oz fun e => e) (HRG.out.2.2.only oz fun _ _ e => e))))
        clear HS oz HRG HPL HNU HRO
        generalize wz = w4 at HO4 ⊢
        obtain ⟨va, vc, hve⟩ := HO4.out.2.2.2.shape
        subst hve
        obtain ⟨rs, hrs⟩ : ∃ rs, rs = (runG q (gAt 1 d) q base [] [] base).1 := ⟨_, rfl⟩
        rw [← hrs] at HO4 ⊢
        have HRS := Lib.hid hrs
        have hq3 : q ≤ 250 := by rw [HQ.out]; have := HOK.out.2.2.2.2; omega
        have hrsm : rs.length ≤ q ∧ ∀ r ∈ rs, r.length ≤ 501 * q := by rw [hrs]; exact run_small
        have hPl : L.Md < w3.heap.size := HP.out.1.lt (.inr (.inl rfl))
        have h64 := HNB.out
        have hpgs : (Pg.made d.lasts.length).pages = d.lasts.length - 1 - d.lasts.length / 4 := rfl
        have hrp := replay_any (HP.out.1.new HO4.out.1) HO4.out.2.2.2 (fun k hk e => by omega) (fun q hq => by simp [Pg.made] at hq) (by rw [hpgs]; omega) (by rw [hpgs]; have := HOK.out.2.2.2.2; omega) (fun b hb => by have := hrsm.2 b hb; have : 501 * q ≤ 501 * 250 := Nat.mul_le_mul_left _ hq3; omega) (by omega)
        obtain ⟨rl, hrl⟩ : ∃ rl, rl = rs.length := ⟨_, rfl⟩
        rw [← hrl] at hrp ⊢
        have HRP := Lib.hid hrp
        clear hrs hq3 hrsm hPl h64 hpgs hrp hrl
        cases hra : replayAll (((Pg.made d.lasts.length).pages : Int) - 1) rs [] with
        | none =>
          have HRA := Lib.hid hra
          clear hra
          go_wp2_with fail
          refine HRP.out.mono ?_
          intro e w5 h5
          unfold RpRes at h5
          have hra' : replayAll (((Pg.made d.lasts.length).pages : Int) - 1) rs (Pg.made d.lasts.length).dirty = none := HRA.out
          rw [hra'] at h5
          obtain ⟨o5, rfl⟩ := h5
          have O5 := Lib.hid o5
          clear o5 hra'
          go_wp2_with fail
          go_ret2
          have hof := open_torn HNB.out HBA.out HBG.out (by rw [← HQ.out, ← HRS.out]; exact HRA.out)
          have oo : Only None' w w5 := (HP.out.2.2.2.trans HO4.out.1).trans2 O5.out fun k hk e => by have := HP.out.2.2.1 k (.inr (.inl e)); omega
          left
          refine ⟨by rw [hof.1]; decide, by rw [hof.1]; rfl, F, by rw [hof.2]; exact H.out.new oo, Kept.new oo⟩
        | some Dm =>
          have HRA := Lib.hid hra
          clear hra
          go_wp2_with fail
          refine HRP.out.mono ?_
          intro e w5 h5
          unfold RpRes at h5
          have hra' : replayAll (((Pg.made d.lasts.length).pages : Int) - 1) rs (Pg.made d.lasts.length).dirty = some Dm := HRA.out
          rw [hra'] at h5
          obtain ⟨o5, rfl, h5, k5⟩ := h5
          have O5 := Lib.hid (And.intro o5 (And.intro h5 k5))
          have f1 := h5.cells.thaw 1
          have c1 := h5.cells.is 1 _ rfl
          obtain ⟨w6, hw6⟩ : ∃ w6, w6 = w5.setCell ⟨L.P, 1, none⟩ (.pointer (some ⟨R, 0, none⟩)) := ⟨_, rfl⟩
          obtain ⟨h6, o6⟩ := h5.setLog hw6
          have HW6 := Lib.hid hw6
          obtain ⟨s1, hs1⟩ : ∃ s1 : Sy, s1 = ⟨{ Pg.made d.lasts.length with dirty := Dm }, Rg.opened 1 (d.lasts.length / 4) base (gAt 1 d), d⟩ := ⟨_, rfl⟩
          have h4 := HO4.out
          have hLw : ∀ k, L.own k → k < w3.heap.size := fun k hk => HP.out.1.lt hk
          have hF : ∀ k, F k → k < w.heap.size := fun k hk => H.out.lt hk
          have hs3 := HP.out.2.2.2.size
          have hd6 : DiskAt w6 D F d := ((HD3.out.new h4.1).only o5 fun k hk e => by have := hF k hk; have := HP.out.2.2.1 k (.inr (.inl e)); omega).only o6 fun k hk e => by have := hF k hk; have := HP.out.2.2.1 k (.inl e); omega
          have hr6 : RingAt w6 R D (Rg.opened 1 q base (gAt 1 d)) := (h4.2.2.1.kept o5 fun e => by have := hLw R (.inr (.inl e)); omega).kept o6 fun e => by have := hLw R (.inl e); omega
          have h6s : SyAt w6 L R F s1 := by
            rw [hs1]
            refine ⟨h6, ?_, ?_, fun k hk hk' => ?_, fun hk => ?_, fun hk => ?_⟩
            · show RingAt w6 R L.D _
              rw [HP.out.2.1, ← HQ.out]; exact hr6
            · show DiskAt w6 L.D F d
              rw [HP.out.2.1]; exact hd6
            · have := hF k hk'; have := HP.out.2.2.1 k hk; omega
            · have := hLw R hk; omega
            · have := hF R hk; omega
          have o06 : Only None' w w6 := ((HP.out.2.2.2.trans h4.1).trans2 o5 fun k hk e => by have := HP.out.2.2.1 k (.inr (.inl e)); omega).trans2 o6 fun k hk e => by have := HP.out.2.2.1 k (.inl e); omega
          have hlen8 : 64 ≤ d.lasts.length := by have := HNB.out; omega
          have hmx := HOK.out.2.2.2.2
          have hDl : Dm.length ≤ (Pg.made d.lasts.length).pages := rise_le h5.dirty.rise k5
          have hpgs : (Pg.made d.lasts.length).pages ≤ 1000 := by show d.lasts.length - 1 - d.lasts.length / 4 ≤ 1000; omega
          have hp1 : s1.p.Ok := by
            rw [hs1]
            have hz : Meta.none.Fits := ⟨by decide, by decide, by decide, by decide, by decide⟩
            refine ⟨?_, by show (Pg.made d.lasts.length).pages ≤ _; omega, fun q hq => ⟨?_, ?_⟩, fun q hq => by simp [Pg.made] at hq, by show Dm.length ≤ _; omega, Nat.zero_le _, Nat.zero_le _, Nat.zero_le _, hz, hz⟩
            · show 1 + d.lasts.length / 4 ≤ _; omega
            · have := k5 q hq; omega
            · exact replayAll_ok _ _ _ HRA.out (fun q hq => by simp at hq) q hq
          have hbt : s1.r.top ≤ 4611686018427387904 := by
            rw [hs1]
            exact (Rg.opened_ok (by omega) (by omega) HBG.out).top
          have htp := top_any h6s.ring
          have hse := settle_any h6s hp1 (by rw [hs1]; exact HOK.out.1) (n := n) (by rw [hs1]; exact HOK.out.2.1) HOK.out.2.2.1 (by rw [hs1]; show 8 ≤ d.lasts.length; omega) hbt
          have hopn := open_on HNB.out HBA.out HBG.out (by rw [← HQ.out, ← HRS.out]; exact HRA.out) hs1
          have hgd := settle_good (s := s1) (base := s1.r.top)
          have hgl := settle_live (s := s1) (base := s1.r.top) (by rw [hs1]; exact HOK.out.1)
          have hgf := settle_few (s := s1) (n := n) (base := s1.r.top) (by rw [hs1]; exact HOK.out.2.1)
          have hgn := settle_len (s := s1) (base := s1.r.top)
          have hpd : s1.p.dirty.length ≤ 1000 ∧ s1.d.lasts.length = d.lasts.length ∧ s1.p.first + s1.p.pages ≤ d.lasts.length ∧ 1 ≤ s1.p.pages := by
            rw [hs1]
            refine ⟨by show Dm.length ≤ _; omega, rfl, ?_, ?_⟩
            · show 1 + d.lasts.length / 4 + (d.lasts.length - 1 - d.lasts.length / 4) ≤ _; omega
            · show 1 ≤ d.lasts.length - 1 - d.lasts.length / 4; omega
          obtain ⟨cB, sB, hB⟩ : ∃ cB sB, s1.settle s1.r.top = (cB, sB) := ⟨_, _, rfl⟩
          rw [hB] at hse hgd hgl hgf hgn hopn
          have HTP := Lib.hid htp
          have HSE := Lib.hid hse
          have HG := Lib.hid (And.intro hgd (And.intro hgl (And.intro hgf (And.intro hgn (And.intro hpd (And.intro hopn hp1))))))
          have H6 := Lib.hid (And.intro h6s o06)
          clear o5 h5 k5 h6 o6 hw6 hs1 h4 hLw hF hs3 hd6 hr6 h6s o06 hlen8 hmx hDl hpgs hp1 hbt htp hse hopn hgd hgl hgf hgn hpd hB hra'
          go_wp2_with fail
          rw [← HW6.out]
          refine HTP.out.mono ?_
          rintro e w7 ⟨rfl, rfl⟩
          clear f1 c1
          go_wp2_with fail
          refine HSE.out.mono ?_
          rintro e w8 ⟨rfl, L2, R2, F2, h8, t8⟩
          have H8 := Lib.hid (And.intro h8 (To.from H6.out.2 t8 HP.out.2.2.1 (by have := HO4.out.2.1; have := HP.out.2.2.2.size; omega)))
          have HT8 := Lib.hid t8
          clear h8 t8
          by_cases h0 : cB = 0
          · subst h0
            have hab := abort_sy H8.out.1 (by rw [(HG.out.1 rfl).1]; exact ⟨HG.out.2.2.2.2.2.2.first, HG.out.2.2.2.2.2.2.pages, fun q hq => by simp [Pg.settled] at hq, HG.out.2.2.2.2.2.2.now, Nat.zero_le _, HG.out.2.2.2.2.2.2.nl, HG.out.2.2.2.2.2.2.il, HG.out.2.2.2.2.2.2.cl, HG.out.2.2.2.2.2.2.m, HG.out.2.2.2.2.2.2.kept⟩) (HG.out.2.1 rfl) HG.out.2.2.1 (by have := HOK.out.2.2.1; have := HG.out.2.2.2.2.1.1; omega) (by rw [(HG.out.1 rfl).1, HG.out.2.2.2.1, HG.out.2.2.2.2.1.2.1]; exact HG.out.2.2.2.2.1.2.2.1) (by rw [(HG.out.1 rfl).1]; exact HG.out.2.2.2.2.1.2.2.2)
            rw [HT8.out.P] at hab
            have HAB := Lib.hid hab
            have HOP : Hid (openS d = (0, sB.abort)) := Lib.hid (by
              have := HG.out.2.2.2.2.2.1
              rw [if_neg (by simp)] at this
              exact this)
            clear hab
            go_wp2_with fail
            refine HAB.out.mono ?_
            rintro e w9 ⟨rfl, L3, R3, F3, h9, t9⟩
            have H9 := Lib.hid (And.intro h9 (HT8.out.trans t9))
            clear h9 t9
            go_wp2_with fail
            go_ret2
            have hfr := To.from H6.out.2 H9.out.2 HP.out.2.2.1 (by have := HO4.out.2.1; have := HP.out.2.2.2.size; omega)
            right
            rw [HOP.out]
            exact ⟨rfl, L3, R3, F3, by rw [H9.out.2.P]; rfl, H9.out.1, by rw [H9.out.2.D]; exact HP.out.2.1, hfr.2.1, hfr.2.2, hfr.1⟩
          · have HOP : Hid (openS d = (cB, sB)) := Lib.hid (by
              have := HG.out.2.2.2.2.2.1
              rw [if_pos h0] at this
              exact this)
            have e3 : (cB == 0) = false := by simpa using h0
            have e4 : (cB != 0) = true := by rw [bne, e3]; rfl
            have H0 := Lib.hid h0
            clear h0
            go_wp2_with fail
            go_ret2
            left
            rw [HOP.out]
            refine ⟨H0.out, rfl, F2, ?_, H8.out.2.1⟩
            have := H8.out.1.disk
            rwa [HT8.out.D, HP.out.2.1] at this
      · have HBG := Lib.hid (show 4611686018427387904 < base by omega)
        have HRO : Hid (∀ w', Only None' w3 w' → Calls Tryz.prog 54 #[.pointer (some ⟨D, 0, none⟩), .int .i64 1, .int .i64 (q : Int), .int .i64 (base : Int)] w' fun e w'' => e = .returned (.tuple #[.pointer none, .slice none 0 0, .int .i64 1]) ∧ Only None' w' w'') := Lib.hid fun w' o => (open_bad (HD3.out.new o) 1 (q : Int) (base : Int) (.inr (.inr (.inr (.inr (.inr (by omega))))))).mono fun e w2 h => ⟨h.1, by rw [h.2]; exact Only.refl _ _⟩
        clear hbig
        go_upto_region 9 with fail
        refine r_begin (S := None') (by kernel_rfl) ?_
        have HS := Lib.hid (Only.refl (None') w3)
        refine r_take 0 (.pointer (some ⟨D, 0, none⟩)) rfl (by kernel_rfl) (fun _ _ _ h => h) HS.out (YR.pure (by rfl) fun w hw => y_move w rfl rfl) ?_
        simp only [Act.put, zA, zB, zC]
        refine r_take 1 (.pointer (some ⟨D, 0, none⟩)) rfl (by kernel_rfl) (fun _ _ _ h => h) HS.out (YR.pure (by rfl) fun w hw => y_move w rfl rfl) ?_
        simp only [Act.put, zA, zB, zC]
        refine r_take 2 (.int .i64 (q : Int)) rfl (by kernel_rfl) (fun _ _ _ h => h) HS.out (YR.call (by rfl) (fun w => y_enter [.pointer (some ⟨D, 0, none⟩)] rfl (by rfl) (call55_ _) w) fun w hw => (HPL.out w hw).mono fun e w2 h => ⟨h.1, by rw [h.2]; exact Only.refl _ _⟩) ?_
        simp only [Act.put, zA, zB, zC]
        refine r_take 3 (.slice (some ⟨g, off, none⟩) 512 cap) rfl (by kernel_rfl) (fun _ _ _ h => h) HS.out (YR.pure (by rfl) fun w hw => y_move w rfl rfl) ?_
        simp only [Act.put, zA, zB, zC]
        refine r_take 4 (.slice (some ⟨g, off + 8, none⟩) 8 (cap - 8)) rfl (by kernel_rfl) (fun _ _ _ h => h) HS.out (YR.pure (by rfl) fun w hw => y_slice8 w HCAP.out.1 rfl rfl rfl rfl) ?_
        simp only [Act.put, zA, zB, zC]
        refine r_take 5 (.int .i64 (base : Int)) rfl (by kernel_rfl) (fun _ _ _ h => h) HS.out (YR.call (by rfl) (fun w => y_enter [.slice (some ⟨g, off + 8, none⟩) 8 (cap - 8)] rfl (by rfl) (call39_ _) w) fun w hw => (HNU.out w hw).mono fun e w2 h => ⟨h.1, by rw [h.2]; exact Only.refl _ _⟩) ?_
        simp only [Act.put, zA, zB, zC]
        refine r_one 6 rfl (by kernel_rfl) (by rfl) fun wi oi => ?_
        refine wp_enter (y_enter [.pointer (some ⟨D, 0, none⟩), .int .i64 1, .int .i64 (q : Int), .int .i64 (base : Int)] rfl (by rfl) (call54_ _) wi) ((HRO.out wi oi).mono ?_)
        rintro e wj ⟨rfl, oj⟩
        refine ⟨_, rfl, (HS.out.quiet oi).quiet oj, ?_⟩
        simp only [Act.put, zA, zB, zC]
        have HT := Lib.hid ((HS.out.quiet oi).quiet oj)
        clear HS oi oj
        have HS := HT
        clear HT
        refine r_take 7 (.tuple #[.pointer none, .slice none 0 0, .int .i64 1]) rfl (by kernel_rfl) (fun _ _ _ h => h) HS.out (YR.pure (by rfl) fun w hw => y_move w rfl rfl) ?_
        simp only [Act.put, zA, zB, zC]
        refine r_take 8 (.pointer none) rfl (by kernel_rfl) (fun _ _ _ h => h) HS.out (YR.pure (by rfl) fun w hw => y_t0 w rfl rfl) ?_
        simp only [Act.put, zA, zB, zC]
        refine r_take 9 (.slice none 0 0) rfl (by kernel_rfl) (fun _ _ _ h => h) HS.out (YR.pure (by rfl) fun w hw => y_t1 w rfl rfl) ?_
        simp only [Act.put, zA, zB, zC]
        refine r_take 10 (.int .i64 1) rfl (by kernel_rfl) (fun _ _ _ h => h) HS.out (YR.pure (by rfl) fun w hw => y_t2 w rfl rfl) ?_
        simp only [Act.put, zA, zB, zC]
        refine r_take 11 (.pointer none) rfl (by kernel_rfl) (fun _ _ _ h => h) HS.out (YR.pure (by rfl) fun w hw => y_assign w rfl rfl) ?_
        simp only [Act.put, zA, zB, zC]
        refine r_take 12 (.slice none 0 0) rfl (by kernel_rfl) (fun _ _ _ h => h) HS.out (YR.pure (by rfl) fun w hw => y_assign w rfl rfl) ?_
        simp only [Act.put, zA, zB, zC]
        refine r_take 13 (.int .i64 1) rfl (by kernel_rfl) (fun _ _ _ h => h) HS.out (YR.pure (by rfl) fun w hw => y_assign w rfl rfl) ?_
        simp only [Act.put, zA, zB, zC]
        refine r_done (by kernel_rfl) fun wz oz => ?_
        have HO4 := Lib.hid (HP.out.2.2.2.trans (HS.out.trans oz))
        clear HS oz HPL HNU HRO
        generalize wz = w4 at HO4 ⊢
        go_wp2_with fail
        go_ret2
        have hof := open_great HNB.out (by rw [← HBA.out]; exact HBG.out)
        left
        refine ⟨by rw [hof.1]; decide, by rw [hof.1]; rfl, F, by rw [hof.2]; exact H.out.new HO4.out, Kept.new HO4.out⟩
end Go.Proofs.YteoeaojebklfjaaGreatDoor
