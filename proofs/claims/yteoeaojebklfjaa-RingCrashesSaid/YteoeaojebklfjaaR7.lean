/- DiskPlays: the walk. -/
import Derived.Test.YteoeaojebklfjaaR6
namespace Go.Proofs.Yteoeaojebklfjaa
open Go.RowKit Go.Maps
set_option linter.unusedVariables false

set_option maxRecDepth 20000 in
theorem plays_long (x : Int) (a : Option Addr) (n c : Nat) (w : World) (h : 80 < n) :
    Calls Try.prog 7 #[.int .i64 x, .slice a n c] w fun r w' => r = .returned (.bool true) ∧ Below w.heap.size w w' := by
  have hl := long_any a n c w
  rw [show decide (80 < (n : Int)) = true by simp; omega] at hl
  have HL := Lib.hid hl
  clear hl h
  go_enter Try.func7, Try.ntmps7
  go_wp2_with fail
  refine HL.out.mono ?_
  rintro r w1 ⟨rfl, e⟩
  obtain rfl := e.symm
  go_wp2_with fail
  go_ret
  exact ⟨rfl, Below.refl _ _⟩

theorem Vec.short {w : World} {g o c n m : Nat} {xs : List Value} (h : Vec w 1 (.slice (some ⟨g, o, none⟩) n c) n xs) (hm : m ≤ n) : Vec w 1 (.slice (some ⟨g, o, none⟩) m c) m (xs.take m) := by
  rcases h.form with ⟨h1, _⟩ | ⟨g', o', c', e, h1, h2, h3, h4, h5⟩
  · cases h1
  · simp only [Value.slice.injEq, Option.some.injEq, Addr.mk.injEq, and_true, true_and] at e
    obtain ⟨⟨rfl, rfl⟩, rfl⟩ := e
    have hl := h.len
    exact ⟨by simp; omega, .inr ⟨g, o, c, rfl, by omega, h2, h3, fun j u hu => h4 j u (by
      rw [List.getElem?_take] at hu
      split at hu
      · exact hu
      · cases hu), h5⟩⟩
theorem conv_any {w : World} {g o n c : Nat} {s : Sec} (h : Vec w 1 (.slice (some ⟨g, o, none⟩) n c) n (bv s)) (hs : s.length = n) : (convert 34 9 (.slice (some ⟨g, o, none⟩) n c)).run Try.prog w = .ok (.string (st s)) w := by
  have := run_convert_bytes_back (P := Try.prog) w 34 9 5 ⟨g, o, none⟩ c s Try.underlying34 Try.underlying5 Try.underlying9 (fun j hj => by
    rw [add_mid' (⟨g, o, none⟩) j rfl]
    exact h.range j _ (by simp [bv, List.getElem?_eq_getElem hj]))
  rw [hs] at this
  exact this
theorem Pair.aside {w0 w w' : World} {D X : Nat} {F G S : Nat → Prop} {d x : Dk} (h : Pair w0 w D F d X G x) (o : Only S w w') (hS : ∀ k, S k → ¬ F k ∧ ¬ G k ∧ w0.heap.size ≤ k) : Pair w0 w' D F d X G x :=
  ⟨⟨h.l.at_.only o fun k hk e => (hS k e).1 hk, h.l.fresh, h.l.only.cons_new o fun k hk => (hS k hk).2.2⟩, ⟨h.r.at_.only o fun k hk e => (hS k e).2.1 hk, h.r.fresh, h.r.only.cons_new o fun k hk => (hS k hk).2.2⟩, h.apart⟩
theorem Dk.Few.fused {d : Dk} {n : Nat} (h : d.Few n) {k : Nat} {keep : List Bool} (hk : (k : Int) ≤ 9223372036854775807) (hl : keep.length ≤ 140737488351232) : (d.fused k keep).Few n :=
  ⟨h.waits, h.done0, h.done, by show _ ≤ (k : Int); omega, hk, hl⟩
theorem len_write (d : Dk) (i : Nat) (s : Sec) : (d.write i s).lasts.length = d.lasts.length := by
  unfold Dk.write
  split
  · exact len_settled _ _
  · rfl
theorem len_flush (d : Dk) : d.flush.lasts.length = d.lasts.length := by
  unfold Dk.flush
  split <;> exact len_settled _ _
theorem next_big {k : Nat} (h : k ≤ 140737488351232) : Value.int .i64 (wrap64 ((k : Int) + 1)) = .int .i64 ((k + 1 : Nat) : Int) := by
  rw [IntWalk.wrap64_in _ (by omega)]; rfl
theorem meas_big {n k : Nat} (h : k < n) (hn : n ≤ 140737488351232) : n - (intOf (.int .i64 (wrap64 ((k : Int) + 1)))).toNat < n - (intOf (.int .i64 (k : Int))).toNat := by
  rw [next_big (by omega)]
  simp only [intOf]
  omega
theorem bv_take (s : Sec) (m : Nat) : (bv s).take m = bv (s.take m) := by simp [bv, List.map_take]

/-- the loop's state -/
structure Pl (w0 w : World) (N : Nat) (D : Nat) (F : Nat → Prop) (X : Nat) (G : Nat → Prop) (d : Dk) (k : Nat) : Prop where
  pair : Pair w0 w D F d X G d
  few : d.Few k
  len : d.lasts.length = N

set_option maxRecDepth 100000 in
set_option maxHeartbeats 8000000 in
theorem plays_main (x : Int) (a : Option Addr) (n c : Nat) (ss : List Stp) (w : World) (P : Stps w a n ss) (h : n ≤ 80) :
    Calls Try.prog 7 #[.int .i64 x, .slice a n c] w fun r w' => r = .returned (.bool true) ∧ Below w.heap.size w w' := by
  have hl := long_any a n c w
  rw [show decide (80 < (n : Int)) = false by simp; omega] at hl
  have HLL := Lib.hid hl
  have PP := Lib.hid P
  have H80 := Lib.hid h
  obtain ⟨N, hN, hN1, hN12⟩ := mod12 x
  clear hl P h
  go_enter Try.func7, Try.ntmps7
  go_wp2_with fail
  refine HLL.out.mono ?_
  rintro r w1 ⟨rfl, e⟩
  obtain rfl := e.symm
  go_wp2_with fail
  rw [hN]
  clear hN
  refine (new_dsk N N rfl w _ (Only.refl _ _) hN1 (by omega)).mono ?_
  rintro r w2 ⟨D, F2, rfl, h1, -, -⟩
  have S2 := Lib.hid h1
  clear h1
  go_wp2_with fail
  refine (rNew_any N w2 hN1 (by omega)).mono ?_
  rintro r w3 ⟨X, G3, rfl, h1, hg, ho⟩
  have L0 : Hid (Pl w w3 N D F2 X G3 (Dk.new N) 0) := ⟨⟨S2.out.new ho, ⟨h1, fun k hk => Nat.le_trans S2.out.only.size (hg k hk), S2.out.only.trans ho⟩, fun i hF hG => by have := S2.out.at_.lt hF; have := hg i hG; omega⟩, Dk.Few.new, by simp [Dk.new]⟩
  have HN := Lib.hid (And.intro hN1 hN12)
  clear h1 hg ho S2 hN1 hN12
  go_wp2_with fail
  go_loopw [5, 7, 9] (fun p q i wr => ∃ (k D X : Nat) (F G : Nat → Prop) (d : Dk), k ≤ n ∧ p = .pointer (some ⟨D, 0, none⟩) ∧ q = .pointer (some ⟨X, 0, none⟩) ∧ i = .int .i64 (k : Int) ∧ Hid (Pl w wr N D F X G d k)) (fun p q i wr => n - (intOf i).toNat)
  case atStart => exact ⟨0, _, _, _, _, _, by omega, rfl, rfl, rfl, L0⟩
  case round =>
    obtain ⟨k, D, X, F, G, d, hk, rfl, rfl, rfl, HL⟩ := hrel
    by_cases hlt : k < n
    · have hj : k < ss.length := by have := PP.out.len; omega
      obtain ⟨b, off, rfl, hb, hA⟩ := PP.out.at_ k hj
      obtain ⟨p, hp⟩ : ∃ p, p = ss[k] := ⟨_, rfl⟩
      rw [← hp] at hA
      clear hp
      obtain ⟨kd, at_, pw, wh, keep, kv⟩ := p
      obtain ⟨va, vn, vc, hkv⟩ := hA.rd.shape'
      simp only at hkv
      subst hkv
      have HB := Lib.hid hb
      have BA := Lib.hid hA
      have i0 : (0 : Int) ≤ (k : Int) := by omega
      have i1 : (k : Int) < (n : Int) := by omega
      clear hb hA
      go_wp2_with fail
      refine (alike_any HL.out.pair HL.out.few (by have := H80.out; omega)).mono ?_
      rintro r w4 ⟨rfl, ho⟩
      have P4 := Lib.hid (HL.out.pair.new ho)
      clear ho
      have k0 : w4.cell? ⟨b, off + k * 5, none⟩ = some (.int .i64 kd) := (P4.out.l.only.cell HB.out (fun e => e) (off + k * 5)).trans BA.out.k0
      have k1 : w4.cell? ⟨b, off + k * 5 + 1, none⟩ = some (.int .i64 at_) := (P4.out.l.only.cell HB.out (fun e => e) (off + k * 5 + 1)).trans BA.out.k1
      have k2 : w4.cell? ⟨b, off + k * 5 + 2, none⟩ = some (.int .u8 (pw.toNat : Int)) := (P4.out.l.only.cell HB.out (fun e => e) (off + k * 5 + 2)).trans BA.out.k2
      have k3 : w4.cell? ⟨b, off + k * 5 + 3, none⟩ = some (.bool wh) := (P4.out.l.only.cell HB.out (fun e => e) (off + k * 5 + 3)).trans BA.out.k3
      have k4 : w4.cell? ⟨b, off + k * 5 + 4, none⟩ = some (.slice va vn vc) := (P4.out.l.only.cell HB.out (fun e => e) (off + k * 5 + 4)).trans BA.out.k4
      obtain ⟨wS, hwS⟩ : ∃ wS, wS = w4.alloc (.cells #[.int .i64 kd, .int .i64 at_, .int .u8 (pw.toNat : Int), .bool wh, .slice va vn vc] 55) := ⟨_, rfl⟩
      have oS : Only None' w4 wS := by rw [hwS]; exact (Only.refl _ _).alloc _
      have CS0 : CellsR wS w4.heap.size [.int .i64 kd, .int .i64 at_, .int .u8 (pw.toNat : Int), .bool wh, .slice va vn vc] := by
        rw [hwS]
        exact ⟨fun i u hu => by rw [World.cell?_alloc_new]; simpa using hu, fun i => World.frozen?_alloc_new _ _ _ _, by simp⟩
      have eS := hwS.symm
      have s2 := CS0.is 2 _ rfl
      have HCS := Lib.hid CS0
      have HOS := Lib.hid oS
      clear hwS oS CS0
      go_wp2_with fail
      refine (full_any pw wS).mono ?_
      rintro r w5 ⟨gf, rfl, hg, hv, ho⟩
      have V5 := Lib.hid hv
      have HG5 := Lib.hid hg
      have O5 := Lib.hid ho
      have C5 := Lib.hid (HCS.out.kept ho fun e => e)
      have s3 := C5.out.is 3 _ rfl
      clear hg hv ho k0 k1 k2 k3 k4 s2 eS
      go_upto_if 66 with fail
      go_cut [11] from 66 to 68 (fun bx wx => ∃ lb : Nat, bx = .slice (some ⟨gf, 0, none⟩) lb 512 ∧ wx = w5 ∧ (lb = 512 ∨ lb = 1))
      case first =>
        cases wh
        · go_wp2_with fail
          go_meet
          exact ⟨1, rfl, rfl, .inr rfl⟩
        · go_wp2_with fail
          go_meet
          exact ⟨512, rfl, rfl, .inl rfl⟩
      case rest =>
        obtain ⟨lb, rfl, e, hlb⟩ := hcut
        obtain rfl := e.symm
        clear s3
        have s4 := C5.out.is 4 _ rfl
        have lS := C5.out.lt
        have RK := Lib.hid (BA.out.rd.only ((P4.out.l.only.trans HOS.out).trans (O5.out.alloc (.cells #[] 4))) fun _ _ _ _ e => e)
        have V5b : Hid (∃ Cs : Sec, Vec w5 1 (.slice (some ⟨gf, 0, none⟩) lb 512) lb (bv Cs) ∧ Cs.length = lb) := by
          refine ⟨(sec pw).take lb, ?_, ?_⟩
          · rw [← bv_take]; exact V5.out.short (by omega)
          · rw [List.length_take, sec_length]; omega
        obtain ⟨Cs, hV⟩ := V5b.out
        have VV := Lib.hid hV
        have HLB := Lib.hid hlb
        have s0 := C5.out.is 0 _ rfl
        clear hV hlb
        go_upto_block 2 with (at_builtin; refine wpList_append_rd _ rfl _ _ 23 rfl 4 Try.t4 (.bool false) 1 1 Try.underlying23 info4 t4_zero t4_size t4_bytes rfl (by decide) ⟨w5.heap.size, 0, none⟩ 0 0 [] rfl (empty_row w5 4 1) _ keep.length (bo keep) rfl RK.out (bo_one keep) (by have h := BA.out.many; have h : keep.length ≤ 140737488351232 := h; unfold maxLen; omega) (by have h := BA.out.many; have h : keep.length ≤ 140737488351232 := h; omega) ?_; intro kk w6 hv hg hf; obtain ⟨kk1, kk2, kk3, rfl⟩ := hv.rd.shape'; have FF := Lib.hid (fresh_of hv hg hf); have C6 := Lib.hid (C5.out.kept FF.out.only fun e => e); have s0 := C6.out.is 0 _ rfl; clear hv hg hf)
        obtain rfl : kk2 = keep.length := by
          obtain ⟨a, c, e⟩ := FF.out.vec.rd.shape
          injection e
        have o46 := Lib.hid ((HOS.out.trans O5.out).trans FF.out.only)
        have P6 := Lib.hid (P4.out.new o46.out)
        have K6 := Lib.hid FF.out.vec
        have V6 := Lib.hid (And.intro (VV.out.1.only FF.out.only fun _ _ e => e) VV.out.2)
        have R6 : Hid (Rws w w6 F G (.slice (some ⟨gf, 0, none⟩) lb 512) lb (.slice kk1 keep.length kk3) keep.length) := by
          have q1 := HOS.out.size
          have q2 := O5.out.size
          have q3 := HG5.out
          have q4 := P4.out.l.only.size
          have ql : gf < w5.heap.size := VV.out.1.lt rfl
          refine ⟨⟨_, V6.out.1⟩, ⟨_, K6.out⟩, fun j hj => ?_, fun j hj e => ?_⟩
          · have hge : w4.heap.size ≤ j := by
              rcases hj with hj | hj
              · have hj : gf = j := by injection hj
                omega
              · have := FF.out.fresh j hj; omega
            exact ⟨fun e => by have := P4.out.l.at_.lt e; omega, fun e => by have := P4.out.r.at_.lt e; omega, by omega⟩
          · have hj : gf = j := by injection hj
            have := FF.out.fresh j e
            omega
        have nS := Lib.hid (And.intro (fun e => by have := P4.out.l.at_.lt e; omega : ¬ F w4.heap.size) (fun e => by have := P4.out.r.at_.lt e; omega : ¬ G w4.heap.size))
        have s1 := C6.out.is 1 _ rfl
        have s4 := C6.out.is 4 _ rfl
        have lS := C6.out.lt
        go_cut [5, 7, 13, 14, 15, 16, 17, 18, 19, 20] from 75 to 171 (fun p q a c z1 z2 z3 z4 z5 z6 wx => ∃ (D X : Nat) (F G : Nat → Prop) (d : Dk) (e : Int), p = .pointer (some ⟨D, 0, none⟩) ∧ q = .pointer (some ⟨X, 0, none⟩) ∧ a = .int .i64 e ∧ c = .int .i64 e ∧ Hid (Pl w wx N D F X G d (k + 1) ∧ Rws w wx F G (.slice (some ⟨gf, 0, none⟩) lb 512) lb (.slice kk1 keep.length kk3) keep.length))
        case first =>
          by_cases q0 : kd = 0
          · subst q0
            as_aux_lemma =>
              cases hd : d.dead
              · by_cases hin : 0 ≤ at_ ∧ at_ < (d.lasts.length : Int)
                · obtain ⟨ai, rfl⟩ : ∃ ai : Nat, at_ = (ai : Int) := ⟨at_.toNat, by omega⟩
                  have hai : ai < d.lasts.length := by omega
                  have HR := Lib.hid (read_any P6.out.l.at_ hd hai (by have := HL.out.few.waits; have := H80.out; omega))
                  have HDI := Lib.hid (And.intro hd hai)
                  clear hd hin hai
                  go_wp2_with fail
                  refine HR.out.mono ?_
                  rintro r w7 ⟨v, rfl, -, -, ho⟩
                  have P7 := Lib.hid (P6.out.new ho)
                  have R7 := Lib.hid (R6.out.new ho)
                  have s1 := (C6.out.kept ho fun e => e).is 1 _ rfl
                  clear ho
                  go_wp2_with fail
                  refine (rRead_any P7.out.r.at_ HDI.out.1 HDI.out.2 (by have := HL.out.few.waits; have := H80.out; omega)).mono ?_
                  rintro r w' ⟨rfl, e⟩
                  obtain rfl := e.symm
                  go_wp2_with fail
                  go_meet
                  exact ⟨_, _, _, _, _, _, rfl, rfl, rfl, rfl, Lib.hid ⟨⟨P7.out, HL.out.few.mono (by omega), HL.out.len⟩, R7.out⟩⟩
                · have hb' : at_ < 0 ∨ (d.lasts.length : Int) ≤ at_ := by omega
                  have HB1 := Lib.hid (read_bad P6.out.l.at_ hd at_ hb')
                  have HB2 := Lib.hid (rRead_bad P6.out.r.at_ hd at_ hb')
                  clear hd hin hb'
                  go_wp2_with fail
                  refine HB1.out.mono ?_
                  rintro r w' ⟨rfl, e⟩
                  obtain rfl := e.symm
                  go_wp2_with fail
                  refine HB2.out.mono ?_
                  rintro r w' ⟨rfl, e⟩
                  obtain rfl := e.symm
                  go_wp2_with fail
                  go_meet
                  exact ⟨_, _, _, _, _, _, rfl, rfl, rfl, rfl, Lib.hid ⟨⟨P6.out, HL.out.few.mono (by omega), HL.out.len⟩, R6.out⟩⟩
              · have HB1 := Lib.hid (read_dead P6.out.l.at_ hd at_)
                have HB2 := Lib.hid (rRead_dead P6.out.r.at_ hd at_)
                clear hd
                go_wp2_with fail
                refine HB1.out.mono ?_
                rintro r w' ⟨rfl, e⟩
                obtain rfl := e.symm
                go_wp2_with fail
                refine HB2.out.mono ?_
                rintro r w' ⟨rfl, e⟩
                obtain rfl := e.symm
                go_wp2_with fail
                go_meet
                exact ⟨_, _, _, _, _, _, rfl, rfl, rfl, rfl, Lib.hid ⟨⟨P6.out, HL.out.few.mono (by omega), HL.out.len⟩, R6.out⟩⟩
          · skip
            by_cases q1 : kd = 1
            · subst q1
              as_aux_lemma =>
                cases hd : d.dead
                · by_cases hin : (0 ≤ at_ ∧ at_ < (d.lasts.length : Int)) ∧ lb = 512
                  · obtain ⟨hin, rfl⟩ := hin
                    obtain ⟨ai, rfl⟩ : ∃ ai : Nat, at_ = (ai : Int) := ⟨at_.toNat, by omega⟩
                    have hai : ai < d.lasts.length := by omega
                    have HDI := Lib.hid (And.intro hd hai)
                    clear hd hin hai
                    obtain ⟨ec, hec⟩ : ∃ ec, d.err = ec := ⟨_, rfl⟩
                    have HEC := Lib.hid hec
                    clear hec
                    go_wp2_with fail
                    refine (P6.out.l.write (i := ai) rfl HL.out.few (by have := H80.out; omega) HDI.out.1 HDI.out.2 V6.out.1.rd (fun j hj => (R6.out.far j (.inl hj)).1) V6.out.2 HEC.out rfl).mono ?_
                    rintro r w7 ⟨rfl, F7, hp, hk7⟩
                    have P7 := Lib.hid (P6.out.left hp hk7)
                    have R7 := Lib.hid (R6.out.left hk7)
                    have V7 := V6.out.1.only hk7.only (fun j hj => (R6.out.far j (.inl hj)).1)
                    have cv7 := conv_any V7 V6.out.2
                    have s1 := (C6.out.kept hk7.only nS.out.1).is 1 _ rfl
                    clear hp hk7 V7
                    go_wp2_with fail
                    refine (P7.out.rwrite HDI.out.1 HDI.out.2 V6.out.2 HL.out.few (by have := H80.out; omega) HEC.out).mono ?_
                    rintro r w8 ⟨rfl, G8, hp, hk8⟩
                    have P8 := Lib.hid hp
                    have R8 := Lib.hid (R7.out.right hk8)
                    clear hp hk8 cv7
                    go_wp2_with fail
                    go_meet
                    exact ⟨_, _, _, _, _, _, rfl, rfl, rfl, rfl, Lib.hid ⟨⟨P8.out, HL.out.few.write _ _, (len_write _ _ _).trans HL.out.len⟩, R8.out⟩⟩
                  · have HB1 := Lib.hid (write_bad P6.out.l.at_ hd at_ (some ⟨gf, 0, none⟩) lb 512 (by omega))
                    have HB2 := Lib.hid (rWrite_bad P6.out.r.at_ hd at_ (st Cs) (by have h1 : (st Cs).size = lb := (by show Cs.toArray.size = lb; simp [V6.out.2]); rw [h1]; omega))
                    have cv7 := conv_any V6.out.1 V6.out.2
                    clear hd hin
                    go_wp2_with fail
                    refine HB1.out.mono ?_
                    rintro r w' ⟨rfl, e⟩
                    obtain rfl := e.symm
                    go_wp2_with fail
                    refine HB2.out.mono ?_
                    rintro r w' ⟨rfl, e⟩
                    obtain rfl := e.symm
                    go_wp2_with fail
                    go_meet
                    exact ⟨_, _, _, _, _, _, rfl, rfl, rfl, rfl, Lib.hid ⟨⟨P6.out, HL.out.few.mono (by omega), HL.out.len⟩, R6.out⟩⟩
                · have HB1 := Lib.hid (write_dead P6.out.l.at_ hd at_ (.slice (some ⟨gf, 0, none⟩) lb 512))
                  have HB2 := Lib.hid (rWrite_dead P6.out.r.at_ hd at_ (.string (st Cs)))
                  have cv7 := conv_any V6.out.1 V6.out.2
                  clear hd
                  go_wp2_with fail
                  refine HB1.out.mono ?_
                  rintro r w' ⟨rfl, e⟩
                  obtain rfl := e.symm
                  go_wp2_with fail
                  refine HB2.out.mono ?_
                  rintro r w' ⟨rfl, e⟩
                  obtain rfl := e.symm
                  go_wp2_with fail
                  go_meet
                  exact ⟨_, _, _, _, _, _, rfl, rfl, rfl, rfl, Lib.hid ⟨⟨P6.out, HL.out.few.mono (by omega), HL.out.len⟩, R6.out⟩⟩
            · skip
              by_cases q2 : kd = 2
              · subst q2
                as_aux_lemma =>
                  cases hd : d.dead
                  · have HD := Lib.hid hd
                    clear hd
                    obtain ⟨ec, hec⟩ : ∃ ec, d.err = ec := ⟨_, rfl⟩
                    have HEC := Lib.hid hec
                    clear hec
                    go_wp2_with fail
                    refine (P6.out.l.flush HL.out.few (by have := H80.out; omega) HD.out HEC.out rfl).mono ?_
                    rintro r w7 ⟨rfl, F7, hp, hk7⟩
                    have P7 := Lib.hid (P6.out.left hp hk7)
                    have R7 := Lib.hid (R6.out.left hk7)
                    clear hp hk7
                    go_wp2_with fail
                    refine (P7.out.rflush HD.out HL.out.few (by have := H80.out; omega) HEC.out).mono ?_
                    rintro r w8 ⟨rfl, G8, hp, hk8⟩
                    have P8 := Lib.hid hp
                    have R8 := Lib.hid (R7.out.right hk8)
                    clear hp hk8
                    go_wp2_with fail
                    go_meet
                    exact ⟨_, _, _, _, _, _, rfl, rfl, rfl, rfl, Lib.hid ⟨⟨P8.out, HL.out.few.flush, (len_flush _).trans HL.out.len⟩, R8.out⟩⟩
                  · have HB1 := Lib.hid (flush_dead P6.out.l.at_ hd)
                    have HB2 := Lib.hid (rFlush_dead P6.out.r.at_ hd)
                    clear hd
                    go_wp2_with fail
                    refine HB1.out.mono ?_
                    rintro r w' ⟨rfl, e⟩
                    obtain rfl := e.symm
                    go_wp2_with fail
                    refine HB2.out.mono ?_
                    rintro r w' ⟨rfl, e⟩
                    obtain rfl := e.symm
                    go_wp2_with fail
                    go_meet
                    exact ⟨_, _, _, _, _, _, rfl, rfl, rfl, rfl, Lib.hid ⟨⟨P6.out, HL.out.few.mono (by omega), HL.out.len⟩, R6.out⟩⟩
              · skip
                by_cases q3 : kd = 3
                · subst q3
                  as_aux_lemma =>
                    cases hd : d.dead
                    · have HD := Lib.hid hd
                      clear hd
                      go_wp2_with fail
                      refine (P6.out.l.crash HL.out.few (by have := H80.out; omega) HD.out K6.out.rd (fun _ j hj => (R6.out.far j (.inr hj)).1) rfl).mono ?_
                      rintro r w7 ⟨rfl, F7, hp, hk7⟩
                      have P7 := Lib.hid (P6.out.left hp hk7)
                      have R7 := Lib.hid (R6.out.left hk7)
                      have s4 := (C6.out.kept hk7.only nS.out.1).is 4 _ rfl
                      have B7 := Lib.hid (BA.out.rd.only P7.out.l.only fun _ _ _ _ e => e)
                      clear hp hk7
                      go_wp2_with fail
                      refine (rCrash_any P7.out.r.at_ HD.out B7.out (outRd BA.out.rd P7.out.r.fresh) (by have := HL.out.few.waits; have := H80.out; omega)).mono ?_
                      rintro r w8 ⟨rfl, G8, hp, hk8⟩
                      have P8 := Lib.hid (P7.out.right hp hk8)
                      have R8 := Lib.hid (R7.out.right hk8)
                      clear hp hk8
                      go_wp2_with fail
                      go_meet
                      exact ⟨_, _, _, _, _, _, rfl, rfl, rfl, rfl, Lib.hid ⟨⟨P8.out, (HL.out.few.crashed _).mono (by omega), (len_settled _ _).trans HL.out.len⟩, R8.out⟩⟩
                    · have HB1 := Lib.hid (Crash_dead P6.out.l.at_ hd (.slice kk1 keep.length kk3))
                      have HB2 := Lib.hid (rCrash_dead P6.out.r.at_ hd (.slice va vn vc))
                      clear hd
                      go_wp2_with fail
                      refine HB1.out.mono ?_
                      rintro r w' ⟨rfl, e⟩
                      obtain rfl := e.symm
                      go_wp2_with fail
                      refine HB2.out.mono ?_
                      rintro r w' ⟨rfl, e⟩
                      obtain rfl := e.symm
                      go_wp2_with fail
                      go_meet
                      exact ⟨_, _, _, _, _, _, rfl, rfl, rfl, rfl, Lib.hid ⟨⟨P6.out, HL.out.few.mono (by omega), HL.out.len⟩, R6.out⟩⟩
                · skip
                  by_cases q4 : kd = 4
                  · subst q4
                    as_aux_lemma =>
                      cases hd : d.dead
                      · by_cases hneg : at_ < 0
                        · have HB1 := Lib.hid (fuse_neg P6.out.l.at_ hd at_ hneg (.slice kk1 keep.length kk3))
                          have HB2 := Lib.hid (rFuse_neg P6.out.r.at_ hd at_ hneg (.slice va vn vc))
                          clear hd hneg
                          go_wp2_with fail
                          refine HB1.out.mono ?_
                          rintro r w' ⟨rfl, e⟩
                          obtain rfl := e.symm
                          go_wp2_with fail
                          refine HB2.out.mono ?_
                          rintro r w' ⟨rfl, e⟩
                          obtain rfl := e.symm
                          go_wp2_with fail
                          go_meet
                          exact ⟨_, _, _, _, _, _, rfl, rfl, rfl, rfl, Lib.hid ⟨⟨P6.out, HL.out.few.mono (by omega), HL.out.len⟩, R6.out⟩⟩
                        · obtain ⟨ai, rfl⟩ : ∃ ai : Nat, at_ = (ai : Int) := ⟨at_.toNat, by omega⟩
                          have HD := Lib.hid hd
                          clear hd hneg
                          go_wp2_with fail
                          refine (P6.out.l.setFuse HD.out (k := ai) rfl K6.out.rd BA.out.many rfl).mono ?_
                          rintro r w7 ⟨rfl, F7, hp, hk7⟩
                          have P7 := Lib.hid (P6.out.left hp hk7)
                          have R7 := Lib.hid (R6.out.left hk7)
                          have s1 := (C6.out.kept hk7.only nS.out.1).is 1 _ rfl
                          have s4 := (C6.out.kept hk7.only nS.out.1).is 4 _ rfl
                          have B7 := Lib.hid (BA.out.rd.only P7.out.l.only fun _ _ _ _ e => e)
                          clear hp hk7
                          go_wp2_with fail
                          refine (rFuse_any P7.out.r.at_ HD.out ai B7.out (outRd BA.out.rd P7.out.r.fresh) BA.out.many).mono ?_
                          rintro r w8 ⟨rfl, G8, hp, hk8⟩
                          have P8 := Lib.hid (P7.out.right hp hk8)
                          have R8 := Lib.hid (R7.out.right hk8)
                          clear hp hk8
                          go_wp2_with fail
                          go_meet
                          exact ⟨_, _, _, _, _, _, rfl, rfl, rfl, rfl, Lib.hid ⟨⟨P8.out, (HL.out.few.fused BA.out.top BA.out.many).mono (by omega), HL.out.len⟩, R8.out⟩⟩
                      · have HB1 := Lib.hid (fuse_dead P6.out.l.at_ hd at_ (.slice kk1 keep.length kk3))
                        have HB2 := Lib.hid (rFuse_dead P6.out.r.at_ hd at_ (.slice va vn vc))
                        clear hd
                        go_wp2_with fail
                        refine HB1.out.mono ?_
                        rintro r w' ⟨rfl, e⟩
                        obtain rfl := e.symm
                        go_wp2_with fail
                        refine HB2.out.mono ?_
                        rintro r w' ⟨rfl, e⟩
                        obtain rfl := e.symm
                        go_wp2_with fail
                        go_meet
                        exact ⟨_, _, _, _, _, _, rfl, rfl, rfl, rfl, Lib.hid ⟨⟨P6.out, HL.out.few.mono (by omega), HL.out.len⟩, R6.out⟩⟩
                  · skip
                    by_cases q5 : kd = 5
                    · subst q5
                      as_aux_lemma =>
                        cases hd : d.dead
                        · have HB1 := Lib.hid (reopen_live P6.out.l.at_ hd)
                          have HB2 := Lib.hid (rReopen_live P6.out.r.at_ hd)
                          clear hd
                          go_wp2_with fail
                          refine HB1.out.mono ?_
                          rintro r w' ⟨rfl, e⟩
                          obtain rfl := e.symm
                          go_wp2_with fail
                          refine HB2.out.mono ?_
                          rintro r w' ⟨rfl, e⟩
                          obtain rfl := e.symm
                          go_wp2_with fail
                          go_meet
                          exact ⟨_, _, _, _, _, _, rfl, rfl, rfl, rfl, Lib.hid ⟨⟨P6.out, HL.out.few.mono (by omega), HL.out.len⟩, R6.out⟩⟩
                        · have HD := Lib.hid hd
                          clear hd
                          go_wp2_with fail
                          refine (P6.out.l.reopen HD.out rfl).mono ?_
                          rintro r w7 ⟨D7, F7, rfl, hp, -, hf, ho⟩
                          have P7 := Lib.hid (show Pair w w7 D7 F7 d.reopened X G d from ⟨hp, P6.out.r.new ho, fun i hF hG => by have := hf i hF; have := P6.out.r.at_.lt hG; omega⟩)
                          have R7 := Lib.hid (R6.out.newL ho hf)
                          clear hp hf ho
                          go_wp2_with fail
                          refine (rReopen_any P7.out.r.at_ HD.out).mono ?_
                          rintro r w8 ⟨X8, G8, rfl, hp, hg, ho⟩
                          have P8 := Lib.hid (show Pair w w8 D7 F7 d.reopened X8 G8 d.reopened from ⟨P7.out.l.new ho, ⟨hp, fun j hj => Nat.le_trans P7.out.l.only.size (hg j hj), P7.out.l.only.trans ho⟩, fun i hF hG => by have := hg i hG; have := P7.out.l.at_.lt hF; omega⟩)
                          have R8 := Lib.hid (R7.out.newR ho hg)
                          clear hp hg ho
                          go_wp2_with fail
                          go_meet
                          exact ⟨_, _, _, _, _, _, rfl, rfl, rfl, rfl, Lib.hid ⟨⟨P8.out, Dk.Few.reopened, HL.out.len⟩, R8.out⟩⟩
                    · skip
                      by_cases q6 : kd = 6
                      · subst q6
                        as_aux_lemma =>
                          go_wp2_with fail
                          refine (P6.out.l.copy HL.out.few (by have := H80.out; omega)).mono ?_
                          rintro r w7 ⟨D7, F7, rfl, hp, hold, hf, ho⟩
                          have A7 := Lib.hid (And.intro hold (And.intro hp hf))
                          have Q7 := Lib.hid (P6.out.new ho)
                          have R7 := Lib.hid (R6.out.newL (F' := F7) ho hf)
                          have hlF := Lib.hid (fun i (hi : F i) => P6.out.l.at_.lt hi)
                          have hs7 := Lib.hid ho.size
                          have O7 := Lib.hid ho
                          clear hp hold hf ho
                          go_wp2_with fail
                          refine (rCopy_any Q7.out.r.at_ (by have := HL.out.few.waits; have := H80.out; omega) HL.out.few.keep).mono ?_
                          rintro r w8 ⟨X8, G8, rfl, hp, hg, ho⟩
                          have P8 := Lib.hid (show Pair w w8 D7 F7 d X8 G8 d from ⟨A7.out.2.1.new ho, ⟨hp, fun j hj => Nat.le_trans Q7.out.l.only.size (hg j hj), Q7.out.l.only.trans ho⟩, fun i hF hG => by have := hg i hG; have := A7.out.2.1.at_.lt hF; omega⟩)
                          have R8 := Lib.hid (R7.out.newR ho hg)
                          have L8 := Lib.hid (A7.out.1.new ho)
                          have N8 := Lib.hid (show (∀ i, F i → ¬ F7 i ∧ ¬ G8 i) from fun i hi => ⟨fun e => by have := A7.out.2.2 i e; have := hlF.out i hi; omega, fun e => by have := hg i e; have := hlF.out i hi; have := hs7.out; omega⟩)
                          have NB := Lib.hid (fun j hj => (R6.out.far j hj).1 : ∀ j, (Value.slice (some ⟨gf, 0, none⟩) lb 512).ownBlock = some j ∨ (Value.slice kk1 keep.length kk3).ownBlock = some j → ¬ F j)
                          clear hp hg ho
                          go_wp2_with fail
                          refine (full_lit 122 122 rfl _).mono ?_
                          rintro r w9 ⟨g9, rfl, hg, hv, ho⟩
                          have P9 := Lib.hid (P8.out.new ho)
                          have R9 := Lib.hid (R8.out.new ho)
                          have L9 := Lib.hid (L8.out.new ho)
                          have V9 := Lib.hid hv
                          have A9 := Lib.hid (outF (F := F) (v := .slice (some ⟨g9, 0, none⟩) 512 512) rfl hg fun k hk => L8.out.at_.lt hk)
                          clear hg hv ho
                          go_wp2_with fail
                          cases hd : d.dead
                          · obtain ⟨ec, hec⟩ : ∃ ec, d.err = ec := ⟨_, rfl⟩
                            have HEC := Lib.hid hec
                            have HDD := Lib.hid hd
                            clear hec hd
                            refine (L9.out.write (i := 0) rfl HL.out.few (by have := H80.out; omega) HDD.out (by rw [HL.out.len]; have := HN.out; omega) V9.out.rd A9.out (sec_length _) HEC.out rfl).mono ?_
                            rintro r w10 ⟨rfl, F10, hp, hk10⟩
                            have L10 := Lib.hid hp
                            have P10 := Lib.hid (P9.out.aside hk10.only (fun j hj => ⟨fun e => (N8.out j hj).1 e, fun e => (N8.out j hj).2 e, L9.out.fresh j hj⟩))
                            have R10 := Lib.hid (R9.out.only hk10.only (fun j hj e => NB.out j hj e) (fun _ _ e => e) fun _ _ e => e)
                            have N10 := Lib.hid (show (∀ i, F10 i → ¬ F7 i ∧ ¬ G8 i) from fun i hi => (hk10.fresh i hi).elim (fun e => N8.out i e) fun e => ⟨fun e' => by have := P9.out.l.at_.lt e'; omega, fun e' => by have := P9.out.r.at_.lt e'; omega⟩)
                            have NB10 := Lib.hid (fun j hj e => (hk10.fresh j e).elim (NB.out j hj) (fun e' => by have := R9.out.lt hj; omega) : ∀ j, (Value.slice (some ⟨gf, 0, none⟩) lb 512).ownBlock = some j ∨ (Value.slice kk1 keep.length kk3).ownBlock = some j → ¬ F10 j)
                            clear hp hk10
                            go_wp2_with fail
                            cases hd2 : (d.write 0 (sec 122)).dead
                            · refine (L10.out.flush (HL.out.few.write 0 (sec 122)) (by have := H80.out; omega) hd2 rfl rfl).mono ?_
                              rintro r w11 ⟨rfl, F11, hp, hk10⟩
                              have P11 := Lib.hid (P10.out.aside hk10.only (fun j hj => ⟨fun e => (N10.out j hj).1 e, fun e => (N10.out j hj).2 e, L10.out.fresh j hj⟩))
                              have R11 := Lib.hid (R10.out.only hk10.only (fun j hj e => NB10.out j hj e) (fun _ _ e => e) fun _ _ e => e)
                              clear hp hk10 hd2
                              go_wp2_with fail
                              go_meet
                              exact ⟨_, _, _, _, _, _, rfl, rfl, rfl, rfl, Lib.hid ⟨⟨P11.out, HL.out.few.mono (by omega), HL.out.len⟩, R11.out⟩⟩
                            · refine (flush_dead L10.out.at_ hd2).mono ?_
                              rintro r w' ⟨rfl, e⟩
                              obtain rfl := e.symm
                              clear hd2
                              go_wp2_with fail
                              go_meet
                              exact ⟨_, _, _, _, _, _, rfl, rfl, rfl, rfl, Lib.hid ⟨⟨P10.out, HL.out.few.mono (by omega), HL.out.len⟩, R10.out⟩⟩
                          · refine (write_dead L9.out.at_ hd 0 _).mono ?_
                            rintro r w' ⟨rfl, e⟩
                            obtain rfl := e.symm
                            go_wp2_with fail
                            refine (flush_dead L9.out.at_ hd).mono ?_
                            rintro r w' ⟨rfl, e⟩
                            obtain rfl := e.symm
                            clear hd
                            go_wp2_with fail
                            go_meet
                            exact ⟨_, _, _, _, _, _, rfl, rfl, rfl, rfl, Lib.hid ⟨⟨P9.out, HL.out.few.mono (by omega), HL.out.len⟩, R9.out⟩⟩
                      · skip
                        have n0 : (kd == 0) = false := by simpa using q0
                        have n1 : (kd == 1) = false := by simpa using q1
                        have n2 : (kd == 2) = false := by simpa using q2
                        have n3 : (kd == 3) = false := by simpa using q3
                        have n4 : (kd == 4) = false := by simpa using q4
                        have n5 : (kd == 5) = false := by simpa using q5
                        have n6 : (kd == 6) = false := by simpa using q6
                        go_wp2_with fail
                        go_meet
                        exact ⟨_, _, _, _, _, _, rfl, rfl, rfl, rfl, Lib.hid ⟨⟨P6.out, HL.out.few.mono (by omega), HL.out.len⟩, R6.out⟩⟩
        case rest =>
          obtain ⟨D', X', F', G', d', e, rfl, rfl, rfl, rfl, HZ⟩ := hcut
          as_aux_lemma =>
            go_wp2_with fail
            go_loopw [21] (fun y wx => ∃ yi : Nat, yi ≤ lb ∧ y = .int .i64 (yi : Int) ∧ Hid (Pl w wx N D' F' X' G' d' (k + 1) ∧ Rws w wx F' G' (.slice (some ⟨gf, 0, none⟩) lb 512) lb (.slice kk1 keep.length kk3) keep.length)) (fun y wx => lb - (intOf y).toNat)
            case atStart => exact ⟨0, by omega, rfl, HZ⟩
            case round =>
              obtain ⟨yi, hy, rfl, HY⟩ := hrel
              by_cases hlt3 : yi < lb
              · have y0 : (0 : Int) ≤ (yi : Int) := by omega
                have y1 : (yi : Int) < (lb : Int) := by omega
                have ylb := HLB.out
                obtain ⟨ys, hv⟩ := HY.out.2.rb
                obtain ⟨f1, f2⟩ := hv.free0 (k := yi) (by omega)
                obtain ⟨u, hu⟩ := Option.isSome_iff_exists.1 f1
                clear f1 hv
                go_wp2_with fail
                go_roundw
                case rel =>
                  have hr := HY.out.2.setB rfl hlt3 (.int .u8 88)
                  rw [Nat.zero_add] at hr
                  have hfar := HY.out.2.far gf (.inl rfl)
                  exact ⟨yi + 1, by omega, by first | go_num | exact next_int (by omega), Lib.hid ⟨⟨HY.out.1.pair.aside ((Only.refl (fun j => j = gf) _).setCell (p := ⟨gf, yi, none⟩) rfl _) (fun j e => e ▸ hfar), HY.out.1.few, HY.out.1.len⟩, hr⟩⟩
                case measure => first | (simp [intOf]; omega) | exact meas hlt3 (by omega)
              · have eyl : yi = lb := by omega
                rw [eyl]
                clear eyl hlt3 hy
                have BM := Lib.hid (show keep.length ≤ 140737488351232 from BA.out.many)
                go_wp2_with fail
                go_loopw [22] (fun y wx => ∃ yi : Nat, yi ≤ keep.length ∧ y = .int .i64 (yi : Int) ∧ Hid (Pl w wx N D' F' X' G' d' (k + 1) ∧ Rws w wx F' G' (.slice (some ⟨gf, 0, none⟩) lb 512) lb (.slice kk1 keep.length kk3) keep.length)) (fun y wx => keep.length - (intOf y).toNat)
                case atStart => exact ⟨0, by omega, rfl, HY⟩
                case round =>
                  obtain ⟨zi, hz, rfl, HW⟩ := hrel
                  by_cases hlt4 : zi < keep.length
                  · have z0 : (0 : Int) ≤ (zi : Int) := by omega
                    have z1 : (zi : Int) < (keep.length : Int) := by omega
                    obtain ⟨zs, hv⟩ := HW.out.2.rk
                    obtain ⟨gk, ok, ck, ek, _⟩ := hv.at_ (by omega)
                    injection ek with ek1 _ ek3
                    subst ek1 ek3
                    have hzl : zs.length = keep.length := by have := hv.len; simpa [bo] using this
                    have m0 : wr.cell? ⟨gk, ok + zi, none⟩ = some (.bool (zs[zi]'(by omega))) := hv.range zi _ (by simp [bo, List.getElem?_eq_getElem (show zi < zs.length by omega)])
                    have m1 := (hv.free (k := zi) (by omega)).2
                    obtain ⟨zb, hzb⟩ : ∃ zb, zb = zs[zi]'(by omega) := ⟨_, rfl⟩
                    rw [← hzb] at m0
                    clear hzb hv hzl
                    go_wp2_with fail
                    go_roundw
                    case rel =>
                      have hr := HW.out.2.setK rfl hlt4 (!zb)
                      have hfar := HW.out.2.far gk (.inr rfl)
                      exact ⟨zi + 1, by omega, by have := BM.out; first | go_num | exact next_big (by omega), Lib.hid ⟨⟨HW.out.1.pair.aside ((Only.refl (fun j => j = gk) _).setCell (p := ⟨gk, ok + zi, none⟩) rfl _) (fun j e => e ▸ hfar), HW.out.1.few, HW.out.1.len⟩, hr⟩⟩
                    case measure => first | (simp [intOf]; omega) | exact meas_big hlt4 BM.out
                  · obtain rfl : zi = keep.length := by omega
                    go_wp2_with fail
                    go_roundw
                    case rel => exact ⟨k + 1, _, _, _, _, _, by omega, rfl, rfl, by have := H80.out; first | go_num | exact next_int (by omega), Lib.hid HW.out.1⟩
                    case measure => first | (simp [intOf]; omega) | exact meas hlt (by have := H80.out; omega)
    · obtain rfl : k = n := by omega
      go_wp2_with fail
      refine (alike_any HL.out.pair HL.out.few (by have := H80.out; omega)).mono ?_
      rintro r w4 ⟨rfl, ho⟩
      have P4 := Lib.hid (HL.out.pair.new ho)
      clear ho
      go_wp2_with fail
      go_ret
      exact ⟨rfl, P4.out.l.only.below (Nat.le_refl _) fun _ h => h.elim⟩
theorem plays_walk (x : Int) (a : Option Addr) (n c : Nat) (ss : List Stp) {w : World} (P : Stps w a n ss) :
    Calls Try.prog 7 #[.int .i64 x, .slice a n c] w fun r w' => r = .returned (.bool true) ∧ Below w.heap.size w w' := by
  by_cases h : 80 < n
  · exact plays_long x a n c w h
  · exact plays_main x a n c ss w P (by omega)
end Go.Proofs.Yteoeaojebklfjaa
