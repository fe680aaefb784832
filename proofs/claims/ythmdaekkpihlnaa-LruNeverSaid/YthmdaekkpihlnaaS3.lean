/- LruNever: the walk. -/
import Derived.Test.YthmdaekkpihlnaaS2
import Derived.Deep.CutBlock
namespace Go.Proofs.Ythmdaekkpihlnaa
open Go.RowKit
set_option linter.unusedVariables false

theorem room0 (x m : Int) (hm : 0 < m) (hm1 : m ≤ 1000) : 0 ≤ RowKit.wrap64 ((IntKind.u64.wrap x).tmod m) ∧ RowKit.wrap64 ((IntKind.u64.wrap x).tmod m) < m := by
  have h0 : 0 ≤ IntKind.u64.wrap x := by simp [IntKind.wrap, IntKind.bits, IntKind.signed]; omega
  have h1 : 0 ≤ (IntKind.u64.wrap x).tmod m := Int.tmod_nonneg _ h0
  have h2 : (IntKind.u64.wrap x).tmod m < m := Int.tmod_lt_of_pos _ hm
  rw [IntWalk.wrap64_in _ (by omega)]
  omega

theorem nev_start {w0 w w1 : World} {B M : Nat} {E Y : Int} (hb : Below w0.heap.size w0 w) (h : Sh w.heap.size w1 B M E Y [] []) (n : Only None' w w1) : Nev w0 w1 B M E Y [] [] (.slice none 0 0) (.slice none 0 0) [] [] :=
  ⟨h.lower hb.size, Vec.nil _ _, Vec.nil _ _, (fun b hb => by cases hb), (fun b hb => by cases hb), (fun b hb => by cases hb), hb.trans (n.below hb.size fun _ h => h.elim)⟩
theorem kin_start {E Y : Int} (hE : 0 ≤ E) (hY : 0 ≤ Y) : Kin E Y [] [] [] := ⟨rfl, List.nodup_nil, fun e he => by simp at he, by simpa using hE, by simpa [pbytes] using hY⟩

set_option maxRecDepth 100000 in
set_option maxHeartbeats 4000000 in
theorem never_good (x y : Int) (a : Option Addr) (n cap : Nat) (ss : List Stp) (w : World) (S : Steps w a n ss) (h : longB ss = false) :
    Calls Try.prog 6 #[.int .i64 x, .int .i64 y, .slice a n cap] w fun r w' => r = .returned (.bool true) ∧ Below w.heap.size w w' := by
  have hno := (long_no h S.small).1
  rw [S.len] at hno
  have SS := Lib.hid S
  have HH := Lib.hid h
  obtain ⟨i0, hi, hz0, hz1, hz2⟩ := info_parts info9
  obtain ⟨j0, hj, hy0, hy1, hy2⟩ := info_parts info35
  clear S h
  go_enter Try.func6, Try.ntmps6
  go_wp2_with fail
  refine (works_any _).mono ?_
  rintro r w1 ⟨rfl, h1⟩
  have hb1 : Below w.heap.size w w1 := h1.below (Nat.le_refl _) fun _ h => h.elim
  have hl := long_any (cap := cap) (SS.out.below hb1)
  rw [HH.out] at hl
  have HL := Lib.hid hl
  have B1 := Lib.hid hb1
  clear h1 hb1 hl
  go_wp2_with fail
  refine HL.out.mono ?_
  rintro r w' ⟨rfl, q, rfl⟩
  go_wp2_with fail
  obtain ⟨E, hE⟩ : ∃ E, E = RowKit.wrap64 ((IntKind.u64.wrap x).tmod 20) := ⟨_, rfl⟩
  obtain ⟨Y, hY⟩ : ∃ Y, Y = RowKit.wrap64 ((IntKind.u64.wrap y).tmod 200) := ⟨_, rfl⟩
  have rE := room0 x 20 (by omega) (by omega)
  have rY := room0 y 200 (by omega) (by omega)
  rw [← hE] at rE ⊢
  rw [← hY] at rY ⊢
  have RE := Lib.hid rE
  have RY := Lib.hid rY
  clear hE hY
  refine (new_sh E Y _ (by omega) (by omega) (by omega) (by omega)).mono ?_
  rintro r w2 ⟨B, M, rfl, h1, h2⟩
  have N0 := Lib.hid (nev_start ((B1.out.trans ⟨rfl, rfl, rfl, Nat.le_refl _, fun _ _ => rfl⟩ : Below w.heap.size w (w1.drewN q))) h1 h2)
  have K0 := Lib.hid (kin_start rE.1 rY.1)
  clear h1 h2 rE rY HL
  go_wp2_with fail
  go_loopw [9, 10, 11] (fun vk vt i wr => ∃ k : Nat, k ≤ n ∧ i = .int .i64 k ∧ ∃ l L K T, Nev w wr B M E Y l L vk vt K T ∧ Kin E Y K T L ∧ K.length ≤ k) (fun vk vt i wr => n - (intOf i).toNat)
  case atStart => exact ⟨0, by omega, rfl, _, _, _, _, N0.out, K0.out, by simp⟩
  case round =>
    obtain ⟨k, hk, rfl, l, L, K, T, hN, hK, hlen⟩ := hrel
    have NN := Lib.hid hN
    have KK := Lib.hid hK
    clear hN hK
    by_cases hlt : k < n
    · have hj' : k < ss.length := by have := SS.out.len; omega
      obtain ⟨b, off, rfl, hb, hA⟩ := SS.out.at_ k hj'
      have hsm := SS.out.small k hj'
      obtain ⟨s, hs⟩ : ∃ s, s = ss[k] := ⟨_, rfl⟩
      rw [← hs] at hA hsm
      clear hs
      obtain ⟨k0, k1, k2, k3, k4, k5⟩ := hA.below hb NN.out.bel
      have i1' : (k : Int) < (n : Int) := by omega
      have i0' : (0 : Int) ≤ (k : Int) := by omega
      have HSM := Lib.hid hsm
      clear hA hsm
      obtain ⟨ak, ck, rfl, y1, y2⟩ := NN.out.keys.shape
      obtain ⟨at', ct, rfl, y3, y4⟩ := NN.out.last.shape
      go_wp2_with fail
      obtain ⟨wp, hwp⟩ : ∃ wp, wp = wr.alloc (.cells #[.int .i64 s.kind, .string s.key, .string s.val, .int .i64 s.til, .int .i64 s.gra, .int .i64 s.now] 32) := ⟨_, rfl⟩
      have NP : Hid (Nev w wp B M E Y l L (.slice ak K.length ck) (.slice at' T.length ct) K T) := by show Nev _ _ _ _ _ _ _ _ _ _ _ _; rw [hwp]; exact NN.out.new ((Only.refl None' wr).alloc _)
      have PP : Hid (Pin wp B M l (.slice ak K.length ck) (.slice at' T.length ct) wr.heap.size (stepObj s)) := by show Pin _ _ _ _ _ _ _ _; rw [hwp]; exact Pin.made NN.out (stepObj s)
      rw [← hwp]
      obtain ⟨pb, hpb⟩ : ∃ pb, pb = wr.heap.size := ⟨_, rfl⟩
      rw [← hpb] at PP ⊢
      clear hwp hpb k0 k1 k2 k3 k4 k5 NN
      obtain ⟨p0, p1, p2, p3, p4, p5⟩ := step_cells PP.out.is
      have lpb := PP.out.lt
      go_loopw [13, 14] (fun t j wx => ∃ m q' : Nat, m ≤ K.length ∧ j = .int .i64 m ∧ t = .int .i64 (fnd s.key K m) ∧ wx = wp.drewN q') (fun t j wx => K.length - (intOf j).toNat)
      case atStart => exact ⟨0, 0, by omega, rfl, rfl, rfl⟩
      case round =>
        obtain ⟨m, q', hm, rfl, rfl, rfl⟩ := hrel
        by_cases hml : m < K.length
        · rcases NP.out.keys.form with ⟨h1, h2⟩ | ⟨g, of2, cap', h1, h2, h3, h4, h5, h6⟩
          · omega
          · simp only [Value.slice.injEq] at h1
            obtain ⟨rfl, hxx, rfl⟩ := h1
            clear hxx
            have c0 := h5 m _ (strs_at K m hml)
            have hf : fnd s.key K (m + 1) = if K[m] = s.key then (m : Int) else fnd s.key K m := by
              show (if K[m]? = some s.key then _ else _) = _
              rw [List.getElem?_eq_getElem hml]
              simp only [Option.some.injEq]
            obtain ⟨kk, hkk⟩ : ∃ kk, kk = K[m] := ⟨_, rfl⟩
            rw [← hkk] at c0 hf
            have n0 : (0 : Int) ≤ (m : Int) := by omega
            have n1 : (m : Int) < (K.length : Int) := by omega
            clear h5 h6 hkk
            by_cases hkey : kk = s.key
            · rw [if_pos hkey] at hf
              have HF := Lib.hid hf
              have hb := keyT hkey
              clear hf hkey
              go_wp2_with fail
              go_quiet (fail)
              go_wp2
              go_roundw
              case rel => exact ⟨m + 1, q' + nq, by omega, by go_num, by rw [HF.out], rfl⟩
              case measure => simp [intOf]; omega
            · rw [if_neg hkey] at hf
              have HF := Lib.hid hf
              have hb := keyF hkey
              clear hf hkey
              go_wp2_with fail
              go_quiet (fail)
              go_wp2
              go_roundw
              case rel => exact ⟨m + 1, q' + nq, by omega, by go_num, by rw [HF.out], rfl⟩
              case measure => simp [intOf]; omega
        · have : m = K.length := by omega
          subst this
          obtain ⟨f, hf⟩ : ∃ f, f = fnd s.key K K.length := ⟨_, rfl⟩
          have hsp := fnd_spec s.key K K.length
          rw [← hf] at hsp ⊢
          have HSP := Lib.hid hsp
          clear hsp hf
          obtain ⟨wq, hwq⟩ : ∃ wq, wq = wp.drewN q' := ⟨_, rfl⟩
          have NQ : Hid (Nev w wq B M E Y l L (.slice ak K.length ck) (.slice at' T.length ct) K T) := by show Nev _ _ _ _ _ _ _ _ _ _ _ _; rw [hwq]; exact NP.out.new ((Only.refl None' wp).drewN q')
          have PQ : Hid (Pin wq B M l (.slice ak K.length ck) (.slice at' T.length ct) pb (stepObj s)) := by show Pin _ _ _ _ _ _ _ _; rw [hwq]; exact PP.out.new ((Only.refl None' wp).drewN q')
          rw [← hwq]
          clear hwq p0 p1 p2 p3 p4 p5 lpb NP PP
          obtain ⟨p0, p1, p2, p3, p4, p5⟩ := step_cells PQ.out.is
          have lpb := PQ.out.lt
          go_upto_if 69 with fail
          go_cut [9, 10, 13] from 70 to 80 (fun vk vt t wx => ∃ (j : Nat) (K' : List ByteArray) (T' : List Ent), t = .int .i64 j ∧ Nev w wx B M E Y l L vk vt K' T' ∧ Kin E Y K' T' L ∧ K'[j]? = some s.key ∧ K'.length ≤ k + 1 ∧ Pin wx B M l vk vt pb (stepObj s))
          case first =>
            rcases HSP.out with ⟨hf, hno'⟩ | ⟨i, hi', hf, hki⟩
            · have HNO := Lib.hid hno'
              clear hno' HSP
              subst hf
              have hkl : K.length ≤ 300 := by omega
              have htl : T.length ≤ 300 := by have := KK.out.len; omega
              have sk : s.key.size ≤ 140737488351232 := HSM.out.1
              go_wp2_with (first | (at_builtin; refine wpList_vec_append _ rfl (.tmp 72) (.tmp 75) 30 rfl 9 i0 _ 1 16 Try.underlying30 hi hz0 hz1 hz2 rfl (by omega) _ _ _ rfl (NQ.out.keys.alloc _) ⟨wq.heap.size, 0, none⟩ 1 1 [.string s.key] rfl rfl (cell_one_new _ _ _) (by simp [Value.oneCell']) (by unfold maxLen; omega) (by omega) ?_; intro v1 w3 hv1 hg1 hb1; have hO1 := ((Only.refl _ wq).alloc _).grown hg1 (S := fun b => Value.ownBlock (.slice ak K.length ck) = some b) (fun k hk => hk); have hb1' := fun b hb => (hb1 b hb).imp id (fun h => Nat.le_trans (by simp) h : _ → wq.heap.size ≤ b); have N3 := Lib.hid (NQ.out.keyed hO1 hv1 hb1'); have P3 := Lib.hid (PQ.out.keyed hO1 hb1'); clear hv1 hg1 hb1 hO1 hb1') | (at_builtin; refine wpList_vec_append _ rfl (.tmp 77) (.tmp 79) 39 rfl 35 j0 _ 4 48 Try.underlying39 hj hy0 hy1 hy2 rfl (by omega) _ _ _ rfl (N3.out.last.alloc _) ⟨w3.heap.size, 0, none⟩ 1 1 noEnt.cells rfl rfl (World.news_of_block (cs := #[.string ⟨#[]⟩, .string ⟨#[]⟩, .int .i64 (-4611686018427387904), .int .i64 (-1)]) (t := 35) (fr := (0, 0)) (heap_alloc_new w3 _)) (by simp [Value.oneCell', Ent.cells]) (by unfold maxLen; omega) (by omega) ?_; intro v2 w4 hv2 hg2 hb2; have hO2 := ((Only.refl _ w3).alloc _).grown hg2 (S := fun b => Value.ownBlock (.slice at' T.length ct) = some b) (fun k hk => hk); have hb2' := fun b hb => (hb2 b hb).imp id (fun h => Nat.le_trans (by simp) h : _ → w3.heap.size ≤ b); have N4 := Lib.hid (N3.out.lasted hO2 hv2 hb2'); have P4 := Lib.hid (P3.out.lasted hO2 hb2'); clear hv2 hg2 hb2 hO2 hb2'))
              go_meet
              have hnk : s.key ∉ K := fun hm => by
                obtain ⟨i, hi', he⟩ := List.getElem_of_mem hm
                exact HNO.out i hi' (by rw [List.getElem?_eq_getElem hi', he])
              exact ⟨K.length, K ++ [s.key], T ++ [noEnt], rfl, N4.out, KK.out.more hnk noEnt, by rw [List.getElem?_append_right (Nat.le_refl _)]; simp, by simp; omega, P4.out⟩
            · subst hf
              go_wp2
              go_meet
              exact ⟨i, K, T, rfl, NQ.out, KK.out, hki, by omega, PQ.out⟩
          case rest =>
            obtain ⟨j, K', T', rfl, hN, hK, hkj, hkl, hP⟩ := hcut
            rename World => wm
            have NM := Lib.hid hN
            have KM := Lib.hid hK
            have HKJ := Lib.hid hkj
            have PM := Lib.hid hP
            clear hN hK hkj hP NQ PQ KK p0 p1 p2 p3 p4 p5 lpb HSP
            obtain ⟨p0, p1, p2, p3, p4, p5⟩ := step_cells PM.out.is
            have lpb := PM.out.lt
            obtain ⟨ak2, ck2, rfl, y5, y6⟩ := NM.out.keys.shape
            obtain ⟨at2, ct2, rfl, y7, y8⟩ := NM.out.last.shape
            have HTL := Lib.hid KM.out.len
            have hjK := (List.getElem?_eq_some_iff.1 HKJ.out).1
            have hjT : j < T'.length := by rw [HTL.out]; exact hjK
            rcases NM.out.last.form with ⟨h1, h2⟩ | ⟨g, of3, cap', h1, h2, h3, h4, h5, h6⟩
            · omega
            · simp only [Value.slice.injEq] at h1
              obtain ⟨rfl, hxx, rfl⟩ := h1
              clear hxx
              obtain ⟨r0, r1, r2, r3⟩ := at4 h5 (k := j) (by omega)
              have fr : ∀ i, i < 4 → wm.frozen? ⟨g, of3 + j * 4 + i, none⟩ = false := fun i hi => by rw [Nat.add_assoc]; exact (h6 (j * 4 + i) (by omega)).2
              have fr0 : wm.frozen? ⟨g, of3 + j * 4, none⟩ = false := fr 0 (by decide)
              have fr1 := fr 1 (by decide)
              have fr2 := fr 2 (by decide)
              have fr3 := fr 3 (by decide)
              have n0 : (0 : Int) ≤ (j : Int) := by omega
              have n1 : (j : Int) < (T'.length : Int) := by omega
              have sk : s.key.size ≤ 140737488355328 := by have := HSM.out.1; omega
              have sv : s.val.size ≤ 140737488355328 := by have := HSM.out.2; omega
              have hL : L.length < 1000 := by have := KM.out.few; have := RE.out; omega
              have hgp : ¬ g = pb := fun e => PM.out.nt (by rw [← e]; rfl)
              clear h5 h6 fr
              go_upto_block 4 with fail
              go_cut [15, 16, 17] from 83 to 155 (fun c15 c16 c17 wx => ∃ l' L' T'', Nev w wx B M E Y l' L' (.slice ak2 K'.length ck2) (.slice (some ⟨g, of3, none⟩) T'.length ct2) K' T'' ∧ Kin E Y K' T'' L' ∧ (s.kind = 3 → ∀ e ∈ L', s.now < e.til) ∧ Pin wx B M l' (.slice ak2 K'.length ck2) (.slice (some ⟨g, of3, none⟩) T'.length ct2) pb (stepObj s))
              case first =>
                by_cases q0 : s.kind = 0
                · have HQ0 := Lib.hid q0
                  have q0' : (s.kind == 0) = true := by simpa using q0
                  clear q0
                  cases hp : pfits E Y (entOf s)
                  all_goals
                    have HP := Lib.hid hp
                    clear hp
                    go_wp2_with fail
                    have NS := Lib.hid ((NM.out.stored rfl (j := j) (by omega) (entOf s)).new ((Only.refl None' _).alloc (ent35 (entOf s))))
                    have PS := Lib.hid ((PM.out.stored (of3 + j * 4) (entOf s)).new ((Only.refl None' _).alloc (ent35 (entOf s))))
                    refine (NS.out.sh.put (entOf s) _ _ sk sv RE.out.1 RY.out.1 hL (by rw [HP.out]) rfl).mono ?_
                    rintro r w5 ⟨rfl, l5, hS5, hK5⟩
                    have N5 := Lib.hid (NS.out.turn hS5 hK5)
                    have P5 := Lib.hid (PS.out.turn hK5)
                    clear hS5 hK5
                  · have hT2 : Hid ((T'.set j (entOf s)).length = T'.length) := List.length_set
                    rcases N5.out.last.form with ⟨h1, h2⟩ | ⟨g', of3', cap', h1, h2, h3', h4', h5, h6⟩
                    · have := hT2.out; omega
                    · simp only [Value.slice.injEq, Option.some.injEq, Addr.mk.injEq, and_true] at h1
                      obtain ⟨⟨rfl, rfl⟩, hxx, rfl⟩ := h1
                      clear hxx
                      obtain ⟨t0, t1, t2, t3⟩ := at4 h5 (k := j) (by have := hT2.out; omega)
                      have fr : ∀ i, i < 4 → w5.frozen? ⟨g, of3 + j * 4 + i, none⟩ = false := fun i hi => by rw [Nat.add_assoc]; exact (h6 (j * 4 + i) (by omega)).2
                      have fs0 : w5.frozen? ⟨g, of3 + j * 4, none⟩ = false := fr 0 (by decide)
                      have fs1 := fr 1 (by decide)
                      have fs2 := fr 2 (by decide)
                      have fs3 := fr 3 (by decide)
                      clear h5 h6 fr
                      go_wp2_with fail
                      go_meet
                      refine ⟨l5, _, (T'.set j (entOf s)).set j noEnt, ?_, KM.out.noput (entOf s) noEnt HKJ.out HP.out, fun h => absurd h (by have := HQ0.out; omega), P5.out.stored (of3 + j * 4) noEnt⟩
                      have := N5.out.stored (j := j) hT2.out.symm (by have := hT2.out; omega) noEnt
                      exact this
                  · go_wp2_with fail
                    go_meet
                    exact ⟨l5, _, T'.set j (entOf s), N5.out, KM.out.put RE.out.1 RY.out.1 (entOf s) HKJ.out HP.out, fun h => absurd h (by have := HQ0.out; omega), P5.out⟩
                · by_cases q1 : s.kind = 1
                  · have HQ1 := Lib.hid q1
                    have q0' : (s.kind == 0) = false := by simpa using q0
                    have q1' : (s.kind == 1) = true := by simpa using q1
                    clear q0 q1
                    cases hp : pfind L s.key with
                    | none =>
                      have HP : Hid (pget L s.key s.now = none) := by show _ = _; unfold pget; rw [hp]; rfl
                      clear hp
                      go_wp2_with fail
                      refine (NM.out.sh.get s.key s.now _ zent (.agg #[.string ⟨#[]⟩, .string ⟨#[]⟩, .int .i64 0, .int .i64 0]) false sk (by rw [HP.out]; rfl) rfl (by rw [HP.out]; rfl) rfl).mono ?_
                      rintro r w5 ⟨rfl, l5, hS5, hK5⟩
                      have N5 := Lib.hid ((NM.out.turn hS5 hK5).new ((Only.refl None' _).alloc (.cells #[.string ⟨#[]⟩, .string ⟨#[]⟩, .int .i64 0, .int .i64 0] 35)))
                      have P5 := Lib.hid ((PM.out.turn hK5).new ((Only.refl None' _).alloc (.cells #[.string ⟨#[]⟩, .string ⟨#[]⟩, .int .i64 0, .int .i64 0] 35)))
                      clear hS5 hK5
                      go_wp2_with fail
                      go_quiet (fail)
                      go_wp2_with fail
                      go_meet
                      exact ⟨l5, _, T', N5.out.new ((Only.refl None' _).drewN nq), KM.out.got s.key s.now, fun h => absurd h (by have := HQ1.out; omega), P5.out.new ((Only.refl None' _).drewN nq)⟩
                    | some e =>
                      have hTj := KM.out.at_ HKJ.out hp
                      by_cases hnow : e.til ≤ s.now
                      · have HP : Hid (pget L s.key s.now = none) := pget_no hp hnow
                        clear hp hTj hnow
                        go_wp2_with fail
                        refine (NM.out.sh.get s.key s.now _ zent (.agg #[.string ⟨#[]⟩, .string ⟨#[]⟩, .int .i64 0, .int .i64 0]) false sk (by rw [HP.out]; rfl) rfl (by rw [HP.out]; rfl) rfl).mono ?_
                        rintro r w5 ⟨rfl, l5, hS5, hK5⟩
                        have N5 := Lib.hid ((NM.out.turn hS5 hK5).new ((Only.refl None' _).alloc (.cells #[.string ⟨#[]⟩, .string ⟨#[]⟩, .int .i64 0, .int .i64 0] 35)))
                        have P5 := Lib.hid ((PM.out.turn hK5).new ((Only.refl None' _).alloc (.cells #[.string ⟨#[]⟩, .string ⟨#[]⟩, .int .i64 0, .int .i64 0] 35)))
                        clear hS5 hK5
                        go_wp2_with fail
                        go_quiet (fail)
                        go_wp2_with fail
                        go_meet
                        exact ⟨l5, _, T', N5.out.new ((Only.refl None' _).drewN nq), KM.out.got s.key s.now, fun h => absurd h (by have := HQ1.out; omega), P5.out.new ((Only.refl None' _).drewN nq)⟩
                      · have HP : Hid (pget L s.key s.now = some e) := pget_yes hp hnow
                        have HTJ := Lib.hid hTj
                        have hnow' : s.now < e.til := by omega
                        clear hp hTj hnow
                        go_wp2_with fail
                        refine (NM.out.sh.get s.key s.now _ e (.agg #[.string e.key, .string e.val, .int .i64 e.til, .int .i64 e.gra]) true sk (by rw [HP.out]; rfl) rfl (by rw [HP.out]; rfl) rfl).mono ?_
                        rintro r w5 ⟨rfl, l5, hS5, hK5⟩
                        have hN5 := NM.out.turn hS5 hK5
                        have hP5 := PM.out.turn hK5
                        obtain ⟨m0, m1, m2, m3, m4, m5⟩ := step_cells hP5.is
                        have lpb5 := hP5.lt
                        have N5 := Lib.hid (hN5.new ((Only.refl None' _).alloc (.cells #[.string e.key, .string e.val, .int .i64 e.til, .int .i64 e.gra] 35)))
                        have P5 := Lib.hid (hP5.new ((Only.refl None' _).alloc (.cells #[.string e.key, .string e.val, .int .i64 e.til, .int .i64 e.gra] 35)))
                        rcases hN5.last.form with ⟨h1, h2⟩ | ⟨g', of3', cap', h1, h2, h3', h4', h5, h6⟩
                        · omega
                        · simp only [Value.slice.injEq, Option.some.injEq, Addr.mk.injEq, and_true, true_and] at h1
                          obtain ⟨⟨rfl, rfl⟩, rfl⟩ := h1
                          have hA := at4 h5 (k := j) hjT
                          have hTe : T'[j] = e := by have := HTJ.out; rw [List.getElem?_eq_getElem hjT] at this; injection this
                          rw [hTe] at hA
                          obtain ⟨t0, t1, t2, t3⟩ := hA
                          clear h5 h6 hTe hS5 hK5 hN5 hP5
                          go_wp2_with fail
                          go_quiet (fail)
                          go_wp2_with fail
                          go_meet
                          exact ⟨l5, _, T', N5.out.new ((Only.refl None' _).drewN nq), KM.out.got s.key s.now, fun h => absurd h (by have := HQ1.out; omega), P5.out.new ((Only.refl None' _).drewN nq)⟩
                  · by_cases q2 : s.kind = 2
                    · have HQ2 := Lib.hid q2
                      have q0' : (s.kind == 0) = false := by simpa using q0
                      have q1' : (s.kind == 1) = false := by simpa using q1
                      have q2' : (s.kind == 2) = true := by simpa using q2
                      clear q0 q1 q2
                      go_wp2_with fail
                      refine (drop_e NM.out.sh.shelf s.key sk).mono ?_
                      rintro r w5 ⟨rfl, l5, hS5, he5, hK5⟩
                      rw [NM.out.sh.is] at he5
                      have hN5 := NM.out.turn ⟨hS5, he5, Nat.le_trans NM.out.sh.le hK5.only.size⟩ hK5
                      have N5 := Lib.hid hN5
                      have P5 := Lib.hid (PM.out.turn hK5)
                      rcases hN5.last.form with ⟨h1, h2⟩ | ⟨g', of3', cap', h1, h2, h3', h4', h5, h6⟩
                      · omega
                      · simp only [Value.slice.injEq, Option.some.injEq, Addr.mk.injEq, and_true, true_and] at h1
                        obtain ⟨⟨rfl, rfl⟩, rfl⟩ := h1
                        obtain ⟨t0, t1, t2, t3⟩ := at4 h5 (k := j) hjT
                        have fr : ∀ i, i < 4 → w5.frozen? ⟨g, of3 + j * 4 + i, none⟩ = false := fun i hi => by rw [Nat.add_assoc]; exact (h6 (j * 4 + i) (by omega)).2
                        have fs0 : w5.frozen? ⟨g, of3 + j * 4, none⟩ = false := fr 0 (by decide)
                        have fs1 := fr 1 (by decide)
                        have fs2 := fr 2 (by decide)
                        have fs3 := fr 3 (by decide)
                        clear h5 h6 fr hS5 he5 hK5 hN5
                        go_wp2_with fail
                        go_meet
                        exact ⟨l5, _, T'.set j noEnt, N5.out.stored (j := j) rfl hjT noEnt, (KM.out.drop s.key).set HKJ.out noEnt drop_not, fun h => absurd h (by have := HQ2.out; omega), P5.out.stored (of3 + j * 4) noEnt⟩
                    · have q0' : (s.kind == 0) = false := by simpa using q0
                      have q1' : (s.kind == 1) = false := by simpa using q1
                      have q2' : (s.kind == 2) = false := by simpa using q2
                      clear q0 q1 q2
                      go_wp2_with fail
                      refine (sweep_e NM.out.sh.shelf s.now).mono ?_
                      rintro r w5 ⟨rfl, l5, hS5, he5, hK5⟩
                      rw [NM.out.sh.is] at he5 ⊢
                      have N5 := Lib.hid (NM.out.turn ⟨hS5, he5, Nat.le_trans NM.out.sh.le hK5.only.size⟩ hK5)
                      have P5 := Lib.hid (PM.out.turn hK5)
                      clear hS5 he5 hK5
                      go_wp2_with fail
                      go_meet
                      exact ⟨l5, _, T', N5.out, KM.out.live s.now, fun _ e he => by simpa using (List.mem_filter.1 he).2, P5.out⟩
              case rest =>
                obtain ⟨l6, L6, T6, hN, hK, hlv, hP⟩ := hcut
                have N6 := Lib.hid hN
                have K6 := Lib.hid hK
                have P6 := Lib.hid hP
                have LV := Lib.hid hlv
                clear hN hK hlv hP NM KM PM HKJ p0 p1 p2 p3 p4 p5 lpb r0 r1 r2 r3 fr0 fr1 fr2 fr3 n0 n1 hjT hjK h4 hgp
                go_wp2_with fail
                refine N6.out.sh.all.mono ?_
                rintro r w7 ⟨vr, rfl, hrow, hn7⟩
                have HROW := Lib.hid hrow
                have N7 := Lib.hid (N6.out.new hn7)
                have hP7 := P6.out.new hn7
                obtain ⟨p0, p1, p2, p3, p4, p5⟩ := step_cells hP7.is
                have lpb := hP7.lt
                obtain ⟨ar, cr, rfl, z1, z2⟩ := (Vec.of_owns hrow).shape
                obtain ⟨ll, hll⟩ : ∃ ll : Nat, ll = L6.length := ⟨_, rfl⟩
                have hfew := K6.out.few
                have hfit := K6.out.fit
                have RE' := RE.out
                have RY' := RY.out
                rw [← hll] at z1 hfew ⊢
                have HLL := Lib.hid hll
                clear hrow hn7 hP7 hll
                go_wp2_with fail
                go_loopw [19, 20] (fun sn si wx => ∃ m q' : Nat, m ≤ ll ∧ si = .int .i64 m ∧ sn = .int .i64 (pbytes (L6.take m) : Int) ∧ wx = w7.drewN q') (fun sn si wx => ll - (intOf si).toNat)
                case atStart => exact ⟨0, 0, by omega, rfl, rfl, rfl⟩
                case round =>
                  obtain ⟨m, q7, hm, rfl, rfl, rfl⟩ := hrel
                  by_cases hml : m < ll
                  · have hmL : m < L6.length := by have := HLL.out; omega
                    obtain ⟨g', cg, hcs, hg0, hg1⟩ := HROW.out.form (by omega)
                    simp only [Value.slice.injEq] at hcs
                    obtain ⟨rfl, hxx, rfl⟩ := hcs
                    clear hxx
                    have c (i : Nat) (hi : i < 4) (u : Value) (hu : (L6[m]).cells[i]? = some u) : w7.cell? ⟨g', m * 4 + i, none⟩ = some u := by
                      rw [HROW.out.cellAt (m * 4 + i) (by omega), cellsOf_at L6 m i hmL hi]; exact hu
                    have e0 : w7.cell? ⟨g', m * 4, none⟩ = _ := c 0 (by decide) _ rfl
                    have e1 := c 1 (by decide) _ rfl
                    have e2 := c 2 (by decide) _ rfl
                    have hsum : pbytes (L6.take (m + 1)) = pbytes (L6.take m) + (L6[m].key.size + L6[m].val.size) := by
                      rw [take_snocE hmL, pbytes_append]; simp [pbytes]
                    have hle : pbytes (L6.take (m + 1)) ≤ pbytes L6 := by
                      have h1 := congrArg pbytes (List.take_append_drop (m + 1) L6)
                      rw [pbytes_append] at h1; omega
                    have hlv : s.kind = 3 → s.now < L6[m].til := fun h => LV.out h _ (List.getElem_mem hmL)
                    obtain ⟨e, he⟩ : ∃ e, e = L6[m] := ⟨_, rfl⟩
                    rw [← he] at e0 e1 e2 hsum hlv
                    have hbd : pbytes (L6.take m) + (e.key.size + e.val.size) ≤ 200 := by omega
                    have HSUM := Lib.hid hsum
                    have n0 : (0 : Int) ≤ (m : Int) := by omega
                    have n1 : (m : Int) < (ll : Int) := by omega
                    have hw1 : IntKind.i64.wrap ((pbytes (L6.take m) : Int) + (e.key.size : Int)) = (pbytes (L6.take m) : Int) + (e.key.size : Int) := IntWalk.i64_in _ (by omega)
                    have hw2 : IntKind.i64.wrap ((pbytes (L6.take m) : Int) + (e.key.size : Int) + (e.val.size : Int)) = (pbytes (L6.take m) : Int) + (e.key.size : Int) + (e.val.size : Int) := IntWalk.i64_in _ (by omega)
                    clear c hsum hle he
                    by_cases q3 : s.kind = 3
                    · have hlv' := hlv q3
                      have q3' : (s.kind == 3) = true := by simpa using q3
                      clear q3 hlv
                      go_wp2_with fail
                      go_quiet (fail)
                      clear hw1 hw2
                      go_wp2_with fail
                      go_quiet (fail)
                      go_wp2
                      go_roundw
                      case rel =>
                        refine ⟨m + 1, _, by omega, by go_num, ?_, rfl⟩
                        rw [HSUM.out]
                        congr 1
                        omega
                      case measure => simp [intOf]; omega
                    · have q3' : (s.kind == 3) = false := by simpa using q3
                      clear q3 hlv
                      go_wp2_with fail
                      go_quiet (fail)
                      clear hw1 hw2
                      go_wp2_with fail
                      go_quiet (fail)
                      go_wp2
                      go_roundw
                      case rel =>
                        refine ⟨m + 1, _, by omega, by go_num, ?_, rfl⟩
                        rw [HSUM.out]
                        congr 1
                        omega
                      case measure => simp [intOf]; omega
                  · have : m = ll := by omega
                    subst this
                    have HT : Hid (L6.take m = L6) := by show _ = _; rw [HLL.out, List.take_length]
                    rw [HT.out]
                    have N8 := Lib.hid (N7.out.new ((Only.refl None' _).drewN q7))
                    have g1 : ¬ (m : Int) > E := by omega
                    have g2 : ¬ (pbytes L6 : Int) > Y := by omega
                    go_wp2_with (first | (go_at_call 14; refine (N8.out.sh.len (m : Int) (by rw [HLL.out])).mono ?_; rintro r w' ⟨rfl, rfl⟩) | (go_at_call 15; refine (N8.out.sh.bytes (pbytes L6 : Int) rfl).mono ?_; rintro r w' ⟨rfl, rfl⟩))
                    go_roundw
                    case rel => exact ⟨k + 1, by omega, by go_num, l6, L6, K', T6, N8.out, K6.out, by omega⟩
                    case measure => simp [intOf]; omega
    · have : k = n := by omega
      subst this
      go_wp2
      go_ret
      exact ⟨rfl, NN.out.bel⟩

end Go.Proofs.Ythmdaekkpihlnaa
