/- LruStays: the walk. -/
import Derived.Test.YthmdaekkpihlnaaR2
import Derived.Test.YthmdaekkpihlnaaQ10
namespace Go.Proofs.Ythmdaekkpihlnaa
open Go.RowKit
set_option linter.unusedVariables false

theorem room (x m c : Int) (hm : 0 < m) (hm1 : m ≤ 1000) (hc : 0 ≤ c) (hc1 : c ≤ 1000) : c ≤ RowKit.wrap64 (c + RowKit.wrap64 ((IntKind.u64.wrap x).tmod m)) ∧ RowKit.wrap64 (c + RowKit.wrap64 ((IntKind.u64.wrap x).tmod m)) < c + m := by
  have h0 : 0 ≤ IntKind.u64.wrap x := by simp [IntKind.wrap, IntKind.bits, IntKind.signed]; omega
  have h1 : 0 ≤ (IntKind.u64.wrap x).tmod m := Int.tmod_nonneg _ h0
  have h2 : (IntKind.u64.wrap x).tmod m < m := Int.tmod_lt_of_pos _ hm
  rw [IntWalk.wrap64_in ((IntKind.u64.wrap x).tmod m) (by omega), IntWalk.wrap64_in _ (by omega)]
  omega

theorem stay_start {w0 w w1 : World} {B M : Nat} {E Y : Int} (hb : Below w0.heap.size w0 w) (h : Sh w.heap.size w1 B M E Y [] []) (n : Only None' w w1) : Stay w0 w1 B M E Y [] [] [] (.slice none 0 0) :=
  ⟨h.lower hb.size, Vec.nil _ _, (fun b hb => by cases hb), hb.trans (n.below hb.size fun _ h => h.elim), ⟨[], rfl⟩, fun e he => by simp at he⟩

theorem Stay.cutd {w0 w : World} {B M : Nat} {E Y : Int} {l : List Node} {L A : List Ent} {g off n co : Nat} (h : Stay w0 w B M E Y l L A (.slice (some ⟨g, off, none⟩) n co)) (d : Nat) (hd : A.length = d + L.length) (hk : (keysOf A).drop d = keysOf L) (hn : n = A.length) :
    (co = d → Stay w0 w B M E Y l L L (.slice (some ⟨g, off, none⟩) L.length 0)) ∧ (¬ co = d → Stay w0 w B M E Y l L L (.slice (some ⟨g, off + d, none⟩) L.length (co - d))) := by
  subst hn
  have hV := h.vec.cut (k := d) (by omega)
  have e1 : A.length - d = L.length := by omega
  have e2 : (strs (keysOf A)).drop (d * 1) = strs (keysOf L) := by rw [Nat.mul_one, ← hk]; simp [strs]
  rw [e1, e2, Nat.mul_one] at hV
  refine ⟨fun hc => ?_, fun hc => ?_⟩
  · rw [if_pos hc, hc, Nat.sub_self] at hV
    exact ⟨h.sh, hV, fun b hb => h.dis b hb, h.bel, ⟨[], rfl⟩, h.til⟩
  · rw [if_neg hc] at hV
    exact ⟨h.sh, hV, fun b hb => h.dis b hb, h.bel, ⟨[], rfl⟩, h.til⟩

set_option maxRecDepth 100000 in
set_option maxHeartbeats 4000000 in
theorem stays_good (x y : Int) (a : Option Addr) (n cap : Nat) (ss : List Stp) (w : World) (S : Steps w a n ss) (h : longB ss = false) :
    Calls Try.prog 3 #[.int .i64 x, .int .i64 y, .slice a n cap] w fun r w' => r = .returned (.bool true) ∧ Below w.heap.size w w' := by
  have hno := (long_no h S.small).1
  rw [S.len] at hno
  have SS := Lib.hid S
  have HH := Lib.hid h
  obtain ⟨i0, hi, hz0, hz1, hz2⟩ := info_parts info9
  clear S h
  go_enter Try.func3, Try.ntmps3
  go_wp2_with fail
  refine (works_any _).mono ?_
  rintro r w1 ⟨rfl, h1⟩
  have hb1 : Below w.heap.size w w1 := h1.below (Nat.le_refl _) fun _ h => h.elim
  have hl := long_any (cap := cap) (SS.out.below hb1)
  rw [HH.out] at hl
  have HL := Lib.hid hl
  have B1 := Lib.hid hb1
  clear h1 hb1 hl
  go_wp2_with fail
  refine HL.out.mono ?_
  rintro r w' ⟨rfl, q, rfl⟩
  go_wp2_with fail
  obtain ⟨E, hE⟩ : ∃ E, E = RowKit.wrap64 (1 + RowKit.wrap64 ((IntKind.u64.wrap x).tmod 20)) := ⟨_, rfl⟩
  obtain ⟨Y, hY⟩ : ∃ Y, Y = RowKit.wrap64 (50 + RowKit.wrap64 ((IntKind.u64.wrap y).tmod 500)) := ⟨_, rfl⟩
  have rE := room x 20 1 (by omega) (by omega) (by omega) (by omega)
  have rY := room y 500 50 (by omega) (by omega) (by omega) (by omega)
  rw [← hE] at rE ⊢
  rw [← hY] at rY ⊢
  have RE := Lib.hid rE
  have RY := Lib.hid rY
  clear hE hY
  refine (new_sh E Y _ (by omega) (by omega) (by omega) (by omega)).mono ?_
  rintro r w2 ⟨B, M, rfl, h1, h2⟩
  have ST0 := Lib.hid (stay_start ((B1.out.trans ⟨rfl, rfl, rfl, Nat.le_refl _, fun _ _ => rfl⟩ : Below w.heap.size w (w1.drewN q))) h1 h2)
  clear h1 h2 rE rY HL
  go_wp2_with fail
  go_loopw [9, 10] (fun o i wr => ∃ k : Nat, k ≤ n ∧ i = .int .i64 k ∧ ∃ l L, Stay w wr B M E Y l L L o ∧ L.length ≤ k) (fun o i wr => n - (intOf i).toNat)
  case atStart => exact ⟨0, by omega, rfl, _, _, ST0.out, by simp⟩
  case round =>
    obtain ⟨k, hk, rfl, l, L, hS, hlen⟩ := hrel
    have SB := Lib.hid hS
    clear hS
    by_cases hlt : k < n
    · have hj : k < ss.length := by have := SS.out.len; omega
      obtain ⟨b, off, rfl, hb, hA⟩ := SS.out.at_ k hj
      have hsm := SS.out.small k hj
      obtain ⟨s, hs⟩ : ∃ s, s = ss[k] := ⟨_, rfl⟩
      rw [← hs] at hA hsm
      clear hs
      obtain ⟨kd, key, val, til, gra, now⟩ := s
      obtain ⟨k0, k1, k2, k3, k4, k5⟩ := hA.below hb SB.out.bel
      have i1' : (k : Int) < (n : Int) := by omega
      have i0' : (0 : Int) ≤ (k : Int) := by omega
      have hks : key.size ≤ 140737488355328 := by have h : key.size ≤ 140737488351232 := hsm.1; omega
      have hvs : val.size ≤ 140737488355328 := by have h : val.size ≤ 140737488351232 := hsm.2; omega
      have HKS := Lib.hid hks
      have HVS := Lib.hid hvs
      clear hA hsm hks hvs
      obtain ⟨av, cv, rfl, y1, y2⟩ := SB.out.vec.shape
      obtain ⟨no, hno2⟩ : ∃ no : Nat, no = L.length := ⟨_, rfl⟩
      rw [← hno2] at SB y1 ⊢
      have HNO := Lib.hid hno2
      clear hno2
      by_cases q0 : kd = 0
      · subst q0
        cases hp : pfits E Y ⟨key, val, 1, 0⟩
        · have HP := Lib.hid hp
          clear hp
          go_wp2_with fail
          refine (SB.out.sh.put ⟨key, val, 1, 0⟩ _ _ HKS.out HVS.out (by have := RE.out; omega) (by have := RY.out; omega) (by omega) rfl rfl).mono ?_
          rintro r w3 ⟨rfl, l3, hS3, hK3⟩
          obtain ⟨hv3, hd3, hb3⟩ := SB.out.turn hS3 hK3
          have e3 : pput E Y L ⟨key, val, 1, 0⟩ = pdrop L key := by unfold pput; rw [HP.out]; rfl
          rw [e3] at hS3
          have S3 := Lib.hid hS3
          have B3 := Lib.hid hb3
          have V3 := Lib.hid hv3
          rw [HP.out]
          clear hS3 hK3 hv3 hd3 hb3 e3
          go_wp2_with fail
          refine (without_any V3.out (by omega) key).mono ?_
          rintro r w4 ⟨v4, rfl, hrow, hB4⟩
          have ST : Hid (Stay w w4 B M E Y l3 (pdrop L key) (pdrop L key) v4) := by
            rw [keys_drop] at hrow
            exact Sh.order (S := S3.out) B3.out hB4 (Vec.of_owns hrow) (keys_length _) (fun b hb => (hrow.lt b hb).1) ⟨[], rfl⟩ (fun e he => SB.out.til e (List.mem_filter.1 he).1)
          clear hrow hB4
          go_wp2
          go_roundw
          case rel => exact ⟨k + 1, by omega, by go_num, _, _, ST.out, by have := pdrop_le L key; omega⟩
          case measure => simp [intOf]; omega
        · have HP := Lib.hid hp
          clear hp
          go_wp2_with fail
          refine (SB.out.sh.put ⟨key, val, 1, 0⟩ _ _ HKS.out HVS.out (by have := RE.out; omega) (by have := RY.out; omega) (by omega) rfl rfl).mono ?_
          rintro r w3 ⟨rfl, l3, hS3, hK3⟩
          obtain ⟨hv3, hd3, hb3⟩ := SB.out.turn hS3 hK3
          have e3 : pput E Y L ⟨key, val, 1, 0⟩ = pevict E Y (pdrop L key ++ [⟨key, val, 1, 0⟩]) := by unfold pput; rw [HP.out]; rfl
          rw [e3] at hS3
          obtain ⟨A, hAA⟩ : ∃ A, A = pdrop L key ++ [⟨key, val, 1, 0⟩] := ⟨_, rfl⟩
          rw [← hAA] at hS3
          obtain ⟨L', hLL⟩ : ∃ L', L' = pevict E Y A := ⟨_, rfl⟩
          rw [← hLL] at hS3
          have hsuf : ∃ p, A = p ++ L' := by rw [hLL]; exact pevict_suffix E Y A
          have htil : ∀ e ∈ L', e.til = 1 := by
            intro e he
            obtain ⟨p, hp⟩ := hsuf
            have : e ∈ A := by rw [hp]; exact List.mem_append_right _ he
            rw [hAA] at this
            rcases List.mem_append.1 this with h | h
            · exact SB.out.til e (List.mem_filter.1 h).1
            · simp at h; rw [h]
          have hL'len : L'.length ≤ k + 1 := by
            obtain ⟨p, hp⟩ := hsuf
            have h1 := congrArg List.length hp
            have h2 := congrArg List.length hAA
            have h3 := pdrop_le L key
            simp at h1 h2; omega
          have HSUF := Lib.hid hsuf
          have HTIL := Lib.hid htil
          have HAA := Lib.hid hAA
          have S3 := Lib.hid hS3
          have B3 := Lib.hid hb3
          have V3 := Lib.hid hv3
          rw [HP.out]
          clear hS3 hK3 hv3 hd3 hb3 e3 hAA hLL hsuf htil
          go_wp2_with fail
          refine (without_any V3.out (by omega) key).mono ?_
          rintro r w4 ⟨v4, rfl, hrow, hB4⟩
          have hwl : (wo (keysOf L) key).length ≤ L.length := Nat.le_trans (wo_le _ _) (by rw [keys_length]; exact Nat.le_refl _)
          have HR4 := Lib.hid hrow
          have HB4 := Lib.hid hB4
          clear hrow hB4
          go_wp2_with (at_builtin; refine wpList_append_own_at _ rfl _ _ 30 rfl w3.heap.size 9 i0 _ 1 16 Try.underlying30 hi hz0 hz1 hz2 rfl (by omega) v4 _ _ rfl (HR4.out.alloc _) ⟨w4.heap.size, 0, none⟩ 1 1 [.string key] rfl rfl (cell_one_new _ _ _) (by simp [Value.oneCell']) (by unfold maxLen; omega) (by omega) (by have := HB4.out.size; simp; omega) ?_)
          intro v6 w6 hown6 hg6 _ hat
          have ST : Hid (Stay w w6 B M E Y l3 L' A v6) := by
            have hbb : Below w3.heap.size w3 w6 := (HB4.out.alloc HB4.out.size _).grown hg6 (by have := HB4.out.size; simp; omega) fun g hg => (HR4.out.lt g hg).1
            have hka : strs (wo (keysOf L) key) ++ [Value.string key] = strs (keysOf A) := by rw [HAA.out, keys_append, keys_drop, strs_append]; rfl
            rw [hka] at hown6
            exact Sh.order (S := S3.out) B3.out hbb (Vec.of_owns hown6) (by rw [HAA.out, keys_drop, keys_length]; simp) (fun b hb => (hown6.lt b hb).1) HSUF.out HTIL.out
          have hAl : A.length ≤ 1000 := by have h2 := congrArg List.length HAA.out; have h3 := pdrop_le L key; simp at h2; omega
          clear hown6 hg6 hat hwl
          go_wp2_with fail
          refine ST.out.sh.all.mono ?_
          rintro r w5 ⟨vr, rfl, hrow, hn5⟩
          have HROW := Lib.hid hrow
          have S5 := Lib.hid (ST.out.new hn5)
          obtain ⟨ar, cr, rfl, z1, z2⟩ := (Vec.of_owns hrow).shape
          obtain ⟨hsl, hsd, hsk⟩ := keys_suffix ST.out.suf
          obtain ⟨d, hd⟩ : ∃ d : Nat, d = A.length - L'.length := ⟨_, rfl⟩
          rw [← hd] at hsd hsk
          have HSD := Lib.hid hsd
          have HSK := Lib.hid hsk
          obtain ⟨ll, hll⟩ : ∃ ll : Nat, ll = L'.length := ⟨_, rfl⟩
          have hal : A.length = d + ll := by omega
          obtain ⟨ao, co, rfl, z3, z4⟩ := S5.out.vec.shape
          rw [← hll] at z1 ⊢
          rw [hal] at z3 ⊢
          have HAL := Lib.hid hal
          have HLL := Lib.hid hll
          have HD := Lib.hid hd
          have hd300 : d ≤ 1000 := by omega
          have hl301 : ll ≤ k + 1 := by omega
          have hl300 : ll ≤ 1000 := by have := S5.out.sh.shelf.few; rw [← es_length, S5.out.sh.is] at this; omega
          clear hrow hn5 hsd hsk hd hal hll hsl
          go_wp2_with fail
          go_loopw [15] (fun j wx => ∃ m q' : Nat, m ≤ ll ∧ j = .int .i64 m ∧ wx = w5.drewN q') (fun j wx => ll - (intOf j).toNat)
          case atStart => exact ⟨0, 0, by omega, rfl, rfl⟩
          case round =>
            obtain ⟨m, q', hm, rfl, rfl⟩ := hrel
            by_cases hml : m < ll
            · have hmL : m < L'.length := by have := HLL.out; omega
              obtain ⟨g, cg, hcs, hg0, hg1⟩ := HROW.out.form (by omega)
              simp only [Value.slice.injEq] at hcs
              obtain ⟨rfl, _, rfl⟩ := hcs
              have p0 : w5.cell? ⟨g, m * 4, none⟩ = some (.string L'[m].key) := by
                have := HROW.out.cellAt (m * 4 + 0) (by omega)
                rw [cellsOf_at L' m 0 hmL (by decide)] at this
                exact this
              rcases S5.out.vec.form with ⟨h1, h2⟩ | ⟨g2, off2, cap2, h1, h2, h3, h4, h5, h6⟩
              · have := HAL.out; omega
              · simp only [Value.slice.injEq] at h1
                obtain ⟨rfl, hxx, rfl⟩ := h1
                clear hxx
                have p1 : w5.cell? ⟨g2, off2 + (d + m), none⟩ = some (.string L'[m].key) := by
                  have h := HSK.out m hmL
                  have h' : d + m < (keysOf A).length := by rw [keys_length]; have := HAL.out; omega
                  refine h5 (d + m) _ ?_
                  rw [strs_at _ _ h']
                  rw [List.getElem?_eq_getElem h'] at h
                  injection h with h
                  rw [h]
                obtain ⟨kk, hkk⟩ : ∃ kk, kk = L'[m].key := ⟨_, rfl⟩
                rw [← hkk] at p0 p1
                have n0 : (0 : Int) ≤ (m : Int) := by omega
                have n1 : (m : Int) < (ll : Int) := by omega
                have n2 : (0 : Int) ≤ (d : Int) + (m : Int) := by omega
                have n3 : (d : Int) + (m : Int) < (d : Int) + (ll : Int) := by omega
                clear h5 h6 hkk
                go_wp2_with fail
                go_quiet (fail)
                go_wp2
                go_roundw
                case rel => exact ⟨m + 1, q' + nq, by omega, by go_num, rfl⟩
                case measure => simp [intOf]; omega
            · have : m = ll := by omega
              subst this
              have hz := z3
              rcases S5.out.vec.form with ⟨h1, h2⟩ | ⟨g2, off2, cap2, h1, h2, h3, h4, h5, h6⟩
              · have hd0 : d = 0 := by have := HAL.out; omega
                have hm0 : m = 0 := by have := HAL.out; omega
                subst hd0 hm0
                simp only [Value.slice.injEq] at h1
                obtain ⟨rfl, hxx, rfl⟩ := h1
                clear hxx
                go_wp2
                go_roundw
                case rel =>
                  have hL0 : L' = [] := List.eq_nil_of_length_eq_zero HLL.out.symm
                  refine ⟨k + 1, by omega, by go_num, l3, L', ⟨(S5.out.sh.drewN q'), ?_, (fun b hb => by cases hb), S5.out.bel.trans ⟨rfl, rfl, rfl, Nat.le_refl _, fun _ _ => rfl⟩, ⟨[], rfl⟩, S5.out.til⟩, by rw [← HLL.out]; omega⟩
                  rw [hL0]; exact Vec.nil _ _
                case measure => simp [intOf]; omega
              · simp only [Value.slice.injEq] at h1
                obtain ⟨rfl, hxx, rfl⟩ := h1
                clear hxx
                have n0 : (0 : Int) ≤ (d : Int) := by omega
                have n1 : (d : Int) ≤ (d : Int) + (m : Int) := by omega
                have n2 : (d : Int) ≤ (co : Int) := by omega
                have hcut := S5.out.cutd d (by have := HAL.out; have := HLL.out; omega) HSD.out (by have := HAL.out; omega)
                rw [← HLL.out] at hcut
                have HCUT := Lib.hid hcut
                clear h5 h6 hcut
                by_cases hc : co = d
                · have HC := Lib.hid hc
                  go_wp2
                  go_roundw
                  case rel => exact ⟨k + 1, by omega, by go_num, _, _, (HCUT.out.1 HC.out).new ((Only.refl _ _).drewN q'), by rw [← HLL.out]; omega⟩
                  case measure => simp [intOf]; omega
                · have HC := Lib.hid hc
                  go_wp2
                  go_roundw
                  case rel => exact ⟨k + 1, by omega, by go_num, _, _, (HCUT.out.2 HC.out).new ((Only.refl _ _).drewN q'), by rw [← HLL.out]; omega⟩
                  case measure => simp [intOf]; omega
      · have q0' : (kd == 0) = false := by simpa using q0
        have hlv := live_all SB.out.til key
        cases hf : pfind L key with
        | none =>
          have HF := Lib.hid hf
          have HG : Hid (pgot L key 0 = L) := by show _ = _; unfold pgot; rw [hf]
          have HP : Hid (pget L key 0 = none) := by show _ = _; rw [hlv, hf]
          clear hf hlv
          go_wp2_with fail
          refine (SB.out.sh.get key 0 L zent (.agg #[.string ⟨#[]⟩, .string ⟨#[]⟩, .int .i64 0, .int .i64 0]) false HKS.out (by rw [HP.out]; rfl) rfl (by rw [HP.out]; rfl) HG.out).mono ?_
          rintro r w3 ⟨rfl, l3, hS3, hK3⟩
          obtain ⟨hv3, hd3, hb3⟩ := SB.out.turn hS3 hK3
          have ST : Hid (Stay w (w3.alloc (.cells #[.string ⟨#[]⟩, .string ⟨#[]⟩, .int .i64 0, .int .i64 0] 35)) B M E Y l3 L L (.slice av no cv)) :=
            (⟨hS3, hv3, hd3, hb3, ⟨[], rfl⟩, SB.out.til⟩ : Stay w w3 B M E Y l3 L L (.slice av no cv)).new ((Only.refl _ _).alloc _)
          have hAl : L.length ≤ 1000 := by omega
          have hL'len : L.length ≤ k + 1 := by omega
          clear hS3 hK3 hv3 hd3 hb3
          go_wp2_with fail
          refine ST.out.sh.all.mono ?_
          rintro r w5 ⟨vr, rfl, hrow, hn5⟩
          have HROW := Lib.hid hrow
          have S5 := Lib.hid (ST.out.new hn5)
          obtain ⟨ar, cr, rfl, z1, z2⟩ := (Vec.of_owns hrow).shape
          obtain ⟨hsl, hsd, hsk⟩ := keys_suffix ST.out.suf
          obtain ⟨d, hd⟩ : ∃ d : Nat, d = L.length - L.length := ⟨_, rfl⟩
          rw [← hd] at hsd hsk
          have HSD := Lib.hid hsd
          have HSK := Lib.hid hsk
          obtain ⟨ll, hll⟩ : ∃ ll : Nat, ll = L.length := ⟨_, rfl⟩
          have hal : L.length = d + ll := by omega
          have z3 := y1
          have z4 := y2
          rw [← hll] at z1 ⊢
          obtain rfl : no = d + ll := by have := HNO.out; omega
          have HAL := Lib.hid hal
          have HLL := Lib.hid hll
          have HD := Lib.hid hd
          have hd300 : d ≤ 1000 := by omega
          have hl301 : ll ≤ k + 1 := by omega
          have hl300 : ll ≤ 1000 := by have := S5.out.sh.shelf.few; rw [← es_length, S5.out.sh.is] at this; omega
          clear hrow hn5 hsd hsk hd hal hll hsl
          go_wp2_with fail
          go_loopw [15] (fun j wx => ∃ m q' : Nat, m ≤ ll ∧ j = .int .i64 m ∧ wx = w5.drewN q') (fun j wx => ll - (intOf j).toNat)
          case atStart => exact ⟨0, 0, by omega, rfl, rfl⟩
          case round =>
            obtain ⟨m, q', hm, rfl, rfl⟩ := hrel
            by_cases hml : m < ll
            · have hmL : m < L.length := by have := HLL.out; omega
              obtain ⟨g, cg, hcs, hg0, hg1⟩ := HROW.out.form (by omega)
              simp only [Value.slice.injEq] at hcs
              obtain ⟨rfl, _, rfl⟩ := hcs
              have p0 : w5.cell? ⟨g, m * 4, none⟩ = some (.string L[m].key) := by
                have := HROW.out.cellAt (m * 4 + 0) (by omega)
                rw [cellsOf_at L m 0 hmL (by decide)] at this
                exact this
              rcases S5.out.vec.form with ⟨h1, h2⟩ | ⟨g2, off2, cap2, h1, h2, h3, h4, h5, h6⟩
              · have := HAL.out; omega
              · simp only [Value.slice.injEq] at h1
                obtain ⟨rfl, hxx, rfl⟩ := h1
                clear hxx
                have p1 : w5.cell? ⟨g2, off2 + (d + m), none⟩ = some (.string L[m].key) := by
                  have h := HSK.out m hmL
                  have h' : d + m < (keysOf L).length := by rw [keys_length]; have := HAL.out; omega
                  refine h5 (d + m) _ ?_
                  rw [strs_at _ _ h']
                  rw [List.getElem?_eq_getElem h'] at h
                  injection h with h
                  rw [h]
                obtain ⟨kk, hkk⟩ : ∃ kk, kk = L[m].key := ⟨_, rfl⟩
                rw [← hkk] at p0 p1
                have n0 : (0 : Int) ≤ (m : Int) := by omega
                have n1 : (m : Int) < (ll : Int) := by omega
                have n2 : (0 : Int) ≤ (d : Int) + (m : Int) := by omega
                have n3 : (d : Int) + (m : Int) < (d : Int) + (ll : Int) := by omega
                clear h5 h6 hkk
                go_wp2_with fail
                go_quiet (fail)
                go_wp2
                go_roundw
                case rel => exact ⟨m + 1, q' + nq, by omega, by go_num, rfl⟩
                case measure => simp [intOf]; omega
            · have : m = ll := by omega
              subst this
              have hz := z3
              rcases S5.out.vec.form with ⟨h1, h2⟩ | ⟨g2, off2, cap2, h1, h2, h3, h4, h5, h6⟩
              · have hd0 : d = 0 := by have := HAL.out; omega
                have hm0 : m = 0 := by have := HAL.out; omega
                subst hd0 hm0
                simp only [Value.slice.injEq] at h1
                obtain ⟨rfl, hxx, rfl⟩ := h1
                clear hxx
                go_wp2
                go_roundw
                case rel =>
                  have hL0 : L = [] := List.eq_nil_of_length_eq_zero HLL.out.symm
                  refine ⟨k + 1, by omega, by go_num, l3, L, ⟨(S5.out.sh.drewN q'), ?_, (fun b hb => by cases hb), S5.out.bel.trans ⟨rfl, rfl, rfl, Nat.le_refl _, fun _ _ => rfl⟩, ⟨[], rfl⟩, S5.out.til⟩, by rw [← HLL.out]; omega⟩
                  rw [hL0]; exact Vec.nil _ _
                case measure => simp [intOf]; omega
              · simp only [Value.slice.injEq] at h1
                obtain ⟨rfl, hxx, rfl⟩ := h1
                clear hxx
                have n0 : (0 : Int) ≤ (d : Int) := by omega
                have n1 : (d : Int) ≤ (d : Int) + (m : Int) := by omega
                have n2 : (d : Int) ≤ (cv : Int) := by omega
                have hcut := S5.out.cutd d (by have := HAL.out; have := HLL.out; omega) HSD.out (by have := HAL.out; omega)
                rw [← HLL.out] at hcut
                have HCUT := Lib.hid hcut
                clear h5 h6 hcut
                by_cases hc : cv = d
                · have HC := Lib.hid hc
                  go_wp2
                  go_roundw
                  case rel => exact ⟨k + 1, by omega, by go_num, _, _, (HCUT.out.1 HC.out).new ((Only.refl _ _).drewN q'), by rw [← HLL.out]; omega⟩
                  case measure => simp [intOf]; omega
                · have HC := Lib.hid hc
                  go_wp2
                  go_roundw
                  case rel => exact ⟨k + 1, by omega, by go_num, _, _, (HCUT.out.2 HC.out).new ((Only.refl _ _).drewN q'), by rw [← HLL.out]; omega⟩
                  case measure => simp [intOf]; omega
        | some e =>
          have hek : e.key = key := by have := List.find?_some hf; simpa using this
          have het : e.til = 1 := SB.out.til e (List.mem_of_find?_eq_some hf)
          have HG : Hid (pgot L key 0 = pdrop L key ++ [e]) := by
            show _ = _; unfold pgot; rw [hf]
            exact if_pos (by show (0 : Int) < e.til; omega)
          have HP : Hid (pget L key 0 = some e) := by show _ = _; rw [hlv, hf]
          have hplt := pdrop_lt hf
          have HEK := Lib.hid hek
          have HET := Lib.hid het
          clear hf hlv hek het
          go_wp2_with fail
          refine (SB.out.sh.get key 0 (pdrop L key ++ [e]) e (.agg #[.string e.key, .string e.val, .int .i64 e.til, .int .i64 e.gra]) true HKS.out (by rw [HP.out]; rfl) rfl (by rw [HP.out]; rfl) HG.out).mono ?_
          rintro r w3 ⟨rfl, l3, hS3, hK3⟩
          obtain ⟨hv3, hd3, hb3⟩ := SB.out.turn hS3 hK3
          obtain ⟨A, hAA⟩ : ∃ A, A = pdrop L key ++ [e] := ⟨_, rfl⟩
          rw [← hAA] at hS3
          obtain ⟨L', hLL⟩ : ∃ L', L' = A := ⟨_, rfl⟩
          rw [← hLL] at hS3
          have hsuf : ∃ p, A = p ++ L' := ⟨[], by rw [hLL]; rfl⟩
          have htil : ∀ x ∈ L', x.til = 1 := by
            intro x hx
            rw [hLL, hAA] at hx
            rcases List.mem_append.1 hx with h | h
            · exact SB.out.til x (List.mem_filter.1 h).1
            · simp at h; rw [h]; exact HET.out
          have hL'len : L'.length ≤ k + 1 := by
            have h2 := congrArg List.length hAA
            simp at h2; rw [hLL]; omega
          have HSUF := Lib.hid hsuf
          have HTIL := Lib.hid htil
          have HAA := Lib.hid hAA
          obtain ⟨wx, hwx⟩ : ∃ wx, wx = w3.alloc (.cells #[.string e.key, .string e.val, .int .i64 e.til, .int .i64 e.gra] 35) := ⟨_, rfl⟩
          have S3 : Hid (Sh w.heap.size wx B M E Y l3 L') := by show Sh _ _ _ _ _ _ _ _; rw [hwx]; exact hS3.new ((Only.refl _ _).alloc _)
          have B3 : Hid (Below w.heap.size w wx) := by show Below _ _ _; rw [hwx]; exact hb3.alloc hb3.size _
          have V3 : Hid (Vec wx 1 (.slice av no cv) L.length (strs (keysOf L))) := by show Vec _ _ _ _ _; rw [hwx]; exact hv3.alloc _
          clear hS3 hK3 hv3 hd3 hb3 hAA hLL hsuf htil
          go_wp2_with fail
          rw [← hwx]
          clear hwx
          refine (without_any V3.out (by omega) key).mono ?_
          rintro r w4 ⟨v4, rfl, hrow, hB4⟩
          have hwl : (wo (keysOf L) key).length ≤ L.length := Nat.le_trans (wo_le _ _) (by rw [keys_length]; exact Nat.le_refl _)
          have HR4 := Lib.hid hrow
          have HB4 := Lib.hid hB4
          clear hrow hB4
          go_wp2_with (at_builtin; refine wpList_append_own_at _ rfl _ _ 30 rfl wx.heap.size 9 i0 _ 1 16 Try.underlying30 hi hz0 hz1 hz2 rfl (by omega) v4 _ _ rfl (HR4.out.alloc _) ⟨w4.heap.size, 0, none⟩ 1 1 [.string key] rfl rfl (cell_one_new _ _ _) (by simp [Value.oneCell']) (by unfold maxLen; omega) (by omega) (by have := HB4.out.size; simp; omega) ?_)
          intro v6 w6 hown6 hg6 _ hat
          have ST : Hid (Stay w w6 B M E Y l3 L' A v6) := by
            have hbb : Below wx.heap.size wx w6 := (HB4.out.alloc HB4.out.size _).grown hg6 (by have := HB4.out.size; simp; omega) fun g hg => (HR4.out.lt g hg).1
            have hka : strs (wo (keysOf L) key) ++ [Value.string key] = strs (keysOf A) := by rw [HAA.out, keys_append, keys_drop, strs_append]; simp [keysOf, strs, HEK.out]
            rw [hka] at hown6
            exact Sh.order (S := S3.out) B3.out hbb (Vec.of_owns hown6) (by rw [HAA.out, keys_drop, keys_length]; simp) (fun b hb => (hown6.lt b hb).1) HSUF.out HTIL.out
          have hAl : A.length ≤ 1000 := by have h2 := congrArg List.length HAA.out; have h3 := pdrop_le L key; simp at h2; omega
          clear hown6 hg6 hat hwl
          go_wp2_with fail
          refine ST.out.sh.all.mono ?_
          rintro r w5 ⟨vr, rfl, hrow, hn5⟩
          have HROW := Lib.hid hrow
          have S5 := Lib.hid (ST.out.new hn5)
          obtain ⟨ar, cr, rfl, z1, z2⟩ := (Vec.of_owns hrow).shape
          obtain ⟨hsl, hsd, hsk⟩ := keys_suffix ST.out.suf
          obtain ⟨d, hd⟩ : ∃ d : Nat, d = A.length - L'.length := ⟨_, rfl⟩
          rw [← hd] at hsd hsk
          have HSD := Lib.hid hsd
          have HSK := Lib.hid hsk
          obtain ⟨ll, hll⟩ : ∃ ll : Nat, ll = L'.length := ⟨_, rfl⟩
          have hal : A.length = d + ll := by omega
          obtain ⟨ao, co, rfl, z3, z4⟩ := S5.out.vec.shape
          rw [← hll] at z1 ⊢
          rw [hal] at z3 ⊢
          have HAL := Lib.hid hal
          have HLL := Lib.hid hll
          have HD := Lib.hid hd
          have hd300 : d ≤ 1000 := by omega
          have hl301 : ll ≤ k + 1 := by omega
          have hl300 : ll ≤ 1000 := by have := S5.out.sh.shelf.few; rw [← es_length, S5.out.sh.is] at this; omega
          clear hrow hn5 hsd hsk hd hal hll hsl
          go_wp2_with fail
          go_loopw [15] (fun j wx => ∃ m q' : Nat, m ≤ ll ∧ j = .int .i64 m ∧ wx = w5.drewN q') (fun j wx => ll - (intOf j).toNat)
          case atStart => exact ⟨0, 0, by omega, rfl, rfl⟩
          case round =>
            obtain ⟨m, q', hm, rfl, rfl⟩ := hrel
            by_cases hml : m < ll
            · have hmL : m < L'.length := by have := HLL.out; omega
              obtain ⟨g, cg, hcs, hg0, hg1⟩ := HROW.out.form (by omega)
              simp only [Value.slice.injEq] at hcs
              obtain ⟨rfl, _, rfl⟩ := hcs
              have p0 : w5.cell? ⟨g, m * 4, none⟩ = some (.string L'[m].key) := by
                have := HROW.out.cellAt (m * 4 + 0) (by omega)
                rw [cellsOf_at L' m 0 hmL (by decide)] at this
                exact this
              rcases S5.out.vec.form with ⟨h1, h2⟩ | ⟨g2, off2, cap2, h1, h2, h3, h4, h5, h6⟩
              · have := HAL.out; omega
              · simp only [Value.slice.injEq] at h1
                obtain ⟨rfl, hxx, rfl⟩ := h1
                clear hxx
                have p1 : w5.cell? ⟨g2, off2 + (d + m), none⟩ = some (.string L'[m].key) := by
                  have h := HSK.out m hmL
                  have h' : d + m < (keysOf A).length := by rw [keys_length]; have := HAL.out; omega
                  refine h5 (d + m) _ ?_
                  rw [strs_at _ _ h']
                  rw [List.getElem?_eq_getElem h'] at h
                  injection h with h
                  rw [h]
                obtain ⟨kk, hkk⟩ : ∃ kk, kk = L'[m].key := ⟨_, rfl⟩
                rw [← hkk] at p0 p1
                have n0 : (0 : Int) ≤ (m : Int) := by omega
                have n1 : (m : Int) < (ll : Int) := by omega
                have n2 : (0 : Int) ≤ (d : Int) + (m : Int) := by omega
                have n3 : (d : Int) + (m : Int) < (d : Int) + (ll : Int) := by omega
                clear h5 h6 hkk
                go_wp2_with fail
                go_quiet (fail)
                go_wp2
                go_roundw
                case rel => exact ⟨m + 1, q' + nq, by omega, by go_num, rfl⟩
                case measure => simp [intOf]; omega
            · have : m = ll := by omega
              subst this
              have hz := z3
              rcases S5.out.vec.form with ⟨h1, h2⟩ | ⟨g2, off2, cap2, h1, h2, h3, h4, h5, h6⟩
              · have hd0 : d = 0 := by have := HAL.out; omega
                have hm0 : m = 0 := by have := HAL.out; omega
                subst hd0 hm0
                simp only [Value.slice.injEq] at h1
                obtain ⟨rfl, hxx, rfl⟩ := h1
                clear hxx
                go_wp2
                go_roundw
                case rel =>
                  have hL0 : L' = [] := List.eq_nil_of_length_eq_zero HLL.out.symm
                  refine ⟨k + 1, by omega, by go_num, l3, L', ⟨(S5.out.sh.drewN q'), ?_, (fun b hb => by cases hb), S5.out.bel.trans ⟨rfl, rfl, rfl, Nat.le_refl _, fun _ _ => rfl⟩, ⟨[], rfl⟩, S5.out.til⟩, by rw [← HLL.out]; omega⟩
                  rw [hL0]; exact Vec.nil _ _
                case measure => simp [intOf]; omega
              · simp only [Value.slice.injEq] at h1
                obtain ⟨rfl, hxx, rfl⟩ := h1
                clear hxx
                have n0 : (0 : Int) ≤ (d : Int) := by omega
                have n1 : (d : Int) ≤ (d : Int) + (m : Int) := by omega
                have n2 : (d : Int) ≤ (co : Int) := by omega
                have hcut := S5.out.cutd d (by have := HAL.out; have := HLL.out; omega) HSD.out (by have := HAL.out; omega)
                rw [← HLL.out] at hcut
                have HCUT := Lib.hid hcut
                clear h5 h6 hcut
                by_cases hc : co = d
                · have HC := Lib.hid hc
                  go_wp2
                  go_roundw
                  case rel => exact ⟨k + 1, by omega, by go_num, _, _, (HCUT.out.1 HC.out).new ((Only.refl _ _).drewN q'), by rw [← HLL.out]; omega⟩
                  case measure => simp [intOf]; omega
                · have HC := Lib.hid hc
                  go_wp2
                  go_roundw
                  case rel => exact ⟨k + 1, by omega, by go_num, _, _, (HCUT.out.2 HC.out).new ((Only.refl _ _).drewN q'), by rw [← HLL.out]; omega⟩
                  case measure => simp [intOf]; omega
    · have : k = n := by omega
      subst this
      go_wp2
      go_ret
      exact ⟨rfl, SB.out.bel⟩

end Go.Proofs.Ythmdaekkpihlnaa
