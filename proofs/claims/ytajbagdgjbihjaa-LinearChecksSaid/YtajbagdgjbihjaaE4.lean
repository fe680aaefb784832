/- Keys (20): the walk. -/
import Derived.Test.YtajbagdgjbihjaaE3
import Derived.StringKeys
namespace Go.Proofs.Ytajbagdgjbihjaa
open Go.RowKit Go.Maps Go.Sort
set_option linter.unusedVariables false

theorem owns_same {w w' : World} {k : TypeId} {R : Value → Option (DataW Unit × List MemPlace)} {b n : Nat} {D : DataW Unit} (h : w.ownsMap Try.prog k R b n D) (hb : w'.heap[b]? = w.heap[b]?) : w'.ownsMap Try.prog k R b n D := by
  obtain ⟨es, clock, h1, h2⟩ := h
  exact ⟨es, clock, by rw [hb]; exact h1, h2⟩
theorem KSt.new_ {w wr w1 : World} {b nn j : Nat} {l : List Ev} {D : DataW Unit} (h : KSt w wr b nn l j D) (o : Only None' wr w1) : KSt w w1 b nn l j D :=
  ⟨h.only.trans o, owns_same h.own (o.block b h.own.lt fun e => e), h.has, h.few, h.new⟩
theorem KSt.miss {w wr : World} {b nn j : Nat} {l : List Ev} {D : DataW Unit} {e : Ev} (h : KSt w wr b nn l j D) (he : l[j]? = some e) (hb : e.back = true) : KSt w wr b nn l (j + 1) D :=
  ⟨h.only, h.own, fun x => by rw [calls_succ he, if_pos hb]; exact h.has x, by have := h.few; omega, h.new⟩
theorem KSt.put {w wr w1 : World} {b nn j : Nat} {l : List Ev} {D : DataW Unit} {e : Ev} (h : KSt w wr b nn l j D) (he : l[j]? = some e) (hb : e.back = false) (ho : w1.ownsMap Try.prog 9 (plainElem Try.prog 4) b (nn + 1) (D.put (.string e.k) (.lit (.bool true)))) (o : Only (fun q => q = b) wr w1) : KSt w w1 b (nn + 1) l (j + 1) (D.put (.string e.k) (.lit (.bool true))) := by
  refine ⟨h.only.trans2 o fun q hq e => by have := h.new; omega, ho, fun x => ?_, by have := h.few; omega, h.new⟩
  rw [calls_succ he, if_neg (by rw [hb]; decide)]
  by_cases ex : x = e.k
  · subst ex
    rw [Maps.has_put_same h.own.isMap (by trivial)]
    simp
  · rw [Maps.has_put_other (fun e' => ex (by injection e')), h.has]
    simp [ex]
set_option maxRecDepth 20000 in
set_option maxHeartbeats 1000000 in
theorem lkeys_any {w : World} {v : Value} {l : List Ev} (h : ER w v l) (hl : l.length ≤ 150) (hs : ∀ e ∈ l, e.key.size ≤ maxLen) : Calls Try.prog 20 #[v] w fun e w' => ∃ v', e = .returned v' ∧ Vec w' 1 v' (insAll (calls l)).length ((insAll (calls l)).map encStr) ∧ (∀ g, v'.ownBlock = some g → w.heap.size ≤ g) ∧ Only None' w w' := by
  obtain ⟨a, k, rfl⟩ := h.shape
  have H := Lib.hid h
  have HS := Lib.hid hs
  obtain ⟨n, hn⟩ : ∃ n, n = l.length := ⟨_, rfl⟩
  have HL := Lib.hid (And.intro hn hl)
  have hmm := @run_makeMap Try.prog
  rw [← hn] at H ⊢
  clear h hn hl hs
  go_enter Try.func20, Try.ntmps20
  go_wp2_with fail
  obtain ⟨b, hb⟩ : ∃ b, b = w.heap.size := ⟨_, rfl⟩
  have L0 : Hid (KSt w (w.alloc (.map #[] 0)) b 0 l 0 (.map [])) := Lib.hid ⟨(Only.refl None' w).alloc _, by rw [hb]; exact World.ownsMap_made w Try.prog 9 _, fun x => by simp [calls, Maps.has], Nat.le_refl _, by omega⟩
  rw [← hb]
  clear hb
  go_loopw [9] (fun i wr => ∃ (j nn : Nat) (D : DataW Unit), j ≤ n ∧ i = .int .i64 (j : Int) ∧ Hid (KSt w wr b nn l j D)) (fun i wr => n - (intOf i).toNat)
  case atStart => exact ⟨0, 0, _, by omega, rfl, L0⟩
  case round =>
    clear L0
    obtain ⟨j, nn, D, hj, rfl, HI⟩ := hrel
    by_cases hlt : j < n
    · have hjl : j < l.length := by have := HL.out.1; omega
      have RV := H.out.only HI.out.only fun _ _ e => e
      obtain ⟨g, off, cp, e, hg, hcell⟩ := RV.at_ hjl
      injection e with e e2 e3
      subst e
      clear e2 e3 RV
      obtain ⟨x, hx⟩ : ∃ x, x = l[j] := ⟨_, rfl⟩
      rw [← hx] at hcell
      have HX : Hid (l[j]? = some x) := Lib.hid (by rw [hx]; exact List.getElem?_eq_getElem hjl)
      have HSX : Hid (x.key.size ≤ maxLen) := Lib.hid (HS.out x (by rw [hx]; exact List.getElem_mem hjl))
      clear hx
      obtain ⟨z1, z2, z3, z4, z5, z6, z7, z8, z9, za, zb, zc⟩ := x
      have y0 := hcell 0 _ rfl
      have y1 := hcell 1 _ rfl
      have y2 := hcell 2 _ rfl
      have y3 := hcell 3 _ rfl
      have y4 := hcell 4 _ rfl
      have y5 := hcell 5 _ rfl
      have y6 := hcell 6 _ rfl
      have y7 := hcell 7 _ rfl
      have y8 := hcell 8 _ rfl
      have y9 := hcell 9 _ rfl
      have y10 := hcell 10 _ rfl
      have y11 := hcell 11 _ rfl
      rw [Nat.add_zero] at y0
      simp only at y0 y1 y2 y3 y4 y5 y6 y7 y8 y9 y10 y11
      have i0 : (0 : Int) ≤ (j : Int) := by omega
      have i1 : (j : Int) < (n : Int) := by omega
      have HLT := Lib.hid hlt
      clear hlt hj hjl hcell
      go_upto_region 5 with fail
      obtain ⟨w3, hw3⟩ : ∃ w3, w3 = wr.alloc (.cells #[.int .i64 z1, .int .i64 z2, .int .i64 z3, .bool z4, .int .u8 z5, .string z6, .string z7, .string z8, .bool z9, .int .u8 za, .bool zb, .string zc] 31) := ⟨_, rfl⟩
      obtain ⟨T, hT⟩ : ∃ T, T = wr.heap.size := ⟨_, rfl⟩
      have C3 : Hid (CellsR w3 T [.int .i64 z1, .int .i64 z2, .int .i64 z3, .bool z4, .int .u8 z5, .string z6, .string z7, .string z8, .bool z9, .int .u8 za, .bool zb, .string zc]) := Lib.hid (by rw [hw3, hT]; exact cells_new wr [.int .i64 z1, .int .i64 z2, .int .i64 z3, .bool z4, .int .u8 z5, .string z6, .string z7, .string z8, .bool z9, .int .u8 za, .bool zb, .string zc] 31)
      have H3 := Lib.hid (HI.out.new_ (show Only None' wr w3 by rw [hw3]; exact (Only.refl None' wr).alloc _))
      have t3 := C3.out.is 3 _ rfl
      have t5 := C3.out.is 5 _ rfl
      rw [← hw3, ← hT]
      clear hw3 hT y0 y1 y2 y3 y4 y5 y6 y7 y8 y9 y10 y11 hg
      cases z4 with
      | true =>
        go_wp2_with fail
        go_roundw
        case rel => exact ⟨j + 1, nn, D, by have := HLT.out; omega, next_int (by have := HL.out; have := HLT.out; omega), Lib.hid (H3.out.miss HX.out rfl)⟩
        case measure => exact meas HLT.out (by have := HL.out; omega)
      | false =>
        go_wp2_with (first | (at_mapUpdate; go_loud (refine wpList_mapUpdate_in _ rfl _ _ _ 75 rfl 9 4 keyed9 under75 (plainElem Try.prog 4) b nn D rfl H3.out.own (by have h1 := HI.out.few; have h2 := HLT.out; have h3 := HL.out; unfold maxLen; omega) (.string z6) (.bool true) (.string z6.data.toList) rfl rfl (Go.WideMaps.keyOf_string_mk under9 HSX.out) (.lit (.bool true)) [] (plainElem_bool Try.underlying4 true) ?_); intro w4 ho4 ht4; have HO4 := Lib.hid ho4; have O4 : Hid (Only (fun q => q = b) w3 w4) := Lib.hid ((Only.refl _ _).turned ht4 rfl); clear ho4 ht4))
        go_roundw
        case rel => exact ⟨j + 1, nn + 1, _, by have := HLT.out; omega, next_int (by have := HL.out; have := HLT.out; omega), Lib.hid (H3.out.put HX.out rfl HO4.out O4.out)⟩
        case measure => exact meas HLT.out (by have := HL.out; omega)
    · obtain rfl : j = n := by omega
      go_wp2_with fail
      refine (keys_any (some b) wr).mono ?_
      rintro e w3 ⟨rfl, e3⟩
      obtain rfl := e3
      go_wp2_with fail
      have hle : Maps.size D ≤ 1000 := by have h1 := HI.out.own.size_le; have h2 := HI.out.few; have h3 := HL.out; omega
      refine (sorted_any b nn D _ wr HI.out.own hle).mono ?_
      rintro e w4 ⟨v, ss, rfl, hS, hv, hf, o4⟩
      have hp := keys_perm_of (l := calls l) HI.out.own (fun x => by have := HI.out.has x; rw [List.take_of_length_le (by have := HL.out.1; omega)] at this; exact this)
      have hp2 := hS.trans hp.symm
      have hso : ss.mergeSort (fun x y => decide (x ≤ y)) = insAll (calls l) := by
        refine sorted_keys ((hp2.nodup_iff).2 (insAll_nodup _)) fun x => ?_
        rw [hp2.mem_iff, insAll_mem]
      rw [hso, hp2.length_eq] at hv
      have HV := Lib.hid (And.intro hv (And.intro (fun g hg => Nat.le_trans HI.out.only.size (hf g hg)) (HI.out.only.trans o4)))
      obtain ⟨va, vc, rfl, _, _⟩ := hv.shape
      clear hv hf o4 hS hp hp2 hso hle
      go_wp2_with fail
      go_ret
      exact ⟨_, rfl, HV.out⟩
end Go.Proofs.Ytajbagdgjbihjaa
