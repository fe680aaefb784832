/- The document's shelf: Get. -/
import Derived.Test.YthmdaekkpihlnaaQ6
namespace Go.Proofs.Ythmdaekkpihlnaa
open Go.RowKit
set_option linter.unusedVariables false

theorem put18 {w : World} {X : Nat} {E Y : Int} {v : Value} {L : List Ent} (R : Ref w X E Y v L) (e : Ent) (hk : e.key.size ≤ 140737488355328) (hv : e.val.size ≤ 140737488355328) (hE : 0 ≤ E) (hl : L.length < 1000) :
    Calls Try.prog 18 #[.pointer (some ⟨X, 0, none⟩), .agg #[.string e.key, .string e.val, .int .i64 e.til, .int .i64 e.gra]] w fun r w' => r = .returned (.bool (pfits E Y e)) ∧ ∃ v', Ref w' X E Y v' (pput E Y L e) ∧ Kept (OwnR X v) (OwnR X v') w w' := by
  by_cases h1 : E = 0
  · have hf : pfits E Y e = false := by simp [pfits, h1]
    unfold pput; rw [hf]
    exact put18_no R e hk hv (.inl (by omega))
  · by_cases h2 : Y < (e.key.size : Int) + (e.val.size : Int)
    · have hf : pfits E Y e = false := by simp [pfits, h2]
      unfold pput; rw [hf]
      exact put18_no R e hk hv (.inr h2)
    · have hf : pfits E Y e = true := by simp [pfits, h1, h2]
      unfold pput; rw [hf]
      exact put18_yes R e hk hv (by omega) (by omega) hl

theorem pfind_take {L : List Ent} {k : Nat} {key : ByteArray} (hk : k < L.length) (h : pfind (L.take k) key = none) (he : L[k].key = key) : pfind L key = some L[k] := by
  unfold pfind at *
  have e : L = L.take k ++ L[k] :: L.drop (k + 1) := by rw [← List.drop_eq_getElem_cons hk, List.take_append_drop]
  have := congrArg (List.find? fun e => decide (e.key = key)) e
  rw [List.find?_append, h] at this
  rw [this, Option.none_or]
  exact List.find?_cons_of_pos (by simp [he])
theorem pfind_step {L : List Ent} {k : Nat} {key : ByteArray} (hk : k < L.length) (h : pfind (L.take k) key = none) (he : ¬ L[k].key = key) : pfind (L.take (k + 1)) key = none := by
  unfold pfind at *
  rw [take_snocE hk, List.find?_append, h, Option.none_or]
  rw [List.find?_cons_of_neg (by simpa using he)]
  rfl

/-- a world in which only new blocks have come, and the result's block -/
def zeroObj : Obj := .cells #[.string ⟨#[]⟩, .string ⟨#[]⟩, .int .i64 0, .int .i64 0] 50

theorem cellsN (e : Ent) (w w1 : World) (n : Nat) (hb : w1.heap[n]? = some (entObjR e)) : At4 w1 n 0 e := by
  have c (i : Nat) := cell_of_row w1 n i _ 50 (0, 0) hb
  exact ⟨c 0, c 1, c 2, c 3⟩

set_option maxRecDepth 8000 in
theorem get19_none {w : World} {X : Nat} {E Y : Int} {v : Value} {L : List Ent} (R : Ref w X E Y v L) (key : ByteArray) (now : Int) (hf : pfind L key = none) :
    Calls Try.prog 19 #[.pointer (some ⟨X, 0, none⟩), .string key, .int .i64 now] w fun r w' => r = .returned (.tuple #[.agg #[.string ⟨#[]⟩, .string ⟨#[]⟩, .int .i64 0, .int .i64 0], .bool false]) ∧ Only None' w w' := by
  obtain ⟨a, cap, rfl, hcap, hmax⟩ := R.vec.shape
  have RR := Lib.hid R
  have c2 := R.c2
  have lX := R.ltX
  have hfew := R.few
  have HV := Lib.hid R.vec
  have HF := Lib.hid hf
  clear R hf
  go_enter Try.func19, Try.ntmps19
  go_wp2
  go_loopw [8] (fun i wr => ∃ k : Nat, k ≤ L.length ∧ i = .int .i64 k ∧ Below (w.heap.size + 1) (w.alloc zeroObj) wr) (fun i wr => L.length - (intOf i).toNat)
  case atStart => exact ⟨0, by omega, rfl, Below.refl _ _⟩
  case round =>
    obtain ⟨k, hk, rfl, hbel⟩ := hrel
    have HB := Lib.hid hbel
    have hB : ∀ b i, b < w.heap.size → wr.cell? ⟨b, i, none⟩ = w.cell? ⟨b, i, none⟩ := fun b i h => by rw [hbel.cell (p := ⟨b, i, none⟩) (by show b < _; omega), World.cell?_alloc_lt _ _ _ h]
    have d2 : wr.cell? ⟨X, 2, none⟩ = some (.slice a L.length cap) := by rw [hB X 2 lX]; exact c2
    have hsz := hbel.size
    clear hbel
    by_cases hlt : k < L.length
    · rcases HV.out.form with ⟨h1, h2⟩ | ⟨g, off, cap', h1, h2, h3, h4, h5, h6⟩
      · omega
      · simp only [Value.slice.injEq] at h1
        obtain ⟨rfl, _, rfl⟩ := h1
        obtain ⟨k0, k1, k2, k3⟩ := at4 h5 hlt
        rw [← hB g _ h4] at k0 k1 k2 k3
        have i1 : (k : Int) < (L.length : Int) := by omega
        have hne : ¬ L[k].key = key := fun e => by
          have := HF.out
          unfold pfind at this
          rw [List.find?_eq_none] at this
          have h := this L[k] (List.getElem_mem hlt)
          simp [e] at h
        have hb := keyF hne
        clear h5 h6 hne hB
        go_wp2
        go_roundw
        case rel => exact ⟨k + 1, by omega, by go_num, HB.out.alloc (by simp at hsz; omega) _⟩
        case measure => simp [intOf]; omega
    · have : k = L.length := by omega
      subst this
      have z (i : Nat) : wr.cell? ⟨w.heap.size, i, none⟩ = #[Value.string ⟨#[]⟩, .string ⟨#[]⟩, .int .i64 0, .int .i64 0][i]? := by
        rw [HB.out.cell (p := ⟨w.heap.size, i, none⟩) (by show w.heap.size < _; omega)]
        exact World.cell?_alloc_new _ _ _ _
      have zf (i : Nat) : wr.frozen? ⟨w.heap.size, i, none⟩ = false := by
        rw [HB.out.frozen (p := ⟨w.heap.size, i, none⟩) (by show w.heap.size < _; omega)]
        exact World.frozen?_alloc_new _ _ _ _
      have z0 := z 0
      have z1 := z 1
      have z2 := z 2
      have z3 := z 3
      clear z hB
      go_wp2
      (try simp only [Exit.inBlock, Exit.then])
      refine bodyPost_ret (v := .tuple #[.agg #[.string ⟨#[]⟩, .string ⟨#[]⟩, .int .i64 0, .int .i64 0], .bool false]) ?_ rfl ⟨rfl, ?_⟩
      · rw [results_cell_tmp rfl]
        go_simp
      · have hb := HB.out
        have h1 : Only None' w wr := ((Only.refl None' w).alloc zeroObj).trans2 ⟨hb.os, hb.tape, hb.output, hb.size, fun k hk hn => hb.block k (by rcases Nat.lt_or_ge k (w.heap.size + 1) with h | h; exact h; exact absurd h hn)⟩ (fun k hk h => absurd h (by omega))
        have h2 : Only (fun k => k = w.heap.size) wr _ := ((((Only.refl (fun k => k = w.heap.size) wr).setCell (p := ⟨w.heap.size, 0, none⟩) rfl (.string ⟨#[]⟩)).setCell (p := ⟨w.heap.size, 1, none⟩) rfl (.string ⟨#[]⟩)).setCell (p := ⟨w.heap.size, 2, none⟩) rfl (.int .i64 0)).setCell (p := ⟨w.heap.size, 3, none⟩) rfl (.int .i64 0)
        exact h1.trans2 h2 fun k hk e => by omega

/-- the world in which the entry was found -/
structure Found (w wr : World) (X : Nat) (E Y : Int) (v : Value) (L : List Ent) : Prop where
  ref : Ref wr X E Y v L
  kept : Only None' w wr
  size : w.heap.size < wr.heap.size
  zero : ∀ i : Nat, wr.cell? ⟨w.heap.size, i, none⟩ = #[Value.string ⟨#[]⟩, .string ⟨#[]⟩, .int .i64 0, .int .i64 0][i]?
  thaw : ∀ i : Nat, wr.frozen? ⟨w.heap.size, i, none⟩ = false
  apart : ¬ OwnR X v w.heap.size

theorem found_of {w wr : World} {X : Nat} {E Y : Int} {v : Value} {L : List Ent} (R : Ref w X E Y v L) (hb : Below (w.heap.size + 1) (w.alloc zeroObj) wr) : Found w wr X E Y v L := by
  have h1 : Only None' w wr := ((Only.refl None' w).alloc zeroObj).trans2 ⟨hb.os, hb.tape, hb.output, hb.size, fun k hk hn => hb.block k (by rcases Nat.lt_or_ge k (w.heap.size + 1) with h | h; exact h; exact absurd h hn)⟩ (fun k hk h => absurd h (by omega))
  refine ⟨R.only h1 fun _ _ h => h, h1, ?_, fun i => ?_, fun i => ?_, fun h => absurd (R.lt h) (by omega)⟩
  · have := hb.size; simp at this; omega
  · rw [hb.cell (p := ⟨w.heap.size, i, none⟩) (by show w.heap.size < _; omega)]
    exact World.cell?_alloc_new _ _ _ _
  · rw [hb.frozen (p := ⟨w.heap.size, i, none⟩) (by show w.heap.size < _; omega)]
    exact World.frozen?_alloc_new _ _ _ _

theorem only_four {w w1 : World} {n : Nat} (a b c d : Value) : Only (fun k => k = n) w1 ((((w1.setCell ⟨n, 0, none⟩ a).setCell ⟨n, 1, none⟩ b).setCell ⟨n, 2, none⟩ c).setCell ⟨n, 3, none⟩ d) :=
  ((((Only.refl (fun k => k = n) w1).setCell (p := ⟨n, 0, none⟩) rfl a).setCell (p := ⟨n, 1, none⟩) rfl b).setCell (p := ⟨n, 2, none⟩) rfl c).setCell (p := ⟨n, 3, none⟩) rfl d

theorem pdrop_lt {L : List Ent} {key : ByteArray} {e : Ent} (h : pfind L key = some e) : (pdrop L key).length < L.length := by
  unfold pfind at h
  have hm := List.mem_of_find?_eq_some h
  have hp := List.find?_some h
  unfold pdrop
  refine Nat.lt_of_le_of_ne (List.length_filter_le _ _) fun he => ?_
  rw [List.length_filter_eq_length_iff] at he
  have := he e hm
  simp at this hp
  exact this hp

theorem pget_no {L : List Ent} {key : ByteArray} {now : Int} {e : Ent} (h : pfind L key = some e) (hn : e.til ≤ now) : pget L key now = none := by
  unfold pget
  rw [h]
  show (if decide (now < e.til) = true then some e else none) = none
  rw [if_neg]
  simp; omega
theorem pget_yes {L : List Ent} {key : ByteArray} {now : Int} {e : Ent} (h : pfind L key = some e) (hn : ¬ e.til ≤ now) : pget L key now = some e := by
  unfold pget
  rw [h]
  show (if decide (now < e.til) = true then some e else none) = some e
  rw [if_pos]
  simp; omega

set_option maxRecDepth 8000 in
set_option maxHeartbeats 1000000 in
theorem get19_some {w : World} {X : Nat} {E Y : Int} {v : Value} {L : List Ent} (R : Ref w X E Y v L) (key : ByteArray) (now : Int) {n : Nat} (hn : n < L.length) (hf : pfind (L.take n) key = none) (hkey : L[n].key = key) :
    Calls Try.prog 19 #[.pointer (some ⟨X, 0, none⟩), .string key, .int .i64 now] w fun r w' => 
      ∃ g b, g = (pget L key now).getD zent ∧ b = (pget L key now).isSome ∧ r = .returned (.tuple #[.agg #[.string g.key, .string g.val, .int .i64 g.til, .int .i64 g.gra], .bool b]) ∧
      ∃ v', Ref w' X E Y v' (pgot L key now) ∧ Kept (OwnR X v) (OwnR X v') w w' := by
  obtain ⟨i0, hi, hz0, hz1, hz2⟩ := info_parts info50
  obtain ⟨a, cap, rfl, hcap, hmax⟩ := R.vec.shape
  have RR := Lib.hid R
  have c2 := R.c2
  have lX := R.ltX
  have hfew := R.few
  have HV := Lib.hid R.vec
  have HF := Lib.hid hf
  have HKEY := Lib.hid hkey
  have hsome := pfind_take hn hf hkey
  have HSOME := Lib.hid hsome
  clear R hf hkey hsome
  go_enter Try.func19, Try.ntmps19
  go_wp2
  go_loopw [8] (fun i wr => ∃ k : Nat, k ≤ n ∧ i = .int .i64 k ∧ Below (w.heap.size + 1) (w.alloc zeroObj) wr) (fun i wr => L.length - (intOf i).toNat)
  case atStart => exact ⟨0, by omega, rfl, Below.refl _ _⟩
  case round =>
    obtain ⟨k, hk, rfl, hbel⟩ := hrel
    have HB := Lib.hid hbel
    have hB : ∀ b i, b < w.heap.size → wr.cell? ⟨b, i, none⟩ = w.cell? ⟨b, i, none⟩ := fun b i h => by rw [hbel.cell (p := ⟨b, i, none⟩) (by show b < _; omega), World.cell?_alloc_lt _ _ _ h]
    have d2 : wr.cell? ⟨X, 2, none⟩ = some (.slice a L.length cap) := by rw [hB X 2 lX]; exact c2
    have hsz := hbel.size
    have FO := Lib.hid (found_of RR.out hbel)
    clear hbel
    have hlt : k < L.length := by omega
    rcases HV.out.form with ⟨h1, h2⟩ | ⟨g, off, cap', h1, h2, h3, h4, h5, h6⟩
    · omega
    · simp only [Value.slice.injEq] at h1
      obtain ⟨rfl, _, rfl⟩ := h1
      obtain ⟨k0, k1, k2, k3⟩ := at4 h5 hlt
      rw [← hB g _ h4] at k0 k1 k2 k3
      have i1 : (k : Int) < (L.length : Int) := by omega
      clear h5 h6 hB
      by_cases hkn : k = n
      · subst hkn
        have hb := keyT HKEY.out
        obtain ⟨e, he⟩ : ∃ e, e = L[k] := ⟨_, rfl⟩
        rw [← he] at k0 k1 k2 k3 hb
        have HE := Lib.hid he
        clear he
        go_wp2_with fail
        have R1 := Lib.hid (FO.out.ref.alloc (entObjR e))
        refine (drop20 R1.out key).mono ?_
        rintro r w1 ⟨rfl, v1, hR1, hK1⟩
        obtain ⟨lx, nx, bx⟩ := FO.out.ref.box hK1
        obtain ⟨q0, q1, q2, q3⟩ := cellsN e w w1 _ bx
        obtain ⟨lz, nz, bz⟩ := hK1.stay (b := w.heap.size) (by have := FO.out.size; simp; omega) FO.out.apart
        have bz' : w1.heap[w.heap.size]? = wr.heap[w.heap.size]? := bz.trans (Below.heap_alloc _ _ _ FO.out.size)
        have z (i : Nat) : w1.cell? ⟨w.heap.size, i, none⟩ = #[Value.string ⟨#[]⟩, .string ⟨#[]⟩, .int .i64 0, .int .i64 0][i]? :=
          (World.cell?_of_block (w := wr) (a := ⟨w.heap.size, i, none⟩) bz').trans (FO.out.zero i)
        have zf (i : Nat) : w1.frozen? ⟨w.heap.size, i, none⟩ = false := (World.frozen?_of_block (w := wr) (a := ⟨w.heap.size, i, none⟩) bz').trans (FO.out.thaw i)
        have z0 := z 0
        have z1 := z 1
        have z2 := z 2
        have z3 := z 3
        have R2 := Lib.hid hR1
        have K2 := Lib.hid ((Kept.only' (FO.out.kept.mono fun _ _ h => h.elim)).trans hK1.start : Kept (OwnR X (.slice (some ⟨g, off, none⟩) L.length cap)) (OwnR X v1) w w1)
        have NZ := Lib.hid nz
        have NX := Lib.hid nx
        have hfs := FO.out.size
        have HP : Hid (pfind L key = some e) := by show _ = _; rw [HSOME.out, ← HE.out]
        clear hK1 hR1 nx bx bz bz' z nz
        by_cases hnow : e.til ≤ now
        · go_wp2
          (try simp only [Exit.inBlock, Exit.then])
          refine bodyPost_ret (v := .tuple #[.agg #[.string ⟨#[]⟩, .string ⟨#[]⟩, .int .i64 0, .int .i64 0], .bool false]) ?_ rfl ⟨zent, false, ?_, ?_, rfl, v1, ?_, ?_⟩
          · rw [results_cell_tmp rfl]
            go_simp
          · rw [pget_no HP.out hnow]; rfl
          · rw [pget_no HP.out hnow]; rfl
          · have hp : pgot L key now = pdrop L key := by unfold pgot; rw [HP.out]; exact if_neg (by show ¬ now < e.til; omega)
            rw [hp]
            exact R2.out.only (only_four (w := w) _ _ _ _) fun k hk e => NZ.out (e ▸ hk)
          · exact ⟨K2.out.only.trans2 (only_four (w := w) _ _ _ _) fun k hk e => by omega, K2.out.fresh⟩
        · have j2 := R2.out.c2
          have lX1 := R2.out.ltX
          have f2 := R2.out.thaw 2
          have apX := R2.out.apart
          have RV := Lib.hid R2.out.vec
          have hpl := pdrop_le L key
          have hzX : ¬ w.heap.size = X := fun e => NZ.out (.inl e)
          have hbX : ¬ wr.heap.size = X := by omega
          have hnb : ¬ v1.ownBlock = some wr.heap.size := fun h => NX.out (.inr h)
          have hnz : ¬ v1.ownBlock = some w.heap.size := fun h => NZ.out (.inr h)
          go_wp2_with fail
          go_region_law (refine step_vec_append _ (by rfl) _ _ 46 (by rfl) 50 i0 _ 4 48 Try.underlying46 hi hz0 hz1 hz2 rfl (by omega) v1 _ _ (by rfl) ((RV.out.alloc _).drew) ⟨w1.heap.size, 0, none⟩ 1 1 e.cells (by rfl) (by rfl) (World.news_of_block (cs := #[.string e.key, .string e.val, .int .i64 e.til, .int .i64 e.gra]) (t := 50) (fr := (0, 0)) (heap_alloc_new w1 _)) (by simp [Value.oneCell', Ent.cells]) (by unfold maxLen; omega) (by omega) ?_; intro v2 w2 hv2 hg2 ha2; obtain ⟨av, cv, rfl, _, _⟩ := hv2.shape; have hO1 : Only (fun k => v1.ownBlock = some k) w1 w2 := (((Only.refl _ w1).alloc _).drew).grown hg2 fun k hk => hk; have d2 : w2.cell? ⟨X, 2, none⟩ = some v1 := (hO1.cell lX1 apX 2).trans j2; have g2 : w2.frozen? ⟨X, 2, none⟩ = false := (hO1.frozen lX1 apX 2).trans f2; have s0 := (hO1.cell lx hnb 0).trans q0; have s1 := (hO1.cell lx hnb 1).trans q1; have s2 := (hO1.cell lx hnb 2).trans q2; have s3 := (hO1.cell lx hnb 3).trans q3; have y0 := (hO1.cell lz hnz 0).trans z0; have y1 := (hO1.cell lz hnz 1).trans z1; have y2 := (hO1.cell lz hnz 2).trans z2; have y3 := (hO1.cell lz hnz 3).trans z3; have yf := (fun i => (hO1.frozen lz hnz i).trans (zf i)); have HV2 := Lib.hid hv2; have HO1 := Lib.hid hO1; have HA2 := Lib.hid ha2; clear hv2 hg2 ha2 hO1)
          all_goals
            go_wp2
            (try simp only [Exit.inBlock, Exit.then])
            refine bodyPost_ret (v := .tuple #[.agg #[.string e.key, .string e.val, .int .i64 e.til, .int .i64 e.gra], .bool true]) ?_ rfl ⟨e, true, ?_, ?_, rfl, ?_⟩
            · rw [results_cell_tmp rfl]
              go_simp
            · rw [pget_yes HP.out (by omega)]; rfl
            · rw [pget_yes HP.out (by omega)]; rfl
            · have hp : pgot L key now = pdrop L key ++ [e] := by unfold pgot; rw [HP.out]; exact if_pos (by show now < e.til; omega)
              rw [hp]
              have hsm := RR.out.small e (by rw [HE.out]; exact List.getElem_mem hlt)
              obtain ⟨g1, g3⟩ := R2.out.stored HV2.out HO1.out (fun k hk => (HA2.out k hk).imp id fun h => Nat.le_trans (by simp) h) hsm.1 hsm.2 (by have := pdrop_lt HP.out; omega)
              have hnk : ∀ k, OwnR X (.slice av ((pdrop L key).length + 1) cv) k → ¬ k = w.heap.size := by
                rintro k hk rfl
                rcases g3.fresh _ hk with h | h
                · exact NZ.out h
                · omega
              exact ⟨_, g1.only (only_four (w := w) _ _ _ _) hnk, ((K2.out.trans g3).only.trans2 (only_four (w := w) _ _ _ _) fun k hk e => by omega), (K2.out.trans g3).fresh⟩
      · have hne : ¬ L[k].key = key := fun e => by
          have := HF.out
          unfold pfind at this
          rw [List.find?_eq_none] at this
          have hkt : k < (L.take n).length := by simp; omega
          have h := this (L.take n)[k] (List.getElem_mem hkt)
          simp [e] at h
        have hb := keyF hne
        clear hne
        go_wp2
        go_roundw
        case rel => exact ⟨k + 1, by omega, by go_num, HB.out.alloc (by simp at hsz; omega) _⟩
        case measure => simp [intOf]; omega

theorem get19 {w : World} {X : Nat} {E Y : Int} {v : Value} {L : List Ent} (R : Ref w X E Y v L) (key : ByteArray) (now : Int) :
    Calls Try.prog 19 #[.pointer (some ⟨X, 0, none⟩), .string key, .int .i64 now] w fun r w' => 
      ∃ g b, g = (pget L key now).getD zent ∧ b = (pget L key now).isSome ∧ r = .returned (.tuple #[.agg #[.string g.key, .string g.val, .int .i64 g.til, .int .i64 g.gra], .bool b]) ∧
      ∃ v', Ref w' X E Y v' (pgot L key now) ∧ Kept (OwnR X v) (OwnR X v') w w' := by
  by_cases h : ∃ n, ∃ hn : n < L.length, pfind (L.take n) key = none ∧ L[n].key = key
  · obtain ⟨n, hn, h1, h2⟩ := h
    exact get19_some R key now hn h1 h2
  · have hf : pfind L key = none := by
      have : ∀ n, n ≤ L.length → pfind (L.take n) key = none := by
        intro n
        induction n with
        | zero => intro _; rfl
        | succ n ih =>
          intro hn
          exact pfind_step (by omega) (ih (by omega)) fun e => h ⟨n, by omega, ih (by omega), e⟩
      have := this L.length (Nat.le_refl _)
      rwa [List.take_length] at this
    refine (get19_none R key now hf).mono ?_
    rintro r w' ⟨rfl, hO⟩
    have hp : pget L key now = none := by unfold pget; rw [hf]; rfl
    have hq : pgot L key now = L := by unfold pgot; rw [hf]
    exact ⟨zent, false, by rw [hp]; rfl, by rw [hp]; rfl, rfl, v, by rw [hq]; exact R.only hO fun _ _ h => h, Kept.only' (hO.mono fun _ _ h => h.elim)⟩

end Go.Proofs.Ythmdaekkpihlnaa
