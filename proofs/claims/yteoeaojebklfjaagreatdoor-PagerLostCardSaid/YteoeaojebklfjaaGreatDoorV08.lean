/- H5 H6 H9 I1 in one text. -/
import Derived.Test.YteoeaojebklfjaaGreatDoorV05
import Derived.Test.YteoeaojebklfjaaGreatDoorV07
import Derived.Test.YteoeaojebklfjaaGreatDoorV04
import Derived.Test.YteoeaojebklfjaaGreatDoorV00
namespace Go.Proofs.YteoeaojebklfjaaGreatDoor
set_option linter.unusedVariables false

def seeG (count : Nat) (g : Nat → Sec) (i : Nat) : Option Pc := match pieceOf (g i) with
  | some p => if p.n % count = i then some p else none
  | none => none
def pieceG (count : Nat) (g : Nat → Sec) (n : Nat) : Option Pc := match seeG count g (n % count) with
  | some p => if p.n = n then some p else none
  | none => none
def topG (count : Nat) (g : Nat → Sec) (base : Nat) : Nat → Nat
  | 0 => base
  | k + 1 => match seeG count g k with
    | some p => max (topG count g base k) p.n
    | none => topG count g base k
def runG (count : Nat) (g : Nat → Sec) : Nat → Nat → List (List UInt8) → List UInt8 → Nat → List (List UInt8) × Nat
  | 0, _, out, _, last => (out, last)
  | k + 1, n, out, now, last => match pieceG count g (n + 1) with
    | none => (out, last)
    | some p => if p.last then runG count g k (n + 1) (out ++ [now ++ p.data]) [] (n + 1) else runG count g k (n + 1) out (now ++ p.data) last

theorem seeG_some {count : Nat} {g : Nat → Sec} {i : Nat} {p : Pc} (h : seeG count g i = some p) : pieceOf (g i) = some p ∧ p.n % count = i := by
  unfold seeG at h
  split at h
  · rename_i q hq
    split at h
    · injection h with h
      subst h
      exact ⟨hq, ‹_›⟩
    · cases h
  · cases h
theorem seeG_ok {count : Nat} {g : Nat → Sec} {i : Nat} {p : Pc} (h : seeG count g i = some p) : p.Ok := (pieceOf_some (seeG_some h).1).2
theorem pieceG_some {count : Nat} {g : Nat → Sec} {n : Nat} {p : Pc} (h : pieceG count g n = some p) : pieceOf (g (n % count)) = some p ∧ p.n = n := by
  unfold pieceG at h
  split at h
  · rename_i q hq
    split at h
    · injection h with h
      subst h
      exact ⟨(seeG_some hq).1, ‹_›⟩
    · cases h
  · cases h
theorem pieceG_of {count : Nat} {g : Nat → Sec} {n : Nat} {p : Pc} (h : pieceOf (g (n % count)) = some p) (hn : p.n = n) : pieceG count g n = some p := by
  unfold pieceG seeG
  rw [h]
  simp only
  rw [if_pos (by rw [hn])]
  simp only
  rw [if_pos hn]
theorem topG_le {count : Nat} {g : Nat → Sec} {base : Nat} : ∀ k, base ≤ topG count g base k
  | 0 => Nat.le_refl _
  | k + 1 => by
    unfold topG
    split
    · exact Nat.le_trans (topG_le k) (Nat.le_max_left _ _)
    · exact topG_le k
theorem topG_big {count : Nat} {g : Nat → Sec} {base : Nat} (hb : base ≤ 4611686018427387904) : ∀ k, topG count g base k ≤ 4611686018427387904
  | 0 => hb
  | k + 1 => by
    unfold topG
    split
    · rename_i p hp
      exact Nat.max_le.2 ⟨topG_big hb k, (seeG_ok hp).top⟩
    · exact topG_big hb k
theorem topG_ge {count : Nat} {g : Nat → Sec} {base i : Nat} {p : Pc} (hp : seeG count g i = some p) : ∀ k, i < k → p.n ≤ topG count g base k
  | 0, h => absurd h (by omega)
  | k + 1, h => by
    unfold topG
    by_cases e : i = k
    · subst e
      rw [hp]
      exact Nat.le_max_right _ _
    · have := topG_ge (base := base) hp k (by omega)
      split
      · exact Nat.le_trans this (Nat.le_max_left _ _)
      · exact this
theorem runG_last {count : Nat} {g : Nat → Sec} : ∀ (k n : Nat) (out : List (List UInt8)) (now : List UInt8) (last : Nat), last ≤ n → last ≤ (runG count g k n out now last).2 ∧ (runG count g k n out now last).2 ≤ n + k
  | 0, n, out, now, last, h => ⟨Nat.le_refl _, by unfold runG; omega⟩
  | k + 1, n, out, now, last, h => by
    unfold runG
    split
    · exact ⟨Nat.le_refl _, by simp only; omega⟩
    · rename_i p hp
      split
      · have := runG_last (count := count) (g := g) k (n + 1) (out ++ [now ++ p.data]) [] (n + 1) (Nat.le_refl _)
        exact ⟨by omega, by omega⟩
      · have := runG_last (count := count) (g := g) k (n + 1) out (now ++ p.data) last (by omega)
        exact ⟨this.1, by omega⟩
theorem runG_top {count : Nat} {g : Nat → Sec} {top : Nat} (ht : ∀ n p, pieceG count g n = some p → p.n ≤ top) : ∀ (k n : Nat) (out : List (List UInt8)) (now : List UInt8) (last : Nat), last ≤ top → (runG count g k n out now last).2 ≤ top
  | 0, n, out, now, last, h => h
  | k + 1, n, out, now, last, h => by
    unfold runG
    split
    · exact h
    · rename_i p hp
      have := ht _ _ hp
      rw [(pieceG_some hp).2] at this
      split
      · exact runG_top ht k _ _ _ _ this
      · exact runG_top ht k _ _ _ _ h
theorem pieceG_top {count : Nat} {g : Nat → Sec} {base : Nat} (hc : 1 ≤ count) {n : Nat} {p : Pc} (h : pieceG count g n = some p) : p.n ≤ topG count g base count := by
  obtain ⟨h1, h2⟩ := pieceG_some h
  refine topG_ge (i := n % count) ?_ count (Nat.mod_lt _ (by omega))
  unfold seeG
  rw [h1]
  simp only
  rw [if_pos (by rw [h2])]
end Go.Proofs.YteoeaojebklfjaaGreatDoor
namespace Go.Proofs.YteoeaojebklfjaaGreatDoor
open Go.RowKit Go.Maps
set_option linter.unusedVariables false

def RRes (w w' : World) (r : Ending) (o : Option Pc) : Prop := Only None' w w' ∧ match o with
  | none => ∃ (n : Int) (b : Bool) (a : Option Addr) (k c : Nat), r = .returned (.tuple #[.agg #[.int .i64 n, .bool b, .slice a k c], .bool false, .int .i64 0])
  | some p => ∃ v, r = .returned (.tuple #[.agg #[.int .i64 (p.n : Int), .bool p.last, v], .bool true, .int .i64 0]) ∧ Vec w' 1 v p.data.length (bv p.data) ∧ ∀ g, v.ownBlock = some g → w.heap.size ≤ g
theorem array_at124 (w : World) (p : Option Addr) (c : Nat) : (Instr.arrayAt 133 (.slice p 512 c)).run Tryz.prog w = .ok (.pointer p) w := by simp [Instr.arrayAt, run_underlying Tryz.underlying133]
def Rg.see (r : Rg) (d : Dk) (i : Nat) : Option Pc := match pieceOf (d.read i) with
  | some p => if r.place p.n = i then some p else none
  | none => none
theorem cells_new (w : World) (vs : List Value) (t : TypeId) : CellsR (w.alloc (.cells vs.toArray t)) w.heap.size vs :=
  ⟨fun i u hu => by rw [World.cell?_alloc_new]; simpa using hu, fun i => World.frozen?_alloc_new _ _ _ _, by simp⟩

theorem results_cell_tmp2 {P : Program} {fn : Func} {p u v : Tmp} {ty : TypeId} (h : fn.results = #[.cell p ty, .tmp u, .tmp v]) (tmps : Array Value) (w : World) :
    (results fn tmps).run P w = ((asAddr (tmps.getD p undef)).run P w).andThen fun a w1 => ((loadVar ty a).run P w1).andThen fun x w2 => .ok (.tuple #[x, tmps.getD u undef, tmps.getD v undef]) w2 := by
  simp only [results, h]
  simp [Sem.run_bind, Result.andThen]
theorem three (T : Nat) (w : World) (a b c : Value) : Only (fun k => k = T) w (((w.setCell ⟨T, 0, none⟩ a).setCell ⟨T, 1, none⟩ b).setCell ⟨T, 2, none⟩ c) :=
  (((Only.refl (fun k => k = T) w).setCell (p := ⟨T, 0, none⟩) rfl _).setCell (p := ⟨T, 1, none⟩) rfl _).setCell (p := ⟨T, 2, none⟩) rfl _
theorem apart3 {v : Value} {m T : Nat} (h : ∀ g, v.ownBlock = some g → m ≤ g) (ht : T < m) : ∀ g, v.ownBlock = some g → ¬ g = T := fun g hg e => by have := h g hg; omega
theorem stored3 {w w2 : World} (o : Only None' w w2) (a b c : Value) : Only None' w (((w2.setCell ⟨w.heap.size, 0, none⟩ a).setCell ⟨w.heap.size, 1, none⟩ b).setCell ⟨w.heap.size, 2, none⟩ c) :=
  o.trans2 ((((Only.refl (fun k => k = w.heap.size) w2).setCell (p := ⟨w.heap.size, 0, none⟩) rfl _).setCell (p := ⟨w.heap.size, 1, none⟩) rfl _).setCell (p := ⟨w.heap.size, 2, none⟩) rfl _) fun k hk e => by omega

set_option maxRecDepth 20000 in
set_option maxHeartbeats 2000000 in
theorem rread_any {w : World} {R D : Nat} {F : Nat → Prop} {r : Rg} {d : Dk} (h : RingAt w R D r) (hok : r.Ok) (hd : DiskAt w D F d) (hdd : d.dead = false) {i : Nat} (hi : i < d.lasts.length) (hn : d.waits.length ≤ 1000000) {o : Option Pc} (ho : r.see d i = o) :
    Calls Tryz.prog 88 #[.pointer (some ⟨R, 0, none⟩), .int .i64 (i : Int)] w fun e w' => RRes w w' e o := by
  have HR := Lib.hid (read_any (hd.alloc (.cells #[.int .i64 0, .bool false, .slice none 0 0] 132)) hdd hi hn)
  have HL := Lib.hid (Dk.read_length (DiskAt.ok hd) hi)
  have HRG := Lib.hid (h.kept ((Only.refl None' _).alloc (.cells #[.int .i64 0, .bool false, .slice none 0 0] 132)) fun e => e)
  have HO := Lib.hid ho
  have HK := Lib.hid hok
  have c0 := h.is 0 _ rfl
  have ltR := h.lt
  have O1 := Lib.hid ((Only.refl None' w).alloc (.cells #[.int .i64 0, .bool false, .slice none 0 0] 132))
  have T1 := Lib.hid (cells_new w [.int .i64 0, .bool false, .slice none 0 0] 132)
  have ltR0 := Lib.hid h.lt
  clear h hd hdd hn ho hok
  obtain ⟨s, hs⟩ : ∃ s, s = d.read i := ⟨_, rfl⟩
  rw [← hs] at HR HL
  have HS := Lib.hid hs
  clear hs
  go_enter Tryz.func88, Tryz.ntmps88
  go_wp2_with fail
  refine HR.out.mono ?_
  rintro e w1 ⟨v, rfl, hv, hge, ho1⟩
  obtain ⟨g, off, cap, rfl, _⟩ := hv.at_ (by decide)
  have HV := Lib.hid hv
  have O2 := Lib.hid (O1.out.trans ho1)
  have T2 := Lib.hid (T1.out.kept ho1 fun e => e)
  have R2 := Lib.hid (HRG.out.kept ho1 fun e => e)
  have ho1s := ho1.size
  clear hv hge ho1 c0 ltR
  have ka := array_at124 w1 (some ⟨g, off, none⟩) cap
  go_wp2_with (first | (refine wpList_load_mid rfl 133 _ rfl g off rfl (bv s) _ HV.out.range Tryz.underlying133 rfl (size124 s HL.out) ?_))
  clear ka
  have HLT := Lib.hid (Nat.lt_of_lt_of_le (show w.heap.size < (w.alloc (.cells #[.int .i64 0, .bool false, .slice none 0 0] 132)).heap.size by simp) ho1s)
  cases hp : pieceOf s with
  | none =>
    have ho : o = none := by rw [← HO.out]; unfold Rg.see; rw [← HS.out, hp]
    subst ho
    have HP := Lib.hid (pieceOf_any w1 s HL.out hp)
    clear hp
    refine HP.out.mono ?_
    rintro e w2 ⟨o3, rfl⟩
    have T3 := T2.out.kept o3 fun e => e
    have t0 := T3.is 0 _ rfl
    have t1 := T3.is 1 _ rfl
    have t2 := T3.is 2 _ rfl
    have tz := T3.thaw
    have O3 := Lib.hid (O2.out.trans o3)
    have T4 := ((T3.set (i := 0) (by simp) (.int .i64 0)).set (i := 1) (by simp) (.bool false)).set (i := 2) (by simp) (.slice none 0 0)
    simp only [List.set_cons_zero, List.set_cons_succ] at T4
    have O4 := Lib.hid (stored3 O3.out (.int .i64 0) (.bool false) (.slice none 0 0))
    clear T3 o3
    go_wp2_with fail
    obtain ⟨w3, hw3⟩ : ∃ w3, w3 = ((w2.setCell ⟨w.heap.size, 0, none⟩ (.int .i64 0)).setCell ⟨w.heap.size, 1, none⟩ (.bool false)).setCell ⟨w.heap.size, 2, none⟩ (.slice none 0 0) := ⟨_, rfl⟩
    rw [← hw3] at T4 O4 ⊢
    clear hw3 t0 t1 t2 tz
    have t0 := T4.is 0 _ rfl
    have t1 := T4.is 1 _ rfl
    have t2 := T4.is 2 _ rfl
    have tz := T4.thaw
    have HT := Lib.hid T4
    clear T4
    go_region
    go_wp2_with fail
    refine bodyPost_ret (v := .tuple #[.agg #[.int .i64 0, .bool false, .slice none 0 0], .bool false, .int .i64 0]) ?_ rfl ⟨?_, _, _, _, _, _, rfl⟩
    · rw [results_cell_tmp2 rfl]; go_simp
    · exact (stored3 O4.out _ _ _).drew
  | some p =>
    have hpo := (pieceOf_some hp).2
    obtain ⟨o', ho'⟩ : ∃ o', o' = (if r.place p.n = i then some p else none) := ⟨_, rfl⟩
    have ho : o = o' := by rw [ho', ← HO.out]; unfold Rg.see; rw [← HS.out, hp]
    subst ho
    have HP := Lib.hid (pieceOf_any w1 s HL.out hp)
    have HPN := Lib.hid hpo.top
    have HO' := Lib.hid ho'
    clear hp hpo ho'
    refine HP.out.mono ?_
    rintro e w2 ⟨o3, v, rfl, hv, hfr⟩
    obtain ⟨va, vk, vc, rfl⟩ := hv.rd.shape'
    obtain ⟨n, la, data⟩ := p
    simp only at hv HPN HO' ⊢
    have T3 := T2.out.kept o3 fun e => e
    have t0 := T3.is 0 _ rfl
    have t1 := T3.is 1 _ rfl
    have t2 := T3.is 2 _ rfl
    have tz := T3.thaw
    have O3 := Lib.hid (O2.out.trans o3)
    have T4 := ((T3.set (i := 0) (by simp) (.int .i64 (n : Int))).set (i := 1) (by simp) (.bool la)).set (i := 2) (by simp) (.slice va vk vc)
    simp only [List.set_cons_zero, List.set_cons_succ] at T4
    have O4 := Lib.hid (stored3 O3.out (.int .i64 (n : Int)) (.bool la) (.slice va vk vc))
    have HV2 := Lib.hid (And.intro hv hfr)
    have RG4 := R2.out.kept o3 fun e => e
    clear T3 o3 hv hfr
    go_wp2_with fail
    obtain ⟨w3, hw3⟩ : ∃ w3, w3 = ((w2.setCell ⟨w.heap.size, 0, none⟩ (.int .i64 (n : Int))).setCell ⟨w.heap.size, 1, none⟩ (.bool la)).setCell ⟨w.heap.size, 2, none⟩ (.slice va vk vc) := ⟨_, rfl⟩
    have o34 : Only (fun k => k = w.heap.size) w2 w3 := by rw [hw3]; exact (((Only.refl (fun k => k = w.heap.size) w2).setCell (p := ⟨w.heap.size, 0, none⟩) rfl _).setCell (p := ⟨w.heap.size, 1, none⟩) rfl _).setCell (p := ⟨w.heap.size, 2, none⟩) rfl _
    rw [← hw3] at T4 O4 ⊢
    clear hw3 t0 t1 t2 tz
    have t0 := T4.is 0 _ rfl
    have t1 := T4.is 1 _ rfl
    have t2 := T4.is 2 _ rfl
    have tz := T4.thaw
    have HT := Lib.hid T4
    have HPL : ∀ q, Calls Tryz.prog 87 #[.pointer (some ⟨R, 0, none⟩), .int .i64 (n : Int)] (w3.drewN q) fun e w' => e = .returned (.int .i64 (r.place n : Int)) ∧ ∃ q, w' = w3.drewN q := by
      intro q
      have h1 : RingAt w3 R D r := RG4.kept o34 (by have := O1.out; have := ltR0.out; omega)
      refine (place_any (CellsR.kept h1 ((Only.refl None' _).drewN q) fun e => e) HK.out HPN.out).mono ?_
      rintro e w' ⟨rfl, q', rfl⟩
      exact ⟨rfl, q + q', by rw [World.drewN_drewN]⟩
    have HPL := Lib.hid HPL
    have O34 := Lib.hid o34
    clear T4 RG4 o34
    by_cases hq : r.place n = i
    · have hb : ((r.place n : Int) == (i : Int)) = true := by simp [hq]
      have HQ := Lib.hid hq
      clear hq
      go_region_with (go_at_call 87; refine (HPL.out 1).mono ?_; rintro e w' ⟨rfl, q, rfl⟩)
      all_goals (
        go_wp2_with fail
        refine bodyPost_ret (v := .tuple #[.agg #[.int .i64 (n : Int), .bool la, .slice va vk vc], .bool true, .int .i64 0]) ?_ rfl ?_
        · rw [results_cell_tmp2 rfl]; go_simp
        · have o9 := stored3 (O4.out.drewN q) (.int .i64 (n : Int)) (.bool la) (.slice va vk vc)
          rw [if_pos HQ.out] at HO'
          rw [HO'.out]
          exact ⟨by first | exact o9 | exact o9.drew, _, rfl, (HV2.out.1.only ((O34.out.drewN q).trans (three _ _ _ _ _)) (apart3 HV2.out.2 HLT.out)).drewN 0, fun g hg => Nat.le_trans O2.out.size (HV2.out.2 g hg)⟩)
    · have hb : ((r.place n : Int) == (i : Int)) = false := by rw [beq_eq_false_iff_ne]; omega
      have HQ := Lib.hid hq
      clear hq
      go_region_with (go_at_call 87; refine (HPL.out 1).mono ?_; rintro e w' ⟨rfl, q, rfl⟩)
      all_goals (
        go_wp2_with fail
        refine bodyPost_ret (v := .tuple #[.agg #[.int .i64 (n : Int), .bool la, .slice va vk vc], .bool false, .int .i64 0]) ?_ rfl ?_
        · rw [results_cell_tmp2 rfl]; go_simp
        · have o9 := stored3 (O4.out.drewN q) (.int .i64 (n : Int)) (.bool la) (.slice va vk vc)
          rw [if_neg HQ.out] at HO'
          rw [HO'.out]
          exact ⟨by first | exact o9 | exact o9.drew, _, _, _, _, _, rfl⟩)
end Go.Proofs.YteoeaojebklfjaaGreatDoor
namespace Go.Proofs.YteoeaojebklfjaaGreatDoor
open Go.RowKit Go.Maps
set_option linter.unusedVariables false

def gOf (r : Rg) (d : Dk) (i : Nat) : Sec := d.read (r.first + i)
theorem place_mod (r : Rg) (n : Nat) : r.place n = r.first + n % r.count := rfl
theorem see_mod (r : Rg) (d : Dk) (n : Nat) : r.see d (r.place n) = seeG r.count (gOf r d) (n % r.count) := by
  unfold Rg.see seeG gOf
  rw [place_mod]
  cases pieceOf (d.read (r.first + n % r.count)) with
  | none => rfl
  | some p =>
    by_cases h : p.n % r.count = n % r.count
    · have h' : r.place p.n = r.first + n % r.count := by rw [place_mod, h]
      simp only [if_pos h, if_pos h']
    · have h' : ¬ r.place p.n = r.first + n % r.count := by rw [place_mod]; omega
      simp only [if_neg h, if_neg h']

set_option maxHeartbeats 1000000 in
theorem pieces_new {w : World} {R D : Nat} {r : Rg} (h : RingAt w R D r) : Calls Tryz.prog 106 #[.pointer (some ⟨R, 0, none⟩)] w fun e w' =>
    ∃ N B, e = .returned (.func (.func 126) #[] #[.pointer (some ⟨N, 0, none⟩), .pointer (some ⟨B, 0, none⟩)]) ∧ CellsR w' N [.int .i64 (r.base : Int)] ∧ CellsR w' B [.pointer (some ⟨R, 0, none⟩)] ∧ w.heap.size ≤ N ∧ w.heap.size ≤ B ∧ N ≠ B ∧ Only None' w w' := by
  have c3 := h.is 3 _ rfl
  have lt := h.lt
  clear h
  go_enter Tryz.func106, Tryz.ntmps106
  go_wp2_with fail
  go_ret
  refine ⟨w.heap.size + 1, w.heap.size, rfl, ?_, ?_, by omega, by omega, by omega, ((Only.refl _ _).alloc _).alloc _⟩
  · have := cells_new (w.alloc (.cells #[.pointer (some ⟨R, 0, none⟩)] 68)) [.int .i64 (r.base : Int)] 3
    rwa [show (w.alloc (.cells #[.pointer (some ⟨R, 0, none⟩)] 68)).heap.size = w.heap.size + 1 by simp] at this
  · exact (cells_new w [.pointer (some ⟨R, 0, none⟩)] 68).kept ((Only.refl None' _).alloc _) fun e => e

theorem newcells {w w' : World} (o : Only None' w w') : (∀ b i, b < w.heap.size → w'.cell? ⟨b, i, none⟩ = w.cell? ⟨b, i, none⟩) ∧ (∀ b i, b < w.heap.size → w'.frozen? ⟨b, i, none⟩ = w.frozen? ⟨b, i, none⟩) :=
  ⟨fun b i h => o.cell h (fun e => e) i, fun b i h => o.frozen h (fun e => e) i⟩
theorem Only.setFresh {w0 w : World} {C : Nat} (h : Only None' w0 w) (hC : w0.heap.size ≤ C) (i : Nat) (v : Value) : Only None' w0 (w.setCell ⟨C, i, none⟩ v) :=
  h.trans2 ((Only.refl (fun k => k = C) w).setCell (p := ⟨C, i, none⟩) rfl v) fun k hk e => by omega
theorem S3 {p q r : Prop} (h : p ∧ q ∧ r) : r := h.2.2
def NRes (w w' : World) (N : Nat) (n : Nat) (e : Ending) (o : Option Pc) : Prop := Only (fun k => k = N) w w' ∧ CellsR w' N [.int .i64 ((n + 1 : Nat) : Int)] ∧ match o with
  | none => ∃ (n : Int) (b : Bool) (a : Option Addr) (k c : Nat), e = .returned (.tuple #[.agg #[.int .i64 n, .bool b, .slice a k c], .bool false, .int .i64 0])
  | some p => ∃ v, e = .returned (.tuple #[.agg #[.int .i64 (p.n : Int), .bool p.last, v], .bool true, .int .i64 0]) ∧ Vec w' 1 v p.data.length (bv p.data) ∧ ∀ g, v.ownBlock = some g → w.heap.size ≤ g

section
variable {w : World} {N B R D : Nat} {F : Nat → Prop} {r : Rg} {d : Dk}
set_option maxHeartbeats 1000000 in
theorem next_end (hN : CellsR w N [.int .i64 ((r.base + r.count : Nat) : Int)]) (hB : CellsR w B [.pointer (some ⟨R, 0, none⟩)]) (h : RingAt w R D r) (hok : r.Ok) :
    Calls Tryz.prog 126 #[.pointer (some ⟨N, 0, none⟩), .pointer (some ⟨B, 0, none⟩)] w fun e w' => e = .returned (.tuple #[.agg #[.int .i64 0, .bool false, .slice none 0 0], .bool false, .int .i64 0]) ∧ Only None' w w' := by
  have n0 := hN.is 0 _ rfl
  have b0 := hB.is 0 _ rfl
  have c2 := h.is 2 _ rfl
  have c3 := h.is 3 _ rfl
  have lN := hN.lt
  have lB := hB.lt
  have lR := h.lt
  obtain ⟨ba, hba⟩ : ∃ ba, ba = r.base := ⟨_, rfl⟩
  obtain ⟨cn, hcn⟩ : ∃ cn, cn = r.count := ⟨_, rfl⟩
  have hbb : ba ≤ 4611686018427387904 ∧ cn ≤ 65536 := by
    obtain ⟨k1, k2, k3, k4, k5, k6⟩ := hok
    omega
  rw [← hba] at n0 c3
  rw [← hcn] at n0 c2
  obtain ⟨hb1, hb2⟩ := hbb
  obtain ⟨s, hs⟩ : ∃ s, s = ba + cn := ⟨_, rfl⟩
  rw [← hs] at n0
  have e1 : IntKind.i64.wrap (cn : Int) = (cn : Int) := IntWalk.i64_in _ (by omega)
  have e2 : (s : Int) - (ba : Int) = (cn : Int) := by omega
  clear hN hB h hok hba hcn hs hb1 hb2
  go_enter Tryz.func126, Tryz.ntmps126
  go_wp2_with fail
  go_quiet (fail)
  clear n0 b0 c2 c3
  go_wp2_with fail
  refine bodyPost_ret (v := .tuple #[.agg #[.int .i64 0, .bool false, .slice none 0 0], .bool false, .int .i64 0]) ?_ rfl ⟨rfl, ?_⟩
  · rw [results_cell_tmp2 rfl]; go_simp
  · first | exact (Only.refl None' w).alloc _ | exact stored3 (((Only.refl None' w).alloc _).drewN nq) _ _ _ | exact (stored3 ((Only.refl None' w).alloc _) _ _ _).drewN nq | (trace_state; fail)

theorem place_all (h : RingAt w R D r) (hok : r.Ok) (n : Nat) : Calls Tryz.prog 87 #[.pointer (some ⟨R, 0, none⟩), .int .i64 (n : Int)] w fun e w' => e = .returned (.int .i64 (r.place n : Int)) ∧ ∃ q, w' = w.drewN q := by
  have c1 := h.is 1 _ rfl
  have c2 := h.is 2 _ rfl
  have h0 := hok.count
  have h1 := hok.small
  obtain ⟨cn, hcn⟩ : ∃ cn, cn = r.count := ⟨_, rfl⟩
  obtain ⟨fi, hfi⟩ : ∃ fi, fi = r.first := ⟨_, rfl⟩
  have hp : r.place n = fi + n % cn := by rw [hcn, hfi]; rfl
  rw [hp]
  rw [← hcn] at c2 h0 h1
  rw [← hfi] at c1 h1
  have hm := Nat.mod_lt n (show cn > 0 by omega)
  have z0 : ¬ (cn : Int) = 0 := by omega
  have z1 : ((cn : Int) == 0) = false := by simpa using z0
  have z2 : ¬ cn = 0 := by omega
  have z3 : (cn == 0) = false := by simpa using z2
  obtain ⟨m, hm'⟩ : ∃ m, m = n % cn := ⟨_, rfl⟩
  have e1 : (n : Int).tmod (cn : Int) = (m : Int) := by rw [hm']; rfl
  have e2 : IntKind.i64.wrap ((m : Int)) = (m : Int) := IntWalk.i64_in _ (by omega)
  have e3 : IntKind.i64.wrap ((fi : Int) + (m : Int)) = ((fi + m : Nat) : Int) := by rw [IntWalk.i64_in _ (by omega)]; rfl
  rw [← hm']
  clear h hok hcn hfi hp hm'
  go_enter Tryz.func87, Tryz.ntmps87
  go_wp2_with fail
  go_quiet (fail)
  go_wp2_with fail
  go_ret
  exact ⟨rfl, nq, rfl⟩

set_option maxRecDepth 20000 in
set_option maxHeartbeats 2000000 in
theorem next_any {n : Nat} (hN : CellsR w N [.int .i64 (n : Int)]) (hB : CellsR w B [.pointer (some ⟨R, 0, none⟩)]) (h : RingAt w R D r) (hok : r.Ok) (hd : DiskAt w D F d) (hdd : d.dead = false) (hl : r.first + r.count ≤ d.lasts.length) (hw : d.waits.length ≤ 1000000)
    (hNB : N ≠ B) (hNR : N ≠ R) (hNF : ¬ F N) (h1 : r.base ≤ n) (h2 : n < r.base + r.count) {o : Option Pc} (ho : pieceG r.count (gOf r d) (n + 1) = o) :
    Calls Tryz.prog 126 #[.pointer (some ⟨N, 0, none⟩), .pointer (some ⟨B, 0, none⟩)] w fun e w' => NRes w w' N n e o := by
  have n0 := hN.is 0 _ rfl
  have nz := hN.thaw 0
  have b0 := hB.is 0 _ rfl
  have c2 := h.is 2 _ rfl
  have c3 := h.is 3 _ rfl
  have lN := hN.lt
  have lB := hB.lt
  have lR := h.lt
  have HN0 := Lib.hid hN
  have HB0 := Lib.hid hB
  have HR0 := Lib.hid h
  have HD0 := Lib.hid hd
  have HK := Lib.hid hok
  have HDD := Lib.hid (And.intro hdd (And.intro hl hw))
  have HA := Lib.hid (And.intro hNB (And.intro hNR hNF))
  have HOO := Lib.hid ho
  obtain ⟨ba, hba⟩ : ∃ ba, ba = r.base := ⟨_, rfl⟩
  obtain ⟨cn, hcn⟩ : ∃ cn, cn = r.count := ⟨_, rfl⟩
  have hbb : ba ≤ 4611686018427387904 ∧ cn ≤ 65536 := by
    obtain ⟨k1, k2, k3, k4, k5, k6⟩ := hok
    omega
  have HBB := Lib.hid (show r.base ≤ 4611686018427387904 ∧ r.count ≤ 65536 by omega)
  rw [← hba] at c3 h1 h2
  rw [← hcn] at c2 h2
  obtain ⟨hb1, hb2⟩ := hbb
  have HNN := Lib.hid (show n ≤ 4611686018427453440 by omega)
  obtain ⟨m, hm⟩ : ∃ m, m = n - ba := ⟨_, rfl⟩
  have e1 : IntKind.i64.wrap (m : Int) = (m : Int) := IntWalk.i64_in _ (by omega)
  have e2 : (n : Int) - (ba : Int) = (m : Int) := by omega
  have e3 : ((m : Int) == (cn : Int)) = false := by rw [beq_eq_false_iff_ne]; omega
  have e4 : wrap64 ((n : Int) + 1) = ((n + 1 : Nat) : Int) := by rw [IntWalk.wrap64_in _ (by omega)]; omega
  clear hN hB h hok hd hdd hl hw hNB hNR hNF ho hba hcn hb1 hb2 hm h1 h2
  go_enter Tryz.func126, Tryz.ntmps126
  go_wp2_with fail
  go_quiet (fail)
  clear c2 c3
  go_upto_region 4 with fail
  obtain ⟨W, hW⟩ : ∃ W, W = ((w.alloc (.cells #[.int .i64 0, .bool false, .slice none 0 0] 132)).drewN nq).setCell ⟨N, 0, none⟩ (.int .i64 (n + 1)) := ⟨_, rfl⟩
  rw [← hW]
  have oW0 : Only None' w ((w.alloc (.cells #[.int .i64 0, .bool false, .slice none 0 0] 132)).drewN nq) := ((Only.refl _ _).alloc _).drewN nq
  have oW1 : Only (fun k => k = N) ((w.alloc (.cells #[.int .i64 0, .bool false, .slice none 0 0] 132)).drewN nq) W := by rw [hW]; exact (Only.refl (fun k => k = N) _).setCell (p := ⟨N, 0, none⟩) rfl _
  have oW : Only (fun k => k = N) w W := (oW0.mono (S' := fun k => k = N) fun _ _ e => e.elim).trans oW1
  have TW : CellsR W w.heap.size [.int .i64 0, .bool false, .slice none 0 0] := ((cells_new w [.int .i64 0, .bool false, .slice none 0 0] 132).kept ((Only.refl None' _).drewN nq) fun e => e).kept oW1 (by omega)
  have NW : CellsR W N [.int .i64 ((n + 1 : Nat) : Int)] := by rw [hW]; exact ((HN0.out.kept oW0 fun e => e).set (i := 0) (by simp) _)
  have BW := HB0.out.kept oW fun e => HA.out.1 e.symm
  have RW' : RingAt W R D r := HR0.out.kept oW fun e => HA.out.2.1 e.symm
  have DW := HD0.out.only oW fun k hk e => HA.out.2.2 (e ▸ hk)
  have hlW : w.heap.size < W.heap.size := Nat.lt_of_lt_of_le (by simp) oW1.size
  have hN0 := NW.is 0 _ rfl
  have hB0 := BW.is 0 _ rfl
  have HSS : Hid (∀ w', Only None' W w' → w'.cell? ⟨N, 0, none⟩ = some (.int .i64 ((n + 1 : Nat) : Int)) ∧ w'.cell? ⟨B, 0, none⟩ = some (.pointer (some ⟨R, 0, none⟩)) ∧ Only None' W w') :=
    fun w' o => ⟨(o.cell NW.lt (fun e => e) 0).trans hN0, (o.cell BW.lt (fun e => e) 0).trans hB0, o⟩
  have HPL : Hid (∀ w', Only None' W w' → Calls Tryz.prog 87 #[.pointer (some ⟨R, 0, none⟩), .int .i64 ((n + 1 : Nat) : Int)] w' fun e w'' => e = .returned (.int .i64 (r.place (n + 1) : Int)) ∧ ∃ q, w'' = w'.drewN q) :=
    fun w' o => place_all (CellsR.kept RW' o fun e => e) HK.out (n + 1)
  have hat : r.place (n + 1) < d.lasts.length := by
    have h0 := HDD.out.2.1
    have h1 := Nat.mod_lt (n + 1) (show r.count > 0 from HK.out.count)
    show r.first + (n + 1) % r.count < _
    omega
  have HRD : Hid (∀ w' so, Only None' W w' → r.see d (r.place (n + 1)) = so → Calls Tryz.prog 88 #[.pointer (some ⟨R, 0, none⟩), .int .i64 (r.place (n + 1) : Int)] w' fun e w'' => RRes w' w'' e so) :=
    fun w' so o hso => rread_any (CellsR.kept RW' o fun e => e) HK.out (DW.new o) HDD.out.1 hat HDD.out.2.2 hso
  have OW := Lib.hid oW
  have HTW := Lib.hid TW
  have HNW := Lib.hid NW
  have HLW := Lib.hid hlW
  clear hW oW0 oW1 oW TW RW' DW hlW hat NW BW n0 nz b0 e1 e2 e3 lN lB lR
  obtain ⟨so, hso⟩ : ∃ so, so = r.see d (r.place (n + 1)) := ⟨_, rfl⟩
  cases so with
  | none =>
    have ho : o = none := by rw [← HOO.out]; unfold pieceG; rw [← see_mod, ← hso]
    subst ho
    have HRN := Lib.hid (fun w' o => HRD.out w' none o hso.symm)
    clear hso
    go_cut [5, 6, 7] from 20 to 30 (fun p5 p6 p7 wx => ∃ (T : Nat) (n' : Int) (b' : Bool) (a' : Option Addr) (k' c' : Nat), p5 = .pointer (some ⟨T, 0, none⟩) ∧ p6 = .bool false ∧ p7 = .int .i64 0 ∧ Hid (CellsR wx T [.int .i64 n', .bool b', .slice a' k' c'] ∧ Only None' W wx ∧ W.heap.size ≤ T))
    case first =>
      go_region_held3 (fun w' => w'.cell? ⟨N, 0, none⟩ = some (.int .i64 ((n + 1 : Nat) : Int)) ∧ w'.cell? ⟨B, 0, none⟩ = some (.pointer (some ⟨R, 0, none⟩)) ∧ Only None' W w')
        ((refine HSS.out _ ?_; (repeat (first | with_reducible exact Only.refl _ _ | with_reducible refine Only.setFresh ?_ (Nat.le_refl _) _ _ | with_reducible refine Only.setFresh ?_ hle68 _ _ | with_reducible refine Only.drewN ?_ _ | with_reducible refine Only.drew ?_ | with_reducible refine Only.alloc ?_ _ | with_reducible refine Only.trans ?_ o68))))
        (first | (go_at_call 87; refine (HPL.out _ (S3 (by assumption))).mono ?_; rintro e w' ⟨rfl, q, rfl⟩) | (go_at_call 88; refine (HRN.out _ (S3 (by assumption))).mono ?_; rintro e w6 ⟨o68, n', b', a', k', c', rfl⟩; have hle68 : W.heap.size ≤ w6.heap.size := Nat.le_trans (by simp) o68.size; try (have x3 := CellsR.kept (CellsR.kept (cells_new W [.int .i64 0, .bool false, .slice none 0 0] 132) ((Only.refl None' _).drewN _) fun e => e) o68 fun e => e; have x0 := x3.is 0 _ rfl; have x1 := x3.is 1 _ rfl; have x2 := x3.is 2 _ rfl; have xz := x3.thaw)))
      all_goals (
        go_wp2_with fail
        go_meet
        refine ⟨_, n', b', a', k', c', rfl, rfl, rfl, Lib.hid ⟨?_, S3 (by assumption), by first | exact Nat.le_refl _ | exact hle68⟩⟩
        first
          | exact cells_new w6 [.int .i64 n', .bool b', .slice a' k' c'] 132
          | exact ((x3.set (i := 0) (by simp) _).set (i := 1) (by simp) _).set (i := 2) (by simp) _)
    case rest =>
      obtain ⟨T, n', b', a', k', c', rfl, rfl, rfl, HC⟩ := hcut
      have t0 := HC.out.1.is 0 _ rfl
      have t1 := HC.out.1.is 1 _ rfl
      have t2 := HC.out.1.is 2 _ rfl
      have y := HTW.out.kept HC.out.2.1 fun e => e
      have y0 := y.is 0 _ rfl
      have y1 := y.is 1 _ rfl
      have y2 := y.is 2 _ rfl
      have yt := y.thaw
      have HY := Lib.hid y
      clear y
      go_wp2_with fail
      go_region
      go_wp2_with fail
      refine bodyPost_ret (v := .tuple #[.agg #[.int .i64 n', .bool b', .slice a' k' c'], .bool false, .int .i64 0]) ?_ rfl ⟨?_, ?_, n', b', a', k', c', rfl⟩
      · rw [results_cell_tmp2 rfl]; go_simp
      · exact OW.out.trans2 ((HC.out.2.1.mono (S' := fun k => k = w.heap.size) fun _ _ e => e.elim).trans (three _ _ _ _ _)).drew fun k hk e => by omega
      · exact ((HNW.out.kept HC.out.2.1 fun e => e).kept (three w.heap.size _ _ _ _) (by have := HN0.out.lt; omega)).kept ((Only.refl None' _).drew) fun e => e
  | some p =>
    have hpo := seeG_ok (by rw [← see_mod, ← hso] : seeG r.count (gOf r d) ((n + 1) % r.count) = some p)
    have HRN := Lib.hid (fun w' o => HRD.out w' (some p) o hso.symm)
    have ho : o = if p.n = n + 1 then some p else none := by rw [← HOO.out]; unfold pieceG; rw [← see_mod, ← hso]
    clear hso
    obtain ⟨pn, la, data⟩ := p
    simp only at ho
    go_cut [5, 6, 7] from 20 to 30 (fun p5 p6 p7 wx => ∃ (T : Nat) (a' : Option Addr) (k' c' : Nat), p5 = .pointer (some ⟨T, 0, none⟩) ∧ p6 = .bool true ∧ p7 = .int .i64 0 ∧ Hid (CellsR wx T [.int .i64 (pn : Int), .bool la, .slice a' k' c'] ∧ Only None' W wx ∧ W.heap.size ≤ T ∧ Vec wx 1 (.slice a' k' c') data.length (bv data) ∧ ∀ g, (Value.slice a' k' c').ownBlock = some g → W.heap.size ≤ g))
    case first =>
      go_region_held3 (fun w' => w'.cell? ⟨N, 0, none⟩ = some (.int .i64 ((n + 1 : Nat) : Int)) ∧ w'.cell? ⟨B, 0, none⟩ = some (.pointer (some ⟨R, 0, none⟩)) ∧ Only None' W w')
        ((refine HSS.out _ ?_; (repeat (first | with_reducible exact Only.refl _ _ | with_reducible refine Only.setFresh ?_ (Nat.le_refl _) _ _ | with_reducible refine Only.setFresh ?_ hle68 _ _ | with_reducible refine Only.drewN ?_ _ | with_reducible refine Only.drew ?_ | with_reducible refine Only.alloc ?_ _ | with_reducible refine Only.trans ?_ o68))))
        (first | (go_at_call 87; refine (HPL.out _ (S3 (by assumption))).mono ?_; rintro e w' ⟨rfl, q, rfl⟩) | (go_at_call 88; refine (HRN.out _ (S3 (by assumption))).mono ?_; rintro e w6 ⟨o68, v, rfl, hv, hfr⟩; obtain ⟨a', k', c', rfl⟩ := hv.rd.shape'; have HV := Lib.hid (And.intro hv hfr); clear hv hfr; have hle68 : W.heap.size ≤ w6.heap.size := Nat.le_trans (by simp) o68.size; try (have x3 := CellsR.kept (CellsR.kept (cells_new W [.int .i64 0, .bool false, .slice none 0 0] 132) ((Only.refl None' _).drewN _) fun e => e) o68 fun e => e; have x0 := x3.is 0 _ rfl; have x1 := x3.is 1 _ rfl; have x2 := x3.is 2 _ rfl; have xz := x3.thaw)))
      all_goals (
        go_wp2_with fail
        go_meet
        refine ⟨_, a', k', c', rfl, rfl, rfl, Lib.hid ⟨?_, S3 (by assumption), by first | exact Nat.le_refl _ | exact hle68, ?_, fun g hg => by have := HV.out.2 g hg; simp at this; omega⟩⟩
        · first
            | exact cells_new w6 [.int .i64 (pn : Int), .bool la, .slice a' k' c'] 132
            | exact ((x3.set (i := 0) (by simp) _).set (i := 1) (by simp) _).set (i := 2) (by simp) _
        · first
            | exact HV.out.1.alloc _
            | exact HV.out.1.only (three _ _ _ _ _) fun g hg e => by have := HV.out.2 g hg; simp at this; omega)
    case rest =>
      obtain ⟨T, a', k', c', rfl, rfl, rfl, HC⟩ := hcut
      have t0 := HC.out.1.is 0 _ rfl
      have t1 := HC.out.1.is 1 _ rfl
      have t2 := HC.out.1.is 2 _ rfl
      have y := HTW.out.kept HC.out.2.1 fun e => e
      have y0 := y.is 0 _ rfl
      have y1 := y.is 1 _ rfl
      have y2 := y.is 2 _ rfl
      have yt := y.thaw
      have z0 := (HSS.out wc HC.out.2.1).1
      have HY := Lib.hid y
      have hne1 : ¬ N = w.heap.size := by have := HN0.out.lt; omega
      have hne2 : ¬ T = w.heap.size := by have := HC.out.2.2.1; have := HLW.out; omega
      have hne3 : ¬ w.heap.size = N := fun e => hne1 e.symm
      have hne4 : ¬ w.heap.size = T := fun e => hne2 e.symm
      have hpi : ((pn : Int) == ((n + 1 : Nat) : Int)) = decide (pn = n + 1) := by rw [Bool.eq_iff_iff]; simp; omega
      clear y
      by_cases hq : pn = n + 1
      · have hb : ((pn : Int) == ((n + 1 : Nat) : Int)) = true := by rw [hpi]; simp [hq]
        rw [if_pos hq] at ho
        subst ho
        have HQ := Lib.hid hq
        clear hq hpi e4
        obtain ⟨zz, hzz⟩ : ∃ zz : Int, zz = ((n + 1 : Nat) : Int) := ⟨_, rfl⟩
        rw [← hzz] at hb z0
        have HZ := Lib.hid hzz
        clear hzz
        go_wp2_with fail
        go_region
        all_goals (
          go_wp2_with fail
          refine bodyPost_ret (v := .tuple #[.agg #[.int .i64 (pn : Int), .bool la, .slice a' k' c'], .bool true, .int .i64 0]) ?_ rfl ⟨?_, ?_, ?_⟩
          · rw [results_cell_tmp2 rfl]; go_simp
          · exact OW.out.trans2 ((HC.out.2.1.mono (S' := fun k => k = w.heap.size) fun _ _ e => e.elim).trans (three _ _ _ _ _)).drew fun k hk e => by omega
          · exact ((HNW.out.kept HC.out.2.1 fun e => e).kept (three w.heap.size _ _ _ _) (by have := HN0.out.lt; omega)).kept ((Only.refl None' _).drew) fun e => e
          · exact ⟨_, rfl, (HC.out.2.2.2.1.only (three _ _ _ _ _) fun g hg e => by have := HC.out.2.2.2.2 g hg; have := HLW.out; omega).drew, fun g hg => Nat.le_trans OW.out.size (HC.out.2.2.2.2 g hg)⟩)
      · have hb : ((pn : Int) == ((n + 1 : Nat) : Int)) = false := by rw [hpi]; simp [hq]
        rw [if_neg hq] at ho
        subst ho
        have HQ := Lib.hid hq
        clear hq hpi e4
        obtain ⟨zz, hzz⟩ : ∃ zz : Int, zz = ((n + 1 : Nat) : Int) := ⟨_, rfl⟩
        rw [← hzz] at hb z0
        have HZ := Lib.hid hzz
        clear hzz
        go_wp2_with fail
        go_region
        all_goals (
          go_wp2_with fail
          refine bodyPost_ret (v := .tuple #[.agg #[.int .i64 (pn : Int), .bool la, .slice a' k' c'], .bool false, .int .i64 0]) ?_ rfl ⟨?_, ?_, ?_⟩
          · rw [results_cell_tmp2 rfl]; go_simp
          · exact OW.out.trans2 ((HC.out.2.1.mono (S' := fun k => k = w.heap.size) fun _ _ e => e.elim).trans (three _ _ _ _ _)).drew fun k hk e => by omega
          · exact ((HNW.out.kept HC.out.2.1 fun e => e).kept (three w.heap.size _ _ _ _) (by have := HN0.out.lt; omega)).kept ((Only.refl None' _).drew) fun e => e
          · exact ⟨_, _, _, _, _, rfl⟩)
end
end Go.Proofs.YteoeaojebklfjaaGreatDoor
namespace Go.Proofs.YteoeaojebklfjaaGreatDoor
open Go.RowKit
set_option linter.unusedVariables false

structure Recs (w : World) (P : Nat → Prop) (v : Value) (rs : List (List UInt8)) : Prop where
  own : ∀ k, v.ownBlock = some k → P k
  rows : ∃ xs : List Value, Vec w 1 v rs.length xs ∧ ∀ (j : Nat) (hj : j < rs.length), ∃ x, xs[j]? = some x ∧ Vec w 1 x rs[j].length (bv rs[j]) ∧ ∀ k, x.ownBlock = some k → P k ∧ v.ownBlock ≠ some k

section
variable {w w' : World} {P P' S : Nat → Prop} {v : Value} {rs : List (List UInt8)}
theorem Recs.nil (w : World) (P : Nat → Prop) : Recs w P (.slice none 0 0) [] :=
  ⟨fun k hk => (by cases hk), ⟨[], Vec.nil w 1, fun j hj => absurd hj (by simp)⟩⟩
theorem Recs.mono (h : Recs w P v rs) (hp : ∀ k, k < w.heap.size → P k → P' k) : Recs w P' v rs := by
  obtain ⟨h1, xs, h2, h3⟩ := h
  refine ⟨fun k hk => hp k (h2.lt hk) (h1 k hk), xs, h2, fun j hj => ?_⟩
  obtain ⟨x, a, b, c⟩ := h3 j hj
  exact ⟨x, a, b, fun k hk => ⟨hp k (b.lt hk) (c k hk).1, (c k hk).2⟩⟩
theorem Recs.only (h : Recs w P v rs) (o : Only S w w') (hn : ∀ k, P k → ¬ S k) : Recs w' P v rs := by
  obtain ⟨h1, xs, h2, h3⟩ := h
  refine ⟨h1, xs, h2.only o fun k hk => hn k (h1 k hk), fun j hj => ?_⟩
  obtain ⟨x, a, b, c⟩ := h3 j hj
  exact ⟨x, a, b.only o fun k hk => hn k (c k hk).1, c⟩
theorem Recs.shape (h : Recs w P v rs) : ∃ a c, v = .slice a rs.length c := by
  obtain ⟨_, xs, h2, _⟩ := h
  obtain ⟨a, c, e, _⟩ := h2.shape
  exact ⟨a, c, e⟩
theorem Recs.size (h : Recs w P v rs) : rs.length ≤ maxLen := by
  obtain ⟨_, xs, h2, _⟩ := h
  obtain ⟨a, c, e, h3, h4⟩ := h2.shape
  omega
theorem Recs.push {xs : List Value} {x v' : Value} {r : List UInt8} (h1 : ∀ k, v.ownBlock = some k → P k) (h3 : ∀ (j : Nat) (hj : j < rs.length), ∃ x, xs[j]? = some x ∧ Vec w 1 x rs[j].length (bv rs[j]) ∧ ∀ k, x.ownBlock = some k → P k ∧ v.ownBlock ≠ some k)
    (hv : Vec w' 1 v' (rs.length + 1) (xs ++ [x])) (hl : xs.length = rs.length) (hg : w.grownBy w' v.ownBlock) (hf : ∀ k, v'.ownBlock = some k → v.ownBlock = some k ∨ w.heap.size ≤ k) (hx : Vec w 1 x r.length (bv r)) (hxp : ∀ k, x.ownBlock = some k → P k ∧ v.ownBlock ≠ some k)
    (hnew : ∀ k, w.heap.size ≤ k → P k) : Recs w' P v' (rs ++ [r]) := by
  have o : Only (fun k => v.ownBlock = some k) w w' := (Only.refl _ w).grown hg fun k hk => hk
  have far : ∀ y : Value, (∀ k, y.ownBlock = some k → k < w.heap.size) → (∀ k, y.ownBlock = some k → v.ownBlock ≠ some k) → ∀ k, y.ownBlock = some k → v'.ownBlock ≠ some k := fun y hlt hne k hk e => by
    rcases hf k e with h | h
    · exact hne k hk h
    · have := hlt k hk; omega
  refine ⟨fun k hk => (hf k hk).elim (h1 k) (hnew k), xs ++ [x], by rw [List.length_append, List.length_singleton]; exact hv, fun j hj => ?_⟩
  by_cases hjl : j < rs.length
  · obtain ⟨y, a, b, c⟩ := h3 j hjl
    refine ⟨y, by rw [List.getElem?_append_left (by omega)]; exact a, ?_, fun k hk => ⟨(c k hk).1, far y (fun k hk => b.lt hk) (fun k hk => (c k hk).2) k hk⟩⟩
    rw [List.getElem_append_left hjl]
    exact b.only o fun k hk e => (c k hk).2 e
  · have hjj : j = rs.length := by simp at hj; omega
    subst hjj
    refine ⟨x, by rw [List.getElem?_append_right (by omega), hl, Nat.sub_self]; rfl, ?_, fun k hk => ⟨(hxp k hk).1, far x (fun k hk => hx.lt hk) (fun k hk => (hxp k hk).2) k hk⟩⟩
    have e : (rs ++ [r])[rs.length] = r := by simp
    rw [e]
    exact hx.only o fun k hk e => (hxp k hk).2 e
end

section
variable {P : Program} {w : World}
theorem run_append_nils (t ty e : TypeId) (i : TypeInfo) (ht : P.underlying t = some (.slice e)) (hi : P.info? e = some i) :
    (Builtin.append_ #[t, t] ty #[.slice none 0 0, .slice none 0 0]).run P w = .ok (.slice none 0 0) w := by
  simp [Builtin.append_, run_underlying ht, sizeOf, typeInfo, hi, Builtin.lenOf, Builtin.firstCells]
theorem run_append_any (t ty e : TypeId) (i : TypeInfo) (z : Value) (size bytes : Nat) (ht : P.underlying t = some (.slice e)) (hi : P.info? e = some i) (hz : i.zero = some z)
    (hsize : i.size = size) (hby : i.bytes = bytes) (hzs : z.cells.size = size) (hsz : 0 < size)
    (v1 : Value) (n : Nat) (xs : List Value) (hv : Vec w size v1 n xs) (v : Value) (m : Nat) (news : List Value) (hr : Rd w size v m news) (h1 : ∀ u ∈ news, u.oneCell' = true)
    (h63 : n + m ≤ maxLen) (hbytes : (n + m) * bytes ≤ 140737488355328) :
    ∃ v' w', (Builtin.append_ #[t, t] ty #[v1, v]).run P w = .ok v' w' ∧ Vec w' size v' (n + m) (xs ++ news) ∧ w.grownBy w' v1.ownBlock ∧ (∀ k, v'.ownBlock = some k → v1.ownBlock = some k ∨ w.heap.size ≤ k) := by
  rcases hr.form with ⟨rfl, rfl⟩ | ⟨ad, c, rfl, _, _, hc⟩
  · have hx : news = [] := List.eq_nil_of_length_eq_zero (by simpa using hr.len)
    subst hx
    rcases hv.form with ⟨rfl, rfl⟩ | ⟨g, off, cap, rfl, hle, _⟩
    · refine ⟨_, _, run_append_nils t ty e i ht hi, by simpa using hv, ⟨rfl, rfl, rfl, Nat.le_refl _, fun _ _ _ => rfl⟩, fun k hk => .inl hk⟩
    · refine ⟨_, _, run_append_nil w t ty e i ht hi ⟨g, off, none⟩ n cap hle, by simpa using hv, ⟨rfl, rfl, rfl, Nat.le_refl _, fun _ _ _ => rfl⟩, fun k hk => .inl hk⟩
  · exact run_vec_append w t ty e i z size bytes ht hi hz hsize hby hzs hsz _ n xs hv ad m c news hr.len hc h1 h63 hbytes
theorem wpList_append_any {ops : Array Oper} {rest : List Oper} {o : Oper} {a : Act} {Q : Exit → Act → World → Prop} (hgd : o.guard = none) (s x : Operand) (t : TypeId)
    (ho : o.op = .call { callee := .builtin .append, args := #[s, x], argTypes := #[t, t] })
    (e : TypeId) (i : TypeInfo) (z : Value) (size bytes : Nat) (ht : P.underlying t = some (.slice e)) (hi : P.info? e = some i) (hz : i.zero = some z)
    (hsize : i.size = size) (hby : i.bytes = bytes) (hzs : z.cells.size = size) (hsz : 0 < size)
    (v1 : Value) (n : Nat) (xs : List Value) (hs : a.eval s = v1) (hv : Vec w size v1 n xs)
    (v : Value) (m : Nat) (news : List Value) (hx : a.eval x = v) (hr : Rd w size v m news) (h1 : ∀ u ∈ news, u.oneCell' = true)
    (h63 : n + m ≤ maxLen) (hbytes : (n + m) * bytes ≤ 140737488355328)
    (h : ∀ v' w', Vec w' size v' (n + m) (xs ++ news) → w.grownBy w' v1.ownBlock → (∀ k, v'.ownBlock = some k → v1.ownBlock = some k ∨ w.heap.size ≤ k) → wpList P ops Q rest (a.put o.dst v') w') : wpList P ops Q (o :: rest) a w :=
  wpList_plain hgd fun K hK => by
    obtain ⟨v', w', hrun, h2, h3, h4⟩ := run_append_any (P := P) (w := w) t o.type e i z size bytes ht hi hz hsize hby hzs hsz v1 n xs hv v m news hr h1 h63 hbytes
    unfold Oper.wp execOp
    simp only [ho, resolve, invoke, builtin, Sem.run_bind, Sem.run_pure, Result.andThen_ok, List.map_toArray, List.map_cons, List.map_nil, hs, hx, hrun]
    exact hK _ _ (h v' w' h2 h3 h4)
theorem step_append_any {ops : Array Oper} {o : Oper} {a : Act} {K : Act → World → Prop} {Q : Exit → Act → World → Prop} {E : Prop} (hgd : o.guard = none) (s x : Operand) (t : TypeId)
    (ho : o.op = .call { callee := .builtin .append, args := #[s, x], argTypes := #[t, t] })
    (e : TypeId) (i : TypeInfo) (z : Value) (size bytes : Nat) (ht : P.underlying t = some (.slice e)) (hi : P.info? e = some i) (hz : i.zero = some z)
    (hsize : i.size = size) (hby : i.bytes = bytes) (hzs : z.cells.size = size) (hsz : 0 < size)
    (v1 : Value) (n : Nat) (xs : List Value) (hs : a.eval s = v1) (hv : Vec w size v1 n xs)
    (v : Value) (m : Nat) (news : List Value) (hx : a.eval x = v) (hr : Rd w size v m news) (h1 : ∀ u ∈ news, u.oneCell' = true)
    (h63 : n + m ≤ maxLen) (hbytes : (n + m) * bytes ≤ 140737488355328)
    (h : ∀ v' w', Vec w' size v' (n + m) (xs ++ news) → w.grownBy w' v1.ownBlock → (∀ k, v'.ownBlock = some k → v1.ownBlock = some k ∨ w.heap.size ≤ k) → K (a.put o.dst v') w') :
    if Region.wanted o (yielded ops a.tmps) = true then Oper.wp P o a w K Q else E := by
  have hw : Region.wanted o (yielded ops a.tmps) = true := by simp [Region.wanted, hgd]
  rw [if_pos hw]
  obtain ⟨v', w', hrun, h2, h3, h4⟩ := run_append_any (P := P) (w := w) t o.type e i z size bytes ht hi hz hsize hby hzs hsz v1 n xs hv v m news hr h1 h63 hbytes
  unfold Oper.wp execOp
  simp only [ho, resolve, invoke, builtin, Sem.run_bind, Sem.run_pure, Result.andThen_ok, List.map_toArray, List.map_cons, List.map_nil, hs, hx, hrun]
  exact h v' w' h2 h3 h4
end
end Go.Proofs.YteoeaojebklfjaaGreatDoor
