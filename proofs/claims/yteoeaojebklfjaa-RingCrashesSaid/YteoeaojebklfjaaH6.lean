/- What a sector of the ring has: the walk of read. -/
import Derived.Test.YteoeaojebklfjaaH4
import Derived.Test.YteoeaojebklfjaaH5
namespace Go.Proofs.Yteoeaojebklfjaa
open Go.RowKit Go.Maps
set_option linter.unusedVariables false

/-- what read tells -/
def RRes (w w' : World) (r : Ending) (o : Option Pc) : Prop := Only None' w w' ∧ match o with
  | none => ∃ (n : Int) (b : Bool) (a : Option Addr) (k c : Nat), r = .returned (.tuple #[.agg #[.int .i64 n, .bool b, .slice a k c], .bool false, .int .i64 0])
  | some p => ∃ v, r = .returned (.tuple #[.agg #[.int .i64 (p.n : Int), .bool p.last, v], .bool true, .int .i64 0]) ∧ Vec w' 1 v p.data.length (bv p.data) ∧ ∀ g, v.ownBlock = some g → w.heap.size ≤ g
theorem array_at124 (w : World) (p : Option Addr) (c : Nat) : (Instr.arrayAt 124 (.slice p 512 c)).run Try.prog w = .ok (.pointer p) w := by simp [Instr.arrayAt, run_underlying Try.underlying124]
/-- a sector's piece, if it is the ring's sector of it -/
def Rg.see (r : Rg) (d : Dk) (i : Nat) : Option Pc := match pieceOf (d.read i) with
  | some p => if r.place p.n = i then some p else none
  | none => none
theorem cells_new (w : World) (vs : List Value) (t : TypeId) : CellsR (w.alloc (.cells vs.toArray t)) w.heap.size vs :=
  ⟨fun i u hu => by rw [World.cell?_alloc_new]; simpa using hu, fun i => World.frozen?_alloc_new _ _ _ _, by simp⟩

theorem results_cell_tmp2 {P : Program} {fn : Func} {p u v : Tmp} {ty : TypeId} (h : fn.results = #[.cell p ty, .tmp u, .tmp v]) (tmps : Array Value) (w : World) :
    (results fn tmps).run P w = ((asAddr (tmps.getD p undef)).run P w).andThen fun a w1 => ((loadVar ty a).run P w1).andThen fun x w2 => .ok (.tuple #[x, tmps.getD u undef, tmps.getD v undef]) w2 := by
  simp only [results, h]
  simp [Sem.run_bind, Result.andThen]
theorem three (T : Nat) (w : World) (a b c : Value) : Only (fun k => k = T) w (((w.setCell ⟨T, 0, none⟩ a).setCell ⟨T, 1, none⟩ b).setCell ⟨T, 2, none⟩ c) :=
  (((Only.refl (fun k => k = T) w).setCell (p := ⟨T, 0, none⟩) rfl _).setCell (p := ⟨T, 1, none⟩) rfl _).setCell (p := ⟨T, 2, none⟩) rfl _
theorem apart3 {v : Value} {m T : Nat} (h : ∀ g, v.ownBlock = some g → m ≤ g) (ht : T < m) : ∀ g, v.ownBlock = some g → ¬ g = T := fun g hg e => by have := h g hg; omega
theorem stored3 {w w2 : World} (o : Only None' w w2) (a b c : Value) : Only None' w (((w2.setCell ⟨w.heap.size, 0, none⟩ a).setCell ⟨w.heap.size, 1, none⟩ b).setCell ⟨w.heap.size, 2, none⟩ c) :=
  o.trans2 ((((Only.refl (fun k => k = w.heap.size) w2).setCell (p := ⟨w.heap.size, 0, none⟩) rfl _).setCell (p := ⟨w.heap.size, 1, none⟩) rfl _).setCell (p := ⟨w.heap.size, 2, none⟩) rfl _) fun k hk e => by omega

set_option maxRecDepth 20000 in
set_option maxHeartbeats 2000000 in
theorem rread_any {w : World} {R D : Nat} {F : Nat → Prop} {r : Rg} {d : Dk} (h : RingAt w R D r) (hok : r.Ok) (hd : DiskAt w D F d) (hdd : d.dead = false) {i : Nat} (hi : i < d.lasts.length) (hn : d.waits.length ≤ 1000000) {o : Option Pc} (ho : r.see d i = o) :
    Calls Try.prog 68 #[.pointer (some ⟨R, 0, none⟩), .int .i64 (i : Int)] w fun e w' => RRes w w' e o := by
  have HR := Lib.hid (read_any (hd.alloc (.cells #[.int .i64 0, .bool false, .slice none 0 0] 119)) hdd hi hn)
  have HL := Lib.hid (Dk.read_length (DiskAt.ok hd) hi)
  have HRG := Lib.hid (h.kept ((Only.refl None' _).alloc (.cells #[.int .i64 0, .bool false, .slice none 0 0] 119)) fun e => e)
  have HO := Lib.hid ho
  have HK := Lib.hid hok
  have c0 := h.is 0 _ rfl
  have ltR := h.lt
  have O1 := Lib.hid ((Only.refl None' w).alloc (.cells #[.int .i64 0, .bool false, .slice none 0 0] 119))
  have T1 := Lib.hid (cells_new w [.int .i64 0, .bool false, .slice none 0 0] 119)
  have ltR0 := Lib.hid h.lt
  clear h hd hdd hn ho hok
  obtain ⟨s, hs⟩ : ∃ s, s = d.read i := ⟨_, rfl⟩
  rw [← hs] at HR HL
  have HS := Lib.hid hs
  clear hs
  go_enter Try.func68, Try.ntmps68
  go_wp2_with fail
  refine HR.out.mono ?_
  rintro e w1 ⟨v, rfl, hv, hge, ho1⟩
  obtain ⟨g, off, cap, rfl, _⟩ := hv.at_ (by decide)
  have HV := Lib.hid hv
  have O2 := Lib.hid (O1.out.trans ho1)
  have T2 := Lib.hid (T1.out.kept ho1 fun e => e)
  have R2 := Lib.hid (HRG.out.kept ho1 fun e => e)
  have ho1s := ho1.size
  clear hv hge ho1 c0 ltR
  have ka := array_at124 w1 (some ⟨g, off, none⟩) cap
  go_wp2_with (first | (refine wpList_load_mid rfl 124 _ rfl g off rfl (bv s) _ HV.out.range Try.underlying124 rfl (size124 s HL.out) ?_))
  clear ka
  have HLT := Lib.hid (Nat.lt_of_lt_of_le (show w.heap.size < (w.alloc (.cells #[.int .i64 0, .bool false, .slice none 0 0] 119)).heap.size by simp) ho1s)
  cases hp : pieceOf s with
  | none =>
    have ho : o = none := by rw [← HO.out]; unfold Rg.see; rw [← HS.out, hp]
    subst ho
    have HP := Lib.hid (pieceOf_any w1 s HL.out hp)
    clear hp
    refine HP.out.mono ?_
    rintro e w2 ⟨o3, rfl⟩
    have T3 := T2.out.kept o3 fun e => e
    have t0 := T3.is 0 _ rfl
    have t1 := T3.is 1 _ rfl
    have t2 := T3.is 2 _ rfl
    have tz := T3.thaw
    have O3 := Lib.hid (O2.out.trans o3)
    have T4 := ((T3.set (i := 0) (by simp) (.int .i64 0)).set (i := 1) (by simp) (.bool false)).set (i := 2) (by simp) (.slice none 0 0)
    simp only [List.set_cons_zero, List.set_cons_succ] at T4
    have O4 := Lib.hid (stored3 O3.out (.int .i64 0) (.bool false) (.slice none 0 0))
    clear T3 o3
    go_wp2_with fail
    obtain ⟨w3, hw3⟩ : ∃ w3, w3 = ((w2.setCell ⟨w.heap.size, 0, none⟩ (.int .i64 0)).setCell ⟨w.heap.size, 1, none⟩ (.bool false)).setCell ⟨w.heap.size, 2, none⟩ (.slice none 0 0) := ⟨_, rfl⟩
    rw [← hw3] at T4 O4 ⊢
    clear hw3 t0 t1 t2 tz
    have t0 := T4.is 0 _ rfl
    have t1 := T4.is 1 _ rfl
    have t2 := T4.is 2 _ rfl
    have tz := T4.thaw
    have HT := Lib.hid T4
    clear T4
    go_region
    go_wp2_with fail
    refine bodyPost_ret (v := .tuple #[.agg #[.int .i64 0, .bool false, .slice none 0 0], .bool false, .int .i64 0]) ?_ rfl ⟨?_, _, _, _, _, _, rfl⟩
    · rw [results_cell_tmp2 rfl]; go_simp
    · exact (stored3 O4.out _ _ _).drew
  | some p =>
    have hpo := (pieceOf_some hp).2
    obtain ⟨o', ho'⟩ : ∃ o', o' = (if r.place p.n = i then some p else none) := ⟨_, rfl⟩
    have ho : o = o' := by rw [ho', ← HO.out]; unfold Rg.see; rw [← HS.out, hp]
    subst ho
    have HP := Lib.hid (pieceOf_any w1 s HL.out hp)
    have HPN := Lib.hid hpo.top
    have HO' := Lib.hid ho'
    clear hp hpo ho'
    refine HP.out.mono ?_
    rintro e w2 ⟨o3, v, rfl, hv, hfr⟩
    obtain ⟨va, vk, vc, rfl⟩ := hv.rd.shape'
    obtain ⟨n, la, data⟩ := p
    simp only at hv HPN HO' ⊢
    have T3 := T2.out.kept o3 fun e => e
    have t0 := T3.is 0 _ rfl
    have t1 := T3.is 1 _ rfl
    have t2 := T3.is 2 _ rfl
    have tz := T3.thaw
    have O3 := Lib.hid (O2.out.trans o3)
    have T4 := ((T3.set (i := 0) (by simp) (.int .i64 (n : Int))).set (i := 1) (by simp) (.bool la)).set (i := 2) (by simp) (.slice va vk vc)
    simp only [List.set_cons_zero, List.set_cons_succ] at T4
    have O4 := Lib.hid (stored3 O3.out (.int .i64 (n : Int)) (.bool la) (.slice va vk vc))
    have HV2 := Lib.hid (And.intro hv hfr)
    have RG4 := R2.out.kept o3 fun e => e
    clear T3 o3 hv hfr
    go_wp2_with fail
    obtain ⟨w3, hw3⟩ : ∃ w3, w3 = ((w2.setCell ⟨w.heap.size, 0, none⟩ (.int .i64 (n : Int))).setCell ⟨w.heap.size, 1, none⟩ (.bool la)).setCell ⟨w.heap.size, 2, none⟩ (.slice va vk vc) := ⟨_, rfl⟩
    have o34 : Only (fun k => k = w.heap.size) w2 w3 := by rw [hw3]; exact (((Only.refl (fun k => k = w.heap.size) w2).setCell (p := ⟨w.heap.size, 0, none⟩) rfl _).setCell (p := ⟨w.heap.size, 1, none⟩) rfl _).setCell (p := ⟨w.heap.size, 2, none⟩) rfl _
    rw [← hw3] at T4 O4 ⊢
    clear hw3 t0 t1 t2 tz
    have t0 := T4.is 0 _ rfl
    have t1 := T4.is 1 _ rfl
    have t2 := T4.is 2 _ rfl
    have tz := T4.thaw
    have HT := Lib.hid T4
    have HPL : ∀ q, Calls Try.prog 73 #[.pointer (some ⟨R, 0, none⟩), .int .i64 (n : Int)] (w3.drewN q) fun e w' => e = .returned (.int .i64 (r.place n : Int)) ∧ ∃ q, w' = w3.drewN q := by
      intro q
      have h1 : RingAt w3 R D r := RG4.kept o34 (by have := O1.out; have := ltR0.out; omega)
      refine (place_any (CellsR.kept h1 ((Only.refl None' _).drewN q) fun e => e) HK.out HPN.out).mono ?_
      rintro e w' ⟨rfl, q', rfl⟩
      exact ⟨rfl, q + q', by rw [World.drewN_drewN]⟩
    have HPL := Lib.hid HPL
    have O34 := Lib.hid o34
    clear T4 RG4 o34
    by_cases hq : r.place n = i
    · have hb : ((r.place n : Int) == (i : Int)) = true := by simp [hq]
      have HQ := Lib.hid hq
      clear hq
      go_region_with (go_at_call 73; refine (HPL.out 1).mono ?_; rintro e w' ⟨rfl, q, rfl⟩)
      all_goals (
        go_wp2_with fail
        refine bodyPost_ret (v := .tuple #[.agg #[.int .i64 (n : Int), .bool la, .slice va vk vc], .bool true, .int .i64 0]) ?_ rfl ?_
        · rw [results_cell_tmp2 rfl]; go_simp
        · have o9 := stored3 (O4.out.drewN q) (.int .i64 (n : Int)) (.bool la) (.slice va vk vc)
          rw [if_pos HQ.out] at HO'
          rw [HO'.out]
          exact ⟨by first | exact o9 | exact o9.drew, _, rfl, (HV2.out.1.only ((O34.out.drewN q).trans (three _ _ _ _ _)) (apart3 HV2.out.2 HLT.out)).drewN 0, fun g hg => Nat.le_trans O2.out.size (HV2.out.2 g hg)⟩)
    · have hb : ((r.place n : Int) == (i : Int)) = false := by rw [beq_eq_false_iff_ne]; omega
      have HQ := Lib.hid hq
      clear hq
      go_region_with (go_at_call 73; refine (HPL.out 1).mono ?_; rintro e w' ⟨rfl, q, rfl⟩)
      all_goals (
        go_wp2_with fail
        refine bodyPost_ret (v := .tuple #[.agg #[.int .i64 (n : Int), .bool la, .slice va vk vc], .bool false, .int .i64 0]) ?_ rfl ?_
        · rw [results_cell_tmp2 rfl]; go_simp
        · have o9 := stored3 (O4.out.drewN q) (.int .i64 (n : Int)) (.bool la) (.slice va vk vc)
          rw [if_neg HQ.out] at HO'
          rw [HO'.out]
          exact ⟨by first | exact o9 | exact o9.drew, _, _, _, _, _, rfl⟩)
end Go.Proofs.Yteoeaojebklfjaa
