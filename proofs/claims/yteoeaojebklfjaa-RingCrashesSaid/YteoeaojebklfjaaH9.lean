/- The pieces, one by one: the closure that hands them out. -/
import Derived.Test.YteoeaojebklfjaaH6
namespace Go.Proofs.Yteoeaojebklfjaa
open Go.RowKit Go.Maps
set_option linter.unusedVariables false

/-- the ring's sectors -/
def gOf (r : Rg) (d : Dk) (i : Nat) : Sec := d.read (r.first + i)
theorem place_mod (r : Rg) (n : Nat) : r.place n = r.first + n % r.count := rfl
theorem see_mod (r : Rg) (d : Dk) (n : Nat) : r.see d (r.place n) = seeG r.count (gOf r d) (n % r.count) := by
  unfold Rg.see seeG gOf
  rw [place_mod]
  cases pieceOf (d.read (r.first + n % r.count)) with
  | none => rfl
  | some p =>
    by_cases h : p.n % r.count = n % r.count
    · have h' : r.place p.n = r.first + n % r.count := by rw [place_mod, h]
      simp only [if_pos h, if_pos h']
    · have h' : ¬ r.place p.n = r.first + n % r.count := by rw [place_mod]; omega
      simp only [if_neg h, if_neg h']

set_option maxHeartbeats 1000000 in
theorem pieces_new {w : World} {R D : Nat} {r : Rg} (h : RingAt w R D r) : Calls Try.prog 80 #[.pointer (some ⟨R, 0, none⟩)] w fun e w' =>
    ∃ N B, e = .returned (.func (.func 81) #[] #[.pointer (some ⟨N, 0, none⟩), .pointer (some ⟨B, 0, none⟩)]) ∧ CellsR w' N [.int .i64 (r.base : Int)] ∧ CellsR w' B [.pointer (some ⟨R, 0, none⟩)] ∧ w.heap.size ≤ N ∧ w.heap.size ≤ B ∧ N ≠ B ∧ Only None' w w' := by
  have c3 := h.is 3 _ rfl
  have lt := h.lt
  clear h
  go_enter Try.func80, Try.ntmps80
  go_wp2_with fail
  go_ret
  refine ⟨w.heap.size + 1, w.heap.size, rfl, ?_, ?_, by omega, by omega, by omega, ((Only.refl _ _).alloc _).alloc _⟩
  · have := cells_new (w.alloc (.cells #[.pointer (some ⟨R, 0, none⟩)] 63)) [.int .i64 (r.base : Int)] 3
    rwa [show (w.alloc (.cells #[.pointer (some ⟨R, 0, none⟩)] 63)).heap.size = w.heap.size + 1 by simp] at this
  · exact (cells_new w [.pointer (some ⟨R, 0, none⟩)] 63).kept ((Only.refl None' _).alloc _) fun e => e

theorem newcells {w w' : World} (o : Only None' w w') : (∀ b i, b < w.heap.size → w'.cell? ⟨b, i, none⟩ = w.cell? ⟨b, i, none⟩) ∧ (∀ b i, b < w.heap.size → w'.frozen? ⟨b, i, none⟩ = w.frozen? ⟨b, i, none⟩) :=
  ⟨fun b i h => o.cell h (fun e => e) i, fun b i h => o.frozen h (fun e => e) i⟩
theorem Only.setFresh {w0 w : World} {C : Nat} (h : Only None' w0 w) (hC : w0.heap.size ≤ C) (i : Nat) (v : Value) : Only None' w0 (w.setCell ⟨C, i, none⟩ v) :=
  h.trans2 ((Only.refl (fun k => k = C) w).setCell (p := ⟨C, i, none⟩) rfl v) fun k hk e => by omega
theorem S3 {p q r : Prop} (h : p ∧ q ∧ r) : r := h.2.2
/-- what the closure tells -/
def NRes (w w' : World) (N : Nat) (n : Nat) (e : Ending) (o : Option Pc) : Prop := Only (fun k => k = N) w w' ∧ CellsR w' N [.int .i64 ((n + 1 : Nat) : Int)] ∧ match o with
  | none => ∃ (n : Int) (b : Bool) (a : Option Addr) (k c : Nat), e = .returned (.tuple #[.agg #[.int .i64 n, .bool b, .slice a k c], .bool false, .int .i64 0])
  | some p => ∃ v, e = .returned (.tuple #[.agg #[.int .i64 (p.n : Int), .bool p.last, v], .bool true, .int .i64 0]) ∧ Vec w' 1 v p.data.length (bv p.data) ∧ ∀ g, v.ownBlock = some g → w.heap.size ≤ g

section
variable {w : World} {N B R D : Nat} {F : Nat → Prop} {r : Rg} {d : Dk}
set_option maxHeartbeats 1000000 in
theorem next_end (hN : CellsR w N [.int .i64 ((r.base + r.count : Nat) : Int)]) (hB : CellsR w B [.pointer (some ⟨R, 0, none⟩)]) (h : RingAt w R D r) (hok : r.Ok) :
    Calls Try.prog 81 #[.pointer (some ⟨N, 0, none⟩), .pointer (some ⟨B, 0, none⟩)] w fun e w' => e = .returned (.tuple #[.agg #[.int .i64 0, .bool false, .slice none 0 0], .bool false, .int .i64 0]) ∧ Only None' w w' := by
  have n0 := hN.is 0 _ rfl
  have b0 := hB.is 0 _ rfl
  have c2 := h.is 2 _ rfl
  have c3 := h.is 3 _ rfl
  have lN := hN.lt
  have lB := hB.lt
  have lR := h.lt
  obtain ⟨ba, hba⟩ : ∃ ba, ba = r.base := ⟨_, rfl⟩
  obtain ⟨cn, hcn⟩ : ∃ cn, cn = r.count := ⟨_, rfl⟩
  have hbb : ba ≤ 4611686018427387904 ∧ cn ≤ 65536 := by
    obtain ⟨k1, k2, k3, k4, k5, k6⟩ := hok
    omega
  rw [← hba] at n0 c3
  rw [← hcn] at n0 c2
  obtain ⟨hb1, hb2⟩ := hbb
  obtain ⟨s, hs⟩ : ∃ s, s = ba + cn := ⟨_, rfl⟩
  rw [← hs] at n0
  have e1 : IntKind.i64.wrap (cn : Int) = (cn : Int) := IntWalk.i64_in _ (by omega)
  have e2 : (s : Int) - (ba : Int) = (cn : Int) := by omega
  clear hN hB h hok hba hcn hs hb1 hb2
  go_enter Try.func81, Try.ntmps81
  go_wp2_with fail
  go_quiet (fail)
  clear n0 b0 c2 c3
  go_wp2_with fail
  refine bodyPost_ret (v := .tuple #[.agg #[.int .i64 0, .bool false, .slice none 0 0], .bool false, .int .i64 0]) ?_ rfl ⟨rfl, ?_⟩
  · rw [results_cell_tmp2 rfl]; go_simp
  · first | exact (Only.refl None' w).alloc _ | exact stored3 (((Only.refl None' w).alloc _).drewN nq) _ _ _ | exact (stored3 ((Only.refl None' w).alloc _) _ _ _).drewN nq | (trace_state; fail)

theorem place_all (h : RingAt w R D r) (hok : r.Ok) (n : Nat) : Calls Try.prog 73 #[.pointer (some ⟨R, 0, none⟩), .int .i64 (n : Int)] w fun e w' => e = .returned (.int .i64 (r.place n : Int)) ∧ ∃ q, w' = w.drewN q := by
  have c1 := h.is 1 _ rfl
  have c2 := h.is 2 _ rfl
  have h0 := hok.count
  have h1 := hok.small
  obtain ⟨cn, hcn⟩ : ∃ cn, cn = r.count := ⟨_, rfl⟩
  obtain ⟨fi, hfi⟩ : ∃ fi, fi = r.first := ⟨_, rfl⟩
  have hp : r.place n = fi + n % cn := by rw [hcn, hfi]; rfl
  rw [hp]
  rw [← hcn] at c2 h0 h1
  rw [← hfi] at c1 h1
  have hm := Nat.mod_lt n (show cn > 0 by omega)
  have z0 : ¬ (cn : Int) = 0 := by omega
  have z1 : ((cn : Int) == 0) = false := by simpa using z0
  have z2 : ¬ cn = 0 := by omega
  have z3 : (cn == 0) = false := by simpa using z2
  obtain ⟨m, hm'⟩ : ∃ m, m = n % cn := ⟨_, rfl⟩
  have e1 : (n : Int).tmod (cn : Int) = (m : Int) := by rw [hm']; rfl
  have e2 : IntKind.i64.wrap ((m : Int)) = (m : Int) := IntWalk.i64_in _ (by omega)
  have e3 : IntKind.i64.wrap ((fi : Int) + (m : Int)) = ((fi + m : Nat) : Int) := by rw [IntWalk.i64_in _ (by omega)]; rfl
  rw [← hm']
  clear h hok hcn hfi hp hm'
  go_enter Try.func73, Try.ntmps73
  go_wp2_with fail
  go_quiet (fail)
  go_wp2_with fail
  go_ret
  exact ⟨rfl, nq, rfl⟩

set_option maxRecDepth 20000 in
set_option maxHeartbeats 2000000 in
theorem next_any {n : Nat} (hN : CellsR w N [.int .i64 (n : Int)]) (hB : CellsR w B [.pointer (some ⟨R, 0, none⟩)]) (h : RingAt w R D r) (hok : r.Ok) (hd : DiskAt w D F d) (hdd : d.dead = false) (hl : r.first + r.count ≤ d.lasts.length) (hw : d.waits.length ≤ 1000000)
    (hNB : N ≠ B) (hNR : N ≠ R) (hNF : ¬ F N) (h1 : r.base ≤ n) (h2 : n < r.base + r.count) {o : Option Pc} (ho : pieceG r.count (gOf r d) (n + 1) = o) :
    Calls Try.prog 81 #[.pointer (some ⟨N, 0, none⟩), .pointer (some ⟨B, 0, none⟩)] w fun e w' => NRes w w' N n e o := by
  have n0 := hN.is 0 _ rfl
  have nz := hN.thaw 0
  have b0 := hB.is 0 _ rfl
  have c2 := h.is 2 _ rfl
  have c3 := h.is 3 _ rfl
  have lN := hN.lt
  have lB := hB.lt
  have lR := h.lt
  have HN0 := Lib.hid hN
  have HB0 := Lib.hid hB
  have HR0 := Lib.hid h
  have HD0 := Lib.hid hd
  have HK := Lib.hid hok
  have HDD := Lib.hid (And.intro hdd (And.intro hl hw))
  have HA := Lib.hid (And.intro hNB (And.intro hNR hNF))
  have HOO := Lib.hid ho
  obtain ⟨ba, hba⟩ : ∃ ba, ba = r.base := ⟨_, rfl⟩
  obtain ⟨cn, hcn⟩ : ∃ cn, cn = r.count := ⟨_, rfl⟩
  have hbb : ba ≤ 4611686018427387904 ∧ cn ≤ 65536 := by
    obtain ⟨k1, k2, k3, k4, k5, k6⟩ := hok
    omega
  have HBB := Lib.hid (show r.base ≤ 4611686018427387904 ∧ r.count ≤ 65536 by omega)
  rw [← hba] at c3 h1 h2
  rw [← hcn] at c2 h2
  obtain ⟨hb1, hb2⟩ := hbb
  have HNN := Lib.hid (show n ≤ 4611686018427453440 by omega)
  obtain ⟨m, hm⟩ : ∃ m, m = n - ba := ⟨_, rfl⟩
  have e1 : IntKind.i64.wrap (m : Int) = (m : Int) := IntWalk.i64_in _ (by omega)
  have e2 : (n : Int) - (ba : Int) = (m : Int) := by omega
  have e3 : ((m : Int) == (cn : Int)) = false := by rw [beq_eq_false_iff_ne]; omega
  have e4 : wrap64 ((n : Int) + 1) = ((n + 1 : Nat) : Int) := by rw [IntWalk.wrap64_in _ (by omega)]; omega
  clear hN hB h hok hd hdd hl hw hNB hNR hNF ho hba hcn hb1 hb2 hm h1 h2
  go_enter Try.func81, Try.ntmps81
  go_wp2_with fail
  go_quiet (fail)
  clear c2 c3
  go_upto_region 4 with fail
  obtain ⟨W, hW⟩ : ∃ W, W = ((w.alloc (.cells #[.int .i64 0, .bool false, .slice none 0 0] 119)).drewN nq).setCell ⟨N, 0, none⟩ (.int .i64 (n + 1)) := ⟨_, rfl⟩
  rw [← hW]
  have oW0 : Only None' w ((w.alloc (.cells #[.int .i64 0, .bool false, .slice none 0 0] 119)).drewN nq) := ((Only.refl _ _).alloc _).drewN nq
  have oW1 : Only (fun k => k = N) ((w.alloc (.cells #[.int .i64 0, .bool false, .slice none 0 0] 119)).drewN nq) W := by rw [hW]; exact (Only.refl (fun k => k = N) _).setCell (p := ⟨N, 0, none⟩) rfl _
  have oW : Only (fun k => k = N) w W := (oW0.mono (S' := fun k => k = N) fun _ _ e => e.elim).trans oW1
  have TW : CellsR W w.heap.size [.int .i64 0, .bool false, .slice none 0 0] := ((cells_new w [.int .i64 0, .bool false, .slice none 0 0] 119).kept ((Only.refl None' _).drewN nq) fun e => e).kept oW1 (by omega)
  have NW : CellsR W N [.int .i64 ((n + 1 : Nat) : Int)] := by rw [hW]; exact ((HN0.out.kept oW0 fun e => e).set (i := 0) (by simp) _)
  have BW := HB0.out.kept oW fun e => HA.out.1 e.symm
  have RW' : RingAt W R D r := HR0.out.kept oW fun e => HA.out.2.1 e.symm
  have DW := HD0.out.only oW fun k hk e => HA.out.2.2 (e ▸ hk)
  have hlW : w.heap.size < W.heap.size := Nat.lt_of_lt_of_le (by simp) oW1.size
  have hN0 := NW.is 0 _ rfl
  have hB0 := BW.is 0 _ rfl
  have HSS : Hid (∀ w', Only None' W w' → w'.cell? ⟨N, 0, none⟩ = some (.int .i64 ((n + 1 : Nat) : Int)) ∧ w'.cell? ⟨B, 0, none⟩ = some (.pointer (some ⟨R, 0, none⟩)) ∧ Only None' W w') :=
    fun w' o => ⟨(o.cell NW.lt (fun e => e) 0).trans hN0, (o.cell BW.lt (fun e => e) 0).trans hB0, o⟩
  have HPL : Hid (∀ w', Only None' W w' → Calls Try.prog 73 #[.pointer (some ⟨R, 0, none⟩), .int .i64 ((n + 1 : Nat) : Int)] w' fun e w'' => e = .returned (.int .i64 (r.place (n + 1) : Int)) ∧ ∃ q, w'' = w'.drewN q) :=
    fun w' o => place_all (CellsR.kept RW' o fun e => e) HK.out (n + 1)
  have hat : r.place (n + 1) < d.lasts.length := by
    have h0 := HDD.out.2.1
    have h1 := Nat.mod_lt (n + 1) (show r.count > 0 from HK.out.count)
    show r.first + (n + 1) % r.count < _
    omega
  have HRD : Hid (∀ w' so, Only None' W w' → r.see d (r.place (n + 1)) = so → Calls Try.prog 68 #[.pointer (some ⟨R, 0, none⟩), .int .i64 (r.place (n + 1) : Int)] w' fun e w'' => RRes w' w'' e so) :=
    fun w' so o hso => rread_any (CellsR.kept RW' o fun e => e) HK.out (DW.new o) HDD.out.1 hat HDD.out.2.2 hso
  have OW := Lib.hid oW
  have HTW := Lib.hid TW
  have HNW := Lib.hid NW
  have HLW := Lib.hid hlW
  clear hW oW0 oW1 oW TW RW' DW hlW hat NW BW n0 nz b0 e1 e2 e3 lN lB lR
  obtain ⟨so, hso⟩ : ∃ so, so = r.see d (r.place (n + 1)) := ⟨_, rfl⟩
  cases so with
  | none =>
    have ho : o = none := by rw [← HOO.out]; unfold pieceG; rw [← see_mod, ← hso]
    subst ho
    have HRN := Lib.hid (fun w' o => HRD.out w' none o hso.symm)
    clear hso
    go_cut [5, 6, 7] from 20 to 30 (fun p5 p6 p7 wx => ∃ (T : Nat) (n' : Int) (b' : Bool) (a' : Option Addr) (k' c' : Nat), p5 = .pointer (some ⟨T, 0, none⟩) ∧ p6 = .bool false ∧ p7 = .int .i64 0 ∧ Hid (CellsR wx T [.int .i64 n', .bool b', .slice a' k' c'] ∧ Only None' W wx ∧ W.heap.size ≤ T))
    case first =>
      go_region_held3 (fun w' => w'.cell? ⟨N, 0, none⟩ = some (.int .i64 ((n + 1 : Nat) : Int)) ∧ w'.cell? ⟨B, 0, none⟩ = some (.pointer (some ⟨R, 0, none⟩)) ∧ Only None' W w')
        ((refine HSS.out _ ?_; (repeat (first | with_reducible exact Only.refl _ _ | with_reducible refine Only.setFresh ?_ (Nat.le_refl _) _ _ | with_reducible refine Only.setFresh ?_ hle68 _ _ | with_reducible refine Only.drewN ?_ _ | with_reducible refine Only.drew ?_ | with_reducible refine Only.alloc ?_ _ | with_reducible refine Only.trans ?_ o68))))
        (first | (go_at_call 73; refine (HPL.out _ (S3 (by assumption))).mono ?_; rintro e w' ⟨rfl, q, rfl⟩) | (go_at_call 68; refine (HRN.out _ (S3 (by assumption))).mono ?_; rintro e w6 ⟨o68, n', b', a', k', c', rfl⟩; have hle68 : W.heap.size ≤ w6.heap.size := Nat.le_trans (by simp) o68.size; try (have x3 := CellsR.kept (CellsR.kept (cells_new W [.int .i64 0, .bool false, .slice none 0 0] 119) ((Only.refl None' _).drewN _) fun e => e) o68 fun e => e; have x0 := x3.is 0 _ rfl; have x1 := x3.is 1 _ rfl; have x2 := x3.is 2 _ rfl; have xz := x3.thaw)))
      all_goals (
        go_wp2_with fail
        go_meet
        refine ⟨_, n', b', a', k', c', rfl, rfl, rfl, Lib.hid ⟨?_, S3 (by assumption), by first | exact Nat.le_refl _ | exact hle68⟩⟩
        first
          | exact cells_new w6 [.int .i64 n', .bool b', .slice a' k' c'] 119
          | exact ((x3.set (i := 0) (by simp) _).set (i := 1) (by simp) _).set (i := 2) (by simp) _)
    case rest =>
      obtain ⟨T, n', b', a', k', c', rfl, rfl, rfl, HC⟩ := hcut
      have t0 := HC.out.1.is 0 _ rfl
      have t1 := HC.out.1.is 1 _ rfl
      have t2 := HC.out.1.is 2 _ rfl
      have y := HTW.out.kept HC.out.2.1 fun e => e
      have y0 := y.is 0 _ rfl
      have y1 := y.is 1 _ rfl
      have y2 := y.is 2 _ rfl
      have yt := y.thaw
      have HY := Lib.hid y
      clear y
      go_wp2_with fail
      go_region
      go_wp2_with fail
      refine bodyPost_ret (v := .tuple #[.agg #[.int .i64 n', .bool b', .slice a' k' c'], .bool false, .int .i64 0]) ?_ rfl ⟨?_, ?_, n', b', a', k', c', rfl⟩
      · rw [results_cell_tmp2 rfl]; go_simp
      · exact OW.out.trans2 ((HC.out.2.1.mono (S' := fun k => k = w.heap.size) fun _ _ e => e.elim).trans (three _ _ _ _ _)).drew fun k hk e => by omega
      · exact ((HNW.out.kept HC.out.2.1 fun e => e).kept (three w.heap.size _ _ _ _) (by have := HN0.out.lt; omega)).kept ((Only.refl None' _).drew) fun e => e
  | some p =>
    have hpo := seeG_ok (by rw [← see_mod, ← hso] : seeG r.count (gOf r d) ((n + 1) % r.count) = some p)
    have HRN := Lib.hid (fun w' o => HRD.out w' (some p) o hso.symm)
    have ho : o = if p.n = n + 1 then some p else none := by rw [← HOO.out]; unfold pieceG; rw [← see_mod, ← hso]
    clear hso
    obtain ⟨pn, la, data⟩ := p
    simp only at ho
    go_cut [5, 6, 7] from 20 to 30 (fun p5 p6 p7 wx => ∃ (T : Nat) (a' : Option Addr) (k' c' : Nat), p5 = .pointer (some ⟨T, 0, none⟩) ∧ p6 = .bool true ∧ p7 = .int .i64 0 ∧ Hid (CellsR wx T [.int .i64 (pn : Int), .bool la, .slice a' k' c'] ∧ Only None' W wx ∧ W.heap.size ≤ T ∧ Vec wx 1 (.slice a' k' c') data.length (bv data) ∧ ∀ g, (Value.slice a' k' c').ownBlock = some g → W.heap.size ≤ g))
    case first =>
      go_region_held3 (fun w' => w'.cell? ⟨N, 0, none⟩ = some (.int .i64 ((n + 1 : Nat) : Int)) ∧ w'.cell? ⟨B, 0, none⟩ = some (.pointer (some ⟨R, 0, none⟩)) ∧ Only None' W w')
        ((refine HSS.out _ ?_; (repeat (first | with_reducible exact Only.refl _ _ | with_reducible refine Only.setFresh ?_ (Nat.le_refl _) _ _ | with_reducible refine Only.setFresh ?_ hle68 _ _ | with_reducible refine Only.drewN ?_ _ | with_reducible refine Only.drew ?_ | with_reducible refine Only.alloc ?_ _ | with_reducible refine Only.trans ?_ o68))))
        (first | (go_at_call 73; refine (HPL.out _ (S3 (by assumption))).mono ?_; rintro e w' ⟨rfl, q, rfl⟩) | (go_at_call 68; refine (HRN.out _ (S3 (by assumption))).mono ?_; rintro e w6 ⟨o68, v, rfl, hv, hfr⟩; obtain ⟨a', k', c', rfl⟩ := hv.rd.shape'; have HV := Lib.hid (And.intro hv hfr); clear hv hfr; have hle68 : W.heap.size ≤ w6.heap.size := Nat.le_trans (by simp) o68.size; try (have x3 := CellsR.kept (CellsR.kept (cells_new W [.int .i64 0, .bool false, .slice none 0 0] 119) ((Only.refl None' _).drewN _) fun e => e) o68 fun e => e; have x0 := x3.is 0 _ rfl; have x1 := x3.is 1 _ rfl; have x2 := x3.is 2 _ rfl; have xz := x3.thaw)))
      all_goals (
        go_wp2_with fail
        go_meet
        refine ⟨_, a', k', c', rfl, rfl, rfl, Lib.hid ⟨?_, S3 (by assumption), by first | exact Nat.le_refl _ | exact hle68, ?_, fun g hg => by have := HV.out.2 g hg; simp at this; omega⟩⟩
        · first
            | exact cells_new w6 [.int .i64 (pn : Int), .bool la, .slice a' k' c'] 119
            | exact ((x3.set (i := 0) (by simp) _).set (i := 1) (by simp) _).set (i := 2) (by simp) _
        · first
            | exact HV.out.1.alloc _
            | exact HV.out.1.only (three _ _ _ _ _) fun g hg e => by have := HV.out.2 g hg; simp at this; omega)
    case rest =>
      obtain ⟨T, a', k', c', rfl, rfl, rfl, HC⟩ := hcut
      have t0 := HC.out.1.is 0 _ rfl
      have t1 := HC.out.1.is 1 _ rfl
      have t2 := HC.out.1.is 2 _ rfl
      have y := HTW.out.kept HC.out.2.1 fun e => e
      have y0 := y.is 0 _ rfl
      have y1 := y.is 1 _ rfl
      have y2 := y.is 2 _ rfl
      have yt := y.thaw
      have z0 := (HSS.out wc HC.out.2.1).1
      have HY := Lib.hid y
      have hne1 : ¬ N = w.heap.size := by have := HN0.out.lt; omega
      have hne2 : ¬ T = w.heap.size := by have := HC.out.2.2.1; have := HLW.out; omega
      have hne3 : ¬ w.heap.size = N := fun e => hne1 e.symm
      have hne4 : ¬ w.heap.size = T := fun e => hne2 e.symm
      have hpi : ((pn : Int) == ((n + 1 : Nat) : Int)) = decide (pn = n + 1) := by rw [Bool.eq_iff_iff]; simp; omega
      clear y
      by_cases hq : pn = n + 1
      · have hb : ((pn : Int) == ((n + 1 : Nat) : Int)) = true := by rw [hpi]; simp [hq]
        rw [if_pos hq] at ho
        subst ho
        have HQ := Lib.hid hq
        clear hq hpi e4
        obtain ⟨zz, hzz⟩ : ∃ zz : Int, zz = ((n + 1 : Nat) : Int) := ⟨_, rfl⟩
        rw [← hzz] at hb z0
        have HZ := Lib.hid hzz
        clear hzz
        go_wp2_with fail
        go_region
        all_goals (
          go_wp2_with fail
          refine bodyPost_ret (v := .tuple #[.agg #[.int .i64 (pn : Int), .bool la, .slice a' k' c'], .bool true, .int .i64 0]) ?_ rfl ⟨?_, ?_, ?_⟩
          · rw [results_cell_tmp2 rfl]; go_simp
          · exact OW.out.trans2 ((HC.out.2.1.mono (S' := fun k => k = w.heap.size) fun _ _ e => e.elim).trans (three _ _ _ _ _)).drew fun k hk e => by omega
          · exact ((HNW.out.kept HC.out.2.1 fun e => e).kept (three w.heap.size _ _ _ _) (by have := HN0.out.lt; omega)).kept ((Only.refl None' _).drew) fun e => e
          · exact ⟨_, rfl, (HC.out.2.2.2.1.only (three _ _ _ _ _) fun g hg e => by have := HC.out.2.2.2.2 g hg; have := HLW.out; omega).drew, fun g hg => Nat.le_trans OW.out.size (HC.out.2.2.2.2 g hg)⟩)
      · have hb : ((pn : Int) == ((n + 1 : Nat) : Int)) = false := by rw [hpi]; simp [hq]
        rw [if_neg hq] at ho
        subst ho
        have HQ := Lib.hid hq
        clear hq hpi e4
        obtain ⟨zz, hzz⟩ : ∃ zz : Int, zz = ((n + 1 : Nat) : Int) := ⟨_, rfl⟩
        rw [← hzz] at hb z0
        have HZ := Lib.hid hzz
        clear hzz
        go_wp2_with fail
        go_region
        all_goals (
          go_wp2_with fail
          refine bodyPost_ret (v := .tuple #[.agg #[.int .i64 (pn : Int), .bool la, .slice a' k' c'], .bool false, .int .i64 0]) ?_ rfl ⟨?_, ?_, ?_⟩
          · rw [results_cell_tmp2 rfl]; go_simp
          · exact OW.out.trans2 ((HC.out.2.1.mono (S' := fun k => k = w.heap.size) fun _ _ e => e.elim).trans (three _ _ _ _ _)).drew fun k hk e => by omega
          · exact ((HNW.out.kept HC.out.2.1 fun e => e).kept (three w.heap.size _ _ _ _) (by have := HN0.out.lt; omega)).kept ((Only.refl None' _).drew) fun e => e
          · exact ⟨_, _, _, _, _, rfl⟩)
end
end Go.Proofs.Yteoeaojebklfjaa
