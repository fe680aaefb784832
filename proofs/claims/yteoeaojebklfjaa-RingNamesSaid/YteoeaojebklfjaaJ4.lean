/- RingNames: the walk. -/
import Derived.Test.YteoeaojebklfjaaJ3
namespace Go.Proofs.Yteoeaojebklfjaa
open Go.RowKit Go.Maps
set_option linter.unusedVariables false

def xrec : Rec := [120]
def nd0 : Dk := Dk.new 20
def nr0 : Rg := ⟨2, 4, 4611686018427387903, 4611686018427387903, 4611686018427387903⟩
def nr1 : Rg := ⟨2, 4, 4611686018427387903, 4611686018427387904, 4611686018427387904⟩
def nd1 : Dk := nd0.write 2 (cutAt 4611686018427387903 xrec 0).lay
def nr2 : Rg := ⟨10, 10, 4611686018427387904, 4611686018427387904, 4611686018427387904⟩
theorem names_open0 : Rg.opened 2 4 4611686018427387903 (gAt 2 nd0) = nr0 ∧ (runG 4 (gAt 2 nd0) 4 4611686018427387903 [] [] 4611686018427387903).1 = [] :=
  opened_none (by decide) fun i hi => see_zero (new_read (by omega))
theorem names_app0 : appR nr0 nd0 z502 = (70, nr0, nd0) := by
  refine app_refused ?_
  rw [z502_length]
  decide
theorem names_app1 : appR nr0 nd0 xrec = (0, nr1, nd1) := by
  refine app_free (d' := nd1) ?_ ?_
  · decide
  · rfl
theorem names_app2 : appR nr1 nd1 xrec = (70, nr1, nd1) := app_refused (by decide)
theorem names_read {i : Nat} (h1 : 10 ≤ i) (h2 : i < 20) : nd1.read i = List.replicate 512 0 := by
  have e : nd1 = (nd0.wrote 2 (cutAt 4611686018427387903 xrec 0).lay).tick := rfl
  rw [e, Dk.read_tick, Dk.read_wrote, if_neg (by omega)]
  exact new_read h2
theorem names_open1 : Rg.opened 10 10 4611686018427387904 (gAt 10 nd1) = nr2 ∧ (runG 10 (gAt 10 nd1) 10 4611686018427387904 [] [] 4611686018427387904).1 = [] :=
  opened_none (by decide) fun i hi => see_zero (names_read (by omega) (by omega))
theorem names_len : nd1.lasts.length = 20 := rfl
theorem pieces_lit (k : Nat) {n m : Int} (hk : (k : Int) = n) (hs : k ≤ 4611686018427387904) (hm : ((piecesOf k : Nat) : Int) = m) (w : World) : Calls Try.prog 41 #[.int .i64 n] w fun e w' => e = .returned (.int .i64 m) ∧ w = w' := by
  subst hk hm
  exact (pieces_any k w hs).mono fun _ _ h => ⟨h.1, h.2.symm⟩
theorem outR {w : World} {F : Nat → Prop} {g R : Nat} (hg : w.heap.size ≤ g) (hF : ∀ k, F k → k < w.heap.size) (hR : R < w.heap.size) : ¬ F g ∧ g ≠ R := ⟨fun e => by have := hF g e; omega, by omega⟩

set_option maxRecDepth 20000 in
set_option maxHeartbeats 4000000 in
theorem ring_names (w : World) : Calls Try.prog 9 #[] w fun e w' => e = .returned (.bool true) ∧ Below w.heap.size w w' := by
  go_enter Try.func9, Try.ntmps9
  go_wp2_with fail
  refine (new_dsk 20 20 rfl w _ (Only.refl _ _) (by decide) (by decide)).mono ?_
  rintro r w1 ⟨D, F1, rfl, h1, -, -⟩
  have S1 := Lib.hid (show Dsk w w1 D F1 nd0 from h1)
  clear h1
  go_wp2_with fail
  refine (open_nil _ _ _ _).mono ?_
  rintro r w' ⟨rfl, rfl⟩
  go_wp2_with fail
  refine (open_bad S1.out.at_ 2 19 0 (by show OpenBad (20 : Int) 2 19 0; unfold OpenBad; omega)).mono ?_
  rintro r w' ⟨rfl, rfl⟩
  go_wp2_with fail
  refine (rk_open S1.out (calm_new 20) (by decide) (first := 2) (count := 4) (base := 4611686018427387903) (by decide) (by decide) (by decide) rfl rfl rfl names_open0.1 names_open0.2 (m := 0) rfl).mono ?_
  rintro r w2 ⟨R, a, k, rfl, hR, hB, -, -⟩
  have S2 := Lib.hid hB
  clear hB hR
  go_wp2_with fail
  refine (S2.out.room_ (m := 4) rfl).mono ?_
  rintro r w3 ⟨rfl, o3⟩
  have S3 := Lib.hid (S2.out.only o3)
  clear o3
  obtain ⟨w4, hm, hV, o4, l4⟩ := make34 502 w3 (by decide)
  have S4 := Lib.hid (S3.out.only o4)
  have V4 := Lib.hid hV
  have hm2 : (Instr.makeSlice 34 (.int .i64 502) (.int .i64 502)).run Try.prog w3 = .ok (.slice (some ⟨w3.heap.size, 0, none⟩) 502 502) w4 := hm
  have hx := outR (w := w3) (g := w3.heap.size) (Nat.le_refl _) (fun k => S3.out.dsk.at_.lt) S3.out.ring.lt
  have HX := Lib.hid hx
  clear hV o4 hm hx
  go_wp2_with fail
  clear hm2
  refine (S4.out.append (by decide) (rec := z502) (m := 502) z502_length (by rw [z502_length]; exact V4.out.rd) (by decide) (by unfold maxLen; decide) HX.out.1 l4 HX.out.2 (by decide) names_app0).mono ?_
  rintro r w5 ⟨rfl, F5, hB, -⟩
  have S5 := Lib.hid hB
  clear hB l4 HX
  have kc := fun (w : World) (C : Array Value) (n c : Nat) => Lib.run_convert_bytes_const (P := Try.prog) w 34 5 C n c Try.underlying34 Try.underlying5
  have S5' := Lib.hid (S5.out.only ((Only.refl None' w5).alloc (.cells #[.int .u8 120] 5 (1, 2))))
  have HX := Lib.hid (outR (w := w5) (g := w5.heap.size) (Nat.le_refl _) (fun k => S5.out.dsk.at_.lt) S5.out.ring.lt)
  go_wp2_with fail
  clear kc
  refine (S5'.out.append (by decide) (rec := xrec) (m := 1) rfl (rd_lit8 w5 5 xrec _ _ rfl rfl (by decide) (by unfold maxLen; decide)) (by decide) (by unfold maxLen; decide) HX.out.1 (by simp) HX.out.2 (by decide) names_app1).mono ?_
  rintro r w6 ⟨rfl, F6, hB, -⟩
  have S6 := Lib.hid hB
  clear hB HX
  have kc := fun (w : World) (C : Array Value) (n c : Nat) => Lib.run_convert_bytes_const (P := Try.prog) w 34 5 C n c Try.underlying34 Try.underlying5
  have S6' := Lib.hid (S6.out.only ((Only.refl None' w6).alloc (.cells #[.int .u8 120] 5 (1, 2))))
  have HX := Lib.hid (outR (w := w6) (g := w6.heap.size) (Nat.le_refl _) (fun k => S6.out.dsk.at_.lt) S6.out.ring.lt)
  go_wp2_with fail
  clear kc
  refine (S6'.out.append (by decide) (rec := xrec) (m := 1) rfl (rd_lit8 w6 5 xrec _ _ rfl rfl (by decide) (by unfold maxLen; decide)) (by decide) (by unfold maxLen; decide) HX.out.1 (by simp) HX.out.2 (by decide) names_app2).mono ?_
  rintro r w7 ⟨rfl, F7, hB, -⟩
  have S7 := Lib.hid hB
  clear hB HX
  go_wp2_with fail
  refine (rk_open S7.out.dsk S7.out.calm (by decide) (first := 10) (count := 10) (base := 4611686018427387904) (by decide) (by decide) (by decide) rfl rfl rfl names_open1.1 names_open1.2 (m := 0) rfl).mono ?_
  rintro r w8 ⟨R8, a8, k8, rfl, hR8, hB, -, -⟩
  have S8 := Lib.hid hB
  clear hB hR8
  go_wp2_with fail
  refine (append_no S8.out.ring S8.out.ok S8.out.dsk.at_ S8.out.calm.dead none 0 0 (by decide) (code := 70) (by decide)).mono ?_
  rintro r w9 ⟨rfl, q, rfl⟩
  have S9 := Lib.hid (S8.out.only ((Only.refl None' w8).drewN q))
  go_wp2_with fail
  refine (open_bad S9.out.dsk.at_ 0 1 4611686018427387905 (by rw [names_len]; unfold OpenBad; omega)).mono ?_
  rintro r w' ⟨rfl, rfl⟩
  go_wp2_with fail
  refine (pieces_lit 0 rfl (by decide) (m := 1) rfl _).mono ?_
  rintro r w' ⟨rfl, rfl⟩
  go_wp2_with fail
  refine (pieces_lit 501 rfl (by decide) (m := 1) rfl _).mono ?_
  rintro r w' ⟨rfl, rfl⟩
  go_wp2_with fail
  refine (pieces_lit 502 rfl (by decide) (m := 2) rfl _).mono ?_
  rintro r w' ⟨rfl, rfl⟩
  go_wp2_with fail
  refine (pieces_lit 1002 rfl (by decide) (m := 2) rfl _).mono ?_
  rintro r w' ⟨rfl, rfl⟩
  go_wp2_with fail
  refine (pieces_neg (-1) _ (by decide)).mono ?_
  rintro r w' ⟨rfl, e⟩
  obtain rfl := e.symm
  go_wp2_with fail
  refine (append_nil none 0 0 _).mono ?_
  rintro r w' ⟨rfl, rfl⟩
  go_wp2_with fail
  refine (sync_nil _).mono ?_
  rintro r w' ⟨rfl, e⟩
  obtain rfl := e.symm
  go_wp2_with fail
  refine (empty_nil _).mono ?_
  rintro r w' ⟨rfl, e⟩
  obtain rfl := e.symm
  go_wp2_with fail
  refine (room_nil _).mono ?_
  rintro r w' ⟨rfl, e⟩
  obtain rfl := e.symm
  go_wp2_with fail
  refine (base_nil _).mono ?_
  rintro r w' ⟨rfl, e⟩
  obtain rfl := e.symm
  go_wp2_with fail
  refine (rlast_nil _).mono ?_
  rintro r w' ⟨rfl, e⟩
  obtain rfl := e.symm
  go_wp2_with fail
  refine (top_nil _).mono ?_
  rintro r w' ⟨rfl, e⟩
  obtain rfl := e.symm
  go_wp2_with fail
  refine (awake_any _).mono ?_
  rintro r w10 ⟨rfl, o10⟩
  have O10 := Lib.hid (S9.out.dsk.only.trans o10)
  clear o10
  go_wp2_with fail
  go_ret
  exact ⟨rfl, O10.out.below (Nat.le_refl _) fun _ e => e.elim⟩
end Go.Proofs.Yteoeaojebklfjaa
