/- stands. -/
import Derived.Test.YthmdaekkpihlnaaQ7
namespace Go.Proofs.Ythmdaekkpihlnaa
open Go.RowKit
set_option linter.unusedVariables false

theorem Sh.drewN {m : Nat} {w : World} {B M : Nat} {E Y : Int} {l : List Node} {L : List Ent} (S : Sh m w B M E Y l L) (n : Nat) : Sh m (w.drewN n) B M E Y l L := S.kept ((Only.refl None' w).drewN n) fun _ _ h => h

theorem quietW {P : Program} {f : FuncId} {args : Array Value} {w : World} {n : Nat} {v : Value} (h : Calls P f args (w.drewN n) fun e w' => e = .returned v ∧ w.drewN n = w') : Calls P f args (w.drewN n) fun e w'' => e = .returned v ∧ ∃ m, w'' = w.drewN m :=
  h.mono fun _ _ ⟨he, hm⟩ => ⟨he, n, hm.symm⟩

theorem At4.only {w w' : World} {F : Nat → Prop} {g o : Nat} {e : Ent} (h : At4 w g o e) (hb : Only F w w') (hg : g < w.heap.size) (hF : ¬ F g) : At4 w' g o e :=
  ⟨(hb.cell hg hF _).trans h.k0, (hb.cell hg hF _).trans h.k1, (hb.cell hg hF _).trans h.k2, (hb.cell hg hF _).trans h.k3⟩

set_option maxRecDepth 8000 in
set_option maxHeartbeats 1000000 in
theorem stands_any {m : Nat} {w : World} {B M X : Nat} {E Y E' Y' : Int} {l : List Node} {v : Value} {L : List Ent} (S : Sh m w B M E Y l L) (R : Ref w X E' Y' v L) :
    Calls Try.prog 22 #[.pointer (some ⟨B, 0, none⟩), .pointer (some ⟨X, 0, none⟩)] w fun r w' => r = .returned (.bool true) ∧ Only None' w w' := by
  have SS := Lib.hid S
  have RR := Lib.hid R
  have hfew := R.few
  clear S R
  go_enter Try.func22, Try.ntmps22
  go_wp2_with fail
  refine SS.out.all.mono ?_
  rintro r w1 ⟨v1, rfl, h1, h2⟩
  have S1 := Lib.hid (SS.out.new h2)
  have hR1 := RR.out.only h2 fun _ _ h => h
  have R1 := Lib.hid hR1
  have N1 := Lib.hid h2
  have HV1 := Lib.hid (Vec.of_owns h1)
  have HO := Lib.hid h1
  obtain ⟨a1, cap1, rfl, q1, q2⟩ := HV1.out.shape
  obtain ⟨a, cap, rfl, q3, q4⟩ := hR1.vec.shape
  have c2 := hR1.c2
  have lX := hR1.ltX
  have HV := Lib.hid hR1.vec
  obtain ⟨u, hu⟩ : ∃ u : Int, u = (pbytes L : Int) := ⟨_, rfl⟩
  obtain ⟨len, hl⟩ : ∃ len : Nat, len = L.length := ⟨_, rfl⟩
  have b0 : ∀ n, Calls Try.prog 14 #[.pointer (some ⟨B, 0, none⟩)] (w1.drewN n) fun e w'' => e = .returned (.int .i64 (len : Int)) ∧ ∃ m, w'' = w1.drewN m := fun n => quietW ((S1.out.drewN n).len _ (by rw [hl]))
  have b1 : ∀ n, Calls Try.prog 15 #[.pointer (some ⟨B, 0, none⟩)] (w1.drewN n) fun e w'' => e = .returned (.int .i64 u) ∧ ∃ m, w'' = w1.drewN m := fun n => quietW ((S1.out.drewN n).bytes _ (by rw [hu]))
  have b2 : ∀ n, Calls Try.prog 30 #[.pointer (some ⟨X, 0, none⟩)] (w1.drewN n) fun e w'' => e = .returned (.int .i64 u) ∧ ∃ m, w'' = w1.drewN m := fun n => Calls.quiet_of (by rw [hu]; exact bytes30 (hR1.drewN n))
  have B0 := Lib.hid b0
  have B1 := Lib.hid b1
  have B2 := Lib.hid b2
  have HL := Lib.hid hl
  rw [← hl] at c2 q1 q3 hfew ⊢
  clear h1 h2 hR1 b0 b1 b2 hl hu
  go_wp2_with fail
  go_quiet ((first | (go_at_call 14; exact B0.out _) | (go_at_call 15; exact B1.out _) | (go_at_call 30; exact B2.out _)))
  go_wp2_with fail
  go_loopw [6] (fun i wr => ∃ k : Nat, k ≤ len ∧ i = .int .i64 k ∧ Only (fun b => a1 = some ⟨b, 0, none⟩) w1 wr ∧ (∀ g, a1 = some ⟨g, 0, none⟩ → (∀ o, wr.frozen? ⟨g, o, none⟩ = false) ∧ ∀ j (hj : j < L.length), k ≤ j → At4 wr g (j * 4) L[j])) (fun i wr => len - (intOf i).toNat)
  case atStart =>
    refine ⟨0, by omega, rfl, (Only.refl _ _).drewN _, ?_⟩
    rintro g rfl
    refine ⟨fun o => HO.out.frozenAt o, fun j hj _ => ?_⟩
    have c (i : Nat) (hi : i < 4) (u : Value) (hu : (L[j]).cells[i]? = some u) : w1.cell? ⟨g, j * 4 + i, none⟩ = some u := by
      rw [HO.out.cellAt (j * 4 + i) (by omega), cellsOf_at L j i hj hi]; exact hu
    exact ⟨c 0 (by decide) _ rfl, c 1 (by decide) _ rfl, c 2 (by decide) _ rfl, c 3 (by decide) _ rfl⟩
  case round =>
    obtain ⟨k, hk, rfl, hO, hA⟩ := hrel
    have OO := Lib.hid hO
    have AA := Lib.hid hA
    by_cases hlt : k < len
    · have hlL : k < L.length := by have := HL.out; omega
      obtain ⟨g, cg, hcs, hg0, hg1⟩ := HO.out.form (by omega)
      simp only [Value.slice.injEq] at hcs
      obtain ⟨rfl, _, rfl⟩ := hcs
      rcases HV.out.form with ⟨h1, h2⟩ | ⟨g2, off, cap', h1, h2, h3, h4, h5, h6⟩
      · omega
      · simp only [Value.slice.injEq] at h1
        obtain ⟨rfl, _, rfl⟩ := h1
        have hg2 : g2 < w.heap.size := by
          rcases RR.out.vec.form with ⟨h, _⟩ | ⟨g3, o3, c3, h, _, _, h7, _⟩
          · cases h
          · simp only [Value.slice.injEq, Option.some.injEq, Addr.mk.injEq] at h; omega
        have hX : X < w.heap.size := RR.out.ltX
        have fg := (hA g rfl).1
        obtain ⟨k0, k1, k2, k3⟩ := (hA g rfl).2 k hlL (Nat.le_refl _)
        obtain ⟨j0, j1, j2, j3⟩ := (at4 h5 hlL).only hO h4 (by intro e; injection e with e; injection e; omega)
        have d2 : wr.cell? ⟨X, 2, none⟩ = _ := (hO.cell lX (by intro e; injection e with e; injection e; omega) 2).trans c2
        obtain ⟨e, he⟩ : ∃ e, e = L[k] := ⟨_, rfl⟩
        rw [← he] at k0 k1 k2 k3 j0 j1 j2 j3
        have i0 : (0 : Int) ≤ (k : Int) := by omega
        have i1 : (k : Int) < (len : Int) := by omega
        clear hO hA h5 h6 he
        go_wp2_with fail
        go_quiet (fail)
        go_wp2
        go_roundw
        case rel =>
          refine ⟨k + 1, by omega, by go_num, (OO.out.drewN nq).setCell (p := ⟨g, k * 4, none⟩) rfl _, ?_⟩
          rintro g' hg'
          injection hg' with hg'
          injection hg' with hg'
          subst hg'
          refine ⟨fun o => by rw [World.frozen?_setCell]; exact fg o, fun j hj hkj => ?_⟩
          obtain ⟨m0, m1, m2, m3⟩ := (AA.out g rfl).2 j hj (by omega)
          refine ⟨?_, ?_, ?_, ?_⟩ <;> rw [World.cell?_setCell_other _ _ _ _ (off_ne (by omega))]
          · exact m0
          · exact m1
          · exact m2
          · exact m3
        case measure => simp [intOf]; omega
    · have : k = len := by omega
      subst this
      clear hA
      go_wp2
      go_ret
      refine ⟨rfl, N1.out.trans2 OO.out fun b hb e => ?_⟩
      have := (HO.out.lt b (by rw [e]; rfl)).1
      omega

end Go.Proofs.Ythmdaekkpihlnaa
