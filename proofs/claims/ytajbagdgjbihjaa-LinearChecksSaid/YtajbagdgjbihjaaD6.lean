/- dedup's Do (26). -/
import Derived.Test.YtajbagdgjbihjaaD5
namespace Go.Proofs.Ytajbagdgjbihjaa
open Go.RowKit Go.Maps
set_option linter.unusedVariables false

theorem results_tct {fn : Func} {u p x : Tmp} {ty : TypeId} (h : fn.results = #[.tmp u, .cell p ty, .tmp x]) (tmps : Array Value) (P : Program) (w : World) :
    (results fn tmps).run P w =
      ((asAddr (tmps.getD p undef)).run P w).andThen fun a w₁ => ((loadVar ty a).run P w₁).andThen fun v w₂ => .ok (.tuple #[tmps.getD u undef, v, tmps.getD x undef]) w₂ := by
  simp only [results, h]
  simp [Sem.run_bind, Result.andThen]
def doP (ps : List Pr) (o : Op5) : List Pr :=
  if o.kind = 1 then ps
  else if o.kind = 2 then putP o.key o.val ps
  else if o.kind = 3 then ps.filter fun p => !isK o.key p
  else if findP o.key ps = (if o.had then some o.old else none) then putP o.key o.val ps else ps
/-- does a swap meet what it wants? -/
def swP (st : Option ByteArray) (had : Bool) (old : ByteArray) : Prop := st = (if had then some old else none)
theorem sw_yes (o : Op5) (st : Option ByteArray) (h1 : ¬ o.kind = 1) (h2 : ¬ o.kind = 2) (h3 : ¬ o.kind = 3) (h : swP st o.had o.old) : (o.does st).2 = ⟨1, true, ⟨#[]⟩⟩ := by
  unfold swP at h
  unfold Op5.does
  rw [if_neg h1, if_neg h2, if_neg h3, if_pos h]
theorem sw_no (o : Op5) (st : Option ByteArray) (h1 : ¬ o.kind = 1) (h2 : ¬ o.kind = 2) (h3 : ¬ o.kind = 3) (h : ¬ swP st o.had o.old) : (o.does st).2 = ⟨1, false, ⟨#[]⟩⟩ := by
  unfold swP at h
  unfold Op5.does
  rw [if_neg h1, if_neg h2, if_neg h3, if_neg h]
/-- what Do hands back -/
def DoEnd (w : World) (ps : List Pr) (o : Op5) (e : Ending) (w' : World) : Prop := Only None' w w' ∧
  ((o.code = 0 ∧ ∃ v', e = .returned (.tuple #[v', (o.does (findP o.key ps)).2.v, .int .i64 0]) ∧ PNew w w' v' (doP ps o)) ∨
   (o.code ≠ 0 ∧ e = .returned (.tuple #[.slice none 0 0, Rs.zero.v, .int .i64 o.code])))
/-- what lies in a block of the call's own -/
theorem Only.fresh {w w1 w2 : World} {X : Nat} (h : Only None' w w1) (hX : w.heap.size ≤ X) (o : Only (fun k => k = X) w1 w2) : Only None' w w2 := h.trans2 o fun k hk e => by omega
theorem do_end {w w7 wz : World} {R : Nat} {v : Value} {ps : List Pr} {o : Op5} {r : Rs} {L : List Pr} (hc : 0 = o.code) (N : PNew w w7 v L) (hR : w.heap.size ≤ R) (hv : ∀ g, v.ownBlock = some g → g ≠ R) (oz : Only (fun k => k = R) w7 wz) (hL : L = doP ps o) (hr : r = (o.does (findP o.key ps)).2) : DoEnd w ps o (.returned (.tuple #[v, r.v, .int .i64 0])) wz := by
  have N7 : PNew w wz v L := ⟨N.row.only oz fun g hg e => hv g hg e, N.fresh, N.only.fresh hR oz⟩
  refine ⟨N7.only, .inl ⟨hc.symm, v, by rw [hr], by rw [← hL]; exact N7⟩⟩
set_option maxRecDepth 20000 in
set_option maxHeartbeats 2000000 in
theorem do_any {w : World} {v : Value} {ps : List Pr} (h : PRow w v ps) (hn : ps.length ≤ 100000) (o : Op5) (hI : findP o.key ps = none → InsOK ps (spotP o.key ps)) : Calls Try.prog 26 #[v, o.v] w (DoEnd w ps o) := by
  obtain ⟨P, hP⟩ : ∃ P, P = w.heap.size := ⟨_, rfl⟩
  obtain ⟨w1, hw1⟩ : ∃ w1, w1 = (w.alloc (.cells #[.int .u8 o.kind, .string o.key, .string o.val, .string o.old, .bool o.had] 24)).alloc (.cells #[.int .u8 0, .bool false, .string ⟨#[]⟩] 29) := ⟨_, rfl⟩
  have o1 : Only None' w w1 := by rw [hw1]; exact ((Only.refl None' w).alloc _).alloc _
  have cP : CellsR w1 P [.int .u8 o.kind, .string o.key, .string o.val, .string o.old, .bool o.had] := by
    rw [hw1, hP]
    exact (cells_new w [.int .u8 o.kind, .string o.key, .string o.val, .string o.old, .bool o.had] 24).kept ((Only.refl None' _).alloc _) fun e => e
  have cR : CellsR w1 (P + 1) [.int .u8 0, .bool false, .string ⟨#[]⟩] := by
    rw [hw1, hP]
    have := cells_new (w.alloc (.cells #[.int .u8 o.kind, .string o.key, .string o.val, .string o.old, .bool o.had] 24)) [.int .u8 0, .bool false, .string ⟨#[]⟩] 29
    have e2 : (w.alloc (.cells #[.int .u8 o.kind, .string o.key, .string o.val, .string o.old, .bool o.had] 24)).heap.size = w.heap.size + 1 := by simp
    rw [e2] at this
    exact this
  have H := Lib.hid (And.intro (h.new_ o1) (And.intro hn hI))
  have HP := Lib.hid cP
  have HR := Lib.hid cR
  have O1 := Lib.hid o1
  have HPW := Lib.hid (show w.heap.size ≤ P by omega)
  obtain ⟨a, cap, rfl, _⟩ := h.row.shape
  obtain ⟨n, hnn⟩ : ∃ n, n = ps.length := ⟨_, rfl⟩
  rw [← hnn] at H ⊢
  have HN := Lib.hid hnn
  have ew := hw1.symm
  have eP := hP.symm
  have p0 := cP.is 0 _ rfl
  have p1 := cP.is 1 _ rfl
  have p2 := cP.is 2 _ rfl
  have p3 := cP.is 3 _ rfl
  have p4 := cP.is 4 _ rfl
  clear h hn hI o1 cP cR hw1 hP hnn
  obtain ⟨kd, key, val, old, had⟩ := o
  unfold Op5.v
  simp only at p0 p1 p2 p3 p4 ew HP H
  go_enter Try.func26, Try.ntmps26
  go_wp2_with fail
  refine (dcheck_any ⟨kd, key, val, old, had⟩ w1).mono ?_
  rintro e w2 ⟨rfl, o2⟩
  obtain ⟨code, hcode⟩ : ∃ code, code = (⟨kd, key, val, old, had⟩ : Op5).code := ⟨_, rfl⟩
  rw [← hcode]
  have HCODE := Lib.hid hcode
  have O2 := Lib.hid (O1.out.trans o2)
  have P2 := Lib.hid (HP.out.kept o2 fun e => e)
  have R2 := Lib.hid (HR.out.kept o2 fun e => e)
  have H2 := Lib.hid (H.out.1.new_ o2)
  by_cases h0 : code = 0
  · subst h0
    have p1 := P2.out.is 1 _ rfl
    clear p0 p2 p3 p4 ew o2 hcode
    go_wp2_with fail
    refine (find_any H2.out (by rw [← HN.out]; exact H.out.2.1) key).mono ?_
    rintro e w3 ⟨rfl, o3⟩
    obtain ⟨st, hst⟩ : ∃ st, st = findP key ps := ⟨_, rfl⟩
    rw [← hst]
    have HST := Lib.hid hst
    have O3 := Lib.hid (O2.out.trans o3)
    have P3 := Lib.hid (P2.out.kept o3 fun e => e)
    have R3 := Lib.hid (R2.out.kept o3 fun e => e)
    have H3 := Lib.hid (H2.out.new_ o3)
    clear p1 o3 hst
    go_wp2_with fail
    refine (clone_any H3.out (by rw [← HN.out]; exact H.out.2.1)).mono ?_
    rintro e w4 ⟨v4, rfl, n4⟩
    obtain ⟨Q, hQ⟩ : ∃ Q, Q = w4.heap.size := ⟨_, rfl⟩
    obtain ⟨w5, hw5⟩ : ∃ w5, w5 = w4.alloc (.cells #[.int .u8 1, .bool false, .string ⟨#[]⟩] 29) := ⟨_, rfl⟩
    have o5 : Only None' w4 w5 := by rw [hw5]; exact (Only.refl None' w4).alloc _
    have cQ : CellsR w5 Q [.int .u8 1, .bool false, .string ⟨#[]⟩] := by rw [hw5, hQ]; exact cells_new w4 [.int .u8 1, .bool false, .string ⟨#[]⟩] 29
    obtain ⟨w6, hw6⟩ : ∃ w6, w6 = (w5.setCell ⟨Q, 1, none⟩ (.bool false)).setCell ⟨Q, 2, none⟩ (.string ⟨#[]⟩) := ⟨_, rfl⟩
    have lt4 := (R3.out.kept n4.only fun e => e).lt
    have hs3 := O3.out.size
    have hs4 := n4.only.size
    have hpw := HPW.out
    have o6' : Only (fun k => k = Q) w5 w6 := by rw [hw6]; exact ((Only.refl (fun k => k = Q) w5).setCell (p := ⟨Q, 1, none⟩) rfl _).setCell (p := ⟨Q, 2, none⟩) rfl _
    have o6 : Only None' w4 w6 := o5.fresh (X := Q) (by omega) o6'
    have cQ6 : CellsR w6 Q [.int .u8 1, .bool false, .string ⟨#[]⟩] := by
      rw [hw6]
      exact (cQ.set (i := 1) (by simp) (.bool false)).set (i := 2) (by simp) (.string ⟨#[]⟩)
    have Q6 := Lib.hid cQ6
    have P6 := Lib.hid ((P3.out.kept n4.only fun e => e).kept o6 fun e => e)
    have R6 := Lib.hid ((R3.out.kept n4.only fun e => e).kept o6 fun e => e)
    have N6 : Hid (PNew w w6 v4 ps) := Lib.hid ⟨n4.row.new_ o6, fun g hg => by have := n4.fresh g hg; omega, (O3.out.trans n4.only).trans o6⟩
    have HQW : Hid (w.heap.size ≤ Q ∧ P + 1 < Q ∧ ∀ g, v4.ownBlock = some g → g ≠ Q ∧ g ≠ P + 1 ∧ g ≠ P) := Lib.hid ⟨by omega, by omega, fun g hg => by have := n4.row.row.lt hg; have h2 := n4.fresh g hg; have h3 := R3.out.lt; omega⟩
    have p0 := P6.out.is 0 _ rfl
    have q1 := Q6.out.is 1 _ rfl
    have q2 := Q6.out.is 2 _ rfl
    have g1 := Q6.out.thaw 1
    have g2 := Q6.out.thaw 2
    have k1 := cQ.is 1 _ rfl
    have k2 := cQ.is 2 _ rfl
    have f1 := cQ.thaw 1
    have f2 := cQ.thaw 2
    have p05 := (P3.out.kept n4.only fun e => e).kept o5 (fun e => e)
    have ew5 := hw5.symm
    have ew6 := hw6.symm
    have eQ := hQ.symm
    have nQR : Q ≠ P + 1 := by omega
    have nRQ : P + 1 ≠ Q := by omega
    clear n4 o5 cQ hw5 hQ hw6 o6 o6' cQ6 lt4 hs3 hs4 hpw p05
    by_cases h1 : kd = 1
    · as_aux_lemma =>
        have b1 : (kd == 1) = true := by simpa using h1
        obtain ⟨w7, hw7⟩ : ∃ w7, w7 = ((w6.setCell ⟨Q, 1, none⟩ (.bool st.isSome)).setCell ⟨Q, 2, none⟩ (.string (st.getD ⟨#[]⟩))) := ⟨_, rfl⟩
        have o7 : Only (fun k => k = Q) w6 w7 := by rw [hw7]; exact (((Only.refl (fun k => k = Q) w6).setCell (p := ⟨Q, 1, none⟩) rfl _).setCell (p := ⟨Q, 2, none⟩) rfl _)
        have cQ7 : CellsR w7 Q [.int .u8 1, .bool st.isSome, .string (st.getD ⟨#[]⟩)] := by
          rw [hw7]
          exact ((Q6.out.set (i := 1) (by simp) (.bool st.isSome)).set (i := 2) (by simp) (.string (st.getD ⟨#[]⟩)))
        have cR7 := R6.out.kept o7 (by omega)
        have cP7 := P6.out.kept o7 (by have := HQW.out; omega)
        have N7 : Hid (PNew w w7 v4 ps) := Lib.hid ⟨N6.out.row.only o7 fun g hg e => (HQW.out.2.2 g hg).1 e, N6.out.fresh, N6.out.only.fresh HQW.out.1 o7⟩
        have Q7 := Lib.hid cQ7
        have R7 := Lib.hid cR7
        have P7 := Lib.hid cP7
        have ew7 := hw7.symm
        have a0 := cQ7.is 0 _ rfl
        have a1 := cQ7.is 1 _ rfl
        have a2 := cQ7.is 2 _ rfl
        have r0 := cR7.is 0 _ rfl
        have r1 := cR7.is 1 _ rfl
        have r2 := cR7.is 2 _ rfl
        have z0 := cR7.thaw 0
        have z1 := cR7.thaw 1
        have z2 := cR7.thaw 2
        clear hw7 o7 cQ7 cR7 cP7
        go_wp2_with fail
        go_region
        go_wp2_with fail
        (try simp only [Exit.inBlock, Exit.then])
        refine bodyPost_ret (v := .tuple #[v4, .agg #[.int .u8 1, .bool st.isSome, .string (st.getD ⟨#[]⟩)], .int .i64 0]) ?_ rfl ?_
        · rw [results_tct rfl]
          go_simp
        · exact do_end (R := P + 1) (r := ⟨1, st.isSome, (st.getD ⟨#[]⟩)⟩) HCODE.out N7.out (by have := HPW.out; omega) (fun g hg => (HQW.out.2.2 g hg).2.1) ((((Only.refl (fun k => k = P + 1) w7).setCell (p := ⟨P + 1, 0, none⟩) rfl _).setCell (p := ⟨P + 1, 1, none⟩) rfl _).setCell (p := ⟨P + 1, 2, none⟩) rfl _).drew (by unfold doP; rw [if_pos h1]) (by unfold Op5.does; rw [if_pos h1, HST.out])
    have b1 : (kd == 1) = false := by simpa using h1
    by_cases h3 : kd = 3
    · as_aux_lemma =>
        have b3 : (kd == 3) = true := by simpa using h3
        obtain ⟨w7, hw7⟩ : ∃ w7, w7 = (w6.setCell ⟨Q, 1, none⟩ (.bool st.isSome)) := ⟨_, rfl⟩
        have o7 : Only (fun k => k = Q) w6 w7 := by rw [hw7]; exact ((Only.refl (fun k => k = Q) w6).setCell (p := ⟨Q, 1, none⟩) rfl _)
        have cQ7 : CellsR w7 Q [.int .u8 1, .bool st.isSome, .string ⟨#[]⟩] := by
          rw [hw7]
          exact (Q6.out.set (i := 1) (by simp) (.bool st.isSome))
        have cR7 := R6.out.kept o7 (by omega)
        have cP7 := P6.out.kept o7 (by have := HQW.out; omega)
        have N7 : Hid (PNew w w7 v4 ps) := Lib.hid ⟨N6.out.row.only o7 fun g hg e => (HQW.out.2.2 g hg).1 e, N6.out.fresh, N6.out.only.fresh HQW.out.1 o7⟩
        have Q7 := Lib.hid cQ7
        have R7 := Lib.hid cR7
        have P7 := Lib.hid cP7
        have ew7 := hw7.symm
        have HD := Lib.hid (delete_any N7.out.row (by rw [← HN.out]; exact H.out.2.1) 36 #[.pointer (some ⟨P, 0, none⟩)] call36 (isK key) fun x _ w' o => is36 P ⟨kd, key, val, old, had⟩ x.1 x.2 ((P7.out.kept o fun e => (HQW.out.2.2 P e).2.2 rfl).is 1 _ rfl))
        clear hw7 o7 cQ7 cR7 cP7
        go_wp2_with fail
        refine HD.out.mono ?_
        rintro e w8 ⟨v8, rfl, hr8, hf8, o8⟩
        have cQ8 := Q7.out.kept o8 fun e => (HQW.out.2.2 Q e).1 rfl
        have cR8 := R7.out.kept o8 fun e => (HQW.out.2.2 (P + 1) e).2.1 rfl
        have N8 : Hid (PNew w w8 v8 (ps.filter fun p => !isK key p)) := Lib.hid ⟨hr8, fun g hg => N7.out.fresh g (hf8 g hg), N7.out.only.trans2 o8 fun k hk e => by have := N7.out.fresh k e; omega⟩
        have HF8 := Lib.hid hf8
        have a0 := cQ8.is 0 _ rfl
        have a1 := cQ8.is 1 _ rfl
        have a2 := cQ8.is 2 _ rfl
        have r0 := cR8.is 0 _ rfl
        have r1 := cR8.is 1 _ rfl
        have r2 := cR8.is 2 _ rfl
        have z0 := cR8.thaw 0
        have z1 := cR8.thaw 1
        have z2 := cR8.thaw 2
        clear cQ8 cR8 hr8 hf8 o8
        go_wp2_with fail
        go_region
        go_wp2_with fail
        (try simp only [Exit.inBlock, Exit.then])
        refine bodyPost_ret (v := .tuple #[v8, .agg #[.int .u8 1, .bool st.isSome, .string ⟨#[]⟩], .int .i64 0]) ?_ rfl ?_
        · rw [results_tct rfl]
          go_simp
        · exact do_end (R := P + 1) (r := ⟨1, st.isSome, ⟨#[]⟩⟩) HCODE.out N8.out (by have := HPW.out; omega) (fun g hg => (HQW.out.2.2 g (HF8.out g hg)).2.1) ((((Only.refl (fun k => k = P + 1) w8).setCell (p := ⟨P + 1, 0, none⟩) rfl _).setCell (p := ⟨P + 1, 1, none⟩) rfl _).setCell (p := ⟨P + 1, 2, none⟩) rfl _).drew (by unfold doP; rw [if_neg h1, if_neg (show ¬ kd = 2 by omega), if_pos h3]) (by unfold Op5.does; rw [if_neg h1, if_neg (show ¬ kd = 2 by omega), if_pos h3, HST.out])
    have b3 : (kd == 3) = false := by simpa using h3
    by_cases h4 : kd = 4
    · as_aux_lemma =>
        have b4 : (kd == 4) = true := by simpa using h4
        have p4 := P6.out.is 4 _ rfl
        have p3 := P6.out.is 3 _ rfl
        cases st with
        | none =>
          cases had with
          | false =>
            have HEQ : Hid (swP none false old) := Lib.hid rfl
            obtain ⟨w7, hw7⟩ : ∃ w7, w7 = (w6.setCell ⟨Q, 1, none⟩ (.bool true)) := ⟨_, rfl⟩
            have o7 : Only (fun k => k = Q) w6 w7 := by rw [hw7]; exact ((Only.refl (fun k => k = Q) w6).setCell (p := ⟨Q, 1, none⟩) rfl _)
            have cQ7 : CellsR w7 Q [.int .u8 1, .bool true, .string ⟨#[]⟩] := by
              rw [hw7]
              exact (Q6.out.set (i := 1) (by simp) (.bool true))
            have cR7 := R6.out.kept o7 (by omega)
            have cP7 := P6.out.kept o7 (by have := HQW.out; omega)
            have N7 : Hid (PNew w w7 v4 ps) := Lib.hid ⟨N6.out.row.only o7 fun g hg e => (HQW.out.2.2 g hg).1 e, N6.out.fresh, N6.out.only.fresh HQW.out.1 o7⟩
            have Q7 := Lib.hid cQ7
            have R7 := Lib.hid cR7
            have P7 := Lib.hid cP7
            have ew7 := hw7.symm
            clear hw7 o7 cQ7 cR7 cP7
            have p1 := P7.out.is 1 _ rfl
            have p2 := P7.out.is 2 _ rfl
            have HD := Lib.hid (put_any N7.out.row (by rw [← HN.out]; exact H.out.2.1) key val H.out.2.2)
            go_wp2_with fail
            refine HD.out.mono ?_
            rintro e w8 ⟨v8, rfl, n8⟩
            have cQ8 := Q7.out.kept n8.only fun e => e
            have cR8 := R7.out.kept n8.only fun e => e
            have N8 : Hid (PNew w w8 v8 (putP key val ps)) := Lib.hid ⟨n8.row, fun g hg => by have h1 := n8.fresh g hg; have h2 := N7.out.only.size; omega, N7.out.only.trans n8.only⟩
            have HF8 : Hid (∀ g, v8.ownBlock = some g → g ≠ P + 1) := Lib.hid fun g hg => by have h1 := n8.fresh g hg; have h2 := R7.out.lt; omega
            have a0 := cQ8.is 0 _ rfl
            have a1 := cQ8.is 1 _ rfl
            have a2 := cQ8.is 2 _ rfl
            have r0 := cR8.is 0 _ rfl
            have r1 := cR8.is 1 _ rfl
            have r2 := cR8.is 2 _ rfl
            have z0 := cR8.thaw 0
            have z1 := cR8.thaw 1
            have z2 := cR8.thaw 2
            clear cQ8 cR8 n8 p1 p2
            go_wp2_with fail
            go_region
            go_wp2_with fail
            (try simp only [Exit.inBlock, Exit.then])
            refine bodyPost_ret (v := .tuple #[v8, .agg #[.int .u8 1, .bool true, .string ⟨#[]⟩], .int .i64 0]) ?_ rfl ?_
            · rw [results_tct rfl]
              go_simp
            · exact do_end (R := P + 1) (r := ⟨1, true, ⟨#[]⟩⟩) HCODE.out N8.out (by have := HPW.out; omega) (HF8.out) ((((Only.refl (fun k => k = P + 1) w8).setCell (p := ⟨P + 1, 0, none⟩) rfl _).setCell (p := ⟨P + 1, 1, none⟩) rfl _).setCell (p := ⟨P + 1, 2, none⟩) rfl _).drew (by unfold doP; rw [if_neg h1, if_neg (show ¬ kd = 2 by omega), if_neg h3, ← HST.out]; exact (if_pos HEQ.out).symm) (by rw [← HST.out]; exact (sw_yes _ _ h1 (show ¬ kd = 2 by omega) h3 HEQ.out).symm)
          | true =>
            have HNE : Hid (¬ swP none true old) := Lib.hid (by unfold swP; simp)
            have a0 := Q6.out.is 0 _ rfl
            have a1 := Q6.out.is 1 _ rfl
            have a2 := Q6.out.is 2 _ rfl
            have r0 := R6.out.is 0 _ rfl
            have r1 := R6.out.is 1 _ rfl
            have r2 := R6.out.is 2 _ rfl
            have z0 := R6.out.thaw 0
            have z1 := R6.out.thaw 1
            have z2 := R6.out.thaw 2
            go_wp2_with fail
            go_region
            go_wp2_with fail
            (try simp only [Exit.inBlock, Exit.then])
            refine bodyPost_ret (v := .tuple #[v4, .agg #[.int .u8 1, .bool false, .string ⟨#[]⟩], .int .i64 0]) ?_ rfl ?_
            · rw [results_tct rfl]
              go_simp
            · exact do_end (R := P + 1) (r := ⟨1, false, ⟨#[]⟩⟩) HCODE.out N6.out (by have := HPW.out; omega) (fun g hg => (HQW.out.2.2 g hg).2.1) ((((Only.refl (fun k => k = P + 1) w6).setCell (p := ⟨P + 1, 0, none⟩) rfl _).setCell (p := ⟨P + 1, 1, none⟩) rfl _).setCell (p := ⟨P + 1, 2, none⟩) rfl _).drew (by unfold doP; rw [if_neg h1, if_neg (show ¬ kd = 2 by omega), if_neg h3, ← HST.out]; exact (if_neg HNE.out).symm) (by rw [← HST.out]; exact (sw_no _ _ h1 (show ¬ kd = 2 by omega) h3 HNE.out).symm)
        | some x =>
          cases had with
          | false =>
            have HNE : Hid (¬ swP (some x) false old) := Lib.hid (by unfold swP; simp)
            have a0 := Q6.out.is 0 _ rfl
            have a1 := Q6.out.is 1 _ rfl
            have a2 := Q6.out.is 2 _ rfl
            have r0 := R6.out.is 0 _ rfl
            have r1 := R6.out.is 1 _ rfl
            have r2 := R6.out.is 2 _ rfl
            have z0 := R6.out.thaw 0
            have z1 := R6.out.thaw 1
            have z2 := R6.out.thaw 2
            go_wp2_with fail
            go_region
            go_wp2_with fail
            (try simp only [Exit.inBlock, Exit.then])
            refine bodyPost_ret (v := .tuple #[v4, .agg #[.int .u8 1, .bool false, .string ⟨#[]⟩], .int .i64 0]) ?_ rfl ?_
            · rw [results_tct rfl]
              go_simp
            · exact do_end (R := P + 1) (r := ⟨1, false, ⟨#[]⟩⟩) HCODE.out N6.out (by have := HPW.out; omega) (fun g hg => (HQW.out.2.2 g hg).2.1) ((((Only.refl (fun k => k = P + 1) w6).setCell (p := ⟨P + 1, 0, none⟩) rfl _).setCell (p := ⟨P + 1, 1, none⟩) rfl _).setCell (p := ⟨P + 1, 2, none⟩) rfl _).drew (by unfold doP; rw [if_neg h1, if_neg (show ¬ kd = 2 by omega), if_neg h3, ← HST.out]; exact (if_neg HNE.out).symm) (by rw [← HST.out]; exact (sw_no _ _ h1 (show ¬ kd = 2 by omega) h3 HNE.out).symm)
          | true =>
            by_cases hx : x = old
            · have bx : (x.toList == old.toList) = true := by rw [same_str, decide_eq_true_eq]; exact hx
              have bx' : (x.toList != old.toList) = false := by rw [bne, bx]; rfl
              have HEQ : Hid (swP (some x) true old) := Lib.hid (by unfold swP; simp [hx])
              clear hx
              obtain ⟨w7, hw7⟩ : ∃ w7, w7 = (w6.setCell ⟨Q, 1, none⟩ (.bool true)) := ⟨_, rfl⟩
              have o7 : Only (fun k => k = Q) w6 w7 := by rw [hw7]; exact ((Only.refl (fun k => k = Q) w6).setCell (p := ⟨Q, 1, none⟩) rfl _)
              have cQ7 : CellsR w7 Q [.int .u8 1, .bool true, .string ⟨#[]⟩] := by
                rw [hw7]
                exact (Q6.out.set (i := 1) (by simp) (.bool true))
              have cR7 := R6.out.kept o7 (by omega)
              have cP7 := P6.out.kept o7 (by have := HQW.out; omega)
              have N7 : Hid (PNew w w7 v4 ps) := Lib.hid ⟨N6.out.row.only o7 fun g hg e => (HQW.out.2.2 g hg).1 e, N6.out.fresh, N6.out.only.fresh HQW.out.1 o7⟩
              have Q7 := Lib.hid cQ7
              have R7 := Lib.hid cR7
              have P7 := Lib.hid cP7
              have ew7 := hw7.symm
              clear hw7 o7 cQ7 cR7 cP7
              have p1 := P7.out.is 1 _ rfl
              have p2 := P7.out.is 2 _ rfl
              have HD := Lib.hid (put_any N7.out.row (by rw [← HN.out]; exact H.out.2.1) key val H.out.2.2)
              go_wp2_with fail
              refine HD.out.mono ?_
              rintro e w8 ⟨v8, rfl, n8⟩
              have cQ8 := Q7.out.kept n8.only fun e => e
              have cR8 := R7.out.kept n8.only fun e => e
              have N8 : Hid (PNew w w8 v8 (putP key val ps)) := Lib.hid ⟨n8.row, fun g hg => by have h1 := n8.fresh g hg; have h2 := N7.out.only.size; omega, N7.out.only.trans n8.only⟩
              have HF8 : Hid (∀ g, v8.ownBlock = some g → g ≠ P + 1) := Lib.hid fun g hg => by have h1 := n8.fresh g hg; have h2 := R7.out.lt; omega
              have a0 := cQ8.is 0 _ rfl
              have a1 := cQ8.is 1 _ rfl
              have a2 := cQ8.is 2 _ rfl
              have r0 := cR8.is 0 _ rfl
              have r1 := cR8.is 1 _ rfl
              have r2 := cR8.is 2 _ rfl
              have z0 := cR8.thaw 0
              have z1 := cR8.thaw 1
              have z2 := cR8.thaw 2
              clear cQ8 cR8 n8 p1 p2
              go_wp2_with fail
              go_region
              go_wp2_with fail
              (try simp only [Exit.inBlock, Exit.then])
              refine bodyPost_ret (v := .tuple #[v8, .agg #[.int .u8 1, .bool true, .string ⟨#[]⟩], .int .i64 0]) ?_ rfl ?_
              · rw [results_tct rfl]
                go_simp
              · exact do_end (R := P + 1) (r := ⟨1, true, ⟨#[]⟩⟩) HCODE.out N8.out (by have := HPW.out; omega) (HF8.out) ((((Only.refl (fun k => k = P + 1) w8).setCell (p := ⟨P + 1, 0, none⟩) rfl _).setCell (p := ⟨P + 1, 1, none⟩) rfl _).setCell (p := ⟨P + 1, 2, none⟩) rfl _).drew (by unfold doP; rw [if_neg h1, if_neg (show ¬ kd = 2 by omega), if_neg h3, ← HST.out]; exact (if_pos HEQ.out).symm) (by rw [← HST.out]; exact (sw_yes _ _ h1 (show ¬ kd = 2 by omega) h3 HEQ.out).symm)
            · have bx : (x.toList == old.toList) = false := by rw [same_str, decide_eq_false_iff_not]; exact hx
              have bx' : (x.toList != old.toList) = true := by rw [bne, bx]; rfl
              have HNE : Hid (¬ swP (some x) true old) := Lib.hid (by unfold swP; simpa using hx)
              clear hx
              have a0 := Q6.out.is 0 _ rfl
              have a1 := Q6.out.is 1 _ rfl
              have a2 := Q6.out.is 2 _ rfl
              have r0 := R6.out.is 0 _ rfl
              have r1 := R6.out.is 1 _ rfl
              have r2 := R6.out.is 2 _ rfl
              have z0 := R6.out.thaw 0
              have z1 := R6.out.thaw 1
              have z2 := R6.out.thaw 2
              go_wp2_with fail
              go_region
              go_wp2_with fail
              (try simp only [Exit.inBlock, Exit.then])
              refine bodyPost_ret (v := .tuple #[v4, .agg #[.int .u8 1, .bool false, .string ⟨#[]⟩], .int .i64 0]) ?_ rfl ?_
              · rw [results_tct rfl]
                go_simp
              · exact do_end (R := P + 1) (r := ⟨1, false, ⟨#[]⟩⟩) HCODE.out N6.out (by have := HPW.out; omega) (fun g hg => (HQW.out.2.2 g hg).2.1) ((((Only.refl (fun k => k = P + 1) w6).setCell (p := ⟨P + 1, 0, none⟩) rfl _).setCell (p := ⟨P + 1, 1, none⟩) rfl _).setCell (p := ⟨P + 1, 2, none⟩) rfl _).drew (by unfold doP; rw [if_neg h1, if_neg (show ¬ kd = 2 by omega), if_neg h3, ← HST.out]; exact (if_neg HNE.out).symm) (by rw [← HST.out]; exact (sw_no _ _ h1 (show ¬ kd = 2 by omega) h3 HNE.out).symm)
    have b4 : (kd == 4) = false := by simpa using h4
    have h2 : kd = 2 := by
      have h := HCODE.out
      unfold Op5.code at h
      split at h
      · cases h
      · next hh => simp only at hh; omega
    as_aux_lemma =>
      have b2 : (kd == 2) = true := by simpa using h2
      have p1 := P6.out.is 1 _ rfl
      have p2 := P6.out.is 2 _ rfl
      have HD := Lib.hid (put_any N6.out.row (by rw [← HN.out]; exact H.out.2.1) key val H.out.2.2)
      go_wp2_with fail
      refine HD.out.mono ?_
      rintro e w8 ⟨v8, rfl, n8⟩
      have cQ8 := Q6.out.kept n8.only fun e => e
      have cR8 := R6.out.kept n8.only fun e => e
      have N8 : Hid (PNew w w8 v8 (putP key val ps)) := Lib.hid ⟨n8.row, fun g hg => by have h1 := n8.fresh g hg; have h2 := N6.out.only.size; omega, N6.out.only.trans n8.only⟩
      have HF8 : Hid (∀ g, v8.ownBlock = some g → g ≠ P + 1) := Lib.hid fun g hg => by have h1 := n8.fresh g hg; have h2 := R6.out.lt; omega
      have a0 := cQ8.is 0 _ rfl
      have a1 := cQ8.is 1 _ rfl
      have a2 := cQ8.is 2 _ rfl
      have r0 := cR8.is 0 _ rfl
      have r1 := cR8.is 1 _ rfl
      have r2 := cR8.is 2 _ rfl
      have z0 := cR8.thaw 0
      have z1 := cR8.thaw 1
      have z2 := cR8.thaw 2
      clear cQ8 cR8 n8 p1 p2
      go_wp2_with fail
      go_region
      go_wp2_with fail
      (try simp only [Exit.inBlock, Exit.then])
      refine bodyPost_ret (v := .tuple #[v8, .agg #[.int .u8 1, .bool false, .string ⟨#[]⟩], .int .i64 0]) ?_ rfl ?_
      · rw [results_tct rfl]
        go_simp
      · exact do_end (R := P + 1) (r := ⟨1, false, ⟨#[]⟩⟩) HCODE.out N8.out (by have := HPW.out; omega) (HF8.out) ((((Only.refl (fun k => k = P + 1) w8).setCell (p := ⟨P + 1, 0, none⟩) rfl _).setCell (p := ⟨P + 1, 1, none⟩) rfl _).setCell (p := ⟨P + 1, 2, none⟩) rfl _).drew (by unfold doP; rw [if_neg h1, if_pos h2]) (by unfold Op5.does; rw [if_neg h1, if_pos h2])
  · as_aux_lemma =>
      have hc0 : (code == 0) = false := by simpa using h0
      have r0 := R2.out.is 0 _ rfl
      have r1 := R2.out.is 1 _ rfl
      have r2 := R2.out.is 2 _ rfl
      have z0 := R2.out.thaw 0
      have z1 := R2.out.thaw 1
      have z2 := R2.out.thaw 2
      clear p0 p1 p2 p3 p4 ew o2 hcode
      go_wp2_with fail
      (try simp only [Exit.inBlock, Exit.then])
      refine bodyPost_ret (v := .tuple #[.slice none 0 0, .agg #[.int .u8 0, .bool false, .string ⟨#[]⟩], .int .i64 code]) ?_ rfl ?_
      · rw [results_tct rfl]
        go_simp
      · refine ⟨O2.out.fresh (X := P + 1) (by have := HPW.out; omega) ((((Only.refl (fun k => k = P + 1) w2).setCell (p := ⟨P + 1, 0, none⟩) rfl _).setCell (p := ⟨P + 1, 1, none⟩) rfl _).setCell (p := ⟨P + 1, 2, none⟩) rfl _), .inr ⟨by rw [← HCODE.out]; exact h0, by rw [← HCODE.out]; rfl⟩⟩
end Go.Proofs.Ytajbagdgjbihjaa
