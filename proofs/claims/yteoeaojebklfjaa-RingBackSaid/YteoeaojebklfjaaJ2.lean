/- RingBack: the walk. -/
import Derived.Test.YteoeaojebklfjaaJ1
import Derived.Test.YteoeaojebklfjaaE6
namespace Go.Proofs.Yteoeaojebklfjaa
open Go.RowKit Go.Maps
set_option linter.unusedVariables false

set_option maxRecDepth 20000 in
theorem back_long (x y : Int) (a : Option Addr) (n c : Nat) (w : World) (h : 30 < n) : Calls Try.prog 8 #[.int .i64 x, .int .i64 y, .slice a n c] w fun e w' => e = .returned (.bool true) ∧ Below w.heap.size w w' := by
  have h1 : (30 : Int) < (n : Int) := by omega
  go_enter Try.func8, Try.ntmps8
  go_wp2_with fail
  refine (awake_any w).mono ?_
  rintro e w1 ⟨rfl, o⟩
  have O := Lib.hid o
  clear o
  go_wp2_with fail
  go_ret
  exact ⟨rfl, O.out.below (Nat.le_refl _) fun _ e => e.elim⟩

theorem one14 (x : Int) : ∃ N : Nat, wrap64 (1 + wrap64 ((IntKind.u64.wrap x).tmod 14)) = (N : Int) ∧ 1 ≤ N ∧ N ≤ 14 := by
  obtain ⟨m, h1, h2⟩ := mod_is x 14 (by decide) (by decide)
  refine ⟨m + 1, ?_, by omega, by omega⟩
  rw [h1, IntWalk.wrap64_in _ (by omega)]
  omega
theorem mod1000 (x : Int) : ∃ N : Nat, wrap64 ((IntKind.u64.wrap x).tmod 1000) = (N : Int) ∧ N < 1000 := by
  obtain ⟨m, h1, h2⟩ := mod_is x 1000 (by decide) (by decide)
  exact ⟨m, h1, by omega⟩
theorem mod2000 (x : Int) : ∃ N : Nat, wrap64 ((IntKind.u64.wrap x).tmod 2000) = (N : Int) ∧ N < 2000 := by
  have h0 := u64_nonneg x
  have e : (IntKind.u64.wrap x).tmod 2000 = (IntKind.u64.wrap x) % 2000 := Int.tmod_eq_emod_of_nonneg h0
  have h1 := Int.emod_nonneg (IntKind.u64.wrap x) (show (2000 : Int) ≠ 0 by decide)
  have h2 := Int.emod_lt_of_pos (IntKind.u64.wrap x) (show (0 : Int) < 2000 by decide)
  refine ⟨((IntKind.u64.wrap x) % 2000).toNat, ?_, by omega⟩
  rw [e, IntWalk.wrap64_in _ (by omega)]
  omega
theorem u8_mod (z : Int) : ∃ b : UInt8, z % 256 = (b.toNat : Int) := by
  have h2 := Int.emod_nonneg z (show (256 : Int) ≠ 0 by decide)
  have h3 := Int.emod_lt_of_pos z (show (0 : Int) < 256 by decide)
  refine ⟨UInt8.ofNat (z % 256).toNat, ?_⟩
  rw [UInt8.toNat_ofNat_of_lt' (by show _ < 256; omega)]
  omega
theorem Bk.aside {w0 w w' : World} {R D : Nat} {F S : Nat → Prop} {first count base : Nat} {rs : List Rec} {d : Dk} {len n : Nat} (h : Bk w0 w R D F first count base rs d len n) (o : Only S w w') (hS : ∀ k, S k → w0.heap.size ≤ k ∧ k ≠ R ∧ ¬ F k) : Bk w0 w' R D F first count base rs d len n :=
  ⟨⟨h.bd.par, ⟨h.bd.dsk.at_.only o fun k hk e => (hS k e).2.2 hk, h.bd.dsk.fresh, h.bd.dsk.only.cons_new o fun k hk => (hS k hk).1⟩, h.bd.calm, h.bd.holds, h.bd.room⟩, h.ring.kept o fun e => (hS R e).2.1 rfl, h.new, h.apart⟩
theorem recs_far {w0 w w' : World} {R : Nat} {F : Nat → Prop} {v : Value} {rs : List Rec} {F' : Nat → Prop} (h : Recs w (fun j => w0.heap.size ≤ j ∧ j ≠ R ∧ ¬ F j) v rs) (hk : Kept (fun k => F k ∨ k = R) (fun k => F' k ∨ k = R) w w') : Recs w' (fun j => w0.heap.size ≤ j ∧ j ≠ R ∧ ¬ F' j) v rs := by
  obtain ⟨h1, xs, h2, h3⟩ := h
  have key : ∀ k, k < w.heap.size → k ≠ R → ¬ F k → ¬ F' k := fun k hk' hR hF e => by
    rcases hk.fresh k (Or.inl e) with (h | h) | h
    · exact hF h
    · exact hR h
    · omega
  have o : ∀ k, (w0.heap.size ≤ k ∧ k ≠ R ∧ ¬ F k) → ¬ (F k ∨ k = R) := fun k hk' e => e.elim hk'.2.2 hk'.2.1
  refine ⟨fun k hk' => ⟨(h1 k hk').1, (h1 k hk').2.1, key k (h2.lt hk') (h1 k hk').2.1 (h1 k hk').2.2⟩, xs, h2.only hk.only fun k hk' => o k (h1 k hk'), fun j hj => ?_⟩
  obtain ⟨x, a, b, c⟩ := h3 j hj
  exact ⟨x, a, b.only hk.only fun k hk' => o k (c k hk').1, fun k hk' => ⟨⟨(c k hk').1.1, (c k hk').1.2.1, key k (b.lt hk') (c k hk').1.2.1 (c k hk').1.2.2⟩, (c k hk').2⟩⟩
theorem rd_one' (w : World) (v : Value) (t : TypeId) : Rd (w.alloc (.cells #[v] t)) 1 (.slice (some ⟨w.heap.size, 0, none⟩) 1 1) 1 [v] := by
  refine ⟨rfl, .inr ⟨_, 1, rfl, Nat.le_refl _, by unfold maxLen; decide, fun j u hu => ?_⟩⟩
  rw [add_mid' (⟨w.heap.size, 0, none⟩) j rfl]
  match j with
  | 0 =>
    simp at hu
    subst hu
    rw [World.cell?_alloc_new]; rfl
  | j + 1 => simp at hu

/-- at a round's head -/
structure BackLoop (w wr : World) (R D : Nat) (F : Nat → Prop) (count base : Nat) (v : Value) (rs : List Rec) (d : Dk) (k : Nat) : Prop where
  ring : Bk w wr R D F 1 count base rs d 15 (14 * k)
  recs : Recs wr (fun j => w.heap.size ≤ j ∧ j ≠ R ∧ ¬ F j) v rs
  few : rs.length ≤ k

set_option maxRecDepth 20000 in
set_option maxHeartbeats 4000000 in
theorem back_main (x y : Int) (a : Option Addr) (n c : Nat) (l : List Int) (w : World) (rd : Rd w 1 (.slice a n c) l.length (l.map (Value.int .i64))) (h : n ≤ 30) : Calls Try.prog 8 #[.int .i64 x, .int .i64 y, .slice a n c] w fun e w' => e = .returned (.bool true) ∧ Below w.heap.size w w' := by
  have h1 : ¬ (30 : Int) < (n : Int) := by omega
  have RD := Lib.hid rd
  have H30 := Lib.hid h
  have HLN : Hid (l.length = n) := by
    obtain ⟨a', c', e⟩ := rd.shape
    injection e with _ e _
    exact e.symm
  obtain ⟨count, hc, hc1, hc14⟩ := one14 x
  obtain ⟨base, hb, hb1000⟩ := mod1000 y
  clear rd h
  go_enter Try.func8, Try.ntmps8
  go_wp2_with fail
  refine (awake_any w).mono ?_
  rintro e w1 ⟨rfl, o⟩
  have O := Lib.hid o
  clear o
  go_wp2_with fail
  rw [hc, hb]
  clear hc hb h1
  refine (new_dsk 15 15 rfl w _ O.out (by decide) (by decide)).mono ?_
  rintro r w2 ⟨D, F1, rfl, h2, -, -⟩
  have S2 := Lib.hid (bd_new (first := 1) (count := count) (base := base) ⟨hc1, by omega, by omega, by decide, by omega⟩ h2)
  have HC := Lib.hid (And.intro hc1 (And.intro hc14 hb1000))
  clear h2 hc1 hc14 hb1000 O
  go_wp2_with fail
  refine (S2.out.open_lit (by decide) (f := 1) rfl rfl rfl (m := 0) rfl).mono ?_
  rintro r w3 ⟨R, a3, k3, rfl, hR, hB, -, -⟩
  have L0 : Hid (BackLoop w w3 R D F1 count base (.slice none 0 0) [] (Dk.new 15) 0) := ⟨hB, Recs.nil _ _, Nat.le_refl _⟩
  clear hB hR S2
  go_wp2_with fail
  go_loopw [12, 13] (fun p i wr => ∃ (k : Nat) (F : Nat → Prop) (rs : List Rec) (d : Dk) (av : Option Addr) (ac : Nat), k ≤ n ∧ p = .slice av rs.length ac ∧ i = .int .i64 (k : Int) ∧ Hid (BackLoop w wr R D F count base (.slice av rs.length ac) rs d k)) (fun p i wr => n - (intOf i).toNat)
  case atStart => exact ⟨0, _, [], _, none, 0, by omega, rfl, rfl, L0⟩
  case round =>
    obtain ⟨k, F, rs, d, av, ac, hk, rfl, rfl, HL⟩ := hrel
    by_cases hlt : k < n
    · obtain ⟨g, off, cap, e, hg, hcell⟩ := RD.out.at_ (by have := HLN.out; omega)
      injection e with e e2 e3
      subst e
      clear e2 e3
      have hkl : k < l.length := by have := HLN.out; omega
      have cz := (HL.out.ring.bd.dsk.only.cell hg (fun e => e) (off + k)).trans (hcell k _ (by rw [List.getElem?_map, List.getElem?_eq_getElem hkl]; rfl))
      obtain ⟨z, hz⟩ : ∃ z, z = l[k] := ⟨_, rfl⟩
      rw [← hz] at cz
      obtain ⟨L, hL, hL2⟩ := mod2000 z
      obtain ⟨w4, hm, hV, o4, l4⟩ := make34 L wr (by omega)
      have HV := Lib.hid hV
      have O4 := Lib.hid (And.intro o4 l4)
      have HL2 := Lib.hid hL2
      have i0 : (0 : Int) ≤ (k : Int) := by omega
      have i1 : (k : Int) < (n : Int) := by omega
      have hm0 : (0 : Int) ≤ (L : Int) := by omega
      clear hcell hz hV o4 l4 hkl hL2 hg
      go_wp2_with fail
      clear hm cz hL i0 i1 hm0
      go_loopw [15] (fun i wx => ∃ (j : Nat) (s : Sec), j ≤ L ∧ i = .int .i64 (j : Int) ∧ s.length = L ∧ Hid (Vec wx 1 (.slice (some ⟨wr.heap.size, 0, none⟩) L L) L (bv s) ∧ Only None' wr wx)) (fun i wx => L - (intOf i).toNat)
      case atStart => exact ⟨0, _, by omega, rfl, List.length_replicate, Lib.hid ⟨HV.out, O4.out.1⟩⟩
      case round =>
        obtain ⟨j, s, hj, rfl, hs, HJ⟩ := hrel
        by_cases hlt2 : j < L
        · have j0 : (0 : Int) ≤ (j : Int) := by omega
          have j1 : (j : Int) < (L : Int) := by omega
          obtain ⟨f1, f2⟩ := HJ.out.1.free (k := j) (by omega)
          rw [Nat.zero_add] at f1 f2
          obtain ⟨u, hu⟩ := Option.isSome_iff_exists.1 f1
          clear f1
          go_wp2_with fail
          rename World => wx
          obtain ⟨b8, hb8⟩ := u8_mod (wrap64 ((k : Int) + wrap64 (7 * (j : Int))))
          rw [hb8]
          refine ⟨⟨j + 1, s.set j b8, by omega, next_int (by have := HL2.out; omega), by rw [List.length_set]; exact hs, Lib.hid ⟨?_, HJ.out.2.setNew (Nat.le_refl _) _ _⟩⟩, meas hlt2 (by have := HL2.out; omega)⟩
          rw [← bv_set]
          exact HJ.out.1.set1 hlt2 _
        · rename World => wx
          obtain rfl : j = L := by omega
          have HS := Lib.hid hs
          have hvx := HJ.out.1
          rw [← hs] at hvx
          have BL : BackLoop w wx R D F count base (.slice av rs.length ac) rs d k := ⟨HL.out.ring.only HJ.out.2, HL.out.recs.only HJ.out.2 fun _ _ e => e, HL.out.few⟩
          obtain ⟨B, hB⟩ : ∃ B, B = wr.heap.size := ⟨_, rfl⟩
          have hnew : w.heap.size ≤ B := by rw [hB]; exact HL.out.ring.bd.dsk.only.size
          have hBx : B < wx.heap.size := by rw [hB]; have h1 := O4.out.2; have h2 := hvx.lt (k := wr.heap.size) rfl; exact h2
          have hBR : B ≠ R := by rw [hB]; have := HL.out.ring.ring.lt; omega
          have hBF : ¬ F B := fun e => by have := HL.out.ring.bd.dsk.at_.lt e; omega
          rw [← hB] at hvx
          have HBL := Lib.hid BL
          have HVX := Lib.hid hvx
          have HBB := Lib.hid (And.intro hnew (And.intro hBx (And.intro hBR hBF)))
          have HOWN : Hid (∀ k, (Value.slice av rs.length ac).ownBlock = some k → k ≠ B) := fun k' hk' e => by
            obtain ⟨_, xs, hx, _⟩ := HL.out.recs
            have := hx.lt hk'
            omega
          have HN := Lib.hid (show 14 * k ≤ 500000 by have := H30.out; omega)
          rw [← hB]
          clear hB hnew hBx hBR hBF BL hvx HJ HL HV O4 hlt2 hj
          obtain ⟨ro, hro⟩ : ∃ ro, ro = count - many base rs := ⟨_, rfl⟩
          obtain ⟨pn, hpn⟩ : ∃ pn, pn = cutN j := ⟨_, rfl⟩
          have HRO := Lib.hid (And.intro hro hpn)
          have HPC : Hid (∀ w, Calls Try.prog 41 #[.int .i64 (j : Int)] w fun e w' => e = .returned (.int .i64 (pn : Int)) ∧ w = w') := fun w => by
            rw [hpn]
            exact (pieces_any j w (by have := HL2.out; omega)).mono fun _ _ h => ⟨h.1, h.2.symm⟩
          go_wp2_with fail
          refine (HBL.out.ring.roomed (m := (ro : Int)) (by rw [← hro])).mono ?_
          rintro r w5 ⟨rfl, o5⟩
          have HB5 : Hid (BackLoop w w5 R D F count base (.slice av rs.length ac) rs d k) := ⟨HBL.out.ring.only o5, HBL.out.recs.only o5 fun _ _ e => e, HBL.out.few⟩
          have HV5 := Lib.hid (HVX.out.only o5 fun _ _ e => e)
          have l5 := o5.size
          have HB5' := Lib.hid (show B < w5.heap.size by have := HBB.out.2.1; omega)
          clear o5 l5 hro hpn
          by_cases hfit : many base rs + cutN j ≤ count
          · have hle : pn ≤ ro := by have h1 := HRO.out.1; have h2 := HRO.out.2; omega
            have HFT := Lib.hid hfit
            have hadd := HB5.out.ring.add_lit (by have := HN.out; omega) (rec := s) (m := j) HS.out (by rw [HS.out]; have := HV5.out.rd; rwa [HS.out] at this) (Nat.le_refl _) (by have := HL2.out; unfold maxLen; omega) HBB.out.2.2.2 HB5'.out HBB.out.2.2.1 (by have := HL2.out; omega) hfit rfl (n' := 14 * (k + 1)) (by have := HB5.out.ring.bd.room; have h1 := HC.out.2.1; omega)
            have HADD := Lib.hid hadd
            clear hfit hadd
            go_wp2_with fail
            refine HADD.out.mono ?_
            rintro r w6 ⟨rfl, F6, d6, hB6, hk6⟩
            have HB6 := Lib.hid hB6
            have HR6 := Lib.hid (recs_far HB5.out.recs hk6)
            have HV6 := Lib.hid (HV5.out.only hk6.only fun g hg e => by
              injection hg with hg
              rw [← hg] at e
              exact e.elim HBB.out.2.2.2 HBB.out.2.2.1)
            have HK6 := Lib.hid hk6
            clear hB6 hk6 HADD
            go_wp2_with fail
            refine (HPC.out w6).mono ?_
            rintro r w7 ⟨rfl, e7⟩
            obtain rfl := e7
            obtain ⟨rp, hrp⟩ : ∃ rp, rp = ro - pn := ⟨_, rfl⟩
            have hroom2 : ((count - many base (rs ++ [s]) : Nat) : Int) = (rp : Int) := by
              rw [many_snoc, HS.out]
              have h1 := HRO.out.1
              have h2 := HRO.out.2
              omega
            have HQ := Lib.hid (HB6.out.roomed hroom2)
            have d1 : decide (pn ≤ ro) = true := by simpa using hle
            have a1 : (ro : Int) - (pn : Int) = (rp : Int) := by omega
            have HA := Lib.hid (show wrap64 (rp : Int) = (rp : Int) from IntWalk.wrap64_in _ (by have h1 := HRO.out.1; have h2 := HC.out.2.1; omega))
            clear hroom2 hrp hle
            go_wp2_with fail
            refine HQ.out.mono ?_
            rintro r w7 ⟨rfl, o7⟩
            have HB7 := Lib.hid (HB6.out.only o7)
            have HR7 := Lib.hid (HR6.out.only o7 fun _ _ e => e)
            have HV7 := Lib.hid (HV6.out.only o7 fun _ _ e => e)
            clear o7
            have HSZ := Lib.hid (show rs.length + 1 ≤ maxLen ∧ (rs.length + 1) * 24 ≤ 140737488355328 from ⟨by have := HB5.out.few; have := H30.out; unfold maxLen; omega, by have := HB5.out.few; have := H30.out; omega⟩)
            have f1 := HR7.out.own
            obtain ⟨xs, hx, hrow⟩ := HR7.out.rows
            have HX := Lib.hid hx
            have HRW := Lib.hid hrow
            have HF1 := Lib.hid f1
            clear hx hrow f1
            have a2 := HA.out
            go_wp2_with (first | (at_builtin; refine wpList_append_any rfl _ _ 64 rfl 34 Try.t34 (.slice none 0 0) 1 24 Try.underlying64 info34 t34_zero t34_size t34_bytes rfl (by decide) (.slice av rs.length ac) rs.length xs rfl (HX.out.alloc _) (.slice (some ⟨w7.heap.size, 0, none⟩) 1 1) 1 [.slice (some ⟨B, 0, none⟩) j j] rfl (rd_one' w7 _ 34) (one_slice _ _ _) HSZ.out.1 HSZ.out.2 ?_; intro v2 w8 hv2 hg2 hf2; obtain ⟨oa2, oc2, rfl, _, _⟩ := hv2.shape; have HY := Lib.hid (And.intro hv2 (And.intro hg2 hf2)); clear hv2 hg2 hf2 a2))
            go_roundw
            case rel =>
              refine ⟨k + 1, F6, rs ++ [s], d6, oa2, oc2, by omega, by rw [List.length_append]; rfl, next_int (by have := H30.out; omega), Lib.hid ⟨?_, ?_, ?_⟩⟩
              · have oy : Only (fun k => (Value.slice av rs.length ac).ownBlock = some k) (w7.alloc (.cells #[.slice (some ⟨B, 0, none⟩) j j] 34)) w8 := (Only.refl _ _).grown HY.out.2.1 fun k hk => hk
                exact (HB7.out.only ((Only.refl _ _).alloc _)).aside oy fun k hk => HF1.out k hk
              · have hB6 : ¬ F6 B := fun e => by
                  rcases HK6.out.fresh B (Or.inl e) with (h | h) | h
                  · exact HBB.out.2.2.2 h
                  · exact HBB.out.2.2.1 h
                  · have := HB5'.out; omega
                have hBv : (Value.slice av rs.length ac).ownBlock ≠ some B := fun e => HOWN.out B e rfl
                have hfr := HY.out.2.2
                rw [List.length_append]
                show Recs w8 _ (.slice oa2 (rs.length + 1) oc2) (rs ++ [s])
                refine Recs.push (w := w7.alloc (.cells #[.slice (some ⟨B, 0, none⟩) j j] 34)) (x := .slice (some ⟨B, 0, none⟩) j j) HF1.out (fun i hi => ?_) HY.out.1 (by have := HX.out.len; omega) HY.out.2.1 HY.out.2.2 (by have := HV7.out.alloc (.cells #[.slice (some ⟨B, 0, none⟩) j j] 34); rw [HS.out] at this ⊢; exact this) (fun k hk => ?_) (fun k hk => ?_)
                · obtain ⟨x, a, b, c⟩ := HRW.out i hi
                  exact ⟨x, a, b.alloc _, c⟩
                · injection hk with hk
                  have hk : B = k := hk
                  subst hk
                  exact ⟨⟨HBB.out.1, HBB.out.2.2.1, hB6⟩, hBv⟩
                · have h1 := HB7.out.ring.lt
                  have h2 := HB7.out.bd.dsk.only.size
                  have h3 : (w7.alloc (.cells #[.slice (some ⟨B, 0, none⟩) j j] 34)).heap.size = w7.heap.size + 1 := by simp
                  exact ⟨by omega, by omega, fun e => by have := HB7.out.bd.dsk.at_.lt e; omega⟩
              · rw [List.length_append]; have := HB5.out.few; simp; omega
            case measure => exact meas hlt (by have := H30.out; omega)
          · have hle : ¬ pn ≤ ro := by have h1 := HRO.out.1; have h2 := HRO.out.2; have h3 := HB5.out.ring.bd.room; omega
            obtain ⟨code, hcode⟩ : ∃ code : Int, (if count < cutN j then (40 : Int) else 3) = code := ⟨_, rfl⟩
            have HADD := Lib.hid (HB5.out.ring.full (some ⟨B, 0, none⟩) j j (by have := HL2.out; omega) hfit hcode)
            have hcc : code = 40 ∨ code = 3 := by
              rw [← hcode]
              split
              · exact Or.inl rfl
              · exact Or.inr rfl
            have d1 : decide (pn ≤ ro) = false := by simpa using hle
            clear hfit hcode hle
            rcases hcc with rfl | rfl
            all_goals (
              go_wp2_with fail
              refine HADD.out.mono ?_
              rintro r w6 ⟨rfl, o6⟩
              have HB6 : Hid (BackLoop w w6 R D F count base (.slice av rs.length ac) rs d (k + 1)) := ⟨(HB5.out.ring.only o6).few (by omega), HB5.out.recs.only o6 fun _ _ e => e, by have := HB5.out.few; omega⟩
              clear o6
              go_wp2_with fail
              refine (HPC.out w6).mono ?_
              rintro r w7 ⟨rfl, e7⟩
              obtain rfl := e7
              go_wp2_with fail
              go_roundw
              case rel => exact ⟨k + 1, F, rs, d, av, ac, by omega, rfl, next_int (by have := H30.out; omega), HB6⟩
              case measure => exact meas hlt (by have := H30.out; omega))
    · obtain rfl : k = n := by omega
      clear hk hlt
      have HFW := Lib.hid (show 14 * k ≤ 500000 by have := H30.out; omega)
      go_wp2_with fail
      refine (HL.out.ring.bd.open_lit (by have := HFW.out; omega) (f := 1) rfl rfl rfl (m := rs.length) rfl).mono ?_
      rintro r w4 ⟨R4, a4, k4, rfl, hR4, hB4, hrec4, o4⟩
      have HB4 := Lib.hid (HL.out.ring.only o4)
      have HS := Lib.hid (same_any hrec4 (HL.out.recs.only o4 fun _ _ e => e))
      clear hB4 hrec4 hR4 o4
      go_wp2_with fail
      refine HS.out.mono ?_
      rintro r w5 ⟨rfl, q, rfl⟩
      have HB5 := Lib.hid (HB4.out.only ((Only.refl None' _).drewN q))
      go_wp2_with fail
      refine (HB5.out.lasted rfl).mono ?_
      rintro r w' ⟨rfl, rfl⟩
      have HB6 := Lib.hid (HB5.out.bd.emptied (by have h1 := HB5.out.bd.room; have h2 := HC.out; omega))
      obtain ⟨bm, hbm⟩ : ∃ bm, bm = base + many base rs := ⟨_, rfl⟩
      rw [← hbm] at HB6 ⊢
      clear hbm
      go_wp2_with fail
      refine (HB6.out.open_lit (by have := HFW.out; omega) (f := 1) rfl rfl rfl (m := 0) rfl).mono ?_
      rintro r w6 ⟨R6, a6, k6, rfl, hR6, hB6, -, -⟩
      have HB7 := Lib.hid hB6
      clear hB6 hR6
      go_wp2_with fail
      refine (HB7.out.roomed (m := (count : Int)) (by rw [many_nil]; rfl)).mono ?_
      rintro r w7 ⟨rfl, o7⟩
      have O7 := Lib.hid (HB7.out.bd.dsk.only.trans o7)
      clear o7
      go_wp2_with fail
      go_ret
      exact ⟨rfl, O7.out.below (Nat.le_refl _) fun _ e => e.elim⟩
theorem cells3 : Try.prog.cellsOf 3 = 1 := by kernel_rfl
theorem back_walk (x y : Int) (v : Value) (l : List Int) (w : World) (rd : Rd w 1 v l.length (l.map (Value.int .i64))) : Calls Try.prog 8 #[.int .i64 x, .int .i64 y, v] w fun e w' => e = .returned (.bool true) ∧ Below w.heap.size w w' := by
  obtain ⟨a, n, c, rfl⟩ := rd.shape'
  by_cases h : 30 < n
  · exact back_long x y a n c w h
  · exact back_main x y a n c l w rd (by omega)
end Go.Proofs.Yteoeaojebklfjaa
