/- U2 U3 U4 U5 in one text. -/
import Derived.Test.YteoeaojebklfjaaGreatDoorWLost0
namespace Go.Proofs.YteoeaojebklfjaaGreatDoor
open Go.RowKit Go.Maps
set_option linter.unusedVariables false
set_option linter.unusedSimpArgs false
set_option maxRecDepth 20000
theorem rd_three (w : World) (x y z : Value) (t : TypeId) : Rd (w.alloc (.cells #[x, y, z] t)) 3 (.slice (some ⟨w.heap.size, 0, none⟩) 1 1) 1 [x, y, z] := by
  refine ⟨rfl, .inr ⟨_, 1, rfl, Nat.le_refl _, by decide, fun j u hu => ?_⟩⟩
  rw [add_mid' (⟨w.heap.size, 0, none⟩) j rfl]
  show (w.alloc (.cells #[x, y, z] t)).cell? _ = _
  rw [World.cell?_alloc_new, Nat.zero_add]
  rw [← hu]
  match j with
  | 0 => rfl
  | 1 => rfl
  | 2 => rfl
  | j + 3 => rfl
theorem three_one (p : MPg) : ∀ u ∈ p.vs, u.oneCell' = true := by
  intro u hu
  unfold MPg.vs at hu
  simp at hu
  rcases hu with rfl | rfl | rfl <;> rfl
def newP (n : Int) : MPg := ⟨n, false, ⟨#[]⟩⟩
section
variable {w w' : World} {M : Nat} {v : Mv} {m : Mi}
set_option maxHeartbeats 2000000 in
theorem mtake (h : MindAt w M v m) (n : Int) (hb : m.now.length ≤ 1000000) (hc : m.ch.length ≤ 1000000) (hf : findP m.now n = -1) (h1 : 1 ≤ n) (h2 : n < m.pages) : Calls Tryz.prog 62 #[.pointer (some ⟨M, 0, none⟩), .int .i64 n] w fun e w' => e = .returned (.bool true) ∧ ∃ v', MindAt w' M v' (m.take n) ∧ Kept (mS M v) (mS M v') w w' := by
  obtain ⟨an, cn, hvn, _, _⟩ := h.now.shape
  have hc0 := h.cells.is 0 _ rfl
  have hc1 := h.cells.is 1 _ rfl
  have hv := (h.new ((Only.refl None' w).alloc (.cells #[.int .i64 n, .bool false, .string ⟨#[]⟩] 99))).now
  have hac := h.an
  rw [hvn] at hc1 hv hac
  obtain ⟨len, hlen⟩ : ∃ len, len = m.now.length := ⟨_, rfl⟩
  have HFD := Lib.hid (mfind h n hb)
  rw [hf] at HFD
  have H := Lib.hid (And.intro h (And.intro hvn (And.intro hlen (And.intro (show len ≤ 1000000 by omega) hc))))
  rw [← hlen] at hc1 hv hac
  have HV := Lib.hid hv
  have HAC : Hid (¬ (Value.slice an len cn).ownBlock = some M) := Lib.hid hac
  have l6 : (len : Int) ≤ 1000000 := by omega
  have n1 : ¬ n < 1 := by omega
  have n2 : ¬ n ≥ m.pages := by omega
  have n3 : ¬ m.pages ≤ n := by omega
  clear h hvn hb hlen hv hac hc hf h1 h2
  go_enter Tryz.func62, Tryz.ntmps62
  go_wp2_with fail
  refine HFD.out.mono ?_
  rintro e w3 ⟨rfl, rfl⟩
  go_wp2_with (first | (at_builtin; go_loud (refine wpList_append_any rfl _ _ 48 rfl 99 Tryz.t99 (.agg #[.int .i64 0, .bool false, .string ⟨#[]⟩]) 3 32 Tryz.underlying48 info99 t99_zero t99_size t99_bytes rfl (by decide) (.slice an len cn) len (mrow m.now) rfl HV.out (.slice (some ⟨w.heap.size, 0, none⟩) 1 1) 1 (newP n).vs rfl (rd_three w _ _ _ 99) (three_one _) (by have := H.out.2.2.2.1; unfold maxLen; omega) (by have := H.out.2.2.2.1; omega) ?_); intro v2 w5 hv2 hg2 hf2; obtain ⟨a2, c2, rfl, _, _⟩ := hv2.shape; have HY := Lib.hid (And.intro hv2 (And.intro (((Only.refl (fun k => (Value.slice an len cn).ownBlock = some k) w).alloc (.cells #[.int .i64 n, .bool false, .string ⟨#[]⟩] 99)).grown hg2 fun k hk => hk) hf2)); have hq := (H.out.1.cells.kept HY.out.2.1 (fun e => HAC.out e)); have hq1 := hq.is 1 _ rfl; have hqt := hq.thaw 1; clear hv2 hg2 hf2 hq))
  have HP : Hid (MindAt (w5.setCell ⟨M, 1, none⟩ (.slice a2 (len + 1) c2)) M { v with n := .slice a2 (len + 1) c2 } { m with now := m.now ++ [newP n] } ∧ Kept (mS M v) (mS M { v with n := .slice a2 (len + 1) c2 }) w (w5.setCell ⟨M, 1, none⟩ (.slice a2 (len + 1) c2))) := Lib.hid (by
    have ov := HY.out.2.1
    have e1 : len + 1 = (m.now ++ [newP n]).length := by rw [List.length_append, H.out.2.2.1]; rfl
    have e2 : mrow m.now ++ (newP n).vs = mrow (m.now ++ [newP n]) := by rw [mrow_append]; rfl
    have hv2 := HY.out.1
    have hf2 := HY.out.2.2
    rw [e2] at hv2
    have hvn := H.out.2.1
    rw [← H.out.2.2.1] at hvn
    rw [← hvn] at ov hf2
    exact H.out.1.putN ov (x := .slice a2 (len + 1) c2) (l := m.now ++ [newP n]) (by rw [← e1]; exact hv2) fun g hg => (hf2 g hg).imp id fun e => by simp at e; omega)
  have HT := Lib.hid (mtouch HP.out.1 n (show m.ch.length ≤ _ from H.out.2.2.2.2))
  refine HT.out.mono ?_
  rintro e w6 ⟨rfl, v6, h6, k6⟩
  have H6 := Lib.hid (And.intro h6 (HP.out.2.trans k6))
  clear h6 k6
  go_wp2_with fail
  go_ret
  exact ⟨rfl, v6, H6.out.1, H6.out.2⟩
structure DrLoop (W wr : World) (l : List MPg) (n : Int) (k : Nat) (v : Value) : Prop where
  row : Vec wr 3 v ((l.take k).filter fun p => p.n != n).length (mrow ((l.take k).filter fun p => p.n != n))
  fresh : ∀ g, v.ownBlock = some g → W.heap.size ≤ g
  only : Only None' W wr
theorem filt_next {l : List MPg} {n : Int} {k : Nat} {p : MPg} (hp : l[k]? = some p) : (l.take (k + 1)).filter (fun p => p.n != n) = (l.take k).filter (fun p => p.n != n) ++ (if p.n = n then [] else [p]) := by
  rw [List.take_add_one, List.filter_append, hp]
  by_cases e : p.n = n
  · simp [e]
  · simp [e]
theorem mindex {w : World} {l : List MPg} {g off cap : Nat} (h : Vec w 3 (.slice (some ⟨g, off, none⟩) l.length cap) l.length (mrow l)) {i : Nat} {p : MPg} (hi : l[i]? = some p) : w.cell? ⟨g, off + i * 3, none⟩ = some (.int .i64 p.n) ∧ w.cell? ⟨g, off + i * 3 + 1, none⟩ = some (.bool p.known) ∧ w.cell? ⟨g, off + i * 3 + 2, none⟩ = some (.string p.text) := by
  have hr := h.range
  obtain ⟨a, b, c⟩ := mrow_at l i hi
  exact ⟨hr _ _ a, hr _ _ b, hr _ _ c⟩
set_option maxHeartbeats 2000000 in
theorem mdrop (h : MindAt w M v m) (n : Int) (hb : m.now.length ≤ 1000000) (hc : m.ch.length ≤ 1000000) : Calls Tryz.prog 64 #[.pointer (some ⟨M, 0, none⟩), .int .i64 n] w fun e w' => e = .returned (.tuple #[]) ∧ ∃ v', MindAt w' M v' (m.drop n) ∧ Kept (mS M v) (mS M v') w w' := by
  obtain ⟨an, cn, hvn, _, _⟩ := h.now.shape
  obtain ⟨len, hlen⟩ : ∃ len, len = m.now.length := ⟨_, rfl⟩
  have H := Lib.hid (And.intro h (And.intro hvn (And.intro hlen (And.intro (show len ≤ 1000000 by omega) hc))))
  have l6 : (len : Int) ≤ 1000000 := by omega
  clear h hvn hb hlen hc
  go_enter Tryz.func64, Tryz.ntmps64
  go_wp2_with fail
  go_loopg [4, 5] len (fun gg u t wr => ∃ (i : Nat), gg = len - i ∧ i ≤ len ∧ t = .int .i64 (i : Int) ∧ Hid (DrLoop w wr m.now n i u))
  case atStart => exact ⟨0, rfl, Nat.zero_le _, rfl, Lib.hid ⟨(Vec.nil w 3 : Vec w 3 (.slice none 0 0) 0 []), (fun g hg => by cases hg), Only.refl _ _⟩⟩
  case round =>
    obtain ⟨i, rfl, hi, rfl, HA⟩ := hrel
    rename World => wr
    have hm := H.out.1.new HA.out.only
    have hc1 := hm.cells.is 1 _ rfl
    rw [H.out.2.1, ← H.out.2.2.1] at hc1
    by_cases hlt : i < len
    · have i0 : (0 : Int) ≤ (i : Int) := by omega
      have i1 : (i : Int) < (len : Int) := by omega
      obtain ⟨p, hp⟩ : ∃ p, m.now[i]? = some p := ⟨_, List.getElem?_eq_getElem (by have := H.out.2.2.1; omega)⟩
      obtain ⟨g, off, cap2, e, _⟩ := hm.page hp
      have hnow := hm.now
      rw [e] at hnow
      obtain ⟨cl, cl1, cl2⟩ := mindex hnow hp
      rw [H.out.2.1] at e
      injection e with e e2 e3
      subst e; subst e3
      clear e2 hnow
      have HI := Lib.hid (And.intro hlt hp)
      clear hi hlt hm hp
      obtain ⟨au, cu, hue, _, _⟩ := HA.out.row.shape
      subst hue
      by_cases hpn : p.n = n
      · have hpb : (p.n != n) = false := by simpa using hpn
        have HE := Lib.hid hpn
        clear hpn
        go_wp2_with fail
        go_roundg (len - (i + 1))
        case rel =>
          refine ⟨i + 1, rfl, HI.out.1, by first | exact next_int (by have := HI.out.1; have := H.out.2.2.2.1; omega) | rfl | (congr 1), Lib.hid ?_⟩
          have e := filt_next (n := n) HI.out.2
          rw [if_pos HE.out, List.append_nil] at e
          exact ⟨by rw [e]; exact HA.out.row, HA.out.fresh, HA.out.only⟩
        case measure => have := HI.out.1; omega
      · have hpb : (p.n != n) = true := by simpa using hpn
        have HE := Lib.hid hpn
        clear hpn
        obtain ⟨fl, hfl⟩ : ∃ fl, fl = (m.now.take i).filter fun p => p.n != n := ⟨_, rfl⟩
        have hrow := HA.out.row
        rw [← hfl] at hrow ⊢
        have HF := Lib.hid (And.intro hfl (show fl.length ≤ 1000000 by rw [hfl]; have := List.length_filter_le (fun p : MPg => p.n != n) (m.now.take i); have := List.length_take_le i m.now; have := H.out.2.2.2.1; have := H.out.2.2.1; omega))
        have HV := Lib.hid (hrow.alloc (.cells #[.int .i64 p.n, .bool p.known, .string p.text] 99))
        clear hfl hrow
        go_wp2_with (first | (at_builtin; go_loud (refine wpList_append_any rfl _ _ 48 rfl 99 Tryz.t99 (.agg #[.int .i64 0, .bool false, .string ⟨#[]⟩]) 3 32 Tryz.underlying48 info99 t99_zero t99_size t99_bytes rfl (by decide) (.slice au fl.length cu) fl.length (mrow fl) rfl HV.out (.slice (some ⟨wr.heap.size, 0, none⟩) 1 1) 1 p.vs rfl (rd_three wr _ _ _ 99) (three_one _) (by have := HF.out.2; unfold maxLen; omega) (by have := HF.out.2; omega) ?_); intro v2 w5 hv2 hg2 hf2; have HY := Lib.hid (And.intro hv2 (And.intro hg2 hf2)); clear hv2 hg2 hf2))
        go_roundg (len - (i + 1))
        case rel =>
          refine ⟨i + 1, rfl, HI.out.1, by first | exact next_int (by have := HI.out.1; have := H.out.2.2.2.1; omega) | rfl | (congr 1), Lib.hid ?_⟩
          have e := filt_next (n := n) HI.out.2
          rw [if_neg HE.out, ← HF.out.1] at e
          refine ⟨?_, fun g hg => ?_, ?_⟩
          · rw [e, mrow_append, List.length_append]
            exact HY.out.1
          · rcases HY.out.2.2 g hg with e2 | e2
            · exact HA.out.fresh g (by rw [← HF.out.1]; exact e2)
            · simp at e2; have := HA.out.only.size; omega
          · refine (HA.out.only.alloc (.cells #[.int .i64 p.n, .bool p.known, .string p.text] 99)).trans2 ((Only.refl (fun k => (Value.slice au fl.length cu).ownBlock = some k) _).grown HY.out.2.1 fun k hk => hk) fun k hk e2 => ?_
            have := HA.out.fresh k (by rw [← HF.out.1]; exact e2)
            omega
        case measure => have := HI.out.1; omega
    · have hil : i = len := by omega
      subst hil
      have i1 : ¬ (i : Int) < (i : Int) := by omega
      have hq := hm.cells.thaw 1
      have ht : m.now.take i = m.now := by rw [H.out.2.2.1, List.take_length]
      have hrow := HA.out.row
      have hfr := HA.out.fresh
      rw [ht] at hrow
      obtain ⟨au, cu, hue, _, _⟩ := hrow.shape
      subst hue
      have hP := H.out.1.putN (HA.out.only.mono fun _ _ e => e.elim) hrow fun g hg => .inr (hfr g hg)
      have HP := Lib.hid hP
      have HT := Lib.hid (mtouch hP.1 n (show m.ch.length ≤ _ from H.out.2.2.2.2))
      clear hP hlt hi hrow hfr ht hm
      go_wp2_with fail
      refine HT.out.mono ?_
      rintro e w6 ⟨rfl, v6, h6, k6⟩
      have H6 := Lib.hid (And.intro h6 (HP.out.2.trans k6))
      clear h6 k6
      go_wp2_with fail
      go_end0
      exact ⟨rfl, v6, H6.out.1, H6.out.2⟩
end
end Go.Proofs.YteoeaojebklfjaaGreatDoor
namespace Go.Proofs.YteoeaojebklfjaaGreatDoor
open Go.RowKit Go.Maps
set_option linter.unusedVariables false
set_option linter.unusedSimpArgs false
set_option maxRecDepth 20000
section
variable {a : Act} {o : Oper} {x y z : Operand}
theorem y_conv27 (w : World) {p r : Int} (hr : IntKind.u64.wrap p = r) (ho : o.op = .convert 3 27 x) (hx : a.eval x = .int .i64 p) : (execOp a.eval o).run Tryz.prog w = .ok (.value (.int .u64 r)) w := by
  subst hr
  unfold execOp
  simp only [ho, hx]
  go_simp
theorem y_conv273 (w : World) {p r : Int} (hr : wrap64 p = r) (ho : o.op = .convert 27 3 x) (hx : a.eval x = .int .u64 p) : (execOp a.eval o).run Tryz.prog w = .ok (.value (.int .i64 r)) w := by
  subst hr
  unfold execOp
  simp only [ho, hx]
  go_simp
  exact IntWalk.i64_left p
theorem y_rem27 (w : World) {p q r : Int} (hq : (q == 0) = false) (hr : p.tmod q = r) (ho : o.op = .binOp .rem 27 x y 27) (hx : a.eval x = .int .u64 p) (hy : a.eval y = .int .u64 q) : (execOp a.eval o).run Tryz.prog w = .ok (.value (.int .u64 r)) w := by
  subst hr
  have hq' : ¬ q = 0 := by simpa using hq
  unfold execOp
  simp only [ho, hx, hy]
  go_simp
theorem y_idx48 (w : World) {g off n cap k : Nat} (hk : k < n) (ho : o.op = .indexAddr 48 x y) (hx : a.eval x = .slice (some ⟨g, off, none⟩) n cap) (hy : a.eval y = .int .i64 (k : Int)) : (execOp a.eval o).run Tryz.prog w = .ok (.value (.pointer (some ⟨g, off + k * 3, none⟩))) w := by
  have i0 : (0 : Int) ≤ (k : Int) := by omega
  have i1 : (k : Int) < (n : Int) := by omega
  have hs : (Tryz.prog.info? 99).map (·.size) = some 3 := by kernel_rfl
  unfold execOp
  simp only [ho, hx, hy]
  go_simp
end
theorem u64_count (n : Nat) (h : n ≤ 1000000) : IntKind.u64.wrap (n : Int) = (n : Int) := by
  unfold IntKind.wrap
  simp only [IntKind.signed, Bool.false_and, if_false]
  show (n : Int) % 18446744073709551616 = n
  omega
theorem mod_small (x : Int) (n : Nat) (h0 : 0 < n) (h : n ≤ 1000000) : ∃ k : Nat, k < n ∧ (IntKind.u64.wrap x).tmod (n : Int) = (k : Int) ∧ wrap64 (k : Int) = (k : Int) := by
  have e : (IntKind.u64.wrap x).tmod (n : Int) = (IntKind.u64.wrap x) % (n : Int) := Int.tmod_eq_emod_of_nonneg (u64_nonneg x)
  have h1 := Int.emod_nonneg (IntKind.u64.wrap x) (show (n : Int) ≠ 0 by omega)
  have h2 := Int.emod_lt_of_pos (IntKind.u64.wrap x) (show (0 : Int) < (n : Int) by omega)
  refine ⟨((IntKind.u64.wrap x) % (n : Int)).toNat, by omega, ?_, ?_⟩
  · rw [e, Int.toNat_of_nonneg h1]
  · exact IntWalk.wrap64_in _ (by omega)
structure Stp where
  kind : Int
  at_ : Int
  what : UInt8
  odd : Bool
def Stp.v (s : Stp) : Value := .agg #[.int .i64 s.kind, .int .i64 s.at_, .int .u8 (s.what.toNat : Int), .bool s.odd]
section
variable {w w' : World} {M : Nat} {v : Mv} {m : Mi}
set_option maxHeartbeats 2000000 in
theorem page_any (h : MindAt w M v m) (s : Stp) (hb : m.now.length ≤ 1000000) : Calls Tryz.prog 59 #[.pointer (some ⟨M, 0, none⟩), s.v] w fun e w' => ∃ n, e = .returned (.int .i64 n) ∧ Only None' w w' := by
  obtain ⟨kind, at_, what, odd⟩ := s
  obtain ⟨cv, hcv⟩ : ∃ cv, cv = (what.toNat : Int) := ⟨_, rfl⟩
  unfold Stp.v
  simp only [← hcv]
  obtain ⟨len, hlen⟩ : ∃ len, len = m.now.length := ⟨_, rfl⟩
  obtain ⟨an, cn, hvn, _, _⟩ := h.now.shape
  have hm1 := h.new ((Only.refl None' w).alloc (.cells #[.int .i64 kind, .int .i64 at_, .int .u8 cv, .bool odd] 54))
  have hc1 := hm1.cells.is 1 _ rfl
  rw [hvn, ← hlen] at hc1
  cases odd with
  | true =>
    have H := Lib.hid h
    clear h hm1 hcv hvn hb hlen hc1
    go_enter Tryz.func59, Tryz.ntmps59
    go_wp2_with fail
    go_ret
    exact ⟨_, rfl, (Only.refl None' w).alloc _⟩
  | false =>
    by_cases h0 : len = 0
    · subst h0
      have H := Lib.hid h
      clear h hm1 hcv hvn hb hlen
      go_enter Tryz.func59, Tryz.ntmps59
      go_wp2_with fail
      go_ret
      exact ⟨_, rfl, (Only.refl None' w).alloc _⟩
    · have l0 : ((len : Int) == 0) = false := by simp; omega
      obtain ⟨k, hk, hkw, hki⟩ := mod_small at_ len (by omega) (by omega)
      obtain ⟨p, hp⟩ : ∃ p, m.now[k]? = some p := ⟨_, List.getElem?_eq_getElem (by omega)⟩
      obtain ⟨g, off, cap, e, _⟩ := h.page hp
      rw [hvn] at e
      injection e with e e2 e3
      subst e; subst e3
      clear e2
      obtain ⟨w1, hw1⟩ : ∃ w1, w1 = w.alloc (.cells #[.int .i64 kind, .int .i64 at_, .int .u8 cv, .bool false] 54) := ⟨_, rfl⟩
      have HW1 := Lib.hid hw1
      have HM : Hid (∀ w', Only None' w1 w' → w'.cell? ⟨M, 1, none⟩ = some (.slice (some ⟨g, off, none⟩) len cn)) := Lib.hid fun w' o => by
        have := (hm1.new (hw1 ▸ o)).cells.is 1 _ rfl
        rw [hvn, ← hlen] at this
        exact this
      have HN : Hid (∀ w', Only None' w1 w' → w'.cell? ⟨g, off + k * 3, none⟩ = some (.int .i64 p.n)) := Lib.hid fun w' o => by
        have := (hm1.new (hw1 ▸ o)).now
        rw [hvn] at this
        exact (mindex this hp).1
      obtain ⟨B, hB⟩ : ∃ B, B = w.heap.size := ⟨_, rfl⟩
      have HA : Hid (∀ w', Only None' w1 w' → w'.cell? ⟨B, 1, none⟩ = some (.int .i64 at_)) := Lib.hid fun w' o => by
        rw [o.cell (by rw [hw1, hB]; simp) (fun e => e), hw1, hB, World.cell?_alloc_new]
        rfl
      have HB := Lib.hid hB
      have HK := Lib.hid (And.intro hk (And.intro hkw (And.intro hki (And.intro (u64_count len (by omega)) l0))))
      clear h hm1 hcv hvn hb hlen hk hkw hki hp hB
      go_enter Tryz.func59, Tryz.ntmps59
      go_upto_region 3 with fail
      rw [← HW1.out, ← HB.out]
      refine r_begin (S := None') (by kernel_rfl) ?_
      have HS := Lib.hid (Only.refl (None') w1)
      refine r_take 0 (.pointer (some ⟨M, 0, none⟩)) rfl (by kernel_rfl) (fun _ _ _ h => h) HS.out (YR.pure (by rfl) fun w hw => y_move w rfl rfl) ?_
      simp only [Act.put, zA, zB, zC]
      refine r_take 1 (.pointer (some ⟨M, 0, none⟩)) rfl (by kernel_rfl) (fun _ _ _ h => h) HS.out (YR.pure (by rfl) fun w hw => y_nil w rfl rfl) ?_
      simp only [Act.put, zA, zB, zC]
      refine r_take 2 (.pointer (some ⟨M, 1, none⟩)) rfl (by kernel_rfl) (fun _ _ _ h => h) HS.out (YR.pure (by rfl) fun w hw => y_f50_1 w rfl rfl) ?_
      simp only [Act.put, zA, zB, zC]
      refine r_take 3 (.slice (some ⟨g, off, none⟩) len cn) rfl (by kernel_rfl) (fun _ _ _ h => h) HS.out (YR.pure (by rfl) fun w hw => y_load48 rfl rfl (HM.out w hw)) ?_
      simp only [Act.put, zA, zB, zC]
      refine r_take 4 (.pointer (some ⟨B, 1, none⟩)) rfl (by kernel_rfl) (fun _ _ _ h => h) HS.out (YR.pure (by rfl) fun w hw => y_f54_1 w rfl rfl) ?_
      simp only [Act.put, zA, zB, zC]
      refine r_take 5 (.int .i64 at_) rfl (by kernel_rfl) (fun _ _ _ h => h) HS.out (YR.pure (by rfl) fun w hw => y_load3 rfl rfl (HA.out w hw)) ?_
      simp only [Act.put, zA, zB, zC]
      refine r_take 6 (.int .u64 (IntKind.u64.wrap at_)) rfl (by kernel_rfl) (fun _ _ _ h => h) HS.out (YR.pure (by rfl) fun w hw => y_conv27 w rfl rfl rfl) ?_
      simp only [Act.put, zA, zB, zC]
      refine r_take 7 (.pointer (some ⟨M, 0, none⟩)) rfl (by kernel_rfl) (fun _ _ _ h => h) HS.out (YR.pure (by rfl) fun w hw => y_move w rfl rfl) ?_
      simp only [Act.put, zA, zB, zC]
      refine r_take 8 (.pointer (some ⟨M, 0, none⟩)) rfl (by kernel_rfl) (fun _ _ _ h => h) HS.out (YR.pure (by rfl) fun w hw => y_nil w rfl rfl) ?_
      simp only [Act.put, zA, zB, zC]
      refine r_take 9 (.pointer (some ⟨M, 1, none⟩)) rfl (by kernel_rfl) (fun _ _ _ h => h) HS.out (YR.pure (by rfl) fun w hw => y_f50_1 w rfl rfl) ?_
      simp only [Act.put, zA, zB, zC]
      refine r_take 10 (.slice (some ⟨g, off, none⟩) len cn) rfl (by kernel_rfl) (fun _ _ _ h => h) HS.out (YR.pure (by rfl) fun w hw => y_load48 rfl rfl (HM.out w hw)) ?_
      simp only [Act.put, zA, zB, zC]
      refine r_take 11 (.int .i64 (len : Int)) rfl (by kernel_rfl) (fun _ _ _ h => h) HS.out (YR.pure (by rfl) fun w hw => y_len48 rfl rfl) ?_
      simp only [Act.put, zA, zB, zC]
      refine r_take 12 (.int .u64 (len : Int)) rfl (by kernel_rfl) (fun _ _ _ h => h) HS.out (YR.pure (by rfl) fun w hw => y_conv27 w HK.out.2.2.2.1 rfl rfl) ?_
      simp only [Act.put, zA, zB, zC]
      refine r_take 13 (.int .u64 (k : Int)) rfl (by kernel_rfl) (fun _ _ _ h => h) HS.out (YR.pure (by rfl) fun w hw => y_rem27 w HK.out.2.2.2.2 HK.out.2.1 rfl rfl rfl) ?_
      simp only [Act.put, zA, zB, zC]
      refine r_take 14 (.int .i64 (k : Int)) rfl (by kernel_rfl) (fun _ _ _ h => h) HS.out (YR.pure (by rfl) fun w hw => y_conv273 w HK.out.2.2.1 rfl rfl) ?_
      simp only [Act.put, zA, zB, zC]
      refine r_take 15 (.pointer (some ⟨g, off + k * 3, none⟩)) rfl (by kernel_rfl) (fun _ _ _ h => h) HS.out (YR.pure (by rfl) fun w hw => y_idx48 w HK.out.1 rfl rfl rfl) ?_
      simp only [Act.put, zA, zB, zC]
      refine r_take 16 (.pointer (some ⟨g, off + k * 3, none⟩)) rfl (by kernel_rfl) (fun _ _ _ h => h) HS.out (YR.pure (by rfl) fun w hw => y_f99_0 w rfl rfl) ?_
      simp only [Act.put, zA, zB, zC]
      refine r_take 17 (.int .i64 p.n) rfl (by kernel_rfl) (fun _ _ _ h => h) HS.out (YR.pure (by rfl) fun w hw => y_load3 rfl rfl (HN.out w hw)) ?_
      simp only [Act.put, zA, zB, zC]
      refine r_take 18 (.int .i64 p.n) rfl (by kernel_rfl) (fun _ _ _ h => h) HS.out (YR.pure (by rfl) fun w hw => y_assign w rfl rfl) ?_
      simp only [Act.put, zA, zB, zC]
      refine r_done (by kernel_rfl) fun wz oz => ?_
      have HO := Lib.hid (HS.out.trans oz)
      have HB2 := Lib.hid ((Only.refl None' w).alloc (.cells #[.int .i64 kind, .int .i64 at_, .int .u8 cv, .bool false] 54))
      clear HS oz
      go_wp2_with fail
      go_ret
      exact ⟨_, rfl, (HW1.out ▸ HB2.out).trans HO.out⟩
end
end Go.Proofs.YteoeaojebklfjaaGreatDoor
namespace Go.Proofs.YteoeaojebklfjaaGreatDoor
open Go.RowKit Go.Maps
set_option linter.unusedVariables false
set_option linter.unusedSimpArgs false
set_option maxRecDepth 20000
structure Fr where
  w : World
  z : Nat → Prop
structure Bo (w0 : Fr) (w : World) (L : Lo) (R : Nat) (F : Nat → Prop) (s : Sy) (M : Nat) (v : Mv) (m : Mi) : Prop where
  sy : SyAt w L R F s
  mi : MindAt w M v m
  ap : ∀ k, mS M v k → ¬ allS L R F k
  ns : ∀ k, allS L R F k → w0.w.heap.size ≤ k ∨ w0.z k
  nm : ∀ k, mS M v k → w0.w.heap.size ≤ k ∨ w0.z k
  only : Only w0.z w0.w w
section
variable {w0 : Fr} {w w' : World} {L L' : Lo} {R R' : Nat} {F F' : Nat → Prop} {s s' : Sy} {M : Nat} {v v' : Mv} {m m' : Mi}
theorem Bo.new (h : Bo w0 w L R F s M v m) (o : Only None' w w') : Bo w0 w' L R F s M v m :=
  ⟨h.sy.new o, h.mi.new o, h.ap, h.ns, h.nm, h.only.quiet o⟩
theorem Bo.sys (h : Bo w0 w L R F s M v m) (hs : SyAt w' L' R' F' s') (t : To w w' L R F L' R' F') : Bo w0 w' L' R' F' s' M v m := by
  have hs0 := h.only.size
  refine ⟨hs, h.mi.only t.only fun k hk => h.ap k hk, fun k hk => t.stay (h.mi.lt hk) (h.ap k hk), fun k hk => ?_, h.nm, h.only.trans2 t.only fun k hk e => (h.ns k e).elim (fun h2 => absurd hk (by omega)) id⟩
  rcases t.kept.fresh k hk with e | e
  · exact h.ns k e
  · exact .inl (by omega)
theorem Bo.mind (h : Bo w0 w L R F s M v m) (hm : MindAt w' M v' m') (k : Kept (mS M v) (mS M v') w w') : Bo w0 w' L R F s M v' m' := by
  have hs0 := h.only.size
  refine ⟨h.sy.only k.only fun i hi e => h.ap i e hi, hm, fun i hi e => ?_, h.ns, fun i hi => ?_, h.only.trans2 k.only fun i hi e => (h.nm i e).elim (fun h2 => absurd hi (by omega)) id⟩
  · rcases k.fresh i hi with e2 | e2
    · exact h.ap i e2 e
    · have := h.sy.lt e; omega
  · rcases k.fresh i hi with e2 | e2
    · exact h.nm i e2
    · exact .inl (by omega)
theorem Bo.opened (h : Bo w0 w L R F s M v m) (hs : SyAt w' L' R' F' s') (hL : ∀ k, L'.own k → w.heap.size ≤ k) (hR : w.heap.size ≤ R') (hK : Kept F F' w w') : Bo w0 w' L' R' F' s' M v m := by
  have hs0 := h.only.size
  refine ⟨hs, h.mi.only hK.only fun k hk e => h.ap k hk (.inr (.inr e)), fun k hk e => ?_, fun k hk => ?_, h.nm, h.only.trans2 hK.only fun k hk e => (h.ns k (.inr (.inr e))).elim (fun h2 => absurd hk (by omega)) id⟩
  · have := h.mi.lt hk
    rcases e with e | rfl | e
    · have := hL k e; omega
    · omega
    · rcases hK.fresh k e with e2 | e2
      · exact h.ap k hk (.inr (.inr e2))
      · omega
  · rcases hk with e | rfl | e
    · exact .inl (by have := hL k e; omega)
    · exact .inl (by omega)
    · rcases hK.fresh k e with e2 | e2
      · exact h.ns k (.inr (.inr e2))
      · exact .inl (by omega)
end
def DoOut (w0 : Fr) (D M : Nat) (s : Sy) (m : Mi) (ok dead : Bool) (e : Ending) (w' : World) : Prop :=
  ∃ L R F v, e = .returned (.tuple #[.pointer (some ⟨L.P, 0, none⟩), .bool ok, .bool dead]) ∧ Bo w0 w' L R F s M v m ∧ L.D = D
structure Lim (s : Sy) (m : Mi) : Prop where
  now : m.now.length ≤ 1000000
  kept : m.kept.length ≤ 1000000
  ch : m.ch.length ≤ 1000000
  pg : 0 ≤ m.pages ∧ m.pages ≤ 1000000
structure Li (s : Sy) (len n : Nat) (G K : List Nat) : Prop where
  lv : Lv len s.p s.d G K
  dead : s.d.dead = false
  few : s.d.Few n
section
variable {w0 : Fr} {w w' : World} {L L' : Lo} {R R' : Nat} {F F' : Nat → Prop} {s s' : Sy} {len n : Nat} {G K : List Nat}
theorem sy_alloc (h : SyAt w L R F s) (l : Li s len n G K) (hn : n ≤ 1000000) (hf : s.p.free ≠ 0) : ∃ (k : Nat) (p' : Pg) (G' : List Nat), Took len s.p p' s.d G' K k ∧ Calls Tryz.prog 11 #[.pointer (some ⟨L.P, 0, none⟩)] w fun e w' => e = .returned (.tuple #[.int .i64 (k : Int), .int .i64 0]) ∧ SyAt w' L R F ⟨p', s.r, s.d⟩ ∧ To w w' L R F L R F := by
  obtain ⟨k, G', h1, ht, hc⟩ := l.lv.alloc hf
  refine ⟨k, (s.p.alloc s.d).2, G', ht, ?_⟩
  rcases hc with ⟨a1, a2, a3⟩ | ⟨a1, a2, a3, a4⟩
  · refine (alloc_fresh h.pg l.lv.ok hf a1).mono ?_
    rintro e w' ⟨h2, h3, h4⟩
    rw [← a3] at h3
    rw [← a2] at h2
    exact ⟨h2, own_to h h3 h4⟩
  · refine (alloc_again h.pg l.lv.ok h.disk l.dead (by have := l.few.waits; omega) hf a1 a3).mono ?_
    rintro e w' ⟨h2, h3, h4⟩
    rw [← a4] at h3
    rw [← a2] at h2
    exact ⟨h2, own_to h h3 h4⟩
theorem sy_write (h : SyAt w L R F s) (l : Li s len n G K) {k : Nat} (hu : s.p.uses (k : Int) = true) {g off cap : Nat} {x : Sec} (hv : Vec w 1 (.slice (some ⟨g, off, none⟩) 512 cap) 512 (bv x)) (hx : x.length = 512) (hg : ¬ L.own g) : Calls Tryz.prog 14 #[.pointer (some ⟨L.P, 0, none⟩), .int .i64 (k : Int), .slice (some ⟨g, off, none⟩) 512 cap] w fun e w' => e = .returned (.int .i64 0) ∧ SyAt w' L R F ⟨s.p.touched k x, s.r, s.d⟩ ∧ To w w' L R F L R F :=
  (pwrite_ok h.pg l.lv.ok hu hv hx hg).mono fun e w' ⟨h1, h2, h3⟩ => ⟨h1, own_to h h2 (h3.mono fun k _ e => e.elim (fun e => .inr (.inr (.inl e))) fun e => .inr (.inr (.inr (.inr e))))⟩
theorem sy_drop (h : SyAt w L R F s) (l : Li s len n G K) {k : Nat} (hu : s.p.uses (k : Int) = true) : Calls Tryz.prog 22 #[.pointer (some ⟨L.P, 0, none⟩), .int .i64 (k : Int)] w fun e w' => e = .returned (.int .i64 0) ∧ SyAt w' L R F ⟨s.p.dropped k, s.r, s.d⟩ ∧ To w w' L R F L R F :=
  (drop_ok h.pg l.lv.ok hu).mono fun e w' ⟨h1, h2, h3⟩ => ⟨h1, own_to h h2 h3⟩
theorem sy_setRoot (h : SyAt w L R F s) (l : Li s len n G K) (k : Int) : Calls Tryz.prog 12 #[.pointer (some ⟨L.P, 0, none⟩), .int .i64 k] w fun e w' => e = .returned (.int .i64 (s.p.setRoot k).1) ∧ SyAt w' L R F ⟨(s.p.setRoot k).2, s.r, s.d⟩ ∧ To w w' L R F L R F :=
  (setRoot_any h.pg l.lv.ok k).mono fun e w' ⟨h1, h2, h3⟩ => ⟨h1, own_to h h2 (h3.mono fun k _ e => .inl e)⟩
end
def Same (s : Sy) (m : Mi) : Prop := ∀ n : Int, (s.p.uses n = true ∧ 0 ≤ findP m.now n) ∨ (s.p.uses n = false ∧ findP m.now n = -1)
section
variable {w0 : Fr} {w w' : World} {L L' : Lo} {R R' : Nat} {F F' : Nat → Prop} {s s' : Sy} {M : Nat} {v v' : Mv} {m m' : Mi} {len n : Nat} {G K : List Nat}
set_option maxHeartbeats 2000000 in
theorem do0_full (h : Bo w0 w L R F s M v m) (l : Li s len n G K) (hn : n ≤ 1000000) (lm : Lim s m) (st : Stp) (hk : st.kind = 0) (hf : s.p.free = 0) (hm : m.free = 0) : Calls Tryz.prog 24 #[.pointer (some ⟨L.D, 0, none⟩), .pointer (some ⟨L.P, 0, none⟩), .pointer (some ⟨M, 0, none⟩), st.v] w (DoOut w0 L.D M s m true false) := by
  obtain ⟨kind, at_, what, odd⟩ := st
  simp only at hk
  subst hk
  have HP := Lib.hid fun w' (o : Only None' w w') => page_any (h.new o).mi ⟨0, at_, what, odd⟩ lm.now
  unfold Stp.v at HP ⊢
  obtain ⟨cv, hcv⟩ : ∃ cv, cv = (what.toNat : Int) := ⟨_, rfl⟩
  simp only [← hcv] at HP ⊢
  have H := Lib.hid (And.intro h (And.intro l (And.intro lm (And.intro hn (And.intro hf hm)))))
  clear h l lm hn hf hm hcv
  go_enter Tryz.func24, Tryz.ntmps24
  go_wp2_with fail
  refine (HP.out _ ((Only.refl None' w).alloc _)).mono ?_
  rintro e w2 ⟨nn, rfl, o2⟩
  have H2 := Lib.hid (And.intro (H.out.1.new (((Only.refl None' w).alloc _).trans o2)) o2)
  have HKC : Hid (w2.cell? ⟨w.heap.size, 0, none⟩ = some (.int .i64 0)) := Lib.hid (by rw [o2.cell (by simp) fun e => e, World.cell?_alloc_new]; rfl)
  clear o2
  go_wp2_with fail
  refine (mfind H2.out.1.mi nn H.out.2.2.1.now).mono ?_
  rintro e w3 ⟨rfl, rfl⟩
  have hkc := HKC.out
  go_wp2_with fail
  refine (alloc_full H2.out.1.sy.pg H.out.2.1.lv.ok H.out.2.2.2.2.1).mono ?_
  rintro e w4 ⟨rfl, o4⟩
  have H4 := Lib.hid (H2.out.1.new o4)
  clear o4 hkc
  go_wp2_with fail
  refine (mfree H4.out.mi H.out.2.2.1.now H.out.2.2.1.pg).mono ?_
  rw [H.out.2.2.2.2.2]
  rintro e w5 ⟨rfl, o5⟩
  have H5 := Lib.hid (H4.out.new o5)
  clear o5
  go_wp2_with fail
  go_ret3
  exact ⟨_, _, _, _, rfl, H5.out, rfl⟩
end
end Go.Proofs.YteoeaojebklfjaaGreatDoor
namespace Go.Proofs.YteoeaojebklfjaaGreatDoor
open Go.RowKit Go.Maps
set_option linter.unusedVariables false
set_option linter.unusedSimpArgs false
set_option maxRecDepth 20000
section
variable {w0 : Fr} {w w' : World} {L L' : Lo} {R R' : Nat} {F F' : Nat → Prop} {s s' : Sy} {M : Nat} {v v' : Mv} {m m' : Mi} {len n : Nat} {G K : List Nat}
set_option maxHeartbeats 2000000 in
theorem do0_take (h : Bo w0 w L R F s M v m) (l : Li s len n G K) (hn : n ≤ 400000) (lm : Lim s m) (hsm : Same s m) (st : Stp) (hk : st.kind = 0)(hf : s.p.free ≠ 0) (hm : m.free ≠ 0) (hpg : m.pages = (s.p.pages : Int)) : Calls Tryz.prog 24 #[.pointer (some ⟨L.D, 0, none⟩), .pointer (some ⟨L.P, 0, none⟩), .pointer (some ⟨M, 0, none⟩), st.v] w fun e w' => ∃ (k : Nat) (p' : Pg) (G' : List Nat), Took len s.p p' s.d G' K k ∧ DoOut w0 L.D M ⟨p', s.r, s.d⟩ (m.take (k : Int)) true false e w' := by
  obtain ⟨kind, at_, what, odd⟩ := st
  simp only at hk ⊢
  subst hk
  have HP := Lib.hid fun w' (o : Only None' w w') => page_any (h.new o).mi ⟨0, at_, what, odd⟩ lm.now
  unfold Stp.v at HP ⊢
  obtain ⟨cv, hcv⟩ : ∃ cv, cv = (what.toNat : Int) := ⟨_, rfl⟩
  simp only [← hcv] at HP ⊢
  have HCV := Lib.hid hcv
  have H := Lib.hid (And.intro h (And.intro l (And.intro lm (And.intro hn hsm))))
  clear h l lm hn hsm hcv
  have hmf : (m.free == 0) = false := by simpa using hm
  have HF := Lib.hid (And.intro hf hpg)
  clear hf hpg hm
  go_enter Tryz.func24, Tryz.ntmps24
  go_wp2_with fail
  refine (HP.out _ ((Only.refl None' w).alloc _)).mono ?_
  rintro e w2 ⟨nn, rfl, o2⟩
  have H2 := Lib.hid (H.out.1.new (((Only.refl None' w).alloc _).trans o2))
  have HKC : Hid (w2.cell? ⟨w.heap.size, 0, none⟩ = some (.int .i64 0)) := Lib.hid (by rw [o2.cell (by simp) fun e => e, World.cell?_alloc_new]; rfl)
  clear o2
  go_wp2_with fail
  refine (mfind H2.out.mi nn H.out.2.2.1.now).mono ?_
  rintro e w3 ⟨rfl, rfl⟩
  have hkc := HKC.out
  obtain ⟨k, p', G', ht, hc⟩ := sy_alloc H2.out.sy H.out.2.1 (by have := H.out.2.2.2.1; omega) HF.out.1
  have HT := Lib.hid (And.intro ht hc)
  clear ht hc
  go_wp2_with fail
  refine HT.out.2.mono ?_
  rintro e w4 ⟨rfl, h4, t4⟩
  have H4 := Lib.hid (And.intro (H2.out.sys h4 t4) (And.intro t4.P t4.D))
  have hff : findP m.now (k : Int) = -1 := by
    rcases H.out.2.2.2.2 (k : Int) with ⟨e, _⟩ | ⟨_, e⟩
    · rw [HT.out.1.was] at e; cases e
    · exact e
  have HFF := Lib.hid hff
  clear h4 t4 hkc hff
  go_wp2_with fail
  refine (mfree H4.out.1.mi H.out.2.2.1.now H.out.2.2.1.pg).mono ?_
  rintro e w5 ⟨rfl, o5⟩
  have H5 := Lib.hid (H4.out.1.new o5)
  clear o5
  go_wp2_with fail
  refine (mtake H5.out.mi (k : Int) H.out.2.2.1.now H.out.2.2.1.ch HFF.out (by have := HT.out.1.pos; omega) (by have := HT.out.1.lt; have := HF.out.2; omega)).mono ?_
  rintro e w6 ⟨rfl, v6, h6, k6⟩
  have H6 := Lib.hid (H5.out.mind h6 k6)
  clear h6 k6
  go_wp2_with fail
  go_ret3
  exact ⟨k, p', G', HT.out.1, _, _, _, _, rfl, H6.out, rfl⟩
set_option maxHeartbeats 2000000 in
theorem do2 (h : Bo w0 w L R F s M v m) (l : Li s len n G K) (hn : n ≤ 400000) (lm : Lim s m) (hsm : Same s m) (st : Stp) (hk : st.kind = 2) : Calls Tryz.prog 24 #[.pointer (some ⟨L.D, 0, none⟩), .pointer (some ⟨L.P, 0, none⟩), .pointer (some ⟨M, 0, none⟩), st.v] w fun e w' => (∃ (k : Nat), s.p.uses (k : Int) = true ∧ DoOut w0 L.D M ⟨s.p.dropped k, s.r, s.d⟩ (m.drop (k : Int)) true false e w') ∨ DoOut w0 L.D M s m true false e w' := by
  obtain ⟨kind, at_, what, odd⟩ := st
  simp only at hk ⊢
  subst hk
  have HP := Lib.hid fun w' (o : Only None' w w') => page_any (h.new o).mi ⟨2, at_, what, odd⟩ lm.now
  unfold Stp.v at HP ⊢
  obtain ⟨cv, hcv⟩ : ∃ cv, cv = (what.toNat : Int) := ⟨_, rfl⟩
  simp only [← hcv] at HP ⊢
  have HCV := Lib.hid hcv
  have H := Lib.hid (And.intro h (And.intro l (And.intro lm (And.intro hn hsm))))
  clear h l lm hn hsm hcv
  go_enter Tryz.func24, Tryz.ntmps24
  go_wp2_with fail
  refine (HP.out _ ((Only.refl None' w).alloc _)).mono ?_
  rintro e w2 ⟨nn, rfl, o2⟩
  have H2 := Lib.hid (H.out.1.new (((Only.refl None' w).alloc _).trans o2))
  have HKC : Hid (w2.cell? ⟨w.heap.size, 0, none⟩ = some (.int .i64 2)) := Lib.hid (by rw [o2.cell (by simp) fun e => e, World.cell?_alloc_new]; rfl)
  clear o2
  go_wp2_with fail
  refine (mfind H2.out.mi nn H.out.2.2.1.now).mono ?_
  rintro e w3 ⟨rfl, rfl⟩
  have hkc := HKC.out
  rcases H.out.2.2.2.2 nn with ⟨hu, hp⟩ | ⟨hu, hp⟩
  · obtain ⟨k, e, _⟩ := H.out.2.1.lv.in_use hu
    subst e
    have HU := Lib.hid hu
    obtain ⟨aa, haa⟩ : ∃ aa, aa = findP m.now (k : Int) := ⟨_, rfl⟩
    rw [← haa] at hp ⊢
    clear hu haa
    go_wp2_with fail
    refine (sy_drop H2.out.sy H.out.2.1 HU.out).mono ?_
    rintro e w4 ⟨rfl, h4, t4⟩
    have H4 := Lib.hid (H2.out.sys h4 t4)
    have HD := Lib.hid (And.intro t4.P t4.D)
    clear h4 t4 hkc
    go_wp2_with fail
    refine (mdrop H4.out.mi (k : Int) H.out.2.2.1.now H.out.2.2.1.ch).mono ?_
    rintro e w6 ⟨rfl, v6, h6, k6⟩
    have H6 := Lib.hid (H4.out.mind h6 k6)
    clear h6 k6
    go_wp2_with fail
    go_ret3
    exact .inl ⟨k, HU.out, _, _, _, _, rfl, H6.out, rfl⟩
  · rw [hp]
    have HU := Lib.hid hu
    clear hu hp
    go_wp2_with fail
    refine (drop_no H2.out.sy.pg H.out.2.1.lv.ok HU.out).mono ?_
    rintro e w4 ⟨rfl, rfl⟩
    clear hkc
    go_wp2_with fail
    go_ret3
    exact .inr ⟨_, _, _, _, rfl, H2.out, rfl⟩
set_option maxHeartbeats 2000000 in
theorem do5 (h : Bo w0 w L R F s M v m) (l : Li s len n G K) (hn : n ≤ 400000) (lm : Lim s m) (hsm : Same s m) (st : Stp) (hk : st.kind = 5)(hlen : s.p.first + s.p.pages ≤ s.d.lasts.length) : Calls Tryz.prog 24 #[.pointer (some ⟨L.D, 0, none⟩), .pointer (some ⟨L.P, 0, none⟩), .pointer (some ⟨M, 0, none⟩), st.v] w (DoOut w0 L.D M s.abort m.abort true false) := by
  obtain ⟨kind, at_, what, odd⟩ := st
  simp only at hk ⊢
  subst hk
  have HP := Lib.hid fun w' (o : Only None' w w') => page_any (h.new o).mi ⟨5, at_, what, odd⟩ lm.now
  unfold Stp.v at HP ⊢
  obtain ⟨cv, hcv⟩ : ∃ cv, cv = (what.toNat : Int) := ⟨_, rfl⟩
  simp only [← hcv] at HP ⊢
  have HCV := Lib.hid hcv
  have H := Lib.hid (And.intro h (And.intro l (And.intro lm (And.intro hn hsm))))
  clear h l lm hn hsm hcv
  have HLN := Lib.hid hlen
  clear hlen
  go_enter Tryz.func24, Tryz.ntmps24
  go_wp2_with fail
  refine (HP.out _ ((Only.refl None' w).alloc _)).mono ?_
  rintro e w2 ⟨nn, rfl, o2⟩
  have H2 := Lib.hid (H.out.1.new (((Only.refl None' w).alloc _).trans o2))
  have HKC : Hid (w2.cell? ⟨w.heap.size, 0, none⟩ = some (.int .i64 5)) := Lib.hid (by rw [o2.cell (by simp) fun e => e, World.cell?_alloc_new]; rfl)
  clear o2
  go_wp2_with fail
  refine (mfind H2.out.mi nn H.out.2.2.1.now).mono ?_
  rintro e w3 ⟨rfl, rfl⟩
  have hkc := HKC.out
  go_wp2_with fail
  refine (abort_sy H2.out.sy H.out.2.1.lv.ok H.out.2.1.dead H.out.2.1.few (by have := H.out.2.2.2.1; omega) HLN.out (by have := H.out.2.1.lv.mu; omega)).mono ?_
  rintro e w4 ⟨rfl, L4, R4, F4, h4, t4⟩
  have H4 := Lib.hid (And.intro (H2.out.sys h4 t4) (And.intro t4.P t4.D))
  clear h4 t4 hkc
  go_wp2_with fail
  refine (mabort H4.out.1.mi H.out.2.2.1.kept).mono ?_
  rintro e w6 ⟨rfl, v6, h6, k6⟩
  have H6 := Lib.hid (H4.out.1.mind h6 k6)
  clear h6 k6
  go_wp2_with fail
  go_ret3
  exact ⟨_, _, _, _, by rw [H4.out.2.1]; rfl, H6.out, H4.out.2.2⟩
set_option maxHeartbeats 2000000 in
theorem do3 (h : Bo w0 w L R F s M v m) (l : Li s len n G K) (hn : n ≤ 400000) (lm : Lim s m) (hsm : Same s m) (st : Stp) (hk : st.kind = 3) : Calls Tryz.prog 24 #[.pointer (some ⟨L.D, 0, none⟩), .pointer (some ⟨L.P, 0, none⟩), .pointer (some ⟨M, 0, none⟩), st.v] w fun e w' => (∃ (k : Nat), (k = 0 ∨ s.p.uses (k : Int) = true) ∧ DoOut w0 L.D M ⟨s.p.rooted k, s.r, s.d⟩ { m with root := (k : Int) } true false e w') ∨ DoOut w0 L.D M s m true false e w' := by
  obtain ⟨kind, at_, what, odd⟩ := st
  simp only at hk ⊢
  subst hk
  have HP := Lib.hid fun w' (o : Only None' w w') => page_any (h.new o).mi ⟨3, at_, what, odd⟩ lm.now
  unfold Stp.v at HP ⊢
  obtain ⟨cv, hcv⟩ : ∃ cv, cv = (what.toNat : Int) := ⟨_, rfl⟩
  simp only [← hcv] at HP ⊢
  have HCV := Lib.hid hcv
  have H := Lib.hid (And.intro h (And.intro l (And.intro lm (And.intro hn hsm))))
  clear h l lm hn hsm hcv
  go_enter Tryz.func24, Tryz.ntmps24
  go_wp2_with fail
  refine (HP.out _ ((Only.refl None' w).alloc _)).mono ?_
  rintro e w2 ⟨nn, rfl, o2⟩
  have H2 := Lib.hid (H.out.1.new (((Only.refl None' w).alloc _).trans o2))
  have HKC : Hid (w2.cell? ⟨w.heap.size, 0, none⟩ = some (.int .i64 3)) := Lib.hid (by rw [o2.cell (by simp) fun e => e, World.cell?_alloc_new]; rfl)
  clear o2
  go_wp2_with fail
  refine (mfind H2.out.mi nn H.out.2.2.1.now).mono ?_
  rintro e w3 ⟨rfl, rfl⟩
  have hkc := HKC.out
  have HSR := Lib.hid (sy_setRoot H2.out.sy H.out.2.1 nn)
  by_cases h0 : nn = 0
  · subst h0
    have e : s.p.setRoot 0 = (0, s.p.rooted 0) := by unfold Pg.setRoot; rw [if_neg (by simp)]; rfl
    rw [e] at HSR
    clear e
    clear hkc
    have hkc := HKC.out
    go_wp2_with fail
    refine HSR.out.mono ?_
    rintro e w4 ⟨rfl, h4, t4⟩
    have H4 := Lib.hid (H2.out.sys h4 t4)
    have HD := Lib.hid (And.intro t4.P t4.D)
    have hcr := H4.out.mi.cells.is 3 _ rfl
    have htr := H4.out.mi.cells.thaw 3
    clear h4 t4 hkc HSR
    go_wp2_with fail
    go_ret3
    refine .inl ⟨0, .inl rfl, _, _, _, _, rfl, H4.out.mind (H4.out.mi.setR 0) (one_mS _ _), rfl⟩
  · have h0b : (nn != 0) = true := by simpa using h0
    rcases H.out.2.2.2.2 nn with ⟨hu, hp⟩ | ⟨hu, hp⟩
    · obtain ⟨k, e, _⟩ := H.out.2.1.lv.in_use hu
      subst e
      have e : s.p.setRoot (k : Int) = (0, s.p.rooted k) := by
        unfold Pg.setRoot
        rw [if_neg]
        · rfl
        · rintro ⟨_, h2⟩
          rw [hu] at h2; cases h2
      rw [e] at HSR
      have HU := Lib.hid hu
      obtain ⟨aa, haa⟩ : ∃ aa, aa = findP m.now (k : Int) := ⟨_, rfl⟩
      rw [← haa] at hp ⊢
      clear hu haa e h0
      go_wp2_with fail
      refine HSR.out.mono ?_
      rintro e w4 ⟨rfl, h4, t4⟩
      have H4 := Lib.hid (H2.out.sys h4 t4)
      have HD := Lib.hid (And.intro t4.P t4.D)
      have hcr := H4.out.mi.cells.is 3 _ rfl
      have htr := H4.out.mi.cells.thaw 3
      clear h4 t4 hkc HSR
      go_wp2_with fail
      go_ret3
      exact .inl ⟨k, .inr HU.out, _, _, _, _, rfl, H4.out.mind (H4.out.mi.setR (k : Int)) (one_mS _ _), rfl⟩
    · have e : s.p.setRoot nn = (1, s.p) := by
        unfold Pg.setRoot
        rw [if_pos ⟨h0, hu⟩]
      rw [e] at HSR
      rw [hp]
      clear hu hp e h0
      go_wp2_with fail
      refine HSR.out.mono ?_
      rintro e w4 ⟨rfl, h4, t4⟩
      have H4 := Lib.hid (H2.out.sys h4 t4)
      clear h4 t4 hkc HSR
      go_wp2_with fail
      go_ret3
      exact .inr ⟨_, _, _, _, rfl, H4.out, rfl⟩
end
end Go.Proofs.YteoeaojebklfjaaGreatDoor
