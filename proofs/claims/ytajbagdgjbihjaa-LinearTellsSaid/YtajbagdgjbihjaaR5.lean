/- played (19): the walk. -/
import Derived.Test.YtajbagdgjbihjaaR4
import Derived.Test.YtajbagdgjbihjaaR7
namespace Go.Proofs.Ytajbagdgjbihjaa
open Go.RowKit Go.Maps
set_option linter.unusedVariables false

theorem wrap_nat {k : Nat} (h : k < 1000000) : IntKind.i64.wrap (k : Int) = (k : Int) := by rw [IntKind.wrap_i64]; omega
/-- which come back, of those that were done till a moment -/
def Bk (ps : List Pn) (t j : Nat) (fb : Nat → Int) : Prop := ∀ (k : Nat) (q : Pn), ps[k]? = some q → fb k = if q.told = true ∧ q.done = true ∧ (q.op.code = 0 ∨ ¬ (q.do_ < t ∨ (q.do_ = t ∧ k < j))) then (q.back : Int) else -1
section
variable {ps : List Pn} {t j : Nat} {fb : Nat → Int} {q : Pn}
theorem Bk.no (h : Bk ps t j fb) (hq : ps[j]? = some q) (hd : q.do_ ≠ t ∨ q.done = false ∨ q.op.code = 0) : Bk ps t (j + 1) fb := by
  intro k x hx
  rw [h k x hx]
  by_cases e : k = j
  · subst e
    rw [hq] at hx
    injection hx with hx
    subst hx
    rcases hd with hd | hd | hd
    · simp [hd]
    · simp [hd]
    · simp [hd]
  · have : (k < j + 1) = (k < j) := propext ⟨fun h => by omega, fun h => by omega⟩
    simp only [this]
theorem Bk.bad (h : Bk ps t j fb) (hq : ps[j]? = some q) (hd : q.do_ = t) (hc : q.op.code ≠ 0) : Bk ps t (j + 1) (upd fb j (-1)) := by
  intro k x hx
  unfold upd
  by_cases e : k = j
  · subst e
    rw [hq] at hx
    injection hx with hx
    subst hx
    simp [hd, hc]
  · rw [if_neg e, h k x hx]
    have : (k < j + 1) = (k < j) := propext ⟨fun h => by omega, fun h => by omega⟩
    simp only [this]
theorem Bk.next (h : Bk ps t ps.length fb) : Bk ps (t + 1) 0 fb := by
  intro k x hx
  rw [h k x hx]
  have hk := (List.getElem?_eq_some_iff.1 hx).1
  have : (x.do_ < t ∨ x.do_ = t ∧ k < ps.length) = (x.do_ < t + 1 ∨ x.do_ = t + 1 ∧ k < 0) := propext ⟨fun h => by omega, fun h => by omega⟩
  simp only [this]
theorem Bk.here (h : Bk ps t ps.length fb) (hq : ps[j]? = some q) (F : Follow ps) (he : fb j = (t : Int)) : q.back = t ∧ q.told = true ∧ q.done = true ∧ q.op.code = 0 := by
  have h1 := h j q hq
  have hj := (List.getElem?_eq_some_iff.1 hq).1
  have hF := F.own j q hq
  rw [he] at h1
  split at h1
  · next hc =>
    obtain ⟨h2, h3, h4⟩ := hc
    have hb : q.back = t := by omega
    refine ⟨hb, h2, h3, ?_⟩
    rcases h4 with h4 | h4
    · exact h4
    · exact absurd (by omega) h4
  · omega
theorem Bk.away (h : Bk ps t ps.length fb) (hq : ps[j]? = some q) (he : fb j ≠ (t : Int)) : q.back ≠ t ∨ q.told = false ∨ q.done = false ∨ q.op.code ≠ 0 := by
  by_cases h2 : q.told = true
  · by_cases h3 : q.done = true
    · by_cases h4 : q.op.code = 0
      · refine .inl fun e => he ?_
        rw [h j q hq, if_pos ⟨h2, h3, .inl h4⟩, e]
      · exact .inr (.inr (.inr h4))
    · exact .inr (.inr (.inl (by simpa using h3)))
  · exact .inr (.inl (by simpa using h2))
end
theorem findP_do' (ps : List Pr) (o : Op5) (κ : ByteArray) : findP κ (doP ps o) = if o.key = κ then (o.does (findP κ ps)).1 else findP κ ps := by
  rw [findP_do]
  by_cases e : o.key = κ
  · rw [if_pos e, if_pos e, e]
  · rw [if_neg e, if_neg e]
theorem next_w {k : Nat} (h : k ≤ 1000000) : wrap64 ((k : Int) + 1) = ((k + 1 : Nat) : Int) := by rw [IntWalk.wrap64_in _ (by omega)]; rfl
theorem pn_of {l : List Pl} {j : Nat} {p : Pl} (hp : l[j]? = some p) : ∃ q, (pns l)[j]? = some q ∧ q.cl = ((um p.client 3 : Nat) : Int) ∧ q.op = p.op ∧ q.done = p.done ∧ q.told = p.told := ⟨_, pns_at hp, rfl, rfl, rfl, rfl⟩
theorem idxOf_le (q : Pr → Bool) : ∀ l : List Pr, idxOf q l ≤ (l.length : Int)
  | [] => by show (-1 : Int) ≤ 0; decide
  | p :: l => by
    have := idxOf_le q l
    unfold idxOf
    rw [List.length_cons]
    split
    · omega
    · split <;> omega
theorem spot_le (key : ByteArray) (ps : List Pr) : spotP key ps ≤ ps.length := by
  unfold spotP
  have h := idxOf_le (gtP key) ps
  split <;> omega
theorem callEv_eq {q : Pn} {j : Nat} {c : Int} {o : Op5} (h1 : q.cl = c) (h2 : q.op = o) : q.callEv j = callE c ((j + 1 : Nat) : Int) o := by subst h1 h2; rfl
def backR (c : Int) (j : Nat) (r : Rs) : Ev := ⟨c, ((j + 1 : Nat) : Int), 0, true, 0, ⟨#[]⟩, ⟨#[]⟩, ⟨#[]⟩, false, r.kind, r.found, r.val⟩
theorem backEv_eq {q : Pn} {j : Nat} {c : Int} {r : Rs} (h1 : q.cl = c) : q.backEv j r = backR c j r := by subst h1; rfl
theorem built31b (c : Int) (j : Nat) (r : Rs) : Try.prog.built 31 [(0, .int .i64 c), (1, .int .i64 ((j + 1 : Nat) : Int)), (3, .bool true), (5, r.v)] = some (backR c j r).row.toArray := by kernel_rfl
theorem Vec.numAt {w : World} {g n i : Nat} {f : Nat → Int} (h : Vec w 1 (.slice (some ⟨g, 0, none⟩) n n) n (rowF n f)) (hi : i < n) : w.cell? ⟨g, i, none⟩ = some (.int .i64 (f i)) ∧ w.frozen? ⟨g, i, none⟩ = false := by
  have := h.num hi
  rwa [Nat.zero_add] at this
section
variable {w wr : World} {v0 hv mv : Value} {l : List Pl} {n g6 g7 g8 gr : Nat} {fc fd fb : Nat → Int} {h : List Ev} {m : List Pr} {rs : Nat → Rs}
theorem LP.never' (L : LP w wr v0 l n g6 g7 g8 gr fc fd fb hv mv h m rs) {i : Nat} (hi : i < n) (x : Int) : LP w (wr.setCell ⟨g8, i, none⟩ (.int .i64 x)) v0 l n g6 g7 g8 gr fc fd (upd fb i x) hv mv h m rs := by
  have := L.never hi x
  rwa [Nat.zero_add] at this
theorem LP.note' (L : LP w wr v0 l n g6 g7 g8 gr fc fd fb hv mv h m rs) {i : Nat} (hi : i < n) (a : Int) (b : Bool) (c : ByteArray) : LP w (((wr.setCell ⟨gr, i * 3, none⟩ (.int .u8 a)).setCell ⟨gr, i * 3 + 1, none⟩ (.bool b)).setCell ⟨gr, i * 3 + 2, none⟩ (.string c)) v0 l n g6 g7 g8 gr fc fd fb hv mv h m (fun k => if k = i then ⟨a, b, c⟩ else rs k) := by
  have := L.note hi ⟨a, b, c⟩
  rw [Nat.zero_add] at this
  exact this
/-- a result that was noted -/
theorem LP.res (L : LP w wr v0 l n g6 g7 g8 gr fc fd fb hv mv h m rs) {i : Nat} (hi : i < n) : gr < wr.heap.size ∧ (∀ k u, (rs i).row[k]? = some u → wr.cell? ⟨gr, 0 + i * 3 + k, none⟩ = some u) ∧ ∀ k, k < 3 → wr.frozen? ⟨gr, 0 + i * 3 + k, none⟩ = false := by
  obtain ⟨g', off, c, e, hc, _, hg, h4, h5⟩ := L.rr.at_ (by omega)
  cases e
  refine ⟨hg, fun k u hu => ?_, fun k hk => ?_⟩
  · rw [Nat.add_assoc]
    refine h4 _ u ?_
    refine flat_at Rs.row 3 ((List.range n).map rs) i (fun _ _ => rfl) (by simpa using hi) k u ?_
    simpa using hu
  · rw [Nat.add_assoc]
    exact (h5 _ (by omega)).2
theorem LP.cells (L : LP w wr v0 l n g6 g7 g8 gr fc fd fb hv mv h m rs) {i : Nat} {p : Pl} (hp : l[i]? = some p) : ∃ G0 O0 C0, v0 = .slice (some ⟨G0, O0, none⟩) l.length C0 ∧ G0 < w.heap.size ∧ G0 < wr.heap.size ∧ ∀ k u, p.row[k]? = some u → wr.cell? ⟨G0, O0 + i * 11 + k, none⟩ = some u := by
  obtain ⟨G0, O0, c0, e, hG0, hcell⟩ := L.plan.at_ hp
  refine ⟨G0, O0, c0, e, L.new.1 G0 ?_, hG0, hcell⟩
  rw [e]
  rfl
end
set_option maxRecDepth 20000 in
set_option maxHeartbeats 8000000 in
theorem played_any {w : World} {v0 : Value} {l : List Pl} (h : PLR w v0 l) (hl : l.length ≤ 14) : Calls Try.prog 19 #[v0] w fun e w' => ∃ hv hs m rs t, e = .returned hv ∧ Vec w' 12 hv hs.length (hs.flatMap Ev.row) ∧ (∀ g, hv.ownBlock = some g → w.heap.size ≤ g) ∧ Only None' w w' ∧ PA (pns l) t 0 0 0 hs m rs := by
  obtain ⟨pa, C0, rfl⟩ := h.shape
  have H0 := Lib.hid h
  obtain ⟨n, hn⟩ : ∃ n, n = l.length := ⟨_, rfl⟩
  rw [← hn] at H0 ⊢
  have HL := Lib.hid (And.intro hn (show n ≤ 14 by omega))
  obtain ⟨w1, hm1, v1, o1, s1⟩ := make54 3 w (by decide)
  obtain ⟨w2, hm2, v2, o2, s2⟩ := make54 n w1 (by omega)
  obtain ⟨w3, hm3, v3, o3, s3⟩ := make54 n w2 (by omega)
  obtain ⟨w4, hm4, v4, o4, s4⟩ := make54 n w3 (by omega)
  have hm1' : (Instr.makeSlice 54 (.int .i64 3) (.int .i64 3)).run Try.prog w = .ok (.slice (some ⟨w.heap.size, 0, none⟩) 3 3) w1 := hm1
  obtain ⟨g5, e5⟩ : ∃ g, g = w.heap.size := ⟨_, rfl⟩
  obtain ⟨g6, e6⟩ : ∃ g, g = w1.heap.size := ⟨_, rfl⟩
  obtain ⟨g7, e7⟩ : ∃ g, g = w2.heap.size := ⟨_, rfl⟩
  obtain ⟨g8, e8⟩ : ∃ g, g = w3.heap.size := ⟨_, rfl⟩
  have LC0 : Hid (LC w w4 (.slice pa n C0) l n g5 g6 g7 g8 (fun _ => 0) (fun _ => 0) (fun _ => 0) (fun _ => 0) ∧ MT l 0 (fun _ => 0) (fun _ => 0) (fun _ => 0) (fun _ => 0)) := Lib.hid ⟨⟨((o1.trans o2).trans o3).trans o4, H0.out.only (((o1.trans o2).trans o3).trans o4) fun _ _ e => e,
    by rw [e5]; exact ((v1.only o2 fun _ _ e => e).only o3 fun _ _ e => e).only o4 fun _ _ e => e,
    by rw [e6]; exact (v2.only o3 fun _ _ e => e).only o4 fun _ _ e => e,
    by rw [e7]; exact v3.only o4 fun _ _ e => e,
    by rw [e8]; exact v4,
    ⟨fun g hg => H0.out.own_lt hg, by omega, by omega, by omega, by omega⟩⟩, MT.zero l⟩
  rw [← e5] at hm1'
  rw [← e6] at hm2
  rw [← e7] at hm3
  rw [← e8] at hm4
  clear h hl hn hm1 v1 v2 v3 v4 o1 o2 o3 o4 s1 s2 s3 s4 e5 e6 e7 e8
  go_enter Try.func19, Try.ntmps19
  go_wp2_with fail
  go_loopw [9] (fun u9 wr => ∃ (i : Nat) (fa fc fd fb : Nat → Int), i ≤ n ∧ u9 = .int .i64 (i : Int) ∧ Hid (LC w wr (.slice pa n C0) l n g5 g6 g7 g8 fa fc fd fb ∧ MT l i fa fc fd fb)) (fun u9 wr => n - (intOf u9).toNat)
  case atStart => exact ⟨0, _, _, _, _, by omega, rfl, LC0⟩
  case round =>
    clear LC0 hm1' hm2 hm3 hm4
    obtain ⟨i, fa, fc, fd, fb, hi, rfl, HC⟩ := hrel
    by_cases hlt : i < n
    · have hil : i < l.length := by have := HL.out.1; omega
      obtain ⟨p, hp⟩ : ∃ p, l[i]? = some p := ⟨_, List.getElem?_eq_getElem hil⟩
      obtain ⟨G0, O0, c0, e, hG0, hcell⟩ := HC.out.1.plan.at_ hp
      injection e with e e2 e3
      subst e
      subst e3
      have HPL := Lib.hid hp
      have HLT := Lib.hid hlt
      have i0 : (0 : Int) ≤ (i : Int) := by omega
      have i1 : (i : Int) < (n : Int) := by omega
      obtain ⟨A, hA⟩ : ∃ A, A = atOf (l.take i) p.who := ⟨_, rfl⟩
      obtain ⟨q, hq⟩ : ∃ q, q = p.pn (atOf (l.take i) p.who) := ⟨_, rfl⟩
      have HQ := Lib.hid hq
      have hAl : A ≤ 182 := by
        have h1 := atOf_le l p.who i
        have h2 := HL.out.2
        omega
      have u1 := um_lt p.call (k := 5) (by decide)
      have u2 := um_lt p.do_ (k := 5) (by decide)
      have u3 := um_lt p.back (k := 5) (by decide)
      have u4 : p.who < 3 := um_lt p.client (k := 3) (by decide)
      have hqc : q.call = A + um p.call 5 := by rw [hq, hA]; rfl
      have hqd : q.do_ = q.call + um p.do_ 5 := by rw [hq]; rfl
      have hqb : q.back = q.do_ + um p.back 5 := by rw [hq]; rfl
      have HB : Hid (q.call < 1000 ∧ q.do_ < 1000 ∧ q.back < 1000 ∧ p.who < 3) := Lib.hid ⟨by omega, by omega, by omega, u4⟩
      have hfa : fa p.who = (A : Int) := by rw [hA]; exact HC.out.2.at_ _ u4
      have HFA := Lib.hid hfa
      have Q1 : Hid ((A : Int) + ((um p.call 5 : Nat) : Int) = (q.call : Int)) := Lib.hid (by rw [hqc]; omega)
      have Q2 : Hid ((q.call : Int) + ((um p.do_ 5 : Nat) : Int) = (q.do_ : Int)) := Lib.hid (by rw [hqd]; omega)
      have Q3 : Hid ((q.do_ : Int) + ((um p.back 5 : Nat) : Int) = (q.back : Int)) := Lib.hid (by rw [hqb]; omega)
      have HP0 : Hid (∀ w', Only None' wr w' → ∀ k u, p.row[k]? = some u → w'.cell? ⟨G0, O0 + i * 11 + k, none⟩ = some u) := Lib.hid fun w' o k u hu => (o.cell hG0 (fun e => e) _).trans (hcell k u hu)
      have HGN : Hid (∀ g, g = g5 ∨ g = g6 ∨ g = g7 ∨ g = g8 → g ≠ G0) := Lib.hid fun g hg e => by
        have h0 := HC.out.1.new
        have h1 := h0.1 G0 rfl
        omega
      clear hp hlt hi hil hcell hA hq hAl u1 u2 u3 u4 hqc hqd hqb hfa hG0
      go_upto_region 10 with fail
      go_cut [10] from 35 to 42 (fun u10 wx => u10 = .int .i64 ((um p.client 3 : Nat) : Int) ∧ Hid (Only None' wr wx))
      case first =>
        have HP := HP0.out
        refine p_begin ?_
        have HS : Hid (Only None' wr wr) := Lib.hid (Only.refl _ _)
        have HN : Hid (Only None' wr wr) := Lib.hid (Only.refl _ _)
        refine p_take 0 (.slice (some ⟨G0, O0, none⟩) n C0) rfl (YR.pure (by rfl) fun w hw => y_move w rfl rfl) ?_
        simp only [Act.put, List.setIfInBounds_toArray, List.set_cons_zero, List.set_cons_succ]
        refine p_take 1 (.int .i64 (i : Int)) rfl (YR.pure (by rfl) fun w hw => y_move w rfl rfl) ?_
        simp only [Act.put, List.setIfInBounds_toArray, List.set_cons_zero, List.set_cons_succ]
        refine p_take 2 (.pointer (some ⟨G0, O0 + i * 11, none⟩)) rfl (YR.pure (by rfl) fun w hw => y_ix50 w rfl rfl rfl HLT.out) ?_
        simp only [Act.put, List.setIfInBounds_toArray, List.set_cons_zero, List.set_cons_succ]
        refine p_take 3 (.pointer (some ⟨G0, O0 + i * 11 + 0, none⟩)) rfl (YR.pure (by rfl) fun w hw => y_fld73 w rfl rfl (by decide)) ?_
        simp only [Act.put, List.setIfInBounds_toArray, List.set_cons_zero, List.set_cons_succ]
        refine p_take 4 (.int .i64 p.client) rfl (YR.pure (by rfl) fun w hw => y_load3 rfl rfl (HP w hw 0 _ rfl)) ?_
        simp only [Act.put, List.setIfInBounds_toArray, List.set_cons_zero, List.set_cons_succ]
        refine p_take 5 (.int .u64 (((p.client % 18446744073709551616).toNat : Nat) : Int)) rfl (YR.pure (by rfl) fun w hw => y_conv_u w rfl rfl rfl) ?_
        simp only [Act.put, List.setIfInBounds_toArray, List.set_cons_zero, List.set_cons_succ]
        refine p_take 6 (.int .u64 ((um p.client 3 : Nat) : Int)) rfl (YR.pure (by rfl) fun w hw => y_rem (m := (p.client % 18446744073709551616).toNat) (k := 3) w rfl rfl rfl (by decide) (by omega)) ?_
        simp only [Act.put, List.setIfInBounds_toArray, List.set_cons_zero, List.set_cons_succ]
        refine p_take 7 (.int .i64 ((um p.client 3 : Nat) : Int)) rfl (YR.pure (by rfl) fun w hw => y_conv_i w rfl rfl (by have := um_lt p.client (k := 3) (by decide); omega)) ?_
        simp only [Act.put, List.setIfInBounds_toArray, List.set_cons_zero, List.set_cons_succ]
        refine p_take 8 (.int .i64 ((um p.client 3 : Nat) : Int)) rfl (YR.pure (by rfl) fun w hw => y_assign w rfl rfl) ?_
        simp only [Act.put, List.setIfInBounds_toArray, List.set_cons_zero, List.set_cons_succ]
        refine p_done fun wz oz => ?_
        have HZ := Lib.hid (HN.out.trans oz)
        clear HS HN oz
        go_wp2_with fail
        go_meet
        exact ⟨rfl, HZ⟩
      case rest =>
        obtain ⟨rfl, HW⟩ := hcut
        rename World => wx
        have HC1 : Hid (LC w wx (.slice (some ⟨G0, O0, none⟩) n C0) l n g5 g6 g7 g8 fa fc fd fb) := Lib.hid (HC.out.1.new_ HW.out)
        have HPX : Hid (G0 < wx.heap.size ∧ ∀ k u, p.row[k]? = some u → wx.cell? ⟨G0, O0 + i * 11 + k, none⟩ = some u) := Lib.hid (by
          obtain ⟨G0', O0', c0', e, h1, h2⟩ := HC1.out.plan.at_ HPL.out
          have e1 : some (⟨G0, O0, none⟩ : Addr) = some ⟨G0', O0', none⟩ := by injection e
          cases e1
          exact ⟨h1, h2⟩)
        go_upto_region 11 with fail
        go_cut [] from 43 to 58 (fun wx => Hid (LC w wx (.slice (some ⟨G0, O0, none⟩) n C0) l n g5 g6 g7 g8 fa (upd fc i (q.call : Int)) fd fb))
        case first =>
          have HPL2 := HPX.out
          have HP : ∀ w', Only (fun q => q = g6) wx w' → ∀ k u, p.row[k]? = some u → w'.cell? ⟨G0, O0 + i * 11 + k, none⟩ = some u := fun w' o k u hu => (o.cell HPX.out.1 (fun e => HGN.out g6 (by simp) e.symm) _).trans (HPX.out.2 k u hu)
          have HSRC : ∀ w', Only (fun q => q = g6) wx w' → w'.cell? ⟨g5, 0 + um p.client 3, none⟩ = some (.int .i64 (A : Int)) := fun w' o => by
            have h1 := (by have := HC1.out.r5.num (i := um p.client 3) HB.out.2.2.2; rw [show fa (um p.client 3) = (A : Int) from HFA.out] at this; exact this)
            exact (o.cell (World.block_lt_of_cell? _ _ h1.1) (fun e => by have := HC1.out.new; simp only at e; omega) _).trans h1.1
          refine r_begin (S := (fun q => q = g6)) (by kernel_rfl) ?_
          have HS : Hid (Only (fun q => q = g6) wx wx) := Lib.hid (Only.refl _ _)
          have HN : Hid (Only None' wx wx) := Lib.hid (Only.refl _ _)
          refine r_take 0 (.slice (some ⟨g6, 0, none⟩) n n) rfl (by kernel_rfl) (fun _ _ _ h => h) HS.out (YR.pure (by rfl) fun w hw => y_move w rfl rfl) ?_
          simp only [Act.put, List.setIfInBounds_toArray, List.set_cons_zero, List.set_cons_succ]
          refine r_take 1 (.int .i64 (i : Int)) rfl (by kernel_rfl) (fun _ _ _ h => h) HS.out (YR.pure (by rfl) fun w hw => y_move w rfl rfl) ?_
          simp only [Act.put, List.setIfInBounds_toArray, List.set_cons_zero, List.set_cons_succ]
          refine r_take 2 (.slice (some ⟨g5, 0, none⟩) 3 3) rfl (by kernel_rfl) (fun _ _ _ h => h) HS.out (YR.pure (by rfl) fun w hw => y_move w rfl rfl) ?_
          simp only [Act.put, List.setIfInBounds_toArray, List.set_cons_zero, List.set_cons_succ]
          refine r_take 3 (.int .i64 ((um p.client 3 : Nat) : Int)) rfl (by kernel_rfl) (fun _ _ _ h => h) HS.out (YR.pure (by rfl) fun w hw => y_move w rfl rfl) ?_
          simp only [Act.put, List.setIfInBounds_toArray, List.set_cons_zero, List.set_cons_succ]
          refine r_take 4 (.pointer (some ⟨g5, 0 + um p.client 3, none⟩)) rfl (by kernel_rfl) (fun _ _ _ h => h) HS.out (YR.pure (by rfl) fun w hw => y_ix54 w rfl rfl rfl HB.out.2.2.2) ?_
          simp only [Act.put, List.setIfInBounds_toArray, List.set_cons_zero, List.set_cons_succ]
          refine r_take 5 (.int .i64 (A : Int)) rfl (by kernel_rfl) (fun _ _ _ h => h) HS.out (YR.pure (by rfl) fun w hw => y_load3 rfl rfl (HSRC w hw)) ?_
          simp only [Act.put, List.setIfInBounds_toArray, List.set_cons_zero, List.set_cons_succ]
          refine r_take 6 (.slice (some ⟨G0, O0, none⟩) n C0) rfl (by kernel_rfl) (fun _ _ _ h => h) HS.out (YR.pure (by rfl) fun w hw => y_move w rfl rfl) ?_
          simp only [Act.put, List.setIfInBounds_toArray, List.set_cons_zero, List.set_cons_succ]
          refine r_take 7 (.int .i64 (i : Int)) rfl (by kernel_rfl) (fun _ _ _ h => h) HS.out (YR.pure (by rfl) fun w hw => y_move w rfl rfl) ?_
          simp only [Act.put, List.setIfInBounds_toArray, List.set_cons_zero, List.set_cons_succ]
          refine r_take 8 (.pointer (some ⟨G0, O0 + i * 11, none⟩)) rfl (by kernel_rfl) (fun _ _ _ h => h) HS.out (YR.pure (by rfl) fun w hw => y_ix50 w rfl rfl rfl HLT.out) ?_
          simp only [Act.put, List.setIfInBounds_toArray, List.set_cons_zero, List.set_cons_succ]
          refine r_take 9 (.pointer (some ⟨G0, O0 + i * 11 + 1, none⟩)) rfl (by kernel_rfl) (fun _ _ _ h => h) HS.out (YR.pure (by rfl) fun w hw => y_fld73 w rfl rfl (by decide)) ?_
          simp only [Act.put, List.setIfInBounds_toArray, List.set_cons_zero, List.set_cons_succ]
          refine r_take 10 (.int .i64 p.call) rfl (by kernel_rfl) (fun _ _ _ h => h) HS.out (YR.pure (by rfl) fun w hw => y_load3 rfl rfl (HP w hw 1 _ rfl)) ?_
          simp only [Act.put, List.setIfInBounds_toArray, List.set_cons_zero, List.set_cons_succ]
          refine r_take 11 (.int .u64 (((p.call % 18446744073709551616).toNat : Nat) : Int)) rfl (by kernel_rfl) (fun _ _ _ h => h) HS.out (YR.pure (by rfl) fun w hw => y_conv_u w rfl rfl rfl) ?_
          simp only [Act.put, List.setIfInBounds_toArray, List.set_cons_zero, List.set_cons_succ]
          refine r_take 12 (.int .u64 ((um p.call 5 : Nat) : Int)) rfl (by kernel_rfl) (fun _ _ _ h => h) HS.out (YR.pure (by rfl) fun w hw => y_rem (m := (p.call % 18446744073709551616).toNat) (k := 5) w rfl rfl rfl (by decide) (by omega)) ?_
          simp only [Act.put, List.setIfInBounds_toArray, List.set_cons_zero, List.set_cons_succ]
          refine r_take 13 (.int .i64 ((um p.call 5 : Nat) : Int)) rfl (by kernel_rfl) (fun _ _ _ h => h) HS.out (YR.pure (by rfl) fun w hw => y_conv_i w rfl rfl (by have := um_lt p.call (k := 5) (by decide); omega)) ?_
          simp only [Act.put, List.setIfInBounds_toArray, List.set_cons_zero, List.set_cons_succ]
          refine r_take 14 (.int .i64 (q.call : Int)) rfl (by kernel_rfl) (fun _ _ _ h => h) HS.out (YR.pure (by rfl) fun w hw => y_add w rfl rfl rfl Q1.out (wrap_nat (by have := HB.out; omega))) ?_
          simp only [Act.put, List.setIfInBounds_toArray, List.set_cons_zero, List.set_cons_succ]
          refine r_take 15 (.pointer (some ⟨g6, 0 + i, none⟩)) rfl (by kernel_rfl) (fun _ _ _ h => h) HS.out (YR.pure (by rfl) fun w hw => y_ix54 w rfl rfl rfl HLT.out) ?_
          simp only [Act.put, List.setIfInBounds_toArray, List.set_cons_zero, List.set_cons_succ]
          refine r_one 16 rfl (by kernel_rfl) (by rfl) fun wi oi => ?_
          have hcc := (HC1.out.new_ (HN.out.trans oi)).r6.num HLT.out
          refine wp_store3 rfl rfl rfl hcc.1 hcc.2 ?_
          have HD := Lib.hid ((HC1.out.new_ (HN.out.trans oi)).set6 HLT.out (q.call : Int))
          refine ⟨(HS.out.quiet oi).setCell (p := ⟨g6, 0 + i, none⟩) rfl _, ?_⟩
          simp only [Act.put, List.setIfInBounds_toArray, List.set_cons_zero, List.set_cons_succ]
          refine r_done (by kernel_rfl) fun wz oz => ?_
          have HD2 := Lib.hid (HD.out.new_ oz)
          clear HS HN oz oi HD
          go_wp2_with fail
          go_meet
          exact HD2
        case rest =>
          rename World => wx
          clear HPX HC1
          have HC1 := hcut
          clear hcut
          have HPX : Hid (G0 < wx.heap.size ∧ ∀ k u, p.row[k]? = some u → wx.cell? ⟨G0, O0 + i * 11 + k, none⟩ = some u) := Lib.hid (by
            obtain ⟨G0', O0', c0', e, h1, h2⟩ := HC1.out.plan.at_ HPL.out
            have e1 : some (⟨G0, O0, none⟩ : Addr) = some ⟨G0', O0', none⟩ := by injection e
            cases e1
            exact ⟨h1, h2⟩)
          go_upto_region 12 with fail
          go_cut [] from 59 to 74 (fun wx => Hid (LC w wx (.slice (some ⟨G0, O0, none⟩) n C0) l n g5 g6 g7 g8 fa (upd fc i (q.call : Int)) (upd fd i (q.do_ : Int)) fb))
          case first =>
            have HPL2 := HPX.out
            have HP : ∀ w', Only (fun q => q = g7) wx w' → ∀ k u, p.row[k]? = some u → w'.cell? ⟨G0, O0 + i * 11 + k, none⟩ = some u := fun w' o k u hu => (o.cell HPX.out.1 (fun e => HGN.out g7 (by simp) e.symm) _).trans (HPX.out.2 k u hu)
            have HSRC : ∀ w', Only (fun q => q = g7) wx w' → w'.cell? ⟨g6, 0 + i, none⟩ = some (.int .i64 (q.call : Int)) := fun w' o => by
              have h1 := (by have := HC1.out.r6.num HLT.out; rw [upd_here] at this; exact this)
              exact (o.cell (World.block_lt_of_cell? _ _ h1.1) (fun e => by have := HC1.out.new; simp only at e; omega) _).trans h1.1
            refine r_begin (S := (fun q => q = g7)) (by kernel_rfl) ?_
            have HS : Hid (Only (fun q => q = g7) wx wx) := Lib.hid (Only.refl _ _)
            have HN : Hid (Only None' wx wx) := Lib.hid (Only.refl _ _)
            refine r_take 0 (.slice (some ⟨g7, 0, none⟩) n n) rfl (by kernel_rfl) (fun _ _ _ h => h) HS.out (YR.pure (by rfl) fun w hw => y_move w rfl rfl) ?_
            simp only [Act.put, List.setIfInBounds_toArray, List.set_cons_zero, List.set_cons_succ]
            refine r_take 1 (.int .i64 (i : Int)) rfl (by kernel_rfl) (fun _ _ _ h => h) HS.out (YR.pure (by rfl) fun w hw => y_move w rfl rfl) ?_
            simp only [Act.put, List.setIfInBounds_toArray, List.set_cons_zero, List.set_cons_succ]
            refine r_take 2 (.slice (some ⟨g6, 0, none⟩) n n) rfl (by kernel_rfl) (fun _ _ _ h => h) HS.out (YR.pure (by rfl) fun w hw => y_move w rfl rfl) ?_
            simp only [Act.put, List.setIfInBounds_toArray, List.set_cons_zero, List.set_cons_succ]
            refine r_take 3 (.int .i64 (i : Int)) rfl (by kernel_rfl) (fun _ _ _ h => h) HS.out (YR.pure (by rfl) fun w hw => y_move w rfl rfl) ?_
            simp only [Act.put, List.setIfInBounds_toArray, List.set_cons_zero, List.set_cons_succ]
            refine r_take 4 (.pointer (some ⟨g6, 0 + i, none⟩)) rfl (by kernel_rfl) (fun _ _ _ h => h) HS.out (YR.pure (by rfl) fun w hw => y_ix54 w rfl rfl rfl HLT.out) ?_
            simp only [Act.put, List.setIfInBounds_toArray, List.set_cons_zero, List.set_cons_succ]
            refine r_take 5 (.int .i64 (q.call : Int)) rfl (by kernel_rfl) (fun _ _ _ h => h) HS.out (YR.pure (by rfl) fun w hw => y_load3 rfl rfl (HSRC w hw)) ?_
            simp only [Act.put, List.setIfInBounds_toArray, List.set_cons_zero, List.set_cons_succ]
            refine r_take 6 (.slice (some ⟨G0, O0, none⟩) n C0) rfl (by kernel_rfl) (fun _ _ _ h => h) HS.out (YR.pure (by rfl) fun w hw => y_move w rfl rfl) ?_
            simp only [Act.put, List.setIfInBounds_toArray, List.set_cons_zero, List.set_cons_succ]
            refine r_take 7 (.int .i64 (i : Int)) rfl (by kernel_rfl) (fun _ _ _ h => h) HS.out (YR.pure (by rfl) fun w hw => y_move w rfl rfl) ?_
            simp only [Act.put, List.setIfInBounds_toArray, List.set_cons_zero, List.set_cons_succ]
            refine r_take 8 (.pointer (some ⟨G0, O0 + i * 11, none⟩)) rfl (by kernel_rfl) (fun _ _ _ h => h) HS.out (YR.pure (by rfl) fun w hw => y_ix50 w rfl rfl rfl HLT.out) ?_
            simp only [Act.put, List.setIfInBounds_toArray, List.set_cons_zero, List.set_cons_succ]
            refine r_take 9 (.pointer (some ⟨G0, O0 + i * 11 + 2, none⟩)) rfl (by kernel_rfl) (fun _ _ _ h => h) HS.out (YR.pure (by rfl) fun w hw => y_fld73 w rfl rfl (by decide)) ?_
            simp only [Act.put, List.setIfInBounds_toArray, List.set_cons_zero, List.set_cons_succ]
            refine r_take 10 (.int .i64 p.do_) rfl (by kernel_rfl) (fun _ _ _ h => h) HS.out (YR.pure (by rfl) fun w hw => y_load3 rfl rfl (HP w hw 2 _ rfl)) ?_
            simp only [Act.put, List.setIfInBounds_toArray, List.set_cons_zero, List.set_cons_succ]
            refine r_take 11 (.int .u64 (((p.do_ % 18446744073709551616).toNat : Nat) : Int)) rfl (by kernel_rfl) (fun _ _ _ h => h) HS.out (YR.pure (by rfl) fun w hw => y_conv_u w rfl rfl rfl) ?_
            simp only [Act.put, List.setIfInBounds_toArray, List.set_cons_zero, List.set_cons_succ]
            refine r_take 12 (.int .u64 ((um p.do_ 5 : Nat) : Int)) rfl (by kernel_rfl) (fun _ _ _ h => h) HS.out (YR.pure (by rfl) fun w hw => y_rem (m := (p.do_ % 18446744073709551616).toNat) (k := 5) w rfl rfl rfl (by decide) (by omega)) ?_
            simp only [Act.put, List.setIfInBounds_toArray, List.set_cons_zero, List.set_cons_succ]
            refine r_take 13 (.int .i64 ((um p.do_ 5 : Nat) : Int)) rfl (by kernel_rfl) (fun _ _ _ h => h) HS.out (YR.pure (by rfl) fun w hw => y_conv_i w rfl rfl (by have := um_lt p.do_ (k := 5) (by decide); omega)) ?_
            simp only [Act.put, List.setIfInBounds_toArray, List.set_cons_zero, List.set_cons_succ]
            refine r_take 14 (.int .i64 (q.do_ : Int)) rfl (by kernel_rfl) (fun _ _ _ h => h) HS.out (YR.pure (by rfl) fun w hw => y_add w rfl rfl rfl Q2.out (wrap_nat (by have := HB.out; omega))) ?_
            simp only [Act.put, List.setIfInBounds_toArray, List.set_cons_zero, List.set_cons_succ]
            refine r_take 15 (.pointer (some ⟨g7, 0 + i, none⟩)) rfl (by kernel_rfl) (fun _ _ _ h => h) HS.out (YR.pure (by rfl) fun w hw => y_ix54 w rfl rfl rfl HLT.out) ?_
            simp only [Act.put, List.setIfInBounds_toArray, List.set_cons_zero, List.set_cons_succ]
            refine r_one 16 rfl (by kernel_rfl) (by rfl) fun wi oi => ?_
            have hcc := (HC1.out.new_ (HN.out.trans oi)).r7.num HLT.out
            refine wp_store3 rfl rfl rfl hcc.1 hcc.2 ?_
            have HD := Lib.hid ((HC1.out.new_ (HN.out.trans oi)).set7 HLT.out (q.do_ : Int))
            refine ⟨(HS.out.quiet oi).setCell (p := ⟨g7, 0 + i, none⟩) rfl _, ?_⟩
            simp only [Act.put, List.setIfInBounds_toArray, List.set_cons_zero, List.set_cons_succ]
            refine r_done (by kernel_rfl) fun wz oz => ?_
            have HD2 := Lib.hid (HD.out.new_ oz)
            clear HS HN oz oi HD
            go_wp2_with fail
            go_meet
            exact HD2
          case rest =>
            rename World => wx
            clear HPX HC1
            have HC1 := hcut
            clear hcut
            have HPX : Hid (G0 < wx.heap.size ∧ ∀ k u, p.row[k]? = some u → wx.cell? ⟨G0, O0 + i * 11 + k, none⟩ = some u) := Lib.hid (by
              obtain ⟨G0', O0', c0', e, h1, h2⟩ := HC1.out.plan.at_ HPL.out
              have e1 : some (⟨G0, O0, none⟩ : Addr) = some ⟨G0', O0', none⟩ := by injection e
              cases e1
              exact ⟨h1, h2⟩)
            go_upto_region 13 with fail
            go_cut [] from 75 to 90 (fun wx => Hid (LC w wx (.slice (some ⟨G0, O0, none⟩) n C0) l n g5 g6 g7 g8 fa (upd fc i (q.call : Int)) (upd fd i (q.do_ : Int)) (upd fb i (q.back : Int))))
            case first =>
              have HPL2 := HPX.out
              have HP : ∀ w', Only (fun q => q = g8) wx w' → ∀ k u, p.row[k]? = some u → w'.cell? ⟨G0, O0 + i * 11 + k, none⟩ = some u := fun w' o k u hu => (o.cell HPX.out.1 (fun e => HGN.out g8 (by simp) e.symm) _).trans (HPX.out.2 k u hu)
              have HSRC : ∀ w', Only (fun q => q = g8) wx w' → w'.cell? ⟨g7, 0 + i, none⟩ = some (.int .i64 (q.do_ : Int)) := fun w' o => by
                have h1 := (by have := HC1.out.r7.num HLT.out; rw [upd_here] at this; exact this)
                exact (o.cell (World.block_lt_of_cell? _ _ h1.1) (fun e => by have := HC1.out.new; simp only at e; omega) _).trans h1.1
              refine r_begin (S := (fun q => q = g8)) (by kernel_rfl) ?_
              have HS : Hid (Only (fun q => q = g8) wx wx) := Lib.hid (Only.refl _ _)
              have HN : Hid (Only None' wx wx) := Lib.hid (Only.refl _ _)
              refine r_take 0 (.slice (some ⟨g8, 0, none⟩) n n) rfl (by kernel_rfl) (fun _ _ _ h => h) HS.out (YR.pure (by rfl) fun w hw => y_move w rfl rfl) ?_
              simp only [Act.put, List.setIfInBounds_toArray, List.set_cons_zero, List.set_cons_succ]
              refine r_take 1 (.int .i64 (i : Int)) rfl (by kernel_rfl) (fun _ _ _ h => h) HS.out (YR.pure (by rfl) fun w hw => y_move w rfl rfl) ?_
              simp only [Act.put, List.setIfInBounds_toArray, List.set_cons_zero, List.set_cons_succ]
              refine r_take 2 (.slice (some ⟨g7, 0, none⟩) n n) rfl (by kernel_rfl) (fun _ _ _ h => h) HS.out (YR.pure (by rfl) fun w hw => y_move w rfl rfl) ?_
              simp only [Act.put, List.setIfInBounds_toArray, List.set_cons_zero, List.set_cons_succ]
              refine r_take 3 (.int .i64 (i : Int)) rfl (by kernel_rfl) (fun _ _ _ h => h) HS.out (YR.pure (by rfl) fun w hw => y_move w rfl rfl) ?_
              simp only [Act.put, List.setIfInBounds_toArray, List.set_cons_zero, List.set_cons_succ]
              refine r_take 4 (.pointer (some ⟨g7, 0 + i, none⟩)) rfl (by kernel_rfl) (fun _ _ _ h => h) HS.out (YR.pure (by rfl) fun w hw => y_ix54 w rfl rfl rfl HLT.out) ?_
              simp only [Act.put, List.setIfInBounds_toArray, List.set_cons_zero, List.set_cons_succ]
              refine r_take 5 (.int .i64 (q.do_ : Int)) rfl (by kernel_rfl) (fun _ _ _ h => h) HS.out (YR.pure (by rfl) fun w hw => y_load3 rfl rfl (HSRC w hw)) ?_
              simp only [Act.put, List.setIfInBounds_toArray, List.set_cons_zero, List.set_cons_succ]
              refine r_take 6 (.slice (some ⟨G0, O0, none⟩) n C0) rfl (by kernel_rfl) (fun _ _ _ h => h) HS.out (YR.pure (by rfl) fun w hw => y_move w rfl rfl) ?_
              simp only [Act.put, List.setIfInBounds_toArray, List.set_cons_zero, List.set_cons_succ]
              refine r_take 7 (.int .i64 (i : Int)) rfl (by kernel_rfl) (fun _ _ _ h => h) HS.out (YR.pure (by rfl) fun w hw => y_move w rfl rfl) ?_
              simp only [Act.put, List.setIfInBounds_toArray, List.set_cons_zero, List.set_cons_succ]
              refine r_take 8 (.pointer (some ⟨G0, O0 + i * 11, none⟩)) rfl (by kernel_rfl) (fun _ _ _ h => h) HS.out (YR.pure (by rfl) fun w hw => y_ix50 w rfl rfl rfl HLT.out) ?_
              simp only [Act.put, List.setIfInBounds_toArray, List.set_cons_zero, List.set_cons_succ]
              refine r_take 9 (.pointer (some ⟨G0, O0 + i * 11 + 3, none⟩)) rfl (by kernel_rfl) (fun _ _ _ h => h) HS.out (YR.pure (by rfl) fun w hw => y_fld73 w rfl rfl (by decide)) ?_
              simp only [Act.put, List.setIfInBounds_toArray, List.set_cons_zero, List.set_cons_succ]
              refine r_take 10 (.int .i64 p.back) rfl (by kernel_rfl) (fun _ _ _ h => h) HS.out (YR.pure (by rfl) fun w hw => y_load3 rfl rfl (HP w hw 3 _ rfl)) ?_
              simp only [Act.put, List.setIfInBounds_toArray, List.set_cons_zero, List.set_cons_succ]
              refine r_take 11 (.int .u64 (((p.back % 18446744073709551616).toNat : Nat) : Int)) rfl (by kernel_rfl) (fun _ _ _ h => h) HS.out (YR.pure (by rfl) fun w hw => y_conv_u w rfl rfl rfl) ?_
              simp only [Act.put, List.setIfInBounds_toArray, List.set_cons_zero, List.set_cons_succ]
              refine r_take 12 (.int .u64 ((um p.back 5 : Nat) : Int)) rfl (by kernel_rfl) (fun _ _ _ h => h) HS.out (YR.pure (by rfl) fun w hw => y_rem (m := (p.back % 18446744073709551616).toNat) (k := 5) w rfl rfl rfl (by decide) (by omega)) ?_
              simp only [Act.put, List.setIfInBounds_toArray, List.set_cons_zero, List.set_cons_succ]
              refine r_take 13 (.int .i64 ((um p.back 5 : Nat) : Int)) rfl (by kernel_rfl) (fun _ _ _ h => h) HS.out (YR.pure (by rfl) fun w hw => y_conv_i w rfl rfl (by have := um_lt p.back (k := 5) (by decide); omega)) ?_
              simp only [Act.put, List.setIfInBounds_toArray, List.set_cons_zero, List.set_cons_succ]
              refine r_take 14 (.int .i64 (q.back : Int)) rfl (by kernel_rfl) (fun _ _ _ h => h) HS.out (YR.pure (by rfl) fun w hw => y_add w rfl rfl rfl Q3.out (wrap_nat (by have := HB.out; omega))) ?_
              simp only [Act.put, List.setIfInBounds_toArray, List.set_cons_zero, List.set_cons_succ]
              refine r_take 15 (.pointer (some ⟨g8, 0 + i, none⟩)) rfl (by kernel_rfl) (fun _ _ _ h => h) HS.out (YR.pure (by rfl) fun w hw => y_ix54 w rfl rfl rfl HLT.out) ?_
              simp only [Act.put, List.setIfInBounds_toArray, List.set_cons_zero, List.set_cons_succ]
              refine r_one 16 rfl (by kernel_rfl) (by rfl) fun wi oi => ?_
              have hcc := (HC1.out.new_ (HN.out.trans oi)).r8.num HLT.out
              refine wp_store3 rfl rfl rfl hcc.1 hcc.2 ?_
              have HD := Lib.hid ((HC1.out.new_ (HN.out.trans oi)).set8 HLT.out (q.back : Int))
              refine ⟨(HS.out.quiet oi).setCell (p := ⟨g8, 0 + i, none⟩) rfl _, ?_⟩
              simp only [Act.put, List.setIfInBounds_toArray, List.set_cons_zero, List.set_cons_succ]
              refine r_done (by kernel_rfl) fun wz oz => ?_
              have HD2 := Lib.hid (HD.out.new_ oz)
              clear HS HN oz oi HD
              go_wp2_with fail
              go_meet
              exact HD2
            case rest =>
              rename World => wx
              clear HPX HC1
              have HC1 := hcut
              clear hcut
              go_upto_region 14 with fail
              go_cut [] from 91 to 98 (fun wx => Hid (LC w wx (.slice (some ⟨G0, O0, none⟩) n C0) l n g5 g6 g7 g8 (upd fa (um p.client 3) ((q.back + 1 : Nat) : Int)) (upd fc i (q.call : Int)) (upd fd i (q.do_ : Int)) (upd fb i (q.back : Int))))
              case first =>
                have HSRC : ∀ w', Only None' wx w' → w'.cell? ⟨g8, 0 + i, none⟩ = some (.int .i64 (q.back : Int)) := fun w' o => by
                  have h1 := (HC1.out.new_ o).r8.num HLT.out
                  rw [upd_here] at h1
                  exact h1.1
                refine p_begin ?_
                have HS : Hid (Only None' wx wx) := Lib.hid (Only.refl _ _)
                have HN : Hid (Only None' wx wx) := Lib.hid (Only.refl _ _)
                refine p_take 0 (.slice (some ⟨g5, 0, none⟩) 3 3) rfl (YR.pure (by rfl) fun w hw => y_move w rfl rfl) ?_
                simp only [Act.put, List.setIfInBounds_toArray, List.set_cons_zero, List.set_cons_succ]
                refine p_take 1 (.int .i64 ((um p.client 3 : Nat) : Int)) rfl (YR.pure (by rfl) fun w hw => y_move w rfl rfl) ?_
                simp only [Act.put, List.setIfInBounds_toArray, List.set_cons_zero, List.set_cons_succ]
                refine p_take 2 (.slice (some ⟨g8, 0, none⟩) n n) rfl (YR.pure (by rfl) fun w hw => y_move w rfl rfl) ?_
                simp only [Act.put, List.setIfInBounds_toArray, List.set_cons_zero, List.set_cons_succ]
                refine p_take 3 (.int .i64 (i : Int)) rfl (YR.pure (by rfl) fun w hw => y_move w rfl rfl) ?_
                simp only [Act.put, List.setIfInBounds_toArray, List.set_cons_zero, List.set_cons_succ]
                refine p_take 4 (.pointer (some ⟨g8, 0 + i, none⟩)) rfl (YR.pure (by rfl) fun w hw => y_ix54 w rfl rfl rfl HLT.out) ?_
                simp only [Act.put, List.setIfInBounds_toArray, List.set_cons_zero, List.set_cons_succ]
                refine p_take 5 (.int .i64 (q.back : Int)) rfl (YR.pure (by rfl) fun w hw => y_load3 rfl rfl (HSRC w hw)) ?_
                simp only [Act.put, List.setIfInBounds_toArray, List.set_cons_zero, List.set_cons_succ]
                refine p_take 6 (.int .i64 ((q.back + 1 : Nat) : Int)) rfl (YR.pure (by rfl) fun w hw => y_add w rfl rfl rfl rfl (wrap_nat (by have := HB.out; omega))) ?_
                simp only [Act.put, List.setIfInBounds_toArray, List.set_cons_zero, List.set_cons_succ]
                refine p_take 7 (.pointer (some ⟨g5, 0 + um p.client 3, none⟩)) rfl (YR.pure (by rfl) fun w hw => y_ix54 w rfl rfl rfl HB.out.2.2.2) ?_
                simp only [Act.put, List.setIfInBounds_toArray, List.set_cons_zero, List.set_cons_succ]
                refine p_one 8 rfl (by rfl) fun wi oi => ?_
                have hcc := (HC1.out.new_ (HN.out.trans oi)).r5.num (i := um p.client 3) HB.out.2.2.2
                refine wp_store3 rfl rfl rfl hcc.1 hcc.2 ?_
                have HD := Lib.hid ((HC1.out.new_ (HN.out.trans oi)).set5 (i := um p.client 3) HB.out.2.2.2 ((q.back + 1 : Nat) : Int))
                simp only [Act.put, List.setIfInBounds_toArray, List.set_cons_zero, List.set_cons_succ]
                refine p_done fun wz oz => ?_
                have HD2 := Lib.hid (HD.out.new_ oz)
                clear HS HN oz oi HD
                go_wp2_with fail
                go_meet
                exact HD2
              case rest =>
                rename World => wx
                clear HC1
                have HC1 := hcut
                clear hcut
                have HPX : Hid (G0 < wx.heap.size ∧ ∀ k u, p.row[k]? = some u → wx.cell? ⟨G0, O0 + i * 11 + k, none⟩ = some u) := Lib.hid (by
                  obtain ⟨G0', O0', c0', e, h1, h2⟩ := HC1.out.plan.at_ HPL.out
                  have e1 : some (⟨G0, O0, none⟩ : Addr) = some ⟨G0', O0', none⟩ := by injection e
                  cases e1
                  exact ⟨h1, h2⟩)
                have k4 := HPX.out.2 4 _ rfl
                have k5 := HPX.out.2 5 _ rfl
                have hc8 := HC1.out.r8.num HLT.out
                rw [Nat.zero_add] at hc8
                have hc8a := hc8.1
                have hc8b := hc8.2
                have HMT := Lib.hid (HC.out.2.next HPL.out HQ.out)
                have hqt : q.told = p.told := by rw [HQ.out]; rfl
                have hqdn : q.done = p.done := by rw [HQ.out]; rfl
                rw [hqt, hqdn] at HMT
                have HSET := Lib.hid (HC1.out.set8 HLT.out (-1))
                rw [Nat.zero_add, upd_twice] at HSET
                clear hc8 HPX hqt hqdn HC
                obtain ⟨tl, htl⟩ : ∃ tl, tl = p.told := ⟨_, rfl⟩
                obtain ⟨dn, hdn⟩ : ∃ dn, dn = p.done := ⟨_, rfl⟩
                rw [← htl] at k5 HMT
                rw [← hdn] at k4 HMT
                clear htl hdn
                cases tl <;> cases dn
                all_goals
                  go_wp2_with fail
                  go_roundw
                  case rel => exact ⟨i + 1, _, _, _, _, by have := HLT.out; omega, next_int (by have := HL.out.2; have := HLT.out; omega), Lib.hid ⟨by first | exact HSET.out | exact HC1.out, HMT.out⟩⟩
                  case measure => exact meas HLT.out (by have := HL.out.2; omega)
    · obtain rfl : i = n := by omega
      clear hlt hi
      rename World => wr0
      obtain ⟨w5, hm5, v5, o5, s5⟩ := make74 i wr0 (by have := HL.out.2; omega)
      obtain ⟨gr, er⟩ : ∃ g, g = wr0.heap.size := ⟨_, rfl⟩
      obtain ⟨ps, hps⟩ : ∃ ps, ps = pns l := ⟨_, rfl⟩
      have hpn : ps.length = i := by rw [hps, pns_len]; exact HL.out.1.symm
      have HPN := Lib.hid hpn
      have HF : Hid (Follow ps) := Lib.hid (by rw [hps]; exact pns_follow l)
      have HM : Hid (∀ (k : Nat) (q : Pn), ps[k]? = some q → fc k = (q.call : Int) ∧ fd k = (q.do_ : Int)) := Lib.hid fun k q hq => by
        have h1 := HC.out.2.done k q (by have := (List.getElem?_eq_some_iff.1 hq).1; omega) (by rw [← hps]; exact hq)
        exact ⟨h1.1, h1.2.1⟩
      have HB0 : Hid (Bk ps 0 0 fb) := Lib.hid fun k q hq => by
        have h1 := HC.out.2.done k q (by have := (List.getElem?_eq_some_iff.1 hq).1; omega) (by rw [← hps]; exact hq)
        rw [h1.2.2]
        cases q.told <;> cases q.done <;> simp
      have HL0 : Hid (LP w w5 (.slice pa i C0) l i g6 g7 g8 gr fc fd fb (.slice none 0 0) (.slice none 0 0) [] [] (fun _ => Rs.zero)) := Lib.hid (by
        have L1 := HC.out.1.new_ o5
        have hr : (List.range i).map (fun _ => Rs.zero) = List.replicate i Rs.zero := by rw [List.map_const', List.length_range]
        refine ⟨L1.only, L1.plan, L1.r6, L1.r7, L1.r8, by rw [hr, er]; exact v5, Vec.nil _ _, PRow.nil _, ⟨L1.new.1, by have := L1.new; omega, L1.new.2.2.2.1, L1.new.2.2.2.2, ?_⟩, (fun g hg => by cases hg), (fun g hg => by cases hg)⟩
        rw [er]; exact HC.out.1.r8.lt rfl)
      have HPS := Lib.hid hps
      rw [← er] at hm5
      have HPT0 : Hid (PA ps 0 0 0 0 [] (fun _ => none) (fun _ => Rs.zero)) := Lib.hid (PA.nil ps _)
      clear v5 o5 s5 er hps hpn
      have ew1 : wrap64 (15 * (i : Int)) = 15 * (i : Int) := IntWalk.wrap64_in _ (by have := HL.out.2; omega)
      have ew2 : wrap64 (15 * (i : Int) + 15) = 15 * (i : Int) + 15 := IntWalk.wrap64_in _ (by have := HL.out.2; omega)
      clear HC
      go_wp2_with fail
      clear hm5
      go_loopw [3, 4, 12] (fun u3 u4 u12 wr => ∃ (t : Nat) (fb : Nat → Int) (h : List Ev) (m : List Pr) (rs : Nat → Rs), t ≤ 15 * i + 15 ∧ u12 = .int .i64 (t : Int) ∧ Hid (LP w wr (.slice pa i C0) l i g6 g7 g8 gr fc fd fb u3 u4 h m rs ∧ PA ps t 0 0 0 h (fun key => findP key m) rs ∧ Bk ps t 0 fb ∧ m.length ≤ t * 14 ∧ h.length ≤ t * 28)) (fun u3 u4 u12 wr => 15 * i + 15 - (intOf u12).toNat)
      case atStart => exact ⟨0, fb, [], [], _, by omega, rfl, Lib.hid ⟨HL0.out, HPT0.out, HB0.out, by simp, by simp⟩⟩
      case round =>
        rename World => wr1
        clear HL0 HPT0 HB0
        obtain ⟨t, fb1, h, m, rs, ht, rfl, HI⟩ := hrel
        by_cases hlt : t < 15 * i + 15
        · have t0 : (0 : Int) ≤ (t : Int) := by omega
          have t1 : (t : Int) < 15 * (i : Int) + 15 := by omega
          have HT : Hid (t < 15 * i + 15 ∧ t ≤ 225) := Lib.hid ⟨hlt, by have := HL.out.2; omega⟩
          clear hlt ht
          go_wp2_with fail
          clear ew1 ew2
          go_loopw [3, 13] (fun u3 u13 wr => ∃ (j : Nat) (h : List Ev), j ≤ i ∧ u13 = .int .i64 (j : Int) ∧ Hid (LP w wr (.slice pa i C0) l i g6 g7 g8 gr fc fd fb1 u3 u4 h m rs ∧ PA ps t j 0 0 h (fun key => findP key m) rs ∧ h.length ≤ t * 28 + j)) (fun u3 u13 wr => i - (intOf u13).toNat)
          case atStart => exact ⟨0, h, by omega, rfl, Lib.hid ⟨HI.out.1, HI.out.2.1, by have := HI.out.2.2.2.2; omega⟩⟩
          case round =>
            rename World => wr2
            obtain ⟨j, h2, hj, rfl, HJ⟩ := hrel
            by_cases hjt : j < i
            · have hdummy : True := trivial
              have hjl : j < l.length := by have := HL.out.1; omega
              obtain ⟨p, hp⟩ : ∃ p, l[j]? = some p := ⟨_, List.getElem?_eq_getElem hjl⟩
              obtain ⟨q, hq, hqc, hqo, hqd, hqt⟩ := pn_of hp
              rw [← HPS.out] at hq
              obtain ⟨G0, O0, c0, e, hGw, hG0, hcell⟩ := HJ.out.1.cells hp
              injection e with e e2 e3
              subst e
              subst e3
              clear e2
              have HP1 := Lib.hid hcell
              have HG : Hid (G0 < w.heap.size ∧ G0 < wr2.heap.size) := Lib.hid ⟨hGw, hG0⟩
              have HPL := Lib.hid hp
              have HQ := Lib.hid (And.intro hq (And.intro hqc (And.intro hqo (And.intro hqd hqt))))
              have HJT := Lib.hid hjt
              have j0 : (0 : Int) ≤ (j : Int) := by omega
              have j1 : (j : Int) < (i : Int) := by omega
              have hfc := (HM.out j q hq).1
              have hc6 := HJ.out.1.r6.numAt hjt
              rw [hfc] at hc6
              have hc6a := hc6.1
              clear hc6 hfc hcell hGw hG0 hp hq hqc hqo hqd hqt hjt hjl hj hdummy
              by_cases hct : q.call = t
              · have ect : ((q.call : Int) == (t : Int)) = true := by rw [beq_iff_eq]; omega
                have HCT := Lib.hid hct
                clear hct
                go_upto_region 25 with fail
                have HP : ∀ w', Only (fun q => u3.ownBlock = some q) wr2 w' → ∀ k u, p.row[k]? = some u → w'.cell? ⟨G0, O0 + j * 11 + k, none⟩ = some u := fun w' o k u hu => (o.cell HG.out.2 (fun e => by
                  have h1 := HJ.out.1.hown _ e
                  have h2 := HJ.out.1.new
                  have h3 := HG.out.1
                  omega) _).trans (HP1.out k u hu)
                have HPO : ∀ w', Only (fun q => u3.ownBlock = some q) wr2 w' → ∀ k u, p.op.row[k]? = some u → w'.cell? ⟨G0, O0 + j * 11 + 6 + k, none⟩ = some u := fun w' o k u hu => by
                  have := HP w' o (6 + k) u (by rw [Nat.add_comm]; exact hu)
                  rwa [← Nat.add_assoc] at this
                refine r_begin (S := (fun q => u3.ownBlock = some q)) (by kernel_rfl) ?_
                have HS : Hid (Only (fun q => u3.ownBlock = some q) wr2 wr2) := Lib.hid (Only.refl _ _)
                have HN : Hid (Only None' wr2 wr2) := Lib.hid (Only.refl _ _)
                refine r_take 0 (u3) rfl (by kernel_rfl) (fun _ _ _ h => h) HS.out (YR.pure (by rfl) fun w hw => y_move w rfl rfl) ?_
                simp only [Act.put, List.setIfInBounds_toArray, List.set_cons_zero, List.set_cons_succ]
                refine r_take 1 (.slice (some ⟨G0, O0, none⟩) i C0) rfl (by kernel_rfl) (fun _ _ _ h => h) HS.out (YR.pure (by rfl) fun w hw => y_move w rfl rfl) ?_
                simp only [Act.put, List.setIfInBounds_toArray, List.set_cons_zero, List.set_cons_succ]
                refine r_take 2 (.int .i64 (j : Int)) rfl (by kernel_rfl) (fun _ _ _ h => h) HS.out (YR.pure (by rfl) fun w hw => y_move w rfl rfl) ?_
                simp only [Act.put, List.setIfInBounds_toArray, List.set_cons_zero, List.set_cons_succ]
                refine r_take 3 (.pointer (some ⟨G0, O0 + j * 11, none⟩)) rfl (by kernel_rfl) (fun _ _ _ h => h) HS.out (YR.pure (by rfl) fun w hw => y_ix50 w rfl rfl rfl HJT.out) ?_
                simp only [Act.put, List.setIfInBounds_toArray, List.set_cons_zero, List.set_cons_succ]
                refine r_take 4 (.pointer (some ⟨G0, O0 + j * 11 + 0, none⟩)) rfl (by kernel_rfl) (fun _ _ _ h => h) HS.out (YR.pure (by rfl) fun w hw => y_fld73 w rfl rfl (by decide)) ?_
                simp only [Act.put, List.setIfInBounds_toArray, List.set_cons_zero, List.set_cons_succ]
                refine r_take 5 (.int .i64 p.client) rfl (by kernel_rfl) (fun _ _ _ h => h) HS.out (YR.pure (by rfl) fun w hw => y_load3 rfl rfl (HP w hw 0 _ rfl)) ?_
                simp only [Act.put, List.setIfInBounds_toArray, List.set_cons_zero, List.set_cons_succ]
                refine r_take 6 (.int .u64 (((p.client % 18446744073709551616).toNat : Nat) : Int)) rfl (by kernel_rfl) (fun _ _ _ h => h) HS.out (YR.pure (by rfl) fun w hw => y_conv_u w rfl rfl rfl) ?_
                simp only [Act.put, List.setIfInBounds_toArray, List.set_cons_zero, List.set_cons_succ]
                refine r_take 7 (.int .u64 ((um p.client 3 : Nat) : Int)) rfl (by kernel_rfl) (fun _ _ _ h => h) HS.out (YR.pure (by rfl) fun w hw => y_rem (m := (p.client % 18446744073709551616).toNat) (k := 3) w rfl rfl rfl (by decide) (by omega)) ?_
                simp only [Act.put, List.setIfInBounds_toArray, List.set_cons_zero, List.set_cons_succ]
                refine r_take 8 (.int .i64 ((um p.client 3 : Nat) : Int)) rfl (by kernel_rfl) (fun _ _ _ h => h) HS.out (YR.pure (by rfl) fun w hw => y_conv_i w rfl rfl (by have := um_lt p.client (k := 3) (by decide); omega)) ?_
                simp only [Act.put, List.setIfInBounds_toArray, List.set_cons_zero, List.set_cons_succ]
                refine r_take 9 (.int .i64 (j : Int)) rfl (by kernel_rfl) (fun _ _ _ h => h) HS.out (YR.pure (by rfl) fun w hw => y_move w rfl rfl) ?_
                simp only [Act.put, List.setIfInBounds_toArray, List.set_cons_zero, List.set_cons_succ]
                refine r_take 10 (.int .i64 ((j + 1 : Nat) : Int)) rfl (by kernel_rfl) (fun _ _ _ h => h) HS.out (YR.pure (by rfl) fun w hw => y_add w rfl rfl rfl rfl (wrap_nat (by have := HJT.out; have := HL.out.2; omega))) ?_
                simp only [Act.put, List.setIfInBounds_toArray, List.set_cons_zero, List.set_cons_succ]
                refine r_take 11 (.slice (some ⟨G0, O0, none⟩) i C0) rfl (by kernel_rfl) (fun _ _ _ h => h) HS.out (YR.pure (by rfl) fun w hw => y_move w rfl rfl) ?_
                simp only [Act.put, List.setIfInBounds_toArray, List.set_cons_zero, List.set_cons_succ]
                refine r_take 12 (.int .i64 (j : Int)) rfl (by kernel_rfl) (fun _ _ _ h => h) HS.out (YR.pure (by rfl) fun w hw => y_move w rfl rfl) ?_
                simp only [Act.put, List.setIfInBounds_toArray, List.set_cons_zero, List.set_cons_succ]
                refine r_take 13 (.pointer (some ⟨G0, O0 + j * 11, none⟩)) rfl (by kernel_rfl) (fun _ _ _ h => h) HS.out (YR.pure (by rfl) fun w hw => y_ix50 w rfl rfl rfl HJT.out) ?_
                simp only [Act.put, List.setIfInBounds_toArray, List.set_cons_zero, List.set_cons_succ]
                refine r_take 14 (.pointer (some ⟨G0, O0 + j * 11 + 6, none⟩)) rfl (by kernel_rfl) (fun _ _ _ h => h) HS.out (YR.pure (by rfl) fun w hw => y_fld73 w rfl rfl (by decide)) ?_
                simp only [Act.put, List.setIfInBounds_toArray, List.set_cons_zero, List.set_cons_succ]
                refine r_take 15 (p.op.v) rfl (by kernel_rfl) (fun _ _ _ h => h) HS.out (YR.pure (by rfl) fun w hw => y_load24' rfl rfl (HPO w hw)) ?_
                simp only [Act.put, List.setIfInBounds_toArray, List.set_cons_zero, List.set_cons_succ]
                refine r_take 16 ((callE ((um p.client 3 : Nat) : Int) ((j + 1 : Nat) : Int) p.op).vv) rfl (by kernel_rfl) (fun _ _ _ h => h) HS.out (YR.call (by rfl) (fun w => y_enter [.int .i64 ((um p.client 3 : Nat) : Int), .int .i64 ((j + 1 : Nat) : Int), p.op.v] rfl (by rfl) (call11 _) w) fun w hw => call_any w _ _ _) ?_
                simp only [Act.put, List.setIfInBounds_toArray, List.set_cons_zero, List.set_cons_succ]
                refine r_one 17 rfl (by kernel_rfl) (by rfl) fun wi oi => ?_
                refine wp_events [callE ((um p.client 3 : Nat) : Int) ((j + 1 : Nat) : Int) p.op] _ 1 rfl rfl (by simp) (by simp) (by rfl) fun vs wj he _ oj => ?_
                have HT2 := Lib.hid (HN.out.trans (oi.trans oj))
                refine ⟨HS.out.quiet (oi.trans oj), ?_⟩
                have HSS := Lib.hid (HS.out.quiet (oi.trans oj))
                simp only [Act.put, List.setIfInBounds_toArray, List.set_cons_zero, List.set_cons_succ]
                clear HN HS
                have HN := HT2
                have HS := HSS
                have HE := Lib.hid he
                clear he oi oj HT2 HSS
                refine r_one 18 rfl (by kernel_rfl) (by rfl) fun wi oi => ?_
                refine wp_append_ev (l := h2) (l2 := [callE ((um p.client 3 : Nat) : Int) ((j + 1 : Nat) : Int) p.op]) rfl rfl rfl (HJ.out.1.new_ (HN.out.trans oi)).hrow (HE.out.only oi fun _ _ e => e) (by have h1 := HJ.out.2.2; have h2 := HT.out.2; have h3 := HJT.out; have h4 := HL.out.2; simp; omega) fun v5 w5 hv5 hg5 hf5 => ?_
                have HJ5 := Lib.hid ((HJ.out.1.new_ (HN.out.trans oi)).app hv5 hg5 hf5)
                have HS5 := Lib.hid ((HS.out.quiet oi).grown hg5 fun k hk => hk)
                refine ⟨HS5.out, ?_⟩
                simp only [Act.put, List.setIfInBounds_toArray, List.set_cons_zero, List.set_cons_succ]
                clear HS
                have HS := HS5
                clear hv5 hg5 hf5 oi HS5
                refine r_take 19 (v5) rfl (by kernel_rfl) (fun _ _ _ h => h) HS.out (YR.pure (by rfl) fun w hw => y_assign w rfl rfl) ?_
                simp only [Act.put, List.setIfInBounds_toArray, List.set_cons_zero, List.set_cons_succ]
                refine r_done (by kernel_rfl) fun wz oz => ?_
                have HJ6 := Lib.hid (HJ5.out.new_ oz)
                clear HS HN oz HJ5
                go_wp2_with fail
                go_roundw
                case rel => exact ⟨j + 1, h2 ++ [q.callEv j], by have := HJT.out; omega, next_int (by have := HL.out.2; have := HJT.out; omega), Lib.hid ⟨by rw [callEv_eq HQ.out.2.1 HQ.out.2.2.1]; exact HJ6.out, HJ.out.2.1.call HF.out HQ.out.1 HCT.out, by have := HJ.out.2.2; rw [List.length_append, List.length_singleton]; omega⟩⟩
                case measure => exact meas HJT.out (by have := HL.out.2; omega)
              · have ect : ((q.call : Int) == (t : Int)) = false := by rw [beq_eq_false_iff_ne]; omega
                have HCT := Lib.hid hct
                clear hct
                go_wp2_with fail
                go_roundw
                case rel => exact ⟨j + 1, h2, by have := HJT.out; omega, next_int (by have := HL.out.2; have := HJT.out; omega), Lib.hid ⟨HJ.out.1, HJ.out.2.1.call_no HQ.out.1 HCT.out, by have := HJ.out.2.2; omega⟩⟩
                case measure => exact meas HJT.out (by have := HL.out.2; omega)
            · obtain rfl : j = i := by omega
              have HPT1 : Hid (PA ps t ps.length 0 0 h2 (fun key => findP key m) rs) := Lib.hid (by have := HJ.out.2.1; rw [← HPN.out] at this; exact this)
              clear hjt hj
              go_wp2_with fail
              go_loopw [4, 14] (fun u4 u14 wr => ∃ (k : Nat) (m : List Pr) (rs : Nat → Rs) (fb : Nat → Int), k ≤ j ∧ u14 = .int .i64 (k : Int) ∧ Hid (LP w wr (.slice pa j C0) l j g6 g7 g8 gr fc fd fb u3 u4 h2 m rs ∧ PA ps t ps.length k 0 h2 (fun key => findP key m) rs ∧ Bk ps t k fb ∧ m.length ≤ t * 14 + k)) (fun u4 u14 wr => j - (intOf u14).toNat)
              case atStart => exact ⟨0, m, rs, fb1, by omega, rfl, Lib.hid ⟨HJ.out.1, HPT1.out, HI.out.2.2.1, HI.out.2.2.2.1⟩⟩
              case round =>
                rename World => wr3
                obtain ⟨k, m2, rs2, fb2, hk, rfl, HK⟩ := hrel
                by_cases hkt : k < j
                · have hkl : k < l.length := by have := HL.out.1; omega
                  obtain ⟨p, hp⟩ : ∃ p, l[k]? = some p := ⟨_, List.getElem?_eq_getElem hkl⟩
                  obtain ⟨q, hq, hqc, hqo, hqd, hqt⟩ := pn_of hp
                  rw [← HPS.out] at hq
                  obtain ⟨G0, O0, c0, e, hGw, hG0, hcell⟩ := HK.out.1.cells hp
                  injection e with e e2 e3
                  subst e
                  subst e3
                  clear e2
                  have HPL := Lib.hid hp
                  have HQ := Lib.hid (And.intro hq (And.intro hqc (And.intro hqo (And.intro hqd hqt))))
                  have HKT := Lib.hid hkt
                  have k0 : (0 : Int) ≤ (k : Int) := by omega
                  have k1 : (k : Int) < (j : Int) := by omega
                  have hfd := (HM.out k q hq).2
                  have hc7 := HK.out.1.r7.numAt hkt
                  rw [hfd] at hc7
                  have hc7a := hc7.1
                  obtain ⟨hc8a, hc8b⟩ := HK.out.1.r8.numAt hkt
                  have y4 := hcell 4 _ rfl
                  have y6 := hcell 6 _ rfl
                  have y7 := hcell 7 _ rfl
                  have y8 := hcell 8 _ rfl
                  have y9 := hcell 9 _ rfl
                  have ya := hcell 10 _ rfl
                  obtain ⟨dn, hdn⟩ : ∃ dn, dn = p.done := ⟨_, rfl⟩
                  rw [← hdn] at y4 hqd
                  have HDN := Lib.hid hqd
                  obtain ⟨o5, ho5⟩ : ∃ o5, o5 = p.op := ⟨_, rfl⟩
                  rw [← ho5] at y6 y7 y8 y9 ya hqo
                  have HQO := Lib.hid hqo
                  have HNEV := Lib.hid (HK.out.1.never' hkt (-1))
                  have HDO := do_any HK.out.1.mrow (by have h1 := HK.out.2.2.2; have h2 := HT.out.2; have h3 := HL.out.2; omega) o5 fun hf => ins_all (spot_le _ _) (by have h1 := HK.out.2.2.2; have h2 := HT.out.2; have h3 := HL.out.2; omega)
                  have HO5 := Lib.hid (rfl : o5 = o5)
                  clear hc7 hfd hcell hGw hG0 hp hq hqc hqo hqd hqt hkt hkl hk hdn ho5 HJ HPT1
                  by_cases hdt : q.do_ = t
                  · have edt : ((q.do_ : Int) != (t : Int)) = false := by simp; omega
                    have edt2 : ((q.do_ : Int) == (t : Int)) = true := by rw [beq_iff_eq]; omega
                    have HDT := Lib.hid hdt
                    clear hdt
                    cases dn with
                    | false =>
                      have HB1 := Lib.hid (HK.out.2.2.1.no HQ.out.1 (.inr (.inl HDN.out)))
                      have HP1 := Lib.hid (HK.out.2.1.do_no HQ.out.1 (.inr (.inl HDN.out)))
                      clear HDO
                      go_wp2_with fail
                      go_roundw
                      case rel => exact ⟨k + 1, m2, rs2, fb2, by have := HKT.out; omega, next_int (by have := HL.out.2; have := HKT.out; omega), Lib.hid ⟨HK.out.1, HP1.out, HB1.out, by have := HK.out.2.2.2; omega⟩⟩
                      case measure => exact meas HKT.out (by have := HL.out.2; omega)
                    | true =>
                      obtain ⟨kd, key, val, old, had⟩ := o5
                      unfold Op5.v at HDO
                      have HDO2 := Lib.hid HDO
                      clear HDO
                      dsimp only at y6 y7 y8 y9 ya HDO2
                      go_wp2_with fail
                      refine HDO2.out.mono ?_
                      intro e w6 hend
                      obtain ⟨o6, hend⟩ := hend
                      have HO6 := Lib.hid o6
                      clear o6 HDO2
                      rcases hend with ⟨hcode, v6, rfl, N6⟩ | ⟨hcode, rfl⟩
                      · have HN6 := Lib.hid N6
                        obtain ⟨r6, hr6⟩ : ∃ r6, r6 = (Op5.does ⟨kd, key, val, old, had⟩ (findP key m2)).2 := ⟨_, rfl⟩
                        have HR6 := Lib.hid hr6
                        have HCODE := Lib.hid hcode
                        rw [← hr6]
                        clear N6 hcode hr6
                        obtain ⟨rk, rf, rv⟩ := r6
                        unfold Rs.v
                        dsimp only
                        go_upto_region 31 with fail
                        generalize hX : w6.heap.size = X
                        generalize hw7 : w6.alloc (.cells #[.int .u8 rk, .bool rf, .string rv] 29) = w7
                        have c7 : CellsR w7 X [.int .u8 rk, .bool rf, .string rv] := by rw [← hw7, ← hX]; exact cells_new w6 _ 29
                        have o7 : Only None' w6 w7 := by rw [← hw7]; exact (Only.refl None' w6).alloc _
                        have L7 := Lib.hid (HK.out.1.map (HO6.out.trans o7) (HN6.out.row.new_ o7) HN6.out.fresh)
                        have x0 := c7.is 0 _ rfl
                        have x1 := c7.is 1 _ rfl
                        have x2 := c7.is 2 _ rfl
                        obtain ⟨_, hres, hfz⟩ := L7.out.res HKT.out
                        obtain ⟨r0, hr0⟩ : ∃ r0, r0 = rs2 k := ⟨_, rfl⟩
                        rw [← hr0] at hres
                        obtain ⟨rk0, rf0, rv0⟩ := r0
                        have z0 := hres 0 _ rfl
                        have z1 := hres 1 _ rfl
                        have z2 := hres 2 _ rfl
                        have f0 := hfz 0 (by omega)
                        have f1 := hfz 1 (by omega)
                        have f2 := hfz 2 (by omega)
                        rw [Nat.zero_add] at z0 z1 z2 f0 f1 f2
                        rw [Nat.add_zero] at z0 f0
                        have LN := Lib.hid (L7.out.note' HKT.out rk rf rv)
                        have HB1 := Lib.hid (HK.out.2.2.1.no HQ.out.1 (.inr (.inr (by rw [HQO.out]; exact HCODE.out))))
                        have HP1 := Lib.hid (HK.out.2.1.does (rs' := fun x => if x = k then ⟨rk, rf, rv⟩ else rs2 x) (m' := fun κ => findP κ (doP m2 ⟨kd, key, val, old, had⟩)) HF.out HQ.out.1 HDT.out HDN.out (by rw [HQO.out]; exact HCODE.out) (fun x => by rw [HQO.out, HR6.out]) (fun κ => by rw [HQO.out]; exact findP_do' m2 _ κ))
                        clear c7 o7 hX hw7 hres hfz hr0
                        go_wp2_with fail
                        go_roundw
                        case rel => first | exact ⟨k + 1, _, _, fb2, by have := HKT.out; omega, next_int (by have := HL.out.2; have := HKT.out; omega), Lib.hid ⟨LN.out, HP1.out, HB1.out, by have h1 := HK.out.2.2.2; have h2 := doP_len m2 ⟨kd, key, val, old, had⟩; omega⟩⟩ | exact ⟨k + 1, by have := HKT.out; omega, next_w (by have := HL.out.2; have := HKT.out; omega), _, _, fb2, Lib.hid ⟨LN.out, HP1.out, HB1.out, by have h1 := HK.out.2.2.2; have h2 := doP_len m2 ⟨kd, key, val, old, had⟩; omega⟩⟩
                        case measure => exact meas HKT.out (by have := HL.out.2; omega)
                      · obtain ⟨cd, hcd⟩ : ∃ cd, cd = Op5.code ⟨kd, key, val, old, had⟩ := ⟨_, rfl⟩
                        rw [← hcd] at hcode ⊢
                        have ec : (cd != 0) = true := by simpa using hcode
                        have ec2 : (cd == 0) = false := by simpa using hcode
                        have HCODE : Hid (q.op.code ≠ 0) := Lib.hid (by rw [HQO.out, ← hcd]; exact hcode)
                        clear hcode hcd
                        unfold Rs.v Rs.zero
                        dsimp only
                        go_upto_region 31 with fail
                        generalize hX : w6.heap.size = X
                        generalize hw7 : w6.alloc (.cells #[.int .u8 0, .bool false, .string ⟨#[]⟩] 29) = w7
                        have o7 : Only None' w6 w7 := by rw [← hw7]; exact (Only.refl None' w6).alloc _
                        have L7 := Lib.hid (HK.out.1.new_ (HO6.out.trans o7))
                        have LN := Lib.hid (L7.out.never' HKT.out (-1))
                        obtain ⟨hc9a, hc9b⟩ := L7.out.r8.numAt HKT.out
                        have HB1 := Lib.hid (HK.out.2.2.1.bad HQ.out.1 HDT.out HCODE.out)
                        have HP1 := Lib.hid (HK.out.2.1.do_no HQ.out.1 (.inr (.inr HCODE.out)))
                        clear o7 hw7 hX
                        go_wp2_with fail
                        go_roundw
                        case rel => first | exact ⟨k + 1, m2, rs2, _, by have := HKT.out; omega, next_int (by have := HL.out.2; have := HKT.out; omega), Lib.hid ⟨LN.out, HP1.out, HB1.out, by have h1 := HK.out.2.2.2; omega⟩⟩ | exact ⟨k + 1, by have := HKT.out; omega, next_w (by have := HL.out.2; have := HKT.out; omega), m2, rs2, _, Lib.hid ⟨LN.out, HP1.out, HB1.out, by have h1 := HK.out.2.2.2; omega⟩⟩
                        case measure => exact meas HKT.out (by have := HL.out.2; omega)
                  · have edt : ((q.do_ : Int) != (t : Int)) = true := by simp; omega
                    have edt2 : ((q.do_ : Int) == (t : Int)) = false := by rw [beq_eq_false_iff_ne]; omega
                    have HB1 := Lib.hid (HK.out.2.2.1.no HQ.out.1 (.inl hdt))
                    have HP1 := Lib.hid (HK.out.2.1.do_no HQ.out.1 (.inl hdt))
                    clear hdt HDO
                    go_wp2_with fail
                    go_roundw
                    case rel => first | exact ⟨k + 1, m2, rs2, fb2, by have := HKT.out; omega, next_int (by have := HL.out.2; have := HKT.out; omega), Lib.hid ⟨HK.out.1, HP1.out, HB1.out, by have := HK.out.2.2.2; omega⟩⟩ | exact ⟨k + 1, by have := HKT.out; omega, next_w (by have := HL.out.2; have := HKT.out; omega), m2, rs2, fb2, Lib.hid ⟨HK.out.1, HP1.out, HB1.out, by have := HK.out.2.2.2; omega⟩⟩
                    case measure => exact meas HKT.out (by have := HL.out.2; omega)
                · obtain rfl : k = j := by omega
                  have HPT2 : Hid (PA ps t ps.length ps.length 0 h2 (fun key => findP key m2) rs2 ∧ Bk ps t ps.length fb2 ∧ h2.length ≤ t * 28 + 14 + 0) := Lib.hid (by have h1 := HK.out.2.1; have h2 := HK.out.2.2.1; have h3 := HJ.out.2.2; have h4 := HL.out.2; rw [← HPN.out] at h1 h2; exact ⟨h1, h2, by omega⟩)
                  have HMK : Hid (m2.length ≤ t * 14 + 14) := Lib.hid (by have h1 := HK.out.2.2.2; have h4 := HL.out.2; omega)
                  clear hkt hk
                  go_wp2_with fail
                  go_loopw [3, 18] (fun u3 u18 wr => ∃ (j : Nat) (h : List Ev), j ≤ k ∧ u18 = .int .i64 (j : Int) ∧ Hid (LP w wr (.slice pa k C0) l k g6 g7 g8 gr fc fd fb2 u3 u4 h m2 rs2 ∧ PA ps t ps.length ps.length j h (fun key => findP key m2) rs2 ∧ h.length ≤ t * 28 + 14 + j)) (fun u3 u18 wr => k - (intOf u18).toNat)
                  case atStart => exact ⟨0, h2, by omega, rfl, Lib.hid ⟨HK.out.1, HPT2.out.1, HPT2.out.2.2⟩⟩
                  case round =>
                    rename World => wr4
                    obtain ⟨j, h2, hj, rfl, HJ⟩ := hrel
                    by_cases hjt : j < k
                    · have hdummy : True := trivial
                      have hjl : j < l.length := by have := HL.out.1; omega
                      obtain ⟨p, hp⟩ : ∃ p, l[j]? = some p := ⟨_, List.getElem?_eq_getElem hjl⟩
                      obtain ⟨q, hq, hqc, hqo, hqd, hqt⟩ := pn_of hp
                      rw [← HPS.out] at hq
                      obtain ⟨G0, O0, c0, e, hGw, hG0, hcell⟩ := HJ.out.1.cells hp
                      injection e with e e2 e3
                      subst e
                      subst e3
                      clear e2
                      have HP1 := Lib.hid hcell
                      have HG : Hid (G0 < w.heap.size ∧ G0 < wr4.heap.size) := Lib.hid ⟨hGw, hG0⟩
                      have HPL := Lib.hid hp
                      have HQ := Lib.hid (And.intro hq (And.intro hqc (And.intro hqo (And.intro hqd hqt))))
                      have HJT := Lib.hid hjt
                      have j0 : (0 : Int) ≤ (j : Int) := by omega
                      have j1 : (j : Int) < (k : Int) := by omega
                      obtain ⟨bj, hbj⟩ : ∃ bj, fb2 j = bj := ⟨_, rfl⟩
                      have hc8 := HJ.out.1.r8.numAt hjt
                      rw [hbj] at hc8
                      have hc8a := hc8.1
                      clear hc8 hcell hGw hG0 hp hq hqc hqo hqd hqt hjt hjl hj hdummy
                      by_cases hct : bj = (t : Int)
                      · have ect : (bj == (t : Int)) = true := by rw [beq_iff_eq]; exact hct
                        have HCT := Lib.hid (HPT2.out.2.1.here HQ.out.1 HF.out (hbj.trans hct))
                        clear hct hbj
                        go_upto_region 39 with fail
                        have HP : ∀ w', Only (fun q => u3.ownBlock = some q) wr4 w' → ∀ k u, p.row[k]? = some u → w'.cell? ⟨G0, O0 + j * 11 + k, none⟩ = some u := fun w' o k u hu => (o.cell HG.out.2 (fun e => by
                          have h1 := HJ.out.1.hown _ e
                          have h2 := HJ.out.1.new
                          have h3 := HG.out.1
                          omega) _).trans (HP1.out k u hu)
                        have HRS := HJ.out.1.res HJT.out
                        have HPR : ∀ w', Only (fun q => u3.ownBlock = some q) wr4 w' → ∀ x u, (rs2 j).row[x]? = some u → w'.cell? ⟨gr, 0 + j * 3 + x, none⟩ = some u := fun w' o x u hu => (o.cell HRS.1 (fun e => by have h1 := HJ.out.1.hown _ e; omega) _).trans (HRS.2.1 x u hu)
                        refine r_begin (S := (fun q => u3.ownBlock = some q)) (by kernel_rfl) ?_
                        have HS : Hid (Only (fun q => u3.ownBlock = some q) wr4 wr4) := Lib.hid (Only.refl _ _)
                        have HN : Hid (Only None' wr4 wr4) := Lib.hid (Only.refl _ _)
                        refine r_take 0 (u3) rfl (by kernel_rfl) (fun _ _ _ h => h) HS.out (YR.pure (by rfl) fun w hw => y_move w rfl rfl) ?_
                        simp only [Act.put, List.setIfInBounds_toArray, List.set_cons_zero, List.set_cons_succ]
                        refine r_take 1 (.slice (some ⟨G0, O0, none⟩) k C0) rfl (by kernel_rfl) (fun _ _ _ h => h) HS.out (YR.pure (by rfl) fun w hw => y_move w rfl rfl) ?_
                        simp only [Act.put, List.setIfInBounds_toArray, List.set_cons_zero, List.set_cons_succ]
                        refine r_take 2 (.int .i64 (j : Int)) rfl (by kernel_rfl) (fun _ _ _ h => h) HS.out (YR.pure (by rfl) fun w hw => y_move w rfl rfl) ?_
                        simp only [Act.put, List.setIfInBounds_toArray, List.set_cons_zero, List.set_cons_succ]
                        refine r_take 3 (.pointer (some ⟨G0, O0 + j * 11, none⟩)) rfl (by kernel_rfl) (fun _ _ _ h => h) HS.out (YR.pure (by rfl) fun w hw => y_ix50 w rfl rfl rfl HJT.out) ?_
                        simp only [Act.put, List.setIfInBounds_toArray, List.set_cons_zero, List.set_cons_succ]
                        refine r_take 4 (.pointer (some ⟨G0, O0 + j * 11 + 0, none⟩)) rfl (by kernel_rfl) (fun _ _ _ h => h) HS.out (YR.pure (by rfl) fun w hw => y_fld73 w rfl rfl (by decide)) ?_
                        simp only [Act.put, List.setIfInBounds_toArray, List.set_cons_zero, List.set_cons_succ]
                        refine r_take 5 (.int .i64 p.client) rfl (by kernel_rfl) (fun _ _ _ h => h) HS.out (YR.pure (by rfl) fun w hw => y_load3 rfl rfl (HP w hw 0 _ rfl)) ?_
                        simp only [Act.put, List.setIfInBounds_toArray, List.set_cons_zero, List.set_cons_succ]
                        refine r_take 6 (.int .u64 (((p.client % 18446744073709551616).toNat : Nat) : Int)) rfl (by kernel_rfl) (fun _ _ _ h => h) HS.out (YR.pure (by rfl) fun w hw => y_conv_u w rfl rfl rfl) ?_
                        simp only [Act.put, List.setIfInBounds_toArray, List.set_cons_zero, List.set_cons_succ]
                        refine r_take 7 (.int .u64 ((um p.client 3 : Nat) : Int)) rfl (by kernel_rfl) (fun _ _ _ h => h) HS.out (YR.pure (by rfl) fun w hw => y_rem (m := (p.client % 18446744073709551616).toNat) (k := 3) w rfl rfl rfl (by decide) (by omega)) ?_
                        simp only [Act.put, List.setIfInBounds_toArray, List.set_cons_zero, List.set_cons_succ]
                        refine r_take 8 (.int .i64 ((um p.client 3 : Nat) : Int)) rfl (by kernel_rfl) (fun _ _ _ h => h) HS.out (YR.pure (by rfl) fun w hw => y_conv_i w rfl rfl (by have := um_lt p.client (k := 3) (by decide); omega)) ?_
                        simp only [Act.put, List.setIfInBounds_toArray, List.set_cons_zero, List.set_cons_succ]
                        refine r_take 9 (.int .i64 (j : Int)) rfl (by kernel_rfl) (fun _ _ _ h => h) HS.out (YR.pure (by rfl) fun w hw => y_move w rfl rfl) ?_
                        simp only [Act.put, List.setIfInBounds_toArray, List.set_cons_zero, List.set_cons_succ]
                        refine r_take 10 (.int .i64 ((j + 1 : Nat) : Int)) rfl (by kernel_rfl) (fun _ _ _ h => h) HS.out (YR.pure (by rfl) fun w hw => y_add w rfl rfl rfl rfl (wrap_nat (by have := HJT.out; have := HL.out.2; omega))) ?_
                        simp only [Act.put, List.setIfInBounds_toArray, List.set_cons_zero, List.set_cons_succ]
                        refine r_take 11 (.slice (some ⟨gr, 0, none⟩) k k) rfl (by kernel_rfl) (fun _ _ _ h => h) HS.out (YR.pure (by rfl) fun w hw => y_move w rfl rfl) ?_
                        simp only [Act.put, List.setIfInBounds_toArray, List.set_cons_zero, List.set_cons_succ]
                        refine r_take 12 (.int .i64 (j : Int)) rfl (by kernel_rfl) (fun _ _ _ h => h) HS.out (YR.pure (by rfl) fun w hw => y_move w rfl rfl) ?_
                        simp only [Act.put, List.setIfInBounds_toArray, List.set_cons_zero, List.set_cons_succ]
                        refine r_take 13 (.pointer (some ⟨gr, 0 + j * 3, none⟩)) rfl (by kernel_rfl) (fun _ _ _ h => h) HS.out (YR.pure (by rfl) fun w hw => y_ix74 w rfl rfl rfl HJT.out) ?_
                        simp only [Act.put, List.setIfInBounds_toArray, List.set_cons_zero, List.set_cons_succ]
                        refine r_take 14 ((rs2 j).v) rfl (by kernel_rfl) (fun _ _ _ h => h) HS.out (YR.pure (by rfl) fun w hw => y_load29' rfl rfl (HPR w hw)) ?_
                        simp only [Act.put, List.setIfInBounds_toArray, List.set_cons_zero, List.set_cons_succ]
                        refine r_take 15 ((backR ((um p.client 3 : Nat) : Int) j (rs2 j)).vv) rfl (by kernel_rfl) (fun _ _ _ h => h) HS.out (YR.pure (by rfl) fun w hw => y_build31 w (backR ((um p.client 3 : Nat) : Int) j (rs2 j)) rfl (by rfl) (built31b _ _ _)) ?_
                        simp only [Act.put, List.setIfInBounds_toArray, List.set_cons_zero, List.set_cons_succ]
                        refine r_one 16 rfl (by kernel_rfl) (by rfl) fun wi oi => ?_
                        refine wp_events [backR ((um p.client 3 : Nat) : Int) j (rs2 j)] _ 1 rfl rfl (by simp) (by simp) (by rfl) fun vs wj he _ oj => ?_
                        have HT2 := Lib.hid (HN.out.trans (oi.trans oj))
                        refine ⟨HS.out.quiet (oi.trans oj), ?_⟩
                        have HSS := Lib.hid (HS.out.quiet (oi.trans oj))
                        simp only [Act.put, List.setIfInBounds_toArray, List.set_cons_zero, List.set_cons_succ]
                        clear HN HS
                        have HN := HT2
                        have HS := HSS
                        have HE := Lib.hid he
                        clear he oi oj HT2 HSS
                        refine r_one 17 rfl (by kernel_rfl) (by rfl) fun wi oi => ?_
                        refine wp_append_ev (l := h2) (l2 := [backR ((um p.client 3 : Nat) : Int) j (rs2 j)]) rfl rfl rfl (HJ.out.1.new_ (HN.out.trans oi)).hrow (HE.out.only oi fun _ _ e => e) (by have h1 := HJ.out.2.2; have h2 := HT.out.2; have h3 := HJT.out; have h4 := HL.out.2; simp; omega) fun v5 w5 hv5 hg5 hf5 => ?_
                        have HJ5 := Lib.hid ((HJ.out.1.new_ (HN.out.trans oi)).app hv5 hg5 hf5)
                        have HS5 := Lib.hid ((HS.out.quiet oi).grown hg5 fun k hk => hk)
                        refine ⟨HS5.out, ?_⟩
                        simp only [Act.put, List.setIfInBounds_toArray, List.set_cons_zero, List.set_cons_succ]
                        clear HS
                        have HS := HS5
                        clear hv5 hg5 hf5 oi HS5
                        refine r_take 18 (v5) rfl (by kernel_rfl) (fun _ _ _ h => h) HS.out (YR.pure (by rfl) fun w hw => y_assign w rfl rfl) ?_
                        simp only [Act.put, List.setIfInBounds_toArray, List.set_cons_zero, List.set_cons_succ]
                        refine r_done (by kernel_rfl) fun wz oz => ?_
                        have HJ6 := Lib.hid (HJ5.out.new_ oz)
                        clear HS HN oz HJ5
                        go_wp2_with fail
                        go_roundw
                        case rel => exact ⟨j + 1, h2 ++ [q.backEv j (rs2 j)], by have := HJT.out; omega, next_int (by have := HL.out.2; have := HJT.out; omega), Lib.hid ⟨by rw [backEv_eq HQ.out.2.1]; exact HJ6.out, HJ.out.2.1.back HF.out HQ.out.1 HCT.out.1 HCT.out.2.1 HCT.out.2.2.1 HCT.out.2.2.2, by have := HJ.out.2.2; rw [List.length_append, List.length_singleton]; omega⟩⟩
                        case measure => exact meas HJT.out (by have := HL.out.2; omega)
                      · have ect : (bj == (t : Int)) = false := by rw [beq_eq_false_iff_ne]; exact hct
                        have HCT := Lib.hid (HPT2.out.2.1.away HQ.out.1 (fun e => hct (hbj.symm.trans e)))
                        clear hct hbj
                        go_wp2_with fail
                        go_roundw
                        case rel => exact ⟨j + 1, h2, by have := HJT.out; omega, next_int (by have := HL.out.2; have := HJT.out; omega), Lib.hid ⟨HJ.out.1, HJ.out.2.1.back_no HQ.out.1 HCT.out, by have := HJ.out.2.2; omega⟩⟩
                        case measure => exact meas HJT.out (by have := HL.out.2; omega)
                    · obtain rfl : j = k := by omega
                      have HPT3 : Hid (PA ps (t + 1) 0 0 0 h2 (fun key => findP key m2) rs2) := Lib.hid (by have h1 := HJ.out.2.1; rw [← HPN.out] at h1; exact h1.next)
                      clear hjt hj
                      go_wp2_with fail
                      go_roundw
                      case rel => exact ⟨t + 1, fb2, h2, m2, rs2, by have := HT.out.1; omega, next_int (by have := HT.out.2; omega), Lib.hid ⟨HJ.out.1, HPT3.out, HPT2.out.2.1.next, by have := HMK.out; omega, by have h1 := HJ.out.2.2; have h2 := HL.out.2; omega⟩⟩
                      case measure =>
                        have := HT.out
                        rw [next_int (by omega)]
                        simp only [intOf]
                        omega
        · obtain rfl : t = 15 * i + 15 := by omega
          have e0 : ((15 * i + 15 : Nat) : Int) = 15 * (i : Int) + 15 := by omega
          rw [e0]
          clear hlt ht
          go_wp2_with fail
          go_ret
          exact ⟨_, h, _, rs, _, rfl, HI.out.1.hrow, fun g hg => by have h1 := HI.out.1.hown g hg; have h2 := HI.out.1.new; omega, HI.out.1.only, by rw [← HPS.out]; exact HI.out.2.1⟩
end Go.Proofs.Ytajbagdgjbihjaa
