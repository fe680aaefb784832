/- S8 + S9 in one text. -/
import Derived.Test.YtajbagdgjbihjaaT2
import Derived.Test.YtajbagdgjbihjaaM4
import Derived.Deep.RegionHeld3
/- LinearChecks (4): plain laws. -/
namespace Go.Proofs.Ytajbagdgjbihjaa
open Go.RowKit Go.Maps Go.Sort Go.WideShapes
set_option linter.unusedVariables false

theorem kind_pos {k : Int} (h : (Lit.int .u8 k).wf = true) : 0 ≤ k := by
  unfold Lit.wf at h
  simp only [Bool.and_eq_true, decide_eq_true_eq] at h
  exact h.1
set_option maxRecDepth 20000 in
theorem open_events_k {H : Type} {enc : TypeId × Value → H} {W : World} {base : Nat} {v : Value} {d : DataW H} {ps : List MemPlace}
    (hok : Value.okWide Try.prog W .any base 34 v) (hd : DataW.Trod enc Try.prog W 0 (fun _ => true) true 34 v d ps) (hw : ∀ n ∈ d.weights Try.prog 34, n ≤ reachBytes) :
    ∃ a len cap l, v = .slice a len cap ∧ ER W (.slice a len cap) l ∧ ∀ e ∈ l, ((Wf e.client ∧ Wf e.id) ∧ e.key.size ≤ maxLen) ∧ 0 ≤ e.kind := by
  obtain ⟨a, len, cap, rfl, hle, hn, hb, hc, hm, hat⟩ := open_nest under34 c31 hok hd hw
  have key : ∀ j, j < len → ∃ e : Ev, (((Wf e.client ∧ Wf e.id) ∧ e.key.size ≤ maxLen) ∧ 0 ≤ e.kind) ∧ ∃ b off, a = some ⟨b, off, none⟩ ∧ ∀ i u, e.row[i]? = some u → W.cell? ⟨b, off + j * 12 + i, none⟩ = some u := by
    intro j hj
    obtain ⟨b, off, rfl, hf⟩ := hat j hj
    obtain ⟨v0, k0, s0⟩ := hf 0 3 (by omega) e0
    obtain ⟨v1, k1, s1⟩ := hf 1 3 (by omega) e1
    obtain ⟨v2, k2, s2⟩ := hf 2 3 (by omega) e2
    obtain ⟨v3, k3, s3⟩ := hf 3 4 (by omega) e3
    obtain ⟨v4, k4, s4⟩ := hf 4 5 (by omega) (eO (by omega) o0)
    obtain ⟨v5, k5, s5⟩ := hf 5 9 (by omega) (eO (by omega) o1)
    obtain ⟨v6, k6, s6⟩ := hf 6 9 (by omega) (eO (by omega) o2)
    obtain ⟨v7, k7, s7⟩ := hf 7 9 (by omega) (eO (by omega) o3)
    obtain ⟨v8, k8, s8⟩ := hf 8 4 (by omega) (eO (by omega) o4)
    obtain ⟨v9, k9, s9⟩ := hf 9 5 (by omega) (eR (by omega) r0)
    obtain ⟨va, ka, sa⟩ := hf 10 4 (by omega) (eR (by omega) r1)
    obtain ⟨vb, kb, sb⟩ := hf 11 9 (by omega) (eR (by omega) r2)
    obtain ⟨n0, rfl, w0⟩ := s0.int _ Try.underlying3
    obtain ⟨n1, rfl, w1⟩ := s1.int _ Try.underlying3
    obtain ⟨n2, rfl, _⟩ := s2.int _ Try.underlying3
    obtain ⟨n3, rfl⟩ := s3.bool Try.underlying4
    obtain ⟨n4, rfl, w4⟩ := s4.int _ Try.underlying5
    obtain ⟨n5, rfl, w5⟩ := s5.string Try.underlying9
    obtain ⟨n6, rfl, _⟩ := s6.string Try.underlying9
    obtain ⟨n7, rfl, _⟩ := s7.string Try.underlying9
    obtain ⟨n8, rfl⟩ := s8.bool Try.underlying4
    obtain ⟨n9, rfl, _⟩ := s9.int _ Try.underlying5
    obtain ⟨na, rfl⟩ := sa.bool Try.underlying4
    obtain ⟨nb, rfl, _⟩ := sb.string Try.underlying9
    refine ⟨⟨n0, n1, n2, n3, n4, n5, n6, n7, n8, n9, na, nb⟩, ⟨⟨⟨w0, w1⟩, Nat.le_trans w5 (by rw [reach_eq]; unfold maxLen; omega)⟩, kind_pos w4⟩, b, off, rfl, fun i u hu => ?_⟩
    have hi : i < 12 := (List.getElem?_eq_some_iff.1 hu).1
    rcases i with _ | _ | _ | _ | _ | _ | _ | _ | _ | _ | _ | _ | i
    all_goals first
      | (injection hu with hu; subst hu; assumption)
      | omega
  obtain ⟨l, hl, hp⟩ := list_of _ len key
  refine ⟨a, len, cap, l, rfl, ⟨?_⟩, fun e he => by
    obtain ⟨j, hj, rfl⟩ := List.getElem_of_mem he
    exact (hp j hj).1⟩
  cases a with
  | none =>
    obtain ⟨rfl, rfl⟩ := hn rfl
    exact .inl ⟨rfl, List.eq_nil_of_length_eq_zero hl⟩
  | some x =>
    obtain ⟨hs, hlt⟩ := hb x rfl
    obtain ⟨b, off, s⟩ := x
    simp only at hs hlt
    subst hs
    refine .inr ⟨b, off, cap, by rw [hl], by omega, hm, hlt, fun j u hu => ?_⟩
    have hlen : (l.flatMap Ev.row).length = l.length * 12 := flat_length Ev.row 12 l fun x _ => rfl
    have hj := (List.getElem?_eq_some_iff.1 hu).1
    rw [hlen] at hj
    obtain ⟨_, b', off', e, h⟩ := hp (j / 12) (by omega)
    injection e with e
    injection e with e1 e2
    subst e1 e2
    have hq : j / 12 < l.length := by omega
    have h2 := flat_at Ev.row 12 l (j / 12) (fun y _ => rfl) hq (j % 12)
    have hr : (l[j / 12]).row[j % 12]? = some ((l[j / 12]).row[j % 12]'(by rw [Ev.row_length]; omega)) := List.getElem?_eq_getElem _
    have h3 := h2 _ hr
    have ej : j / 12 * 12 + j % 12 = j := by omega
    rw [ej, hu] at h3
    injection h3 with h3
    have h4 := h (j % 12) _ hr
    rw [← h3, Nat.add_assoc, ej] at h4
    exact h4

/-- the operations' kinds -/
theorem dop_op (h : List Ev) (i : Nat) (e : Ev) : (dop h i e).op = e.o5 := by
  unfold dop
  split
  · rfl
  · split <;> rfl
theorem fix_op {o o' : Opn} (h : o.fix = some o') : o'.op = o.op := by
  unfold Opn.fix at h
  split at h
  · cases h
  · split at h
    · injection h with h
      subst h
      rfl
    · injection h with h
      subst h
      rfl
theorem kinds {h : List Ev} {all : List Opn} (hr : opRun [] 0 h = some all) (hk : ∀ e ∈ h, 0 ≤ e.kind) : ∀ o ∈ all.filterMap Opn.fix, 0 ≤ o.op.kind := fun o ho => by
  rw [dops_all hr] at ho
  obtain ⟨x, hx, hxo⟩ := List.mem_filterMap.1 ho
  rw [fix_op hxo]
  unfold dops at hx
  obtain ⟨p, _, hp⟩ := List.mem_filterMap.1 hx
  unfold dopAt at hp
  cases he : h[p]? with
  | none => rw [he] at hp; cases hp
  | some e =>
    rw [he] at hp
    simp only at hp
    cases hb : e.back with
    | true => rw [hb] at hp; cases hp
    | false =>
      rw [hb] at hp
      simp only [Bool.false_eq_true, if_false] at hp
      injection hp with hp
      subst hp
      rw [dop_op]
      exact hk e (List.mem_of_getElem? he)
/-- one operation's name is spoiled -/
theorem setId {w : World} {g off cap n : Nat} {l : List Opn} (h : Vec w 12 (.slice (some ⟨g, off, none⟩) n cap) n (l.flatMap Opn.row)) {j : Nat} {o : Opn} (ho : l[j]? = some o) (hn : n = l.length) (k : Int) : Vec (w.setCell ⟨g, off + j * 12 + 1, none⟩ (.int .i64 k)) 12 (.slice (some ⟨g, off, none⟩) n cap) n ((l.set j { o with id := k }).flatMap Opn.row) := by
  have hj := (List.getElem?_eq_some_iff.1 ho).1
  have ho' := (List.getElem?_eq_some_iff.1 ho).2
  have h1 : Vec (w.setCells g (off + (j * 12 + 1)) [.int .i64 k]) 12 (.slice (some ⟨g, off, none⟩) n cap) n _ := h.put (o := j * 12 + 1) (vs := [.int .i64 k]) (by show j * 12 + 1 + 1 ≤ n * 12; omega)
  have e1 : off + (j * 12 + 1) = off + j * 12 + 1 := by omega
  have hr : (({ o with id := k } : Opn).row) = [.int .i64 o.cl, .int .i64 k, .int .i64 o.fr, .int .i64 o.til, .int .u8 o.op.kind, .string o.op.key, .string o.op.val, .string o.op.old, .bool o.op.had, .int .u8 o.res.kind, .bool o.res.found, .string o.res.val] := rfl
  have hxs : ((l.set j { o with id := k }).flatMap Opn.row) = ((l.flatMap Opn.row).take (j * 12 + 1) ++ ([.int .i64 k] : List Value) ++ (l.flatMap Opn.row).drop (j * 12 + 1 + 1)) := by
    have hs : l = l.take j ++ o :: l.drop (j + 1) := by
      conv => lhs; rw [← List.take_append_drop j l]
      rw [← ho', List.drop_eq_getElem_cons hj]
    have hset : l.set j { o with id := k } = l.take j ++ { o with id := k } :: l.drop (j + 1) := by
      rw [List.set_eq_take_append_cons_drop, if_pos hj]
    have hA : ((l.take j).flatMap Opn.row).length = j * 12 := by
      rw [flat_length Opn.row 12 _ fun _ _ => rfl, List.length_take]
      omega
    rw [hset]
    conv => rhs; rw [hs]
    simp only [List.flatMap_append, List.flatMap_cons, hr]
    obtain ⟨A, hAe⟩ : ∃ A, A = (l.take j).flatMap Opn.row := ⟨_, rfl⟩
    obtain ⟨B, hBe⟩ : ∃ B, B = (l.drop (j + 1)).flatMap Opn.row := ⟨_, rfl⟩
    rw [← hAe, ← hBe]
    rw [← hAe] at hA
    have t1 : ∀ (R : List Value) (i : Nat), (A ++ R).take (j * 12 + i) = A ++ R.take i := fun R i => by rw [← hA, List.take_length_add_append]
    have t2 : ∀ (R : List Value) (i : Nat), (A ++ R).drop (j * 12 + i) = R.drop i := fun R i => by rw [← hA, List.drop_length_add_append]
    simp only [Opn.row, Nat.add_assoc, List.append_assoc, t1, t2]
    simp
  have hw : (w.setCells g (off + (j * 12 + 1)) [.int .i64 k]) = (w.setCell ⟨g, off + j * 12 + 1, none⟩ (.int .i64 k)) := by
    show (w.setCell ⟨g, off + (j * 12 + 1), none⟩ _) = _
    rw [e1]
  rw [hxs, ← hw]
  exact h1
/-- the first loop's state: the rows of both, one of them spoiled -/
structure CK (w wr : World) (l : List Ev) (L S : List Opn) (j : Nat) (v0 v4 v6 : Value) : Prop where
  only : Only None' w wr
  h : ER wr v0 l
  doc : OR wr v4 L
  ops : Vec wr 12 v6 L.length (S.flatMap Opn.row)
  len : S.length = L.length
  rest : ∀ k, j ≤ k → S[k]? = L[k]?
  new : ∀ g, v6.ownBlock = some g → w.heap.size ≤ g ∧ v0.ownBlock ≠ some g ∧ v4.ownBlock ≠ some g
section
variable {w wr w1 : World} {l : List Ev} {L S : List Opn} {j : Nat} {v0 v4 v6 : Value}
theorem CK.new_ (h : CK w wr l L S j v0 v4 v6) (o : Only None' wr w1) : CK w w1 l L S j v0 v4 v6 :=
  ⟨h.only.trans o, h.h.only o fun _ _ e => e, h.doc.only o fun _ _ e => e, h.ops.only o fun _ _ e => e, h.len, h.rest, h.new⟩
theorem CK.at_ (h : CK w wr l L S j v0 v4 v6) {o : Opn} (ho : L[j]? = some o) : ∃ g off c, v6 = .slice (some ⟨g, off, none⟩) L.length c ∧ g < wr.heap.size ∧ (∀ i u, o.row[i]? = some u → wr.cell? ⟨g, off + j * 12 + i, none⟩ = some u) ∧ ∀ i, i < 12 → wr.frozen? ⟨g, off + j * 12 + i, none⟩ = false := by
  have hj := (List.getElem?_eq_some_iff.1 ho).1
  have hs : S[j]? = some o := (h.rest j (Nat.le_refl _)).trans ho
  have hjS := (List.getElem?_eq_some_iff.1 hs).1
  have hso := (List.getElem?_eq_some_iff.1 hs).2
  obtain ⟨g, off, c, e, h1, h2, h3, h4, h5⟩ := h.ops.at_ (by omega)
  refine ⟨g, off, c, e, h3, fun i u hu => ?_, fun i hi => ?_⟩
  · rw [Nat.add_assoc]
    exact h4 _ u (flat_at Opn.row 12 S j (fun _ _ => rfl) hjS i u (by rw [hso]; exact hu))
  · rw [Nat.add_assoc]
    exact (h5 _ (by omega)).2
theorem CK.spoil {g off c m : Nat} (h : CK w wr l L S j v0 v4 (.slice (some ⟨g, off, none⟩) m c)) (hm : m = L.length) (hj : j < m) (k : Int) : ∃ S', CK w (wr.setCell ⟨g, off + j * 12 + 1, none⟩ (.int .i64 k)) l L S' (j + 1) v0 v4 (.slice (some ⟨g, off, none⟩) m c) := by
  subst hm
  have hs : S[j]? = some (S[j]'(by rw [h.len]; exact hj)) := List.getElem?_eq_getElem _
  have oo : Only (fun q => q = g) wr (wr.setCell ⟨g, off + j * 12 + 1, none⟩ (.int .i64 k)) := (Only.refl (fun q => q = g) wr).setCell (p := ⟨g, off + j * 12 + 1, none⟩) rfl _
  obtain ⟨n1, n2, n3⟩ := h.new g rfl
  refine ⟨_, h.only.fresh n1 oo, h.h.only oo fun q hq e => n2 (e ▸ hq), h.doc.only oo fun q hq e => n3 (e ▸ hq), setId h.ops hs h.len.symm k, by rw [List.length_set]; exact h.len, fun q hq => ?_, h.new⟩
  rw [List.getElem?_set_ne (by omega)]
  exact h.rest q (by omega)
end
/-- the second loop, plainly -/
def fullD (L : List Opn) (ks : List Str) (j : Nat) : Bool := (ks.take j).any fun k => decide (14 < (byKey L (bk k)).length)
def smallD (L : List Opn) (ks : List Str) (j : Nat) : Bool := (ks.take j).all fun k => decide ((byKey L (bk k)).length ≤ 7)
def wantD (L : List Opn) (ks : List Str) (j : Nat) : Bool := (ks.take j).all fun k => decide (7 < (byKey L (bk k)).length) || couldB (byKey L (bk k))
section
variable {L : List Opn} {ks : List Str} {j : Nat} {k : Str}
theorem fullD_next (h : ks[j]? = some k) : fullD L ks (j + 1) = (fullD L ks j || decide (14 < (byKey L (bk k)).length)) := by
  unfold fullD
  rw [tk_next h, List.any_append]
  simp
theorem smallD_next (h : ks[j]? = some k) : smallD L ks (j + 1) = (smallD L ks j && decide ((byKey L (bk k)).length ≤ 7)) := by
  unfold smallD
  rw [tk_next h, List.all_append]
  simp
theorem wantD_next (h : ks[j]? = some k) : wantD L ks (j + 1) = (wantD L ks j && (decide (7 < (byKey L (bk k)).length) || couldB (byKey L (bk k)))) := by
  unfold wantD
  rw [tk_next h, List.all_append]
  simp
end
/-- the answer at the end -/
theorem checks_end {l : List Ev} {all : List Opn} (hr : opRun [] 0 l = some all) {m : Nat} (hm : m = (insAll (calls l)).length) :
    (fullD (all.filterMap Opn.fix) (insAll (calls l)) m = true → checkOf l = (false, 3)) ∧
    (fullD (all.filterMap Opn.fix) (insAll (calls l)) m = false → (checkOf l).2 = 0 ∧ (smallD (all.filterMap Opn.fix) (insAll (calls l)) m = true → (checkOf l).1 = wantD (all.filterMap Opn.fix) (insAll (calls l)) m) ∧ ((checkOf l).1 = true → wantD (all.filterMap Opn.fix) (insAll (calls l)) m = true)) := by
  subst hm
  obtain ⟨L, hL⟩ : ∃ L, L = all.filterMap Opn.fix := ⟨_, rfl⟩
  rw [← hL]
  unfold fullD smallD wantD
  rw [List.take_length]
  have h2 := key_by_key (keys := keysOf l) (l := L) keysOf_mem hr hL
  unfold keysOf at h2
  rw [List.any_map, List.all_map] at h2
  have h3 : ∀ k, (checkOf (ofl k l)) = if 14 < (byKey L k).length then (false, 3) else (couldB (byKey L k), 0) := fun k => check_part hr hL
  have h4 : ((insAll (calls l)).any ((fun k => decide ((checkOf (ofl k l)).2 = 3)) ∘ bk)) = (insAll (calls l)).any fun k => decide (14 < (byKey L (bk k)).length) := by
    congr 1
    funext k
    show decide ((checkOf (ofl (bk k) l)).2 = 3) = _
    rw [h3, decide_eq_decide]
    split
    · next h => exact ⟨fun _ => h, fun _ => rfl⟩
    · next h => exact ⟨fun h0 => absurd (show (0 : Int) = 3 from h0) (by decide), fun h0 => absurd h0 h⟩
  rw [h4] at h2
  refine ⟨fun hf => by rw [h2, hf]; rfl, fun hf => ?_⟩
  rw [h2, hf]
  simp only [Bool.false_eq_true, if_false]
  have h5 : ∀ k ∈ insAll (calls l), (checkOf (ofl (bk k) l)).1 = couldB (byKey L (bk k)) := fun k hk => by
    rw [h3, if_neg]
    intro h6
    have : (insAll (calls l)).any (fun k => decide (14 < (byKey L (bk k)).length)) = true := List.any_eq_true.2 ⟨k, hk, decide_eq_true h6⟩
    rw [hf] at this
    cases this
  refine ⟨trivial, fun hs => ?_, fun ha => ?_⟩
  · have hs' := List.all_eq_true.1 hs
    rw [Bool.eq_iff_iff, List.all_eq_true, List.all_eq_true]
    constructor
    · intro h k hk
      have := h k hk
      simp only [Function.comp] at this
      rw [h5 k hk] at this
      rw [this, Bool.or_true]
    · intro h k hk
      have h6 := h k hk
      have h7 := of_decide_eq_true (hs' k hk)
      rw [decide_eq_false (by omega), Bool.false_or] at h6
      simp only [Function.comp]
      rw [h5 k hk]
      exact h6
  · rw [List.all_eq_true] at ha ⊢
    intro k hk
    have := ha k hk
    simp only [Function.comp] at this
    rw [h5 k hk] at this
    rw [this, Bool.or_true]
theorem check_none {l : List Ev} (h : opsOf l = none) : checkOf l = (false, 4) := by
  unfold checkOf
  rw [h]
theorem ops_some {l : List Ev} {L : List Opn} (h : opsOf l = some L) : ∃ all, opRun [] 0 l = some all ∧ L = all.filterMap Opn.fix := by
  unfold opsOf at h
  cases hr : opRun [] 0 l with
  | none => rw [hr] at h; cases h
  | some all =>
    rw [hr] at h
    injection h with h
    exact ⟨all, rfl, h.symm⟩
theorem byKey_few (L : List Opn) (key : ByteArray) : (byKey L key).length ≤ L.length := List.length_filter_le _ _
theorem byKey_sub {L : List Opn} {key : ByteArray} {o : Opn} (h : o ∈ byKey L key) : o ∈ L := (List.mem_filter.1 h).1
theorem doc_few {l : List Ev} {L : List Opn} (h : opsOf l = some L) : L.length ≤ l.length := by
  obtain ⟨all, hr, hL⟩ := ops_some h
  rw [doc_ops hr] at h
  injection h with h
  rw [← h]
  exact docOut_len (Nat.le_refl _)
end Go.Proofs.Ytajbagdgjbihjaa
/- LinearChecks (4): the walk. -/
namespace Go.Proofs.Ytajbagdgjbihjaa
open Go.RowKit Go.Maps Go.Sort
set_option linter.unusedVariables false

theorem flat_ev (l : List Ev) : ∀ u ∈ l.flatMap Ev.row, u.oneCell' = true := fun u hu => by
  obtain ⟨e, _, h⟩ := List.mem_flatMap.1 hu
  exact Ev.row_one e u h
section
variable {w : World} {v : Value} {l : List Ev} {L : List Opn}
theorem docops_none (h : ER w v l) (hl : l.length ≤ 150) (ho : opsOf l = none) : Calls Try.prog 14 #[v] w fun e w' => e = .returned (.tuple #[.slice none 0 0, .bool false]) ∧ Only None' w w' := (docops_any h hl).mono fun e w' hd => by
  unfold DocEnd at hd
  rw [ho] at hd
  exact ⟨hd.2, hd.1⟩
theorem docops_some (h : ER w v l) (hl : l.length ≤ 150) (ho : opsOf l = some L) : Calls Try.prog 14 #[v] w fun e w' => ∃ a c, e = .returned (.tuple #[.slice a L.length c, .bool true]) ∧ OR w' (.slice a L.length c) L ∧ Only None' w w' := (docops_any h hl).mono fun e w' hd => by
  unfold DocEnd at hd
  rw [ho] at hd
  obtain ⟨v', e1, hr⟩ := hd.2
  have hv := or_vec hr.row
  obtain ⟨a, c, rfl⟩ := hv.shape
  exact ⟨a, c, e1, hv, hd.1⟩
theorem mops_none (h : ER w v l) (hl : l.length ≤ 150) (hw : ∀ e ∈ l, Wf e.client ∧ Wf e.id) (ho : opsOf l = none) : Calls Try.prog 13 #[v] w fun e w' => e = .returned (.tuple #[.slice none 0 0, .int .i64 4]) ∧ Only None' w w' := (ops_any h (Nat.le_trans hl (by decide)) hw).mono fun e w' hd => by
  unfold OpsEnd at hd
  rw [ho] at hd
  exact ⟨hd.2, hd.1⟩
theorem mops_some (h : ER w v l) (hl : l.length ≤ 150) (hw : ∀ e ∈ l, Wf e.client ∧ Wf e.id) (ho : opsOf l = some L) : Calls Try.prog 13 #[v] w fun e w' => ∃ a c, e = .returned (.tuple #[.slice a L.length c, .int .i64 0]) ∧ Vec w' 12 (.slice a L.length c) L.length (L.flatMap Opn.row) ∧ (∀ g, (Value.slice a L.length c).ownBlock = some g → w.heap.size ≤ g) ∧ Only None' w w' := (ops_any h (Nat.le_trans hl (by decide)) hw).mono fun e w' hd => by
  unfold OpsEnd at hd
  rw [ho] at hd
  obtain ⟨v', e1, hv, hn⟩ := hd.2
  obtain ⟨a, c, rfl, _, _⟩ := hv.shape
  exact ⟨a, c, e1, hv, hn, hd.1⟩
end
/-- the second loop's state -/
structure CL (w wr : World) (L : List Opn) (v4 v12 : Value) (ks : List Str) : Prop where
  only : Only None' w wr
  doc : OR wr v4 L
  keys : Vec wr 1 v12 ks.length (ks.map encStr)
theorem CL.new_ {w wr w1 : World} {L : List Opn} {v4 v12 : Value} {ks : List Str} (h : CL w wr L v4 v12 ks) (o : Only None' wr w1) : CL w w1 L v4 v12 ks := ⟨h.only.trans o, h.doc.only o fun _ _ e => e, h.keys.only o fun _ _ e => e⟩
theorem CL.at_ {w wr : World} {L : List Opn} {v4 : Value} {a : Option Addr} {n c : Nat} {ks : List Str} (h : CL w wr L v4 (.slice a n c) ks) {j : Nat} {k : Str} (hk : ks[j]? = some k) : ∃ g off, a = some ⟨g, off, none⟩ ∧ wr.cell? ⟨g, off + j, none⟩ = some (encStr k) := by
  have hj := (List.getElem?_eq_some_iff.1 hk).1
  obtain ⟨g, off, c', e, h0, _, _, h4, h5⟩ := h.keys.at_ (by omega)
  injection e with e
  exact ⟨g, off, e, h4 j _ (by rw [List.getElem?_map, hk]; rfl)⟩
theorem CL.by_ {w wr : World} {L : List Opn} {v4 v12 : Value} {ks : List Str} (h : CL w wr L v4 v12 ks) (hl : L.length ≤ 150) (k : Str) : Calls Try.prog 17 #[v4, encStr k] wr fun e w' => ∃ a c, e = .returned (.slice a (byKey L (bk k)).length c) ∧ OR w' (.slice a (byKey L (bk k)).length c) (byKey L (bk k)) ∧ CL w w' L v4 v12 ks :=
  (rby_any h.doc (Nat.le_trans hl (by decide)) (bk k)).mono fun e w' ⟨v, e1, h1⟩ => by
    have hv := or_vec h1.row
    obtain ⟨a, c, rfl⟩ := hv.shape
    exact ⟨a, c, e1, hv, h.new_ h1.only⟩
set_option maxRecDepth 20000 in
set_option maxHeartbeats 4000000 in
theorem checks_walk (a : Option Addr) (len k : Nat) (l : List Ev) (w : World) (h : ER w (.slice a len k) l) (hw : ∀ e ∈ l, ((Wf e.client ∧ Wf e.id) ∧ e.key.size ≤ maxLen) ∧ 0 ≤ e.kind) : Calls Try.prog 4 #[.slice a len k] w fun e w' => e = .returned (.bool true) ∧ Below w.heap.size w w' := by
  obtain rfl : len = l.length := by
    rcases h.form with ⟨e, rfl⟩ | ⟨g, off, cap, e, _⟩
    · injection e with _ e _
    · injection e with _ e _
  have H := Lib.hid h
  have HW := Lib.hid hw
  obtain ⟨n, hn⟩ : ∃ n, n = l.length := ⟨_, rfl⟩
  have HN := Lib.hid hn
  rw [← hn] at H ⊢
  clear h hw hn
  by_cases hbig : 150 < n
  · have d1 : decide ((150 : Int) < (n : Int)) = true := by rw [decide_eq_true_eq]; omega
    have d2 : decide (150 < n) = true := by rw [decide_eq_true_eq]; omega
    have i1 : (150 : Int) < (n : Int) := by omega
    go_enter Try.func4, Try.ntmps4
    go_wp2_with fail
    go_ret
    exact ⟨rfl, Below.refl _ _⟩
  have d1 : decide ((150 : Int) < (n : Int)) = false := by rw [decide_eq_false_iff_not]; omega
  have d2 : decide (150 < n) = false := by rw [decide_eq_false_iff_not]; omega
  have HB : Hid (n ≤ 150) := Lib.hid (by omega)
  have HL : Hid (l.length ≤ 150) := Lib.hid (by rw [← HN.out]; exact HB.out)
  obtain ⟨z31, hz31, hzs31⟩ := zero31
  have HB31 := Lib.hid t31_bytes
  clear hbig
  obtain ⟨cb, hcb⟩ : ∃ cb, (checkOf l).1 = cb := ⟨_, rfl⟩
  obtain ⟨cc, hcc⟩ : ∃ cc, (checkOf l).2 = cc := ⟨_, rfl⟩
  have HC := Lib.hid (And.intro hcb hcc)
  have HCK : Hid (∀ w' v, ER w' v l → Calls Try.prog 10 #[v] w' fun e w'' => e = .returned (.tuple #[.bool cb, .int .i64 cc]) ∧ Only None' w' w'') := Lib.hid fun w' v hv => by
    rw [← hcb, ← hcc]
    exact check_any hv (Nat.le_trans HL.out (by decide)) fun e he => ⟨(HW.out e he).1.1.1, (HW.out e he).1.1.2, (HW.out e he).1.2⟩
  clear hcb hcc
  go_enter Try.func4, Try.ntmps4
  go_upto_region 3 with fail
  go_wp2_with (at_builtin; refine wpList_append_any rfl _ _ 34 rfl 31 Try.t31 z31 12 Try.t31.bytes under34 info31 hz31 t31_size rfl hzs31 (by decide) (.slice (some ⟨w.heap.size, 0, none⟩) 0 0) 0 [] rfl (empty_row w 31 12) (.slice a n k) n (l.flatMap Ev.row) rfl (by have h1 := (H.out.only ((Only.refl None' w).alloc (.cells #[] 31)) fun _ _ e => e).rd; rw [← HN.out] at h1; exact h1) (flat_ev l) (by have := HB.out; unfold maxLen; omega) (by have h1 := HB.out; have h2 := HB31.out; have : (0 + n) * Try.t31.bytes ≤ 150 * 200 := Nat.mul_le_mul (by omega) h2; omega) ?_; intro vi w1 hv1 hg1 hf1; rw [Nat.zero_add, List.nil_append] at hv1; obtain ⟨ia, ic, rfl, _, _⟩ := hv1.shape; have L1 : Hid (LH w w1 (.slice ia n ic) (.slice a n k) l) := Lib.hid (by have o : Only None' w w1 := ((Only.refl None' w).alloc (.cells #[] 31)).trans2 ((Only.refl (fun q => q = w.heap.size) _).grown hg1 fun k e => by injection e with e; exact e.symm) (fun q hq e => by omega); exact ⟨o, by rw [HN.out] at hv1 ⊢; exact er_of_vec hv1, H.out.only o fun _ _ e => e⟩); clear hv1 hg1 hf1)
  cases ho : opsOf l with
  | none =>
    have HO := Lib.hid ho
    obtain rfl : cb = false := by rw [← HC.out.1, check_none ho]
    obtain rfl : cc = 4 := by rw [← HC.out.2, check_none ho]
    clear ho
    refine (docops_none L1.out.h HL.out HO.out).mono ?_
    rintro e w2 ⟨rfl, o2⟩
    have L2 : Hid (LH w w2 (.slice ia n ic) (.slice a n k) l) := Lib.hid ⟨L1.out.only.trans o2, L1.out.i.only o2 fun _ _ e => e, L1.out.h.only o2 fun _ _ e => e⟩
    clear o2 L1
    go_wp2_with fail
    refine (mops_none L2.out.i HL.out (fun e he => (HW.out e he).1.1) HO.out).mono ?_
    rintro e w3 ⟨rfl, o3⟩
    have L3 : Hid (LH w w3 (.slice ia n ic) (.slice a n k) l) := Lib.hid ⟨L2.out.only.trans o3, L2.out.i.only o3 fun _ _ e => e, L2.out.h.only o3 fun _ _ e => e⟩
    clear o3 L2
    go_wp2_with fail
    refine (HCK.out _ _ L3.out.i).mono ?_
    rintro e w4 ⟨rfl, o4⟩
    have L4 : Hid (LH w w4 (.slice ia n ic) (.slice a n k) l) := Lib.hid ⟨L3.out.only.trans o4, L3.out.i.only o4 fun _ _ e => e, L3.out.h.only o4 fun _ _ e => e⟩
    clear o4 L3
    go_wp2_with fail
    refine (events_any L4.out.i L4.out.h (Nat.le_trans HL.out (by decide))).mono ?_
    rintro e w5 ⟨rfl, o5⟩
    have O5 := Lib.hid (L4.out.only.trans o5)
    clear o5 L4
    go_wp2_with fail
    go_ret
    exact ⟨rfl, O5.out.below (Nat.le_refl _) fun k e => e.elim⟩
  | some L =>
    have HO := Lib.hid ho
    have HLL : Hid (L.length ≤ 150) := Lib.hid (Nat.le_trans (doc_few ho) HL.out)
    obtain ⟨all, hr, hL⟩ := ops_some ho
    have HR := Lib.hid (And.intro hr hL)
    have HKD : Hid (∀ o ∈ L, 0 ≤ o.op.kind) := Lib.hid (by rw [hL]; exact kinds hr fun e he => (HW.out e he).2)
    obtain ⟨m, hm⟩ : ∃ m, m = L.length := ⟨_, rfl⟩
    have HM := Lib.hid hm
    clear ho hr hL hm
    refine (docops_some L1.out.h HL.out HO.out).mono ?_
    rintro e w2 ⟨a4, c4, rfl, hdoc, o2⟩
    have L2 : Hid (LH w w2 (.slice ia n ic) (.slice a n k) l) := Lib.hid ⟨L1.out.only.trans o2, L1.out.i.only o2 fun _ _ e => e, L1.out.h.only o2 fun _ _ e => e⟩
    rw [← HM.out] at hdoc ⊢
    have HD2 := Lib.hid hdoc
    clear o2 L1 hdoc
    go_wp2_with fail
    refine (mops_some L2.out.i HL.out (fun e he => (HW.out e he).1.1) HO.out).mono ?_
    rintro e w3 ⟨a6, c6, rfl, hops, hnew, o3⟩
    have L3 : Hid (LH w w3 (.slice ia n ic) (.slice a n k) l) := Lib.hid ⟨L2.out.only.trans o3, L2.out.i.only o3 fun _ _ e => e, L2.out.h.only o3 fun _ _ e => e⟩
    have HD3 := Lib.hid (HD2.out.only o3 fun _ _ e => e)
    rw [← HM.out] at hops hnew ⊢
    have HP3 : Hid (Vec w3 12 (.slice a6 m c6) m (L.flatMap Opn.row) ∧ ∀ g, (Value.slice a6 m c6).ownBlock = some g → w.heap.size ≤ g ∧ (Value.slice a n k).ownBlock ≠ some g ∧ (Value.slice a4 m c4).ownBlock ≠ some g) := Lib.hid ⟨hops, fun g hg => by
      have h1 := hnew g hg
      have h2 := L2.out.only.size
      exact ⟨by omega, fun e => by have := H.out.own_lt e; omega, fun e => by have := HD2.out.own_lt e; omega⟩⟩
    clear o3 L2 HD2 hops hnew
    go_wp2_with fail
    refine (HCK.out _ _ L3.out.i).mono ?_
    rintro e w4 ⟨rfl, o4⟩
    have L4 : Hid (LH w w4 (.slice ia n ic) (.slice a n k) l) := Lib.hid ⟨L3.out.only.trans o4, L3.out.i.only o4 fun _ _ e => e, L3.out.h.only o4 fun _ _ e => e⟩
    have HD4 := Lib.hid (HD3.out.only o4 fun _ _ e => e)
    have HP4 := Lib.hid (And.intro (HP3.out.1.only o4 fun _ _ e => e) HP3.out.2)
    clear o4 L3 HD3 HP3
    go_wp2_with fail
    refine (events_any L4.out.i L4.out.h (Nat.le_trans HL.out (by decide))).mono ?_
    rintro e w5 ⟨rfl, o5⟩
    have CK5 : Hid (CK w w5 l L L 0 (.slice a n k) (.slice a4 m c4) (.slice a6 m c6)) := Lib.hid ⟨L4.out.only.trans o5, L4.out.h.only o5 fun _ _ e => e, HD4.out.only o5 fun _ _ e => e, by rw [← HM.out]; exact HP4.out.1.only o5 fun _ _ e => e, rfl, fun _ _ => rfl, HP4.out.2⟩
    clear o5 L4 HD4 HP4
    go_wp2_with fail
    rename World => w5
    go_loopw [10] (fun u10 wr => ∃ (j : Nat) (S : List Opn), j ≤ m ∧ u10 = .int .i64 (j : Int) ∧ Hid (CK w wr l L S j (.slice a n k) (.slice a4 m c4) (.slice a6 m c6))) (fun u10 wr => m - (intOf u10).toNat)
    case atStart => exact ⟨0, L, by omega, rfl, CK5⟩
    case round =>
      rename World => wr
      clear CK5
      obtain ⟨j, S, hj, rfl, HJ⟩ := hrel
      by_cases hlt : j < m
      · have hjl : j < L.length := by have := HM.out; omega
        obtain ⟨o, ho⟩ : ∃ o, L[j]? = some o := ⟨_, List.getElem?_eq_getElem hjl⟩
        obtain ⟨g, off, cp, e, hg, hcell⟩ := HJ.out.doc.at_ hjl
        injection e with e e2 e3
        subst e
        clear e2 e3 hg
        rw [(List.getElem?_eq_some_iff.1 ho).2] at hcell
        obtain ⟨g', off', cp', e, _⟩ := HJ.out.at_ ho
        injection e with e e2 e3
        subst e
        clear e2 e3
        obtain ⟨x0, x1, x2, x3, ⟨x4, x5, x6, x7, x8⟩, ⟨x9, xa, xb⟩⟩ := o
        have HO2 := Lib.hid ho
        have y0 := hcell 0 _ rfl
        have y1 := hcell 1 _ rfl
        have y2 := hcell 2 _ rfl
        have y3 := hcell 3 _ rfl
        have y4 := hcell 4 _ rfl
        have y5 := hcell 5 _ rfl
        have y6 := hcell 6 _ rfl
        have y7 := hcell 7 _ rfl
        have y8 := hcell 8 _ rfl
        have y9 := hcell 9 _ rfl
        have ya := hcell 10 _ rfl
        have yb := hcell 11 _ rfl
        rw [Nat.add_zero] at y0
        dsimp only at y0 y1 y2 y3 y4 y5 y6 y7 y8 y9 ya yb
        have j0 : (0 : Int) ≤ (j : Int) := by omega
        have j1 : (j : Int) < (m : Int) := by omega
        have HLT := Lib.hid hlt
        clear hcell ho hlt hj hjl
        go_upto_region 17 with fail
        generalize hX : wr.heap.size = B
        generalize hw7 : wr.alloc (.cells #[.int .i64 x0, .int .i64 x1, .int .i64 x2, .int .i64 x3, .int .u8 x4, .string x5, .string x6, .string x7, .bool x8, .int .u8 x9, .bool xa, .string xb] 44) = w7
        have o7 : Only None' wr w7 := by rw [← hw7]; exact (Only.refl None' wr).alloc _
        have HC7 : Hid (CellsR w7 B [.int .i64 x0, .int .i64 x1, .int .i64 x2, .int .i64 x3, .int .u8 x4, .string x5, .string x6, .string x7, .bool x8, .int .u8 x9, .bool xa, .string xb]) := Lib.hid (by rw [← hw7, ← hX]; exact cells_new wr [.int .i64 x0, .int .i64 x1, .int .i64 x2, .int .i64 x3, .int .u8 x4, .string x5, .string x6, .string x7, .bool x8, .int .u8 x9, .bool xa, .string xb] 44)
        have HJ7 := Lib.hid (HJ.out.new_ o7)
        clear o7 hw7 hX HJ y0 y1 y2 y3 y4 y5 y6 y7 y8 y9 ya yb
        obtain ⟨g2, off2, cp2, e, _, hcell, hfz⟩ := HJ7.out.at_ HO2.out
        injection e with e e2 e3
        injection e with e
        injection e with e e'
        subst e e'
        clear e2 e3
        have k0 := hcell 0 _ rfl
        have k1 := hcell 1 _ rfl
        have k2 := hcell 2 _ rfl
        have k3 := hcell 3 _ rfl
        have k4 := hcell 4 _ rfl
        have k5 := hcell 5 _ rfl
        have k6 := hcell 6 _ rfl
        have k7 := hcell 7 _ rfl
        have k8 := hcell 8 _ rfl
        have k9 := hcell 9 _ rfl
        have ka := hcell 10 _ rfl
        have kb := hcell 11 _ rfl
        rw [Nat.add_zero] at k0
        dsimp only at k0 k1 k2 k3 k4 k5 k6 k7 k8 k9 ka kb
        have b0 := HC7.out.is 0 _ rfl
        have b1 := HC7.out.is 1 _ rfl
        have b2 := HC7.out.is 2 _ rfl
        have b3 := HC7.out.is 3 _ rfl
        have b4 := HC7.out.is 4 _ rfl
        have b5 := HC7.out.is 5 _ rfl
        have b6 := HC7.out.is 6 _ rfl
        have b7 := HC7.out.is 7 _ rfl
        have b8 := HC7.out.is 8 _ rfl
        have b9 := HC7.out.is 9 _ rfl
        have ba := HC7.out.is 10 _ rfl
        have bb := HC7.out.is 11 _ rfl
        have f1 := hfz 1 (by omega)
        clear hcell hfz
        go_quiet (fail)
        go_wp2_with fail
        go_roundw
        case rel =>
          obtain ⟨S', hS'⟩ := (HJ7.out.new_ ((Only.refl None' _).drewN _)).spoil HM.out HLT.out (-7)
          exact ⟨j + 1, S', by have := HLT.out; omega, next_int (by have := HLT.out; have := HLL.out; have := HM.out; omega), Lib.hid hS'⟩
        case measure => exact meas HLT.out (by have := HLL.out; have := HM.out; omega)
      · obtain rfl : m = j := by omega
        clear hlt hj
        go_wp2_with fail
        refine (dkeys_any HJ.out.h HL.out).mono ?_
        rintro e w6 ⟨va, rfl, hdk⟩
        obtain ⟨ks, hks⟩ : ∃ ks, ks = insAll (calls l) := ⟨_, rfl⟩
        rw [← hks] at hdk
        have HKS := Lib.hid hks
        obtain ⟨aa, ac, rfl, _, _⟩ := hdk.row.shape
        obtain ⟨q, hq⟩ : ∃ q, q = ks.length := ⟨_, rfl⟩
        have HQ := Lib.hid hq
        have HCL : Hid (CL w w6 L (.slice a4 m c4) (.slice aa q ac) ks) := Lib.hid ⟨HJ.out.only.trans hdk.only, HJ.out.doc.only hdk.only fun _ _ e => e, by rw [hq]; exact hdk.row⟩
        have HQ100 : Hid (q ≤ 150) := Lib.hid (by
          rw [hq, hks]
          have h1 := (insAll_len (calls l))
          have h2 : (calls l).length ≤ l.length := by unfold calls; rw [List.length_map]; exact List.length_filter_le _ _
          have := HL.out
          omega)
        rw [← hq]
        clear hdk hq hks HJ
        go_wp2_with fail
        rename World => w6
        go_loopw [13, 14, 15, 16] (fun u13 u14 u15 u16 wr => ∃ j : Nat, j ≤ q ∧ u16 = .int .i64 (j : Int) ∧ u13 = .bool (fullD L ks j) ∧ u14 = .bool (smallD L ks j) ∧ u15 = .bool (wantD L ks j) ∧ Hid (CL w wr L (.slice a4 m c4) (.slice aa q ac) ks)) (fun u13 u14 u15 u16 wr => q - (intOf u16).toNat)
        case atStart => exact ⟨0, by omega, rfl, rfl, rfl, rfl, HCL⟩
        case round =>
          rename World => wr
          clear HCL
          obtain ⟨j, hj, rfl, rfl, rfl, rfl, HJ⟩ := hrel
          obtain ⟨fb, hfb⟩ : ∃ fb, fullD L ks j = fb := ⟨_, rfl⟩
          obtain ⟨sb, hsb⟩ : ∃ sb, smallD L ks j = sb := ⟨_, rfl⟩
          obtain ⟨wb, hwb⟩ : ∃ wb, wantD L ks j = wb := ⟨_, rfl⟩
          rw [hfb, hsb, hwb]
          have HS := Lib.hid (And.intro hfb (And.intro hsb hwb))
          by_cases hlt : j < q
          · have hjl : j < ks.length := by have := HQ.out; omega
            obtain ⟨K, hK⟩ : ∃ K, ks[j]? = some K := ⟨_, List.getElem?_eq_getElem hjl⟩
            obtain ⟨ga, oa, e, hcell⟩ := HJ.out.at_ hK
            obtain rfl := e
            have HK := Lib.hid hK
            have j0 : (0 : Int) ≤ (j : Int) := by omega
            have j1 : (j : Int) < (q : Int) := by omega
            have HLT := Lib.hid hlt
            have HBY := Lib.hid (HJ.out.by_ HLL.out K)
            clear hlt hjl hj hK hfb hsb hwb
            go_wp2_with fail
            refine HBY.out.mono ?_
            rintro e w7 ⟨pa, pc, rfl, hpo, hcl⟩
            obtain ⟨r, hr⟩ : ∃ r, r = (byKey L (bk K)).length := ⟨_, rfl⟩
            rw [← hr] at hpo ⊢
            have HCL7 := Lib.hid hcl
            have HR7 := Lib.hid hr
            obtain ⟨pb, hpb⟩ : ∃ pb, couldB (byKey L (bk K)) = pb := ⟨_, rfl⟩
            have HPB := Lib.hid hpb
            have HCO : Hid (r ≤ 7 → Calls Try.prog 18 #[.slice pa r pc, .bool false, .string ⟨#[]⟩] w7 fun e w' => e = .returned (.bool pb) ∧ Only None' w7 w') := Lib.hid fun h7 => by
              rw [← hpb]
              exact could_all _ _ (Nat.le_refl _) w7 _ none hpo (fun o ho => HKD.out o (byKey_sub ho)) (by omega)
            clear hcl hpo hr hpb HBY hcell HJ
            by_cases h7 : r ≤ 7
            · have d7 : decide ((r : Int) ≤ 7) = true := by rw [decide_eq_true_eq]; omega
              have d7' : (r : Int) ≤ 7 := by omega
              have d14 : decide ((14 : Int) < (r : Int)) = false := by rw [decide_eq_false_iff_not]; omega
              have d14' : ¬ (14 : Int) < (r : Int) := by omega
              have HD : Hid (decide (14 < (byKey L (bk K)).length) = false ∧ decide ((byKey L (bk K)).length ≤ 7) = true ∧ decide (7 < (byKey L (bk K)).length) = false) := Lib.hid (by rw [← HR7.out]; exact ⟨decide_eq_false (by omega), decide_eq_true h7, decide_eq_false (by omega)⟩)
              have HC7 := Lib.hid (HCO.out h7)
              clear h7 HCO
              cases wb
              all_goals cases fb <;> cases sb
              all_goals
                go_wp2_with fail
                first
                  | (refine HC7.out.mono ?_
                     rintro e w8 ⟨rfl, o8⟩
                     have HCL8 := Lib.hid (HCL7.out.new_ o8)
                     clear o8
                     go_wp2_with fail
                     go_roundw
                     case rel =>
                       refine ⟨j + 1, by have := HLT.out; omega, next_int (by have := HQ100.out; have := HLT.out; omega), ?_, ?_, ?_, HCL8⟩
                       · rw [fullD_next HK.out, HS.out.1, HD.out.1]; rfl
                       · rw [smallD_next HK.out, HS.out.2.1, HD.out.2.1]; rfl
                       · rw [wantD_next HK.out, HS.out.2.2, HD.out.2.2, HPB.out]; rfl
                     case measure => exact meas HLT.out (by have := HQ100.out; omega))
                  | (go_roundw
                     case rel =>
                       refine ⟨j + 1, by have := HLT.out; omega, next_int (by have := HQ100.out; have := HLT.out; omega), ?_, ?_, ?_, HCL7⟩
                       · rw [fullD_next HK.out, HS.out.1, HD.out.1]; rfl
                       · rw [smallD_next HK.out, HS.out.2.1, HD.out.2.1]; rfl
                       · rw [wantD_next HK.out, HS.out.2.2]; rfl
                     case measure => exact meas HLT.out (by have := HQ100.out; omega))
            · have d7 : decide ((r : Int) ≤ 7) = false := by rw [decide_eq_false_iff_not]; omega
              have d7' : ¬ (r : Int) ≤ 7 := by omega
              have d7'' : (7 : Int) < (r : Int) := by omega
              by_cases h14 : 14 < r
              · have d14 : decide ((14 : Int) < (r : Int)) = true := by rw [decide_eq_true_eq]; omega
                have d14' : (14 : Int) < (r : Int) := by omega
                have HD : Hid (decide (14 < (byKey L (bk K)).length) = true ∧ decide ((byKey L (bk K)).length ≤ 7) = false ∧ decide (7 < (byKey L (bk K)).length) = true) := Lib.hid (by rw [← HR7.out]; exact ⟨decide_eq_true h14, decide_eq_false h7, decide_eq_true (by omega)⟩)
                clear h7 h14 HCO
                cases fb <;> cases sb
                all_goals
                  go_wp2_with fail
                  go_roundw
                  case rel =>
                    refine ⟨j + 1, by have := HLT.out; omega, next_int (by have := HQ100.out; have := HLT.out; omega), ?_, ?_, ?_, HCL7⟩
                    · rw [fullD_next HK.out, HS.out.1, HD.out.1]; rfl
                    · rw [smallD_next HK.out, HS.out.2.1, HD.out.2.1]; rfl
                    · rw [wantD_next HK.out, HS.out.2.2, HD.out.2.2]; simp
                  case measure => exact meas HLT.out (by have := HQ100.out; omega)
              · have d14 : decide ((14 : Int) < (r : Int)) = false := by rw [decide_eq_false_iff_not]; omega
                have d14' : ¬ (14 : Int) < (r : Int) := by omega
                have HD : Hid (decide (14 < (byKey L (bk K)).length) = false ∧ decide ((byKey L (bk K)).length ≤ 7) = false ∧ decide (7 < (byKey L (bk K)).length) = true) := Lib.hid (by rw [← HR7.out]; exact ⟨decide_eq_false h14, decide_eq_false h7, decide_eq_true (by omega)⟩)
                clear h7 h14 HCO
                cases fb <;> cases sb
                all_goals
                  go_wp2_with fail
                  go_roundw
                  case rel =>
                    refine ⟨j + 1, by have := HLT.out; omega, next_int (by have := HQ100.out; have := HLT.out; omega), ?_, ?_, ?_, HCL7⟩
                    · rw [fullD_next HK.out, HS.out.1, HD.out.1]; rfl
                    · rw [smallD_next HK.out, HS.out.2.1, HD.out.2.1]; rfl
                    · rw [wantD_next HK.out, HS.out.2.2, HD.out.2.2]; simp
                  case measure => exact meas HLT.out (by have := HQ100.out; omega)
          · obtain rfl : j = q := by omega
            clear hlt hj
            have hend := checks_end HR.out.1 (m := j) (by rw [HQ.out, HKS.out])
            rw [← HR.out.2, ← HKS.out, hfb, hsb, hwb, HC.out.1, HC.out.2] at hend
            cases fb with
            | true =>
              have he := hend.1 rfl
              obtain rfl : cb = false := by rw [← HC.out.1, he]
              obtain rfl : cc = 3 := by rw [← HC.out.2, he]
              clear hend he hfb hsb hwb
              go_wp2_with fail
              go_ret
              exact ⟨rfl, HJ.out.only.below (Nat.le_refl _) fun k e => e.elim⟩
            | false =>
              obtain ⟨rfl, h1, h2⟩ := hend.2 rfl
              clear hend hfb hsb hwb
              cases sb with
              | true =>
                obtain rfl : cb = wb := h1 rfl
                clear h1 h2
                cases cb
                all_goals
                  go_wp2_with fail
                  go_ret
                  exact ⟨rfl, HJ.out.only.below (Nat.le_refl _) fun k e => e.elim⟩
              | false =>
                clear h1
                cases cb with
                | true =>
                  obtain rfl : wb = true := h2 rfl
                  go_wp2_with fail
                  go_ret
                  exact ⟨rfl, HJ.out.only.below (Nat.le_refl _) fun k e => e.elim⟩
                | false =>
                  clear h2
                  cases wb
                  all_goals
                    go_wp2_with fail
                    go_ret
                    exact ⟨rfl, HJ.out.only.below (Nat.le_refl _) fun k e => e.elim⟩
end Go.Proofs.Ytajbagdgjbihjaa
