/- A plan that is played, plainly: and less told of it. -/
import Derived.Test.YtajbagdgjbihjaaR1
namespace Go.Proofs.Ytajbagdgjbihjaa
set_option linter.unusedVariables false

/-- one does not come back -/
def hideP (k : Int) (i : Nat) (p : Pn) : Pn := { p with told := p.told && decide (((i + 1 : Nat) : Int) ≠ k) }
def hide (k : Int) (ps : List Pn) : List Pn := ps.zipIdx.map fun x => hideP k x.2 x.1
def lessOf (k : Int) (h : List Ev) : List Ev := h.filter fun e => !(e.back && decide (e.id = k))
theorem hide_len (k : Int) (ps : List Pn) : (hide k ps).length = ps.length := by simp [hide]
theorem hide_at {k : Int} {ps : List Pn} {i : Nat} {p : Pn} (h : ps[i]? = some p) : (hide k ps)[i]? = some (hideP k i p) := by
  unfold hide
  rw [List.getElem?_map, List.getElem?_zipIdx, h]
  simp
theorem hide_get {k : Int} {ps : List Pn} {i : Nat} {q : Pn} (h : (hide k ps)[i]? = some q) : ∃ p, ps[i]? = some p ∧ q = hideP k i p := by
  have hi : i < ps.length := by have := (List.getElem?_eq_some_iff.1 h).1; rwa [hide_len] at this
  have hp : ps[i]? = some ps[i] := List.getElem?_eq_getElem hi
  rw [hide_at hp] at h
  injection h with h
  exact ⟨_, hp, h.symm⟩
theorem hide_follow {k : Int} {ps : List Pn} (F : Follow ps) : Follow (hide k ps) := by
  constructor
  · intro i q h
    obtain ⟨p, hp, rfl⟩ := hide_get h
    exact F.own i p hp
  · intro i j q r hij h1 h2 hc
    obtain ⟨p, hp, rfl⟩ := hide_get h1
    obtain ⟨p', hp', rfl⟩ := hide_get h2
    exact F.next i j p p' hij hp hp' hc
/-- whose event it is -/
def OfPlan (ps : List Pn) (e : Ev) : Prop := ∃ (j : Nat) (p : Pn), ps[j]? = some p ∧ e.client = p.cl ∧ e.id = ((j + 1 : Nat) : Int) ∧ (e.key = p.op.key ∨ e.key = ⟨#[]⟩)
structure PA (ps : List Pn) (t j1 j2 j3 : Nat) (h : List Ev) (m : ByteArray → Option ByteArray) (rs : Nat → Rs) : Prop where
  one : PT ps t j1 j2 j3 h m rs
  less : ∀ k : Int, PT (hide k ps) t j1 j2 j3 (lessOf k h) m rs
  good : ∀ e ∈ h, OfPlan ps e
section
variable {ps : List Pn} {t j : Nat} {h : List Ev} {m m' : ByteArray → Option ByteArray} {rs rs' : Nat → Rs} {p : Pn}
theorem PA.nil (ps : List Pn) (rs : Nat → Rs) : PA ps 0 0 0 0 [] (fun _ => none) rs := ⟨PT.nil ps rs, fun k => PT.nil _ rs, fun e he => absurd he List.not_mem_nil⟩
theorem PA.call (g : PA ps t j 0 0 h m rs) (F : Follow ps) (hp : ps[j]? = some p) (ht : p.call = t) : PA ps t (j + 1) 0 0 (h ++ [p.callEv j]) m rs := by
  refine ⟨g.one.call F hp ht, fun k => ?_, (fun e he => by
    rcases List.mem_append.1 he with he | he
    · exact g.good e he
    · rw [List.mem_singleton] at he
      subst he
      exact ⟨j, p, hp, rfl, rfl, .inl rfl⟩)⟩
  have := (g.less k).call (hide_follow F) (hide_at hp) ht
  have e : lessOf k (h ++ [p.callEv j]) = lessOf k h ++ [(hideP k j p).callEv j] := by
    unfold lessOf
    rw [List.filter_append]
    rfl
  rw [e]
  exact this
theorem PA.call_no (g : PA ps t j 0 0 h m rs) (hp : ps[j]? = some p) (ht : p.call ≠ t) : PA ps t (j + 1) 0 0 h m rs := ⟨g.one.call_no hp ht, fun k => (g.less k).call_no (hide_at hp) ht, g.good⟩
theorem PA.do_no (g : PA ps t ps.length j 0 h m rs) (hp : ps[j]? = some p) (ht : p.do_ ≠ t ∨ p.done = false ∨ p.op.code ≠ 0) : PA ps t ps.length (j + 1) 0 h m rs := by
  refine ⟨g.one.do_no hp ht, fun k => ?_, g.good⟩
  have := g.less k
  rw [← hide_len k ps] at this ⊢
  exact this.do_no (hide_at hp) ht
theorem PA.does (g : PA ps t ps.length j 0 h m rs) (F : Follow ps) (hp : ps[j]? = some p) (ht : p.do_ = t) (hd : p.done = true) (h0 : p.op.code = 0)
    (hrs : ∀ i, rs' i = if i = j then (p.op.does (m p.op.key)).2 else rs i) (hm : ∀ key, m' key = if p.op.key = key then (p.op.does (m key)).1 else m key) : PA ps t ps.length (j + 1) 0 h m' rs' := by
  refine ⟨g.one.does F hp ht hd h0 hrs hm, fun k => ?_, g.good⟩
  have := g.less k
  rw [← hide_len k ps] at this ⊢
  exact this.does (hide_follow F) (hide_at hp) ht hd h0 hrs hm
theorem PA.back_no (g : PA ps t ps.length ps.length j h m rs) (hp : ps[j]? = some p) (ht : p.back ≠ t ∨ p.told = false ∨ p.done = false ∨ p.op.code ≠ 0) : PA ps t ps.length ps.length (j + 1) h m rs := by
  refine ⟨g.one.back_no hp ht, fun k => ?_, g.good⟩
  have := g.less k
  rw [← hide_len k ps] at this ⊢
  refine this.back_no (hide_at hp) ?_
  rcases ht with ht | ht | ht | ht
  · exact .inl ht
  · exact .inr (.inl (by unfold hideP; simp only; rw [ht]; rfl))
  · exact .inr (.inr (.inl ht))
  · exact .inr (.inr (.inr ht))
theorem PA.back (g : PA ps t ps.length ps.length j h m rs) (F : Follow ps) (hp : ps[j]? = some p) (ht : p.back = t) (htl : p.told = true) (hd : p.done = true) (h0 : p.op.code = 0) : PA ps t ps.length ps.length (j + 1) (h ++ [p.backEv j (rs j)]) m rs := by
  refine ⟨g.one.back F hp ht htl hd h0, fun k => ?_, (fun e he => by
    rcases List.mem_append.1 he with he | he
    · exact g.good e he
    · rw [List.mem_singleton] at he
      subst he
      exact ⟨j, p, hp, rfl, rfl, .inr rfl⟩)⟩
  have := g.less k
  rw [← hide_len k ps] at this ⊢
  by_cases e : ((j + 1 : Nat) : Int) = k
  · have e1 : lessOf k (h ++ [p.backEv j (rs j)]) = lessOf k h := by
      unfold lessOf
      rw [List.filter_append]
      have : ([p.backEv j (rs j)].filter fun e => !(e.back && decide (e.id = k))) = [] := by
        rw [List.filter_cons_of_neg]
        · rfl
        · show ¬ (!(true && decide (((j + 1 : Nat) : Int) = k))) = true
          rw [decide_eq_true e]
          decide
      rw [this, List.append_nil]
    rw [e1]
    refine this.back_no (hide_at hp) (.inr (.inl ?_))
    unfold hideP
    simp only
    rw [decide_eq_false (fun h => h e), Bool.and_false]
  · have e1 : lessOf k (h ++ [p.backEv j (rs j)]) = lessOf k h ++ [(hideP k j p).backEv j (rs j)] := by
      unfold lessOf
      rw [List.filter_append]
      have : ([p.backEv j (rs j)].filter fun e => !(e.back && decide (e.id = k))) = [(hideP k j p).backEv j (rs j)] := by
        rw [List.filter_cons_of_pos]
        · rfl
        · show (!(true && decide (((j + 1 : Nat) : Int) = k))) = true
          rw [decide_eq_false e]
          decide
      rw [this]
    rw [e1]
    refine this.back (hide_follow F) (hide_at hp) ht ?_ hd h0
    unfold hideP
    simp only
    rw [htl, decide_eq_true e, Bool.and_true]
theorem PA.next (g : PA ps t ps.length ps.length ps.length h m rs) : PA ps (t + 1) 0 0 0 h m rs := by
  refine ⟨g.one.next, fun k => ?_, g.good⟩
  have := g.less k
  rw [← hide_len k ps] at this
  exact this.next
end
/-- each operation has a call and a coming back at most -/
theorem run_long : ∀ (l : List Ev) (all all' : List Opn) (n : Nat), opRun all n l = some all' → l.length + 2 * all.length + all'.countP (fun o => decide (o.til < 0)) = 2 * all'.length + all.countP (fun o => decide (o.til < 0))
  | [], all, all', n, h => by
    injection h with h
    subst h
    simp
  | e :: l, all, all', n, h => by
    rw [opRun_cons] at h
    cases hs : opStep all n e with
    | none => rw [hs] at h; cases h
    | some a =>
      rw [hs] at h
      have h1 := run_long l a all' (n + 1) h
      rw [List.length_cons]
      cases hb : e.back with
      | false =>
        obtain ⟨rfl, _⟩ := opStep_call hb hs
        rw [List.length_append, List.countP_append] at h1
        have e1 : [e.opn n].countP (fun o => decide (o.til < 0)) = 1 := rfl
        rw [e1, List.length_singleton] at h1
        omega
      | true =>
        obtain ⟨k, o, _, hk, ho, _, _, _, rfl⟩ := opStep_back hb hs
        obtain ⟨hkl, rfl⟩ := List.getElem?_eq_some_iff.1 hk
        rw [List.length_set, List.countP_set (h := hkl)] at h1
        have e1 : decide ((all[k]).til < 0) = true := decide_eq_true ho
        have e2 : decide (((all[k]).came n e.rs).til < 0) = false := decide_eq_false (by show ¬ ((n : Int) < 0); omega)
        rw [if_pos e1, e2, if_neg (by decide)] at h1
        have e3 : 0 < all.countP fun o => decide (o.til < 0) := List.countP_pos_iff.2 ⟨all[k], List.getElem_mem hkl, e1⟩
        omega
/-- what was played could be that of one map; less told of it too; what no map could tell is told -/
theorem PA.check {ps : List Pn} {t : Nat} {h : List Ev} {m : ByteArray → Option ByteArray} {rs : Nat → Rs} (g : PA ps t 0 0 0 h m rs) (hn : ps.length ≤ 14) : h.length ≤ 28 ∧ checkOf h = (true, 0) ∧ (∀ k, checkOf (lessOf k h) = (true, 0)) ∧ (∀ k, checkOf (h.map (Ev.veil k)) = (true, 0)) ∧ ∀ kk e big, h[kk]? = some e → e.back = true → 2000 < ByteArray.size big → checkOf (turnAll (longR kk big) 0 h) = (false, 0) := by
  obtain ⟨all, seq, g1, _⟩ := g.one.ex
  refine ⟨?_, g1.check hn, fun k => ?_, fun k => g1.veiled hn k, fun kk e big he hb hbig => g1.tells hn he hb hbig⟩
  · have h1 := run_long h [] all 0 g1.run
    have h2 := g1.few
    rw [List.length_nil, List.countP_nil] at h1
    omega
  obtain ⟨all', seq', g2, _⟩ := (g.less k).ex
  exact g2.check (by rw [hide_len]; exact hn)
end Go.Proofs.Ytajbagdgjbihjaa
