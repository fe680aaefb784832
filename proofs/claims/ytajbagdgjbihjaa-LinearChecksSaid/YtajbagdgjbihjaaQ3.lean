/- A history whose results are turned; less told of it; what nobody can tell; a plan that is played: plainly. -/
import Derived.Test.YtajbagdgjbihjaaQ1
namespace Go.Proofs.Ytajbagdgjbihjaa
set_option linter.unusedVariables false

/-! ### the results turned -/
def Ev.turn (r : Nat → Rs → Rs) (n : Nat) (e : Ev) : Ev := if e.back then { e with rkind := (r n e.rs).kind, found := (r n e.rs).found, rval := (r n e.rs).val } else e
def turnAll (r : Nat → Rs → Rs) : Nat → List Ev → List Ev
  | _, [] => []
  | n, e :: l => e.turn r n :: turnAll r (n + 1) l
def Opn.turn (r : Nat → Rs → Rs) (o : Opn) : Opn := if o.til < 0 then o else { o with res := r o.til.toNat o.res }
theorem turn_who (r : Nat → Rs → Rs) (n : Nat) (e : Ev) : (e.turn r n).who = e.who ∧ (e.turn r n).back = e.back ∧ (e.turn r n).client = e.client := by
  unfold Ev.turn
  split <;> exact ⟨rfl, rfl, rfl⟩
theorem oturn_who (r : Nat → Rs → Rs) (o : Opn) : (o.turn r).who = o.who := by
  unfold Opn.turn
  split <;> rfl
theorem oturn_to (r : Nat → Rs → Rs) (o : Opn) : (o.turn r).til = o.til := by
  unfold Opn.turn
  split <;> rfl
theorem step_turn {r : Nat → Rs → Rs} (hr : ∀ n x, 1 ≤ x.kind → x.kind ≤ 3 → 1 ≤ (r n x).kind ∧ (r n x).kind ≤ 3) {k : Nat} {all all' : List Opn} {e : Ev} (sn : Sane k all) (h : opStep all k e = some all') : opStep (all.map (Opn.turn r)) k (e.turn r k) = some (all'.map (Opn.turn r)) := by
  obtain ⟨w1, w2, w3⟩ := turn_who r k e
  cases hb : e.back with
  | false =>
    obtain ⟨rfl, hn⟩ := opStep_call hb h
    have he : e.turn r k = e := by unfold Ev.turn; rw [hb]; rfl
    rw [he, opStep_call' hb fun o ho => ?_, List.map_append]
    · rfl
    · obtain ⟨y, hy, rfl⟩ := List.mem_map.1 ho
      rw [oturn_who]
      exact hn y hy
  | true =>
    obtain ⟨j, o, h1, h2, h3, h4, h5, h6, rfl⟩ := opStep_back hb h
    have hrs : (e.turn r k).rs = r k e.rs := by unfold Ev.turn; rw [hb]; rfl
    have hk : (e.turn r k).rkind = (r k e.rs).kind := by rw [← hrs]; rfl
    have hb2 := hr k e.rs h5 h6
    have ho : o.turn r = o := by unfold Opn.turn; rw [if_pos h3]
    rw [opStep_back' (o := o.turn r) (w2.trans hb) (by rw [w3, lastAt_map _ _ fun x => (by have := oturn_who r x; unfold Opn.who at this; injection this)]; exact h1) (by rw [List.getElem?_map, h2]; rfl) (by rw [ho]; exact h3) (by rw [oturn_who, w1]; exact h4) (by rw [hk]; exact hb2.1) (by rw [hk]; exact hb2.2)]
    congr 1
    have hu : Unlike (all.map (Opn.turn r)) := List.pairwise_map.2 (sn.unlike.imp fun hab => by rw [oturn_who, oturn_who]; exact hab)
    rw [set_map (f := fun x => x.came k (e.turn r k).rs) hu (by rw [List.getElem?_map, h2]; rfl), set_map (f := fun x => x.came k e.rs) sn.unlike h2, List.map_map, List.map_map]
    refine List.map_congr_left fun x hx => ?_
    show (if (x.turn r).who = (o.turn r).who then (x.turn r).came k _ else x.turn r) = (if x.who = o.who then x.came k e.rs else x).turn r
    rw [oturn_who, oturn_who]
    by_cases hxo : x.who = o.who
    · rw [if_pos hxo, if_pos hxo, hrs]
      have hx : x.turn r = x := by rw [sn.unlike.one hx (List.mem_of_getElem? h2) hxo]; exact ho
      rw [hx]
      unfold Opn.turn Opn.came
      simp only
      rw [if_neg (by omega), Int.toNat_natCast]
    · rw [if_neg hxo, if_neg hxo]
theorem run_turn {r : Nat → Rs → Rs} (hr : ∀ n x, 1 ≤ x.kind → x.kind ≤ 3 → 1 ≤ (r n x).kind ∧ (r n x).kind ≤ 3) : ∀ (l : List Ev) (k : Nat) (all all' : List Opn), Sane k all → opRun all k l = some all' → opRun (all.map (Opn.turn r)) k (turnAll r k l) = some (all'.map (Opn.turn r))
  | [], k, all, all', _, h => by
    injection h with h
    subst h
    rfl
  | e :: l, k, all, all', sn, h => by
    rw [opRun_cons] at h
    cases hs : opStep all k e with
    | none => rw [hs] at h; cases h
    | some a =>
      rw [hs] at h
      show opRun _ k (e.turn r k :: turnAll r (k + 1) l) = _
      rw [opRun_cons, step_turn hr sn hs]
      exact run_turn hr l (k + 1) a all' (sn.step hs) h
/-- each coming back is some operation's -/
theorem back_op {h : List Ev} {all : List Opn} (hr : opRun [] 0 h = some all) {k : Nat} {e : Ev} (he : h[k]? = some e) (hb : e.back = true) : ∃ o ∈ all, o.til = (k : Int) ∧ o.res = e.rs ∧ o.who = e.who := by
  have key : ∀ m a, k < m → m ≤ h.length → opRun [] 0 (h.take m) = some a → ∃ o ∈ a, o.til = (k : Int) ∧ o.res = e.rs ∧ o.who = e.who := by
    intro m
    induction m with
    | zero => intro a h0; omega
    | succ m ih =>
      intro a hk hm hr
      have hm' : m < h.length := by omega
      have he' : h[m]? = some h[m] := List.getElem?_eq_getElem hm'
      rw [opRun_take he'] at hr
      cases hp : opRun [] 0 (h.take m) with
      | none => rw [hp] at hr; cases hr
      | some b =>
        rw [hp] at hr
        have sn := sane_run (by omega) hp
        by_cases hkm : k = m
        · subst hkm
          rw [he] at he'
          injection he' with he'
          rw [← he'] at hr
          obtain ⟨j, x, h1, h2, h3, h4, h5, h6, rfl⟩ := opStep_back hb hr
          exact ⟨x.came k e.rs, List.mem_set (List.getElem?_eq_some_iff.1 h2).1 _, rfl, rfl, h4⟩
        · obtain ⟨o, ho, h1, h2, h3⟩ := ih b (by omega) (by omega) hp
          cases hb2 : h[m].back with
          | false =>
            obtain ⟨rfl, _⟩ := opStep_call hb2 hr
            exact ⟨o, List.mem_append_left _ ho, h1, h2, h3⟩
          | true =>
            obtain ⟨j, x, g1, g2, g3, g4, g5, g6, rfl⟩ := opStep_back hb2 hr
            refine ⟨o, ?_, h1, h2, h3⟩
            rw [set_map (f := fun x => x.came m h[m].rs) sn.unlike g2, List.mem_map]
            refine ⟨o, ho, if_neg fun e1 => ?_⟩
            have := sn.unlike.one ho (List.mem_of_getElem? g2) e1
            subst this
            omega
  exact key h.length all (List.getElem?_eq_some_iff.1 he).1 (Nat.le_refl _) (by rw [List.take_length]; exact hr)
/-! ### less told of it; what nobody can tell -/
theorem mc_open {l l' : List Opn} (h : ∀ k : Nat, (l[k]? = none ∧ l'[k]? = none) ∨ ∃ o o', l[k]? = some o ∧ l'[k]? = some o' ∧ o'.op = o.op ∧ o'.fr = o.fr ∧ ((o'.til = o.til ∧ o'.res = o.res) ∨ o'.til < 0)) {D : Nat → Bool} {st : Option ByteArray} (hm : MC l D st) : MC l' D st := by
  induction hm with
  | idle D st h1 =>
    refine .idle D st fun k p hp hD => ?_
    rcases h k with ⟨_, h2⟩ | ⟨o, o', h2, h3, h4, h5, h6⟩
    · rw [hp] at h2; cases h2
    · rw [hp] at h3
      injection h3 with h3
      subst h3
      rcases h6 with ⟨h6, _⟩ | h6
      · rw [h6]; exact h1 k o h2 hD
      · exact h6
  | step D st st' i o h1 h2 h3 h4 h5 ih =>
    rcases h i with ⟨g, _⟩ | ⟨o2, o', g1, g2, g3, g4, g5⟩
    · rw [h1] at g; cases g
    · rw [h1] at g1
      injection g1 with g1
      subst g1
      refine .step D st st' i o' g2 h2 (fun k p hp hD => ?_) ?_ ih
      · rcases h k with ⟨_, e⟩ | ⟨q, q', e1, e2, e3, e4, e5⟩
        · rw [hp] at e; cases e
        · rw [hp] at e2
          injection e2 with e2
          subst e2
          rcases e5 with ⟨e5, _⟩ | e5
          · rw [e5, g4]; exact h3 k q e1 hD
          · exact .inl e5
      · unfold Opn.goes at h4 ⊢
        rw [g3]
        split at h4
        · next hc =>
          rw [if_pos]
          · exact h4
          · refine ⟨hc.1, ?_⟩
            rcases g5 with ⟨g5, g6⟩ | g5
            · rw [g5, g6]; exact hc.2
            · exact .inl g5
        · cases h4
/-- Gets that are open may be left out -/
theorem mc_less {l : List Opn} {X : Nat → Bool} (hX : ∀ k o, l[k]? = some o → X k = true → o.til < 0 ∧ o.op.kind = 1) {D : Nat → Bool} {st : Option ByteArray} (hm : MC l D st) : MC l (fun k => D k || X k) st := by
  induction hm with
  | idle D st h1 =>
    exact .idle _ st fun k p hp hD => h1 k p hp (by simp only [Bool.or_eq_false_iff] at hD; exact hD.1)
  | step D st st' i o h1 h2 h3 h4 h5 ih =>
    cases hx : X i with
    | true =>
      obtain ⟨e1, e2⟩ := hX i o h1 hx
      have hst : st' = st := by
        unfold Opn.goes at h4
        split at h4
        · injection h4 with h4
          unfold Op5.does at h4
          rw [if_pos e2] at h4
          exact h4.symm
        · cases h4
      rw [hst] at ih
      have hf : (fun k => (D k || decide (k = i)) || X k) = fun k => D k || X k := by
        funext k
        by_cases hk : k = i
        · subst hk; simp [hx]
        · simp [hk]
      rw [hf] at ih
      exact ih
    | false =>
      refine .step _ st st' i o h1 (by simp [h2, hx]) (fun k p hp hD => h3 k p hp (by simp only [Bool.or_eq_false_iff] at hD; exact hD.1)) h4 ?_
      have hf : (fun k => (D k || decide (k = i)) || X k) = fun k => (D k || X k) || decide (k = i) := by
        funext k
        cases D k <;> cases X k <;> cases decide (k = i) <;> rfl
      rw [hf] at ih
      exact ih
def outs (P : Opn → Bool) (l : List Opn) (k : Nat) : Bool := match l[k]? with
  | none => false
  | some o => !P o
theorem rem_outs (P : Opn → Bool) : ∀ l : List Opn, rem l (outs P l) = l.filter P
  | [] => rfl
  | o :: l => by
    have ih := rem_outs P l
    have h0 : outs P (o :: l) 0 = !P o := rfl
    have h1 : (fun k => outs P (o :: l) (k + 1)) = outs P l := by
      funext k
      unfold outs
      rw [List.getElem?_cons_succ]
    unfold rem
    rw [h0, h1, ih]
    cases hp : P o with
    | true => rw [List.filter_cons_of_pos hp]; rfl
    | false => rw [List.filter_cons_of_neg (by simp [hp])]; rfl
theorem could_less {l : List Opn} (hs : Sharp l) {P : Opn → Bool} (hP : ∀ o ∈ l, P o = false → o.til < 0 ∧ o.op.kind = 1) (hm : MC l (fun _ => false) none) : couldB (l.filter P) = true := by
  have h1 : MC l (outs P l) none := by
    have := mc_less (X := outs P l) (fun k o hk hx => hP o (List.mem_of_getElem? hk) (by unfold outs at hx; rw [hk] at hx; simpa using hx)) hm
    simpa using this
  have h2 := mc_pc hs h1
  rw [rem_outs] at h2
  unfold couldB
  exact (pc_iff _ _ _ (Nat.le_refl _)).2 h2
/-- a value that is too long nobody ever put -/
theorem pc_long {l : List Opn} {st : Option ByteArray} (h : PC l st) : (∀ v, st = some v → v.size ≤ 2000) → ∀ o ∈ l, 0 ≤ o.til → o.res.val.size ≤ 2000 := by
  induction h with
  | idle l st h1 =>
    intro _ o ho h0
    unfold Ytajbagdgjbihjaa.idle at h1
    rw [List.all_eq_true] at h1
    have := of_decide_eq_true (h1 o ho)
    omega
  | step l st st' i x h1 h2 h3 h4 ih =>
    intro hst o ho h0
    unfold Opn.goes at h3
    split at h3
    · next hc =>
      injection h3 with h3
      obtain ⟨hi, hxi⟩ := List.getElem?_eq_some_iff.1 h1
      have hval : x.op.val.size ≤ 2000 := by
        have := hc.1
        unfold Op5.code at this
        split at this
        · cases this
        · split at this
          · cases this
          · omega
      have hst' : ∀ v, st' = some v → v.size ≤ 2000 := by
        intro v hv
        rw [← h3] at hv
        unfold Op5.does at hv
        split at hv
        · exact hst v hv
        · split at hv
          · injection hv with hv; rw [← hv]; exact hval
          · split at hv
            · cases hv
            · split at hv <;> split at hv <;> first | (injection hv with hv; rw [← hv]; exact hval) | exact hst v hv
      by_cases hox : o = x
      · subst hox
        rcases hc.2 with hc2 | hc2
        · omega
        · rw [← hc2]
          unfold Op5.does
          have hz : (⟨#[]⟩ : ByteArray).size ≤ 2000 := by decide
          split
          · cases hs : st with
            | none => exact hz
            | some v => exact hst v hs
          · split
            · exact hz
            · split
              · exact hz
              · split <;> split <;> exact hz
      · refine ih hst' o ?_ h0
        obtain ⟨k, hk, hko⟩ := List.getElem_of_mem ho
        rw [List.mem_eraseIdx_iff_getElem]
        exact ⟨k, hk, fun e => hox (by rw [← hko, ← hxi]; simp only [e]), hko⟩
    · cases h3
theorem could_long {l : List Opn} {o : Opn} (ho : o ∈ l) (h0 : 0 ≤ o.til) (h : 2000 < o.res.val.size) : couldB l = false := by
  cases hc : couldB l with
  | false => rfl
  | true =>
    unfold couldB at hc
    have := pc_long ((pc_iff _ _ _ (Nat.le_refl _)).1 hc) (fun v hv => by cases hv) o ho h0
    omega
/-! ### a plan that is played -/
/-- an operation of a plan, its moments worked out -/
structure Pn where
  cl : Int
  call : Nat
  do_ : Nat
  back : Nat
  done : Bool
  told : Bool
  op : Op5
def Pn.callEv (p : Pn) (i : Nat) : Ev := ⟨p.cl, ((i + 1 : Nat) : Int), 0, false, p.op.kind, p.op.key, p.op.val, p.op.old, p.op.had, 0, false, ⟨#[]⟩⟩
def Pn.backEv (p : Pn) (i : Nat) (r : Rs) : Ev := ⟨p.cl, ((i + 1 : Nat) : Int), 0, true, 0, ⟨#[]⟩, ⟨#[]⟩, ⟨#[]⟩, false, r.kind, r.found, r.val⟩
/-- what a key has, behind some of the operations -/
def valOf (ps : List Pn) (key : ByteArray) (seq : List Nat) : Option ByteArray := seq.foldl (fun st a => match ps[a]? with
  | none => st
  | some p => if p.op.key = key then (p.op.does st).1 else st) none
theorem valOf_snoc {ps : List Pn} {key : ByteArray} {seq : List Nat} {a : Nat} {p : Pn} (hp : ps[a]? = some p) : valOf ps key (seq ++ [a]) = if p.op.key = key then (p.op.does (valOf ps key seq)).1 else valOf ps key seq := by
  unfold valOf
  rw [List.foldl_append, List.foldl_cons, List.foldl_nil, hp]
/-- while a plan is played: who is called and who came back; the operations done, in a row -/
structure PI (ps : List Pn) (C : Nat → Prop) (R : Nat → Prop) (h : List Ev) (all : List Opn) (m : ByteArray → Option ByteArray) (rs : Nat → Rs) (seq : List Nat) : Prop where
  run : opRun [] 0 h = some all
  ops : ∀ o ∈ all, ∃ (i : Nat) (p : Pn), ps[i]? = some p ∧ o.id = ((i + 1 : Nat) : Int) ∧ o.cl = p.cl ∧ o.op = p.op ∧ C i ∧ (0 ≤ o.til ↔ R i)
  has : ∀ i p, ps[i]? = some p → C i → ∃ o ∈ all, o.id = ((i + 1 : Nat) : Int)
  last : ∀ c k o, lastAt c all = some k → all[k]? = some o → ∀ q ∈ all, q.cl = c → q.id ≤ o.id
  seq_ : ∀ a ∈ seq, ∃ p, ps[a]? = some p ∧ C a ∧ p.op.code = 0
  nodup : seq.Nodup
  told : ∀ o ∈ all, 0 ≤ o.til → ∃ a ∈ seq, o.id = ((a + 1 : Nat) : Int) ∧ o.res = rs a
  res : ∀ s1 a s2 p, seq = s1 ++ a :: s2 → ps[a]? = some p → rs a = (p.op.does (valOf ps p.op.key s1)).2
  order : ∀ s1 a s2, seq = s1 ++ a :: s2 → ∀ o ∈ all, o.id = ((a + 1 : Nat) : Int) → ∀ q ∈ all, 0 ≤ q.til → (∃ b ∈ s1, q.id = ((b + 1 : Nat) : Int)) ∨ o.fr < q.til
  map : ∀ key, m key = valOf ps key seq
section
variable {ps : List Pn} {C C' R R' : Nat → Prop} {h : List Ev} {all : List Opn} {m m' : ByteArray → Option ByteArray} {rs rs' : Nat → Rs} {seq : List Nat}
theorem PI.sane (g : PI ps C R h all m rs seq) : Sane h.length all := sane_run (Nat.le_refl _) (by rw [List.take_length]; exact g.run)
theorem PI.nil (hC : ∀ i, ¬ C i) : PI ps C R [] [] (fun _ => none) rs [] :=
  ⟨rfl, fun o ho => absurd ho List.not_mem_nil, fun i p _ hc => absurd hc (hC i), (fun c k o h => by cases h), fun a ha => absurd ha List.not_mem_nil, List.nodup_nil, fun o ho => absurd ho List.not_mem_nil, (fun s1 a s2 p h => by simp at h), (fun s1 a s2 h => by simp at h), fun key => rfl⟩
theorem PI.congr (g : PI ps C R h all m rs seq) (hC : ∀ i, i < ps.length → (C i ↔ C' i)) (hR : ∀ i, i < ps.length → (R i ↔ R' i)) : PI ps C' R' h all m rs seq := by
  have lt : ∀ {i : Nat} {p : Pn}, ps[i]? = some p → i < ps.length := fun e => (List.getElem?_eq_some_iff.1 e).1
  refine ⟨g.run, fun o ho => ?_, fun i p hp hc => g.has i p hp ((hC i (lt hp)).2 hc), g.last, fun a ha => ?_, g.nodup, g.told, g.res, g.order, g.map⟩
  · obtain ⟨i, p, h1, h2, h3, h4, h5, h6⟩ := g.ops o ho
    exact ⟨i, p, h1, h2, h3, h4, (hC i (lt h1)).1 h5, h6.trans (hR i (lt h1))⟩
  · obtain ⟨p, h1, h2, h3⟩ := g.seq_ a ha
    exact ⟨p, h1, (hC a (lt h1)).1 h2, h3⟩
theorem PI.of_id (g : PI ps C R h all m rs seq) {o q : Opn} (ho : o ∈ all) (hq : q ∈ all) (e : o.id = q.id) : o = q := by
  refine g.sane.unlike.one ho hq ?_
  obtain ⟨i, p, h1, h2, h3, h4, h5, h6⟩ := g.ops o ho
  obtain ⟨j, p', g1, g2, g3, g4, g5, g6⟩ := g.ops q hq
  have : i = j := by omega
  subst this
  rw [h1] at g1
  injection g1 with g1
  subst g1
  unfold Opn.who
  rw [h3, g3, e]
/-- one is called -/
theorem PI.call (g : PI ps C R h all m rs seq) {i : Nat} {p : Pn} (hp : ps[i]? = some p) (hn : ¬ C i) (hR : ¬ R i) (hlast : ∀ j q, ps[j]? = some q → C j → q.cl = p.cl → j < i) (hC : ∀ j, C' j ↔ C j ∨ j = i) : PI ps C' R (h ++ [p.callEv i]) (all ++ [(p.callEv i).opn h.length]) m rs seq := by
  have hno : ∀ o ∈ all, o.id ≠ ((i + 1 : Nat) : Int) := fun o ho e => by
    obtain ⟨j, q, h1, h2, h3, h4, h5, h6⟩ := g.ops o ho
    have : j = i := by omega
    subst this
    exact hn h5
  have hmem : ∀ o ∈ all ++ [(p.callEv i).opn h.length], o ∈ all ∨ o = (p.callEv i).opn h.length := fun o ho => by
    rcases List.mem_append.1 ho with ho | ho
    · exact .inl ho
    · rw [List.mem_singleton] at ho; exact .inr ho
  refine ⟨?_, fun o ho => ?_, fun j q hq hc => ?_, fun c k o hl hk q hq hcq => ?_, fun a ha => ?_, g.nodup, fun o ho h0 => ?_, g.res, fun s1 a s2 hs o ho he q hq h0 => ?_, g.map⟩
  · rw [opRun_snoc, g.run]
    exact opStep_call' rfl fun o ho e => hno o ho (by unfold Opn.who Ev.who at e; injection e)
  · rcases hmem o ho with ho | rfl
    · obtain ⟨j, q, h1, h2, h3, h4, h5, h6⟩ := g.ops o ho
      exact ⟨j, q, h1, h2, h3, h4, (hC j).2 (.inl h5), h6⟩
    · exact ⟨i, p, hp, rfl, rfl, rfl, (hC i).2 (.inr rfl), ⟨fun h0 => absurd (show (0 : Int) ≤ -1 from h0) (by decide), fun h0 => absurd h0 hR⟩⟩
  · by_cases hji : j = i
    · subst hji
      exact ⟨_, List.mem_append_right _ List.mem_cons_self, rfl⟩
    · obtain ⟨o, ho, he⟩ := g.has j q hq (((hC j).1 hc).resolve_right hji)
      exact ⟨o, List.mem_append_left _ ho, he⟩
  · rw [lastAt_snoc] at hl
    split at hl
    · next hcl =>
      injection hl with hl
      subst hl
      rw [List.getElem?_append_right (Nat.le_refl _)] at hk
      simp at hk
      subst hk
      rcases hmem q hq with hq | rfl
      · obtain ⟨j, x, h1, h2, h3, h4, h5, h6⟩ := g.ops q hq
        have := hlast j x h1 h5 (by rw [← h3, hcq, ← hcl]; rfl)
        show q.id ≤ ((i + 1 : Nat) : Int)
        omega
      · exact Int.le_refl _
    · next hcl =>
      have hkl := lastAt_lt hl
      rw [List.getElem?_append_left hkl] at hk
      rcases hmem q hq with hq | rfl
      · exact g.last c k o hl hk q hq hcq
      · exact absurd hcq hcl
  · obtain ⟨q, h1, h2, h3⟩ := g.seq_ a ha
    exact ⟨q, h1, (hC a).2 (.inl h2), h3⟩
  · rcases hmem o ho with ho | rfl
    · exact g.told o ho h0
    · exact absurd (show (0 : Int) ≤ -1 from h0) (by decide)
  · rcases hmem q hq with hq | rfl
    · rcases hmem o ho with ho | rfl
      · exact g.order s1 a s2 hs o ho he q hq h0
      · obtain ⟨x, h1, h2, h3⟩ := g.seq_ a (by rw [hs]; simp)
        have : a = i := by have : ((i + 1 : Nat) : Int) = ((a + 1 : Nat) : Int) := he; omega
        subst this
        exact absurd h2 hn
    · exact absurd (show (0 : Int) ≤ -1 from h0) (by decide)
/-- one is done -/
theorem PI.does (g : PI ps C R h all m rs seq) {i : Nat} {p : Pn} (hp : ps[i]? = some p) (hc : C i) (hi : i ∉ seq) (h0 : p.op.code = 0) (hrs : ∀ j, rs' j = if j = i then (p.op.does (m p.op.key)).2 else rs j) (hm : ∀ key, m' key = if p.op.key = key then (p.op.does (m key)).1 else m key) : PI ps C R h all m' rs' (seq ++ [i]) := by
  have hne : ∀ a ∈ seq, rs' a = rs a := fun a ha => by rw [hrs, if_neg (fun e => hi (by rw [← e]; exact ha))]
  have split : ∀ s1 a s2, seq ++ [i] = s1 ++ a :: s2 → (∃ s3, seq = s1 ++ a :: s3) ∨ (s1 = seq ∧ a = i) := fun s1 a s2 hs => by
    rcases List.eq_nil_or_concat s2 with rfl | ⟨s3, x, rfl⟩
    · have := List.append_inj' hs rfl
      simp at this
      exact .inr ⟨this.1.symm, this.2.symm⟩
    · rw [List.concat_eq_append, ← List.cons_append, ← List.append_assoc] at hs
      have := List.append_inj' hs rfl
      exact .inl ⟨s3, this.1⟩
  refine ⟨g.run, g.ops, g.has, g.last, fun a ha => ?_, ?_, fun o ho hto => ?_, fun s1 a s2 q hs hq => ?_, fun s1 a s2 hs o ho he q hq hto => ?_, fun key => ?_⟩
  · rcases List.mem_append.1 ha with ha | ha
    · exact g.seq_ a ha
    · rw [List.mem_singleton] at ha; subst ha; exact ⟨p, hp, hc, h0⟩
  · exact List.nodup_append.2 ⟨g.nodup, List.nodup_cons.2 ⟨List.not_mem_nil, List.nodup_nil⟩, fun a ha b hb e => by rw [List.mem_singleton] at hb; subst hb; subst e; exact hi ha⟩
  · obtain ⟨a, ha, h1, h2⟩ := g.told o ho hto
    exact ⟨a, List.mem_append_left _ ha, h1, by rw [hne a ha]; exact h2⟩
  · rcases split s1 a s2 hs with ⟨s3, h1⟩ | ⟨rfl, rfl⟩
    · rw [hne a (by rw [h1]; simp)]
      exact g.res s1 a s3 q h1 hq
    · rw [hp] at hq
      injection hq with hq
      subst hq
      rw [hrs, if_pos rfl, g.map]
  · rcases split s1 a s2 hs with ⟨s3, h1⟩ | ⟨rfl, rfl⟩
    · exact g.order s1 a s3 h1 o ho he q hq hto
    · obtain ⟨b, hb, h1, _⟩ := g.told q hq hto
      exact .inl ⟨b, hb, h1⟩
  · rw [valOf_snoc hp, hm, g.map]
/-- one comes back -/
theorem PI.back (g : PI ps C R h all m rs seq) {i : Nat} {p : Pn} (hp : ps[i]? = some p) (hi : i ∈ seq) (hR : ¬ R i) (hlast : ∀ j q, ps[j]? = some q → C j → q.cl = p.cl → j ≤ i) (hR' : ∀ j, R' j ↔ R j ∨ j = i) : ∃ all', PI ps C R' (h ++ [p.backEv i (rs i)]) all' m rs seq ∧ opRun [] 0 (h ++ [p.backEv i (rs i)]) = some all' := by
  obtain ⟨p', hp', hc, h0⟩ := g.seq_ i hi
  rw [hp] at hp'
  injection hp' with hp'
  subst hp'
  obtain ⟨o, ho, hid⟩ := g.has i p hp hc
  obtain ⟨i', p', e1, e2, e3, e4, e5, e6⟩ := g.ops o ho
  have hii : i' = i := by omega
  subst hii
  rw [hp] at e1
  injection e1 with e1
  subst e1
  have hto : o.til < 0 := by
    by_cases h : o.til < 0
    · exact h
    · exact absurd (e6.1 (by omega)) hR
  obtain ⟨k, hk⟩ : ∃ k, lastAt p.cl all = some k := by
    cases hl : lastAt p.cl all with
    | some k => exact ⟨k, rfl⟩
    | none => exact absurd e3 (lastAt_none.1 hl o ho)
  obtain ⟨x, hx, hxc⟩ := lastAt_cl hk
  have hxo : x = o := by
    have h1 := g.last p.cl k x hk hx o ho e3
    have hxm := List.mem_of_getElem? hx
    obtain ⟨j, q, f1, f2, f3, f4, f5, f6⟩ := g.ops x hxm
    have := hlast j q f1 f5 (by rw [← f3, hxc])
    exact g.of_id hxm ho (by omega)
  subst hxo
  have hrk : (rs i').kind = 1 := by
    obtain ⟨s1, s2, hs⟩ := List.append_of_mem hi
    rw [g.res s1 i' s2 p hs hp]
    unfold Op5.does
    split
    · rfl
    · split
      · rfl
      · split
        · rfl
        · split <;> split <;> rfl
  have hstep : opStep all h.length (p.backEv i' (rs i')) = some (all.set k (x.came h.length (p.backEv i' (rs i')).rs)) :=
    opStep_back' rfl hk hx hto (by unfold Opn.who Ev.who; rw [hxc, hid]; rfl) (by show 1 ≤ (rs i').kind; omega) (by show (rs i').kind ≤ 3; omega)
  have hrun : opRun [] 0 (h ++ [p.backEv i' (rs i')]) = some (all.set k (x.came h.length (p.backEv i' (rs i')).rs)) := by
    rw [opRun_snoc, g.run]
    exact hstep
  have hrsq : (p.backEv i' (rs i')).rs = rs i' := rfl
  rw [hrsq] at hrun
  have sn := g.sane
  have hset : all.set k (x.came h.length (rs i')) = all.map fun y => if y.who = x.who then y.came h.length (rs i') else y := set_map (f := fun y => y.came h.length (rs i')) sn.unlike hx
  have hmem : ∀ y ∈ all.set k (x.came h.length (rs i')), (y ∈ all ∧ y.id ≠ x.id) ∨ y = x.came h.length (rs i') := fun y hy => by
    rw [hset, List.mem_map] at hy
    obtain ⟨z, hz, rfl⟩ := hy
    by_cases hzx : z.who = x.who
    · rw [if_pos hzx, sn.unlike.one hz ho hzx]; exact .inr rfl
    · rw [if_neg hzx]
      exact .inl ⟨hz, fun e => hzx (by rw [g.of_id hz ho e])⟩
  refine ⟨_, ⟨hrun, fun y hy => ?_, fun j q hq hcj => ?_, fun c j y hl hj z hz hzc => ?_, g.seq_, g.nodup, fun y hy h1 => ?_, g.res, fun s1 a s2 hs y hy he z hz h1 => ?_, g.map⟩, hrun⟩
  · rcases hmem y hy with ⟨hy, hne⟩ | rfl
    · obtain ⟨j, q, f1, f2, f3, f4, f5, f6⟩ := g.ops y hy
      refine ⟨j, q, f1, f2, f3, f4, f5, f6.trans ?_⟩
      rw [hR']
      exact ⟨fun h => .inl h, fun h => h.resolve_right fun e => hne (by rw [f2, e, hid])⟩
    · exact ⟨i', p, hp, hid, hxc, e4, hc, ⟨fun _ => (hR' i').2 (.inr rfl), fun _ => by show 0 ≤ (h.length : Int); omega⟩⟩
  · obtain ⟨y, hy, he⟩ := g.has j q hq hcj
    by_cases hyx : y.who = x.who
    · refine ⟨x.came h.length (rs i'), ?_, ?_⟩
      · rw [hset, List.mem_map]; exact ⟨x, ho, if_pos rfl⟩
      · rw [← he, sn.unlike.one hy ho hyx]; rfl
    · exact ⟨y, by rw [hset, List.mem_map]; exact ⟨y, hy, if_neg hyx⟩, he⟩
  · rw [lastAt_set (o' := x.came h.length (rs i')) c all k x hx rfl] at hl
    have hy : ∃ y0, all[j]? = some y0 ∧ y0.id = y.id := by
      by_cases hjk : j = k
      · subst hjk
        rw [List.getElem?_set_self (lastAt_lt hl)] at hj
        injection hj with hj
        exact ⟨x, hx, by rw [← hj]; rfl⟩
      · rw [List.getElem?_set_ne (Ne.symm hjk)] at hj
        exact ⟨y, hj, rfl⟩
    obtain ⟨y0, hy0, hyid⟩ := hy
    rcases hmem z hz with ⟨hz, _⟩ | rfl
    · rw [← hyid]; exact g.last c j y0 hl hy0 z hz hzc
    · rw [← hyid]; exact g.last c j y0 hl hy0 x ho hzc
  · rcases hmem y hy with ⟨hy, _⟩ | rfl
    · exact g.told y hy h1
    · exact ⟨i', hi, hid, rfl⟩
  · have hy0 : ∃ y0 ∈ all, y0.id = y.id ∧ y0.fr = y.fr := by
      rcases hmem y hy with ⟨hy, _⟩ | rfl
      · exact ⟨y, hy, rfl, rfl⟩
      · exact ⟨x, ho, rfl, rfl⟩
    obtain ⟨y0, hy0, g1, g2⟩ := hy0
    rcases hmem z hz with ⟨hz, _⟩ | rfl
    · rw [← g2]; exact g.order s1 a s2 hs y0 hy0 (by rw [g1]; exact he) z hz h1
    · refine .inr ?_
      rw [← g2]
      exact (sn.fr_ y0 hy0).2
end
section
variable {ps : List Pn} {C R : Nat → Prop} {h : List Ev} {all : List Opn} {m : ByteArray → Option ByteArray} {rs : Nat → Rs} {seq : List Nat}
theorem few_nat : ∀ (n : Nat) (l : List Nat), l.Nodup → (∀ x ∈ l, x < n) → l.length ≤ n
  | 0, l, _, h => by
    cases l with
    | nil => exact Nat.le_refl _
    | cons x l => exact absurd (h x List.mem_cons_self) (by omega)
  | n + 1, l, hn, h => by
    by_cases hm : n ∈ l
    · have h1 := few_nat n (l.erase n) (hn.erase n) fun x hx => by
        have := (List.Nodup.mem_erase_iff hn).1 hx
        have := h x this.2
        omega
      have := List.length_erase_of_mem hm
      omega
    · have := few_nat n l hn fun x hx => by
        have := h x hx
        have : x ≠ n := fun e => hm (by rw [← e]; exact hx)
        omega
      omega
theorem PI.few (g : PI ps C R h all m rs seq) : all.length ≤ ps.length := by
  have := few_nat ps.length (all.map fun o => o.id.toNat - 1) ?_ ?_
  · rwa [List.length_map] at this
  · refine List.pairwise_map.2 (g.sane.unlike.imp_of_mem fun {a b} ha hb hab e => hab ?_)
    obtain ⟨i, p, h1, h2, _⟩ := g.ops a ha
    obtain ⟨j, q, g1, g2, _⟩ := g.ops b hb
    rw [g.of_id ha hb (by omega)]
  · intro x hx
    obtain ⟨o, ho, rfl⟩ := List.mem_map.1 hx
    obtain ⟨i, p, h1, h2, _⟩ := g.ops o ho
    have := (List.getElem?_eq_some_iff.1 h1).1
    omega
theorem PI.kind (g : PI ps C R h all m rs seq) {a : Nat} (ha : a ∈ seq) : (rs a).kind = 1 := by
  obtain ⟨s1, s2, hs⟩ := List.append_of_mem ha
  obtain ⟨p, hp, _⟩ := g.seq_ a ha
  rw [g.res s1 a s2 p hs hp]
  unfold Op5.does
  split
  · rfl
  · split
    · rfl
    · split
      · rfl
      · split <;> split <;> rfl
theorem PI.kinds (g : PI ps C R h all m rs seq) {o : Opn} (ho : o ∈ all) : o.res.kind = 0 ∨ o.res.kind = 1 := by
  rcases g.sane.to_ o ho with ⟨_, e⟩ | ⟨h0, _⟩
  · rw [e]; exact .inl rfl
  · obtain ⟨a, ha, _, e⟩ := g.told o ho h0
    rw [e]; exact .inr (g.kind ha)
def doneB (L : List Opn) (s : List Nat) (k : Nat) : Bool := match L[k]? with
  | none => false
  | some o => s.any fun a => decide (o.id = ((a + 1 : Nat) : Int))
theorem PI.mc (g : PI ps C R h all m rs seq) (key : ByteArray) : MC (byKey all key) (fun _ => false) none := by
  have hin : ∀ {k : Nat} {o : Opn}, (byKey all key)[k]? = some o → o ∈ all ∧ o.op.key = key ∧ (0 ≤ o.til ∨ o.op.kind ≠ 1) := fun hk => by
    obtain ⟨a, b⟩ := List.mem_filter.1 (List.mem_of_getElem? hk)
    unfold looked at b
    exact ⟨a, of_decide_eq_true b⟩
  have hu : ∀ {k j : Nat} {o q : Opn}, (byKey all key)[k]? = some o → (byKey all key)[j]? = some q → o.id = q.id → k = j := fun {k j o q} hk hj e => by
    have hP : Unlike (byKey all key) := g.sane.unlike.filter _
    unfold Unlike at hP
    rw [List.pairwise_iff_getElem] at hP
    obtain ⟨h1, rfl⟩ := List.getElem?_eq_some_iff.1 hk
    obtain ⟨h2, rfl⟩ := List.getElem?_eq_some_iff.1 hj
    have hw : (byKey all key)[k] = (byKey all key)[j] := g.of_id (hin hk).1 (hin hj).1 e
    rcases Nat.lt_trichotomy k j with hlt | he | hlt
    · exact absurd (by rw [hw]) (hP k j h1 h2 hlt)
    · exact he
    · exact absurd (by rw [hw]) (hP j k h2 h1 hlt)
  have key_ : ∀ (s2 s1 : List Nat), seq = s1 ++ s2 → MC (byKey all key) (doneB (byKey all key) s1) (valOf ps key s1) := by
    intro s2
    induction s2 with
    | nil =>
      intro s1 hs
      rw [List.append_nil] at hs
      subst hs
      refine .idle _ _ fun k p hp hD => ?_
      by_cases h0 : p.til < 0
      · exact h0
      · obtain ⟨a, ha, h1, _⟩ := g.told p (hin hp).1 (by omega)
        unfold doneB at hD
        rw [hp] at hD
        simp only at hD
        rw [List.any_eq_false] at hD
        exact absurd (decide_eq_true h1) (hD a ha)
    | cons a s2 ih =>
      intro s1 hs
      have hs' : seq = (s1 ++ [a]) ++ s2 := by rw [hs, List.append_assoc]; rfl
      have IH := ih (s1 ++ [a]) hs'
      have ha : a ∈ seq := by rw [hs]; simp
      obtain ⟨pa, hpa, hCa, hcode⟩ := g.seq_ a ha
      obtain ⟨o, ho, hid⟩ := g.has a pa hpa hCa
      obtain ⟨i', p', e1, e2, e3, e4, e5, e6⟩ := g.ops o ho
      have hii : i' = a := by omega
      subst hii
      rw [hpa] at e1
      injection e1 with e1
      subst e1
      have hnod : i' ∉ s1 := by
        have := g.nodup
        rw [hs] at this
        have := (List.nodup_append.1 this).2.2
        intro h1
        exact this i' h1 i' List.mem_cons_self rfl
      have hany : ∀ x : Opn, ((s1 ++ [i']).any fun b => decide (x.id = ((b + 1 : Nat) : Int))) = ((s1.any fun b => decide (x.id = ((b + 1 : Nat) : Int))) || decide (x.id = o.id)) := fun x => by
        rw [List.any_append, hid]
        simp
      by_cases hl : looked key o = true
      · have hol : o ∈ byKey all key := List.mem_filter.2 ⟨ho, hl⟩
        obtain ⟨k, hk⟩ := List.getElem?_of_mem hol
        have hok := (hin hk).2.1
        refine .step _ _ (pa.op.does (valOf ps key s1)).1 k o hk ?_ (fun j q hj hD => ?_) ?_ ?_
        · unfold doneB
          rw [hk]
          simp only
          rw [List.any_eq_false]
          intro b hb e
          have := of_decide_eq_true e
          have : b = i' := by omega
          subst this
          exact hnod hb
        · by_cases h0 : q.til < 0
          · exact .inl h0
          · rcases g.order s1 i' s2 hs o ho hid q (hin hj).1 (by omega) with ⟨b, hb, hbq⟩ | hlt
            · unfold doneB at hD
              rw [hj] at hD
              simp only at hD
              rw [List.any_eq_false] at hD
              exact absurd (decide_eq_true hbq) (hD b hb)
            · exact .inr (by omega)
        · unfold Opn.goes
          rw [e4, if_pos]
          refine ⟨hcode, ?_⟩
          by_cases h0 : o.til < 0
          · exact .inl h0
          · refine .inr ?_
            obtain ⟨b, hb, hbid, hbr⟩ := g.told o ho (by omega)
            have : b = i' := by omega
            subst this
            rw [hbr, g.res s1 b s2 pa hs hpa, ← e4, hok]
        · have hf : (fun j => doneB (byKey all key) s1 j || decide (j = k)) = doneB (byKey all key) (s1 ++ [i']) := by
            funext j
            unfold doneB
            cases hj : (byKey all key)[j]? with
            | none =>
              simp only [Bool.false_or]
              exact decide_eq_false fun e => by rw [e, hk] at hj; cases hj
            | some q =>
              simp only
              rw [hany q]
              congr 1
              rw [Bool.eq_iff_iff, decide_eq_true_eq, decide_eq_true_eq]
              constructor
              · rintro rfl
                rw [hk] at hj
                injection hj with hj
                rw [hj]
              · intro e; exact hu hj hk e
          rw [hf, show (pa.op.does (valOf ps key s1)).1 = valOf ps key (s1 ++ [i']) by rw [valOf_snoc hpa, if_pos (by rw [← e4]; exact hok)]]
          exact IH
      · have hv : valOf ps key (s1 ++ [i']) = valOf ps key s1 := by
          rw [valOf_snoc hpa]
          split
          · next hkey =>
            have hnot : ¬ (0 ≤ o.til ∨ o.op.kind ≠ 1) := fun h1 => hl (by unfold looked; exact decide_eq_true ⟨by rw [e4]; exact hkey, h1⟩)
            have hk1 : pa.op.kind = 1 := by
              rw [← e4]
              by_cases h1 : o.op.kind = 1
              · exact h1
              · exact absurd (.inr h1) hnot
            unfold Op5.does
            rw [if_pos hk1]
          · rfl
        have hf : doneB (byKey all key) (s1 ++ [i']) = doneB (byKey all key) s1 := by
          funext j
          unfold doneB
          cases hj : (byKey all key)[j]? with
          | none => rfl
          | some q =>
            simp only
            rw [hany q]
            have : decide (q.id = o.id) = false := decide_eq_false fun e => by
              have hqo := g.of_id (hin hj).1 ho e
              subst hqo
              exact hl (List.mem_filter.1 (List.mem_of_getElem? hj)).2
            rw [this, Bool.or_false]
        rw [hv, hf] at IH
        exact IH
  have := key_ seq [] rfl
  have hf : doneB (byKey all key) [] = fun _ => false := by
    funext k
    unfold doneB
    cases (byKey all key)[k]? <;> rfl
  rw [hf] at this
  exact this
theorem filterMap_self {f : Opn → Option Opn} : ∀ l : List Opn, (∀ o ∈ l, f o = some o) → l.filterMap f = l
  | [], _ => rfl
  | o :: l, h => by
    rw [List.filterMap_cons, h o List.mem_cons_self]
    simp only
    rw [filterMap_self l fun x hx => h x (List.mem_cons_of_mem _ hx)]
theorem fix_self {o : Opn} (h : o.res.kind = 0 ∨ o.res.kind = 1) : o.fix = some o := by
  unfold Opn.fix
  rw [if_neg (by omega), if_neg (by omega)]
theorem sharp_byKey {l : List Opn} (h : Sharp l) (key : ByteArray) : Sharp (byKey l key) := fun p hp q hq => h p (List.mem_filter.1 hp).1 q (List.mem_filter.1 hq).1
theorem check_of {h : List Ev} {l : List Opn} (ho : opsOf h = some l) (hl : l.length ≤ 14) {b : Bool} (hb : (l.all fun o => couldB (byKey l o.op.key)) = b) : checkOf h = (b, 0) := by
  unfold checkOf
  rw [ho]
  simp only
  rw [if_neg, hb]
  intro ha
  obtain ⟨o, _, h2⟩ := List.any_eq_true.1 ha
  have h3 := of_decide_eq_true h2
  have : (byKey l o.op.key).length ≤ l.length := List.length_filter_le _ _
  omega
/-- what was played could be that of one map -/
theorem PI.check (g : PI ps C R h all m rs seq) (hn : ps.length ≤ 14) : checkOf h = (true, 0) := by
  have hof : opsOf h = some all := by
    unfold opsOf
    rw [g.run]
    simp only [Option.map_some]
    rw [filterMap_self all fun o ho => fix_self (g.kinds ho)]
  refine check_of hof (by have := g.few; omega) ?_
  rw [List.all_eq_true]
  intro o _
  exact (could_iff (sharp_byKey g.sane.sharp _)).2 (g.mc _)
/-- ... and less told of it -/
def Ev.veil (k : Int) (e : Ev) : Ev := if e.back = true ∧ e.id = k then { e with rkind := 2, found := false, rval := ⟨#[]⟩ } else e
def veilR (k : Int) (h : List Ev) (n : Nat) (x : Rs) : Rs := match h[n]? with
  | none => x
  | some e => if e.id = k then ⟨2, false, ⟨#[]⟩⟩ else x
theorem veil_turn (k : Int) (h : List Ev) : ∀ (l : List Ev) (n : Nat), (∀ j : Nat, h[n + j]? = l[j]?) → l.map (Ev.veil k) = turnAll (veilR k h) n l
  | [], n, _ => rfl
  | e :: l, n, hl => by
    rw [List.map_cons]
    unfold turnAll
    rw [veil_turn k h l (n + 1) fun j => by have := hl (j + 1); rw [List.getElem?_cons_succ] at this; rw [← this]; congr 1; omega]
    congr 1
    have h0 : h[n]? = some e := by have := hl 0; simpa using this
    unfold Ev.veil Ev.turn veilR
    rw [h0]
    simp only
    cases hb : e.back with
    | false => simp
    | true =>
      by_cases hk : e.id = k
      · simp [hk]
      · simp [hk, Ev.rs]
        cases e
        simp only at hb
        rw [hb]
theorem op_back {h : List Ev} {all : List Opn} (hr : opRun [] 0 h = some all) : ∀ o ∈ all, 0 ≤ o.til → ∃ e, h[o.til.toNat]? = some e ∧ e.who = o.who := by
  have key : ∀ m a, m ≤ h.length → opRun [] 0 (h.take m) = some a → ∀ o ∈ a, 0 ≤ o.til → ∃ e, h[o.til.toNat]? = some e ∧ e.who = o.who := by
    intro m
    induction m with
    | zero =>
      intro a _ hr o ho
      rw [List.take_zero] at hr
      injection hr with hr
      subst hr
      cases ho
    | succ m ih =>
      intro a hm hr o ho h0
      have hm' : m < h.length := by omega
      have he' : h[m]? = some h[m] := List.getElem?_eq_getElem hm'
      rw [opRun_take he'] at hr
      cases hp : opRun [] 0 (h.take m) with
      | none => rw [hp] at hr; cases hr
      | some b =>
        rw [hp] at hr
        cases hb2 : h[m].back with
        | false =>
          obtain ⟨rfl, _⟩ := opStep_call hb2 hr
          rcases List.mem_append.1 ho with ho | ho
          · exact ih b (by omega) hp o ho h0
          · rw [List.mem_singleton] at ho
            subst ho
            exact absurd (show (0 : Int) ≤ -1 from h0) (by decide)
        | true =>
          obtain ⟨j, x, g1, g2, g3, g4, g5, g6, rfl⟩ := opStep_back hb2 hr
          rcases List.mem_or_eq_of_mem_set ho with ho | rfl
          · exact ih b (by omega) hp o ho h0
          · refine ⟨h[m], ?_, g4.symm⟩
            show h[((m : Nat) : Int).toNat]? = _
            rw [Int.toNat_natCast]
            exact he'
  exact key h.length all (Nat.le_refl _) (by rw [List.take_length]; exact hr)
def Opn.veil (k : Int) (o : Opn) : Opn := if o.id = k then { o with til := -1, res := Rs.zero } else o
theorem PI.veiled (g : PI ps C R h all m rs seq) (hn : ps.length ≤ 14) (k : Int) : checkOf (h.map (Ev.veil k)) = (true, 0) := by
  have hof : opsOf (h.map (Ev.veil k)) = some (all.map (Opn.veil k)) := by
    unfold opsOf
    rw [veil_turn k h h 0 fun j => by rw [Nat.zero_add]]
    have := run_turn (r := veilR k h) (fun n x h1 h2 => by
      unfold veilR
      split
      · exact ⟨h1, h2⟩
      · split
        · exact ⟨by decide, by decide⟩
        · exact ⟨h1, h2⟩) h 0 [] all Sane.nil g.run
    rw [List.map_nil] at this
    rw [this]
    simp only [Option.map_some]
    congr 1
    rw [List.filterMap_map]
    have : ∀ l : List Opn, (∀ o ∈ l, o ∈ all) → l.filterMap (Opn.fix ∘ Opn.turn (veilR k h)) = l.map (Opn.veil k) := fun l => by
      induction l with
      | nil => intro _; rfl
      | cons o l ih =>
        intro hl
        have ho := hl o List.mem_cons_self
        have h1 : (Opn.fix ∘ Opn.turn (veilR k h)) o = some (o.veil k) := by
          simp only [Function.comp]
          rcases g.sane.to_ o ho with ⟨e1, e2⟩ | ⟨h0, _⟩
          · have ht : o.turn (veilR k h) = o := by unfold Opn.turn; rw [if_pos (by omega)]
            rw [ht, fix_self (g.kinds ho)]
            unfold Opn.veil
            split
            · congr 1
              cases o
              simp only at e1 e2
              subst e1 e2
              rfl
            · rfl
          · obtain ⟨e, he, hw⟩ := op_back g.run o ho h0
            have hid : e.id = o.id := by unfold Ev.who Opn.who at hw; injection hw
            have ht : o.turn (veilR k h) = if o.id = k then { o with res := ⟨2, false, ⟨#[]⟩⟩ } else o := by
              unfold Opn.turn veilR
              rw [if_neg (by omega), he]
              simp only
              rw [hid]
              split <;> rfl
            rw [ht]
            unfold Opn.veil
            split
            · unfold Opn.fix
              simp
            · exact fix_self (g.kinds ho)
        rw [List.filterMap_cons, h1, List.map_cons]
        simp only
        rw [ih fun x hx => hl x (List.mem_cons_of_mem _ hx)]
    exact this all fun o ho => ho
  refine check_of hof (by rw [List.length_map]; have := g.few; omega) ?_
  rw [List.all_eq_true]
  intro o _
  obtain ⟨key, hkey⟩ : ∃ key, key = o.op.key := ⟨_, rfl⟩
  rw [← hkey]
  have vop : ∀ o : Opn, (o.veil k).op = o.op := fun o => by unfold Opn.veil; split <;> rfl
  have vfr : ∀ o : Opn, (o.veil k).fr = o.fr := fun o => by unfold Opn.veil; split <;> rfl
  have vto : ∀ o : Opn, ((o.veil k).til = o.til ∧ (o.veil k).res = o.res) ∨ (o.veil k).til = -1 := fun o => by
    unfold Opn.veil
    split
    · exact .inr rfl
    · exact .inl ⟨rfl, rfl⟩
  have hbk : byKey (all.map (Opn.veil k)) key = ((byKey all key).map (Opn.veil k)).filter (looked key) := by
    unfold byKey
    rw [List.filter_map, List.filter_map, List.filter_filter]
    congr 1
    refine List.filter_congr fun x _ => ?_
    simp only [Function.comp]
    rw [Bool.eq_iff_iff, Bool.and_eq_true]
    refine ⟨fun h1 => ⟨h1, ?_⟩, fun h1 => h1.1⟩
    unfold looked at h1 ⊢
    have h2 := of_decide_eq_true h1
    rw [vop] at h2
    refine decide_eq_true ⟨h2.1, h2.2.imp_left fun h3 => ?_⟩
    rcases vto x with ⟨h4, _⟩ | h4
    · omega
    · omega
  rw [hbk]
  have hsh : Sharp ((byKey all key).map (Opn.veil k)) := fun p hp q hq h0 => by
    obtain ⟨p', hp', rfl⟩ := List.mem_map.1 hp
    obtain ⟨q', hq', rfl⟩ := List.mem_map.1 hq
    rw [vfr]
    rcases vto q' with ⟨h4, _⟩ | h4
    · rw [h4]; exact sharp_byKey g.sane.sharp key p' hp' q' hq' (by omega)
    · omega
  refine could_less hsh (fun x hx hP => ?_) (mc_open (l := byKey all key) (fun j => ?_) (g.mc key))
  · obtain ⟨y, hy, rfl⟩ := List.mem_map.1 hx
    obtain ⟨hy1, hy2⟩ := List.mem_filter.1 hy
    unfold looked at hP hy2
    have h1 := of_decide_eq_false hP
    have h2 := of_decide_eq_true hy2
    rw [vop] at h1 ⊢
    have h3 : ¬ (0 ≤ (y.veil k).til ∨ y.op.kind ≠ 1) := fun h3 => h1 ⟨h2.1, h3⟩
    refine ⟨by have : ¬ 0 ≤ (y.veil k).til := fun h4 => h3 (.inl h4); omega, ?_⟩
    by_cases h4 : y.op.kind = 1
    · exact h4
    · exact absurd (.inr h4) h3
  · rw [List.getElem?_map]
    cases hj : (byKey all key)[j]? with
    | none => exact .inl ⟨rfl, rfl⟩
    | some x => exact .inr ⟨x, x.veil k, rfl, rfl, vop x, vfr x, (vto x).imp_right fun h4 => by omega⟩
/-- one coming back that is otherwise -/
def longR (kk : Nat) (big : ByteArray) (n : Nat) (x : Rs) : Rs := if n = kk then ⟨x.kind, true, big⟩ else x
theorem PI.tells (g : PI ps C R h all m rs seq) (hn : ps.length ≤ 14) {kk : Nat} {e : Ev} (he : h[kk]? = some e) (hb : e.back = true) {big : ByteArray} (hbig : 2000 < big.size) : checkOf (turnAll (longR kk big) 0 h) = (false, 0) := by
  have hrk : ∀ n x, (longR kk big n x).kind = x.kind := fun n x => by unfold longR; split <;> rfl
  have tk : ∀ o : Opn, (o.turn (longR kk big)).res.kind = o.res.kind := fun o => by
    unfold Opn.turn
    split
    · rfl
    · exact hrk _ _
  have hof : opsOf (turnAll (longR kk big) 0 h) = some (all.map (Opn.turn (longR kk big))) := by
    unfold opsOf
    have := run_turn (r := longR kk big) (fun n x h1 h2 => by rw [hrk]; exact ⟨h1, h2⟩) h 0 [] all Sane.nil g.run
    rw [List.map_nil] at this
    rw [this]
    simp only [Option.map_some]
    rw [filterMap_self]
    intro o ho
    obtain ⟨y, hy, rfl⟩ := List.mem_map.1 ho
    exact fix_self (by rw [tk]; exact g.kinds hy)
  refine check_of hof (by rw [List.length_map]; have := g.few; omega) ?_
  obtain ⟨o, ho, hto, _, _⟩ := back_op g.run he hb
  have hres : (o.turn (longR kk big)).res.val = big := by
    unfold Opn.turn longR
    rw [if_neg (by omega)]
    simp only
    rw [if_pos (by omega)]
  have hto' : 0 ≤ (o.turn (longR kk big)).til := by rw [oturn_to]; omega
  have hm : o.turn (longR kk big) ∈ all.map (Opn.turn (longR kk big)) := List.mem_map.2 ⟨o, ho, rfl⟩
  rw [Bool.eq_false_iff]
  intro ha
  rw [List.all_eq_true] at ha
  have h1 := ha _ hm
  have h2 := could_long (l := byKey (all.map (Opn.turn (longR kk big))) (o.turn (longR kk big)).op.key) (o := o.turn (longR kk big)) (List.mem_filter.2 ⟨hm, by unfold looked; exact decide_eq_true ⟨rfl, .inl hto'⟩⟩) hto' (by rw [hres]; exact hbig)
  rw [h2] at h1
  cases h1
end
end Go.Proofs.Ytajbagdgjbihjaa
