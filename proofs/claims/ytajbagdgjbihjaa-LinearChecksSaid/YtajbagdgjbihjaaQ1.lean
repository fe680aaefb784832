/- A history's operations, plainly: a machine over its events; what always holds of it. -/
import Derived.Test.YtajbagdgjbihjaaQ0
import Derived.Test.YtajbagdgjbihjaaE8
import Derived.Laws.Strings
namespace Go.Proofs.Ytajbagdgjbihjaa
set_option linter.unusedVariables false

def Ev.o5 (e : Ev) : Op5 := ⟨e.kind, e.key, e.val, e.old, e.had⟩
def Ev.rs (e : Ev) : Rs := ⟨e.rkind, e.found, e.rval⟩
/-- the operation that a call begins -/
def Ev.opn (e : Ev) (n : Nat) : Opn := ⟨e.client, e.id, (n : Int), -1, e.o5, Rs.zero⟩
/-- where a client's last operation lies -/
def lastAt (c : Int) : List Opn → Option Nat
  | [] => none
  | o :: l => match lastAt c l with
    | some k => some (k + 1)
    | none => if o.cl = c then some 0 else none
/-- ... if it has not come back -/
def openAt (all : List Opn) (c : Int) : Option Nat := match lastAt c all with
  | none => none
  | some k => match all[k]? with
    | none => none
    | some o => if o.til < 0 then some k else none
/-- one event more -/
def opStep (all : List Opn) (n : Nat) (e : Ev) : Option (List Opn) :=
  if e.back then match openAt all e.client with
    | none => none
    | some k => match all[k]? with
      | none => none
      | some o => if o.id = e.id ∧ 1 ≤ e.rkind ∧ e.rkind ≤ 3 then some (all.set k { o with til := (n : Int), res := e.rs }) else none
  else if all.any (fun o => decide (o.cl = e.client ∧ o.id = e.id)) then none else some (all ++ [e.opn n])
def opRun : List Opn → Nat → List Ev → Option (List Opn)
  | all, _, [] => some all
  | all, n, e :: l => match opStep all n e with
    | none => none
    | some all' => opRun all' (n + 1) l
/-- what is told of it: what was refused is left out, what is unknown is open -/
def Opn.fix (o : Opn) : Option Opn := if o.res.kind = 3 then none else if o.res.kind = 2 then some { o with til := -1, res := Rs.zero } else some o
def opsOf (h : List Ev) : Option (List Opn) := (opRun [] 0 h).map fun all => all.filterMap Opn.fix
/-- those of a key that are looked at -/
def looked (key : ByteArray) (o : Opn) : Bool := decide (o.op.key = key ∧ (0 ≤ o.til ∨ o.op.kind ≠ 1))
def byKey (l : List Opn) (key : ByteArray) : List Opn := l.filter (looked key)
/-- whether it could be that of one map -/
def checkOf (h : List Ev) : Bool × Int := match opsOf h with
  | none => (false, 4)
  | some l => if l.any fun o => decide (14 < (byKey l o.op.key).length) then (false, 3) else (l.all fun o => couldB (byKey l o.op.key), 0)
theorem opRun_cons (all : List Opn) (n : Nat) (e : Ev) (l : List Ev) : opRun all n (e :: l) = (opStep all n e).bind fun a => opRun a (n + 1) l := by
  conv => lhs; unfold opRun
  cases opStep all n e <;> rfl
theorem opRun_append : ∀ (l l' : List Ev) (all : List Opn) (n : Nat), opRun all n (l ++ l') = (opRun all n l).bind fun a => opRun a (n + l.length) l'
  | [], l', all, n => rfl
  | e :: l, l', all, n => by
    rw [List.cons_append, opRun_cons, opRun_cons]
    cases opStep all n e with
    | none => rfl
    | some a =>
      show opRun a (n + 1) (l ++ l') = (opRun a (n + 1) l).bind _
      rw [opRun_append l l' a (n + 1), List.length_cons, show n + (l.length + 1) = n + 1 + l.length by omega]
theorem opRun_take {h : List Ev} {k : Nat} {e : Ev} (he : h[k]? = some e) : opRun [] 0 (h.take (k + 1)) = (opRun [] 0 (h.take k)).bind fun a => opStep a k e := by
  obtain ⟨hk, rfl⟩ := List.getElem?_eq_some_iff.1 he
  rw [List.take_succ_eq_append_getElem hk, opRun_append]
  congr 1
  funext a
  rw [List.length_take, Nat.min_eq_left (by omega), Nat.zero_add, opRun_cons]
  cases opStep a k h[k] <;> rfl
theorem lastAt_lt {c : Int} : ∀ {l : List Opn} {k : Nat}, lastAt c l = some k → k < l.length
  | [], k, h => by cases h
  | o :: l, k, h => by
    unfold lastAt at h
    cases hl : lastAt c l with
    | some j =>
      rw [hl] at h
      have := lastAt_lt hl
      simp only [Option.some.injEq] at h
      rw [List.length_cons]
      omega
    | none =>
      rw [hl] at h
      simp only at h
      split at h
      · injection h with h
        rw [List.length_cons]
        omega
      · cases h
theorem lastAt_snoc (c : Int) : ∀ (l : List Opn) (o : Opn), lastAt c (l ++ [o]) = if o.cl = c then some l.length else lastAt c l
  | [], o => by
    simp [lastAt]
  | x :: l, o => by
    rw [List.cons_append]
    conv => lhs; unfold lastAt
    rw [lastAt_snoc c l o]
    by_cases h : o.cl = c
    · simp [h]
    · simp only [h, if_false]
      conv => rhs; unfold lastAt
theorem lastAt_map (c : Int) (f : Opn → Opn) (hf : ∀ o, (f o).cl = o.cl) : ∀ l : List Opn, lastAt c (l.map f) = lastAt c l
  | [] => rfl
  | o :: l => by
    rw [List.map_cons]
    unfold lastAt
    rw [lastAt_map c f hf l, hf]
theorem lastAt_set (c : Int) {o' : Opn} : ∀ (l : List Opn) (k : Nat) (o : Opn), l[k]? = some o → o'.cl = o.cl → lastAt c (l.set k o') = lastAt c l
  | [], k, o, h, _ => by simp at h
  | x :: l, 0, o, h, hc => by
    simp at h
    subst h
    rw [List.set_cons_zero]
    unfold lastAt
    rw [hc]
  | x :: l, k + 1, o, h, hc => by
    rw [List.set_cons_succ]
    unfold lastAt
    rw [lastAt_set c l k o (by simpa using h) hc]
theorem lastAt_cl {c : Int} : ∀ {l : List Opn} {k : Nat}, lastAt c l = some k → ∃ o, l[k]? = some o ∧ o.cl = c
  | [], k, h => by cases h
  | x :: l, k, h => by
    unfold lastAt at h
    cases hl : lastAt c l with
    | some j =>
      rw [hl] at h
      injection h with h
      subst h
      obtain ⟨o, h1, h2⟩ := lastAt_cl hl
      exact ⟨o, by simpa using h1, h2⟩
    | none =>
      rw [hl] at h
      simp only at h
      split at h
      · next hc =>
        injection h with h
        subst h
        exact ⟨x, rfl, hc⟩
      · cases h
theorem openAt_some {all : List Opn} {c : Int} {k : Nat} (h : openAt all c = some k) : lastAt c all = some k ∧ ∃ o, all[k]? = some o ∧ o.til < 0 ∧ o.cl = c := by
  unfold openAt at h
  cases hl : lastAt c all with
  | none => rw [hl] at h; cases h
  | some j =>
    rw [hl] at h
    obtain ⟨o, h1, h2⟩ := lastAt_cl hl
    simp only [h1] at h
    split at h
    · next ht =>
      injection h with h
      subst h
      exact ⟨rfl, o, h1, ht, h2⟩
    · cases h
/-- a call: the client's is open now -/
theorem openAt_call (all : List Opn) (e : Ev) (n : Nat) (c : Int) : openAt (all ++ [e.opn n]) c = if e.client = c then some all.length else openAt all c := by
  unfold openAt
  rw [lastAt_snoc]
  show (match (if e.client = c then some all.length else lastAt c all) with | none => none | some k => _) = _
  by_cases h : e.client = c
  · rw [if_pos h, if_pos h]
    simp [Ev.opn]
  · rw [if_neg h, if_neg h]
    cases hl : lastAt c all with
    | none => rfl
    | some k =>
      have hk := lastAt_lt hl
      simp only [List.getElem?_append_left hk]
/-- a coming back: the client's is open no more -/
theorem openAt_back {all : List Opn} {c : Int} {k n : Nat} {o : Opn} {r : Rs} (hk : lastAt c all = some k) (ho : all[k]? = some o) (hc : o.cl = c) (x : Int) : openAt (all.set k { o with til := (n : Int), res := r }) x = if c = x then none else openAt all x := by
  have hkl := lastAt_lt hk
  unfold openAt
  rw [lastAt_set (o' := { o with til := (n : Int), res := r }) x all k o ho rfl]
  by_cases h : c = x
  · subst h
    rw [if_pos rfl, hk]
    simp only [List.getElem?_set_self hkl]
    rw [if_neg]
    show ¬ (n : Int) < 0
    omega
  · rw [if_neg h]
    cases hl : lastAt x all with
    | none => rfl
    | some j =>
      have hjk : j ≠ k := by
        rintro rfl
        obtain ⟨o2, h1, h2⟩ := lastAt_cl hl
        rw [ho] at h1
        injection h1 with h1
        subst h1
        exact h (hc.symm.trans h2)
      simp only [List.getElem?_set_ne (Ne.symm hjk)]
theorem hit_eq {key : ByteArray} {e : Ev} : e.hit key = true ↔ e.key = key := by
  unfold Ev.hit
  rw [beq_iff_eq, ByteArray.toList_eq, ByteArray.toList_eq]
  constructor
  · intro h
    have := Array.toList_inj.1 h
    cases h1 : e.key; cases h2 : key; simp_all
  · intro h; rw [h]
def Opn.who (o : Opn) : Int × Int := (o.cl, o.id)
def Opn.at_ (key : ByteArray) (o : Opn) : Bool := decide (o.op.key = key)
/-- the operations are unlike, each by its client and number -/
def Unlike (l : List Opn) : Prop := l.Pairwise fun a b => a.who ≠ b.who
theorem Unlike.one {l : List Opn} (h : Unlike l) {a b : Opn} (ha : a ∈ l) (hb : b ∈ l) (e : a.who = b.who) : a = b := by
  induction l with
  | nil => cases ha
  | cons x l ih =>
    have h' := List.pairwise_cons.1 h
    rcases List.mem_cons.1 ha with rfl | ha'
    · rcases List.mem_cons.1 hb with rfl | hb'
      · rfl
      · exact absurd e (h'.1 b hb')
    · rcases List.mem_cons.1 hb with rfl | hb'
      · exact absurd e.symm (h'.1 a ha')
      · exact ih h'.2 ha' hb'
theorem set_map {f : Opn → Opn} {o : Opn} : ∀ {l : List Opn} {k : Nat}, Unlike l → l[k]? = some o → l.set k (f o) = l.map fun x => if x.who = o.who then f x else x
  | [], k, _, h => by simp at h
  | x :: l, 0, hu, h => by
    simp at h
    subst h
    have h' := List.pairwise_cons.1 hu
    rw [List.set_cons_zero, List.map_cons, if_pos rfl]
    congr 1
    conv => lhs; rw [← List.map_id l]
    refine List.map_congr_left fun y hy => ?_
    rw [if_neg (fun e => h'.1 y hy e.symm)]
    rfl
  | x :: l, k + 1, hu, h => by
    have h' := List.pairwise_cons.1 hu
    rw [List.set_cons_succ, List.map_cons, set_map h'.2 (by simpa using h), if_neg (h'.1 o (List.mem_of_getElem? (by simpa using h)))]
theorem lastAt_none {c : Int} : ∀ {l : List Opn}, lastAt c l = none ↔ ∀ o ∈ l, o.cl ≠ c
  | [] => by simp [lastAt]
  | x :: l => by
    have ih := lastAt_none (c := c) (l := l)
    unfold lastAt
    cases hl : lastAt c l with
    | some k =>
      simp only
      constructor
      · intro h; cases h
      · intro h
        rw [hl] at ih
        have := ih.2 fun o ho => h o (List.mem_cons_of_mem _ ho)
        cases this
    | none =>
      simp only
      have h2 := ih.1 hl
      by_cases h : x.cl = c
      · rw [if_pos h]
        constructor
        · intro h3; cases h3
        · intro h3; exact absurd h (h3 x List.mem_cons_self)
      · rw [if_neg h]
        exact ⟨fun _ o ho => by rcases List.mem_cons.1 ho with rfl | ho; exact h; exact h2 o ho, fun _ => rfl⟩
theorem lastAt_filter {c : Int} {P : Opn → Bool} {o : Opn} (hp : P o = true) : ∀ {l : List Opn} {k : Nat}, lastAt c l = some k → l[k]? = some o → ∃ k', lastAt c (l.filter P) = some k' ∧ (l.filter P)[k']? = some o
  | [], k, h, _ => by cases h
  | x :: l, k, h, ho => by
    unfold lastAt at h
    cases hl : lastAt c l with
    | some j =>
      rw [hl] at h
      injection h with h
      subst h
      obtain ⟨k', h1, h2⟩ := lastAt_filter hp hl (by simpa using ho)
      by_cases hx : P x = true
      · rw [List.filter_cons_of_pos hx]
        refine ⟨k' + 1, ?_, by simpa using h2⟩
        unfold lastAt
        rw [h1]
      · rw [List.filter_cons_of_neg hx]
        exact ⟨k', h1, h2⟩
    | none =>
      rw [hl] at h
      simp only at h
      split at h
      · next hc =>
        injection h with h
        subst h
        simp at ho
        subst ho
        rw [List.filter_cons_of_pos hp]
        refine ⟨0, ?_, rfl⟩
        unfold lastAt
        rw [lastAt_none.2 fun y hy => lastAt_none.1 hl y (List.mem_filter.1 hy).1]
        simp only
        rw [if_pos hc]
      · cases h
/-- where an event lies among the events of a key -/
def pos (key : ByteArray) (h : List Ev) (k : Nat) : Nat := (ofl key (h.take k)).length
def ren (key : ByteArray) (h : List Ev) (o : Opn) : Opn := { o with fr := (pos key h o.fr.toNat : Int), til := if o.til < 0 then -1 else (pos key h o.til.toNat : Int) }
/-- the operations behind k events, and those of a key -/
structure Side (key : ByteArray) (h : List Ev) (k : Nat) (all : List Opn) : Prop where
  part : opRun [] 0 (ofl key (h.take k)) = some ((all.filter (Opn.at_ key)).map (ren key h))
  open_ : ∀ p, opn key (h.take k) p = true ↔ ∃ o ∈ all, o.who = p ∧ o.op.key = key ∧ o.til < 0
  fr_ : ∀ o ∈ all, o.op.key = key → pos key h (o.fr.toNat + 1) = pos key h o.fr.toNat + 1
theorem pos_succ {key : ByteArray} {h : List Ev} {k : Nat} {e : Ev} (he : h[k]? = some e) : pos key h (k + 1) = pos key h k + if (if e.back then opn key (h.take k) e.who else e.hit key) then 1 else 0 := by
  unfold pos
  rw [ofl_succ he, List.length_append]
  congr 1
  by_cases h2 : (if e.back then opn key (h.take k) e.who else e.hit key) = true
  · rw [if_pos h2, if_pos h2]; rfl
  · rw [if_neg h2, if_neg h2]; rfl
theorem opRun_snoc (l : List Ev) (e : Ev) : opRun [] 0 (l ++ [e]) = (opRun [] 0 l).bind fun a => opStep a l.length e := by
  rw [opRun_append]
  congr 1
  funext a
  rw [Nat.zero_add, opRun_cons]
  cases opStep a l.length e <;> rfl
/-- what a step does, if it is well formed -/
theorem opStep_call {all all' : List Opn} {n : Nat} {e : Ev} (hb : e.back = false) (h : opStep all n e = some all') : all' = all ++ [e.opn n] ∧ ∀ o ∈ all, o.who ≠ e.who := by
  unfold opStep at h
  rw [if_neg (by simp [hb])] at h
  split at h
  · cases h
  · next hn =>
    injection h with h
    refine ⟨h.symm, fun o ho e1 => hn (List.any_eq_true.2 ⟨o, ho, decide_eq_true ?_⟩)⟩
    unfold Opn.who Ev.who at e1
    injection e1 with e1 e2
    exact ⟨e1, e2⟩
def Opn.came (o : Opn) (n : Nat) (r : Rs) : Opn := { o with til := (n : Int), res := r }
theorem opStep_back {all all' : List Opn} {n : Nat} {e : Ev} (hb : e.back = true) (h : opStep all n e = some all') : ∃ k o, lastAt e.client all = some k ∧ all[k]? = some o ∧ o.til < 0 ∧ o.who = e.who ∧ 1 ≤ e.rkind ∧ e.rkind ≤ 3 ∧ all' = all.set k (o.came n e.rs) := by
  unfold opStep at h
  rw [if_pos hb] at h
  cases ho : openAt all e.client with
  | none => rw [ho] at h; cases h
  | some k =>
    rw [ho] at h
    obtain ⟨h1, o, h2, h3, h4⟩ := openAt_some ho
    simp only [h2] at h
    split at h
    · next hc =>
      injection h with h
      exact ⟨k, o, h1, h2, h3, by unfold Opn.who Ev.who; rw [h4, hc.1], hc.2.1, hc.2.2, h.symm⟩
    · cases h
theorem opStep_back' {all : List Opn} {n k : Nat} {e : Ev} {o : Opn} (hb : e.back = true) (h1 : lastAt e.client all = some k) (h2 : all[k]? = some o) (h3 : o.til < 0) (h4 : o.who = e.who) (h5 : 1 ≤ e.rkind) (h6 : e.rkind ≤ 3) : opStep all n e = some (all.set k (o.came n e.rs)) := by
  unfold opStep
  rw [if_pos hb]
  have : openAt all e.client = some k := by
    unfold openAt
    rw [h1]
    simp only [h2]
    rw [if_pos h3]
  rw [this]
  simp only [h2]
  rw [if_pos ⟨by unfold Opn.who Ev.who at h4; injection h4, h5, h6⟩]
  rfl
theorem opStep_call' {all : List Opn} {n : Nat} {e : Ev} (hb : e.back = false) (h : ∀ o ∈ all, o.who ≠ e.who) : opStep all n e = some (all ++ [e.opn n]) := by
  unfold opStep
  rw [if_neg (by simp [hb]), if_neg]
  intro hn
  obtain ⟨o, ho, e1⟩ := List.any_eq_true.1 hn
  have := of_decide_eq_true e1
  exact h o ho (by unfold Opn.who Ev.who; rw [this.1, this.2])
theorem came_who (o : Opn) (n : Nat) (r : Rs) : (o.came n r).who = o.who := rfl
/-- what always holds of the operations so far -/
structure Sane (k : Nat) (all : List Opn) : Prop where
  unlike : Unlike all
  fr_ : ∀ o ∈ all, 0 ≤ o.fr ∧ o.fr < k
  to_ : ∀ o ∈ all, (o.til = -1 ∧ o.res = Rs.zero) ∨ (0 ≤ o.til ∧ o.til < k ∧ 1 ≤ o.res.kind ∧ o.res.kind ≤ 3)
  sharp : Sharp all
theorem Sane.nil : Sane 0 [] := ⟨List.Pairwise.nil, by simp, by simp, by intro p hp; cases hp⟩
theorem Sane.step {k : Nat} {all all' : List Opn} {e : Ev} (h : Sane k all) (hs : opStep all k e = some all') : Sane (k + 1) all' := by
  cases hb : e.back with
  | false =>
    obtain ⟨rfl, hn⟩ := opStep_call hb hs
    refine ⟨List.pairwise_append.2 ⟨h.unlike, List.pairwise_singleton _ _, fun a ha b hb2 => by rw [List.mem_singleton] at hb2; subst hb2; exact hn a ha⟩, fun o ho => ?_, fun o ho => ?_, fun p hp q hq h0 => ?_⟩
    · rcases List.mem_append.1 ho with ho | ho
      · have := h.fr_ o ho; omega
      · rw [List.mem_singleton] at ho; subst ho; show 0 ≤ (k : Int) ∧ (k : Int) < _; omega
    · rcases List.mem_append.1 ho with ho | ho
      · exact (h.to_ o ho).imp_right fun g => ⟨g.1, by have := g.2.1; omega, g.2.2⟩
      · rw [List.mem_singleton] at ho; subst ho; exact .inl ⟨rfl, rfl⟩
    · rcases List.mem_append.1 hq with hq | hq
      · rcases List.mem_append.1 hp with hp | hp
        · exact h.sharp p hp q hq h0
        · rw [List.mem_singleton] at hp; subst hp
          have := h.to_ q hq
          show (k : Int) ≠ q.til
          omega
      · rw [List.mem_singleton] at hq; subst hq
        exact absurd (show (0 : Int) ≤ -1 from h0) (by decide)
  | true =>
    obtain ⟨j, o, h1, h2, h3, h4, h5, h6, rfl⟩ := opStep_back hb hs
    have e1 : all.set j (o.came k e.rs) = all.map fun x => if x.who = o.who then x.came k e.rs else x := set_map (f := fun x => x.came k e.rs) h.unlike h2
    have hm : ∀ x ∈ all.set j (o.came k e.rs), ∃ y ∈ all, x = y ∨ x = y.came k e.rs := fun x hx => by
      rw [e1, List.mem_map] at hx
      obtain ⟨y, hy, rfl⟩ := hx
      by_cases hyo : y.who = o.who
      · exact ⟨y, hy, .inr (if_pos hyo)⟩
      · exact ⟨y, hy, .inl (if_neg hyo)⟩
    refine ⟨?_, fun x hx => ?_, fun x hx => ?_, fun p hp q hq h0 => ?_⟩
    · rw [e1]
      refine List.pairwise_map.2 (h.unlike.imp fun {a b} hab => ?_)
      have ha : ∀ x : Opn, (if x.who = o.who then x.came k e.rs else x).who = x.who := fun x => by split <;> rfl
      rw [ha, ha]
      exact hab
    · obtain ⟨y, hy, rfl | rfl⟩ := hm x hx
      · have := h.fr_ x hy; omega
      · have := h.fr_ y hy
        show 0 ≤ y.fr ∧ y.fr < _
        omega
    · obtain ⟨y, hy, rfl | rfl⟩ := hm x hx
      · exact (h.to_ x hy).imp_right fun g => ⟨g.1, by have := g.2.1; omega, g.2.2⟩
      · exact .inr ⟨by show 0 ≤ (k : Int); omega, by show (k : Int) < _; omega, h5, h6⟩
    · obtain ⟨y, hy, hy2⟩ := hm p hp
      have hpf : p.fr = y.fr := by rcases hy2 with rfl | rfl <;> rfl
      rw [hpf]
      obtain ⟨z, hz, rfl | rfl⟩ := hm q hq
      · exact h.sharp y hy q hz h0
      · have := h.fr_ y hy
        show y.fr ≠ (k : Int)
        omega
theorem sane_run {h : List Ev} : ∀ {k : Nat} {all : List Opn}, k ≤ h.length → opRun [] 0 (h.take k) = some all → Sane k all
  | 0, all, _, hr => by
    have : all = [] := by
      rw [List.take_zero] at hr
      injection hr with hr
      exact hr.symm
    rw [this]
    exact Sane.nil
  | k + 1, all, hk, hr => by
    rw [opRun_take (List.getElem?_eq_getElem (show k < h.length by omega))] at hr
    cases hp : opRun [] 0 (h.take k) with
    | none => rw [hp] at hr; cases hr
    | some a =>
      rw [hp] at hr
      exact (sane_run (by omega) hp).step hr
end Go.Proofs.Ytajbagdgjbihjaa
