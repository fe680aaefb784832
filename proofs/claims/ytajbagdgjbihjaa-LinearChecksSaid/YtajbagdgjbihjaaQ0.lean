/- Operations of one key, plainly: which may be done next, what they leave; whether they could be that of one map. -/
import Derived.Lib.Hide
namespace Go.Proofs.Ytajbagdgjbihjaa
set_option linter.unusedVariables false

structure Op5 where
  kind : Int
  key : ByteArray
  val : ByteArray
  old : ByteArray
  had : Bool
  deriving DecidableEq
structure Rs where
  kind : Int
  found : Bool
  val : ByteArray
  deriving DecidableEq
structure Opn where
  cl : Int
  id : Int
  fr : Int
  til : Int
  op : Op5
  res : Rs
  deriving DecidableEq
def Rs.zero : Rs := ⟨0, false, ⟨#[]⟩⟩
/-- may an operation be? -/
def Op5.code (o : Op5) : Int := if o.kind < 1 ∨ 4 < o.kind then 1 else if o.key.size = 0 ∨ 32 < o.key.size ∨ 2000 < o.val.size ∨ 2000 < o.old.size then 40 else 0
/-- an operation, done to its key: what the key has then, and what is told -/
def Op5.does (o : Op5) (st : Option ByteArray) : Option ByteArray × Rs :=
  if o.kind = 1 then (st, ⟨1, st.isSome, st.getD ⟨#[]⟩⟩)
  else if o.kind = 2 then (some o.val, ⟨1, false, ⟨#[]⟩⟩)
  else if o.kind = 3 then (none, ⟨1, st.isSome, ⟨#[]⟩⟩)
  else if st = (if o.had then some o.old else none) then (some o.val, ⟨1, true, ⟨#[]⟩⟩) else (st, ⟨1, false, ⟨#[]⟩⟩)
/-- what an operation of a history leaves, if it can be done so -/
def Opn.goes (o : Opn) (st : Option ByteArray) : Option (Option ByteArray) :=
  if o.op.code = 0 ∧ (o.til < 0 ∨ (o.op.does st).2 = o.res) then some (o.op.does st).1 else none
def idle (l : List Opn) : Bool := l.all fun p => decide (p.til < 0)
def firstB (l : List Opn) (o : Opn) : Bool := l.all fun p => decide (p.til < 0) || decide (o.fr < p.til)
/-- could the operations that are left be done, going on from what the key has? -/
inductive PC : List Opn → Option ByteArray → Prop
  | idle (l : List Opn) (st : Option ByteArray) : idle l = true → PC l st
  | step (l : List Opn) (st st' : Option ByteArray) (i : Nat) (o : Opn) : l[i]? = some o → firstB l o = true → o.goes st = some st' → PC (l.eraseIdx i) st' → PC l st
def pc : Nat → List Opn → Option ByteArray → Bool
  | 0, l, _ => idle l
  | n + 1, l, st => idle l || (List.range l.length).any fun i => match l[i]? with
    | none => false
    | some o => firstB l o && match o.goes st with
      | none => false
      | some st' => pc n (l.eraseIdx i) st'
theorem pc_iff : ∀ (n : Nat) (l : List Opn) (st : Option ByteArray), l.length ≤ n → (pc n l st = true ↔ PC l st)
  | 0, l, st, h => by
    have : l = [] := List.length_eq_zero_iff.1 (by omega)
    subst this
    exact ⟨fun h => .idle _ _ h, fun _ => rfl⟩
  | n + 1, l, st, h => by
    unfold pc
    rw [Bool.or_eq_true, List.any_eq_true]
    constructor
    · rintro (h1 | ⟨i, hi, h1⟩)
      · exact .idle _ _ h1
      · have hi' : i < l.length := List.mem_range.1 hi
        rw [List.getElem?_eq_getElem hi'] at h1
        simp only [Bool.and_eq_true] at h1
        cases hg : (l[i]).goes st with
        | none => rw [hg] at h1; exact absurd h1.2 (by simp)
        | some st' =>
          rw [hg] at h1
          exact .step l st st' i l[i] (List.getElem?_eq_getElem hi') h1.1 hg ((pc_iff n _ st' (by rw [List.length_eraseIdx]; split <;> omega)).1 h1.2)
    · intro hp
      cases hp with
      | idle _ _ h1 => exact .inl h1
      | step _ _ st' i o h1 h2 h3 h4 =>
        obtain ⟨hi, rfl⟩ := List.getElem?_eq_some_iff.1 h1
        refine .inr ⟨i, List.mem_range.2 hi, ?_⟩
        rw [h1]
        simp only [Bool.and_eq_true]
        rw [h3]
        exact ⟨h2, (pc_iff n _ st' (by rw [List.length_eraseIdx]; split <;> omega)).2 h4⟩
/-! ### by which are done -/
/-- the same, by the places of those that are done -/
inductive MC (l : List Opn) : (Nat → Bool) → Option ByteArray → Prop
  | idle (D : Nat → Bool) (st : Option ByteArray) : (∀ k p, l[k]? = some p → D k = false → p.til < 0) → MC l D st
  | step (D : Nat → Bool) (st st' : Option ByteArray) (i : Nat) (o : Opn) : l[i]? = some o → D i = false → (∀ k p, l[k]? = some p → D k = false → p.til < 0 ∨ o.fr ≤ p.til) → o.goes st = some st' → MC l (fun k => D k || decide (k = i)) st' → MC l D st
def rem : List Opn → (Nat → Bool) → List Opn
  | [], _ => []
  | o :: l, D => if D 0 then rem l (fun k => D (k + 1)) else o :: rem l (fun k => D (k + 1))
theorem mem_rem {p : Opn} : ∀ (l : List Opn) (D : Nat → Bool), p ∈ rem l D ↔ ∃ k, l[k]? = some p ∧ D k = false
  | [], D => by simp [rem]
  | o :: l, D => by
    have ih := mem_rem (p := p) l (fun k => D (k + 1))
    unfold rem
    constructor
    · intro h
      by_cases h0 : D 0 = true
      · rw [if_pos h0, ih] at h
        obtain ⟨k, h1, h2⟩ := h
        exact ⟨k + 1, by simpa using h1, h2⟩
      · rw [if_neg h0, List.mem_cons, ih] at h
        rcases h with rfl | ⟨k, h1, h2⟩
        · exact ⟨0, rfl, by simpa using h0⟩
        · exact ⟨k + 1, by simpa using h1, h2⟩
    · rintro ⟨k, h1, h2⟩
      cases k with
      | zero =>
        simp at h1
        rw [if_neg (by simp [h2]), h1]
        exact List.mem_cons_self
      | succ k =>
        have : p ∈ rem l (fun k => D (k + 1)) := ih.2 ⟨k, by simpa using h1, h2⟩
        by_cases h0 : D 0 = true
        · rw [if_pos h0]; exact this
        · rw [if_neg h0]; exact List.mem_cons_of_mem _ this
theorem rem_congr {D D' : Nat → Bool} : ∀ (l : List Opn), (∀ k, k < l.length → D k = D' k) → rem l D = rem l D'
  | l, h => by
    induction l generalizing D D' with
    | nil => rfl
    | cons o l ih =>
      unfold rem
      rw [h 0 (by simp), ih fun k hk => h (k + 1) (by simpa using hk)]
/-- one that is not done has a place among those that are left; without it, it is done -/
theorem rem_out {o : Opn} : ∀ (l : List Opn) (D : Nat → Bool) (i : Nat), l[i]? = some o → D i = false → ∃ j, (rem l D)[j]? = some o ∧ (rem l D).eraseIdx j = rem l (fun k => D k || decide (k = i))
  | [], D, i, h, _ => by simp at h
  | q :: l, D, 0, h, h0 => by
    simp at h
    subst h
    refine ⟨0, by unfold rem; simp [h0], ?_⟩
    unfold rem
    simp [h0]
  | q :: l, D, i + 1, h, h0 => by
    obtain ⟨j, h1, h2⟩ := rem_out l (fun k => D (k + 1)) i (by simpa using h) h0
    have he : rem l (fun k => (fun k => D (k + 1)) k || decide (k = i)) = rem l (fun k => D (k + 1) || decide (k + 1 = i + 1)) := rem_congr l fun k _ => by simp
    rw [he] at h2
    by_cases hq : D 0 = true
    · refine ⟨j, ?_, ?_⟩
      · unfold rem; simp only [hq, if_true]; exact h1
      · unfold rem
        simp only [hq, if_true, Bool.true_or]
        exact h2
    · have hq' : D 0 = false := by simpa using hq
      refine ⟨j + 1, ?_, ?_⟩
      · unfold rem; simp only [hq', Bool.false_eq_true, if_false, List.getElem?_cons_succ]; exact h1
      · unfold rem
        simp only [hq', Bool.false_eq_true, if_false, List.eraseIdx_cons_succ]
        simp only [Bool.false_or, show decide (0 = i + 1) = false by simp, Bool.false_eq_true, if_false]
        rw [h2]
/-- each of those that are left has a place that is not done -/
theorem rem_in {o : Opn} : ∀ (l : List Opn) (D : Nat → Bool) (j : Nat), (rem l D)[j]? = some o → ∃ i, l[i]? = some o ∧ D i = false ∧ (rem l D).eraseIdx j = rem l (fun k => D k || decide (k = i))
  | [], D, j, h => by simp [rem] at h
  | q :: l, D, j, h => by
    by_cases hq : D 0 = true
    · have hr : rem (q :: l) D = rem l (fun k => D (k + 1)) := by
        conv => lhs; unfold rem
        rw [if_pos hq]
      rw [hr] at h ⊢
      obtain ⟨i, h1, h2, h3⟩ := rem_in l _ j h
      refine ⟨i + 1, by simpa using h1, h2, ?_⟩
      rw [h3]
      conv => rhs; unfold rem
      simp only [hq, Bool.true_or, if_true]
      exact rem_congr l fun k _ => by simp
    · have hq' : D 0 = false := by simpa using hq
      have hr : rem (q :: l) D = q :: rem l (fun k => D (k + 1)) := by
        conv => lhs; unfold rem
        rw [if_neg hq]
      rw [hr] at h ⊢
      cases j with
      | zero =>
        simp at h
        subst h
        refine ⟨0, rfl, hq', ?_⟩
        conv => rhs; unfold rem
        simp
      | succ j =>
        obtain ⟨i, h1, h2, h3⟩ := rem_in l _ j (by simpa using h)
        refine ⟨i + 1, by simpa using h1, h2, ?_⟩
        rw [List.eraseIdx_cons_succ, h3]
        conv => rhs; unfold rem
        simp only [hq', Bool.false_or, show decide (0 = i + 1) = false by simp, Bool.false_eq_true, if_false]
        exact congrArg _ (rem_congr l fun k _ => by simp)
/-- no call stands where a coming back stands -/
def Sharp (l : List Opn) : Prop := ∀ p ∈ l, ∀ q ∈ l, 0 ≤ q.til → p.fr ≠ q.til
theorem mc_pc {l : List Opn} (hs : Sharp l) {D : Nat → Bool} {st : Option ByteArray} (h : MC l D st) : PC (rem l D) st := by
  induction h with
  | idle D st h =>
    refine .idle _ _ ?_
    unfold Ytajbagdgjbihjaa.idle
    rw [List.all_eq_true]
    intro p hp
    obtain ⟨k, h1, h2⟩ := (mem_rem l D).1 hp
    exact decide_eq_true (h k p h1 h2)
  | step D st st' i o h1 h2 h3 h4 h5 ih =>
    obtain ⟨j, g1, g2⟩ := rem_out l D i h1 h2
    refine .step _ _ st' j o g1 ?_ h4 (by rw [g2]; exact ih)
    unfold firstB
    rw [List.all_eq_true]
    intro p hp
    obtain ⟨k, e1, e2⟩ := (mem_rem l D).1 hp
    rw [Bool.or_eq_true, decide_eq_true_eq, decide_eq_true_eq]
    rcases h3 k p e1 e2 with e | e
    · exact .inl e
    · by_cases hp0 : p.til < 0
      · exact .inl hp0
      · have := hs o (List.mem_of_getElem? h1) p (List.mem_of_getElem? e1) (by omega)
        omega
theorem pc_mc {l : List Opn} {L : List Opn} {st : Option ByteArray} (h : PC L st) : ∀ D, L = rem l D → MC l D st := by
  induction h with
  | idle L st h =>
    rintro D rfl
    refine .idle D st fun k p h1 h2 => ?_
    unfold Ytajbagdgjbihjaa.idle at h
    rw [List.all_eq_true] at h
    exact of_decide_eq_true (h p ((mem_rem l D).2 ⟨k, h1, h2⟩))
  | step L st st' j o h1 h2 h3 h4 ih =>
    rintro D rfl
    obtain ⟨i, g1, g2, g3⟩ := rem_in l D j h1
    refine .step D st st' i o g1 g2 (fun k p e1 e2 => ?_) h3 (ih _ g3)
    unfold firstB at h2
    rw [List.all_eq_true] at h2
    have := h2 p ((mem_rem l D).2 ⟨k, e1, e2⟩)
    rw [Bool.or_eq_true, decide_eq_true_eq, decide_eq_true_eq] at this
    omega
theorem rem_none : ∀ l : List Opn, rem l (fun _ => false) = l
  | [] => rfl
  | o :: l => by
    unfold rem
    rw [if_neg (by simp), rem_none l]
/-- could the operations of a key be that of one map? -/
def couldB (l : List Opn) : Bool := pc l.length l none
theorem could_iff {l : List Opn} (hs : Sharp l) : couldB l = true ↔ MC l (fun _ => false) none := by
  unfold couldB
  rw [pc_iff _ _ _ (Nat.le_refl _)]
  constructor
  · intro h
    exact pc_mc h _ (rem_none l).symm
  · intro h
    have := mc_pc hs h
    rwa [rem_none] at this
end Go.Proofs.Ytajbagdgjbihjaa
