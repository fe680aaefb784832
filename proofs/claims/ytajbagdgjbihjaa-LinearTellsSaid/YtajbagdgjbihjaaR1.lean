/- A plan that is played, plainly: its moments; what is called, done and told till a moment. -/
import Derived.Test.YtajbagdgjbihjaaQ3
namespace Go.Proofs.Ytajbagdgjbihjaa
set_option linter.unusedVariables false

structure Pl where
  client : Int
  call : Int
  do_ : Int
  back : Int
  done : Bool
  told : Bool
  op : Op5
/-- a number without sign, modulo k -/
def um (x : Int) (k : Nat) : Nat := (x % 18446744073709551616).toNat % k
theorem um_lt (x : Int) {k : Nat} (h : 0 < k) : um x k < k := Nat.mod_lt _ h
def Pl.who (p : Pl) : Nat := um p.client 3
def Pl.pn (p : Pl) (a : Nat) : Pn := ⟨(p.who : Int), a + um p.call 5, a + um p.call 5 + um p.do_ 5, a + um p.call 5 + um p.do_ 5 + um p.back 5, p.done, p.told, p.op⟩
def stepAt (a : Nat → Nat) (p : Pl) : Nat → Nat := fun c => if c = p.who then (p.pn (a c)).back + 1 else a c
def atOf (l : List Pl) : Nat → Nat := l.foldl stepAt fun _ => 0
theorem atOf_snoc (l : List Pl) (p : Pl) : atOf (l ++ [p]) = stepAt (atOf l) p := by
  unfold atOf
  rw [List.foldl_append]; rfl
def pns (l : List Pl) : List Pn := l.zipIdx.map fun x => x.1.pn (atOf (l.take x.2) x.1.who)
theorem pns_len (l : List Pl) : (pns l).length = l.length := by simp [pns]
theorem pns_at {l : List Pl} {i : Nat} {p : Pl} (h : l[i]? = some p) : (pns l)[i]? = some (p.pn (atOf (l.take i) p.who)) := by
  unfold pns
  rw [List.getElem?_map, List.getElem?_zipIdx, h]
  simp
theorem pns_get {l : List Pl} {i : Nat} {q : Pn} (h : (pns l)[i]? = some q) : ∃ p, l[i]? = some p ∧ q = p.pn (atOf (l.take i) p.who) := by
  have hi : i < l.length := by have := (List.getElem?_eq_some_iff.1 h).1; rwa [pns_len] at this
  have hp : l[i]? = some l[i] := List.getElem?_eq_getElem hi
  rw [pns_at hp] at h
  injection h with h
  exact ⟨_, hp, h.symm⟩
theorem pl_take {l : List Pl} {i : Nat} {p : Pl} (h : l[i]? = some p) : l.take (i + 1) = l.take i ++ [p] := by
  rw [List.take_add_one, h]; rfl
theorem atOf_next {l : List Pl} {i : Nat} {p : Pl} (h : l[i]? = some p) : atOf (l.take (i + 1)) = stepAt (atOf (l.take i)) p := by
  rw [pl_take h, atOf_snoc]
theorem atOf_mono (l : List Pl) (c : Nat) : ∀ i j, i ≤ j → atOf (l.take i) c ≤ atOf (l.take j) c := by
  intro i j h
  induction h with
  | refl => exact Nat.le_refl _
  | @step j _ ih =>
    refine Nat.le_trans ih ?_
    cases hp : l[j]? with
    | none => rw [List.take_add_one, hp]; simp
    | some p =>
      rw [atOf_next hp]
      unfold stepAt
      split
      · next e => subst e; unfold Pl.pn; simp only; omega
      · exact Nat.le_refl _
theorem atOf_le (l : List Pl) (c : Nat) : ∀ i, atOf (l.take i) c ≤ 13 * i
  | 0 => by simp [atOf]
  | i + 1 => by
    have ih := atOf_le l c i
    cases hp : l[i]? with
    | none => rw [List.take_add_one, hp]; simp; omega
    | some p =>
      rw [atOf_next hp]
      unfold stepAt
      have h1 := um_lt p.call (k := 5) (by decide)
      have h2 := um_lt p.do_ (k := 5) (by decide)
      have h3 := um_lt p.back (k := 5) (by decide)
      split
      · unfold Pl.pn; simp only; omega
      · omega
/-- the moments of a plan follow each other -/
structure Follow (ps : List Pn) : Prop where
  own : ∀ (i : Nat) (p : Pn), ps[i]? = some p → p.call ≤ p.do_ ∧ p.do_ ≤ p.back
  next : ∀ (i j : Nat) (p q : Pn), i < j → ps[i]? = some p → ps[j]? = some q → q.cl = p.cl → p.back < q.call
theorem pns_follow (l : List Pl) : Follow (pns l) := by
  constructor
  · intro i q h
    obtain ⟨p, _, rfl⟩ := pns_get h
    unfold Pl.pn
    simp only
    omega
  · intro i j q r hij h1 h2 hc
    obtain ⟨p, hp, rfl⟩ := pns_get h1
    obtain ⟨p', hp', rfl⟩ := pns_get h2
    have hw : p'.who = p.who := by
      have : ((p'.who : Nat) : Int) = (p.who : Int) := hc
      omega
    have h3 := atOf_mono l p.who (i + 1) j hij
    rw [atOf_next hp] at h3
    unfold stepAt at h3
    rw [if_pos rfl] at h3
    have h4 : atOf (l.take j) p'.who ≤ (p'.pn (atOf (l.take j) p'.who)).call := by unfold Pl.pn; simp only; omega
    rw [hw] at h4 ⊢
    omega
/-! ### till a moment -/
section
variable {ps : List Pn} {t j : Nat}
def called (ps : List Pn) (t j : Nat) (i : Nat) : Prop := ∃ p, ps[i]? = some p ∧ (p.call < t ∨ (p.call = t ∧ i < j))
def doneBy (ps : List Pn) (t j : Nat) (i : Nat) : Prop := ∃ p, ps[i]? = some p ∧ p.done = true ∧ p.op.code = 0 ∧ (p.do_ < t ∨ (p.do_ = t ∧ i < j))
def toldBy (ps : List Pn) (t j : Nat) (i : Nat) : Prop := ∃ p, ps[i]? = some p ∧ p.told = true ∧ p.done = true ∧ p.op.code = 0 ∧ (p.back < t ∨ (p.back = t ∧ i < j))
structure PT (ps : List Pn) (t j1 j2 j3 : Nat) (h : List Ev) (m : ByteArray → Option ByteArray) (rs : Nat → Rs) : Prop where
  ex : ∃ all seq, PI ps (called ps t j1) (toldBy ps t j3) h all m rs seq ∧ (∀ i, i ∈ seq ↔ doneBy ps t j2 i)
variable {h : List Ev} {m m' : ByteArray → Option ByteArray} {rs rs' : Nat → Rs} {p : Pn}
theorem PT.nil (ps : List Pn) (rs : Nat → Rs) : PT ps 0 0 0 0 [] (fun _ => none) rs := by
  refine ⟨[], [], PI.nil fun i hc => ?_, fun i => ⟨fun h => absurd h List.not_mem_nil, fun h => ?_⟩⟩
  · obtain ⟨p, _, h1 | h1⟩ := hc <;> omega
  · obtain ⟨p, _, _, _, h1 | h1⟩ := h <;> omega
theorem called_here (hp : ps[j]? = some p) (ht : p.call = t) (i : Nat) : called ps t (j + 1) i ↔ called ps t j i ∨ i = j := by
  constructor
  · rintro ⟨q, h1, h2 | h2⟩
    · exact .inl ⟨q, h1, .inl h2⟩
    · by_cases e : i = j
      · exact .inr e
      · exact .inl ⟨q, h1, .inr ⟨h2.1, by omega⟩⟩
  · rintro (⟨q, h1, h2 | h2⟩ | rfl)
    · exact ⟨q, h1, .inl h2⟩
    · exact ⟨q, h1, .inr ⟨h2.1, by omega⟩⟩
    · exact ⟨p, hp, .inr ⟨ht, by omega⟩⟩
theorem called_not (hp : ps[j]? = some p) (ht : p.call ≠ t) (i : Nat) : called ps t j i ↔ called ps t (j + 1) i := by
  constructor
  · rintro ⟨q, h1, h2 | h2⟩
    · exact ⟨q, h1, .inl h2⟩
    · exact ⟨q, h1, .inr ⟨h2.1, by omega⟩⟩
  · rintro ⟨q, h1, h2 | h2⟩
    · exact ⟨q, h1, .inl h2⟩
    · refine ⟨q, h1, .inr ⟨h2.1, ?_⟩⟩
      by_cases e : i = j
      · subst e
        rw [hp] at h1
        injection h1 with h1
        subst h1
        exact absurd h2.1 ht
      · omega
theorem PT.call (g : PT ps t j 0 0 h m rs) (F : Follow ps) (hp : ps[j]? = some p) (ht : p.call = t) : PT ps t (j + 1) 0 0 (h ++ [p.callEv j]) m rs := by
  obtain ⟨all, seq, g1, g2⟩ := g.ex
  refine ⟨_, seq, g1.call (C' := called ps t (j + 1)) hp ?_ ?_ ?_ (called_here hp ht), g2⟩
  · rintro ⟨q, h1, h2⟩
    rw [hp] at h1
    injection h1 with h1
    subst h1
    omega
  · rintro ⟨q, h1, _, _, _, h2⟩
    rw [hp] at h1
    injection h1 with h1
    subst h1
    have := F.own j p hp
    omega
  · rintro i q h1 ⟨q', h1', h2⟩ h3
    rw [h1] at h1'
    injection h1' with h1'
    subst h1'
    rcases Nat.lt_trichotomy i j with e | e | e
    · exact e
    · subst e
      rw [hp] at h1
      injection h1 with h1
      subst h1
      omega
    · have h4 := F.next j i p q e hp h1 h3
      have h5 := F.own j p hp
      omega
theorem PT.call_no (g : PT ps t j 0 0 h m rs) (hp : ps[j]? = some p) (ht : p.call ≠ t) : PT ps t (j + 1) 0 0 h m rs := by
  obtain ⟨all, seq, g1, g2⟩ := g.ex
  exact ⟨all, seq, g1.congr (fun i _ => called_not hp ht i) fun i _ => Iff.rfl, g2⟩
theorem doneBy_not (hp : ps[j]? = some p) (ht : p.do_ ≠ t ∨ p.done = false ∨ p.op.code ≠ 0) (i : Nat) : doneBy ps t j i ↔ doneBy ps t (j + 1) i := by
  constructor
  · rintro ⟨q, h1, h3, h4, h2 | h2⟩
    · exact ⟨q, h1, h3, h4, .inl h2⟩
    · exact ⟨q, h1, h3, h4, .inr ⟨h2.1, by omega⟩⟩
  · rintro ⟨q, h1, h3, h4, h2 | h2⟩
    · exact ⟨q, h1, h3, h4, .inl h2⟩
    · refine ⟨q, h1, h3, h4, .inr ⟨h2.1, ?_⟩⟩
      by_cases e : i = j
      · subst e
        rw [hp] at h1
        injection h1 with h1
        subst h1
        rcases ht with ht | ht | ht
        · exact absurd h2.1 ht
        · rw [ht] at h3; cases h3
        · exact absurd h4 ht
      · omega
theorem PT.do_no (g : PT ps t ps.length j 0 h m rs) (hp : ps[j]? = some p) (ht : p.do_ ≠ t ∨ p.done = false ∨ p.op.code ≠ 0) : PT ps t ps.length (j + 1) 0 h m rs := by
  obtain ⟨all, seq, g1, g2⟩ := g.ex
  exact ⟨all, seq, g1, fun i => (g2 i).trans (doneBy_not hp ht i)⟩
theorem PT.does (g : PT ps t ps.length j 0 h m rs) (F : Follow ps) (hp : ps[j]? = some p) (ht : p.do_ = t) (hd : p.done = true) (h0 : p.op.code = 0)
    (hrs : ∀ i, rs' i = if i = j then (p.op.does (m p.op.key)).2 else rs i) (hm : ∀ key, m' key = if p.op.key = key then (p.op.does (m key)).1 else m key) : PT ps t ps.length (j + 1) 0 h m' rs' := by
  obtain ⟨all, seq, g1, g2⟩ := g.ex
  have hj := (List.getElem?_eq_some_iff.1 hp).1
  have hF := F.own j p hp
  refine ⟨all, seq ++ [j], g1.does hp ⟨p, hp, ?_⟩ ?_ h0 hrs hm, fun i => ?_⟩
  · omega
  · intro hin
    obtain ⟨q, h1, _, _, h2⟩ := (g2 j).1 hin
    rw [hp] at h1
    injection h1 with h1
    subst h1
    omega
  · rw [List.mem_append, List.mem_singleton, g2 i]
    constructor
    · rintro (⟨q, h1, h3, h4, h2 | h2⟩ | rfl)
      · exact ⟨q, h1, h3, h4, .inl h2⟩
      · exact ⟨q, h1, h3, h4, .inr ⟨h2.1, by omega⟩⟩
      · exact ⟨p, hp, hd, h0, .inr ⟨ht, by omega⟩⟩
    · rintro ⟨q, h1, h3, h4, h2 | h2⟩
      · exact .inl ⟨q, h1, h3, h4, .inl h2⟩
      · by_cases e : i = j
        · exact .inr e
        · exact .inl ⟨q, h1, h3, h4, .inr ⟨h2.1, by omega⟩⟩
theorem toldBy_not (hp : ps[j]? = some p) (ht : p.back ≠ t ∨ p.told = false ∨ p.done = false ∨ p.op.code ≠ 0) (i : Nat) : toldBy ps t j i ↔ toldBy ps t (j + 1) i := by
  constructor
  · rintro ⟨q, h1, h5, h3, h4, h2 | h2⟩
    · exact ⟨q, h1, h5, h3, h4, .inl h2⟩
    · exact ⟨q, h1, h5, h3, h4, .inr ⟨h2.1, by omega⟩⟩
  · rintro ⟨q, h1, h5, h3, h4, h2 | h2⟩
    · exact ⟨q, h1, h5, h3, h4, .inl h2⟩
    · refine ⟨q, h1, h5, h3, h4, .inr ⟨h2.1, ?_⟩⟩
      by_cases e : i = j
      · subst e
        rw [hp] at h1
        injection h1 with h1
        subst h1
        rcases ht with ht | ht | ht | ht
        · exact absurd h2.1 ht
        · rw [ht] at h5; cases h5
        · rw [ht] at h3; cases h3
        · exact absurd h4 ht
      · omega
theorem PT.back_no (g : PT ps t ps.length ps.length j h m rs) (hp : ps[j]? = some p) (ht : p.back ≠ t ∨ p.told = false ∨ p.done = false ∨ p.op.code ≠ 0) : PT ps t ps.length ps.length (j + 1) h m rs := by
  obtain ⟨all, seq, g1, g2⟩ := g.ex
  exact ⟨all, seq, g1.congr (fun i _ => Iff.rfl) fun i _ => toldBy_not hp ht i, g2⟩
theorem PT.back (g : PT ps t ps.length ps.length j h m rs) (F : Follow ps) (hp : ps[j]? = some p) (ht : p.back = t) (htl : p.told = true) (hd : p.done = true) (h0 : p.op.code = 0) : PT ps t ps.length ps.length (j + 1) (h ++ [p.backEv j (rs j)]) m rs := by
  obtain ⟨all, seq, g1, g2⟩ := g.ex
  have hj := (List.getElem?_eq_some_iff.1 hp).1
  have hF := F.own j p hp
  refine Exists.elim (g1.back (R' := toldBy ps t (j + 1)) hp ((g2 j).2 ⟨p, hp, hd, h0, by omega⟩) ?_ ?_ ?_) fun all' g3 => ⟨all', seq, g3.1, g2⟩
  · rintro ⟨q, h1, _, _, _, h2⟩
    rw [hp] at h1
    injection h1 with h1
    subst h1
    omega
  · rintro i q h1 ⟨q', h1', h2⟩ h3
    rw [h1] at h1'
    injection h1' with h1'
    subst h1'
    rcases Nat.lt_or_ge j i with e | e
    · have h4 := F.next j i p q e hp h1 h3
      omega
    · exact e
  · intro i
    constructor
    · rintro ⟨q, h1, h5, h3, h4, h2 | h2⟩
      · exact .inl ⟨q, h1, h5, h3, h4, .inl h2⟩
      · by_cases e : i = j
        · exact .inr e
        · exact .inl ⟨q, h1, h5, h3, h4, .inr ⟨h2.1, by omega⟩⟩
    · rintro (⟨q, h1, h5, h3, h4, h2 | h2⟩ | rfl)
      · exact ⟨q, h1, h5, h3, h4, .inl h2⟩
      · exact ⟨q, h1, h5, h3, h4, .inr ⟨h2.1, by omega⟩⟩
      · exact ⟨p, hp, htl, hd, h0, .inr ⟨ht, by omega⟩⟩
/-- the next moment -/
theorem PT.next (g : PT ps t ps.length ps.length ps.length h m rs) : PT ps (t + 1) 0 0 0 h m rs := by
  obtain ⟨all, seq, g1, g2⟩ := g.ex
  have lt : ∀ {i : Nat} {q : Pn}, ps[i]? = some q → i < ps.length := fun e => (List.getElem?_eq_some_iff.1 e).1
  refine ⟨all, seq, g1.congr (fun i _ => ⟨?_, ?_⟩) fun i _ => ⟨?_, ?_⟩, fun i => (g2 i).trans ⟨?_, ?_⟩⟩
  · rintro ⟨q, h1, h2⟩
    exact ⟨q, h1, .inl (by omega)⟩
  · rintro ⟨q, h1, h2⟩
    have := lt h1
    exact ⟨q, h1, by omega⟩
  · rintro ⟨q, h1, h3, h4, h5, h2⟩
    exact ⟨q, h1, h3, h4, h5, .inl (by omega)⟩
  · rintro ⟨q, h1, h3, h4, h5, h2⟩
    have := lt h1
    exact ⟨q, h1, h3, h4, h5, by omega⟩
  · rintro ⟨q, h1, h3, h4, h2⟩
    exact ⟨q, h1, h3, h4, .inl (by omega)⟩
  · rintro ⟨q, h1, h3, h4, h2⟩
    have := lt h1
    exact ⟨q, h1, h3, h4, by omega⟩
end
end Go.Proofs.Ytajbagdgjbihjaa
