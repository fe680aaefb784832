/- What a ring has behind appends, plainly. No program. -/
import Derived.Test.YteoeaojebklfjaaH9
import Derived.Test.YteoeaojebklfjaaH7
namespace Go.Proofs.Yteoeaojebklfjaa
set_option linter.unusedVariables false

/-- the pieces ps stand behind the base, and nothing newer -/
structure Holds (count : Nat) (g : Nat → Sec) (base : Nat) (ps : List Pc) : Prop where
  has : ∀ j (h : j < ps.length), pieceG count g (base + 1 + j) = some ps[j]
  le : ∀ i p, i < count → seeG count g i = some p → p.n ≤ base + ps.length

theorem seeG_self {count : Nat} {g : Nat → Sec} {n : Nat} {p : Pc} (h : pieceG count g n = some p) : seeG count g (n % count) = some p := by
  have h1 := pieceG_some h
  unfold seeG
  rw [h1.1]
  simp only
  rw [if_pos (by rw [h1.2])]
theorem topG_upto {count : Nat} {g : Nat → Sec} {base m : Nat} (hb : base ≤ m) (hl : ∀ i p, i < count → seeG count g i = some p → p.n ≤ m) : ∀ k, k ≤ count → topG count g base k ≤ m
  | 0, _ => hb
  | k + 1, hk => by
    unfold topG
    split
    · rename_i p hp
      exact Nat.max_le.2 ⟨topG_upto hb hl k (by omega), hl k p (by omega) hp⟩
    · exact topG_upto hb hl k (by omega)

section
variable {count base : Nat} {g : Nat → Sec} {ps : List Pc}
theorem Holds.no (H : Holds count g base ps) (hc : 1 ≤ count) : pieceG count g (base + 1 + ps.length) = none := by
  cases h : pieceG count g (base + 1 + ps.length) with
  | none => rfl
  | some p =>
    have h1 := pieceG_some h
    have := H.le _ p (Nat.mod_lt _ (by omega)) (seeG_self h)
    omega
theorem Holds.chain (H : Holds count g base ps) (hc : 1 ≤ count) {k : Nat} (hk : ps.length ≤ k) : chainG count g k base = ps := by
  obtain ⟨qs, hq⟩ := chainG_of ps k base H.has hk
  cases qs with
  | nil => simpa using hq
  | cons q qs =>
    have := chainG_at (count := count) (g := g) k base ps.length (by rw [hq]; simp)
    rw [H.no hc] at this
    cases this
theorem Holds.n (H : Holds count g base ps) {j : Nat} (h : j < ps.length) : ps[j].n = base + 1 + j := (pieceG_some (H.has j h)).2
theorem Holds.top (H : Holds count g base ps) (hc : 1 ≤ count) : topG count g base count = base + ps.length := by
  refine Nat.le_antisymm (topG_upto (by omega) H.le count (Nat.le_refl _)) ?_
  cases h : ps.length with
  | zero => exact topG_le count
  | succ k =>
    have h1 := H.has k (by omega)
    have h2 := pieceG_top (base := base) hc h1
    rw [H.n] at h2
    omega
theorem Holds.empty (H : Holds count g base ps) : Holds count g (base + ps.length) [] :=
  ⟨fun j h => absurd h (by simp), fun i p hi hp => by have := H.le i p hi hp; simpa using this⟩
theorem Holds.none_at (hz : ∀ i, i < count → seeG count g i = none) : Holds count g base [] :=
  ⟨fun j h => absurd h (by simp), fun i p hi hp => by rw [hz i hi] at hp; cases hp⟩

/-- a sector, written -/
def setG (g : Nat → Sec) (i : Nat) (s : Sec) : Nat → Sec := fun k => if k = i then s else g k
theorem seeG_other {i k : Nat} {s : Sec} (h : k ≠ i) : seeG count (setG g i s) k = seeG count g k := by
  unfold seeG setG
  rw [if_neg h]
theorem seeG_same {p : Pc} (ok : p.Ok) : seeG count (setG g (p.n % count) p.lay) (p.n % count) = some p := by
  unfold seeG setG
  rw [if_pos rfl, pieceOf_lay ok]
  simp
theorem pieceG_other {i n : Nat} {s : Sec} (h : n % count ≠ i) : pieceG count (setG g i s) n = pieceG count g n := by
  unfold pieceG
  rw [seeG_other h]
theorem pieceG_same {p : Pc} (ok : p.Ok) : pieceG count (setG g (p.n % count) p.lay) p.n = some p := by
  unfold pieceG
  rw [seeG_same ok]
  simp
theorem mod_apart {a b c : Nat} (h1 : a < b) (h2 : b < a + c) : a % c ≠ b % c := fun e => by
  have h3 : (b - a) % c = 0 := Nat.sub_mod_eq_zero_of_mod_eq e.symm
  rw [Nat.mod_eq_of_lt (by omega)] at h3
  omega
theorem Holds.put (H : Holds count g base ps) {p : Pc} (ok : p.Ok) (hn : p.n = base + ps.length + 1) (hl : ps.length < count) : Holds count (setG g (p.n % count) p.lay) base (ps ++ [p]) := by
  refine ⟨fun j h => ?_, fun i q hi hq => ?_⟩
  · by_cases hj : j < ps.length
    · rw [pieceG_other (by rw [hn]; exact mod_apart (by omega) (by omega)), H.has j hj, List.getElem_append_left hj]
    · have e : j = ps.length := by simp at h; omega
      subst e
      rw [show base + 1 + ps.length = p.n by omega, pieceG_same ok]
      simp
  · rw [List.length_append, List.length_singleton]
    by_cases e : i = p.n % count
    · subst e
      rw [seeG_same ok] at hq
      injection hq with hq
      subst hq
      omega
    · rw [seeG_other e] at hq
      have := H.le i q hi hq
      omega
end

/-! ### on a disk -/
theorem Dk.read_wrote (d : Dk) (i : Nat) (s : Sec) (k : Nat) : (d.wrote i s).read k = if k = i then s else d.read k := by
  unfold Dk.read Dk.wrote
  simp only
  rw [lastIx_snoc]
  by_cases e : i = k
  · subst e
    simp
  · rw [if_neg e, if_neg (fun h => e h.symm)]
    cases h : lastIx d.waits k with
    | none => rfl
    | some j =>
      obtain ⟨h1, _⟩ := lastIx_lt h
      simp only [List.getD_eq_getElem?_getD]
      rw [List.getElem?_append_left h1]
theorem Dk.read_tick (d : Dk) (k : Nat) : d.tick.read k = d.read k := rfl
/-- pieces, one by one, till the fuse is burnt -/
def Dk.puts (pl : Nat → Nat) : List Pc → Dk → Dk × Bool
  | [], d => (d, true)
  | p :: ps, d => if d.due then (d.write (pl p.n) p.lay, false) else Dk.puts pl ps (d.write (pl p.n) p.lay)
theorem gOf_wrote {r : Rg} {d : Dk} {n : Nat} (s : Sec) (i : Nat) : gOf r (d.wrote (r.place n) s).tick i = setG (gOf r d) (n % r.count) s i := by
  unfold gOf setG
  rw [Dk.read_tick, Dk.read_wrote, place_mod]
  by_cases e : i = n % r.count
  · rw [if_pos e, if_pos (by omega)]
  · rw [if_neg e, if_neg (by omega)]
/-- a disk that nobody crashes -/
structure Dk.Calm (d : Dk) (len n : Nat) : Prop where
  dead : d.dead = false
  set : d.set = false
  len : d.lasts.length = len
  few : d.Few n
theorem Dk.Calm.due {d : Dk} {len n : Nat} (h : d.Calm len n) : d.due = false := by unfold Dk.due; rw [h.set]; rfl
theorem Dk.Calm.err {d : Dk} {len n : Nat} (h : d.Calm len n) : d.err = 0 := by unfold Dk.err; rw [h.due]; rfl
theorem Dk.Calm.write {d : Dk} {len n : Nat} (h : d.Calm len n) (i : Nat) (s : Sec) : d.write i s = (d.wrote i s).tick ∧ (d.write i s).Calm len (n + 1) := by
  have e : d.write i s = (d.wrote i s).tick := by unfold Dk.write; rw [h.due]; rfl
  refine ⟨e, ?_⟩
  have hf := h.few.write i s
  rw [e] at hf ⊢
  exact ⟨h.dead, h.set, h.len, hf⟩
theorem puts_calm {r : Rg} {base len : Nat} : ∀ (qs : List Pc) (d : Dk) (ps : List Pc) (n : Nat), d.Calm len n → Holds r.count (gOf r d) base ps → (∀ j (h : j < qs.length), qs[j].Ok ∧ qs[j].n = base + ps.length + 1 + j) → ps.length + qs.length ≤ r.count →
    ∃ d', Dk.puts r.place qs d = (d', true) ∧ d'.Calm len (n + qs.length) ∧ Holds r.count (gOf r d') base (ps ++ qs)
  | [], d, ps, n, hc, hh, _, _ => ⟨d, rfl, hc, by simpa using hh⟩
  | q :: qs, d, ps, n, hc, hh, hq, hl => by
    obtain ⟨e, hc'⟩ := hc.write (r.place q.n) q.lay
    obtain ⟨ok, hn⟩ := hq 0 (by simp)
    simp only [List.getElem_cons_zero, Nat.add_zero] at ok hn
    have hh' : Holds r.count (gOf r (d.write (r.place q.n) q.lay)) base (ps ++ [q]) := by
      have h1 := hh.put ok hn (by simp at hl; omega)
      have e2 : gOf r (d.write (r.place q.n) q.lay) = setG (gOf r d) (q.n % r.count) q.lay := by
        funext i
        rw [e, gOf_wrote]
      rw [e2]; exact h1
    obtain ⟨d', h1, h2, h3⟩ := puts_calm qs _ (ps ++ [q]) (n + 1) hc' hh' (fun j hj => by
      have := hq (j + 1) (by simpa using hj)
      simp only [List.getElem_cons_succ] at this
      refine ⟨this.1, ?_⟩
      rw [this.2, List.length_append, List.length_singleton]; omega) (by simp at hl ⊢; omega)
    refine ⟨d', ?_, ?_, ?_⟩
    · unfold Dk.puts
      rw [hc.due]
      exact h1
    · rw [List.length_cons, show n + (qs.length + 1) = n + 1 + qs.length by omega]; exact h2
    · rwa [List.append_assoc] at h3
end Go.Proofs.Yteoeaojebklfjaa
