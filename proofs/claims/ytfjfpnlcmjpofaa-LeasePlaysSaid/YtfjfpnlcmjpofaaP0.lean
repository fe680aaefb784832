/- Leases, plainly; how they read in a map. -/
import Derived.Test.YtfjfpnlcmjpofaaG2
import Derived.Maps.Own
import Derived.Maps.OwnSet
import Derived.Maps.Views
import Derived.ChangeKeys
import Derived.Lib.SlKeysI
namespace Go.Proofs.Ytfjfpnlcmjpofaa
open Go.RowKit Go.Maps
set_option linter.unusedVariables false

structure Ls where
  key : ByteArray
  cache : Int
  num : Int
  fin : Int
  deriving DecidableEq

def Ls.row (x : Ls) : List Value := [.string x.key, .int .i64 x.cache, .int .i64 x.num, .int .i64 x.fin]
def Ls.v (x : Ls) : Value := .agg #[.string x.key, .int .i64 x.cache, .int .i64 x.num, .int .i64 x.fin]
theorem Ls.row_length (x : Ls) : x.row.length = 4 := rfl
theorem Ls.row_one (x : Ls) : ∀ u ∈ x.row, u.oneCell' = true := by
  intro u hu
  simp only [Ls.row, List.mem_cons, List.not_mem_nil, or_false] at hu
  rcases hu with rfl | rfl | rfl | rfl <;> rfl
def Ls.zero : Ls := ⟨⟨#[]⟩, 0, 0, 0⟩
def str (s : ByteArray) : DataW Unit := .lit (.string s.data.toList)
def dnum (a : Int) : DataW Unit := .lit (.int .i64 a)
def Ls.d (x : Ls) : DataW Unit := .agg [str x.key, dnum x.cache, dnum x.num, dnum x.fin]
def lsR (v : Value) : Option (DataW Unit × List MemPlace) :=
  match v with
  | .agg xs => match xs.toList with
    | [.string k, .int .i64 c, .int .i64 n, .int .i64 f] => some ((Ls.mk k c n f).d, [])
    | _ => none
  | _ => none
theorem lsR_v (x : Ls) : lsR x.v = some (x.d, []) := rfl
theorem str_inj {a b : ByteArray} (h : str a = str b) : a = b := by
  unfold str at h
  injection h with h
  injection h with h
  have : a.data = b.data := Array.toList_inj.1 h
  cases a; cases b; simp_all
theorem num_inj {a b : Int} (h : dnum a = dnum b) : a = b := by
  unfold dnum at h
  injection h with h
  injection h with _ h
theorem d_inj {x y : Ls} (h : x.d = y.d) : x = y := by
  cases x; cases y
  unfold Ls.d at h
  injection h with h
  simp only [List.cons.injEq, and_true] at h
  obtain ⟨h1, h2, h3, h4⟩ := h
  simp only [Ls.mk.injEq]
  exact ⟨str_inj h1, num_inj h2, num_inj h3, num_inj h4⟩
theorem lsR_some {v : Value} {y : DataW Unit × List MemPlace} (h : lsR v = some y) : ∃ x : Ls, v = x.v ∧ y = (x.d, []) := by
  unfold lsR at h
  split at h
  · rename_i xs
    split at h
    · rename_i k c n f e
      simp only [Option.some.injEq] at h
      refine ⟨⟨k, c, n, f⟩, ?_, h.symm⟩
      unfold Ls.v
      congr 1
      apply Array.toList_inj.1
      rw [e]
    · cases h
  · cases h
theorem lsR_inv {v : Value} {x : Ls} {ps : List MemPlace} (h : lsR v = some (x.d, ps)) : v = x.v := by
  obtain ⟨y, rfl, e⟩ := lsR_some h
  simp only [Prod.mk.injEq] at e
  rw [d_inj e.1]

/-! ### places -/
/-- a place that may be: its key is no longer than memory, its number one of the machine's -/
def Fine (k : ByteArray) (c : Int) : Prop := k.size ≤ 140737488355328 ∧ (Lit.int .i64 c).wf = true
def pk (k : ByteArray) (c : Int) : Lit := .string (keyBytes [.string k.data.toList, .int .i64 c])
theorem pk_inj {k k' : ByteArray} {c c' : Int} (h : Fine k c) (h' : Fine k' c') (e : pk k c = pk k' c') : k = k' ∧ c = c' := by
  unfold pk at e
  injection e with e
  have hl : k.data.toList.length ≤ maxLen := by have := h.1; unfold maxLen; simpa using Nat.le_trans this (by decide)
  have hl' : k'.data.toList.length ≤ maxLen := by have := h'.1; unfold maxLen; simpa using Nat.le_trans this (by decide)
  have := keyBytes_inj (l := [.string k.data.toList, .int .i64 c]) (l' := [.string k'.data.toList, .int .i64 c']) ⟨by trivial, by exact ⟨rfl, trivial⟩⟩ (fun a ha => by
    simp only [List.mem_cons, List.not_mem_nil, or_false] at ha
    rcases ha with rfl | rfl
    · exact hl
    · exact h.2) (fun a ha => by
    simp only [List.mem_cons, List.not_mem_nil, or_false] at ha
    rcases ha with rfl | rfl
    · exact hl'
    · exact h'.2) e
  simp only [List.cons.injEq, and_true, Lit.string.injEq, Lit.int.injEq, true_and] at this
  refine ⟨?_, this.2⟩
  have h2 : k.data = k'.data := Array.toList_inj.1 this.1
  cases k; cases k'; simp_all
theorem same_pk {k k' : ByteArray} {c c' : Int} (h : Fine k c) (h' : Fine k' c') : (pk k c).sameKey (pk k' c') = decide (k = k' ∧ c = c') := by
  rw [Bool.eq_iff_iff, decide_eq_true_eq]
  constructor
  · intro e
    unfold pk Lit.sameKey at e
    simp only [beq_iff_eq] at e
    exact pk_inj h h' (by unfold pk; rw [e])
  · rintro ⟨rfl, rfl⟩
    simp [pk, Lit.sameKey]
theorem same_eq {k : ByteArray} {c : Int} {l : Lit} (h : (pk k c).sameKey l = true) : l = pk k c := by
  unfold pk at *
  cases l <;> simp only [Lit.sameKey] at h <;> first | (simp only [beq_iff_eq] at h; rw [h]) | cases h

/-! ### the map -/
def ent (x : Ls) : Lit × DataW Unit := (pk x.key x.cache, x.d)
def Rep (D : DataW Unit) (ls : List Ls) : Prop := ∃ es, D = .map es ∧ es.Perm (ls.map ent)
/-- of whom a lease is -/
def at_ (k : ByteArray) (c : Int) (x : Ls) : Bool := decide (x.key = k ∧ x.cache = c)
/-- all leases may be, no two have one place, their numbers rise -/
structure Good (ls : List Ls) : Prop where
  fine : ∀ x ∈ ls, Fine x.key x.cache
  apart : ls.Pairwise fun a b => ¬ (a.key = b.key ∧ a.cache = b.cache)
  rise : ls.Pairwise fun a b => a.num < b.num
theorem Good.nil : Good [] := ⟨fun x hx => absurd hx (List.not_mem_nil), List.Pairwise.nil, List.Pairwise.nil⟩
theorem Good.filter {ls : List Ls} (h : Good ls) (p : Ls → Bool) : Good (ls.filter p) := ⟨fun x hx => h.fine x (List.mem_filter.1 hx).1, h.apart.filter _, h.rise.filter _⟩
theorem Good.nodup {ls : List Ls} (h : Good ls) : ls.Nodup := h.rise.imp fun {a b} h e => by subst e; exact Int.lt_irrefl _ h
theorem Good.one {ls : List Ls} (h : Good ls) {x y : Ls} (hx : x ∈ ls) (hy : y ∈ ls) (e : x.key = y.key ∧ x.cache = y.cache) : x = y := by
  obtain ⟨i, hi, rfl⟩ := List.getElem_of_mem hx
  obtain ⟨j, hj, rfl⟩ := List.getElem_of_mem hy
  rcases Nat.lt_trichotomy i j with h1 | h1 | h1
  · exact absurd e (List.pairwise_iff_getElem.1 h.apart i j hi hj h1)
  · subst h1; rfl
  · exact absurd ⟨e.1.symm, e.2.symm⟩ (List.pairwise_iff_getElem.1 h.apart j i hj hi h1)
theorem Good.one_num {ls : List Ls} (h : Good ls) {x y : Ls} (hx : x ∈ ls) (hy : y ∈ ls) (e : x.num = y.num) : x = y := by
  obtain ⟨i, hi, rfl⟩ := List.getElem_of_mem hx
  obtain ⟨j, hj, rfl⟩ := List.getElem_of_mem hy
  rcases Nat.lt_trichotomy i j with h1 | h1 | h1
  · exact absurd e (Int.ne_of_lt (List.pairwise_iff_getElem.1 h.rise i j hi hj h1))
  · subst h1; rfl
  · exact absurd e.symm (Int.ne_of_lt (List.pairwise_iff_getElem.1 h.rise j i hj hi h1))
/-- x is put in: what had its place is gone -/
def give (ls : List Ls) (x : Ls) : List Ls := ls.filter (fun y => !at_ x.key x.cache y) ++ [x]
theorem Good.give {ls : List Ls} (h : Good ls) {x : Ls} (hx : Fine x.key x.cache) (hn : ∀ y ∈ ls, y.num < x.num) : Good (give ls x) := by
  refine ⟨fun y hy => ?_, ?_, ?_⟩
  · rcases List.mem_append.1 hy with hy | hy
    · exact h.fine y (List.mem_filter.1 hy).1
    · simp at hy; subst hy; exact hx
  · refine List.pairwise_append.2 ⟨h.apart.filter _, List.pairwise_singleton _ _, fun y hy z hz => ?_⟩
    simp at hz
    subst hz
    have := (List.mem_filter.1 hy).2
    simp only [at_, Bool.not_eq_true', decide_eq_false_iff_not] at this
    exact this
  · refine List.pairwise_append.2 ⟨h.rise.filter _, List.pairwise_singleton _ _, fun y hy z hz => ?_⟩
    simp at hz
    subst hz
    exact hn y (List.mem_filter.1 hy).1
theorem insert_perm (x : Lit × DataW Unit) : ∀ l : List (Lit × DataW Unit), (DataW.insert x l).Perm (x :: l)
  | [] => List.Perm.refl _
  | y :: r => by
    unfold DataW.insert
    split
    · exact List.Perm.refl _
    · exact ((insert_perm x r).cons y).trans (List.Perm.swap x y r)
theorem Rep.nil : Rep (.map []) [] := ⟨[], rfl, List.Perm.refl _⟩
theorem Rep.size {D : DataW Unit} {ls : List Ls} (h : Rep D ls) : Maps.size D = ls.length := by
  obtain ⟨es, rfl, hp⟩ := h
  simpa [Maps.size] using hp.length_eq
theorem filter_ent {ls : List Ls} (hf : ∀ x ∈ ls, Fine x.key x.cache) {k : ByteArray} {c : Int} (hk : Fine k c) : (ls.map ent).filter (fun p => !p.1.sameKey (pk k c)) = (ls.filter fun x => !at_ k c x).map ent := by
  rw [List.filter_map]
  congr 1
  refine List.filter_congr fun x hx => ?_
  simp only [Function.comp, ent]
  rw [same_pk (hf x hx) hk]
  rfl
theorem Rep.del {D : DataW Unit} {ls : List Ls} (h : Rep D ls) (hf : ∀ x ∈ ls, Fine x.key x.cache) {k : ByteArray} {c : Int} (hk : Fine k c) : Rep (D.del (pk k c)) (ls.filter fun x => !at_ k c x) := by
  obtain ⟨es, rfl, hp⟩ := h
  exact ⟨_, rfl, (hp.filter _).trans (by rw [filter_ent hf hk])⟩
theorem Rep.put {D : DataW Unit} {ls : List Ls} (h : Rep D ls) (hf : ∀ x ∈ ls, Fine x.key x.cache) {x : Ls} (hk : Fine x.key x.cache) : Rep (D.put (pk x.key x.cache) x.d) (give ls x) := by
  obtain ⟨es, rfl, hp⟩ := h
  refine ⟨_, rfl, (insert_perm _ _).trans ?_⟩
  unfold give
  rw [List.map_append, ← filter_ent hf hk]
  exact ((hp.filter _).cons (ent x)).trans (List.perm_append_singleton (ent x) _).symm
theorem Rep.at_ {D : DataW Unit} {ls : List Ls} (h : Rep D ls) {kl : Lit} {y : DataW Unit} (hy : ∀ zd, D.atKey kl zd = y) : ∃ x ∈ ls, kl = pk x.key x.cache ∧ y = x.d := by
  obtain ⟨es, rfl, hp⟩ := h
  unfold DataW.atKey at hy
  simp only at hy
  cases e : es.find? (fun p => p.1.sameKey kl) with
  | none =>
    rw [e] at hy
    have h1 := hy (dnum 0)
    have h2 := hy (dnum 1)
    exact absurd (num_inj (h1.trans h2.symm)) (by decide)
  | some p =>
    rw [e] at hy
    have h1 := hy (dnum 0)
    simp only at h1
    have h2 := List.find?_some e
    have h3 := hp.mem_iff.1 (List.mem_of_find?_eq_some e)
    obtain ⟨x, hx, rfl⟩ := List.mem_map.1 h3
    exact ⟨x, hx, same_eq h2, h1.symm⟩

/-! ### what has come of the map -/
/-- the leases that have come -/
structure Came (ls : List Ls) (left : Lit → Bool) (vis : List Ls) : Prop where
  nodup : vis.Nodup
  mem : ∀ x, x ∈ vis ↔ x ∈ ls ∧ left (pk x.key x.cache) = false
theorem Came.start {ls : List Ls} {left : Lit → Bool} (h : ∀ x ∈ ls, left (pk x.key x.cache) = true) : Came ls left [] :=
  ⟨List.nodup_nil, fun x => ⟨fun h => absurd h (List.not_mem_nil), fun ⟨h1, h2⟩ => by rw [h x h1] at h2; cases h2⟩⟩
theorem Came.step {ls : List Ls} {left : Lit → Bool} {vis : List Ls} (h : Came ls left vis) (G : Good ls) {x : Ls} (hx : x ∈ ls) (hl : left (pk x.key x.cache) = true) : Came ls (fun z => left z && !z.sameKey (pk x.key x.cache)) (vis ++ [x]) := by
  have hn : x ∉ vis := fun hv => by rw [((h.mem x).1 hv).2] at hl; cases hl
  refine ⟨List.nodup_append.2 ⟨h.nodup, by simp, fun a ha b hb => by simp at hb; subst hb; rintro rfl; exact hn ha⟩, fun y => ?_⟩
  rw [List.mem_append, h.mem, List.mem_singleton]
  constructor
  · rintro (⟨h1, h2⟩ | rfl)
    · exact ⟨h1, by rw [h2]; rfl⟩
    · refine ⟨hx, ?_⟩
      rw [same_pk (G.fine _ hx) (G.fine _ hx)]
      simp
  · rintro ⟨h1, h2⟩
    rw [same_pk (G.fine _ h1) (G.fine _ hx)] at h2
    by_cases e : y.key = x.key ∧ y.cache = x.cache
    · exact Or.inr (G.one h1 hx e)
    · refine Or.inl ⟨h1, ?_⟩
      simpa [e] using h2
theorem Came.all {ls : List Ls} {left : Lit → Bool} {vis : List Ls} (h : Came ls left vis) (G : Good ls) (h0 : ∀ kl, left kl = false) : vis.Perm ls :=
  (List.perm_ext_iff_of_nodup h.nodup G.nodup).2 fun x => by rw [h.mem, h0]; simp
end Go.Proofs.Ytfjfpnlcmjpofaa
