/- The document's Of (22): what is marked; the state of its loops. -/
import Derived.Test.YtajbagdgjbihjaaE9
import Derived.Laws.OwnMore
namespace Go.Proofs.Ytajbagdgjbihjaa
open Go.RowKit Go.Maps Go.Sort
set_option linter.unusedVariables false

theorem under80 : Try.prog.underlying 80 = some (.slice 4) := by kernel_rfl
theorem info4 : Try.prog.info? 4 = some Try.t4 := by kernel_rfl
theorem t4_zero : Try.t4.zero = some (.bool false) := by kernel_rfl
theorem t4_size : Try.t4.size = 1 := by kernel_rfl
theorem t4_bytes : Try.t4.bytes = 1 := by kernel_rfl
def bls (l : List Bool) : List Value := l.map Value.bool
theorem make80 (n : Nat) (w : World) (hn : n ≤ 1000) : ∃ w', (Instr.makeSlice 80 (.int .i64 (n : Int)) (.int .i64 (n : Int))).run Try.prog w = .ok (.slice (some ⟨w.heap.size, 0, none⟩) n n) w' ∧ Vec w' 1 (.slice (some ⟨w.heap.size, 0, none⟩) n n) n (bls (List.replicate n false)) ∧ Only None' w w' ∧ w.heap.size < w'.heap.size := by
  obtain ⟨w', hrun, r1, r2⟩ := run_make_full (P := Try.prog) w w.heap.size 80 4 Try.t4 (.bool false) 1 under80 info4 t4_zero t4_size .i64 .i64 n (by rw [t4_bytes]; omega) (by unfold maxLen; omega) (Nat.le_refl _)
  have hv := Vec.of_owns r1
  rw [show (Value.bool false).cells = #[.bool false] from rfl, toList_madeCells_one, Nat.mul_one] at hv
  have e : bls (List.replicate n false) = List.replicate n (Value.bool false) := by simp [bls]
  rw [e]
  refine ⟨w', hrun, hv, (Only.refl None' w).grown r2 (by simp), ?_⟩
  rcases hv.form with ⟨e, _⟩ | ⟨g, off, cap, e, _, _, hl, _⟩
  · cases e
  · injection e with e1 _ _
    injection e1 with e1
    injection e1 with e1 _
    omega
/-- k is marked when the calls below i have been looked at -/
def Mk (key : ByteArray) (l : List Ev) (i k : Nat) : Prop := (k < i ∧ ∃ e, l[k]? = some e ∧ e.back = false ∧ e.hit key = true) ∨ ∃ i', i' < i ∧ First Ev.who Ev.back (Ev.hit key) l i' k
/-- k is the marked row's word -/
def Marks (key : ByteArray) (l : List Ev) (i : Nat) (U : List Bool) : Prop := U.length = l.length ∧ ∀ k b, U[k]? = some b → (b = true ↔ Mk key l i k)
/-- a call of the key at i was marked; none behind it up to k came back to it -/
def Amid (key : ByteArray) (l : List Ev) (i k : Nat) (U : List Bool) : Prop := U.length = l.length ∧ (∀ j c, i < j → j < k → l[j]? = some c → c.back = true → ∀ a, l[i]? = some a → c.who ≠ a.who) ∧
  ∀ j b, U[j]? = some b → (b = true ↔ Mk key l i j ∨ j = i)
section
variable {key : ByteArray} {l : List Ev} {i : Nat} {U : List Bool} {a : Ev}
theorem Marks.zero : Marks key l 0 (List.replicate l.length false) := by
  refine ⟨by simp, fun k b hb => ?_⟩
  obtain ⟨h1, h2⟩ := List.getElem?_eq_some_iff.1 hb
  rw [List.getElem_replicate] at h2
  subst h2
  constructor
  · intro h; cases h
  · rintro (⟨h, _⟩ | ⟨i', h, _⟩)
    · exact absurd h (Nat.not_lt_zero _)
    · exact absurd h (Nat.not_lt_zero _)
theorem Mk_miss (ha : l[i]? = some a) (h : a.back = true ∨ a.hit key = false) (k : Nat) : Mk key l (i + 1) k ↔ Mk key l i k := by
  constructor
  · rintro (⟨h1, e, h2, h3, h4⟩ | ⟨i', h1, h2⟩)
    · by_cases hk : k = i
      · subst hk
        rw [ha] at h2
        injection h2 with h2
        subst h2
        rcases h with h | h
        · rw [h] at h3; cases h3
        · rw [h] at h4; cases h4
      · exact Or.inl ⟨by omega, e, h2, h3, h4⟩
    · by_cases hk : i' = i
      · subst hk
        obtain ⟨x, y, g1, g2, g3, g4, g5, _⟩ := h2
        rw [ha] at g1
        injection g1 with g1
        subst g1
        rcases h with h | h
        · rw [h] at g4; cases g4
        · rw [h] at g5; cases g5
      · exact Or.inr ⟨i', by omega, h2⟩
  · rintro (⟨h1, e, h2⟩ | ⟨i', h1, h2⟩)
    · exact Or.inl ⟨by omega, e, h2⟩
    · exact Or.inr ⟨i', by omega, h2⟩
theorem Marks.miss (h : Marks key l i U) (ha : l[i]? = some a) (hm : a.back = true ∨ a.hit key = false) : Marks key l (i + 1) U :=
  ⟨h.1, fun k b hb => by rw [h.2 k b hb, Mk_miss ha hm]⟩
theorem Marks.start (h : Marks key l i U) : Amid key l i (i + 1) (U.set i true) := by
  refine ⟨by simpa using h.1, fun j c h1 h2 => by omega, fun j b hb => ?_⟩
  rw [List.getElem?_set] at hb
  by_cases e : i = j
  · subst e
    rw [if_pos rfl] at hb
    split at hb
    · injection hb with hb
      subst hb
      simp
    · cases hb
  · rw [if_neg e] at hb
    rw [h.2 j b hb]
    constructor
    · exact Or.inl
    · rintro (h1 | h1)
      · exact h1
      · exact absurd h1.symm e
theorem Amid.next {k : Nat} {c : Ev} (h : Amid key l i k U) (ha : l[i]? = some a) (hc : l[k]? = some c) (hn : c.back = false ∨ c.who ≠ a.who) : Amid key l i (k + 1) U := by
  refine ⟨h.1, fun j d h1 h2 hd hb x hx => ?_, h.2.2⟩
  by_cases e : j = k
  · subst e
    rw [hc] at hd
    injection hd with hd
    subst hd
    rw [ha] at hx
    injection hx with hx
    subst hx
    rcases hn with hn | hn
    · rw [hn] at hb; cases hb
    · exact hn
  · exact h.2.1 j d h1 (by omega) hd hb x hx
theorem First.fun {i k k' : Nat} (h : First Ev.who Ev.back (Ev.hit key) l i k) (h' : First Ev.who Ev.back (Ev.hit key) l i k') : k = k' := by
  obtain ⟨x, y, g1, g2, g3, g4, g5, g6, g7, g8⟩ := h
  obtain ⟨x', y', g1', g2', g3', g4', g5', g6', g7', g8'⟩ := h'
  rw [g1] at g1'
  injection g1' with g1'
  subst g1'
  rcases Nat.lt_trichotomy k k' with e | e | e
  · exact absurd g7 (g8' k y g3 e g2 g6)
  · exact e
  · exact absurd g7' (g8 k' y' g3' e g2' g6')
theorem Amid.first {k : Nat} {c : Ev} (h : Amid key l i k U) (hik : i < k) (ha : l[i]? = some a) (hab : a.back = false) (hah : a.hit key = true) (hc : l[k]? = some c) (hcb : c.back = true) (hw : c.who = a.who) : Marks key l (i + 1) (U.set k true) := by
  have hF : First Ev.who Ev.back (Ev.hit key) l i k := ⟨a, c, ha, hc, hik, hab, hah, hcb, hw, fun j d h1 h2 hd hb => h.2.1 j d h1 h2 hd hb a ha⟩
  refine ⟨by simpa using h.1, fun j b hb => ?_⟩
  have key2 : Mk key l (i + 1) j ↔ (Mk key l i j ∨ j = i) ∨ j = k := by
    constructor
    · rintro (⟨h1, e, h2⟩ | ⟨i', h1, h2⟩)
      · by_cases e2 : j = i
        · exact Or.inl (Or.inr e2)
        · exact Or.inl (Or.inl (Or.inl ⟨by omega, e, h2⟩))
      · by_cases e2 : i' = i
        · subst e2
          exact Or.inr (h2.fun hF)
        · exact Or.inl (Or.inl (Or.inr ⟨i', by omega, h2⟩))
    · rintro (((⟨h1, e, h2⟩ | ⟨i', h1, h2⟩) | e) | e)
      · exact Or.inl ⟨by omega, e, h2⟩
      · exact Or.inr ⟨i', by omega, h2⟩
      · subst e
        exact Or.inl ⟨by omega, a, ha, hab, hah⟩
      · subst e
        exact Or.inr ⟨i, by omega, hF⟩
  rw [key2]
  rw [List.getElem?_set] at hb
  by_cases e : k = j
  · subst e
    rw [if_pos rfl] at hb
    split at hb
    · injection hb with hb
      subst hb
      simp
    · cases hb
  · rw [if_neg e] at hb
    rw [h.2.2 j b hb]
    constructor
    · exact Or.inl
    · rintro (h1 | h1)
      · exact h1
      · exact absurd h1.symm e
theorem Amid.none (h : Amid key l i l.length U) (ha : l[i]? = some a) (hab : a.back = false) (hah : a.hit key = true) : Marks key l (i + 1) U := by
  refine ⟨h.1, fun j b hb => ?_⟩
  rw [h.2.2 j b hb]
  constructor
  · rintro ((⟨h1, e, h2⟩ | ⟨i', h1, h2⟩) | e)
    · exact Or.inl ⟨by omega, e, h2⟩
    · exact Or.inr ⟨i', by omega, h2⟩
    · subst e
      exact Or.inl ⟨by omega, a, ha, hab, hah⟩
  · rintro (⟨h1, e, h2⟩ | ⟨i', h1, h2⟩)
    · by_cases e2 : j = i
      · exact Or.inr e2
      · exact Or.inl (Or.inl ⟨by omega, e, h2⟩)
    · by_cases e2 : i' = i
      · subst e2
        obtain ⟨x, y, g1, g2, g3, g4, g5, g6, g7, g8⟩ := h2
        rw [ha] at g1
        injection g1 with g1
        subst g1
        exact absurd g7 (h.2.1 j y g3 (List.getElem?_eq_some_iff.1 g2).1 g2 g6 a ha)
      · exact Or.inl (Or.inr ⟨i', by omega, h2⟩)
/-- what is marked in the end is what is picked -/
theorem Marks.sel (h : Marks key l l.length U) {k : Nat} {b : Bool} (hb : U[k]? = some b) {e : Ev} (he : l[k]? = some e) : b = (if e.back then opn key (l.take k) e.who else e.hit key) := by
  have h1 := h.2 k b hb
  have h2 := sel_iff Ev.who Ev.back (Ev.hit key) he
  have hk := (List.getElem?_eq_some_iff.1 he).1
  have h3 : b = true ↔ Ytajbagdgjbihjaa.sel Ev.who Ev.back (Ev.hit key) (l.take k) e = true := by
    rw [h1, h2]
    constructor
    · rintro (⟨_, e', h4, h5, h6⟩ | ⟨i', _, h4⟩)
      · rw [he] at h4
        injection h4 with h4
        subst h4
        exact Or.inl ⟨h5, h6⟩
      · exact Or.inr ⟨i', h4⟩
    · rintro (⟨h5, h6⟩ | ⟨i', h4⟩)
      · exact Or.inl ⟨hk, e, he, h5, h6⟩
      · refine Or.inr ⟨i', ?_, h4⟩
        obtain ⟨x, y, g1, _⟩ := h4
        exact (List.getElem?_eq_some_iff.1 g1).1
  have h5 : b = Ytajbagdgjbihjaa.sel Ev.who Ev.back (Ev.hit key) (l.take k) e := by rw [Bool.eq_iff_iff]; exact h3
  rw [h5]
  rfl
end
end Go.Proofs.Ytajbagdgjbihjaa
