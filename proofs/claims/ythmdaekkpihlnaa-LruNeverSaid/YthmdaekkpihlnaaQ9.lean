/- Both shelves side by side. -/
import Derived.Test.YthmdaekkpihlnaaK2
namespace Go.Proofs.Ythmdaekkpihlnaa
open Go.RowKit
set_option linter.unusedVariables false

structure Both (w0 w : World) (B M X : Nat) (E Y : Int) (l : List Node) (v : Value) (L1 L2 : List Ent) : Prop where
  sh : Sh w0.heap.size w B M E Y l L1
  ref : Ref w X E Y v L2
  dis : ∀ k, Own B M l k → ¬ OwnR X v k
  ge : ∀ k, OwnR X v k → w0.heap.size ≤ k
  bel : Below w0.heap.size w0 w

section
variable {w0 w w' : World} {B M X : Nat} {E Y : Int} {l l' : List Node} {v v' : Value} {L1 L2 L' : List Ent}

theorem Both.shelf (h : Both w0 w B M X E Y l v L1 L2) (S' : Sh w0.heap.size w' B M E Y l' L') (K : Kept (Own B M l) (Own B M l') w w') : Both w0 w' B M X E Y l' v L' L2 := by
  have hR := h.ref.only K.only fun k hk hk' => h.dis k hk' hk
  refine ⟨S', hR, fun k hk hk' => ?_, h.ge, h.bel.trans (K.only.below h.bel.size fun k hk => h.sh.shelf.ge hk)⟩
  rcases K.fresh k hk with h1 | h1
  · exact h.dis k h1 hk'
  · have := h.ref.lt hk'; omega

theorem Both.refd (h : Both w0 w B M X E Y l v L1 L2) (R' : Ref w' X E Y v' L') (K : Kept (OwnR X v) (OwnR X v') w w') : Both w0 w' B M X E Y l v' L1 L' := by
  have hS := h.sh.kept K.only fun k hk hk' => h.dis k hk hk'
  refine ⟨hS, R', fun k hk hk' => ?_, fun k hk => ?_, h.bel.trans (K.only.below h.bel.size fun k hk => h.ge k hk)⟩
  · rcases K.fresh k hk' with h1 | h1
    · exact h.dis k hk h1
    · have := h.sh.shelf.ltOwn hk; omega
  · rcases K.fresh k hk with h1 | h1
    · exact h.ge k h1
    · exact Nat.le_trans h.bel.size h1

theorem Both.new (h : Both w0 w B M X E Y l v L1 L2) (n : Only None' w w') : Both w0 w' B M X E Y l v L1 L2 :=
  ⟨h.sh.new n, h.ref.only n fun _ _ h => h, h.dis, h.ge, h.bel.trans (n.below h.bel.size fun _ h => h.elim)⟩
theorem Both.drewN (h : Both w0 w B M X E Y l v L1 L2) (n : Nat) : Both w0 (w.drewN n) B M X E Y l v L1 L2 := h.new ((Only.refl _ _).drewN n)
theorem Both.alloc (h : Both w0 w B M X E Y l v L1 L2) (o : Obj) : Both w0 (w.alloc o) B M X E Y l v L1 L2 := h.new ((Only.refl _ _).alloc o)

/-- a block of neither -/
structure Free (w : World) (B M X : Nat) (l : List Node) (v : Value) (b : Nat) (o : Obj) : Prop where
  lt : b < w.heap.size
  no : ¬ Own B M l b
  nor : ¬ OwnR X v b
  is : w.heap[b]? = some o

theorem Free.shelf {b : Nat} {o : Obj} (f : Free w B M X l v b o) (K : Kept (Own B M l) (Own B M l') w w') : Free w' B M X l' v b o := by
  obtain ⟨h1, h2, h3⟩ := K.stay f.lt f.no
  exact ⟨h1, h2, f.nor, h3.trans f.is⟩
theorem Free.refd {b : Nat} {o : Obj} (f : Free w B M X l v b o) (K : Kept (OwnR X v) (OwnR X v') w w') : Free w' B M X l v' b o := by
  obtain ⟨h1, h2, h3⟩ := K.stay f.lt f.nor
  exact ⟨h1, f.no, h2, h3.trans f.is⟩
theorem Free.new {b : Nat} {o : Obj} (f : Free w B M X l v b o) (n : Only None' w w') : Free w' B M X l v b o :=
  ⟨Nat.lt_of_lt_of_le f.lt n.size, f.no, f.nor, (n.block b f.lt fun h => h).trans f.is⟩
theorem Free.made (h : Both w0 w B M X E Y l v L1 L2) (o : Obj) : Free (w.alloc o) B M X l v w.heap.size o :=
  ⟨by simp, h.sh.out (Nat.le_refl _), fun hk => absurd (h.ref.lt hk) (by omega), heap_alloc_new w o⟩

end

def entOf (s : Stp) : Ent := ⟨s.key, s.val, s.til, s.gra⟩
def stepObj (s : Stp) : Obj := .cells #[.int .i64 s.kind, .string s.key, .string s.val, .int .i64 s.til, .int .i64 s.gra, .int .i64 s.now] 32
def ent35 (g : Ent) : Obj := .cells #[.string g.key, .string g.val, .int .i64 g.til, .int .i64 g.gra] 35
def ent50 (g : Ent) : Obj := .cells #[.string g.key, .string g.val, .int .i64 g.til, .int .i64 g.gra] 50

theorem step_cells {w : World} {b : Nat} {s : Stp} (h : w.heap[b]? = some (stepObj s)) : At6 w b 0 s := by
  have c (i : Nat) := cell_of_row w b i _ 32 (0, 0) h
  exact ⟨c 0, c 1, c 2, c 3, c 4, c 5⟩
theorem ent35_cells {w : World} {b : Nat} {g : Ent} (h : w.heap[b]? = some (ent35 g)) : At4 w b 0 g := by
  have c (i : Nat) := cell_of_row w b i _ 35 (0, 0) h
  exact ⟨c 0, c 1, c 2, c 3⟩
theorem ent50_cells {w : World} {b : Nat} {g : Ent} (h : w.heap[b]? = some (ent50 g)) : At4 w b 0 g := by
  have c (i : Nat) := cell_of_row w b i _ 50 (0, 0) h
  exact ⟨c 0, c 1, c 2, c 3⟩

/-! ### the contracts at a pair -/
section
variable {w0 w : World} {B M X : Nat} {E Y : Int} {l : List Node} {v : Value} {L1 L2 : List Ent}

theorem Both.put_s (h : Both w0 w B M X E Y l v L1 L2) (e : Ent) (hk : e.key.size ≤ 140737488355328) (hv : e.val.size ≤ 140737488355328) (hE0 : 0 ≤ E) (hY0 : 0 ≤ Y) (hl : L1.length < 1000) (n : Int) (hn : (if pfits E Y e then (0 : Int) else 40) = n) :
    Calls Try.prog 10 #[.pointer (some ⟨B, 0, none⟩), .agg #[.string e.key, .string e.val, .int .i64 e.til, .int .i64 e.gra]] w fun r w' =>
      r = .returned (.int .i64 n) ∧ ∃ l', Both w0 w' B M X E Y l' v (pput E Y L1 e) L2 ∧ Kept (Own B M l) (Own B M l') w w' := by
  refine (h.sh.put e _ n hk hv hE0 hY0 hl hn rfl).mono ?_
  rintro r w' ⟨rfl, l', h1, h2⟩
  exact ⟨rfl, l', h.shelf h1 h2, h2⟩
theorem Both.put_r (h : Both w0 w B M X E Y l v L1 L2) (e : Ent) (hk : e.key.size ≤ 140737488355328) (hv : e.val.size ≤ 140737488355328) (hE0 : 0 ≤ E) (hl : L2.length < 1000) (b : Bool) (hb : pfits E Y e = b) :
    Calls Try.prog 18 #[.pointer (some ⟨X, 0, none⟩), .agg #[.string e.key, .string e.val, .int .i64 e.til, .int .i64 e.gra]] w fun r w' =>
      r = .returned (.bool b) ∧ ∃ v', Both w0 w' B M X E Y l v' L1 (pput E Y L2 e) ∧ Kept (OwnR X v) (OwnR X v') w w' := by
  subst hb
  refine (put18 h.ref e hk hv hE0 hl).mono ?_
  rintro r w' ⟨rfl, l', h1, h2⟩
  exact ⟨rfl, l', h.refd h1 h2, h2⟩
theorem Both.get_s (h : Both w0 w B M X E Y l v L1 L2) (key : ByteArray) (now : Int) (hk : key.size ≤ 140737488355328) (g : Ent) (b : Bool) (hg : (pget L1 key now).getD zent = g) (hb : (pget L1 key now).isSome = b) :
    Calls Try.prog 12 #[.pointer (some ⟨B, 0, none⟩), .string key, .int .i64 now] w fun r w' =>
      r = .returned (.tuple #[.agg #[.string g.key, .string g.val, .int .i64 g.til, .int .i64 g.gra], .bool b]) ∧ ∃ l', Both w0 w' B M X E Y l' v (pgot L1 key now) L2 ∧ Kept (Own B M l) (Own B M l') w w' := by
  refine (h.sh.get key now _ g _ b hk hg rfl hb rfl).mono ?_
  rintro r w' ⟨rfl, l', h1, h2⟩
  exact ⟨rfl, l', h.shelf h1 h2, h2⟩
theorem Both.get_r (h : Both w0 w B M X E Y l v L1 L2) (key : ByteArray) (now : Int) (g : Ent) (b : Bool) (hg : (pget L2 key now).getD zent = g) (hb : (pget L2 key now).isSome = b) :
    Calls Try.prog 19 #[.pointer (some ⟨X, 0, none⟩), .string key, .int .i64 now] w fun r w' =>
      r = .returned (.tuple #[.agg #[.string g.key, .string g.val, .int .i64 g.til, .int .i64 g.gra], .bool b]) ∧ ∃ v', Both w0 w' B M X E Y l v' L1 (pgot L2 key now) ∧ Kept (OwnR X v) (OwnR X v') w w' := by
  refine (get19 h.ref key now).mono ?_
  rintro r w' ⟨g', b', hg', hb', rfl, v', h1, h2⟩
  rw [hg] at hg'
  rw [hb] at hb'
  subst hg' hb'
  exact ⟨rfl, v', h.refd h1 h2, h2⟩

theorem pdrop_has (L : List Ent) (k : ByteArray) : decide ((pdrop L k).length < L.length) = phas L k := by
  cases h : phas L k with
  | false =>
    have : pdrop L k = L := by
      simp only [phas, List.any_eq_false, decide_eq_true_eq] at h
      simp only [pdrop, List.filter_eq_self]
      intro y hy; simpa using h y hy
    rw [this]; simp
  | true =>
    simp only [phas, List.any_eq_true, decide_eq_true_eq] at h
    obtain ⟨e, he, hk⟩ := h
    simp only [decide_eq_true_eq]
    refine Nat.lt_of_le_of_ne (pdrop_le _ _) fun hh => ?_
    unfold pdrop at hh
    rw [List.length_filter_eq_length_iff] at hh
    have := hh e he
    simp [hk] at this

theorem Both.drop_s (h : Both w0 w B M X E Y l v L1 L2) (key : ByteArray) (hk : key.size ≤ 140737488355328) :
    Calls Try.prog 16 #[.pointer (some ⟨B, 0, none⟩), .string key] w fun r w' => r = .returned (.bool (phas L1 key)) ∧ ∃ l', Both w0 w' B M X E Y l' v (pdrop L1 key) L2 ∧ Kept (Own B M l) (Own B M l') w w' := by
  refine (drop_e h.sh.shelf key hk).mono ?_
  rintro r w' ⟨rfl, l', h1, h2, h3⟩
  rw [h.sh.is] at h2 ⊢
  exact ⟨rfl, l', h.shelf ⟨h1, h2, Nat.le_trans h.sh.le h3.only.size⟩ h3, h3⟩
theorem Both.drop_r (h : Both w0 w B M X E Y l v L1 L2) (key : ByteArray) :
    Calls Try.prog 20 #[.pointer (some ⟨X, 0, none⟩), .string key] w fun r w' => r = .returned (.bool (phas L2 key)) ∧ ∃ v', Both w0 w' B M X E Y l v' L1 (pdrop L2 key) ∧ Kept (OwnR X v) (OwnR X v') w w' := by
  refine (drop20 h.ref key).mono ?_
  rintro r w' ⟨rfl, v', h1, h2⟩
  rw [pdrop_has]
  exact ⟨rfl, v', h.refd h1 h2, h2⟩
theorem Both.sweep_s (h : Both w0 w B M X E Y l v L1 L2) (now : Int) :
    Calls Try.prog 17 #[.pointer (some ⟨B, 0, none⟩), .int .i64 now] w fun r w' => r = .returned (.int .i64 (pgone now L1 : Int)) ∧ ∃ l', Both w0 w' B M X E Y l' v (plive now L1) L2 ∧ Kept (Own B M l) (Own B M l') w w' := by
  refine (sweep_e h.sh.shelf now).mono ?_
  rintro r w' ⟨rfl, l', h1, h2, h3⟩
  rw [h.sh.is] at h2 ⊢
  exact ⟨rfl, l', h.shelf ⟨h1, h2, Nat.le_trans h.sh.le h3.only.size⟩ h3, h3⟩
theorem Both.sweep_r (h : Both w0 w B M X E Y l v L1 L2) (now : Int) :
    Calls Try.prog 21 #[.pointer (some ⟨X, 0, none⟩), .int .i64 now] w fun r w' => r = .returned (.int .i64 (pgone now L2 : Int)) ∧ ∃ v', Both w0 w' B M X E Y l v' L1 (plive now L2) ∧ Kept (OwnR X v) (OwnR X v') w w' := by
  refine (sweep21 h.ref now).mono ?_
  rintro r w' ⟨rfl, v', h1, h2⟩
  have e : (L2.length : Int) - ((plive now L2).length : Int) = (pgone now L2 : Int) := by have := plive_gone now L2; omega
  rw [e]
  exact ⟨rfl, v', h.refd h1 h2, h2⟩
theorem Both.stands (h : Both w0 w B M X E Y l v L1 L1) :
    Calls Try.prog 22 #[.pointer (some ⟨B, 0, none⟩), .pointer (some ⟨X, 0, none⟩)] w fun r w' => r = .returned (.bool true) ∧ Both w0 w' B M X E Y l v L1 L1 := by
  refine (stands_any h.sh h.ref).mono ?_
  rintro r w' ⟨rfl, h1⟩
  exact ⟨rfl, h.new h1⟩
end

theorem pput_len (E Y : Int) (L : List Ent) (e : Ent) : (pput E Y L e).length ≤ L.length + 1 := by
  have h1 := pdrop_le L e.key
  have h2 : ∀ l : List Ent, (pevict E Y l).length ≤ l.length := by
    intro l
    induction l with
    | nil => exact Nat.le_refl _
    | cons x r ih => unfold pevict; split <;> simp <;> omega
  unfold pput
  split
  · have := h2 (pdrop L e.key ++ [e]); simp at this; omega
  · omega
theorem pgot_len (L : List Ent) (k : ByteArray) (now : Int) : (pgot L k now).length ≤ L.length := by
  unfold pgot
  split
  · exact Nat.le_refl _
  · rename_i e h
    have := pdrop_lt h
    split <;> simp <;> omega

end Go.Proofs.Ythmdaekkpihlnaa
