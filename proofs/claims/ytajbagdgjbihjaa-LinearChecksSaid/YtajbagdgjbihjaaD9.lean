/- could's look (29): what it stands on; its state. -/
import Derived.Test.YtajbagdgjbihjaaD8
namespace Go.Proofs.Ytajbagdgjbihjaa
open Go.RowKit Go.Maps
set_option linter.unusedVariables false

def Opn.row (o : Opn) : List Value := [.int .i64 o.cl, .int .i64 o.id, .int .i64 o.fr, .int .i64 o.til, .int .u8 o.op.kind, .string o.op.key, .string o.op.val, .string o.op.old, .bool o.op.had, .int .u8 o.res.kind, .bool o.res.found, .string o.res.val]
theorem Opn.row_length (o : Opn) : o.row.length = 12 := rfl
theorem Opn.row_one (o : Opn) : ∀ u ∈ o.row, u.oneCell' = true := by
  intro u hu
  simp [Opn.row] at hu
  rcases hu with rfl | rfl | rfl | rfl | rfl | rfl | rfl | rfl | rfl | rfl | rfl | rfl <;> rfl
/-- operations, in a row that may be read -/
structure OR (w : World) (v : Value) (l : List Opn) : Prop where
  form : (v = .slice none 0 0 ∧ l = []) ∨ ∃ g off cap, v = .slice (some ⟨g, off, none⟩) l.length cap ∧ l.length ≤ cap ∧ cap ≤ maxLen ∧ g < w.heap.size ∧ ∀ j u, (l.flatMap Opn.row)[j]? = some u → w.cell? ⟨g, off + j, none⟩ = some u
section
variable {w w' : World} {v : Value} {l : List Opn} {S : Nat → Prop}
theorem OR.shape (h : OR w v l) : ∃ a c, v = .slice a l.length c := by
  rcases h.form with ⟨rfl, rfl⟩ | ⟨g, off, cap, rfl, _⟩
  · exact ⟨none, 0, rfl⟩
  · exact ⟨_, _, rfl⟩
theorem OR.only (h : OR w v l) (o : Only S w w') (hn : ∀ g, v.ownBlock = some g → ¬ S g) : OR w' v l := by
  rcases h.form with h1 | ⟨g, off, cap, rfl, h1, h2, h3, h4⟩
  · exact ⟨.inl h1⟩
  · exact ⟨.inr ⟨g, off, cap, rfl, h1, h2, Nat.lt_of_lt_of_le h3 o.size, fun j u hu => (o.cell h3 (hn g rfl) _).trans (h4 j u hu)⟩⟩
theorem OR.at_ (h : OR w v l) {j : Nat} (hj : j < l.length) : ∃ g off c, v = .slice (some ⟨g, off, none⟩) l.length c ∧ g < w.heap.size ∧ ∀ i u, (l[j]).row[i]? = some u → w.cell? ⟨g, off + j * 12 + i, none⟩ = some u := by
  rcases h.form with ⟨_, rfl⟩ | ⟨g, off, c, e, h1, h2, h3, h4⟩
  · simp at hj
  · refine ⟨g, off, c, e, h3, fun i u hu => ?_⟩
    rw [Nat.add_assoc]
    exact h4 _ u (flat_at Opn.row 12 l j (fun y _ => rfl) hj i u hu)
theorem OR.own_lt (h : OR w v l) {g : Nat} (hg : v.ownBlock = some g) : g < w.heap.size := by
  rcases h.form with ⟨rfl, _⟩ | ⟨g', off, cap, rfl, h1, h2, h3, h4⟩
  · cases hg
  · have hg : some g' = some g := hg
    injection hg with hg; omega
end
/-- how many are not done -/
def free (l : List Opn) (done : Nat) : Nat := (List.range l.length).countP fun k => !done.testBit k
theorem countP_less {p p' : Nat → Bool} : ∀ {l : List Nat} {x : Nat}, (∀ y, p' y = true → p y = true) → x ∈ l → p x = true → p' x = false → l.countP p' < l.countP p
  | [], x, _, h, _, _ => by cases h
  | y :: l, x, h, hx, h1, h2 => by
    have hle : l.countP p' ≤ l.countP p := List.countP_mono_left fun z _ hz => h z hz
    rw [List.countP_cons, List.countP_cons]
    rcases List.mem_cons.1 hx with rfl | hx
    · rw [if_pos h1, if_neg (by simp [h2])]
      omega
    · have := countP_less h hx h1 h2
      by_cases hy : p' y = true
      · rw [if_pos hy, if_pos (h y hy)]; omega
      · rw [if_neg hy]; omega
theorem free_less {l : List Opn} {done k : Nat} (hk : k < l.length) (h : done.testBit k = false) : free l (done ||| 2 ^ k) < free l done := by
  unfold free
  have e := or_bit done k
  refine countP_less (x := k) (fun y hy => ?_) (List.mem_range.2 hk) (by simp [h]) ?_
  · have := congrFun e y
    rw [this] at hy
    simp only [Bool.not_or, Bool.and_eq_true] at hy
    exact hy.1
  · have := congrFun e k
    rw [this]
    simp
def cost : Nat → Nat
  | 0 => 1
  | r + 1 => 1 + 14 * cost r
theorem cost_pos : ∀ r, 1 ≤ cost r
  | 0 => Nat.le_refl _
  | r + 1 => by unfold cost; omega
theorem cost_step {r : Nat} (h : 1 ≤ r) : cost r = 1 + 14 * cost (r - 1) := by
  obtain ⟨k, rfl⟩ : ∃ k, r = k + 1 := ⟨r - 1, by omega⟩
  rfl
theorem cost_mono {a b : Nat} (h : a ≤ b) : cost a ≤ cost b := by
  induction h with
  | refl => exact Nat.le_refl _
  | step _ ih => refine Nat.le_trans ih ?_; conv => rhs; unfold cost
                 omega
theorem free_le (l : List Opn) (done : Nat) : free l done ≤ l.length := by
  unfold free
  refine Nat.le_trans List.countP_le_length ?_
  rw [List.length_range]
  exact Nat.le_refl _
abbrev St := Nat × Option ByteArray
def MCs (l : List Opn) (s : St) : Prop := MC l (fun k => s.1.testBit k) s.2
/-- what was counted -/
structure Cnt (D : DataW Unit) (f : St → Nat) (n : Nat) : Prop where
  at_ : ∀ s, StOk s → D.atKey (sk s) (.lit (.int .i64 0)) = .lit (.int .i64 (f s : Int))
  le : ∀ s, f s ≤ n
def bump (f : St → Nat) (s : St) : St → Nat := open Classical in fun t => if t = s then f s + 1 else f t
theorem Cnt.bump {D : DataW Unit} {f : St → Nat} {n : Nat} (h : Cnt D f n) (hD : IsMap D) {s : St} (hs : StOk s) : Cnt (D.put (sk s) (.lit (.int .i64 ((f s + 1 : Nat) : Int)))) (bump f s) (n + 1) := by
  refine ⟨fun t ht => ?_, fun t => ?_⟩
  · unfold Ytajbagdgjbihjaa.bump
    by_cases e : t = s
    · subst e
      rw [atKey_put_same hD (by trivial), if_pos rfl]
    · rw [atKey_put_other (fun e' => e (sk_inj ht hs e').symm.symm), if_neg e, h.at_ t ht]
  · unfold Ytajbagdgjbihjaa.bump
    have h1 := h.le s
    have h2 := h.le t
    split <;> omega
/-- what look stands on -/
structure Env (w : World) (NB SB LB FB S need : Nat) (lv : Value) (l : List Opn) : Prop where
  nb : w.cell? ⟨NB, 0, none⟩ = some (.int .i64 (need : Int))
  sb : w.cell? ⟨SB, 0, none⟩ = some (.map (some S))
  lb : w.cell? ⟨LB, 0, none⟩ = some lv
  fb : w.cell? ⟨FB, 0, none⟩ = some (.func (.func 29) #[] #[.pointer (some ⟨NB, 0, none⟩), .pointer (some ⟨SB, 0, none⟩), .pointer (some ⟨LB, 0, none⟩), .pointer (some ⟨FB, 0, none⟩)])
  row : OR w lv l
  apart : S ≠ NB ∧ S ≠ SB ∧ S ≠ LB ∧ S ≠ FB ∧ lv.ownBlock ≠ some S
theorem Env.only {w w' : World} {NB SB LB FB S need : Nat} {lv : Value} {l : List Opn} (h : Env w NB SB LB FB S need lv l) (o : Only (fun k => k = S) w w') : Env w' NB SB LB FB S need lv l := by
  obtain ⟨a1, a2, a3, a4, a5⟩ := h.apart
  have lt := fun {b : Nat} {v : Value} (e : w.cell? ⟨b, 0, none⟩ = some v) => World.block_lt_of_cell? w _ e
  exact ⟨(o.cell (lt h.nb) (fun e => a1 e.symm) 0).trans h.nb, (o.cell (lt h.sb) (fun e => a2 e.symm) 0).trans h.sb, (o.cell (lt h.lb) (fun e => a3 e.symm) 0).trans h.lb, (o.cell (lt h.fb) (fun e => a4 e.symm) 0).trans h.fb, h.row.only o (fun g hg e => a5 (by rw [← e]; exact hg)), h.apart⟩
/-- what look comes to -/
def LookEnd (w : World) (S : Nat) (l : List Opn) (s : St) (n : Nat) (f : St → Nat) (e : Ending) (w' : World) : Prop := ∃ b, e = .returned (.bool b) ∧ Only (fun k => k = S) w w' ∧ (b = true → MCs l s) ∧
  (b = false → ¬ MCs l s ∧ ∃ D' n' f', w'.ownsMap Try.prog 84 (plainElem Try.prog 3) S n' D' ∧ Cnt D' f' n' ∧ n' ≤ n + cost (free l s.1) ∧ ∀ t, StOk t → 0 < f' t → 0 < f t ∨ ¬ MCs l t)
def LookOK (l : List Opn) (need : Nat) (s : St) : Prop := ∀ (w : World) (NB SB LB FB S : Nat) (lv : Value) (D : DataW Unit) (n : Nat) (f : St → Nat), Env w NB SB LB FB S need lv l → w.ownsMap Try.prog 84 (plainElem Try.prog 3) S n D → Cnt D f n → n + cost (free l s.1) ≤ 2305843009213693952 → (∀ t, StOk t → 0 < f t → free l t.1 ≤ free l s.1 → ¬ MCs l t) →
  Calls Try.prog 29 #[stV s.1 s.2, .pointer (some ⟨NB, 0, none⟩), .pointer (some ⟨SB, 0, none⟩), .pointer (some ⟨LB, 0, none⟩), .pointer (some ⟨FB, 0, none⟩)] w (LookEnd w S l s n f)
/-- which are needed -/
def Needs (l : List Opn) (need : Nat) : Prop := need < 16384 ∧ ∀ i, need.testBit i = true ↔ ∃ o, l[i]? = some o ∧ 0 ≤ o.til
/-- may the operation at k be done now? -/
def Turn (l : List Opn) (s : St) (k : Nat) (o : Opn) : Prop := l[k]? = some o ∧ s.1.testBit k = false ∧ ∀ j p, l[j]? = some p → s.1.testBit j = false → p.til < 0 ∨ o.fr ≤ p.til
/-- while the operations are gone through -/
structure LkIn (w wr : World) (NB SB LB FB S need : Nat) (lv : Value) (l : List Opn) (s : St) (C n : Nat) (f : St → Nat) (i ni : Nat) (Di : DataW Unit) (fi : St → Nat) : Prop where
  only : Only (fun k => k = S) w wr
  env : Env wr NB SB LB FB S need lv l
  cell : CellsR wr C [.int .i64 (s.1 : Int), .bool s.2.isSome, .string (s.2.getD ⟨#[]⟩)]
  new : w.heap.size ≤ C
  own : wr.ownsMap Try.prog 84 (plainElem Try.prog 3) S ni Di
  cnt : Cnt Di fi ni
  le : ni ≤ n + 1 + i * cost (free l s.1 - 1)
  memo : ∀ t, StOk t → 0 < fi t → 0 < f t ∨ t = s ∨ ¬ MCs l t
  fail : ∀ k o st', k < i → Turn l s k o → o.goes s.2 = some st' → ¬ MCs l (s.1 ||| 2 ^ k, st')
section
variable {w wr w1 : World} {NB SB LB FB S need : Nat} {lv : Value} {l : List Opn} {s : St} {C n i ni : Nat} {f fi : St → Nat} {Di : DataW Unit}
theorem LkIn.new_ (h : LkIn w wr NB SB LB FB S need lv l s C n f i ni Di fi) (o : Only None' wr w1) : LkIn w w1 NB SB LB FB S need lv l s C n f i ni Di fi :=
  ⟨h.only.trans2 o fun _ _ e => e.elim, h.env.only (o.mono fun _ _ e => e.elim), h.cell.kept o fun e => e, h.new, owns_same h.own (o.block S h.own.lt fun e => e), h.cnt, h.le, h.memo, h.fail⟩
theorem LkIn.skip (h : LkIn w wr NB SB LB FB S need lv l s C n f i ni Di fi) (hk : ∀ o st', Turn l s i o → o.goes s.2 = some st' → False) : LkIn w wr NB SB LB FB S need lv l s C n f (i + 1) ni Di fi := by
  refine ⟨h.only, h.env, h.cell, h.new, h.own, h.cnt, Nat.le_trans h.le ?_, h.memo, fun k o st' hki ht hg => ?_⟩
  · have := Nat.mul_le_mul_right (cost (free l s.1 - 1)) (Nat.le_add_right i 1)
    omega
  · by_cases hk2 : k = i
    · subst hk2; exact (hk o st' ht hg).elim
    · exact h.fail k o st' (by omega) ht hg
/-- nothing could be done that came to an end -/
theorem LkIn.noway (h : LkIn w wr NB SB LB FB S need lv l s C n f i ni Di fi) (hi : l.length ≤ i) (hn : ¬ ∀ k p, l[k]? = some p → s.1.testBit k = false → p.til < 0) : ¬ MCs l s := by
  intro hm
  unfold MCs at hm
  cases hm with
  | idle _ _ h1 => exact hn h1
  | step _ _ st' k o h1 h2 h3 h4 h5 =>
    refine h.fail k o st' ?_ ⟨h1, h2, h3⟩ h4 ?_
    · have := (List.getElem?_eq_some_iff.1 h1).1; omega
    · unfold MCs
      simp only
      rw [or_bit]
      exact h5
theorem needs_idle (hN : Needs l need) : (s.1 &&& need = need) ↔ ∀ k p, l[k]? = some p → s.1.testBit k = false → p.til < 0 := by
  rw [and_need]
  constructor
  · intro h k p hp hk
    by_cases h0 : p.til < 0
    · exact h0
    · have := h k ((hN.2 k).2 ⟨p, hp, by omega⟩)
      rw [hk] at this; cases this
  · intro h k hk
    obtain ⟨p, hp, h0⟩ := (hN.2 k).1 hk
    cases hd : s.1.testBit k with
    | true => rfl
    | false => have := h k p hp hd; omega
end
/-! ### what Do leaves at a key -/
theorem findP_append {key : ByteArray} : ∀ {a b : List Pr}, findP key a = none → findP key (a ++ b) = findP key b
  | [], b, _ => rfl
  | p :: a, b, h => by
    unfold findP at h
    split at h
    · cases h
    · next hp =>
      rw [List.cons_append]
      conv => lhs; unfold findP
      rw [if_neg hp]
      exact findP_append h
theorem findP_take {key : ByteArray} : ∀ {l : List Pr} (k : Nat), findP key l = none → findP key (l.take k) = none ∧ findP key (l.drop k) = none
  | [], k, _ => by simp [findP]
  | p :: l, 0, h => ⟨rfl, h⟩
  | p :: l, k + 1, h => by
    unfold findP at h
    split at h
    · cases h
    · next hp =>
      rw [List.take_succ_cons, List.drop_succ_cons]
      refine ⟨?_, (findP_take k h).2⟩
      unfold findP
      rw [if_neg hp]
      exact (findP_take k h).1
theorem findP_other {key k x : ByteArray} (hne : k ≠ key) : ∀ {a b : List Pr}, findP key (a ++ (k, x) :: b) = findP key (a ++ b)
  | [], b => by
    rw [List.nil_append, List.nil_append]
    conv => lhs; unfold findP
    rw [if_neg hne]
  | p :: a, b => by
    rw [List.cons_append, List.cons_append]
    unfold findP
    rw [findP_other hne]
theorem findP_set {key x : ByteArray} : ∀ {l : List Pr} {k : Nat} {y : Pr}, l[k]? = some y → y.1 = key → idxOf (isK key) l = (k : Int) → ∀ κ, findP κ (l.set k (key, x)) = if key = κ then some x else findP κ l
  | [], k, y, h, _, _ => by simp at h
  | p :: l, 0, y, h, hy, _ => by
    simp at h
    subst h
    intro κ
    rw [List.set_cons_zero]
    unfold findP
    by_cases hk : key = κ
    · rw [if_pos hk, if_pos hk]
    · rw [if_neg hk, if_neg hk, if_neg (by rw [hy]; exact hk)]
  | p :: l, k + 1, y, h, hy, hi => by
    intro κ
    unfold idxOf at hi
    by_cases hp : isK key p = true
    · rw [if_pos hp] at hi; omega
    · rw [if_neg hp] at hi
      have hpk : p.1 ≠ key := fun e => hp (isK_iff.2 e)
      split at hi
      · omega
      · rw [List.set_cons_succ]
        unfold findP
        rw [findP_set (by simpa using h) hy (by omega) κ]
        by_cases hk : key = κ
        · subst hk; simp [hpk]
        · simp [hk]
theorem findP_put (key x : ByteArray) (ps : List Pr) (κ : ByteArray) : findP κ (putP key x ps) = if key = κ then some x else findP κ ps := by
  unfold putP
  rcases findP_idx (key := key) ps with ⟨h1, h2⟩ | ⟨k, y, h1, h2, h3, h4⟩
  · rw [h2, if_pos (by decide)]
    by_cases hk : key = κ
    · subst hk
      rw [if_pos rfl, findP_append (findP_take _ h1).1]
      unfold findP
      rw [if_pos rfl]
    · rw [if_neg hk, findP_other hk, List.take_append_drop]
  · rw [h2, if_neg (by omega), Int.toNat_natCast]
    exact findP_set h1 h4 h2 κ
theorem findP_del (key κ : ByteArray) : ∀ ps : List Pr, findP κ (ps.filter fun p => !isK key p) = if key = κ then none else findP κ ps
  | [] => by simp [findP]
  | p :: l => by
    have ih := findP_del key κ l
    by_cases hp : isK key p = true
    · rw [List.filter_cons_of_neg (by simp [hp]), ih]
      conv => rhs; unfold findP
      have hpk := isK_iff.1 hp
      by_cases hk : key = κ
      · rw [if_pos hk, if_pos hk]
      · rw [if_neg hk, if_neg hk, if_neg (by rw [hpk]; exact hk)]
    · rw [List.filter_cons_of_pos (by simp [hp])]
      unfold findP
      rw [ih]
      have hpk : p.1 ≠ key := fun e => hp (isK_iff.2 e)
      by_cases hk : key = κ
      · rw [if_pos hk, if_pos hk, if_neg (by rw [← hk]; exact hpk)]
      · rw [if_neg hk, if_neg hk]
theorem findP_do (ps : List Pr) (o : Op5) (κ : ByteArray) : findP κ (doP ps o) = if o.key = κ then (o.does (findP o.key ps)).1 else findP κ ps := by
  unfold doP Op5.does
  by_cases h1 : o.kind = 1
  · rw [if_pos h1, if_pos h1]
    split
    · next e => rw [e]
    · rfl
  · rw [if_neg h1, if_neg h1]
    by_cases h2 : o.kind = 2
    · rw [if_pos h2, if_pos h2]; exact findP_put _ _ _ _
    · rw [if_neg h2, if_neg h2]
      by_cases h3 : o.kind = 3
      · rw [if_pos h3, if_pos h3]; exact findP_del _ _ _
      · rw [if_neg h3, if_neg h3]
        by_cases h4 : findP o.key ps = (if o.had then some o.old else none)
        · rw [if_pos h4, if_pos h4]; exact findP_put _ _ _ _
        · rw [if_neg h4, if_neg h4]
          split
          · next e => rw [e]
          · rfl
theorem putP_len (key x : ByteArray) (ps : List Pr) : (putP key x ps).length ≤ ps.length + 1 := by
  unfold putP
  split
  · rw [List.length_append, List.length_cons, List.length_take, List.length_drop]; omega
  · rw [List.length_set]; omega
theorem doP_len (ps : List Pr) (o : Op5) : (doP ps o).length ≤ ps.length + 1 := by
  unfold doP
  split
  · omega
  · split
    · exact putP_len _ _ _
    · split
      · exact Nat.le_succ_of_le (List.length_filter_le _ _)
      · split <;> split <;> first | exact putP_len _ _ _ | omega
theorem does_ok {o : Op5} (h0 : o.code = 0) {st : Option ByteArray} (h : ∀ v, st = some v → v.size ≤ 2000) : ∀ v, (o.does st).1 = some v → v.size ≤ 2000 := by
  have hval : o.val.size ≤ 2000 := by
    unfold Op5.code at h0
    split at h0
    · cases h0
    · split at h0
      · cases h0
      · omega
  intro v hv
  unfold Op5.does at hv
  split at hv
  · exact h v hv
  · split at hv
    · injection hv with hv; rw [← hv]; exact hval
    · split at hv
      · cases hv
      · split at hv <;> split at hv <;> first | (injection hv with hv; rw [← hv]; exact hval) | exact h v hv
section
variable {w wr w1 : World} {NB SB LB FB S need : Nat} {lv : Value} {l : List Opn} {s : St} {C n k ni : Nat} {f fi : St → Nat} {Di : DataW Unit} {x : Opn} {st' : Option ByteArray}
theorem LkIn.child (h : LkIn w wr NB SB LB FB S need lv l s C n f k ni Di fi) (hs : StOk s) (hl : l.length ≤ 14) (ht : Turn l s k x) (hg : x.goes s.2 = some st') (hb : n + cost (free l s.1) ≤ 2305843009213693952) (hm : ∀ t, StOk t → 0 < f t → free l t.1 ≤ free l s.1 → ¬ MCs l t) (IH : ∀ t, StOk t → free l t.1 < free l s.1 → LookOK l need t) :
    Calls Try.prog 29 #[stV (s.1 ||| 2 ^ k) st', .pointer (some ⟨NB, 0, none⟩), .pointer (some ⟨SB, 0, none⟩), .pointer (some ⟨LB, 0, none⟩), .pointer (some ⟨FB, 0, none⟩)] wr (fun e w' => ∃ b, e = .returned (.bool b) ∧ Only (fun k => k = S) wr w' ∧ (b = true → MCs l s) ∧ (b = false → ∃ n' D' f', LkIn w w' NB SB LB FB S need lv l s C n f (k + 1) n' D' f')) := by
  have hk : k < l.length := (List.getElem?_eq_some_iff.1 ht.1).1
  have hfree := free_less hk ht.2.1
  have hcs := cost_step (show 1 ≤ free l s.1 by omega)
  have hcm : cost (free l (s.1 ||| 2 ^ k)) ≤ cost (free l s.1 - 1) := cost_mono (by omega)
  have hmul : k * cost (free l s.1 - 1) + cost (free l s.1 - 1) ≤ 14 * cost (free l s.1 - 1) := by
    have := Nat.mul_le_mul_right (cost (free l s.1 - 1)) (show k + 1 ≤ 14 by omega)
    rw [Nat.add_mul, Nat.one_mul] at this
    exact this
  have hle := h.le
  have hc0 : x.op.code = 0 ∧ (x.op.does s.2).1 = st' := by
    unfold Opn.goes at hg
    split at hg
    · next hc => injection hg with hg; exact ⟨hc.1, hg⟩
    · cases hg
  have hok : StOk (s.1 ||| 2 ^ k, st') := ⟨or_small hs.1 (by omega), fun v hv => does_ok hc0.1 hs.2 v (by rw [hc0.2]; exact hv)⟩
  refine (IH (s.1 ||| 2 ^ k, st') hok hfree wr NB SB LB FB S lv Di ni fi h.env h.own h.cnt (by show ni + cost (free l (s.1 ||| 2 ^ k)) ≤ _; omega) fun t ht2 h0 hft => ?_).mono ?_
  · have hft : free l t.1 ≤ free l (s.1 ||| 2 ^ k) := hft
    rcases h.memo t ht2 h0 with e | e | e
    · exact hm t ht2 e (by omega)
    · subst e; omega
    · exact e
  · rintro e w' ⟨b, he, ho, h1, h2⟩
    refine ⟨b, he, ho, fun hb1 => ?_, fun hb1 => ?_⟩
    · have hm1 := h1 hb1
      unfold MCs at hm1 ⊢
      simp only at hm1
      rw [or_bit] at hm1
      exact .step _ _ st' k x ht.1 ht.2.1 ht.2.2 hg hm1
    · obtain ⟨hno, D', n', f', g1, g2, g3, g4⟩ := h2 hb1
      have g3 : n' ≤ ni + cost (free l (s.1 ||| 2 ^ k)) := g3
      refine ⟨n', D', f', ⟨h.only.trans ho, h.env.only ho, h.cell.kept ho ?_, h.new, g1, g2, ?_, fun t ht2 h0 => ?_, fun j o st2 hj hto hgo => ?_⟩⟩
      · intro e
        have hS := h.own
        obtain ⟨es, clock, hb2, _⟩ := hS
        have hc := h.cell.is 0 _ rfl
        rw [e] at hc
        unfold World.cell? at hc
        simp only [hb2] at hc
        cases hc
      · rw [Nat.add_mul, Nat.one_mul]; omega
      · rcases g4 t ht2 h0 with e | e
        · exact h.memo t ht2 e
        · exact .inr (.inr e)
      · by_cases hjk : j = k
        · subst hjk
          have := ht.1
          rw [hto.1] at this
          injection this with this
          subst this
          rw [hg] at hgo
          injection hgo with hgo
          subst hgo
          exact hno
        · exact h.fail j o st2 (by omega) hto hgo
end
end Go.Proofs.Ytajbagdgjbihjaa
