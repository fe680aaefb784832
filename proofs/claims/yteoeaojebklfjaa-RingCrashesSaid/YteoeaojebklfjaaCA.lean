/- A ring behind a crash, plainly. No program. -/
import Derived.Test.YteoeaojebklfjaaI7
import Derived.Test.YteoeaojebklfjaaD5
import Derived.Test.YteoeaojebklfjaaJ3
import Derived.Test.YteoeaojebklfjaaK2
namespace Go.Proofs.Yteoeaojebklfjaa
set_option linter.unusedVariables false

/-- of a list of pieces those stand that pre says -/
structure Part (count : Nat) (g : Nat → Sec) (base : Nat) (P : List Pc) (pre : Nat → Bool) : Prop where
  len : P.length ≤ count
  num : ∀ j (h : j < P.length), P[j].n = base + 1 + j ∧ P[j].Ok
  has : ∀ j (h : j < P.length), pieceG count g (base + 1 + j) = if pre j then some P[j] else none
  le : ∀ i p, i < count → seeG count g i = some p → p.n ≤ base + P.length
section
variable {count base : Nat} {g : Nat → Sec} {P ps qs : List Pc} {pre pre' : Nat → Bool}
theorem Part.ext (h : Part count g base P pre) (he : ∀ j, j < P.length → pre j = pre' j) : Part count g base P pre' :=
  ⟨h.len, h.num, fun j hj => by rw [h.has j hj, he j hj], h.le⟩
theorem Part.of_holds (H : Holds count g base ps) (hc : 1 ≤ count) (hl : (ps ++ qs).length ≤ count) (hn : ∀ j (h : j < (ps ++ qs).length), (ps ++ qs)[j].n = base + 1 + j ∧ (ps ++ qs)[j].Ok) : Part count g base (ps ++ qs) (fun j => decide (j < ps.length)) := by
  refine ⟨hl, hn, fun j hj => ?_, fun i p hi hp => ?_⟩
  · by_cases h : j < ps.length
    · rw [if_pos (by simpa using h), H.has j h, List.getElem_append_left h]
    · rw [if_neg (by simpa using h)]
      cases e : pieceG count g (base + 1 + j) with
      | none => rfl
      | some p =>
        have h1 := pieceG_some e
        have := H.le _ p (Nat.mod_lt _ (by omega)) (seeG_self e)
        omega
  · have := H.le i p hi hp
    rw [List.length_append]
    omega
theorem Part.put (h : Part count g base P pre) {j0 : Nat} (hj : j0 < P.length) : Part count (setG g (P[j0].n % count) P[j0].lay) base P (fun j => pre j || decide (j = j0)) := by
  obtain ⟨hn, ok⟩ := h.num j0 hj
  have hl := h.len
  refine ⟨h.len, h.num, fun j hjl => ?_, fun i p hi hp => ?_⟩
  · by_cases e : j = j0
    · subst e
      rw [if_pos (by simp), ← hn, pieceG_same ok]
    · rw [pieceG_other (by
        rw [hn]
        rcases Nat.lt_or_gt_of_ne e with h1 | h1
        · exact mod_apart (by omega) (by omega)
        · exact fun e => mod_apart (a := base + 1 + j0) (b := base + 1 + j) (by omega) (by omega) e.symm), h.has j hjl]
      simp [e]
  · by_cases e : i = P[j0].n % count
    · subst e
      rw [seeG_same ok] at hp
      injection hp with hp
      subst hp
      omega
    · rw [seeG_other e] at hp
      exact h.le i p hi hp
/-- the chain of what stands -/
theorem Part.chain (h : Part count g base P pre) (hc : 1 ≤ count) {a : Nat} (ha : a ≤ P.length) (hp : ∀ j, j < a → pre j = true) : ∃ t, a ≤ t ∧ t ≤ P.length ∧ chainG count g count base = P.take t := by
  have hl := h.len
  have hat : ∀ j (hj : j < (chainG count g count base).length), ∃ hj2 : j < P.length, (chainG count g count base)[j] = P[j] := fun j hj => by
    have h1 := chainG_at (count := count) (g := g) count base j hj
    have hjl : j < P.length := by
      have h2 := pieceG_some h1
      have := h.le _ _ (Nat.mod_lt _ (by omega)) (seeG_self h1)
      omega
    rw [h.has j hjl] at h1
    split at h1
    · injection h1 with h1
      exact ⟨hjl, h1.symm⟩
    · cases h1
  obtain ⟨qs, hq⟩ := chainG_of (count := count) (g := g) (P.take a) count base (fun j hj => by
    have hj' : j < a := by simp at hj; omega
    rw [h.has j (by omega), if_pos (hp j hj'), List.getElem_take]) (by simp; omega)
  refine ⟨(chainG count g count base).length, ?_, ?_, ?_⟩
  · rw [hq]; simp; omega
  · cases e : (chainG count g count base).length with
    | zero => omega
    | succ k =>
      obtain ⟨h1, _⟩ := hat k (by omega)
      omega
  · refine List.ext_getElem ?_ fun j h1 h2 => ?_
    · rw [List.length_take]
      cases e : (chainG count g count base).length with
      | zero => omega
      | succ k =>
        obtain ⟨h1, _⟩ := hat k (by omega)
        omega
    · obtain ⟨_, e⟩ := hat j h1
      rw [e, List.getElem_take]
end

/-- sectors, from one on -/
def gL (first : Nat) (L : List Sec) : Nat → Sec := fun i => L.getD (first + i) []
/-- a piece, where it belongs -/
def wr (first count : Nat) (p : Pc) : Nat × Sec := (first + p.n % count, p.lay)
theorem gL_set {first i : Nat} {L : List Sec} {s : Sec} (h : first + i < L.length) : gL first (L.set (first + i) s) = setG (gL first L) i s := by
  funext k
  unfold gL setG
  by_cases e : k = i
  · subst e
    rw [if_pos rfl, List.getD_eq_getElem?_getD, List.getElem?_set_self h]; rfl
  · rw [if_neg e, List.getD_eq_getElem?_getD, List.getElem?_set_ne (by omega), ← List.getD_eq_getElem?_getD]
theorem part_settle {count first base a : Nat} {P : List Pc} {kp : Nat → Bool} {L : List Sec} (hc : 1 ≤ count) (hfit : first + count ≤ L.length) (h : Part count (gL first L) base P (fun j => decide (j < a))) : ∀ k, a + k ≤ P.length → Part count (gL first (settle kp 0 (((P.drop a).take k).map (wr first count)) L)) base P (fun j => decide (j < a) || (decide (a ≤ j ∧ j < a + k) && kp (j - a)))
  | 0, _ => by
    rw [List.take_zero, List.map_nil, settle]
    exact h.ext fun j hj => by
      by_cases h1 : j < a
      · simp [h1]
      · simp [h1]
  | k + 1, hk => by
    have ih := part_settle (kp := kp) hc hfit h k (by omega)
    have hlt : k < (P.drop a).length := by rw [List.length_drop]; omega
    have hlen : ((((P.drop a).take k).map (wr first count))).length = k := by rw [List.length_map, List.length_take]; omega
    rw [take_snoc' hlt, List.map_append, List.map_cons, List.map_nil, settle_snoc, hlen, Nat.zero_add, List.getElem_drop]
    by_cases e : kp k = true
    · rw [if_pos e]
      have h1 := ih.put (j0 := a + k) (by omega)
      have hm := Nat.mod_lt P[a + k].n (show count > 0 by omega)
      rw [show (wr first count P[a + k]).1 = first + P[a + k].n % count from rfl, show (wr first count P[a + k]).2 = P[a + k].lay from rfl, gL_set (by rw [settle_length]; omega)]
      refine h1.ext fun j hj => ?_
      rw [Bool.eq_iff_iff]
      simp only [Bool.or_eq_true, Bool.and_eq_true, decide_eq_true_eq]
      constructor
      · rintro ((h2 | ⟨h2, h3⟩) | rfl)
        · exact Or.inl h2
        · exact Or.inr ⟨⟨h2.1, by omega⟩, h3⟩
        · exact Or.inr ⟨⟨by omega, by omega⟩, by rw [Nat.add_sub_cancel_left]; exact e⟩
      · rintro (h2 | ⟨h2, h3⟩)
        · exact Or.inl (Or.inl h2)
        · by_cases e2 : j = a + k
          · exact Or.inr e2
          · exact Or.inl (Or.inr ⟨⟨h2.1, by omega⟩, h3⟩)
    · rw [if_neg e]
      refine ih.ext fun j hj => ?_
      rw [Bool.eq_iff_iff]
      simp only [Bool.or_eq_true, Bool.and_eq_true, decide_eq_true_eq]
      constructor
      · rintro (h2 | ⟨h2, h3⟩)
        · exact Or.inl h2
        · exact Or.inr ⟨⟨h2.1, by omega⟩, h3⟩
      · rintro (h2 | ⟨h2, h3⟩)
        · exact Or.inl h2
        · refine Or.inr ⟨⟨h2.1, ?_⟩, h3⟩
          by_cases e2 : j = a + k
          · subst e2
            rw [Nat.add_sub_cancel_left] at h3
            exact absurd h3 e
          · omega

/-! ### whole records -/
def Whole (ps : List Pc) : Prop := ∀ qs, grp (ps ++ qs) [] = grp ps [] ++ grp qs []
theorem whole_nil : Whole [] := fun qs => rfl
theorem grp_mid {p : Pc} (hp : p.last = true) (qs : List Pc) : ∀ (ps : List Pc) (now : Rec), grp (ps ++ p :: qs) now = grp (ps ++ [p]) now ++ grp qs []
  | [], now => by simp [grp, hp]
  | q :: ps, now => by
    simp only [List.cons_append, grp]
    split
    · rw [grp_mid hp qs ps]; rfl
    · exact grp_mid hp qs ps _
theorem whole_end {ps : List Pc} {p : Pc} (hp : p.last = true) : Whole (ps ++ [p]) := fun qs => by
  rw [List.append_assoc]
  exact grp_mid hp qs ps []
theorem whole_cut {P : List Pc} (h : Whole P) (l : Nat) (rec : Rec) : Whole (P ++ cutR l rec) ∧ grp (P ++ cutR l rec) [] = grp P [] ++ [rec] := by
  have e : grp (cutR l rec) [] = [rec] := by
    have := grp_cut l rec []
    rw [List.append_nil] at this
    exact this
  refine ⟨fun qs => ?_, by rw [h, e]⟩
  rw [List.append_assoc, h, grp_cut, h, e, List.append_assoc]
  rfl
theorem lastN_le {base : Nat} : ∀ (ps : List Pc) (a : Nat), (∀ j (h : j < ps.length), ps[j].n = a + 1 + j) → base ≤ a → lastN ps base ≤ a + ps.length
  | [], a, _, h => h
  | p :: ps, a, hn, h => by
    have h0 := hn 0 (by simp)
    simp only [List.getElem_cons_zero] at h0
    simp only [lastN]
    have h1 : ∀ j (h : j < ps.length), ps[j].n = a + 1 + 1 + j := fun j hj => by
      have := hn (j + 1) (by simpa using hj)
      simp only [List.getElem_cons_succ] at this
      omega
    have h2 := lastN_le (base := if p.last then p.n else base) ps (a + 1) h1 (by split <;> omega)
    rw [List.length_cons]
    omega
theorem whole_last {base : Nat} {ps : List Pc} (hn : ∀ j (h : j < ps.length), ps[j].n = base + 1 + j) (h : lastN ps base = base + ps.length) : Whole ps := by
  rcases List.eq_nil_or_concat ps with rfl | ⟨qs, p, rfl⟩
  · exact whole_nil
  · rw [List.concat_eq_append] at *
    cases hp : p.last
    · rw [lastN_append] at h
      simp only [lastN, hp] at h
      have := lastN_le (base := base) qs base (fun j hj => by
        have := hn j (by simp; omega)
        rw [List.getElem_append_left hj] at this
        exact this) (Nat.le_refl _)
      simp at h
      omega
    · exact whole_end hp
/-- a beginning of pieces tells a beginning of records -/
theorem grp_take (P : List Pc) {a t : Nat} (h : a ≤ t) : (∃ ts, grp (P.take a) [] ++ ts = grp (P.take t) []) ∧ ∃ ts, grp (P.take t) [] ++ ts = grp P [] := by
  constructor
  · have e : P.take t = P.take a ++ (P.take t).drop a := by
      have := (List.take_append_drop a (P.take t)).symm
      rwa [List.take_take, Nat.min_eq_left h] at this
    obtain ⟨m, hm⟩ := grp_append (P.take a) ((P.take t).drop a) []
    exact ⟨_, by rw [← hm, ← e]⟩
  · obtain ⟨m, hm⟩ := grp_append (P.take t) (P.drop t) []
    exact ⟨_, by rw [← hm, List.take_append_drop]⟩

/-! ### a disk on which pieces wait -/
structure Aw (first count base : Nat) (d : Dk) (P : List Pc) (a : Nat) : Prop where
  one : 1 ≤ count
  num : ∀ j (h : j < P.length), P[j].n = base + 1 + j ∧ P[j].Ok
  fit : P.length ≤ count
  upto : a ≤ P.length
  last : Holds count (gL first d.lasts) base (P.take a)
  waits : d.waits = (P.drop a).map (wr first count)
  len : first + count ≤ d.lasts.length
/-- a disk behind a crash -/
structure Gone (first count base : Nat) (L : List Sec) (P : List Pc) (a : Nat) : Prop where
  one : 1 ≤ count
  chain : ∃ t, a ≤ t ∧ t ≤ P.length ∧ chainG count (gL first L) count base = P.take t
  le : ∀ i p, i < count → seeG count (gL first L) i = some p → p.n ≤ base + count
  len : first + count ≤ L.length
section
variable {first count base a : Nat} {d : Dk} {P : List Pc}
theorem Aw.settled (h : Aw first count base d P a) (kp : Nat → Bool) : Part count (gL first (settle kp 0 d.waits d.lasts)) base P (fun j => decide (j < a) || (decide (a ≤ j ∧ j < P.length) && kp (j - a))) := by
  have h0 := h.upto
  have hta : (P.take a).length = a := by rw [List.length_take]; omega
  have h1 : Part count (gL first d.lasts) base (P.take a ++ P.drop a) (fun j => decide (j < (P.take a).length)) := Part.of_holds h.last h.one (by rw [List.take_append_drop]; exact h.fit) (by
    have := h.num
    simp only [List.take_append_drop]
    exact this)
  rw [List.take_append_drop, hta] at h1
  have h2 := part_settle (kp := kp) h.one h.len h1 (P.length - a) (by omega)
  rw [List.take_of_length_le (by rw [List.length_drop]; exact Nat.le_refl _), ← h.waits, show a + (P.length - a) = P.length by omega] at h2
  exact h2
theorem Aw.crash (h : Aw first count base d P a) (kp : Nat → Bool) : Gone first count base (settle kp 0 d.waits d.lasts) P a := by
  have h1 := h.settled kp
  refine ⟨h.one, h1.chain h.one h.upto fun j hj => by simp [hj], fun i p hi hp => ?_, by rw [settle_length]; exact h.len⟩
  have := h1.le i p hi hp
  have := h.fit
  omega
theorem Gone.more {L : List Sec} {qs : List Pc} (h : Gone first count base L P a) : Gone first count base L (P ++ qs) a := by
  obtain ⟨t, h1, h2, h3⟩ := h.chain
  exact ⟨h.one, ⟨t, h1, by rw [List.length_append]; omega, by rw [h3, List.take_append_of_le_length h2]⟩, h.le, h.len⟩
theorem Aw.flushed (h : Aw first count base d P a) : Aw first count base d.tick.flushed P P.length := by
  have h1 := h.settled fun _ => true
  refine ⟨h.one, h.num, h.fit, Nat.le_refl _, ⟨fun j hj => ?_, fun i p hi hp => ?_⟩, ?_, ?_⟩
  · have hj' : j < P.length := by simpa using hj
    have := h1.has j hj'
    rw [if_pos (by simp; omega)] at this
    rw [List.getElem_take]
    exact this
  · have := h1.le i p hi hp
    rw [List.take_length]
    exact this
  · rw [List.drop_length]; rfl
  · show first + count ≤ (settle _ 0 d.waits d.lasts).length
    rw [settle_length]; exact h.len
theorem Aw.wrote (h : Aw first count base d P a) {p : Pc} (hn : p.n = base + 1 + P.length) (ok : p.Ok) (hf : P.length < count) : Aw first count base (d.wrote (first + p.n % count) p.lay) (P ++ [p]) a := by
  have h0 := h.upto
  refine ⟨h.one, fun j hj => ?_, by rw [List.length_append, List.length_singleton]; omega, by rw [List.length_append]; omega, ?_, ?_, h.len⟩
  · by_cases e : j < P.length
    · rw [List.getElem_append_left e]; exact h.num j e
    · have e2 : j = P.length := by simp at hj; omega
      subst e2
      simp [hn, ok]
  · rw [List.take_append_of_le_length h0]; exact h.last
  · show d.waits ++ [_] = _
    rw [h.waits, List.drop_append_of_le_length h0, List.map_append]; rfl
theorem Aw.puts {pl : Nat → Nat} (hpl : ∀ n, pl n = first + n % count) : ∀ (qs : List Pc) (d : Dk) (P : List Pc), Aw first count base d P a → (∀ j (h : j < qs.length), qs[j].n = base + 1 + P.length + j ∧ qs[j].Ok) → P.length + qs.length ≤ count →
    ∃ d' ok, Dk.puts pl qs d = (d', ok) ∧ if ok then Aw first count base d' (P ++ qs) a ∧ d'.dead = d.dead else Gone first count base d'.lasts (P ++ qs) a ∧ d'.dead = true
  | [], d, P, h, _, _ => ⟨d, true, rfl, by rw [List.append_nil]; exact ⟨h, rfl⟩⟩
  | q :: qs, d, P, h, hq, hl => by
    obtain ⟨hn, ok⟩ := hq 0 (by simp)
    simp only [List.getElem_cons_zero, Nat.add_zero] at hn ok
    have h1 := h.wrote hn ok (by simp at hl; omega)
    rw [← hpl] at h1
    unfold Dk.puts
    cases hd : d.due with
    | true =>
      have e : d.write (pl q.n) q.lay = (d.wrote (pl q.n) q.lay).crashed d.keep := by unfold Dk.write; rw [hd]; rfl
      refine ⟨_, false, rfl, ?_⟩
      rw [if_neg (by decide), e]
      refine ⟨?_, rfl⟩
      have h2 := (h1.crash (kept d.keep)).more (qs := qs)
      rw [List.append_assoc] at h2
      exact h2
    | false =>
      have e : d.write (pl q.n) q.lay = (d.wrote (pl q.n) q.lay).tick := by unfold Dk.write; rw [hd]; rfl
      have h2 : Aw first count base (d.write (pl q.n) q.lay) (P ++ [q]) a := by
        rw [e]
        exact ⟨h1.one, h1.num, h1.fit, h1.upto, h1.last, h1.waits, h1.len⟩
      obtain ⟨d', ok', h3, h4⟩ := Aw.puts hpl qs _ _ h2 (fun j hj => by
        have := hq (j + 1) (by simpa using hj)
        simp only [List.getElem_cons_succ] at this
        rw [List.length_append, List.length_singleton]
        exact ⟨by omega, this.2⟩) (by rw [List.length_append]; simp at hl ⊢; omega)
      refine ⟨d', ok', h3, ?_⟩
      rw [List.append_assoc, show (d.write (pl q.n) q.lay).dead = d.dead by rw [e]; rfl] at h4
      exact h4
theorem puts_few (pl : Nat → Nat) : ∀ (qs : List Pc) (d : Dk) (n : Nat), d.Few n → (Dk.puts pl qs d).1.Few (n + qs.length)
  | [], d, n, h => h
  | q :: qs, d, n, h => by
    have h1 := h.write (pl q.n) q.lay
    unfold Dk.puts
    rw [List.length_cons]
    split
    · exact h1.mono (by omega)
    · rw [show n + (qs.length + 1) = n + 1 + qs.length by omega]
      exact puts_few pl qs _ _ h1
theorem puts_len (pl : Nat → Nat) : ∀ (qs : List Pc) (d : Dk), (Dk.puts pl qs d).1.lasts.length = d.lasts.length
  | [], d => rfl
  | q :: qs, d => by
    have h1 : (d.write (pl q.n) q.lay).lasts.length = d.lasts.length := by
      unfold Dk.write
      split
      · exact settle_length _ _ _ _
      · rfl
    unfold Dk.puts
    split
    · exact h1
    · rw [puts_len pl qs, h1]
/-- opened again: nothing is torn -/
theorem Gone.next (h : Gone first count base d.lasts P a) (hw : d.waits = []) (ht : topG count (gL first d.lasts) base count ≤ lastN (chainG count (gL first d.lasts) count base) base) : Whole (chainG count (gL first d.lasts) count base) ∧ Aw first count base d (chainG count (gL first d.lasts) count base) (chainG count (gL first d.lasts) count base).length ∧ lastN (chainG count (gL first d.lasts) count base) base = base + (chainG count (gL first d.lasts) count base).length := by
  have hone := h.one
  have hn : ∀ j (hj : j < (chainG count (gL first d.lasts) count base).length), (chainG count (gL first d.lasts) count base)[j].n = base + 1 + j ∧ (chainG count (gL first d.lasts) count base)[j].Ok := fun j hj => by
    have h1 := chainG_at (count := count) (g := gL first d.lasts) count base j hj
    exact ⟨(pieceG_some h1).2, seeG_ok (seeG_self h1)⟩
  have hle := lastN_le (base := base) (chainG count (gL first d.lasts) count base) base (fun j hj => (hn j hj).1) (Nat.le_refl _)
  have hall : ∀ i p, i < count → seeG count (gL first d.lasts) i = some p → p.n ≤ topG count (gL first d.lasts) base count := fun i p hi hp => topG_ge hp count hi
  have heq : lastN (chainG count (gL first d.lasts) count base) base = base + (chainG count (gL first d.lasts) count base).length := by
    cases e : (chainG count (gL first d.lasts) count base).length with
    | zero =>
      have := List.eq_nil_of_length_eq_zero e
      rw [this]; rfl
    | succ k =>
      have h1 := chainG_at (count := count) (g := gL first d.lasts) count base k (by omega)
      have h2 := hall _ _ (Nat.mod_lt _ (by omega)) (seeG_self h1)
      have h3 := (hn k (by omega)).1
      omega
  refine ⟨whole_last (fun j hj => (hn j hj).1) heq, ⟨hone, hn, chainG_len _ _, Nat.le_refl _, ⟨fun j hj => ?_, fun i p hi hp => ?_⟩, by rw [hw, List.drop_length]; rfl, h.len⟩, heq⟩
  · have hj' : j < (chainG count (gL first d.lasts) count base).length := by simpa using hj
    rw [chainG_at count base j hj', List.getElem_take]
  · rw [List.take_length]
    have := hall i p hi hp
    omega
/-- ... emptied -/
theorem Gone.fresh (h : Gone first count base d.lasts P a) (hw : d.waits = []) : Aw first count (topG count (gL first d.lasts) base count) d [] 0 ∧ topG count (gL first d.lasts) base count ≤ base + count :=
  ⟨⟨h.one, fun j hj => absurd hj (by simp), Nat.zero_le _, Nat.le_refl _, ⟨fun j hj => absurd hj (by simp), fun i p hi hp => by
    have := topG_ge (base := base) hp count hi
    simpa using this⟩, by rw [hw]; rfl, h.len⟩, topG_upto (by omega) h.le count (Nat.le_refl _)⟩
end
end Go.Proofs.Yteoeaojebklfjaa
namespace Go.Proofs.Yteoeaojebklfjaa
open Go.RowKit Go.Maps
set_option linter.unusedVariables false

/-- records that may be read; all blocks are P's -/
structure Tells (w : World) (P : Nat → Prop) (v : Value) (rs : List Rec) : Prop where
  own : ∀ k, v.ownBlock = some k → k < w.heap.size ∧ P k
  rows : ∃ xs : List Value, Rd w 1 v rs.length xs ∧ ∀ (j : Nat) (hj : j < rs.length), ∃ x, xs[j]? = some x ∧ Rd w 1 x rs[j].length (bv rs[j]) ∧ ∀ k, x.ownBlock = some k → k < w.heap.size ∧ P k
section
variable {w w' : World} {P P' S : Nat → Prop} {v : Value} {rs : List Rec}
theorem Recs.tells (h : Recs w P v rs) : Tells w P v rs := by
  obtain ⟨h1, xs, h2, h3⟩ := h
  refine ⟨fun k hk => ⟨h2.lt hk, h1 k hk⟩, xs, h2.rd, fun j hj => ?_⟩
  obtain ⟨x, a, b, c⟩ := h3 j hj
  exact ⟨x, a, b.rd, fun k hk => ⟨b.lt hk, (c k hk).1⟩⟩
theorem Tells.mono (h : Tells w P v rs) (hp : ∀ k, k < w.heap.size → P k → P' k) : Tells w P' v rs := by
  obtain ⟨h1, xs, h2, h3⟩ := h
  refine ⟨fun k hk => ⟨(h1 k hk).1, hp k (h1 k hk).1 (h1 k hk).2⟩, xs, h2, fun j hj => ?_⟩
  obtain ⟨x, a, b, c⟩ := h3 j hj
  exact ⟨x, a, b, fun k hk => ⟨(c k hk).1, hp k (c k hk).1 (c k hk).2⟩⟩
theorem Tells.only (h : Tells w P v rs) (o : Only S w w') (hn : ∀ k, P k → ¬ S k) : Tells w' P v rs := by
  obtain ⟨h1, xs, h2, h3⟩ := h
  have hs := o.size
  refine ⟨fun k hk => ⟨Nat.lt_of_lt_of_le (h1 k hk).1 hs, (h1 k hk).2⟩, xs, h2.only o fun _ k hk _ => hn k (h1 k hk).2, fun j hj => ?_⟩
  obtain ⟨x, a, b, c⟩ := h3 j hj
  exact ⟨x, a, b.only o fun _ k hk _ => hn k (c k hk).2, fun k hk => ⟨Nat.lt_of_lt_of_le (c k hk).1 hs, (c k hk).2⟩⟩
theorem Tells.drewN (h : Tells w P v rs) (q : Nat) : Tells (w.drewN q) P v rs := h.only ((Only.refl None' w).drewN q) fun _ _ e => e
theorem Tells.nil (w : World) (P : Nat → Prop) : Tells w P (.slice none 0 0) [] := (Recs.nil w P).tells
theorem Tells.shape (h : Tells w P v rs) : ∃ a c, v = .slice a rs.length c ∧ rs.length ≤ c ∧ c ≤ maxLen := by
  obtain ⟨_, xs, h2, _⟩ := h
  rcases h2.form with ⟨e, e2⟩ | ⟨ad, c, e, h3, h4, _⟩
  · exact ⟨none, 0, by rw [e, e2], by omega, Nat.zero_le _⟩
  · exact ⟨_, _, e, h3, h4⟩
theorem Tells.size (h : Tells w P v rs) : rs.length ≤ maxLen := by
  obtain ⟨a, c, _, h3, h4⟩ := h.shape
  omega
theorem Tells.at_ (h : Tells w P v rs) {j : Nat} (hj : j < rs.length) : ∃ g off c x, v = .slice (some ⟨g, off, none⟩) rs.length c ∧ w.cell? ⟨g, off + j, none⟩ = some x ∧ Rd w 1 x rs[j].length (bv rs[j]) := by
  obtain ⟨_, xs, h2, h3⟩ := h
  obtain ⟨x, a, b, _⟩ := h3 j hj
  obtain ⟨g, off, c, e, _, h4⟩ := h2.at_ (by omega)
  exact ⟨g, off, c, x, e, h4 j x a, b⟩
/-- the first ones -/
theorem Tells.take {a : Option Addr} {n c m : Nat} (h : Tells w P (.slice a n c) rs) (hm : m ≤ rs.length) : Tells w P (.slice a m c) (rs.take m) := by
  obtain ⟨h1, xs, h2, h3⟩ := h
  have hl := h2.len
  refine ⟨fun k hk => h1 k (by cases a <;> exact hk), xs.take m, ⟨by simp; omega, ?_⟩, fun j hj => ?_⟩
  · rcases h2.form with ⟨e, e2⟩ | ⟨ad, cap, e, h4, h5, h6⟩
    · injection e with e1 e3 e4
      subst e1 e4
      have hm0 : m = 0 := by omega
      subst hm0
      exact .inl ⟨rfl, by simp⟩
    · injection e with e1 e3 e4
      subst e1 e4
      refine .inr ⟨ad, c, ?_, by rw [List.length_take]; omega, h5, fun j u hu => ?_⟩
      · rw [List.length_take, Nat.min_eq_left hm]
      · refine h6 j u ?_
        rw [List.getElem?_take] at hu
        split at hu
        · exact hu
        · cases hu
  · have hj' : j < m ∧ j < rs.length := by simp at hj; omega
    obtain ⟨x, a1, b1, c1⟩ := h3 j hj'.2
    refine ⟨x, by rw [List.getElem?_take_of_lt hj'.1]; exact a1, ?_, c1⟩
    rw [List.getElem_take]
    exact b1
end
theorem conv_rd {w : World} {x : Value} {s : Sec} (h : Rd w 1 x s.length (bv s)) : (convert 34 9 x).run Try.prog w = .ok (.string ⟨s.toArray⟩) w := by
  rcases h.form with ⟨rfl, h0⟩ | ⟨ad, cap, rfl, _, _, hc⟩
  · have : s = [] := List.eq_nil_of_length_eq_zero h0
    subst this
    exact conv_nil w
  · exact run_convert_bytes_back (P := Try.prog) w 34 9 5 ad cap s Try.underlying34 Try.underlying5 Try.underlying9 (fun j hj => hc j _ (by simp [bv, List.getElem?_eq_getElem hj]))

set_option maxRecDepth 20000 in
set_option maxHeartbeats 2000000 in
theorem same_tells {w : World} {P P' : Nat → Prop} {v v' : Value} {rs : List Rec} (h : Tells w P v rs) (h' : Tells w P' v' rs) : Calls Try.prog 42 #[v, v'] w fun e w' => e = .returned (.bool true) ∧ ∃ q, w' = w.drewN q := by
  obtain ⟨a, c, rfl, _⟩ := h.shape
  obtain ⟨a', c', rfl, _⟩ := h'.shape
  have hsz := h.size
  obtain ⟨n, hn⟩ : ∃ n, n = rs.length := ⟨_, rfl⟩
  have H1 := Lib.hid h
  have H2 := Lib.hid h'
  have HS := Lib.hid hsz
  have HN := Lib.hid hn
  rw [← hn]
  have HM := Lib.hid (show n ≤ maxLen by rw [hn]; exact hsz)
  clear h h' hsz hn
  go_enter Try.func42, Try.ntmps42
  go_wp2_with fail
  go_loopw [5] (fun i wr => ∃ (k q : Nat), k ≤ n ∧ i = .int .i64 (k : Int) ∧ Hid (wr = w.drewN q)) (fun i wr => n - (intOf i).toNat)
  case atStart => exact ⟨0, 0, by omega, rfl, rfl⟩
  case round =>
    obtain ⟨k, q, hk, rfl, HW⟩ := hrel
    by_cases hlt : k < n
    · have hj : k < rs.length := by have := HN.out; omega
      have e1 := H1.out
      have e2 := H2.out
      obtain ⟨g, off, c1, x, ea, hx, vx⟩ := (e1.drewN (q + 1)).at_ hj
      obtain ⟨g', off', c2, x', ea', hx', vx'⟩ := (e2.drewN (q + 1)).at_ hj
      rw [← HN.out] at ea ea'
      injection ea with ea _ ec
      injection ea' with ea' _ ec'
      subst ea ea' ec ec'
      have hwr : wr.drew = w.drewN (q + 1) := by rw [HW.out]; rfl
      rw [← hwr] at hx hx' vx vx'
      obtain ⟨s, hs⟩ : ∃ s : ByteArray, s = ⟨rs[k].toArray⟩ := ⟨_, rfl⟩
      have cv := conv_rd vx
      have cv' := conv_rd vx'
      rw [← hs] at cv cv'
      have i0 : (0 : Int) ≤ (k : Int) := by omega
      have i1 : (k : Int) < (n : Int) := by omega
      obtain ⟨wd, hwd⟩ : ∃ wd, wd = wr.drew := ⟨_, rfl⟩
      rw [← hwd] at hx hx' cv cv'
      have HWD := Lib.hid hwd
      have HWR := Lib.hid hwr
      clear e1 e2 vx vx' hs hwd hwr hj
      go_wp2_with fail
      refine wp_region_still_lit (by kernel_rfl) (by kernel_rfl) ?_
      change wpStill _ _ wr.drew _ _ _
      rw [← HWD.out]
      still_step
      still_step
      still_step
      still_step
      refine wpStill_convert 34 9 _ rfl (by rfl) _ _ rfl cv ?_
      simp only [Act.put, List.setIfInBounds_toArray, List.set_cons_zero, List.set_cons_succ]
      still_step
      still_step
      still_step
      still_step
      refine wpStill_convert 34 9 _ rfl (by rfl) _ _ rfl cv' ?_
      simp only [Act.put, List.setIfInBounds_toArray, List.set_cons_zero, List.set_cons_succ]
      still_step
      refine wpStill_nil ?_
      go_wp2_with fail
      go_roundw
      case rel => exact ⟨k + 1, q + 1, by omega, next_len hlt HM.out, HWR⟩
      case measure => exact meas_len hlt HM.out
    · obtain rfl : k = n := by omega
      go_wp2_with fail
      go_ret
      exact ⟨rfl, q, HW.out⟩
/-- a list begins with another one -/
theorem begins_any {w : World} {P P' : Nat → Prop} {v v' : Value} {rs rs' : List Rec} (h : Tells w P v rs) (h' : Tells w P' v' rs') (hb : ∃ ts, rs' ++ ts = rs) : Calls Try.prog 55 #[v, v'] w fun e w' => e = .returned (.bool true) ∧ ∃ q, w' = w.drewN q := by
  obtain ⟨a, c, rfl, hc1, hc2⟩ := h.shape
  obtain ⟨a', c', rfl, _⟩ := h'.shape
  obtain ⟨ts, rfl⟩ := hb
  have hm : rs'.length ≤ (rs' ++ ts).length := by rw [List.length_append]; omega
  have HT := h.take hm
  rw [List.take_left'  rfl] at HT
  have HS := Lib.hid (same_tells HT h')
  obtain ⟨n, hn⟩ : ∃ n, n = (rs' ++ ts).length := ⟨_, rfl⟩
  obtain ⟨m, hm'⟩ : ∃ m, m = rs'.length := ⟨_, rfl⟩
  rw [← hn] at hm hc1 ⊢
  rw [← hm'] at hm HS ⊢
  have d1 : decide ((m : Int) ≤ (n : Int)) = true := by simp; omega
  have d1' : decide (m ≤ n) = true := by simp; omega
  have i1 : (0 : Int) ≤ (m : Int) := by omega
  have i2 : (m : Int) ≤ (c : Int) := by omega
  cases a with
  | none =>
    have e0 : n = 0 ∧ c = 0 := by
      obtain ⟨_, xs, h2, _⟩ := h
      rcases h2.form with ⟨e, e2⟩ | ⟨ad, cap, e, _⟩
      · injection e with _ e3 e4
        exact ⟨by omega, e4⟩
      · cases e
    obtain ⟨e1, e2⟩ := e0
    have e3 : m = 0 := by omega
    subst e1 e2 e3
    clear h h' hn hm hm' HT hc1 hc2 d1 d1' i1 i2
    go_enter Try.func55, Try.ntmps55
    go_wp2_with fail
    refine HS.out.mono ?_
    rintro e w1 ⟨rfl, q, rfl⟩
    go_wp2_with fail
    go_ret
    exact ⟨rfl, q, rfl⟩
  | some ad =>
    clear h h' hn hm hm' HT hc1 hc2
    go_enter Try.func55, Try.ntmps55
    go_wp2_with fail
    refine HS.out.mono ?_
    rintro e w1 ⟨rfl, q, rfl⟩
    go_wp2_with fail
    go_ret
    exact ⟨rfl, q, rfl⟩
end Go.Proofs.Yteoeaojebklfjaa
namespace Go.Proofs.Yteoeaojebklfjaa
open Go.RowKit Go.Maps Go.WideShapes Go.ChangeShapes
set_option linter.unusedVariables false

/-- a cell's value is of its type's kind; rows of ints too -/
structure SuitsI (P : Program) (W : World) (t : TypeId) (v : Value) : Prop where
  int : ∀ k, P.underlying t = some (.int k) → ∃ n, v = .int k n ∧ (Lit.int k n).wf = true
  bool : P.underlying t = some .bool → ∃ b, v = .bool b
  row : ∀ e, P.underlying t = some (.slice e) → P.underlying e = some .bool → P.cellsOf e = 1 → ∃ l : List Bool, Rd W 1 v l.length (l.map Value.bool) ∧ l.length * P.bytesOf e ≤ reachBytes
  ints : ∀ e, P.underlying t = some (.slice e) → P.underlying e = some (.int .i64) → P.cellsOf e = 1 → ∃ l : List Int, Rd W 1 v l.length (l.map (Value.int .i64)) ∧ l.length * P.bytesOf e ≤ reachBytes

theorem open_flatI {H : Type} {P : Program} {enc : TypeId × Value → H} {W : World} {base : Nat} {t e : TypeId} {fs : Array Field} {v : Value} {d : DataW H} {ps : List MemPlace}
    (ht : P.underlying t = some (.slice e)) (he : P.underlying e = some (.struct fs)) (hone : Go.Deep.oneCellFields P fs = true) (hC : P.cellsOf e = fs.size)
    (hok : Value.okWide P W .any base t v) (hd : DataW.Trod enc P W 0 (fun _ => true) true t v d ps) (hw : ∀ n ∈ d.weights P t, n ≤ reachBytes) :
    ∃ a len cap, v = .slice a len cap ∧ len * P.bytesOf e ≤ reachBytes ∧ (∀ x, a = some x → x.spot = none ∧ x.block < W.heap.size) ∧
      ∀ j, j < len → ∃ b off, a = some ⟨b, off, none⟩ ∧ ∀ (i : Nat) (f : Field), fs[i]? = some f → ∃ u, W.cell? ⟨b, off + j * fs.size + i, none⟩ = some u ∧ SuitsI P W f.type u := by
  obtain ⟨fuel, hm⟩ := hd
  obtain ⟨a, len, cap, rfl⟩ := okWide_slice' ht hok
  rcases Go.Deep.open_slice ht hm with ⟨hcs, hx⟩ | ⟨x, l, c, m', n, D, Pl, hcs, hb, hl, hm', hmm, hx, hall⟩
  · simp [Value.cells] at hcs
    obtain ⟨rfl, rfl, rfl⟩ := hcs
    exact ⟨none, 0, 0, rfl, by omega, (fun x h => by cases h), fun j hj => by omega⟩
  · simp [Value.cells] at hcs
    obtain ⟨rfl, rfl, rfl⟩ := hcs
    obtain ⟨hs, hlt⟩ := okWide_lies ht hok
    obtain ⟨b, off, s⟩ := x
    simp only at hs hlt
    subst hs
    have hlm : len ≤ m' := by rw [hmm]; split <;> omega
    simp only [Prod.mk.injEq] at hx
    obtain ⟨hdx, -⟩ := hx
    have hww : ∀ n ∈ (len + (m' - len)) * P.bytesOf e :: (DataW.weightsAll P e ((List.range len).map D) ++ DataW.weightsAll P e ((List.range (m' - len)).map fun j => D (len + j))), n ≤ reachBytes := by
      rw [hdx] at hw
      simpa [DataW.weights, ht] using hw
    have hsz := hww _ (List.mem_cons_self ..)
    refine ⟨some ⟨b, off, none⟩, len, cap, rfl, Nat.le_trans (Nat.mul_le_mul_right _ (by omega)) hsz, (fun x h => by injection h with h; subst h; exact ⟨rfl, hlt⟩), fun j hj => ⟨b, off, rfl, fun i f hf => ?_⟩⟩
    obtain ⟨cs, h1, h2⟩ := hall j (by omega)
    rw [hC] at h1
    obtain ⟨ys, n', _, hy, hlen, hyl, hff⟩ := DataW.trod_struct he h2
    obtain ⟨ho, hk⟩ := Go.Deep.hone_of hone i f hf
    have hil : i < fs.size := (Array.getElem?_eq_some_iff.1 hf).1
    obtain ⟨_, hcl, hat⟩ := World.cells?_some h1
    have hcell := hat i hil
    have hil' : i < cs.length := by rw [hcl]; exact hil
    have hg := hff i f hf
    rw [ho, hk] at hg
    have hdrop : (cs.drop i).take 1 = [cs[i]] := by
      rw [List.drop_eq_getElem_cons hil']; rfl
    have hyi : ys[i]? = some (ys[i]'(by omega)) := List.getElem?_eq_getElem (by omega)
    rw [hdrop, hyi] at hg
    have hDj : D j = .agg (ys.map (·.1)) := by simp only [Prod.mk.injEq] at hy; exact hy.1
    have hwj : ∀ n ∈ (ys[i]'(by omega)).1.weights P f.type, n ≤ reachBytes := by
      intro n hn
      refine hww n (List.mem_cons_of_mem _ (List.mem_append_left _ (weights_all_mem (d := D j) (List.mem_map.2 ⟨j, List.mem_range.2 hj, rfl⟩) n ?_)))
      rw [hDj]
      have : n ∈ DataW.weightsEach P (fs.toList.map (·.type)) (ys.map (·.1)) := by
        refine DataW.weights_mem_each (j := i) (t := f.type) (d := (ys[i]'(by omega)).1) ?_ ?_ n hn
        · rw [List.getElem?_map, Array.getElem?_toList, hf]; rfl
        · rw [List.getElem?_map, hyi]; rfl
      simpa [DataW.weights, he] using this
    refine ⟨cs[i], ?_, ?_, ?_, ?_, ?_⟩
    · rw [List.getElem?_eq_getElem hil'] at hcell
      rw [← hcell]
      congr 1
      rw [Go.Deep.add_add]
      have aux : ∀ q : Nat, (⟨b, off, none⟩ : Addr).add q = ⟨b, off + q, none⟩ := fun q => by cases q <;> simp [Addr.add]
      rw [aux, Nat.add_assoc]
    · intro k hu
      obtain ⟨i0, q0, _, h4⟩ := DataW.trod_int hu hg
      simp at q0
      exact ⟨i0, q0, h4⟩
    · intro hu
      obtain ⟨b0, q0, _⟩ := DataW.trod_bool hu hg
      simp at q0
      exact ⟨b0, q0⟩
    · intro e' hu hb hce
      exact rd_bools hu hb hce hg hwj
    · intro e' hu hb hce
      exact rd_ints hu hb hce hg hwj

structure Rnd where
  lens : List Int
  lv : Value
  syncs : List Bool
  sv : Value
  fuse : Int
  keep : List Bool
  kv : Value
  empty : Bool

structure At5r (w : World) (b o : Nat) (s : Rnd) : Prop where
  k0 : w.cell? ⟨b, o, none⟩ = some s.lv
  k1 : w.cell? ⟨b, o + 1, none⟩ = some s.sv
  k2 : w.cell? ⟨b, o + 2, none⟩ = some (.int .i64 s.fuse)
  k3 : w.cell? ⟨b, o + 3, none⟩ = some s.kv
  k4 : w.cell? ⟨b, o + 4, none⟩ = some (.bool s.empty)
  rl : Rd w 1 s.lv s.lens.length (s.lens.map (Value.int .i64))
  rs : Rd w 1 s.sv s.syncs.length (bo s.syncs)
  rk : Rd w 1 s.kv s.keep.length (bo s.keep)
  ml : s.lens.length ≤ 140737488351232
  ms : s.syncs.length ≤ 140737488351232
  mkp : s.keep.length ≤ 140737488351232

structure Rnds (w : World) (a : Option Addr) (n : Nat) (ss : List Rnd) : Prop where
  len : ss.length = n
  at_ : ∀ j (hj : j < ss.length), ∃ b off, a = some ⟨b, off, none⟩ ∧ b < w.heap.size ∧ At5r w b (off + j * 5) ss[j]

noncomputable def fs89 : Array Field := match Try.prog.underlying 89 with
  | some (.struct fs) => fs
  | _ => #[]
theorem under89 : Try.prog.underlying 89 = some (.struct fs89) := by kernel_rfl
theorem hone89 : Go.Deep.oneCellFields Try.prog fs89 = true := by kernel_rfl
theorem cells89 : Try.prog.cellsOf 89 = fs89.size := by kernel_rfl
theorem size89 : fs89.size = 5 := by kernel_rfl
theorem under87 : Try.prog.underlying 87 = some (.slice 89) := by kernel_rfl
theorem f89 : (fs89.toList.map (·.type)) = [62, 23, 3, 23, 4] := by kernel_rfl
theorem f89at (i : Nat) (t : TypeId) (h : (fs89.toList.map (·.type))[i]? = some t) : ∃ f, fs89[i]? = some f ∧ f.type = t := by
  rw [List.getElem?_map, Array.getElem?_toList] at h
  cases hf : fs89[i]? with
  | none => rw [hf] at h; cases h
  | some f => rw [hf] at h; injection h with h; exact ⟨f, rfl, h⟩
theorem cellsOf3 : Try.prog.cellsOf 3 = 1 := by kernel_rfl
theorem bytesOf3 : Try.prog.bytesOf 3 = 8 := by kernel_rfl

set_option maxRecDepth 20000 in
theorem open_rnds {H : Type} {enc : TypeId × Value → H} {W : World} {base : Nat} {v : Value} {d : DataW H} {ps : List MemPlace}
    (hok : Value.okWide Try.prog W .any base 87 v) (hd : DataW.Trod enc Try.prog W 0 (fun _ => true) true 87 v d ps) (hw : ∀ n ∈ d.weights Try.prog 87, n ≤ reachBytes) :
    ∃ a len cap ss, v = .slice a len cap ∧ Rnds W a len ss := by
  obtain ⟨a, len, cap, rfl, hle, hb, hat⟩ := open_flatI under87 under89 hone89 cells89 hok hd hw
  have key : ∀ j, j < len → ∃ s : Rnd, ∃ b off, a = some ⟨b, off, none⟩ ∧ b < W.heap.size ∧ At5r W b (off + j * 5) s := by
    intro j hj
    obtain ⟨b, off, rfl, hf⟩ := hat j hj
    rw [size89] at hf
    obtain ⟨g0, e0, t0⟩ := f89at 0 62 (by rw [f89]; rfl)
    obtain ⟨g1, e1, t1⟩ := f89at 1 23 (by rw [f89]; rfl)
    obtain ⟨g2, e2, t2⟩ := f89at 2 3 (by rw [f89]; rfl)
    obtain ⟨g3, e3, t3⟩ := f89at 3 23 (by rw [f89]; rfl)
    obtain ⟨g4, e4, t4⟩ := f89at 4 4 (by rw [f89]; rfl)
    obtain ⟨u0, c0, s0⟩ := hf 0 g0 e0
    obtain ⟨u1, c1, s1⟩ := hf 1 g1 e1
    obtain ⟨u2, c2, s2⟩ := hf 2 g2 e2
    obtain ⟨u3, c3, s3⟩ := hf 3 g3 e3
    obtain ⟨u4, c4, s4⟩ := hf 4 g4 e4
    rw [t0] at s0; rw [t1] at s1; rw [t2] at s2; rw [t3] at s3; rw [t4] at s4
    obtain ⟨l0, r0, b0⟩ := s0.ints _ Try.underlying62 Try.underlying3 cellsOf3
    obtain ⟨l1, r1, b1⟩ := s1.row _ Try.underlying23 Try.underlying4 cells4
    obtain ⟨n2, rfl, _⟩ := s2.int _ Try.underlying3
    obtain ⟨l3, r3, b3⟩ := s3.row _ Try.underlying23 Try.underlying4 cells4
    obtain ⟨n4, rfl⟩ := s4.bool Try.underlying4
    rw [bytesOf3, reach_eq] at b0
    rw [bytes4, reach_eq, Nat.mul_one] at b1 b3
    exact ⟨⟨l0, u0, l1, u1, n2, l3, u3, n4⟩, b, off, rfl, (hb _ rfl).2, ⟨c0, c1, c2, c3, c4, r0, r1, r3, by show l0.length ≤ _; omega, b1, b3⟩⟩
  obtain ⟨ss, hl, hp⟩ := list_of _ len key
  exact ⟨a, len, cap, ss, rfl, ⟨hl, fun j hj => hp j hj⟩⟩
end Go.Proofs.Yteoeaojebklfjaa
