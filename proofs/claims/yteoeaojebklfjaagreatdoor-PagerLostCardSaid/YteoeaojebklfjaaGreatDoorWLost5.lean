/- X0 X1 X2 in one text. -/
import Derived.Test.YteoeaojebklfjaaGreatDoorV26
namespace Go.Proofs.YteoeaojebklfjaaGreatDoor
open Go.RowKit Go.Maps
set_option linter.unusedVariables false
structure Tw (N : Nat) (d e : Dk) : Prop where
  lasts : d.lasts = e.lasts
  waits : d.waits = e.waits
  done : d.done = e.done
  dead : d.dead = false
  left : d.set = true → (N : Int) ≤ d.left
  low : -d.done ≤ d.left
  high : d.left ≤ 9223372036854775807
  keep : d.keep.length ≤ 140737488351232
  ed : e.dead = false
  es : e.set = false
def Died (d : Dk) (L : List Sec) (ws : List (Nat × Sec)) : Prop := d.dead = true ∧ d.waits = [] ∧ ∃ kp, d.lasts = settle kp 0 ws L
theorem settle_none (kp : Nat → Bool) : ∀ (ws : List (Nat × Sec)) (k : Nat) (L : List Sec), (∀ j, k ≤ j → kp j = false) → settle kp k ws L = L
  | [], k, L, _ => rfl
  | p :: r, k, L, h => by
    rw [settle, h k (Nat.le_refl _)]
    exact settle_none kp r (k + 1) L fun j hj => h j (by omega)
theorem settle_more (kp : Nat → Bool) : ∀ (ws vs : List (Nat × Sec)) (k : Nat) (L : List Sec), settle (fun j => kp j && decide (j < k + ws.length)) k (ws ++ vs) L = settle kp k ws L
  | [], vs, k, L => by
    rw [List.nil_append, settle]
    exact settle_none _ _ _ _ fun j hj => by simp; intro _; omega
  | p :: r, vs, k, L => by
    rw [List.cons_append, settle, settle]
    have e : (kp k && decide (k < k + (p :: r).length)) = kp k := by rw [decide_eq_true (by rw [List.length_cons]; omega), Bool.and_true]
    rw [e, ← settle_more kp r vs (k + 1)]
    rw [show k + (p :: r).length = k + 1 + r.length by rw [List.length_cons]; omega]
theorem Died.more {d : Dk} {L : List Sec} {ws : List (Nat × Sec)} (h : Died d L ws) (vs : List (Nat × Sec)) : Died d L (ws ++ vs) := by
  obtain ⟨a, b, kp, c⟩ := h
  exact ⟨a, b, fun j => kp j && decide (j < 0 + ws.length), by rw [settle_more]; exact c⟩
section
variable {N : Nat} {d e : Dk}
theorem Tw.edue (t : Tw N d e) : e.due = false := by unfold Dk.due; rw [t.es]; rfl
theorem Tw.eerr (t : Tw N d e) : e.err = 0 := by unfold Dk.err; rw [t.edue]; rfl
theorem Tw.read (t : Tw N d e) (i : Nat) : d.read i = e.read i := by unfold Dk.read; rw [t.lasts, t.waits]
theorem Tw.gAt (t : Tw N d e) (first : Nat) : gAt first d = gAt first e := funext fun i => t.read _
theorem Tw.less (t : Tw N d e) {M : Nat} (h : M ≤ N) : Tw M d e := ⟨t.lasts, t.waits, t.done, t.dead, fun h' => by have := t.left h'; omega, t.low, t.high, t.keep, t.ed, t.es⟩
theorem Tw.few (t : Tw N d e) {n : Nat} (h : e.Few n) : d.Few n := by
  have h1 := h.done; have h2 := h.done0; have h3 := t.low; have h4 := t.done
  exact ⟨by rw [t.waits]; exact h.waits, by omega, by omega, by omega, t.high, t.keep⟩
theorem Tw.burns (t : Tw N d e) (h : d.due = true) : N = 0 := by
  unfold Dk.due at h
  rw [Bool.and_eq_true, decide_eq_true_eq] at h
  have := t.left h.1
  omega
theorem Tw.ticks (t : Tw N d e) (h : d.due = false) : Tw (N - 1) d.tick e.tick := by
  have h1 := t.low
  refine ⟨t.lasts, t.waits, by show d.done + 1 = e.done + 1; rw [t.done], t.dead, fun hs => ?_, by show -(d.done + 1) ≤ d.left - 1; omega, by show d.left - 1 ≤ _; have := t.high; omega, t.keep, t.ed, t.es⟩
  have h2 := t.left hs
  have h3 : d.left ≠ 0 := fun e => by
    have hs' : d.set = true := hs
    unfold Dk.due at h
    rw [hs', e] at h
    simp at h
  show ((N - 1 : Nat) : Int) ≤ d.left - 1
  omega
theorem Tw.wrote (t : Tw N d e) (i : Nat) (s : Sec) : Tw N (d.wrote i s) (e.wrote i s) := ⟨t.lasts, by show d.waits ++ _ = e.waits ++ _; rw [t.waits], t.done, t.dead, t.left, t.low, t.high, t.keep, t.ed, t.es⟩
theorem Tw.flushed (t : Tw N d e) : Tw N d.flushed e.flushed := ⟨by show settle _ 0 d.waits d.lasts = settle _ 0 e.waits e.lasts; rw [t.lasts, t.waits], rfl, t.done, t.dead, t.left, t.low, t.high, t.keep, t.ed, t.es⟩
theorem Tw.write (t : Tw N d e) (i : Nat) (s : Sec) : (d.due = false ∧ Tw (N - 1) (d.write i s) (e.write i s)) ∨ (N = 0 ∧ d.due = true ∧ Died (d.write i s) e.lasts (e.waits ++ [(i, s)])) := by
  cases h : d.due with
  | false =>
    refine .inl ⟨rfl, ?_⟩
    unfold Dk.write
    rw [h, t.edue]
    exact (t.wrote i s).ticks h
  | true =>
    refine .inr ⟨t.burns h, rfl, ?_⟩
    unfold Dk.write
    rw [h]
    refine ⟨rfl, rfl, kept d.keep, ?_⟩
    show settle (kept d.keep) 0 (d.waits ++ [(i, s)]) d.lasts = _
    rw [t.lasts, t.waits]
theorem Tw.flush (t : Tw N d e) : (d.due = false ∧ Tw (N - 1) d.flush e.flush) ∨ (N = 0 ∧ d.due = true ∧ Died d.flush e.lasts e.waits) := by
  cases h : d.due with
  | false =>
    refine .inl ⟨rfl, ?_⟩
    unfold Dk.flush
    rw [h, t.edue]
    exact (t.ticks h).flushed
  | true =>
    refine .inr ⟨t.burns h, rfl, ?_⟩
    unfold Dk.flush
    rw [h]
    refine ⟨rfl, rfl, kept d.keep, ?_⟩
    show settle (kept d.keep) 0 d.waits d.lasts = _
    rw [t.lasts, t.waits]
end
theorem un_write {e : Dk} (h : e.due = false) (i : Nat) (s : Sec) : (e.write i s).lasts = e.lasts ∧ (e.write i s).waits = e.waits ++ [(i, s)] := by
  unfold Dk.write
  rw [h]
  exact ⟨rfl, rfl⟩
theorem un_flush {e : Dk} (h : e.due = false) : e.flush.lasts = settle (fun _ => true) 0 e.waits e.lasts ∧ e.flush.waits = [] := by
  unfold Dk.flush
  rw [h]
  exact ⟨rfl, rfl⟩
def pageWs (first : Nat) (l : List (Nat × Sec)) : List (Nat × Sec) := l.map fun q => (first + q.1, q.2)
theorem Tw.layP (first : Nat) : ∀ (l : List (Nat × Sec)) {N : Nat} {d e : Dk}, Tw N d e → (∀ q ∈ l, first + q.1 < e.lasts.length) →
    ((layP first l d).1 = 0 ∧ (layP first l e).1 = 0 ∧ Tw (N - l.length) (layP first l d).2 (layP first l e).2 ∧ (layP first l e).2.lasts = e.lasts ∧ (layP first l e).2.waits = e.waits ++ pageWs first l) ∨ (N < l.length ∧ (layP first l d).1 = 20 ∧ Died (layP first l d).2 e.lasts (e.waits ++ pageWs first l))
  | [], N, d, e, t, _ => .inl ⟨rfl, rfl, t, rfl, (List.append_nil _).symm⟩
  | q :: l, N, d, e, t, h => by
    have hq := h q (by simp)
    have hqd : first + q.1 < d.lasts.length := by rw [t.lasts]; exact hq
    rw [layP_cons, layP_cons, if_pos hq, if_pos hqd, t.edue]
    have hw := un_write t.edue (first + q.1) q.2
    have hp : e.waits ++ pageWs first (q :: l) = (e.waits ++ [(first + q.1, q.2)]) ++ pageWs first l := by
      rw [List.append_assoc]; rfl
    rcases t.write (first + q.1) q.2 with ⟨a, b⟩ | ⟨a, b, c⟩
    · rw [a]
      simp only [Bool.false_eq_true, if_false]
      rcases Tw.layP first l b (fun q' hq' => by rw [hw.1]; exact h q' (by simp [hq'])) with ⟨h1, h2, h3, h4, h5⟩ | ⟨h1, h2, h3⟩
      · refine .inl ⟨h1, h2, h3.less (by rw [List.length_cons]; omega), h4.trans hw.1, ?_⟩
        rw [h5, hw.2, hp]
      · refine .inr ⟨by rw [List.length_cons]; omega, h2, ?_⟩
        rw [hw.1, hw.2] at h3
        rw [hp]; exact h3
    · rw [b]
      simp only [if_true]
      exact .inr ⟨by rw [List.length_cons]; omega, trivial, by rw [hp]; exact c.more _⟩
def pieceWs (pl : Nat → Nat) (l : List Pc) : List (Nat × Sec) := l.map fun p => (pl p.n, p.lay)
theorem Tw.puts (pl : Nat → Nat) : ∀ (l : List Pc) {N : Nat} {d e : Dk}, Tw N d e →
    ((Dk.puts pl l d).2 = true ∧ (Dk.puts pl l e).2 = true ∧ Tw (N - l.length) (Dk.puts pl l d).1 (Dk.puts pl l e).1 ∧ (Dk.puts pl l e).1.lasts = e.lasts ∧ (Dk.puts pl l e).1.waits = e.waits ++ pieceWs pl l) ∨ (N < l.length ∧ (Dk.puts pl l d).2 = false ∧ (Dk.puts pl l e).2 = true ∧ Died (Dk.puts pl l d).1 e.lasts (e.waits ++ pieceWs pl l))
  | [], N, d, e, t => .inl ⟨rfl, rfl, t, rfl, (List.append_nil _).symm⟩
  | q :: l, N, d, e, t => by
    rw [Dk.puts, Dk.puts, t.edue]
    simp only [Bool.false_eq_true, if_false]
    have hw := un_write t.edue (pl q.n) q.lay
    have hp : e.waits ++ pieceWs pl (q :: l) = (e.waits ++ [(pl q.n, q.lay)]) ++ pieceWs pl l := by
      rw [List.append_assoc]; rfl
    have hte : ∀ (l : List Pc) (e : Dk), e.due = false → e.set = false → (Dk.puts pl l e).2 = true := by
      intro l
      induction l with
      | nil => intro e _ _; rfl
      | cons q l ih =>
        intro e h1 h2
        rw [Dk.puts, h1]
        simp only [Bool.false_eq_true, if_false]
        have hs : (e.write (pl q.n) q.lay).set = false := by unfold Dk.write; rw [h1]; exact h2
        exact ih _ (by unfold Dk.due; rw [hs]; rfl) hs
    rcases t.write (pl q.n) q.lay with ⟨a, b⟩ | ⟨a, b, c⟩
    · rw [a]
      simp only [Bool.false_eq_true, if_false]
      rcases Tw.puts pl l b with ⟨h1, h2, h3, h4, h5⟩ | ⟨h1, h2, h2', h3⟩
      · refine .inl ⟨h1, h2, h3.less (by rw [List.length_cons]; omega), h4.trans hw.1, ?_⟩
        rw [h5, hw.2, hp]
      · refine .inr ⟨by rw [List.length_cons]; omega, h2, h2', ?_⟩
        rw [hw.1, hw.2] at h3
        rw [hp]; exact h3
    · rw [b]
      simp only [if_true]
      have hs : (e.write (pl q.n) q.lay).set = false := by unfold Dk.write; rw [t.edue]; exact t.es
      exact .inr ⟨by rw [List.length_cons]; omega, trivial, hte l _ (by unfold Dk.due; rw [hs]; rfl) hs, by rw [hp]; exact c.more _⟩
theorem Tw.headR {N : Nat} {d e : Dk} (t : Tw N d e) (hw : e.waits = []) (base : Nat) : ((headR d base).1 = 0 ∧ (headR e base).1 = 0 ∧ Tw (N - 2) (headR d base).2 (headR e base).2 ∧ (headR e base).2.lasts = settle (fun _ => true) 0 [(0, headB base)] e.lasts ∧ (headR e base).2.waits = []) ∨ (N < 2 ∧ (headR d base).1 = 20 ∧ Died (headR d base).2 e.lasts [(0, headB base)]) := by
  have uw := un_write t.edue 0 (headB base)
  rw [hw, List.nil_append] at uw
  unfold Go.Proofs.YteoeaojebklfjaaGreatDoor.headR
  rw [t.edue]
  simp only [Bool.false_eq_true, if_false]
  rcases t.write 0 (headB base) with ⟨a, b⟩ | ⟨a, b, c⟩
  · rw [a]
    simp only [Bool.false_eq_true, if_false]
    have uf := un_flush b.edue
    rcases b.flush with ⟨a2, b2⟩ | ⟨a2, b2, c2⟩
    · refine .inl ⟨?_, b.eerr, b2.less (by omega), ?_, uf.2⟩
      · unfold Dk.err; rw [a2]; rfl
      · rw [uf.1, uw.1, uw.2]
    · refine .inr ⟨by omega, ?_, ?_⟩
      · unfold Dk.err; rw [b2]; rfl
      · rw [uw.1, uw.2] at c2
        exact c2
  · rw [b]
    simp only [if_true]
    rw [hw, List.nil_append] at c
    exact .inr ⟨by omega, trivial, c⟩
theorem Tw.settleD {N first base : Nat} {l : List (Nat × Sec)} {d e : Dk} (t : Tw N d e) (hw : e.waits = []) (h : ∀ q ∈ l, first + q.1 < e.lasts.length) :
    ((settleD first l d base).1 = 0 ∧ (settleD first l e base).1 = 0 ∧ Tw (N - (l.length + 3)) (settleD first l d base).2 (settleD first l e base).2 ∧ (settleD first l e base).2.waits = []) ∨
    (N < l.length + 3 ∧ (settleD first l d base).1 = 20 ∧ (Died (settleD first l d base).2 e.lasts (pageWs first l) ∨ Died (settleD first l d base).2 (settle (fun _ => true) 0 (pageWs first l) e.lasts) [(0, headB base)])) := by
  unfold Go.Proofs.YteoeaojebklfjaaGreatDoor.settleD
  rcases Tw.layP first l t h with ⟨h1, h2, h3, h4, h5⟩ | ⟨h1, h2, h3⟩
  · rw [hw, List.nil_append] at h5
    rw [h1, h2, h3.edue]
    simp only [ne_eq, not_true_eq_false, if_false, Bool.false_eq_true]
    have uf := un_flush h3.edue
    rcases h3.flush with ⟨a, b⟩ | ⟨a, b, c⟩
    · rw [a]
      simp only [Bool.false_eq_true, if_false]
      rcases b.headR uf.2 base with ⟨g1, g2, g3, g4, g5⟩ | ⟨g1, g2, g3⟩
      · exact .inl ⟨g1, g2, g3.less (by omega), g5⟩
      · refine .inr ⟨by omega, g2, .inr ?_⟩
        rw [uf.1, h4, h5] at g3
        exact g3
    · rw [b]
      simp only [if_true]
      rw [h4, h5] at c
      exact .inr ⟨by omega, by trivial, .inl c⟩
  · rw [hw, List.nil_append] at h3
    rw [h2]
    simp only [ne_eq, show ¬ ((20 : Int) = 0) by decide, not_false_eq_true, if_true]
    exact .inr ⟨by omega, h2, .inl h3⟩
end Go.Proofs.YteoeaojebklfjaaGreatDoor
namespace Go.Proofs.YteoeaojebklfjaaGreatDoor
set_option linter.unusedVariables false
structure Part (count : Nat) (g : Nat → Sec) (base : Nat) (P : List Pc) (pre : Nat → Bool) : Prop where
  len : P.length ≤ count
  num : ∀ j (h : j < P.length), P[j].n = base + 1 + j ∧ P[j].Ok
  has : ∀ j (h : j < P.length), pieceG count g (base + 1 + j) = if pre j then some P[j] else none
  le : ∀ i p, i < count → seeG count g i = some p → p.n ≤ base + P.length
section
variable {count base : Nat} {g : Nat → Sec} {P ps qs : List Pc} {pre pre' : Nat → Bool}
theorem Part.ext (h : Part count g base P pre) (he : ∀ j, j < P.length → pre j = pre' j) : Part count g base P pre' :=
  ⟨h.len, h.num, fun j hj => by rw [h.has j hj, he j hj], h.le⟩
theorem Part.of_holds (H : Holds count g base ps) (hc : 1 ≤ count) (hl : (ps ++ qs).length ≤ count) (hn : ∀ j (h : j < (ps ++ qs).length), (ps ++ qs)[j].n = base + 1 + j ∧ (ps ++ qs)[j].Ok) : Part count g base (ps ++ qs) (fun j => decide (j < ps.length)) := by
  refine ⟨hl, hn, fun j hj => ?_, fun i p hi hp => ?_⟩
  · by_cases h : j < ps.length
    · rw [if_pos (by simpa using h), H.has j h, List.getElem_append_left h]
    · rw [if_neg (by simpa using h)]
      cases e : pieceG count g (base + 1 + j) with
      | none => rfl
      | some p =>
        have h1 := pieceG_some e
        have := H.le _ p (Nat.mod_lt _ (by omega)) (seeG_self e)
        omega
  · have := H.le i p hi hp
    rw [List.length_append]
    omega
theorem Part.put (h : Part count g base P pre) {j0 : Nat} (hj : j0 < P.length) : Part count (setG g (P[j0].n % count) P[j0].lay) base P (fun j => pre j || decide (j = j0)) := by
  obtain ⟨hn, ok⟩ := h.num j0 hj
  have hl := h.len
  refine ⟨h.len, h.num, fun j hjl => ?_, fun i p hi hp => ?_⟩
  · by_cases e : j = j0
    · subst e
      rw [if_pos (by simp), ← hn, pieceG_same ok]
    · rw [pieceG_other (by
        rw [hn]
        rcases Nat.lt_or_gt_of_ne e with h1 | h1
        · exact mod_apart (by omega) (by omega)
        · exact fun e => mod_apart (a := base + 1 + j0) (b := base + 1 + j) (by omega) (by omega) e.symm), h.has j hjl]
      simp [e]
  · by_cases e : i = P[j0].n % count
    · subst e
      rw [seeG_same ok] at hp
      injection hp with hp
      subst hp
      omega
    · rw [seeG_other e] at hp
      exact h.le i p hi hp
theorem Part.chain (h : Part count g base P pre) (hc : 1 ≤ count) {a : Nat} (ha : a ≤ P.length) (hp : ∀ j, j < a → pre j = true) : ∃ t, a ≤ t ∧ t ≤ P.length ∧ chainG count g count base = P.take t := by
  have hl := h.len
  have hat : ∀ j (hj : j < (chainG count g count base).length), ∃ hj2 : j < P.length, (chainG count g count base)[j] = P[j] := fun j hj => by
    have h1 := chainG_at (count := count) (g := g) count base j hj
    have hjl : j < P.length := by
      have h2 := pieceG_some h1
      have := h.le _ _ (Nat.mod_lt _ (by omega)) (seeG_self h1)
      omega
    rw [h.has j hjl] at h1
    split at h1
    · injection h1 with h1
      exact ⟨hjl, h1.symm⟩
    · cases h1
  obtain ⟨qs, hq⟩ := chainG_of (count := count) (g := g) (P.take a) count base (fun j hj => by
    have hj' : j < a := by simp at hj; omega
    rw [h.has j (by omega), if_pos (hp j hj'), List.getElem_take]) (by simp; omega)
  refine ⟨(chainG count g count base).length, ?_, ?_, ?_⟩
  · rw [hq]; simp; omega
  · cases e : (chainG count g count base).length with
    | zero => omega
    | succ k =>
      obtain ⟨h1, _⟩ := hat k (by omega)
      omega
  · refine List.ext_getElem ?_ fun j h1 h2 => ?_
    · rw [List.length_take]
      cases e : (chainG count g count base).length with
      | zero => omega
      | succ k =>
        obtain ⟨h1, _⟩ := hat k (by omega)
        omega
    · obtain ⟨_, e⟩ := hat j h1
      rw [e, List.getElem_take]
end

def gL (first : Nat) (L : List Sec) : Nat → Sec := fun i => L.getD (first + i) []
def wr (first count : Nat) (p : Pc) : Nat × Sec := (first + p.n % count, p.lay)
theorem gL_set {first i : Nat} {L : List Sec} {s : Sec} (h : first + i < L.length) : gL first (L.set (first + i) s) = setG (gL first L) i s := by
  funext k
  unfold gL setG
  by_cases e : k = i
  · subst e
    rw [if_pos rfl, List.getD_eq_getElem?_getD, List.getElem?_set_self h]; rfl
  · rw [if_neg e, List.getD_eq_getElem?_getD, List.getElem?_set_ne (by omega), ← List.getD_eq_getElem?_getD]
theorem part_settle {count first base a : Nat} {P : List Pc} {kp : Nat → Bool} {L : List Sec} (hc : 1 ≤ count) (hfit : first + count ≤ L.length) (h : Part count (gL first L) base P (fun j => decide (j < a))) : ∀ k, a + k ≤ P.length → Part count (gL first (settle kp 0 (((P.drop a).take k).map (wr first count)) L)) base P (fun j => decide (j < a) || (decide (a ≤ j ∧ j < a + k) && kp (j - a)))
  | 0, _ => by
    rw [List.take_zero, List.map_nil, settle]
    exact h.ext fun j hj => by
      by_cases h1 : j < a
      · simp [h1]
      · simp [h1]
  | k + 1, hk => by
    have ih := part_settle (kp := kp) hc hfit h k (by omega)
    have hlt : k < (P.drop a).length := by rw [List.length_drop]; omega
    have hlen : ((((P.drop a).take k).map (wr first count))).length = k := by rw [List.length_map, List.length_take]; omega
    rw [take_snoc' hlt, List.map_append, List.map_cons, List.map_nil, settle_snoc, hlen, Nat.zero_add, List.getElem_drop]
    by_cases e : kp k = true
    · rw [if_pos e]
      have h1 := ih.put (j0 := a + k) (by omega)
      have hm := Nat.mod_lt P[a + k].n (show count > 0 by omega)
      rw [show (wr first count P[a + k]).1 = first + P[a + k].n % count from rfl, show (wr first count P[a + k]).2 = P[a + k].lay from rfl, gL_set (by rw [settle_length]; omega)]
      refine h1.ext fun j hj => ?_
      rw [Bool.eq_iff_iff]
      simp only [Bool.or_eq_true, Bool.and_eq_true, decide_eq_true_eq]
      constructor
      · rintro ((h2 | ⟨h2, h3⟩) | rfl)
        · exact Or.inl h2
        · exact Or.inr ⟨⟨h2.1, by omega⟩, h3⟩
        · exact Or.inr ⟨⟨by omega, by omega⟩, by rw [Nat.add_sub_cancel_left]; exact e⟩
      · rintro (h2 | ⟨h2, h3⟩)
        · exact Or.inl (Or.inl h2)
        · by_cases e2 : j = a + k
          · exact Or.inr e2
          · exact Or.inl (Or.inr ⟨⟨h2.1, by omega⟩, h3⟩)
    · rw [if_neg e]
      refine ih.ext fun j hj => ?_
      rw [Bool.eq_iff_iff]
      simp only [Bool.or_eq_true, Bool.and_eq_true, decide_eq_true_eq]
      constructor
      · rintro (h2 | ⟨h2, h3⟩)
        · exact Or.inl h2
        · exact Or.inr ⟨⟨h2.1, by omega⟩, h3⟩
      · rintro (h2 | ⟨h2, h3⟩)
        · exact Or.inl h2
        · refine Or.inr ⟨⟨h2.1, ?_⟩, h3⟩
          by_cases e2 : j = a + k
          · subst e2
            rw [Nat.add_sub_cancel_left] at h3
            exact absurd h3 e
          · omega

def Whole (ps : List Pc) : Prop := ∀ qs, grp (ps ++ qs) [] = grp ps [] ++ grp qs []
theorem whole_nil : Whole [] := fun qs => rfl
theorem grp_mid {p : Pc} (hp : p.last = true) (qs : List Pc) : ∀ (ps : List Pc) (now : Rec), grp (ps ++ p :: qs) now = grp (ps ++ [p]) now ++ grp qs []
  | [], now => by simp [grp, hp]
  | q :: ps, now => by
    simp only [List.cons_append, grp]
    split
    · rw [grp_mid hp qs ps]; rfl
    · exact grp_mid hp qs ps _
theorem whole_end {ps : List Pc} {p : Pc} (hp : p.last = true) : Whole (ps ++ [p]) := fun qs => by
  rw [List.append_assoc]
  exact grp_mid hp qs ps []
theorem whole_cut {P : List Pc} (h : Whole P) (l : Nat) (rec : Rec) : Whole (P ++ cutR l rec) ∧ grp (P ++ cutR l rec) [] = grp P [] ++ [rec] := by
  have e : grp (cutR l rec) [] = [rec] := by
    have := grp_cut l rec []
    rw [List.append_nil] at this
    exact this
  refine ⟨fun qs => ?_, by rw [h, e]⟩
  rw [List.append_assoc, h, grp_cut, h, e, List.append_assoc]
  rfl
theorem lastN_le {base : Nat} : ∀ (ps : List Pc) (a : Nat), (∀ j (h : j < ps.length), ps[j].n = a + 1 + j) → base ≤ a → lastN ps base ≤ a + ps.length
  | [], a, _, h => h
  | p :: ps, a, hn, h => by
    have h0 := hn 0 (by simp)
    simp only [List.getElem_cons_zero] at h0
    simp only [lastN]
    have h1 : ∀ j (h : j < ps.length), ps[j].n = a + 1 + 1 + j := fun j hj => by
      have := hn (j + 1) (by simpa using hj)
      simp only [List.getElem_cons_succ] at this
      omega
    have h2 := lastN_le (base := if p.last then p.n else base) ps (a + 1) h1 (by split <;> omega)
    rw [List.length_cons]
    omega
theorem whole_last {base : Nat} {ps : List Pc} (hn : ∀ j (h : j < ps.length), ps[j].n = base + 1 + j) (h : lastN ps base = base + ps.length) : Whole ps := by
  rcases List.eq_nil_or_concat ps with rfl | ⟨qs, p, rfl⟩
  · exact whole_nil
  · rw [List.concat_eq_append] at *
    cases hp : p.last
    · rw [lastN_append] at h
      simp only [lastN, hp] at h
      have := lastN_le (base := base) qs base (fun j hj => by
        have := hn j (by simp; omega)
        rw [List.getElem_append_left hj] at this
        exact this) (Nat.le_refl _)
      simp at h
      omega
    · exact whole_end hp
theorem grp_take (P : List Pc) {a t : Nat} (h : a ≤ t) : (∃ ts, grp (P.take a) [] ++ ts = grp (P.take t) []) ∧ ∃ ts, grp (P.take t) [] ++ ts = grp P [] := by
  constructor
  · have e : P.take t = P.take a ++ (P.take t).drop a := by
      have := (List.take_append_drop a (P.take t)).symm
      rwa [List.take_take, Nat.min_eq_left h] at this
    obtain ⟨m, hm⟩ := grp_append (P.take a) ((P.take t).drop a) []
    exact ⟨_, by rw [← hm, ← e]⟩
  · obtain ⟨m, hm⟩ := grp_append (P.take t) (P.drop t) []
    exact ⟨_, by rw [← hm, List.take_append_drop]⟩


theorem settle_far (kp : Nat → Bool) {i : Nat} : ∀ (ws : List (Nat × Sec)) (k : Nat) (L : List Sec), (∀ p ∈ ws, p.1 ≠ i) → (settle kp k ws L).getD i [] = L.getD i []
  | [], _, _, _ => rfl
  | p :: r, k, L, h => by
    rw [settle, settle_far kp r (k + 1) _ fun q hq => h q (by simp [hq])]
    split
    · rw [List.getD_eq_getElem?_getD, List.getElem?_set_ne (h p (by simp)), ← List.getD_eq_getElem?_getD]
    · rfl
theorem settle_all_ok (kp : Nat → Bool) : ∀ (ws : List (Nat × Sec)) (k : Nat) (L : List Sec), (∀ p ∈ ws, p.2.length = 512) → (∀ s ∈ L, s.length = 512) → ∀ s ∈ settle kp k ws L, s.length = 512
  | [], _, _, _, h => h
  | p :: r, k, L, hw, h => by
    rw [settle]
    refine settle_all_ok kp r (k + 1) _ (fun q hq => hw q (by simp [hq])) ?_
    split
    · intro s hs
      rcases List.mem_or_eq_of_mem_set hs with hs | rfl
      · exact h s hs
      · exact hw p (by simp)
    · exact h
theorem settle_pages (first : Nat) (n : Nat) : ∀ (D : List (Nat × Sec)) (k : Nat) (L : List Sec), kRise D → (∀ q ∈ D, first + q.1 < L.length) → (settle (fun _ => true) k (pageWs first D) L).getD (first + n) [] = (kLook D n).getD (L.getD (first + n) [])
  | [], _, _, _, _ => rfl
  | q :: D, k, L, hr, h => by
    have hr' := List.pairwise_cons.1 hr
    show (settle _ (k + 1) (pageWs first D) (L.set (first + q.1) q.2)).getD _ [] = _
    rw [settle_pages first n D (k + 1) _ hr'.2 fun p hp => by rw [List.length_set]; exact h p (by simp [hp]), kLook_cons]
    by_cases e : q.1 = n
    · subst e
      rw [if_pos rfl]
      have : kLook D q.1 = none := by
        cases hx : kLook D q.1 with
        | none => rfl
        | some x => have := hr'.1 _ (look_mem hx); simp only at this; omega
      rw [this]
      show (L.set (first + q.1) q.2).getD (first + q.1) [] = q.2
      rw [List.getD_eq_getElem?_getD, List.getElem?_set_self (h q (by simp))]
      rfl
    · rw [if_neg e]
      congr 1
      rw [List.getD_eq_getElem?_getD, List.getElem?_set_ne (by omega), ← List.getD_eq_getElem?_getD]
theorem seeG_same' {count : Nat} {g g' : Nat → Sec} (e : ∀ i, i < count → g' i = g i) {i : Nat} (hi : i < count) : seeG count g' i = seeG count g i := by
  unfold seeG
  rw [e i hi]
theorem pieceG_same' {count : Nat} {g g' : Nat → Sec} (hc : 1 ≤ count) (e : ∀ i, i < count → g' i = g i) (n : Nat) : pieceG count g' n = pieceG count g n := by
  unfold pieceG
  rw [seeG_same' e (Nat.mod_lt _ (by omega))]
theorem runG_same {count : Nat} {g g' : Nat → Sec} (hc : 1 ≤ count) (e : ∀ i, i < count → g' i = g i) : ∀ (k n : Nat) (out : List Rec) (now : Rec) (last : Nat), runG count g' k n out now last = runG count g k n out now last
  | 0, _, _, _, _ => rfl
  | k + 1, n, out, now, last => by
    unfold runG
    rw [pieceG_same' hc e]
    split
    · rfl
    · rw [runG_same hc e, runG_same hc e]
theorem gAt_gL {d : Dk} (h : d.waits = []) (first : Nat) : gAt first d = gL first d.lasts := by
  funext i
  unfold gAt gL Dk.read
  rw [h]
  rfl
theorem read_done {d : Dk} (h : d.waits = []) (i : Nat) : d.read i = d.lasts.getD i [] := by
  unfold Dk.read
  rw [h]
  rfl
theorem cutAll_num : ∀ (rs : List Rec) (base : Nat), base + many base rs ≤ 4611686018427387904 → ∀ j (h : j < (cutAll base rs).length), (cutAll base rs)[j].n = base + 1 + j ∧ (cutAll base rs)[j].Ok
  | [], base, _, j, h => by simp [cutAll] at h
  | r :: rs, base, hb, j, h => by
    have e : cutAll base (r :: rs) = cutR base r ++ cutAll (base + cutN r.length) rs := rfl
    have hm : many base (r :: rs) = cutN r.length + many (base + cutN r.length) rs := by
      unfold many
      rw [e, List.length_append, cutR_length]
    rw [hm] at hb
    simp only [e]
    by_cases hj : j < (cutR base r).length
    · rw [List.getElem_append_left hj, cutR_at]
      rw [cutR_length] at hj
      exact ⟨rfl, cutAt_ok hj (by omega)⟩
    · have hl : (cutR base r).length = cutN r.length := cutR_length _ _
      rw [List.getElem_append_right (by omega)]
      have hj2 : j - (cutR base r).length < (cutAll (base + cutN r.length) rs).length := by
        rw [e, List.length_append] at h; omega
      have := cutAll_num rs (base + cutN r.length) (by omega) _ hj2
      exact ⟨by rw [this.1]; omega, this.2⟩
theorem told_some {count base : Nat} {L : List Sec} {rs : List Rec} {rec : Rec} (hc : 1 ≤ count) (hfit : 1 + count ≤ L.length) (h : Holds count (gL 1 L) base (cutAll base rs)) (hl : many base rs + cutN rec.length ≤ count) (ht : base + many base rs + cutN rec.length ≤ 4611686018427387904) (kp : Nat → Bool) :
    ((runG count (gL 1 (settle kp 0 ((cutR (base + many base rs) rec).map (wr 1 count)) L)) count base [] [] base).1 = rs ∨ (runG count (gL 1 (settle kp 0 ((cutR (base + many base rs) rec).map (wr 1 count)) L)) count base [] [] base).1 = rs ++ [rec]) ∧
    ∀ i p, i < count → seeG count (gL 1 (settle kp 0 ((cutR (base + many base rs) rec).map (wr 1 count)) L)) i = some p → p.n ≤ base + many base rs + cutN rec.length := by
  obtain ⟨ps, hps⟩ : ∃ ps, ps = cutAll base rs := ⟨_, rfl⟩
  obtain ⟨qs, hqs⟩ : ∃ qs, qs = cutR (base + many base rs) rec := ⟨_, rfl⟩
  have hpl : ps.length = many base rs := by rw [hps]; rfl
  have hql : qs.length = cutN rec.length := by rw [hqs]; exact cutR_length _ _
  have hall : ps ++ qs = cutAll base (rs ++ [rec]) := by rw [cutAll_snoc, hps, hqs]; rfl
  have hmn : many base (rs ++ [rec]) = many base rs + cutN rec.length := many_snoc _ _ _
  rw [← hqs]
  rw [← hps] at h
  have hnum := cutAll_num (rs ++ [rec]) base (by rw [hmn]; omega)
  have p1 : Part count (gL 1 L) base (ps ++ qs) (fun j => decide (j < ps.length)) := Part.of_holds h hc (by rw [List.length_append]; omega) (by rw [hall]; exact hnum)
  have p2 := part_settle (kp := kp) hc hfit p1 qs.length (by rw [List.length_append]; omega)
  rw [List.drop_left, List.take_of_length_le (Nat.le_refl _)] at p2
  refine ⟨?_, fun i p hi hp => by have := p2.le i p hi hp; rw [List.length_append] at this; omega⟩
  obtain ⟨t, h1, _, h3⟩ := p2.chain hc (a := ps.length) (by rw [List.length_append]; omega) fun j hj => by simp [hj]
  obtain ⟨⟨ts, e1⟩, ts', e2⟩ := grp_take (ps ++ qs) h1
  have eg : grp ps [] = rs := by rw [hps]; exact grp_all _ _
  have eg2 : grp (ps ++ qs) [] = rs ++ [rec] := by rw [hall]; exact grp_all _ _
  rw [List.take_left, eg] at e1
  rw [← e1, eg2, List.append_assoc] at e2
  have e3 := List.append_cancel_left e2
  rw [runG_chain, h3]
  show [] ++ _ = _ ∨ [] ++ _ = _
  rw [List.nil_append, ← e1]
  cases ts with
  | nil => exact .inl (List.append_nil _)
  | cons x ts =>
    rw [List.cons_append] at e3
    injection e3 with e4 e5
    obtain ⟨rfl, _⟩ := List.append_eq_nil_iff.1 e5
    exact .inr (by rw [e4])
end Go.Proofs.YteoeaojebklfjaaGreatDoor
namespace Go.Proofs.YteoeaojebklfjaaGreatDoor
open Go.RowKit Go.Maps
set_option linter.unusedVariables false
structure OnD (len : Nat) (L : List Sec) (base : Nat) (rs : List Rec) (D : List (Nat × Sec)) (T : Nat) : Prop where
  ln : L.length = len
  ok : ∀ s ∈ L, s.length = 512
  head : L.getD 0 [] = headB base
  run : (runG (len / 4) (gL 1 L) (len / 4) base [] [] base).1 = rs
  le : ∀ i p, i < len / 4 → seeG (len / 4) (gL 1 L) i = some p → p.n ≤ T
  base : base ≤ T
  rep : replayAll (((len - 1 - len / 4 : Nat) : Int) - 1) rs [] = some D
  dirty : ∀ q ∈ D, q.1 < len - 1 - len / 4 ∧ q.2.length = 512
  dr : kRise D
def vL (len : Nat) (L : List Sec) (D : List (Nat × Sec)) (n : Nat) : Sec := (kLook D n).getD (L.getD (1 + len / 4 + n) [])
def HasV (len : Nat) (L : List Sec) (V : Nat → Sec) (T : Nat) : Prop := ∃ base rs D, OnD len L base rs D T ∧ vL len L D = V
section
variable {len base T : Nat} {L : List Sec} {rs : List Rec} {D : List (Nat × Sec)} {V : Nat → Sec}
theorem OnD.upto (o : OnD len L base rs D T) {T' : Nat} (h : T ≤ T') : OnD len L base rs D T' := ⟨o.ln, o.ok, o.head, o.run, fun i p hi hp => Nat.le_trans (o.le i p hi hp) h, Nat.le_trans o.base h, o.rep, o.dirty, o.dr⟩
theorem HasV.upto (o : HasV len L V T) {T' : Nat} (h : T ≤ T') : HasV len L V T' := by
  obtain ⟨b, r, D, a, c⟩ := o
  exact ⟨b, r, D, a.upto h, c⟩
theorem pageWs_far {i : Nat} (hi : i < 1 + len / 4) : ∀ p ∈ pageWs (1 + len / 4) D, p.1 ≠ i := fun p hp => by
  obtain ⟨q, hq, rfl⟩ := List.mem_map.1 hp
  show 1 + len / 4 + q.1 ≠ i
  omega
theorem gL_pages (kp : Nat → Bool) (k : Nat) : ∀ i, i < len / 4 → gL 1 (settle kp k (pageWs (1 + len / 4) D) L) i = gL 1 L i := fun i hi => by
  unfold gL
  exact settle_far kp _ k L (pageWs_far (by omega))
theorem OnD.pages (o : OnD len L base rs D T) (h64 : 64 ≤ len) (kp : Nat → Bool) : OnD len (settle kp 0 (pageWs (1 + len / 4) D) L) base rs D T ∧ vL len (settle kp 0 (pageWs (1 + len / 4) D) L) D = vL len L D := by
  refine ⟨⟨by rw [settle_length]; exact o.ln, settle_all_ok kp _ 0 L (fun p hp => ?_) o.ok, ?_, ?_, fun i p hi hp => o.le i p hi (by rwa [seeG_same' (gL_pages kp 0) hi] at hp), o.base, o.rep, o.dirty, o.dr⟩, ?_⟩
  · obtain ⟨q, hq, rfl⟩ := List.mem_map.1 hp
    exact (o.dirty q hq).2
  · rw [settle_far kp _ 0 L (pageWs_far (by omega))]; exact o.head
  · rw [runG_same (by omega) (gL_pages kp 0)]; exact o.run
  · funext n
    unfold vL
    cases h : kLook D n with
    | some x => rfl
    | none =>
      show List.getD _ _ _ = List.getD _ _ _
      refine settle_far kp _ 0 L fun p hp => ?_
      obtain ⟨q, hq, rfl⟩ := List.mem_map.1 hp
      show 1 + len / 4 + q.1 ≠ 1 + len / 4 + n
      intro e
      have : q.1 = n := by omega
      have h2 := look_of_mem o.dr hq
      rw [this, h] at h2
      cases h2
theorem OnD.headed (o : OnD len L base rs D T) (h64 : 64 ≤ len) (kp : Nat → Bool) : HasV len (settle kp 0 [(0, headB T)] (settle (fun _ => true) 0 (pageWs (1 + len / 4) D) L)) (vL len L D) T := by
  obtain ⟨o1, v1⟩ := o.pages h64 fun _ => true
  obtain ⟨L1, hL1⟩ : ∃ L1, L1 = settle (fun _ => true) 0 (pageWs (1 + len / 4) D) L := ⟨_, rfl⟩
  rw [← hL1] at o1 v1 ⊢
  rw [settle, settle]
  by_cases e : kp 0 = true
  · rw [if_pos e]
    have h0 : 0 < L1.length := by rw [o1.ln]; omega
    have hfar : ∀ i, 1 ≤ i → (L1.set 0 (headB T)).getD i [] = L1.getD i [] := fun i hi => by
      rw [List.getD_eq_getElem?_getD, List.getElem?_set_ne (by omega), ← List.getD_eq_getElem?_getD]
    have hg : ∀ i, i < len / 4 → gL 1 (L1.set 0 (headB T)) i = gL 1 L1 i := fun i _ => by
      unfold gL
      exact hfar _ (by omega)
    have hle : ∀ i p, i < len / 4 → seeG (len / 4) (gL 1 (L1.set 0 (headB T))) i = some p → p.n ≤ T := fun i p hi hp => o1.le i p hi (by rwa [seeG_same' hg hi] at hp)
    refine ⟨T, [], [], ⟨by rw [List.length_set]; exact o1.ln, fun s hs => ?_, ?_, ?_, hle, Nat.le_refl _, rfl, (fun q hq => by cases hq), List.Pairwise.nil⟩, ?_⟩
    · rcases List.mem_or_eq_of_mem_set hs with hs | rfl
      · exact o1.ok s hs
      · exact headB_len _
    · rw [List.getD_eq_getElem?_getD, List.getElem?_set_self h0]; rfl
    · rw [told_none ⟨fun j h => absurd h (by simp), fun i p hi hp => by simpa using hle i p hi hp⟩ (by omega)]
    · funext n
      unfold vL
      rw [kLook_nil]
      show (L1.set 0 (headB T)).getD _ [] = _
      rw [hfar _ (by omega), hL1, settle_pages (1 + len / 4) n D 0 L o.dr fun q hq => by rw [o.ln]; have := (o.dirty q hq).1; omega]
  · rw [if_neg e]
    exact ⟨base, rs, D, o1, v1⟩
theorem OnD.appended (o : OnD len L base rs D T) (h64 : 64 ≤ len) (H : Holds (len / 4) (gL 1 L) base (cutAll base rs)) {rec : Rec} (hl : many base rs + cutN rec.length ≤ len / 4) {T' : Nat} (hT : base + many base rs + cutN rec.length ≤ T') (hT' : T' ≤ 1000000000) {D' : List (Nat × Sec)} (hr : replayAll (((len - 1 - len / 4 : Nat) : Int) - 1) (rs ++ [rec]) [] = some D') (hd : ∀ q ∈ D', q.1 < len - 1 - len / 4 ∧ q.2.length = 512) (hrise : kRise D') (kp : Nat → Bool) :
    HasV len (settle kp 0 ((cutR (base + many base rs) rec).map (wr 1 (len / 4))) L) (vL len L D) T' ∨ HasV len (settle kp 0 ((cutR (base + many base rs) rec).map (wr 1 (len / 4))) L) (vL len L D') T' := by
  obtain ⟨h1, h2⟩ := told_some (by omega) (by rw [o.ln]; omega) H hl (by omega) kp
  obtain ⟨L', hL'⟩ : ∃ L', L' = settle kp 0 ((cutR (base + many base rs) rec).map (wr 1 (len / 4))) L := ⟨_, rfl⟩
  have hfar : ∀ i, i = 0 ∨ len / 4 < i → L'.getD i [] = L.getD i [] := fun i hi => by
    rw [hL']
    refine settle_far kp _ 0 L fun p hp => ?_
    obtain ⟨q, hq, rfl⟩ := List.mem_map.1 hp
    show 1 + q.n % (len / 4) ≠ i
    have := Nat.mod_lt q.n (show len / 4 > 0 by omega)
    omega
  have hlen : L'.length = len := by rw [hL', settle_length]; exact o.ln
  have hok : ∀ s ∈ L', s.length = 512 := by
    rw [hL']
    refine settle_all_ok kp _ 0 L (fun p hp => ?_) o.ok
    obtain ⟨q, hq, rfl⟩ := List.mem_map.1 hp
    obtain ⟨j, hj, rfl⟩ := List.mem_iff_getElem.1 hq
    rw [cutR_at]
    refine Pc.lay_length _ ?_
    show ((rec.drop (501 * j)).take 501).length ≤ 501
    rw [List.length_take]; omega
  have hv : ∀ D0 : List (Nat × Sec), vL len L' D0 = vL len L D0 := fun D0 => by
    funext n
    unfold vL
    rw [hfar _ (by omega)]
  rw [← hL'] at h1 h2 ⊢
  have hhead : L'.getD 0 [] = headB base := by rw [hfar 0 (.inl rfl)]; exact o.head
  have hle : ∀ i p, i < len / 4 → seeG (len / 4) (gL 1 L') i = some p → p.n ≤ T' := fun i p hi hp => Nat.le_trans (h2 i p hi hp) hT
  rcases h1 with h1 | h1
  · exact .inl ⟨base, rs, D, ⟨hlen, hok, hhead, h1, hle, by omega, o.rep, o.dirty, o.dr⟩, hv D⟩
  · exact .inr ⟨base, rs ++ [rec], D', ⟨hlen, hok, hhead, h1, hle, by omega, hr, hd, hrise⟩, hv D'⟩
end
theorem Lg.onD {len base : Nat} {s : Sy} {rs : List Rec} (l : Pd len s.p s.d) (g : Lg len s base rs) (hw : s.d.waits = []) : OnD len s.d.lasts base rs s.p.dirty (base + many base rs) ∧ vL len s.d.lasts s.p.dirty = s.p.comm s.d ∧ Holds (len / 4) (gL 1 s.d.lasts) base (cutAll base rs) := by
  have h64 := l.l64
  have hg := gAt_gL hw 1
  have hh := g.holds
  rw [hg] at hh
  refine ⟨⟨l.dlen, l.dok.lasts, by rw [← read_done hw]; exact g.head, by rw [told_run hh (by omega) g.room], fun i p hi hp => ?_, by omega, ?_, ?_, l.dr⟩, ?_, hh⟩
  · have := hh.le i p hi hp
    unfold many
    exact this
  · have := g.rep
    rw [l.pages] at this
    exact this
  · intro q hq
    have := l.dirty q hq
    rw [l.pages] at this
    exact this
  · funext n
    unfold vL Pg.comm
    rw [read_done hw, l.first]
theorem settle_top {len n top : Nat} {s : Sy} (h : Pd len s.p s.d) (hle : ∀ i p, i < len / 4 → seeG (len / 4) (gAt 1 s.d) i = some p → p.n ≤ top) (ht : top ≤ 1000000000) (hc : s.d.Calm len n) :
    ∃ s', s.settle top = (0, s') ∧ s'.p = s.p.settled ∧ Pd len s'.p s'.d ∧ Lg len s' top [] ∧ s'.d.Calm len (n + 403) ∧ s'.d.waits = [] ∧ s'.p.comm s'.d = s.p.comm s.d := by
  have hl64 := h.l64
  have hdl := h.dl
  have hl4 := h.l400
  obtain ⟨d1, e1, c1, o1, r1, r1'⟩ := layP_calm (first := s.p.first) s.p.dirty s.d n hc h.dok (fun q hq => ⟨by have := h.dirty q hq; have := h.first; have := h.pages; omega, (h.dirty q hq).2⟩) h.dr
  have c2 := c1.flush
  have o2 := flush_dk_ok o1 c1.due
  have c3 := c2.head top
  have e3 : settleD s.p.first s.p.dirty s.d top = (0, (headR d1.flush top).2) := by
    rw [settleD_head e1 c1.due, c3.1]
  have cw := c2.write 0 (headB top)
  have ow := write_dk_ok (i := 0) (s := headB top) o2 c2.due (by rw [c2.len]; omega) (headB_len _)
  have o3 : (headR d1.flush top).2.Ok := by
    rw [c3.1]
    exact flush_dk_ok ow cw.2.due
  have r3 : ∀ k, (headR d1.flush top).2.read k = if k = 0 then headB top else d1.read k := fun k => by
    rw [c3.1]
    show ((d1.flush.write 0 (headB top)).flush).read k = _
    rw [read_flush ow cw.2.due, read_write c2.due, read_flush o1 c1.due]
  have w3 : (headR d1.flush top).2.waits = [] := by
    rw [c3.1]
    exact flush_waits cw.2.due
  obtain ⟨d3, hd3⟩ : ∃ d3, d3 = (headR d1.flush top).2 := ⟨_, rfl⟩
  rw [← hd3] at e3 o3 r3 w3
  have cc3 : d3.Calm len (n + s.p.dirty.length + 1 + 2) := by rw [hd3]; exact c3.2
  have hg3 : ∀ i, i < len / 4 → gAt 1 d3 i = gAt 1 s.d i := fun i hi => by
    unfold gAt
    rw [r3, if_neg (by omega), r1 _ (by have := h.first; omega)]
  have hh3 : Holds (len / 4) (gAt 1 d3) top [] := ⟨fun j h => absurd h (by simp), fun i p hi hp => by
    rw [seeG_same' hg3 hi] at hp
    simpa using hle i p hi hp⟩
  have hop : Rg.opened 1 (len / 4) top (gAt 1 d3) = Rg.of 1 (len / 4) top [] := opened_of (rs := []) hh3 (by omega) (by rw [many_nil]; omega)
  refine ⟨⟨s.p.settled, Rg.opened 1 (s.d.lasts.length / 4) top (gAt 1 d3), d3⟩, ?_, rfl, ⟨h.l64, h.l400, h.first, h.pages, cc3.len, o3, fun q hq => by simp [Pg.settled] at hq, List.Pairwise.nil⟩, ⟨?_, hh3, by rw [many_nil]; omega, ?_, rfl, by rw [many_nil]; omega⟩, ⟨cc3.dead, cc3.set, cc3.len, cc3.few.mono (by omega)⟩, w3, ?_⟩
  · unfold Sy.settle
    rw [e3]
    rfl
  · rw [h.dlen]; exact hop
  · show d3.read 0 = _
    rw [r3, if_pos rfl]
  · funext k
    unfold Pg.comm
    show (kLook [] k).getD (d3.read (s.p.first + k)) = _
    rw [kLook_nil, r3, if_neg (by have := h.first; omega), r1' k]
    rfl
end Go.Proofs.YteoeaojebklfjaaGreatDoor
