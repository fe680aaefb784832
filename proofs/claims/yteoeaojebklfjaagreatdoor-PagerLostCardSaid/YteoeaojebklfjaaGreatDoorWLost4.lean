/- U9 UA UB UC UD Y1 Y4 in one text. -/
import Derived.Test.YteoeaojebklfjaaGreatDoorWLost3
import Derived.Test.YteoeaojebklfjaaGreatDoorV00
import Derived.Test.YteoeaojebklfjaaGreatDoorWLost0
namespace Go.Proofs.YteoeaojebklfjaaGreatDoor
open Go.RowKit Go.Maps
set_option linter.unusedVariables false
set_option linter.unusedSimpArgs false
structure HalfP (us : Int → Bool) (fr rt : Int) (V : Nat → Sec) (l : List MPg) (pages root : Int) : Prop where
  nd : (l.map fun p => p.n).Nodup
  use : ∀ n, us n = true ↔ ∃ p ∈ l, p.n = n
  txt : ∀ p ∈ l, p.known = true → st (V p.n.toNat) = p.text
  root : rt = root
  cnt : fr = pages - 1 - (l.length : Int)
def usesU (used : Nat) (F : List Nat) (n : Int) : Bool := decide (0 < n) && decide (n < (used : Int)) && !decide (n.toNat ∈ F)
structure FitP (s : Sy) (K : List Nat) (m : Mi) : Prop where
  pages : m.pages = (s.p.pages : Int)
  now : HalfP s.p.uses s.p.free (s.p.m.root : Int) (s.p.view s.d) m.now m.pages m.root
  kept : HalfP (usesU s.p.kept.used K) ((s.p.pages : Int) - (s.p.kept.used : Int) + (K.length : Int)) (s.p.kept.root : Int) (s.p.comm s.d) m.kept m.pages m.kroot
  chm : ∀ n : Nat, (n : Int) ∈ m.ch ↔ kLook s.p.count n ≠ none
  chl : m.ch.length = s.p.count.length
section
variable {s s' : Sy} {len n T : Nat} {G K G' K' : List Nat} {m : Mi}
theorem findP_none {l : List MPg} {n : Int} (h : ¬ ∃ p ∈ l, p.n = n) : findP l n = -1 := by
  unfold findP
  have : (l.findIdx? fun p => p.n == n) = none := by
    rw [List.findIdx?_eq_none_iff]
    intro q hq
    simp only [beq_eq_false_iff_ne, ne_eq]
    exact fun e => h ⟨q, hq, e⟩
  rw [this]
theorem findP_has {l : List MPg} {n : Int} (h : ∃ p ∈ l, p.n = n) : 0 ≤ findP l n := by
  unfold findP
  cases hx : l.findIdx? (fun p => p.n == n) with
  | none =>
    rw [List.findIdx?_eq_none_iff] at hx
    obtain ⟨p, hp, e⟩ := h
    have := hx p hp
    simp [e] at this
  | some i => simp
theorem FitP.same (h : FitP s K m) : Same s m := fun n => by
  cases hu : s.p.uses n with
  | true => exact .inl ⟨rfl, findP_has ((h.now.use n).1 hu)⟩
  | false => exact .inr ⟨rfl, findP_none fun e => by have := (h.now.use n).2 e; rw [hu] at this; cases this⟩
theorem FitP.lim (h : FitP s K m) (l : Lv len s.p s.d G K) : Lim s m := by
  have h1 := h.now.cnt
  have h2 := h.kept.cnt
  have h3 := l.free0
  have h4 := l.few
  have h5 := l.ku
  have h6 := h.pages
  have h7 := h.chl
  have h8 := l.nlen
  have h9 : s.p.count.length = s.p.now.length := by rw [l.count, List.length_map]
  exact ⟨by omega, by omega, by omega, by omega⟩
theorem ins_old {α : Type} (n : Nat) (x : α) : ∀ l : List (Nat × α), kRise l → kLook l n ≠ none → (ins n x l).length = l.length
  | [], _, h => absurd rfl h
  | p :: l, hr, h => by
    have hp := List.pairwise_cons.1 hr
    rw [kLook_cons] at h
    unfold ins
    by_cases e1 : n < p.1
    · rw [if_neg (by omega)] at h
      cases hx : kLook l n with
      | none => exact absurd hx h
      | some y =>
        have := hp.1 _ (look_mem hx)
        simp only at this
        omega
    · rw [if_neg e1]
      by_cases e2 : p.1 = n
      · rw [if_pos e2]; rfl
      · rw [if_neg e2]
        rw [if_neg e2] at h
        rw [List.length_cons, List.length_cons, ins_old n x l hp.2 h]
theorem touch_fit {c : List (Nat × Bool)} {ch : List Int} (hr : kRise c) (h1 : ∀ n : Nat, (n : Int) ∈ ch ↔ kLook c n ≠ none) (h2 : ch.length = c.length) (k : Nat) : (∀ n : Nat, (n : Int) ∈ touchL ch (k : Int) ↔ kLook (ins k true c) n ≠ none) ∧ (touchL ch (k : Int)).length = (ins k true c).length := by
  unfold touchL
  by_cases hk : (k : Int) ∈ ch
  · rw [if_pos hk]
    refine ⟨fun n => ?_, by rw [ins_old k true c hr ((h1 k).1 hk)]; exact h2⟩
    rw [look_ins]
    by_cases e : k = n
    · subst e; rw [if_pos rfl]; simp [hk]
    · rw [if_neg e]; exact h1 n
  · rw [if_neg hk]
    have hn : kLook c k = none := by
      cases hx : kLook c k with
      | none => rfl
      | some y => exact absurd ((h1 k).2 (by rw [hx]; simp)) hk
    refine ⟨fun n => ?_, by rw [List.length_append, len_ins_new k true c hn, h2]; rfl⟩
    rw [look_ins]
    by_cases e : k = n
    · subst e; rw [if_pos rfl]; simp
    · rw [if_neg e, List.mem_append, h1 n]
      simp only [List.mem_singleton]
      constructor
      · rintro (a | a)
        · exact a
        · omega
      · exact fun a => .inl a
theorem Lv.crise (l : Lv len s.p s.d G K) : kRise s.p.count := by
  rw [l.count]
  have h := l.nr
  unfold kRise at h ⊢
  rw [List.pairwise_map]
  exact h
theorem HalfP.root' {us : Int → Bool} {fr rt : Int} {V : Nat → Sec} {l : List MPg} {pages root r2 : Int} (h : HalfP us fr rt V l pages root) : HalfP us fr r2 V l pages r2 := ⟨h.nd, h.use, h.txt, rfl, h.cnt⟩
theorem FitP.took (h : FitP s K m) (l : Lv len s.p s.d G K) {p' : Pg} {k : Nat} (t : Took len s.p p' s.d G' K k) : FitP ⟨p', s.r, s.d⟩ K (m.take (k : Int)) := by
  have hno : ¬ ∃ p ∈ m.now, p.n = (k : Int) := fun e => by have := (h.now.use k).2 e; rw [t.was] at this; cases this
  have htc := touch_fit l.crise h.chm h.chl k
  have hcomm : Pg.comm p' s.d = s.p.comm s.d := by
    funext i
    unfold Pg.comm
    rw [t.dirty, t.first]
  refine ⟨?_, ⟨?_, ?_, ?_, ?_, ?_⟩, ?_, ?_, ?_⟩
  · show m.pages = (p'.pages : Int)
    rw [t.pages]; exact h.pages
  · show ((m.now ++ [newP (k : Int)]).map fun p => p.n).Nodup
    rw [List.map_append, List.nodup_append]
    refine ⟨h.now.nd, by simp, ?_⟩
    intro a ha b hb e
    simp [newP] at hb
    subst hb; subst e
    obtain ⟨p, hp, e⟩ := List.mem_map.1 ha
    exact hno ⟨p, hp, e⟩
  · intro n
    show p'.uses n = true ↔ ∃ p ∈ m.now ++ [newP (k : Int)], p.n = n
    rw [t.uses, Bool.or_eq_true, h.now.use]
    constructor
    · rintro (⟨p, hp, e⟩ | e)
      · exact ⟨p, List.mem_append_left _ hp, e⟩
      · exact ⟨newP k, by simp, (of_decide_eq_true e).symm⟩
    · rintro ⟨p, hp, e⟩
      rcases List.mem_append.1 hp with hp | hp
      · exact .inl ⟨p, hp, e⟩
      · simp at hp; subst hp
        exact .inr (decide_eq_true e.symm)
  · intro p hp hk
    rcases List.mem_append.1 hp with hp | hp
    · have hu := (h.now.use p.n).2 ⟨p, hp, rfl⟩
      show st (p'.view s.d p.n.toNat) = p.text
      rw [t.view]
      obtain ⟨q, e, q1, _⟩ := l.in_use hu
      have : ¬ k = p.n.toNat := fun e2 => hno ⟨p, hp, by rw [e]; rw [e] at e2; simp at e2; omega⟩
      show st (if k = p.n.toNat then _ else _) = _
      rw [if_neg this]
      exact h.now.txt p hp hk
    · simp at hp; subst hp
      cases hk
  · show (p'.m.root : Int) = m.root
    rw [t.root]; exact h.now.root
  · show p'.free = m.pages - 1 - ((m.now ++ [newP (k : Int)]).length : Int)
    rw [t.free, h.now.cnt, List.length_append]
    simp
    omega
  · show HalfP (usesU p'.kept.used K) ((p'.pages : Int) - (p'.kept.used : Int) + (K.length : Int)) (p'.kept.root : Int) (Pg.comm p' s.d) m.kept m.pages m.kroot
    rw [t.kept, t.pages, hcomm]
    exact h.kept
  · intro n
    show _ ∈ touchL m.ch (k : Int) ↔ kLook p'.count n ≠ none
    rw [t.count]; exact htc.1 n
  · show (touchL m.ch (k : Int)).length = p'.count.length
    rw [t.count]; exact htc.2
theorem FitP.wrote (h : FitP s K m) (l : Lv len s.p s.d G K) {k i : Nat} {p : MPg} {x : Sec} (hu : s.p.uses (k : Int) = true) (hi : m.now[i]? = some p) (hn : p.n = (k : Int)) (hx : x.length = 512) : FitP ⟨s.p.touched k x, s.r, s.d⟩ K ((m.wrote i (k : Int) (st x)).touch (k : Int)) := by
  have htc := touch_fit l.crise h.chm h.chl k
  have hv := (l.write hu hx).2
  obtain ⟨hl, hie⟩ := List.getElem?_eq_some_iff.1 hi
  have hmap : (m.now.set i ⟨(k : Int), true, st x⟩).map (fun p => p.n) = m.now.map fun p => p.n := by
    rw [List.map_set]
    apply List.ext_getElem?
    intro j
    rw [List.getElem?_set]
    by_cases e : i = j
    · subst e
      rw [if_pos rfl, List.getElem?_map, hi]
      simp [hn, hl]
    · rw [if_neg e]
  have hmem : ∀ n : Int, (∃ p ∈ m.now.set i ⟨(k : Int), true, st x⟩, p.n = n) ↔ ∃ p ∈ m.now, p.n = n := fun n => by
    have a : ∀ l : List MPg, (∃ p ∈ l, p.n = n) ↔ n ∈ l.map fun p => p.n := fun l => by simp [List.mem_map]
    rw [a, a, hmap]
  refine ⟨h.pages, ⟨?_, ?_, ?_, h.now.root, ?_⟩, h.kept, htc.1, htc.2⟩
  · show ((m.now.set i ⟨(k : Int), true, st x⟩).map fun p => p.n).Nodup
    rw [hmap]; exact h.now.nd
  · intro n
    show s.p.uses n = true ↔ ∃ p ∈ m.now.set i ⟨(k : Int), true, st x⟩, p.n = n
    rw [hmem]; exact h.now.use n
  · intro q hq hk
    show st ((s.p.touched k x).view s.d q.n.toNat) = q.text
    rw [hv]
    show st (if k = q.n.toNat then x else _) = _
    obtain ⟨j, hj⟩ := List.mem_iff_getElem?.1 (show q ∈ m.now.set i ⟨(k : Int), true, st x⟩ from hq)
    rw [List.getElem?_set] at hj
    by_cases e : i = j
    · subst e
      rw [if_pos rfl, if_pos hl] at hj
      injection hj with hj
      subst hj
      rw [if_pos (by show k = (k : Int).toNat; simp)]
    · rw [if_neg e] at hj
      have hqm := List.mem_of_getElem? hj
      have hne : ¬ k = q.n.toNat := fun e2 => by
        have hu2 := (h.now.use q.n).2 ⟨q, hqm, rfl⟩
        obtain ⟨q2, e3, _⟩ := l.in_use hu2
        have e4 : q.n = (k : Int) := by omega
        have a1 : (m.now.map fun p => p.n)[i]? = some (k : Int) := by rw [List.getElem?_map, hi]; simp [hn]
        have a2 : (m.now.map fun p => p.n)[j]? = some (k : Int) := by rw [List.getElem?_map, hj]; simp [e4]
        obtain ⟨b1, _⟩ := List.getElem?_eq_some_iff.1 a1
        exact e ((List.getElem?_inj b1 h.now.nd).1 (a1.trans a2.symm))
      rw [if_neg hne]
      exact h.now.txt q hqm hk
  · show s.p.free = m.pages - 1 - ((m.now.set i ⟨(k : Int), true, st x⟩).length : Int)
    rw [List.length_set]; exact h.now.cnt
theorem FitP.rooted (h : FitP s K m) (k : Nat) : FitP ⟨s.p.rooted k, s.r, s.d⟩ K { m with root := (k : Int) } :=
  ⟨h.pages, ⟨h.now.nd, h.now.use, h.now.txt, rfl, h.now.cnt⟩, h.kept, h.chm, h.chl⟩
theorem filt_len : ∀ (l : List MPg) (n : Int), (l.map fun p => p.n).Nodup → (∃ p ∈ l, p.n = n) → (l.filter fun p => p.n != n).length + 1 = l.length
  | [], n, _, h => by obtain ⟨p, hp, _⟩ := h; simp at hp
  | q :: l, n, hn, h => by
    rw [List.map_cons, List.nodup_cons] at hn
    by_cases e : q.n = n
    · have h0 : (l.filter fun p => p.n != n) = l := List.filter_eq_self.2 fun p hp => by
        have : p.n ≠ n := fun e2 => hn.1 (List.mem_map.2 ⟨p, hp, e2.trans e.symm⟩)
        simpa using this
      rw [List.filter_cons_of_neg (by simp [e]), h0]
      rfl
    · have ih := filt_len l n hn.2 (by
        obtain ⟨p, hp, e2⟩ := h
        rcases List.mem_cons.1 hp with rfl | hp
        · exact absurd e2 e
        · exact ⟨p, hp, e2⟩)
      rw [List.filter_cons_of_pos (by simpa using e), List.length_cons, List.length_cons, ih]
theorem FitP.dropped (h : FitP s K m) (l : Lv len s.p s.d G K) {k : Nat} (hu : s.p.uses (k : Int) = true) : FitP ⟨s.p.dropped k, s.r, s.d⟩ K (m.drop (k : Int)) := by
  have htc := touch_fit l.crise h.chm h.chl k
  obtain ⟨l', us, hv, hf⟩ := l.drop hu
  refine ⟨h.pages, ⟨?_, ?_, ?_, h.now.root, ?_⟩, h.kept, htc.1, htc.2⟩
  · exact List.Nodup.sublist ((List.filter_sublist).map _) h.now.nd
  · intro n
    show (s.p.dropped k).uses n = true ↔ ∃ p ∈ m.now.filter (fun p => p.n != (k : Int)), p.n = n
    rw [us, Bool.and_eq_true, h.now.use]
    constructor
    · rintro ⟨⟨p, hp, e⟩, e2⟩
      refine ⟨p, List.mem_filter.2 ⟨hp, ?_⟩, e⟩
      have := of_decide_eq_true e2
      simpa [e] using this
    · rintro ⟨p, hp, e⟩
      obtain ⟨a, b⟩ := List.mem_filter.1 hp
      refine ⟨⟨p, a, e⟩, decide_eq_true fun e2 => ?_⟩
      simp [e, e2] at b
  · intro p hp hk
    obtain ⟨a, b⟩ := List.mem_filter.1 (show p ∈ m.now.filter (fun p => p.n != (k : Int)) from hp)
    show st ((s.p.dropped k).view s.d p.n.toNat) = p.text
    rw [hv]
    show st (if k = p.n.toNat then _ else _) = _
    have hu2 := (h.now.use p.n).2 ⟨p, a, rfl⟩
    obtain ⟨q, e, _⟩ := l.in_use hu2
    rw [if_neg fun e2 => by simp at b; omega]
    exact h.now.txt p a hk
  · show (s.p.dropped k).free = m.pages - 1 - ((m.now.filter fun p => p.n != (k : Int)).length : Int)
    have := filt_len m.now (k : Int) h.now.nd ((h.now.use k).1 hu)
    rw [hf, h.now.cnt]
    omega
theorem FitP.aborted (h : FitP s K m) (l : Lv len s.p s.d G K) (l' : Lv len s'.p s'.d K K) (e1 : s'.p.m = s.p.kept) (e2 : s'.p.kept = s.p.kept) (e3 : s'.p.comm s'.d = s.p.comm s.d) (e4 : s'.p.view s'.d = s.p.comm s.d) (e5 : s'.p.count = []) : FitP s' K m.abort := by
  have hp : s'.p.pages = s.p.pages := by rw [l.pages, l'.pages]
  have hus : s'.p.uses = usesU s.p.kept.used K := by funext n; rw [l'.uses, e1]; rfl
  have hfr : s'.p.free = (s.p.pages : Int) - (s.p.kept.used : Int) + (K.length : Int) := by rw [l'.free, e1, hp]
  refine ⟨by rw [hp]; exact h.pages, ?_, ?_, fun n => ?_, ?_⟩
  · rw [hus, hfr, e1, e4]; exact h.kept
  · rw [e2, e3, hp]; exact h.kept
  · rw [e5]; show _ ∈ [] ↔ _; simp [kLook_nil]
  · rw [e5]; rfl
theorem FitP.committed (h : FitP s K m) (l : Lv len s.p s.d G K) (l' : Lv len s'.p s'.d G G) (e1 : s'.p.m = s.p.m) (e2 : s'.p.kept = s.p.m) (e3 : ∀ k, 1 ≤ k → s'.p.view s'.d k = s.p.view s.d k) (e4 : ∀ k, 1 ≤ k → s'.p.comm s'.d k = s.p.view s.d k) (e5 : s'.p.count = []) : FitP s' G m.commit := by
  have hp : s'.p.pages = s.p.pages := by rw [l.pages, l'.pages]
  have hus : s'.p.uses = s.p.uses := by funext n; rw [l'.uses, l.uses, e1]
  have hus2 : usesU s'.p.kept.used G = s.p.uses := by funext n; rw [l.uses, e2]; rfl
  have hfr : s'.p.free = s.p.free := by rw [l'.free, l.free, e1, hp]
  have hfr2 : (s'.p.pages : Int) - (s'.p.kept.used : Int) + (G.length : Int) = s.p.free := by rw [l.free, e2, hp]
  have h1 : ∀ p ∈ m.now, 1 ≤ p.n.toNat := fun p hp => by
    obtain ⟨q, e, q1, _⟩ := l.in_use ((h.now.use p.n).2 ⟨p, hp, rfl⟩)
    omega
  refine ⟨by rw [hp]; exact h.pages, ?_, ?_, fun n => ?_, ?_⟩
  · rw [hus, hfr, e1]
    exact ⟨h.now.nd, h.now.use, fun p hp hk => by rw [e3 _ (h1 p hp)]; exact h.now.txt p hp hk, h.now.root, h.now.cnt⟩
  · rw [hus2, hfr2, e2]
    exact ⟨h.now.nd, h.now.use, fun p hp hk => by rw [e4 _ (h1 p hp)]; exact h.now.txt p hp hk, h.now.root, h.now.cnt⟩
  · rw [e5]; show _ ∈ [] ↔ _; simp [kLook_nil]
  · rw [e5]; rfl
theorem FitP.settled (h : FitP s K m) (l : Lv len s.p s.d G K) (l' : Lv len s'.p s'.d G K) (e1 : s'.p = s.p.settled) (e2 : s'.p.view s'.d = s.p.view s.d) (e3 : s'.p.comm s'.d = s.p.comm s.d) : FitP s' K m := by
  have hus : s'.p.uses = s.p.uses := by funext n; rw [l'.uses, l.uses, e1]; rfl
  have hfr : s'.p.free = s.p.free := by rw [l'.free, l.free, e1]; rfl
  have e4 : s'.p.kept = s.p.kept := by rw [e1]; rfl
  have e5 : s'.p.m = s.p.m := by rw [e1]; rfl
  have e6 : s'.p.pages = s.p.pages := by rw [e1]; rfl
  have e7 : s'.p.count = s.p.count := by rw [e1]; rfl
  exact ⟨by rw [e6]; exact h.pages, by rw [hus, hfr, e5, e2]; exact h.now, by rw [e4, e6, e3]; exact h.kept, by rw [e7]; exact h.chm, by rw [e7]; exact h.chl⟩
theorem FitP.standing (h : FitP s K m) : Standing s m :=
  ⟨by rw [h.now.cnt]; rfl, h.now.root, fun p hp => ⟨(h.now.use p.n).2 ⟨p, hp, rfl⟩, fun hk => h.now.txt p hp hk⟩⟩
end
end Go.Proofs.YteoeaojebklfjaaGreatDoor
namespace Go.Proofs.YteoeaojebklfjaaGreatDoor
open Go.RowKit Go.Maps
set_option linter.unusedVariables false
set_option linter.unusedSimpArgs false
def PlP (s : Sy) (m : Mi) (len n T : Nat) : Prop := ∃ G K, Lv len s.p s.d G K ∧ (∃ base rs, Lg len s base rs ∧ base + many base rs ≤ T) ∧ s.d.Calm len n ∧ FitP s K m
section
variable {w0 : Fr} {w w' : World} {L L' : Lo} {R R' : Nat} {F F' : Nat → Prop} {s s' : Sy} {M : Nat} {v v' : Mv} {m m' : Mi} {len n T base : Nat} {G K : List Nat} {rs : List Rec}
theorem Lg.pages (g : Lg len s base rs) {p' : Pg} (e1 : p'.pages = s.p.pages) (e2 : p'.dirty = s.p.dirty) : Lg len ⟨p', s.r, s.d⟩ base rs :=
  ⟨g.ring, g.holds, g.room, g.head, by show replayAll ((p'.pages : Int) - 1) rs [] = some p'.dirty; rw [e1, e2]; exact g.rep, g.base⟩
theorem Lg.ro (g : Lg len s base rs) (l : Lv len s.p s.d G K) : Ro s := by
  have h1 := g.room
  have h2 := g.base
  have h3 := l.l64
  have h4 := l.l400
  have h5 := l.nlen
  have h6 := l.few
  have h7 := l.dlen
  refine ⟨?_, ?_, by omega, by omega, ?_, by omega⟩
  · rw [g.ring]
    exact ⟨by show 1 ≤ len / 4; omega, by show 1 + len / 4 ≤ _; omega, by show base ≤ base + _; omega, by show base + _ ≤ base + _; omega, by show base + _ ≤ base + len / 4; omega, by show base + _ ≤ _; omega⟩
  · rw [g.ring, h7]; show 1 + len / 4 ≤ len; omega
  · rw [g.ring]; show base + many base rs ≤ _; omega
theorem settle_lv (l : Lv len s.p s.d G K) (g : Lg len s base rs) (hc : s.d.Calm len n) : ∃ s', s.settle s.r.top = (0, s') ∧ s'.p = s.p.settled ∧ Lv len s'.p s'.d G K ∧ Lg len s' (base + many base rs) [] ∧ s'.d.Calm len (n + 403) ∧ s'.p.comm s'.d = s.p.comm s.d ∧ s'.p.view s'.d = s.p.view s.d := by
  obtain ⟨s', e, p', pd, g', c', _, cm⟩ := settle_calm l.pd g hc
  have hvw : s'.p.view s'.d = s.p.view s.d := by
    funext k
    unfold Pg.view
    rw [cm, p']
    rfl
  refine ⟨s', e, p', ⟨l.l64, l.l400, pd.first, pd.pages, pd.dlen, pd.dok, pd.dirty, pd.dr, ?_, ?_, ?_, ?_, ?_, ?_, ?_, ?_, ?_, ?_, ?_⟩, g', c', cm, hvw⟩
  · rw [p']; exact l.now
  · rw [p']; exact l.nr
  · rw [p']; exact l.count
  · rw [p']; exact l.idle
  · rw [p']; exact l.mu
  · rw [p']; exact l.mr
  · rw [hvw, p']; exact l.fr
  · rw [p']; exact l.ku
  · rw [p']; exact l.kr
  · rw [cm, p']; exact l.km
  · rw [cm, p']; exact l.fk
theorem do_plays (h : Bo w0 w L R F s M v m) (p : PlP s m len n T) (hn : n ≤ 300000) (hT : T ≤ 999999000) (st : Stp) : Calls Tryz.prog 24 #[.pointer (some ⟨L.D, 0, none⟩), .pointer (some ⟨L.P, 0, none⟩), .pointer (some ⟨M, 0, none⟩), st.v] w fun e w' => ∃ s' m', DoOut w0 L.D M s' m' true false e w' ∧ PlP s' m' len (n + 600) (T + 100) := by
  obtain ⟨G, K, l, ⟨base, rs, g, hTb⟩, hc, f⟩ := p
  have li : Li s len n G K := ⟨l, hc.dead, hc.few⟩
  have lm := f.lim l
  have sm := f.same
  have ro := g.ro l
  have up : ∀ {s' : Sy}, s'.d.Calm len n → s'.d.Calm len (n + 600) := fun c => ⟨c.dead, c.set, c.len, c.few.mono (by omega)⟩
  have pl : ∀ {p' : Pg} {G' K' : List Nat} {m' : Mi}, Lv len p' s.d G' K' → p'.pages = s.p.pages → p'.dirty = s.p.dirty → FitP ⟨p', s.r, s.d⟩ K' m' → PlP ⟨p', s.r, s.d⟩ m' len (n + 600) (T + 100) := fun a b c d => ⟨_, _, a, ⟨base, rs, g.pages b c, by omega⟩, up (s' := s) hc, d⟩
  have same : PlP s m len (n + 600) (T + 100) := ⟨G, K, l, ⟨base, rs, g, by omega⟩, up (s' := s) hc, f⟩
  by_cases k0 : st.kind = 0
  · by_cases hf : s.p.free = 0
    · exact (do0_full h li (by omega) lm st k0 hf (by have := f.now.cnt; unfold Mi.free; omega)).mono fun e w' a => ⟨s, m, a, same⟩
    · refine (do0_take h li (by omega) lm sm st k0 hf (by have := f.now.cnt; unfold Mi.free; omega) f.pages).mono ?_
      rintro e w' ⟨k, p', G', t, a⟩
      exact ⟨_, _, a, pl t.lv t.pages t.dirty (f.took l t)⟩
  by_cases k1 : st.kind = 1
  · refine (do1 h li (by omega) lm sm st k1).mono ?_
    rintro e w' (⟨k, i, p, hu, hi, hp, a⟩ | a)
    · exact ⟨_, _, a, pl (l.write hu (fullB_len _)).1 rfl rfl (f.wrote l hu hi hp (fullB_len _))⟩
    · exact ⟨s, m, a, same⟩
  by_cases k2 : st.kind = 2
  · refine (do2 h li (by omega) lm sm st k2).mono ?_
    rintro e w' (⟨k, hu, a⟩ | a)
    · exact ⟨_, _, a, pl (l.drop hu).1 rfl rfl (f.dropped l hu)⟩
    · exact ⟨s, m, a, same⟩
  by_cases k3 : st.kind = 3
  · refine (do3 h li (by omega) lm sm st k3).mono ?_
    rintro e w' (⟨k, hu, a⟩ | a)
    · exact ⟨_, _, a, pl (l.setRoot hu) rfl rfl (f.rooted k)⟩
    · exact ⟨s, m, a, same⟩
  by_cases k4 : st.kind = 4
  · by_cases c1 : s.d.lasts.length / 8 < s.p.count.length
    · have e : s.commit = (3, s) := by unfold Sy.commit; rw [if_pos c1]
      exact (do4_full h li (by omega) lm sm st k4 ro e (by rw [f.chl]; exact c1)).mono fun e w' a => ⟨s, m, a, same⟩
    · by_cases c2 : s.p.m.root ≠ 0 ∧ s.p.uses (s.p.m.root : Int) = false
      · have e : s.commit = (1, s) := by unfold Sy.commit; rw [if_neg c1, if_pos c2]
        have hr := f.now.root
        refine (do4_root h li (by omega) lm sm st k4 ro e (by rw [f.chl]; exact c1) (by omega) ?_).mono fun e w' a => ⟨s, m, a, same⟩
        rcases sm m.root with ⟨a, _⟩ | ⟨_, a⟩
        · rw [← hr, c2.2] at a; cases a
        · exact a
      · have hroot : s.p.m.root = 0 ∨ s.p.uses (s.p.m.root : Int) = true := by
          by_cases e : s.p.m.root = 0
          · exact .inl e
          · cases hx : s.p.uses (s.p.m.root : Int) with
            | true => exact .inr rfl
            | false => exact absurd ⟨e, hx⟩ c2
        have hr := f.now.root
        obtain ⟨s', b', rs', e, r1, r2, r3, r4, _, r5, r6, r7, r8, r9, r10⟩ := commit_calm l g hc (by rw [← l.dlen]; omega) hroot (by omega)
        refine (do4_ok h li (by omega) lm sm st k4 ro e (by rw [f.chl]; exact c1) ?_ (by rw [l.dlen, r1.dlen])).mono fun e w' a => ⟨s', _, a, ⟨G, G, r1, ⟨b', rs', r2, by omega⟩, r4, f.committed l r1 r5 r6 r9 r10 r8⟩⟩
        rcases hroot with e | e
        · exact .inl (by omega)
        · rcases sm m.root with ⟨_, a⟩ | ⟨a, _⟩
          · exact .inr a
          · rw [← hr, e] at a; cases a
  by_cases k5 : st.kind = 5
  · obtain ⟨a1, a2, a3, a4, a5, a6, a7, a8, a9, a10⟩ := l.cm.abort
    refine (do5 h li (by omega) lm sm st k5 (by have := l.first; have := l.pages; have := l.dlen; have := l.l64; omega)).mono fun e w' a => ⟨_, _, a, ⟨K, K, a1, ⟨base, rs, ⟨g.ring, g.holds, g.room, g.head, ?_, g.base⟩, by omega⟩, up (s' := s) hc, f.aborted l a1 a2 a3 a4 a5 a8⟩⟩
    show replayAll (((s.p.abort s.d).pages : Int) - 1) rs [] = some (s.p.abort s.d).dirty
    rw [a10, a6]
    exact g.rep
  by_cases k6 : st.kind = 6
  · obtain ⟨s', e, p', l', g', c', cm, hvw⟩ := settle_lv l g hc
    exact (do6_ok h li (by omega) lm sm st k6 ro e).mono fun e w' a => ⟨s', m, a, ⟨G, K, l', ⟨_, _, g', by rw [many_nil]; omega⟩, ⟨c'.dead, c'.set, c'.len, c'.few.mono (by omega)⟩, f.settled l l' p' hvw cm⟩⟩
  · obtain ⟨s', e, r1, r2, r3, _, r4, r5, r6, r7, r8, r9, r10, r11, r12⟩ := open_core l.cm g hc
    refine (do7_ok h li (by omega) lm sm st (fun q q0 q6 e => ?_) ro e).mono fun e w' a => ⟨s', _, a, ⟨K, K, r1, ⟨_, _, r2, by rw [many_nil]; omega⟩, ⟨r3.dead, r3.set, r3.len, r3.few.mono (by omega)⟩, f.aborted l r1 r4 r5 r6 r7 r12⟩⟩
    have : q = 0 ∨ q = 1 ∨ q = 2 ∨ q = 3 ∨ q = 4 ∨ q = 5 ∨ q = 6 := by omega
    rcases this with rfl | rfl | rfl | rfl | rfl | rfl | rfl <;> contradiction
end
end Go.Proofs.YteoeaojebklfjaaGreatDoor
namespace Go.Proofs.YteoeaojebklfjaaGreatDoor
open Go.RowKit Go.Maps
set_option linter.unusedVariables false
set_option linter.unusedSimpArgs false
set_option maxRecDepth 20000
def Stp.vs (s : Stp) : List Value := [.int .i64 s.kind, .int .i64 s.at_, .int .u8 (s.what.toNat : Int), .bool s.odd]
def srow (l : List Stp) : List Value := l.flatMap Stp.vs
theorem srow_len : ∀ l : List Stp, (srow l).length = l.length * 4
  | [] => rfl
  | p :: l => by
    have := srow_len l
    unfold srow at this ⊢
    rw [List.flatMap_cons, List.length_append, this, List.length_cons]
    show 4 + _ = _
    omega
theorem srow_at : ∀ (l : List Stp) (i : Nat) {s : Stp}, l[i]? = some s → (srow l)[i * 4]? = some (.int .i64 s.kind) ∧ (srow l)[i * 4 + 1]? = some (.int .i64 s.at_) ∧ (srow l)[i * 4 + 2]? = some (.int .u8 (s.what.toNat : Int)) ∧ (srow l)[i * 4 + 3]? = some (.bool s.odd)
  | [], i, p, h => by simp at h
  | q :: l, 0, p, h => by
    simp at h; subst h
    exact ⟨rfl, rfl, rfl, rfl⟩
  | q :: l, i + 1, p, h => by
    have h' : l[i]? = some p := by simpa using h
    obtain ⟨a, b, c, d⟩ := srow_at l i h'
    have e : srow (q :: l) = .int .i64 q.kind :: .int .i64 q.at_ :: .int .u8 (q.what.toNat : Int) :: .bool q.odd :: srow l := rfl
    have e1 : (i + 1) * 4 = i * 4 + 4 := by omega
    rw [e, e1]
    exact ⟨by simpa using a, by simpa using b, by simpa using c, by simpa using d⟩
theorem srow_cells {w : World} {a : Option Addr} {n c : Nat} {l : List Stp} (h : Rd w 4 (.slice a n c) l.length (srow l)) {i : Nat} {s : Stp} (hi : l[i]? = some s) : ∃ g off, a = some ⟨g, off, none⟩ ∧ g < w.heap.size ∧ w.cell? ⟨g, off + i * 4, none⟩ = some (.int .i64 s.kind) ∧ w.cell? ⟨g, off + (i * 4 + 1), none⟩ = some (.int .i64 s.at_) ∧ w.cell? ⟨g, off + (i * 4 + 2), none⟩ = some (.int .u8 (s.what.toNat : Int)) ∧ w.cell? ⟨g, off + (i * 4 + 3), none⟩ = some (.bool s.odd) := by
  obtain ⟨hl, _⟩ := List.getElem?_eq_some_iff.1 hi
  obtain ⟨g, off, cap, e, hg, hc⟩ := h.at_ (by omega)
  injection e with e _ _
  obtain ⟨c0, c1, c2, c3⟩ := srow_at l i hi
  exact ⟨g, off, e, hg, hc _ _ c0, hc _ _ c1, hc _ _ c2, hc _ _ c3⟩
theorem long_any (a : Option Addr) (n c : Nat) (w : World) : Calls Tryz.prog 23 #[.slice a n c] w fun e w' => e = .returned (.bool (decide (150 < (n : Int)))) ∧ w = w' := by
  go_enter Tryz.func23, Tryz.ntmps23
  go_wp2_with fail
  go_ret
  exact ⟨rfl, rfl⟩
def mind0 (p : Nat) : Mi := ⟨(p : Int), [], [], 0, 0, []⟩
theorem mind0_at (w : World) (p : Nat) : MindAt (w.alloc (.cells #[.int .i64 (p : Int), .slice none 0 0, .slice none 0 0, .int .i64 0, .int .i64 0, .slice none 0 0] 50)) w.heap.size ⟨.slice none 0 0, .slice none 0 0, .slice none 0 0⟩ (mind0 p) where
  cells := cells_new w [.int .i64 (p : Int), .slice none 0 0, .slice none 0 0, .int .i64 0, .int .i64 0, .slice none 0 0] 50
  now := Vec.nil _ _
  kept := Vec.nil _ _
  ch := Vec.nil _ _
  an := fun h => by cases h
  ak := fun h => by cases h
  ac := fun h => by cases h
  nk := fun g h => by cases h
  nc := fun g h => by cases h
  kc := fun g h => by cases h
end Go.Proofs.YteoeaojebklfjaaGreatDoor
namespace Go.Proofs.YteoeaojebklfjaaGreatDoor
open Go.RowKit Go.Maps
set_option linter.unusedVariables false
set_option linter.unusedSimpArgs false
set_option maxRecDepth 20000
theorem fit0 {len : Nat} (h64 : 64 ≤ len) (h400 : len ≤ 400) : FitP (formatS len) [] (mind0 (len - 1 - len / 4)) := by
  obtain ⟨l, g, _, _, hm, hk, hc, hn⟩ := format_lv h64 h400
  have hu : ∀ n : Int, (formatS len).p.uses n = false := fun n => by
    rw [l.uses, hm]
    by_cases h : 0 < n
    · rw [show decide (n < ((meta1.used : Nat) : Int)) = false from decide_eq_false (by show ¬ n < ((1 : Nat) : Int); omega)]; simp
    · rw [decide_eq_false h]; rfl
  have hu2 : ∀ n : Int, usesU meta1.used [] n = false := fun n => by
    unfold usesU
    by_cases h : 0 < n
    · rw [show decide (n < ((meta1.used : Nat) : Int)) = false from decide_eq_false (by show ¬ n < ((1 : Nat) : Int); omega)]; simp
    · rw [decide_eq_false h]; rfl
  have hp : (formatS len).p.pages = len - 1 - len / 4 := l.pages
  refine ⟨by rw [hp]; rfl, ⟨List.nodup_nil, fun n => ⟨(fun h => by rw [hu] at h; cases h), (fun ⟨p, hp, _⟩ => by cases hp)⟩, (fun p hp => by cases hp), by rw [hm]; rfl, ?_⟩, ⟨List.nodup_nil, fun n => ⟨(fun h => by rw [hk, hu2] at h; cases h), (fun ⟨p, hp, _⟩ => by cases hp)⟩, (fun p hp => by cases hp), by rw [hk]; rfl, ?_⟩, ?_, ?_⟩
  · rw [l.free, hm, hp]; show _ - ((1 : Nat) : Int) + 0 = ((len - 1 - len / 4 : Nat) : Int) - 1 - 0; omega
  · rw [hk, hp]; show _ - ((1 : Nat) : Int) + 0 = ((len - 1 - len / 4 : Nat) : Int) - 1 - 0; omega
  · intro n
    rw [hc, kLook_nil]
    exact ⟨(fun h => by cases h), fun h => absurd rfl h⟩
  · rw [hc]; rfl
theorem long_no (a : Option Addr) (n c : Nat) (w : World) (h : n ≤ 150) : Calls Tryz.prog 23 #[.slice a n c] w fun e w' => e = .returned (.bool false) ∧ w = w' := by
  have := long_any a n c w
  rw [decide_eq_false (by omega)] at this
  exact this
theorem long_yes (a : Option Addr) (n c : Nat) (w : World) (h : 150 < n) : Calls Tryz.prog 23 #[.slice a n c] w fun e w' => e = .returned (.bool true) ∧ w = w' := by
  have := long_any a n c w
  rw [decide_eq_true (by omega)] at this
  exact this
theorem sectors_is (x : Int) : ∃ sec : Nat, wrap64 (64 + wrap64 ((IntKind.u64.wrap x).tmod 300)) = (sec : Int) ∧ 64 ≤ sec ∧ sec ≤ 363 := by
  obtain ⟨m, h1, h2⟩ := mod_is x 300 (by decide) (by decide)
  refine ⟨m + 64, ?_, by omega, by omega⟩
  rw [h1, IntWalk.wrap64_in _ (by omega)]
  omega
theorem plays_long (x : Int) (a : Option Addr) (n c : Nat) (w : World) (h : 150 < n) : Calls Tryz.prog 5 #[.int .i64 x, .slice a n c] w fun e w' => e = .returned (.bool true) ∧ Only None' w w' := by
  go_enter Tryz.func5, Tryz.ntmps5
  go_wp2_with fail
  refine (long_yes a n c w h).mono ?_
  rintro e w1 ⟨rfl, rfl⟩
  go_wp2_with fail
  go_ret
  exact ⟨rfl, Only.refl _ _⟩
set_option maxHeartbeats 8000000 in
theorem plays_main (x : Int) (a : Option Addr) (n c : Nat) (l : List Stp) (w : World) (rd : Rd w 4 (.slice a n c) l.length (srow l)) (h : n ≤ 150) : Calls Tryz.prog 5 #[.int .i64 x, .slice a n c] w fun e w' => e = .returned (.bool true) ∧ Only None' w w' := by
  have HLN : Hid (l.length = n ∧ n ≤ 150) := Lib.hid ⟨by
    obtain ⟨a', c', e⟩ := rd.shape
    injection e with _ e _
    exact e.symm, h⟩
  obtain ⟨sec, hsec, hs1, hs2⟩ := sectors_is x
  have RD : Hid (∀ w', Only None' w w' → Rd w' 4 (.slice a n c) l.length (srow l)) := Lib.hid fun w' o => rd.only o fun _ _ _ _ e => e
  clear rd
  go_enter Tryz.func5, Tryz.ntmps5
  go_wp2_with fail
  refine (long_no a n c w h).mono ?_
  rintro e w1 ⟨rfl, rfl⟩
  go_wp2_with fail
  simp only [hsec]
  refine (fresh_any sec (sec : Int) rfl hs1 (by omega) w).mono ?_
  rintro e w2 ⟨L, R, F, rfl, hp⟩
  have HP := Lib.hid hp
  have s0 : (64 : Int) ≤ (sec : Int) := by omega
  have s1 : (sec : Int) ≤ 363 := by omega
  have HS := Lib.hid (And.intro hs1 hs2)
  have HSE : Hid ((sec : Int) - 1 - (sec : Int) / 4 = ((sec - 1 - sec / 4 : Nat) : Int)) := Lib.hid (by omega)
  have hb0 : Bo ⟨w, fun _ => False⟩ (w2.alloc (.cells #[.int .i64 ((sec : Int) - 1 - (sec : Int) / 4), .slice none 0 0, .slice none 0 0, .int .i64 0, .int .i64 0, .slice none 0 0] 50)) L R F (formatS sec) w2.heap.size ⟨.slice none 0 0, .slice none 0 0, .slice none 0 0⟩ (mind0 (sec - 1 - sec / 4)) := by
    rw [HSE.out]
    refine ⟨hp.at_.new ((Only.refl None' w2).alloc _), mind0_at w2 _, fun k hk e => ?_, fun k hk => .inl (hp.new k hk), fun k hk => ?_, hp.only.trans ((Only.refl None' w2).alloc _)⟩
    · have := hp.at_.lt e
      rcases hk with rfl | e | e | e
      · omega
      · cases e
      · cases e
      · cases e
    · rcases hk with rfl | e | e | e
      · exact .inl hp.only.size
      · cases e
      · cases e
      · cases e
  have hpl : PlP (formatS sec) (mind0 (sec - 1 - sec / 4)) sec 4 0 := ⟨[], [], hp.lv, hp.lg, hp.calm, fit0 hs1 (by omega)⟩
  have H0 := Lib.hid (And.intro hb0 hpl)
  clear hp hsec hs1 hs2 h hb0 hpl HP
  go_wp2_with fail
  go_loopg [6, 8] n (fun gg pv t wr => ∃ (i : Nat) (s : Sy) (mm : Mi) (L2 : Lo) (R2 : Nat) (F2 : Nat → Prop) (v2 : Mv), gg = n - i ∧ i ≤ n ∧ t = .int .i64 (i : Int) ∧ pv = .pointer (some ⟨L2.P, 0, none⟩) ∧ Hid (Bo ⟨w, fun _ => False⟩ wr L2 R2 F2 s w2.heap.size v2 mm ∧ L2.D = L.D ∧ PlP s mm sec (4 + 600 * i) (100 * i)))
  case atStart => exact ⟨0, formatS sec, mind0 (sec - 1 - sec / 4), L, R, F, _, rfl, Nat.zero_le _, rfl, rfl, Lib.hid ⟨H0.out.1, rfl, H0.out.2⟩⟩
  case round =>
    clear H0
    obtain ⟨i, s, mm, L2, R2, F2, v2, rfl, hi, rfl, rfl, HA⟩ := hrel
    rename World => wr
    by_cases hlt : i < n
    · have hil : i < l.length := by have := HLN.out.1; omega
      obtain ⟨st, hst⟩ : ∃ st, l[i]? = some st := ⟨_, List.getElem?_eq_getElem hil⟩
      obtain ⟨g, off, rfl, _, c0, c1, c2, c3⟩ := srow_cells (RD.out wr HA.out.1.only) hst
      have i0 : (0 : Int) ≤ (i : Int) := by omega
      have i1 : (i : Int) < (n : Int) := by omega
      have hn150 := HLN.out.2
      have hdo := do_plays HA.out.1 HA.out.2.2 (by omega) (by omega) st
      rw [HA.out.2.1] at hdo
      have HD := Lib.hid hdo
      have HI := Lib.hid (And.intro hlt hn150)
      have c1' : wr.cell? ⟨g, off + i * 4 + 1, none⟩ = some (.int .i64 st.at_) := c1
      have c2' : wr.cell? ⟨g, off + i * 4 + 2, none⟩ = some (.int .u8 (st.what.toNat : Int)) := c2
      have c3' : wr.cell? ⟨g, off + i * 4 + 3, none⟩ = some (.bool st.odd) := c3
      clear hlt hil hst hdo hi hn150 c1 c2 c3
      go_wp2_with fail
      refine HD.out.mono ?_
      rintro e w5 ⟨s', m', ⟨L5, R5, F5, v5, rfl, hb5, hd5⟩, hp5⟩
      obtain ⟨G5, K5, lv5, lg5, calm5, fit5⟩ := id hp5
      have hst5 := stands_any hb5 ⟨lv5, calm5.dead, calm5.few⟩ (by have := HI.out; omega) (fit5.lim lv5) fit5.pages
      have HST := Lib.hid (And.intro hst5 fit5.standing)
      have HA5 := Lib.hid (And.intro hb5 (And.intro hd5 hp5))
      clear hb5 hd5 hp5 lv5 lg5 calm5 fit5 hst5 HD HA c0 c1' c2' c3'
      go_wp2_with fail
      refine HST.out.1.mono ?_
      rintro e w6 ⟨b, rfl, hb, o6⟩
      have hbt : b = true := hb.2 HST.out.2
      subst hbt
      have HA6 : Hid (Bo ⟨w, fun _ => False⟩ w6 L5 R5 F5 s' w2.heap.size v5 m' ∧ L5.D = L.D ∧ PlP s' m' sec (4 + 600 * (i + 1)) (100 * (i + 1))) := Lib.hid ⟨HA5.out.1.new o6, HA5.out.2.1, HA5.out.2.2⟩
      clear hb o6 HA5 HST
      go_wp2_with fail
      go_roundg (n - (i + 1))
      case rel => exact ⟨i + 1, s', m', L5, R5, F5, v5, rfl, HI.out.1, by first | exact next_int (by have := HI.out.2; have := HI.out.1; omega) | rfl | (congr 1), rfl, HA6⟩
      case measure => have := HI.out.1; omega
    · have i1 : ¬ (i : Int) < (n : Int) := by omega
      clear hi hlt
      go_wp2_with fail
      go_ret
      exact ⟨rfl, HA.out.1.only⟩
theorem plays_walk (x : Int) (v : Value) (l : List Stp) (w : World) (rd : Rd w 4 v l.length (srow l)) : Calls Tryz.prog 5 #[.int .i64 x, v] w fun e w' => e = .returned (.bool true) ∧ Below w.heap.size w w' := by
  obtain ⟨a, n, c, rfl⟩ := rd.shape'
  by_cases h : n ≤ 150
  · exact (plays_main x a n c l w rd h).mono fun e w' ⟨h1, o⟩ => ⟨h1, o.below (Nat.le_refl _) fun _ e => e.elim⟩
  · exact (plays_long x a n c w (by omega)).mono fun e w' ⟨h1, o⟩ => ⟨h1, o.below (Nat.le_refl _) fun _ e => e.elim⟩
end Go.Proofs.YteoeaojebklfjaaGreatDoor
namespace Go.Proofs.YteoeaojebklfjaaGreatDoor
open Go.RowKit Go.Maps Go.WideShapes Go.ChangeShapes
set_option linter.unusedVariables false
noncomputable def fs54 : Array Field := match Tryz.prog.underlying 54 with
  | some (.struct fs) => fs
  | _ => #[]
theorem under54 : Tryz.prog.underlying 54 = some (.struct fs54) := by kernel_rfl
theorem hone54 : Go.Deep.oneCellFields Tryz.prog fs54 = true := by kernel_rfl
theorem cells54 : Tryz.prog.cellsOf 54 = fs54.size := by kernel_rfl
theorem size54 : fs54.size = 4 := by kernel_rfl
theorem under45 : Tryz.prog.underlying 45 = some (.slice 54) := by kernel_rfl
theorem f54 : (fs54.toList.map (·.type)) = [3, 3, 5, 4] := by kernel_rfl
theorem f54at (i : Nat) (t : TypeId) (h : (fs54.toList.map (·.type))[i]? = some t) : ∃ f, fs54[i]? = some f ∧ f.type = t := by
  rw [List.getElem?_map, Array.getElem?_toList] at h
  cases hf : fs54[i]? with
  | none => rw [hf] at h; cases h
  | some f => rw [hf] at h; injection h with h; exact ⟨f, rfl, h⟩
theorem srow_rd {w : World} {a : Option Addr} {len cap : Nat} {l : List Stp} (hl : l.length = len) (hn : a = none → len = 0 ∧ cap = 0) (hs : ∀ x, a = some x → x.spot = none) (hc : len ≤ cap) (hm : cap ≤ maxLen)
    (h : ∀ j (hj : j < l.length), ∃ b off, a = some ⟨b, off, none⟩ ∧ w.cell? ⟨b, off + j * 4 + 0, none⟩ = some (.int .i64 l[j].kind) ∧ w.cell? ⟨b, off + j * 4 + 1, none⟩ = some (.int .i64 l[j].at_) ∧ w.cell? ⟨b, off + j * 4 + 2, none⟩ = some (.int .u8 (l[j].what.toNat : Int)) ∧ w.cell? ⟨b, off + j * 4 + 3, none⟩ = some (.bool l[j].odd)) : Rd w 4 (.slice a len cap) l.length (srow l) := by
  refine ⟨by rw [srow_len], ?_⟩
  cases a with
  | none =>
    obtain ⟨rfl, rfl⟩ := hn rfl
    exact .inl ⟨rfl, hl⟩
  | some x =>
    obtain ⟨b, off, s⟩ := x
    have hsp := hs _ rfl
    simp only at hsp
    subst hsp
    refine .inr ⟨⟨b, off, none⟩, cap, by rw [hl], by omega, hm, fun j u hu => ?_⟩
    rw [add_mid' (⟨b, off, none⟩) j rfl]
    show w.cell? ⟨b, off + j, none⟩ = some u
    obtain ⟨hj, _⟩ := List.getElem?_eq_some_iff.1 hu
    rw [srow_len] at hj
    have hi : j / 4 < l.length := by omega
    obtain ⟨b2, off2, e, c0, c1, c2, c3⟩ := h (j / 4) hi
    injection e with e
    injection e with e1 e2
    subst e1; subst e2
    obtain ⟨a0, a1, a2, a3⟩ := srow_at l (j / 4) (List.getElem?_eq_getElem hi)
    have hr : j % 4 = 0 ∨ j % 4 = 1 ∨ j % 4 = 2 ∨ j % 4 = 3 := by omega
    rcases hr with hr | hr | hr | hr
    · have ej : j = j / 4 * 4 := by omega
      rw [ej] at hu ⊢
      rw [a0] at hu
      injection hu with hu; subst hu
      exact c0
    · have ej : j = j / 4 * 4 + 1 := by omega
      rw [ej] at hu ⊢
      rw [a1] at hu
      injection hu with hu; subst hu
      rw [← Nat.add_assoc]
      exact c1
    · have ej : j = j / 4 * 4 + 2 := by omega
      rw [ej] at hu ⊢
      rw [a2] at hu
      injection hu with hu; subst hu
      rw [← Nat.add_assoc]
      exact c2
    · have ej : j = j / 4 * 4 + 3 := by omega
      rw [ej] at hu ⊢
      rw [a3] at hu
      injection hu with hu; subst hu
      rw [← Nat.add_assoc]
      exact c3
set_option maxRecDepth 20000 in
theorem open_stps {H : Type} {enc : TypeId × Value → H} {W : World} {base : Nat} {v : Value} {d : DataW H} {ps : List MemPlace}
    (hok : Value.okWide Tryz.prog W .any base 45 v) (hd : DataW.Trod enc Tryz.prog W 0 (fun _ => true) true 45 v d ps) (hw : ∀ n ∈ d.weights Tryz.prog 45, n ≤ reachBytes) :
    ∃ l : List Stp, Rd W 4 v l.length (srow l) := by
  obtain ⟨a, len, cap, rfl, _, hn, hb, hc, hm, hat⟩ := open_flat under45 under54 hone54 cells54 hok hd hw
  have key : ∀ j, j < len → ∃ s : Stp, ∃ b off, a = some ⟨b, off, none⟩ ∧ W.cell? ⟨b, off + j * 4 + 0, none⟩ = some (.int .i64 s.kind) ∧ W.cell? ⟨b, off + j * 4 + 1, none⟩ = some (.int .i64 s.at_) ∧ W.cell? ⟨b, off + j * 4 + 2, none⟩ = some (.int .u8 (s.what.toNat : Int)) ∧ W.cell? ⟨b, off + j * 4 + 3, none⟩ = some (.bool s.odd) := by
    intro j hj
    obtain ⟨b, off, rfl, hf⟩ := hat j hj
    rw [size54] at hf
    obtain ⟨g0, e0, t0⟩ := f54at 0 3 (by rw [f54]; rfl)
    obtain ⟨g1, e1, t1⟩ := f54at 1 3 (by rw [f54]; rfl)
    obtain ⟨g2, e2, t2⟩ := f54at 2 5 (by rw [f54]; rfl)
    obtain ⟨g3, e3, t3⟩ := f54at 3 4 (by rw [f54]; rfl)
    obtain ⟨u0, c0, s0⟩ := hf 0 g0 e0
    obtain ⟨u1, c1, s1⟩ := hf 1 g1 e1
    obtain ⟨u2, c2, s2⟩ := hf 2 g2 e2
    obtain ⟨u3, c3, s3⟩ := hf 3 g3 e3
    rw [t0] at s0; rw [t1] at s1; rw [t2] at s2; rw [t3] at s3
    obtain ⟨n0, rfl, _⟩ := s0.int _ Tryz.underlying3
    obtain ⟨n1, rfl, _⟩ := s1.int _ Tryz.underlying3
    obtain ⟨n2, rfl, l2⟩ := s2.int _ Tryz.underlying5
    obtain ⟨n3, rfl⟩ := s3.bool Tryz.underlying4
    obtain ⟨c, rfl⟩ := u8_of l2
    exact ⟨⟨n0, n1, c, n3⟩, b, off, rfl, c0, c1, c2, c3⟩
  obtain ⟨ss, hl, hp⟩ := list_of _ len key
  exact ⟨ss, srow_rd hl hn (fun x hx => (hb x hx).1) hc hm fun j hj => hp j hj⟩
end Go.Proofs.YteoeaojebklfjaaGreatDoor
namespace Go.Proofs.YteoeaojebklfjaaGreatDoor
open Go.RowKit Go.Maps Go.WideShapes Go.ChangeShapes
theorem cells4 : Tryz.prog.cellsOf 4 = 1 := by kernel_rfl
theorem bytes4 : Tryz.prog.bytesOf 4 = 1 := by kernel_rfl
theorem reach_le : reachBytes ≤ 140737488351232 := by decide
set_option maxRecDepth 20000 in
theorem open_keep {H : Type} {enc : TypeId × Value → H} {W : World} {base : Nat} {v : Value} {d : DataW H} {ps : List MemPlace}
    (hok : Value.okWide Tryz.prog W .any base 43 v) (hd : DataW.Trod enc Tryz.prog W 0 (fun _ => true) true 43 v d ps) (hw : ∀ n ∈ d.weights Tryz.prog 43, n ≤ reachBytes) :
    ∃ l : List Bool, Rd W 1 v l.length (bo l) ∧ l.length ≤ 140737488351232 := by
  obtain ⟨l, h1, h2⟩ := open_bools Tryz.underlying43 Tryz.underlying4 cells4 hok hd hw
  rw [bytes4, Nat.mul_one] at h2
  exact ⟨l, h1, Nat.le_trans h2 reach_le⟩
end Go.Proofs.YteoeaojebklfjaaGreatDoor
namespace Go.Proofs.YteoeaojebklfjaaGreatDoor
open Go.RowKit Go.Maps Go.WideShapes Go.ChangeShapes
set_option linter.unusedVariables false
theorem rd_u8s {H : Type} {P : Program} {enc : TypeId × Value → H} {W : World} {spare : Nat → Bool} {held : Bool} {t e : TypeId} {fuel : Nat} {v : Value} {x : DataW H × List MemPlace}
    (ht : P.underlying t = some (.slice e)) (he : P.underlying e = some (.int .u8)) (hc : P.cellsOf e = 1) (h : DataW.trod enc P W 0 spare held fuel t [v] = some x) :
    ∃ l : List UInt8, Rd W 1 v l.length (bv l) := by
  rcases Go.Deep.open_slice1 ht hc h with ⟨hv, _⟩ | ⟨a, len, cap, m, n, V, D, Pl, hv, _, hl, hm, hmm, hxe, hx⟩
  · simp at hv
    exact ⟨[], ⟨by simp [bv], .inl ⟨hv, rfl⟩⟩⟩
  · simp at hv
    have hlm : len ≤ m := by rw [hmm]; split <;> omega
    have key : ∀ j, j < len → ∃ b : UInt8, W.cell? (a.add j) = some (.int .u8 (b.toNat : Int)) := by
      intro j hj
      obtain ⟨h1, h2⟩ := hx j (by omega)
      obtain ⟨b, q, hw⟩ := DataW.trod_int he h2
      simp at q
      obtain ⟨c, hcq⟩ := u8_of hw.2
      exact ⟨c, by rw [h1, q, hcq]⟩
    obtain ⟨l, hll, hp⟩ := list_of _ len key
    refine ⟨l, ⟨by simp [bv], .inr ⟨a, cap, by rw [hv, hll], by omega, hm, fun j u hu => ?_⟩⟩⟩
    unfold bv at hu
    rw [List.getElem?_map] at hu
    cases hj : l[j]? with
    | none => rw [hj] at hu; cases hu
    | some b =>
      rw [hj] at hu
      injection hu with hu
      obtain ⟨h1, rfl⟩ := List.getElem?_eq_some_iff.1 hj
      rw [← hu]; exact hp j h1
theorem cells5u : Tryz.prog.cellsOf 5 = 1 := by kernel_rfl
set_option maxRecDepth 20000 in
theorem open_u8s {H : Type} {enc : TypeId × Value → H} {W : World} {base : Nat} {v : Value} {d : DataW H} {ps : List MemPlace}
    (hok : Value.okWide Tryz.prog W .any base 35 v) (hd : DataW.Trod enc Tryz.prog W 0 (fun _ => true) true 35 v d ps) (hw : ∀ n ∈ d.weights Tryz.prog 35, n ≤ reachBytes) :
    ∃ l : List UInt8, Rd W 1 v l.length (bv l) := by
  obtain ⟨fuel, hm⟩ := hd
  obtain ⟨a, len, cap, rfl⟩ := okWide_slice' Tryz.underlying35 hok
  exact rd_u8s Tryz.underlying35 Tryz.underlying5 cells5u (x := (d, ps)) (by simpa [Value.cells] using hm)
theorem okWide_bool' {P : Program} {W : World} {base : Nat} {t : TypeId} {v : Value} (ht : P.underlying t = some .bool) (h : Value.okWide P W .any base t v) : ∃ a, v = .bool a := by
  simp only [Value.okWide, ht, Cell.okWide] at h
  cases v <;> simp only [Cell.ok, ht] at h
  exact ⟨_, rfl⟩
end Go.Proofs.YteoeaojebklfjaaGreatDoor
