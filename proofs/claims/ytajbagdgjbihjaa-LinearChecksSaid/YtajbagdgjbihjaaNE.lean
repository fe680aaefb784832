/- Check (10): its state. -/
import Derived.Test.YtajbagdgjbihjaaND
import Derived.Test.YtajbagdgjbihjaaNB
import Derived.Test.YtajbagdgjbihjaaQ2
import Derived.Test.YtajbagdgjbihjaaQ3
import Derived.Maps.RangeWalk
import Derived.Sort.MapsRangeIn
namespace Go.Proofs.Ytajbagdgjbihjaa
open Go.RowKit Go.Maps
set_option linter.unusedVariables false

theorem run_few : ∀ (l : List Ev) (all all' : List Opn) (n : Nat), opRun all n l = some all' → all'.length ≤ all.length + l.length
  | [], all, all', n, h => by
    injection h with h
    subst h
    exact Nat.le_refl _
  | e :: l, all, all', n, h => by
    rw [opRun_cons] at h
    cases hs : opStep all n e with
    | none => rw [hs] at h; cases h
    | some a =>
      rw [hs] at h
      have h1 := run_few l a all' (n + 1) h
      have h2 : a.length ≤ all.length + 1 := by
        cases hb : e.back with
        | false =>
          obtain ⟨rfl, _⟩ := opStep_call hb hs
          rw [List.length_append]; exact Nat.le_refl _
        | true =>
          obtain ⟨k, o, _, _, _, _, _, _, rfl⟩ := opStep_back hb hs
          rw [List.length_set]; omega
      rw [List.length_cons]
      omega
theorem ops_run {l : List Ev} {L : List Opn} (h : opsOf l = some L) : ∃ all, opRun [] 0 l = some all ∧ L = all.filterMap Opn.fix := by
  unfold opsOf at h
  cases hr : opRun [] 0 l with
  | none => rw [hr] at h; cases h
  | some all =>
    rw [hr] at h
    injection h with h
    exact ⟨all, rfl, h.symm⟩
theorem ops_few {l : List Ev} {L : List Opn} (h : opsOf l = some L) : L.length ≤ l.length := by
  obtain ⟨all, h1, rfl⟩ := ops_run h
  have := run_few l [] all 0 h1
  rw [List.length_nil, Nat.zero_add] at this
  exact Nat.le_trans (List.length_filterMap_le ..) this
theorem ops_sharp {l : List Ev} {L : List Opn} (h : opsOf l = some L) : Sharp L := by
  obtain ⟨all, h1, rfl⟩ := ops_run h
  have hs := (sane_run (Nat.le_refl l.length) (by rw [List.take_length]; exact h1)).sharp
  intro p hp q hq h0
  obtain ⟨p', hp', e1⟩ := List.mem_filterMap.1 hp
  obtain ⟨q', hq', e2⟩ := List.mem_filterMap.1 hq
  obtain ⟨_, a2, _, _⟩ := fix_some e1
  obtain ⟨_, _, _, b4⟩ := fix_some e2
  rcases b4 with rfl | b4
  · rw [a2]; exact hs p' hp' q hq' h0
  · omega
/-- how a slice reads as an element of a map: as itself -/
def rowR (v : Value) : Option (DataW Value × List MemPlace) := match v with
  | .slice a n c => some (.held (.slice a n c), [])
  | _ => none
theorem rowR_slice (a : Option Addr) (n c : Nat) : rowR (.slice a n c) = some (.held (.slice a n c), []) := rfl
theorem rowR_inv {v : Value} {z : DataW Value × List MemPlace} (h : rowR v = some z) : z = (.held v, []) ∧ ∃ a n c, v = .slice a n c := by
  unfold rowR at h
  split at h
  · injection h with h; exact ⟨h.symm, _, _, _, rfl⟩
  · cases h
theorem under58 : Try.prog.underlying 58 = some (.map 9 35) := by kernel_rfl
theorem zero35 (w : World) : (zeroValue 35).run Try.prog w = .ok (.slice none 0 0) w := by kernel_rfl
def ks (k : ByteArray) : Lit := .string k.data.toList
theorem ks_inj {a b : ByteArray} (h : ks a = ks b) : a = b := by
  unfold ks at h
  injection h with h
  have := Array.ext' h
  cases a; cases b; simp_all
theorem owns_sameV {w w' : World} {R : Value → Option (DataW Value × List MemPlace)} {b n : Nat} {D : DataW Value} (h : w.ownsMap Try.prog 9 R b n D) (hb : w'.heap[b]? = w.heap[b]?) : w'.ownsMap Try.prog 9 R b n D := by
  obtain ⟨es, clock, h1, h2, h3, h4⟩ := h
  exact ⟨es, clock, hb.trans h1, h2, h3, h4⟩
structure ByIn (w wr : World) (B : Nat) (D : DataW Value) (n : Nat) (L : List Opn) (f : ByteArray → Value) : Prop where
  only : Only None' w wr
  new : w.heap.size ≤ B
  map : wr.ownsMap Try.prog 9 rowR B n D
  at_ : ∀ key, key.size ≤ maxLen → D.atKey (ks key) (.held (.slice none 0 0)) = .held (f key)
  row : ∀ key, Vec wr 12 (f key) (byKey L key).length ((byKey L key).flatMap Opn.row)
  own : ∀ key g, (f key).ownBlock = some g → w.heap.size ≤ g ∧ g ≠ B
  apart : ∀ k1 k2 g, (f k1).ownBlock = some g → (f k2).ownBlock = some g → k1 = k2
section
variable {w wr w1 w2 w3 : World} {B n : Nat} {D : DataW Value} {L : List Opn} {f : ByteArray → Value} {o : Opn} {v : Value}
theorem ByIn.keep (h : ByIn w wr B D n L f) (o : Only None' wr w1) : ByIn w w1 B D n L f :=
  ⟨h.only.trans o, h.new, owns_sameV h.map (o.block B h.map.lt fun e => e), h.at_, fun key => (h.row key).only o fun _ _ e => e, h.own, h.apart⟩
theorem byKey_skip (h : ¬ (0 ≤ o.til ∨ o.op.kind ≠ 1)) (key : ByteArray) : byKey (L ++ [o]) key = byKey L key := by
  unfold byKey
  rw [List.filter_append]
  have : looked key o = false := by unfold looked; exact decide_eq_false fun e => h e.2
  rw [List.filter_cons, this]
  simp
theorem byKey_put (h : 0 ≤ o.til ∨ o.op.kind ≠ 1) (key : ByteArray) : byKey (L ++ [o]) key = if key = o.op.key then byKey L key ++ [o] else byKey L key := by
  unfold byKey
  rw [List.filter_append]
  by_cases hk : key = o.op.key
  · have : looked key o = true := by unfold looked; exact decide_eq_true ⟨hk.symm, h⟩
    rw [List.filter_cons, this, if_pos hk]
    rfl
  · have : looked key o = false := by unfold looked; exact decide_eq_false fun e => hk e.1.symm
    rw [List.filter_cons, this, if_neg hk]
    simp
theorem ByIn.skip (h : ByIn w wr B D n L f) (ho : ¬ (0 ≤ o.til ∨ o.op.kind ≠ 1)) : ByIn w wr B D n (L ++ [o]) f :=
  ⟨h.only, h.new, h.map, h.at_, fun key => by rw [byKey_skip ho]; exact h.row key, h.own, h.apart⟩
/-- the value at a key -/
theorem ByIn.look (h : ByIn w wr B D n L f) {key : ByteArray} (hk : key.size ≤ maxLen) : (Instr.lookup 58 (.map (some B)) (.string key) false).run Try.prog wr = .ok (f key) wr := by
  obtain ⟨v, ps, h1, h2⟩ := h.map.lookup keyed9 under58 (zero35 wr) (rowR_slice none 0 0) (Go.WideMaps.keyOf_string_mk under9 hk)
  obtain ⟨h3, _⟩ := rowR_inv h2
  have h4 : D.atKey (ks key) (.held (.slice none 0 0)) = .held v := congrArg Prod.fst h3
  rw [h.at_ key hk] at h4
  have h5 : f key = v := by cases h4; rfl
  rw [h1, h5]
theorem ByIn.put (h : ByIn w wr B D n L f) (ho : 0 ≤ o.til ∨ o.op.kind ≠ 1) (hk : o.op.key.size ≤ maxLen) (o1 : Only None' wr w1)
    (hv : Vec w2 12 v ((byKey L o.op.key).length + 1) ((byKey L o.op.key).flatMap Opn.row ++ o.row)) (og : Only (fun q => (f o.op.key).ownBlock = some q) w1 w2) (hf : ∀ q, v.ownBlock = some q → (f o.op.key).ownBlock = some q ∨ w1.heap.size ≤ q)
    (g3 : w3.ownsMap Try.prog 9 rowR B (n + 1) (D.put (ks o.op.key) (.held v))) (o3 : Only (fun q => q = B) w2 w3) : ByIn w w3 B (D.put (ks o.op.key) (.held v)) (n + 1) (L ++ [o]) (fun key => if key = o.op.key then v else f key) := by
  have s0 := h.only.size
  have s1 := o1.size
  have s2 := og.size
  have hB := h.new
  have hBl := h.map.lt
  have hvB : ∀ q, v.ownBlock = some q → w.heap.size ≤ q ∧ q ≠ B := fun q hq => by
    rcases hf q hq with h1 | h1
    · exact h.own _ q h1
    · omega
  refine ⟨((h.only.trans o1).trans2 og fun q hq e => absurd hq (by have := (h.own _ q e).1; omega)).trans2 o3 fun q hq e => absurd hq (by omega), hB, g3, fun key hkey => ?_, fun key => ?_, fun key g hg => ?_, fun k1 k2 g h1 h2 => ?_⟩
  · by_cases e : key = o.op.key
    · subst e
      rw [atKey_put_same h.map.isMap (by trivial), if_pos rfl]
    · rw [atKey_put_other (fun e' => e (ks_inj e')), if_neg e]
      exact h.at_ key hkey
  · rw [byKey_put ho]
    by_cases e : key = o.op.key
    · subst e
      rw [if_pos rfl, if_pos rfl, List.length_append, List.length_singleton, List.flatMap_append, List.flatMap_singleton]
      exact hv.only o3 fun q hq e => (hvB q hq).2 e
    · rw [if_neg e, if_neg e]
      refine (((h.row key).only o1 fun _ _ e => e).only og fun q hq e' => e (h.apart _ _ q hq e')).only o3 fun q hq e' => (h.own key q hq).2 e'
  · replace hg : (if key = o.op.key then v else f key).ownBlock = some g := hg
    split at hg
    · exact hvB g hg
    · exact h.own key g hg
  · replace h1 : (if k1 = o.op.key then v else f k1).ownBlock = some g := h1
    replace h2 : (if k2 = o.op.key then v else f k2).ownBlock = some g := h2
    have hx : ∀ k, (f k).ownBlock = some g → v.ownBlock = some g → k = o.op.key := fun k e1 e2 => by
      rcases hf g e2 with h3 | h3
      · exact h.apart _ _ g e1 h3
      · have := (h.row k).lt e1; omega
    split at h1
    · next e1 =>
      split at h2
      · next e2 => rw [e1, e2]
      · next e2 => exact absurd (hx k2 h2 h1) e2
    · next e1 =>
      split at h2
      · next e2 => exact absurd (hx k1 h1 h2) e1
      · exact h.apart k1 k2 g h1 h2
theorem ByIn.made (hv : Only None' w wr) (hB : B = wr.heap.size) : ByIn w (wr.alloc (.map #[] 0)) B (.map []) 0 [] (fun _ => .slice none 0 0) := by
  subst hB
  exact ⟨hv.alloc _, hv.size, World.ownsMap_made wr Try.prog 9 _, (fun _ _ => rfl), (fun _ => Vec.nil _ _), (fun key g hg => by cases hg), (fun k1 k2 g h1 h2 => by cases h1)⟩
theorem ByIn.iter {R : Nat} (h : ByIn w wr B D n L f) (hR : w.heap.size ≤ R) (hB : R ≠ B) (hf : ∀ key g, (f key).ownBlock = some g → g ≠ R) (o : Only (fun q => q = R) wr w1) : ByIn w w1 B D n L f :=
  ⟨h.only.fresh hR o, h.new, owns_sameV h.map (o.block B h.map.lt fun e => hB e.symm), h.at_, fun key => (h.row key).only o fun q hq e => hf key q hq e, h.own, h.apart⟩
theorem key_is {x : ByteArray} {kl : Lit} (h : keyOf Try.prog 9 (.string x) = some kl) : x.size ≤ maxLen ∧ kl = ks x := by
  by_cases hx : x.size ≤ maxLen
  · rw [Go.WideMaps.keyOf_string_mk under9 hx] at h
    injection h with h
    exact ⟨hx, h.symm⟩
  · exfalso
    revert h
    simp [keyOf, mapKey, hx]
theorem kinv9 : ∀ key kl, keyOf Try.prog 9 key = some kl → ∃ x, key = Value.string x := fun key kl h => Maps.keyOf_string_inv under9 h
def sliceP (p : Option Addr × Nat × Nat) : Value := .slice p.1 p.2.1 p.2.2
theorem vinvR : ∀ v y, rowR v = some y → ∃ c, v = sliceP c := fun v y h => by
  obtain ⟨_, a, n, c, rfl⟩ := rowR_inv h
  exact ⟨(a, n, c), rfl⟩
/-- within a range over the map: P holds of each key that was told -/
structure RSt (w wr : World) (B R n : Nat) (D : DataW Value) (L : List Opn) (f : ByteArray → Value) (P : ByteArray → Prop) (left : Lit → Bool) (cnt : Nat) : Prop where
  rg : wr.ranges Try.prog 9 rowR B R n D left cnt
  by_ : ByIn w wr B D n L f
  new : w.heap.size ≤ R
  aside : ∀ key g, (f key).ownBlock = some g → g ≠ R
  done : ∀ key, key.size ≤ maxLen → Maps.has D (ks key) = true → left (ks key) = false → P key
variable {R cnt : Nat} {P : ByteArray → Prop} {left : Lit → Bool}
theorem RSt.start (h : ByIn w wr B D n L f) (hr : w1.ranges Try.prog 9 rowR B wr.heap.size n D (Maps.has D) cnt) (hg : wr.grownBy w1 none) : RSt w w1 B wr.heap.size n D L f P (Maps.has D) cnt :=
  ⟨hr, h.keep ((Only.refl None' wr).grown hg fun k hk => by cases hk), h.only.size, fun key g hg => by have := (h.row key).lt hg; omega, fun key _ h1 h2 => by rw [h1] at h2; cases h2⟩
/-- what the entry at hand is -/
theorem RSt.here (h : RSt w wr B R n D L f P left cnt) {x : ByteArray} {c : Option Addr × Nat × Nat} {kl : Lit} {y : DataW Value × List MemPlace} (hk : keyOf Try.prog 9 (.string x) = some kl) (hv : rowR (sliceP c) = some y) (hat : ∀ zd, D.atKey kl zd = y.1) : x.size ≤ maxLen ∧ kl = ks x ∧ f x = sliceP c := by
  obtain ⟨h1, h2⟩ := key_is hk
  refine ⟨h1, h2, ?_⟩
  subst h2
  have h3 := hat (.held (.slice none 0 0))
  rw [h.by_.at_ x h1] at h3
  obtain ⟨h4, _⟩ := rowR_inv hv
  rw [h4] at h3
  have h5 : (DataW.held (f x) : DataW Value) = .held (sliceP c) := h3
  injection h5
theorem RSt.next (h : RSt w wr B R n D L f P left cnt) {x : ByteArray} {cnt2 : Nat} (hr : w1.ranges Try.prog 9 rowR B R n D (fun z => left z && !z.sameKey (ks x)) cnt2) (hg : wr.grownBy w1 (some R)) (o : Only None' w1 w2) (hP : P x) : RSt w w2 B R n D L f P (fun z => left z && !z.sameKey (ks x)) cnt2 := by
  have hne := h.rg.ne
  have h1 : ByIn w w1 B D n L f := h.by_.iter h.new hne h.aside ((Only.refl (fun q => q = R) wr).grown hg fun k hk => by injection hk with hk; exact hk.symm)
  refine ⟨hr.kept (row := none) ⟨o.os, o.tape, o.output, o.size, fun k hk _ => o.block k hk fun e => e⟩ (by simp) (by simp), h1.keep o, h.new, h.aside, fun key hkey hh hl => ?_⟩
  cases hq : left (ks key) with
  | false => exact h.done key hkey hh hq
  | true =>
    simp only [hq, Bool.true_and, Bool.not_eq_false'] at hl
    have := ks_inj (WideAt.sameKey_eq hl)
    rw [this]
    exact hP
theorem RSt.over (h : RSt w wr B R n D L f P left cnt) (hl : ∀ kl, left kl = false) {key : ByteArray} (hk : key.size ≤ maxLen) (hne : byKey L key ≠ []) : P key := by
  cases hh : Maps.has D (ks key) with
  | true => exact h.done key hk hh (hl _)
  | false =>
    exfalso
    have h1 := atKey_of_not_has hh (.held (.slice none 0 0))
    rw [h.by_.at_ key hk] at h1
    have h2 := h.by_.row key
    have h3 : f key = .slice none 0 0 := by injection h1
    rw [h3] at h2
    rcases h2.form with ⟨_, h4⟩ | ⟨g, off, cap, h4, _⟩
    · exact hne (List.eq_nil_of_length_eq_zero h4)
    · injection h4 with h4; cases h4
/-- the entry at hand, in the world behind the step -/
theorem RSt.row (h : RSt w wr B R n D L f P left cnt) (hg : wr.grownBy w1 (some R)) (key : ByteArray) : Vec w1 12 (f key) (byKey L key).length ((byKey L key).flatMap Opn.row) :=
  (h.by_.row key).only ((Only.refl (fun q => q = R) wr).grown hg fun k hk => by injection hk with hk; exact hk.symm) fun q hq e => h.aside key q hq e
theorem Vec.or {v : Value} {l : List Opn} {wq : World} (h : Vec wq 12 v l.length (l.flatMap Opn.row)) : OR wq v l := by
  rcases h.form with ⟨h1, h2⟩ | ⟨g, off, cap, h1, h2, h3, h4, h5, _⟩
  · exact ⟨.inl ⟨h1, List.eq_nil_of_length_eq_zero h2⟩⟩
  · exact ⟨.inr ⟨g, off, cap, h1, h2, h3, h4, h5⟩⟩
/-- the answer, when a key has too many -/
theorem check_full {h : List Ev} {l : List Opn} (ho : opsOf h = some l) {key : ByteArray} (hk : 14 < (byKey l key).length) : checkOf h = (false, 3) := by
  unfold checkOf
  rw [ho]
  have : ∃ o, o ∈ byKey l key := by
    cases e : byKey l key with
    | nil => rw [e] at hk; cases hk
    | cons a b => exact ⟨a, List.mem_cons_self⟩
  obtain ⟨o, hm⟩ := this
  obtain ⟨h1, h2⟩ := List.mem_filter.1 hm
  have hok : o.op.key = key := (of_decide_eq_true h2).1
  exact if_pos (List.any_eq_true.2 ⟨o, h1, by rw [hok]; exact decide_eq_true hk⟩)
theorem couldB_nil : couldB [] = true := rfl
theorem check_not {h : List Ev} {l : List Opn} (ho : opsOf h = some l) (hall : ∀ o ∈ l, (byKey l o.op.key).length ≤ 14) {key : ByteArray} (hk : couldB (byKey l key) = false) : checkOf h = (false, 0) := by
  unfold checkOf
  rw [ho]
  have : ∃ o, o ∈ byKey l key := by
    cases e : byKey l key with
    | nil => rw [e, couldB_nil] at hk; cases hk
    | cons a b => exact ⟨a, List.mem_cons_self⟩
  obtain ⟨o, hm⟩ := this
  obtain ⟨h1, h2⟩ := List.mem_filter.1 hm
  have hok : o.op.key = key := (of_decide_eq_true h2).1
  have e1 : (l.any fun o => decide (14 < (byKey l o.op.key).length)) = false := by
    rw [List.any_eq_false]
    intro x hx e
    have := of_decide_eq_true e
    have := hall x hx
    omega
  have e2 : (l.all fun o => couldB (byKey l o.op.key)) = false := by
    rw [List.all_eq_false]
    exact ⟨o, h1, by rw [hok, hk]; exact Bool.false_ne_true⟩
  simp only [e1, e2]
  rfl
theorem check_yes {h : List Ev} {l : List Opn} (ho : opsOf h = some l) (hall : ∀ o ∈ l, (byKey l o.op.key).length ≤ 14) (hc : ∀ o ∈ l, couldB (byKey l o.op.key) = true) : checkOf h = (true, 0) := by
  unfold checkOf
  rw [ho]
  have e1 : (l.any fun o => decide (14 < (byKey l o.op.key).length)) = false := by
    rw [List.any_eq_false]
    intro x hx e
    have := of_decide_eq_true e
    have := hall x hx
    omega
  have e2 : (l.all fun o => couldB (byKey l o.op.key)) = true := List.all_eq_true.2 hc
  simp only [e1, e2]
  rfl
end
end Go.Proofs.Ytajbagdgjbihjaa
