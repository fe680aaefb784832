/- A ring that has whole records, in a world: steps. -/
import Derived.Test.YteoeaojebklfjaaI6
import Derived.Test.YteoeaojebklfjaaI7
namespace Go.Proofs.Yteoeaojebklfjaa
open Go.RowKit Go.Maps
set_option linter.unusedVariables false

/-- a ring's numbers when it has whole records -/
def Rg.of (first count base : Nat) (rs : List Rec) : Rg := ⟨first, count, base, base + many base rs, base + many base rs⟩
/-- sizes -/
structure Par (first count base len : Nat) : Prop where
  c1 : 1 ≤ count
  c2 : count ≤ 100
  fit : first + count ≤ len
  len : len ≤ 100
  base : base ≤ 1000000
/-- a disk that has the records -/
structure Bd (w0 w : World) (D : Nat) (F : Nat → Prop) (first count base : Nat) (rs : List Rec) (d : Dk) (len n : Nat) : Prop where
  par : Par first count base len
  dsk : Dsk w0 w D F d
  calm : d.Calm len n
  holds : Holds count (gAt first d) base (cutAll base rs)
  room : many base rs ≤ count
structure Bk (w0 w : World) (R D : Nat) (F : Nat → Prop) (first count base : Nat) (rs : List Rec) (d : Dk) (len n : Nat) : Prop where
  bd : Bd w0 w D F first count base rs d len n
  ring : RingAt w R D (Rg.of first count base rs)
  new : w0.heap.size ≤ R
  apart : ¬ F R

theorem Par.ok {first count base len : Nat} (h : Par first count base len) {rs : List Rec} (hr : many base rs ≤ count) : (Rg.of first count base rs).Ok := by
  obtain ⟨a, b, c, e, f⟩ := h
  exact ⟨a, by show first + count ≤ _; omega, by show base ≤ base + _; omega, Nat.le_refl _, by show base + many base rs ≤ base + count; omega, by show base + many base rs ≤ _; omega⟩
theorem opened_of {first count base : Nat} {g : Nat → Sec} {rs : List Rec} (h : Holds count g base (cutAll base rs)) (hc : 1 ≤ count) (hl : many base rs ≤ count) : Rg.opened first count base g = Rg.of first count base rs := by
  unfold Rg.opened Rg.of
  rw [told_run h hc hl, h.top hc]
  rfl

section
variable {w0 w w' : World} {R D : Nat} {F : Nat → Prop} {first count base : Nat} {rs : List Rec} {d : Dk} {len n : Nat}
theorem Bd.few {m : Nat} (h : Bd w0 w D F first count base rs d len n) (hm : n ≤ m) : Bd w0 w D F first count base rs d len m := ⟨h.par, h.dsk, ⟨h.calm.dead, h.calm.set, h.calm.len, h.calm.few.mono hm⟩, h.holds, h.room⟩
theorem Bk.few {m : Nat} (h : Bk w0 w R D F first count base rs d len n) (hm : n ≤ m) : Bk w0 w R D F first count base rs d len m := ⟨h.bd.few hm, h.ring, h.new, h.apart⟩
theorem Bd.new (h : Bd w0 w D F first count base rs d len n) (o : Only None' w w') : Bd w0 w' D F first count base rs d len n := ⟨h.par, h.dsk.new o, h.calm, h.holds, h.room⟩
theorem Bk.only (h : Bk w0 w R D F first count base rs d len n) (o : Only None' w w') : Bk w0 w' R D F first count base rs d len n :=
  ⟨h.bd.new o, h.ring.kept o fun e => e, h.new, h.apart⟩
theorem Bk.ok (h : Bk w0 w R D F first count base rs d len n) : (Rg.of first count base rs).Ok := h.bd.par.ok h.bd.room
theorem bd_new {first count base len : Nat} {D : Nat} {F : Nat → Prop} (par : Par first count base len) (h : Dsk w0 w D F (Dk.new len)) : Bd w0 w D F first count base [] (Dk.new len) len 0 :=
  ⟨par, h, calm_new len, Holds.none_at fun i hi => see_new (r := ⟨first, 0, 0, 0, 0⟩) par.fit i hi, Nat.zero_le _⟩
theorem Bd.open_ (h : Bd w0 w D F first count base rs d len n) (hn : n ≤ 900000) : Calls Try.prog 38 #[.pointer (some ⟨D, 0, none⟩), .int .i64 (first : Int), .int .i64 (count : Int), .int .i64 (base : Int)] w fun e w' => ∃ R a c, e = .returned (.tuple #[.pointer (some ⟨R, 0, none⟩), .slice a rs.length c, .int .i64 0]) ∧ w.heap.size ≤ R ∧
      Bk w0 w' R D F first count base rs d len n ∧ Recs w' (fun k => w.heap.size ≤ k ∧ k ≠ R) (.slice a rs.length c) rs ∧ Only None' w w' := by
  have hp := h.par
  refine (ropen_any (first := first) (count := count) (base := base) h.dsk.at_ h.calm.dead (Nat.le_trans h.calm.few.waits (by omega)) hp.c1 (by rw [h.calm.len]; exact hp.fit) (by have := hp.base; omega)).mono ?_
  rintro e w' ⟨R, v, rfl, hR, hr, hrec, ho⟩
  rw [opened_of h.holds hp.c1 h.room] at hr
  rw [told_run h.holds hp.c1 h.room] at hrec
  obtain ⟨a, c, rfl⟩ := hrec.shape
  exact ⟨R, a, c, rfl, hR, ⟨h.new ho, hr, Nat.le_trans h.dsk.only.size hR, fun hF => by have := h.dsk.at_.lt hF; omega⟩, hrec, ho⟩
/-- ... from the last one on: nothing -/
theorem Bd.emptied (h : Bd w0 w D F first count base rs d len n) (hb : base + many base rs ≤ 1000000) : Bd w0 w D F first count (base + many base rs) [] d len n :=
  ⟨⟨h.par.c1, h.par.c2, h.par.fit, h.par.len, hb⟩, h.dsk, h.calm, h.holds.empty, Nat.zero_le _⟩
theorem Bk.roomed (h : Bk w0 w R D F first count base rs d len n) {m : Int} (hm : ((count - many base rs : Nat) : Int) = m) : Calls Try.prog 39 #[.pointer (some ⟨R, 0, none⟩)] w fun e w' => e = .returned (.int .i64 m) ∧ Only None' w w' := by
  subst hm
  refine (room_any h.ring h.ok).mono ?_
  rintro e w' ⟨rfl, q, rfl⟩
  refine ⟨?_, (Only.refl _ _).drewN q⟩
  have : (Rg.of first count base rs).room = count - many base rs := by
    unfold Rg.room Rg.of
    simp only
    rw [if_neg (by omega)]
    omega
  rw [this]
theorem Bk.lasted (h : Bk w0 w R D F first count base rs d len n) {m : Int} (hm : ((base + many base rs : Nat) : Int) = m) : Calls Try.prog 43 #[.pointer (some ⟨R, 0, none⟩)] w fun e w' => e = .returned (.int .i64 m) ∧ w = w' := by
  subst hm
  refine (rlast_any h.ring).mono ?_
  rintro e w' ⟨rfl, rfl⟩
  exact ⟨rfl, rfl⟩
theorem Bk.add (h : Bk w0 w R D F first count base rs d len n) (hn : n ≤ 800000) {g off c : Nat} {rec : Rec} (hr : Rd w 1 (.slice (some ⟨g, off, none⟩) rec.length c) rec.length (bv rec)) (hc : rec.length ≤ c) (hcm : c ≤ maxLen) (hgF : ¬ F g) (hgl : g < w.heap.size) (hgR : g ≠ R) (hb : rec.length ≤ 140737488355328)
    (hfit : many base rs + cutN rec.length ≤ count) : Calls Try.prog 40 #[.pointer (some ⟨R, 0, none⟩), .slice (some ⟨g, off, none⟩) rec.length c] w fun e w' => e = .returned (.int .i64 0) ∧ ∃ F' d', Bk w0 w' R D F' first count base (rs ++ [rec]) d' len (n + cutN rec.length) ∧ Kept (fun k => F k ∨ k = R) (fun k => F' k ∨ k = R) w w' := by
  have hp := h.bd.par
  obtain ⟨p1, p2, p3, p4, p5⟩ := hp
  have hfree : refuse (Rg.of first count base rs) (cutN rec.length) = none := by
    have hroom : (Rg.of first count base rs).room = count - many base rs := by
      unfold Rg.room Rg.of
      simp only
      rw [if_neg (by omega)]
      omega
    unfold refuse
    rw [if_neg (by show ¬ count < _; omega), if_neg (by show ¬ base + many base rs < base + many base rs; omega), if_neg (by rw [hroom]; omega), if_neg (by show ¬ _ < base + many base rs + _; omega)]
  obtain ⟨d', hd1, hd2, hd3⟩ := puts_rec (r := Rg.of first count base rs) (rec := rec) h.bd.calm h.bd.holds hfit (by omega)
  have happ : appR (Rg.of first count base rs) d rec = (0, Rg.of first count base (rs ++ [rec]), d') := by
    unfold appR
    unfold refuse at hfree
    split at hfree
    · cases hfree
    rename_i g1
    rw [if_neg g1]
    split at hfree
    · cases hfree
    rename_i g2
    rw [if_neg g2]
    split at hfree
    · cases hfree
    rename_i g3
    rw [if_neg g3]
    split at hfree
    · cases hfree
    rename_i g4
    rw [if_neg g4]
    have e : (Rg.of first count base rs).last = base + many base rs := rfl
    rw [e, hd1]
    simp only
    unfold Rg.of
    simp only [many_snoc]
    rw [Nat.add_assoc]
  have hsz : R < w.heap.size := h.ring.lt
  refine (append_go h.ring h.ok h.bd.dsk.at_ h.bd.calm.dead (by rw [h.bd.calm.len]; exact p3) h.bd.calm.few (by omega) h.apart hr hc hcm hgF hgl hgR hb hfree).mono ?_
  rintro e w' ⟨rfl, F', hR', hD', hnR, hk⟩
  rw [happ] at hR' hD' ⊢
  refine ⟨rfl, F', d', ⟨⟨⟨p1, p2, p3, p4, p5⟩, ⟨hD', fun k hk' => ?_, ?_⟩, hd2, hd3, by rw [many_snoc]; omega⟩, hR', h.new, hnR⟩, hk⟩
  · rcases hk.fresh k (Or.inl hk') with (h1 | h1) | h1
    · exact h.bd.dsk.fresh k h1
    · rw [h1]; exact h.new
    · exact Nat.le_trans h.bd.dsk.only.size h1
  · exact h.bd.dsk.only.cons_new hk.only fun i hi => hi.elim (h.bd.dsk.fresh i) fun e => e ▸ h.new
theorem Bk.full (h : Bk w0 w R D F first count base rs d len n) (a : Option Addr) (m c : Nat) (hm : m ≤ 140737488355328) (hfit : ¬ many base rs + cutN m ≤ count) {code : Int} (hcode : (if count < cutN m then (40 : Int) else 3) = code) :
    Calls Try.prog 40 #[.pointer (some ⟨R, 0, none⟩), .slice a m c] w fun e w' => e = .returned (.int .i64 code) ∧ Only None' w w' := by
  have hroom : (Rg.of first count base rs).room = count - many base rs := by
    unfold Rg.room Rg.of
    simp only
    rw [if_neg (by omega)]
    omega
  have hf : refuse (Rg.of first count base rs) (cutN m) = some code := by
    unfold refuse
    by_cases h1 : count < cutN m
    · rw [if_pos h1] at hcode
      rw [if_pos (by exact h1), hcode]
    · rw [if_neg h1] at hcode
      rw [if_neg (by exact h1), if_neg (by show ¬ base + many base rs < base + many base rs; omega), if_pos (by rw [hroom]; have := h.bd.room; omega), hcode]
  refine (append_no h.ring h.ok h.bd.dsk.at_ h.bd.calm.dead a m c hm hf).mono ?_
  rintro e w' ⟨rfl, q, rfl⟩
  exact ⟨rfl, (Only.refl _ _).drewN q⟩
end
end Go.Proofs.Yteoeaojebklfjaa
