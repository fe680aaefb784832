/- A ring that has whole records, plainly. No program. -/
import Derived.Test.YteoeaojebklfjaaI3
namespace Go.Proofs.Yteoeaojebklfjaa
set_option linter.unusedVariables false

/-- so many pieces have records -/
def many (base : Nat) (rs : List Rec) : Nat := (cutAll base rs).length
theorem many_snoc (base : Nat) (rs : List Rec) (r : Rec) : many base (rs ++ [r]) = many base rs + cutN r.length := by
  unfold many
  rw [cutAll_snoc, List.length_append, cutR_length]
theorem many_nil (base : Nat) : many base [] = 0 := rfl
theorem cutR_at (l : Nat) (rec : Rec) (j : Nat) (h : j < (cutR l rec).length) : (cutR l rec)[j] = cutAt l rec j := by
  simp [cutR]
/-- records that are told -/
theorem told_run {count base : Nat} {g : Nat → Sec} {rs : List Rec} (h : Holds count g base (cutAll base rs)) (hc : 1 ≤ count) (hl : many base rs ≤ count) : runG count g count base [] [] base = (rs, base + many base rs) := by
  rw [runG_chain, h.chain hc hl, grp_all, lastN_all]
  rfl
theorem told_none {count base : Nat} {g : Nat → Sec} (h : Holds count g base []) (hc : 1 ≤ count) : runG count g count base [] [] base = ([], base) :=
  told_run (rs := []) h hc (by rw [many_nil]; omega)
theorem puts_rec {r : Rg} {base len n : Nat} {d : Dk} {rs : List Rec} {rec : Rec} (hc : d.Calm len n) (hh : Holds r.count (gOf r d) base (cutAll base rs)) (hl : many base rs + cutN rec.length ≤ r.count) (ht : base + many base rs + cutN rec.length ≤ 4611686018427387904) :
    ∃ d', Dk.puts r.place (cutR (base + many base rs) rec) d = (d', true) ∧ d'.Calm len (n + cutN rec.length) ∧ Holds r.count (gOf r d') base (cutAll base (rs ++ [rec])) := by
  obtain ⟨d', h1, h2, h3⟩ := puts_calm (cutR (base + many base rs) rec) d (cutAll base rs) n hc hh (fun j hj => by
    rw [cutR_at]
    have hj' : j < cutN rec.length := by rwa [cutR_length] at hj
    exact ⟨cutAt_ok hj' ht, by show base + many base rs + 1 + j = _; unfold many; omega⟩) (by rw [cutR_length]; exact hl)
  refine ⟨d', h1, ?_, ?_⟩
  · rwa [cutR_length] at h2
  · rw [cutAll_snoc]; exact h3

/-- what an append does -/
def appR (r : Rg) (d : Dk) (rec : Rec) : Int × Rg × Dk :=
  if r.count < cutN rec.length then (40, r, d)
  else if r.last < r.top then (50, r, d)
  else if r.room < cutN rec.length then (3, r, d)
  else if 4611686018427387904 < r.last + cutN rec.length then (70, r, d)
  else match Dk.puts r.place (cutR r.last rec) d with
    | (d', true) => (0, { r with last := r.last + cutN rec.length, top := r.last + cutN rec.length }, d')
    | (d', false) => (20, r, d')

theorem pieceOf_zs : pieceOf (List.replicate 512 0) = none := by
  unfold pieceOf
  rw [if_pos (Or.inl (by rw [show pieceN (List.replicate 512 0) = 0 by rfl]; decide))]
theorem see_new {count len : Nat} {r : Rg} (hl : r.first + count ≤ len) (i : Nat) (hi : i < count) : seeG count (gOf r (Dk.new len)) i = none := by
  have e : gOf r (Dk.new len) i = List.replicate 512 0 := by
    unfold gOf Dk.read Dk.new
    simp only [lastIx]
    rw [List.getD_eq_getElem?_getD, List.getElem?_replicate, if_pos (by omega)]
    rfl
  unfold seeG
  rw [e, pieceOf_zs]
theorem calm_new (len : Nat) : (Dk.new len).Calm len 0 := ⟨rfl, rfl, by simp [Dk.new], Dk.Few.new⟩
end Go.Proofs.Yteoeaojebklfjaa
