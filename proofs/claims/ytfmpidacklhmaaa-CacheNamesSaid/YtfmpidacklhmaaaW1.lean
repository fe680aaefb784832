/- The closures of All and Sweep. -/
import Derived.Test.YtfmpidacklhmaaaV4
import Derived.Maps.AppendAt
import Derived.Deep.AppendLies
import Derived.Deep.RegionHeld3
import Derived.Deep.RegionLaw
import Derived.Deep.MidRow
namespace Go.Proofs.Ytfmpidacklhmaaa.Lru
open Go.RowKit Go.Maps
set_option linter.unusedVariables false
set_option maxRecDepth 20000

def Ent.cells (e : Ent) : List Value := [.string e.key, .string e.val, .int .i64 e.til, .int .i64 e.gra]

theorem info66 : (Try.prog.info? 66).map (fun i => (i.zero, i.size, i.bytes)) = some (some (.agg #[.string ⟨#[]⟩, .string ⟨#[]⟩, .int .i64 0, .int .i64 0]), 4, 48) := by kernel_rfl

theorem Only.grown {S : Nat → Prop} {a w w' : World} {row : Option Nat} (h : Only S a w) (hg : w.grownBy w' row) (hr : ∀ k, row = some k → S k) : Only S a w' :=
  h.trans ⟨hg.os, hg.tape, hg.output, hg.size, fun k hk hn => hg.block k hk fun e => hn (hr k e.symm)⟩

set_option maxRecDepth 100000 in
theorem all_one (w : World) (x C base : Nat) (e : Ent) (v : Value) (n : Nat) (xs : List Value)
    (k0 : w.cell? ⟨x, 0, none⟩ = some (.string e.key)) (k1 : w.cell? ⟨x, 1, none⟩ = some (.string e.val)) (k2 : w.cell? ⟨x, 2, none⟩ = some (.int .i64 e.til)) (k3 : w.cell? ⟨x, 3, none⟩ = some (.int .i64 e.gra))
    (cC : w.cell? ⟨C, 0, none⟩ = some v) (fC : w.frozen? ⟨C, 0, none⟩ = false) (hown : w.ownsRow base 66 4 v n xs) (hx : x < base) (hC : C < base) (hb : base ≤ w.heap.size) (hn : n ≤ 100000) :
    Calls Try.prog 34 #[.pointer (some ⟨x, 0, none⟩), .pointer (some ⟨C, 0, none⟩)] w fun r w' => r = .returned (.tuple #[]) ∧
      ∃ v', w'.cell? ⟨C, 0, none⟩ = some v' ∧ w'.frozen? ⟨C, 0, none⟩ = false ∧ w'.ownsRow base 66 4 v' (n + 1) (xs ++ e.cells) ∧ Only (fun k => k = C ∨ base ≤ k) w w' := by
  obtain ⟨i0, hi, hz0, hz1, hz2⟩ := info_parts info66
  have HO := Lib.hid hown
  have lC : C < w.heap.size := by omega
  have aC : v.ownBlock ≠ some C := fun h => by have := hown.lt C h; omega
  have ax : v.ownBlock ≠ some x := fun h => by have := hown.lt x h; omega
  have lx : x < w.heap.size := by omega
  have hbase : ∀ k, v.ownBlock = some k → base ≤ k := fun k hk => (hown.lt k hk).1
  clear hown
  go_enter Try.func34, Try.ntmps34
  go_region_law (refine step_append_lies _ (by rfl) _ _ _ (by rfl) base 66 i0 _ 4 48 Try.underlying47 hi hz0 hz1 hz2 rfl (by omega) v n xs (by rfl) ((HO.out.alloc _).drew) ⟨w.heap.size, 0, none⟩ 1 1 e.cells (by rfl) (by rfl) (World.news_of_block (cs := #[.string e.key, .string e.val, .int .i64 e.til, .int .i64 e.gra]) (t := 66) (fr := (0, 0)) (heap_alloc_new w _)) (by simp [Value.oneCell', Ent.cells]) (by omega) (by unfold maxLen; omega) (by omega) (by simp; omega) (w.heap.size + 1) (by simp) ?_; intro gg cap w1 hown1 hgrow hat hlt; have HG := Lib.hid hgrow; have HO1 := Lib.hid hown1; have cC1 : w1.cell? ⟨C, 0, none⟩ = some v := ((hgrow.cell_far ⟨C, 0, none⟩ (by simp; omega) (Ne.symm aC)).trans (World.cell?_alloc_lt _ _ _ lC)).trans cC; have fC1 : w1.frozen? ⟨C, 0, none⟩ = false := ((hgrow.frozen_far ⟨C, 0, none⟩ (by simp; omega) (Ne.symm aC)).trans (World.frozen?_alloc_old _ _ _ (by simp only; omega))).trans fC; have HAT := Lib.hid hat; clear hgrow hown1 hat)
  all_goals go_end0
  all_goals
    refine ⟨rfl, _, World.cell?_setCell_same _ _ _ cC1, by rw [World.frozen?_setCell]; exact fC1, ownsRow_setCell_below HO1.out hC _, ?_⟩
    exact ((((Only.refl _ w).alloc _).drew).grown HG.out (fun k hk => .inr (hbase k hk))).setCell (p := ⟨C, 0, none⟩) (.inl rfl) _

end Go.Proofs.Ytfmpidacklhmaaa.Lru
