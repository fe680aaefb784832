/- Put, where it refuses. -/
import Derived.Test.YtfmpidacklhmaaaU9
import Derived.Deep.Cut
import Derived.Deep.CutRange
namespace Go.Proofs.Ytfmpidacklhmaaa.Lru
open Go.RowKit Go.Maps
set_option linter.unusedVariables false
set_option maxRecDepth 20000

/-- a shelf stays while only blocks turn that are not its own -/
theorem Shelf.only {m : Nat} {w w' : World} {B M : Nat} {E Y : Int} {l : List Node} (S : Shelf m w B M E Y l) {T : Nat → Prop} (h : Only T w w') (hT : ∀ k, Own B M l k → ¬ T k) : Shelf m w' B M E Y l := by
  have hB : ¬ T B := hT B (.inl rfl)
  have hM : ¬ T M := hT M (.inr (.inl rfl))
  have cB (i : Nat) := h.cell S.row.ltB hB i
  refine ⟨S.row.move h.size (fun k hk => h.block k (S.row.mine k hk).2.1 (hT k (.inr (.inr hk)))) (cB 2) (cB 3) (h.frozen S.row.ltB hB), ⟨(cB 0).trans S.rest.ent, (cB 1).trans S.rest.byt, (cB 4).trans S.rest.at_, (cB 5).trans S.rest.used⟩, ?_, S.small, S.few⟩
  obtain ⟨D, hown, hD⟩ := S.map
  exact ⟨D, owns_same hown (h.block M hown.lt hM), hD⟩

def None' (k : Nat) : Prop := False
theorem Shelf.alloc {m : Nat} {w : World} {B M : Nat} {E Y : Int} {l : List Node} (S : Shelf m w B M E Y l) (o : Obj) : Shelf m (w.alloc o) B M E Y l :=
  S.only ((Only.refl None' w).alloc o) fun _ _ h => h
theorem Shelf.drewN {m : Nat} {w : World} {B M : Nat} {E Y : Int} {l : List Node} (S : Shelf m w B M E Y l) (n : Nat) : Shelf m (w.drewN n) B M E Y l :=
  S.only ((Only.refl None' w).drewN n) fun _ _ h => h
theorem Shelf.ltOwn {m : Nat} {w : World} {B M : Nat} {E Y : Int} {l : List Node} (S : Shelf m w B M E Y l) {k : Nat} (h : Own B M l k) : k < w.heap.size := by
  rcases h with rfl | rfl | h
  · exact S.row.ltB
  · exact S.ltM
  · exact (S.row.mine k h).2.1

/-- the block of an entry whose address is taken -/
def entObj (e : Ent) : Obj := .cells #[.string e.key, .string e.val, .int .i64 e.til, .int .i64 e.gra] 66

theorem entry_cells {w w' : World} {T : Nat → Prop} {e : Ent} (h : Only T (w.alloc (entObj e)) w') (hT : ¬ T w.heap.size) :
    w'.cell? ⟨w.heap.size, 0, none⟩ = some (.string e.key) ∧ w'.cell? ⟨w.heap.size, 1, none⟩ = some (.string e.val) ∧ w'.cell? ⟨w.heap.size, 2, none⟩ = some (.int .i64 e.til) ∧ w'.cell? ⟨w.heap.size, 3, none⟩ = some (.int .i64 e.gra) := by
  have hs : w.heap.size < (w.alloc (entObj e)).heap.size := by simp
  refine ⟨(h.cell hs hT 0).trans ?_, (h.cell hs hT 1).trans ?_, (h.cell hs hT 2).trans ?_, (h.cell hs hT 3).trans ?_⟩ <;> (unfold entObj; rw [World.cell?_alloc_new]; rfl)

set_option maxRecDepth 4000 in
theorem put_refuse {m : Nat} {w : World} {B M : Nat} {E Y : Int} {l : List Node} (S : Shelf m w B M E Y l) (e : Ent) (hk : e.key.size ≤ 140737488355328) (hv : e.val.size ≤ 140737488355328) (hE : (E == 0) = false) (hY : Y < (e.key.size : Int) + (e.val.size : Int)) :
    Calls Try.prog 45 #[.pointer (some ⟨B, 0, none⟩), .agg #[.string e.key, .string e.val, .int .i64 e.til, .int .i64 e.gra]] w fun r w' => r = .returned (.int .i64 40) ∧ Shelf m w' B M E Y (dropKey l e.key) ∧ Only (Own B M l) w w' := by
  have SA := Lib.hid (S.alloc (entObj e))
  have hd := drop_any SA.out e.key hk
  have hnew : ¬ Own B M l w.heap.size := fun h => absurd (S.ltOwn h) (by omega)
  have HN := Lib.hid hnew
  have HK := Lib.hid hk
  have HV := Lib.hid hv
  clear S hnew hk hv
  go_enter Try.func45, Try.ntmps45
  go_wp2_with fail
  refine hd.mono ?_
  rintro r w1 ⟨rfl, hS, hO⟩
  have HS := Lib.hid hS
  have HO := Lib.hid hO
  obtain ⟨k0, k1, k2, k3⟩ := entry_cells hO HN.out
  have c0 := hS.rest.ent
  have c1 := hS.rest.byt
  have lB := hS.row.ltB
  have lx : w.heap.size < w1.heap.size := Nat.lt_of_lt_of_le (by simp) hO.size
  clear hd hS hO
  go_upto_region 4 with fail
  go_cut [25] from 12 to 25 (fun c wx => c = .bool true ∧ ∃ o n, wx = (w1.alloc o).drewN n)
  case first =>
    go_region_with (go_at_call 49; refine (size_any e _ HK.out HV.out).mono ?_; rintro r w2 ⟨rfl, o, rfl⟩)
    all_goals (go_wp2_with fail; go_meet; exact ⟨rfl, o, 1, rfl⟩)
  case rest =>
    obtain ⟨rfl, o, n, rfl⟩ := hcut
    go_wp2
    go_ret
    refine ⟨rfl, (HS.out.alloc o).drewN n, ?_⟩
    exact (((((Only.refl _ _).alloc _).trans HO.out).alloc o).drewN n)

end Go.Proofs.Ytfmpidacklhmaaa.Lru
