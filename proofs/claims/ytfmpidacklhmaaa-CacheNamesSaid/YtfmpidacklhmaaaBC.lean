/- U2 + U3 in one text. -/
import Derived.Test.YtfmpidacklhmaaaU1
import Derived.Test.YtfmpidacklhmaaaProg
import Derived.RegionTactic
import Derived.BigRegion
import Derived.BigQuiet
import Derived.Deep.QuietTactic
/- Taking a link out of the row, and putting one last: plain facts. -/
namespace Go.Proofs.Ytfmpidacklhmaaa.Lru
open Go.RowKit Go.Maps
set_option linter.unusedVariables false
set_option maxRecDepth 20000

/-- a row in parts, in the midst of a cut -/
structure Part (w : World) (B : Nat) (p : List Node) (x : Node) (q : List Node) (f l za ab : Option Nat) : Prop where
  front : w.cell? ⟨B, 2, none⟩ = some (pt f)
  last : w.cell? ⟨B, 3, none⟩ = some (pt l)
  left : Seg w none p za
  mid : Link w x.1 x.2 (lst p none) (hd q none)
  right : Seg w ab q none
  thaw : ∀ o, w.frozen? ⟨B, o, none⟩ = false

theorem Row.part {m : Nat} {w : World} {B M : Nat} {p : List Node} {x : Node} {q : List Node} (h : Row m w B M (p ++ x :: q)) :
    Part w B p x q (hd p (some x.1)) (lst q (some x.1)) (some x.1) (some x.1) := by
  have hs := (seg_append p (x :: q) none none).1 h.seg
  refine ⟨?_, ?_, hs.1, hs.2.1, hs.2.2, h.thaw⟩
  · rw [h.front, hd_append]; rfl
  · rw [h.last, lst_append]; rfl

/-- the blocks are all unlike -/
structure Apart (B : Nat) (p : List Node) (x : Node) (q : List Node) : Prop where
  nodup : (nums (p ++ x :: q)).Nodup
  notB : B ∉ nums (p ++ x :: q)

theorem Row.apart {m : Nat} {w : World} {B M : Nat} {p : List Node} {x : Node} {q : List Node} (h : Row m w B M (p ++ x :: q)) : Apart B p x q :=
  ⟨h.nodup, fun hB => (h.mine B hB).2.2.1 rfl⟩

theorem nums_append (p q : List Node) : nums (p ++ q) = nums p ++ nums q := by simp [nums]
theorem nums_cons (y : Node) (q : List Node) : nums (y :: q) = y.1 :: nums q := rfl

theorem Link.far {w : World} {x : Nat} {e : Ent} {a z : Option Nat} (h : Link w x e a z) {p : Addr} (hp : x ≠ p.block) (v : Value) : Link (w.setCell p v) x e a z :=
  h.kept (Below.heap_setCell _ _ _ _ hp)

theorem cell_far {w : World} {a p : Addr} (h : p.block ≠ a.block) (v : Value) : (w.setCell p v).cell? a = w.cell? a :=
  World.cell?_setCell_other _ _ _ _ (fun e => h (by rw [e]))

/-- the first write, where nothing stands ahead -/
theorem Part.frontOwn {w : World} {B : Nat} {x : Node} {q : List Node} {f l za ab : Option Nat} (h : Part w B [] x q f l za ab) (A : Apart B [] x q) (v : Option Nat) :
    Part (w.setCell ⟨B, 2, none⟩ (pt v)) B [] x q v l v ab := by
  have hB := A.notB
  simp only [List.nil_append, nums_cons, List.mem_cons, not_or] at hB
  exact ⟨World.cell?_setCell_same _ _ _ h.front, by rw [World.cell?_setCell_other _ _ _ _ (off_ne (by decide))]; exact h.last, trivial, h.mid.far (fun e => hB.1 e.symm) _, h.right.far hB.2 _, fun o => by rw [World.frozen?_setCell]; exact h.thaw o⟩

/-- .. where one stands ahead -/
theorem Part.backOf {w : World} {B : Nat} {p : List Node} {y x : Node} {q : List Node} {f l za ab : Option Nat} (h : Part w B (p ++ [y]) x q f l za ab) (A : Apart B (p ++ [y]) x q) (v : Option Nat) :
    Part (w.setCell ⟨y.1, 5, none⟩ (pt v)) B (p ++ [y]) x q f l v ab := by
  have hB := A.notB
  have hn := A.nodup
  simp only [nums_append, nums_cons, List.mem_append, List.mem_cons, not_or, List.append_assoc, List.nodup_append, List.nodup_cons] at hB hn
  have hyB : y.1 ≠ B := by grind [nums]
  refine ⟨by rw [cell_far hyB]; exact h.front, by rw [cell_far hyB]; exact h.last, h.left.endBack ?_ v, h.mid.far ?_ _, h.right.far ?_ _, fun o => by rw [World.frozen?_setCell]; exact h.thaw o⟩
  · grind [nums]
  · grind [nums]
  · grind [nums]

/-- the second write, where nothing stands behind -/
theorem Part.lastOwn {w : World} {B : Nat} {p : List Node} {x : Node} {f l za ab : Option Nat} (h : Part w B p x [] f l za ab) (A : Apart B p x []) (v : Option Nat) :
    Part (w.setCell ⟨B, 3, none⟩ (pt v)) B p x [] f v za v := by
  have hB := A.notB
  simp only [nums_append, nums_cons, List.mem_append, List.mem_cons, not_or] at hB
  exact ⟨by rw [World.cell?_setCell_other _ _ _ _ (off_ne (by decide))]; exact h.front, World.cell?_setCell_same _ _ _ h.last, h.left.far hB.1 _, h.mid.far (fun e => hB.2.1 e.symm) _, trivial, fun o => by rw [World.frozen?_setCell]; exact h.thaw o⟩

/-- .. where one stands behind -/
theorem Part.aheadOf {w : World} {B : Nat} {p : List Node} {x z : Node} {q : List Node} {f l za ab : Option Nat} (h : Part w B p x (z :: q) f l za ab) (A : Apart B p x (z :: q)) (v : Option Nat) :
    Part (w.setCell ⟨z.1, 4, none⟩ (pt v)) B p x (z :: q) f l za v := by
  have hB := A.notB
  have hn := A.nodup
  simp only [nums_append, nums_cons, List.mem_append, List.mem_cons, not_or, List.nodup_append, List.nodup_cons] at hB hn
  have hzB : z.1 ≠ B := fun e => hB.2.2.1 e.symm
  refine ⟨by rw [cell_far hzB]; exact h.front, by rw [cell_far hzB]; exact h.last, h.left.far ?_ _, h.mid.far ?_ _, h.right.headAhead hn.2.1.2.1 v, fun o => by rw [World.frozen?_setCell]; exact h.thaw o⟩
  · grind [nums]
  · grind [nums]

theorem Row.kept {m : Nat} {w w' : World} {B M : Nat} {l l' : List Node} (h : Row m w B M l) (hs : w'.heap.size = w.heap.size) (hsub : ∀ k ∈ nums l', k ∈ nums l) (hn : (nums l').Nodup)
    (h2 : w'.cell? ⟨B, 2, none⟩ = some (pt (hd l' none))) (h3 : w'.cell? ⟨B, 3, none⟩ = some (pt (lst l' none))) (hseg : Seg w' none l' none) (hf : ∀ o, w'.frozen? ⟨B, o, none⟩ = false) : Row m w' B M l' :=
  ⟨h2, h3, hseg, hn, fun k hk => by rw [hs]; exact h.mine k (hsub k hk), h.mB, h.mM, h.BM, by rw [hs]; exact h.ltB, hf⟩

/-- the end of a cut -/
theorem Row.cut {m : Nat} {w w' : World} {B M : Nat} {p : List Node} {x : Node} {q : List Node} (h : Row m w B M (p ++ x :: q)) (hs : w'.heap.size = w.heap.size)
    (P : Part w' B p x q (hd p (hd q none)) (lst q (lst p none)) (hd q none) (lst p none)) : Row m w' B M (p ++ q) := by
  have hn := h.nodup
  refine h.kept hs ?_ ?_ (by rw [P.front, hd_append]) (by rw [P.last, lst_append]) ((seg_append p q none none).2 ⟨P.left, P.right⟩) P.thaw
  · intro k hk
    simp only [nums_append, nums_cons, List.mem_append, List.mem_cons] at hk ⊢
    rcases hk with hk | hk
    · exact .inl hk
    · exact .inr (.inr hk)
  · simp only [nums_append, nums_cons, List.nodup_append, List.nodup_cons] at hn ⊢
    exact ⟨hn.1, hn.2.1.2, fun a ha b hb => hn.2.2 a ha b (List.mem_cons_of_mem _ hb)⟩

end Go.Proofs.Ytfmpidacklhmaaa.Lru
/- The walks of size, cut, push. -/
namespace Go.Proofs.Ytfmpidacklhmaaa.Lru
open Go.RowKit Go.Maps
set_option linter.unusedVariables false
set_option maxRecDepth 20000

theorem cut_mid_mid (w : World) (B x y z : Nat) (h4 : w.cell? ⟨x, 4, none⟩ = some (.pointer (some ⟨y, 0, none⟩))) (h5 : w.cell? ⟨x, 5, none⟩ = some (.pointer (some ⟨z, 0, none⟩))) (hy : ∃ v, w.cell? ⟨y, 5, none⟩ = some v) (hz : ∃ v, w.cell? ⟨z, 4, none⟩ = some v) (fB : ∀ o, w.frozen? ⟨B, o, none⟩ = false) (fy : ∀ o, w.frozen? ⟨y, o, none⟩ = false) (fz : ∀ o, w.frozen? ⟨z, o, none⟩ = false) (hxB : x ≠ B) (hxy : x ≠ y) (hyB : y ≠ B) (hxz : x ≠ z) (hzB : z ≠ B) (hyz : y ≠ z) :
    Calls Try.prog 48 #[.pointer (some ⟨B, 0, none⟩), .pointer (some ⟨x, 0, none⟩)] w fun e w' => e = .returned (.tuple #[]) ∧ ∃ n, w' = ((w.setCell ⟨y, 5, none⟩ (.pointer (some ⟨z, 0, none⟩))).setCell ⟨z, 4, none⟩ (.pointer (some ⟨y, 0, none⟩))).drewN n := by
  obtain ⟨vy, hy⟩ := hy
  obtain ⟨vz, hz⟩ := hz
  go_enter Try.func48, Try.ntmps48
  go_wp2
  go_region
  go_wp2
  go_region
  go_end0
  exact ⟨rfl, 2, rfl⟩

theorem cut_mid_none (w : World) (B x y : Nat) (h4 : w.cell? ⟨x, 4, none⟩ = some (.pointer (some ⟨y, 0, none⟩))) (h5 : w.cell? ⟨x, 5, none⟩ = some (.pointer none)) (hy : ∃ v, w.cell? ⟨y, 5, none⟩ = some v) (hz : ∃ v, w.cell? ⟨B, 3, none⟩ = some v) (fB : ∀ o, w.frozen? ⟨B, o, none⟩ = false) (fy : ∀ o, w.frozen? ⟨y, o, none⟩ = false) (hxB : x ≠ B) (hxy : x ≠ y) (hyB : y ≠ B) :
    Calls Try.prog 48 #[.pointer (some ⟨B, 0, none⟩), .pointer (some ⟨x, 0, none⟩)] w fun e w' => e = .returned (.tuple #[]) ∧ ∃ n, w' = ((w.setCell ⟨y, 5, none⟩ (.pointer none)).setCell ⟨B, 3, none⟩ (.pointer (some ⟨y, 0, none⟩))).drewN n := by
  obtain ⟨vy, hy⟩ := hy
  obtain ⟨vz, hz⟩ := hz
  go_enter Try.func48, Try.ntmps48
  go_wp2
  go_region
  go_wp2
  go_end0
  exact ⟨rfl, 1, rfl⟩

theorem cut_none_mid (w : World) (B x z : Nat) (h4 : w.cell? ⟨x, 4, none⟩ = some (.pointer none)) (h5 : w.cell? ⟨x, 5, none⟩ = some (.pointer (some ⟨z, 0, none⟩))) (hy : ∃ v, w.cell? ⟨B, 2, none⟩ = some v) (hz : ∃ v, w.cell? ⟨z, 4, none⟩ = some v) (fB : ∀ o, w.frozen? ⟨B, o, none⟩ = false) (fz : ∀ o, w.frozen? ⟨z, o, none⟩ = false) (hxB : x ≠ B) (hxz : x ≠ z) (hzB : z ≠ B) :
    Calls Try.prog 48 #[.pointer (some ⟨B, 0, none⟩), .pointer (some ⟨x, 0, none⟩)] w fun e w' => e = .returned (.tuple #[]) ∧ ∃ n, w' = ((w.setCell ⟨B, 2, none⟩ (.pointer (some ⟨z, 0, none⟩))).setCell ⟨z, 4, none⟩ (.pointer none)).drewN n := by
  obtain ⟨vy, hy⟩ := hy
  obtain ⟨vz, hz⟩ := hz
  go_enter Try.func48, Try.ntmps48
  go_wp2
  go_region
  go_end0
  exact ⟨rfl, 1, rfl⟩

theorem cut_none_none (w : World) (B x : Nat) (h4 : w.cell? ⟨x, 4, none⟩ = some (.pointer none)) (h5 : w.cell? ⟨x, 5, none⟩ = some (.pointer none)) (hy : ∃ v, w.cell? ⟨B, 2, none⟩ = some v) (hz : ∃ v, w.cell? ⟨B, 3, none⟩ = some v) (fB : ∀ o, w.frozen? ⟨B, o, none⟩ = false) (hxB : x ≠ B) :
    Calls Try.prog 48 #[.pointer (some ⟨B, 0, none⟩), .pointer (some ⟨x, 0, none⟩)] w fun e w' => e = .returned (.tuple #[]) ∧ ∃ n, w' = ((w.setCell ⟨B, 2, none⟩ (.pointer none)).setCell ⟨B, 3, none⟩ (.pointer none)).drewN n := by
  obtain ⟨vy, hy⟩ := hy
  obtain ⟨vz, hz⟩ := hz
  go_enter Try.func48, Try.ntmps48
  go_wp2
  go_end0
  exact ⟨rfl, 0, rfl⟩

end Go.Proofs.Ytfmpidacklhmaaa.Lru
