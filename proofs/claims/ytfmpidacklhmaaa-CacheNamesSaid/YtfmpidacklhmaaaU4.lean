/- Contracts of cut, push, size. -/
import Derived.Test.YtfmpidacklhmaaaBC
namespace Go.Proofs.Ytfmpidacklhmaaa.Lru
open Go.RowKit Go.Maps
set_option linter.unusedVariables false
set_option maxRecDepth 20000

theorem Link.drewN {w : World} {x : Nat} {e : Ent} {a z : Option Nat} (h : Link w x e a z) (n : Nat) : Link (w.drewN n) x e a z := h.kept rfl
theorem Seg.drewN {w : World} {l : List Node} {a z : Option Nat} (h : Seg w a l z) (n : Nat) : Seg (w.drewN n) a l z := h.kept fun _ _ => rfl
theorem Part.drewN {w : World} {B : Nat} {p : List Node} {x : Node} {q : List Node} {f l za ab : Option Nat} (h : Part w B p x q f l za ab) (n : Nat) : Part (w.drewN n) B p x q f l za ab :=
  ⟨h.front, h.last, h.left.drewN n, h.mid.drewN n, h.right.drewN n, h.thaw⟩
theorem Row.drewN {m : Nat} {w : World} {B M : Nat} {l : List Node} (h : Row m w B M l) (n : Nat) : Row m (w.drewN n) B M l :=
  ⟨h.front, h.last, h.seg.drewN n, h.nodup, h.mine, h.mB, h.mM, h.BM, h.ltB, h.thaw⟩

theorem lst_snoc (p : List Node) (y : Node) (a : Option Nat) : lst (p ++ [y]) a = some y.1 := by rw [lst_append]; rfl

theorem hd_snoc (p : List Node) (y : Node) (a b : Option Nat) : hd (p ++ [y]) a = hd (p ++ [y]) b := by rw [hd_append, hd_append]; rfl

theorem ne_of_row {m : Nat} {w : World} {B M : Nat} {l : List Node} (h : Row m w B M l) {y : Node} (hy : y ∈ l) : y.1 ≠ B := (h.mine y.1 (List.mem_map.2 ⟨y, hy, rfl⟩)).2.2.1

theorem cut_any {m : Nat} {w : World} {B M : Nat} {p : List Node} {x : Node} {q : List Node} (h : Row m w B M (p ++ x :: q)) :
    Calls Try.prog 48 #[.pointer (some ⟨B, 0, none⟩), .pointer (some ⟨x.1, 0, none⟩)] w fun e w' => e = .returned (.tuple #[]) ∧
      Row m w' B M (p ++ q) ∧ Rowed w w' B (nums (p ++ x :: q)) ∧ Link w' x.1 x.2 (lst p none) (hd q none) := by
  have hP := h.part
  have A := h.apart
  have hm := hP.mid
  have hxB : x.1 ≠ B := ne_of_row h (by simp)
  have hn := h.nodup
  rcases List.eq_nil_or_concat p with rfl | ⟨p', y, rfl⟩
  · cases q with
    | nil =>
      refine (cut_none_none w B x.1 hm.ahead hm.back ⟨_, hP.front⟩ ⟨_, hP.last⟩ hP.thaw hxB).mono ?_
      rintro e w' ⟨rfl, n, rfl⟩
      have P2 := (((hP.frontOwn A none).lastOwn A none).drewN n)
      exact ⟨rfl, h.cut (by simp [World.drewN, World.setCell]) P2, (((Rowed.refl _ _ _).own (.inl rfl) _).own (.inr rfl) _).drewN n, P2.mid⟩
    | cons z q' =>
      have hzB : z.1 ≠ B := ne_of_row h (by simp)
      have hxz : x.1 ≠ z.1 := by simp [nums] at hn; exact hn.1.1
      have hz := hP.right.1
      refine (cut_none_mid w B x.1 z.1 hm.ahead hm.back ⟨_, hP.front⟩ ⟨_, hz.ahead⟩ hP.thaw hz.thaw hxB hxz hzB).mono ?_
      rintro e w' ⟨rfl, n, rfl⟩
      have P2 := (((hP.frontOwn A (some z.1)).aheadOf A none).drewN n)
      exact ⟨rfl, h.cut (by simp [World.drewN, World.setCell]) P2, (((Rowed.refl _ _ _).own (.inl rfl) _).link (by simp [nums]) hzB _).drewN n, P2.mid⟩
  · rw [List.concat_eq_append] at *
    have hyB : y.1 ≠ B := ne_of_row h (by simp)
    have hy := ((seg_append p' [y] none _).1 hP.left).2.1
    have hxy : x.1 ≠ y.1 := by
      intro e
      simp only [nums, List.map_append, List.map_cons, List.map_nil, List.nodup_append] at hn
      exact hn.2.2 y.1 (by simp) x.1 (by simp) e.symm
    have e1 : lst (p' ++ [y]) none = some y.1 := lst_snoc _ _ _
    rw [e1] at hm ⊢
    cases q with
    | nil =>
      refine (cut_mid_none w B x.1 y.1 hm.ahead hm.back ⟨_, hy.back⟩ ⟨_, hP.last⟩ hP.thaw hy.thaw hxB hxy hyB).mono ?_
      rintro e w' ⟨rfl, n, rfl⟩
      have P2 := (((hP.backOf A none).lastOwn A (some y.1)).drewN n)
      rw [← e1]
      refine ⟨rfl, h.cut (by simp [World.drewN, World.setCell]) ?_, (((Rowed.refl _ _ _).link (by simp [nums]) hyB _).own (.inr rfl) _).drewN n, P2.mid⟩
      rw [e1, ← hd_snoc p' y (some x.1)]; exact P2
    | cons z q' =>
      have hzB : z.1 ≠ B := ne_of_row h (by simp)
      have hz := hP.right.1
      have hxz : x.1 ≠ z.1 := by
        intro e
        simp only [nums, List.map_append, List.map_cons, List.map_nil, List.nodup_append, List.nodup_cons] at hn
        exact hn.2.1.1 (by simp [e])
      have hyz : y.1 ≠ z.1 := by
        intro e
        simp only [nums, List.map_append, List.map_cons, List.map_nil, List.nodup_append] at hn
        exact hn.2.2 y.1 (by simp) z.1 (by simp) e
      refine (cut_mid_mid w B x.1 y.1 z.1 hm.ahead hm.back ⟨_, hy.back⟩ ⟨_, hz.ahead⟩ hP.thaw hy.thaw hz.thaw hxB hxy hyB hxz hzB hyz).mono ?_
      rintro e w' ⟨rfl, n, rfl⟩
      have P2 := (((hP.backOf A (some z.1)).aheadOf A (some y.1)).drewN n)
      rw [← e1]
      refine ⟨rfl, h.cut (by simp [World.drewN, World.setCell]) ?_, (((Rowed.refl _ _ _).link (by simp [nums]) hyB _).link (by simp [nums]) hzB _).drewN n, P2.mid⟩
      rw [e1, ← hd_snoc p' y (some x.1)]; exact P2

end Go.Proofs.Ytfmpidacklhmaaa.Lru
