/- Sorted rows of the same leases are the same. -/
import Derived.Test.YtfjfpnlcmjpofaaPH
namespace Go.Proofs.Ytfjfpnlcmjpofaa
open Go.RowKit Go.Maps Go.Sort Go.Shelf
set_option linter.unusedVariables false

theorem sorted_one : ∀ {l l' l0 : List Ls}, Good l0 → (∀ x ∈ l, x ∈ l0) → l.Perm l' → Up l → Up l' → l = l'
  | [], l', l0, G, hm, hp, hu, hu' => (List.nil_perm.1 hp).symm
  | x :: r, l', l0, G, hm, hp, hu, hu' => by
    cases l' with
    | nil => exact absurd hp.length_eq (by simp)
    | cons y s =>
      have hx : x ∈ y :: s := hp.mem_iff.1 (List.mem_cons_self ..)
      have hy : y ∈ x :: r := hp.mem_iff.2 (List.mem_cons_self ..)
      have e : x = y := by
        rcases List.mem_cons.1 hx with h | h
        · exact h
        rcases List.mem_cons.1 hy with g | g
        · exact g.symm
        have a1 := (List.pairwise_cons.1 hu).1 y g
        have a2 := (List.pairwise_cons.1 hu').1 x h
        rcases Bf.tri x y with t | t | t
        · exact absurd t a2
        · exact G.one (hm x (List.mem_cons_self ..)) (hm y hy) t
        · exact absurd t a1
      subst e
      rw [sorted_one G (fun z hz => hm z (List.mem_cons_of_mem _ hz)) (List.Perm.cons_inv hp) (List.pairwise_cons.1 hu).2 (List.pairwise_cons.1 hu').2]
/-- two tellings of the same leases -/
theorem told_one {l l' l0 : List Ls} (G : Good l0) (h : l.Perm l0) (h' : l'.Perm l0) (hu : Up l) (hu' : Up l') : l = l' :=
  sorted_one G (fun x hx => h.mem_iff.1 hx) (h.trans h'.symm) hu hu'
end Go.Proofs.Ytfjfpnlcmjpofaa
