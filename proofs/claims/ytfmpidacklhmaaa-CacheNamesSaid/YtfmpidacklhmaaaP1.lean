/- Waits turned one by one, plainly. -/
import Derived.Test.YtfmpidacklhmaaaS4
namespace Go.Proofs.Ytfmpidacklhmaaa
open Go.RowKit Go.Maps
set_option linter.unusedVariables false
set_option maxRecDepth 20000

theorem rise_inj {ws : List Wt} (hr : Rise ws) {x y : Wt} (hx : x ∈ ws) (hy : y ∈ ws) (e : x.req = y.req) : x = y := by
  induction ws with
  | nil => cases hx
  | cons z ws ih =>
    obtain ⟨h1, h2⟩ := List.pairwise_cons.1 hr
    rcases List.mem_cons.1 hx with rfl | hx' <;> rcases List.mem_cons.1 hy with rfl | hy'
    · rfl
    · have := h1 y hy'; omega
    · have := h1 x hx'; omega
    · exact ih h2 hx' hy'
def putW (x : Wt) (ws : List Wt) : List Wt := ws.map fun y => if y.req = x.req then x else y
def hit (l : List Wt) (y : Wt) : Bool := l.any fun z => decide (z.req = y.req)
def stepW (f : Wt → Wt) (l ws : List Wt) (k : Nat) : List Wt := ws.map fun y => if hit (l.take k) y then f y else y
def dstepW (l ws : List Wt) (k : Nat) : List Wt := ws.filter fun y => !hit (l.take k) y
theorem hit_succ {l : List Wt} {k : Nat} {x : Wt} (h : l[k]? = some x) (y : Wt) : hit (l.take (k + 1)) y = (hit (l.take k) y || decide (x.req = y.req)) := by
  obtain ⟨hk, rfl⟩ := List.getElem?_eq_some_iff.1 h
  unfold hit
  rw [List.take_succ_eq_append_getElem hk, List.any_append]
  simp
theorem hit_filter {ws : List Wt} (hr : Rise ws) (q : Wt → Bool) {y : Wt} (hy : y ∈ ws) : hit ((ws.filter q).take (ws.filter q).length) y = q y := by
  rw [List.take_length]
  unfold hit
  rw [Bool.eq_iff_iff, List.any_eq_true]
  constructor
  · rintro ⟨z, hz, e⟩
    obtain ⟨h1, h2⟩ := List.mem_filter.1 hz
    rw [rise_inj hr h1 hy (by simpa using e)] at h2
    exact h2
  · intro h
    exact ⟨y, List.mem_filter.2 ⟨hy, h⟩, by simp⟩
theorem step_zero (f : Wt → Wt) (l ws : List Wt) : stepW f l ws 0 = ws := by
  unfold stepW hit
  simp
theorem step_succ {f : Wt → Wt} (hf : ∀ y, (f y).req = y.req) {ws l : List Wt} (hr : Rise ws) {k : Nat} {x : Wt} (h : l[k]? = some x) (hm : x ∈ ws) : putW (f x) (stepW f l ws k) = stepW f l ws (k + 1) := by
  unfold putW stepW
  rw [List.map_map]
  refine List.map_congr_left fun y hy => ?_
  simp only [Function.comp_def, hit_succ h]
  have e1 : (if hit (l.take k) y = true then f y else y).req = y.req := by split <;> simp [hf]
  rw [e1, hf]
  by_cases e : y.req = x.req
  · have := rise_inj hr hy hm e
    subst this
    simp
  · rw [if_neg e]
    have : decide (x.req = y.req) = false := by simpa using fun h => e h.symm
    rw [this, Bool.or_false]
theorem step_end (f : Wt → Wt) {ws : List Wt} (hr : Rise ws) (q : Wt → Bool) : stepW f (ws.filter q) ws (ws.filter q).length = ws.map fun y => if q y then f y else y := by
  unfold stepW
  refine List.map_congr_left fun y hy => ?_
  rw [hit_filter hr q hy]
theorem dstep_zero (l ws : List Wt) : dstepW l ws 0 = ws := by
  unfold dstepW hit
  simp
theorem dstep_succ {ws l : List Wt} {k : Nat} {x : Wt} (h : l[k]? = some x) : (dstepW l ws k).filter (fun y => decide (y.req ≠ x.req)) = dstepW l ws (k + 1) := by
  unfold dstepW
  rw [List.filter_filter]
  refine List.filter_congr fun y hy => ?_
  rw [hit_succ h]
  by_cases e : y.req = x.req
  · simp [e]
  · have e' : x.req ≠ y.req := fun h => e h.symm
    simp [e, e']
theorem dstep_end {ws : List Wt} (hr : Rise ws) (q : Wt → Bool) : dstepW (ws.filter q) ws (ws.filter q).length = ws.filter fun y => !q y := by
  unfold dstepW
  refine List.filter_congr fun y hy => ?_
  rw [hit_filter hr q hy]
theorem rise_map {ws : List Wt} (hr : Rise ws) (g : Wt → Wt) (hg : ∀ y ∈ ws, (g y).req = y.req) : Rise (ws.map g) := by
  refine List.pairwise_map.2 (hr.imp_of_mem fun {a b} ha hb h => ?_)
  rw [hg a ha, hg b hb]
  exact h
def Cl.with_ (c : Cl) (ws : List Wt) : Cl := ⟨c.life, c.given, ws⟩
theorem Cl.Ok.map {c : Cl} (h : c.Ok) (g : Wt → Wt) (hg : ∀ y ∈ c.ws, (g y).req = y.req) : (c.with_ (c.ws.map g)).Ok :=
  ⟨h.l1, h.l2, h.g, rise_map h.rise g hg, fun x hx => by
    obtain ⟨y, hy, rfl⟩ := List.mem_map.1 hx
    rw [hg y hy]
    exact h.num y hy, by show (c.ws.map g).length ≤ 64; rw [List.length_map]; exact h.few⟩
theorem Cl.Ok.step {c : Cl} (h : c.Ok) {f : Wt → Wt} (hf : ∀ y, (f y).req = y.req) (l : List Wt) (k : Nat) : (c.with_ (stepW f l c.ws k)).Ok :=
  h.map _ fun y hy => by split <;> simp [hf]
theorem Cl.Ok.filter {c : Cl} (h : c.Ok) (q : Wt → Bool) : (c.with_ (c.ws.filter q)).Ok :=
  ⟨h.l1, h.l2, h.g, h.rise.filter _, fun x hx => h.num x (List.mem_filter.1 hx).1, Nat.le_trans (List.length_filter_le _ _) h.few⟩
section
variable {w w' : World} {B M : Nat} {c : Cl}
theorem CallAt.turn (h : CallAt w B M c) {n : Nat} {ws : List Wt} (hm : w'.ownsMap Try.prog 3 wtR M n (Dof ws)) (ho : Only (fun k => k = M) w w') (hok : (c.with_ ws).Ok) : CallAt w' B M (c.with_ ws) :=
  ⟨h.cells.kept ho h.apart, by have := owns_tight hm; rw [Dof_size] at this; exact this, h.apart, Nat.lt_of_lt_of_le h.lt ho.size, hok⟩
end
end Go.Proofs.Ytfmpidacklhmaaa
