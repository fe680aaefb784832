/- out and its iterator. -/
import Derived.Test.YtfjfpnlcmjpofaaS8
import Derived.RangeFuncBox
import Derived.RangeFuncLeaves
import Derived.RangeFuncNested
import Derived.Shelf.Abstract
import Derived.Shelf.AbstractIn
import Derived.WalkKit
import Derived.OwnWalkIn
import Derived.TacticsInMore
import Derived.RegionIn
import Derived.LoopNIn
import Derived.LoopIn
import Derived.Maps.AppendAt
import Derived.Maps.OwnIn
import Derived.Sort.MapsRangeIn
namespace Go.Proofs.Ytfjfpnlcmjpofaa
open Go.RowKit Go.Maps Go.Sort Go.Shelf
set_option linter.unusedVariables false
attribute [local go_sem] Oper.semAt_some

/-- what the body of a loop over the iterator keeps: maps, iterators, and the box of the clock -/
def Kp (Y : Nat) (W W' : World) : Prop := KeepsWalks W W' ∧ W'.heap[Y]? = W.heap[Y]?
def live (now : Int) (x : Ls) : Bool := decide (now < x.fin)
theorem Came.lt {ls : List Ls} {left : Lit → Bool} {vis : List Ls} (h : Came ls left vis) (G : Good ls) {x : Ls} (hx : x ∈ ls) (hl : left (pk x.key x.cache) = true) : vis.length < ls.length := by
  have hn : x ∉ vis := fun hv => by rw [((h.mem x).1 hv).2] at hl; cases hl
  have h1 : (x :: vis).Nodup := List.nodup_cons.2 ⟨hn, h.nodup⟩
  have h2 : (x :: vis) ⊆ ls := fun y hy => by
    rcases List.mem_cons.1 hy with rfl | hy
    · exact hx
    · exact ((h.mem y).1 hy).1
  have h3 : (x :: vis).Perm (ls.filter fun y => decide (y ∈ x :: vis)) := (List.perm_ext_iff_of_nodup h1 (G.nodup.filter _)).2 fun y => by
    rw [List.mem_filter, decide_eq_true_eq]
    exact ⟨fun hy => ⟨h2 hy, hy⟩, fun hy => hy.2⟩
  have h4 := h3.length_eq
  have h5 := List.length_filter_le (fun y => decide (y ∈ x :: vis)) ls
  rw [List.length_cons] at h4
  omega
theorem out_any (p : Option Addr) (now : Int) (F : Fence) (n : Nat) (h29 : F.fn 29) (hro : F.round = none) (w : World) : CallsIn F n Try.prog 29 #[.pointer p, .int .i64 now] w fun e w' => e = .returned (.func (.func 33) #[] #[.pointer (some ⟨w.heap.size, 0, none⟩), .pointer (some ⟨w.heap.size + 1, 0, none⟩)]) ∧ w' = (w.alloc (.cells #[.pointer p] 27)).alloc (.cells #[.int .i64 now] 3) := by
  refine callsIn_of_wp Try.func29 rfl h29 ?_ hro
  simp only [Try.ntmps29, List.size_toArray, List.length_cons, List.length_nil, Nat.reduceAdd, Nat.reduceSub, Array.replicate_succ, Array.replicate_zero, List.push_toArray, List.append_toArray, List.nil_append, List.cons_append]
  gi_wp2
  go_ret
  exact ⟨rfl, rfl⟩
set_option maxRecDepth 100000 in
set_option maxHeartbeats 1000000 in
theorem out1_in (F : Fence) (n : Nat) (h33 : F.fn 33) (hro : F.round = none) (hn : 1 ≤ n) (l X Y B M : Nat) (now : Int) (ls : List Ls) (D : DataW Unit) (J Jx : List Ls → World → Prop)
    (hY : ∀ pre x W, J pre W → pre.length < ls.length → YieldAt F (n - 1) Try.prog l #[x.v] W fun e W' =>
      (e = .returned (.bool true) ∧ J (pre ++ [x]) W' ∧ Kp Y W W') ∨ (e = .returned (.bool false) ∧ Jx (pre ++ [x]) W'))
    (W : World) (hJ : AbidesFrom W.heap.size J) (hYl : Y < W.heap.size)
    (cX : W.cell? ⟨X, 0, none⟩ = some (.pointer (some ⟨B, 0, none⟩))) (cY : W.cell? ⟨Y, 0, none⟩ = some (.int .i64 now)) (cB : W.cell? ⟨B, 4, none⟩ = some (.map (some M)))
    (hR : Rep D ls) (G : Good ls) (hown : W.ownsMap Try.prog 64 lsR M ls.length D) (h0 : J [] W) :
    CallsIn F n Try.prog 33 #[.func (.yield l) #[] #[], .pointer (some ⟨X, 0, none⟩), .pointer (some ⟨Y, 0, none⟩)] W fun e W' => (∃ v, e = .returned v) ∧
      ((∃ ss : List Ls, ss.Perm (ls.filter (live now)) ∧ J ss W') ∨ (∃ pre : List Ls, True ∧ Jx pre W')) := by
  refine callsIn_of_wp Try.func33 rfl h33 ?_ hro
  simp only [Try.ntmps33, List.size_toArray, List.length_cons, List.length_nil, Nat.reduceAdd, Nat.reduceSub, Array.replicate_succ, Array.replicate_zero, List.push_toArray, List.append_toArray, List.nil_append, List.cons_append]
  gi_wp2_with (first
    | (gi_at_range; refine wpListIn_range_own _ rfl _ 59 rfl 64 57 keyed64 under59 _ M ls.length _ rfl hown ?_; intro w0 hrg0 hg0 hs0)
    | gi_in)
  go_frame
  have hb0 : w0.heap[Y]? = W.heap[Y]? := hg0.block Y hYl (fun e => by cases e)
  gi_loopw [13] (fun _ wr => ∃ (left : Lit → Bool) (cnt : Nat) (vis : List Ls), wr.ranges Try.prog 64 lsR M W.heap.size ls.length D left cnt ∧ Came ls left vis ∧ J (vis.filter (live now)) wr ∧ wr.heap[Y]? = W.heap[Y]? ∧ W.heap.size ≤ wr.heap.size)
    (fun _ wr => wr.rangeLeft M W.heap.size)
  case atStart =>
    exact ⟨_, _, [], hrg0, Came.start fun x hx => hR.left hx, hJ [] W w0 none h0 hg0 (fun r e => by cases e), hb0, hg0.size⟩
  case round =>
    obtain ⟨left, cnt, vis, hrg, hC, hJs, hbw, hbs⟩ := hrel
    gi_wp2_with (first
      | (gi_at_next; refine wpListIn_next_ranges _ rfl _ rfl 64 keyed64 lsR id Ls.v (fun key kl hk => ⟨key, rfl⟩) vinv M W.heap.size ls.length _ _ _ rfl hrg ?_ ?_)
      | gi_in)
    · intro hc0 hl0
      gi_wp2
      go_end0
      exact ⟨⟨_, rfl⟩, .inl ⟨_, (hC.all G hl0).filter _, hJs⟩⟩
    · intro x c kl yd yp w2 cnt2 hkey hlk hv hat hrg2 hlt hg2 hs2 hen
      obtain ⟨z, hz, hzk, hzd⟩ := hR.at_ hat
      rw [lsR_v] at hv
      injection hv with hv
      injection hv with hv hv2
      obtain rfl := d_inj (hv.trans hzd)
      subst hzk
      have hlt2 := hC.lt G hz hlk
      have hC2 := hC.step G hz hlk
      have hJ2 : J (vis.filter (live now)) w2 := hJ _ wr w2 (some W.heap.size) hJs hg2 (fun r e => by cases e; exact ⟨Nat.le_refl _, hrg.iter_walk⟩)
      have hb2 : w2.heap[Y]? = wr.heap[Y]? := hg2.block Y (by omega) (fun e => by injection e with e; omega)
      have hcc := hC2
      obtain ⟨ck, cc, cn, cf⟩ := c
      dsimp only [id, Ls.v] at hen ⊢
      have hs3 : W.heap.size ≤ w2.heap.size := by rw [hs2]; exact hbs
      obtain ⟨w3, hw3⟩ : ∃ w3, w3 = w2.alloc (.cells #[.string ck, .int .i64 cc, .int .i64 cn, .int .i64 cf] 57) := ⟨_, rfl⟩
      have hk3 : KeepsWalks w2 w3 := by rw [hw3]; exact KeepsWalks.alloc _ _
      have hb3 : w3.heap[Y]? = w2.heap[Y]? := by rw [hw3]; exact Below.heap_alloc _ _ Y (by omega)
      have hs4 : W.heap.size ≤ w3.heap.size := Nat.le_trans hs3 hk3.size
      have hJ3 : J (vis.filter (live now)) w3 := by rw [hw3]; exact hJ _ w2 _ none hJ2 (World.grownBy_alloc w2 _ none) (fun r e => by cases e)
      have hbW := (hb3.trans hb2).trans hbw
      have cY3 : w3.cell? ⟨Y, 0, none⟩ = some (.int .i64 now) := (World.cell?_of_block (w := W) (a := ⟨Y, 0, none⟩) hbW).trans cY
      have C3 : CellsR w3 w2.heap.size [.string ck, .int .i64 cc, .int .i64 cn, .int .i64 cf] := by rw [hw3]; exact cells_new w2 [.string ck, .int .i64 cc, .int .i64 cn, .int .i64 cf] 57
      have t0 := C3.is 0 _ rfl
      have t1 := C3.is 1 _ rfl
      have t2 := C3.is 2 _ rfl
      have t3 := C3.is 3 _ rfl
      have hrg3 := hrg2.of_walks hk3
      have ew := hw3.symm
      clear hs2 C3 hw3 hJ2 hcc
      by_cases hlive : now < cf
      · have d1 : decide (now < cf) = true := by rw [decide_eq_true_eq]; exact hlive
        obtain ⟨fn, tmps, assign, body, hy, hR⟩ := hY (vis.filter (live now)) ⟨ck, cc, cn, cf⟩ w3 hJ3 (Nat.lt_of_le_of_lt (List.length_filter_le _ _) hlt2)
        have hfil : (vis ++ [(⟨ck, cc, cn, cf⟩ : Ls)]).filter (live now) = vis.filter (live now) ++ [⟨ck, cc, cn, cf⟩] := by
          rw [List.filter_append]
          congr 1
          simp [live, hlive]
        dsimp only [Ls.v] at hy
        gi_wp2
        refine hR.mono ?_
        rintro e W3 (⟨rfl, hJ4, hk4, hb4⟩ | ⟨rfl, hJx4⟩)
        · gi_wp2
          have hrg4 := hrg3.of_walks hk4
          go_roundw
          case rel => exact ⟨_, cnt2, _, hrg4, hC2, by rw [hfil]; exact hJ4, hb4.trans hbW, Nat.le_trans hs4 hk4.size⟩
          case measure => rw [hrg4.left_eq, hrg.left_eq]; exact hlt
        · gi_wp2
          refine bodyPost_ret (results_none rfl _ _ _) rfl ?_
          exact ⟨⟨_, rfl⟩, .inr ⟨_, trivial, hJx4⟩⟩
      · have d1 : decide (now < cf) = false := by rw [decide_eq_false_iff_not]; exact hlive
        have hfil : (vis ++ [(⟨ck, cc, cn, cf⟩ : Ls)]).filter (live now) = vis.filter (live now) := by
          rw [List.filter_append]
          simp [live, hlive]
        gi_wp2
        refine ⟨fun _ h => (by cases h), ?_⟩
        gi_wp2
        go_roundw
        case rel => exact ⟨_, cnt2, _, hrg3, hC2, by rw [hfil]; exact hJ3, hbW, hs4⟩
        case measure => rw [hrg3.left_eq, hrg.left_eq]; exact hlt
theorem out_stops (F : Fence) (n : Nat) (h33 : F.fn 33) (hro : F.round = none) (hn : 1 ≤ n) (X Y B M : Nat) (now : Int) (ls : List Ls) (D : DataW Unit) (w : World) (hX : X < w.heap.size) (hYl : Y < w.heap.size) (hB : B < w.heap.size) (hM : M < w.heap.size)
    (cX : w.cell? ⟨X, 0, none⟩ = some (.pointer (some ⟨B, 0, none⟩))) (cY : w.cell? ⟨Y, 0, none⟩ = some (.int .i64 now)) (cB : w.cell? ⟨B, 4, none⟩ = some (.map (some M))) (hR : Rep D ls) (G : Good ls) (hown : w.ownsMap Try.prog 64 lsR M ls.length D) :
    SeqStopsK F n Try.prog 33 #[.pointer (some ⟨X, 0, none⟩), .pointer (some ⟨Y, 0, none⟩)] (fun x : Ls => #[x.v]) (Kp Y) (fun ss => ss.Perm (ls.filter (live now))) (fun _ => True) ls.length w := fun l J Jx W hW hJ _ hY h0 => by
  have hown' : W.ownsMap Try.prog 64 lsR M ls.length D := by
    obtain ⟨es, clock, hb, Ft, hs, hD⟩ := hown
    exact ⟨es, clock, (hW.block M hM).trans hb, Ft, hs, hD⟩
  exact out1_in F n h33 hro hn l X Y B M now ls D J Jx hY W hJ (Nat.lt_of_lt_of_le hYl hW.size) ((hW.cell (p := ⟨X, 0, none⟩) hX).trans cX) ((hW.cell (p := ⟨Y, 0, none⟩) hYl).trans cY) ((hW.cell (p := ⟨B, 4, none⟩) hB).trans cB) hR G hown' h0
end Go.Proofs.Ytfjfpnlcmjpofaa
