/- append([]int, xs...) of a slice that reads as a list; what the laws ask first. -/
import Derived.Test.YtochcilkpjhmiaaP2
import Derived.Test.YtochcilkpjhmiaaB6
import Derived.Laws.AppendOwnNone
namespace Go.Proofs.Ytochcilkpjhmiaa
open Go.RowKit

theorem longB_no (n n' : Nat) (h : n ≤ 200) (h' : n' ≤ 200) : longB n n' = false := by unfold longB; simp; omega
theorem longB_yes (n n' : Nat) (h : ¬ (n ≤ 200 ∧ n' ≤ 200)) : longB n n' = true := by unfold longB; simp; omega

theorem owns_empty (W : World) (B : Nat) (hB : B ≤ W.heap.size) : (W.alloc (.cells #[] 3)).ownsRow B 3 1 (.slice (some ⟨W.heap.size, 0, none⟩) 0 0) 0 [] :=
  owns_of_cells (heap_new _ _) rfl (Nat.le_refl _) (Nat.zero_le _) hB rfl (fun j v h => by simp at h)

theorem wpList_append_ri {w : World} {ops : Array Oper} {rest : List Oper} {o : Oper} {a : Act} {Q : Exit → Act → World → Prop} (hgd : o.guard = none) (s x : Operand)
    (ho : o.op = .call { callee := .builtin .append, args := #[s, x], argTypes := #[25, 25] }) (B n0 : Nat) (p0 : Option Addr) (c0 : Nat) (xs : List Int) (hs : a.eval s = .slice p0 n0 c0) (hown : OI B w p0 n0 c0 xs)
    (p : Option Addr) (n cap : Nat) (zs : List Int) (hx : a.eval x = .slice p n cap) (hR : RI w p n cap zs) (hcap : p = none → cap = 0) (hbig : (n0 + n) * 8 ≤ 140737488355328) (hbase : B ≤ w.heap.size)
    (h : ∀ p' c' w', OI B w' p' (n0 + n) c' (xs ++ zs) → Below B w w' → wpList Try.prog ops Q rest (a.put o.dst (.slice p' (n0 + n) c')) w') : wpList Try.prog ops Q (o :: rest) a w := by
  obtain ⟨i0, hi, hz0, hz1, hz2⟩ := info_parts Try.info3
  cases p with
  | none =>
    obtain rfl := hR.2.2.2.1 rfl
    obtain rfl : n = 0 := hR.1.symm
    obtain rfl := hcap rfl
    refine wpList_append_own_none hgd s x 25 ho B 3 i0 1 Try.underlying25 hi _ n0 _ hs hown hx ?_
    have := h p0 c0 w (by rw [List.append_nil]; exact hown) (Below.refl _ _)
    exact this
  | some ad =>
    have hl := hR.1
    obtain ⟨b, off, rfl, hb, hc⟩ := hR.cells
    refine wpList_append_own w hgd s x 25 ho B 3 i0 (.int .i64 0) 1 8 Try.underlying25 hi hz0 hz1 hz2 rfl (by decide) _ n0 _ hs hown ⟨b, off, none⟩ n cap (zs.map (Value.int .i64)) hx (by simp; omega) (fun j u hj => ?_) (fun u hu => ?_) (by unfold maxLen; omega) hbig hbase ?_
    · have hjl : j < zs.length := by have := (List.getElem?_eq_some_iff.1 hj).1; simpa using this
      have h1 := hc j hjl
      rw [List.getElem?_map, List.getElem?_eq_getElem hjl] at hj
      injection hj with hj
      rw [nth_get zs j hjl] at h1
      subst hj
      cases j <;> simpa [Addr.add] using h1
    · obtain ⟨y, _, rfl⟩ := List.mem_map.1 hu; rfl
    · intro v' w1 hown' hgrow _
      have hn : w1.ownsRow B 3 1 v' (n0 + n) ((xs ++ zs).map (Value.int .i64)) := by rw [List.map_append]; exact hown'
      obtain ⟨p1, c1, rfl, ho1⟩ := OI.of_owns hn
      exact h p1 c1 w1 ho1 ((Below.refl B w).grown hgrow hbase (own_block hown))

theorem wpList_append_fresh {W : World} {ops : Array Oper} {rest : List Oper} {o : Oper} {a : Act} {Q : Exit → Act → World → Prop} (hgd : o.guard = none) (s x : Operand)
    (ho : o.op = .call { callee := .builtin .append, args := #[s, x], argTypes := #[25, 25] }) (hs : a.eval s = .slice (some ⟨W.heap.size, 0, none⟩) 0 0)
    (p : Option Addr) (n cap : Nat) (zs : List Int) (hx : a.eval x = .slice p n cap) (hR : RI W p n cap zs) (hcap : p = none → cap = 0) (hbig : n * 8 ≤ 140737488355328)
    (h : ∀ p' c' w', OI W.heap.size w' p' n c' zs → Below W.heap.size W w' → wpList Try.prog ops Q rest (a.put o.dst (.slice p' n c')) w') : wpList Try.prog ops Q (o :: rest) a (W.alloc (.cells #[] 3)) := by
  have hA : Below W.heap.size W (W.alloc (.cells #[] 3)) := (Below.refl _ _).alloc (Nat.le_refl _) _
  refine wpList_append_ri hgd s x ho W.heap.size 0 _ _ [] hs (owns_empty W W.heap.size (Nat.le_refl _)) p n cap zs hx (hR.below hA) hcap (by omega) (by simp) ?_
  intro p' c' w' ho' hb'
  rw [Nat.zero_add] at *
  exact h p' c' w' ho' (hA.trans hb')

theorem bstep {P : Program} {f : FuncId} {args : Array Value} {B : Nat} {w0 w : World} {v : Value} (hb : Below B w0 w) (hB : B ≤ w0.heap.size) (hc : Calls P f args w fun e w' => e = .returned v ∧ Below w.heap.size w w') :
    Calls P f args w fun e w' => e = .returned v ∧ Below B w0 w' :=
  hc.mono fun _ _ ⟨a, b⟩ => ⟨a, hb.trans (b.mono (Nat.le_trans hB hb.size))⟩
theorem bdraw {P : Program} {f : FuncId} {args : Array Value} {w : World} {v : Value} (hc : Calls P f args w fun e w' => e = .returned v ∧ ∃ q, w' = w.drewN q) :
    Calls P f args w fun e w' => e = .returned v ∧ Below w.heap.size w w' :=
  hc.mono fun _ _ ⟨a, q, b⟩ => ⟨a, b ▸ below_drewN (Below.refl _ _) q⟩
theorem eqB_self (l : List Int) : eqB l l = true := by simp [eqB]

end Go.Proofs.Ytochcilkpjhmiaa
