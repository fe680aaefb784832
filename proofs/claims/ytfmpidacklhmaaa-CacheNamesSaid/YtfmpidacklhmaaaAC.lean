/- What was asked: a map of numbers, as a function. -/
import Derived.Test.YtfmpidacklhmaaaA7
import Derived.Test.YtfmpidacklhmaaaS6
namespace Go.Proofs.Ytfmpidacklhmaaa
open Go.RowKit Go.Maps
set_option linter.unusedVariables false
set_option maxRecDepth 20000

structure Ak where
  op : Op5
  whr : Bool
  deriving DecidableEq
def Ak.zero : Ak := ⟨⟨0, ⟨#[]⟩, ⟨#[]⟩, ⟨#[]⟩, false⟩, false⟩
def Ak.row (x : Ak) : List Value := [.int .u8 x.op.kind, .string x.op.key, .string x.op.val, .string x.op.old, .bool x.op.had, .bool x.whr]
def Ak.v (x : Ak) : Value := .agg #[.int .u8 x.op.kind, .string x.op.key, .string x.op.val, .string x.op.old, .bool x.op.had, .bool x.whr]
def Ak.d (x : Ak) : DataW Unit := .agg [.lit (.int .u8 x.op.kind), str x.op.key, str x.op.val, str x.op.old, .lit (.bool x.op.had), .lit (.bool x.whr)]
def akR (v : Value) : Option (DataW Unit × List MemPlace) :=
  match v with
  | .agg xs => match xs.toList with
    | [.int .u8 a, .string k, .string c, .string i, .bool f, .bool m] => some ((Ak.mk ⟨a, k, c, i, f⟩ m).d, [])
    | _ => none
  | _ => none
theorem akR_v (x : Ak) : akR x.v = some (x.d, []) := rfl
theorem akd_inj {x y : Ak} (h : x.d = y.d) : x = y := by
  obtain ⟨⟨a1, a2, a3, a4, a5⟩, a6⟩ := x
  obtain ⟨⟨b1, b2, b3, b4, b5⟩, b6⟩ := y
  unfold Ak.d at h
  injection h with h
  simp only [List.cons.injEq, and_true] at h
  obtain ⟨h1, h2, h3, h4, h5, h6⟩ := h
  injection h1 with h1
  injection h1 with _ h1
  injection h5 with h5
  injection h5 with h5
  injection h6 with h6
  injection h6 with h6
  simp only [Ak.mk.injEq, Op5.mk.injEq]
  exact ⟨⟨h1, str_inj h2, str_inj h3, str_inj h4, h5⟩, h6⟩
theorem akR_inv {v : Value} {x : Ak} {ps : List MemPlace} (h : akR v = some (x.d, ps)) : v = x.v := by
  unfold akR at h
  split at h
  · rename_i xs
    split at h
    · rename_i a k c i f m e
      simp only [Option.some.injEq, Prod.mk.injEq] at h
      have := akd_inj h.1
      subst this
      unfold Ak.v
      congr 1
      apply Array.toList_inj.1
      rw [e]
    · cases h
  · cases h
theorem under62 : Try.prog.underlying 62 = some (.map 3 101) := by kernel_rfl
theorem zero101 (w : World) : (zeroValue 101).run Try.prog w = .ok Ak.zero.v w := by kernel_rfl
/-- the map, as a function -/
structure AskedAt (w : World) (M : Nat) (f : Int → Ak) (n : Nat) : Prop where
  map : ∃ D, w.ownsMap Try.prog 3 akR M n D ∧ ∀ k, D.atKey (.int .i64 k) Ak.zero.d = (f k).d
theorem AskedAt.lt {w : World} {M : Nat} {f : Int → Ak} {n : Nat} (h : AskedAt w M f n) : M < w.heap.size := by
  obtain ⟨D, ho, _⟩ := h.map
  exact ho.lt
theorem AskedAt.only {w w' : World} {M : Nat} {f : Int → Ak} {n : Nat} {S : Nat → Prop} (h : AskedAt w M f n) (o : Only S w w') (hM : ¬ S M) : AskedAt w' M f n := by
  have hl := h.lt
  obtain ⟨D, ho, hd⟩ := h.map
  exact ⟨D, owns_same ho (o.block M hl hM), hd⟩
theorem AskedAt.look {w : World} {M : Nat} {f : Int → Ak} {n : Nat} (h : AskedAt w M f n) {k : Int} (hk : (Lit.int .i64 k).wf = true) : (Instr.lookup 62 (.map (some M)) (.int .i64 k) false).run Try.prog w = .ok (f k).v w := by
  obtain ⟨D, ho, hd⟩ := h.map
  obtain ⟨v, ps, h1, h2⟩ := ho.lookup keyed3 under62 (zero101 w) (akR_v Ak.zero) (keyOf_int_mk Try.underlying3 hk)
  rw [h1]
  rw [hd] at h2
  rw [akR_inv h2]
theorem asked_put {w : World} {M n : Nat} {f : Int → Ak} {D D0 : DataW Unit} {k : Int} {x : Ak} (h0 : ∃ w0 n0, World.ownsMap w0 Try.prog 3 akR M n0 D0) (hd : ∀ k, D0.atKey (.int .i64 k) Ak.zero.d = (f k).d) (hk : (Lit.int .i64 k).wf = true) (h : w.ownsMap Try.prog 3 akR M n (D0.put (.int .i64 k) x.d)) : AskedAt w M (fun j => if j = k then x else f j) n := by
  obtain ⟨w0, n0, h0⟩ := h0
  refine ⟨_, h, fun j => ?_⟩
  by_cases e : j = k
  · subst e
    obtain ⟨es, he, _⟩ := h0.entries keyed3
    rw [if_pos rfl, atKey_put_same ⟨es, he⟩ (keyed3.key (keyOf_int_mk Try.underlying3 hk))]
  · rw [if_neg e, atKey_put_other (by intro h; injection h with _ h; exact e h), hd]
theorem asked_del {w : World} {M n : Nat} {f : Int → Ak} {D0 : DataW Unit} {k : Int} (hd : ∀ k, D0.atKey (.int .i64 k) Ak.zero.d = (f k).d) (h : w.ownsMap Try.prog 3 akR M n (D0.del (.int .i64 k))) : AskedAt w M (fun j => if j = k then Ak.zero else f j) n := by
  refine ⟨_, h, fun j => ?_⟩
  by_cases e : j = k
  · subst e
    rw [if_pos rfl, atKey_del_same]
  · rw [if_neg e, atKey_del_other (by intro h; injection h with _ h; exact e h), hd]
end Go.Proofs.Ytfmpidacklhmaaa
