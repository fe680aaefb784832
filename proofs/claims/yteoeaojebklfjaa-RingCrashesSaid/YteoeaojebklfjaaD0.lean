/- A disk, plainly. No program. -/
import Derived.Test.YteoeaojebklfjaaG1
namespace Go.Proofs.Yteoeaojebklfjaa
open Go.RowKit Go.Maps
set_option linter.unusedVariables false

abbrev Sec := List UInt8

/-- a disk: what lasts, what waits, how many were done, whether it is dead, its fuse, what is kept -/
structure Dk where
  lasts : List Sec
  waits : List (Nat × Sec)
  done : Int
  dead : Bool
  set : Bool
  left : Int
  keep : List Bool

def bv (s : Sec) : List Value := s.map fun c => .int .u8 (c.toNat : Int)
def wv (p : Nat × Sec) : List Value := .int .i64 (p.1 : Int) :: bv p.2
def bo (l : List Bool) : List Value := l.map Value.bool

theorem bv_length (s : Sec) : (bv s).length = s.length := by simp [bv]
theorem wv_length (p : Nat × Sec) : (wv p).length = p.2.length + 1 := by simp [wv, bv_length]
theorem bv_one (s : Sec) : ∀ u ∈ bv s, u.oneCell' = true := by
  intro u hu
  obtain ⟨c, _, rfl⟩ := List.mem_map.1 hu
  rfl

/-- the last write of a sector that waits -/
def lastIx : List (Nat × Sec) → Nat → Option Nat
  | [], _ => none
  | p :: r, i => match lastIx r i with
    | some k => some (k + 1)
    | none => if p.1 = i then some 0 else none
theorem lastIx_snoc (p : Nat × Sec) (i : Nat) : ∀ ws : List (Nat × Sec), lastIx (ws ++ [p]) i = if p.1 = i then some ws.length else lastIx ws i
  | [] => by simp [lastIx]
  | q :: r => by
    simp only [List.cons_append, lastIx, lastIx_snoc p i r, List.length_cons]
    by_cases e : p.1 = i <;> simp [e]
theorem lastIx_lt {i k : Nat} : ∀ {ws : List (Nat × Sec)}, lastIx ws i = some k → ∃ h : k < ws.length, ws[k].1 = i
  | [], h => by simp [lastIx] at h
  | q :: r, h => by
    simp only [lastIx] at h
    split at h
    · rename_i k' hk
      injection h with h
      subst h
      obtain ⟨h1, h2⟩ := lastIx_lt hk
      exact ⟨by simp; omega, by simpa using h2⟩
    · split at h
      · injection h with h
        subst h
        exact ⟨by simp, by simpa⟩
      · cases h

/-- a sector as it reads -/
def Dk.read (d : Dk) (i : Nat) : Sec := match lastIx d.waits i with
  | some k => (d.waits.getD k (0, [])).2
  | none => d.lasts.getD i []

/-- those that are kept last -/
def settle (kept : Nat → Bool) : Nat → List (Nat × Sec) → List Sec → List Sec
  | _, [], L => L
  | k, p :: r, L => settle kept (k + 1) r (if kept k then L.set p.1 p.2 else L)
theorem settle_length (kept : Nat → Bool) : ∀ (ws : List (Nat × Sec)) (k : Nat) (L : List Sec), (settle kept k ws L).length = L.length
  | [], _, _ => rfl
  | p :: r, k, L => by
    unfold settle
    rw [settle_length kept r]
    split <;> simp

structure Dk.Ok (d : Dk) : Prop where
  lasts : ∀ s ∈ d.lasts, s.length = 512
  waits : ∀ p ∈ d.waits, p.1 < d.lasts.length ∧ p.2.length = 512
  many : d.lasts.length ≤ 65536

theorem settle_ok (kept : Nat → Bool) {n : Nat} : ∀ (ws : List (Nat × Sec)) (k : Nat) (L : List Sec), (∀ p ∈ ws, p.1 < n ∧ p.2.length = 512) → (∀ s ∈ L, s.length = 512) → ∀ s ∈ settle kept k ws L, s.length = 512
  | [], _, _, _, h => h
  | p :: r, k, L, hw, h => by
    unfold settle
    refine settle_ok kept r (k + 1) _ (fun q hq => hw q (by simp [hq])) ?_
    split
    · intro s hs
      rcases List.mem_or_eq_of_mem_set hs with h1 | h1
      · exact h s h1
      · subst h1; exact (hw p (by simp)).2
    · exact h

/-- what the map of the last writes says -/
structure NowOf (M : DataW Unit) (ws : List (Nat × Sec)) : Prop where
  tidy : Tidy M
  has : ∀ i : Nat, Maps.has M (.int .i64 (i : Int)) = (lastIx ws i).isSome
  at_ : ∀ (i k : Nat) (z : DataW Unit), lastIx ws i = some k → M.atKey (.int .i64 (i : Int)) z = .lit (.int .i64 (k : Int))

theorem NowOf.nil : NowOf (.map []) [] := ⟨tidy_empty, fun i => by simp [Maps.has, lastIx], fun i k z h => by simp [lastIx] at h⟩
theorem ilit_inj {a b : Nat} (h : (Lit.int .i64 (a : Int)) = .int .i64 (b : Int)) : a = b := by
  injection h with _ h
  omega
theorem ikey (i : Int) : WideAt.IsKeyLit (.int .i64 i) := trivial

theorem NowOf.put {M : DataW Unit} {ws : List (Nat × Sec)} (h : NowOf M ws) (p : Nat × Sec) : NowOf (M.put (.int .i64 (p.1 : Int)) (.lit (.int .i64 (ws.length : Int)))) (ws ++ [p]) := by
  refine ⟨h.tidy.put (ikey _) _, fun i => ?_, fun i k z hk => ?_⟩
  · rw [lastIx_snoc]
    by_cases e : p.1 = i
    · subst e
      rw [if_pos rfl, has_put_same h.tidy.isMap (ikey _)]; rfl
    · rw [if_neg e, has_put_other (fun e' => e (ilit_inj e').symm), h.has]
  · rw [lastIx_snoc] at hk
    by_cases e : p.1 = i
    · subst e
      rw [if_pos rfl] at hk
      injection hk with hk
      subst hk
      exact atKey_put_same h.tidy.isMap (ikey _) _ _
    · rw [if_neg e] at hk
      rw [atKey_put_other (fun e' => e (ilit_inj e').symm)]
      exact h.at_ i k z hk

end Go.Proofs.Yteoeaojebklfjaa
