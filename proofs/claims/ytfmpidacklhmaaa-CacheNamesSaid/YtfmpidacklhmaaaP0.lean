/- Requests that wait, plainly; how one reads in a map. -/
import Derived.Test.YtfmpidacklhmaaaG2
import Derived.Maps.Own
import Derived.Maps.OwnSet
import Derived.Maps.Views
import Derived.Lib.SlKeysI
namespace Go.Proofs.Ytfmpidacklhmaaa
open Go.RowKit Go.Maps
set_option linter.unusedVariables false
set_option maxRecDepth 20000

structure Wt where
  req : Int
  key : ByteArray
  client : Int
  id : Int
  first : Int
  last : Int
  marked : Bool
  deriving DecidableEq

def Wt.row (x : Wt) : List Value := [.int .i64 x.req, .string x.key, .int .i64 x.client, .int .i64 x.id, .int .i64 x.first, .int .i64 x.last, .bool x.marked]
def Wt.v (x : Wt) : Value := .agg #[.int .i64 x.req, .string x.key, .int .i64 x.client, .int .i64 x.id, .int .i64 x.first, .int .i64 x.last, .bool x.marked]
theorem Wt.row_length (x : Wt) : x.row.length = 7 := rfl
theorem Wt.row_one (x : Wt) : ∀ u ∈ x.row, u.oneCell' = true := by
  intro u hu
  simp only [Wt.row, List.mem_cons, List.not_mem_nil, or_false] at hu
  rcases hu with rfl | rfl | rfl | rfl | rfl | rfl | rfl <;> rfl
def str (s : ByteArray) : DataW Unit := .lit (.string s.data.toList)
def num (a : Int) : DataW Unit := .lit (.int .i64 a)
def Wt.d (x : Wt) : DataW Unit := .agg [num x.req, str x.key, num x.client, num x.id, num x.first, num x.last, .lit (.bool x.marked)]
def wtR (v : Value) : Option (DataW Unit × List MemPlace) :=
  match v with
  | .agg xs => match xs.toList with
    | [.int .i64 a, .string k, .int .i64 c, .int .i64 i, .int .i64 f, .int .i64 l, .bool m] => some ((Wt.mk a k c i f l m).d, [])
    | _ => none
  | _ => none
theorem wtR_v (x : Wt) : wtR x.v = some (x.d, []) := rfl
theorem str_inj {a b : ByteArray} (h : str a = str b) : a = b := by
  unfold str at h
  injection h with h
  injection h with h
  have : a.data = b.data := Array.toList_inj.1 h
  cases a; cases b; simp_all
theorem num_inj {a b : Int} (h : num a = num b) : a = b := by
  unfold num at h
  injection h with h
  injection h with _ h
theorem d_inj {x y : Wt} (h : x.d = y.d) : x = y := by
  cases x; cases y
  unfold Wt.d at h
  injection h with h
  simp only [List.cons.injEq, and_true] at h
  obtain ⟨h1, h2, h3, h4, h5, h6, h7⟩ := h
  injection h7 with h7
  injection h7 with h7
  simp only [Wt.mk.injEq]
  exact ⟨num_inj h1, str_inj h2, num_inj h3, num_inj h4, num_inj h5, num_inj h6, h7⟩
theorem wtR_inv {v : Value} {x : Wt} {ps : List MemPlace} (h : wtR v = some (x.d, ps)) : v = x.v := by
  unfold wtR at h
  split at h
  · rename_i xs
    split at h
    · rename_i a k c i f l m e
      simp only [Option.some.injEq, Prod.mk.injEq] at h
      have := d_inj h.1
      subst this
      unfold Wt.v
      congr 1
      apply Array.toList_inj.1
      rw [e]
    · cases h
  · cases h

/-! ### the map -/
def ent (x : Wt) : Lit × DataW Unit := (.int .i64 x.req, x.d)
def Dof (ws : List Wt) : DataW Unit := .map (ws.map ent)
theorem same_int (a b : Int) : (Lit.int .i64 a).sameKey (.int .i64 b) = decide (a = b) := by simp [Lit.sameKey]
theorem Dof_has (ws : List Wt) (n : Int) : Maps.has (Dof ws) (.int .i64 n) = (ws.find? fun x => decide (x.req = n)).isSome := by
  unfold Dof
  rw [has_eq, List.any_map, Bool.eq_iff_iff, List.any_eq_true, List.find?_isSome]
  simp [ent, Lit.sameKey]
theorem Dof_size (ws : List Wt) : Maps.size (Dof ws) = ws.length := by simp [Dof, Maps.size]
theorem Dof_at (ws : List Wt) (n : Int) (z : DataW Unit) : (Dof ws).atKey (.int .i64 n) z = match ws.find? (fun x => decide (x.req = n)) with
    | some x => x.d
    | none => z := by
  unfold Dof DataW.atKey
  have : ((fun p : Lit × DataW Unit => p.1.sameKey (.int .i64 n)) ∘ ent) = fun x => decide (x.req = n) := by
    funext x
    simp [ent, Lit.sameKey]
  simp only [List.find?_map, this]
  cases ws.find? fun x => decide (x.req = n) <;> rfl
theorem Dof_keys (ws : List Wt) : intKeys (Dof ws) = ws.map (·.req) := by simp [Dof, intKeys, ent, intOf, Function.comp_def]
theorem Dof_del (ws : List Wt) (n : Int) : (Dof ws).del (.int .i64 n) = Dof (ws.filter fun x => decide (x.req ≠ n)) := by
  unfold Dof DataW.del
  simp only [List.filter_map]
  congr 2
  refine List.filter_congr fun x _ => ?_
  simp [ent, Lit.sameKey]
theorem insert_last {x : Lit × DataW Unit} : ∀ l : List (Lit × DataW Unit), (∀ y ∈ l, x.1.before y.1 = false) → DataW.insert x l = l ++ [x]
  | [], _ => rfl
  | y :: l, h => by
    unfold DataW.insert
    rw [if_neg (by rw [h y (by simp)]; decide), insert_last l fun z hz => h z (by simp [hz])]
    rfl
theorem Dof_push {ws : List Wt} {x : Wt} (h : ∀ y ∈ ws, y.req < x.req) : (Dof ws).put (.int .i64 x.req) x.d = Dof (ws ++ [x]) := by
  unfold Dof DataW.put
  simp only
  have e : (ws.map ent).filter (fun p => !p.1.sameKey (.int .i64 x.req)) = ws.map ent := by
    rw [List.filter_eq_self]
    intro p hp
    obtain ⟨y, hy, rfl⟩ := List.mem_map.1 hp
    have := h y hy
    simp [ent, Lit.sameKey]
    omega
  rw [e, insert_last, List.map_append]
  · rfl
  · intro p hp
    obtain ⟨y, hy, rfl⟩ := List.mem_map.1 hp
    have := h y hy
    simp [ent, Lit.before]
    omega
/-- rising numbers -/
def Rise (ws : List Wt) : Prop := ws.Pairwise fun a b => a.req < b.req
theorem Dof_turn {x : Wt} : ∀ {ws : List Wt}, Rise ws → (∃ y ∈ ws, y.req = x.req) → (Dof ws).put (.int .i64 x.req) x.d = Dof (ws.map fun y => if y.req = x.req then x else y) := by
  have key : ∀ {ws : List Wt}, Rise ws → (∃ y ∈ ws, y.req = x.req) → DataW.insert (ent x) ((ws.map ent).filter fun p => !p.1.sameKey (.int .i64 x.req)) = (ws.map fun y => if y.req = x.req then x else y).map ent := by
    intro ws
    induction ws with
    | nil => rintro _ ⟨y, hy, _⟩; cases hy
    | cons w ws ih =>
      intro hr he
      obtain ⟨h1, h2⟩ := List.pairwise_cons.1 hr
      by_cases e : w.req = x.req
      · have rest : ∀ y ∈ ws, y.req ≠ x.req := fun y hy => by have := h1 y hy; omega
        have f1 : (ws.map ent).filter (fun p => !p.1.sameKey (.int .i64 x.req)) = ws.map ent := by
          rw [List.filter_eq_self]
          intro p hp
          obtain ⟨y, hy, rfl⟩ := List.mem_map.1 hp
          simp [ent, Lit.sameKey, rest y hy]
        have f2 : (ws.map fun y => if y.req = x.req then x else y) = ws := by
          conv => rhs; rw [← List.map_id ws]
          refine List.map_congr_left fun y hy => ?_
          rw [if_neg (rest y hy)]; rfl
        rw [List.map_cons, List.filter_cons, if_neg (by simp [ent, Lit.sameKey, e]), f1, List.map_cons, if_pos e, f2, List.map_cons]
        cases ws with
        | nil => rfl
        | cons z zs =>
          rw [List.map_cons]
          unfold DataW.insert
          rw [if_pos]
          have := h1 z (by simp)
          simp [ent, Lit.before]
          omega
      · have he' : ∃ y ∈ ws, y.req = x.req := by
          obtain ⟨y, hy, hy2⟩ := he
          rcases List.mem_cons.1 hy with rfl | hy
          · exact absurd hy2 e
          · exact ⟨y, hy, hy2⟩
        rw [List.map_cons, List.filter_cons, if_pos (by simp [ent, Lit.sameKey, e]), List.map_cons, if_neg e, List.map_cons]
        unfold DataW.insert
        rw [if_neg, ih h2 he']
        obtain ⟨y, hy, hy2⟩ := he'
        have := h1 y hy
        simp [ent, Lit.before]
        omega
  intro ws hr he
  unfold Dof DataW.put
  simp only
  exact congrArg _ (key hr he)
theorem owns_tight {P : Program} {w : World} {k : TypeId} {R : Value → Option (DataW Unit × List MemPlace)} {b n : Nat} {D : DataW Unit} (h : w.ownsMap P k R b n D) : w.ownsMap P k R b (Maps.size D) D := by
  obtain ⟨es, clock, h1, h2, h3, h4⟩ := h
  refine ⟨es, clock, h1, h2, ?_, h4⟩
  subst h4
  have : ∀ l : List (Lit × DataW Unit), (l.foldr DataW.insert []).length = l.length := by
    have ins : ∀ (x : Lit × DataW Unit) (l : List (Lit × DataW Unit)), (DataW.insert x l).length = l.length + 1 := by
      intro x l
      induction l with
      | nil => rfl
      | cons y l ih =>
        unfold DataW.insert
        split
        · rfl
        · simp [ih]
    intro l
    induction l with
    | nil => rfl
    | cons x l ih => rw [List.foldr_cons, ins, ih]; rfl
  show es.size ≤ ((es.toList.map _).foldr DataW.insert []).length
  rw [this]
  simp
theorem owns_same {P : Program} {w w' : World} {k : TypeId} {R : Value → Option (DataW Unit × List MemPlace)} {b n : Nat} {D : DataW Unit} (h : w.ownsMap P k R b n D) (hb : w'.heap[b]? = w.heap[b]?) : w'.ownsMap P k R b n D := by
  obtain ⟨es, clock, h1, h2⟩ := h
  exact ⟨es, clock, hb.trans h1, h2⟩
end Go.Proofs.Ytfmpidacklhmaaa
