/- A table of leases, in a world; clock, New, Clear, Early. -/
import Derived.Test.YtfjfpnlcmjpofaaP0
import Derived.Test.YtfjfpnlcmjpofaaChecked
import Derived.StillTailTactics
import Derived.Deep.RegionWith
import Derived.Deep.RegionHeld3
import Derived.Deep.QuietTactic
import Derived.BigQuiet
import Derived.Deep.CutBlock
import Derived.Maps.OwnOps
import Derived.StringKeys
import Derived.DeepKeys4
namespace Go.Proofs.Ytfjfpnlcmjpofaa
open Go.RowKit Go.Maps
set_option linter.unusedVariables false

theorem laid : laidOutB Try.prog = true := by kernel_rfl
theorem keyed64 : Keyed Try.prog 64 := Keyed.of_law (deep_law_laid laid (m := 2) (by omega) (of_decide_eq_true (by kernel_rfl)) (by kernel_rfl) (by kernel_rfl))
theorem under59 : Try.prog.underlying 59 = some (.map 64 57) := by kernel_rfl
theorem under60 : Try.prog.underlying 60 = some (.map 9 4) := by kernel_rfl
theorem under9 : Try.prog.underlying 9 = some .string := Try.underlying9
theorem keyed9 : Keyed Try.prog 9 := string_keyed under9
theorem zero57 (w : World) : (zeroValue 57).run Try.prog w = .ok Ls.zero.v w := by kernel_rfl
theorem wf64 {a : Int} (h0 : -9223372036854775808 ≤ a) (h1 : a ≤ 9223372036854775807) : (Lit.int .i64 a).wf = true := WalkArith.wf_i64 (by omega)
noncomputable def fs64 : Array Field := match Try.prog.underlying 64 with
  | some (.struct fs) => fs
  | _ => #[]
def plV (k : ByteArray) (c : Int) : Value := .agg #[.string k, .int .i64 c]
set_option maxRecDepth 20000 in
theorem key_pl {k : ByteArray} {c : Int} (h : Fine k c) : keyOf Try.prog 64 (plV k c) = some (pk k c) := by
  have h64 : Try.prog.underlying 64 = some (.struct fs64) := by kernel_rfl
  unfold keyOf
  rw [h64]
  simp only
  have e1 : Try.prog.keyType 64 = true := by kernel_rfl
  have e2 : Value.formed Try.prog 64 (plV k c) = true := by kernel_rfl
  have e3 : Try.prog.keyLits (Try.prog.types.size + 1) 64 (plV k c).cells.toList = ([if k.size ≤ maxLen then some [Lit.string k.data.toList] else none, if IntKind.i64 = IntKind.i64 ∧ (Lit.int .i64 c).wf = true then some [Lit.int .i64 c] else none].mapM id).map List.flatten := by
    kernel_rfl
  have f1 : (if k.size ≤ maxLen then some [Lit.string k.data.toList] else none) = some [Lit.string k.data.toList] := if_pos (Nat.le_trans h.1 (by unfold maxLen; omega))
  have f2 : (if IntKind.i64 = IntKind.i64 ∧ (Lit.int .i64 c).wf = true then some [Lit.int .i64 c] else none) = some [Lit.int .i64 c] := if_pos ⟨rfl, h.2⟩
  rw [f1, f2] at e3
  rw [e3, if_pos (by rw [e1, e2]; rfl)]
  rfl
theorem plainElem_bool_inv {v : Value} {z : DataW Unit × List MemPlace} (h : plainElem Try.prog 4 v = some z) : ∃ b, v = .bool b ∧ z = (.lit (.bool b), []) := by
  unfold plainElem at h
  rw [Try.underlying4] at h
  cases v <;> simp at h
  exact ⟨_, rfl, h.symm⟩
theorem key_str {k : ByteArray} (h : k.size ≤ 140737488355328) : keyOf Try.prog 9 (.string k) = some (.string k.data.toList) := Go.WideMaps.keyOf_string_mk under9 (Nat.le_trans h (by unfold maxLen; omega))

theorem owns_same {P : Program} {w w' : World} {k : TypeId} {R : Value → Option (DataW Unit × List MemPlace)} {b n : Nat} {D : DataW Unit} (h : w.ownsMap P k R b n D) (hb : w'.heap[b]? = w.heap[b]?) : w'.ownsMap P k R b n D := by
  obtain ⟨es, clock, h1, h2⟩ := h
  exact ⟨es, clock, hb.trans h1, h2⟩
theorem owns_tight {P : Program} {w : World} {k : TypeId} {R : Value → Option (DataW Unit × List MemPlace)} {b n : Nat} {D : DataW Unit} (h : w.ownsMap P k R b n D) : w.ownsMap P k R b (Maps.size D) D := by
  obtain ⟨es, clock, h1, h2, h3, h4⟩ := h
  refine ⟨es, clock, h1, h2, ?_, h4⟩
  subst h4
  have : ∀ l : List (Lit × DataW Unit), (l.foldr DataW.insert []).length = l.length := by
    intro l
    induction l with
    | nil => rfl
    | cons x l ih => rw [List.foldr_cons, (insert_perm x _).length_eq, List.length_cons, ih]; rfl
  show es.size ≤ ((es.toList.map _).foldr DataW.insert []).length
  rw [this]
  simp

structure Tb where
  life : Nat
  hold : Int
  start : Int
  given : Nat
  ls : List Ls
  shut : List (List UInt8)
  cnt : Nat
def Tb.top (t : Tb) : Nat := t.life * 1048576 + t.given
def Tb.fin (t : Tb) : Nat := t.life * 1048576 + 1048575
/-- a clock -/
def clockB (n : Int) : Bool := decide (0 ≤ n) && decide (n ≤ 2147483647)
structure Tb.Ok (t : Tb) : Prop where
  l1 : 1 ≤ t.life
  l2 : t.life ≤ 2047
  g : t.given ≤ 1048575
  h1 : 1 ≤ t.hold
  h2 : t.hold ≤ 2147483647
  s1 : 0 ≤ t.start
  s2 : t.start ≤ 2147483647
  good : Good t.ls
  num : ∀ x ∈ t.ls, ((t.life * 1048576 : Nat) : Int) < x.num ∧ x.num ≤ (t.top : Int) ∧ 0 ≤ x.fin ∧ x.fin ≤ 2147483647
  few : t.ls.length ≤ t.given
structure TabAt (w : World) (B M N : Nat) (t : Tb) : Prop where
  cells : CellsR w B [.int .i64 t.hold, .int .i64 t.start, .int .i64 (t.top : Int), .int .i64 (t.fin : Int), .map (some M), .map (some N)]
  map : ∃ D : DataW Unit, Rep D t.ls ∧ w.ownsMap Try.prog 64 lsR M t.ls.length D
  shut : ∃ (n : Nat) (D : DataW Unit), n ≤ t.cnt ∧ w.ownsMap Try.prog 9 (plainElem Try.prog 4) N n D ∧ ∀ x : List UInt8, D.atKey (.string x) (.lit (.bool false)) = .lit (.bool (decide (x ∈ t.shut)))
  apart : B ≠ M ∧ B ≠ N ∧ M ≠ N
  lt : M < w.heap.size ∧ N < w.heap.size
  ok : t.Ok
section
variable {w w' : World} {B M N : Nat} {t : Tb} {S : Nat → Prop}
theorem TabAt.only (h : TabAt w B M N t) (o : Only S w w') (hB : ¬ S B) (hM : ¬ S M) (hN : ¬ S N) : TabAt w' B M N t := by
  obtain ⟨D, h1, h2⟩ := h.map
  obtain ⟨n, E, g1, g2, g3⟩ := h.shut
  exact ⟨h.cells.kept o hB, ⟨D, h1, owns_same h2 (o.block M h.lt.1 hM)⟩, ⟨n, E, g1, owns_same g2 (o.block N h.lt.2 hN), g3⟩, h.apart, ⟨Nat.lt_of_lt_of_le h.lt.1 o.size, Nat.lt_of_lt_of_le h.lt.2 o.size⟩, h.ok⟩
theorem TabAt.new (h : TabAt w B M N t) (o : Only None' w w') : TabAt w' B M N t := h.only o (fun e => e) (fun e => e) fun e => e
theorem TabAt.drewN (h : TabAt w B M N t) (q : Nat) : TabAt (w.drewN q) B M N t := h.new ((Only.refl _ _).drewN q)
/-- is k shut? -/
theorem TabAt.look (h : TabAt w B M N t) {k : ByteArray} (hk : k.size ≤ 140737488355328) : (Instr.lookup 60 (.map (some N)) (.string k) false).run Try.prog w = .ok (.bool (decide (k.data.toList ∈ t.shut))) w := by
  obtain ⟨n, E, g1, g2, g3⟩ := h.shut
  obtain ⟨v, ps, h1, h2⟩ := g2.lookup keyed9 under60 (Try.zeroValue4 w) (plainElem_bool Try.underlying4 false) (key_str hk)
  rw [h1]
  rw [g3] at h2
  obtain ⟨b, rfl, h3⟩ := plainElem_bool_inv h2
  simp only [Prod.mk.injEq] at h3
  have := h3.1
  injection this with this
  injection this with this
  rw [this]
end
theorem clock_any (n : Int) (w : World) : Calls Try.prog 27 #[.int .i64 n] w fun e w' => e = .returned (.bool (clockB n)) ∧ w = w' := by
  unfold clockB
  by_cases h1 : 0 ≤ n
  · by_cases h2 : n ≤ 2147483647
    · have e1 : decide (0 ≤ n) = true := by rw [decide_eq_true_eq]; exact h1
      have e2 : decide (n ≤ 2147483647) = true := by rw [decide_eq_true_eq]; exact h2
      rw [e1, e2]
      go_enter Try.func27, Try.ntmps27
      go_wp2_with fail
      go_ret
      exact ⟨rfl, rfl⟩
    · have e1 : decide (0 ≤ n) = true := by rw [decide_eq_true_eq]; exact h1
      have e2 : decide (n ≤ 2147483647) = false := by rw [decide_eq_false_iff_not]; exact h2
      rw [e1, e2]
      go_enter Try.func27, Try.ntmps27
      go_wp2_with fail
      go_ret
      exact ⟨rfl, rfl⟩
  · have e1 : decide (0 ≤ n) = false := by rw [decide_eq_false_iff_not]; exact h1
    rw [e1]
    go_enter Try.func27, Try.ntmps27
    go_wp2_with fail
    go_ret
    exact ⟨rfl, rfl⟩
end Go.Proofs.Ytfjfpnlcmjpofaa
