/- Requests that wait, in a world; New, Ask, Look, Tell. -/
import Derived.Test.YtfmpidacklhmaaaP0
import Derived.Test.YtfmpidacklhmaaaChecked
import Derived.StillTailTactics
import Derived.Deep.RegionWith
import Derived.Deep.QuietTactic
import Derived.BigQuiet
import Derived.Deep.CutBlock
import Derived.Maps.OwnOps
namespace Go.Proofs.Ytfmpidacklhmaaa
open Go.RowKit Go.Maps
set_option linter.unusedVariables false
set_option maxRecDepth 20000

theorem keyed3 : Keyed Try.prog 3 := int_keyed Try.underlying3
theorem under76 : Try.prog.underlying 76 = some (.map 3 74) := by kernel_rfl
def Wt.zero : Wt := ⟨0, ⟨#[]⟩, 0, 0, 0, 0, false⟩
theorem zero74 (w : World) : (zeroValue 74).run Try.prog w = .ok Wt.zero.v w := by kernel_rfl
theorem wf64 {a : Int} (h0 : -9223372036854775808 ≤ a) (h1 : a ≤ 9223372036854775807) : (Lit.int .i64 a).wf = true := WalkArith.wf_i64 (by omega)

structure Cl where
  life : Nat
  given : Nat
  ws : List Wt
def Cl.top (c : Cl) : Nat := c.life * 1048576 + c.given
def Cl.fin (c : Cl) : Nat := c.life * 1048576 + 1048575
structure Cl.Ok (c : Cl) : Prop where
  l1 : 1 ≤ c.life
  l2 : c.life ≤ 2047
  g : c.given ≤ 1048575
  rise : Rise c.ws
  num : ∀ x ∈ c.ws, ((c.life * 1048576 : Nat) : Int) < x.req ∧ x.req ≤ (c.top : Int)
  few : c.ws.length ≤ 64
structure CallAt (w : World) (B M : Nat) (c : Cl) : Prop where
  cells : CellsR w B [.int .i64 (c.top : Int), .int .i64 (c.fin : Int), .map (some M)]
  map : w.ownsMap Try.prog 3 wtR M c.ws.length (Dof c.ws)
  apart : B ≠ M
  lt : M < w.heap.size
  ok : c.Ok
section
variable {w w' : World} {B M : Nat} {c : Cl} {S : Nat → Prop}
theorem CallAt.only (h : CallAt w B M c) (o : Only S w w') (hB : ¬ S B) (hM : ¬ S M) : CallAt w' B M c :=
  ⟨h.cells.kept o hB, owns_same h.map (o.block M h.lt hM), h.apart, Nat.lt_of_lt_of_le h.lt o.size, h.ok⟩
theorem CallAt.new (h : CallAt w B M c) (o : Only None' w w') : CallAt w' B M c := h.only o (fun e => e) fun e => e
def Cl.find (c : Cl) (n : Int) : Option Wt := c.ws.find? fun x => decide (x.req = n)
theorem CallAt.look_ok (h : CallAt w B M c) {n : Int} (hn : (Lit.int .i64 n).wf = true) : (Instr.lookup 76 (.map (some M)) (.int .i64 n) true).run Try.prog w = .ok (.tuple #[((c.find n).getD Wt.zero).v, .bool (c.find n).isSome]) w := by
  obtain ⟨v, ps, h1, h2⟩ := h.map.look_ok keyed3 under76 (zero74 w) (wtR_v Wt.zero) (keyOf_int_mk Try.underlying3 hn)
  rw [h1, Dof_has]
  rw [Dof_at] at h2
  have : v = ((c.find n).getD Wt.zero).v := by
    unfold Cl.find
    cases e : c.ws.find? (fun x => decide (x.req = n)) with
    | none => rw [e] at h2; exact wtR_inv h2
    | some x => rw [e] at h2; exact wtR_inv h2
  rw [this]
  rfl
theorem CallAt.look (h : CallAt w B M c) {n : Int} (hn : (Lit.int .i64 n).wf = true) : (Instr.lookup 76 (.map (some M)) (.int .i64 n) false).run Try.prog w = .ok ((c.find n).getD Wt.zero).v w := by
  obtain ⟨v, ps, h1, h2⟩ := h.map.lookup keyed3 under76 (zero74 w) (wtR_v Wt.zero) (keyOf_int_mk Try.underlying3 hn)
  rw [h1]
  rw [Dof_at] at h2
  have : v = ((c.find n).getD Wt.zero).v := by
    unfold Cl.find
    cases e : c.ws.find? (fun x => decide (x.req = n)) with
    | none => rw [e] at h2; exact wtR_inv h2
    | some x => rw [e] at h2; exact wtR_inv h2
  rw [this]
theorem CallAt.len (h : CallAt w B M c) (ty : TypeId) : (Builtin.len_ #[76] ty #[.map (some M)]).run Try.prog w = .ok (.int .i64 (c.ws.length : Int)) w := by
  rw [h.map.len under76 ty, Dof_size]
end

theorem new_bad (life : Int) (h : life < 1 ∨ 2047 < life) (w : World) : Calls Try.prog 16 #[.int .i64 life] w fun e w' => e = .returned (.tuple #[.pointer none, .int .i64 1]) ∧ w = w' := by
  by_cases h1 : life < 1
  · clear h
    go_enter Try.func16, Try.ntmps16
    go_wp2_with fail
    go_ret2
    exact ⟨rfl, rfl⟩
  · have h2 : 2047 < life := by omega
    clear h
    go_enter Try.func16, Try.ntmps16
    go_wp2_with fail
    go_ret2
    exact ⟨rfl, rfl⟩
set_option maxRecDepth 100000 in
theorem new_any (life : Nat) (h1 : 1 ≤ life) (h2 : life ≤ 2047) (w : World) : Calls Try.prog 16 #[.int .i64 (life : Int)] w fun e w' => ∃ B M, e = .returned (.tuple #[.pointer (some ⟨B, 0, none⟩), .int .i64 0]) ∧ CallAt w' B M ⟨life, 0, []⟩ ∧ w.heap.size ≤ B ∧ w.heap.size ≤ M ∧ Only None' w w' := by
  have a1 : (1 : Int) ≤ (life : Int) := by omega
  have a2 : (life : Int) ≤ 2047 := by omega
  have H := Lib.hid (And.intro h1 h2)
  have hmm := @run_makeMap Try.prog
  clear h1 h2
  go_enter Try.func16, Try.ntmps16
  go_wp2_with fail
  go_ret2
  have hc := cells_new (w.alloc (.map #[] 0)) [.int .i64 ((life : Int) * 1048576), .int .i64 ((life : Int) * 1048576 + 1048576 - 1), .map (some w.heap.size)] 78
  refine ⟨w.heap.size + 1, w.heap.size, rfl, ⟨?_, ?_, by omega, by simp; omega, ⟨H.out.1, H.out.2, Nat.zero_le _, List.Pairwise.nil, fun x hx => absurd hx (List.not_mem_nil), Nat.zero_le _⟩⟩, by omega, Nat.le_refl _, ((Only.refl _ _).alloc _).alloc _⟩
  · rw [show (w.alloc (.map #[] 0)).heap.size = w.heap.size + 1 by simp] at hc
    rw [show (((⟨life, 0, []⟩ : Cl).top : Nat) : Int) = (life : Int) * 1048576 by simp [Cl.top], show (((⟨life, 0, []⟩ : Cl).fin : Nat) : Int) = (life : Int) * 1048576 + 1048576 - 1 by simp only [Cl.fin]; omega]
    exact hc
  · exact (World.ownsMap_made w Try.prog 3 wtR).alloc _

/-! ### Ask -/
def Cl.asked (c : Cl) (key : ByteArray) (client id now : Int) : Cl := ⟨c.life, c.given + 1, c.ws ++ [⟨((c.life * 1048576 + c.given + 1 : Nat) : Int), key, client, id, now, now, false⟩]⟩
def Cl.askCode (c : Cl) (now : Int) : Int := if now < 0 then 1 else if c.ws.length = 64 then 3 else if c.given = 1048575 then 70 else 0
theorem Cl.Ok.asked {c : Cl} (h : c.Ok) {key : ByteArray} {client id now : Int} (hc : c.askCode now = 0) : (c.asked key client id now).Ok := by
  unfold Cl.askCode at hc
  split at hc
  · cases hc
  split at hc
  · cases hc
  split at hc
  · cases hc
  rename_i h1 h2 h3
  obtain ⟨a, b, g, r, n, f⟩ := h
  refine ⟨a, b, by show c.given + 1 ≤ _; omega, ?_, fun x hx => ?_, by show (c.ws ++ [_]).length ≤ 64; rw [List.length_append, List.length_singleton]; omega⟩
  · refine List.pairwise_append.2 ⟨r, List.pairwise_singleton _ _, fun x hx y hy => ?_⟩
    simp at hy
    subst hy
    have := (n x hx).2
    unfold Cl.top at this
    simp only
    omega
  · show ((c.life * 1048576 : Nat) : Int) < x.req ∧ x.req ≤ ((c.life * 1048576 + (c.given + 1) : Nat) : Int)
    rcases List.mem_append.1 hx with hx | hx
    · have := n x hx
      unfold Cl.top at this
      omega
    · simp at hx
      subst hx
      simp only
      omega
section
variable {w w' : World} {B M : Nat} {c : Cl} {S : Nat → Prop}
theorem ask_no (h : CallAt w B M c) (key : ByteArray) (client id now : Int) {code : Int} (hc : c.askCode now = code) (h0 : code ≠ 0) : Calls Try.prog 39 #[.pointer (some ⟨B, 0, none⟩), .string key, .int .i64 client, .int .i64 id, .int .i64 now] w fun e w' => e = .returned (.tuple #[.int .i64 0, .int .i64 code]) ∧ ∃ q, w' = w.drewN q := by
  have hl := h.len 3
  have c0 := h.cells.is 0 _ rfl
  have c1 := h.cells.is 1 _ rfl
  have c2 := h.cells.is 2 _ rfl
  obtain ⟨n, hn⟩ : ∃ n, n = c.ws.length := ⟨_, rfl⟩
  obtain ⟨t, ht⟩ : ∃ t : Int, t = (c.top : Int) := ⟨_, rfl⟩
  obtain ⟨z, hz⟩ : ∃ z : Int, z = (c.fin : Int) := ⟨_, rfl⟩
  have HTZ : Hid ((t == z) = decide (c.given = 1048575)) := Lib.hid (by
    rw [Bool.eq_iff_iff, beq_iff_eq, decide_eq_true_eq, ht, hz]
    unfold Cl.top Cl.fin
    omega)
  rw [← hn] at hl
  rw [← ht] at c0
  rw [← hz] at c1
  unfold Cl.askCode at hc
  rw [← hn] at hc
  clear hn ht hz
  by_cases h1 : now < 0
  · rw [if_pos h1] at hc
    have d1 : decide (now < 0) = true := by rw [decide_eq_true_eq]; exact h1
    subst hc
    clear h0 h1 HTZ h hl
    go_enter Try.func39, Try.ntmps39
    go_wp2_with fail
    go_ret2
    exact ⟨rfl, 0, rfl⟩
  rw [if_neg h1] at hc
  have d1 : decide (now < 0) = false := by rw [decide_eq_false_iff_not]; exact h1
  by_cases h2 : n = 64
  · rw [if_pos h2] at hc
    subst hc h2
    clear h0 h1 HTZ h
    go_enter Try.func39, Try.ntmps39
    go_wp2_with fail
    go_ret2
    exact ⟨rfl, 0, rfl⟩
  rw [if_neg h2] at hc
  have d2 : ((n : Int) == 64) = false := by rw [beq_eq_false_iff_ne]; omega
  have d2' : (n == 64) = false := by rw [beq_eq_false_iff_ne]; exact h2
  by_cases h3 : c.given = 1048575
  · rw [if_pos h3] at hc
    subst hc
    have d3 : (t == z) = true := by rw [HTZ.out]; simpa using h3
    clear h0 h1 h2 h3 HTZ h
    go_enter Try.func39, Try.ntmps39
    go_wp2_with fail
    go_quiet (fail)
    go_wp2_with fail
    go_ret2
    exact ⟨rfl, _, rfl⟩
  · rw [if_neg h3] at hc
    exact absurd hc.symm h0
theorem ask_go (h : CallAt w B M c) (key : ByteArray) (client id now : Int) (hc : c.askCode now = 0) : Calls Try.prog 39 #[.pointer (some ⟨B, 0, none⟩), .string key, .int .i64 client, .int .i64 id, .int .i64 now] w fun e w' => e = .returned (.tuple #[.int .i64 ((c.life * 1048576 + c.given + 1 : Nat) : Int), .int .i64 0]) ∧ CallAt w' B M (c.asked key client id now) ∧ Only (fun k => k = B ∨ k = M) w w' := by
  have hl := h.len 3
  have c0 := h.cells.is 0 _ rfl
  have c1 := h.cells.is 1 _ rfl
  have c2 := h.cells.is 2 _ rfl
  have f0 := h.cells.thaw 0
  have hB := h.cells.lt
  have H := Lib.hid h
  have OK := Lib.hid (h.ok.asked (key := key) (client := client) (id := id) hc)
  have HC := Lib.hid hc
  obtain ⟨n, hn⟩ : ∃ n, n = c.ws.length := ⟨_, rfl⟩
  obtain ⟨t, ht⟩ : ∃ t : Nat, t = c.top := ⟨_, rfl⟩
  obtain ⟨z, hz⟩ : ∃ z : Nat, z = c.fin := ⟨_, rfl⟩
  have ht' : t = c.life * 1048576 + c.given := ht
  have hz' : z = c.life * 1048576 + 1048575 := hz
  unfold Cl.askCode at hc
  split at hc
  · cases hc
  split at hc
  · cases hc
  split at hc
  · cases hc
  rename_i h1 h2 h3
  have hg := h.ok.g
  have hl2 := h.ok.l2
  have d1 : decide (now < 0) = false := by rw [decide_eq_false_iff_not]; exact h1
  have d2 : ((n : Int) == 64) = false := by rw [beq_eq_false_iff_ne]; omega
  have d2' : (n == 64) = false := by rw [beq_eq_false_iff_ne]; omega
  have d3 : ((t : Int) == (z : Int)) = false := by rw [beq_eq_false_iff_ne]; omega
  have d3' : (t == z) = false := by rw [beq_eq_false_iff_ne]; omega
  have t0 : (0 : Int) ≤ (t : Int) := by omega
  have t1 : (t : Int) ≤ 3000000000 := by omega
  have HTT := Lib.hid ht'
  have HZ := Lib.hid hz
  have HN := Lib.hid hn
  have HT := Lib.hid ht
  rw [← hn] at hl
  rw [← ht] at c0
  rw [← hz] at c1
  rw [← ht']
  clear hn ht hz hz' ht' h1 h2 h3 h hc hg hl2
  go_enter Try.func39, Try.ntmps39
  go_wp2_with fail
  go_quiet (fail)
  go_wp2_with fail
  obtain ⟨w1, hw1⟩ : ∃ w1, w1 = (w.drewN nq).setCell ⟨B, 0, none⟩ (.int .i64 ((t : Int) + 1)) := ⟨_, rfl⟩
  have CB : Hid (CellsR w1 B [.int .i64 ((t : Int) + 1), .int .i64 (z : Int), .map (some M)]) := Lib.hid (by
    have := ((H.out.cells.kept (((Only.refl None' w).drewN nq)) fun e => e).set (i := 0) (by simp) (.int .i64 ((t : Int) + 1)))
    rw [← HT.out, ← HZ.out, ← hw1] at this
    exact this)
  have O1 : Hid (Only (fun k => k = B ∨ k = M) w w1) := Lib.hid (by rw [hw1]; exact ((Only.refl (fun k => k = B ∨ k = M) w).drewN nq).setCell (p := ⟨B, 0, none⟩) (Or.inl rfl) _)
  have HM : Hid (w1.ownsMap Try.prog 3 wtR M n (Dof c.ws)) := Lib.hid (by
    rw [HN.out]
    exact owns_same H.out.map (by rw [hw1]; exact Below.heap_setCell _ _ _ _ fun e => H.out.apart e.symm))
  have c0' := CB.out.is 0 _ rfl
  have c2' := CB.out.is 2 _ rfl
  rw [← hw1]
  clear hw1 c0 c1 c2 f0 hl d1 d2 d2' d3 d3'
  go_still_tail 18, (by kernel_rfl)
  refine wpList_mapUpdate_in _ rfl _ _ _ 76 rfl 3 74 keyed3 under76 wtR M n (Dof c.ws) rfl (HM.out.drew) (by have := HN.out; have := H.out.ok.few; unfold maxLen; omega) (.int .i64 ((t : Int) + 1)) _ (.int .i64 ((t : Int) + 1)) rfl rfl (keyOf_int_mk Try.underlying3 (wf64 (by omega) (by omega))) (Wt.mk ((t : Int) + 1) key client id now now false).d [] rfl ?_
  intro w3 ho3 ht3
  have HO3 := Lib.hid ho3
  have O3 : Hid (Only (fun k => k = M) w1 w3) := Lib.hid ((Only.drew (Only.refl _ _)).turned ht3 rfl)
  have C3 := Lib.hid (CB.out.kept O3.out fun e => H.out.apart e)
  have c0 := C3.out.is 0 _ rfl
  clear ho3 ht3 c0' c2'
  go_wp2_with fail
  go_ret2
  have ht := HTT.out
  have e1 : ((c.asked key client id now).top : Int) = (t : Int) + 1 := by simp only [Cl.top, Cl.asked]; omega
  have e2 : (c.asked key client id now).fin = z := by rw [HZ.out]; rfl
  have e3 : (c.asked key client id now).ws = c.ws ++ [Wt.mk ((t : Int) + 1) key client id now now false] := by
    simp only [Cl.asked]
    rw [ht]
    rfl
  refine ⟨rfl, ⟨?_, ?_, H.out.apart, Nat.lt_of_lt_of_le H.out.lt (Nat.le_trans O1.out.size O3.out.size), OK.out⟩, O1.out.trans2 O3.out fun k _ e => Or.inr e⟩
  · rw [e1, e2]
    exact C3.out
  · rw [e3, ← Dof_push (x := Wt.mk ((t : Int) + 1) key client id now now false) fun y hy => ?_, List.length_append, List.length_singleton, ← HN.out]
    · exact HO3.out
    · have h1 := (H.out.ok.num y hy).2
      rw [← HT.out] at h1
      show y.req < (t : Int) + 1
      omega
/-! ### Look, Tell -/
theorem look_any (h : CallAt w B M c) (n : Int) (hn : (Lit.int .i64 n).wf = true) : Calls Try.prog 40 #[.pointer (some ⟨B, 0, none⟩), .int .i64 n] w fun e w' => e = .returned (.tuple #[((c.find n).getD Wt.zero).v, .bool (c.find n).isSome]) ∧ Only None' w w' := by
  have c2 := (h.cells.kept ((Only.refl None' w).alloc (.cells #[.int .i64 0, .string ⟨#[]⟩, .int .i64 0, .int .i64 0, .int .i64 0, .int .i64 0, .bool false] 74)) fun e => e).is 2 _ rfl
  have hl := (h.new ((Only.refl None' w).alloc (.cells #[.int .i64 0, .string ⟨#[]⟩, .int .i64 0, .int .i64 0, .int .i64 0, .int .i64 0, .bool false] 74))).look_ok hn
  obtain ⟨x, hx⟩ : ∃ x, x = (c.find n).getD Wt.zero := ⟨_, rfl⟩
  obtain ⟨b, hb⟩ : ∃ b, b = (c.find n).isSome := ⟨_, rfl⟩
  rw [← hx, ← hb] at hl ⊢
  clear hx hb
  obtain ⟨x1, x2, x3, x4, x5, x6, x7⟩ := x
  unfold Wt.v at hl ⊢
  simp only at hl ⊢
  clear hn h
  go_enter Try.func40, Try.ntmps40
  go_wp2_with fail
  (try simp only [Exit.inBlock, Exit.then])
  refine bodyPost_ret (v := .tuple #[.agg #[.int .i64 x1, .string x2, .int .i64 x3, .int .i64 x4, .int .i64 x5, .int .i64 x6, .bool x7], .bool b]) ?_ rfl ⟨rfl, ?_⟩
  · rw [results_cell_tmp rfl]
    go_simp
  · repeat (first | exact Only.refl _ _ | refine Only.setNew ?_ (by simp) _ _ | refine Only.alloc ?_ _)
theorem look_nil (n : Int) (w : World) : Calls Try.prog 40 #[.pointer none, .int .i64 n] w fun e w' => e = .returned (.tuple #[Wt.zero.v, .bool false]) ∧ Only None' w w' := by
  go_enter Try.func40, Try.ntmps40
  go_wp2_with fail
  (try simp only [Exit.inBlock, Exit.then])
  refine bodyPost_ret (v := .tuple #[Wt.zero.v, .bool false]) ?_ rfl ⟨rfl, ?_⟩
  · rw [results_cell_tmp rfl]
    go_simp
    rfl
  · repeat (first | exact Only.refl _ _ | refine Only.setNew ?_ (by simp) _ _ | refine Only.alloc ?_ _)
def Cl.told (c : Cl) (n : Int) : Cl := ⟨c.life, c.given, c.ws.filter fun x => decide (x.req ≠ n)⟩
theorem Cl.Ok.told {c : Cl} (h : c.Ok) (n : Int) : (c.told n).Ok :=
  ⟨h.l1, h.l2, h.g, h.rise.filter _, fun x hx => h.num x (List.mem_filter.1 hx).1, Nat.le_trans (List.length_filter_le _ _) h.few⟩
theorem Cl.told_none {c : Cl} {n : Int} (h : (c.find n).isSome = false) : c.told n = c := by
  unfold Cl.told
  have : c.ws.filter (fun x => decide (x.req ≠ n)) = c.ws := by
    rw [List.filter_eq_self]
    intro x hx
    unfold Cl.find at h
    rw [Option.isSome_eq_false_iff, Option.isNone_iff_eq_none, List.find?_eq_none] at h
    have := h x hx
    simpa using this
  rw [this]
theorem seven (T : Nat) (w : World) (a b c d e f g : Value) : Only (fun k => k = T) w (((((((w.setCell ⟨T, 0, none⟩ a).setCell ⟨T, 1, none⟩ b).setCell ⟨T, 2, none⟩ c).setCell ⟨T, 3, none⟩ d).setCell ⟨T, 4, none⟩ e).setCell ⟨T, 5, none⟩ f).setCell ⟨T, 6, none⟩ g) :=
  (((((((Only.refl (fun k => k = T) w).setCell (p := ⟨T, 0, none⟩) rfl _).setCell (p := ⟨T, 1, none⟩) rfl _).setCell (p := ⟨T, 2, none⟩) rfl _).setCell (p := ⟨T, 3, none⟩) rfl _).setCell (p := ⟨T, 4, none⟩) rfl _).setCell (p := ⟨T, 5, none⟩) rfl _).setCell (p := ⟨T, 6, none⟩) rfl _
theorem tell_end {w w3 wF : World} {c' : Cl} (h : CallAt w3 B M c') (hB : B < w.heap.size) (hM : M < w.heap.size) (o : Only (fun k => k = B ∨ k = M) w w3) (oF : Only (fun k => k = w.heap.size) w3 wF) : CallAt wF B M c' ∧ Only (fun k => k = B ∨ k = M) w wF :=
  ⟨h.only oF (by omega) (by omega), o.trans2 oF fun k hk e => by omega⟩
set_option maxRecDepth 20000 in
set_option maxHeartbeats 400000 in
theorem tell_any (h : CallAt w B M c) (n : Int) (hn : (Lit.int .i64 n).wf = true) : Calls Try.prog 44 #[.pointer (some ⟨B, 0, none⟩), .int .i64 n] w fun e w' => e = .returned (.tuple #[((c.find n).getD Wt.zero).v, .bool (c.find n).isSome]) ∧ CallAt w' B M (c.told n) ∧ Only (fun k => k = B ∨ k = M) w w' := by
  have HL := Lib.hid (fun w' (o : Only None' w w') => look_any (h.new o) n hn)
  have H := Lib.hid h
  have HN := Lib.hid hn
  obtain ⟨x, hx⟩ : ∃ x, x = (c.find n).getD Wt.zero := ⟨_, rfl⟩
  obtain ⟨b, hb⟩ : ∃ b, b = (c.find n).isSome := ⟨_, rfl⟩
  rw [← hx, ← hb] at HL ⊢
  have HB := Lib.hid hb
  clear hx hb h hn
  obtain ⟨x1, x2, x3, x4, x5, x6, x7⟩ := x
  unfold Wt.v at HL ⊢
  simp only at HL ⊢
  go_enter Try.func44, Try.ntmps44
  go_wp2_with fail
  refine (HL.out _ ((Only.refl None' w).alloc _)).mono ?_
  rintro e w1 ⟨rfl, o1⟩
  have O1 : Hid (Only None' w w1) := Lib.hid (((Only.refl None' w).alloc _).trans o1)
  have C1 : Hid (CellsR w1 w.heap.size [.int .i64 0, .string ⟨#[]⟩, .int .i64 0, .int .i64 0, .int .i64 0, .int .i64 0, .bool false]) := Lib.hid ((cells_new w [.int .i64 0, .string ⟨#[]⟩, .int .i64 0, .int .i64 0, .int .i64 0, .int .i64 0, .bool false] 74).kept o1 fun e => e)
  obtain ⟨w2, hw2⟩ : ∃ w2, w2 = w1.alloc (.cells #[.int .i64 x1, .string x2, .int .i64 x3, .int .i64 x4, .int .i64 x5, .int .i64 x6, .bool x7] 74) := ⟨_, rfl⟩
  have O2 : Hid (Only None' w1 w2) := Lib.hid (by rw [hw2]; exact (Only.refl None' w1).alloc _)
  have C2 : Hid (CellsR w2 w1.heap.size [.int .i64 x1, .string x2, .int .i64 x3, .int .i64 x4, .int .i64 x5, .int .i64 x6, .bool x7]) := Lib.hid (by rw [hw2]; exact cells_new w1 [.int .i64 x1, .string x2, .int .i64 x3, .int .i64 x4, .int .i64 x5, .int .i64 x6, .bool x7] 74)
  have lw : w.heap.size < w1.heap.size := C1.out.lt
  have HW2 := Lib.hid hw2
  have ew2 := hw2.symm
  clear o1 HL hw2
  cases b with
  | false =>
    have CZ := Lib.hid (C1.out.kept O2.out fun e => e)
    have z0 := CZ.out.is 0 _ rfl
    have z1 := CZ.out.is 1 _ rfl
    have z2 := CZ.out.is 2 _ rfl
    have z3 := CZ.out.is 3 _ rfl
    have z4 := CZ.out.is 4 _ rfl
    have z5 := CZ.out.is 5 _ rfl
    have z6 := CZ.out.is 6 _ rfl
    have zf := CZ.out.thaw
    have zl := CZ.out.lt
    have y0 := C2.out.is 0 _ rfl
    have y1 := C2.out.is 1 _ rfl
    have y2 := C2.out.is 2 _ rfl
    have y3 := C2.out.is 3 _ rfl
    have y4 := C2.out.is 4 _ rfl
    have y5 := C2.out.is 5 _ rfl
    have y6 := C2.out.is 6 _ rfl
    go_wp2_with fail
    (try simp only [Exit.inBlock, Exit.then])
    refine bodyPost_ret (v := .tuple #[.agg #[.int .i64 x1, .string x2, .int .i64 x3, .int .i64 x4, .int .i64 x5, .int .i64 x6, .bool x7], .bool false]) ?_ rfl ⟨rfl, ?_⟩
    · rw [results_cell_tmp rfl]
      go_simp
    · exact tell_end (by rw [Cl.told_none HB.out.symm]; exact H.out.new (O1.out.trans O2.out)) H.out.cells.lt H.out.lt ((O1.out.trans O2.out).mono fun _ _ e => e.elim) (seven _ _ _ _ _ _ _ _ _)
  | true =>
    have c2 := ((H.out.cells.kept O1.out fun e => e).kept O2.out fun e => e).is 2 _ rfl
    have HM := Lib.hid (H.out.new (O1.out.trans O2.out)).map
    go_wp2_with (first | (at_delete; refine wpList_delete_own _ rfl _ _ 76 3 rfl 74 keyed3 under76 wtR M c.ws.length (Dof c.ws) rfl HM.out (.int .i64 n) _ rfl (keyOf_int_mk Try.underlying3 HN.out) ?_; intro w3 ho3 ht3; have HO3 := Lib.hid ho3; have O3 : Hid (Only (fun k => k = M) w2 w3) := Lib.hid ((Only.refl _ _).turned ht3 rfl); have CZ := Lib.hid ((C1.out.kept O2.out fun e => e).kept O3.out fun e => by have := H.out.lt; omega); have CY := Lib.hid (C2.out.kept O3.out fun e => by have h1 := H.out.lt; have h2 := O1.out.size; omega); have z0 := CZ.out.is 0 _ rfl; have z1 := CZ.out.is 1 _ rfl; have z2 := CZ.out.is 2 _ rfl; have z3 := CZ.out.is 3 _ rfl; have z4 := CZ.out.is 4 _ rfl; have z5 := CZ.out.is 5 _ rfl; have z6 := CZ.out.is 6 _ rfl; have zf := CZ.out.thaw; have zl := CZ.out.lt; have y0 := CY.out.is 0 _ rfl; have y1 := CY.out.is 1 _ rfl; have y2 := CY.out.is 2 _ rfl; have y3 := CY.out.is 3 _ rfl; have y4 := CY.out.is 4 _ rfl; have y5 := CY.out.is 5 _ rfl; have y6 := CY.out.is 6 _ rfl; clear ho3 ht3))
    (try simp only [Exit.inBlock, Exit.then])
    refine bodyPost_ret (v := .tuple #[.agg #[.int .i64 x1, .string x2, .int .i64 x3, .int .i64 x4, .int .i64 x5, .int .i64 x6, .bool x7], .bool true]) ?_ rfl ⟨rfl, ?_⟩
    · rw [results_cell_tmp rfl]
      go_simp
    · exact tell_end (c' := c.told n) ⟨((H.out.cells.kept O1.out fun e => e).kept O2.out fun e => e).kept O3.out H.out.apart, by
          have h1 := owns_tight HO3.out
          rw [Dof_del, Dof_size] at h1
          exact h1, H.out.apart, Nat.lt_of_lt_of_le H.out.lt (Nat.le_trans O1.out.size (Nat.le_trans O2.out.size O3.out.size)), H.out.ok.told n⟩ H.out.cells.lt H.out.lt (((O1.out.trans O2.out).mono fun _ _ e => e.elim).trans2 O3.out fun k _ e => Or.inr e) (seven _ _ _ _ _ _ _ _ _)
end
end Go.Proofs.Ytfmpidacklhmaaa
