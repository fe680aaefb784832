/- Nobody's calls; the example. -/
import Derived.Test.YtehoiapadnbklaaS6
namespace Go.Proofs.Ytehoiapadnbklaa
open Go.RowKit Go.Maps
set_option linter.unusedVariables false

theorem ask_nil (key : ByteArray) (client id now : Int) (w : World) : Calls Try.prog 9 #[.pointer none, .string key, .int .i64 client, .int .i64 id, .int .i64 now] w fun e w' => e = .returned (.tuple #[.int .i64 0, .int .i64 2]) ∧ w = w' := by
  go_enter Try.func9, Try.ntmps9
  go_wp2_with fail
  go_ret2
  exact ⟨rfl, rfl⟩
set_option maxRecDepth 20000 in
theorem tell_nil (n : Int) (w : World) : Calls Try.prog 10 #[.pointer none, .int .i64 n] w fun e w' => e = .returned (.tuple #[Wt.zero.v, .bool false]) ∧ Only None' w w' := by
  go_enter Try.func10, Try.ntmps10
  go_wp2_with fail
  refine (look_nil n _).mono ?_
  rintro e w1 ⟨rfl, o1⟩
  have O1 : Hid (Only None' w w1) := Lib.hid (((Only.refl None' w).alloc _).trans o1)
  have C1 := Lib.hid ((cells_new w [.int .i64 0, .string ⟨#[]⟩, .int .i64 0, .int .i64 0, .int .i64 0, .int .i64 0, .bool false] 36).kept o1 fun e => e)
  have lw : w.heap.size < w1.heap.size := C1.out.lt
  have O2 : Hid (Only None' w1 (w1.alloc (.cells #[.int .i64 0, .string ⟨#[]⟩, .int .i64 0, .int .i64 0, .int .i64 0, .int .i64 0, .bool false] 36))) := Lib.hid ((Only.refl None' w1).alloc _)
  have z0 := C1.out.is 0 _ rfl
  have z1 := C1.out.is 1 _ rfl
  have z2 := C1.out.is 2 _ rfl
  have z3 := C1.out.is 3 _ rfl
  have z4 := C1.out.is 4 _ rfl
  have z5 := C1.out.is 5 _ rfl
  have z6 := C1.out.is 6 _ rfl
  have zf := C1.out.thaw
  clear o1
  unfold Wt.zero Wt.v
  go_wp2_with fail
  (try simp only [Exit.inBlock, Exit.then])
  refine bodyPost_ret (v := .tuple #[.agg #[.int .i64 0, .string ⟨#[]⟩, .int .i64 0, .int .i64 0, .int .i64 0, .int .i64 0, .bool false], .bool false]) ?_ rfl ⟨rfl, ?_⟩
  · rw [results_cell_tmp rfl]
    go_simp
  · refine Only.alloc ?_ _
    iterate 7 refine Only.setNew ?_ (Nat.le_refl _) _ _
    exact O1.out
theorem mark_nil (key : ByteArray) (w : World) : Calls Try.prog 17 #[.pointer none, .string key] w fun e w' => e = .returned (.int .i64 0) ∧ Only None' w w' := by
  go_enter Try.func17, Try.ntmps17
  go_wp2_with fail
  refine (some_nil _ _).mono ?_
  rintro e w1 ⟨rfl, rfl⟩
  go_wp2_with fail
  go_loopw [13] (fun i wr => i = .int .i64 0 ∧ Only None' w wr) (fun i wr => 0)
  case atStart => exact ⟨rfl, (Only.refl _ _).alloc _⟩
  case round =>
    obtain ⟨rfl, o⟩ := hrel
    go_wp2_with fail
    go_ret
    exact ⟨rfl, o⟩
theorem due_nil (now every : Int) (w : World) : Calls Try.prog 20 #[.pointer none, .int .i64 now, .int .i64 every] w fun e w' => e = .returned (.slice none 0 0) ∧ Only None' w w' := by
  go_enter Try.func20, Try.ntmps20
  go_wp2_with fail
  refine (some_nil _ _).mono ?_
  rintro e w1 ⟨rfl, rfl⟩
  go_wp2_with fail
  go_loopw [14] (fun i wr => i = .int .i64 0 ∧ Only None' w wr) (fun i wr => 0)
  case atStart => exact ⟨rfl, ((Only.refl _ _).alloc _).alloc _⟩
  case round =>
    obtain ⟨rfl, o⟩ := hrel
    go_wp2_with fail
    go_ret
    exact ⟨rfl, o⟩
theorem old_nil (now every : Int) (w : World) : Calls Try.prog 22 #[.pointer none, .int .i64 now, .int .i64 every] w fun e w' => e = .returned (.slice none 0 0) ∧ Only None' w w' := by
  go_enter Try.func22, Try.ntmps22
  go_wp2_with fail
  refine (some_nil _ _).mono ?_
  rintro e w1 ⟨rfl, rfl⟩
  go_wp2_with fail
  go_loopw [15] (fun i wr => i = .int .i64 0 ∧ Only None' w wr) (fun i wr => 0)
  case atStart => exact ⟨rfl, ((Only.refl _ _).alloc _).alloc _⟩
  case round =>
    obtain ⟨rfl, o⟩ := hrel
    go_wp2_with fail
    go_ret
    exact ⟨rfl, o⟩
def sA : ByteArray := ⟨#[97]⟩
def sB : ByteArray := ⟨#[98]⟩
def exC0 : Cl := ⟨3, 0, []⟩
def exC1 : Cl := exC0.asked sA 201 5 10
def exC2 : Cl := exC1.asked sB 201 6 12
def exC3 : Cl := exC2.mark sA
def exC4 : Cl := exC3.due 14 4
def exC5 : Cl := exC4.due 14 4
def exC6 : Cl := exC5.old 22 10
theorem ex2 : exC2.ws = [⟨3145729, sA, 201, 5, 10, 10, false⟩, ⟨3145730, sB, 201, 6, 12, 12, false⟩] := by decide
theorem ex3 : exC3.ws = [⟨3145729, sA, 201, 5, 10, 10, true⟩, ⟨3145730, sB, 201, 6, 12, 12, false⟩] := by decide
theorem new_lit {life : Nat} {i : Int} (hi : (life : Int) = i) (h1 : 1 ≤ life) (h2 : life ≤ 2047) (w : World) : Calls Try.prog 8 #[.int .i64 i] w fun e w' => ∃ B M, e = .returned (.tuple #[.pointer (some ⟨B, 0, none⟩), .int .i64 0]) ∧ CallAt w' B M ⟨life, 0, []⟩ ∧ w.heap.size ≤ B ∧ w.heap.size ≤ M ∧ Only None' w w' := by
  subst hi
  exact new_any life h1 h2 w
theorem ask_lit {w : World} {B M : Nat} {c : Cl} (h : CallAt w B M c) (key : ByteArray) (client id now : Int) (hc : c.askCode now = 0) {n : Int} (hn : ((c.life * 1048576 + c.given + 1 : Nat) : Int) = n) {c' : Cl} (hc' : c.asked key client id now = c') : Calls Try.prog 9 #[.pointer (some ⟨B, 0, none⟩), .string key, .int .i64 client, .int .i64 id, .int .i64 now] w fun e w' => e = .returned (.tuple #[.int .i64 n, .int .i64 0]) ∧ CallAt w' B M c' ∧ Only (fun k => k = B ∨ k = M) w w' := by
  subst hn hc'
  exact ask_go h key client id now hc
theorem mark_lit {w : World} {B M : Nat} {c : Cl} (h : CallAt w B M c) (key : ByteArray) {n : Int} (hn : ((c.ws.filter fun x => decide (x.key = key)).length : Int) = n) {c' : Cl} (hc' : c.mark key = c') : Calls Try.prog 17 #[.pointer (some ⟨B, 0, none⟩), .string key] w fun e w' => e = .returned (.int .i64 n) ∧ CallAt w' B M c' ∧ Only (fun k => k = M) w w' := by
  subst hn hc'
  exact mark_any h key
theorem due_lit {w : World} {B M : Nat} {c : Cl} (h : CallAt w B M c) (now every : Int) {l : List Wt} (hl : ((c.ws.filter fun x => agoB x.last now every).map (Wt.at_ now)) = l) {n : Nat} (hn : l.length = n) {c' : Cl} (hc' : c.due now every = c') : Calls Try.prog 20 #[.pointer (some ⟨B, 0, none⟩), .int .i64 now, .int .i64 every] w fun e w' => ∃ a k, e = .returned (.slice a n k) ∧ WRow w' (.slice a n k) l ∧ (∀ g, (Value.slice a n k).ownBlock = some g → w.heap.size ≤ g) ∧ CallAt w' B M c' ∧ Only (fun k => k = M) w w' := by
  subst hl hn hc'
  refine (dues_any h now every).mono ?_
  rintro e w' ⟨v, rfl, h1, h2, h3, h4⟩
  obtain ⟨a, k, rfl⟩ := h1.shape
  exact ⟨a, k, rfl, h1, h2, h3, h4⟩
theorem old_lit {w : World} {B M : Nat} {c : Cl} (h : CallAt w B M c) (now every : Int) {l : List Wt} (hl : (c.ws.filter fun x => agoB x.first now every) = l) {n : Nat} (hn : l.length = n) {c' : Cl} (hc' : c.old now every = c') : Calls Try.prog 22 #[.pointer (some ⟨B, 0, none⟩), .int .i64 now, .int .i64 every] w fun e w' => ∃ a k, e = .returned (.slice a n k) ∧ WRow w' (.slice a n k) l ∧ (∀ g, (Value.slice a n k).ownBlock = some g → w.heap.size ≤ g) ∧ CallAt w' B M c' ∧ Only (fun k => k = M) w w' := by
  subst hl hn hc'
  refine (olds_any h now every).mono ?_
  rintro e w' ⟨v, rfl, h1, h2, h3, h4⟩
  obtain ⟨a, k, rfl⟩ := h1.shape
  exact ⟨a, k, rfl, h1, h2, h3, h4⟩
theorem all_lit {w : World} {B M : Nat} {c : Cl} (h : CallAt w B M c) {n : Nat} (hn : c.ws.length = n) : Calls Try.prog 24 #[.pointer (some ⟨B, 0, none⟩)] w fun e w' => ∃ a k, e = .returned (.slice a n k) ∧ WRow w' (.slice a n k) c.ws ∧ (∀ g, (Value.slice a n k).ownBlock = some g → w.heap.size ≤ g) ∧ Only None' w w' := by
  subst hn
  refine (alls_any h).mono ?_
  rintro e w' ⟨v, rfl, h1, h2, h3⟩
  obtain ⟨a, k, rfl⟩ := h1.shape
  exact ⟨a, k, rfl, h1, h2, h3⟩
theorem tell_lit {w : World} {B M : Nat} {c : Cl} (h : CallAt w B M c) (n : Int) (hn : (Lit.int .i64 n).wf = true) {x : Wt} (hx : (c.find n).getD Wt.zero = x) {b : Bool} (hb : (c.find n).isSome = b) {c' : Cl} (hc' : c.told n = c') : Calls Try.prog 10 #[.pointer (some ⟨B, 0, none⟩), .int .i64 n] w fun e w' => e = .returned (.tuple #[x.v, .bool b]) ∧ CallAt w' B M c' ∧ Only (fun k => k = B ∨ k = M) w w' := by
  subst hx hb hc'
  exact tell_any h n hn
end Go.Proofs.Ytehoiapadnbklaa
