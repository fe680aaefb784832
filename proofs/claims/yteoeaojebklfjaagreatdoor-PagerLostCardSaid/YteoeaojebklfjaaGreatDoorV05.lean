/- Q0 H0 H2 in one text. -/
import Derived.Test.YteoeaojebklfjaaGreatDoorV04
import Derived.Test.YteoeaojebklfjaaGreatDoorV00
import Derived.Deep.RegionHeld3
namespace Go.Proofs.YteoeaojebklfjaaGreatDoor
open Go.RowKit
set_option linter.unusedVariables false

section
variable {P : Program} {ops : Array Oper} {Q : Exit → Act → World → Prop} {md : Region.Mode} {S : Nat → Prop} {W : List Nat}
def AnyQ (P : Program) (md : Region.Mode) (ops : Array Oper) (Q : Exit → Act → World → Prop) (W : List Nat) (S : Nat → Prop) : Nat → Array Bool → Act → World → Prop
  | 0, listed, a, w => Region.ready md ops listed = [] ∧ ∀ w', Only None' w w' → Q .normal a w'
  | fuel + 1, listed, a, w => (Region.ready md ops listed = [] → ∀ w', Only None' w w' → Q .normal a w') ∧
    ∀ w', Only None' w w' → ∀ i ∈ Region.ready md ops listed, wpOp P ops Q i (fun a' w'' => Only (fun k => W.contains i = true ∧ S k) w' w'' ∧ AnyQ P md ops Q W S fuel (listed.setIfInBounds i true) a' w'') a w'
theorem AnyQ.later {fuel : Nat} {listed : Array Bool} {a : Act} {w w1 : World} (h : AnyQ P md ops Q W S fuel listed a w) (o : Only None' w w1) : AnyQ P md ops Q W S fuel listed a w1 := by
  cases fuel with
  | zero => exact ⟨h.1, fun w' o' => h.2 w' (o.trans o')⟩
  | succ n => exact ⟨fun hr w' o' => h.1 hr w' (o.trans o'), fun w' o' => h.2 w' (o.trans o')⟩
theorem any_of_Q : ∀ (fuel : Nat) (listed : Array Bool) (a : Act) (w : World), AnyQ P md ops Q W S fuel listed a w → wpAny P md ops Q fuel listed a w
  | 0, _, _, w, h => ⟨h.1, h.2 w (Only.refl _ _)⟩
  | fuel + 1, _, _, w, h => ⟨fun hr => h.1 hr w (Only.refl _ _), fun i hi => wpOp_mono (fun a' w' h' => any_of_Q fuel _ a' w' h'.2) (h.2 w (Only.refl _ _) i hi)⟩
theorem anyQ_first {i : Nat} {oi : Oper} {v : Value} (hi : ops[i]? = some oi) (hsel : ∀ (j : Nat) (o : Oper) cs b, ops[j]? = some o → o.op ≠ .select cs b)
    (hQ : ∀ c a w, Q (.panic c) (a.put oi.dst v) w → Q (.panic c) a w)
    {T : Nat → Prop} {w0 : World} (hT : ∀ j oj, ops[j]? = some oj → j ≠ i → (∀ e ∈ oj.after, Region.binds md e = true → e.on ≠ i) → ∀ k, (W.contains j = true ∧ S k) → T k) :
    ∀ (fuel : Nat) (listed : Array Bool) (a : Act) (w : World),
      (∀ j oj, ops[j]? = some oj → j ≠ i → listed.getD j true = false → (∀ e ∈ oj.after, Region.binds md e = true → e.on ≠ i) → oi.apart ops oj = true) →
      i ∈ Region.ready md ops listed → YR P ops T w0 oi v a → Only T w0 w →
      AnyQ P md ops Q W S fuel (listed.setIfInBounds i true) (a.put oi.dst v) w → AnyQ P md ops Q W S (fuel + 1) listed a w := by
  intro fuel
  induction fuel with
  | zero =>
    intro listed a w _ hr hy hS H
    refine ⟨fun h => (by rw [h] at hr; cases hr), fun w' o' j hj => ?_⟩
    by_cases hji : j = i
    · subst hji; exact hy.wpOp hi (hS.quiet o') fun w'' o'' => ⟨o''.mono fun _ _ e => e.elim, H.later (o'.trans o'')⟩
    · have := ready_mono hj hji
      rw [H.1] at this
      cases this
  | succ fuel ih =>
    intro listed a w hfree hr hy hS H
    refine ⟨fun h => (by rw [h] at hr; cases hr), fun w' o' j hj => ?_⟩
    by_cases hji : j = i
    · subst hji; exact hy.wpOp hi (hS.quiet o') fun w'' o'' => ⟨o''.mono fun _ _ e => e.elim, H.later (o'.trans o'')⟩
    · have h1 := H.2 w' o' j (ready_mono hj hji)
      obtain ⟨hjun, oj, hoj, hall⟩ := mem_ready.1 hj
      have hnot : ∀ e ∈ oj.after, Region.binds md e = true → e.on ≠ i := fun e he hb heq => by
        have h1 := hall e he hb
        have h0 := (mem_ready.1 hr).1
        rw [heq] at h1
        rcases Nat.lt_or_ge i listed.size with h' | h'
        · simp [h'] at h0 h1; rw [h0] at h1; cases h1
        · simp [Array.getElem?_eq_none h'] at h1
      have h2 := wpOp_putR hoj (hfree j oj hoj hji hjun hnot) (fun cs b => hsel i oi cs b hi) (fun cs b => hsel j oj cs b hoj) hQ hy h1
      have hfree' : ∀ k ok, ops[k]? = some ok → k ≠ i → (listed.setIfInBounds j true).getD k true = false →
          (∀ e ∈ ok.after, Region.binds md e = true → e.on ≠ i) → oi.apart ops ok = true := fun k ok hk hki hun hno => by
        refine hfree k ok hk hki ?_ hno
        by_cases hjk : j = k
        · subst hjk; exact hjun
        · rw [getD_set_ne true hjk] at hun; exact hun
      refine wpOp_mono (fun a' w'' h3 => ⟨h3.2.1, ih (listed.setIfInBounds j true) a' w'' hfree' (ready_mono hr (Ne.symm hji)) h3.1 ((hS.quiet o').trans (h3.2.1.mono fun k _ e => hT j oj hoj hji hnot k e)) ?_⟩) h2
      rw [Array.setIfInBounds_comm _ _ hji]
      exact h3.2.2
end
section
variable {P : Program} {md : Region.Mode} {l : List Oper} {Q : Exit → Act → World → Prop} {w0 : World} {S : Nat → Prop} {W : List Nat}
theorem r_begin' {id : Nat} {a : Act} {w : World} (hm : P.follows .mixedOrders = true)
    (h : AnyQ P .any l.toArray Q W S (List.length l) (Array.replicate (List.length l) false) a w) : (Code.region id l.toArray true).wp P Q a w := by
  have hd : Only None' w ({ w with drawn := w.drawn + 1 } : World) := (Only.refl _ w).drew
  refine wp_region_any hm ?_
  exact any_of_Q _ _ _ _ (h.later hd)
theorem r_take' (i : Nat) (v : Value) {oi : Oper} {rs : List Oper} {fuel : Nat} {listed : Array Bool} {a : Act} {w : World} (hi : l.drop i = oi :: rs)
    (hc : (Region.noSelect l.toArray && Region.free md l.toArray listed i && (Region.ready md l.toArray listed).contains i) = true)
    (hQ : ∀ c a w, Q (.panic c) (a.put oi.dst v) w → Q (.panic c) a w) (hS : Only S w0 w) (hy : YR P l.toArray S w0 oi v a)
    (h : AnyQ P md l.toArray Q W S fuel (listed.setIfInBounds i true) (a.put oi.dst v) w) : AnyQ P md l.toArray Q W S (fuel + 1) listed a w := by
  simp only [Bool.and_eq_true] at hc
  exact anyQ_first (r_drop hi) (Region.noSelect_spec hc.1.1) hQ (fun _ _ _ _ _ _ e => e.2) fuel listed a w (Region.free_spec (r_drop hi) hc.1.2) (by simpa using hc.2) hy hS h
def boundTo (md : Region.Mode) (ops : Array Oper) (i j : Nat) : Bool := match ops[j]? with
  | some oj => oj.after.any fun e => Region.binds md e && e.on == i
  | none => true
theorem r_takeN (i : Nat) (v : Value) {oi : Oper} {rs : List Oper} {fuel : Nat} {listed : Array Bool} {a : Act} {w : World} (hi : l.drop i = oi :: rs)
    (hc : (Region.noSelect l.toArray && Region.free md l.toArray listed i && (Region.ready md l.toArray listed).contains i) = true) (hb : (W.all fun j => boundTo md l.toArray i j) = true)
    (hQ : ∀ c a w, Q (.panic c) (a.put oi.dst v) w → Q (.panic c) a w) (hS : Only None' w0 w) (hy : YR P l.toArray None' w0 oi v a)
    (h : AnyQ P md l.toArray Q W S fuel (listed.setIfInBounds i true) (a.put oi.dst v) w) : AnyQ P md l.toArray Q W S (fuel + 1) listed a w := by
  simp only [Bool.and_eq_true] at hc
  refine anyQ_first (r_drop hi) (Region.noSelect_spec hc.1.1) hQ (fun j oj hj hne hno k e => ?_) fuel listed a w (Region.free_spec (r_drop hi) hc.1.2) (by simpa using hc.2) hy hS h
  have h1 := List.all_eq_true.1 hb j (by simpa using e.1)
  unfold boundTo at h1
  rw [hj] at h1
  obtain ⟨e1, h2, h3⟩ := Array.any_eq_true'.1 h1
  simp only [Bool.and_eq_true, beq_iff_eq] at h3
  exact absurd h3.2 (hno e1 h2 h3.1)
theorem r_one' (i : Nat) {oi : Oper} {rs : List Oper} {fuel : Nat} {listed : Array Bool} {a : Act} {w : World} (hi : l.drop i = oi :: rs)
    (hr : Region.ready md l.toArray listed = [i]) (hw : Region.wanted oi (yielded l.toArray a.tmps) = true)
    (h : ∀ w', Only None' w w' → Oper.wp P oi a w' (fun a' w'' => Only (fun k => W.contains i = true ∧ S k) w' w'' ∧ AnyQ P md l.toArray Q W S fuel (listed.setIfInBounds i true) a' w'') Q) : AnyQ P md l.toArray Q W S (fuel + 1) listed a w := by
  refine ⟨fun h0 => (by rw [hr] at h0; cases h0), fun w' o' j hj => ?_⟩
  rw [hr, List.mem_singleton] at hj
  subst hj
  unfold wpOp
  simp only [r_drop hi, hw, if_true]
  exact .inl (h w' o')
theorem r_done' {fuel : Nat} {listed : Array Bool} {a : Act} {w : World} (hr : Region.ready md l.toArray listed = []) (h : ∀ w', Only None' w w' → Q .normal a w') : AnyQ P md l.toArray Q W S fuel listed a w := by
  cases fuel with
  | zero => exact ⟨hr, h⟩
  | succ n => exact ⟨fun _ => h, fun w' o' j hj => by rw [hr] at hj; cases hj⟩
end

end Go.Proofs.YteoeaojebklfjaaGreatDoor
namespace Go.Proofs.YteoeaojebklfjaaGreatDoor
set_option linter.unusedVariables false

structure Pc where
  n : Nat
  last : Bool
  data : List UInt8

structure Pc.Ok (p : Pc) : Prop where
  pos : 1 ≤ p.n
  top : p.n ≤ 4611686018427387904
  size : p.data.length ≤ 501
  full : p.last = false → p.data.length = 501

def byteAt (n i : Nat) : UInt8 := UInt8.ofNat (n / 256 ^ i % 256)
def le8 (n : Nat) : List UInt8 := (List.range 8).map (byteAt n)
def flag (b : Bool) : UInt8 := if b then 1 else 0
def Pc.lay (p : Pc) : Sec := le8 p.n ++ [flag p.last, UInt8.ofNat (p.data.length % 256), UInt8.ofNat (p.data.length / 256 % 256)] ++ p.data ++ List.replicate (501 - p.data.length) 0

theorem le8_length (n : Nat) : (le8 n).length = 8 := by simp [le8]
theorem Pc.lay_length (p : Pc) (h : p.data.length ≤ 501) : p.lay.length = 512 := by
  simp [Pc.lay, le8_length]; omega

def num : List UInt8 → Nat
  | [] => 0
  | b :: r => b.toNat + 256 * num r
theorem byteAt_toNat (n i : Nat) : (byteAt n i).toNat = n / 256 ^ i % 256 := by
  unfold byteAt
  exact UInt8.toNat_ofNat_of_lt' (by show _ < 256; omega)
theorem num_map (n : Nat) : ∀ (k i : Nat), num ((List.range' i k).map (byteAt n)) = n / 256 ^ i % 256 ^ k
  | 0, i => by simp [num, Nat.mod_one]
  | k + 1, i => by
    rw [List.range'_succ, List.map_cons, num, num_map n k (i + 1), byteAt_toNat]
    have h1 : n / 256 ^ (i + 1) = n / 256 ^ i / 256 := by rw [Nat.pow_succ, Nat.div_div_eq_div_mul]
    rw [h1, Nat.pow_succ 256 k, Nat.mul_comm (256 ^ k) 256, Nat.mod_mul]
theorem num_le8 {n : Nat} (h : n < 18446744073709551616) : num (le8 n) = n := by
  have := num_map n 8 0
  rw [Nat.pow_zero, Nat.div_one] at this
  rw [le8, List.range_eq_range', this]
  exact Nat.mod_eq_of_lt (by omega)

def pieceN (s : Sec) : Nat := num (s.take 8)
def pieceSize (s : Sec) : Nat := (s.getD 9 0).toNat + 256 * (s.getD 10 0).toNat
def pieceOf (s : Sec) : Option Pc :=
  let p : Pc := ⟨pieceN s, s.getD 8 0 == 1, (s.drop 11).take (pieceSize s)⟩
  if pieceN s < 1 ∨ 4611686018427387904 < pieceN s ∨ 501 < pieceSize s then none
  else if p.lay ≠ s ∨ (p.last = false ∧ pieceSize s ≠ 501) then none
  else some p

theorem flag_is (b : Bool) : (flag b == 1) = b := by cases b <;> rfl

theorem pieceOf_lay {p : Pc} (h : p.Ok) : pieceOf p.lay = some p := by
  obtain ⟨n, last, data⟩ := p
  obtain ⟨h1, h2, h3, h4⟩ := h
  simp only at h1 h2 h3 h4
  have e1 : pieceN (Pc.lay ⟨n, last, data⟩) = n := by
    unfold pieceN Pc.lay
    rw [List.append_assoc, List.append_assoc, List.take_left' (le8_length n)]
    exact num_le8 (by omega)
  have e2 : (Pc.lay ⟨n, last, data⟩).getD 8 0 = flag last := by
    unfold Pc.lay
    simp only [List.getD_eq_getElem?_getD, List.append_assoc]
    rw [List.getElem?_append_right (by rw [le8_length]; exact Nat.le_refl _), le8_length]
    rfl
  have e3 : (Pc.lay ⟨n, last, data⟩).getD 9 0 = UInt8.ofNat (data.length % 256) := by
    unfold Pc.lay
    simp only [List.getD_eq_getElem?_getD, List.append_assoc]
    rw [List.getElem?_append_right (by rw [le8_length]; decide), le8_length]
    rfl
  have e4 : (Pc.lay ⟨n, last, data⟩).getD 10 0 = UInt8.ofNat (data.length / 256 % 256) := by
    unfold Pc.lay
    simp only [List.getD_eq_getElem?_getD, List.append_assoc]
    rw [List.getElem?_append_right (by rw [le8_length]; decide), le8_length]
    rfl
  have e5 : pieceSize (Pc.lay ⟨n, last, data⟩) = data.length := by
    unfold pieceSize
    rw [e3, e4, UInt8.toNat_ofNat_of_lt' (by show _ < 256; omega), UInt8.toNat_ofNat_of_lt' (by show _ < 256; omega)]
    omega
  have e6 : ((Pc.lay ⟨n, last, data⟩).drop 11).take data.length = data := by
    unfold Pc.lay
    rw [List.append_assoc, List.drop_left' (by simp [le8_length]), List.take_left' rfl]
  unfold pieceOf
  simp only [e1, e2, e5, e6, flag_is]
  rw [if_neg (by omega), if_neg (by
    rintro (h | ⟨h, h'⟩)
    · exact h rfl
    · exact h' (h4 h))]

theorem pieceOf_some {s : Sec} {p : Pc} (h : pieceOf s = some p) : s = p.lay ∧ p.Ok := by
  unfold pieceOf at h
  simp only at h
  split at h
  · cases h
  · rename_i h1
    split at h
    · cases h
    · rename_i h2
      injection h with h
      subst h
      simp only [ne_eq, not_or, not_and, Decidable.not_not] at h1 h2
      refine ⟨h2.1.symm, ⟨by simp only; omega, by simp only; omega, ?_, fun hl => ?_⟩⟩
      · simp only [List.length_take]; omega
      · have h3 := h2.2 hl
        have hlen := congrArg List.length h2.1
        have hs : s.length = 512 ∨ s.length ≠ 512 := by omega
        simp only [List.length_take, List.length_drop]
        simp only [Pc.lay, List.length_append, le8_length, List.length_take, List.length_drop, List.length_replicate, List.length_cons, List.length_nil] at hlen
        omega
end Go.Proofs.YteoeaojebklfjaaGreatDoor
namespace Go.Proofs.YteoeaojebklfjaaGreatDoor
open Go.RowKit Go.Maps
set_option linter.unusedVariables false

theorem zero124 : Tryz.zeroCells133 = Array.replicate 512 (.int .u8 0) := by kernel_rfl
theorem info124 : Tryz.prog.info? 133 = some Tryz.t133 := by kernel_rfl
theorem t124_size : Tryz.t133.size = 512 := by kernel_rfl
theorem size124 (s : Sec) (h : s.length = 512) : (Tryz.prog.info? 133).map (·.size) = some (bv s).length := by
  rw [info124, bv_length, h]; exact congrArg some t124_size
theorem size124a (s : Sec) (h : s.length = 512) : (Tryz.prog.info? 133).map (·.size) = some (bv s).toArray.size := by
  rw [size124 s h]; simp
theorem zsize124 : Tryz.zeroCells133.size = 512 := by kernel_rfl

theorem array_row (w : World) : Vec (w.alloc (.cells Tryz.zeroCells133 133)) 1 (.slice (some ⟨w.heap.size, 0, none⟩) 512 512) 512 (bv zs) := by
  refine ⟨by rw [zs_bv, List.length_replicate], .inr ⟨w.heap.size, 0, 512, rfl, Nat.le_refl _, by unfold maxLen; decide, by simp, fun j u hu => ?_, fun j hj => ?_⟩⟩
  · rw [Nat.zero_add, World.cell?_alloc_new, zero124]
    rw [zs_bv] at hu
    rw [Array.getElem?_replicate]
    rw [List.getElem?_replicate] at hu
    exact hu
  · rw [Nat.zero_add, World.cell?_alloc_new, zero124]
    exact ⟨by simp; omega, World.frozen?_alloc_new _ _ _ _⟩

def numbered (n i : Nat) : Sec := (List.range i).map (byteAt n) ++ List.replicate (512 - i) 0
theorem numbered_length (n i : Nat) (h : i ≤ 512) : (numbered n i).length = 512 := by simp [numbered]; omega
theorem numbered_zero (n : Nat) : numbered n 0 = zs := by unfold numbered zs; rfl
theorem numbered_next (n i : Nat) (h : i < 512) : (numbered n i).set i (byteAt n i) = numbered n (i + 1) := by
  unfold numbered
  rw [List.set_append_right _ _ (by simp), List.length_map, List.length_range, Nat.sub_self]
  obtain ⟨m, hm⟩ : ∃ m, 512 - i = m + 1 := ⟨511 - i, by omega⟩
  rw [hm, List.replicate_succ, List.set_cons_zero, List.range_succ, List.map_append, List.append_assoc, show 512 - (i + 1) = m by omega]
  rfl
theorem bv_take' (s : Sec) (m : Nat) : (bv s).take m = bv (s.take m) := by simp [bv, List.map_take]
theorem bv_set (s : Sec) (i : Nat) (c : UInt8) : (bv s).set i (.int .u8 (c.toNat : Int)) = bv (s.set i c) := by simp [bv, List.map_set]

section
variable {P : Program}
theorem wpList_copy_rd {w : World} {ops : Array Oper} {rest : List Oper} {o : Oper} {a : Act} {Q : Exit → Act → World → Prop} (hgd : o.guard = none) (d s : Operand) (t : TypeId)
    (ho : o.op = .call { callee := .builtin .copy, args := #[d, s], argTypes := #[t, t] }) (e : TypeId) (ht : P.underlying t = some (.slice e)) (hs1 : (P.info? e).map (·.size) = some 1)
    (g off dLen dCap : Nat) (hd : a.eval d = .slice (some ⟨g, off, none⟩) dLen dCap) (v : Value) (n : Nat) (xs : List Value) (hx : a.eval s = v) (hr : Rd w 1 v n xs) (hn : n ≤ dLen)
    (hc : ∀ j, j < n → (w.cell? ⟨g, off + j, none⟩).isSome = true ∧ w.frozen? ⟨g, off + j, none⟩ = false) (h1 : ∀ u ∈ xs, u.oneCell' = true)
    (h : wpList P ops Q rest (a.put o.dst (goInt n)) (w.setCells g off xs)) : wpList P ops Q (o :: rest) a w := by
  have hl : xs.length = n := by rw [hr.len, Nat.mul_one]
  have hrun : (Builtin.copy_ #[t, t] o.type #[.slice (some ⟨g, off, none⟩) dLen dCap, v]).run P w = .ok (goInt n) (w.setCells g off xs) := by
    rcases hr.form with ⟨rfl, rfl⟩ | ⟨ad, c, rfl, _, _, hsrc⟩
    · have hx : xs = [] := List.eq_nil_of_length_eq_zero hl
      subst hx
      exact run_copy_none w t t o.type e _ _ _ _ _ _ ht hs1 (Nat.zero_min _)
    · have := run_copy_cells (P := P) w t t o.type e g off dLen dCap ad n c xs ht hs1 (by rw [hl]; exact (Nat.min_eq_left hn).symm) hsrc (fun j hj => (hc j (by omega)).1) (fun j hj => (hc j (by omega)).2) h1
      rw [hl] at this
      exact this
  refine wpList_plain hgd fun K hK => ?_
  unfold Oper.wp execOp
  simp only [ho, resolve, invoke, builtin, Sem.run_bind, Sem.run_pure, Result.andThen_ok, List.map_toArray, List.map_cons, List.map_nil, hd, hx, hrun]
  exact hK _ _ h
end

theorem byte_val (n k : Nat) : ((n : Int) / 2 ^ (8 * k) % 256) = ((byteAt n k).toNat : Int) := by
  have h : ((256 ^ k : Nat) : Int) = (2 : Int) ^ (8 * k) := by
    rw [show (256 : Nat) = 2 ^ 8 from rfl, ← Nat.pow_mul, Int.natCast_pow]; rfl
  rw [byteAt_toNat, ← h]
  rfl
theorem info5s : (Tryz.prog.info? 5).map (·.size) = some 1 := by kernel_rfl

def headed (n : Nat) (la : Bool) (m : Nat) : Sec := le8 n ++ [flag la, UInt8.ofNat (m % 256), UInt8.ofNat (m / 256 % 256)] ++ List.replicate 501 0

theorem u8_wrap (m : Nat) : IntKind.u8.wrap (m : Int) = ((UInt8.ofNat (m % 256)).toNat : Int) := by
  rw [UInt8.toNat_ofNat_of_lt' (by show _ < 256; omega)]
  unfold IntKind.wrap
  simp only [IntKind.signed, Bool.false_and, if_false]
  rfl
theorem results_cell_mid {P : Program} {fn : Func} {p : Tmp} {ty : TypeId} (h : fn.results = #[.cell p ty]) (tmps : Array Value) (w : World) (g : Nat) (cs : List Value) (d : TypeDesc)
    (hp : tmps.getD p undef = .pointer (some ⟨g, 0, none⟩)) (hc : w.rangeAt g 0 cs) (hu : P.underlying ty = some d) (hd : d.isRow = true) (hi : (P.info? ty).map (·.size) = some cs.length) :
    (results fn tmps).run P w = .ok (.agg cs.toArray) w := by
  have hp' : tmps[p]?.getD undef = .pointer (some ⟨g, 0, none⟩) := by simpa using hp
  simp [results, h, hp', asAddr, run_loadVar_mid w g 0 ty cs d hc hu hd hi]
theorem headed_length (n : Nat) (la : Bool) (m : Nat) : (headed n la m).length = 512 := by
  simp only [headed, List.length_append, le8_length, List.length_cons, List.length_nil, List.length_replicate]
theorem headed_is (n : Nat) (la : Bool) (m : Nat) : (((numbered n 8).set 8 (flag la)).set 9 (UInt8.ofNat (m % 256))).set 10 (UInt8.ofNat (m / 256 % 256)) = headed n la m := by
  have e : numbered n 8 = le8 n ++ List.replicate 504 0 := rfl
  rw [e, List.set_append_right _ _ (by rw [le8_length]; decide), le8_length, List.set_append_right _ _ (by rw [le8_length]; decide), le8_length, List.set_append_right _ _ (by rw [le8_length]; decide), le8_length]
  rw [show (504 : Nat) = 501 + 1 + 1 + 1 from rfl, List.replicate_succ, List.replicate_succ, List.replicate_succ]
  simp only [headed, Nat.sub_self, List.set_cons_zero, List.append_assoc, List.cons_append, List.nil_append]
  rfl
theorem numbered_eight (n : Nat) : (numbered n 8).set 8 (flag false) = numbered n 8 := by
  have e : numbered n 8 = le8 n ++ List.replicate 504 0 := rfl
  rw [e, List.set_append_right _ _ (by rw [le8_length]; exact Nat.le_refl _), le8_length, show (504 : Nat) = 503 + 1 from rfl, List.replicate_succ]
  rfl
theorem headed_data (p : Pc) (h : p.data.length ≤ 501) : (headed p.n p.last p.data.length).take 11 ++ p.data ++ (headed p.n p.last p.data.length).drop (11 + p.data.length) = p.lay := by
  have hl : (le8 p.n ++ [flag p.last, UInt8.ofNat (p.data.length % 256), UInt8.ofNat (p.data.length / 256 % 256)]).length = 11 := by simp [le8_length]
  unfold headed Pc.lay
  rw [List.take_left' hl, List.drop_append, hl, List.drop_eq_nil_of_le (by rw [hl]; omega), List.nil_append, show 11 + p.data.length - 11 = p.data.length by omega, List.drop_replicate]

set_option maxRecDepth 20000 in
set_option maxHeartbeats 2000000 in
theorem sector_any (w : World) (p : Pc) (hn : p.n ≤ 4611686018427387904) (hd : p.data.length ≤ 501) (v : Value) (hr : Rd w 1 v p.data.length (bv p.data)) :
    Calls Tryz.prog 86 #[.agg #[.int .i64 (p.n : Int), .bool p.last, v]] w fun r w' => r = .returned (.agg (bv p.lay).toArray) ∧ Only None' w w' := by
  obtain ⟨n, la, data⟩ := p
  obtain ⟨va, vn, vc, rfl⟩ := hr.shape'
  have hvn : vn = data.length := by
    obtain ⟨a, c, e⟩ := hr.shape
    injection e
  subst hvn
  simp only at hn hd
  have HR := Lib.hid hr
  have HN := Lib.hid (And.intro hn hd)
  clear hr hn hd
  go_enter Tryz.func86, Tryz.ntmps86
  go_wp2_with fail
  obtain ⟨w3, hw3⟩ : ∃ w3, w3 = ((w.alloc (.cells #[.int .i64 (n : Int), .bool la, .slice va data.length vc] 132)).alloc (.cells Tryz.zeroCells133 133)).alloc (.cells Tryz.zeroCells133 133) := ⟨_, rfl⟩
  rw [← hw3]
  have hs2 : ((w.alloc (.cells #[.int .i64 (n : Int), .bool la, .slice va data.length vc] 132)).alloc (.cells Tryz.zeroCells133 133)).heap.size = w.heap.size + 1 + 1 := by simp
  have hS := array_row ((w.alloc (.cells #[.int .i64 (n : Int), .bool la, .slice va data.length vc] 132)).alloc (.cells Tryz.zeroCells133 133))
  rw [← hw3, hs2] at hS
  have hT := (array_row (w.alloc (.cells #[.int .i64 (n : Int), .bool la, .slice va data.length vc] 132))).alloc (.cells Tryz.zeroCells133 133)
  rw [← hw3, show (w.alloc (.cells #[.int .i64 (n : Int), .bool la, .slice va data.length vc] 132)).heap.size = w.heap.size + 1 by simp] at hT
  have o3 : Only None' w w3 := by rw [hw3]; exact (((Only.refl _ _).alloc _).alloc _).alloc _
  have CB : CellsR w3 w.heap.size [.int .i64 (n : Int), .bool la, .slice va data.length vc] := by
    rw [hw3]
    have c0 : CellsR (w.alloc (.cells #[.int .i64 (n : Int), .bool la, .slice va data.length vc] 132)) w.heap.size [.int .i64 (n : Int), .bool la, .slice va data.length vc] :=
      ⟨fun i u hu => by rw [World.cell?_alloc_new]; simpa using hu, fun i => World.frozen?_alloc_new _ _ _ _, by simp⟩
    exact (c0.kept ((Only.refl None' _).alloc _) fun e => e).kept ((Only.refl None' _).alloc _) fun e => e
  have hs3 : w3.heap.size = w.heap.size + 1 + 1 + 1 := by rw [hw3]; simp
  clear hw3 hs2
  obtain ⟨S, hSe⟩ : ∃ S, S = w.heap.size + 1 + 1 := ⟨_, rfl⟩
  rw [← hSe] at hS ⊢
  have HS := Lib.hid hS
  have HT := Lib.hid hT
  have O3 := Lib.hid o3
  have HCB := Lib.hid CB
  have HSE := Lib.hid (And.intro hSe hs3)
  clear hS hT o3 CB hSe hs3
  go_loopw [5] (fun i wr => ∃ k : Nat, k ≤ 8 ∧ i = .int .i64 (k : Int) ∧ Hid (Vec wr 1 (.slice (some ⟨S, 0, none⟩) 512 512) 512 (bv (numbered n k)) ∧ Only (fun j => j = S) w3 wr)) (fun i wr => 8 - (intOf i).toNat)
  case atStart => exact ⟨0, by omega, rfl, Lib.hid ⟨by rw [numbered_zero]; exact HS.out, Only.refl _ _⟩⟩
  case round =>
    obtain ⟨k, hk, rfl, HL⟩ := hrel
    have hBS : w.heap.size ≠ S := by have := HSE.out.1; omega
    have CB := HCB.out.kept HL.out.2 fun e => hBS e
    have b0 := CB.is 0 _ rfl
    have b1 := CB.is 1 _ rfl
    have b2 := CB.is 2 _ rfl
    clear CB
    by_cases hlt : k < 8
    · have i0 : (0 : Int) ≤ (k : Int) := by omega
      have i1 : (k : Int) < 8 := by omega
      have i2 : (k : Int) < 512 := by omega
      obtain ⟨f1, f2⟩ := HL.out.1.free0 (k := k) (by omega)
      obtain ⟨u, hu⟩ := Option.isSome_iff_exists.1 f1
      clear f1
      go_wp2_with fail
      go_roundw
      case rel =>
        refine ⟨k + 1, by omega, by go_num, Lib.hid ⟨?_, HL.out.2.trans ((Only.refl (fun j => j = S) wr).setCell (p := ⟨S, k, none⟩) rfl _)⟩⟩
        have := HL.out.1.set1 (show k < 512 by omega) (.int .u8 ((byteAt n k).toNat : Int))
        rw [bv_set, numbered_next n k (by omega)] at this
        rw [byte_val]
        exact this
      case measure => simp [intOf]; omega
    · obtain rfl : k = 8 := by omega
      have f8 := HL.out.1.free0 (k := 8) (by decide)
      have f9 := HL.out.1.free0 (k := 9) (by decide)
      have f10 := HL.out.1.free0 (k := 10) (by decide)
      obtain ⟨u8, h8⟩ := Option.isSome_iff_exists.1 f8.1
      obtain ⟨u9, h9⟩ := Option.isSome_iff_exists.1 f9.1
      obtain ⟨u10, h10⟩ := Option.isSome_iff_exists.1 f10.1
      have g8 := f8.2
      have g9 := f9.2
      have g10 := f10.2
      clear f8 f9 f10
      go_upto_if 18 with fail
      go_cut [] from 19 to 19 (fun wx => Hid (Vec wx 1 (.slice (some ⟨S, 0, none⟩) 512 512) 512 (bv ((numbered n 8).set 8 (flag la))) ∧ Only (fun j => j = S) w3 wx))
      case first =>
        cases la
        · go_wp2_with fail
          go_meet
          exact Lib.hid ⟨by rw [numbered_eight]; exact HL.out.1, HL.out.2⟩
        · go_wp2_with fail
          go_meet
          have := HL.out.1.set1 (show 8 < 512 by decide) (.int .u8 ((flag true).toNat : Int))
          rw [bv_set] at this
          exact Lib.hid ⟨this, HL.out.2.trans ((Only.refl (fun j => j = S) wr).setCell (p := ⟨S, 8, none⟩) rfl _)⟩
      case rest =>
        have HC := hcut
        clear hcut h8 h9 h10 g8 g9 g10 b0 b1 b2
        have CB := HCB.out.kept HC.out.2 fun e => hBS e
        have b2 := CB.is 2 _ rfl
        have f9 := HC.out.1.free0 (k := 9) (by decide)
        have f10 := HC.out.1.free0 (k := 10) (by decide)
        obtain ⟨u9', h9⟩ := Option.isSome_iff_exists.1 f9.1
        obtain ⟨u10', h10⟩ := Option.isSome_iff_exists.1 f10.1
        have g9 := f9.2
        have g10 := f10.2
        clear f9 f10 CB
        have hBS' : S ≠ w.heap.size := fun e => hBS e.symm
        have b2d : Hid (wc.drew.cell? ⟨w.heap.size, 2, none⟩ = some (.slice va data.length vc)) := b2
        have K1 : Hid (∀ v, (wc.drew.setCell ⟨S, 9, none⟩ v).cell? ⟨w.heap.size, 2, none⟩ = some (.slice va data.length vc)) := fun v => (World.cell?_setCell_far _ _ _ _ hBS').trans b2
        have K2 : Hid (∀ u v, ((wc.drew.setCell ⟨S, 9, none⟩ u).setCell ⟨S, 10, none⟩ v).cell? ⟨w.heap.size, 2, none⟩ = some (.slice va data.length vc)) := fun u v => (World.cell?_setCell_far _ _ _ _ hBS').trans ((World.cell?_setCell_far _ _ _ _ hBS').trans b2)
        have HB2 := Lib.hid b2
        go_wp2_with fail
        go_region_held3 (fun w' => w'.cell? ⟨w.heap.size, 2, none⟩ = some (.slice va data.length vc)) (first | exact b2d.out | exact K1.out _ | exact K2.out _ _) (fail)
        obtain ⟨w10, hw10⟩ : ∃ w10, w10 = ((wc.setCell ⟨S, 9, none⟩ (.int .u8 (IntKind.u8.wrap (data.length : Int)))).setCell ⟨S, 10, none⟩ (.int .u8 (IntKind.u8.wrap ((data.length : Int) / 256)))).drew := ⟨_, rfl⟩
        rw [← hw10]
        have hV : Vec w10 1 (.slice (some ⟨S, 0, none⟩) 512 512) 512 (bv (headed n la data.length)) := by
          have h1 := (HC.out.1.set1 (show 9 < 512 by decide) (.int .u8 ((UInt8.ofNat (data.length % 256)).toNat : Int))).set1 (show 10 < 512 by decide) (.int .u8 ((UInt8.ofNat (data.length / 256 % 256)).toNat : Int))
          rw [bv_set, bv_set, headed_is, ← u8_wrap, ← u8_wrap (data.length / 256)] at h1
          rw [hw10]
          exact h1.drew
        have oS : Only (fun j => j = S) w3 w10 := by
          rw [hw10]
          exact (((HC.out.2).setCell (p := ⟨S, 9, none⟩) rfl _).setCell (p := ⟨S, 10, none⟩) rfl _).drew
        have HV := Lib.hid hV
        have OS := Lib.hid oS
        have CB2 := HCB.out.kept oS fun e => hBS e
        have b3 := CB2.is 2 _ rfl
        have RD := Lib.hid (HR.out.only ((O3.out.trans2 oS fun k hk e => by have := HSE.out.1; omega).drew) fun _ _ _ _ e => e)
        clear hV oS hw10 h9 h10 g9 g10 b2 b2d HB2 CB2
        go_wp2_with fail
        go_still_tail 3, (by kernel_rfl)
        refine wpList_copy_rd rfl _ _ 35 rfl 5 Tryz.underlying35 info5s S 11 501 501 rfl (.slice va data.length vc) data.length (bv data) rfl RD.out (by have := HN.out.2; omega) (fun j hj => by
          have := HV.out.drew.free0 (k := 11 + j) (by have := HN.out.2; omega)
          exact this) (bv_one data) ?_
        obtain ⟨w11, hw11⟩ : ∃ w11, w11 = w10.drew.setCells S 11 (bv data) := ⟨_, rfl⟩
        have hV11 : Vec w11 1 (.slice (some ⟨S, 0, none⟩) 512 512) 512 (bv (Pc.lay ⟨n, la, data⟩)) := by
          have h1 := HV.out.drew.put (o := 11) (vs := bv data) (by rw [bv_length]; have := HN.out.2; omega)
          rw [Nat.zero_add, bv_length, bv_take', ← headed_data ⟨n, la, data⟩ HN.out.2] at *
          rw [hw11]
          simpa [bv, List.map_append, List.map_take, List.map_drop] using h1
        have o11 : Only (fun j => j = S) w3 w11 := by rw [hw11]; exact OS.out.drew.setCells rfl 11 (bv data)
        have hTS : w.heap.size + 1 ≠ S := by have := HSE.out.1; omega
        have hll : (Pc.lay ⟨n, la, data⟩).length = 512 := Pc.lay_length _ HN.out.2
        have hth : w11.there (w.heap.size + 1) 0 512 := by
          have := (HT.out.only o11 fun g hg e => hTS (by injection hg with hg; exact hg.trans e)).there (o := 0) (k := 512) (by decide)
          simpa using this
        have HV11 := Lib.hid hV11.range
        have HTH := Lib.hid hth
        have HLL := Lib.hid hll
        have O11 := Lib.hid o11
        change wpList _ _ _ _ _ (w10.drew.setCells S 11 (bv data))
        rw [← hw11]
        simp only [Act.put]
        obtain ⟨s, hs⟩ : ∃ s, s = Pc.lay ⟨n, la, data⟩ := ⟨_, rfl⟩
        rw [← hs] at HV11 HLL
        have HSL := Lib.hid hs
        clear b3 hV11 hth hll o11 hw11 hs
        go_wp2_with (first | (refine wpList_load_mid rfl 133 _ rfl S 0 rfl (bv s) _ HV11.out Tryz.underlying133 rfl (size124 s HLL.out) ?_) | (refine wpList_store_mid rfl 133 _ _ rfl (w.heap.size + 1) 0 (bv s).toArray rfl rfl ((show 512 = (bv s).toArray.size by simp [bv_length, HLL.out]) ▸ HTH.out) (size124a s HLL.out) (all_oneCell_toArray (bv_one s)) ?_))
        have hth' : w11.there (w.heap.size + 1) 0 (bv s).length := by rw [bv_length, HLL.out]; exact HTH.out
        refine bodyPost_ret (v := .agg (bv s).toArray) (results_cell_mid rfl _ _ (w.heap.size + 1) (bv s) _ rfl (World.rangeAt_setCells_same _ _ _ _ hth') Tryz.underlying133 rfl (size124 s HLL.out)) rfl ⟨by rw [HSL.out], ?_⟩
        refine (O3.out.trans2 O11.out fun k hk e => by have := HSE.out.1; omega).trans2 (S := None') ((Only.refl (fun j => j = w.heap.size + 1) w11).setCells rfl 0 _) fun k hk e => by omega
end Go.Proofs.YteoeaojebklfjaaGreatDoor
