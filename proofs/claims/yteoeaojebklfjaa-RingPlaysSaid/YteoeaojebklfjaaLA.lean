/- A piece of a sector, as the document reads it; plainly. No program. -/
import Derived.Test.YteoeaojebklfjaaH5
import Derived.Test.YteoeaojebklfjaaD8
import Derived.OrdersHeld
import Derived.Test.YteoeaojebklfjaaH3
import Derived.Test.YteoeaojebklfjaaI0
import Derived.Test.YteoeaojebklfjaaH6
namespace Go.Proofs.Yteoeaojebklfjaa
set_option linter.unusedVariables false

theorem num_get : ∀ (l : List UInt8) (i : Nat) (h : i < l.length), num l / 256 ^ i % 256 = l[i].toNat
  | [], i, h => absurd h (by simp)
  | b :: r, 0, h => by
    have := b.toNat_lt
    simp only [num, Nat.pow_zero, Nat.div_one, List.getElem_cons_zero]
    omega
  | b :: r, i + 1, h => by
    have hb := b.toNat_lt
    have e : num (b :: r) / 256 ^ (i + 1) = num r / 256 ^ i := by
      rw [Nat.pow_succ, Nat.mul_comm, ← Nat.div_div_eq_div_mul]
      have : num (b :: r) / 256 = num r := by simp only [num]; omega
      rw [this]
    rw [e, num_get r i (by simpa using h)]
    simp
theorem num_bound : ∀ (l : List UInt8), num l < 256 ^ l.length
  | [] => by simp [num]
  | b :: r => by
    have h1 := num_bound r
    have h2 := b.toNat_lt
    simp only [num, List.length_cons, Nat.pow_succ]
    omega
theorem le8_num {l : List UInt8} (h : l.length = 8) : le8 (num l) = l := by
  refine List.ext_getElem (by rw [le8_length, h]) fun i h1 h2 => ?_
  have h8 : i < 8 := by rw [le8_length] at h1; exact h1
  simp only [le8, List.getElem_map, List.getElem_range]
  have := num_get l i h2
  unfold byteAt
  rw [this]
  exact UInt8.ofNat_toNat
/-- behind a piece there is nothing -/
def tailZero (s : Sec) : Prop := ∀ i, 11 + pieceSize s ≤ i → i < 512 → s.getD i 0 = 0
theorem getD_at {s : Sec} {i : Nat} (h : i < s.length) : s.getD i 0 = s[i] := by
  rw [List.getD_eq_getElem?_getD, List.getElem?_eq_getElem h]; rfl
theorem split_sec {s : Sec} (h : s.length = 512) {m : Nat} (hm : m ≤ 501) : s = s.take 8 ++ [s.getD 8 0, s.getD 9 0, s.getD 10 0] ++ (s.drop 11).take m ++ s.drop (11 + m) := by
  have h1 : s.take 8 ++ [s.getD 8 0, s.getD 9 0, s.getD 10 0] = s.take 11 := by
    refine List.ext_getElem (by simp [h]) fun i h1 h2 => ?_
    have h3 : i < 11 := by simp [h] at h2; exact h2
    rw [List.getElem_take]
    by_cases h4 : i < 8
    · rw [List.getElem_append_left (by simp [h]; omega), List.getElem_take]
    · rw [List.getElem_append_right (by simp [h]; omega)]
      have h5 : i = 8 ∨ i = 9 ∨ i = 10 := by omega
      have hl : (s.take 8).length = 8 := by simp [h]
      rcases h5 with rfl | rfl | rfl
      · simp only [hl, Nat.sub_self, List.getElem_cons_zero]; exact getD_at (by omega)
      · simp only [hl, Nat.reduceSub, List.getElem_cons_succ, List.getElem_cons_zero]; exact getD_at (by omega)
      · simp only [hl, Nat.reduceSub, List.getElem_cons_succ, List.getElem_cons_zero]; exact getD_at (by omega)
  rw [h1]
  have h2 : (s.drop 11).take m ++ s.drop (11 + m) = s.drop 11 := by
    rw [← List.drop_drop]
    exact List.take_append_drop _ _
  rw [List.append_assoc, h2]
  exact (List.take_append_drop _ _).symm
/-- what the document asks -/
structure DocOk (s : Sec) : Prop where
  lo : 1 ≤ pieceN s
  hi : pieceN s ≤ 4611686018427387904
  flag : (s.getD 8 0).toNat ≤ 1
  size : pieceSize s ≤ 501
  full : (s.getD 8 0).toNat = 0 → pieceSize s = 501
  tail : tailZero s
def docPiece (s : Sec) : Pc := ⟨pieceN s, s.getD 8 0 == 1, (s.drop 11).take (pieceSize s)⟩
theorem doc_lay {s : Sec} (h : s.length = 512) (ok : DocOk s) : (docPiece s).lay = s := by
  have hl : ((s.drop 11).take (pieceSize s)).length = pieceSize s := by
    have := ok.size
    simp [h]; omega
  have h9 := (s.getD 9 0).toNat_lt
  have h10 := (s.getD 10 0).toNat_lt
  have e0 : le8 (pieceN s) = s.take 8 := le8_num (by simp [h])
  have e1 : flag (s.getD 8 0 == 1) = s.getD 8 0 := by
    have := ok.flag
    have h2 : s.getD 8 0 = 0 ∨ s.getD 8 0 = 1 := by
      rcases Nat.eq_zero_or_pos (s.getD 8 0).toNat with e | e
      · exact Or.inl (UInt8.toNat_inj.1 (by rw [e]; rfl))
      · exact Or.inr (UInt8.toNat_inj.1 (by show _ = 1; omega))
    rcases h2 with e | e <;> rw [e] <;> rfl
  have e2 : UInt8.ofNat (pieceSize s % 256) = s.getD 9 0 := by
    have : pieceSize s % 256 = (s.getD 9 0).toNat := by unfold pieceSize; omega
    rw [this]; exact UInt8.ofNat_toNat
  have e3 : UInt8.ofNat (pieceSize s / 256 % 256) = s.getD 10 0 := by
    have : pieceSize s / 256 % 256 = (s.getD 10 0).toNat := by unfold pieceSize; omega
    rw [this]; exact UInt8.ofNat_toNat
  have e4 : s.drop (11 + pieceSize s) = List.replicate (501 - pieceSize s) 0 := by
    refine List.ext_getElem (by simp [h]; omega) fun i h1 h2 => ?_
    rw [List.getElem_drop, List.getElem_replicate]
    have h3 : 11 + pieceSize s + i < 512 := by simp [h] at h1; omega
    have := ok.tail (11 + pieceSize s + i) (by omega) h3
    rwa [getD_at (by omega)] at this
  have hs := split_sec h ok.size
  rw [e4] at hs
  unfold docPiece Pc.lay
  simp only [hl, e0, e1, e2, e3]
  exact hs.symm
theorem pieceOf_doc {s : Sec} (h : s.length = 512) (ok : DocOk s) : pieceOf s = some (docPiece s) := by
  have hl : ((s.drop 11).take (pieceSize s)).length = pieceSize s := by
    have := ok.size
    simp [h]; omega
  have := pieceOf_lay (p := docPiece s) ⟨ok.lo, ok.hi, by show ((s.drop 11).take (pieceSize s)).length ≤ 501; rw [hl]; exact ok.size, fun hf => by
    show ((s.drop 11).take (pieceSize s)).length = 501
    rw [hl]
    refine ok.full ?_
    have h1 : (s.getD 8 0 == 1) = false := hf
    have h2 := ok.flag
    rcases Nat.eq_zero_or_pos (s.getD 8 0).toNat with e | e
    · exact e
    · have : s.getD 8 0 = 1 := UInt8.toNat_inj.1 (by show _ = 1; omega)
      rw [this] at h1
      cases h1⟩
  rwa [doc_lay h ok] at this
theorem lay_get (p : Pc) (h : p.data.length ≤ 501) : p.lay.getD 8 0 = flag p.last ∧ pieceSize p.lay = p.data.length ∧ tailZero p.lay := by
  have hl8 := le8_length p.n
  have e2 : p.lay.getD 8 0 = flag p.last := by
    unfold Pc.lay
    simp only [List.getD_eq_getElem?_getD, List.append_assoc]
    rw [List.getElem?_append_right (by rw [hl8]; exact Nat.le_refl _), hl8]
    rfl
  have e3 : p.lay.getD 9 0 = UInt8.ofNat (p.data.length % 256) := by
    unfold Pc.lay
    simp only [List.getD_eq_getElem?_getD, List.append_assoc]
    rw [List.getElem?_append_right (by rw [hl8]; decide), hl8]
    rfl
  have e4 : p.lay.getD 10 0 = UInt8.ofNat (p.data.length / 256 % 256) := by
    unfold Pc.lay
    simp only [List.getD_eq_getElem?_getD, List.append_assoc]
    rw [List.getElem?_append_right (by rw [hl8]; decide), hl8]
    rfl
  have e5 : pieceSize p.lay = p.data.length := by
    unfold pieceSize
    rw [e3, e4, UInt8.toNat_ofNat_of_lt' (by show _ < 256; omega), UInt8.toNat_ofNat_of_lt' (by show _ < 256; omega)]
    omega
  refine ⟨e2, e5, fun i h1 h2 => ?_⟩
  rw [e5] at h1
  unfold Pc.lay
  rw [List.getD_eq_getElem?_getD, List.getElem?_append_right (by simp [hl8]; omega), List.getElem?_replicate]
  rw [if_pos (by simp [hl8]; omega)]
  rfl
theorem doc_pieceOf {s : Sec} {p : Pc} (h : pieceOf s = some p) : DocOk s := by
  obtain ⟨hs, ok⟩ := pieceOf_some h
  have hn : pieceN s = p.n := by
    rw [hs]
    unfold pieceN Pc.lay
    rw [List.append_assoc, List.append_assoc, List.take_left' (le8_length p.n)]
    exact num_le8 (by have := ok.top; omega)
  obtain ⟨g1, g2, g3⟩ := lay_get p ok.size
  rw [← hs] at g1 g2 g3
  refine ⟨by rw [hn]; exact ok.pos, by rw [hn]; exact ok.top, ?_, by rw [g2]; exact ok.size, fun h0 => ?_, g3⟩
  · rw [g1]; cases p.last <;> decide
  · rw [g2]
    rw [g1] at h0
    refine ok.full ?_
    cases hl : p.last
    · rfl
    · rw [hl] at h0; cases h0
theorem pieceOf_none {s : Sec} (h : ¬ DocOk s) : pieceOf s = none := by
  cases e : pieceOf s with
  | none => rfl
  | some p => exact absurd (doc_pieceOf e) h
end Go.Proofs.Yteoeaojebklfjaa
namespace Go.Proofs.Yteoeaojebklfjaa
open Go.RowKit Go.Maps
set_option linter.unusedVariables false
section
variable {P : Program} {md : Region.Mode} {l : List Oper} {Q : Exit → Act → World → Prop} {S : World → Prop}
theorem held_take (i : Nat) (v : Value) {oi : Oper} {rs : List Oper} {fuel : Nat} {listed : Array Bool} {a : Act} {w : World} (hS : S w) (hi : l.drop i = oi :: rs)
    (hs : Region.noSelect l.toArray = true) (hf : Region.free md l.toArray listed i = true) (hr : (Region.ready md l.toArray listed).contains i = true)
    (hQ : ∀ c a w, Q (.panic c) (a.put oi.dst v) w → Q (.panic c) a w) (hw : Region.wanted oi (yielded l.toArray a.tmps) = true) (hy : ∀ w, S w → (execOp a.eval oi).run P w = .ok (.value v) w)
    (h : wpAnyH P md l.toArray Q S fuel (listed.setIfInBounds i true) (a.put oi.dst v) w) : wpAnyH P md l.toArray Q S (fuel + 1) listed a w :=
  wpAnyH_take (drop_at hi) hs hf hr hQ (.inl ⟨hw, hy⟩) hS h
theorem held_one {i : Nat} {oi : Oper} {rest : List Oper} {fuel : Nat} {listed : Array Bool} {a : Act} {w : World} (hi : l.drop i = oi :: rest) (hr : Region.ready md l.toArray listed = [i]) (hw : Region.wanted oi (yielded l.toArray a.tmps) = true)
    (h : ∀ K : Act → World → Prop, (∀ a' w', S w' → wpAnyH P md l.toArray Q S fuel (listed.setIfInBounds i true) a' w' → K a' w') → Oper.wp P oi a w K Q) : wpAnyH P md l.toArray Q S (fuel + 1) listed a w :=
  wpAnyH_all hr (by simp) fun j hj => by
    obtain rfl : j = i := by simpa using hj
    unfold wpOp
    simp only [drop_at hi, hw, if_true]
    exact .inl (h _ fun a' w' h1 h2 => ⟨h1, h2⟩)
theorem held_two {i j : Nat} {oi oj : Oper} {ri rj : List Oper} {fuel : Nat} {listed : Array Bool} {a : Act} {w : World} (hi : l.drop i = oi :: ri) (hj : l.drop j = oj :: rj) (hr : Region.ready md l.toArray listed = [i, j]) (hwi : Region.wanted oi (yielded l.toArray a.tmps) = true) (hwj : Region.wanted oj (yielded l.toArray a.tmps) = true)
    (h1 : ∀ K : Act → World → Prop, (∀ a' w', S w' → wpAnyH P md l.toArray Q S fuel (listed.setIfInBounds i true) a' w' → K a' w') → Oper.wp P oi a w K Q)
    (h2 : ∀ K : Act → World → Prop, (∀ a' w', S w' → wpAnyH P md l.toArray Q S fuel (listed.setIfInBounds j true) a' w' → K a' w') → Oper.wp P oj a w K Q) : wpAnyH P md l.toArray Q S (fuel + 1) listed a w :=
  wpAnyH_all hr (by simp) fun k hk => by
    rcases List.mem_cons.1 hk with rfl | hk
    · unfold wpOp
      simp only [drop_at hi, hwi, if_true]
      exact .inl (h1 _ fun a' w' h1 h2 => ⟨h1, h2⟩)
    · obtain rfl : k = j := by simpa using hk
      unfold wpOp
      simp only [drop_at hj, hwj, if_true]
      exact .inl (h2 _ fun a' w' h1 h2 => ⟨h1, h2⟩)
theorem held_done {listed : Array Bool} {a : Act} {w : World} (hr : Region.ready md l.toArray listed = []) (h : Q .normal a w) (fuel : Nat) : wpAnyH P md l.toArray Q S fuel listed a w := wpAnyH_done hr h fuel
end
end Go.Proofs.Yteoeaojebklfjaa
namespace Go.Proofs.Yteoeaojebklfjaa
open Go.RowKit Go.Maps
set_option linter.unusedVariables false

theorem rd_byte {w : World} {g off c : Nat} {s : Sec} (h : Rd w 1 (.slice (some ⟨g, off, none⟩) 512 c) 512 (bv s)) (hs : s.length = 512) {j : Nat} (hj : j < 512) : w.cell? ⟨g, off + j, none⟩ = some (.int .u8 ((s.getD j 0).toNat : Int)) := by
  rcases h.form with ⟨e, _⟩ | ⟨ad, cap, e, h1, h2, h3⟩
  · cases e
  · injection e with e1 _ _
    injection e1 with e1
    subst e1
    have := h3 j (.int .u8 ((s.getD j 0).toNat : Int)) (by rw [getD_at (by omega)]; simp [bv, hs, hj])
    rwa [add_mid' (⟨g, off, none⟩) j rfl] at this
theorem num_down {s : Sec} (hs : s.length = 512) {m : Nat} (hm : m < 8) : num ((s.take 8).drop m) = (s.getD m 0).toNat + 256 * num ((s.take 8).drop (m + 1)) := by
  have hl : m < (s.take 8).length := by simp [hs]; omega
  rw [List.drop_eq_getElem_cons hl, num, List.getElem_take, getD_at (by omega)]
theorem num_small {s : Sec} (hs : s.length = 512) {m : Nat} (hm : m < 8) : num ((s.take 8).drop (m + 1)) < 72057594037927936 := by
  have h := num_bound ((s.take 8).drop (m + 1))
  have hl : ((s.take 8).drop (m + 1)).length = 7 - m := by simp [hs]
  rw [hl] at h
  have h2 : 256 ^ (7 - m) ≤ 256 ^ 7 := Nat.pow_le_pow_right (by decide) (by omega)
  have h3 : (256 : Nat) ^ 7 = 72057594037927936 := by decide
  omega

/-- what the document's Read tells -/
def DRes (w w' : World) (e : Ending) (o : Option Pc) : Prop := Only None' w w' ∧ match o with
  | none => e = .returned (.tuple #[.agg #[.int .i64 0, .bool false, .slice none 0 0], .bool false])
  | some p => ∃ v, e = .returned (.tuple #[.agg #[.int .i64 (p.n : Int), .bool p.last, v], .bool true]) ∧ Vec w' 1 v p.data.length (bv p.data) ∧ ∀ g, v.ownBlock = some g → w.heap.size ≤ g
/-- a sector's piece, where it belongs -/
def docSee (count : Nat) (s : Sec) (pl : Nat) : Option Pc := match pieceOf s with
  | some p => if p.n % count = pl then some p else none
  | none => none
theorem docSee_see {count : Nat} {g : Nat → Sec} (i : Nat) : docSee count (g i) i = seeG count g i := rfl
theorem info83s : (Try.prog.info? 83).map (·.size) = some 3 := by kernel_rfl
/-- nothing is read where something does not fit -/
theorem doc_bad {count pl N b8 sz : Nat} {s : Sec} (hs : s.length = 512) (hN : N = pieceN s) (hb : b8 = (s.getD 8 0).toNat) (hz : sz = pieceSize s) (h : ¬ (1 ≤ N ∧ N ≤ 4611686018427387904 ∧ N % count = pl ∧ b8 ≤ 1 ∧ sz ≤ 501 ∧ (b8 = 0 → sz = 501))) : docSee count s pl = none := by
  subst hN hb hz
  unfold docSee
  cases e : pieceOf s with
  | none => rfl
  | some p =>
    have ok := doc_pieceOf e
    rw [pieceOf_doc hs ok] at e
    injection e with e
    subst e
    simp only
    rw [if_neg]
    intro h2
    exact h ⟨ok.lo, ok.hi, h2, ok.flag, ok.size, ok.full⟩
theorem doc_tail {count pl sz k : Nat} {s : Sec} (hs : s.length = 512) (hz : sz = pieceSize s) (h1 : 11 + sz ≤ k) (h2 : k < 512) (h : s.getD k 0 ≠ 0) : docSee count s pl = none := by
  subst hz
  unfold docSee
  rw [pieceOf_none fun ok => h (ok.tail k h1 h2)]
theorem doc_good {count pl N b8 sz : Nat} {s : Sec} (hs : s.length = 512) (hN : N = pieceN s) (hb : b8 = (s.getD 8 0).toNat) (hz : sz = pieceSize s) (h : 1 ≤ N ∧ N ≤ 4611686018427387904 ∧ N % count = pl ∧ b8 ≤ 1 ∧ sz ≤ 501 ∧ (b8 = 0 → sz = 501)) (ht : ∀ j, 11 + sz ≤ j → j < 512 → s.getD j 0 = 0) : docSee count s pl = some ⟨N, (b8 : Int) == 1, (s.drop 11).take sz⟩ := by
  subst hN hb hz
  obtain ⟨h1, h2, h3, h4, h5, h6⟩ := h
  unfold docSee
  rw [pieceOf_doc hs ⟨h1, h2, h4, h5, h6, ht⟩]
  simp only
  rw [if_pos (show (docPiece s).n % count = pl from h3)]
  have e : ((((s.getD 8 0).toNat : Nat) : Int) == 1) = (s.getD 8 0 == 1) := by
    rw [Bool.eq_iff_iff]
    simp only [beq_iff_eq]
    constructor
    · intro h
      exact UInt8.toNat_inj.1 (by show _ = 1; omega)
    · intro h
      rw [h]; rfl
  rw [e]
  rfl

set_option maxRecDepth 20000 in
set_option maxHeartbeats 8000000 in
theorem docread_any {w : World} {g off c : Nat} {s : Sec} (hs : s.length = 512) (hr : Rd w 1 (.slice (some ⟨g, off, none⟩) 512 c) 512 (bv s)) (pl count : Nat) (hc1 : 1 ≤ count) (hc2 : count ≤ 65536) {o : Option Pc} (ho : docSee count s pl = o) :
    Calls Try.prog 74 #[.slice (some ⟨g, off, none⟩) 512 c, .int .i64 (pl : Int), .int .i64 (count : Int)] w fun e w' => DRes w w' e o := by
  have HRD := Lib.hid hr
  have HS := Lib.hid hs
  have HO := Lib.hid ho
  have HCC := Lib.hid (And.intro hc1 hc2)
  have hcap : 512 ≤ c ∧ c ≤ maxLen := by
    rcases hr.form with ⟨e, _⟩ | ⟨ad, cap, e, h1, h2, h3⟩
    · cases e
    · injection e with _ _ e3
      exact ⟨by omega, by omega⟩
  have HCAP := Lib.hid hcap
  obtain ⟨w1, hw1⟩ : ∃ w1, w1 = w.alloc (.cells #[.int .i64 0, .bool false, .slice none 0 0] 83) := ⟨_, rfl⟩
  have o1 : Only None' w w1 := by rw [hw1]; exact (Only.refl _ _).alloc _
  have T1 : CellsR w1 w.heap.size [.int .i64 0, .bool false, .slice none 0 0] := by rw [hw1]; exact cells_new w _ 83
  have hr1 : Rd w1 1 (.slice (some ⟨g, off, none⟩) 512 c) 512 (bv s) := hr.only o1 fun _ _ _ _ e => e
  have HR1 := Lib.hid hr1
  have O1 := Lib.hid o1
  have HT1 := Lib.hid T1
  have e1 := hw1.symm
  clear hr hs ho hc1 hc2 hcap hw1 o1 T1 hr1
  go_enter Try.func74, Try.ntmps74
  go_wp2_with fail
  have E1 := Lib.hid e1
  clear e1
  go_loopw [8, 9] (fun acc i wr => ∃ (k : Nat) (z : Int), k ≤ 8 ∧ z = (k : Int) - 1 ∧ i = .int .i64 z ∧ acc = .int .u64 (num ((s.take 8).drop k) : Int) ∧ wr = w1) (fun acc i wr => (intOf i + 1).toNat)
  case atStart => exact ⟨8, 7, by omega, by omega, rfl, by rw [List.drop_eq_nil_of_le (by rw [List.length_take]; exact Nat.min_le_left _ _)]; rfl, rfl⟩
  case round =>
    obtain ⟨k, z, hk, hz, rfl, rfl, e⟩ := hrel
    obtain rfl := e
    rcases Nat.eq_zero_or_pos k with rfl | hpos
    · obtain rfl : z = -1 := by omega
      obtain ⟨N, hN⟩ : ∃ N, N = num ((s.take 8).drop 0) := ⟨_, rfl⟩
      rw [← hN]
      have HN : Hid (N = pieceN s) := by show _ = _; rw [hN]; rfl
      have c9 := rd_byte HR1.out HS.out (j := 9) (by decide)
      have c10 := rd_byte HR1.out HS.out (j := 10) (by decide)
      obtain ⟨b9, hb9⟩ : ∃ b, b = (s.getD 9 0).toNat := ⟨_, rfl⟩
      obtain ⟨b10, hb10⟩ : ∃ b, b = (s.getD 10 0).toNat := ⟨_, rfl⟩
      have l9 : b9 < 256 := by rw [hb9]; exact UInt8.toNat_lt _
      have l10 : b10 < 256 := by rw [hb10]; exact UInt8.toNat_lt _
      rw [← hb9] at c9
      rw [← hb10] at c10
      obtain ⟨m10, hm10⟩ : ∃ m, m = 256 * b10 := ⟨_, rfl⟩
      obtain ⟨sz, hsz⟩ : ∃ z, z = b9 + m10 := ⟨_, rfl⟩
      have HSZ : Hid (sz = pieceSize s) := by show _ = _; rw [hsz, hm10, hb9, hb10]; rfl
      have HSB := Lib.hid (show sz < 70000 by omega)
      have a2 : (256 : Int) * (b10 : Int) = (m10 : Int) := by omega
      have a3 : (b9 : Int) + (m10 : Int) = (sz : Int) := by omega
      have HW := Lib.hid (show IntKind.i64.wrap (b9 : Int) = (b9 : Int) ∧ IntKind.i64.wrap (b10 : Int) = (b10 : Int) ∧ IntKind.i64.wrap (m10 : Int) = (m10 : Int) ∧ IntKind.i64.wrap (sz : Int) = (sz : Int) ∧ wrap64 (m10 : Int) = (m10 : Int) ∧ wrap64 (sz : Int) = (sz : Int) ∧ wrap64 (b9 : Int) = (b9 : Int) ∧ wrap64 (b10 : Int) = (b10 : Int) from ⟨IntWalk.i64_in _ (by omega), IntWalk.i64_in _ (by omega), IntWalk.i64_in _ (by omega), IntWalk.i64_in _ (by omega), IntWalk.wrap64_in _ (by omega), IntWalk.wrap64_in _ (by omega), IntWalk.wrap64_in _ (by omega), IntWalk.wrap64_in _ (by omega)⟩)
      clear hb9 hb10 l9 l10 hm10 hsz hN hk hz
      obtain ⟨w1f, w2f, w3f, w4f, w5f, w6f, w7f, w8f⟩ := HW.out
      go_wp2_with fail
      go_quiet (fail)
      clear c9 c10 a2 a3 w1f w2f w3f w4f w5f w6f w7f w8f
      obtain ⟨b8, hb8⟩ : ∃ b, b = (s.getD 8 0).toNat := ⟨_, rfl⟩
      have HB8 := Lib.hid hb8
      have l8 : b8 < 256 := by rw [hb8]; exact UInt8.toNat_lt _
      have HL8 := Lib.hid l8
      have hc8 := rd_byte HR1.out HS.out (j := 8) (by decide)
      rw [← hb8] at hc8
      have C8 := Lib.hid hc8
      obtain ⟨W, hW⟩ : ∃ W, W = wr.drewN nq := ⟨_, rfl⟩
      have oW : Only None' wr W := by rw [hW]; exact (Only.refl _ _).drewN nq
      rw [← hW]
      have HOW := Lib.hid (O1.out.trans oW)
      have C8W : Hid (W.cell? ⟨g, off + 8, none⟩ = some (.int .u8 (b8 : Int))) := by show _ = _; rw [hW]; exact hc8
      have HTW := Lib.hid (HT1.out.kept oW fun e => e)
      have HRW := Lib.hid (HR1.out.only oW fun _ _ _ _ e => e)
      obtain ⟨T, hT⟩ : ∃ T, T = w.heap.size := ⟨_, rfl⟩
      rw [← hT] at HTW ⊢
      have HTE := Lib.hid hT
      obtain ⟨bad, hbad⟩ : ∃ bad : Prop, bad = ¬ (1 ≤ N ∧ N ≤ 4611686018427387904 ∧ N % count = pl ∧ b8 ≤ 1 ∧ sz ≤ 501 ∧ (b8 = 0 → sz = 501)) := ⟨_, rfl⟩
      have HBAD := Lib.hid hbad
      obtain ⟨bb, hbb⟩ : ∃ bb : Bool, bb = true ↔ bad := ⟨@decide bad (Classical.propDecidable _), by simp⟩
      have HBB := Lib.hid hbb
      clear hb8 l8 hc8 hW oW hT hbad hbb E1 HR1 HT1 O1 C8
      go_upto_region 7 with fail
      go_cut [67] from 34 to 67 (fun p wx => p = .bool bb ∧ wx = W)
      case first =>
        have B1 : bad → bb = true := HBB.out.2
        have hB1 := Lib.hid B1
        clear B1
        by_cases g1 : N < 1
        · have hb := hB1.out (by rw [HBAD.out]; intro h; omega)
          have d1 : decide ((N : Int) < 1) = true := by simp; omega
          have d1' : decide (N < 1) = true := by simpa using g1
          have d1'' : (N : Int) < 1 := by omega
          clear g1
          go_wp2_with fail
          go_meet
          exact ⟨by rw [hb], rfl⟩
        have d1 : decide ((N : Int) < 1) = false := by simp; omega
        have d1' : decide (N < 1) = false := by simpa using g1
        have d1'' : ¬ (N : Int) < 1 := by omega
        by_cases g2 : 4611686018427387904 < N
        · have hb := hB1.out (by rw [HBAD.out]; intro h; omega)
          have d2 : decide (4611686018427387904 < (N : Int)) = true := by simp; omega
          have d2' : decide (4611686018427387904 < N) = true := by simpa using g2
          have d2'' : 4611686018427387904 < (N : Int) := by omega
          clear g1 g2
          go_wp2_with fail
          go_meet
          exact ⟨by rw [hb], rfl⟩
        have d2 : decide (4611686018427387904 < (N : Int)) = false := by simp; omega
        have d2' : decide (4611686018427387904 < N) = false := by simpa using g2
        have d2'' : ¬ 4611686018427387904 < (N : Int) := by omega
        obtain ⟨rm, hrm⟩ : ∃ rm, rm = N % count := ⟨_, rfl⟩
        have m1 : (N : Int).tmod (count : Int) = (rm : Int) := by rw [hrm]; rfl
        have hrl : rm < 65536 := by rw [hrm]; have := Nat.mod_lt N (show count > 0 from HCC.out.1); have := HCC.out.2; omega
        have z0 : ((count : Int) == 0) = false := by have := HCC.out.1; simp; omega
        have z1 : ¬ (count : Int) = 0 := by have := HCC.out.1; omega
        have z2 : (count == 0) = false := by have := HCC.out.1; simp; omega
        have HWX := Lib.hid (show IntKind.i64.wrap (N : Int) = (N : Int) ∧ wrap64 (rm : Int) = (rm : Int) ∧ IntKind.i64.wrap (rm : Int) = (rm : Int) from ⟨IntWalk.i64_in _ (by omega), IntWalk.wrap64_in _ (by omega), IntWalk.i64_in _ (by omega)⟩)
        by_cases g3 : ¬ rm = pl
        · have hb := hB1.out (by rw [HBAD.out]; intro h; exact g3 (hrm.trans h.2.2.1))
          have d3 : ((rm : Int) == (pl : Int)) = false := by simp; omega
          have d3' : (rm == pl) = false := by simpa using g3
          have d3'' : ¬ (rm : Int) = (pl : Int) := by omega
          clear g1 g2 g3 hrm hrl
          obtain ⟨x1, x2, x3⟩ := HWX.out
          go_wp2_with fail
          go_meet
          exact ⟨by rw [hb], rfl⟩
        replace g3 := Classical.not_not.1 g3
        have hg3 : N % count = pl := hrm.symm.trans g3
        clear hrm hrl
        subst g3
        by_cases g4 : 1 < b8
        · have hb := hB1.out (by rw [HBAD.out]; intro h; omega)
          have d4 : decide (1 < (b8 : Int)) = true := by simp; omega
          have d4' : decide (1 < b8) = true := by simpa using g4
          have d4'' : 1 < (b8 : Int) := by omega
          have ck := C8W.out
          clear g1 g2 hg3 g4
          obtain ⟨x1, x2, x3⟩ := HWX.out
          go_wp2_with fail
          go_meet
          exact ⟨by rw [hb], rfl⟩
        have d4 : decide (1 < (b8 : Int)) = false := by simp; omega
        have d4' : decide (1 < b8) = false := by simpa using g4
        have d4'' : ¬ 1 < (b8 : Int) := by omega
        by_cases g5 : 501 < sz
        · have hb := hB1.out (by rw [HBAD.out]; intro h; omega)
          have d5 : decide (501 < (sz : Int)) = true := by simp; omega
          have d5' : decide (501 < sz) = true := by simpa using g5
          have d5'' : 501 < (sz : Int) := by omega
          have ck := C8W.out
          clear g1 g2 hg3 g4 g5
          obtain ⟨x1, x2, x3⟩ := HWX.out
          go_wp2_with fail
          go_meet
          exact ⟨by rw [hb], rfl⟩
        have d5 : decide (501 < (sz : Int)) = false := by simp; omega
        have d5' : decide (501 < sz) = false := by simpa using g5
        have d5'' : ¬ 501 < (sz : Int) := by omega
        by_cases g6 : b8 = 0
        · by_cases g7 : sz = 501
          · have hb : bb = false := by
              rw [Bool.eq_false_iff]
              intro h
              have := HBB.out.1 h
              rw [HBAD.out] at this
              exact this ⟨by omega, by omega, hg3, by omega, by omega, fun _ => g7⟩
            have ck := C8W.out
            have d6 : ((b8 : Int) == 0) = true := by simp; omega
            have d6' : (b8 == 0) = true := by simpa using g6
            have d7 : ((sz : Int) == 501) = true := by simp; omega
            have d7' : (sz == 501) = true := by simpa using g7
            have d7'' : ((sz : Int) != 501) = false := by simp; omega
            clear g1 g2 hg3 g4 g5 g6 g7
            obtain ⟨x1, x2, x3⟩ := HWX.out
            go_wp2_with fail
            go_meet
            exact ⟨by rw [hb], rfl⟩
          · have hb := hB1.out (by rw [HBAD.out]; intro h; exact g7 (h.2.2.2.2.2 g6))
            have d7 : ((sz : Int) == 501) = false := by simp; omega
            have d7' : (sz == 501) = false := by simpa using g7
            have d7'' : ¬ (sz : Int) = 501 := by omega
            have ck := C8W.out
            have d6 : ((b8 : Int) == 0) = true := by simp; omega
            have d6' : (b8 == 0) = true := by simpa using g6
            have d7n : ((sz : Int) != 501) = true := by simp; omega
            clear g1 g2 hg3 g4 g5 g6 g7
            obtain ⟨x1, x2, x3⟩ := HWX.out
            go_wp2_with fail
            go_meet
            exact ⟨by rw [hb], rfl⟩
        · have hb : bb = false := by
            rw [Bool.eq_false_iff]
            intro h
            have := HBB.out.1 h
            rw [HBAD.out] at this
            exact this ⟨by omega, by omega, hg3, by omega, by omega, fun h => absurd h g6⟩
          have d6 : ((b8 : Int) == 0) = false := by simp; omega
          have d6' : (b8 == 0) = false := by simpa using g6
          have d6'' : ¬ (b8 : Int) = 0 := by omega
          have ck := C8W.out
          clear g1 g2 hg3 g4 g5 g6
          obtain ⟨x1, x2, x3⟩ := HWX.out
          go_wp2_with fail
          go_meet
          exact ⟨by rw [hb], rfl⟩
      case rest =>
        obtain ⟨rfl, rfl⟩ := hcut
        cases bb
        · have hgood : 1 ≤ N ∧ N ≤ 4611686018427387904 ∧ N % count = pl ∧ b8 ≤ 1 ∧ sz ≤ 501 ∧ (b8 = 0 → sz = 501) := Classical.byContradiction fun hn => by
            have := HBB.out.2 (by rw [HBAD.out]; exact hn)
            cases this
          have HGD := Lib.hid hgood
          obtain ⟨st, hst⟩ : ∃ st, st = 11 + sz := ⟨_, rfl⟩
          have HST := Lib.hid hst
          have hs5 := hgood.2.2.2.2.1
          have a1 : (11 : Int) + (sz : Int) = (st : Int) := by omega
          have HWN := Lib.hid (show IntKind.i64.wrap (N : Int) = (N : Int) ∧ (11 : Int) + (sz : Int) = (st : Int) ∧ IntKind.i64.wrap (st : Int) = (st : Int) from ⟨IntWalk.i64_in _ (by omega), a1, IntWalk.i64_in _ (by omega)⟩)
          have hs6 : st ≤ 512 := by omega
          have a2 : wrap64 (st : Int) = (st : Int) := IntWalk.wrap64_in _ (by omega)
          clear hgood hst hs5 HW HBB HBAD bad
          go_wp2_with fail
          clear a1 a2
          go_loopw [11] (fun i wx => ∃ k : Nat, st ≤ k ∧ k ≤ 512 ∧ i = .int .i64 (k : Int) ∧ wx = wc ∧ Hid (∀ j, st ≤ j → j < k → s.getD j 0 = 0)) (fun i wx => 512 - (intOf i).toNat)
          case atStart => exact ⟨st, by omega, hs6, rfl, rfl, Lib.hid fun j h1 h2 => by omega⟩
          case round =>
            obtain ⟨k, hk1, hk, rfl, e, HZ⟩ := hrel
            obtain rfl := e
            by_cases hlt : k < 512
            · have i0 : (0 : Int) ≤ (k : Int) := by omega
              have i1 : (k : Int) < 512 := by omega
              have ck := rd_byte HRW.out HS.out hlt
              obtain ⟨b, hb⟩ : ∃ b, b = (s.getD k 0).toNat := ⟨_, rfl⟩
              rw [← hb] at ck
              have HBK := Lib.hid hb
              clear hb
              by_cases hb0 : b = 0
              · have d1 : ((b : Int) != 0) = false := by simp; omega
                have HB0 := Lib.hid hb0
                clear hb0
                go_wp2_with fail
                go_roundw
                case rel => exact ⟨k + 1, by omega, by omega, by go_num, by first | rfl | trivial, Lib.hid fun j h1 h2 => by
                  by_cases e : j = k
                  · subst e
                    exact UInt8.toNat_inj.1 (by rw [← HBK.out, HB0.out]; rfl)
                  · exact HZ.out j h1 (by omega)⟩
                case measure => simp only [intOf]; omega
              · have d1 : ((b : Int) != 0) = true := by simp; omega
                have HNO := Lib.hid (doc_tail (count := count) (pl := pl) HS.out HSZ.out (k := k) (by have := HST.out; omega) hlt (fun e => hb0 (by rw [HBK.out, e]; rfl)))
                have t0 := HTW.out.is 0 _ rfl
                have t1 := HTW.out.is 1 _ rfl
                have t2 := HTW.out.is 2 _ rfl
                have tz := HTW.out.thaw
                have tl := HTW.out.lt
                clear hb0
                go_wp2_with fail
                refine bodyPost_ret (v := .tuple #[.agg #[.int .i64 0, .bool false, .slice none 0 0], .bool false]) ?_ rfl ⟨?_, ?_⟩
                · rw [results_cell_tmp rfl]; go_simp
                · exact HOW.out.trans2 ((((Only.refl (fun k => k = T) _).setCell (p := ⟨T, 0, none⟩) rfl _).setCell (p := ⟨T, 1, none⟩) rfl _).setCell (p := ⟨T, 2, none⟩) rfl _) fun k hk e => by have := HTE.out; omega
                · have h := HO.out
                  rw [HNO.out] at h
                  subst h
                  rfl
            · obtain rfl : k = 512 := by omega
              have HOK := Lib.hid (doc_good (count := count) (pl := pl) HS.out HN.out HB8.out HSZ.out HGD.out (fun j h1 h2 => HZ.out j (by have := HST.out; omega) h2))
              obtain ⟨bl, hbl⟩ : ∃ bl : Bool, bl = ((b8 : Int) == 1) := ⟨_, rfl⟩
              obtain ⟨data, hdata⟩ : ∃ d, d = (s.drop 11).take sz := ⟨_, rfl⟩
              rw [← hbl, ← hdata] at HOK
              have HBL : Hid (((b8 : Int) == 1) = bl) := hbl.symm
              have HDL : Hid (data.length = sz) := by
                have h1 := HS.out
                have h2 := HGD.out.2.2.2.2.1
                show _ = _
                rw [hdata]; simp; omega
              have HNEWS : Hid (∀ j u, (bv data)[j]? = some u → w.cell? ⟨g, off + 11 + j, none⟩ = some u) := by
                intro j u hu
                have h2 := (List.getElem?_eq_some_iff.1 hu).1
                rw [bv_length, HDL.out] at h2
                have h3 := HGD.out.2.2.2.2.1
                have := rd_byte HRD.out HS.out (j := 11 + j) (by omega)
                rw [Nat.add_assoc, this]
                rw [hdata] at hu
                simp only [bv, List.getElem?_map, List.getElem?_take_of_lt h2, List.getElem?_drop] at hu
                rw [List.getElem?_eq_getElem (by rw [HS.out]; omega)] at hu
                rw [getD_at (by rw [HS.out]; omega)]
                exact hu
              have HSL := Lib.hid (show 11 ≤ st ∧ st ≤ c ∧ (11 < c ∨ 11 = 0) ∧ st - 11 = sz by have := HST.out; have := HCAP.out; have := HGD.out.2.2.2.2.1; omega)
              have HS8 : Hid (∀ w', Only None' w w' → w'.cell? ⟨g, off + 8, none⟩ = some (.int .u8 (b8 : Int))) := fun w' o => by
                have := rd_byte (HRD.out.only o fun _ _ _ _ e => e) HS.out (j := 8) (by decide)
                rw [← HB8.out] at this
                exact this
              clear hbl hdata hk hk1 hlt
              go_upto_region 14 with fail
              go_cut [7] from 81 to 93 (fun p wx => p = .bool true ∧ ∃ v, Made w wx T (N : Int) bl v (bv data) sz)
              case first =>
                refine wp_region_held (S := fun w' => w'.cell? ⟨g, off + 8, none⟩ = some (.int .u8 (b8 : Int))) (by kernel_rfl) ?_
                change wpAnyH _ _ _ _ _ _ _ _ (World.drew _)
                obtain ⟨wk0, hwk0⟩ : ∃ z, z = wr.drew := ⟨_, rfl⟩
                rw [← hwk0]
                have WK : Hid (Wk w wk0 (bv data) sz none none (some T)) := by
                  show Wk _ _ _ _ _ _ _
                  rw [hwk0]
                  exact ⟨HOW.out.drew, fun _ h => (by cases h), fun _ h => (by cases h), fun k hk => by injection hk with hk; subst hk; exact ⟨HTW.out.kept ((Only.refl None' _).drew) fun e => e, by rw [HTE.out]; exact Nat.le_refl _⟩, fun _ _ h => (by cases h), fun _ _ h => (by cases h)⟩
                clear hwk0
                refine held_take 0 (.int .u64 (N : Int)) (HS8.out _ WK.out.only) rfl (by kernel_rfl) (by kernel_rfl) (by kernel_rfl) (fun _ _ _ h => h) (by rfl) (fun w hw => by go_simp) ?_
                simp only [Act.put, List.setIfInBounds_toArray, List.set_cons_zero, List.set_cons_succ]
                refine held_take 1 (.int .i64 (N : Int)) (HS8.out _ WK.out.only) rfl (by kernel_rfl) (by kernel_rfl) (by kernel_rfl) (fun _ _ _ h => h) (by rfl) (fun w hw => by have x1 := HWN.out.1; go_simp) ?_
                simp only [Act.put, List.setIfInBounds_toArray, List.set_cons_zero, List.set_cons_succ]
                refine held_take 2 (.slice (some ⟨g, off, none⟩) 512 c) (HS8.out _ WK.out.only) rfl (by kernel_rfl) (by kernel_rfl) (by kernel_rfl) (fun _ _ _ h => h) (by rfl) (fun w hw => by go_simp) ?_
                simp only [Act.put, List.setIfInBounds_toArray, List.set_cons_zero, List.set_cons_succ]
                refine held_take 3 (.pointer (some ⟨g, off + 8, none⟩)) (HS8.out _ WK.out.only) rfl (by kernel_rfl) (by kernel_rfl) (by kernel_rfl) (fun _ _ _ h => h) (by rfl) (fun w hw => by go_simp) ?_
                simp only [Act.put, List.setIfInBounds_toArray, List.set_cons_zero, List.set_cons_succ]
                refine held_take 4 (.int .u8 (b8 : Int)) (HS8.out _ WK.out.only) rfl (by kernel_rfl) (by kernel_rfl) (by kernel_rfl) (fun _ _ _ h => h) (by rfl) (fun w hw => by have cl : w.cell? ⟨g, off + 8, none⟩ = some (.int .u8 (b8 : Int)) := hw; go_simp) ?_
                simp only [Act.put, List.setIfInBounds_toArray, List.set_cons_zero, List.set_cons_succ]
                refine held_take 5 (.bool bl) (HS8.out _ WK.out.only) rfl (by kernel_rfl) (by kernel_rfl) (by kernel_rfl) (fun _ _ _ h => h) (by rfl) (fun w hw => by have := HBL.out; go_simp) ?_
                simp only [Act.put, List.setIfInBounds_toArray, List.set_cons_zero, List.set_cons_succ]
                refine held_take 7 (.slice (some ⟨g, off, none⟩) 512 c) (HS8.out _ WK.out.only) rfl (by kernel_rfl) (by kernel_rfl) (by kernel_rfl) (fun _ _ _ h => h) (by rfl) (fun w hw => by go_simp) ?_
                simp only [Act.put, List.setIfInBounds_toArray, List.set_cons_zero, List.set_cons_succ]
                refine held_take 8 (.int .i64 (sz : Int)) (HS8.out _ WK.out.only) rfl (by kernel_rfl) (by kernel_rfl) (by kernel_rfl) (fun _ _ _ h => h) (by rfl) (fun w hw => by go_simp) ?_
                simp only [Act.put, List.setIfInBounds_toArray, List.set_cons_zero, List.set_cons_succ]
                refine held_take 9 (.int .i64 (st : Int)) (HS8.out _ WK.out.only) rfl (by kernel_rfl) (by kernel_rfl) (by kernel_rfl) (fun _ _ _ h => h) (by rfl) (fun w hw => yields_add w rfl rfl rfl HWN.out.2.1 HWN.out.2.2) ?_
                simp only [Act.put, List.setIfInBounds_toArray, List.set_cons_zero, List.set_cons_succ]
                refine held_take 10 (.slice (some ⟨g, off + 11, none⟩) (st - 11) (c - 11)) (HS8.out _ WK.out.only) rfl (by kernel_rfl) (by kernel_rfl) (by kernel_rfl) (fun _ _ _ h => h) (by rfl) (fun w hw => yields_slice34 w (lo := 11) rfl rfl rfl rfl HSL.out.1 HSL.out.2.1 HSL.out.2.2.1) ?_
                simp only [Act.put, List.setIfInBounds_toArray, List.set_cons_zero, List.set_cons_succ]
                refine held_one (i := 6) rfl (by kernel_rfl) (by rfl) fun K hK => ?_
                go_simp
                obtain ⟨gb, hgb⟩ : ∃ gb, gb = wk0.heap.size := ⟨_, rfl⟩
                have WK' := WK.out.build
                refine hK _ _ (HS8.out _ WK'.only) ?_
                clear hK K
                change wpAnyH _ _ _ _ _ _ _ _ (wk0.alloc (.cells #[] 5))
                obtain ⟨wk1, hwk1⟩ : ∃ z, z = wk0.alloc (.cells #[] 5) := ⟨_, rfl⟩
                rw [← hgb, ← hwk1] at WK'
                rw [← hgb, ← hwk1]
                replace WK := Lib.hid WK'
                clear WK' hgb hwk1
                refine held_one (i := 11) rfl (by kernel_rfl) (by rfl) fun K hK => ?_
                refine wp_vec_append _ _ _ 34 rfl 5 Try.t5 (.int .u8 0) 1 1 Try.underlying34 info5 zero5 size5 bytes5 rfl (by decide) _ _ _ rfl WK.out.brow ⟨g, off + 11, none⟩ (st - 11) (c - 11) (bv data) rfl (by rw [bv_length, HDL.out, Nat.mul_one]; exact HSL.out.2.2.2.symm) (WK.out.news HNEWS.out) (bv_one _) (by have := HSL.out; unfold maxLen; omega) (by have := HSL.out; omega) ?_
                intro v' wk2 hv hg hf
                rw [show 0 + (st - 11) = 0 + sz by rw [HSL.out.2.2.2]] at hv
                obtain ⟨va, vk, vc, rfl⟩ := hv.rd.shape'
                have WK' := WK.out.append hv hg hf
                refine hK _ _ (HS8.out _ WK'.only) ?_
                clear hK K hv hg hf
                simp only [Act.put, List.setIfInBounds_toArray, List.set_cons_zero, List.set_cons_succ]
                replace WK := Lib.hid WK'
                clear WK'
                refine held_take 12 (.agg #[.int .i64 (N : Int), .bool bl, .slice va vk vc]) (HS8.out _ WK.out.only) rfl (by kernel_rfl) (by kernel_rfl) (by kernel_rfl) (fun _ _ _ h => h) (by rfl) (fun w hw => by go_simp) ?_
                simp only [Act.put, List.setIfInBounds_toArray, List.set_cons_zero, List.set_cons_succ]
                refine held_one (i := 13) rfl (by kernel_rfl) (by rfl) fun K hK => ?_
                refine wp_store_mid 83 _ _ rfl T 0 #[.int .i64 (N : Int), .bool bl, .slice va vk vc] rfl rfl WK.out.there (by rw [info83s]; rfl) (by simp [Value.oneCell']) ?_
                have HM := Lib.hid (WK.out.made (N : Int) bl)
                refine hK _ _ (HS8.out _ HM.out.only) ?_
                clear hK K
                simp only [Act.put, List.setIfInBounds_toArray, List.set_cons_zero, List.set_cons_succ]
                refine held_take 14 (.bool true) (HS8.out _ HM.out.only) rfl (by kernel_rfl) (by kernel_rfl) (by kernel_rfl) (fun _ _ _ h => h) (by rfl) (fun w hw => by go_simp) ?_
                simp only [Act.put, List.setIfInBounds_toArray, List.set_cons_zero, List.set_cons_succ]
                refine held_done (by kernel_rfl) ?_ _
                go_wp2_with fail
                go_meet
                exact ⟨rfl, _, HM.out⟩
              case rest =>
                obtain ⟨rfl, v, hM⟩ := hcut
                obtain ⟨va, vk, vc, rfl⟩ := hM.vec.rd.shape'
                have HM := Lib.hid hM
                have k0 := hM.cells.is 0 _ rfl
                have k1 := hM.cells.is 1 _ rfl
                have k2 := hM.cells.is 2 _ rfl
                clear hM
                go_wp2_with fail
                refine bodyPost_ret (v := .tuple #[.agg #[.int .i64 (N : Int), .bool bl, .slice va vk vc], .bool true]) ?_ rfl ⟨HM.out.only, ?_⟩
                · rw [results_cell_tmp rfl]; go_simp
                · have h := HO.out
                  rw [HOK.out] at h
                  subst h
                  refine ⟨_, rfl, ?_, fun k hk => (HM.out.fresh k hk).1⟩
                  rw [show (Pc.data ⟨N, bl, data⟩).length = sz from HDL.out]
                  exact HM.out.vec
        · have HNO := Lib.hid (doc_bad (count := count) (pl := pl) HS.out HN.out HB8.out HSZ.out (by have := HBB.out.1 rfl; rwa [HBAD.out] at this))
          have t0 := HTW.out.is 0 _ rfl
          have t1 := HTW.out.is 1 _ rfl
          have t2 := HTW.out.is 2 _ rfl
          have tz := HTW.out.thaw
          have tl := HTW.out.lt
          clear HW HBB HBAD bad
          go_wp2_with fail
          refine bodyPost_ret (v := .tuple #[.agg #[.int .i64 0, .bool false, .slice none 0 0], .bool false]) ?_ rfl ⟨?_, ?_⟩
          · rw [results_cell_tmp rfl]; go_simp
          · exact HOW.out.trans2 ((((Only.refl (fun k => k = T) _).setCell (p := ⟨T, 0, none⟩) rfl _).setCell (p := ⟨T, 1, none⟩) rfl _).setCell (p := ⟨T, 2, none⟩) rfl _) fun k hk e => by have := HTE.out; omega
          · have h := HO.out
            rw [HNO.out] at h
            subst h
            rfl
    · obtain ⟨m, rfl⟩ : ∃ m, k = m + 1 := ⟨k - 1, by omega⟩
      obtain rfl : z = (m : Int) := by omega
      have i0 : (0 : Int) ≤ (m : Int) := by omega
      have i1 : (m : Int) < 512 := by omega
      have ck := rd_byte HR1.out HS.out (j := m) (by omega)
      obtain ⟨b, hb⟩ : ∃ b, b = (s.getD m 0).toNat := ⟨_, rfl⟩
      obtain ⟨X, hX⟩ : ∃ X, X = num ((s.take 8).drop (m + 1)) := ⟨_, rfl⟩
      have hXs : X < 72057594037927936 := by rw [hX]; exact num_small HS.out (by omega)
      have hbs : b < 256 := by rw [hb]; exact UInt8.toNat_lt _
      have hnx : num ((s.take 8).drop m) = b + 256 * X := by rw [hb, hX]; exact num_down HS.out (by omega)
      rw [← hb] at ck
      rw [← hX]
      obtain ⟨Y, hY⟩ : ∃ Y, Y = X * 256 := ⟨_, rfl⟩
      obtain ⟨Z, hZ⟩ : ∃ Z, Z = Y + b := ⟨_, rfl⟩
      have a1 : (X : Int) * 256 = (Y : Int) := by omega
      have a2 : (Y : Int) + (b : Int) = (Z : Int) := by omega
      have HW := Lib.hid (show IntKind.u64.wrap (Y : Int) = (Y : Int) ∧ IntKind.u64.wrap (b : Int) = (b : Int) ∧ IntKind.u64.wrap (Z : Int) = (Z : Int) from ⟨IntWalk.u64_in _ (by omega), IntWalk.u64_in _ (by omega), IntWalk.u64_in _ (by omega)⟩)
      have HZ := Lib.hid (show num ((s.take 8).drop m) = Z by omega)
      obtain ⟨a3, a4, a5⟩ := HW.out
      clear hb hX hXs hbs hnx hY hZ hz
      go_wp2_with fail
      go_roundw
      case rel => exact ⟨m, (m : Int) - 1, by omega, rfl, rfl, by rw [HZ.out], by first | rfl | trivial⟩
      case measure =>
        simp only [intOf]
        omega
end Go.Proofs.Yteoeaojebklfjaa
