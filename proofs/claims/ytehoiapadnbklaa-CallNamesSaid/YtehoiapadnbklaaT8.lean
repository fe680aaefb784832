/- CallNames: the walk. -/
import Derived.Test.YtehoiapadnbklaaT2
namespace Go.Proofs.Ytehoiapadnbklaa
open Go.RowKit Go.Maps
set_option linter.unusedVariables false

def sK : ByteArray := ⟨#[107]⟩
structure NL (w wr : World) (B M i : Nat) (c : Cl) : Prop where
  at_ : CallAt wr B M c
  life : c.life = 2047
  given : c.given = i
  len : c.ws.length = i
  first : ∀ x ∈ c.ws, x.first = 0
  only : Only None' w wr
  new : w.heap.size ≤ B ∧ w.heap.size ≤ M
structure NE (w wr : World) (B M k : Nat) (c : Cl) : Prop where
  at_ : CallAt wr B M c
  life : c.life = 2047
  given : c.given = k
  ws : c.ws = []
  only : Only None' w wr
  new : w.heap.size ≤ B ∧ w.heap.size ≤ M
section
variable {w wr w1 w2 : World} {B M i k : Nat} {c : Cl}
theorem NL.num (h : NL w wr B M i c) : ((c.life * 1048576 + c.given + 1 : Nat) : Int) = 2146435072 + (i : Int) + 1 := by rw [h.life, h.given]; omega
theorem NE.num (h : NE w wr B M k c) : ((c.life * 1048576 + c.given + 1 : Nat) : Int) = 2146435072 + (k : Int) + 1 := by rw [h.life, h.given]; omega
theorem NL.ask (h : NL w wr B M i c) (hi : i < 64) (j : Int) : Calls Try.prog 9 #[.pointer (some ⟨B, 0, none⟩), .string sK, .int .i64 1, .int .i64 j, .int .i64 0] wr fun e w' => e = .returned (.tuple #[.int .i64 (2146435072 + (i : Int) + 1), .int .i64 0]) ∧ ∃ c', NL w w' B M (i + 1) c' := by
  have hc : c.askCode 0 = 0 := by
    unfold Cl.askCode
    rw [if_neg (by decide), if_neg (by have := h.len; omega), if_neg (by have := h.given; omega)]
  refine (ask_go h.at_ sK 1 j 0 hc).mono ?_
  rintro e w' ⟨rfl, h1, o⟩
  refine ⟨by rw [h.num], _, h1, h.life, by show c.given + 1 = _; rw [h.given], by show (c.ws ++ [_]).length = _; rw [List.length_append, h.len]; rfl, fun x hx => ?_, h.only.trans2 o fun q hq e => by have := h.new; omega, h.new⟩
  rcases List.mem_append.1 hx with hx | hx
  · exact h.first x hx
  · simp at hx
    subst hx
    rfl
theorem NE.ask (h : NE w wr B M k c) (hi : k < 1048575) (j : Int) : Calls Try.prog 9 #[.pointer (some ⟨B, 0, none⟩), .string sK, .int .i64 1, .int .i64 j, .int .i64 0] wr fun e w' => e = .returned (.tuple #[.int .i64 (2146435072 + (k : Int) + 1), .int .i64 0]) ∧ CallAt w' B M (c.asked sK 1 j 0) ∧ Only None' w w' := by
  have hc : c.askCode 0 = 0 := by
    unfold Cl.askCode
    rw [if_neg (by decide), if_neg (by rw [h.ws]; decide), if_neg (by have := h.given; omega)]
  refine (ask_go h.at_ sK 1 j 0 hc).mono ?_
  rintro e w' ⟨rfl, h1, o⟩
  exact ⟨by rw [h.num], h1, h.only.trans2 o fun q hq e => by have := h.new; omega⟩
theorem NE.tell (h : NE w wr B M k c) (hk : k < 1048575) (j : Int) (h1 : CallAt w1 B M (c.asked sK 1 j 0)) (o1 : Only None' w w1) : Calls Try.prog 10 #[.pointer (some ⟨B, 0, none⟩), .int .i64 (2146435072 + (k : Int) + 1)] w1 fun e w' => e = .returned (.tuple #[.agg #[.int .i64 (2146435072 + (k : Int) + 1), .string sK, .int .i64 1, .int .i64 j, .int .i64 0, .int .i64 0, .bool false], .bool true]) ∧ ∃ c', NE w w' B M (k + 1) c' := by
  have hf := Cl.find_new h.at_.ok (key := sK) (client := 1) (id := j) (now := 0)
  rw [h.num] at hf
  refine (tell_any h1 (2146435072 + (k : Int) + 1) (wf64 (by omega) (by omega))).mono ?_
  rintro e w' ⟨rfl, h2, o2⟩
  refine ⟨by rw [hf]; rfl, _, h2, h.life, by show c.given + 1 = _; rw [h.given], ?_, o1.trans2 o2 fun q hq e => by have := h.new; omega, h.new⟩
  unfold Cl.told Cl.asked
  simp only [h.ws, List.nil_append]
  rw [List.filter_eq_nil_iff]
  intro x hx
  simp at hx
  subst hx
  have := h.num
  simp only
  simpa using this
theorem NL.full (h : NL w wr B M 64 c) : c.askCode 0 = 3 := by
  unfold Cl.askCode
  rw [if_neg (by decide), if_pos h.len]
theorem NE.done (h : NE w wr B M 1048575 c) : c.askCode 0 = 70 := by
  unfold Cl.askCode
  rw [if_neg (by decide), if_neg (by rw [h.ws]; decide), if_pos h.given]
theorem ago62 : agoB 0 4611686018427387904 1 = true := by decide +kernel
theorem NL.old (h : NL w wr B M 64 c) : Calls Try.prog 22 #[.pointer (some ⟨B, 0, none⟩), .int .i64 4611686018427387904, .int .i64 1] wr fun e w' => ∃ a k, e = .returned (.slice a 64 k) ∧ ∃ c', NE w w' B M 64 c' := by
  have hq : ∀ x ∈ c.ws, agoB x.first 4611686018427387904 1 = true := fun x hx => by rw [h.first x hx]; exact ago62
  have hl : (c.ws.filter fun x => agoB x.first 4611686018427387904 1) = c.ws := List.filter_eq_self.2 hq
  refine (old_lit h.at_ 4611686018427387904 1 hl h.len rfl).mono ?_
  rintro e w' ⟨a, k, rfl, -, -, h4, o⟩
  refine ⟨a, k, rfl, _, h4, h.life, h.given, ?_, h.only.trans2 o fun q hq e => by have := h.new; omega, h.new⟩
  show (c.ws.filter fun y => !agoB y.first 4611686018427387904 1) = []
  rw [List.filter_eq_nil_iff]
  intro x hx
  rw [hq x hx]
  decide
end
set_option maxRecDepth 20000 in
set_option maxHeartbeats 4000000 in
theorem names_any (w : World) : Calls Try.prog 5 #[] w fun e w' => e = .returned (.bool true) ∧ Only None' w w' := by
  go_enter Try.func5, Try.ntmps5
  go_wp2_with fail
  refine (ask_nil _ 1 1 1 w).mono ?_
  rintro e w1 ⟨rfl, e1⟩
  obtain rfl := e1
  go_wp2_with fail
  refine (tell_nil 1 w).mono ?_
  rintro e w1 ⟨rfl, o1⟩
  have O1 := Lib.hid o1
  clear o1
  unfold Wt.zero Wt.v
  simp only
  go_wp2_with fail
  refine (look_nil 1 _).mono ?_
  rintro e w2 ⟨rfl, o2⟩
  have O2 : Hid (Only None' w w2) := Lib.hid ((O1.out.alloc _).trans o2)
  clear o2
  unfold Wt.zero Wt.v
  simp only
  go_wp2_with fail
  refine (new_bad 0 (by decide) _).mono ?_
  rintro e w3 ⟨rfl, e3⟩
  obtain rfl := e3
  go_wp2_with fail
  refine (new_bad 2048 (by decide) _).mono ?_
  rintro e w4 ⟨rfl, e4⟩
  obtain rfl := e4
  go_wp2_with fail
  refine (new_lit (life := 2047) rfl (by decide) (by decide) _).mono ?_
  rintro e w5 ⟨B, M, rfl, h5, hB, hM, o5⟩
  have L0 : Hid (NL w w5 B M 0 ⟨2047, 0, []⟩) := Lib.hid (by
    have hs := O2.out.size
    simp at hB hM
    exact ⟨h5, rfl, rfl, rfl, fun x hx => absurd hx List.not_mem_nil, (O2.out.alloc _).trans o5, by omega, by omega⟩)
  clear h5 hB hM o5 O1 O2
  go_wp2_with fail
  go_loopw [14, 15] (fun l i wr => ∃ (k : Nat) (c : Cl) (la : Int), k ≤ 64 ∧ la ≤ 2146435072 + (k : Int) ∧ l = .int .i64 la ∧ i = .int .i64 (k : Int) ∧ Hid (NL w wr B M k c)) (fun l i wr => 64 - (intOf i).toNat)
  case atStart => exact ⟨0, _, 0, by omega, by omega, rfl, rfl, L0⟩
  case round =>
    clear L0
    obtain ⟨k, c, la, hk, hla, rfl, rfl, HN⟩ := hrel
    by_cases hlt : k < 64
    · have i0 : (0 : Int) ≤ (k : Int) := by omega
      have i1 : (k : Int) < 64 := by omega
      have d1 : decide (2146435072 + (k : Int) + 1 ≤ la) = false := by rw [decide_eq_false_iff_not]; omega
      have HA := Lib.hid (HN.out.ask hlt (k : Int))
      have HLT := Lib.hid hlt
      clear hla hlt hk
      go_wp2_with fail
      refine HA.out.mono ?_
      rintro e w2 ⟨rfl, c', hc'⟩
      have HC := Lib.hid hc'
      clear hc'
      go_wp2_with fail
      go_roundw
      case rel => exact ⟨k + 1, c', _, by have := HLT.out; omega, by omega, rfl, rfl, HC⟩
      case measure =>
        show 64 - ((k : Int) + 1).toNat < 64 - (k : Int).toNat
        have := HLT.out
        omega
    · obtain rfl : k = 64 := by omega
      clear hla hk hlt
      go_wp2_with fail
      refine (ask_no HN.out.at_ sK 1 1 0 HN.out.full (by decide)).mono ?_
      rintro e w2 ⟨rfl, q, hq⟩
      have o2 : Only None' wr w2 := by rw [hq]; exact (Only.refl None' _).drewN q
      have HN2 : Hid (NL w w2 B M 64 c) := Lib.hid ⟨HN.out.at_.new o2, HN.out.life, HN.out.given, HN.out.len, HN.out.first, HN.out.only.trans o2, HN.out.new⟩
      clear hq o2
      go_wp2_with fail
      refine HN2.out.old.mono ?_
      rintro e w3 ⟨a3, k3, rfl, c3, h3⟩
      have H3 := Lib.hid h3
      clear h3
      go_wp2_with fail
      refine (ask_no H3.out.at_ sK 1 1 (-1) (code := 1) (by unfold Cl.askCode; rfl) (by decide)).mono ?_
      rintro e w4 ⟨rfl, q, hq⟩
      have o4 : Only None' w3 w4 := by rw [hq]; exact (Only.refl None' _).drewN q
      have L1 : Hid (NE w w4 B M 64 c3) := Lib.hid ⟨H3.out.at_.new o4, H3.out.life, H3.out.given, H3.out.ws, H3.out.only.trans o4, H3.out.new⟩
      clear hq o4 HN HN2 H3
      go_wp2_with fail
      go_loopw [23] (fun i wr => ∃ (k : Nat) (c : Cl), 64 ≤ k ∧ k ≤ 1048575 ∧ i = .int .i64 (k : Int) ∧ Hid (NE w wr B M k c)) (fun i wr => 1048575 - (intOf i).toNat)
      case atStart => exact ⟨64, _, by omega, by omega, rfl, L1⟩
      case round =>
        clear L1
        obtain ⟨k, c, hk64, hk, rfl, HN⟩ := hrel
        by_cases hlt : k < 1048575
        · have i0 : (0 : Int) ≤ (k : Int) := by omega
          have i1 : (k : Int) < 1048575 := by omega
          have HA := Lib.hid (HN.out.ask hlt (k : Int))
          have HLT := Lib.hid hlt
          have H64 := Lib.hid hk64
          clear hlt hk hk64
          go_wp2_with fail
          refine HA.out.mono ?_
          rintro e w2 ⟨rfl, h2, o2⟩
          have HT := Lib.hid (HN.out.tell HLT.out (k : Int) h2 o2)
          clear h2 o2 HA
          go_wp2_with fail
          refine HT.out.mono ?_
          rintro e w3 ⟨rfl, c', h3⟩
          have H3 := Lib.hid h3
          clear h3 HT
          go_wp2_with fail
          go_roundw
          case rel =>
            refine ⟨k + 1, c', by have := H64.out; omega, by have := HLT.out; omega, ?_, Lib.hid ⟨H3.out.at_.new ((Only.refl _ _).alloc _), H3.out.life, H3.out.given, H3.out.ws, H3.out.only.alloc _, H3.out.new⟩⟩
            rfl
          case measure =>
            show 1048575 - ((k : Int) + 1).toNat < 1048575 - (k : Int).toNat
            have := HLT.out
            omega
        · obtain rfl : k = 1048575 := by omega
          clear hk hk64 hlt
          go_wp2_with fail
          refine (ask_no HN.out.at_ sK 1 1 0 HN.out.done (by decide)).mono ?_
          rintro e w5 ⟨rfl, q, hq⟩
          have o5 : Only None' wr w5 := by rw [hq]; exact (Only.refl None' _).drewN q
          have P5 := Lib.hid (HN.out.only.trans o5)
          clear hq o5
          go_wp2_with fail
          refine (mark_nil _ _).mono ?_
          rintro e w6 ⟨rfl, o6⟩
          have P6 := Lib.hid (P5.out.trans o6)
          clear o6
          go_wp2_with fail
          refine (due_nil _ _ _).mono ?_
          rintro e w7 ⟨rfl, o7⟩
          have P7 := Lib.hid (P6.out.trans o7)
          clear o7
          go_wp2_with fail
          refine (old_nil _ _ _).mono ?_
          rintro e w8 ⟨rfl, o8⟩
          have P8 := Lib.hid (P7.out.trans o8)
          clear o8
          go_wp2_with fail
          refine (alls_nil _).mono ?_
          rintro e w9 ⟨rfl, e9⟩
          obtain rfl := e9
          go_wp2_with fail
          refine (awake_any _).mono ?_
          rintro e w10 ⟨rfl, o10⟩
          have P10 := Lib.hid (P8.out.trans o10)
          clear o10
          go_wp2_with fail
          go_ret
          exact ⟨rfl, P10.out⟩
theorem names_walk (w : World) : Calls Try.prog 5 #[] w fun e w' => e = .returned (.bool true) ∧ Below w.heap.size w w' :=
  (names_any w).mono fun _ _ h => ⟨h.1, h.2.below (Nat.le_refl _) fun _ e => e.elim⟩
end Go.Proofs.Ytehoiapadnbklaa
