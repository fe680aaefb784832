/- slices.IndexFunc (42) of pairs, with any closure; dedup.Find (30); slices.Clone (34). -/
import Derived.Test.YtajbagdgjbihjaaD1
namespace Go.Proofs.Ytajbagdgjbihjaa
open Go.RowKit Go.Maps
set_option linter.unusedVariables false

abbrev Pr := ByteArray × ByteArray
theorem pairR_length (p : Pr) : (pairR p).length = 2 := rfl
theorem pairR_one (p : Pr) : ∀ u ∈ pairR p, u.oneCell' = true := by
  intro u hu
  simp [pairR] at hu
  rcases hu with rfl | rfl <;> rfl
/-- pairs, in a row of its own -/
structure PRow (w : World) (v : Value) (ps : List Pr) : Prop where
  row : Vec w 2 v ps.length (ps.flatMap pairR)
section
variable {w w' : World} {v : Value} {ps : List Pr} {S : Nat → Prop}
theorem PRow.only (h : PRow w v ps) (o : Only S w w') (hn : ∀ g, v.ownBlock = some g → ¬ S g) : PRow w' v ps := ⟨h.row.only o hn⟩
theorem PRow.new_ (h : PRow w v ps) (o : Only None' w w') : PRow w' v ps := h.only o fun _ _ e => e
theorem PRow.nil (w : World) : PRow w (.slice none 0 0) [] := ⟨Vec.nil _ _⟩
end
def idxOf (q : Pr → Bool) : List Pr → Int
  | [] => -1
  | p :: l => if q p then 0 else if idxOf q l < 0 then -1 else idxOf q l + 1
theorem idxOf_ge (q : Pr → Bool) : ∀ l, -1 ≤ idxOf q l
  | [] => by show (-1 : Int) ≤ -1; decide
  | p :: l => by
    have := idxOf_ge q l
    unfold idxOf
    split
    · omega
    · split <;> omega
theorem idxOf_at {q : Pr → Bool} : ∀ {l : List Pr} {k : Nat} {x : Pr}, l[k]? = some x → q x = true → (∀ j y, j < k → l[j]? = some y → q y = false) → idxOf q l = (k : Int)
  | [], k, x, h, _, _ => by simp at h
  | p :: l, 0, x, h, hq, _ => by
    simp at h
    subst h
    unfold idxOf
    rw [if_pos hq]
    rfl
  | p :: l, k + 1, x, h, hq, hn => by
    have h0 := hn 0 p (by omega) rfl
    have ih := idxOf_at (l := l) (k := k) (by simpa using h) hq fun j y hj hy => hn (j + 1) y (by omega) (by simpa using hy)
    unfold idxOf
    rw [if_neg (by simp [h0]), ih, if_neg (by omega)]
    omega
theorem idxOf_none {q : Pr → Bool} : ∀ {l : List Pr}, (∀ (j : Nat) y, l[j]? = some y → q y = false) → idxOf q l = -1
  | [], _ => rfl
  | p :: l, hn => by
    have h0 := hn 0 p rfl
    have ih := idxOf_none (l := l) fun j y hy => hn (j + 1) y (by simpa using hy)
    unfold idxOf
    rw [if_neg (by simp [h0]), ih]
    rfl
set_option maxRecDepth 20000 in
set_option maxHeartbeats 1000000 in
theorem idx_any {w : World} {v : Value} {ps : List Pr} (h : PRow w v ps) (hn : ps.length ≤ 100000) (F : Nat) (caps : Array Value) (hcf : ∀ args w, (callFunc F args).run Try.prog w = .ok (.enter F args) w) (q : Pr → Bool) (hq : ∀ x ∈ ps, ∀ w', Only None' w w' → Calls Try.prog F (#[pairV x.1 x.2] ++ caps) w' fun e w'' => e = .returned (.bool (q x)) ∧ Only None' w' w'') :
    Calls Try.prog 42 #[v, .func (.func F) #[] caps] w fun e w' => e = .returned (.int .i64 (idxOf q ps)) ∧ Only None' w w' := by
  have H := Lib.hid h
  have HQ := Lib.hid hq
  obtain ⟨a, cap, rfl, _⟩ := h.row.shape
  obtain ⟨n, hnn⟩ : ∃ n, n = ps.length := ⟨_, rfl⟩
  rw [← hnn] at H hn ⊢
  have HL := Lib.hid (And.intro hnn hn)
  clear h hq hnn hn
  go_enter Try.func42, Try.ntmps42
  go_wp2_with fail
  go_loopw [8] (fun i wr => ∃ k : Nat, k ≤ n ∧ i = .int .i64 (k : Int) ∧ Hid (∀ j y, j < k → ps[j]? = some y → q y = false) ∧ Hid (Only None' w wr)) (fun i wr => n - (intOf i).toNat)
  case atStart => exact ⟨0, by omega, rfl, Lib.hid (fun j y hj => by omega), Lib.hid (Only.refl _ _)⟩
  case round =>
    obtain ⟨k, hk, rfl, HF, HO⟩ := hrel
    by_cases hlt : k < n
    · have hj : k < ps.length := by have := HL.out.1; omega
      have hrow := (H.out.new_ HO.out).row
      rw [← HL.out.1] at hrow
      obtain ⟨g, off, rfl, hg, hcell, _⟩ := hrow.form' (by omega)
      obtain ⟨x, hx⟩ : ∃ x, x = ps[k] := ⟨_, rfl⟩
      have hx' : ps[k]? = some x := by rw [hx]; exact List.getElem?_eq_getElem hj
      have k0 := hcell (k * 2 + 0) (.string x.1) (by rw [hx]; exact flat_at pairR 2 ps k (fun y _ => rfl) hj 0 _ rfl)
      have k1 := hcell (k * 2 + 1) (.string x.2) (by rw [hx]; exact flat_at pairR 2 ps k (fun y _ => rfl) hj 1 _ rfl)
      have hqx := HQ.out x (by rw [hx]; exact List.getElem_mem hj) _ HO.out
      rw [Nat.add_zero] at k0
      rw [← Nat.add_assoc] at k1
      have i0 : (0 : Int) ≤ (k : Int) := by omega
      have i1 : (k : Int) < (n : Int) := by omega
      have HX := Lib.hid hx'
      have HQX := Lib.hid hqx
      have HLT := Lib.hid hlt
      clear hrow hcell hx hx' hqx hj hg
      obtain ⟨x1, x2⟩ := x
      simp only at k0 k1
      obtain ⟨b, hb⟩ : ∃ b, b = q (x1, x2) := ⟨_, rfl⟩
      rw [← hb] at HQX
      have HB := Lib.hid hb
      clear hb
      go_wp2_with fail
      refine HQX.out.mono ?_
      rintro e w3 ⟨rfl, o3⟩
      have O3 := Lib.hid o3
      clear o3
      cases b with
      | true =>
        go_wp2_with fail
        go_ret
        exact ⟨by rw [idxOf_at HX.out HB.out.symm HF.out]; rfl, HO.out.trans O3.out⟩
      | false =>
        go_wp2_with fail
        go_roundw
        case rel =>
          refine ⟨k + 1, by have := HLT.out; omega, next_int (by have := HL.out.2; have := HLT.out; omega), Lib.hid (fun j y hj hy => ?_), Lib.hid (HO.out.trans O3.out)⟩
          by_cases hjk : j = k
          · subst hjk
            rw [HX.out] at hy
            injection hy with hy
            rw [← hy]; exact HB.out.symm
          · exact HF.out j y (by omega) hy
        case measure =>
          rw [next_int (by have := HL.out.2; have := HLT.out; omega)]
          show n - ((k + 1 : Nat) : Int).toNat < n - (k : Int).toNat
          have := HLT.out
          omega
    · obtain rfl : k = n := by omega
      go_wp2_with fail
      go_ret
      exact ⟨by rw [idxOf_none fun j y hy => HF.out j y (by have := (List.getElem?_eq_some_iff.1 hy).1; have := HL.out.1; omega) hy]; rfl, HO.out⟩
theorem call36 (args : Array Value) (w : World) : (callFunc 36 args).run Try.prog w = .ok (.enter 36 args) w := by go_simp
theorem call43 (args : Array Value) (w : World) : (callFunc 43 args).run Try.prog w = .ok (.enter 43 args) w := by go_simp
theorem call44 (args : Array Value) (w : World) : (callFunc 44 args).run Try.prog w = .ok (.enter 44 args) w := by go_simp
theorem call45 (args : Array Value) (w : World) : (callFunc 45 args).run Try.prog w = .ok (.enter 45 args) w := by go_simp
/-- a key's value -/
def findP (key : ByteArray) : List Pr → Option ByteArray
  | [] => none
  | p :: l => if p.1 = key then some p.2 else findP key l
def isK (key : ByteArray) (p : Pr) : Bool := p.1.toList == key.toList
theorem isK_iff {key : ByteArray} {p : Pr} : isK key p = true ↔ p.1 = key := by
  unfold isK
  rw [same_str, decide_eq_true_eq]
theorem findP_idx {key : ByteArray} : ∀ ps : List Pr, (findP key ps = none ∧ idxOf (isK key) ps = -1) ∨ ∃ (k : Nat) (x : Pr), ps[k]? = some x ∧ idxOf (isK key) ps = (k : Int) ∧ findP key ps = some x.2 ∧ x.1 = key
  | [] => .inl ⟨rfl, rfl⟩
  | p :: l => by
    unfold findP idxOf
    by_cases hp : p.1 = key
    · rw [if_pos hp, if_pos (isK_iff.2 hp)]
      exact .inr ⟨0, p, rfl, rfl, rfl, hp⟩
    · rw [if_neg hp, if_neg (fun h => hp (isK_iff.1 h))]
      rcases findP_idx l with ⟨h1, h2⟩ | ⟨k, x, h1, h2, h3, h4⟩
      · rw [h2]
        exact .inl ⟨h1, rfl⟩
      · rw [h2, if_neg (by omega)]
        exact .inr ⟨k + 1, x, by simpa using h1, rfl, h3, h4⟩
set_option maxRecDepth 20000 in
set_option maxHeartbeats 1000000 in
theorem find_any {w : World} {v : Value} {ps : List Pr} (h : PRow w v ps) (hn : ps.length ≤ 100000) (key : ByteArray) : Calls Try.prog 30 #[v, .string key] w fun e w' => e = .returned (.tuple #[.string ((findP key ps).getD ⟨#[]⟩), .bool (findP key ps).isSome]) ∧ Only None' w w' := by
  obtain ⟨w1, hw1⟩ : ∃ w1, w1 = w.alloc (.cells #[.string key] 9) := ⟨_, rfl⟩
  have o1 : Only None' w w1 := by rw [hw1]; exact (Only.refl None' w).alloc _
  have hC : CellsR w1 w.heap.size [.string key] := by rw [hw1]; exact cells_new w [.string key] 9
  have HI := Lib.hid (idx_any (h.new_ o1) hn 43 #[.pointer (some ⟨w.heap.size, 0, none⟩)] call43 (isK key) fun x _ w' o => is43 w.heap.size key x.1 x.2 ((hC.kept o fun e => e).is 0 _ rfl))
  have H := Lib.hid (h.new_ o1)
  have O1 := Lib.hid o1
  obtain ⟨a, cap, rfl, _⟩ := h.row.shape
  obtain ⟨n, hnn⟩ : ∃ n, n = ps.length := ⟨_, rfl⟩
  rw [← hnn] at HI H hn ⊢
  have HL := Lib.hid (And.intro hnn hn)
  have ew := hw1.symm
  clear h hnn hn o1 hC hw1
  rcases findP_idx (key := key) ps with ⟨h1, h2⟩ | ⟨k, x, h1, h2, h3, h4⟩
  · rw [h1]
    rw [h2] at HI
    clear h1 h2
    go_enter Try.func30, Try.ntmps30
    go_wp2_with fail
    refine HI.out.mono ?_
    rintro e w3 ⟨rfl, o3⟩
    have O3 := Lib.hid o3
    clear o3
    go_wp2_with fail
    go_ret2
    exact ⟨rfl, O1.out.trans O3.out⟩
  · have HJ := Lib.hid (List.getElem?_eq_some_iff.1 h1).1
    obtain rfl : ps[k] = x := (List.getElem?_eq_some_iff.1 h1).2
    obtain ⟨x2, hx2⟩ : ∃ x2, x2 = ps[k].2 := ⟨_, rfl⟩
    rw [h3]
    rw [h2] at HI
    rw [← hx2]
    have HX2 := Lib.hid hx2
    have i0 : (0 : Int) ≤ (k : Int) := by omega
    have i1 : (k : Int) < (n : Int) := by have := HL.out.1; have := HJ.out; omega
    have i2 : ¬ (k : Int) < 0 := by omega
    have d2 : decide ((k : Int) < 0) = false := decide_eq_false i2
    clear hx2 h1 h2 h3 h4
    go_enter Try.func30, Try.ntmps30
    go_wp2_with fail
    refine HI.out.mono ?_
    rintro e w3 ⟨rfl, o3⟩
    have O3 := Lib.hid o3
    have hrow := (H.out.new_ o3).row
    rw [← HL.out.1] at hrow
    obtain ⟨g, off, rfl, hg, hcell, _⟩ := hrow.form' (by have := HL.out.1; have := HJ.out; omega)
    have k1 := hcell (k * 2 + 1) (.string x2) (by rw [HX2.out]; exact flat_at pairR 2 ps k (fun y _ => rfl) HJ.out 1 _ rfl)
    rw [← Nat.add_assoc] at k1
    clear hrow hcell hg o3
    go_wp2_with fail
    go_ret2
    exact ⟨rfl, O1.out.trans O3.out⟩
end Go.Proofs.Ytajbagdgjbihjaa
