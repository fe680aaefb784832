/- without. -/
import Derived.Test.YthmdaekkpihlnaaK2
namespace Go.Proofs.Ythmdaekkpihlnaa
open Go.RowKit
set_option linter.unusedVariables false

def strs (ks : List ByteArray) : List Value := ks.map Value.string
def wo (ks : List ByteArray) (s : ByteArray) : List ByteArray := ks.filter fun k => !decide (k = s)

theorem strs_append (a b : List ByteArray) : strs (a ++ b) = strs a ++ strs b := by simp [strs]
theorem strs_length (a : List ByteArray) : (strs a).length = a.length := by simp [strs]
theorem strs_at (ks : List ByteArray) (j : Nat) (hj : j < ks.length) : (strs ks)[j]? = some (.string ks[j]) := by simp [strs, hj]
theorem wo_snoc (l : List ByteArray) (s k : ByteArray) : wo (l ++ [k]) s = if k = s then wo l s else wo l s ++ [k] := by
  unfold wo
  rw [List.filter_append]
  by_cases h : k = s <;> simp [h]
theorem wo_le (l : List ByteArray) (s : ByteArray) : (wo l s).length ≤ l.length := List.length_filter_le _ _
theorem info9 : (Try.prog.info? 9).map (fun i => (i.zero, i.size, i.bytes)) = some (some (.string ⟨#[]⟩), 1, 16) := by kernel_rfl

theorem take_snocB {l : List ByteArray} {k : Nat} (hk : k < l.length) : l.take (k + 1) = l.take k ++ [l[k]] := by
  rw [List.take_succ_eq_append_getElem hk]

set_option maxRecDepth 8000 in
theorem without_any {w : World} {v : Value} {n : Nat} {ks : List ByteArray} (V : Vec w 1 v n (strs ks)) (hn : n ≤ 1000) (s : ByteArray) :
    Calls Try.prog 11 #[v, .string s] w fun r w' => ∃ v', r = .returned v' ∧ w'.ownsRow w.heap.size 9 1 v' (wo ks s).length (strs (wo ks s)) ∧ Below w.heap.size w w' := by
  obtain ⟨i0, hi, hz0, hz1, hz2⟩ := info_parts info9
  have hln : ks.length = n := by have := V.len; rw [strs_length] at this; omega
  obtain ⟨a, cap, rfl, hcap, hmax⟩ := V.shape
  have HV := Lib.hid V
  have HLN := Lib.hid hln
  clear V hln
  go_enter Try.func11, Try.ntmps11
  go_wp2
  go_loopw [5, 6] (fun lv i wr => ∃ k : Nat, k ≤ n ∧ i = .int .i64 k ∧ wr.ownsRow w.heap.size 9 1 lv (wo (ks.take k) s).length (strs (wo (ks.take k) s)) ∧ Below w.heap.size w wr) (fun lv i wr => n - (intOf i).toNat)
  case atStart => exact ⟨0, by omega, rfl, World.ownsRow_nil _ _ _ _, Below.refl _ _⟩
  case round =>
    obtain ⟨k, hk, rfl, hown, hbel⟩ := hrel
    have HO := Lib.hid hown
    have HB := Lib.hid hbel
    have hsz := hbel.size
    clear hown hbel
    by_cases hlt : k < n
    · have hlk : k < ks.length := by have := HLN.out; omega
      rcases HV.out.form with ⟨h1, h2⟩ | ⟨g, off, cap', h1, h2, h3, h4, h5, h6⟩
      · omega
      · simp only [Value.slice.injEq] at h1
        obtain ⟨rfl, _, rfl⟩ := h1
        have k0 := h5 k _ (strs_at ks k hlk)
        rw [← HB.out.cell (p := ⟨g, off + k, none⟩) h4] at k0
        have i0' : (0 : Int) ≤ (k : Int) := by omega
        have i1 : (k : Int) < (n : Int) := by omega
        have hl : (wo (ks.take k) s).length ≤ k := Nat.le_trans (wo_le _ _) (by simp; omega)
        have hs := wo_snoc (ks.take k) s ks[k]
        rw [← take_snocB hlk] at hs
        obtain ⟨x, hx⟩ : ∃ x, x = ks[k] := ⟨_, rfl⟩
        rw [← hx] at k0 hs
        clear h5 h6 hx
        by_cases hkey : x = s
        · rw [if_pos hkey] at hs
          have HS := Lib.hid hs
          have hb := keyT hkey
          clear hs hkey
          go_wp2
          go_roundw
          case rel => exact ⟨k + 1, by omega, by go_num, by rw [HS.out]; exact HO.out, HB.out⟩
          case measure => simp [intOf]; omega
        · rw [if_neg hkey] at hs
          have HS := Lib.hid hs
          have hb := keyF hkey
          clear hs hkey
          go_wp2_with (at_builtin; refine wpList_append_own_at _ rfl _ _ 30 rfl w.heap.size 9 i0 _ 1 16 Try.underlying30 hi hz0 hz1 hz2 rfl (by omega) u5 _ _ rfl (HO.out.alloc _) ⟨wr.heap.size, 0, none⟩ 1 1 [.string x] rfl rfl (cell_one_new _ _ _) (by simp [Value.oneCell']) (by unfold maxLen; omega) (by omega) (by simp; omega) ?_)
          intro v' w1 hown1 hg1 _ hat
          have HB1 := Lib.hid ((HB.out.alloc hsz _).grown hg1 (by simp; omega) fun g hg => (HO.out.lt g hg).1)
          have HO1 := Lib.hid hown1
          clear hown1 hg1 hat
          go_wp2
          go_roundw
          case rel => exact ⟨k + 1, by omega, by go_num, by rw [HS.out, strs_append, List.length_append]; exact HO1.out, HB1.out⟩
          case measure => simp [intOf]; omega
    · have : k = n := by omega
      subst this
      have hO := HO.out
      rw [show ks.take k = ks from by rw [← HLN.out, List.take_length]] at hO
      have HO2 := Lib.hid hO
      clear hO
      go_wp2
      go_ret
      exact ⟨_, rfl, HO2.out, HB.out⟩

/-! ### plain facts on the keys -/
def keysOf (L : List Ent) : List ByteArray := L.map (·.key)
theorem keys_drop (L : List Ent) (k : ByteArray) : wo (keysOf L) k = keysOf (pdrop L k) := by
  simp [wo, keysOf, pdrop, List.filter_map]; rfl
theorem keys_append (a b : List Ent) : keysOf (a ++ b) = keysOf a ++ keysOf b := by simp [keysOf]
theorem keys_length (L : List Ent) : (keysOf L).length = L.length := by simp [keysOf]
theorem pevict_suffix (E Y : Int) : ∀ l : List Ent, ∃ p, l = p ++ pevict E Y l
  | [] => ⟨[], rfl⟩
  | x :: r => by
    unfold pevict
    split
    · obtain ⟨p, h⟩ := pevict_suffix E Y r
      exact ⟨x :: p, by rw [List.cons_append, ← h]⟩
    · exact ⟨[], rfl⟩
theorem keys_suffix {A L : List Ent} (h : ∃ p, A = p ++ L) : L.length ≤ A.length ∧ (keysOf A).drop (A.length - L.length) = keysOf L ∧ ∀ j (hj : j < L.length), (keysOf A)[A.length - L.length + j]? = some L[j].key := by
  obtain ⟨p, rfl⟩ := h
  have e : (p ++ L).length - L.length = p.length := by simp
  refine ⟨by simp, ?_, fun j hj => ?_⟩
  · rw [e, keys_append]
    exact List.drop_left' (by simp [keysOf])
  · rw [e, keys_append, List.getElem?_append_right (by simp [keysOf])]
    simp [keysOf, hj]

end Go.Proofs.Ythmdaekkpihlnaa
