/- The document's functions on lists of numbers (butteryref15): Has, Ints, Once: their contracts. -/
import Derived.Test.YtochcilkpjhmiaaB1
import Derived.BigQuiet
import Derived.Deep.QuietTactic
import Derived.Outline
namespace Go.Proofs.Ytochcilkpjhmiaa
open Go.RowKit

theorem has_any (p : Option Addr) (n cap : Nat) (zs : List Int) (x : Int) (w : World) (h : RI w p n cap zs) (hbig : n * 8 ≤ 140737488355328) :
    Calls Try.prog 35 #[.slice p n cap, .int .i64 x] w fun e w' => e = .returned (.bool (hasB zs x)) ∧ w = w' := by
  have hl := h.1
  cases p with
  | none =>
    obtain rfl := h.2.2.2.1 rfl
    obtain rfl : n = 0 := h.1.symm
    clear h
    go_enter Try.func35, Try.ntmps35
    go_wp2
    go_loop [5] (fun i => i = .int .i64 0) (fun _ => 0)
    case atStart => rfl
    case round =>
      subst hrel
      go_wp2
      go_ret
      exact ⟨rfl, rfl⟩
  | some a =>
    obtain ⟨b, off, rfl, hb, hc⟩ := h.cells
    have HL := Lib.hid hl
    have hln : n ≤ zs.length := by omega
    clear hl h
    go_enter Try.func35, Try.ntmps35
    go_wp2
    go_loop [5] (fun i => ∃ k : Nat, k ≤ n ∧ i = .int .i64 k ∧ hasB (zs.take k) x = false) (fun i => n - (intOf i).toNat)
    case atStart => exact ⟨0, by omega, rfl, by simp [hasB]⟩
    case round =>
      obtain ⟨k, hk, rfl, hno⟩ := hrel
      have HNO := Lib.hid hno
      clear hno
      by_cases hlt : k < n
      · have hcell := hc k (by omega)
        have hts := Lib.hid (hasB_take_succ zs x k (by omega))
        clear hc
        cases he : (nth zs k == x) with
        | true =>
          go_wp2
          go_ret
          exact ⟨by rw [hasB_nth zs x k (by omega) he]; rfl, rfl⟩
        | false =>
          go_wp2
          go_round
          case rel => exact ⟨k + 1, by omega, by go_num, by rw [hts.out, HNO.out, he]; rfl⟩
          case measure => simp [intOf]; omega
      · have hkn : k = n := by omega
        have hfin : hasB zs x = false := by
          have h1 := HNO.out
          rw [hkn, List.take_of_length_le (by have := HL.out; omega)] at h1
          exact h1
        have HF := Lib.hid hfin
        clear hkn hc hfin
        go_wp2
        go_ret
        exact ⟨by rw [HF.out]; rfl, rfl⟩

theorem Try.info3 : (Try.prog.info? 3).map (fun i => (i.zero, i.size, i.bytes)) = some (some (.int .i64 0), 1, 8) := by kernel_rfl

theorem one_cell (w : World) (x : Int) (T : TypeId) : ∀ (j : Nat) (u : Value), [Value.int .i64 x][j]? = some u → (w.alloc (.cells #[.int .i64 x] T)).cell? ((⟨w.heap.size, 0, none⟩ : Addr).add j) = some u := by
  intro j u hj
  match j, hj with
  | 0, hj => simp at hj; subst hj; simp [Addr.add]

theorem OI.of_owns {B : Nat} {w : World} {v : Value} {n : Nat} {zs : List Int} (h : w.ownsRow B 3 1 v n (zs.map (Value.int .i64))) : ∃ p cap, v = .slice p n cap ∧ OI B w p n cap zs := by
  rcases h.2 with ⟨rfl, rfl⟩ | ⟨g, cap, cur, rfl, _⟩
  · exact ⟨.none, 0, rfl, h⟩
  · exact ⟨_, cap, rfl, h⟩

theorem own_block {w : World} {B : Nat} {e : TypeId} {size : Nat} {v : Value} {n : Nat} {xs : List Value} (h : w.ownsRow B e size v n xs) : ∀ k, v.ownBlock = some k → B ≤ k := by
  intro k hk
  rcases h.2 with ⟨rfl, _⟩ | ⟨g, cap, cur, rfl, hg, _⟩
  · cases hk
  · injection hk with hk; subst hk; exact hg

theorem below_mono_size {B : Nat} {w w' : World} (h : Below w.heap.size w w') (hB : B ≤ w.heap.size) : Below B w w' := h.mono hB

set_option maxHeartbeats 400000 in
theorem once_any (p : Option Addr) (n cap : Nat) (zs : List Int) (w : World) (h : RI w p n cap zs) (hbig : n * 8 ≤ 140737488355328) :
    Calls Try.prog 37 #[.slice p n cap] w fun e w' => ∃ p' cap', e = .returned (.slice p' (once zs).length cap') ∧ OI w.heap.size w' p' (once zs).length cap' (once zs) ∧ Below w.heap.size w w' := by
  have hl := h.1
  obtain ⟨i0, hi, hz0, hz1, hz2⟩ := info_parts Try.info3
  cases p with
  | none =>
    obtain rfl := h.2.2.2.1 rfl
    obtain rfl : n = 0 := h.1.symm
    clear h
    go_enter Try.func37, Try.ntmps37
    go_wp2
    go_loop [3, 4] (fun v i => i = .int .i64 0 ∧ v = .slice none 0 0) (fun _ _ => 0)
    case atStart => exact ⟨rfl, rfl⟩
    case round =>
      obtain ⟨rfl, rfl⟩ := hrel
      go_wp2
      go_ret
      exact ⟨none, 0, rfl, World.ownsRow_nil _ _ _ _, Below.refl _ _⟩
  | some a =>
    have HL := Lib.hid hl
    have hln : n ≤ zs.length := by omega
    have HR := Lib.hid h
    obtain ⟨b, off, rfl, hb, hc⟩ := h.cells
    clear hl h
    go_enter Try.func37, Try.ntmps37
    go_wp2_with fail
    go_loopw [3, 4] (fun v i wr => ∃ (k : Nat) (p' : Option Addr) (cap' : Nat), k ≤ n ∧ i = .int .i64 k ∧ v = .slice p' (once (zs.take k)).length cap' ∧ OI w.heap.size wr p' (once (zs.take k)).length cap' (once (zs.take k)) ∧ Below w.heap.size w wr) (fun _ i _ => n - (intOf i).toNat)
    case atStart => exact ⟨0, none, 0, by omega, rfl, rfl, World.ownsRow_nil _ _ _ _, Below.refl _ _⟩
    case round =>
      obtain ⟨k, p', cap', hk, rfl, rfl, ho, hbel⟩ := hrel
      have HO := Lib.hid ho
      have HB := Lib.hid hbel
      have hsz := hbel.size
      have hlen : (once (zs.take k)).length ≤ k := Nat.le_trans (once_len _) (List.length_take_le _ _)
      by_cases hlt : k < n
      · have hcell : wr.cell? ⟨b, off + k, none⟩ = some (.int .i64 (nth zs k)) := by rw [hbel.cell hb]; exact hc k (by omega)
        clear hc ho hbel
        cases he : hasB (once (zs.take k)) (nth zs k) with
        | true =>
          have HY := Lib.hid (once_yes zs k (by omega) he)
          have HE := Lib.hid he
          clear he
          go_wp2_with (go_at_call 35; refine (has_any _ _ _ (once (zs.take k)) _ _ HO.out.ri (by omega)).mono ?_; rintro e w' ⟨rfl, rfl⟩; rw [HE.out])
          go_roundw
          case rel => exact ⟨k + 1, p', cap', by omega, by go_num, by rw [HY.out], by rw [HY.out]; exact HO.out, HB.out⟩
          case measure => simp [intOf]; omega
        | false =>
          have HY := Lib.hid (once_no zs k (by omega) he)
          have HE := Lib.hid he
          have hw0 : wr.ownsRow w.heap.size 3 1 (.slice p' (once (zs.take k)).length cap') (once (zs.take k)).length ((once (zs.take k)).map (Value.int .i64)) := HO.out
          have HW := Lib.hid hw0
          clear he hw0
          go_wp2_with (first
            | (go_at_call 35; refine (has_any _ _ _ (once (zs.take k)) _ _ HO.out.ri (by omega)).mono ?_; rintro e w' ⟨rfl, rfl⟩; rw [HE.out])
            | (at_builtin; refine wpList_append_own _ rfl _ _ 25 rfl w.heap.size 3 i0 (.int .i64 0) 1 8 Try.underlying25 hi hz0 hz1 hz2 rfl (by decide) _ _ _ rfl (HW.out.alloc _) ⟨wr.heap.size, 0, none⟩ 1 1 [.int .i64 (nth zs k)] rfl rfl ?c1 ?c2 ?c3 ?c4 ?c5 ?_))
          case c1 => exact one_cell _ _ _
          case c2 => intro u hu; simp at hu; subst hu; rfl
          case c3 => unfold maxLen; omega
          case c4 => omega
          case c5 => simp; omega
          · intro v' w1 hown' hgrow _
            have HY2 := HY.out
            have hb1 : Below w.heap.size w w1 := (HB.out.alloc hsz _).grown hgrow (by simp; omega) (own_block HW.out)
            have hn1 : w1.ownsRow w.heap.size 3 1 v' (once (zs.take (k + 1))).length ((once (zs.take (k + 1))).map (Value.int .i64)) := by
              rw [HY2, List.length_append, List.map_append]; exact hown'
            obtain ⟨p1, c1, hv, ho1⟩ := OI.of_owns hn1
            have HN := Lib.hid ho1
            have HB1 := Lib.hid hb1
            have HV := Lib.hid hv
            clear hgrow hown' HO HB HW hn1 ho1 hb1 hv HY2
            go_wp2
            go_roundw
            case rel => exact ⟨k + 1, p1, c1, by omega, by go_num, HV.out, HN.out, HB1.out⟩
            case measure => simp [intOf]; omega
      · have hkn : zs.take k = zs := List.take_of_length_le (by have := HL.out; omega)
        have HK := Lib.hid hkn
        clear hkn hc ho hbel
        go_wp2
        go_ret
        rw [HK.out]
        exact ⟨p', cap', rfl, by have := HO.out; rw [HK.out] at this; exact this, HB.out⟩

end Go.Proofs.Ytochcilkpjhmiaa
