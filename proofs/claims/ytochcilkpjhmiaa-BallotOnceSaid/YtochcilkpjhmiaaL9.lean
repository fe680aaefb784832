/- The walk of butterylaw15.BallotOnce. -/
import Derived.Test.YtochcilkpjhmiaaL5
import Derived.Test.YtochcilkpjhmiaaA1
namespace Go.Proofs.Ytochcilkpjhmiaa
open Go.RowKit

/-- a slice of those who stand that came in: who, in which term, whether new enough -/
def RS (w : World) (p : Option Addr) (n : Nat) (ss : List (Int × Int × Bool)) : Prop :=
  ss.length = n ∧ ∀ j, j < n → ∃ b off, p = some ⟨b, off, none⟩ ∧ b < w.heap.size ∧
    w.cell? ⟨b, off + j * 3, none⟩ = some (.int .i64 ((ss.getD j (0, 0, false)).1)) ∧ w.cell? ⟨b, off + j * 3 + 1, none⟩ = some (.int .i64 ((ss.getD j (0, 0, false)).2.1)) ∧ w.cell? ⟨b, off + j * 3 + 2, none⟩ = some (.bool ((ss.getD j (0, 0, false)).2.2))

theorem RS.below {w w' : World} {p : Option Addr} {n : Nat} {ss : List (Int × Int × Bool)} (h : RS w p n ss) (hb : Below w.heap.size w w') : RS w' p n ss := by
  refine ⟨h.1, fun j hj => ?_⟩
  obtain ⟨b, off, e, hlt, c1, c2, c3⟩ := h.2 j hj
  exact ⟨b, off, e, Nat.lt_of_lt_of_le hlt hb.size, by rw [hb.cell hlt]; exact c1, by rw [hb.cell hlt]; exact c2, by rw [hb.cell hlt]; exact c3⟩

/-- what is kept: each term that was voted in, with its vote -/
structure Kept (t v : Int) (T V : List Int) : Prop where
  len : V.length = T.length
  le : ∀ j, j < T.length → nth T j ≤ t
  one : ∀ j, j < T.length → nth T j = t → nth V j = v
  pos : ∀ j, j < T.length → 0 < nth V j

theorem kept_start : Kept 0 0 [] [] := ⟨rfl, fun j h => by simp at h, fun j h => by simp at h, fun j h => by simp at h⟩

theorem grants_true {t v ct c : Int} {n : Bool} (h : grantsB t v ct c n = true) : t ≤ ct ∧ 0 < c ∧ n = true ∧ (ct = t → v = 0 ∨ v = c) := by
  simp only [grantsB, Bool.and_eq_true, Bool.or_eq_true, decide_eq_true_eq, beq_iff_eq] at h
  obtain ⟨⟨h1, h2⟩, h3⟩ := h
  refine ⟨by omega, h2, h3, fun e => ?_⟩
  rcases h1 with h1 | ⟨_, h1⟩
  · omega
  · exact h1

theorem kept_new {t v ct c : Int} {n : Bool} {T V : List Int} (h : Kept t v T V) (hg : grantsB t v ct c n = true) : Kept ct c T V := by
  obtain ⟨h1, h2, h3, h4⟩ := grants_true hg
  refine ⟨h.len, fun j hj => by have := h.le j hj; omega, fun j hj e => ?_, h.pos⟩
  have hle := h.le j hj
  have hct : ct = t := by omega
  have hv := h.one j hj (by omega)
  have hp := h.pos j hj
  rcases h4 hct with h5 | h5 <;> omega

theorem nth_append_l (l : List Int) (x : Int) (j : Nat) (h : j < l.length) : nth (l ++ [x]) j = nth l j := by
  rw [nth_get _ j (by simp; omega), nth_get l j h, List.getElem_append_left h]
theorem nth_append_r (l : List Int) (x : Int) (j : Nat) (h : j = l.length) : nth (l ++ [x]) j = x := by
  subst h; rw [nth_get _ _ (by simp)]; simp

theorem kept_add {t v : Int} {T V : List Int} (h : Kept t v T V) (hv : 0 < v) : Kept t v (T ++ [t]) (V ++ [v]) := by
  have hl := h.len
  refine ⟨by simp [hl], fun j hj => ?_, fun j hj e => ?_, fun j hj => ?_⟩
  all_goals
    rw [List.length_append, List.length_singleton] at hj
    rcases Nat.lt_or_ge j T.length with h' | h'
  · rw [nth_append_l T t j h']; exact h.le j h'
  · rw [nth_append_r T t j (by omega)]; omega
  · rw [nth_append_l T t j h'] at e; rw [nth_append_l V v j (by omega)]; exact h.one j h' e
  · rw [nth_append_r V v j (by omega)]
  · rw [nth_append_l V v j (by omega)]; exact h.pos j h'
  · rw [nth_append_r V v j (by omega)]; exact hv

theorem grants_self (t v : Int) (h : 0 < v) : grantsB t v t v true = true := by simp [grantsB, h]

theorem grants_as {t v ct c : Int} {n b : Bool} (h : grantsB t v ct c n = b) (w : World) : Calls Try.prog 13 #[.int .i64 t, .int .i64 v, .int .i64 ct, .int .i64 c, .bool n] w fun e w' => e = .returned (.bool b) ∧ w = w' := h ▸ grants_any t v ct c n w

def ints1 (s : Int × Int × Bool) : Int := s.1
def ints2 (s : Int × Int × Bool) : Int := s.2.1
def bool3 (s : Int × Int × Bool) : Bool := s.2.2

theorem rs_at {w : World} {p : Option Addr} {n : Nat} {ss : List (Int × Int × Bool)} (h : RS w p n ss) (j : Nat) (hj : j < n) : ∃ b off cc ct nw, p = some ⟨b, off, none⟩ ∧
    w.cell? ⟨b, off + j * 3, none⟩ = some (.int .i64 cc) ∧ w.cell? ⟨b, off + j * 3 + 1, none⟩ = some (.int .i64 ct) ∧ w.cell? ⟨b, off + j * 3 + 2, none⟩ = some (.bool nw) := by
  obtain ⟨b, off, e, _, c1, c2, c3⟩ := h.2 j hj
  exact ⟨b, off, _, _, _, e, c1, c2, c3⟩

theorem rs_shape {w : World} {p : Option Addr} {n : Nat} {ss : List (Int × Int × Bool)} (h : RS w p n ss) : n = 0 ∨ ∃ b off, p = some ⟨b, off, none⟩ := by
  rcases Nat.eq_zero_or_pos n with h0 | h0
  · exact .inl h0
  · obtain ⟨b, off, e, _⟩ := h.2 0 h0; exact .inr ⟨b, off, e⟩

set_option maxHeartbeats 4000000 in
set_option maxRecDepth 20000 in
theorem once_walk (p : Option Addr) (n cap : Nat) (ss : List (Int × Int × Bool)) (w : World) (h : RS w p n ss) :
    Calls Try.prog 7 #[.slice p n cap] w fun e w' => e = .returned (.bool true) ∧ Below w.heap.size w w' := by
  have H := Lib.hid h
  by_cases hb : (300 : Int) < (n : Int)
  · clear h
    go_enter Try.func7, Try.ntmps7
    go_wp2_with fail
    refine (works_any _).mono ?_
    rintro e w1 ⟨rfl, h1⟩
    go_wp2_with fail
    refine (works_any _).mono ?_
    rintro e w2 ⟨rfl, h2⟩
    go_wp2_with fail
    go_ret
    exact ⟨rfl, h1.trans (h2.mono h1.size)⟩
  · have hs := rs_shape h
    obtain ⟨i0, hi, hz0, hz1, hz2⟩ := info_parts Try.info3
    clear h
    rcases hs with h0 | ⟨b, off, rfl⟩
    · have hn0 : n ≤ 0 := by omega
      clear h0
      go_enter Try.func7, Try.ntmps7
      go_wp2_with fail
      refine (works_any _).mono ?_
      rintro e w1 ⟨rfl, h1⟩
      go_wp2_with fail
      go_loop [7] (fun i => i = .int .i64 0) (fun _ => 0)
      case atStart => rfl
      case round =>
        subst hrel
        have hge : ¬ ((0 : Int) < (n : Int)) := by omega
        go_wp2
        go_ret
        exact ⟨rfl, h1⟩
    · go_enter Try.func7, Try.ntmps7
      go_wp2_with fail
      refine (works_any _).mono ?_
      rintro e w1 ⟨rfl, h1⟩
      have BW := Lib.hid h1
      have R1 := Lib.hid (H.out.below h1)
      clear h1
      go_wp2_with fail
      go_loopw [3, 4, 5, 6, 7] (fun te vo x y i wr => ∃ (k : Nat) (t v : Int) (T V : List Int) (p2 : Option Addr) (c2 : Nat) (p3 : Option Addr) (c3 : Nat), k ≤ n ∧ i = .int .i64 k ∧ te = .int .i64 t ∧ vo = .int .i64 v ∧
        x = .slice p2 T.length c2 ∧ y = .slice p3 T.length c3 ∧ Two w1.heap.size wr p2 T.length c2 T p3 T.length c3 V ∧ ((p2 = none ∧ p3 = none) ∨ ∃ g g', p2 = some ⟨g, 0, none⟩ ∧ p3 = some ⟨g', 0, none⟩) ∧ Kept t v T V ∧ T.length ≤ k ∧ Below w1.heap.size w1 wr) (fun _ _ _ _ i _ => n - (intOf i).toNat)
      case atStart => exact ⟨0, 0, 0, [], [], none, 0, none, 0, by omega, rfl, rfl, rfl, rfl, rfl, two_nil _ _, .inl ⟨rfl, rfl⟩, kept_start, by simp, Below.refl _ _⟩
      case round =>
        obtain ⟨k, t, v, T, V, p2, c2, p3, c3, hk, rfl, rfl, rfl, rfl, rfl, ht, hsh, hkept, htk, hbel⟩ := hrel
        have KP := Lib.hid hkept
        have HB := Lib.hid hbel
        have HT0 := Lib.hid ht
        have hsz := hbel.size
        have HSH := Lib.hid hsh
        by_cases hlt : k < n
        · obtain ⟨bq, oq, cc, ct, nw, ee, k1, k2, k3⟩ := rs_at (R1.out.below hbel) k hlt
          cases ee
          have hkn : (k : Int) < (n : Int) := by omega
          clear ht hkept hbel
          cases hg : grantsB t v ct cc nw with
          | false =>
            have HG := Lib.hid hg
            clear hg hsh
            go_wp2_with fail
            go_quiet ((go_at_call 13; exact quietS (grants_as HG.out _)))
            go_wp2
            go_roundw
            case rel => exact ⟨k + 1, t, v, T, V, p2, c2, p3, c3, by omega, by go_num, rfl, rfl, rfl, rfl, HT0.out, HSH.out, KP.out, by omega, below_drewN HB.out _⟩
            case measure => simp [intOf]; omega
          | true =>
            have HG := Lib.hid hg
            have GT := Lib.hid (grants_true hg)
            have KN := Lib.hid (kept_new KP.out hg)
            have hw0 : wr.ownsRow w1.heap.size 3 1 (.slice p2 T.length c2) T.length (T.map (Value.int .i64)) := HT0.out.1
            have HWW := Lib.hid hw0
            have hc3 : T.length + 1 ≤ maxLen := by unfold maxLen; omega
            have hc4 : (T.length + 1) * 8 ≤ 140737488355328 := by omega
            obtain ⟨x1, x2, x3, _⟩ := GT.out
            have g1 : ¬ ct < t := by omega
            have g2 : ¬ cc ≤ 0 := by omega
            subst x3
            clear hg hw0 x1 x2
            rcases hsh with ⟨rfl, rfl⟩ | ⟨g, g', rfl, rfl⟩
            all_goals
              go_wp2_with fail
              go_quiet ((go_at_call 13; exact quietS (grants_as HG.out _)))
              have HT : Hid (Two w1.heap.size (wr.drewN nq) _ T.length c2 T _ T.length c3 V) := HT0.out
              go_wp2_with fail
              obtain ⟨wi, hwi⟩ : ∃ wi : World, wi = wr.drewN nq := ⟨_, rfl⟩
              rw [← hwi]
              rw [← hwi] at HT
              have HBI : Hid (Below w1.heap.size w1 wi) := by show Below _ _ _; rw [hwi]; exact below_drewN HB.out _
              have hszi : w1.heap.size ≤ wi.heap.size := HBI.out.size
              have HWI : Hid (wi.ownsRow w1.heap.size 3 1 (.slice _ T.length c2) T.length (T.map (Value.int .i64))) := HT.out.1
              clear hwi
              go_loop [8] (fun i => ∃ j : Nat, j ≤ T.length ∧ i = .int .i64 j) (fun i => T.length - (intOf i).toNat)
              case atStart => exact ⟨0, by omega, rfl⟩
              case round =>
                obtain ⟨j, hj, rfl⟩ := hrel
                by_cases hlt2 : j < T.length
                · obtain ⟨b1, ee1, hcT⟩ := oi_at HT.out.1 j hlt2
                  cases ee1
                  all_goals
                    obtain ⟨b2, ee2, hcV⟩ := oi_at HT.out.2.1 j hlt2
                    cases ee2
                    all_goals
                      by_cases e1 : nth T j = ct
                      · have e2 := KN.out.one j hlt2 e1
                        have t1 : (nth T j == ct) = true := by simpa using e1
                        have t2 : (nth V j != cc) = false := by simp [e2]
                        clear e1 e2
                        go_wp2
                        go_round
                        case rel => exact ⟨j + 1, by omega, by go_num⟩
                        case measure => simp [intOf]; omega
                      · have t1 : (nth T j == ct) = false := by simpa using e1
                        clear e1
                        go_wp2
                        go_round
                        case rel => exact ⟨j + 1, by omega, by go_num⟩
                        case measure => simp [intOf]; omega
                · skip
                  go_wp2_with (at_builtin; refine wpList_append_own_at _ rfl (.tmp 95) (.tmp 97) 25 rfl w1.heap.size 3 i0 (.int .i64 0) 1 8 Try.underlying25 hi hz0 hz1 hz2 rfl (by decide) _ _ _ rfl (HWI.out.alloc _) ⟨wi.heap.size, 0, none⟩ 1 1 [.int .i64 ct] rfl rfl (one_cell _ _ _) (ints_one _) hc3 hc4 (by simp; omega) ?_)
                  intro va w2 hown' hgrow _ hat
                  obtain ⟨q2, d2, hv, ht⟩ := two_left HT.out hown' hgrow hat
                  have HB2 := Lib.hid ((HBI.out.alloc hszi _).grown hgrow (by simp; omega) (own_block HWI.out))
                  have HV2 := Lib.hid hv
                  have HT2 := Lib.hid ht
                  have hsz2 := HB2.out.size
                  clear hown' hgrow hat hv ht
                  go_wp2_with (at_builtin; refine wpList_append_own_at _ rfl (.tmp 99) (.tmp 101) 25 rfl w1.heap.size 3 i0 (.int .i64 0) 1 8 Try.underlying25 hi hz0 hz1 hz2 rfl (by decide) _ _ _ rfl (World.ownsRow.alloc (show w2.ownsRow w1.heap.size 3 1 _ _ _ from HT2.out.2.1) _) ⟨w2.heap.size, 0, none⟩ 1 1 [.int .i64 cc] rfl rfl (one_cell _ _ _) (ints_one _) hc3 hc4 (by simp; omega) ?_)
                  intro vb w3 hown' hgrow _ hat
                  obtain ⟨q3, d3, hv, ht⟩ := two_right HT2.out hown' hgrow hat
                  have HB3 := Lib.hid ((HB2.out.alloc hsz2 _).grown hgrow (by simp; omega) (oi_lt HT2.out.2.1))
                  have HV3 := Lib.hid hv
                  have HT3 := Lib.hid ht
                  clear hown' hgrow hat hv ht
                  have GS := Lib.hid (grants_self ct cc GT.out.2.1)
                  go_wp2_with (go_at_call 13; refine (grants_as GS.out _).mono ?_; rintro e w' ⟨rfl, rfl⟩)
                  go_roundw
                  case rel =>
                    refine ⟨k + 1, ct, cc, T ++ [ct], V ++ [cc], q2, d2, q3, d3, by omega, by go_num, rfl, rfl, ?_, ?_, ?_, ?_, kept_add KN.out GT.out.2.1, ?_, HB3.out⟩
                    · rw [List.length_append]; exact HV2.out
                    · rw [List.length_append]; exact HV3.out
                    · rw [List.length_append, List.length_singleton]; exact HT3.out
                    · right
                      obtain ⟨g1, e1, _⟩ := oi_at HT3.out.1 0 (by omega)
                      obtain ⟨g2, e2, _⟩ := oi_at HT3.out.2.1 0 (by omega)
                      exact ⟨g1, g2, e1, e2⟩
                    · rw [List.length_append, List.length_singleton]; omega
                  case measure => simp [intOf]; omega
        · clear ht hkept hbel hsh
          go_wp2
          go_ret
          exact ⟨rfl, BW.out.trans (HB.out.mono BW.out.size)⟩

end Go.Proofs.Ytochcilkpjhmiaa
