/- LruPlays: the walk. -/
import Derived.Test.YthmdaekkpihlnaaQ9
namespace Go.Proofs.Ythmdaekkpihlnaa
open Go.RowKit
set_option linter.unusedVariables false

theorem below_drewN {w : World} (q : Nat) : Below w.heap.size w (w.drewN q) := ⟨rfl, rfl, rfl, Nat.le_refl _, fun _ _ => rfl⟩

set_option maxRecDepth 100000 in
theorem plays_long (x y : Int) (a : Option Addr) (n cap : Nat) (ss : List Stp) (w : World) (S : Steps w a n ss) (h : longB ss = true) :
    Calls Try.prog 5 #[.int .i64 x, .int .i64 y, .slice a n cap] w fun r w' => r = .returned (.bool true) ∧ Below w.heap.size w w' := by
  have hl := long_any (cap := cap) S
  rw [h] at hl
  have HL := Lib.hid hl
  clear hl S h
  go_enter Try.func5, Try.ntmps5
  go_wp2_with fail
  refine HL.out.mono ?_
  rintro r w' ⟨rfl, q, rfl⟩
  go_wp2
  go_ret
  exact ⟨rfl, below_drewN q⟩

set_option maxRecDepth 100000 in
theorem plays_bad (x y : Int) (a : Option Addr) (n cap : Nat) (ss : List Stp) (w : World) (S : Steps w a n ss) (h : longB ss = false) (hb : x < 0 ∨ y < 0 ∨ 2147483647 < x ∨ 2147483647 < y) :
    Calls Try.prog 5 #[.int .i64 x, .int .i64 y, .slice a n cap] w fun r w' => r = .returned (.bool true) ∧ Below w.heap.size w w' := by
  have hl := long_any (cap := cap) S
  rw [h] at hl
  have HL := Lib.hid hl
  have HB := Lib.hid hb
  clear hl S h hb
  by_cases h1 : x < 0
  · go_enter Try.func5, Try.ntmps5
    go_wp2_with fail
    refine HL.out.mono ?_
    rintro r w' ⟨rfl, q, rfl⟩
    go_wp2_with fail
    refine (new_bad x y _ HB.out).mono ?_
    rintro r w' ⟨rfl, rfl⟩
    go_wp2
    go_ret
    exact ⟨rfl, below_drewN q⟩
  · by_cases h2 : y < 0
    · go_enter Try.func5, Try.ntmps5
      go_wp2_with fail
      refine HL.out.mono ?_
      rintro r w' ⟨rfl, q, rfl⟩
      go_wp2_with fail
      refine (new_bad x y _ HB.out).mono ?_
      rintro r w' ⟨rfl, rfl⟩
      go_wp2
      go_ret
      exact ⟨rfl, below_drewN q⟩
    · by_cases h3 : (2147483647 : Int) < x
      · go_enter Try.func5, Try.ntmps5
        go_wp2_with fail
        refine HL.out.mono ?_
        rintro r w' ⟨rfl, q, rfl⟩
        go_wp2_with fail
        refine (new_bad x y _ HB.out).mono ?_
        rintro r w' ⟨rfl, rfl⟩
        go_wp2
        go_ret
        exact ⟨rfl, below_drewN q⟩
      · have h4 : (2147483647 : Int) < y := by have := HB.out; omega
        go_enter Try.func5, Try.ntmps5
        go_wp2_with fail
        refine HL.out.mono ?_
        rintro r w' ⟨rfl, q, rfl⟩
        go_wp2_with fail
        refine (new_bad x y _ HB.out).mono ?_
        rintro r w' ⟨rfl, rfl⟩
        go_wp2
        go_ret
        exact ⟨rfl, below_drewN q⟩

def refObj (x y : Int) : Obj := .cells #[.int .i64 x, .int .i64 y, .slice none 0 0] 48

theorem both_start {w0 w w1 : World} {B M : Nat} {x y : Int} (hb : Below w0.heap.size w0 w) (h : Sh w.heap.size w1 B M x y [] []) (n : Only None' w w1) : Both w0 (w1.alloc (refObj x y)) B M w1.heap.size x y [] (.slice none 0 0) [] [] := by
  have hm : w0.heap.size ≤ w.heap.size := hb.size
  have hS : Sh w0.heap.size w1 B M x y [] [] := ⟨⟨⟨h.shelf.row.front, h.shelf.row.last, h.shelf.row.seg, h.shelf.row.nodup, (fun k hk => by simp [nums] at hk), Nat.le_trans hm h.shelf.row.mB, Nat.le_trans hm h.shelf.row.mM, h.shelf.row.BM, h.shelf.row.ltB, h.shelf.row.thaw⟩, h.shelf.rest, h.shelf.map, h.shelf.small, h.shelf.few⟩, h.is, Nat.le_trans hm h.le⟩
  have hlt : ∀ k, OwnR w1.heap.size (.slice none 0 0) k → k = w1.heap.size := fun k hk => hk.elim id fun h => by cases h
  have c (i : Nat) : (w1.alloc (refObj x y)).cell? ⟨w1.heap.size, i, none⟩ = #[Value.int .i64 x, .int .i64 y, .slice none 0 0][i]? := World.cell?_alloc_new _ _ _ _
  refine ⟨hS.new ((Only.refl _ _).alloc _), ⟨c 0, c 1, c 2, fun o => World.frozen?_alloc_new _ _ _ _, by simp, Vec.nil _ _, by simp [Value.ownBlock], by simp, by simp⟩, fun k hk hk' => ?_, fun k hk => ?_, (hb.trans (n.below hm fun _ h => h.elim)).alloc (by have := n.size; omega) _⟩
  · have := hlt k hk'
    subst this
    exact hS.out (Nat.le_refl _) hk
  · have := hlt k hk
    have := n.size
    omega

set_option maxRecDepth 100000 in
set_option maxHeartbeats 4000000 in
theorem plays_good (x y : Int) (a : Option Addr) (n cap : Nat) (ss : List Stp) (w : World) (S : Steps w a n ss) (h : longB ss = false) (hx0 : 0 ≤ x) (hy0 : 0 ≤ y) (hx1 : x ≤ 2147483647) (hy1 : y ≤ 2147483647) :
    Calls Try.prog 5 #[.int .i64 x, .int .i64 y, .slice a n cap] w fun r w' => r = .returned (.bool true) ∧ Below w.heap.size w w' := by
  have hl := long_any (cap := cap) S
  rw [h] at hl
  have HL := Lib.hid hl
  have hno := (long_no h S.small).1
  rw [S.len] at hno
  have SS := Lib.hid S
  have g1 : ¬ x < 0 := by omega
  have g2 : ¬ y < 0 := by omega
  have g3 : ¬ (2147483647 : Int) < x := by omega
  have g4 : ¬ (2147483647 : Int) < y := by omega
  have HX0 := Lib.hid hx0
  have HY0 := Lib.hid hy0
  clear hl S h
  go_enter Try.func5, Try.ntmps5
  go_wp2_with fail
  refine HL.out.mono ?_
  rintro r w' ⟨rfl, q, rfl⟩
  go_wp2_with fail
  refine (new_sh x y _ hx0 hy0 hx1 hy1).mono ?_
  rintro r w1 ⟨B, M, rfl, h1, h2⟩
  have B1 := Lib.hid (both_start (below_drewN q) h1 h2)
  clear h1 h2 hx0 hy0 hx1 hy1
  go_wp2_with fail
  clear g1 g2 g3 g4 HL
  go_loopw [10] (fun i wr => ∃ k : Nat, k ≤ n ∧ i = .int .i64 k ∧ ∃ l v L, Both w wr B M w1.heap.size x y l v L L ∧ L.length ≤ k) (fun i wr => n - (intOf i).toNat)
  case atStart => exact ⟨0, by omega, rfl, _, _, _, B1.out, by simp⟩
  case round =>
    obtain ⟨k, hk, rfl, l, v, L, hB, hlen⟩ := hrel
    have BB := Lib.hid hB
    clear hB
    by_cases hlt : k < n
    · have hj : k < ss.length := by have := SS.out.len; omega
      obtain ⟨b, off, rfl, hb, hA⟩ := SS.out.at_ k hj
      have hsm := SS.out.small k hj
      obtain ⟨s, hs⟩ : ∃ s, s = ss[k] := ⟨_, rfl⟩
      rw [← hs] at hA hsm
      clear hs
      obtain ⟨kd, key, val, til, gra, now⟩ := s
      obtain ⟨k0, k1, k2, k3, k4, k5⟩ := hA.below hb BB.out.bel
      have i0 : (0 : Int) ≤ (k : Int) := by omega
      have i1 : (k : Int) < (n : Int) := by omega
      have HSM := Lib.hid hsm
      clear hA hsm
      have hbs := BB.out.bel.size
      by_cases q0 : kd = 0
      · subst q0
        have BA := Lib.hid (BB.out.alloc (stepObj ⟨0, key, val, til, gra, now⟩))
        have F0 := Lib.hid (Free.made BB.out (stepObj ⟨0, key, val, til, gra, now⟩))
        cases hp : pfits x y ⟨key, val, til, gra⟩
        all_goals
          have HP := Lib.hid hp
          clear hp
          go_wp2_with fail
          refine (BA.out.put_s ⟨key, val, til, gra⟩ (by have := HSM.out.1; show key.size ≤ _; omega) (by have := HSM.out.2; show val.size ≤ _; omega) HX0.out HY0.out (by omega) _ (by rw [HP.out])).mono ?_
          rintro r w2 ⟨rfl, l2, hB2, hK2⟩
          have B2 := Lib.hid hB2
          have hF := F0.out.shelf hK2
          obtain ⟨m0, m1, m2, m3, m4, m5⟩ := step_cells hF.is
          have lF := hF.lt
          clear hB2 hK2 hF
          go_wp2_with fail
          refine (B2.out.put_r ⟨key, val, til, gra⟩ (by have := HSM.out.1; show key.size ≤ _; omega) (by have := HSM.out.2; show val.size ≤ _; omega) HX0.out (by omega) _ HP.out).mono ?_
          rintro r w3 ⟨rfl, v3, hB3, hK3⟩
          have B3 := Lib.hid hB3
          clear hB3 hK3
          go_wp2_with fail
          refine B3.out.stands.mono ?_
          rintro r w4 ⟨rfl, hB4⟩
          have B4 := Lib.hid hB4
          clear hB4
          go_wp2
          go_roundw
          case rel => exact ⟨k + 1, by omega, by go_num, _, _, _, B4.out, by have := pput_len x y L ⟨key, val, til, gra⟩; omega⟩
          case measure => simp [intOf]; omega
      · by_cases q1 : kd = 1
        · subst q1
          have BA := Lib.hid (BB.out.alloc (stepObj ⟨1, key, val, til, gra, now⟩))
          have F0 := Lib.hid (Free.made BB.out (stepObj ⟨1, key, val, til, gra, now⟩))
          obtain ⟨g, hg⟩ : ∃ g, (pget L key now).getD zent = g := ⟨_, rfl⟩
          obtain ⟨bb, hbb⟩ : ∃ b, (pget L key now).isSome = b := ⟨_, rfl⟩
          have HG := Lib.hid hg
          have HBB := Lib.hid hbb
          clear hg hbb
          go_wp2_with fail
          refine (BA.out.get_s key now (by have := HSM.out.1; show key.size ≤ _; omega) g bb HG.out HBB.out).mono ?_
          rintro r w2 ⟨rfl, l2, hB2, hK2⟩
          have B2 := Lib.hid (hB2.alloc (ent35 g))
          have F2 := Lib.hid (Free.made hB2 (ent35 g))
          have hF := F0.out.shelf hK2
          obtain ⟨m0, m1, m2, m3, m4, m5⟩ := step_cells hF.is
          have lF := hF.lt
          clear hB2 hK2 hF
          go_wp2_with fail
          refine (B2.out.get_r key now g bb HG.out HBB.out).mono ?_
          rintro r w3 ⟨rfl, v3, hB3, hK3⟩
          have B3 := Lib.hid (hB3.alloc (ent50 g))
          have hF3 := F2.out.refd hK3
          obtain ⟨p0, p1, p2, p3⟩ := ent35_cells hF3.is
          have lF3 := hF3.lt
          clear hB3 hK3 hF3 m0 m1 m2 m3 m4 m5 lF
          go_wp2_with fail
          refine B3.out.stands.mono ?_
          rintro r w4 ⟨rfl, hB4⟩
          have B4 := Lib.hid hB4
          clear hB4
          go_wp2
          go_roundw
          case rel => exact ⟨k + 1, by omega, by go_num, _, _, _, B4.out, by have := pgot_len L key now; omega⟩
          case measure => simp [intOf]; omega
        · by_cases q2 : kd = 2
          · subst q2
            have BA := Lib.hid (BB.out.new (((Only.refl None' wr).alloc (.cells #[.int .i64 2, .string key, .string val, .int .i64 til, .int .i64 gra, .int .i64 now] 32)).drew))
            have F0 := Lib.hid ((Free.made BB.out (stepObj ⟨2, key, val, til, gra, now⟩)).new ((Only.refl None' _).drew))
            have hks : key.size ≤ 140737488355328 := by have h : key.size ≤ 140737488351232 := HSM.out.1; omega
            go_upto_region 27 with fail
            go_cut [170] from 162 to 170 (fun c wx => c = .bool false ∧ ∃ l' v', Both w wx B M w1.heap.size x y l' v' (pdrop L key) (pdrop L key))
            case first =>
              go_region_with (first | (go_at_call 16; ((with_reducible refine (BA.out.drop_s key hks).mono ?_); rintro r w2 ⟨rfl, l2, hB2, hK2⟩; have B2 := Lib.hid hB2; have hF := F0.out.shelf hK2; obtain ⟨m0, m1, m2, m3, m4, m5⟩ := step_cells hF.is; have lF := hF.lt; clear hB2 hK2 hF)) | (go_at_call 20; ((with_reducible refine (BA.out.drop_r key).mono ?_); rintro r w2 ⟨rfl, v2, hB2, hK2⟩; have B2 := Lib.hid hB2; have hF := F0.out.refd hK2; obtain ⟨m0, m1, m2, m3, m4, m5⟩ := step_cells hF.is; have lF := hF.lt; clear hB2 hK2 hF)) | (go_at_call 16; ((with_reducible refine (B2.out.drop_s key hks).mono ?_); rintro r w3 ⟨rfl, l3, hB3, hK3⟩; have B3 := Lib.hid hB3; clear hB3 hK3)) | (go_at_call 20; ((with_reducible refine (B2.out.drop_r key).mono ?_); rintro r w3 ⟨rfl, v3, hB3, hK3⟩; have B3 := Lib.hid hB3; clear hB3 hK3)))
              all_goals
                go_wp2_with fail
                go_meet
                exact ⟨by simp, _, _, B3.out⟩
            case rest =>
              obtain ⟨rfl, l3, v3, hB3⟩ := hcut
              have B3 := Lib.hid hB3
              clear hB3
              go_wp2_with fail
              refine B3.out.stands.mono ?_
              rintro r w4 ⟨rfl, hB4⟩
              have B4 := Lib.hid hB4
              clear hB4
              go_wp2
              go_roundw
              case rel => exact ⟨k + 1, by omega, by go_num, _, _, _, B4.out, by have := pdrop_le L key; omega⟩
              case measure => simp [intOf]; omega
          · have n0 : (kd == 0) = false := by simpa using q0
            have n1 : (kd == 1) = false := by simpa using q1
            have n2 : (kd == 2) = false := by simpa using q2
            have BA := Lib.hid (BB.out.new (((Only.refl None' wr).alloc (.cells #[.int .i64 kd, .string key, .string val, .int .i64 til, .int .i64 gra, .int .i64 now] 32)).drew))
            have F0 := Lib.hid ((Free.made BB.out (stepObj ⟨kd, key, val, til, gra, now⟩)).new ((Only.refl None' _).drew))
            have hks : key.size ≤ 140737488355328 := by have h : key.size ≤ 140737488351232 := HSM.out.1; omega
            go_upto_region 14 with fail
            go_cut [72] from 64 to 72 (fun c wx => c = .bool false ∧ ∃ l' v', Both w wx B M w1.heap.size x y l' v' (plive now L) (plive now L))
            case first =>
              go_region_with (first | (go_at_call 17; ((with_reducible refine (BA.out.sweep_s now).mono ?_); rintro r w2 ⟨rfl, l2, hB2, hK2⟩; have B2 := Lib.hid hB2; have hF := F0.out.shelf hK2; obtain ⟨m0, m1, m2, m3, m4, m5⟩ := step_cells hF.is; have lF := hF.lt; clear hB2 hK2 hF)) | (go_at_call 21; ((with_reducible refine (BA.out.sweep_r now).mono ?_); rintro r w2 ⟨rfl, v2, hB2, hK2⟩; have B2 := Lib.hid hB2; have hF := F0.out.refd hK2; obtain ⟨m0, m1, m2, m3, m4, m5⟩ := step_cells hF.is; have lF := hF.lt; clear hB2 hK2 hF)) | (go_at_call 17; ((with_reducible refine (B2.out.sweep_s now).mono ?_); rintro r w3 ⟨rfl, l3, hB3, hK3⟩; have B3 := Lib.hid hB3; clear hB3 hK3)) | (go_at_call 21; ((with_reducible refine (B2.out.sweep_r now).mono ?_); rintro r w3 ⟨rfl, v3, hB3, hK3⟩; have B3 := Lib.hid hB3; clear hB3 hK3)))
              all_goals
                go_wp2_with fail
                go_meet
                exact ⟨by simp, _, _, B3.out⟩
            case rest =>
              obtain ⟨rfl, l3, v3, hB3⟩ := hcut
              have B3 := Lib.hid hB3
              clear hB3
              go_wp2_with fail
              refine B3.out.stands.mono ?_
              rintro r w4 ⟨rfl, hB4⟩
              have B4 := Lib.hid hB4
              clear hB4
              go_wp2
              go_roundw
              case rel => exact ⟨k + 1, by omega, by go_num, _, _, _, B4.out, by have := plive_le now L; omega⟩
              case measure => simp [intOf]; omega
    · have : k = n := by omega
      subst this
      go_wp2
      go_ret
      exact ⟨rfl, BB.out.bel⟩

theorem plays_walk (x y : Int) (a : Option Addr) (n cap : Nat) (ss : List Stp) (w : World) (S : Steps w a n ss) :
    Calls Try.prog 5 #[.int .i64 x, .int .i64 y, .slice a n cap] w fun r w' => r = .returned (.bool true) ∧ Below w.heap.size w w' := by
  cases h : longB ss with
  | true => exact plays_long x y a n cap ss w S h
  | false =>
    by_cases hb : x < 0 ∨ y < 0 ∨ 2147483647 < x ∨ 2147483647 < y
    · exact plays_bad x y a n cap ss w S h hb
    · exact plays_good x y a n cap ss w S h (by omega) (by omega) (by omega) (by omega)

end Go.Proofs.Ythmdaekkpihlnaa
