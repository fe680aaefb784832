/- I5 I6 in one text. -/
import Derived.Test.YteoeaojebklfjaaGreatDoorV09
import Derived.Test.YteoeaojebklfjaaGreatDoorV04
import Derived.Test.YteoeaojebklfjaaGreatDoorV05
import Derived.BigRegion
namespace Go.Proofs.YteoeaojebklfjaaGreatDoor
open Go.RowKit Go.Maps
set_option linter.unusedVariables false

def refuse (r : Rg) (n : Nat) : Option Int := if r.count < n then some 40 else if r.last < r.top then some 50 else if r.room < n then some 3 else if 4611686018427387904 < r.last + n then some 70 else none

section
variable {w : World} {R D : Nat} {F : Nat → Prop} {r : Rg} {d : Dk}
set_option maxHeartbeats 1000000 in
theorem append_no (h : RingAt w R D r) (hok : r.Ok) (hd : DiskAt w D F d) (hdd : d.dead = false) (a : Option Addr) (n c : Nat) (hn : n ≤ 140737488355328) {code : Int} (hc : refuse r (cutN n) = some code) :
    Calls Tryz.prog 48 #[.pointer (some ⟨R, 0, none⟩), .slice a n c] w fun e w' => e = .returned (.int .i64 code) ∧ ∃ q, w' = w.drewN q := by
  have ha := ralive_any h hd
  rw [hdd] at ha
  have HA := Lib.hid ha
  have HP := Lib.hid (fun w => pieces_any n w (by omega))
  have HT := Lib.hid (torn_any h)
  have HR := Lib.hid (fun q => room_any (CellsR.kept h ((Only.refl None' _).drewN q) fun e => e) hok)
  have c2 := h.is 2 _ rfl
  have c4 := h.is 4 _ rfl
  obtain ⟨k1, k2, k3, k4, k5, k6⟩ := hok
  obtain ⟨cn, hcn⟩ : ∃ cn, cn = r.count := ⟨_, rfl⟩
  obtain ⟨la, hla⟩ : ∃ la, la = r.last := ⟨_, rfl⟩
  obtain ⟨m, hm⟩ : ∃ m, m = cutN n := ⟨_, rfl⟩
  obtain ⟨ro, hro⟩ : ∃ ro, ro = r.room := ⟨_, rfl⟩
  unfold refuse at hc
  change Hid (∀ w, Calls Tryz.prog 83 #[.int .i64 (n : Int)] w fun e w' => e = .returned (.int .i64 (cutN n : Int)) ∧ w' = w) at HP
  rw [← hm] at HP hc
  rw [← hcn] at c2 hc k1 k2
  rw [← hla] at c4 hc HT
  rw [← hro] at hc HR
  have k7 : la ≤ 4611686018427387904 := by omega
  have k8 : cn ≤ 65536 := by omega
  clear h hd hdd ha hcn hm hro k1 k2 k3 k4 k5 k6
  by_cases h1 : cn < m
  · rw [if_pos h1] at hc
    injection hc with hc
    subst hc
    clear k7 k8 hla
    go_enter Tryz.func48, Tryz.ntmps48
    go_wp2_with fail
    refine HA.out.mono ?_
    rintro e w1 ⟨rfl, rfl⟩
    go_wp2_with fail
    refine (HP.out _).mono ?_
    rintro e w1 ⟨rfl, rfl⟩
    go_wp2_with fail
    go_ret
    exact ⟨rfl, 0, rfl⟩
  · rw [if_neg h1] at hc
    by_cases h2 : la < r.top
    · rw [if_pos h2] at hc
      injection hc with hc
      subst hc
      have hT' := HT.out
      rw [decide_eq_true h2] at hT'
      have HT := Lib.hid hT'
      clear k7 k8 hla hT' h2
      go_enter Tryz.func48, Tryz.ntmps48
      go_wp2_with fail
      refine HA.out.mono ?_
      rintro e w1 ⟨rfl, rfl⟩
      go_wp2_with fail
      refine (HP.out _).mono ?_
      rintro e w1 ⟨rfl, rfl⟩
      go_wp2_with fail
      refine HT.out.mono ?_
      rintro e w1 ⟨rfl, q, rfl⟩
      go_wp2_with fail
      go_ret
      exact ⟨rfl, q, rfl⟩
    · rw [if_neg h2] at hc
      have hT' := HT.out
      rw [decide_eq_false h2] at hT'
      have HT := Lib.hid hT'
      clear hT' h2
      by_cases h3 : ro < m
      · rw [if_pos h3] at hc
        injection hc with hc
        subst hc
        clear k7 k8 hla
        go_enter Tryz.func48, Tryz.ntmps48
        go_wp2_with fail
        refine HA.out.mono ?_
        rintro e w1 ⟨rfl, rfl⟩
        go_wp2_with fail
        refine (HP.out _).mono ?_
        rintro e w1 ⟨rfl, rfl⟩
        go_wp2_with fail
        refine HT.out.mono ?_
        rintro e w1 ⟨rfl, q, rfl⟩
        go_wp2_with fail
        refine (HR.out q).mono ?_
        rintro e w1 ⟨rfl, q2, rfl⟩
        go_wp2_with fail
        go_ret
        exact ⟨rfl, q + q2, rfl⟩
      · rw [if_neg h3] at hc
        by_cases h4 : 4611686018427387904 < la + m
        · rw [if_pos h4] at hc
          injection hc with hc
          subst hc
          have e1 : IntKind.i64.wrap ((4611686018427387904 : Int) - (m : Int)) = ((4611686018427387904 - m : Nat) : Int) := by rw [IntWalk.i64_in _ (by omega)]; omega
          obtain ⟨y, hy⟩ : ∃ y, y = 4611686018427387904 - m := ⟨_, rfl⟩
          rw [← hy] at e1
          have h5 : y < la := by omega
          have e2 : (4611686018427387904 : Int) - (m : Int) = (y : Int) := by omega
          clear hla hy h4
          go_enter Tryz.func48, Tryz.ntmps48
          go_wp2_with fail
          refine HA.out.mono ?_
          rintro e w1 ⟨rfl, rfl⟩
          go_wp2_with fail
          refine (HP.out _).mono ?_
          rintro e w1 ⟨rfl, rfl⟩
          go_wp2_with fail
          refine HT.out.mono ?_
          rintro e w1 ⟨rfl, q, rfl⟩
          go_wp2_with fail
          refine (HR.out q).mono ?_
          rintro e w1 ⟨rfl, q2, rfl⟩
          go_wp2_with fail
          go_ret
          exact ⟨rfl, q + q2, rfl⟩
        · rw [if_neg h4] at hc
          cases hc
end
end Go.Proofs.YteoeaojebklfjaaGreatDoor
namespace Go.Proofs.YteoeaojebklfjaaGreatDoor
open Go.RowKit Go.Maps
set_option linter.unusedVariables false

structure AppLoop (w wr : World) (R D : Nat) (F : Nat → Prop) (r : Rg) (d : Dk) (rec : Rec) (n k : Nat) (F' : Nat → Prop) (d' : Dk) : Prop where
  disk : DiskAt wr D F' d'
  kept : Kept F F' w wr
  dead : d'.dead = false
  len : d'.lasts.length = d.lasts.length
  few : d'.Few (n + k)
  puts : Dk.puts r.place (cutR r.last rec) d = Dk.puts r.place ((cutR r.last rec).drop k) d'

theorem Kept.more {F F' : Nat → Prop} {w w' : World} (h : Kept F F' w w') (R : Nat) : Kept (fun k => F k ∨ k = R) (fun k => F' k ∨ k = R) w w' :=
  ⟨h.only.mono fun _ _ e => Or.inl e, fun k hk => hk.elim (fun e => (h.fresh k e).imp Or.inl id) fun e => Or.inl (Or.inr e)⟩
theorem cutR_drop (l : Nat) (rec : Rec) {k : Nat} (h : k < cutN rec.length) : (cutR l rec).drop k = cutAt l rec k :: (cutR l rec).drop (k + 1) := by
  have hk : k < (cutR l rec).length := by rw [cutR_length]; exact h
  rw [List.drop_eq_getElem_cons hk, cutR_at]
section
variable {w wr wc : World} {R D : Nat} {F F' F6 : Nat → Prop} {r : Rg} {d d' : Dk} {rec : Rec} {n k : Nat}
theorem AppLoop.step (h : AppLoop w wr R D F r d rec n k F' d') (hk : k < cutN rec.length) (hdue : d'.due = false) (hd : DiskAt wc D F6 (d'.write (r.place (cutAt r.last rec k).n) (cutAt r.last rec k).lay)) (hkept : Kept F F6 w wc) :
    AppLoop w wc R D F r d rec n (k + 1) F6 (d'.write (r.place (cutAt r.last rec k).n) (cutAt r.last rec k).lay) := by
  have e : ∀ i s, d'.write i s = (d'.wrote i s).tick := fun i s => by unfold Dk.write; rw [hdue]; rfl
  refine ⟨hd, hkept, ?_, ?_, ?_, ?_⟩
  · rw [e]; exact h.dead
  · rw [e]; exact h.len
  · exact h.few.write _ _
  · rw [h.puts, cutR_drop _ _ hk]
    show (if d'.due then _ else _) = _
    rw [hdue]
    rfl
theorem AppLoop.burnt (h : AppLoop w wr R D F r d rec n k F' d') (hk : k < cutN rec.length) (hdue : d'.due = true) :
    Dk.puts r.place (cutR r.last rec) d = (d'.write (r.place (cutAt r.last rec k).n) (cutAt r.last rec k).lay, false) := by
  rw [h.puts, cutR_drop _ _ hk]
  show (if d'.due then _ else _) = _
  rw [hdue]
  rfl
end
theorem bv_drop' (s : Sec) (m : Nat) : (bv s).drop m = bv (s.drop m) := by simp [bv, List.map_drop]
theorem rd_cut {w : World} {g off n c : Nat} {s : Sec} (h : Rd w 1 (.slice (some ⟨g, off, none⟩) n c) s.length (bv s)) (lo m : Nat) (hc : m ≤ c - lo) (hm : c - lo ≤ maxLen) (hl : m = ((s.drop lo).take 501).length) : Rd w 1 (.slice (some ⟨g, off + lo, none⟩) m (c - lo)) ((s.drop lo).take 501).length (bv ((s.drop lo).take 501)) := by
  refine ⟨by simp [bv_length], .inr ⟨⟨g, off + lo, none⟩, c - lo, by rw [hl], by omega, hm, fun j u hu => ?_⟩⟩
  rw [add_mid' (⟨g, off + lo, none⟩) j rfl]
  rcases h.form with ⟨e, _⟩ | ⟨ad, cap, e, h1, h2, h3⟩
  · cases e
  · injection e with e1 e2 e3
    injection e1 with e1
    subst e1
    rw [← bv_take', ← bv_drop'] at hu
    have hj : j < 501 := by
      rw [List.getElem?_take] at hu
      split at hu
      · assumption
      · cases hu
    rw [List.getElem?_take_of_lt hj, List.getElem?_drop] at hu
    have := h3 (lo + j) u hu
    rw [add_mid' (⟨g, off, none⟩) (lo + j) rfl] at this
    rw [Nat.add_assoc]
    exact this

section
variable {w : World} {R D : Nat} {F : Nat → Prop} {r : Rg} {d : Dk}
set_option maxRecDepth 20000 in
set_option maxHeartbeats 4000000 in
theorem append_go (h : RingAt w R D r) (hok : r.Ok) (hd : DiskAt w D F d) (hdd : d.dead = false) (hl : r.first + r.count ≤ d.lasts.length) {n : Nat} (hf : d.Few n) (hn : n ≤ 900000) (hRF : ¬ F R)
    {g off c : Nat} {rec : Rec} (hr : Rd w 1 (.slice (some ⟨g, off, none⟩) rec.length c) rec.length (bv rec)) (hc : rec.length ≤ c) (hcm : c ≤ maxLen) (hgF : ¬ F g) (hgl : g < w.heap.size) (hgR : g ≠ R) (hb : rec.length ≤ 140737488355328) (hno : refuse r (cutN rec.length) = none) :
    Calls Tryz.prog 48 #[.pointer (some ⟨R, 0, none⟩), .slice (some ⟨g, off, none⟩) rec.length c] w fun e w' => e = .returned (.int .i64 (appR r d rec).1) ∧ ∃ F', RingAt w' R D (appR r d rec).2.1 ∧ DiskAt w' D F' (appR r d rec).2.2 ∧ ¬ F' R ∧ Kept (fun k => F k ∨ k = R) (fun k => F' k ∨ k = R) w w' := by
  have ha := ralive_any h hd
  rw [hdd] at ha
  have HA := Lib.hid ha
  have HP := Lib.hid (fun w => pieces_any rec.length w (by omega))
  have HT := Lib.hid (torn_any h)
  have HRM := Lib.hid (fun q => room_any (CellsR.kept h ((Only.refl None' _).drewN q) fun e => e) hok)
  have HR0 := Lib.hid h
  have HK := Lib.hid hok
  have HLL := Lib.hid hl
  have HN := Lib.hid hn
  have HRF := Lib.hid hRF
  have HRD := Lib.hid hr
  have HC := Lib.hid (And.intro hc hcm)
  have HC' := Lib.hid hcm
  have HG := Lib.hid (And.intro hgF (And.intro hgl hgR))
  have HLT := Lib.hid h.lt
  have HX : Hid (AppLoop w w R D F r d rec n 0 F d) := ⟨hd, Kept.refl _ _, hdd, rfl, hf, rfl⟩
  have c2 := h.is 2 _ rfl
  have c4 := h.is 4 _ rfl
  obtain ⟨k1, k2, k3, k4, k5, k6⟩ := hok
  obtain ⟨cn, hcn⟩ : ∃ cn, cn = r.count := ⟨_, rfl⟩
  obtain ⟨la, hla⟩ : ∃ la, la = r.last := ⟨_, rfl⟩
  obtain ⟨m, hm⟩ : ∃ m, m = cutN rec.length := ⟨_, rfl⟩
  obtain ⟨ro, hro⟩ : ∃ ro, ro = r.room := ⟨_, rfl⟩
  have HAP : Hid (appR r d rec = match Dk.puts r.place (cutR r.last rec) d with
    | (d', true) => (0, { r with last := r.last + cutN rec.length, top := r.last + cutN rec.length }, d')
    | (d', false) => (20, r, d')) := by
    show _ = _
    unfold appR
    unfold refuse at hno
    split at hno
    · cases hno
    rename_i g1
    rw [if_neg g1]
    split at hno
    · cases hno
    rename_i g2
    rw [if_neg g2]
    split at hno
    · cases hno
    rename_i g3
    rw [if_neg g3]
    split at hno
    · cases hno
    rename_i g4
    rw [if_neg g4]
    rfl
  have hno2 : ¬ cn < m ∧ ¬ la < r.top ∧ ¬ ro < m ∧ la + m ≤ 4611686018427387904 := by
    unfold refuse at hno
    rw [← hm, ← hcn, ← hla, ← hro] at hno
    split at hno
    · cases hno
    split at hno
    · cases hno
    split at hno
    · cases hno
    split at hno
    · cases hno
    exact ⟨by assumption, by assumption, by assumption, by omega⟩
  obtain ⟨h1, h2, h3, h4⟩ := hno2
  change Hid (∀ w, Calls Tryz.prog 83 #[.int .i64 (rec.length : Int)] w fun e w' => e = .returned (.int .i64 (cutN rec.length : Int)) ∧ w' = w) at HP
  have HM := Lib.hid hm
  have HLA := Lib.hid hla
  have HCN := Lib.hid hcn
  have HB := Lib.hid (cutN_bound rec.length)
  rw [← hm] at HP HB
  rw [← hcn] at c2 k1 k2
  rw [← hla] at c4 HT
  rw [← hro] at HRM
  rw [decide_eq_false h2] at HT
  have k7 : la ≤ 4611686018427387904 := by omega
  have k8 : cn ≤ 65536 := by omega
  have e1 : IntKind.i64.wrap ((4611686018427387904 : Int) - (m : Int)) = ((4611686018427387904 - m : Nat) : Int) := by rw [IntWalk.i64_in _ (by omega)]; omega
  obtain ⟨y, hy⟩ : ∃ y, y = 4611686018427387904 - m := ⟨_, rfl⟩
  rw [← hy] at e1
  have h5 : ¬ y < la := by omega
  have e2 : (4611686018427387904 : Int) - (m : Int) = (y : Int) := by omega
  have HQ := Lib.hid (show m ≤ 65536 ∧ la + m ≤ 4611686018427387904 by omega)
  have HLN := Lib.hid hb
  clear h hd hdd ha hcn hm hro k1 k2 k3 k4 k5 k6 hla hno h2 hy hl hf hn hRF hr hc hcm hgF hgl hgR hb h4 k8
  go_enter Tryz.func48, Tryz.ntmps48
  go_wp2_with fail
  refine HA.out.mono ?_
  rintro e w1 ⟨rfl, e⟩
  obtain rfl := e.symm
  go_wp2_with fail
  refine (HP.out _).mono ?_
  rintro e w1 ⟨rfl, e⟩
  obtain rfl := e.symm
  go_wp2_with fail
  refine HT.out.mono ?_
  rintro e w1 ⟨rfl, q, rfl⟩
  go_wp2_with fail
  refine (HRM.out q).mono ?_
  rintro e w1 ⟨rfl, q2, rfl⟩
  go_wp2_with fail
  have HX2 : Hid (AppLoop w (w.drewN (q + q2)) R D F r d rec n 0 F d) := ⟨HX.out.disk.new ((Only.refl _ _).drewN (q + q2)), Kept.new ((Only.refl _ _).drewN (q + q2)), HX.out.dead, rfl, HX.out.few, rfl⟩
  clear c2 c4 h1 h3 k7 e1 h5 e2
  go_loopw [43] (fun i wr => ∃ (k : Nat) (F' : Nat → Prop) (d' : Dk), k ≤ m ∧ i = .int .i64 (k : Int) ∧ Hid (AppLoop w wr R D F r d rec n k F' d')) (fun i wr => m - (intOf i).toNat)
  case atStart => exact ⟨0, _, _, by omega, rfl, HX2⟩
  case round =>
    obtain ⟨k, F', d', hk, rfl, HL⟩ := hrel
    by_cases hlt : k < m
    · obtain ⟨L, hL⟩ : ∃ L, L = rec.length := ⟨_, rfl⟩
      have RW0 : RingAt wr R D r := HR0.out.kept HL.out.kept.only HRF.out
      have r0 := RW0.is 0 _ rfl
      have r4 := RW0.is 4 _ rfl
      rw [← HLA.out] at r4
      have lR := RW0.lt
      have q1 := HQ.out.1
      have q2' := HQ.out.2
      have hB := HB.out
      have hLL := HLN.out
      have hcc := HC.out
      rw [← hL] at hB hLL hcc
      obtain ⟨l1, hl1⟩ : ∃ l1, l1 = la + 1 := ⟨_, rfl⟩
      obtain ⟨pn, hpn⟩ : ∃ pn, pn = l1 + k := ⟨_, rfl⟩
      obtain ⟨m1, hm1⟩ : ∃ m1, m1 = m - 1 := ⟨_, rfl⟩
      obtain ⟨lb, hlb⟩ : ∃ lb, lb = decide (k + 1 = m) := ⟨_, rfl⟩
      obtain ⟨lo, hlo⟩ : ∃ lo, lo = k * 501 := ⟨_, rfl⟩
      obtain ⟨h0, hh0⟩ : ∃ h0, h0 = lo + 501 := ⟨_, rfl⟩
      obtain ⟨hi, hhi⟩ : ∃ hi, hi = min h0 L := ⟨_, rfl⟩
      have a1 : (la : Int) + 1 = (l1 : Int) := by omega
      have a3 : (l1 : Int) + (k : Int) = (pn : Int) := by omega
      have a5 : (m : Int) - 1 = (m1 : Int) := by omega
      have a7 : ((k : Int) == (m1 : Int)) = lb := by rw [hlb, Bool.eq_iff_iff]; simp; omega
      have a8 : (k : Int) * 501 = (lo : Int) := by omega
      have b1 : (lo : Int) + 501 = (h0 : Int) := by omega
      have b3 : (if (L : Int) < (h0 : Int) then (L : Int) else (h0 : Int)) = (hi : Int) := by split <;> omega
      have hloL : lo ≤ L := by
        rcases Nat.eq_zero_or_pos L with e | e
        · subst e
          have : m = 1 := by rw [HM.out, ← hL]; rfl
          omega
        · have := hB.2 e
          omega
      have b5 : lo ≤ hi := by omega
      have b6 : hi ≤ c := by omega
      have HW := Lib.hid (show IntKind.i64.wrap (l1 : Int) = (l1 : Int) ∧ IntKind.i64.wrap (pn : Int) = (pn : Int) ∧ IntKind.i64.wrap (m1 : Int) = (m1 : Int) ∧ IntKind.i64.wrap (lo : Int) = (lo : Int) ∧ IntKind.i64.wrap (h0 : Int) = (h0 : Int) from ⟨IntWalk.i64_in _ (by omega), IntWalk.i64_in _ (by omega), IntWalk.i64_in _ (by omega), IntWalk.i64_in _ (by omega), IntWalk.i64_in _ (by omega)⟩)
      have b7 : lo < c ∨ lo = 0 := by
        rcases Nat.eq_zero_or_pos L with e | e
        · have h3 := HM.out
          rw [← hL, e] at h3
          have h4 : cutN 0 = 1 := rfl
          omega
        · have := hB.2 e
          omega
      have HE := Lib.hid (And.intro hl1 (And.intro hpn (And.intro hm1 (And.intro hlb (And.intro hlo (And.intro hh0 (And.intro hhi hL)))))))
      clear hl1 hpn hm1 hlb hlo hh0 hhi q1 q2' hB hLL hcc hloL RW0
      rw [← hL]
      clear hL
      have HF := Lib.hid (And.intro a1 (And.intro a3 (And.intro a5 (And.intro a7 (And.intro a8 (And.intro b1 (And.intro b3 (And.intro b5 (And.intro b6 b7)))))))))
      clear a1 a3 a5 a7 a8 b1 b3 b5 b6 b7
      have HSS : Hid (∀ w', Only None' wr w' → w'.cell? ⟨R, 4, none⟩ = some (.int .i64 (la : Int)) ∧ Only None' wr w') :=
        fun w' o => ⟨(o.cell lR (fun e => e) 4).trans r4, o⟩
      clear r0 r4
      go_upto_region 16 with fail
      go_cut [8] from 46 to 67 (fun p8 wx => ∃ T, p8 = .pointer (some ⟨T, 0, none⟩) ∧ Hid (CellsR wx T [.int .i64 (pn : Int), .bool lb, .slice (some ⟨g, off + lo, none⟩) (hi - lo) (c - lo)] ∧ Only None' wr wx ∧ wr.heap.size ≤ T))
      case first =>
        refine wp_region_any (by kernel_rfl) ?_
        change wpAny _ _ _ _ _ _ _ (World.drew _)
        have HO : Hid (Only None' wr wr.drew) := (Only.refl _ _).drew
        obtain ⟨wk, hwk⟩ : ∃ z, z = wr.drew := ⟨_, rfl⟩
        rw [← hwk] at HO ⊢
        clear hwk
        refine any_take 0 (.pointer (some ⟨R, 0, none⟩)) rfl (by kernel_rfl) (by kernel_rfl) (by kernel_rfl) (fun _ _ _ h => h) (Or.inl ⟨by rfl, fun w => by go_simp⟩) ?_
        simp only [Act.put, zA, zB, zC]
        refine any_take 1 (.pointer (some ⟨R, 0, none⟩)) rfl (by kernel_rfl) (by kernel_rfl) (by kernel_rfl) (fun _ _ _ h => h) (Or.inl ⟨by rfl, fun w => by go_simp⟩) ?_
        simp only [Act.put, zA, zB, zC]
        refine any_take 2 (.pointer (some ⟨R, 4, none⟩)) rfl (by kernel_rfl) (by kernel_rfl) (by kernel_rfl) (fun _ _ _ h => h) (Or.inl ⟨by rfl, fun w => by go_simp⟩) ?_
        simp only [Act.put, zA, zB, zC]
        refine any_take 5 (.int .i64 (k : Int)) rfl (by kernel_rfl) (by kernel_rfl) (by kernel_rfl) (fun _ _ _ h => h) (Or.inl ⟨by rfl, fun w => by go_simp⟩) ?_
        simp only [Act.put, zA, zB, zC]
        refine any_take 7 (.int .i64 (k : Int)) rfl (by kernel_rfl) (by kernel_rfl) (by kernel_rfl) (fun _ _ _ h => h) (Or.inl ⟨by rfl, fun w => by go_simp⟩) ?_
        simp only [Act.put, zA, zB, zC]
        refine any_take 8 (.int .i64 (m : Int)) rfl (by kernel_rfl) (by kernel_rfl) (by kernel_rfl) (fun _ _ _ h => h) (Or.inl ⟨by rfl, fun w => by go_simp⟩) ?_
        simp only [Act.put, zA, zB, zC]
        refine any_take 9 (.int .i64 (m1 : Int)) rfl (by kernel_rfl) (by kernel_rfl) (by kernel_rfl) (fun _ _ _ h => h) (Or.inl ⟨by rfl, fun w => yields_sub w rfl rfl rfl HF.out.2.2.1 HW.out.2.2.1⟩) ?_
        simp only [Act.put, zA, zB, zC]
        refine any_take 10 (.bool lb) rfl (by kernel_rfl) (by kernel_rfl) (by kernel_rfl) (fun _ _ _ h => h) (Or.inl ⟨by rfl, fun w => yields_eql w rfl rfl rfl HF.out.2.2.2.1⟩) ?_
        simp only [Act.put, zA, zB, zC]
        refine any_take 11 (.slice (some ⟨g, off, none⟩) L c) rfl (by kernel_rfl) (by kernel_rfl) (by kernel_rfl) (fun _ _ _ h => h) (Or.inl ⟨by rfl, fun w => by go_simp⟩) ?_
        simp only [Act.put, zA, zB, zC]
        refine any_take 12 (.int .i64 (k : Int)) rfl (by kernel_rfl) (by kernel_rfl) (by kernel_rfl) (fun _ _ _ h => h) (Or.inl ⟨by rfl, fun w => by go_simp⟩) ?_
        simp only [Act.put, zA, zB, zC]
        refine any_take 13 (.int .i64 (lo : Int)) rfl (by kernel_rfl) (by kernel_rfl) (by kernel_rfl) (fun _ _ _ h => h) (Or.inl ⟨by rfl, fun w => yields_mul w rfl rfl rfl HF.out.2.2.2.2.1 HW.out.2.2.2.1⟩) ?_
        simp only [Act.put, zA, zB, zC]
        refine any_take 14 (.int .i64 (k : Int)) rfl (by kernel_rfl) (by kernel_rfl) (by kernel_rfl) (fun _ _ _ h => h) (Or.inl ⟨by rfl, fun w => by go_simp⟩) ?_
        simp only [Act.put, zA, zB, zC]
        refine any_take 15 (.int .i64 (lo : Int)) rfl (by kernel_rfl) (by kernel_rfl) (by kernel_rfl) (fun _ _ _ h => h) (Or.inl ⟨by rfl, fun w => yields_mul w rfl rfl rfl HF.out.2.2.2.2.1 HW.out.2.2.2.1⟩) ?_
        simp only [Act.put, zA, zB, zC]
        refine any_take 16 (.int .i64 (h0 : Int)) rfl (by kernel_rfl) (by kernel_rfl) (by kernel_rfl) (fun _ _ _ h => h) (Or.inl ⟨by rfl, fun w => yields_add w rfl rfl rfl HF.out.2.2.2.2.2.1 HW.out.2.2.2.2⟩) ?_
        simp only [Act.put, zA, zB, zC]
        refine any_take 17 (.slice (some ⟨g, off, none⟩) L c) rfl (by kernel_rfl) (by kernel_rfl) (by kernel_rfl) (fun _ _ _ h => h) (Or.inl ⟨by rfl, fun w => by go_simp⟩) ?_
        simp only [Act.put, zA, zB, zC]
        refine any_take 18 (.int .i64 (L : Int)) rfl (by kernel_rfl) (by kernel_rfl) (by kernel_rfl) (fun _ _ _ h => h) (Or.inl ⟨by rfl, fun w => by go_simp⟩) ?_
        simp only [Act.put, zA, zB, zC]
        refine any_take 19 (.int .i64 (hi : Int)) rfl (by kernel_rfl) (by kernel_rfl) (by kernel_rfl) (fun _ _ _ h => h) (Or.inl ⟨by rfl, fun w => yields_min w rfl rfl rfl HF.out.2.2.2.2.2.2.1⟩) ?_
        simp only [Act.put, zA, zB, zC]
        refine any_take 20 (.slice (some ⟨g, off + lo, none⟩) (hi - lo) (c - lo)) rfl (by kernel_rfl) (by kernel_rfl) (by kernel_rfl) (fun _ _ _ h => h) (Or.inl ⟨by rfl, fun w => yields_slice34 w rfl rfl rfl rfl HF.out.2.2.2.2.2.2.2.1 HF.out.2.2.2.2.2.2.2.2.1 HF.out.2.2.2.2.2.2.2.2.2⟩) ?_
        simp only [Act.put, zA, zB, zC]
        refine wpAny_ready (rs := [3, 22]) (by kernel_rfl) (by simp) ?_
        refine ready_cons rfl (fun K hK => ?_) (ready_cons rfl (fun K hK => ?_) AllReady.nil)
        · skip
          have r4 := (HSS.out _ HO.out).1
          go_simp
          refine hK _ _ ?_
          clear hK K r4
          refine any_take 4 (.int .i64 (l1 : Int)) rfl (by kernel_rfl) (by kernel_rfl) (by kernel_rfl) (fun _ _ _ h => h) (Or.inl ⟨by rfl, fun w => yields_add w rfl rfl rfl HF.out.1 HW.out.1⟩) ?_
          simp only [Act.put, zA, zB, zC]
          refine any_take 6 (.int .i64 (pn : Int)) rfl (by kernel_rfl) (by kernel_rfl) (by kernel_rfl) (fun _ _ _ h => h) (Or.inl ⟨by rfl, fun w => yields_add w rfl rfl rfl HF.out.2.1 HW.out.2.1⟩) ?_
          simp only [Act.put, zA, zB, zC]
          refine any_take 21 (.agg #[.int .i64 (pn : Int), .bool lb, .slice (some ⟨g, off + lo, none⟩) (hi - lo) (c - lo)]) rfl (by kernel_rfl) (by kernel_rfl) (by kernel_rfl) (fun _ _ _ h => h) (Or.inl ⟨by rfl, fun w => by go_simp⟩) ?_
          simp only [Act.put, zA, zB, zC]
          refine wpAny_ready (rs := [22]) (by kernel_rfl) (by simp) ?_
          refine ready_cons rfl (fun K hK => ?_) AllReady.nil
          go_simp
          refine hK _ _ ?_
          clear hK K
          refine wpAny_ready (rs := [23]) (by kernel_rfl) (by simp) ?_
          refine ready_cons rfl (fun K hK => ?_) AllReady.nil
          go_simp
          refine hK _ _ ?_
          clear hK K
          refine wpAny_done (by kernel_rfl) ?_ _
          go_wp2_with fail
          go_meet
          refine ⟨wk.heap.size, rfl, Lib.hid ⟨?_, HO.out.alloc _, HO.out.size⟩⟩
          exact cells_new wk [.int .i64 (pn : Int), .bool lb, .slice (some ⟨g, off + lo, none⟩) (hi - lo) (c - lo)] 132
        · skip
          go_simp
          refine hK _ _ ?_
          clear hK K
          have HO2 := Lib.hid (HO.out.alloc (.cells #[.int .i64 0, .bool false, .slice none 0 0] 132))
          refine wpAny_ready (rs := [3]) (by kernel_rfl) (by simp) ?_
          refine ready_cons rfl (fun K hK => ?_) AllReady.nil
          have r4 := (HSS.out _ HO2.out).1
          go_simp
          refine hK _ _ ?_
          clear hK K r4
          refine any_take 4 (.int .i64 (l1 : Int)) rfl (by kernel_rfl) (by kernel_rfl) (by kernel_rfl) (fun _ _ _ h => h) (Or.inl ⟨by rfl, fun w => yields_add w rfl rfl rfl HF.out.1 HW.out.1⟩) ?_
          simp only [Act.put, zA, zB, zC]
          refine any_take 6 (.int .i64 (pn : Int)) rfl (by kernel_rfl) (by kernel_rfl) (by kernel_rfl) (fun _ _ _ h => h) (Or.inl ⟨by rfl, fun w => yields_add w rfl rfl rfl HF.out.2.1 HW.out.2.1⟩) ?_
          simp only [Act.put, zA, zB, zC]
          refine any_take 21 (.agg #[.int .i64 (pn : Int), .bool lb, .slice (some ⟨g, off + lo, none⟩) (hi - lo) (c - lo)]) rfl (by kernel_rfl) (by kernel_rfl) (by kernel_rfl) (fun _ _ _ h => h) (Or.inl ⟨by rfl, fun w => by go_simp⟩) ?_
          simp only [Act.put, zA, zB, zC]
          refine wpAny_ready (rs := [23]) (by kernel_rfl) (by simp) ?_
          refine ready_cons rfl (fun K hK => ?_) AllReady.nil
          go_simp
          refine hK _ _ ?_
          clear hK K
          refine wpAny_done (by kernel_rfl) ?_ _
          go_wp2_with fail
          go_meet
          refine ⟨wk.heap.size, rfl, Lib.hid ⟨?_, HO.out.alloc _, HO.out.size⟩⟩
          exact cells_new wk [.int .i64 (pn : Int), .bool lb, .slice (some ⟨g, off + lo, none⟩) (hi - lo) (c - lo)] 132
      case rest =>
        obtain ⟨T, rfl, HC⟩ := hcut
        have t0 := HC.out.1.is 0 _ rfl
        have t1 := HC.out.1.is 1 _ rfl
        have t2 := HC.out.1.is 2 _ rfl
        have tl := HC.out.1.lt
        obtain ⟨s, hs⟩ : ∃ s, s = (cutAt la rec k).lay := ⟨_, rfl⟩
        have hok : (cutAt la rec k).Ok := cutAt_ok (by rw [← HM.out]; exact hlt) (by rw [← HM.out]; exact HQ.out.2)
        have hs512 : s.length = 512 := by rw [hs]; exact Pc.lay_length _ hok.size
        have hsec : Calls Tryz.prog 86 #[.agg #[.int .i64 (pn : Int), .bool lb, .slice (some ⟨g, off + lo, none⟩) (hi - lo) (c - lo)]] wc fun e w' => e = .returned (.agg (bv s).toArray) ∧ Only None' wc w' := by
          obtain ⟨e1, e2, e3, e4, e5, e6, e7, e8⟩ := HE.out
          have hr1 : Rd wc 1 (.slice (some ⟨g, off, none⟩) L c) rec.length (bv rec) := by
            rw [e8]
            exact (HRD.out.only HL.out.kept.only fun _ j hj _ e => by injection hj with hj; rw [← hj] at e; exact HG.out.1 e).only HC.out.2.1 fun _ _ _ _ e => e
          have hlen : hi - lo = ((rec.drop lo).take 501).length := by
            rw [List.length_take, List.length_drop, ← e8]
            omega
          have hcc := HC'.out
          have := sector_any wc (cutAt la rec k) hok.top hok.size (.slice (some ⟨g, off + lo, none⟩) (hi - lo) (c - lo)) (by
            have h5 : 501 * k = lo := by omega
            show Rd wc 1 _ ((rec.drop (501 * k)).take 501).length (bv ((rec.drop (501 * k)).take 501))
            rw [h5]
            exact rd_cut hr1 lo (hi - lo) (by have := HF.out.2.2.2.2.2.2.2.2.1; omega) (by omega) hlen)
          rw [← hs] at this
          have f1 : ((cutAt la rec k).n : Int) = (pn : Int) := by show ((la + 1 + k : Nat) : Int) = _; omega
          have f2 : (cutAt la rec k).last = lb := by rw [e4, HM.out]; rfl
          rw [f1, f2] at this
          exact this
        have HS := Lib.hid hsec
        have HSS' := Lib.hid (And.intro hs (And.intro hs512 hok))
        clear hs hs512 hok hsec HSS
        go_wp2_with fail
        refine HS.out.mono ?_
        rintro e w3 ⟨rfl, o3⟩
        have O3 := Lib.hid o3
        clear o3 HS t0 t1 t2
        go_wp2_with (first | (refine wpList_store_mid rfl 133 _ _ rfl w3.heap.size 0 (bv s).toArray rfl rfl ((show 512 = (bv s).toArray.size by simp [bv_length, HSS'.out.2.1]) ▸ (array_row w3).there (o := 0) (k := 512) (by decide)) (size124a s HSS'.out.2.1) (all_oneCell_toArray (bv_one s)) ?_))
        obtain ⟨w4, hw4⟩ : ∃ w4, w4 = (w3.alloc (.cells Tryz.zeroCells133 133)).setCells w3.heap.size 0 (bv s) := ⟨_, rfl⟩
        obtain ⟨T9, hT9⟩ : ∃ T9, T9 = w3.heap.size := ⟨_, rfl⟩
        have hV : Vec w4 1 (.slice (some ⟨T9, 0, none⟩) 512 512) 512 (bv s) := by
          have h := (array_row w3).put (o := 0) (vs := bv s) (by rw [bv_length, HSS'.out.2.1]; decide)
          rw [hw4, hT9]
          have e : (bv zs).take 0 ++ bv s ++ (bv zs).drop (0 + (bv s).length) = bv s := by
            rw [List.drop_eq_nil_of_le (by rw [bv_length, bv_length, HSS'.out.2.1]; unfold zs; simp)]
            simp
          rwa [e] at h
        have o4 : Only None' wc w4 := by
          rw [hw4]
          exact (O3.out.alloc _).trans2 ((Only.refl (fun j => j = w3.heap.size) _).setCells rfl 0 _) fun j hj e => by have := O3.out.size; omega
        have tT : T < wc.heap.size := HC.out.1.lt
        have hT9' : wc.heap.size ≤ T9 := by rw [hT9]; exact O3.out.size
        change Code.wp _ _ _ _ ((w3.alloc (.cells Tryz.zeroCells133 133)).setCells w3.heap.size 0 (bv s)) at *
        rw [← hw4, ← hT9]
        have RW4 : RingAt w4 R D r := ((HR0.out.kept HL.out.kept.only HRF.out).kept HC.out.2.1 fun e => e).kept o4 fun e => e
        have TW4 := HC.out.1.kept o4 fun e => e
        have DW4 := HL.out.disk.new (HC.out.2.1.trans o4)
        have hF9 : ∀ j, (Value.slice (some ⟨T9, 0, none⟩) 512 512).ownBlock = some j → ¬ F' j := fun j hj e => by
          injection hj with hj
          have h1 : T9 = j := hj
          have h2 := HL.out.disk.lt e
          have h3 := HC.out.2.1.size
          omega
        obtain ⟨pl, hpl⟩ : ∃ pl, pl = r.place pn := ⟨_, rfl⟩
        have hplt : pl < d'.lasts.length := by
          have h1 := HK.out.count
          have h2 : pl = r.first + pn % r.count := hpl
          have h3 := Nat.mod_lt pn (show r.count > 0 by omega)
          have h4 := HLL.out
          rw [HL.out.len]
          omega
        have hpok : pn ≤ 4611686018427387904 := by
          have h1 := HE.out.1
          have h2 := HE.out.2.1
          have h3 := HQ.out.2
          omega
        obtain ⟨er, her⟩ : ∃ er, er = d'.err := ⟨_, rfl⟩
        obtain ⟨wk, hwk⟩ : ∃ wk, wk = w4.drew := ⟨_, rfl⟩
        have ok4 : Only None' w4 wk := by rw [hwk]; exact (Only.refl _ _).drew
        have HWK := Lib.hid hwk
        have HR0' := Lib.hid ((CellsR.kept RW4 ok4 fun e => e).is 0 _ rfl)
        have HT0' := Lib.hid ((CellsR.kept TW4 ok4 fun e => e).is 0 _ rfl)
        have HPL : Hid (Calls Tryz.prog 87 #[.pointer (some ⟨R, 0, none⟩), .int .i64 (pn : Int)] wk fun e w' => e = .returned (.int .i64 (pl : Int)) ∧ ∃ q, w' = wk.drewN q) := by rw [hpl]; exact place_any (CellsR.kept RW4 ok4 fun e => e) HK.out hpok
        have HWR : Hid (∀ q, Calls Tryz.prog 29 #[.pointer (some ⟨D, 0, none⟩), .int .i64 (pl : Int), .slice (some ⟨T9, 0, none⟩) 512 512] (wk.drewN q) fun e w' => e = .returned (.int .i64 er) ∧ ∃ F6, DiskAt w' D F6 (d'.write pl s) ∧ Kept F' F6 (wk.drewN q) w') := fun q => by
          rw [her]
          exact write_any (DW4.new (ok4.drewN q)) HL.out.dead hplt (Vec.only hV (ok4.drewN q) fun _ _ e => e).rd hF9 HSS'.out.2.1 HL.out.few (by have := HN.out; have := HQ.out.1; omega)
        have HO4 := Lib.hid ((HC.out.2.1.trans o4).trans ok4)
        have HP := Lib.hid (And.intro hpl her)
        clear hw4 hT9 hV o4 tT hT9' RW4 TW4 DW4 hF9 hpl hplt hpok her hwk ok4 tl
        simp only [Act.put]
        go_cut [10] from 70 to 80 (fun p10 wx => p10 = .int .i64 er ∧ ∃ F6 q, Hid (DiskAt wx D F6 (d'.write pl s) ∧ Kept F' F6 (wk.drewN q) wx))
        case first =>
          refine wp_region_any (by kernel_rfl) ?_
          change wpAny _ _ _ _ _ _ _ (World.drew _)
          rw [← HWK.out]
          refine any_take 0 (.pointer (some ⟨R, 0, none⟩)) rfl (by kernel_rfl) (by kernel_rfl) (by kernel_rfl) (fun _ _ _ h => h) (Or.inl ⟨by rfl, fun w => by go_simp⟩) ?_
          simp only [Act.put, zA, zB, zC]
          refine any_take 1 (.pointer (some ⟨R, 0, none⟩)) rfl (by kernel_rfl) (by kernel_rfl) (by kernel_rfl) (fun _ _ _ h => h) (Or.inl ⟨by rfl, fun w => by go_simp⟩) ?_
          simp only [Act.put, zA, zB, zC]
          refine any_take 2 (.pointer (some ⟨R, 0, none⟩)) rfl (by kernel_rfl) (by kernel_rfl) (by kernel_rfl) (fun _ _ _ h => h) (Or.inl ⟨by rfl, fun w => by go_simp⟩) ?_
          simp only [Act.put, zA, zB, zC]
          refine any_take 4 (.pointer (some ⟨R, 0, none⟩)) rfl (by kernel_rfl) (by kernel_rfl) (by kernel_rfl) (fun _ _ _ h => h) (Or.inl ⟨by rfl, fun w => by go_simp⟩) ?_
          simp only [Act.put, zA, zB, zC]
          refine any_take 5 (.pointer (some ⟨T, 0, none⟩)) rfl (by kernel_rfl) (by kernel_rfl) (by kernel_rfl) (fun _ _ _ h => h) (Or.inl ⟨by rfl, fun w => by go_simp⟩) ?_
          simp only [Act.put, zA, zB, zC]
          refine any_take 8 (.slice (some ⟨T9, 0, none⟩) 512 512) rfl (by kernel_rfl) (by kernel_rfl) (by kernel_rfl) (fun _ _ _ h => h) (Or.inl ⟨by rfl, fun w => yields_all124 w rfl rfl⟩) ?_
          simp only [Act.put, zA, zB, zC]
          refine wpAny_ready (rs := [3, 6]) (by kernel_rfl) (by simp) ?_
          refine ready_cons rfl (fun K hK => ?_) (ready_cons rfl (fun K hK => ?_) AllReady.nil)
          · skip
            have cl := HR0'.out
            go_simp
            refine hK _ _ ?_
            clear hK K cl
            refine wpAny_ready (rs := [6]) (by kernel_rfl) (by simp) ?_
            refine ready_cons rfl (fun K hK => ?_) AllReady.nil
            have cl := HT0'.out
            go_simp
            refine hK _ _ ?_
            clear hK K cl
            refine wpAny_ready (rs := [7]) (by kernel_rfl) (by simp) ?_
            refine ready_cons rfl (fun K hK => ?_) AllReady.nil
            go_simp
            refine HPL.out.mono ?_
            rintro e wq ⟨rfl, q', rfl⟩
            go_simp
            refine hK _ _ ?_
            clear hK K
            refine wpAny_ready (rs := [9]) (by kernel_rfl) (by simp) ?_
            refine ready_cons rfl (fun K hK => ?_) AllReady.nil
            go_simp
            refine (HWR.out _).mono ?_
            rintro e wq ⟨rfl, F6, h6, k6⟩
            go_simp
            refine hK _ _ ?_
            clear hK K
            refine any_take 10 (.int .i64 er) rfl (by kernel_rfl) (by kernel_rfl) (by kernel_rfl) (fun _ _ _ h => h) (Or.inl ⟨by rfl, fun w => by go_simp⟩) ?_
            simp only [Act.put, zA, zB, zC]
            refine wpAny_done (by kernel_rfl) ?_ _
            go_wp2_with fail
            go_meet
            exact ⟨rfl, F6, q', Lib.hid ⟨h6, k6⟩⟩
          · skip
            have cl := HT0'.out
            go_simp
            refine hK _ _ ?_
            clear hK K cl
            refine wpAny_ready (rs := [3, 7]) (by kernel_rfl) (by simp) ?_
            refine ready_cons rfl (fun K hK => ?_) (ready_cons rfl (fun K hK => ?_) AllReady.nil)
            · skip
              have cl := HR0'.out
              go_simp
              refine hK _ _ ?_
              clear hK K cl
              refine wpAny_ready (rs := [7]) (by kernel_rfl) (by simp) ?_
              refine ready_cons rfl (fun K hK => ?_) AllReady.nil
              go_simp
              refine HPL.out.mono ?_
              rintro e wq ⟨rfl, q', rfl⟩
              go_simp
              refine hK _ _ ?_
              clear hK K
              refine wpAny_ready (rs := [9]) (by kernel_rfl) (by simp) ?_
              refine ready_cons rfl (fun K hK => ?_) AllReady.nil
              go_simp
              refine (HWR.out _).mono ?_
              rintro e wq ⟨rfl, F6, h6, k6⟩
              go_simp
              refine hK _ _ ?_
              clear hK K
              refine any_take 10 (.int .i64 er) rfl (by kernel_rfl) (by kernel_rfl) (by kernel_rfl) (fun _ _ _ h => h) (Or.inl ⟨by rfl, fun w => by go_simp⟩) ?_
              simp only [Act.put, zA, zB, zC]
              refine wpAny_done (by kernel_rfl) ?_ _
              go_wp2_with fail
              go_meet
              exact ⟨rfl, F6, q', Lib.hid ⟨h6, k6⟩⟩
            · skip
              go_simp
              refine HPL.out.mono ?_
              rintro e wq ⟨rfl, q', rfl⟩
              go_simp
              refine hK _ _ ?_
              clear hK K
              refine wpAny_ready (rs := [3]) (by kernel_rfl) (by simp) ?_
              refine ready_cons rfl (fun K hK => ?_) AllReady.nil
              have cl := HR0'.out
              go_simp
              refine hK _ _ ?_
              clear hK K cl
              refine wpAny_ready (rs := [9]) (by kernel_rfl) (by simp) ?_
              refine ready_cons rfl (fun K hK => ?_) AllReady.nil
              go_simp
              refine (HWR.out _).mono ?_
              rintro e wq ⟨rfl, F6, h6, k6⟩
              go_simp
              refine hK _ _ ?_
              clear hK K
              refine any_take 10 (.int .i64 er) rfl (by kernel_rfl) (by kernel_rfl) (by kernel_rfl) (fun _ _ _ h => h) (Or.inl ⟨by rfl, fun w => by go_simp⟩) ?_
              simp only [Act.put, zA, zB, zC]
              refine wpAny_done (by kernel_rfl) ?_ _
              go_wp2_with fail
              go_meet
              exact ⟨rfl, F6, q', Lib.hid ⟨h6, k6⟩⟩
        case rest =>
          obtain ⟨rfl, F6, q', HW6⟩ := hcut
          have K6 : Hid (Kept F F6 w wc) := (HL.out.kept.trans (Kept.new (HO4.out.drewN q'))).trans HW6.out.2
          have hn : (cutAt r.last rec k).n = pn := by
            have h1 := HE.out.1
            have h2 := HE.out.2.1
            have h3 := HLA.out
            show r.last + 1 + k = pn
            omega
          have hpl : pl = r.place (cutAt r.last rec k).n := by rw [hn]; exact HP.out.1
          have hsl : s = (cutAt r.last rec k).lay := by rw [HSS'.out.1, HLA.out]
          have HD6 : Hid (DiskAt wc D F6 (d'.write (r.place (cutAt r.last rec k).n) (cutAt r.last rec k).lay)) := by
            have h := HW6.out.1
            rw [hpl, hsl] at h
            exact h
          have hkm : k < cutN rec.length := by rw [← HM.out]; exact hlt
          clear hn hpl hsl
          cases hdu : d'.due
          · have he : er = 0 := by rw [HP.out.2]; unfold Dk.err; rw [hdu]; rfl
            subst he
            have HX3 := Lib.hid (HL.out.step hkm hdu HD6.out K6.out)
            clear hdu hkm
            go_wp2_with fail
            go_roundw
            case rel => exact ⟨k + 1, F6, _, by omega, next_int (by have := HQ.out.1; omega), HX3⟩
            case measure => exact meas hlt (by have := HQ.out.1; omega)
          · have he : er = 20 := by rw [HP.out.2]; unfold Dk.err; rw [hdu]; rfl
            subst he
            have HX3 := Lib.hid (HL.out.burnt hkm hdu)
            clear hdu hkm
            go_wp2_with fail
            go_ret
            have happ : appR r d rec = (20, r, d'.write (r.place (cutAt r.last rec k).n) (cutAt r.last rec k).lay) := by rw [HAP.out, HX3.out]
            rw [happ]
            exact ⟨rfl, F6, HR0.out.kept K6.out.only HRF.out, HD6.out, fun e => (K6.out.fresh R e).elim HRF.out fun e => by have := HLT.out; omega, K6.out.more R⟩
    · obtain rfl : k = m := by omega
      have RW0 : RingAt wr R D r := HR0.out.kept HL.out.kept.only HRF.out
      have r4 := RW0.is 4 _ rfl
      rw [← HLA.out] at r4
      have r5 := RW0.is 5 _ rfl
      have rz := RW0.thaw
      have lR := RW0.lt
      have HRW := Lib.hid RW0
      obtain ⟨lm, hlm⟩ : ∃ lm, lm = la + k := ⟨_, rfl⟩
      have a1 : (la : Int) + (k : Int) = (lm : Int) := by omega
      have HB2 := Lib.hid (show wrap64 (lm : Int) = (lm : Int) from IntWalk.wrap64_in _ (by have := HQ.out.2; omega))
      have HLM := Lib.hid hlm
      have a2 := HB2.out
      have happ : appR r d rec = (0, { r with last := r.last + cutN rec.length, top := r.last + cutN rec.length }, d') := by
        rw [HAP.out, HL.out.puts, List.drop_eq_nil_of_le (by rw [cutR_length, HM.out]; exact Nat.le_refl _)]
        rfl
      have HAP' := Lib.hid happ
      clear hlt hk hlm RW0 happ
      go_wp2_with fail
      go_ret
      rw [HAP'.out]
      have os : Only (fun j => j = R) wr ((wr.setCell ⟨R, 4, none⟩ (.int .i64 (lm : Int))).setCell ⟨R, 5, none⟩ (.int .i64 (lm : Int))) := ((Only.refl (fun j => j = R) wr).setCell (p := ⟨R, 4, none⟩) rfl _).setCell (p := ⟨R, 5, none⟩) rfl _
      have hRF' : ¬ F' R := fun e => (HL.out.kept.fresh R e).elim HRF.out fun e => by have := HLT.out; omega
      have hlm2 : r.last + cutN rec.length = lm := by rw [HLM.out, HLA.out, HM.out]
      refine ⟨rfl, F', ?_, HL.out.disk.only os fun j hj e => hRF' (e ▸ hj), hRF', ?_⟩
      · have := (HRW.out.set (i := 4) (by simp) (.int .i64 (lm : Int))).set (i := 5) (by simp) (.int .i64 (lm : Int))
        rw [hlm2]
        exact this
      · have h1 := HL.out.kept.more R
        exact ⟨h1.only.trans (os.mono fun j _ e => Or.inr e), h1.fresh⟩
end
end Go.Proofs.YteoeaojebklfjaaGreatDoor
