/- I7 I9 J3 N0 N1 in one text. -/
import Derived.Test.YteoeaojebklfjaaGreatDoorV09
import Derived.BigRegion
import Derived.Test.YteoeaojebklfjaaGreatDoorV10
import Derived.Test.YteoeaojebklfjaaGreatDoorV00
namespace Go.Proofs.YteoeaojebklfjaaGreatDoor
open Go.RowKit Go.Maps
set_option linter.unusedVariables false

def gAt (first : Nat) (d : Dk) : Nat → Sec := fun i => d.read (first + i)
def Rg.opened (first count base : Nat) (g : Nat → Sec) : Rg := ⟨first, count, base, (runG count g count base [] [] base).2, topG count g base count⟩
def Rg.at_ (first count base : Nat) (g : Nat → Sec) (k : Nat) : Rg := ⟨first, count, base, base, topG count g base k⟩
theorem Rg.at_ok {first count base k : Nat} {g : Nat → Sec} (h1 : 1 ≤ count) (h2 : first + count ≤ 65536) (h3 : base ≤ 4611686018427387904) : (Rg.at_ first count base g k).Ok :=
  ⟨h1, h2, Nat.le_refl _, topG_le k, by show base ≤ base + count; omega, topG_big h3 k⟩
theorem see_at {r : Rg} {d : Dk} {k : Nat} (h : k < r.count) : r.see d (r.first + k) = seeG r.count (gOf r d) k := by
  have := see_mod r d k
  rwa [place_mod, Nat.mod_eq_of_lt h] at this
theorem Rg.opened_ok {first count base : Nat} {g : Nat → Sec} (h1 : 1 ≤ count) (h2 : first + count ≤ 65536) (h3 : base ≤ 4611686018427387904) : (Rg.opened first count base g).Ok := by
  have h4 := runG_last (count := count) (g := g) count base [] [] base (Nat.le_refl _)
  refine ⟨h1, h2, h4.1, ?_, h4.2, topG_big h3 _⟩
  exact runG_top (fun n p hp => pieceG_top h1 hp) _ _ _ _ _ (topG_le _)

theorem max_nat (a b : Nat) : (if a < b then (b : Int) else (a : Int)) = ((max a b : Nat) : Int) := by
  split <;> omega

set_option maxRecDepth 20000 in
set_option maxHeartbeats 4000000 in
theorem ropen_any {w : World} {D : Nat} {F : Nat → Prop} {d : Dk} (hd : DiskAt w D F d) (hdd : d.dead = false) (hw : d.waits.length ≤ 1000000) {first count base : Nat} (h1 : 1 ≤ count) (h2 : first + count ≤ d.lasts.length) (h3 : base ≤ 4611686018427387904) :
    Calls Tryz.prog 54 #[.pointer (some ⟨D, 0, none⟩), .int .i64 (first : Int), .int .i64 (count : Int), .int .i64 (base : Int)] w fun e w' => ∃ R v, e = .returned (.tuple #[.pointer (some ⟨R, 0, none⟩), v, .int .i64 0]) ∧ w.heap.size ≤ R ∧
      RingAt w' R D (Rg.opened first count base (gAt first d)) ∧ Recs w' (fun k => w.heap.size ≤ k ∧ k ≠ R) v (runG count (gAt first d) count base [] [] base).1 ∧ Only None' w w' := by
  have hmany := (DiskAt.ok hd).many
  have HLN := Lib.hid (len_any hd)
  have HD := Lib.hid hd
  have HDD := Lib.hid (And.intro hdd (And.intro h2 hw))
  obtain ⟨ln, hln⟩ : ∃ ln, ln = d.lasts.length := ⟨_, rfl⟩
  rw [← hln] at h2 hmany HLN
  have HH := Lib.hid (And.intro h1 (And.intro (show first + count ≤ 65536 by omega) h3))
  have f1 : decide ((first : Int) < 0) = false := by simp
  have f2 : decide ((count : Int) < 1) = false := by simp; omega
  have f3 : decide (ln < count) = false := by simp; omega
  have f3' : decide ((ln : Int) < (count : Int)) = false := by simp; omega
  obtain ⟨m, hm⟩ : ∃ m, m = ln - count := ⟨_, rfl⟩
  have f5 : (ln : Int) - (count : Int) = (m : Int) := by omega
  have f4 : wrap64 (m : Int) = (m : Int) := IntWalk.wrap64_in _ (by omega)
  have f6 : decide (m < first) = false := by simp; omega
  have f6' : decide ((m : Int) < (first : Int)) = false := by simp; omega
  have f7 : decide ((base : Int) < 0) = false := by simp
  have f8 : decide ((4611686018427387904 : Int) < (base : Int)) = false := by simp; omega
  have f8' : decide (4611686018427387904 < base) = false := by simp; omega
  obtain ⟨G, hG⟩ : ∃ G, G = gAt first d := ⟨_, rfl⟩
  rw [← hG]
  have HG := Lib.hid hG
  clear hd hdd hw h1 h2 h3 hln hmany hm hG
  go_enter Tryz.func54, Tryz.ntmps54
  go_wp2_with fail
  refine HLN.out.mono ?_
  rintro e w1 ⟨rfl, e⟩
  obtain rfl := e.symm
  clear HLN
  go_wp2_with fail
  clear f1 f2 f3 f3' f4 f5 f6 f6' f7 f8 f8'
  have X0 : RingAt (w.alloc (.cells #[.pointer (some ⟨D, 0, none⟩), .int .i64 (first : Int), .int .i64 (count : Int), .int .i64 (base : Int), .int .i64 (base : Int), .int .i64 (base : Int)] 130)) w.heap.size D (Rg.at_ first count base G 0) := cells_new w _ 130
  have HX := Lib.hid (And.intro X0 ((Only.refl None' w).alloc (.cells #[.pointer (some ⟨D, 0, none⟩), .int .i64 (first : Int), .int .i64 (count : Int), .int .i64 (base : Int), .int .i64 (base : Int), .int .i64 (base : Int)] 130)))
  obtain ⟨R, hR⟩ : ∃ R, R = w.heap.size := ⟨_, rfl⟩
  rw [← hR] at HX ⊢
  have HRR := Lib.hid (show w.heap.size ≤ R by omega)
  clear X0 hR
  go_loopw [58] (fun i wr => ∃ (k : Nat), k ≤ count ∧ i = .int .i64 (k : Int) ∧ Hid (RingAt wr R D (Rg.at_ first count base G k) ∧ Only None' w wr)) (fun i wr => count - (intOf i).toNat)
  case atStart => exact ⟨0, by omega, rfl, HX⟩
  case round =>
    obtain ⟨k, hk, rfl, HL⟩ := hrel
    have HOK := Lib.hid (Rg.at_ok (g := G) (k := k) HH.out.1 HH.out.2.1 HH.out.2.2)
    by_cases hlt : k < count
    · have hsee : (Rg.at_ first count base G k).see d (first + k) = seeG count G k := by
        rw [HG.out]; exact see_at (r := Rg.at_ first count base (gAt first d) k) hlt
      have hcall := rread_any HL.out.1 HOK.out (HD.out.new HL.out.2) HDD.out.1 (i := first + k) (by have := HDD.out.2.1; omega) HDD.out.2.2 hsee
      obtain ⟨fk, hfk⟩ : ∃ fk, fk = first + k := ⟨_, rfl⟩
      rw [← hfk] at hcall
      have e1 : wrap64 (fk : Int) = (fk : Int) := by have := HH.out.2.1; exact IntWalk.wrap64_in _ (by omega)
      have HE := Lib.hid (show (first : Int) + (k : Int) = (fk : Int) by omega)
      have e2 := HE.out
      clear hfk hsee
      cases hs : seeG count G k with
      | none =>
        rw [hs] at hcall
        have HC := Lib.hid hcall
        have htop : Rg.at_ first count base G (k + 1) = Rg.at_ first count base G k := by unfold Rg.at_; rw [show topG count G base (k + 1) = topG count G base k by simp [topG, hs]]
        have HT := Lib.hid htop
        clear hcall hs htop
        go_wp2_with fail
        refine HC.out.mono ?_
        rintro e w2 ⟨o2, n', b', a', k', c', rfl⟩
        have HL2 := Lib.hid (And.intro (show RingAt (w2.alloc (.cells #[.int .i64 n', .bool b', .slice a' k' c'] 132)) R D (Rg.at_ first count base G k) from HL.out.1.kept (o2.alloc _) fun e => e) (HL.out.2.trans (o2.alloc (.cells #[.int .i64 n', .bool b', .slice a' k' c'] 132))))
        clear o2
        go_wp2_with fail
        go_roundw
        case rel => exact ⟨k + 1, by omega, next_int (by have := HH.out.2.1; omega), by rw [HT.out]; exact HL2⟩
        case measure => exact meas hlt (by have := HH.out.2.1; omega)
      | some p =>
        rw [hs] at hcall
        have HC := Lib.hid hcall
        have HPT := Lib.hid (seeG_ok hs).top
        have htop : topG count G base (k + 1) = max (topG count G base k) p.n := by simp [topG, hs]
        have HT := Lib.hid htop
        have HTB := Lib.hid (topG_big (count := count) (g := G) HH.out.2.2 k)
        clear hcall hs htop
        obtain ⟨pn, la, data⟩ := p
        simp only at HT HPT
        go_wp2_with fail
        refine HC.out.mono ?_
        rintro e w2 ⟨o2, v, rfl, hv, hfr⟩
        obtain ⟨va, vk, vc, rfl⟩ := hv.rd.shape'
        have oA := o2.alloc (.cells #[.int .i64 (pn : Int), .bool la, .slice va vk vc] 132)
        have RA : RingAt (w2.alloc (.cells #[.int .i64 (pn : Int), .bool la, .slice va vk vc] 132)) R D (Rg.at_ first count base G k) := HL.out.1.kept oA fun e => e
        have TA := cells_new w2 [.int .i64 (pn : Int), .bool la, .slice va vk vc] 132
        have HL2 := Lib.hid (And.intro RA (HL.out.2.trans oA))
        have lR := RA.lt
        have ltw := HL.out.1.lt
        have o2s := o2.size
        obtain ⟨wA, hwA⟩ : ∃ wA, wA = w2.alloc (.cells #[.int .i64 (pn : Int), .bool la, .slice va vk vc] 132) := ⟨_, rfl⟩
        obtain ⟨T, hT⟩ : ∃ T, T = w2.heap.size := ⟨_, rfl⟩
        have hRT : ¬ R = T := by rw [hT]; omega
        have hTR : ¬ T = R := fun e => hRT e.symm
        have eT := hT.symm
        have eA := hwA.symm
        rw [← hwA] at HL2 TA RA lR
        rw [← hT] at TA
        obtain ⟨tk, htk⟩ : ∃ tk, tk = topG count G base k := ⟨_, rfl⟩
        have RA' : RingAt wA R D ⟨first, count, base, base, tk⟩ := by rw [htk]; exact RA
        have r5 := RA'.is 5 _ rfl
        have rz := RA'.thaw 5
        have t0 := TA.is 0 _ rfl
        have HRA := Lib.hid RA'
        have HTK := Lib.hid htk
        clear o2 hv hfr oA RA TA hwA hT htk RA' o2s
        go_wp2_with fail
        go_region
        all_goals (
          go_wp2_with fail
          go_roundw
          case rel =>
            refine ⟨k + 1, by omega, next_int (by have := HH.out.2.1; omega), Lib.hid ⟨?_, ?_⟩⟩
            · have := HRA.out.set (i := 5) (by simp) (.int .i64 ((max tk pn : Nat) : Int))
              have e : Rg.at_ first count base G (k + 1) = ⟨first, count, base, base, max tk pn⟩ := by unfold Rg.at_; rw [HT.out, HTK.out]
              rw [e, max_nat]
              first | exact CellsR.kept this ((Only.refl None' _).drew) fun e => e | (trace_state; fail)
            · first | exact ((HL2.out.2).setFresh HRR.out _ _).drew | (trace_state; fail)
          case measure => exact meas hlt (by have := HH.out.2.1; omega))
    · obtain rfl : k = count := by omega
      have HRC := Lib.hid (records_any HL.out.1 HOK.out rfl (HD.out.new HL.out.2) HDD.out.1 (fun hF => by have := HD.out.lt hF; have := HRR.out; omega) HDD.out.2.1 HDD.out.2.2 (fun n p hp => pieceG_top HH.out.1 (by rw [HG.out] at hp ⊢; exact hp)))
      have HRL := Lib.hid HL.out.1.lt
      clear hk hlt
      go_wp2_with fail
      refine HRC.out.mono ?_
      rintro e w2 ⟨v, rfl, hrec, hring, ho⟩
      have hg : gOf (Rg.at_ first k base G k) d = G := by rw [HG.out]; rfl
      rw [hg] at hrec hring
      change Recs w2 _ v (runG k G k base [] [] base).1 at hrec
      obtain ⟨rs, hrs⟩ : ∃ rs, rs = (runG k G k base [] [] base).1 := ⟨_, rfl⟩
      rw [← hrs] at hrec
      have HRS := Lib.hid hrs
      obtain ⟨a', c', rfl⟩ := hrec.shape
      clear hrs hg
      obtain ⟨nn, hnn⟩ : ∃ nn, nn = rs.length := ⟨_, rfl⟩
      rw [← hnn] at hrec ⊢
      have HZ := Lib.hid (And.intro hrec (And.intro hring ho))
      clear hnn
      clear hrec hring ho
      go_wp2_with fail
      go_ret3
      obtain ⟨hrec, hring, ho⟩ := HZ.out
      rw [HRS.out] at hrec
      have hrec2 := hrec.mono (P' := fun i => w.heap.size ≤ i ∧ i ≠ R) fun i hi hi' => ⟨by have := HL.out.2.size; omega, by have := HRL.out; omega⟩
      exact ⟨R, _, rfl, HRR.out, hring, hrec2, HL.out.2.trans2 ho fun i hi e => by have := HRR.out; omega⟩
end Go.Proofs.YteoeaojebklfjaaGreatDoor
namespace Go.Proofs.YteoeaojebklfjaaGreatDoor
open Go.RowKit Go.Maps
set_option linter.unusedVariables false

def Rg.of (first count base : Nat) (rs : List Rec) : Rg := ⟨first, count, base, base + many base rs, base + many base rs⟩
structure Par (first count base len : Nat) : Prop where
  c1 : 1 ≤ count
  c2 : count ≤ 100
  fit : first + count ≤ len
  len : len ≤ 100
  base : base ≤ 1000000
structure Bd (w0 w : World) (D : Nat) (F : Nat → Prop) (first count base : Nat) (rs : List Rec) (d : Dk) (len n : Nat) : Prop where
  par : Par first count base len
  dsk : Dsk w0 w D F d
  calm : d.Calm len n
  holds : Holds count (gAt first d) base (cutAll base rs)
  room : many base rs ≤ count
structure Bk (w0 w : World) (R D : Nat) (F : Nat → Prop) (first count base : Nat) (rs : List Rec) (d : Dk) (len n : Nat) : Prop where
  bd : Bd w0 w D F first count base rs d len n
  ring : RingAt w R D (Rg.of first count base rs)
  new : w0.heap.size ≤ R
  apart : ¬ F R

theorem Par.ok {first count base len : Nat} (h : Par first count base len) {rs : List Rec} (hr : many base rs ≤ count) : (Rg.of first count base rs).Ok := by
  obtain ⟨a, b, c, e, f⟩ := h
  exact ⟨a, by show first + count ≤ _; omega, by show base ≤ base + _; omega, Nat.le_refl _, by show base + many base rs ≤ base + count; omega, by show base + many base rs ≤ _; omega⟩
theorem opened_of {first count base : Nat} {g : Nat → Sec} {rs : List Rec} (h : Holds count g base (cutAll base rs)) (hc : 1 ≤ count) (hl : many base rs ≤ count) : Rg.opened first count base g = Rg.of first count base rs := by
  unfold Rg.opened Rg.of
  rw [told_run h hc hl, h.top hc]
  rfl

section
variable {w0 w w' : World} {R D : Nat} {F : Nat → Prop} {first count base : Nat} {rs : List Rec} {d : Dk} {len n : Nat}
theorem Bd.few {m : Nat} (h : Bd w0 w D F first count base rs d len n) (hm : n ≤ m) : Bd w0 w D F first count base rs d len m := ⟨h.par, h.dsk, ⟨h.calm.dead, h.calm.set, h.calm.len, h.calm.few.mono hm⟩, h.holds, h.room⟩
theorem Bk.few {m : Nat} (h : Bk w0 w R D F first count base rs d len n) (hm : n ≤ m) : Bk w0 w R D F first count base rs d len m := ⟨h.bd.few hm, h.ring, h.new, h.apart⟩
theorem Bd.new (h : Bd w0 w D F first count base rs d len n) (o : Only None' w w') : Bd w0 w' D F first count base rs d len n := ⟨h.par, h.dsk.new o, h.calm, h.holds, h.room⟩
theorem Bk.only (h : Bk w0 w R D F first count base rs d len n) (o : Only None' w w') : Bk w0 w' R D F first count base rs d len n :=
  ⟨h.bd.new o, h.ring.kept o fun e => e, h.new, h.apart⟩
theorem Bk.ok (h : Bk w0 w R D F first count base rs d len n) : (Rg.of first count base rs).Ok := h.bd.par.ok h.bd.room
theorem bd_new {first count base len : Nat} {D : Nat} {F : Nat → Prop} (par : Par first count base len) (h : Dsk w0 w D F (Dk.new len)) : Bd w0 w D F first count base [] (Dk.new len) len 0 :=
  ⟨par, h, calm_new len, Holds.none_at fun i hi => see_new (r := ⟨first, 0, 0, 0, 0⟩) par.fit i hi, Nat.zero_le _⟩
theorem Bd.open_ (h : Bd w0 w D F first count base rs d len n) (hn : n ≤ 900000) : Calls Tryz.prog 54 #[.pointer (some ⟨D, 0, none⟩), .int .i64 (first : Int), .int .i64 (count : Int), .int .i64 (base : Int)] w fun e w' => ∃ R a c, e = .returned (.tuple #[.pointer (some ⟨R, 0, none⟩), .slice a rs.length c, .int .i64 0]) ∧ w.heap.size ≤ R ∧
      Bk w0 w' R D F first count base rs d len n ∧ Recs w' (fun k => w.heap.size ≤ k ∧ k ≠ R) (.slice a rs.length c) rs ∧ Only None' w w' := by
  have hp := h.par
  refine (ropen_any (first := first) (count := count) (base := base) h.dsk.at_ h.calm.dead (Nat.le_trans h.calm.few.waits (by omega)) hp.c1 (by rw [h.calm.len]; exact hp.fit) (by have := hp.base; omega)).mono ?_
  rintro e w' ⟨R, v, rfl, hR, hr, hrec, ho⟩
  rw [opened_of h.holds hp.c1 h.room] at hr
  rw [told_run h.holds hp.c1 h.room] at hrec
  obtain ⟨a, c, rfl⟩ := hrec.shape
  exact ⟨R, a, c, rfl, hR, ⟨h.new ho, hr, Nat.le_trans h.dsk.only.size hR, fun hF => by have := h.dsk.at_.lt hF; omega⟩, hrec, ho⟩
theorem Bd.emptied (h : Bd w0 w D F first count base rs d len n) (hb : base + many base rs ≤ 1000000) : Bd w0 w D F first count (base + many base rs) [] d len n :=
  ⟨⟨h.par.c1, h.par.c2, h.par.fit, h.par.len, hb⟩, h.dsk, h.calm, h.holds.empty, Nat.zero_le _⟩
theorem Bk.roomed (h : Bk w0 w R D F first count base rs d len n) {m : Int} (hm : ((count - many base rs : Nat) : Int) = m) : Calls Tryz.prog 85 #[.pointer (some ⟨R, 0, none⟩)] w fun e w' => e = .returned (.int .i64 m) ∧ Only None' w w' := by
  subst hm
  refine (room_any h.ring h.ok).mono ?_
  rintro e w' ⟨rfl, q, rfl⟩
  refine ⟨?_, (Only.refl _ _).drewN q⟩
  have : (Rg.of first count base rs).room = count - many base rs := by
    unfold Rg.room Rg.of
    simp only
    rw [if_neg (by omega)]
    omega
  rw [this]
theorem Bk.add (h : Bk w0 w R D F first count base rs d len n) (hn : n ≤ 800000) {g off c : Nat} {rec : Rec} (hr : Rd w 1 (.slice (some ⟨g, off, none⟩) rec.length c) rec.length (bv rec)) (hc : rec.length ≤ c) (hcm : c ≤ maxLen) (hgF : ¬ F g) (hgl : g < w.heap.size) (hgR : g ≠ R) (hb : rec.length ≤ 140737488355328)
    (hfit : many base rs + cutN rec.length ≤ count) : Calls Tryz.prog 48 #[.pointer (some ⟨R, 0, none⟩), .slice (some ⟨g, off, none⟩) rec.length c] w fun e w' => e = .returned (.int .i64 0) ∧ ∃ F' d', Bk w0 w' R D F' first count base (rs ++ [rec]) d' len (n + cutN rec.length) ∧ Kept (fun k => F k ∨ k = R) (fun k => F' k ∨ k = R) w w' := by
  have hp := h.bd.par
  obtain ⟨p1, p2, p3, p4, p5⟩ := hp
  have hfree : refuse (Rg.of first count base rs) (cutN rec.length) = none := by
    have hroom : (Rg.of first count base rs).room = count - many base rs := by
      unfold Rg.room Rg.of
      simp only
      rw [if_neg (by omega)]
      omega
    unfold refuse
    rw [if_neg (by show ¬ count < _; omega), if_neg (by show ¬ base + many base rs < base + many base rs; omega), if_neg (by rw [hroom]; omega), if_neg (by show ¬ _ < base + many base rs + _; omega)]
  obtain ⟨d', hd1, hd2, hd3⟩ := puts_rec (r := Rg.of first count base rs) (rec := rec) h.bd.calm h.bd.holds hfit (by omega)
  have happ : appR (Rg.of first count base rs) d rec = (0, Rg.of first count base (rs ++ [rec]), d') := by
    unfold appR
    unfold refuse at hfree
    split at hfree
    · cases hfree
    rename_i g1
    rw [if_neg g1]
    split at hfree
    · cases hfree
    rename_i g2
    rw [if_neg g2]
    split at hfree
    · cases hfree
    rename_i g3
    rw [if_neg g3]
    split at hfree
    · cases hfree
    rename_i g4
    rw [if_neg g4]
    have e : (Rg.of first count base rs).last = base + many base rs := rfl
    rw [e, hd1]
    simp only
    unfold Rg.of
    simp only [many_snoc]
    rw [Nat.add_assoc]
  have hsz : R < w.heap.size := h.ring.lt
  refine (append_go h.ring h.ok h.bd.dsk.at_ h.bd.calm.dead (by rw [h.bd.calm.len]; exact p3) h.bd.calm.few (by omega) h.apart hr hc hcm hgF hgl hgR hb hfree).mono ?_
  rintro e w' ⟨rfl, F', hR', hD', hnR, hk⟩
  rw [happ] at hR' hD' ⊢
  refine ⟨rfl, F', d', ⟨⟨⟨p1, p2, p3, p4, p5⟩, ⟨hD', fun k hk' => ?_, ?_⟩, hd2, hd3, by rw [many_snoc]; omega⟩, hR', h.new, hnR⟩, hk⟩
  · rcases hk.fresh k (Or.inl hk') with (h1 | h1) | h1
    · exact h.bd.dsk.fresh k h1
    · rw [h1]; exact h.new
    · exact Nat.le_trans h.bd.dsk.only.size h1
  · exact h.bd.dsk.only.cons_new hk.only fun i hi => hi.elim (h.bd.dsk.fresh i) fun e => e ▸ h.new
theorem Bk.full (h : Bk w0 w R D F first count base rs d len n) (a : Option Addr) (m c : Nat) (hm : m ≤ 140737488355328) (hfit : ¬ many base rs + cutN m ≤ count) {code : Int} (hcode : (if count < cutN m then (40 : Int) else 3) = code) :
    Calls Tryz.prog 48 #[.pointer (some ⟨R, 0, none⟩), .slice a m c] w fun e w' => e = .returned (.int .i64 code) ∧ Only None' w w' := by
  have hroom : (Rg.of first count base rs).room = count - many base rs := by
    unfold Rg.room Rg.of
    simp only
    rw [if_neg (by omega)]
    omega
  have hf : refuse (Rg.of first count base rs) (cutN m) = some code := by
    unfold refuse
    by_cases h1 : count < cutN m
    · rw [if_pos h1] at hcode
      rw [if_pos (by exact h1), hcode]
    · rw [if_neg h1] at hcode
      rw [if_neg (by exact h1), if_neg (by show ¬ base + many base rs < base + many base rs; omega), if_pos (by rw [hroom]; have := h.bd.room; omega), hcode]
  refine (append_no h.ring h.ok h.bd.dsk.at_ h.bd.calm.dead a m c hm hf).mono ?_
  rintro e w' ⟨rfl, q, rfl⟩
  exact ⟨rfl, (Only.refl _ _).drewN q⟩
end
end Go.Proofs.YteoeaojebklfjaaGreatDoor
namespace Go.Proofs.YteoeaojebklfjaaGreatDoor
open Go.RowKit Go.Maps
set_option linter.unusedVariables false

theorem open_nil (f c b : Int) (w : World) : Calls Tryz.prog 54 #[.pointer none, .int .i64 f, .int .i64 c, .int .i64 b] w fun e w' => e = .returned (.tuple #[.pointer none, .slice none 0 0, .int .i64 2]) ∧ w = w' := by
  go_enter Tryz.func54, Tryz.ntmps54
  go_wp2_with fail
  go_ret3
  exact ⟨rfl, rfl⟩
theorem append_nil (a : Option Addr) (n c : Nat) (w : World) : Calls Tryz.prog 48 #[.pointer none, .slice a n c] w fun e w' => e = .returned (.int .i64 2) ∧ w = w' := by
  have hc := ralive_nil w
  go_enter Tryz.func48, Tryz.ntmps48
  go_wp2_with fail
  refine hc.mono ?_
  rintro r w1 ⟨rfl, e⟩
  obtain rfl := e.symm
  clear hc
  go_wp2_with fail
  go_ret
  exact ⟨rfl, rfl⟩
def OpenBad (ln f c b : Int) : Prop := f < 0 ∨ c < 1 ∨ ln < c ∨ ln - c < f ∨ b < 0 ∨ 4611686018427387904 < b
set_option maxRecDepth 20000 in
theorem open_bad {w : World} {D : Nat} {F : Nat → Prop} {d : Dk} (hd : DiskAt w D F d) (f c b : Int) (h : OpenBad (d.lasts.length : Int) f c b) : Calls Tryz.prog 54 #[.pointer (some ⟨D, 0, none⟩), .int .i64 f, .int .i64 c, .int .i64 b] w fun e w' => e = .returned (.tuple #[.pointer none, .slice none 0 0, .int .i64 1]) ∧ w = w' := by
  have hmany := hd.ok.many
  have HLN := Lib.hid (len_any hd)
  obtain ⟨ln, hln⟩ : ∃ ln, ln = d.lasts.length := ⟨_, rfl⟩
  rw [← hln] at h hmany HLN
  unfold OpenBad at h
  have HH := Lib.hid h
  clear h hd hln
  by_cases h1 : f < 0
  · have d1 : decide (f < 0) = true := by simpa using h1
    clear h1 hmany
    go_enter Tryz.func54, Tryz.ntmps54
    go_wp2_with fail
    refine HLN.out.mono ?_
    rintro e w1 ⟨rfl, e⟩
    obtain rfl := e.symm
    go_wp2_with fail
    go_ret3
    exact ⟨rfl, rfl⟩
  have d1 : decide (f < 0) = false := by simpa using h1
  by_cases h2 : c < 1
  · have d2 : decide (c < 1) = true := by simpa using h2
    clear h1 h2 hmany
    go_enter Tryz.func54, Tryz.ntmps54
    go_wp2_with fail
    refine HLN.out.mono ?_
    rintro e w1 ⟨rfl, e⟩
    obtain rfl := e.symm
    go_wp2_with fail
    go_ret3
    exact ⟨rfl, rfl⟩
  have d2 : decide (c < 1) = false := by simpa using h2
  by_cases h3 : (ln : Int) < c
  · have d3 : decide ((ln : Int) < c) = true := by simpa using h3
    clear h1 h2 h3 hmany
    go_enter Tryz.func54, Tryz.ntmps54
    go_wp2_with fail
    refine HLN.out.mono ?_
    rintro e w1 ⟨rfl, e⟩
    obtain rfl := e.symm
    go_wp2_with fail
    go_ret3
    exact ⟨rfl, rfl⟩
  have d3 : decide ((ln : Int) < c) = false := by simpa using h3
  obtain ⟨m, hm⟩ : ∃ m : Int, (ln : Int) - c = m := ⟨_, rfl⟩
  have HW := Lib.hid (show wrap64 m = m from IntWalk.wrap64_in _ (by omega))
  by_cases h4 : m < f
  · have d4 : decide (m < f) = true := by simpa using h4
    clear h1 h2 h3 h4 hmany
    have a2 := HW.out
    go_enter Tryz.func54, Tryz.ntmps54
    go_wp2_with fail
    refine HLN.out.mono ?_
    rintro e w1 ⟨rfl, e⟩
    obtain rfl := e.symm
    go_wp2_with fail
    go_ret3
    exact ⟨rfl, rfl⟩
  have d4 : decide (m < f) = false := by simpa using h4
  by_cases h5 : b < 0
  · have d5 : decide (b < 0) = true := by simpa using h5
    clear h1 h2 h3 h4 h5 hmany
    have a2 := HW.out
    go_enter Tryz.func54, Tryz.ntmps54
    go_wp2_with fail
    refine HLN.out.mono ?_
    rintro e w1 ⟨rfl, e⟩
    obtain rfl := e.symm
    go_wp2_with fail
    go_ret3
    exact ⟨rfl, rfl⟩
  have d5 : decide (b < 0) = false := by simpa using h5
  have h6 : 4611686018427387904 < b := by
    have := HH.out
    omega
  have d6 : decide (4611686018427387904 < b) = true := by simpa using h6
  clear h1 h2 h3 h4 h5 h6 hmany
  have a2 := HW.out
  go_enter Tryz.func54, Tryz.ntmps54
  go_wp2_with fail
  refine HLN.out.mono ?_
  rintro e w1 ⟨rfl, e⟩
  obtain rfl := e.symm
  go_wp2_with fail
  go_ret3
  exact ⟨rfl, rfl⟩

structure Rk (w0 w : World) (R D : Nat) (F : Nat → Prop) (r : Rg) (d : Dk) (len n : Nat) : Prop where
  ring : RingAt w R D r
  dsk : Dsk w0 w D F d
  calm : d.Calm len n
  ok : r.Ok
  new : w0.heap.size ≤ R
  apart : ¬ F R
  fit : r.first + r.count ≤ len

theorem puts_live {len : Nat} (pl : Nat → Nat) : ∀ (ps : List Pc) (d : Dk) (n : Nat), d.Calm len n → ∃ d', Dk.puts pl ps d = (d', true) ∧ d'.Calm len (n + ps.length)
  | [], d, n, h => ⟨d, rfl, h⟩
  | p :: ps, d, n, h => by
    obtain ⟨d', h1, h2⟩ := puts_live pl ps _ _ (h.write (pl p.n) p.lay).2
    refine ⟨d', ?_, ?_⟩
    · unfold Dk.puts
      rw [h.due]
      exact h1
    · rw [List.length_cons, show n + (ps.length + 1) = n + 1 + ps.length by omega]
      exact h2
theorem app_refused {r : Rg} {d : Dk} {rec : Rec} {code : Int} (h : refuse r (cutN rec.length) = some code) : appR r d rec = (code, r, d) := by
  unfold refuse at h
  unfold appR
  split at h
  · rename_i g
    injection h with h
    rw [if_pos g, h]
  rename_i g
  rw [if_neg g]
  split at h
  · rename_i g
    injection h with h
    rw [if_pos g, h]
  rename_i g
  rw [if_neg g]
  split at h
  · rename_i g
    injection h with h
    rw [if_pos g, h]
  rename_i g
  rw [if_neg g]
  split at h
  · rename_i g
    injection h with h
    rw [if_pos g, h]
  · cases h
theorem app_free {r : Rg} {d d' : Dk} {rec : Rec} (h : refuse r (cutN rec.length) = none) (hd : Dk.puts r.place (cutR r.last rec) d = (d', true)) : appR r d rec = (0, { r with last := r.last + cutN rec.length, top := r.last + cutN rec.length }, d') := by
  unfold refuse at h
  unfold appR
  split at h
  · cases h
  rename_i g
  rw [if_neg g]
  split at h
  · cases h
  rename_i g
  rw [if_neg g]
  split at h
  · cases h
  rename_i g
  rw [if_neg g]
  split at h
  · cases h
  rename_i g
  rw [if_neg g, hd]
theorem refuse_room {r : Rg} {m : Nat} (ok : r.Ok) (h : refuse r m = none) : m ≤ r.count ∧ r.last = r.top ∧ m ≤ r.count - (r.last - r.base) ∧ r.last + m ≤ 4611686018427387904 := by
  have h1 := ok.lt
  unfold refuse at h
  split at h
  · cases h
  split at h
  · cases h
  rename_i g1 g2
  split at h
  · cases h
  rename_i g3
  split at h
  · cases h
  unfold Rg.room at g3
  rw [if_neg g2] at g3
  exact ⟨by omega, by omega, by omega, by omega⟩
theorem grown_ok {r : Rg} {m : Nat} (ok : r.Ok) (h : refuse r m = none) : ({ r with last := r.last + m, top := r.last + m } : Rg).Ok := by
  obtain ⟨h1, h2, h3, h4⟩ := refuse_room ok h
  have h5 := ok.bl
  have h6 := ok.room
  exact ⟨ok.count, ok.small, by show r.base ≤ r.last + m; omega, Nat.le_refl _, by show r.last + m ≤ r.base + r.count; omega, h4⟩

section
variable {w0 w w' : World} {R D : Nat} {F : Nat → Prop} {r : Rg} {d : Dk} {len n : Nat}
theorem Rk.only (h : Rk w0 w R D F r d len n) (o : Only None' w w') : Rk w0 w' R D F r d len n := ⟨h.ring.kept o fun e => e, h.dsk.new o, h.calm, h.ok, h.new, h.apart, h.fit⟩
theorem Rk.few {m : Nat} (h : Rk w0 w R D F r d len n) (hm : n ≤ m) : Rk w0 w R D F r d len m := ⟨h.ring, h.dsk, ⟨h.calm.dead, h.calm.set, h.calm.len, h.calm.few.mono hm⟩, h.ok, h.new, h.apart, h.fit⟩
theorem Rk.aside {S : Nat → Prop} (h : Rk w0 w R D F r d len n) (o : Only S w w') (hS : ∀ k, S k → w0.heap.size ≤ k ∧ k ≠ R ∧ ¬ F k) : Rk w0 w' R D F r d len n :=
  ⟨h.ring.kept o fun e => (hS R e).2.1 rfl, ⟨h.dsk.at_.only o fun k hk e => (hS k e).2.2 hk, h.dsk.fresh, h.dsk.only.cons_new o fun k hk => (hS k hk).1⟩, h.calm, h.ok, h.new, h.apart, h.fit⟩
theorem Rk.append (h : Rk w0 w R D F r d len n) (hn : n ≤ 800000) {g off c m : Nat} {rec : Rec} (hm : rec.length = m) (hr : Rd w 1 (.slice (some ⟨g, off, none⟩) m c) rec.length (bv rec)) (hc : m ≤ c) (hcm : c ≤ maxLen) (hgF : ¬ F g) (hgl : g < w.heap.size) (hgR : g ≠ R) (hb : m ≤ 140737488355328)
    {code : Int} {r' : Rg} {d' : Dk} (ha : appR r d rec = (code, r', d')) :
    Calls Tryz.prog 48 #[.pointer (some ⟨R, 0, none⟩), .slice (some ⟨g, off, none⟩) m c] w fun e w' => e = .returned (.int .i64 code) ∧ ∃ F', Rk w0 w' R D F' r' d' len (n + 65536) ∧ Kept (fun k => F k ∨ k = R) (fun k => F' k ∨ k = R) w w' := by
  subst hm
  cases hf : refuse r (cutN rec.length) with
  | some cd =>
    rw [app_refused hf] at ha
    injection ha with h1 h2
    injection h2 with h2 h3
    subst h1 h2 h3
    refine (append_no h.ring h.ok h.dsk.at_ h.calm.dead _ _ _ hb hf).mono ?_
    rintro e w' ⟨rfl, q, rfl⟩
    exact ⟨rfl, F, (h.only ((Only.refl None' w).drewN q)).few (by omega), Kept.new ((Only.refl None' w).drewN q)⟩
  | none =>
    obtain ⟨d2, hd1, hd2⟩ := puts_live r.place (cutR r.last rec) d n h.calm
    have hap := app_free hf hd1
    have hcut := (refuse_room h.ok hf).1
    refine (append_go h.ring h.ok h.dsk.at_ h.calm.dead (by rw [h.calm.len]; exact h.fit) h.calm.few (by omega) h.apart hr hc hcm hgF hgl hgR hb hf).mono ?_
    rintro e w' ⟨rfl, F', hR', hD', hnR, hk⟩
    rw [hap] at hR' hD' ⊢
    rw [hap] at ha
    injection ha with h1 h2
    injection h2 with h2 h3
    subst h1 h2 h3
    refine ⟨rfl, F', ⟨hR', ⟨hD', fun k hk' => ?_, ?_⟩, ⟨hd2.dead, hd2.set, hd2.len, hd2.few.mono ?_⟩, grown_ok h.ok hf, h.new, hnR, h.fit⟩, hk⟩
    · rcases hk.fresh k (Or.inl hk') with (h1 | h1) | h1
      · exact h.dsk.fresh k h1
      · rw [h1]; exact h.new
      · exact Nat.le_trans h.dsk.only.size h1
    · exact h.dsk.only.cons_new hk.only fun i hi => hi.elim (h.dsk.fresh i) fun e => e ▸ h.new
    · rw [cutR_length]
      have := h.ok.small
      omega
theorem rk_open (hd : Dsk w0 w D F d) (hc : d.Calm len n) (hn : n ≤ 900000) {first count base : Nat} (h1 : 1 ≤ count) (h2 : first + count ≤ len) (h3 : base ≤ 4611686018427387904) {f c b : Int} (hf : (first : Int) = f) (hcc : (count : Int) = c) (hb : (base : Int) = b) {r : Rg} (hr : Rg.opened first count base (gAt first d) = r) {rs : List Rec} (hrs : (runG count (gAt first d) count base [] [] base).1 = rs) {m : Nat} (hm : rs.length = m) :
    Calls Tryz.prog 54 #[.pointer (some ⟨D, 0, none⟩), .int .i64 f, .int .i64 c, .int .i64 b] w fun e w' => ∃ R a k, e = .returned (.tuple #[.pointer (some ⟨R, 0, none⟩), .slice a m k, .int .i64 0]) ∧ w.heap.size ≤ R ∧
      Rk w0 w' R D F r d len n ∧ Recs w' (fun k => w.heap.size ≤ k ∧ k ≠ R) (.slice a m k) rs ∧ Only None' w w' := by
  subst hf hcc hb hr hrs hm
  have hlen := hd.at_.ok.many
  rw [hc.len] at hlen
  refine (ropen_any (first := first) (count := count) (base := base) hd.at_ hc.dead (Nat.le_trans hc.few.waits (by omega)) h1 (by rw [hc.len]; exact h2) h3).mono ?_
  rintro e w' ⟨R, v, rfl, hR, hr, hrec, ho⟩
  obtain ⟨a, k, rfl⟩ := hrec.shape
  exact ⟨R, a, k, rfl, hR, ⟨hr, hd.new ho, hc, Rg.opened_ok h1 (by omega) h3, Nat.le_trans hd.only.size hR, fun hF => by have := hd.at_.lt hF; omega, h2⟩, hrec, ho⟩
theorem Rk.room_ (h : Rk w0 w R D F r d len n) {m : Int} (hm : (r.room : Int) = m) : Calls Tryz.prog 85 #[.pointer (some ⟨R, 0, none⟩)] w fun e w' => e = .returned (.int .i64 m) ∧ Only None' w w' := by
  subst hm
  refine (room_any h.ring h.ok).mono ?_
  rintro e w' ⟨rfl, q, rfl⟩
  exact ⟨rfl, (Only.refl _ _).drewN q⟩
end
theorem opened_none {first count base : Nat} {g : Nat → Sec} (hc : 1 ≤ count) (hz : ∀ i, i < count → seeG count g i = none) : Rg.opened first count base g = ⟨first, count, base, base, base⟩ ∧ (runG count g count base [] [] base).1 = [] := by
  have H : Holds count g base [] := Holds.none_at hz
  have h1 := told_none H hc
  have h2 := H.top hc
  refine ⟨?_, by rw [h1]⟩
  unfold Rg.opened
  rw [h1, h2]
  rfl
theorem see_zero {count : Nat} {g : Nat → Sec} {i : Nat} (h : g i = List.replicate 512 0) : seeG count g i = none := by
  unfold seeG
  rw [h, pieceOf_zs]
theorem new_read {len i : Nat} (h : i < len) : (Dk.new len).read i = List.replicate 512 0 := by
  unfold Dk.read Dk.new
  simp only [lastIx]
  rw [List.getD_eq_getElem?_getD, List.getElem?_replicate, if_pos h]
  rfl
end Go.Proofs.YteoeaojebklfjaaGreatDoor
namespace Go.Proofs.YteoeaojebklfjaaGreatDoor
set_option linter.unusedVariables false

def uv (n : Nat) : List UInt8 := if n < 128 then [UInt8.ofNat n] else UInt8.ofNat (n % 128 + 128) :: uv (n / 128)
termination_by n
decreasing_by omega
theorem uv_low {n : Nat} (h : n < 128) : uv n = [UInt8.ofNat n] := by rw [uv, if_pos h]
theorem uv_high {n : Nat} (h : ¬ n < 128) : uv n = UInt8.ofNat (n % 128 + 128) :: uv (n / 128) := by rw [uv, if_neg h]
def firstL : List UInt8 → Nat → Nat → Nat × Nat
  | [], _, _ => (0, 0)
  | c :: r, i, u => if i = 10 ∨ (i = 9 ∧ 1 < c.toNat) then (0, 0) else if c.toNat < 128 then (u + c.toNat % 128 * 128 ^ i, i + 1) else firstL r (i + 1) (u + c.toNat % 128 * 128 ^ i)
theorem toNat_of {n : Nat} (h : n < 256) : (UInt8.ofNat n).toNat = n := by
  rw [UInt8.toNat_ofNat']
  omega
theorem uv_pos (n : Nat) : 0 < (uv n).length := by
  rw [uv]
  split <;> simp
theorem first_uv (n : Nat) : ∀ (i u : Nat) (r : List UInt8), i + (uv n).length ≤ 9 → firstL (uv n ++ r) i u = (u + n * 128 ^ i, i + (uv n).length) := by
  induction n using Nat.strongRecOn with
  | _ n ih =>
    intro i u r hl
    by_cases h : n < 128
    · rw [uv_low h] at hl ⊢
      simp only [List.length_singleton] at hl
      simp only [List.cons_append, List.nil_append, firstL, toNat_of (show n < 256 by omega), List.length_singleton]
      rw [if_neg (by omega), if_pos h, Nat.mod_eq_of_lt h]
    · rw [uv_high h] at hl ⊢
      simp only [List.length_cons] at hl
      have hp := uv_pos (n / 128)
      simp only [List.cons_append, firstL, toNat_of (show n % 128 + 128 < 256 by omega), List.length_cons]
      rw [if_neg (by omega), if_neg (by omega), ih (n / 128) (by omega) (i + 1) _ r (by omega)]
      have e : (n % 128 + 128) % 128 = n % 128 := by omega
      rw [e, Nat.pow_succ]
      have e2 : n / 128 * (128 ^ i * 128) = (n / 128 * 128) * 128 ^ i := by rw [Nat.mul_comm (128 ^ i) 128, Nat.mul_assoc]
      rw [e2, Nat.add_assoc, ← Nat.add_mul]
      have e3 : n % 128 + n / 128 * 128 = n := by omega
      rw [e3]
      exact Prod.ext rfl (by simp only; omega)
theorem uv_len_le (k : Nat) : ∀ n, n < 128 ^ (k + 1) → (uv n).length ≤ k + 1 := by
  induction k with
  | zero =>
    intro n h
    rw [uv_low (by simpa using h)]
    simp
  | succ k ih =>
    intro n h
    by_cases h1 : n < 128
    · rw [uv_low h1]; simp
    · rw [uv_high h1, List.length_cons]
      have := ih (n / 128) (by rw [Nat.pow_succ] at h; exact Nat.div_lt_of_lt_mul (by rw [Nat.mul_comm]; exact h))
      omega
theorem uv_len {n : Nat} (h : n ≤ 2147483647) : (uv n).length ≤ 5 := uv_len_le 4 n (by omega)
theorem uv_last (n : Nat) : 1 < (uv n).length → (uv n).getD ((uv n).length - 1) 0 ≠ 0 := by
  induction n using Nat.strongRecOn with
  | _ n ih =>
    intro hl
    by_cases h : n < 128
    · rw [uv_low h] at hl; simp at hl
    · rw [uv_high h] at hl ⊢
      by_cases h2 : n / 128 < 128
      · rw [uv_low h2]
        simp only [List.length_cons, List.length_nil, List.getD_cons_succ, Nat.add_sub_cancel, List.getD_cons_zero]
        intro e
        have := congrArg UInt8.toNat e
        rw [toNat_of (by omega)] at this
        have h0 : (0 : UInt8).toNat = 0 := rfl
        rw [h0] at this
        omega
      · have hp : 1 < (uv (n / 128)).length := by
          rw [uv_high h2, List.length_cons]
          have := uv_pos (n / 128 / 128)
          omega
        have := ih (n / 128) (by omega) hp
        rw [List.length_cons, Nat.add_sub_cancel]
        obtain ⟨m, hm⟩ : ∃ m, (uv (n / 128)).length = m + 1 := ⟨(uv (n / 128)).length - 1, by omega⟩
        rw [hm] at this ⊢
        simpa using this
def rdCount (most : Int) (b : List UInt8) : Option (Nat × List UInt8) :=
  let (u, n) := firstL b 0 0
  if n = 0 ∨ (1 < n ∧ b.getD (n - 1) 0 = 0) then none else if 0 ≤ most ∧ u ≤ 2147483647 ∧ (u : Int) ≤ most then some (u, b.drop n) else none
theorem rd_uv {n : Nat} {most : Int} (h : n ≤ 2147483647) (hm : (n : Int) ≤ most) (r : List UInt8) : rdCount most (uv n ++ r) = some (n, r) := by
  have h5 := uv_len h
  have hp := uv_pos n
  unfold rdCount
  rw [first_uv n 0 0 r (by omega)]
  simp only [Nat.zero_add, Nat.pow_zero, Nat.mul_one]
  rw [if_neg ?_, if_pos ⟨by omega, h, hm⟩, List.drop_left]
  rintro (h1 | ⟨h1, h2⟩)
  · omega
  · refine uv_last n h1 ?_
    rw [List.getD_eq_getElem?_getD] at h2 ⊢
    rwa [List.getElem?_append_left (by omega)] at h2
def rdStr (most : Int) (b : List UInt8) : Option (List UInt8 × List UInt8) :=
  match rdCount most b with
  | some (n, r) => if n ≤ r.length then some (r.take n, r.drop n) else none
  | none => none
theorem rd_str {t : List UInt8} {most : Int} (h : t.length ≤ 2147483647) (hm : (t.length : Int) ≤ most) (r : List UInt8) : rdStr most (uv t.length ++ t ++ r) = some (t, r) := by
  unfold rdStr
  rw [List.append_assoc, rd_uv h hm]
  simp only
  rw [if_pos (by simp), List.take_left, List.drop_left]
end Go.Proofs.YteoeaojebklfjaaGreatDoor
namespace Go.Proofs.YteoeaojebklfjaaGreatDoor
set_option linter.unusedVariables false

def trimR (s : List UInt8) : List UInt8 := (s.reverse.dropWhile fun c => c == 0).reverse
def padP (t : List UInt8) : List UInt8 := t ++ List.replicate (512 - t.length) 0
theorem trimR_pre (s : List UInt8) : ∃ k, s = trimR s ++ List.replicate k 0 := by
  have key : ∀ l : List UInt8, ∃ k, l = List.replicate k 0 ++ l.dropWhile fun c => c == 0 := by
    intro l
    induction l with
    | nil => exact ⟨0, rfl⟩
    | cons c l ih =>
      by_cases h : c = 0
      · obtain ⟨k, hk⟩ := ih
        refine ⟨k + 1, ?_⟩
        subst h
        rw [List.dropWhile_cons_of_pos (by simp), List.replicate_succ, List.cons_append, ← hk]
      · exact ⟨0, by rw [List.dropWhile_cons_of_neg (by simpa using h)]; rfl⟩
  obtain ⟨k, hk⟩ := key s.reverse
  refine ⟨k, ?_⟩
  have := congrArg List.reverse hk
  rw [List.reverse_reverse, List.reverse_append, List.reverse_replicate] at this
  exact this
theorem trimR_len (s : List UInt8) : (trimR s).length ≤ s.length := by
  obtain ⟨k, hk⟩ := trimR_pre s
  have := congrArg List.length hk
  rw [List.length_append] at this
  omega
theorem pad_trim {s : List UInt8} (h : s.length = 512) : padP (trimR s) = s := by
  obtain ⟨k, hk⟩ := trimR_pre s
  have := congrArg List.length hk
  rw [List.length_append, List.length_replicate] at this
  unfold padP
  rw [show 512 - (trimR s).length = k by omega]
  exact hk.symm
theorem pad_len {t : List UInt8} (h : t.length ≤ 512) : (padP t).length = 512 := by
  unfold padP
  rw [List.length_append, List.length_replicate]
  omega
def recOne (p : Nat × List UInt8) : List UInt8 := uv p.1 ++ (uv (trimR p.2).length ++ trimR p.2)
def recB (l : List (Nat × List UInt8)) : List UInt8 := l.flatMap recOne
def replayL (most : Int) : Nat → List UInt8 → Option (List (Nat × List UInt8))
  | _, [] => some []
  | 0, _ :: _ => none
  | f + 1, b => match rdCount most b with
    | none => none
    | some (n, r) => match rdStr 512 r with
      | none => none
      | some (t, r') => (replayL most f r').map fun l => (n, padP t) :: l
theorem recOne_pos (p : Nat × List UInt8) : 0 < (recOne p).length := by
  unfold recOne
  rw [List.length_append]
  have := uv_pos p.1
  omega
theorem replay_rec {most : Int} (hm : most ≤ 2147483647) : ∀ (l : List (Nat × List UInt8)) (f : Nat), (∀ p ∈ l, (p.1 : Int) ≤ most ∧ p.2.length = 512) → (recB l).length ≤ f → replayL most f (recB l) = some l
  | [], f, _, _ => by cases f <;> rfl
  | p :: l, f, h, hf => by
    have e : recB (p :: l) = recOne p ++ recB l := rfl
    have hp := recOne_pos p
    rw [e, List.length_append] at hf
    obtain ⟨f, rfl⟩ : ∃ g, f = g + 1 := ⟨f - 1, by omega⟩
    obtain ⟨h1, h2⟩ := h p (by simp)
    have ht := trimR_len p.2
    have hne : recB (p :: l) ≠ [] := by
      intro e0
      rw [e] at e0
      have := congrArg List.length e0
      rw [List.length_append] at this
      simp only [List.length_nil] at this
      omega
    have step : replayL most (f + 1) (recB (p :: l)) = match rdCount most (recB (p :: l)) with
        | none => none
        | some (n, r) => match rdStr 512 r with
          | none => none
          | some (t, r') => (replayL most f r').map fun l => (n, padP t) :: l := by
      cases hb : recB (p :: l) with
      | nil => exact absurd hb hne
      | cons c b => rfl
    rw [step, e]
    have e2 : recOne p ++ recB l = uv p.1 ++ (uv (trimR p.2).length ++ trimR p.2 ++ recB l) := by
      unfold recOne
      simp only [List.append_assoc]
    rw [e2, rd_uv (by omega) h1]
    simp only
    rw [rd_str (by omega) (by omega)]
    simp only
    rw [replay_rec hm l f (fun q hq => h q (by simp [hq])) (by omega), pad_trim h2]
    rfl
theorem recOne_len {p : Nat × List UInt8} (h1 : p.1 ≤ 2147483647) (h2 : p.2.length = 512) : (recOne p).length ≤ 522 := by
  have ht := trimR_len p.2
  have h3 := uv_len h1
  have h4 := uv_len (n := (trimR p.2).length) (by omega)
  unfold recOne
  simp only [List.length_append]
  omega
theorem recB_len : ∀ l : List (Nat × List UInt8), (∀ p ∈ l, p.1 ≤ 2147483647 ∧ p.2.length = 512) → (recB l).length ≤ 522 * l.length
  | [], _ => by simp [recB]
  | p :: l, h => by
    have h1 := recOne_len (h p (by simp)).1 (h p (by simp)).2
    have h2 := recB_len l fun q hq => h q (by simp [hq])
    have e : recB (p :: l) = recOne p ++ recB l := rfl
    rw [e, List.length_append, List.length_cons]
    omega
end Go.Proofs.YteoeaojebklfjaaGreatDoor
