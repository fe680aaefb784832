/- Open: the walk. -/
import Derived.Test.YteoeaojebklfjaaI2
import Derived.Test.YteoeaojebklfjaaI3
import Derived.BigRegion
namespace Go.Proofs.Yteoeaojebklfjaa
open Go.RowKit Go.Maps
set_option linter.unusedVariables false

/-- a disk's sectors, from one on -/
def gAt (first : Nat) (d : Dk) : Nat → Sec := fun i => d.read (first + i)
/-- a ring that was opened just now -/
def Rg.opened (first count base : Nat) (g : Nat → Sec) : Rg := ⟨first, count, base, (runG count g count base [] [] base).2, topG count g base count⟩
/-- ... at the k'th sector -/
def Rg.at_ (first count base : Nat) (g : Nat → Sec) (k : Nat) : Rg := ⟨first, count, base, base, topG count g base k⟩
theorem Rg.at_ok {first count base k : Nat} {g : Nat → Sec} (h1 : 1 ≤ count) (h2 : first + count ≤ 65536) (h3 : base ≤ 4611686018427387904) : (Rg.at_ first count base g k).Ok :=
  ⟨h1, h2, Nat.le_refl _, topG_le k, by show base ≤ base + count; omega, topG_big h3 k⟩
theorem see_at {r : Rg} {d : Dk} {k : Nat} (h : k < r.count) : r.see d (r.first + k) = seeG r.count (gOf r d) k := by
  have := see_mod r d k
  rwa [place_mod, Nat.mod_eq_of_lt h] at this
theorem Rg.opened_ok {first count base : Nat} {g : Nat → Sec} (h1 : 1 ≤ count) (h2 : first + count ≤ 65536) (h3 : base ≤ 4611686018427387904) : (Rg.opened first count base g).Ok := by
  have h4 := runG_last (count := count) (g := g) count base [] [] base (Nat.le_refl _)
  refine ⟨h1, h2, h4.1, ?_, h4.2, topG_big h3 _⟩
  exact runG_top (fun n p hp => pieceG_top h1 hp) _ _ _ _ _ (topG_le _)

theorem max_nat (a b : Nat) : (if a < b then (b : Int) else (a : Int)) = ((max a b : Nat) : Int) := by
  split <;> omega

set_option maxRecDepth 20000 in
set_option maxHeartbeats 4000000 in
theorem ropen_any {w : World} {D : Nat} {F : Nat → Prop} {d : Dk} (hd : DiskAt w D F d) (hdd : d.dead = false) (hw : d.waits.length ≤ 1000000) {first count base : Nat} (h1 : 1 ≤ count) (h2 : first + count ≤ d.lasts.length) (h3 : base ≤ 4611686018427387904) :
    Calls Try.prog 38 #[.pointer (some ⟨D, 0, none⟩), .int .i64 (first : Int), .int .i64 (count : Int), .int .i64 (base : Int)] w fun e w' => ∃ R v, e = .returned (.tuple #[.pointer (some ⟨R, 0, none⟩), v, .int .i64 0]) ∧ w.heap.size ≤ R ∧
      RingAt w' R D (Rg.opened first count base (gAt first d)) ∧ Recs w' (fun k => w.heap.size ≤ k ∧ k ≠ R) v (runG count (gAt first d) count base [] [] base).1 ∧ Only None' w w' := by
  have hmany := (DiskAt.ok hd).many
  have HLN := Lib.hid (len_any hd)
  have HD := Lib.hid hd
  have HDD := Lib.hid (And.intro hdd (And.intro h2 hw))
  obtain ⟨ln, hln⟩ : ∃ ln, ln = d.lasts.length := ⟨_, rfl⟩
  rw [← hln] at h2 hmany HLN
  have HH := Lib.hid (And.intro h1 (And.intro (show first + count ≤ 65536 by omega) h3))
  have f1 : decide ((first : Int) < 0) = false := by simp
  have f2 : decide ((count : Int) < 1) = false := by simp; omega
  have f3 : decide (ln < count) = false := by simp; omega
  have f3' : decide ((ln : Int) < (count : Int)) = false := by simp; omega
  obtain ⟨m, hm⟩ : ∃ m, m = ln - count := ⟨_, rfl⟩
  have f5 : (ln : Int) - (count : Int) = (m : Int) := by omega
  have f4 : wrap64 (m : Int) = (m : Int) := IntWalk.wrap64_in _ (by omega)
  have f6 : decide (m < first) = false := by simp; omega
  have f6' : decide ((m : Int) < (first : Int)) = false := by simp; omega
  have f7 : decide ((base : Int) < 0) = false := by simp
  have f8 : decide ((4611686018427387904 : Int) < (base : Int)) = false := by simp; omega
  have f8' : decide (4611686018427387904 < base) = false := by simp; omega
  obtain ⟨G, hG⟩ : ∃ G, G = gAt first d := ⟨_, rfl⟩
  rw [← hG]
  have HG := Lib.hid hG
  clear hd hdd hw h1 h2 h3 hln hmany hm hG
  go_enter Try.func38, Try.ntmps38
  go_wp2_with fail
  refine HLN.out.mono ?_
  rintro e w1 ⟨rfl, e⟩
  obtain rfl := e.symm
  clear HLN
  go_wp2_with fail
  clear f1 f2 f3 f3' f4 f5 f6 f6' f7 f8 f8'
  have X0 : RingAt (w.alloc (.cells #[.pointer (some ⟨D, 0, none⟩), .int .i64 (first : Int), .int .i64 (count : Int), .int .i64 (base : Int), .int .i64 (base : Int), .int .i64 (base : Int)] 117)) w.heap.size D (Rg.at_ first count base G 0) := cells_new w _ 117
  have HX := Lib.hid (And.intro X0 ((Only.refl None' w).alloc (.cells #[.pointer (some ⟨D, 0, none⟩), .int .i64 (first : Int), .int .i64 (count : Int), .int .i64 (base : Int), .int .i64 (base : Int), .int .i64 (base : Int)] 117)))
  obtain ⟨R, hR⟩ : ∃ R, R = w.heap.size := ⟨_, rfl⟩
  rw [← hR] at HX ⊢
  have HRR := Lib.hid (show w.heap.size ≤ R by omega)
  clear X0 hR
  go_loopw [58] (fun i wr => ∃ (k : Nat), k ≤ count ∧ i = .int .i64 (k : Int) ∧ Hid (RingAt wr R D (Rg.at_ first count base G k) ∧ Only None' w wr)) (fun i wr => count - (intOf i).toNat)
  case atStart => exact ⟨0, by omega, rfl, HX⟩
  case round =>
    obtain ⟨k, hk, rfl, HL⟩ := hrel
    have HOK := Lib.hid (Rg.at_ok (g := G) (k := k) HH.out.1 HH.out.2.1 HH.out.2.2)
    by_cases hlt : k < count
    · have hsee : (Rg.at_ first count base G k).see d (first + k) = seeG count G k := by
        rw [HG.out]; exact see_at (r := Rg.at_ first count base (gAt first d) k) hlt
      have hcall := rread_any HL.out.1 HOK.out (HD.out.new HL.out.2) HDD.out.1 (i := first + k) (by have := HDD.out.2.1; omega) HDD.out.2.2 hsee
      obtain ⟨fk, hfk⟩ : ∃ fk, fk = first + k := ⟨_, rfl⟩
      rw [← hfk] at hcall
      have e1 : wrap64 (fk : Int) = (fk : Int) := by have := HH.out.2.1; exact IntWalk.wrap64_in _ (by omega)
      have HE := Lib.hid (show (first : Int) + (k : Int) = (fk : Int) by omega)
      have e2 := HE.out
      clear hfk hsee
      cases hs : seeG count G k with
      | none =>
        rw [hs] at hcall
        have HC := Lib.hid hcall
        have htop : Rg.at_ first count base G (k + 1) = Rg.at_ first count base G k := by unfold Rg.at_; rw [show topG count G base (k + 1) = topG count G base k by simp [topG, hs]]
        have HT := Lib.hid htop
        clear hcall hs htop
        go_wp2_with fail
        refine HC.out.mono ?_
        rintro e w2 ⟨o2, n', b', a', k', c', rfl⟩
        have HL2 := Lib.hid (And.intro (show RingAt (w2.alloc (.cells #[.int .i64 n', .bool b', .slice a' k' c'] 119)) R D (Rg.at_ first count base G k) from HL.out.1.kept (o2.alloc _) fun e => e) (HL.out.2.trans (o2.alloc (.cells #[.int .i64 n', .bool b', .slice a' k' c'] 119))))
        clear o2
        go_wp2_with fail
        go_roundw
        case rel => exact ⟨k + 1, by omega, next_int (by have := HH.out.2.1; omega), by rw [HT.out]; exact HL2⟩
        case measure => exact meas hlt (by have := HH.out.2.1; omega)
      | some p =>
        rw [hs] at hcall
        have HC := Lib.hid hcall
        have HPT := Lib.hid (seeG_ok hs).top
        have htop : topG count G base (k + 1) = max (topG count G base k) p.n := by simp [topG, hs]
        have HT := Lib.hid htop
        have HTB := Lib.hid (topG_big (count := count) (g := G) HH.out.2.2 k)
        clear hcall hs htop
        obtain ⟨pn, la, data⟩ := p
        simp only at HT HPT
        go_wp2_with fail
        refine HC.out.mono ?_
        rintro e w2 ⟨o2, v, rfl, hv, hfr⟩
        obtain ⟨va, vk, vc, rfl⟩ := hv.rd.shape'
        have oA := o2.alloc (.cells #[.int .i64 (pn : Int), .bool la, .slice va vk vc] 119)
        have RA : RingAt (w2.alloc (.cells #[.int .i64 (pn : Int), .bool la, .slice va vk vc] 119)) R D (Rg.at_ first count base G k) := HL.out.1.kept oA fun e => e
        have TA := cells_new w2 [.int .i64 (pn : Int), .bool la, .slice va vk vc] 119
        have HL2 := Lib.hid (And.intro RA (HL.out.2.trans oA))
        have lR := RA.lt
        have ltw := HL.out.1.lt
        have o2s := o2.size
        obtain ⟨wA, hwA⟩ : ∃ wA, wA = w2.alloc (.cells #[.int .i64 (pn : Int), .bool la, .slice va vk vc] 119) := ⟨_, rfl⟩
        obtain ⟨T, hT⟩ : ∃ T, T = w2.heap.size := ⟨_, rfl⟩
        have hRT : ¬ R = T := by rw [hT]; omega
        have hTR : ¬ T = R := fun e => hRT e.symm
        have eT := hT.symm
        have eA := hwA.symm
        rw [← hwA] at HL2 TA RA lR
        rw [← hT] at TA
        obtain ⟨tk, htk⟩ : ∃ tk, tk = topG count G base k := ⟨_, rfl⟩
        have RA' : RingAt wA R D ⟨first, count, base, base, tk⟩ := by rw [htk]; exact RA
        have r5 := RA'.is 5 _ rfl
        have rz := RA'.thaw 5
        have t0 := TA.is 0 _ rfl
        have HRA := Lib.hid RA'
        have HTK := Lib.hid htk
        clear o2 hv hfr oA RA TA hwA hT htk RA' o2s
        go_wp2_with fail
        go_region
        all_goals (
          go_wp2_with fail
          go_roundw
          case rel =>
            refine ⟨k + 1, by omega, next_int (by have := HH.out.2.1; omega), Lib.hid ⟨?_, ?_⟩⟩
            · have := HRA.out.set (i := 5) (by simp) (.int .i64 ((max tk pn : Nat) : Int))
              have e : Rg.at_ first count base G (k + 1) = ⟨first, count, base, base, max tk pn⟩ := by unfold Rg.at_; rw [HT.out, HTK.out]
              rw [e, max_nat]
              first | exact CellsR.kept this ((Only.refl None' _).drew) fun e => e | (trace_state; fail)
            · first | exact ((HL2.out.2).setFresh HRR.out _ _).drew | (trace_state; fail)
          case measure => exact meas hlt (by have := HH.out.2.1; omega))
    · obtain rfl : k = count := by omega
      have HRC := Lib.hid (records_any HL.out.1 HOK.out rfl (HD.out.new HL.out.2) HDD.out.1 (fun hF => by have := HD.out.lt hF; have := HRR.out; omega) HDD.out.2.1 HDD.out.2.2 (fun n p hp => pieceG_top HH.out.1 (by rw [HG.out] at hp ⊢; exact hp)))
      have HRL := Lib.hid HL.out.1.lt
      clear hk hlt
      go_wp2_with fail
      refine HRC.out.mono ?_
      rintro e w2 ⟨v, rfl, hrec, hring, ho⟩
      have hg : gOf (Rg.at_ first k base G k) d = G := by rw [HG.out]; rfl
      rw [hg] at hrec hring
      change Recs w2 _ v (runG k G k base [] [] base).1 at hrec
      obtain ⟨rs, hrs⟩ : ∃ rs, rs = (runG k G k base [] [] base).1 := ⟨_, rfl⟩
      rw [← hrs] at hrec
      have HRS := Lib.hid hrs
      obtain ⟨a', c', rfl⟩ := hrec.shape
      clear hrs hg
      obtain ⟨nn, hnn⟩ : ∃ nn, nn = rs.length := ⟨_, rfl⟩
      rw [← hnn] at hrec ⊢
      have HZ := Lib.hid (And.intro hrec (And.intro hring ho))
      clear hnn
      clear hrec hring ho
      go_wp2_with fail
      go_ret3
      obtain ⟨hrec, hring, ho⟩ := HZ.out
      rw [HRS.out] at hrec
      have hrec2 := hrec.mono (P' := fun i => w.heap.size ≤ i ∧ i ≠ R) fun i hi hi' => ⟨by have := HL.out.2.size; omega, by have := HRL.out; omega⟩
      exact ⟨R, _, rfl, HRR.out, hring, hrec2, HL.out.2.trans2 ho fun i hi e => by have := HRR.out; omega⟩
end Go.Proofs.Yteoeaojebklfjaa
