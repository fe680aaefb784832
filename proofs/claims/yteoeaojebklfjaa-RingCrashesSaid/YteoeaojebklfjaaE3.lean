/- works: the walk. -/
import Derived.Test.YteoeaojebklfjaaE2
namespace Go.Proofs.Yteoeaojebklfjaa
open Go.RowKit Go.Maps
set_option linter.unusedVariables false

theorem rd_lit (w : World) (t : TypeId) (l : List Bool) (cs : Array Value) (h : cs = (bo l).toArray) {n c : Nat} (hn : n = l.length) (hc : n ≤ c) (hm : c ≤ maxLen) : Rd (w.alloc (.cells cs t)) 1 (.slice (some ⟨w.heap.size, 0, none⟩) n c) n (bo l) := by
  subst h hn
  refine ⟨by simp [bo], .inr ⟨_, c, rfl, hc, hm, fun j u hu => ?_⟩⟩
  rw [add_mid' (⟨w.heap.size, 0, none⟩) j rfl, Nat.zero_add, World.cell?_alloc_new]
  simpa using hu

def x0 : Dk := Dk.new 3
def x1 : Dk := (x0.wrote 1 (sec 97)).tick
def x2 : Dk := x1.tick.flushed
def x3 : Dk := (x2.wrote 1 (sec 98)).tick
def x4 : Dk := (x3.wrote 2 (sec 99)).tick
def x5 : Dk := x4.crashed [false, true]
def x6 : Dk := x5.reopened
theorem few0 : x0.Few 0 := Dk.Few.new
theorem few1 : x1.Few 1 := few0.wroteTick _ _
theorem few2 : x2.Few 2 := few1.tick.settled _
theorem few3 : x3.Few 3 := few2.wroteTick _ _
theorem few4 : x4.Few 4 := few3.wroteTick _ _
theorem few6 : x6.Few 0 := Dk.Few.reopened
theorem x4_read : x4.read 1 = sec 98 := rfl
theorem x6_read1 : x6.read 1 = sec 97 := rfl
theorem x6_read2 : x6.read 2 = sec 99 := rfl
theorem x6_len : x6.lasts.length = 3 := rfl
theorem x4_len : x4.lasts.length = 3 := rfl

theorem outF {w : World} {v : Value} {F : Nat → Prop} {g : Nat} (hv : v.ownBlock = some g) (hg : w.heap.size ≤ g) (hF : ∀ k, F k → k < w.heap.size) : ∀ j, v.ownBlock = some j → ¬ F j := by
  intro j hj e
  rw [hv] at hj
  injection hj with hj
  subst hj
  have := hF _ e
  omega

set_option maxRecDepth 20000 in
theorem works_any (w : World) : Calls Try.prog 12 #[] w fun r w' => r = .returned (.bool true) ∧ Only None' w w' := by
  go_enter Try.func12, Try.ntmps12
  go_wp2_with fail
  refine (new_dsk 3 3 rfl w _ (Only.refl _ _) (by decide) (by decide)).mono ?_
  rintro r w1 ⟨D, F1, rfl, h1, -, -⟩
  have S1 := Lib.hid (show Dsk w w1 D F1 x0 from h1)
  clear h1
  go_wp2_with fail
  refine (full_lit 97 97 rfl _).mono ?_
  rintro r w2 ⟨g, rfl, hg, hv, ho⟩
  have S2 := Lib.hid (S1.out.new ho)
  have V2 := Lib.hid hv
  have A2 := Lib.hid (outF (F := F1) (v := .slice (some ⟨g, 0, none⟩) 512 512) rfl hg fun k hk => S1.out.at_.lt hk)
  clear hg hv ho
  go_wp2_with fail
  refine (S2.out.write (i := 1) rfl few0 (by decide) rfl (by decide) V2.out.rd A2.out (sec_length _) (e := 0) rfl (d' := x1) rfl).mono ?_
  rintro r w3 ⟨rfl, F3, h1, -⟩
  have S3 := Lib.hid h1
  clear h1
  go_wp2_with fail
  refine (S3.out.flush few1 (by decide) rfl (e := 0) rfl (d' := x2) rfl).mono ?_
  rintro r w4 ⟨rfl, F4, h1, -⟩
  have S4 := Lib.hid h1
  clear h1
  go_wp2_with fail
  refine (full_lit 98 98 rfl _).mono ?_
  rintro r w5 ⟨g5, rfl, hg, hv, ho⟩
  have S5 := Lib.hid (S4.out.new ho)
  have V5 := Lib.hid hv
  have A5 := Lib.hid (outF (F := F4) (v := .slice (some ⟨g5, 0, none⟩) 512 512) rfl hg fun k hk => S4.out.at_.lt hk)
  clear hg hv ho
  go_wp2_with fail
  refine (S5.out.write (i := 1) rfl few2 (by decide) rfl (by decide) V5.out.rd A5.out (sec_length _) (e := 0) rfl (d' := x3) rfl).mono ?_
  rintro r w6 ⟨rfl, F6, h1, -⟩
  have S6 := Lib.hid h1
  clear h1
  go_wp2_with fail
  refine (full_lit 99 99 rfl _).mono ?_
  rintro r w7 ⟨g7, rfl, hg, hv, ho⟩
  have S7 := Lib.hid (S6.out.new ho)
  have V7 := Lib.hid hv
  have A7 := Lib.hid (outF (F := F6) (v := .slice (some ⟨g7, 0, none⟩) 512 512) rfl hg fun k hk => S6.out.at_.lt hk)
  clear hg hv ho
  go_wp2_with fail
  refine (S7.out.write (i := 2) rfl few3 (by decide) rfl (by decide) V7.out.rd A7.out (sec_length _) (e := 0) rfl (d' := x4) rfl).mono ?_
  rintro r w8 ⟨rfl, F8, h1, -⟩
  have S8 := Lib.hid h1
  clear h1
  go_wp2_with fail
  refine (S8.out.read few4 (by decide) rfl (i := 1) rfl (by rw [x4_len]; decide) x4_read).mono ?_
  rintro r w9 ⟨g9, o9, c9, rfl, hv, -, h1, -⟩
  have S9 := Lib.hid h1
  have k9 := sec_cell hv (j := 0) (by decide)
  rw [Nat.add_zero, show ((98 : UInt8).toNat : Int) = 98 from rfl] at k9
  clear h1 hv
  have S9' := Lib.hid (S9.out.new ((Only.refl None' w9).alloc (.cells #[.bool false, .bool true] 4)))
  have R9 := Lib.hid (rd_lit w9 4 [false, true] #[.bool false, .bool true] rfl (n := 2) (c := 2) rfl (by decide) (by unfold maxLen; decide))
  have A9 := Lib.hid (outF (F := F8) (v := .slice (some ⟨w9.heap.size, 0, none⟩) 2 2) rfl (Nat.le_refl _) fun k hk => S9.out.at_.lt hk)
  go_wp2_with fail
  refine (S9'.out.crash few4 (by decide) rfl (keep := [false, true]) R9.out (fun _ => A9.out) (d' := x5) rfl).mono ?_
  rintro r w10 ⟨rfl, F10, h1, -⟩
  have S10 := Lib.hid h1
  clear h1 k9
  go_wp2_with fail
  refine (S10.out.isDead (b := true) rfl).mono ?_
  rintro r w' ⟨rfl, rfl⟩
  go_wp2_with fail
  refine (S10.out.reopen rfl (d' := x6) rfl).mono ?_
  rintro r w11 ⟨D', F11, rfl, h1, -, -, -⟩
  have S11 := Lib.hid h1
  clear h1
  go_wp2_with fail
  refine (S11.out.read few6 (by decide) rfl (i := 1) rfl (by rw [x6_len]; decide) x6_read1).mono ?_
  rintro r w12 ⟨ga, oa, ca, rfl, hva, hga, h1, -⟩
  have S12 := Lib.hid h1
  have VA := Lib.hid hva
  clear h1 hva
  go_wp2_with fail
  refine (S12.out.read few6 (by decide) rfl (i := 2) rfl (by rw [x6_len]; decide) x6_read2).mono ?_
  rintro r w13 ⟨gb, ob, cb, rfl, hvb, -, h1, ho⟩
  have S13 := Lib.hid h1
  have ka := sec_cell (VA.out.only ho fun _ _ h => h) (j := 511) (by decide)
  have kb := sec_cell hvb (j := 0) (by decide)
  rw [show ((97 : UInt8).toNat : Int) = 97 from rfl] at ka
  rw [Nat.add_zero, show ((99 : UInt8).toNat : Int) = 99 from rfl] at kb
  clear h1 hvb ho
  go_wp2_with fail
  go_ret
  exact ⟨rfl, S13.out.only⟩
end Go.Proofs.Yteoeaojebklfjaa
