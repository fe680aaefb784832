/- The walk of butterylaw15.BallotCounts. -/
import Derived.Test.YtochcilkpjhmiaaL0
namespace Go.Proofs.Ytochcilkpjhmiaa
open Go.RowKit

set_option maxHeartbeats 1000000 in
theorem counts_walk (p p' p'' : Option Addr) (n n' n'' cap cap' cap'' : Nat) (vs votes at' : List Int) (w : World) (h : RI w p n cap vs) (h' : RI w p' n' cap' votes) (h'' : RI w p'' n'' cap'' at')
    (hcap : p = none → cap = 0) (hcap' : p' = none → cap' = 0) (hcap'' : p'' = none → cap'' = 0) :
    Calls Try.prog 5 #[.slice p n cap, .slice p' n' cap', .slice p'' n'' cap''] w fun e w' => e = .returned (.bool true) ∧ Below w.heap.size w w' := by
  have H := Lib.hid h
  have H' := Lib.hid h'
  have H'' := Lib.hid h''
  have HC := Lib.hid hcap
  have HC' := Lib.hid hcap'
  have HC'' := Lib.hid hcap''
  clear h h' h'' hcap hcap' hcap''
  by_cases hb : (n ≤ 200 ∧ n' ≤ 200)
  · by_cases hb2 : n'' ≤ 200
    · have H1 := Lib.hid (longB_no n n' hb.1 hb.2)
      have H2 := Lib.hid (longB_no n'' 0 hb2 (by omega))
      obtain ⟨hb0, hb1⟩ := hb
      have hb0' : n * 8 ≤ 140737488355328 := by omega
      have hb1' : n' * 8 ≤ 140737488355328 := by omega
      have hb2' : n'' * 8 ≤ 140737488355328 := by omega
      have hq1 := Lib.hid (common_eq vs at')
      have hq2 := Lib.hid (eqB_self vs)
      have hq3 := Lib.hid (eqB_self votes)
      have hq4 := Lib.hid (eqB_self at')
      go_enter Try.func5, Try.ntmps5
      go_wp2_with (first
        | (go_at_call 15; (with_reducible refine (long_any _ _ n n' _ _ _).mono ?_); rintro e w' ⟨rfl, rfl⟩; rw [H1.out])
        | (go_at_call 15; (with_reducible refine (long_any _ _ n'' 0 _ _ _).mono ?_); rintro e w' ⟨rfl, rfl⟩; rw [H2.out])
        | (at_builtin; refine wpList_append_fresh (W := w) rfl (.tmp 17) (.tmp 18) rfl rfl p n cap vs rfl H.out HC.out hb0' ?_; intro pa ca wa hoa hba)
        | (at_builtin; refine wpList_append_fresh (W := wa) rfl (.tmp 20) (.tmp 21) rfl rfl p' n' cap' votes rfl (H'.out.below hba) HC'.out hb1' ?_; intro pb cb wb hob hbb)
        | (at_builtin; refine wpList_append_fresh (W := wb) rfl (.tmp 23) (.tmp 24) rfl rfl p'' n'' cap'' at' rfl (H''.out.below (hba.trans (hbb.mono hba.size))) HC''.out hb2' ?_; intro pc cc wc hoc hbc))
      have hab := hbb.trans (hbc.mono hbb.size)
      have hall := Lib.hid (hba.trans (hab.mono hba.size))
      have RA := Lib.hid ((hoa.below hab).ri)
      have RB := Lib.hid ((hob.below hbc).ri)
      have RC := Lib.hid hoc.ri
      have RV := Lib.hid (H.out.below hall.out)
      have RW := Lib.hid (H'.out.below hall.out)
      have RX := Lib.hid (H''.out.below hall.out)
      have hcur : Below wc.heap.size wc wc := Below.refl _ _
      clear hoa hba hob hbb hoc hbc hab
      go_wp2_with (first
        | (go_at_call 21; (refine (bstep hcur (Nat.le_refl _) (check_any _ _ _ vs _ (RA.out.below hcur) hb0')).mono ?_); rintro e w1 ⟨rfl, h1⟩)
        | (go_at_call 22; (refine (bstep h1 (Nat.le_refl _) (bdraw (refCheck_any _ _ _ vs _ (RV.out.below h1) hb0'))).mono ?_); rintro e w2 ⟨rfl, h2⟩)
        | (go_at_call 23; (refine (bstep h2 (Nat.le_refl _) (won_any _ _ _ _ _ _ vs votes _ (RA.out.below h2) (RB.out.below h2) hb0' hb1')).mono ?_); rintro e w3 ⟨rfl, h3⟩)
        | (go_at_call 24; (refine (bstep h3 (Nat.le_refl _) (refWon_any _ _ _ _ _ _ vs votes _ (RV.out.below h3) (RW.out.below h3) hb0' hb1')).mono ?_); rintro e w4 ⟨rfl, h4⟩)
        | (go_at_call 25; (refine (bstep h4 (Nat.le_refl _) (common_any _ _ _ _ _ _ vs at' _ (RA.out.below h4) (RC.out.below h4) hb0' hb2')).mono ?_); rintro e w5 ⟨rfl, h5⟩)
        | (go_at_call 26; (refine (bstep h5 (Nat.le_refl _) (refCommon_any _ _ _ _ _ _ vs at' _ (RV.out.below h5) (RX.out.below h5) hb0' hb2')).mono ?_); rintro e w6 ⟨rfl, h6⟩; rw [hq1.out])
        | (go_at_call 18; (with_reducible refine (bstep h6 (Nat.le_refl _) (bdraw (ints_any pa p _ _ _ _ vs vs _ (RA.out.below h6) (RV.out.below h6) hb0' hb0'))).mono ?_); rintro e w7 ⟨rfl, h7⟩; rw [hq2.out])
        | (go_at_call 18; (with_reducible refine (bstep h7 (Nat.le_refl _) (bdraw (ints_any pb p' _ _ _ _ votes votes _ (RB.out.below h7) (RW.out.below h7) hb1' hb1'))).mono ?_); rintro e w8 ⟨rfl, h8⟩; rw [hq3.out])
        | (go_at_call 18; (with_reducible refine (bstep h8 (Nat.le_refl _) (bdraw (ints_any pc p'' _ _ _ _ at' at' _ (RC.out.below h8) (RX.out.below h8) hb2' hb2'))).mono ?_); rintro e w9 ⟨rfl, h9⟩; rw [hq4.out]))
      go_ret
      exact ⟨rfl, hall.out.trans (h9.mono hall.out.size)⟩
    · have H1 := Lib.hid (longB_no n n' hb.1 hb.2)
      have H2 := Lib.hid (longB_yes n'' 0 (by omega))
      clear hb hb2
      go_enter Try.func5, Try.ntmps5
      go_wp2_with (first
        | (go_at_call 15; (with_reducible refine (long_any _ _ n n' _ _ _).mono ?_); rintro e w' ⟨rfl, rfl⟩; rw [H1.out])
        | (go_at_call 15; (with_reducible refine (long_any _ _ n'' 0 _ _ _).mono ?_); rintro e w' ⟨rfl, rfl⟩; rw [H2.out]))
      go_ret
      exact ⟨rfl, Below.refl _ _⟩
  · have H1 := Lib.hid (longB_yes n n' hb)
    clear hb
    go_enter Try.func5, Try.ntmps5
    go_wp2_with (go_at_call 15; (with_reducible refine (long_any _ _ n n' _ _ _).mono ?_); rintro e w' ⟨rfl, rfl⟩; rw [H1.out])
    go_ret
    exact ⟨rfl, Below.refl _ _⟩

end Go.Proofs.Ytochcilkpjhmiaa
