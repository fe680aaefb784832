/- The walk of each. -/
import Derived.Test.YtfmpidacklhmaaaW1
import Derived.Deep.LoopGhost
namespace Go.Proofs.Ytfmpidacklhmaaa.Lru
open Go.RowKit Go.Maps
set_option linter.unusedVariables false
set_option maxRecDepth 20000

theorem each_gen (B F : Nat) (hF : F = 34 ∨ F = 29) (cap : Array Value) (l : List Node) (I : Nat → World → Prop)
    (hfront : ∀ w, I 0 w → w.cell? ⟨B, 2, none⟩ = some (pt (hd l none)))
    (hback : ∀ i w y r, I i w → l.drop i = y :: r → w.cell? ⟨y.1, 5, none⟩ = some (pt (hd r none)))
    (hcall : ∀ i w y r, I i w → l.drop i = y :: r → Calls Try.prog F (#[.pointer (some ⟨y.1, 0, none⟩)] ++ cap) w fun e w' => e = .returned (.tuple #[]) ∧ I (i + 1) w')
    (w : World) (hI : I 0 w) :
    Calls Try.prog 28 #[.pointer (some ⟨B, 0, none⟩), .func (.func F) #[] cap] w fun e w' => e = .returned (.tuple #[]) ∧ I l.length w' := by
  have c2 := hfront w hI
  have HI := Lib.hid hI
  have HB := Lib.hid hback
  have HC := Lib.hid hcall
  clear hfront hback hcall hI
  rcases hF with rfl | rfl
  all_goals
    go_enter Try.func28, Try.ntmps28
    go_wp2
    go_loopg [4, 5] l.length (fun g s u wr => ∃ i, i ≤ l.length ∧ g = l.length - i ∧ s = pt (hd (l.drop i) none) ∧ I i wr)
    case atStart => exact ⟨0, by omega, by simp, by simp, HI.out⟩
    case round =>
      obtain ⟨i, hi, hg, hs, hIr⟩ := hrel
      have HG := Lib.hid hg
      have HIR := Lib.hid hIr
      clear hg hIr
      rcases hd' : l.drop i with _ | ⟨y, r⟩
      · rw [hd'] at hs
        obtain rfl : _ = Value.pointer none := hs
        have : i = l.length := by have := congrArg List.length hd'; simp at this; omega
        have HL := Lib.hid this
        clear hd' this hi
        go_wp2
        go_end0
        exact ⟨rfl, by rw [← HL.out]; exact HIR.out⟩
      · rw [hd'] at hs
        obtain rfl : _ = Value.pointer (some ⟨y.1, 0, none⟩) := hs
        have hlt : i < l.length := by have := congrArg List.length hd'; simp at this; omega
        have c5 := HB.out i wr y r HIR.out hd'
        have hc := HC.out i wr y r HIR.out hd'
        have hdr : l.drop (i + 1) = r := by rw [← List.drop_drop, hd']; rfl
        have HD := Lib.hid hdr
        have HCC := Lib.hid hc
        clear hd' hc hdr
        go_wp2_with fail
        refine HCC.out.mono ?_
        rintro e w1 ⟨rfl, hI1⟩
        have HI1 := Lib.hid hI1
        clear hI1
        go_wp2
        go_roundg (l.length - (i + 1))
        case measure => rw [HG.out]; omega
        case rel => exact ⟨i + 1, hlt, rfl, by rw [HD.out], HI1.out⟩

end Go.Proofs.Ytfmpidacklhmaaa.Lru
