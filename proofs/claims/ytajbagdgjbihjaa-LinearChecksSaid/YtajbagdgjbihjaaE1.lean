/- Events, in a world; events (15) of equal rows. -/
import Derived.Test.YtajbagdgjbihjaaG2
import Derived.Test.YtajbagdgjbihjaaP1
import Derived.Test.YtajbagdgjbihjaaP2
import Derived.Test.YtajbagdgjbihjaaProg
import Derived.BigQuiet
import Derived.StillTailTactics
import Derived.Deep.RegionWith
import Derived.Deep.QuietTactic
import Derived.Deep.CutBlock
import Derived.Maps.OwnOps
namespace Go.Proofs.Ytajbagdgjbihjaa
open Go.RowKit Go.Maps
set_option linter.unusedVariables false

structure Ev where
  client : Int
  id : Int
  step : Int
  back : Bool
  kind : Int
  key : ByteArray
  val : ByteArray
  old : ByteArray
  had : Bool
  rkind : Int
  found : Bool
  rval : ByteArray
def Ev.row (e : Ev) : List Value := [.int .i64 e.client, .int .i64 e.id, .int .i64 e.step, .bool e.back, .int .u8 e.kind, .string e.key, .string e.val, .string e.old, .bool e.had, .int .u8 e.rkind, .bool e.found, .string e.rval]
theorem Ev.row_length (e : Ev) : e.row.length = 12 := rfl
theorem Ev.row_one (e : Ev) : ∀ u ∈ e.row, u.oneCell' = true := by
  intro u hu
  simp [Ev.row] at hu
  rcases hu with rfl | rfl | rfl | rfl | rfl | rfl | rfl | rfl | rfl | rfl | rfl | rfl <;> rfl
theorem info31 : Try.prog.info? 31 = some Try.t31 := by kernel_rfl
theorem t31_size : Try.t31.size = 12 := by kernel_rfl
/-- events, in a row that may be read -/
structure ER (w : World) (v : Value) (l : List Ev) : Prop where
  form : (v = .slice none 0 0 ∧ l = []) ∨ ∃ g off cap, v = .slice (some ⟨g, off, none⟩) l.length cap ∧ l.length ≤ cap ∧ cap ≤ maxLen ∧ g < w.heap.size ∧ ∀ j u, (l.flatMap Ev.row)[j]? = some u → w.cell? ⟨g, off + j, none⟩ = some u
section
variable {w w' : World} {v : Value} {l : List Ev} {S : Nat → Prop}
theorem ER.shape (h : ER w v l) : ∃ a c, v = .slice a l.length c := by
  rcases h.form with ⟨rfl, rfl⟩ | ⟨g, off, cap, rfl, _⟩
  · exact ⟨none, 0, rfl⟩
  · exact ⟨_, _, rfl⟩
theorem ER.only (h : ER w v l) (o : Only S w w') (hn : ∀ g, v.ownBlock = some g → ¬ S g) : ER w' v l := by
  rcases h.form with h1 | ⟨g, off, cap, rfl, h1, h2, h3, h4⟩
  · exact ⟨.inl h1⟩
  · exact ⟨.inr ⟨g, off, cap, rfl, h1, h2, Nat.lt_of_lt_of_le h3 o.size, fun j u hu => (o.cell h3 (hn g rfl) _).trans (h4 j u hu)⟩⟩
theorem ER.at_ (h : ER w v l) {j : Nat} (hj : j < l.length) : ∃ g off c, v = .slice (some ⟨g, off, none⟩) l.length c ∧ g < w.heap.size ∧ ∀ i u, (l[j]).row[i]? = some u → w.cell? ⟨g, off + j * 12 + i, none⟩ = some u := by
  rcases h.form with ⟨_, rfl⟩ | ⟨g, off, c, e, h1, h2, h3, h4⟩
  · simp at hj
  · refine ⟨g, off, c, e, h3, fun i u hu => ?_⟩
    rw [Nat.add_assoc]
    exact h4 _ u (flat_at Ev.row 12 l j (fun y _ => rfl) hj i u hu)
end
set_option maxRecDepth 20000 in
set_option maxHeartbeats 1000000 in
theorem events_any {w : World} {v u : Value} {l : List Ev} (hv : ER w v l) (hu : ER w u l) (hl : l.length ≤ 1000) : Calls Try.prog 15 #[v, u] w fun e w' => e = .returned (.bool true) ∧ Only None' w w' := by
  obtain ⟨a, k, rfl⟩ := hv.shape
  obtain ⟨b, m, rfl⟩ := hu.shape
  have HV := Lib.hid (And.intro hv hu)
  obtain ⟨n, hn⟩ : ∃ n, n = l.length := ⟨_, rfl⟩
  have HL := Lib.hid (And.intro hn hl)
  rw [← hn] at HV ⊢
  clear hv hu hn hl
  go_enter Try.func15, Try.ntmps15
  go_wp2_with fail
  go_loopw [5] (fun i wr => ∃ j : Nat, j ≤ n ∧ i = .int .i64 (j : Int) ∧ Hid (Only None' w wr)) (fun i wr => n - (intOf i).toNat)
  case atStart => exact ⟨0, by omega, rfl, Lib.hid (Only.refl _ _)⟩
  case round =>
    obtain ⟨j, hj, rfl, HJ⟩ := hrel
    by_cases hlt : j < n
    · have hjl : j < l.length := by have := HL.out.1; omega
      have RV := Lib.hid (HV.out.1.only HJ.out fun _ _ e => e)
      have RU := Lib.hid (HV.out.2.only HJ.out fun _ _ e => e)
      obtain ⟨g, off, cp, e, hg, hcell⟩ := RV.out.at_ hjl
      injection e with e e2 e3
      subst e
      obtain ⟨g', off', cp', e', hg', hcell'⟩ := RU.out.at_ hjl
      injection e' with e' e2' e3'
      subst e'
      clear e2 e3 e2' e3'
      obtain ⟨x, hx⟩ : ∃ x, x = l[j] := ⟨_, rfl⟩
      rw [← hx] at hcell hcell'
      clear hx
      obtain ⟨z1, z2, z3, z4, z5, z6, z7, z8, z9, za, zb, zc⟩ := x
      have k0 := hcell' 0 _ rfl
      have k1 := hcell' 1 _ rfl
      have k2 := hcell' 2 _ rfl
      have k3 := hcell' 3 _ rfl
      have k4 := hcell' 4 _ rfl
      have k5 := hcell' 5 _ rfl
      have k6 := hcell' 6 _ rfl
      have k7 := hcell' 7 _ rfl
      have k8 := hcell' 8 _ rfl
      have k9 := hcell' 9 _ rfl
      have ka := hcell' 10 _ rfl
      have kb := hcell' 11 _ rfl
      have y0 := hcell 0 _ rfl
      have y1 := hcell 1 _ rfl
      have y2 := hcell 2 _ rfl
      have y3 := hcell 3 _ rfl
      have y4 := hcell 4 _ rfl
      have y5 := hcell 5 _ rfl
      have y6 := hcell 6 _ rfl
      have y7 := hcell 7 _ rfl
      have y8 := hcell 8 _ rfl
      have y9 := hcell 9 _ rfl
      have ya := hcell 10 _ rfl
      have yb := hcell 11 _ rfl
      rw [Nat.add_zero] at k0 y0
      simp only at k0 k1 k2 k3 k4 k5 k6 k7 k8 k9 ka kb y0 y1 y2 y3 y4 y5 y6 y7 y8 y9 ya yb
      have i0 : (0 : Int) ≤ (j : Int) := by omega
      have i1 : (j : Int) < (n : Int) := by omega
      have HLT := Lib.hid hlt
      clear hlt hj hjl hcell hcell' hg hg'
      go_upto_region 6 with fail
      go_quiet (fail)
      go_wp2_with fail
      go_roundw
      case rel => exact ⟨j + 1, by have := HLT.out; omega, next_int (by have := HL.out; have := HLT.out; omega), Lib.hid (HJ.out.drewN _)⟩
      case measure => exact meas HLT.out (by have := HL.out; omega)
    · obtain rfl : j = n := by omega
      go_wp2_with fail
      go_ret
      exact ⟨rfl, HJ.out⟩
end Go.Proofs.Ytajbagdgjbihjaa
