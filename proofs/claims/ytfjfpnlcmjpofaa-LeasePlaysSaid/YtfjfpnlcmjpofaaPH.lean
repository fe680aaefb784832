/- The document's Out, out of its All. -/
import Derived.Test.YtfjfpnlcmjpofaaPG
namespace Go.Proofs.Ytfjfpnlcmjpofaa
open Go.RowKit Go.Maps Go.Sort Go.Shelf
set_option linter.unusedVariables false

/-- a list of leases, told -/
def ToldBy (w : World) (l0 : List Ls) (e : Ending) (w' : World) : Prop := ∃ (v : Value) (l : List Ls), e = .returned v ∧ l.Perm l0 ∧ Up l ∧ Vec w' 4 v l.length (l.flatMap Ls.row) ∧ (∀ k, v.ownBlock = some k → w.heap.size ≤ k) ∧ Only None' w w'
set_option maxRecDepth 20000 in
set_option maxHeartbeats 1000000 in
theorem dout_of {w : World} {X : Nat} {l0 : List Ls} (hl0 : l0.length ≤ 1048575) (key : ByteArray) (now : Int) (hall : Calls Try.prog 25 #[.pointer (some ⟨X, 0, none⟩), .int .i64 now] w (ToldBy w l0)) : Calls Try.prog 23 #[.pointer (some ⟨X, 0, none⟩), .string key, .int .i64 now] w (ToldBy w (l0.filter (ofKey key))) := by
  have HALL := Lib.hid hall
  have H0 := Lib.hid hl0
  clear hall hl0
  go_enter Try.func23, Try.ntmps23
  go_wp2_with fail
  refine HALL.out.mono ?_
  rintro e w1 ⟨v1, l1, rfl, hp, hup, hv, hf, o1⟩
  obtain ⟨a1, k1, rfl, _, _⟩ := hv.shape
  obtain ⟨m, hm⟩ : ∃ m, m = l1.length := ⟨_, rfl⟩
  have HM := Lib.hid hm
  rw [← hm] at hv ⊢
  have HV := Lib.hid hv
  have HP := Lib.hid (And.intro hp (And.intro hup (And.intro hf o1)))
  have HLEN : Hid (m ≤ 1048575) := Lib.hid (by rw [hm, hp.length_eq]; exact H0.out)
  have HML : Hid (m ≤ maxLen) := Lib.hid (by have := HLEN.out; unfold maxLen; omega)
  clear hp hup hv hf o1 hm HALL
  go_wp2_with fail
  go_loopw [7, 9] (fun p i wr => ∃ (j q : Nat) (pa : Option Addr) (pc : Nat), j ≤ m ∧ p = .slice pa q pc ∧ i = .int .i64 (j : Int) ∧ Hid (q = ((l1.take j).filter (ofKey key)).length) ∧ Hid (GL w1 wr (.slice pa q pc) ((l1.take j).filter (ofKey key)))) (fun p i wr => m - (intOf i).toNat)
  case atStart => exact ⟨0, 0, none, 0, by omega, rfl, rfl, Lib.hid rfl, Lib.hid (GL.start _)⟩
  case round =>
    obtain ⟨j, q, pa, pc, hj, rfl, rfl, HQ, HJ⟩ := hrel
    have HQN : Hid (q ≤ 1048575) := Lib.hid (by rw [HQ.out]; exact Nat.le_trans (List.length_filter_le _ _) (Nat.le_trans (List.length_take_le' j _) (by have := HLEN.out; have := HM.out; omega)))
    by_cases hlt : j < m
    · have hjl : j < l1.length := by have := HM.out; omega
      obtain ⟨ga, offa, rfl, hga, hcell, _⟩ := (HV.out.only HJ.out.only fun _ _ e => e).form' (by omega)
      obtain ⟨x, hx⟩ : ∃ x, x = l1[j] := ⟨_, rfl⟩
      have hcell2 : ∀ i u, (Ls.row x)[i]? = some u → wr.cell? ⟨ga, offa + j * 4 + i, none⟩ = some u := fun i u h => by
        rw [hx] at h
        have := hcell (j * 4 + i) u (flat_at Ls.row 4 l1 j (fun y _ => rfl) hjl i u h)
        rwa [← Nat.add_assoc] at this
      have HX : Hid (l1[j]? = some x) := Lib.hid (by rw [hx]; exact List.getElem?_eq_getElem hjl)
      clear hx hcell
      obtain ⟨x0, x1, x2, x3⟩ := x
      have q0 := hcell2 0 _ rfl
      have q1 := hcell2 1 _ rfl
      have q2 := hcell2 2 _ rfl
      have q3 := hcell2 3 _ rfl
      rw [Nat.add_zero] at q0
      simp only at q0 q1 q2 q3
      have i0 : (0 : Int) ≤ (j : Int) := by omega
      have i1 : (j : Int) < (m : Int) := by omega
      have HLT := Lib.hid hlt
      have HGV := Lib.hid HJ.out.row
      rw [← HQ.out] at HGV
      obtain ⟨b, hb⟩ : ∃ b, (x0.toList == key.toList) = b := ⟨_, rfl⟩
      have HPX : Hid (ofKey key ⟨x0, x1, x2, x3⟩ = b) := Lib.hid hb
      clear hj hlt hjl hga hcell2
      cases b with
      | false =>
        have HPF : Hid (¬ ofKey key ⟨x0, x1, x2, x3⟩ = true) := Lib.hid (by rw [HPX.out]; simp)
        go_wp2_with fail
        go_roundw
        case rel => exact ⟨j + 1, q, pa, pc, by have := HLT.out; omega, rfl, next_len HLT.out HML.out, Lib.hid (by rw [take_next HX.out, if_neg HPF.out, List.append_nil, HQ.out]), Lib.hid (by rw [take_next HX.out, if_neg HPF.out, List.append_nil]; exact HJ.out)⟩
        case measure => exact meas_len HLT.out HML.out
      | true =>
        go_wp2_with (first | (at_builtin; refine wpList_append_any rfl _ _ 41 rfl 66 Try.t66 Ls.zero.v 4 40 under41 info66 t66_zero t66_size t66_bytes rfl (by decide) (.slice pa q pc) q (((l1.take j).filter (ofKey key)).flatMap Ls.row) rfl (HGV.out.alloc _) (.slice (some ⟨wr.heap.size, 0, none⟩) 1 1) 1 [.string x0, .int .i64 x1, .int .i64 x2, .int .i64 x3] rfl (rd_new wr [.string x0, .int .i64 x1, .int .i64 x2, .int .i64 x3] 66 1 4 rfl (by decide)) (Ls.row_one ⟨x0, x1, x2, x3⟩) (by have h1 := HQN.out; unfold maxLen; omega) (by have h1 := HQN.out; omega) ?_; intro v2 w6 hv2 hg2 hf2; obtain ⟨oa2, oc2, rfl, _, _⟩ := hv2.shape; have HY := Lib.hid (And.intro hv2 (And.intro hg2 hf2)); clear hv2 hg2 hf2))
        go_roundw
        case rel =>
          refine ⟨j + 1, q + 1, oa2, oc2, by have := HLT.out; omega, rfl, next_len HLT.out HML.out, Lib.hid (by rw [take_next HX.out, if_pos HPX.out, List.length_append, HQ.out]; rfl), Lib.hid ?_⟩
          rw [take_next HX.out, if_pos HPX.out]
          exact GL.push (x := ⟨x0, x1, x2, x3⟩) HJ.out (by rw [← HQ.out]; exact HY.out.1) HY.out.2.1 HY.out.2.2
        case measure => exact meas_len HLT.out HML.out
    · obtain rfl : j = m := by omega
      have HE : Hid ((l1.take j).filter (ofKey key) = l1.filter (ofKey key)) := Lib.hid (by rw [List.take_of_length_le (by have := HM.out; omega)])
      have HG := HJ.out
      rw [HE.out] at HG
      have HQ2 := HQ.out
      rw [HE.out] at HQ2
      have HGG := Lib.hid (And.intro HG HQ2)
      clear hj hlt HG HQ2
      go_wp2_with fail
      go_ret
      refine ⟨_, l1.filter (ofKey key), rfl, HP.out.1.filter _, HP.out.2.1.filter _, HGG.out.1.row, fun g hg => Nat.le_trans HP.out.2.2.2.size (HGG.out.1.fresh g hg), HP.out.2.2.2.trans HGG.out.1.only⟩
end Go.Proofs.Ytfjfpnlcmjpofaa
