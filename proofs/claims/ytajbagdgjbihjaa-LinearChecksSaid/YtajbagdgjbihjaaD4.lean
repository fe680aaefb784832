/- dedup's put (37) of a pair. -/
import Derived.Test.YtajbagdgjbihjaaD3
namespace Go.Proofs.Ytajbagdgjbihjaa
open Go.RowKit Go.Maps
set_option linter.unusedVariables false

def gtP (key : ByteArray) (p : Pr) : Bool := gtS p.1 key
/-- where a key that is not there belongs -/
def spotP (key : ByteArray) (ps : List Pr) : Nat := if idxOf (gtP key) ps < 0 then ps.length else (idxOf (gtP key) ps).toNat
def putP (key x : ByteArray) (ps : List Pr) : List Pr := if idxOf (isK key) ps < 0 then ps.take (spotP key ps) ++ (key, x) :: ps.drop (spotP key ps) else ps.set (idxOf (isK key) ps).toNat (key, x)
theorem vec_pair (w : World) (k x : ByteArray) : Vec (w.alloc (.cells #[.string k, .string x] 67)) 2 (.slice (some ⟨w.heap.size, 0, none⟩) 1 1) 1 (pairR (k, x)) := by
  have hc := cells_new w [.string k, .string x] 67
  refine ⟨rfl, .inr ⟨w.heap.size, 0, 1, rfl, Nat.le_refl _, by decide, hc.lt, fun j u hu => ?_, fun j hj => ?_⟩⟩
  · rw [Nat.zero_add]; exact hc.is j u hu
  · rw [Nat.zero_add]
    refine ⟨?_, hc.thaw j⟩
    have : j = 0 ∨ j = 1 := by omega
    rcases this with rfl | rfl
    · rw [hc.is 0 _ rfl]; rfl
    · rw [hc.is 1 _ rfl]; rfl
theorem setPair {w : World} {g off cap n : Nat} {l : List Pr} (h : Vec w 2 (.slice (some ⟨g, off, none⟩) n cap) n (l.flatMap pairR)) {j : Nat} (hj : j < l.length) (hn : n = l.length) (a b : ByteArray) : Vec ((w.setCell ⟨g, off + j * 2, none⟩ (.string a)).setCell ⟨g, off + j * 2 + 1, none⟩ (.string b)) 2 (.slice (some ⟨g, off, none⟩) n cap) n ((l.set j (a, b)).flatMap pairR) := Vec.setElem h (fun _ _ => rfl) hj hn (a, b) rfl
set_option maxRecDepth 20000 in
set_option maxHeartbeats 1000000 in
theorem put_any {w : World} {v : Value} {ps : List Pr} (h : PRow w v ps) (hn : ps.length ≤ 100000) (key x : ByteArray) (hI : findP key ps = none → InsOK ps (spotP key ps)) : Calls Try.prog 37 #[v, pairV key x, .func (.func 38) #[] #[]] w fun e w' => ∃ v', e = .returned v' ∧ PNew w w' v' (putP key x ps) := by
  obtain ⟨P, hP⟩ : ∃ P, P = w.heap.size := ⟨_, rfl⟩
  obtain ⟨w1, hw1⟩ : ∃ w1, w1 = (w.alloc (.cells #[.string key, .string x] 67)).alloc (.cells #[.func (.func 38) #[] #[]] 91) := ⟨_, rfl⟩
  have o1 : Only None' w w1 := by rw [hw1]; exact ((Only.refl None' w).alloc _).alloc _
  have hs1 : w1.heap.size = w.heap.size + 2 := by rw [hw1]; simp
  have C1 : Cs w1 [(P, 0, .string key), (P, 1, .string x), (P + 1, 0, .func (.func 38) #[] #[])] := by
    have h1 := (cells_new w [.string key, .string x] 67).kept ((Only.refl None' (w.alloc (.cells #[.string key, .string x] 67))).alloc (.cells #[.func (.func 38) #[] #[]] 91)) fun e => e
    have h2 := cells_new (w.alloc (.cells #[.string key, .string x] 67)) [.func (.func 38) #[] #[]] 91
    have e2 : (w.alloc (.cells #[.string key, .string x] 67)).heap.size = w.heap.size + 1 := by simp
    intro p hp
    simp only [List.mem_cons, List.not_mem_nil, or_false] at hp
    rcases hp with rfl | rfl | rfl
    · rw [hw1, hP]; exact h1.is 0 _ rfl
    · rw [hw1, hP]; exact h1.is 1 _ rfl
    · rw [hw1, hP, ← e2]; exact h2.is 0 _ rfl
  have H1 := Lib.hid (And.intro (h.new_ o1) hn)
  have HC := Lib.hid C1
  have O1 := Lib.hid o1
  have HI := Lib.hid hI
  have HS := Lib.hid hs1
  have HPF := Lib.hid hP
  obtain ⟨a, cap, rfl, _⟩ := h.row.shape
  have ew := hw1.symm
  have eP := hP.symm
  clear h hn o1 hs1 C1 hI hw1 hP
  unfold pairV
  go_enter Try.func37, Try.ntmps37
  go_wp2_with fail
  refine (clone_any H1.out.1 H1.out.2).mono ?_
  rintro e w2 ⟨v2, rfl, n2⟩
  have C2 := HC.out.new_ n2.only
  have f0 := C2 (P, 0, .string key) (by simp)
  have f1 := C2 (P, 1, .string x) (by simp)
  have f2 := C2 (P + 1, 0, .func (.func 38) #[] #[]) (by simp)
  have N2 := Lib.hid n2
  have HC2 := Lib.hid C2
  simp only at f0 f1 f2
  clear n2 C2 ew
  go_wp2_with fail
  refine (key38 key x w2).mono ?_
  rintro e w3 ⟨rfl, o3⟩
  obtain ⟨K, hK⟩ : ∃ K, K = w3.heap.size := ⟨_, rfl⟩
  obtain ⟨w4, hw4⟩ : ∃ w4, w4 = w3.alloc (.cells #[.string key] 9) := ⟨_, rfl⟩
  have o4 : Only None' w2 w4 := by rw [hw4]; exact o3.alloc _
  have hKc : CellsR w4 K [.string key] := by rw [hw4, hK]; exact cells_new w3 [.string key] 9
  have N4 : Hid (PNew w1 w4 v2 ps) := Lib.hid ⟨N2.out.row.new_ o4, N2.out.fresh, N2.out.only.trans o4⟩
  have HKc := Lib.hid hKc
  have HC4 := Lib.hid (HC2.out.new_ o4)
  have HKF : Hid (∀ g, v2.ownBlock = some g → g < K) := Lib.hid fun g hg => by
    have h1 := N2.out.row.row.lt hg
    have h2 := o3.size
    omega
  have ew4 := hw4.symm
  have eK := hK.symm
  obtain ⟨a2, cap2, rfl, _⟩ := N2.out.row.row.shape
  obtain ⟨n, hnn⟩ : ∃ n, n = ps.length := ⟨_, rfl⟩
  have HN := Lib.hid hnn
  have HI4 := Lib.hid (idx_any N4.out.row H1.out.2 44 #[.pointer (some ⟨P + 1, 0, none⟩), .pointer (some ⟨K, 0, none⟩)] call44 (isK key) fun y _ w' o => is44 (P + 1) K key y.1 y.2 ((HC4.out.new_ o) (P + 1, 0, .func (.func 38) #[] #[]) (by simp)) ((HKc.out.kept o fun e => e).is 0 _ rfl))
  rw [← hnn] at N4 HI4 HKF ⊢
  clear o3 o4 hKc hw4 hK f0 f1 f2 N2 hnn
  go_wp2_with fail
  rcases findP_idx (key := key) ps with ⟨h1, h2⟩ | ⟨k, y, h1, h2, h3, h4⟩
  · rw [h2] at HI4
    refine HI4.out.mono ?_
    rintro e w5 ⟨rfl, o5⟩
    have HNO := Lib.hid (And.intro h1 h2)
    have N5 : Hid (PNew w1 w5 (.slice a2 n cap2) ps) := Lib.hid ⟨N4.out.row.new_ o5, N4.out.fresh, N4.out.only.trans o5⟩
    have HC5 := Lib.hid (HC4.out.new_ o5)
    have HK5 := Lib.hid (HKc.out.kept o5 fun e => e)
    have HI5 := Lib.hid (idx_any N5.out.row H1.out.2 45 #[.pointer (some ⟨P + 1, 0, none⟩), .pointer (some ⟨K, 0, none⟩)] call45 (gtP key) fun y _ w' o => is45 (P + 1) K key y.1 y.2 ((HC5.out.new_ o) (P + 1, 0, .func (.func 38) #[] #[]) (by simp)) ((HK5.out.kept o fun e => e).is 0 _ rfl))
    obtain ⟨i, hi⟩ : ∃ i, i = idxOf (gtP key) ps := ⟨_, rfl⟩
    rw [← hi] at HI5
    have HII := Lib.hid hi
    clear o5 h1 h2 hi
    go_wp2_with fail
    refine HI5.out.mono ?_
    rintro e w6 ⟨rfl, o6⟩
    have N6 : Hid (PNew w1 w6 (.slice a2 n cap2) ps) := Lib.hid ⟨N5.out.row.new_ o6, N5.out.fresh, N5.out.only.trans o6⟩
    have C6 := HC5.out.new_ o6
    have f0 := C6 (P, 0, .string key) (by simp)
    have f1 := C6 (P, 1, .string x) (by simp)
    simp only at f0 f1
    obtain ⟨w7, hw7⟩ : ∃ w7, w7 = w6.alloc (.cells #[.string key, .string x] 67) := ⟨_, rfl⟩
    obtain ⟨G, hG⟩ : ∃ G, G = w6.heap.size := ⟨_, rfl⟩
    have o7 : Only None' w6 w7 := by rw [hw7]; exact (Only.refl None' w6).alloc _
    have hv7 : Vec w7 2 (.slice (some ⟨G, 0, none⟩) 1 1) 1 (pairR (key, x)) := by rw [hw7, hG]; exact vec_pair w6 key x
    have hne7 : ∀ g, (Value.slice (some ⟨G, 0, none⟩) 1 1).ownBlock = some g → (Value.slice a2 n cap2).ownBlock ≠ some g := fun g hg e => by
      have hg : some G = some g := hg
      injection hg with hg
      have := N6.out.row.row.lt e
      omega
    have hpl7 : ∀ g, (Value.slice (some ⟨G, 0, none⟩) 1 1).ownBlock = some g → ∃ c t, w7.heap[g]? = some (.cells c t) := fun g hg => by
      have hg : some G = some g := hg
      injection hg with hg
      refine ⟨#[.string key, .string x], 67, ?_⟩
      rw [← hg, hG, hw7]
      exact Array.getElem?_push_size
    have HINS := Lib.hid (HI.out HNO.out.1 w7 (.slice a2 n cap2) (.slice (some ⟨G, 0, none⟩) 1 1) (key, x) (N6.out.row.new_ o7) hv7 hne7 hpl7)
    have N7 : Hid (PNew w1 w7 (.slice a2 n cap2) ps) := Lib.hid ⟨N6.out.row.new_ o7, N6.out.fresh, N6.out.only.trans o7⟩
    have ew7 := hw7.symm
    have eG := hG.symm
    have fin : ∀ e w', (∃ v', e = Ending.returned v' ∧ PRow w' v' (ps.take (spotP key ps) ++ (key, x) :: ps.drop (spotP key ps)) ∧ (∀ g, v'.ownBlock = some g → (Value.slice a2 n cap2).ownBlock = some g ∨ w7.heap.size ≤ g) ∧ Only (fun g => (Value.slice a2 n cap2).ownBlock = some g) w7 w') → ∃ v', e = Ending.returned v' ∧ PNew w w' v' (putP key x ps) := by
      rintro e w' ⟨v', rfl, hr, hf, ho⟩
      have hs7 := N7.out.only.size
      have hs1 := HS.out
      refine ⟨v', rfl, ⟨?_, fun g hg => ?_, (O1.out.trans N7.out.only).trans2 ho fun k hk e => ?_⟩⟩
      · unfold putP
        rw [HNO.out.2, if_pos (by decide)]
        exact hr
      · rcases hf g hg with e | e
        · have := N7.out.fresh g e; omega
        · omega
      · have := N7.out.fresh k e; omega
    obtain ⟨sp, hsp⟩ : ∃ sp, sp = spotP key ps := ⟨_, rfl⟩
    rw [← hsp] at fin HINS
    have HFIN := Lib.hid fin
    have HSP := Lib.hid hsp
    clear o6 C6 o7 hv7 hne7 hpl7 hw7 hG fin hsp
    by_cases hneg : i < 0
    · have d0 : decide (i < 0) = true := decide_eq_true hneg
      obtain rfl : sp = n := by have h := HSP.out; unfold spotP at h; rw [← HII.out, if_pos hneg, ← HN.out] at h; exact h
      clear hneg
      go_wp2_with fail
      refine HINS.out.mono ?_
      rintro e w' ⟨v', rfl, hr, hf, ho⟩
      have HZ := Lib.hid (HFIN.out (.returned v') w' ⟨v', rfl, hr, hf, ho⟩)
      clear hr hf ho
      go_wp2_with fail
      go_ret
      exact HZ.out
    · have d0 : decide (i < 0) = false := decide_eq_false hneg
      obtain rfl : i = (sp : Int) := by have h := HSP.out; unfold spotP at h; rw [← HII.out, if_neg hneg] at h; omega
      clear hneg
      go_wp2_with fail
      refine HINS.out.mono ?_
      rintro e w' ⟨v', rfl, hr, hf, ho⟩
      have HZ := Lib.hid (HFIN.out (.returned v') w' ⟨v', rfl, hr, hf, ho⟩)
      clear hr hf ho
      go_wp2_with fail
      go_ret
      exact HZ.out
  · rw [h2] at HI4
    have hj := (List.getElem?_eq_some_iff.1 h1).1
    refine HI4.out.mono ?_
    rintro e w5 ⟨rfl, o5⟩
    have hrow := N4.out.row.row.only o5 fun _ _ e => e
    rw [← HN.out] at hrow
    obtain ⟨g, off, rfl, hg, hcell, hall⟩ := hrow.form' (by have := HN.out; omega)
    have N5 : Hid (PNew w1 w5 (.slice (some ⟨g, off, none⟩) n cap2) ps) := Lib.hid ⟨N4.out.row.new_ o5, N4.out.fresh, N4.out.only.trans o5⟩
    have hyk : ps[k] = y := (List.getElem?_eq_some_iff.1 h1).2
    have k0 := hcell (k * 2 + 0) (.string y.1) (by rw [← hyk]; exact flat_at pairR 2 ps k (fun y _ => rfl) hj 0 _ rfl)
    have k1 := hcell (k * 2 + 1) (.string y.2) (by rw [← hyk]; exact flat_at pairR 2 ps k (fun y _ => rfl) hj 1 _ rfl)
    have hcap : n ≤ cap2 := by rcases hrow.form with ⟨e, _⟩ | ⟨_, _, _, e, h1, _⟩; cases e; injection e with e1 e2 e3; omega
    have fz0 := (hall (k * 2 + 0) (by have := HN.out; omega)).2
    have fz1 := (hall (k * 2 + 1) (by have := HN.out; omega)).2
    rw [Nat.add_zero] at k0 fz0
    rw [← Nat.add_assoc] at k1 fz1
    have C5 := HC4.out.new_ o5
    have f0 := C5 (P, 0, .string key) (by simp)
    have f1 := C5 (P, 1, .string x) (by simp)
    simp only at f0 f1
    have hput : putP key x ps = ps.set k (key, x) := by unfold putP; rw [h2, if_neg (by omega), Int.toNat_natCast]
    have hset := setPair hrow hj HN.out key x
    have i0 : (0 : Int) ≤ (k : Int) := by omega
    have i1 : (k : Int) < (n : Int) := by have := HN.out; omega
    have i2 : ¬ (k : Int) < 0 := by omega
    have hgw : w1.heap.size ≤ g := N5.out.fresh g rfl
    have HZ : Hid (PNew w ((w5.setCell ⟨g, off + k * 2, none⟩ (.string key)).setCell ⟨g, off + k * 2 + 1, none⟩ (.string x)) (.slice (some ⟨g, off, none⟩) n cap2) (putP key x ps)) := Lib.hid (by
      have hs1 := HS.out
      have hs5 := N5.out.only.size
      refine ⟨⟨by rw [hput, List.length_set, ← HN.out]; exact hset⟩, fun g' hg' => ?_, ?_⟩
      · have hg' : some g = some g' := hg'
        injection hg' with hg'
        omega
      · have oo : Only (fun q => q = g) w5 ((w5.setCell ⟨g, off + k * 2, none⟩ (.string key)).setCell ⟨g, off + k * 2 + 1, none⟩ (.string x)) := ((Only.refl (fun q => q = g) w5).setCell (p := ⟨g, off + k * 2, none⟩) rfl _).setCell (p := ⟨g, off + k * 2 + 1, none⟩) rfl _
        exact (O1.out.trans N5.out.only).trans2 oo fun q hq e => by omega)
    clear hrow hcell hall h1 h2 h3 h4 hyk hput hset hcap o5 C5 hgw hj hg
    obtain ⟨y0, y1⟩ := y
    simp only at k0 k1
    go_wp2_with fail
    go_ret
    exact ⟨_, rfl, HZ.out⟩
end Go.Proofs.Ytajbagdgjbihjaa
