/- slices.DeleteFunc (35) of pairs. -/
import Derived.Test.YtajbagdgjbihjaaD4
namespace Go.Proofs.Ytajbagdgjbihjaa
open Go.RowKit Go.Maps
set_option linter.unusedVariables false

def zeros (n : Nat) : List Value := (Builtin.zeroCells #[.string ⟨#[]⟩, .string ⟨#[]⟩] n).toList
theorem zeros_length (n : Nat) : (zeros n).length = n * 2 := by
  unfold zeros Builtin.zeroCells
  simp
theorem zeros_one (n : Nat) : ∀ v ∈ zeros n, v.oneCell' = true := by
  intro v hv
  unfold zeros Builtin.zeroCells at hv
  simp only [Array.toList_map, List.mem_map] at hv
  obtain ⟨i, _, rfl⟩ := hv
  have : i % (#[Value.string ⟨#[]⟩, Value.string ⟨#[]⟩] : Array Value).size = 0 ∨ i % (#[Value.string ⟨#[]⟩, Value.string ⟨#[]⟩] : Array Value).size = 1 := by
    show i % 2 = 0 ∨ i % 2 = 1
    omega
  rcases this with e | e <;> rw [e] <;> rfl
theorem zero67 (w : World) : (zeroValue 67).run Try.prog w = .ok (pairV ⟨#[]⟩ ⟨#[]⟩) w := by kernel_rfl
theorem run_clear_pairs (w : World) (ty : TypeId) (b o n c : Nat) (hn : 0 < n) (hc : ∀ j, j < n * 2 → (w.cell? ⟨b, o + j, none⟩).isSome = true) (hf : ∀ j, j < n * 2 → w.frozen? ⟨b, o + j, none⟩ = false) :
    (Builtin.clear_ #[65] ty #[.slice (some ⟨b, o, none⟩) n c]).run Try.prog w = .ok (.tuple #[]) (w.setCells b o (zeros n)) := by
  have hst := run_storeCells_cells (P := Try.prog) b o (zeros n) 0 w (by rw [zeros_length]; simpa using hc) (by rw [zeros_length]; simpa using hf) (zeros_one n)
  simp only [Nat.add_zero] at hst
  obtain ⟨m, rfl⟩ : ∃ m, n = m + 1 := ⟨n - 1, by omega⟩
  have hz : (pairV ⟨#[]⟩ ⟨#[]⟩).cells = #[.string ⟨#[]⟩, .string ⟨#[]⟩] := rfl
  unfold zeros at hst ⊢
  have hz' : (Value.agg #[.string ⟨#[]⟩, .string ⟨#[]⟩]).cells = #[.string ⟨#[]⟩, .string ⟨#[]⟩] := rfl
  simp [Builtin.clear_, run_underlying under65]
  rw [hz', hst]
  rfl
theorem Vec.pre {w : World} {size n g off cap k : Nat} {xs : List Value} (h : Vec w size (.slice (some ⟨g, off, none⟩) n cap) n xs) (hk : k ≤ n) : Vec w size (.slice (some ⟨g, off, none⟩) k cap) k (xs.take (k * size)) := by
  have hl := h.len
  rcases h.form with ⟨h1, _⟩ | ⟨g', off', cap', he, h1, h2, h3, h4, h5⟩
  · cases h1
  · injection he with e1 e2 e3
    injection e1 with e1
    injection e1 with e1 e4
    subst e1 e4 e3
    have : k * size ≤ n * size := Nat.mul_le_mul_right _ hk
    refine ⟨by rw [List.length_take, hl]; omega, .inr ⟨g, off, cap, rfl, Nat.le_trans hk h1, h2, h3, fun j u hu => ?_, h5⟩⟩
    rw [List.getElem?_take] at hu
    split at hu
    · exact h4 j u hu
    · cases hu
/-- while some are left out of a row: what is kept lies ahead, the rest is as it was -/
structure Del (q : Pr → Bool) (ps L : List Pr) (i j : Nat) : Prop where
  len : L.length = ps.length
  ij : i ≤ j
  jn : j ≤ ps.length
  kept : L.take i = (ps.take j).filter fun p => !q p
  rest : L.drop j = ps.drop j
theorem Del.at_ {q : Pr → Bool} {ps L : List Pr} {i j : Nat} (h : Del q ps L i j) (hj : j < ps.length) : L[j]? = ps[j]? := by
  have h1 := congrArg (fun l => l[0]?) h.rest
  simpa using h1
theorem filter_succ {q : Pr → Bool} {ps : List Pr} {j : Nat} {x : Pr} (hx : ps[j]? = some x) : (ps.take (j + 1)).filter (fun p => !q p) = (ps.take j).filter (fun p => !q p) ++ (if q x then [] else [x]) := by
  rw [List.take_add_one, hx, List.filter_append]
  simp only [Option.toList_some, List.filter_cons, List.filter_nil]
  cases q x <;> rfl
theorem Del.out {q : Pr → Bool} {ps L : List Pr} {i j : Nat} {x : Pr} (h : Del q ps L i j) (hx : ps[j]? = some x) (hq : q x = true) : Del q ps L i (j + 1) := by
  have hj := (List.getElem?_eq_some_iff.1 hx).1
  refine ⟨h.len, by have := h.ij; omega, hj, by rw [filter_succ hx, hq, h.kept]; simp, ?_⟩
  have := congrArg List.tail h.rest
  simpa using this
theorem Del.keep {q : Pr → Bool} {ps L : List Pr} {i j : Nat} {x : Pr} (h : Del q ps L i j) (hx : ps[j]? = some x) (hq : q x = false) : Del q ps (L.set i x) (i + 1) (j + 1) := by
  have hj := (List.getElem?_eq_some_iff.1 hx).1
  have hl := h.len
  have hij := h.ij
  refine ⟨by rw [List.length_set, h.len], by omega, hj, ?_, ?_⟩
  · rw [filter_succ hx, hq, ← h.kept, List.take_succ_eq_append_getElem (by rw [List.length_set]; omega), List.getElem_set_self, List.take_set_of_le (Nat.le_refl _)]
    simp
  · rw [List.drop_set_of_lt (by omega)]
    have := congrArg List.tail h.rest
    simpa using this
theorem del_start {q : Pr → Bool} : ∀ {ps : List Pr} {k : Nat} {x : Pr}, ps[k]? = some x → q x = true → (∀ j y, j < k → ps[j]? = some y → q y = false) → Del q ps ps k (k + 1) := by
  intro ps k x hx hq hn
  have hj := (List.getElem?_eq_some_iff.1 hx).1
  refine ⟨rfl, by omega, hj, ?_, rfl⟩
  rw [filter_succ hx, hq]
  simp only [if_true, List.append_nil]
  refine (List.filter_eq_self.2 fun y hy => ?_).symm
  obtain ⟨j, hjl, rfl⟩ := List.getElem_of_mem hy
  rw [List.length_take] at hjl
  have := hn j _ (by omega) (List.getElem?_eq_getElem (show j < ps.length by omega))
  rw [List.getElem_take, this]
  rfl
theorem idxOf_cases (q : Pr → Bool) : ∀ ps : List Pr, (idxOf q ps = -1 ∧ ps.filter (fun p => !q p) = ps) ∨ ∃ (k : Nat) (x : Pr), idxOf q ps = (k : Int) ∧ ps[k]? = some x ∧ q x = true ∧ ∀ j y, j < k → ps[j]? = some y → q y = false
  | [] => .inl ⟨rfl, rfl⟩
  | p :: l => by
    unfold idxOf
    cases hp : q p with
    | true =>
      rw [if_pos rfl]
      exact .inr ⟨0, p, rfl, rfl, hp, fun j y hj => by omega⟩
    | false =>
      rw [if_neg (by simp)]
      rcases idxOf_cases q l with ⟨h1, h2⟩ | ⟨k, x, h1, h2, h3, h4⟩
      · rw [h1]
        refine .inl ⟨rfl, ?_⟩
        rw [List.filter_cons_of_pos (by rw [hp]; rfl), h2]
      · rw [h1, if_neg (by omega)]
        refine .inr ⟨k + 1, x, rfl, by simpa using h2, h3, fun j y hj hy => ?_⟩
        cases j with
        | zero => simp at hy; subst hy; exact hp
        | succ j => exact h4 j y (by omega) (by simpa using hy)
set_option maxRecDepth 20000 in
set_option maxHeartbeats 2000000 in
theorem delete_any {w : World} {v : Value} {ps : List Pr} (h : PRow w v ps) (hn : ps.length ≤ 100000) (F : Nat) (caps : Array Value) (hcf : ∀ args w, (callFunc F args).run Try.prog w = .ok (.enter F args) w) (q : Pr → Bool) (hq : ∀ x ∈ ps, ∀ w', Only (fun k => v.ownBlock = some k) w w' → Calls Try.prog F (#[pairV x.1 x.2] ++ caps) w' fun e w'' => e = .returned (.bool (q x)) ∧ Only None' w' w'') :
    Calls Try.prog 35 #[v, .func (.func F) #[] caps] w fun e w' => ∃ v', e = .returned v' ∧ PRow w' v' (ps.filter fun p => !q p) ∧ (∀ g, v'.ownBlock = some g → v.ownBlock = some g) ∧ Only (fun k => v.ownBlock = some k) w w' := by
  have HI := idx_any h hn F caps hcf q fun x hx w' o => hq x hx w' (o.mono fun _ _ e => e.elim)
  obtain ⟨a, cap, rfl, hc1, hc2⟩ := h.row.shape
  obtain ⟨n, hnn⟩ : ∃ n, n = ps.length := ⟨_, rfl⟩
  have H := Lib.hid h.row
  have HQ := Lib.hid hq
  rw [← hnn] at H HQ HI hc1 ⊢
  have HL := Lib.hid (And.intro hnn hn)
  have HC := Lib.hid hc1
  rcases idxOf_cases q ps with ⟨h1, h2⟩ | ⟨k, x, h1, h2, h3, h4⟩
  · rw [h1] at HI
    have HI := Lib.hid HI
    have HF := Lib.hid h2
    clear h hq hn hnn hc1 h1 h2
    go_enter Try.func35, Try.ntmps35
    go_wp2_with fail
    refine HI.out.mono ?_
    rintro e w3 ⟨rfl, o3⟩
    have O3 := Lib.hid o3
    clear o3
    go_wp2_with fail
    go_ret
    refine ⟨_, rfl, ⟨?_⟩, fun g hg => hg, O3.out.mono fun _ _ e => e.elim⟩
    rw [HF.out, ← HL.out.1]
    exact H.out.only O3.out fun _ _ e => e
  · rw [h1] at HI
    have hj := (List.getElem?_eq_some_iff.1 h2).1
    have hD := del_start h2 h3 h4
    obtain ⟨g, off, rfl, hg, _, _⟩ := H.out.form' (by omega)
    have HI := Lib.hid HI
    have L0 := Lib.hid hD
    have HK := Lib.hid (show k < n by omega)
    have i2 : ((k : Int) == -1) = false := by simp
    obtain ⟨kk, hkk⟩ : ∃ kk, kk = k + 1 := ⟨_, rfl⟩
    have e1 : wrap64 ((k : Int) + 1) = (kk : Int) := by rw [IntWalk.wrap64_in _ (by omega), hkk]; rfl
    rw [← hkk] at L0
    have HKK := Lib.hid hkk
    clear h hq hn hnn hc1 h1 h2 h3 h4 hj hD hg hkk
    go_enter Try.func35, Try.ntmps35
    go_wp2_with fail
    refine HI.out.mono ?_
    rintro e w3 ⟨rfl, o3⟩
    have O3 := Lib.hid (o3.mono (S' := fun q => q = g) fun _ _ e => e.elim)
    have R3 := Lib.hid (H.out.only o3 fun _ _ e => e)
    clear o3
    go_wp2_with fail
    rw [e1]
    clear e1 i2
    go_loopw [5, 6] (fun i j wr => ∃ (ii jj : Nat) (L : List Pr), i = .int .i64 (ii : Int) ∧ j = .int .i64 (jj : Int) ∧ Hid (ii < n ∧ jj ≤ n ∧ ii < jj) ∧ Hid (Del q ps L ii jj) ∧ Hid (Vec wr 2 (.slice (some ⟨g, off, none⟩) n cap) n (L.flatMap pairR)) ∧ Hid (Only (fun q => q = g) w wr)) (fun i j wr => n - (intOf j).toNat)
    case atStart => exact ⟨k, kk, ps, rfl, rfl, Lib.hid (by have := HK.out; have := HKK.out; omega), L0, R3, O3⟩
    case round =>
      clear L0 R3
      obtain ⟨ii, jj, L, rfl, rfl, HB, HD, HR, HO⟩ := hrel
      by_cases hlt : jj < n
      · have hj : jj < ps.length := by have := HL.out.1; omega
        obtain ⟨x, hx⟩ : ∃ x, x = ps[jj] := ⟨_, rfl⟩
        have hx' : ps[jj]? = some x := by rw [hx]; exact List.getElem?_eq_getElem hj
        have hLj : jj < L.length := by rw [HD.out.len]; exact hj
        have hLx : L[jj] = x := by
          have := HD.out.at_ hj
          rw [hx', List.getElem?_eq_getElem hLj] at this
          injection this
        have hLi : ii < L.length := by have := HB.out; omega
        have hcell := HR.out.range
        have hrx0 := hcell (jj * 2 + 0) (.string x.1) (by rw [← hLx]; exact flat_at pairR 2 L jj (fun y _ => rfl) hLj 0 _ rfl)
        have hrx1 := hcell (jj * 2 + 1) (.string x.2) (by rw [← hLx]; exact flat_at pairR 2 L jj (fun y _ => rfl) hLj 1 _ rfl)
        rw [Nat.add_zero] at hrx0
        rw [← Nat.add_assoc] at hrx1
        have i0 : (0 : Int) ≤ (jj : Int) := by omega
        have i1 : (jj : Int) < (n : Int) := by omega
        have i2 : (0 : Int) ≤ (ii : Int) := by omega
        have i3 : (ii : Int) < (n : Int) := by have := HB.out; omega
        rename World => wx
        obtain ⟨w5, hw5⟩ : ∃ w5, w5 = wx.alloc (.cells #[.string x.1, .string x.2] 67) := ⟨_, rfl⟩
        obtain ⟨T, hT⟩ : ∃ T, T = wx.heap.size := ⟨_, rfl⟩
        have o5 : Only None' wx w5 := by rw [hw5]; exact (Only.refl None' wx).alloc _
        have hC5 : CellsR w5 T [.string x.1, .string x.2] := by rw [hw5, hT]; exact cells_new wx [.string x.1, .string x.2] 67
        have HC5 := Lib.hid hC5
        have R5 := Lib.hid (HR.out.only o5 fun _ _ e => e)
        have O5 : Hid (Only (fun q => q = g) w w5) := Lib.hid (HO.out.trans2 o5 fun _ _ e => e.elim)
        have HQX := Lib.hid (HQ.out x (by rw [hx]; exact List.getElem_mem hj) w5 (O5.out.mono fun q _ e => by rw [e]; rfl))
        have t0 := hC5.is 0 _ rfl
        have t1 := hC5.is 1 _ rfl
        have HX := Lib.hid (And.intro hx' hLi)
        have HLT := Lib.hid hlt
        have ew5 := hw5.symm
        have eT := hT.symm
        have HTg : Hid (T ≠ g) := Lib.hid (by have := HR.out.lt (k := g) rfl; omega)
        clear hcell hx hx' hLj hLx hLi hj o5 hC5 hw5 hT hlt
        obtain ⟨x0, x1⟩ := x
        simp only at hrx0 hrx1 t0 t1 ew5 HC5
        obtain ⟨b, hb⟩ : ∃ b, b = q (x0, x1) := ⟨_, rfl⟩
        rw [← hb] at HQX
        have HBQ := Lib.hid hb
        clear hb
        go_wp2_with fail
        refine HQX.out.mono ?_
        rintro e w6 ⟨rfl, o6⟩
        have O6 := Lib.hid (O5.out.trans2 o6 fun _ _ e => e.elim)
        have R6 := Lib.hid (R5.out.only o6 fun _ _ e => e)
        have HC6 := Lib.hid (HC5.out.kept o6 fun e => e)
        have s0 := HC6.out.is 0 _ rfl
        have s1 := HC6.out.is 1 _ rfl
        cases b with
        | true =>
          clear o6 t0 t1 hrx0 hrx1 ew5 eT
          go_wp2_with fail
          go_roundw
          case rel =>
            exact ⟨ii, jj + 1, L, rfl, next_int (by have := HL.out; have := HLT.out; omega), Lib.hid (by have := HB.out; have := HLT.out; omega), Lib.hid (HD.out.out HX.out.1 HBQ.out.symm), R6, O6⟩
          case measure =>
            rw [next_int (by have := HL.out; have := HLT.out; omega)]
            show n - ((jj + 1 : Nat) : Int).toNat < n - (jj : Int).toNat
            have := HLT.out
            omega
        | false =>
          obtain ⟨_, _, e0, _, _, hall⟩ := R6.out.form' (by have := HLT.out; omega)
          injection e0 with e0
          injection e0 with e0 e0'
          subst e0 e0'
          have hii : ii * 2 + 1 < cap * 2 := by have := HB.out; have := HC.out; omega
          have fz0 := (hall (ii * 2) (by omega)).2
          have fz1 := (hall (ii * 2 + 1) (by omega)).2
          obtain ⟨y0, k0⟩ := Option.isSome_iff_exists.1 (hall (ii * 2) (by omega)).1
          obtain ⟨y1, k1⟩ := Option.isSome_iff_exists.1 (hall (ii * 2 + 1) (by omega)).1
          rw [← Nat.add_assoc] at fz1 k1
          have hset := setPair R6.out HX.out.2 (by rw [HD.out.len]; exact HL.out.1) x0 x1
          have RS := Lib.hid hset
          have OS : Hid (Only (fun q => q = g) w ((w6.setCell ⟨g, off + ii * 2, none⟩ (.string x0)).setCell ⟨g, off + ii * 2 + 1, none⟩ (.string x1))) := Lib.hid ((O6.out.setCell (p := ⟨g, off + ii * 2, none⟩) rfl _).setCell (p := ⟨g, off + ii * 2 + 1, none⟩) rfl _)
          have htg : T ≠ g := HTg.out
          clear o6 t0 t1 hrx0 hrx1 ew5 eT hall hii hset
          go_wp2_with fail
          go_roundw
          case rel => exact ⟨ii + 1, jj + 1, L.set ii (x0, x1), next_int (by have := HL.out; have := HB.out; omega), next_int (by have := HL.out; have := HLT.out; omega), Lib.hid (by have := HB.out; have := HLT.out; omega), Lib.hid (HD.out.keep HX.out.1 HBQ.out.symm), RS, OS⟩
          case measure =>
            rw [next_int (by have := HL.out; have := HLT.out; omega)]
            show n - ((jj + 1 : Nat) : Int).toNat < n - (jj : Int).toNat
            have := HLT.out
            omega
      · obtain rfl : jj = n := by have := HB.out; omega
        have hi : ii < jj := HB.out.2.2
        obtain ⟨_, _, e0, _, _, hall⟩ := HR.out.form' (by omega)
        injection e0 with e0
        injection e0 with e0 e0'
        subst e0 e0'
        rename World => wx
        have hcl : ∀ ty, (Builtin.clear_ #[65] ty #[.slice (some ⟨g, off + ii * 2, none⟩) (jj - ii) (cap - ii)]).run Try.prog wx = .ok (.tuple #[]) (wx.setCells g (off + ii * 2) (zeros (jj - ii))) := fun ty =>
          run_clear_pairs wx ty g (off + ii * 2) (jj - ii) (cap - ii) (by omega) (fun t ht => by rw [Nat.add_assoc]; exact (hall (ii * 2 + t) (by have := HC.out; omega)).1) (fun t ht => by rw [Nat.add_assoc]; exact (hall (ii * 2 + t) (by have := HC.out; omega)).2)
        have hp := (HR.out.put (o := ii * 2) (vs := zeros (jj - ii)) (by rw [zeros_length]; omega)).pre (k := ii) (by omega)
        have i0 : (0 : Int) ≤ (ii : Int) := by omega
        have i1 : (ii : Int) ≤ (jj : Int) := by omega
        have i2 : (jj : Int) ≤ (cap : Int) := by have := HC.out; omega
        have i3 : ii ≠ cap := by have := HC.out; omega
        have HP := Lib.hid hp
        have HW : Hid (Only (fun q => q = g) w (wx.setCells g (off + ii * 2) (zeros (jj - ii)))) := Lib.hid (HO.out.setCells rfl _ _)
        have HI := Lib.hid hi
        clear hall hp hi hlt
        go_wp2_with fail
        go_ret
        refine ⟨.slice (some ⟨g, off, none⟩) ii cap, rfl, ⟨?_⟩, fun q hq => hq, HW.out.mono fun q _ e => by rw [e]; rfl⟩
        have hk := HD.out.kept
        have e : ps.take jj = ps := List.take_of_length_le (by have := HL.out.1; omega)
        rw [e] at hk
        have hl : (L.take ii).length = ii := by rw [List.length_take, HD.out.len]; have := HL.out.1; have := HI.out; omega
        rw [← hk, hl]
        have h := HP.out
        have hll : (L.flatMap pairR).length = L.length * 2 := flat_length pairR 2 L fun _ _ => rfl
        have hil : ii ≤ L.length := by rw [HD.out.len]; have := HL.out.1; have := HI.out; omega
        rw [List.append_assoc, List.take_append_of_le_length (by rw [List.length_take, hll]; omega), List.take_take, Nat.min_self, flat_take pairR 2 L ii (fun _ _ => rfl) hil] at h
        exact h
end Go.Proofs.Ytajbagdgjbihjaa
