/- Due, Old: the walks. -/
import Derived.Test.YtfmpidacklhmaaaS5
namespace Go.Proofs.Ytfmpidacklhmaaa
open Go.RowKit Go.Maps
set_option linter.unusedVariables false
set_option maxRecDepth 20000

def Wt.at_ (now : Int) (x : Wt) : Wt := { x with last := now }
theorem flat_last (a : Int) : ∀ (l : List Wt) (k : Nat) (x : Wt), l[k]? = some x → (l.set k (x.at_ a)).flatMap Wt.row = (l.flatMap Wt.row).set (k * 7 + 5) (.int .i64 a)
  | [], k, x, h => by simp at h
  | y :: l, 0, x, h => by
    simp at h
    subst h
    rfl
  | y :: l, k + 1, x, h => by
    have ih := flat_last a l k x (by simpa using h)
    rw [List.set_cons_succ, List.flatMap_cons, List.flatMap_cons, ih, show (k + 1) * 7 + 5 = y.row.length + (k * 7 + 5) by rw [Wt.row_length]; omega, List.set_append_right _ _ (by omega), Nat.add_sub_cancel_left]
theorem WRow.setLast {w : World} {g off n c k : Nat} {l : List Wt} {x : Wt} (h : WRow w (.slice (some ⟨g, off, none⟩) n c) l) (hn : n = l.length) (hx : l[k]? = some x) (a : Int) : WRow (w.setCell ⟨g, off + k * 7 + 5, none⟩ (.int .i64 a)) (.slice (some ⟨g, off, none⟩) n c) (l.set k (x.at_ a)) := by
  obtain ⟨hk, _⟩ := List.getElem?_eq_some_iff.1 hx
  subst hn
  have h1 := h.row.put (o := k * 7 + 5) (vs := [.int .i64 a]) (by
    have : (k + 1) * 7 ≤ l.length * 7 := Nat.mul_le_mul_right _ hk
    simp only [List.length_singleton]
    omega)
  refine ⟨?_⟩
  rw [flat_last a l k x hx, List.length_set, Nat.add_assoc]
  have e : (l.flatMap Wt.row).set (k * 7 + 5) (.int .i64 a) = (l.flatMap Wt.row).take (k * 7 + 5) ++ [.int .i64 a] ++ (l.flatMap Wt.row).drop (k * 7 + 5 + 1) := by
    rw [List.set_eq_take_append_cons_drop, if_pos (by
      rw [flat_len]
      have : (k + 1) * 7 ≤ l.length * 7 := Nat.mul_le_mul_right _ hk
      omega), List.append_assoc]
    rfl
  rw [e]
  exact h1
def stepRow (f : Wt → Wt) (l : List Wt) (k : Nat) : List Wt := (l.take k).map f ++ l.drop k
theorem stepRow_length (f : Wt → Wt) (l : List Wt) (k : Nat) : (stepRow f l k).length = l.length := by
  unfold stepRow
  rw [List.length_append, List.length_map, List.length_take, List.length_drop]
  omega
theorem stepRow_at (f : Wt → Wt) {l : List Wt} {k : Nat} {x : Wt} (h : l[k]? = some x) : (stepRow f l k)[k]? = some x := by
  obtain ⟨hk, rfl⟩ := List.getElem?_eq_some_iff.1 h
  unfold stepRow
  rw [List.getElem?_append_right (by rw [List.length_map, List.length_take]; omega), List.getElem?_drop, List.length_map, List.length_take, Nat.min_eq_left (by omega), Nat.sub_self, Nat.add_zero, h]
theorem stepRow_succ (f : Wt → Wt) {l : List Wt} {k : Nat} {x : Wt} (h : l[k]? = some x) : (stepRow f l k).set k (f x) = stepRow f l (k + 1) := by
  obtain ⟨hk, rfl⟩ := List.getElem?_eq_some_iff.1 h
  have hl : ((l.take k).map f).length = k := by rw [List.length_map, List.length_take]; omega
  unfold stepRow
  rw [List.set_append_right _ _ (by omega), hl, Nat.sub_self, List.drop_eq_getElem_cons hk, List.set_cons_zero, List.take_succ_eq_append_getElem hk, List.map_append, List.append_assoc]
  rfl
theorem stepRow_zero (f : Wt → Wt) (l : List Wt) : stepRow f l 0 = l := rfl
theorem stepRow_end (f : Wt → Wt) (l : List Wt) : stepRow f l l.length = l.map f := by
  unfold stepRow
  rw [List.take_length, List.drop_length, List.append_nil]
def Cl.due (c : Cl) (now every : Int) : Cl := c.with_ (c.ws.map fun y => if agoB y.last now every then y.at_ now else y)
def Cl.old (c : Cl) (now most : Int) : Cl := c.with_ (c.ws.filter fun y => !agoB y.first now most)

structure DelLoop (w wr : World) (B M : Nat) (c : Cl) (l : List Wt) (v : Value) (k : Nat) : Prop where
  only : Only (fun j => j = M) w wr
  at_ : CallAt wr B M (c.with_ (dstepW l c.ws k))
  row : WRow wr v l
  new : ∀ g, v.ownBlock = some g → w.heap.size ≤ g
theorem DelLoop.next {w wr w3 w4 : World} {B M : Nat} {c : Cl} {l : List Wt} {v : Value} {k n : Nat} {x : Wt} (h : DelLoop w wr B M c l v k) (hc : c.Ok) (hx : l[k]? = some x) (hw : M < w.heap.size) (o3 : Only None' wr w3)
    (hmap : w4.ownsMap Try.prog 3 wtR M n ((Dof (dstepW l c.ws k)).del (.int .i64 x.req))) (o4 : Only (fun j => j = M) w3 w4) : DelLoop w w4 B M c l v (k + 1) := by
  rw [Dof_del, dstep_succ hx] at hmap
  refine ⟨(h.only.trans2 o3 fun j hj e => e.elim).trans o4, (h.at_.new o3).turn hmap o4 (hc.filter _), (h.row.only o3 fun _ _ e => e).only o4 fun g hg e => ?_, h.new⟩
  have := h.new g hg; omega

set_option maxRecDepth 20000 in
set_option maxHeartbeats 1000000 in
theorem olds_any {w : World} {B M : Nat} {c : Cl} (h : CallAt w B M c) (now every : Int) : Calls Try.prog 21 #[.pointer (some ⟨B, 0, none⟩), .int .i64 now, .int .i64 every] w fun e w' => ∃ v, e = .returned v ∧ WRow w' v (c.ws.filter fun x => agoB x.first now every) ∧ (∀ g, v.ownBlock = some g → w.heap.size ≤ g) ∧ CallAt w' B M (c.old now every) ∧ Only (fun k => k = M) w w' := by
  obtain ⟨q, hq⟩ : ∃ q : Wt → Bool, q = fun x => agoB x.first now every := ⟨_, rfl⟩
  have o1 : Only None' w ((w.alloc (.cells #[.int .i64 now] 3)).alloc (.cells #[.int .i64 every] 3)) := ((Only.refl None' w).alloc _).alloc _
  have C1 := (cells_new w [.int .i64 now] 3).kept ((Only.refl None' _).alloc (.cells #[.int .i64 every] 3)) fun e => e
  have D1 := cells_new (w.alloc (.cells #[.int .i64 now] 3)) [.int .i64 every] 3
  have hsz : (w.alloc (.cells #[.int .i64 now] 3)).heap.size = w.heap.size + 1 := by simp
  rw [hsz] at D1
  have hs := some_any (h.new o1) 32 #[.pointer (some ⟨w.heap.size, 0, none⟩), .pointer (some ⟨w.heap.size + 1, 0, none⟩)] call32 q fun x _ w' o => by
    rw [hq]
    have C2 := C1.kept o fun e => e
    have D2 := D1.kept o fun e => e
    exact old_any x w.heap.size (w.heap.size + 1) now every w' (C2.is 0 _ rfl) C2.lt (D2.is 0 _ rfl) D2.lt
  have HS := Lib.hid hs
  have H := Lib.hid h
  have hmk : c.old now every = c.with_ (dstepW (c.ws.filter q) c.ws (c.ws.filter q).length) := by
    rw [dstep_end h.ok.rise q, hq]; rfl
  have HN : Hid ((c.ws.filter q).length ≤ 64) := Lib.hid (Nat.le_trans (List.length_filter_le _ _) h.ok.few)
  have HWF : Hid (∀ x ∈ c.ws.filter q, (Lit.int .i64 x.req).wf = true) := Lib.hid fun x hx => h.ok.wf (List.mem_filter.1 hx).1
  rw [hmk, ← hq]
  obtain ⟨l, hl⟩ : ∃ l, l = c.ws.filter q := ⟨_, rfl⟩
  rw [← hl] at HS HN HWF ⊢
  clear hs o1 C1 D1 hmk h hq hl hsz
  go_enter Try.func21, Try.ntmps21
  go_wp2_with fail
  refine HS.out.mono ?_
  rintro e w2 ⟨v, rfl, hv, hf, o2⟩
  obtain ⟨a, cap, rfl⟩ := hv.shape
  obtain ⟨n, hn⟩ : ∃ n, n = l.length := ⟨_, rfl⟩
  have HLN := Lib.hid hn
  have L0 : Hid (DelLoop w w2 B M c l (.slice a n cap) 0) := Lib.hid (by
    have o : Only None' w w2 := (((Only.refl None' w).alloc _).alloc _).trans o2
    refine ⟨o.mono fun _ _ e => e.elim, ?_, ?_, fun g hg => ?_⟩
    · rw [dstep_zero]; exact H.out.new o
    · rw [hn]; exact hv
    · rw [hn] at hg
      have := hf g hg
      simp at this
      omega)
  rw [← hn]
  clear hv hf o2 hn HS
  go_wp2_with fail
  go_loopw [15] (fun i wr => ∃ k : Nat, k ≤ n ∧ i = .int .i64 (k : Int) ∧ Hid (DelLoop w wr B M c l (.slice a n cap) k)) (fun i wr => n - (intOf i).toNat)
  case atStart => exact ⟨0, by omega, rfl, L0⟩
  case round =>
    obtain ⟨k, hk, rfl, HK⟩ := hrel
    clear L0
    by_cases hlt : k < n
    · have hj : k < l.length := by have := HLN.out; omega
      obtain ⟨g, off, cp, e, hg, hcell, _⟩ := HK.out.row.at_ hj
      injection e with e e2 e3
      subst e
      clear e2 e3
      obtain ⟨x, hx⟩ : ∃ x, x = l[k] := ⟨_, rfl⟩
      rw [← hx] at hcell
      have HX : Hid (l[k]? = some x) := Lib.hid (by rw [hx]; exact List.getElem?_eq_getElem hj)
      have HM : Hid ((Lit.int .i64 x.req).wf = true) := Lib.hid (HWF.out x (by rw [hx]; exact List.getElem_mem hj))
      clear hx hj
      obtain ⟨x1, x2, x3, x4, x5, x6, x7⟩ := x
      have k0 := hcell 0 _ rfl
      have k1 := hcell 1 _ rfl
      have k2 := hcell 2 _ rfl
      have k3 := hcell 3 _ rfl
      have k4 := hcell 4 _ rfl
      have k5 := hcell 5 _ rfl
      have k6 := hcell 6 _ rfl
      rw [Nat.add_zero] at k0
      have i0 : (0 : Int) ≤ (k : Int) := by omega
      have i1 : (k : Int) < (n : Int) := by omega
      have HLT := Lib.hid hlt
      clear hcell hlt hk
      go_wp2_with fail
      obtain ⟨w3, hw3⟩ : ∃ w3, w3 = wr.alloc (.cells #[.int .i64 x1, .string x2, .int .i64 x3, .int .i64 x4, .int .i64 x5, .int .i64 x6, .bool x7] 74) := ⟨_, rfl⟩
      have O3 : Hid (Only None' wr w3) := Lib.hid (by rw [hw3]; exact (Only.refl None' wr).alloc _)
      have C3 : Hid (CellsR w3 wr.heap.size [.int .i64 x1, .string x2, .int .i64 x3, .int .i64 x4, .int .i64 x5, .int .i64 x6, .bool x7]) := Lib.hid (by rw [hw3]; exact cells_new wr [.int .i64 x1, .string x2, .int .i64 x3, .int .i64 x4, .int .i64 x5, .int .i64 x6, .bool x7] 74)
      have A3 := Lib.hid (HK.out.at_.new O3.out)
      have c2 := A3.out.cells.is 2 _ rfl
      have t0 := C3.out.is 0 _ rfl
      rw [← hw3]
      clear hw3 k0 k1 k2 k3 k4 k5 k6
      go_still_tail 6, (by kernel_rfl)
      at_delete
      refine wpList_delete_own _ rfl _ _ 76 3 rfl 74 keyed3 under76 wtR M _ _ rfl (A3.out.map.drew) (.int .i64 x1) _ rfl (keyOf_int_mk Try.underlying3 HM.out) ?_
      intro w4 ho4 ht4
      have O4 : Hid (Only (fun j => j = M) w3 w4) := Lib.hid ((Only.drew (Only.refl _ _)).turned ht4 rfl)
      have NX := Lib.hid (HK.out.next H.out.ok HX.out H.out.lt O3.out ho4 O4.out)
      clear ho4 ht4
      go_wp2_with fail
      go_roundw
      case rel => exact ⟨k + 1, by have := HLT.out; omega, next_int (by have := HN.out; have := HLN.out; have := HLT.out; omega), NX⟩
      case measure => exact meas HLT.out (by have := HN.out; have := HLN.out; omega)
    · obtain rfl : k = n := by omega
      go_wp2_with fail
      go_ret
      refine ⟨_, rfl, ?_, HK.out.new, ?_, HK.out.only⟩
      · exact HK.out.row
      · rw [← HLN.out]
        exact HK.out.at_
end Go.Proofs.Ytfmpidacklhmaaa
