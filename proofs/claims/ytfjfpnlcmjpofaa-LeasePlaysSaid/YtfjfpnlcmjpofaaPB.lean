/- The document's Shut, Unshut. -/
import Derived.Test.YtfjfpnlcmjpofaaPA
namespace Go.Proofs.Ytfjfpnlcmjpofaa
open Go.RowKit Go.Maps Go.Sort Go.Shelf
set_option linter.unusedVariables false

section
variable {w w5 : World} {X : Nat} {lv sv sv' lv' lo : Value} {t t' : Tb}
/-- the list of shut keys is put in -/
theorem docAt_put5 (h : DocAt w X lv sv t) (o : Only (fun k => sv.ownBlock = some k) w w5) (hv : Vec w5 1 sv' t'.shut.length (t'.shut.map sV)) (hf : ∀ g, sv'.ownBlock = some g → sv.ownBlock = some g ∨ w.heap.size ≤ g)
    (e1 : t'.life = t.life) (e2 : t'.hold = t.hold) (e3 : t'.start = t.start) (e4 : t'.given = t.given) (e5 : t'.ls = t.ls) (few : t'.shut.length ≤ t'.cnt) :
    DocAt (w5.setCell ⟨X, 5, none⟩ sv') X lv sv' t' ∧ Only (fun k => k = X ∨ sv.ownBlock = some k) w (w5.setCell ⟨X, 5, none⟩ sv') := by
  have o2 : Only (fun q => q = X) w5 (w5.setCell ⟨X, 5, none⟩ sv') := (Only.refl (fun q => q = X) w5).setCell (p := ⟨X, 5, none⟩) rfl _
  have hX := h.cells.lt
  obtain ⟨a1, a2, a3⟩ := h.apart
  have hne : ∀ g, sv'.ownBlock = some g → g ≠ X := fun g hg e => by
    rcases hf g hg with h1 | h1
    · exact a2 g h1 e
    · omega
  have hlt : ∀ g, lv.ownBlock = some g → g < w.heap.size := fun g hg => h.row.lt hg
  refine ⟨⟨?_, ?_, hv.only o2 hne, ⟨a1, hne, fun g hg e => ?_⟩, ok_same h.ok e1 e2 e3 e4 e5, few⟩, (o.mono fun k _ e => Or.inr e).trans (o2.mono fun k _ e => Or.inl e)⟩
  · have hc := h.cells.kept o fun e => a2 X e rfl
    have := hc.set (i := 5) (by simp) sv'
    rw [e1, e2, e3, e4]
    exact this
  · rw [e5]
    exact (h.row.only o fun g hg e => a3 g hg e).only o2 a1
  · rcases hf g e with h1 | h1
    · exact a3 g hg h1
    · have := hlt g hg; omega
/-- the list of leases is put in -/
theorem docAt_put4 (h : DocAt w X lv sv t) (o : Only (fun k => k = X ∨ lv.ownBlock = some k) w w5) (C : CellsR w5 X [.int .i64 (t'.life : Int), .int .i64 t'.hold, .int .i64 t'.start, .int .i64 (t'.given : Int), lo, sv]) (hv : Vec w5 4 lv' t'.ls.length (t'.ls.flatMap Ls.row)) (hf : ∀ g, lv'.ownBlock = some g → lv.ownBlock = some g ∨ w.heap.size ≤ g)
    (e1 : t'.shut = t.shut) (e2 : t'.cnt = t.cnt) (ok : t'.Ok) :
    DocAt (w5.setCell ⟨X, 4, none⟩ lv') X lv' sv t' ∧ Only (fun k => k = X ∨ lv.ownBlock = some k) w (w5.setCell ⟨X, 4, none⟩ lv') := by
  have o2 : Only (fun q => q = X) w5 (w5.setCell ⟨X, 4, none⟩ lv') := (Only.refl (fun q => q = X) w5).setCell (p := ⟨X, 4, none⟩) rfl _
  have hX := h.cells.lt
  obtain ⟨a1, a2, a3⟩ := h.apart
  have hne : ∀ g, lv'.ownBlock = some g → g ≠ X := fun g hg e => by
    rcases hf g hg with h1 | h1
    · exact a1 g h1 e
    · omega
  refine ⟨⟨C.set (i := 4) (by simp) lv', hv.only o2 hne, ?_, ⟨hne, a2, fun g hg e => ?_⟩, ok, by rw [e1, e2]; exact h.few⟩, o.trans (o2.mono fun k _ e => Or.inl e)⟩
  · rw [e1]
    exact (h.shut.only o fun g hg e => e.elim (a2 g hg) fun e => a3 g e hg).only o2 a2
  · rcases hf g hg with h1 | h1
    · exact a3 g h1 e
    · have := h.shut.lt e; omega
end
set_option maxRecDepth 20000 in
theorem dshut_any {w : World} {X : Nat} {lv sv : Value} {t : Tb} (h : DocAt w X lv sv t) (key : ByteArray) (hc : t.cnt ≤ 1000000) : Calls Try.prog 16 #[.pointer (some ⟨X, 0, none⟩), .string key] w fun e w' => e = .returned (.tuple #[]) ∧ ∃ sv', DocAt w' X lv sv' (t.shutted key.data.toList) ∧ Only (fun k => k = X ∨ sv.ownBlock = some k) w w' ∧ ∀ g, sv'.ownBlock = some g → sv.ownBlock = some g ∨ w.heap.size ≤ g := by
  have c5 := h.cells.is 5 _ rfl
  have H := Lib.hid h
  have HH := Lib.hid (has_any h.shut key)
  have HC := Lib.hid hc
  obtain ⟨a, k, rfl, _, _⟩ := h.shut.shape
  obtain ⟨n, hn⟩ : ∃ n, n = t.shut.length := ⟨_, rfl⟩
  have hsv := h.shut
  rw [← hn] at c5 H HH hsv
  have HN := Lib.hid hn
  have HSV := Lib.hid hsv
  have fz := h.cells.thaw
  have hX := h.cells.lt
  have hfew := h.few
  rw [← hn] at hfew
  have HF := Lib.hid (Nat.le_trans hfew hc)
  rw [← hn]
  clear h hc hn hsv hfew
  by_cases hin : key.data.toList ∈ t.shut
  · rw [decide_eq_true hin] at HH
    have HIN := Lib.hid hin
    clear hin
    go_enter Try.func16, Try.ntmps16
    go_wp2_with (go_at_call 28; refine (HH.out).mono ?_; rintro e w' ⟨rfl, rfl⟩)
    go_end0
    refine ⟨rfl, _, ?_, Only.refl _ _, fun g hg => Or.inl hg⟩
    have e : t.shutted key.data.toList = ⟨t.life, t.hold, t.start, t.given, t.ls, t.shut, t.cnt + 1⟩ := by unfold Tb.shutted; rw [if_pos HIN.out]
    rw [e]
    exact ⟨H.out.cells, H.out.row, H.out.shut, H.out.apart, ok_same H.out.ok rfl rfl rfl rfl rfl, Nat.le_succ_of_le H.out.few⟩
  · rw [decide_eq_false hin] at HH
    have HIN := Lib.hid hin
    clear hin
    go_enter Try.func16, Try.ntmps16
    go_wp2_with (first
      | (go_at_call 28; refine (HH.out).mono ?_; rintro e w' ⟨rfl, rfl⟩)
      | (at_builtin; refine wpList_append_any rfl _ _ 42 rfl 9 Try.t9 (.string ⟨#[]⟩) 1 16 under42 info9 t9_zero t9_size t9_bytes rfl (by decide) (.slice a n k) n (t.shut.map sV) rfl (HSV.out.alloc _) (.slice (some ⟨w.heap.size, 0, none⟩) 1 1) 1 [.string key] rfl (rd_one' w (.string key) 9) (by intro u hu; simp at hu; subst hu; rfl) (by have h1 := HF.out; unfold maxLen; omega) (by have h1 := HF.out; omega) ?_; intro v2 w5 hv2 hg2 hf2; obtain ⟨oa2, oc2, rfl, _, _⟩ := hv2.shape; have oy : Only (fun q => (Value.slice a n k).ownBlock = some q) (w.alloc (.cells #[.string key] 9)) w5 := (Only.refl _ _).grown hg2 fun g hg => hg; have C5 := Lib.hid ((H.out.cells.kept ((Only.refl None' w).alloc (.cells #[.string key] 9)) fun e => e).kept oy fun e => H.out.apart.2.1 X e rfl); have y2 := C5.out.is 5 _ rfl; have yf := C5.out.thaw; have yl := C5.out.lt; have HY := Lib.hid (And.intro hv2 (And.intro oy hf2)); clear hv2 hg2 hf2 oy))
    go_end0
    have e : t.shutted key.data.toList = ⟨t.life, t.hold, t.start, t.given, t.ls, t.shut ++ [key.data.toList], t.cnt + 1⟩ := by unfold Tb.shutted; rw [if_neg HIN.out]
    rw [e]
    have hal : Only (fun q => (Value.slice a n k).ownBlock = some q) w w5 := ((Only.refl _ w).alloc _).trans HY.out.2.1
    have hf3 : ∀ g, (Value.slice oa2 (n + 1) oc2).ownBlock = some g → (Value.slice a n k).ownBlock = some g ∨ w.heap.size ≤ g := fun g hg => by
      rcases HY.out.2.2 g hg with h1 | h1
      · exact Or.inl h1
      · simp at h1; exact Or.inr (by omega)
    have hp := docAt_put5 (t' := ⟨t.life, t.hold, t.start, t.given, t.ls, t.shut ++ [key.data.toList], t.cnt + 1⟩) H.out hal (sv' := .slice oa2 (n + 1) oc2) (by
      show Vec w5 1 _ (t.shut ++ [key.data.toList]).length ((t.shut ++ [key.data.toList]).map sV)
      rw [List.length_append, List.map_append, ← HN.out]
      have e2 : [key.data.toList].map sV = [.string key] := by rw [List.map_singleton, sV_key]
      rw [e2]
      exact HY.out.1) hf3 rfl rfl rfl rfl rfl (by rw [List.length_append]; exact Nat.succ_le_succ H.out.few)
    exact ⟨rfl, _, hp.1, hp.2, hf3⟩
/-- a row of keys that is being made -/
structure GK (w5 wy : World) (lv : Value) (l : List (List UInt8)) : Prop where
  only : Only None' w5 wy
  row : Vec wy 1 lv l.length (l.map sV)
  fresh : ∀ q, lv.ownBlock = some q → w5.heap.size ≤ q
theorem GK.push {w5 wy w6 : World} {lv v2 : Value} {l : List (List UInt8)} {x : List UInt8} {o : Obj} (h : GK w5 wy lv l) (hv : Vec w6 1 v2 (l.length + 1) (l.map sV ++ [sV x])) (hg : (wy.alloc o).grownBy w6 lv.ownBlock) (hf : ∀ k, v2.ownBlock = some k → lv.ownBlock = some k ∨ (wy.alloc o).heap.size ≤ k) : GK w5 w6 v2 (l ++ [x]) := by
  have hs := h.only.size
  have hsz : (wy.alloc o).heap.size = wy.heap.size + 1 := by simp
  refine ⟨?_, ?_, fun q hq => ?_⟩
  · have o1 : Only (fun q => w5.heap.size ≤ q) (wy.alloc o) w6 := (Only.refl _ _).grown hg fun q hq => h.fresh q hq
    exact (h.only.alloc o).trans2 o1 fun q hq e => by omega
  · rw [List.length_append, List.map_append, List.map_singleton]
    exact hv
  · rcases hf q hq with h1 | h1
    · exact h.fresh q h1
    · omega
theorem take_nextK {l : List (List UInt8)} {P : List UInt8 → Bool} {k : Nat} {x : List UInt8} (hx : l[k]? = some x) : (l.take (k + 1)).filter P = (l.take k).filter P ++ (if P x = true then [x] else []) := by
  rw [List.take_add_one, hx, List.filter_append]
  simp only [Option.toList_some, List.filter_cons, List.filter_nil]
set_option maxRecDepth 20000 in
set_option maxHeartbeats 1000000 in
theorem dunshut_any {w : World} {X : Nat} {lv sv : Value} {t : Tb} (h : DocAt w X lv sv t) (key : ByteArray) (hc : t.cnt ≤ 1000000) : Calls Try.prog 18 #[.pointer (some ⟨X, 0, none⟩), .string key] w fun e w' => e = .returned (.tuple #[]) ∧ ∃ sv', DocAt w' X lv sv' (t.unshut key.data.toList) ∧ Only (fun k => k = X ∨ sv.ownBlock = some k) w w' ∧ ∀ g, sv'.ownBlock = some g → sv.ownBlock = some g ∨ w.heap.size ≤ g := by
  obtain ⟨P, hP⟩ : ∃ P : List UInt8 → Bool, P = fun x => decide (x ≠ key.data.toList) := ⟨_, rfl⟩
  have HP := Lib.hid hP
  have H := Lib.hid h
  obtain ⟨a, k, rfl, _, _⟩ := h.shut.shape
  obtain ⟨n, hn⟩ : ∃ n, n = t.shut.length := ⟨_, rfl⟩
  have hsv := h.shut
  rw [← hn] at H hsv
  have HN := Lib.hid hn
  have HSV := Lib.hid hsv
  have hfew := h.few
  rw [← hn] at hfew
  have HF := Lib.hid (Nat.le_trans hfew hc)
  rw [← hn]
  clear h hc hn hsv hfew hP
  go_enter Try.func18, Try.ntmps18
  go_wp2_with fail
  go_loopw [4, 5] (fun p i wr => ∃ (j q : Nat) (pa : Option Addr) (pc : Nat), j ≤ n ∧ p = .slice pa q pc ∧ i = .int .i64 (j : Int) ∧ Hid (q = ((t.shut.take j).filter P).length) ∧ Hid (GK w wr (.slice pa q pc) ((t.shut.take j).filter P))) (fun p i wr => n - (intOf i).toNat)
  case atStart => exact ⟨0, 0, none, 0, by omega, rfl, rfl, Lib.hid rfl, Lib.hid ⟨Only.refl _ _, Vec.nil _ _, fun q hq => by cases hq⟩⟩
  case round =>
    obtain ⟨j, q, pa, pc, hj, rfl, rfl, HQ, HJ⟩ := hrel
    have HD := Lib.hid (H.out.new HJ.out.only)
    have c5 := HD.out.cells.is 5 _ rfl
    have cf := HD.out.cells.thaw
    have cl := HD.out.cells.lt
    have HQN : Hid (q ≤ 1000000) := Lib.hid (by rw [HQ.out]; exact Nat.le_trans (List.length_filter_le _ _) (Nat.le_trans (List.length_take_le' j _) (by have := HF.out; have := HN.out; omega)))
    by_cases hlt : j < n
    · have hjl : j < t.shut.length := by have := HN.out; omega
      have hv := HSV.out.only HJ.out.only fun _ _ e => e
      obtain ⟨g, off, rfl, hg, hcell, _⟩ := hv.form' (by omega)
      obtain ⟨x, hx⟩ : ∃ x, t.shut[j]? = some x := ⟨_, List.getElem?_eq_getElem hjl⟩
      have q0 := hcell j (sV x) (by rw [List.getElem?_map, hx]; rfl)
      unfold sV at q0
      have i0 : (0 : Int) ≤ (j : Int) := by omega
      have i1 : (j : Int) < (n : Int) := by omega
      have HX := Lib.hid hx
      have HLT := Lib.hid hlt
      clear hcell hj hlt hjl hg hx hv
      by_cases e : x = key.data.toList
      · have b1 : (x == key.toList) = true := by rw [data_toList, beq_iff_eq]; exact e
        have HPX : Hid (¬ P x = true) := Lib.hid (by rw [HP.out]; simpa using e)
        clear e
        go_wp2_with fail
        go_roundw
        case rel => exact ⟨j + 1, q, pa, pc, by have := HLT.out; omega, rfl, next_int (by have := HLT.out; have := HF.out; omega), Lib.hid (by rw [take_nextK HX.out, if_neg HPX.out, List.append_nil, HQ.out]), Lib.hid (by rw [take_nextK HX.out, if_neg HPX.out, List.append_nil]; exact HJ.out)⟩
        case measure => exact meas HLT.out (by have := HF.out; omega)
      · have b1 : (x == key.toList) = false := by rw [data_toList, beq_eq_false_iff_ne]; exact e
        have HPX : Hid (P x = true) := Lib.hid (by rw [HP.out]; simpa using e)
        have HGV := Lib.hid HJ.out.row
        rw [← HQ.out] at HGV
        clear e
        go_wp2_with (first | (at_builtin; refine wpList_append_any rfl _ _ 42 rfl 9 Try.t9 (.string ⟨#[]⟩) 1 16 under42 info9 t9_zero t9_size t9_bytes rfl (by decide) (.slice pa q pc) q (((t.shut.take j).filter P).map sV) rfl (HGV.out.alloc _) (.slice (some ⟨wr.heap.size, 0, none⟩) 1 1) 1 [.string ⟨x.toArray⟩] rfl (rd_one' wr (.string ⟨x.toArray⟩) 9) (by intro u hu; simp at hu; subst hu; rfl) (by have h1 := HQN.out; unfold maxLen; omega) (by have h1 := HQN.out; omega) ?_; intro v2 w5 hv2 hg2 hf2; obtain ⟨oa2, oc2, rfl, _, _⟩ := hv2.shape; have HY := Lib.hid (And.intro hv2 (And.intro hg2 hf2)); clear hv2 hg2 hf2))
        go_roundw
        case rel =>
          refine ⟨j + 1, q + 1, oa2, oc2, by have := HLT.out; omega, rfl, next_int (by have := HLT.out; have := HF.out; omega), Lib.hid (by rw [take_nextK HX.out, if_pos HPX.out, List.length_append, HQ.out]; rfl), Lib.hid ?_⟩
          rw [take_nextK HX.out, if_pos HPX.out]
          exact GK.push HJ.out (by rw [← HQ.out]; exact HY.out.1) HY.out.2.1 HY.out.2.2
        case measure => exact meas HLT.out (by have := HF.out; omega)
    · obtain rfl : j = n := by omega
      have HE : Hid ((t.shut.take j).filter P = (t.unshut key.data.toList).shut) := Lib.hid (by rw [List.take_of_length_le (by have := HN.out; omega), HP.out]; rfl)
      clear hj hlt
      go_wp2_with fail
      go_end0
      have hgl := HJ.out
      rw [HE.out] at hgl
      have hf3 : ∀ g, (Value.slice pa q pc).ownBlock = some g → (Value.slice a j k).ownBlock = some g ∨ w.heap.size ≤ g := fun g hg => Or.inr (hgl.fresh g hg)
      have hp := docAt_put5 (t' := t.unshut key.data.toList) H.out (hgl.only.mono fun _ _ e => e.elim) (sv' := .slice pa q pc) hgl.row hf3 rfl rfl rfl rfl rfl (Nat.le_trans (List.length_filter_le _ _) H.out.few)
      exact ⟨rfl, _, hp.1, hp.2, hf3⟩
end Go.Proofs.Ytfjfpnlcmjpofaa
