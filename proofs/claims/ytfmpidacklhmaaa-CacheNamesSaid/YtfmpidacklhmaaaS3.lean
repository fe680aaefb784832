/- The numbers of those that wait, sorted; the questions asked of a wait. -/
import Derived.Test.YtfmpidacklhmaaaS2
import Derived.Test.YtfmpidacklhmaaaShelf
namespace Go.Proofs.Ytfmpidacklhmaaa
open Go.RowKit Go.Maps Go.Sort Go.Shelf
set_option linter.unusedVariables false
set_option maxRecDepth 20000

theorem sortsA (m : Nat) : AnyZI.SortsIn Try.prog Try.sortedA_ren Fence.wide m :=
  ⟨fun blk off cap ss W hH hblk hsz => callsIn_wide.2 (AnyM.slices_Sort_int Try.sortA blk off cap ss W hH hblk hsz),
   fun p cap W => callsIn_wide.2 (AnyM.slices_Sort_int_none Try.sortA p cap W)⟩
theorem keys_any (mb : Option Nat) (W : World) : Calls Try.prog 51 #[.map mb] W fun e w' => e = .returned (.func (.func 58) #[] #[.pointer (some ⟨W.heap.size, 0, none⟩)]) ∧ w' = W.alloc (.cells #[.map mb] 76) :=
  (callsIn_wide (n := 5)).1 (AnyZI.keys_in Try.keysA Fence.wide 5 trivial rfl mb W)
theorem rise_sorted {l ss : List Int} (h : l.Pairwise (· < ·)) (hp : ss.Perm l) : ss.mergeSort (fun x y => decide (x ≤ y)) = l := by
  have h1 := mergeSort_of_perm_i hp
  have h2 : l.mergeSort leI = l := List.mergeSort_of_pairwise (h.imp fun {a b} hab => by simp only [leI, decide_eq_true_eq]; omega)
  exact h1.trans h2
set_option maxHeartbeats 1000000 in
theorem sorted_any (b nn : Nat) (ws : List Wt) (hr : Rise ws) (w : World) (hown : w.ownsMap Try.prog 3 wtR b nn (Dof ws)) (hl : ws.length ≤ 1000) :
    Calls Try.prog 50 #[.func (.func 58) #[] #[.pointer (some ⟨w.heap.size, 0, none⟩)]] (w.alloc (.cells #[.map (some b)] 76)) fun e w' => ∃ v, e = .returned v ∧ Vec w' 1 v ws.length ((ws.map (·.req)).map (Value.int .i64)) ∧ (∀ g, v.ownBlock = some g → w.heap.size ≤ g) ∧ Only None' w w' := by
  have hbl := hown.lt
  have hmax : Maps.size (Dof ws) ≤ maxLen := by rw [Dof_size]; unfold maxLen; omega
  have hbytes : Maps.size (Dof ws) * 8 ≤ 140737488355328 := by rw [Dof_size]; omega
  have hseq : SeqGives Fence.wide 2 Try.prog 58 #[.pointer (some ⟨w.heap.size, 0, none⟩)] encZ (fun ss => ss.Perm (intKeys (Dof ws))) (Maps.size (Dof ws)) (w.alloc (.cells #[.map (some b)] 76)) :=
    AnyZI.keys_gives (ρ := Try.keysA_ren) { Try.keysA with } Fence.wide _ trivial rfl (by omega) w.heap.size b nn (Dof ws) _ (by simp) (by simp) (by
      obtain ⟨es, clock, hb, Ft, hs, hD⟩ := hown
      exact ⟨es, clock, (Below.heap_alloc _ _ b hbl).trans hb, Ft, hs, hD⟩)
  have cS := AnyZI.sorted_in Try.sortedA Fence.wide 5 trivial trivial trivial trivial rfl (by omega) (sortsA _) (enters_of Try.func57 (by kernel_rfl) rfl) 58 #[.pointer (some ⟨w.heap.size, 0, none⟩)] trivial (enters_of Try.func58 (by kernel_rfl) rfl) _ _ hmax hbytes _ hseq
  change CallsIn _ _ Try.prog 50 _ _ _ at cS
  refine ((callsIn_wide (n := 5)).1 cS).mono ?_
  rintro e w' ⟨v, ss, rfl, hS, hrow, hnil, hb⟩
  rw [Dof_keys] at hS
  have hso := rise_sorted (l := ws.map (·.req)) (List.pairwise_map.2 (show ws.Pairwise (fun a b => a.req < b.req) from hr)) hS
  have hlen : ss.length = ws.length := by rw [hS.length_eq, List.length_map]
  rw [hso, hlen] at hrow
  refine ⟨v, rfl, Vec.of_owns hrow, fun g hg => ?_, Only.of_below (((Below.refl _ w).alloc (Nat.le_refl _) _).trans (hb.mono (by simp))) _⟩
  have := (hrow.lt g hg).1
  simp at this
  omega

theorem rd_new (w : World) (vs : List Value) (t : TypeId) (n size : Nat) (h : vs.length = n * size) (hn : n ≤ maxLen) : Rd (w.alloc (.cells vs.toArray t)) size (.slice (some ⟨w.heap.size, 0, none⟩) n n) n vs := by
  refine ⟨h, .inr ⟨⟨w.heap.size, 0, none⟩, n, rfl, Nat.le_refl _, hn, fun j u hu => ?_⟩⟩
  rw [add_mid' (⟨w.heap.size, 0, none⟩) j rfl, Nat.zero_add]
  exact (cells_new w vs t).is j u hu
theorem info74 : Try.prog.info? 74 = some Try.t74 := by kernel_rfl
theorem t74_zero : Try.t74.zero = some Wt.zero.v := by kernel_rfl
theorem t74_size : Try.t74.size = 7 := by kernel_rfl
theorem t74_bytes : Try.t74.bytes = 64 := by kernel_rfl

/-- waits, in a row -/
structure WRow (w : World) (v : Value) (l : List Wt) : Prop where
  row : Vec w 7 v l.length (l.flatMap Wt.row)
section
variable {w w' : World} {v : Value} {l : List Wt} {S : Nat → Prop}
theorem WRow.nil (w : World) : WRow w (.slice none 0 0) [] := ⟨Vec.nil w 7⟩
theorem WRow.only (h : WRow w v l) (o : Only S w w') (hn : ∀ g, v.ownBlock = some g → ¬ S g) : WRow w' v l := ⟨h.row.only o hn⟩
theorem WRow.shape (h : WRow w v l) : ∃ a c, v = .slice a l.length c := by
  obtain ⟨a, c, e, _⟩ := h.row.shape
  exact ⟨a, c, e⟩
theorem flat_len (l : List Wt) : (l.flatMap Wt.row).length = l.length * 7 := flat_length Wt.row 7 l fun x _ => rfl
theorem WRow.at_ (h : WRow w v l) {j : Nat} (hj : j < l.length) : ∃ g off c, v = .slice (some ⟨g, off, none⟩) l.length c ∧ g < w.heap.size ∧ (∀ i u, (l[j]).row[i]? = some u → w.cell? ⟨g, off + j * 7 + i, none⟩ = some u) ∧ (∀ i, i < 7 → w.frozen? ⟨g, off + j * 7 + i, none⟩ = false) := by
  rcases h.row.form with ⟨_, e⟩ | ⟨g, off, c, e, h1, h2, h3, h4, h5⟩
  · omega
  · refine ⟨g, off, c, e, h3, fun i u hu => ?_, fun i hi => ?_⟩
    · rw [Nat.add_assoc]
      exact h4 _ u (flat_at Wt.row 7 l j (fun y _ => rfl) hj i u hu)
    · rw [Nat.add_assoc]
      refine (h5 _ ?_).2
      have : (j + 1) * 7 ≤ c * 7 := Nat.mul_le_mul_right _ (by omega)
      omega
end
theorem filter_take_succ {α : Type} (q : α → Bool) (l : List α) (k : Nat) (x : α) (h : l[k]? = some x) : (l.take (k + 1)).filter q = if q x then (l.take k).filter q ++ [x] else (l.take k).filter q := by
  obtain ⟨hk, rfl⟩ := List.getElem?_eq_some_iff.1 h
  rw [List.take_succ_eq_append_getElem hk, List.filter_append, List.filter_cons]
  split <;> simp
theorem find_rise {ws : List Wt} (hr : Rise ws) {k : Nat} (h : k < ws.length) : ws.find? (fun x => decide (x.req = ws[k].req)) = some ws[k] := by
  induction ws generalizing k with
  | nil => simp at h
  | cons y ws ih =>
    obtain ⟨h1, h2⟩ := List.pairwise_cons.1 hr
    cases k with
    | zero => simp
    | succ k =>
      have hk : k < ws.length := by simpa using h
      have : y.req ≠ ws[k].req := by have := h1 ws[k] (List.getElem_mem hk); omega
      rw [List.find?_cons]
      simp only [List.getElem_cons_succ]
      rw [decide_eq_false this]
      exact ih h2 hk
/-- at a round's head -/
structure SomeLoop (w wr : World) (B M : Nat) (c : Cl) (q : Wt → Bool) (kv : Value) (k : Nat) (v : Value) : Prop where
  only : Only None' w wr
  keys : Vec wr 1 kv c.ws.length ((c.ws.map (·.req)).map (Value.int .i64))
  row : WRow wr v ((c.ws.take k).filter q)
  new : ∀ g, v.ownBlock = some g → w.heap.size ≤ g
  apart : ∀ g, v.ownBlock = some g → kv.ownBlock ≠ some g

theorem SomeLoop.push {w wr y : World} {B M : Nat} {c : Cl} {q : Wt → Bool} {kv : Value} {k : Nat} {v v' : Value} {rec : Wt} {o : Obj} (h : SomeLoop w wr B M c q kv k v) (he : (c.ws.take (k + 1)).filter q = (c.ws.take k).filter q ++ [rec])
    (hv : Vec y 7 v' (((c.ws.take k).filter q).length + 1) (((c.ws.take k).filter q).flatMap Wt.row ++ rec.row)) (hg : (wr.alloc o).grownBy y v.ownBlock) (hf : ∀ g, v'.ownBlock = some g → v.ownBlock = some g ∨ (wr.alloc o).heap.size ≤ g) : SomeLoop w y B M c q kv (k + 1) v' := by
  have oy : Only (fun g => v.ownBlock = some g) (wr.alloc o) y := (Only.refl _ _).grown hg fun g hg => hg
  have hsz : (wr.alloc o).heap.size = wr.heap.size + 1 := by simp
  have hw := h.only.size
  refine ⟨(h.only.alloc o).trans2 oy fun g hg e => by have := h.new g e; omega, (h.keys.alloc o).only oy fun g hg e => h.apart g e hg, ?_, fun g hg => ?_, fun g hg e => ?_⟩
  · rw [he]
    refine ⟨?_⟩
    rw [List.length_append, List.flatMap_append]
    simpa using hv
  · rcases hf g hg with h1 | h1
    · exact h.new g h1
    · omega
  · rcases hf g hg with h1 | h1
    · exact h.apart g h1 e
    · have := h.keys.lt e; omega

set_option maxRecDepth 20000 in
set_option maxHeartbeats 1000000 in
theorem some_any {w : World} {B M : Nat} {c : Cl} (h : CallAt w B M c) (F : Nat) (caps : Array Value) (hcf : ∀ args w, (callFunc F args).run Try.prog w = .ok (.enter F args) w) (q : Wt → Bool) (hq : ∀ x ∈ c.ws, ∀ w', Only None' w w' → Calls Try.prog F (#[x.v] ++ caps) w' fun e w'' => e = .returned (.bool (q x)) ∧ Only None' w' w'') :
    Calls Try.prog 31 #[.pointer (some ⟨B, 0, none⟩), .func (.func F) #[] caps] w fun e w' => ∃ v, e = .returned v ∧ WRow w' v (c.ws.filter q) ∧ (∀ g, v.ownBlock = some g → w.heap.size ≤ g) ∧ Only None' w w' := by
  have H := Lib.hid h
  have HQ := Lib.hid hq
  have c2 := h.cells.is 2 _ rfl
  have HN := Lib.hid h.ok.few
  obtain ⟨n, hn⟩ : ∃ n, n = c.ws.length := ⟨_, rfl⟩
  have HL := Lib.hid hn
  clear h hq hn
  go_enter Try.func31, Try.ntmps31
  go_wp2_with fail
  refine (keys_any (some M) w).mono ?_
  rintro e w1 ⟨rfl, e1⟩
  obtain rfl := e1
  go_wp2_with fail
  refine (sorted_any M c.ws.length c.ws H.out.ok.rise w H.out.map (by have := HN.out; omega)).mono ?_
  rintro e w2 ⟨v, rfl, hv, hfr, o2⟩
  rw [← HL.out] at hv
  obtain ⟨a, cap, rfl, _⟩ := hv.shape
  rw [HL.out] at hv
  have L0 : Hid (SomeLoop w w2 B M c q (.slice a n cap) 0 (.slice none 0 0)) := Lib.hid ⟨o2, (by rw [HL.out]; exact hv), WRow.nil _, (fun g hg => by cases hg), (fun g hg => by cases hg)⟩
  clear hv hfr o2
  go_wp2_with fail
  go_loopw [5, 17] (fun p i wr => ∃ (k : Nat) (pa : Option Addr) (pc : Nat), k ≤ n ∧ p = .slice pa ((c.ws.take k).filter q).length pc ∧ i = .int .i64 (k : Int) ∧ Hid (SomeLoop w wr B M c q (.slice a n cap) k (.slice pa ((c.ws.take k).filter q).length pc))) (fun p i wr => n - (intOf i).toNat)
  case atStart => exact ⟨0, none, 0, by omega, rfl, rfl, L0⟩
  case round =>
    obtain ⟨k, pa, pc, hk, rfl, rfl, HK⟩ := hrel
    clear L0
    by_cases hlt : k < n
    · have hj : k < c.ws.length := by have := HL.out; omega
      have hkv := HK.out.keys
      rw [← HL.out] at hkv
      obtain ⟨g, off, rfl, hg, hcell, _⟩ := hkv.form' (by omega)
      obtain ⟨x, hx⟩ : ∃ x, x = c.ws[k] := ⟨_, rfl⟩
      have k0 := hcell k (.int .i64 x.req) (by rw [hx, List.getElem?_map, List.getElem?_map, List.getElem?_eq_getElem hj]; rfl)
      have hfd : c.find x.req = some x := by rw [hx]; exact find_rise H.out.ok.rise hj
      have hwf : (Lit.int .i64 x.req).wf = true := by
        have h1 := H.out.ok.num x (by rw [hx]; exact List.getElem_mem hj)
        have h2 := H.out.ok.l2
        have h3 := H.out.ok.g
        unfold Cl.top at h1
        exact wf64 (by omega) (by omega)
      have hl1 := (H.out.new HK.out.only).look hwf
      rw [hfd] at hl1
      have hmem : x ∈ c.ws := by rw [hx]; exact List.getElem_mem hj
      have hqx := HQ.out x hmem wr HK.out.only
      have c2' := ((H.out.cells.kept HK.out.only) fun e => e).is 2 _ rfl
      have i0 : (0 : Int) ≤ (k : Int) := by omega
      have i1 : (k : Int) < (n : Int) := by omega
      have hx' : c.ws[k]? = some x := by rw [hx]; exact List.getElem?_eq_getElem hj
      obtain ⟨b, hb⟩ : ∃ b, b = q x := ⟨_, rfl⟩
      rw [← hb] at hqx
      have HX := Lib.hid (And.intro hx' (And.intro hfd (And.intro hwf hb)))
      have HQX := Lib.hid hqx
      change (Instr.lookup 76 (.map (some M)) (.int .i64 x.req) false).run Try.prog wr = .ok x.v wr at hl1
      clear hkv hcell hfd hwf hqx hmem hx' hb
      clear hx hj
      obtain ⟨x1, x2, x3, x4, x5, x6, x7⟩ := x
      unfold Wt.v at hl1 HQX
      simp only at hl1 HQX k0
      have HLT := Lib.hid hlt
      go_wp2_with fail
      refine HQX.out.mono ?_
      rintro e w3 ⟨rfl, o3⟩
      have O3 := Lib.hid o3
      have HK3 : Hid (SomeLoop w w3 B M c q (.slice (some ⟨g, off, none⟩) n cap) k (.slice pa ((c.ws.take k).filter q).length pc)) := Lib.hid ⟨HK.out.only.trans o3, HK.out.keys.only o3 fun _ _ e => e, HK.out.row.only o3 fun _ _ e => e, HK.out.new, HK.out.apart⟩
      have c3 := ((H.out.cells.kept HK3.out.only) fun e => e).is 2 _ rfl
      have hl3 := (H.out.new HK3.out.only).look HX.out.2.2.1
      rw [HX.out.2.1] at hl3
      change (Instr.lookup 76 (.map (some M)) (.int .i64 x1) false).run Try.prog w3 = .ok (.agg #[.int .i64 x1, .string x2, .int .i64 x3, .int .i64 x4, .int .i64 x5, .int .i64 x6, .bool x7]) w3 at hl3
      clear o3 hl1 k0 c2'
      cases b with
      | false =>
        go_wp2_with fail
        go_roundw
        case rel =>
          refine ⟨k + 1, pa, pc, by have := HLT.out; omega, ?_, next_int (by have := HN.out; have := HL.out; have := HLT.out; omega), Lib.hid ?_⟩
          · rw [filter_take_succ q c.ws k _ HX.out.1, ← HX.out.2.2.2]; rfl
          · have e : (c.ws.take (k + 1)).filter q = (c.ws.take k).filter q := by rw [filter_take_succ q c.ws k _ HX.out.1, ← HX.out.2.2.2]; rfl
            rw [e]
            exact ⟨HK3.out.only, HK3.out.keys, by rw [e]; exact HK3.out.row, HK3.out.new, HK3.out.apart⟩
        case measure => exact meas HLT.out (by have := HN.out; have := HL.out; omega)
      | true =>
        have HR := Lib.hid (rd_new w3 [.int .i64 x1, .string x2, .int .i64 x3, .int .i64 x4, .int .i64 x5, .int .i64 x6, .bool x7] 74 1 7 rfl (by decide))
        go_wp2_with (first | (at_builtin; refine wpList_append_any rfl _ _ 71 rfl 74 Try.t74 Wt.zero.v 7 64 Try.underlying71 info74 t74_zero t74_size t74_bytes rfl (by decide) (.slice pa ((c.ws.take k).filter q).length pc) ((c.ws.take k).filter q).length (((c.ws.take k).filter q).flatMap Wt.row) rfl (HK3.out.row.row.alloc _) (.slice (some ⟨w3.heap.size, 0, none⟩) 1 1) 1 [.int .i64 x1, .string x2, .int .i64 x3, .int .i64 x4, .int .i64 x5, .int .i64 x6, .bool x7] rfl HR.out (Wt.row_one ⟨x1, x2, x3, x4, x5, x6, x7⟩) (by have h1 := List.length_filter_le q (c.ws.take k); have h2 := List.length_take_le k c.ws; have h3 := HLT.out; have h4 := HN.out; have h5 := HL.out; unfold maxLen; omega) (by have h1 := List.length_filter_le q (c.ws.take k); have h2 := List.length_take_le k c.ws; have h3 := HLT.out; have h4 := HN.out; have h5 := HL.out; omega) ?_; intro v2 w5 hv2 hg2 hf2; obtain ⟨oa2, oc2, rfl, _, _⟩ := hv2.shape; have HY := Lib.hid (And.intro hv2 (And.intro hg2 hf2)); clear hv2 hg2 hf2))
        go_roundw
        case rel =>
          have e : (c.ws.take (k + 1)).filter q = (c.ws.take k).filter q ++ [⟨x1, x2, x3, x4, x5, x6, x7⟩] := by rw [filter_take_succ q c.ws k _ HX.out.1, ← HX.out.2.2.2]; rfl
          refine ⟨k + 1, oa2, oc2, by have := HLT.out; omega, by rw [e, List.length_append]; rfl, next_int (by have := HN.out; have := HL.out; have := HLT.out; omega), Lib.hid ?_⟩
          rw [e, List.length_append]
          exact SomeLoop.push (rec := ⟨x1, x2, x3, x4, x5, x6, x7⟩) HK3.out e HY.out.1 HY.out.2.1 HY.out.2.2
        case measure => exact meas HLT.out (by have := HN.out; have := HL.out; omega)
    · obtain rfl : k = n := by omega
      go_wp2_with fail
      go_ret
      have e : c.ws.take k = c.ws := List.take_of_length_le (by have := HL.out; omega)
      refine ⟨_, rfl, ?_, HK.out.new, HK.out.only⟩
      have := HK.out.row
      rw [e] at this ⊢
      exact this
end Go.Proofs.Ytfmpidacklhmaaa
