/- Mark, Due, Old: the walks. -/
import Derived.Test.YtfmpidacklhmaaaP1
namespace Go.Proofs.Ytfmpidacklhmaaa
open Go.RowKit Go.Maps
set_option linter.unusedVariables false
set_option maxRecDepth 20000

theorem Cl.Ok.wf {c : Cl} (h : c.Ok) {x : Wt} (hx : x ∈ c.ws) : (Lit.int .i64 x.req).wf = true := by
  have h1 := h.num x hx
  have h2 := h.l2
  have h3 := h.g
  unfold Cl.top at h1
  exact wf64 (by omega) (by omega)
def Wt.mark (x : Wt) : Wt := { x with marked := true }
def Cl.mark (c : Cl) (key : ByteArray) : Cl := c.with_ (c.ws.map fun y => if decide (y.key = key) then y.mark else y)
/-- at a round's head -/
structure TurnLoop (w wr : World) (B M : Nat) (c : Cl) (f : Wt → Wt) (l rl : List Wt) (v : Value) (k : Nat) : Prop where
  only : Only (fun j => j = M) w wr
  at_ : CallAt wr B M (c.with_ (stepW f l c.ws k))
  row : WRow wr v rl
  new : ∀ g, v.ownBlock = some g → w.heap.size ≤ g

theorem TurnLoop.next {w wr w3 w4 : World} {B M : Nat} {c : Cl} {f : Wt → Wt} {l rl rl' : List Wt} {v : Value} {k n : Nat} {x : Wt} {S : Nat → Prop} (h : TurnLoop w wr B M c f l rl v k) (hf : ∀ y, (f y).req = y.req) (hr0 : Rise c.ws) (hx : l[k]? = some x) (hm : x ∈ c.ws) (hS : ∀ j, S j → w.heap.size ≤ j) (hw : M < w.heap.size) (hB : B < w.heap.size) (o3 : Only S wr w3) (hr : WRow w3 v rl')
    (hmap : w4.ownsMap Try.prog 3 wtR M n ((Dof (stepW f l c.ws k)).put (.int .i64 x.req) (f x).d)) (o4 : Only (fun j => j = M) w3 w4) : TurnLoop w w4 B M c f l rl' v (k + 1) := by
  have h3 : CallAt w3 B M (c.with_ (stepW f l c.ws k)) := h.at_.only o3 (fun e => by have := hS B e; omega) fun e => by have := hS M e; omega
  have hex : ∃ y ∈ stepW f l c.ws k, y.req = (f x).req := by
    refine ⟨if hit (l.take k) x then f x else x, List.mem_map.2 ⟨x, hm, rfl⟩, ?_⟩
    split <;> simp [hf]
  have hput := Dof_turn (x := f x) h3.ok.rise hex
  rw [hf] at hput
  change (Dof (stepW f l c.ws k)).put (.int .i64 x.req) (f x).d = Dof ((c.with_ (stepW f l c.ws k)).ws.map fun y => if y.req = x.req then f x else y) at hput
  have hst := step_succ hf hr0 hx hm
  have hws : ((c.with_ (stepW f l c.ws k)).ws.map fun y => if y.req = x.req then f x else y) = stepW f l c.ws (k + 1) := by
    rw [← hst]
    unfold putW
    rw [hf]
    rfl
  rw [hput] at hmap
  have hmap' : w4.ownsMap Try.prog 3 wtR M n (Dof (stepW f l c.ws (k + 1))) := by rw [← hws]; exact hmap
  have hok : ((c.with_ (stepW f l c.ws k)).with_ (stepW f l c.ws (k + 1))).Ok := by
    have := h3.ok.map (fun y => if y.req = x.req then f x else y) fun y hy => by
      split
      · rw [hf]; omega
      · rfl
    rw [hws] at this
    exact this
  refine ⟨(h.only.trans2 o3 fun j hj e => ?_).trans o4, h3.turn hmap' o4 hok, hr.only o4 fun g hg e => ?_, h.new⟩
  · have := hS j e; omega
  · have := h.new g hg; omega

set_option maxRecDepth 20000 in
set_option maxHeartbeats 1000000 in
theorem mark_any {w : World} {B M : Nat} {c : Cl} (h : CallAt w B M c) (key : ByteArray) : Calls Try.prog 46 #[.pointer (some ⟨B, 0, none⟩), .string key] w fun e w' => e = .returned (.int .i64 ((c.ws.filter fun x => decide (x.key = key)).length : Int)) ∧ CallAt w' B M (c.mark key) ∧ Only (fun k => k = M) w w' := by
  obtain ⟨q, hq⟩ : ∃ q : Wt → Bool, q = fun x => decide (x.key = key) := ⟨_, rfl⟩
  have o1 : Only None' w (w.alloc (.cells #[.string key] 9)) := (Only.refl None' w).alloc _
  have C1 := cells_new w [.string key] 9
  have hs := some_any (h.new o1) 55 #[.pointer (some ⟨w.heap.size, 0, none⟩)] call55 q fun x _ w' o => by
    rw [hq]
    have C2 := C1.kept o fun e => e
    exact key_any x w.heap.size key w' (C2.is 0 _ rfl) C2.lt
  have HS := Lib.hid hs
  have H := Lib.hid h
  have hmk : c.mark key = c.with_ (stepW Wt.mark (c.ws.filter q) c.ws (c.ws.filter q).length) := by
    rw [step_end Wt.mark h.ok.rise q, hq]; rfl
  have HL : Hid (∀ x ∈ c.ws.filter q, x ∈ c.ws) := Lib.hid fun x hx => (List.mem_filter.1 hx).1
  have HN : Hid ((c.ws.filter q).length ≤ 64) := Lib.hid (Nat.le_trans (List.length_filter_le _ _) h.ok.few)
  rw [hmk, ← hq]
  obtain ⟨l, hl⟩ : ∃ l, l = c.ws.filter q := ⟨_, rfl⟩
  rw [← hl] at HS HL HN ⊢
  clear hs o1 C1 hmk h hq hl
  go_enter Try.func46, Try.ntmps46
  go_wp2_with fail
  refine HS.out.mono ?_
  rintro e w2 ⟨v, rfl, hv, hf, o2⟩
  obtain ⟨a, cap, rfl⟩ := hv.shape
  obtain ⟨n, hn⟩ : ∃ n, n = l.length := ⟨_, rfl⟩
  have HLN := Lib.hid hn
  have L0 : Hid (TurnLoop w w2 B M c Wt.mark l l (.slice a n cap) 0) := Lib.hid (by
    have o : Only None' w w2 := ((Only.refl None' w).alloc _).trans o2
    refine ⟨o.mono fun _ _ e => e.elim, ?_, ?_, fun g hg => ?_⟩
    · rw [step_zero]; exact H.out.new o
    · rw [hn]; exact hv
    · rw [hn] at hg
      have := hf g hg
      simp at this
      omega)
  rw [← hn]
  clear hv hf o2 hn HS
  go_wp2_with fail
  go_loopw [13] (fun i wr => ∃ k : Nat, k ≤ n ∧ i = .int .i64 (k : Int) ∧ Hid (TurnLoop w wr B M c Wt.mark l l (.slice a n cap) k)) (fun i wr => n - (intOf i).toNat)
  case atStart => exact ⟨0, by omega, rfl, L0⟩
  case round =>
    obtain ⟨k, hk, rfl, HK⟩ := hrel
    clear L0
    by_cases hlt : k < n
    · have hj : k < l.length := by have := HLN.out; omega
      obtain ⟨g, off, cp, e, hg, hcell, _⟩ := HK.out.row.at_ hj
      injection e with e e2 e3
      subst e
      clear e2 e3
      obtain ⟨x, hx⟩ : ∃ x, x = l[k] := ⟨_, rfl⟩
      rw [← hx] at hcell
      have HX : Hid (l[k]? = some x) := Lib.hid (by rw [hx]; exact List.getElem?_eq_getElem hj)
      have HM : Hid (x ∈ c.ws) := Lib.hid (HL.out x (by rw [hx]; exact List.getElem_mem hj))
      clear hx hj
      obtain ⟨x1, x2, x3, x4, x5, x6, x7⟩ := x
      have k0 := hcell 0 _ rfl
      have k1 := hcell 1 _ rfl
      have k2 := hcell 2 _ rfl
      have k3 := hcell 3 _ rfl
      have k4 := hcell 4 _ rfl
      have k5 := hcell 5 _ rfl
      have k6 := hcell 6 _ rfl
      rw [Nat.add_zero] at k0
      have i0 : (0 : Int) ≤ (k : Int) := by omega
      have i1 : (k : Int) < (n : Int) := by omega
      have HLT := Lib.hid hlt
      clear hcell hlt hk
      go_wp2_with fail
      obtain ⟨w3, hw3⟩ : ∃ w3, w3 = wr.alloc (.cells #[.int .i64 x1, .string x2, .int .i64 x3, .int .i64 x4, .int .i64 x5, .int .i64 x6, .bool true] 74) := ⟨_, rfl⟩
      have O3 : Hid (Only None' wr w3) := Lib.hid (by rw [hw3]; exact (Only.refl None' wr).alloc _)
      have C3 : Hid (CellsR w3 wr.heap.size [.int .i64 x1, .string x2, .int .i64 x3, .int .i64 x4, .int .i64 x5, .int .i64 x6, .bool true]) := Lib.hid (by rw [hw3]; exact cells_new wr [.int .i64 x1, .string x2, .int .i64 x3, .int .i64 x4, .int .i64 x5, .int .i64 x6, .bool true] 74)
      have A3 := Lib.hid (HK.out.at_.new O3.out)
      have c2 := A3.out.cells.is 2 _ rfl
      have t0 := C3.out.is 0 _ rfl
      have t1 := C3.out.is 1 _ rfl
      have t2 := C3.out.is 2 _ rfl
      have t3 := C3.out.is 3 _ rfl
      have t4 := C3.out.is 4 _ rfl
      have t5 := C3.out.is 5 _ rfl
      have t6 := C3.out.is 6 _ rfl
      rw [← hw3]
      clear hw3 k0 k1 k2 k3 k4 k5 k6
      go_still_tail 7, (by kernel_rfl)
      refine wpList_mapUpdate_in _ rfl _ _ _ 76 rfl 3 74 keyed3 under76 wtR M _ _ rfl (A3.out.map.drew) (by have := A3.out.ok.few; unfold maxLen; omega) (.int .i64 x1) _ (.int .i64 x1) rfl rfl (keyOf_int_mk Try.underlying3 (H.out.ok.wf HM.out)) (Wt.mark ⟨x1, x2, x3, x4, x5, x6, x7⟩).d [] rfl ?_
      intro w4 ho4 ht4
      have O4 : Hid (Only (fun j => j = M) w3 w4) := Lib.hid ((Only.drew (Only.refl _ _)).turned ht4 rfl)
      have NX := Lib.hid (HK.out.next (fun _ => rfl) H.out.ok.rise HX.out HM.out (fun _ e => e.elim) H.out.lt H.out.cells.lt O3.out (HK.out.row.only O3.out fun _ _ e => e) ho4 O4.out)
      clear ho4 ht4
      go_wp2_with fail
      go_roundw
      case rel => exact ⟨k + 1, by have := HLT.out; omega, next_int (by have := HN.out; have := HLN.out; have := HLT.out; omega), NX⟩
      case measure => exact meas HLT.out (by have := HN.out; have := HLN.out; omega)
    · obtain rfl : k = n := by omega
      go_wp2_with fail
      go_ret
      refine ⟨?_, ?_, HK.out.only⟩
      · show Ending.returned (.int .i64 (k : Int)) = .returned (.int .i64 (l.length : Int))
        rw [HLN.out]
      · rw [← HLN.out]
        exact HK.out.at_
end Go.Proofs.Ytfmpidacklhmaaa
