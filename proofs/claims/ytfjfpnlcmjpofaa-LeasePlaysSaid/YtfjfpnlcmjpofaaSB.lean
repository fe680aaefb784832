/- All. -/
import Derived.Test.YtfjfpnlcmjpofaaSA
namespace Go.Proofs.Ytfjfpnlcmjpofaa
open Go.RowKit Go.Maps Go.Sort Go.Shelf
set_option linter.unusedVariables false

/-- nobody's iterator gives nothing -/
theorem out1_nil (F : Fence) (n : Nat) (h33 : F.fn 33) (hro : F.round = none) (l X : Nat) (y : Value) (W : World) (cX : W.cell? ⟨X, 0, none⟩ = some (.pointer none)) :
    CallsIn F n Try.prog 33 #[.func (.yield l) #[] #[], .pointer (some ⟨X, 0, none⟩), y] W fun e W' => (∃ v, e = .returned v) ∧ W' = W := by
  refine callsIn_of_wp Try.func33 rfl h33 ?_ hro
  simp only [Try.ntmps33, List.size_toArray, List.length_cons, List.length_nil, Nat.reduceAdd, Nat.reduceSub, Array.replicate_succ, Array.replicate_zero, List.push_toArray, List.append_toArray, List.nil_append, List.cons_append]
  gi_wp2
  refine bodyPost_ret (results_none rfl _ _ _) rfl ?_
  exact ⟨⟨_, rfl⟩, rfl⟩
theorem out_stops_nil (F : Fence) (n : Nat) (h33 : F.fn 33) (hro : F.round = none) (X : Nat) (y : Value) (Kp : World → World → Prop) (w : World) (hX : X < w.heap.size) (cX : w.cell? ⟨X, 0, none⟩ = some (.pointer none)) :
    SeqStopsK F n Try.prog 33 #[.pointer (some ⟨X, 0, none⟩), y] (fun x : Ls => #[x.v]) Kp (fun ss => ss.Perm []) (fun _ => True) 0 w := fun l J Jx W hW hJ _ hY h0 =>
  (out1_nil F n h33 hro l X y W ((hW.cell (p := ⟨X, 0, none⟩) hX).trans cX)).mono fun e W' ⟨h1, h2⟩ => ⟨h1, .inl ⟨[], List.Perm.refl _, by rw [h2]; exact h0⟩⟩
/-- what an iterator gives, collected -/
theorem collect_any {g : Nat} {lb : Array Value} (eg : ∀ args w, (callFunc g args).run Try.prog w = .ok (.enter g args) w) {S : List Ls → Prop} {N : Nat} (hN : N ≤ 2000000) {w : World} {Y : Nat} (hYl : Y < w.heap.size) (hseq : SeqStopsK Fence.wide 4 Try.prog g lb (fun x : Ls => #[x.v]) (Kp Y) S (fun _ => True) N w) :
    Calls Try.prog 39 #[.func (.func g) #[] lb] w fun e w' => ∃ (v : Value) (ss : List Ls), e = .returned v ∧ S ss ∧ Vec w' 4 v ss.length (ss.flatMap Ls.row) ∧ (∀ k, v.ownBlock = some k → w.heap.size ≤ k) ∧ Only None' w w' := by
  have cA := Lib.hid ((callsIn_wide (n := 5)).1 (appendSeq_in Fence.wide 5 trivial rfl (by omega) g lb trivial eg S N hN w Y hYl hseq))
  clear hseq hYl
  go_enter Try.func39, Try.ntmps39
  go_wp2_with fail
  refine cA.out.mono ?_
  rintro e w1 ⟨v, ss, rfl, hS, hrow, hb⟩
  have H := Lib.hid (And.intro hS (And.intro hrow hb))
  have hv := Vec.of_owns hrow
  obtain ⟨a, c, rfl, _, _⟩ := hv.shape
  clear hS hrow hb hv
  go_wp2_with fail
  go_ret
  exact ⟨_, ss, rfl, H.out.1, Vec.of_owns H.out.2.1, fun k hk => (H.out.2.1.lt k hk).1, Only.of_below H.out.2.2 _⟩
theorem sortedFunc_any {g : Nat} {lb : Array Value} (eg : ∀ args w, (callFunc g args).run Try.prog w = .ok (.enter g args) w) {S : List Ls → Prop} {N : Nat} (hN : N ≤ 2000000) {w : World} {Y : Nat} (hYl : Y < w.heap.size) (hseq : SeqStopsK Fence.wide 4 Try.prog g lb (fun x : Ls => #[x.v]) (Kp Y) S (fun _ => True) N w) (hlen : ∀ ss, S ss → ss.length ≤ N) :
    Calls Try.prog 32 #[.func (.func g) #[] lb, .func (.func 31) #[] #[]] w fun e w' => ∃ (v : Value) (ss l : List Ls), e = .returned v ∧ S ss ∧ l.Perm ss ∧ Up l ∧ Vec w' 4 v l.length (l.flatMap Ls.row) ∧ (∀ k, v.ownBlock = some k → w.heap.size ≤ k) ∧ Only None' w w' := by
  have cA := Lib.hid (collect_any eg hN hYl hseq)
  have HL := Lib.hid hlen
  clear hseq hlen hYl
  go_enter Try.func32, Try.ntmps32
  go_wp2_with fail
  refine cA.out.mono ?_
  rintro e w1 ⟨v, ss, rfl, hS, hv, hf, ho⟩
  obtain ⟨a, c, rfl, _, _⟩ := hv.shape
  have H := Lib.hid (And.intro hS (And.intro hv (And.intro hf ho)))
  obtain ⟨n, hn⟩ : ∃ n, n = ss.length := ⟨_, rfl⟩
  have HN := Lib.hid hn
  rw [← hn]
  clear hS hv hf ho hn
  go_wp2_with fail
  have hs := sort_any H.out.2.1 (by have := HL.out ss H.out.1; omega)
  rw [← HN.out] at hs
  refine hs.mono ?_
  rintro e w2 ⟨rfl, l, hp, hu, hv2, o2⟩
  have H2 := Lib.hid (And.intro hp (And.intro hu (And.intro hv2 o2)))
  clear hs hp hu hv2 o2
  go_wp2_with fail
  go_ret
  obtain ⟨hp, hu, hv2, o2⟩ := H2.out
  obtain ⟨hS, hv, hf, ho⟩ := H.out
  rw [HN.out] at hv2 o2 ⊢
  refine ⟨_, ss, l, rfl, hS, hp, hu, by rw [hp.length_eq]; exact hv2, hf, ho.trans2 o2 fun k hk e => by have := hf k e; omega⟩
theorem e33 : ∀ args w, (callFunc 33 args).run Try.prog w = .ok (.enter 33 args) w := enters_of Try.func33 (by kernel_rfl) rfl
section
variable {w w' : World} {B M N : Nat} {t : Tb}
/-- the iterator over a table's leases that are out -/
theorem TabAt.stops (h : TabAt w B M N t) (now : Int) {X Y : Nat} (hX : X < w.heap.size) (hY : Y < w.heap.size) (cX : w.cell? ⟨X, 0, none⟩ = some (.pointer (some ⟨B, 0, none⟩))) (cY : w.cell? ⟨Y, 0, none⟩ = some (.int .i64 now)) :
    SeqStopsK Fence.wide 4 Try.prog 33 #[.pointer (some ⟨X, 0, none⟩), .pointer (some ⟨Y, 0, none⟩)] (fun x : Ls => #[x.v]) (Kp Y) (fun ss => ss.Perm (t.ls.filter (live now))) (fun _ => True) t.ls.length w := by
  obtain ⟨D, hR, hD⟩ := h.map
  exact out_stops Fence.wide 4 trivial rfl (by omega) X Y B M now t.ls D w hX hY h.cells.lt h.lt.1 cX cY (h.cells.is 4 _ rfl) hR h.ok.good hD
theorem TabAt.small (h : TabAt w B M N t) : t.ls.length ≤ 2000000 := by have h1 := h.ok.few; have h2 := h.ok.g; omega
theorem out_calls (p : Option Addr) (now : Int) (w : World) : Calls Try.prog 29 #[.pointer p, .int .i64 now] w fun e w' => e = .returned (.func (.func 33) #[] #[.pointer (some ⟨w.heap.size, 0, none⟩), .pointer (some ⟨w.heap.size + 1, 0, none⟩)]) ∧ w' = (w.alloc (.cells #[.pointer p] 27)).alloc (.cells #[.int .i64 now] 3) :=
  (callsIn_wide (n := 1)).1 (out_any p now Fence.wide 1 trivial rfl w)
theorem boxes (p : Option Addr) (now : Int) (w : World) : ((w.alloc (.cells #[.pointer p] 27)).alloc (.cells #[.int .i64 now] 3)).cell? ⟨w.heap.size, 0, none⟩ = some (.pointer p) ∧ ((w.alloc (.cells #[.pointer p] 27)).alloc (.cells #[.int .i64 now] 3)).cell? ⟨w.heap.size + 1, 0, none⟩ = some (.int .i64 now) ∧ ((w.alloc (.cells #[.pointer p] 27)).alloc (.cells #[.int .i64 now] 3)).heap.size = w.heap.size + 2 := by
  refine ⟨?_, ?_, by simp⟩
  · exact ((cells_new w [.pointer p] 27).kept ((Only.refl None' _).alloc _) fun e => e).is 0 _ rfl
  · have := (cells_new (w.alloc (.cells #[.pointer p] 27)) [.int .i64 now] 3).is 0 _ rfl
    rwa [World.size_alloc] at this
theorem all_any (h : TabAt w B M N t) (now : Int) : Calls Try.prog 24 #[.pointer (some ⟨B, 0, none⟩), .int .i64 now] w fun e w' => ∃ (v : Value) (l : List Ls), e = .returned v ∧ l.Perm (t.ls.filter (live now)) ∧ Up l ∧ Vec w' 4 v l.length (l.flatMap Ls.row) ∧ (∀ k, v.ownBlock = some k → w.heap.size ≤ k) ∧ Only None' w w' := by
  obtain ⟨b1, b2, b3⟩ := boxes (some ⟨B, 0, none⟩) now w
  have o1 : Only None' w ((w.alloc (.cells #[.pointer (some ⟨B, 0, none⟩)] 27)).alloc (.cells #[.int .i64 now] 3)) := ((Only.refl None' w).alloc _).alloc _
  have cS := Lib.hid (sortedFunc_any e33 h.small (Y := w.heap.size + 1) (by rw [b3]; omega) ((h.new o1).stops now (by rw [b3]; omega) (by rw [b3]; omega) b1 b2) fun ss hs => by rw [hs.length_eq]; exact List.length_filter_le _ _)
  have HO := Lib.hid (out_calls (some ⟨B, 0, none⟩) now w)
  have HO1 := Lib.hid (And.intro o1 b3)
  clear h b1 b2 b3 o1
  go_enter Try.func24, Try.ntmps24
  go_wp2_with fail
  refine HO.out.mono ?_
  rintro e w1 ⟨rfl, rfl⟩
  go_wp2_with fail
  refine cS.out.mono ?_
  rintro e w2 ⟨v, ss, l, rfl, hS, hp, hu, hv, hf, ho⟩
  obtain ⟨a, c, rfl, _, _⟩ := hv.shape
  have H := Lib.hid (And.intro hS (And.intro hp (And.intro hu (And.intro hv (And.intro hf ho)))))
  clear hS hp hu hv hf ho cS HO
  go_wp2_with fail
  go_ret
  obtain ⟨hS, hp, hu, hv, hf, ho⟩ := H.out
  exact ⟨_, l, rfl, hp.trans hS, hu, hv, fun k hk => by have := hf k hk; have := HO1.out.2; omega, HO1.out.1.trans ho⟩
theorem all_nil (now : Int) (w : World) : Calls Try.prog 24 #[.pointer none, .int .i64 now] w fun e w' => ∃ (v : Value), e = .returned v ∧ Vec w' 4 v 0 [] ∧ Only None' w w' := by
  obtain ⟨b1, b2, b3⟩ := boxes none now w
  have o1 : Only None' w ((w.alloc (.cells #[.pointer none] 27)).alloc (.cells #[.int .i64 now] 3)) := ((Only.refl None' w).alloc _).alloc _
  have cS := Lib.hid (sortedFunc_any e33 (show (0 : Nat) ≤ 2000000 by omega) (Y := w.heap.size + 1) (by rw [b3]; omega) (out_stops_nil Fence.wide 4 trivial rfl w.heap.size (.pointer (some ⟨w.heap.size + 1, 0, none⟩)) _ _ (by rw [b3]; omega) b1) fun ss hs => by rw [hs.length_eq]; exact Nat.le_refl _)
  have HO := Lib.hid (out_calls none now w)
  have HO1 := Lib.hid (And.intro o1 b3)
  clear b1 b2 b3 o1
  go_enter Try.func24, Try.ntmps24
  go_wp2_with fail
  refine HO.out.mono ?_
  rintro e w1 ⟨rfl, rfl⟩
  go_wp2_with fail
  refine cS.out.mono ?_
  rintro e w2 ⟨v, ss, l, rfl, hS, hp, hu, hv, hf, ho⟩
  obtain rfl : l = [] := (hp.trans hS).eq_nil
  obtain ⟨a, c, rfl, _, _⟩ := hv.shape
  have H := Lib.hid (And.intro hv ho)
  clear hS hp hu hv hf ho cS HO
  go_wp2_with fail
  go_ret
  exact ⟨_, rfl, H.out.1, HO1.out.1.trans H.out.2⟩
end
end Go.Proofs.Ytfjfpnlcmjpofaa
