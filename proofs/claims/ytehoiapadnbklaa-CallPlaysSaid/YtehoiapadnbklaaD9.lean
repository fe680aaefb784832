/- CallPlays: the state, and its steps. -/
import Derived.Test.YtehoiapadnbklaaD8
import Derived.Test.YtehoiapadnbklaaT3
namespace Go.Proofs.Ytehoiapadnbklaa
open Go.RowKit Go.Maps
set_option linter.unusedVariables false

/-- at a round's head -/
structure PH (w wr : World) (B M X : Nat) (lv gv : Value) (nums : List Int) (i : Nat) (cc cd : Cl) : Prop where
  only : Only None' w wr
  c_ : CallAt wr B M cc
  d_ : DocAt wr X lv cd
  gv_ : Vec wr 1 gv nums.length (nums.map (Value.int .i64))
  new : w.heap.size ≤ B ∧ w.heap.size ≤ M ∧ w.heap.size ≤ X
  xb : X ≠ B ∧ X ≠ M
  lvn : ∀ g, lv.ownBlock = some g → w.heap.size ≤ g ∧ g ≠ B ∧ g ≠ M
  gvn : ∀ g, gv.ownBlock = some g → w.heap.size ≤ g ∧ g ≠ B ∧ g ≠ M ∧ g ≠ X ∧ lv.ownBlock ≠ some g
  few : nums.length ≤ i
  wf : ∀ n ∈ nums, (Lit.int .i64 n).wf = true
section
variable {w wr w1 w2 w3 : World} {B M X T i j : Nat} {lv gv gv' : Value} {nums : List Int} {cc cd cc' cd' : Cl} {S : Nat → Prop} {cs : List Value}
theorem PH.keep (h : PH w wr B M X lv gv nums i cc cd) (o : Only S wr w1) (hw : ∀ k, S k → w.heap.size ≤ k) (hB : ¬ S B) (hM : ¬ S M) (hX : ¬ S X) (hl : ∀ g, lv.ownBlock = some g → ¬ S g) (hg : ∀ g, gv.ownBlock = some g → ¬ S g) : PH w w1 B M X lv gv nums i cc cd :=
  ⟨h.only.trans2 o fun k hk e => by have := hw k e; omega, h.c_.only o hB hM, h.d_.only o hX hl, h.gv_.only o hg, h.new, h.xb, h.lvn, h.gvn, h.few, h.wf⟩
theorem PH.new_ (h : PH w wr B M X lv gv nums i cc cd) (o : Only None' wr w1) : PH w w1 B M X lv gv nums i cc cd := h.keep o (fun _ e => e.elim) (fun e => e) (fun e => e) (fun e => e) (fun _ _ e => e) (fun _ _ e => e)
theorem PH.later (h : PH w wr B M X lv gv nums i cc cd) (hj : i ≤ j) : PH w wr B M X lv gv nums j cc cd := ⟨h.only, h.c_, h.d_, h.gv_, h.new, h.xb, h.lvn, h.gvn, by have := h.few; omega, h.wf⟩
theorem PH.call (h : PH w wr B M X lv gv nums i cc cd) (hc : CallAt w1 B M cc') (o : Only (fun k => k = B ∨ k = M) wr w1) : PH w w1 B M X lv gv nums i cc' cd := by
  have h1 := h.new
  have h2 := h.xb
  exact ⟨h.only.trans2 o fun k hk e => by omega, hc, h.d_.only o (by omega) (fun g hg e => by have := h.lvn g hg; omega), h.gv_.only o (fun g hg e => by have := h.gvn g hg; omega), h.new, h.xb, h.lvn, h.gvn, h.few, h.wf⟩
theorem PH.doc (h : PH w wr B M X lv gv nums i cc cd) (hd : DocTo wr w1 X lv cd') : ∃ lv', PH w w1 B M X lv' gv nums i cc cd' ∧ Only (fun k => k = X ∨ lv.ownBlock = some k) wr w1 ∧ ∀ g, lv'.ownBlock = some g → lv.ownBlock = some g ∨ wr.heap.size ≤ g := by
  obtain ⟨lv', d, o, hf⟩ := hd
  have h1 := h.new
  have h2 := h.xb
  have hB := h.c_.cells.lt
  have hM := h.c_.lt
  have hwr := h.only.size
  refine ⟨lv', ⟨h.only.trans2 o fun k hk e => ?_, h.c_.only o ?_ ?_, d, h.gv_.only o fun g hg e => ?_, h.new, h.xb, fun g hg => ?_, fun g hg => ?_, h.few, h.wf⟩, o, hf⟩
  · rcases e with e | e
    · omega
    · have := (h.lvn k e).1; omega
  · rintro (e | e)
    · omega
    · exact (h.lvn B e).2.1 rfl
  · rintro (e | e)
    · omega
    · exact (h.lvn M e).2.2 rfl
  · rcases e with e | e
    · exact (h.gvn g hg).2.2.2.1 e
    · exact (h.gvn g hg).2.2.2.2 e
  · rcases hf g hg with e | e
    · exact h.lvn g e
    · omega
  · obtain ⟨a1, a2, a3, a4, a5⟩ := h.gvn g hg
    refine ⟨a1, a2, a3, a4, fun e => ?_⟩
    rcases hf g e with e | e
    · exact a5 e
    · have := h.gv_.lt hg; omega
theorem PH.push {n : Int} {o : Obj} (h : PH w wr B M X lv gv nums i cc cd) (hn : (Lit.int .i64 n).wf = true) (hv : Vec w1 1 gv' (nums.length + 1) (nums.map (Value.int .i64) ++ [.int .i64 n])) (hg : (wr.alloc o).grownBy w1 gv.ownBlock) (hf : ∀ q, gv'.ownBlock = some q → gv.ownBlock = some q ∨ (wr.alloc o).heap.size ≤ q) : PH w w1 B M X lv gv' (nums ++ [n]) (i + 1) cc cd := by
  have og : Only (fun g => gv.ownBlock = some g) (wr.alloc o) w1 := (Only.refl _ _).grown hg fun g hg => hg
  have h1 := h.new_ ((Only.refl None' wr).alloc o)
  have hsz : (wr.alloc o).heap.size = wr.heap.size + 1 := by simp
  have hwr := h.only.size
  have hB := h.c_.cells.lt
  have hM := h.c_.lt
  have hX := h.d_.cells.lt
  refine ⟨h1.only.trans2 og fun k hk e => by have := (h.gvn k e).1; omega, h1.c_.only og (fun e => (h.gvn B e).2.1 rfl) (fun e => (h.gvn M e).2.2.1 rfl), h1.d_.only og (fun e => (h.gvn X e).2.2.2.1 rfl) (fun g hg e => (h.gvn g e).2.2.2.2 hg), ?_, h.new, h.xb, h.lvn, fun g hg => ?_, ?_, fun m hm => ?_⟩
  · rw [List.length_append, List.length_singleton, List.map_append]; exact hv
  · rcases hf g hg with e | e
    · exact h.gvn g e
    · refine ⟨by omega, by omega, by omega, by omega, fun e2 => ?_⟩
      have := h.d_.own g e2
      omega
  · have := h.few
    rw [List.length_append, List.length_singleton]
    omega
  · rcases List.mem_append.1 hm with e | e
    · exact h.wf m e
    · simp at e
      rw [e]
      exact hn
end
/-- within a round: T holds the step -/
structure PT (w wr : World) (B M X : Nat) (lv gv : Value) (nums : List Int) (i : Nat) (cc cd : Cl) (T : Nat) (cs : List Value) : Prop where
  h : PH w wr B M X lv gv nums i cc cd
  tc : CellsR wr T cs
  tn : T ≠ B ∧ T ≠ M ∧ T ≠ X
  tl : lv.ownBlock ≠ some T
  tg : gv.ownBlock ≠ some T
/-- ... and a row of the code's own -/
structure PV (w wr : World) (B M X : Nat) (lv gv : Value) (nums : List Int) (i : Nat) (cc cd : Cl) (T : Nat) (cs : List Value) (v : Value) (l : List Wt) : Prop where
  t : PT w wr B M X lv gv nums i cc cd T cs
  row : WRow wr v l
  va : ∀ g, v.ownBlock = some g → w.heap.size ≤ g ∧ g ≠ B ∧ g ≠ M ∧ g ≠ X ∧ g ≠ T ∧ lv.ownBlock ≠ some g ∧ gv.ownBlock ≠ some g
/-- ... and a row of the document's -/
structure PU (w wr : World) (B M X : Nat) (lv gv : Value) (nums : List Int) (i : Nat) (cc cd : Cl) (T : Nat) (cs : List Value) (u : Value) (l : List Wt) : Prop where
  t : PT w wr B M X lv gv nums i cc cd T cs
  row : WRow wr u l
  ua : ∀ g, u.ownBlock = some g → g ≠ B ∧ g ≠ M
structure PVU (w wr : World) (B M X : Nat) (lv gv : Value) (nums : List Int) (i : Nat) (cc cd : Cl) (T : Nat) (cs : List Value) (v u : Value) (l : List Wt) : Prop where
  v_ : PV w wr B M X lv gv nums i cc cd T cs v l
  row : WRow wr u l
section
variable {w wr w1 w2 w3 : World} {B M X T i j : Nat} {lv gv gv' v u : Value} {nums : List Int} {cc cd cc' cd' : Cl} {S : Nat → Prop} {cs : List Value} {l : List Wt}
theorem PH.round (h : PH w wr B M X lv gv nums i cc cd) (vs : List Value) (t : TypeId) : PT w (wr.alloc (.cells vs.toArray t)) B M X lv gv nums i cc cd wr.heap.size vs := by
  have hB := h.c_.cells.lt
  have hM := h.c_.lt
  have hX := h.d_.cells.lt
  refine ⟨h.new_ ((Only.refl _ _).alloc _), cells_new wr vs t, by omega, fun e => ?_, fun e => ?_⟩
  · have := h.d_.own _ e; omega
  · have := h.gv_.lt e; omega
theorem PT.new_ (h : PT w wr B M X lv gv nums i cc cd T cs) (o : Only None' wr w1) : PT w w1 B M X lv gv nums i cc cd T cs := ⟨h.h.new_ o, h.tc.kept o fun e => e, h.tn, h.tl, h.tg⟩
theorem PT.drewN (h : PT w wr B M X lv gv nums i cc cd T cs) (q : Nat) : PT w (wr.drewN q) B M X lv gv nums i cc cd T cs := h.new_ ((Only.refl None' wr).drewN q)
theorem PT.drew (h : PT w wr B M X lv gv nums i cc cd T cs) : PT w wr.drew B M X lv gv nums i cc cd T cs := h.new_ (Only.refl None' wr).drew
theorem PT.call (h : PT w wr B M X lv gv nums i cc cd T cs) (hc : CallAt w1 B M cc') (o : Only (fun k => k = B ∨ k = M) wr w1) : PT w w1 B M X lv gv nums i cc' cd T cs :=
  ⟨h.h.call hc o, h.tc.kept o (by have := h.tn; omega), h.tn, h.tl, h.tg⟩
theorem PT.doc (h : PT w wr B M X lv gv nums i cc cd T cs) (hd : DocTo wr w1 X lv cd') : ∃ lv', PT w w1 B M X lv' gv nums i cc cd' T cs ∧ Only (fun k => k = X ∨ lv.ownBlock = some k) wr w1 ∧ ∀ g, lv'.ownBlock = some g → lv.ownBlock = some g ∨ wr.heap.size ≤ g := by
  obtain ⟨lv', h1, o, hf⟩ := h.h.doc hd
  refine ⟨lv', ⟨h1, h.tc.kept o ?_, h.tn, fun e => ?_, h.tg⟩, o, hf⟩
  · rintro (e | e)
    · exact h.tn.2.2 e
    · exact h.tl e
  · rcases hf T e with e | e
    · exact h.tl e
    · have := h.tc.lt; omega
theorem PT.markC (h : PT w wr B M X lv gv nums i cc cd T cs) (key : ByteArray) : Calls Try.prog 17 #[.pointer (some ⟨B, 0, none⟩), .string key] wr fun e w' => e = .returned (.int .i64 ((cc.ws.filter fun x => decide (x.key = key)).length : Int)) ∧ PT w w' B M X lv gv nums i (cc.mark key) cd T cs :=
  (mark_any h.h.c_ key).mono fun _ _ ⟨e, h1, o⟩ => ⟨e, h.call h1 (o.mono fun _ _ e => Or.inr e)⟩
theorem PT.markD (h : PT w wr B M X lv gv nums i cc cd T cs) (key : ByteArray) : Calls Try.prog 18 #[.pointer (some ⟨X, 0, none⟩), .string key] wr fun e w' => e = .returned (.int .i64 ((cd.ws.filter fun x => decide (x.key = key)).length : Int)) ∧ ∃ lv', PT w w' B M X lv' gv nums i cc (cd.mark key) T cs :=
  (dmark_any h.h.d_ key).mono fun _ _ ⟨e, h1⟩ => by
    obtain ⟨lv', h2, _⟩ := h.doc h1
    exact ⟨e, lv', h2⟩
theorem PT.tellC (h : PT w wr B M X lv gv nums i cc cd T cs) {n : Int} (hn : (Lit.int .i64 n).wf = true) : Calls Try.prog 10 #[.pointer (some ⟨B, 0, none⟩), .int .i64 n] wr fun e w' => e = .returned (.tuple #[((cc.find n).getD Wt.zero).v, .bool (cc.find n).isSome]) ∧ PT w w' B M X lv gv nums i (cc.told n) cd T cs :=
  (tell_any h.h.c_ n hn).mono fun _ _ ⟨e, h1, o⟩ => ⟨e, h.call h1 o⟩
theorem PT.tellD (h : PT w wr B M X lv gv nums i cc cd T cs) (n : Int) : Calls Try.prog 13 #[.pointer (some ⟨X, 0, none⟩), .int .i64 n] wr fun e w' => e = .returned (.tuple #[((cd.find n).getD Wt.zero).v, .bool (cd.find n).isSome]) ∧ ∃ lv', PT w w' B M X lv' gv nums i cc (cd.told n) T cs :=
  (dtell_any h.h.d_ n).mono fun _ _ ⟨e, h1⟩ => by
    obtain ⟨lv', h2, _⟩ := h.doc h1
    exact ⟨e, lv', h2⟩
theorem PT.lookC (h : PT w wr B M X lv gv nums i cc cd T cs) {n : Int} (hn : (Lit.int .i64 n).wf = true) : Calls Try.prog 14 #[.pointer (some ⟨B, 0, none⟩), .int .i64 n] wr fun e w' => e = .returned (.tuple #[((cc.find n).getD Wt.zero).v, .bool (cc.find n).isSome]) ∧ Only None' wr w' := look_any h.h.c_ n hn
theorem PT.lookD (h : PT w wr B M X lv gv nums i cc cd T cs) (n : Int) : Calls Try.prog 15 #[.pointer (some ⟨X, 0, none⟩), .int .i64 n] wr fun e w' => e = .returned (.tuple #[((cd.find n).getD Wt.zero).v, .bool (cd.find n).isSome]) ∧ Only None' wr w' := dlook_any h.h.d_ n
theorem PT.askC (h : PT w wr B M X lv gv nums i cc cd T cs) (key : ByteArray) (client id now : Int) (hc : cc.askCode now = 0) : Calls Try.prog 9 #[.pointer (some ⟨B, 0, none⟩), .string key, .int .i64 client, .int .i64 id, .int .i64 now] wr fun e w' => e = .returned (.tuple #[.int .i64 ((cc.life * 1048576 + cc.given + 1 : Nat) : Int), .int .i64 0]) ∧ PT w w' B M X lv gv nums i (cc.asked key client id now) cd T cs :=
  (ask_go h.h.c_ key client id now hc).mono fun _ _ ⟨e, h1, o⟩ => ⟨e, h.call h1 o⟩
theorem PT.askD (h : PT w wr B M X lv gv nums i cc cd T cs) (key : ByteArray) (client id now : Int) (hc : cd.askCode now = 0) : Calls Try.prog 12 #[.pointer (some ⟨X, 0, none⟩), .string key, .int .i64 client, .int .i64 id, .int .i64 now] wr fun e w' => e = .returned (.tuple #[.int .i64 ((cd.life * 1048576 + cd.given + 1 : Nat) : Int), .int .i64 0]) ∧ ∃ lv', PT w w' B M X lv' gv nums i cc (cd.asked key client id now) T cs :=
  (dask_go h.h.d_ key client id now hc).mono fun _ _ ⟨e, h1⟩ => by
    obtain ⟨lv', h2, _⟩ := h.doc h1
    exact ⟨e, lv', h2⟩
theorem PT.askCno (h : PT w wr B M X lv gv nums i cc cd T cs) (key : ByteArray) (client id now : Int) {code : Int} (hc : cc.askCode now = code) (h0 : code ≠ 0) : Calls Try.prog 9 #[.pointer (some ⟨B, 0, none⟩), .string key, .int .i64 client, .int .i64 id, .int .i64 now] wr fun e w' => e = .returned (.tuple #[.int .i64 0, .int .i64 code]) ∧ PT w w' B M X lv gv nums i cc cd T cs :=
  (ask_no h.h.c_ key client id now hc h0).mono fun _ _ ⟨e, q, hq⟩ => ⟨e, by rw [hq]; exact h.drewN q⟩
theorem PT.askDno (h : PT w wr B M X lv gv nums i cc cd T cs) (key : ByteArray) (client id now : Int) {code : Int} (hc : cd.askCode now = code) (h0 : code ≠ 0) : Calls Try.prog 12 #[.pointer (some ⟨X, 0, none⟩), .string key, .int .i64 client, .int .i64 id, .int .i64 now] wr fun e w' => e = .returned (.tuple #[.int .i64 0, .int .i64 code]) ∧ wr = w' := dask_no h.h.d_ key client id now hc h0
theorem PT.row (h : PT w wr B M X lv gv nums i cc cd T cs) (hc : CallAt w1 B M cc') (o : Only (fun k => k = M) wr w1) (r : WRow w1 v l) (hf : ∀ g, v.ownBlock = some g → wr.heap.size ≤ g) : PV w w1 B M X lv gv nums i cc' cd T cs v l := by
  have hB := h.h.c_.cells.lt
  have hM := h.h.c_.lt
  have hX := h.h.d_.cells.lt
  have hT := h.tc.lt
  have hw := h.h.only.size
  refine ⟨h.call hc (o.mono fun _ _ e => Or.inr e), r, fun g hg => ?_⟩
  have h1 := hf g hg
  refine ⟨by omega, by omega, by omega, by omega, by omega, fun e => ?_, fun e => ?_⟩
  · have := h.h.d_.own _ e; omega
  · have := h.h.gv_.lt e; omega
theorem PT.drow (h : PT w wr B M X lv gv nums i cc cd T cs) (hd : DocTo wr w1 X lv cd') (r : GRow wr w1 l u) : ∃ lv', PU w w1 B M X lv' gv nums i cc cd' T cs u l := by
  have hB := h.h.c_.cells.lt
  have hM := h.h.c_.lt
  obtain ⟨lv', h2, _⟩ := h.doc hd
  exact ⟨lv', h2, r.row, fun g hg => by have := r.new g hg; omega⟩
theorem PV.drow (h : PV w wr B M X lv gv nums i cc cd T cs v l) (hd : DocTo wr w1 X lv cd') (r : GRow wr w1 l u) : ∃ lv', PVU w w1 B M X lv' gv nums i cc cd' T cs v u l := by
  obtain ⟨lv', h2, o, hf⟩ := h.t.doc hd
  refine ⟨lv', ⟨h2, h.row.only o fun g hg e => ?_, fun g hg => ?_⟩, r.row⟩
  · obtain ⟨a1, a2, a3, a4, a5, a6, a7⟩ := h.va g hg
    rcases e with e | e
    · exact a4 e
    · exact a6 e
  · obtain ⟨a1, a2, a3, a4, a5, a6, a7⟩ := h.va g hg
    refine ⟨a1, a2, a3, a4, a5, fun e => ?_, a7⟩
    rcases hf g e with e | e
    · exact a6 e
    · have := h.row.row.lt hg; omega
theorem PU.row' (h : PU w wr B M X lv gv nums i cc cd T cs u l) (hc : CallAt w1 B M cc') (o : Only (fun k => k = M) wr w1) (r : WRow w1 v l) (hf : ∀ g, v.ownBlock = some g → wr.heap.size ≤ g) : PVU w w1 B M X lv gv nums i cc' cd T cs v u l :=
  ⟨h.t.row hc o r hf, h.row.only o fun g hg e => (h.ua g hg).2 e⟩
theorem PV.drewN (h : PV w wr B M X lv gv nums i cc cd T cs v l) (q : Nat) : PV w (wr.drewN q) B M X lv gv nums i cc cd T cs v l := ⟨h.t.drewN q, h.row.only ((Only.refl None' wr).drewN q) fun _ _ e => e, h.va⟩
theorem PU.drewN (h : PU w wr B M X lv gv nums i cc cd T cs u l) (q : Nat) : PU w (wr.drewN q) B M X lv gv nums i cc cd T cs u l := ⟨h.t.drewN q, h.row.only ((Only.refl None' wr).drewN q) fun _ _ e => e, h.ua⟩
theorem PVU.drewN (h : PVU w wr B M X lv gv nums i cc cd T cs v u l) (q : Nat) : PVU w (wr.drewN q) B M X lv gv nums i cc cd T cs v u l := ⟨h.v_.drewN q, h.row.only ((Only.refl None' wr).drewN q) fun _ _ e => e⟩
theorem PVU.twice (h : PVU w wr B M X lv gv nums i cc cd T cs v u l) (hl : l.length ≤ 64) : Calls Try.prog 19 #[v, u] wr fun e w' => e = .returned (.bool true) ∧ PT w w' B M X lv gv nums i cc cd T cs :=
  (twice_any h.v_.row h.row hl).mono fun _ w' ⟨e, o⟩ => by
    have hB := h.v_.t.h.c_.cells.lt
    have hM := h.v_.t.h.c_.lt
    have hX := h.v_.t.h.d_.cells.lt
    have hT := h.v_.t.tc.lt
    have hw := h.v_.t.h.only.size
    have hnot : ∀ k, k < wr.heap.size → v.ownBlock ≠ some k → ¬ (v.ownBlock = some k ∨ wr.heap.size ≤ k) := fun k h1 h2 e => by
      rcases e with e | e
      · exact h2 e
      · omega
    refine ⟨e, ⟨h.v_.t.h.keep o (fun k e => ?_) (hnot B hB fun e => (h.v_.va B e).2.1 rfl) (hnot M hM fun e => (h.v_.va M e).2.2.1 rfl) (hnot X hX fun e => (h.v_.va X e).2.2.2.1 rfl) (fun g hg => hnot g (h.v_.t.h.d_.own g hg) fun e => (h.v_.va g e).2.2.2.2.2.1 hg) (fun g hg => hnot g (h.v_.t.h.gv_.lt hg) fun e => (h.v_.va g e).2.2.2.2.2.2 hg), h.v_.t.tc.kept o (hnot T hT fun e => (h.v_.va T e).2.2.2.2.1 rfl), h.v_.t.tn, h.v_.t.tl, h.v_.t.tg⟩⟩
    rcases e with e | e
    · exact (h.v_.va k e).1
    · omega
end
end Go.Proofs.Ytehoiapadnbklaa
