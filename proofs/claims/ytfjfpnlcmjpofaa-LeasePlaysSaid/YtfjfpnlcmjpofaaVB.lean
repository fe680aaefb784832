/- LeasePlays: within a round: the step's own block; what is called there. -/
import Derived.Test.YtfjfpnlcmjpofaaPJ
namespace Go.Proofs.Ytfjfpnlcmjpofaa
open Go.RowKit Go.Maps Go.Sort Go.Shelf
set_option linter.unusedVariables false

/-- within a round: T holds the step -/
structure QT (w wr : World) (B M N X : Nat) (lv sv gv : Value) (nums : List Int) (c : Tb) (j T : Nat) (cs : List Value) : Prop where
  st : LSt w wr B M N X lv sv gv nums c j
  tc : CellsR wr T cs
  tw : w.heap.size ≤ T
  tn : T ≠ B ∧ T ≠ M ∧ T ≠ N ∧ T ≠ X
  tl : lv.ownBlock ≠ some T
  ts : sv.ownBlock ≠ some T
  tg : gv.ownBlock ≠ some T
/-- ... the table went a step, the document's not yet -/
structure QM (w wr w1 : World) (B M N X : Nat) (lv sv gv : Value) (nums : List Int) (c : Tb) (j T : Nat) (cs : List Value) (c' : Tb) : Prop where
  h : QT w wr B M N X lv sv gv nums c j T cs
  tab : TabAt w1 B M N c'
  o : Only (fun k => k = B ∨ k = M ∨ k = N) wr w1
/-- ... and a row of the code's own -/
structure QV (w wr : World) (B M N X : Nat) (lv sv gv : Value) (nums : List Int) (c : Tb) (j T : Nat) (cs : List Value) (l0 : List Ls) (v : Value) (l : List Ls) : Prop where
  t : QT w wr B M N X lv sv gv nums c j T cs
  perm : l.Perm l0
  up : Up l
  row : Vec wr 4 v l.length (l.flatMap Ls.row)
  va : ∀ q, v.ownBlock = some q → w.heap.size ≤ q ∧ q ≠ B ∧ q ≠ M ∧ q ≠ N ∧ q ≠ X ∧ q ≠ T ∧ lv.ownBlock ≠ some q ∧ sv.ownBlock ≠ some q ∧ gv.ownBlock ≠ some q
/-- ... and a row of the document's -/
structure QU (w wr : World) (B M N X : Nat) (lv sv gv : Value) (nums : List Int) (c : Tb) (j T : Nat) (cs : List Value) (l0 : List Ls) (v u : Value) (l : List Ls) : Prop where
  v_ : QV w wr B M N X lv sv gv nums c j T cs l0 v l
  row : Vec wr 4 u l.length (l.flatMap Ls.row)
section
variable {w wr w1 w2 w3 : World} {B M N M' N' X T i j : Nat} {lv sv gv lv' sv' gv' v u : Value} {nums : List Int} {c c' : Tb} {S : Nat → Prop} {cs : List Value} {l l0 : List Ls} {key : ByteArray} {cl now num : Int}
theorem LSt.lt (h : LSt w wr B M N X lv sv gv nums c j) : B < wr.heap.size ∧ M < wr.heap.size ∧ N < wr.heap.size ∧ X < wr.heap.size :=
  ⟨h.c_.cells.lt, h.c_.lt.1, h.c_.lt.2, h.d_.cells.lt⟩
theorem LSt.round (h : LSt w wr B M N X lv sv gv nums c j) (vs : List Value) (t : TypeId) : QT w (wr.alloc (.cells vs.toArray t)) B M N X lv sv gv nums c j wr.heap.size vs := by
  have hl := h.lt
  have hw := h.only.size
  refine ⟨h.new_ ((Only.refl _ _).alloc _), cells_new wr vs t, hw, by omega, fun e => ?_, fun e => ?_, fun e => ?_⟩
  · have := h.d_.row.lt e; omega
  · have := h.d_.shut.lt e; omega
  · have := h.g_.lt e; omega
theorem QT.new_ (h : QT w wr B M N X lv sv gv nums c j T cs) (o : Only None' wr w1) : QT w w1 B M N X lv sv gv nums c j T cs := ⟨h.st.new_ o, h.tc.kept o fun e => e, h.tw, h.tn, h.tl, h.ts, h.tg⟩
theorem QT.later (h : QT w wr B M N X lv sv gv nums c j T cs) (hj : j ≤ i) : QT w wr B M N X lv sv gv nums c i T cs := ⟨h.st.later hj, h.tc, h.tw, h.tn, h.tl, h.ts, h.tg⟩
theorem QT.drewN (h : QT w wr B M N X lv sv gv nums c j T cs) (q : Nat) : QT w (wr.drewN q) B M N X lv sv gv nums c j T cs := h.new_ ((Only.refl None' wr).drewN q)
theorem QT.drew (h : QT w wr B M N X lv sv gv nums c j T cs) : QT w wr.drew B M N X lv sv gv nums c j T cs := h.new_ (Only.refl None' wr).drew
theorem QM.tc (h : QM w wr w1 B M N X lv sv gv nums c j T cs c') : CellsR w1 T cs := h.h.tc.kept h.o (by have := h.h.tn; omega)
theorem QM.doc (h : QM w wr w1 B M N X lv sv gv nums c j T cs c') : DocAt w1 X lv sv c := h.h.st.doc h.o
theorem QM.new_ (h : QM w wr w1 B M N X lv sv gv nums c j T cs c') (o : Only None' w1 w2) : QM w wr w2 B M N X lv sv gv nums c j T cs c' := ⟨h.h, h.tab.new o, h.o.trans2 o fun _ _ e => e.elim⟩
theorem QM.drewN (h : QM w wr w1 B M N X lv sv gv nums c j T cs c') (q : Nat) : QM w wr (w1.drewN q) B M N X lv sv gv nums c j T cs c' := h.new_ ((Only.refl None' w1).drewN q)
theorem QM.drew (h : QM w wr w1 B M N X lv sv gv nums c j T cs c') : QM w wr w1.drew B M N X lv sv gv nums c j T cs c' := h.new_ (Only.refl None' w1).drew
theorem QM.both (h : QM w wr w1 B M N X lv sv gv nums c j T cs c')
    (h2 : DocAt w2 X lv' sv' c') (o2 : Only (fun k => k = X ∨ lv.ownBlock = some k ∨ sv.ownBlock = some k) w1 w2)
    (hl : ∀ q, lv'.ownBlock = some q → lv.ownBlock = some q ∨ sv.ownBlock = some q ∨ w1.heap.size ≤ q) (hs : ∀ q, sv'.ownBlock = some q → lv.ownBlock = some q ∨ sv.ownBlock = some q ∨ w1.heap.size ≤ q)
    (hc : c'.cnt ≤ j + 1) : QT w w2 B M N X lv' sv' gv nums c' (j + 1) T cs := by
  have hT := h.tc.lt
  have hno : ∀ v : Value, (v.ownBlock = some T → lv.ownBlock = some T ∨ sv.ownBlock = some T ∨ w1.heap.size ≤ T) → v.ownBlock ≠ some T := fun v hv e => by
    rcases hv e with h3 | h3 | h3
    · exact h.h.tl h3
    · exact h.h.ts h3
    · omega
  refine ⟨h.h.st.both h.tab h.o h2 o2 hl hs hc, h.tc.kept o2 ?_, h.h.tw, h.h.tn, hno _ (hl T), hno _ (hs T), h.h.tg⟩
  rintro (e | e | e)
  · exact h.h.tn.2.2.2 e
  · exact h.h.tl e
  · exact h.h.ts e
/-! ### the calls of a step -/
theorem QT.giveC (h : QT w wr B M N X lv sv gv nums c j T cs) (key : ByteArray) (cl now : Int) (hf : Fine key cl) (hc : c.giveCode key.data.toList now = 0) : Calls Try.prog 10 #[.pointer (some ⟨B, 0, none⟩), .string key, .int .i64 cl, .int .i64 now] wr fun e w' => e = .returned (.tuple #[.int .i64 ((c.top + 1 : Nat) : Int), .int .i64 0]) ∧ QM w wr w' B M N X lv sv gv nums c j T cs (c.gave key cl now) :=
  (give_go h.st.c_ key cl now hf hc).mono fun _ _ ⟨e, h1, o⟩ => ⟨e, h, h1, o.mono fun _ _ e => by omega⟩
theorem QM.giveD (h : QM w wr w1 B M N X lv sv gv nums c j T cs (c.gave key cl now)) (hf : Fine key cl) (hc : c.giveCode key.data.toList now = 0) : Calls Try.prog 12 #[.pointer (some ⟨X, 0, none⟩), .string key, .int .i64 cl, .int .i64 now] w1 fun e w' => e = .returned (.tuple #[.int .i64 ((c.top + 1 : Nat) : Int), .int .i64 0]) ∧ ∃ lv', QT w w' B M N X lv' sv gv nums (c.gave key cl now) (j + 1) T cs :=
  (dgive_go h.doc key cl now hf hc).mono fun _ _ ⟨e, lv', h1, o, hg⟩ => ⟨e, lv', h.both h1 (o.mono fun _ _ e => by rcases e with e | e; exact .inl e; exact .inr (.inl e)) (fun q hq => by rcases hg q hq with e | e; exact .inl e; exact .inr (.inr e)) (fun q hq => .inr (.inl hq)) (Nat.le_succ_of_le h.h.st.cnt)⟩
theorem QT.giveCno (h : QT w wr B M N X lv sv gv nums c j T cs) (key : ByteArray) (cl now : Int) (hk : key.size ≤ 140737488355328) {code : Int} (hc : c.giveCode key.data.toList now = code) (h0 : code ≠ 0) : Calls Try.prog 10 #[.pointer (some ⟨B, 0, none⟩), .string key, .int .i64 cl, .int .i64 now] wr fun e w' => e = .returned (.tuple #[.int .i64 0, .int .i64 code]) ∧ QT w w' B M N X lv sv gv nums c j T cs :=
  (give_no h.st.c_ key hk cl now hc h0).mono fun _ _ ⟨e, q, hq⟩ => ⟨e, by rw [hq]; exact h.drewN q⟩
theorem QT.giveDno (h : QT w wr B M N X lv sv gv nums c j T cs) (key : ByteArray) (cl now : Int) {code : Int} (hc : c.giveCode key.data.toList now = code) (h0 : code ≠ 0) : Calls Try.prog 12 #[.pointer (some ⟨X, 0, none⟩), .string key, .int .i64 cl, .int .i64 now] wr fun e w' => e = .returned (.tuple #[.int .i64 0, .int .i64 code]) ∧ QT w w' B M N X lv sv gv nums c j T cs :=
  (dgive_no h.st.d_ key cl now hc h0).mono fun _ _ ⟨e, hq⟩ => ⟨e, by rw [← hq]; exact h⟩
theorem QT.backC (h : QT w wr B M N X lv sv gv nums c j T cs) (cl num : Int) : Calls Try.prog 13 #[.pointer (some ⟨B, 0, none⟩), .int .i64 cl, .int .i64 num] wr fun e w' => e = .returned (.bool (c.has cl num)) ∧ QM w wr w' B M N X lv sv gv nums c j T cs (c.back cl num) :=
  (back_any h.st.c_ cl num).mono fun _ _ ⟨e, h1, o⟩ => ⟨e, h, h1, o.mono fun _ _ e => by omega⟩
theorem QM.backD (h : QM w wr w1 B M N X lv sv gv nums c j T cs (c.back cl num)) : Calls Try.prog 14 #[.pointer (some ⟨X, 0, none⟩), .int .i64 cl, .int .i64 num] w1 fun e w' => e = .returned (.bool (c.has cl num)) ∧ ∃ lv', QT w w' B M N X lv' sv gv nums (c.back cl num) (j + 1) T cs :=
  (dback_any h.doc cl num).mono fun _ _ ⟨e, lv', h1, o, hg⟩ => ⟨e, lv', h.both h1 (o.mono fun _ _ e => by rcases e with e | e; exact .inl e; exact .inr (.inl e)) (fun q hq => by rcases hg q hq with e | e; exact .inl e; exact .inr (.inr e)) (fun q hq => .inr (.inl hq)) (Nat.le_succ_of_le h.h.st.cnt)⟩
theorem QT.shutC (h : QT w wr B M N X lv sv gv nums c j T cs) (key : ByteArray) (hk : key.size ≤ 140737488355328) (hj : j ≤ 1000000) : Calls Try.prog 15 #[.pointer (some ⟨B, 0, none⟩), .string key] wr fun e w' => e = .returned (.tuple #[]) ∧ QM w wr w' B M N X lv sv gv nums c j T cs (c.shutted key.data.toList) :=
  (shut_any h.st.c_ key hk (by have := h.st.cnt; omega)).mono fun _ _ ⟨e, h1, o⟩ => ⟨e, h, h1, o.mono fun _ _ e => by omega⟩
theorem QM.shutD (h : QM w wr w1 B M N X lv sv gv nums c j T cs (c.shutted key.data.toList)) (hj : j ≤ 1000000) : Calls Try.prog 16 #[.pointer (some ⟨X, 0, none⟩), .string key] w1 fun e w' => e = .returned (.tuple #[]) ∧ ∃ sv', QT w w' B M N X lv sv' gv nums (c.shutted key.data.toList) (j + 1) T cs :=
  (dshut_any h.doc key (by have := h.h.st.cnt; omega)).mono fun _ _ ⟨e, sv', h1, o, hg⟩ => ⟨e, sv', h.both h1 (o.mono fun _ _ e => by rcases e with e | e; exact .inl e; exact .inr (.inr e)) (fun q hq => .inl hq) (fun q hq => by rcases hg q hq with e | e; exact .inr (.inl e); exact .inr (.inr e)) (Nat.succ_le_succ h.h.st.cnt)⟩
theorem QT.unshutC (h : QT w wr B M N X lv sv gv nums c j T cs) (key : ByteArray) (hk : key.size ≤ 140737488355328) : Calls Try.prog 17 #[.pointer (some ⟨B, 0, none⟩), .string key] wr fun e w' => e = .returned (.tuple #[]) ∧ QM w wr w' B M N X lv sv gv nums c j T cs (c.unshut key.data.toList) :=
  (unshut_any h.st.c_ key hk).mono fun _ _ ⟨e, h1, o⟩ => ⟨e, h, h1, o.mono fun _ _ e => by omega⟩
theorem QM.unshutD (h : QM w wr w1 B M N X lv sv gv nums c j T cs (c.unshut key.data.toList)) (hj : j ≤ 1000000) : Calls Try.prog 18 #[.pointer (some ⟨X, 0, none⟩), .string key] w1 fun e w' => e = .returned (.tuple #[]) ∧ ∃ sv', QT w w' B M N X lv sv' gv nums (c.unshut key.data.toList) (j + 1) T cs :=
  (dunshut_any h.doc key (by have := h.h.st.cnt; omega)).mono fun _ _ ⟨e, sv', h1, o, hg⟩ => ⟨e, sv', h.both h1 (o.mono fun _ _ e => by rcases e with e | e; exact .inl e; exact .inr (.inr e)) (fun q hq => .inl hq) (fun q hq => by rcases hg q hq with e | e; exact .inr (.inl e); exact .inr (.inr e)) (Nat.le_succ_of_le h.h.st.cnt)⟩
/-- all are cleared, in both -/
theorem QT.clearC (h : QT w wr B M N X lv sv gv nums c j T cs) : Calls Try.prog 9 #[.pointer (some ⟨B, 0, none⟩)] wr fun e w' => e = .returned (.tuple #[]) ∧ ∃ M' N', TabAt w' B M' N' c.cleared ∧ wr.heap.size ≤ M' ∧ wr.heap.size ≤ N' ∧ Only (fun k => k = B) wr w' := clear_any h.st.c_
theorem QT.cleared (h : QT w wr B M N X lv sv gv nums c j T cs) (h1 : TabAt w1 B M' N' c.cleared) (hM : wr.heap.size ≤ M') (hN : wr.heap.size ≤ N') (o1 : Only (fun k => k = B) wr w1) :
    CellsR w1 T cs ∧ CellsR w1 X [.int .i64 (c.life : Int), .int .i64 c.hold, .int .i64 c.start, .int .i64 (c.given : Int), lv, sv] ∧ QT w ((w1.setCell ⟨X, 4, none⟩ (.slice none 0 0)).setCell ⟨X, 5, none⟩ (.slice none 0 0)) B M' N' X (.slice none 0 0) (.slice none 0 0) gv nums c.cleared (j + 1) T cs := by
  obtain ⟨a1, a2, a3⟩ := h.st.apart
  obtain ⟨n1, n2, n3, n4⟩ := h.st.new
  obtain ⟨l1, l2, l3, l4⟩ := h.st.lt
  obtain ⟨t1, t2, t3, t4⟩ := h.tn
  have hsz := o1.size
  have hsz0 := h.st.only.size
  have hM' := h1.lt.1
  have hN' := h1.lt.2
  have hT := h.tc.lt
  have dc := h.st.d_.cells.kept o1 (fun e => a1 e)
  have o2 : Only (fun q => q = X) w1 ((w1.setCell ⟨X, 4, none⟩ (.slice none 0 0)).setCell ⟨X, 5, none⟩ (.slice none 0 0)) := ((Only.refl (fun q => q = X) w1).setCell (p := ⟨X, 4, none⟩) rfl _).setCell (p := ⟨X, 5, none⟩) rfl _
  have d2 := (dc.set (i := 4) (by simp) (.slice none 0 0)).set (i := 5) (by simp) (.slice none 0 0)
  have hg := fun q hq => h.st.gv_ q hq
  refine ⟨h.tc.kept o1 t1, dc, ⟨⟨(h.st.only.trans2 o1 fun q hq e => by omega).trans2 o2 fun q hq e => by omega, h1.only o2 a1.symm (by omega) (by omega), ⟨d2, Vec.nil _ _, Vec.nil _ _, ⟨(fun g hg => by cases hg), (fun g hg => by cases hg), fun g hg => by cases hg⟩, h.st.c_.ok.cleared, Nat.zero_le _⟩, (h.st.g_.only o1 fun q hq e => (hg q hq).2.1 e).only o2 fun q hq e => (hg q hq).2.2.2.2.1 e, ⟨n1, by omega, by omega, n4⟩, ⟨a1, by omega, by omega⟩, (fun q hq => by cases hq), (fun q hq => by cases hq), fun q hq => ?_, Nat.zero_le _, Nat.le_succ_of_le h.st.few⟩, (h.tc.kept o1 t1).kept o2 t4, h.tw, ⟨t1, by omega, by omega, t4⟩, (fun e => by cases e), (fun e => by cases e), h.tg⟩⟩
  obtain ⟨g1, g2, g3, g4, g5, g6, g7⟩ := hg q hq
  have := h.st.g_.lt hq
  exact ⟨g1, g2, by omega, by omega, g5, (fun e => by cases e), fun e => by cases e⟩
/-- a number was given: it is put to the numbers -/
theorem QT.push {n : Int} {o : Obj} (h : QT w wr B M N X lv sv gv nums c (j + 1) T cs) (hn : nums.length ≤ j) (hv : Vec w1 1 gv' (nums.length + 1) (nums.map (Value.int .i64) ++ [.int .i64 n])) (hg : (wr.alloc o).grownBy w1 gv.ownBlock) (hf : ∀ q, gv'.ownBlock = some q → gv.ownBlock = some q ∨ (wr.alloc o).heap.size ≤ q) : QT w w1 B M N X lv sv gv' (nums ++ [n]) c (j + 1) T cs := by
  have og : Only (fun g => gv.ownBlock = some g) (wr.alloc o) w1 := (Only.refl _ _).grown hg fun g hg => hg
  have h1 := h.new_ ((Only.refl None' wr).alloc o)
  have hsz : (wr.alloc o).heap.size = wr.heap.size + 1 := by simp
  have hwr := h.st.only.size
  obtain ⟨l1, l2, l3, l4⟩ := h.st.lt
  have hT := h.tc.lt
  have G := h.st.gv_
  refine ⟨⟨h1.st.only.trans2 og fun k hk e => by have := (G k e).1; omega, h1.st.c_.only og (fun e => (G B e).2.1 rfl) (fun e => (G M e).2.2.1 rfl) (fun e => (G N e).2.2.2.1 rfl), h1.st.d_.only og (fun e => (G X e).2.2.2.2.1 rfl) (fun g hg e => (G g e).2.2.2.2.2.1 hg) (fun g hg e => (G g e).2.2.2.2.2.2 hg), ?_, h.st.new, h.st.apart, h.st.lv_, h.st.sv_, fun g hg => ?_, h.st.cnt, ?_⟩, h1.tc.kept og (fun e => h.tg e), h.tw, h.tn, h.tl, h.ts, fun e => ?_⟩
  · rw [List.length_append, List.length_singleton, List.map_append]; exact hv
  · rcases hf g hg with e | e
    · exact G g e
    · refine ⟨by omega, by omega, by omega, by omega, by omega, fun e2 => ?_, fun e2 => ?_⟩
      · have := h.st.d_.row.lt e2; omega
      · have := h.st.d_.shut.lt e2; omega
  · rw [List.length_append, List.length_singleton]
    omega
  · rcases hf T e with e | e
    · exact h.tg e
    · omega
/-! ### what is asked -/
theorem QT.earlyC (h : QT w wr B M N X lv sv gv nums c j T cs) (now : Int) : Calls Try.prog 19 #[.pointer (some ⟨B, 0, none⟩), .int .i64 now] wr fun e w' => e = .returned (.bool (decide (now < c.start + c.hold))) ∧ QT w w' B M N X lv sv gv nums c j T cs :=
  (early_any h.st.c_ now).mono fun _ _ ⟨e, q, hq⟩ => ⟨e, by rw [hq]; exact h.drewN q⟩
theorem QT.earlyD (h : QT w wr B M N X lv sv gv nums c j T cs) (now : Int) : Calls Try.prog 20 #[.pointer (some ⟨X, 0, none⟩), .int .i64 now] wr fun e w' => e = .returned (.bool (decide (now < c.start + c.hold))) ∧ QT w w' B M N X lv sv gv nums c j T cs :=
  (dearly_any h.st.d_ now).mono fun _ _ ⟨e, q, hq⟩ => ⟨e, by rw [hq]; exact h.drewN q⟩
theorem QT.row (h : QT w wr B M N X lv sv gv nums c j T cs) {e : Ending} (t : ToldBy wr l0 e w1) : ∃ v, e = .returned v ∧ ∃ l, QV w w1 B M N X lv sv gv nums c j T cs l0 v l := by
  obtain ⟨v, l, e, p, up, r, hf, o⟩ := t
  obtain ⟨l1, l2, l3, l4⟩ := h.st.lt
  have hT := h.tc.lt
  have hw := h.st.only.size
  refine ⟨v, e, l, h.new_ o, p, up, r, fun q hq => ?_⟩
  have h1 := hf q hq
  refine ⟨by omega, by omega, by omega, by omega, by omega, by omega, fun e => ?_, fun e => ?_, fun e => ?_⟩
  · have := h.st.d_.row.lt e; omega
  · have := h.st.d_.shut.lt e; omega
  · have := h.st.g_.lt e; omega
theorem QT.outC (h : QT w wr B M N X lv sv gv nums c j T cs) (key : ByteArray) (now : Int) : Calls Try.prog 22 #[.pointer (some ⟨B, 0, none⟩), .string key, .int .i64 now] wr fun e w' => ∃ v, e = .returned v ∧ ∃ l, QV w w' B M N X lv sv gv nums c j T cs ((c.ls.filter (live now)).filter (ofKey key)) v l :=
  (out_told h.st.c_ key now).mono fun _ _ t => h.row t
theorem QT.allC (h : QT w wr B M N X lv sv gv nums c j T cs) (now : Int) : Calls Try.prog 24 #[.pointer (some ⟨B, 0, none⟩), .int .i64 now] wr fun e w' => ∃ v, e = .returned v ∧ ∃ l, QV w w' B M N X lv sv gv nums c j T cs (c.ls.filter (live now)) v l :=
  (all_told h.st.c_ now).mono fun _ _ t => h.row t
theorem QV.new_ (h : QV w wr B M N X lv sv gv nums c j T cs l0 v l) (o : Only None' wr w1) : QV w w1 B M N X lv sv gv nums c j T cs l0 v l := ⟨h.t.new_ o, h.perm, h.up, h.row.only o fun _ _ e => e, h.va⟩
theorem QV.drewN (h : QV w wr B M N X lv sv gv nums c j T cs l0 v l) (q : Nat) : QV w (wr.drewN q) B M N X lv sv gv nums c j T cs l0 v l := h.new_ ((Only.refl None' wr).drewN q)
theorem QV.drew (h : QV w wr B M N X lv sv gv nums c j T cs l0 v l) : QV w wr.drew B M N X lv sv gv nums c j T cs l0 v l := h.new_ (Only.refl None' wr).drew
theorem QV.drow (h : QV w wr B M N X lv sv gv nums c j T cs l0 v l) (G : Good l0) {e : Ending} (t : ToldBy wr l0 e w1) : ∃ u, e = .returned u ∧ QU w w1 B M N X lv sv gv nums c j T cs l0 v u l := by
  obtain ⟨u, l', e, p, up, r, hf, o⟩ := t
  obtain rfl := told_one G p h.perm up h.up
  exact ⟨u, e, h.new_ o, r⟩
theorem QV.outD (h : QV w wr B M N X lv sv gv nums c j T cs ((c.ls.filter (live now)).filter (ofKey key)) v l) : Calls Try.prog 23 #[.pointer (some ⟨X, 0, none⟩), .string key, .int .i64 now] wr fun e w' => ∃ u, e = .returned u ∧ QU w w' B M N X lv sv gv nums c j T cs ((c.ls.filter (live now)).filter (ofKey key)) v u l :=
  (dout_told h.t.st.d_ key now).mono fun _ _ t => h.drow ((h.t.st.c_.ok.good.filter _).filter _) t
theorem QV.allD (h : QV w wr B M N X lv sv gv nums c j T cs (c.ls.filter (live now)) v l) : Calls Try.prog 25 #[.pointer (some ⟨X, 0, none⟩), .int .i64 now] wr fun e w' => ∃ u, e = .returned u ∧ QU w w' B M N X lv sv gv nums c j T cs (c.ls.filter (live now)) v u l :=
  (dall_told h.t.st.d_ now).mono fun _ _ t => h.drow (h.t.st.c_.ok.good.filter _) t
theorem QU.drewN (h : QU w wr B M N X lv sv gv nums c j T cs l0 v u l) (q : Nat) : QU w (wr.drewN q) B M N X lv sv gv nums c j T cs l0 v u l := ⟨h.v_.drewN q, h.row.only ((Only.refl None' wr).drewN q) fun _ _ e => e⟩
theorem QU.drew (h : QU w wr B M N X lv sv gv nums c j T cs l0 v u l) : QU w wr.drew B M N X lv sv gv nums c j T cs l0 v u l := ⟨h.v_.drew, h.row.only (Only.refl None' wr).drew fun _ _ e => e⟩
theorem QU.same (h : QU w wr B M N X lv sv gv nums c j T cs l0 v u l) (hl : l0.length ≤ c.ls.length) : Calls Try.prog 26 #[v, u] wr fun e w' => e = .returned (.bool true) ∧ QT w w' B M N X lv sv gv nums c j T cs :=
  (same_any h.v_.row h.row (by rw [h.v_.perm.length_eq]; exact Nat.le_trans hl (Nat.le_trans h.v_.t.st.c_.ok.few h.v_.t.st.c_.ok.g))).mono fun _ _ ⟨e, o⟩ => ⟨e, h.v_.t.new_ o⟩
theorem QU.twice (h : QU w wr B M N X lv sv gv nums c j T cs l0 v u l) (hl : l0.length ≤ c.ls.length) : Calls Try.prog 21 #[v, u] wr fun e w' => e = .returned (.bool true) ∧ QT w w' B M N X lv sv gv nums c j T cs :=
  (twice_any h.v_.row h.row (by rw [h.v_.perm.length_eq]; exact Nat.le_trans hl (Nat.le_trans h.v_.t.st.c_.ok.few h.v_.t.st.c_.ok.g))).mono fun _ w' ⟨e, o⟩ => by
    have q := h.v_.t
    obtain ⟨l1, l2, l3, l4⟩ := q.st.lt
    have hT := q.tc.lt
    have hw := q.st.only.size
    have V := h.v_.va
    have hnot : ∀ k, k < wr.heap.size → v.ownBlock ≠ some k → ¬ (v.ownBlock = some k ∨ wr.heap.size ≤ k) := fun k h1 h2 e => by
      rcases e with e | e
      · exact h2 e
      · omega
    refine ⟨e, ⟨⟨q.st.only.trans2 o fun k hk e => ?_, q.st.c_.only o (hnot B l1 fun e => (V B e).2.1 rfl) (hnot M l2 fun e => (V M e).2.2.1 rfl) (hnot N l3 fun e => (V N e).2.2.2.1 rfl), q.st.d_.only o (hnot X l4 fun e => (V X e).2.2.2.2.1 rfl) (fun g hg => hnot g (q.st.d_.row.lt hg) fun e => (V g e).2.2.2.2.2.2.1 hg) (fun g hg => hnot g (q.st.d_.shut.lt hg) fun e => (V g e).2.2.2.2.2.2.2.1 hg), q.st.g_.only o (fun g hg => hnot g (q.st.g_.lt hg) fun e => (V g e).2.2.2.2.2.2.2.2 hg), q.st.new, q.st.apart, q.st.lv_, q.st.sv_, q.st.gv_, q.st.cnt, q.st.few⟩, q.tc.kept o (hnot T hT fun e => (V T e).2.2.2.2.2.1 rfl), q.tw, q.tn, q.tl, q.ts, q.tg⟩⟩
    rcases e with e | e
    · have := (V k e).1; omega
    · omega
theorem LSt.start {w1 : World} {t : Tb} (o1 : Only None' w w1) (h1 : TabAt w1 B M N t) (hB : w.heap.size ≤ B) (hM : w.heap.size ≤ M) (hN : w.heap.size ≤ N) (d : DocAt w2 w1.heap.size (.slice none 0 0) (.slice none 0 0) t) (o2 : Only None' w1 w2) (hc : t.cnt = 0) : LSt w w2 B M N w1.heap.size (.slice none 0 0) (.slice none 0 0) (.slice none 0 0) [] t 0 := by
  have s1 := o1.size
  have lB := h1.cells.lt
  have lM := h1.lt
  exact ⟨o1.trans o2, h1.new o2, d, Vec.nil _ 1, ⟨hB, hM, hN, s1⟩, ⟨by omega, by omega, by omega⟩, (fun g hg => by cases hg), (fun g hg => by cases hg), (fun g hg => by cases hg), by omega, Nat.le_refl _⟩
end
end Go.Proofs.Ytfjfpnlcmjpofaa
