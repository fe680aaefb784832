/- LeaseKept: the state, and its steps. -/
import Derived.Test.YtfjfpnlcmjpofaaU1
namespace Go.Proofs.Ytfjfpnlcmjpofaa
open Go.RowKit Go.Maps Go.Sort Go.Shelf
set_option linter.unusedVariables false

theorem under53 : Try.prog.underlying 53 = some (.map 9 3) := by kernel_rfl
theorem under52 : Try.prog.underlying 52 = some (.slice 55) := by kernel_rfl
theorem info55 : Try.prog.info? 55 = some Try.t55 := by kernel_rfl
theorem t55_zero : Try.t55.zero = some Ls.zero.v := by kernel_rfl
theorem t55_size : Try.t55.size = 4 := by kernel_rfl
theorem t55_bytes : Try.t55.bytes = 40 := by kernel_rfl
theorem rd_new (w : World) (vs : List Value) (t : TypeId) (n size : Nat) (h : vs.length = n * size) (hn : n ≤ maxLen) : Rd (w.alloc (.cells vs.toArray t)) size (.slice (some ⟨w.heap.size, 0, none⟩) n n) n vs := by
  refine ⟨h, .inr ⟨⟨w.heap.size, 0, none⟩, n, rfl, Nat.le_refl _, hn, fun j u hu => ?_⟩⟩
  rw [add_mid' (⟨w.heap.size, 0, none⟩) j rfl, Nat.zero_add]
  exact (cells_new w vs t).is j u hu
/-! ### maps from strings to numbers -/
structure SMap (w : World) (b n : Nat) (f : List UInt8 → Int) : Prop where
  own : ∃ D : DataW Unit, w.ownsMap Try.prog 9 (plainElem Try.prog 3) b n D ∧ ∀ k, D.atKey (.string k) (.lit (.int .i64 0)) = .lit (.int .i64 (f k))
theorem plainElem_int_inv {v : Value} {z : DataW Unit × List MemPlace} (h : plainElem Try.prog 3 v = some z) : ∃ x : Int, v = .int .i64 x ∧ z = (.lit (.int .i64 x), []) := by
  unfold plainElem at h
  rw [Try.underlying3] at h
  cases v <;> simp at h
  rename_i k x
  obtain ⟨⟨rfl, _⟩, h⟩ := h
  exact ⟨x, rfl, h.symm⟩
def updS (f : List UInt8 → Int) (k : List UInt8) (v : Int) : List UInt8 → Int := fun j => if j = k then v else f j
section
variable {w w' : World} {b n : Nat} {f : List UInt8 → Int} {S : Nat → Prop}
theorem SMap.lt (h : SMap w b n f) : b < w.heap.size := by obtain ⟨D, h1, _⟩ := h.own; exact h1.lt
theorem SMap.only (h : SMap w b n f) (o : Only S w w') (hn : ¬ S b) : SMap w' b n f := by
  obtain ⟨D, h1, h2⟩ := h.own
  exact ⟨D, owns_same h1 (o.block b h1.lt hn), h2⟩
theorem SMap.made (w : World) : SMap (w.alloc (.map #[] 0)) w.heap.size 0 (fun _ => 0) := ⟨_, World.ownsMap_made w Try.prog 9 _, fun k => rfl⟩
theorem SMap.look (h : SMap w b n f) {k : ByteArray} (hk : k.size ≤ 140737488355328) : (Instr.lookup 53 (.map (some b)) (.string k) false).run Try.prog w = .ok (.int .i64 (f k.data.toList)) w := by
  obtain ⟨D, h1, h2⟩ := h.own
  obtain ⟨v, ps, h3, h4⟩ := h1.lookup keyed9 under53 (zero3 w) (plainElem_int Try.underlying3 (by decide)) (key_str hk)
  rw [h3]
  rw [h2] at h4
  obtain ⟨x, rfl, h5⟩ := plainElem_int_inv h4
  simp only [Prod.mk.injEq] at h5
  have := h5.1
  injection this with this
  injection this with _ this
  rw [this]
theorem SMap.put {D : DataW Unit} (h2 : ∀ k, D.atKey (.string k) (.lit (.int .i64 0)) = .lit (.int .i64 (f k))) {k : List UInt8} {v : Int} {m : Nat} (ht : IsMap D) (h3 : w'.ownsMap Try.prog 9 (plainElem Try.prog 3) b m (D.put (.string k) (.lit (.int .i64 v)))) : SMap w' b m (updS f k v) := by
  refine ⟨_, h3, fun j => ?_⟩
  unfold updS
  by_cases e : j = k
  · subst e
    rw [atKey_put_same ht (by trivial), if_pos rfl]
  · rw [atKey_put_other (fun e' => e (by injection e')), if_neg e, h2 j]
theorem SMap.del {D : DataW Unit} (h2 : ∀ k, D.atKey (.string k) (.lit (.int .i64 0)) = .lit (.int .i64 (f k))) {k : List UInt8} {m : Nat} (h3 : w'.ownsMap Try.prog 9 (plainElem Try.prog 3) b m (D.del (.string k))) : SMap w' b m (updS f k 0) := by
  refine ⟨_, h3, fun j => ?_⟩
  unfold updS
  by_cases e : j = k
  · subst e
    rw [atKey_del_same, if_pos rfl]
  · rw [atKey_del_other (fun e' => e (by injection e')), if_neg e, h2 j]
end
/-! ### the law's state -/
structure KSt (w wr : World) (av : Value) (S nS B M N j : Nat) (hd : Int) (c : Tb) : Prop where
  only : Only None' w wr
  row : Vec wr 4 av c.ls.length (c.ls.flatMap Ls.row)
  c_ : TabAt wr B M N c
  s_ : ∃ f, SMap wr S nS f ∧ ∀ k, 0 < f k → k ∈ c.shut
  new : w.heap.size ≤ B ∧ w.heap.size ≤ M ∧ w.heap.size ≤ N ∧ w.heap.size ≤ S
  apart : S ≠ B ∧ S ≠ M ∧ S ≠ N
  av_ : ∀ q, av.ownBlock = some q → w.heap.size ≤ q ∧ q ≠ B ∧ q ≠ M ∧ q ≠ N ∧ q ≠ S
  few : nS ≤ j
  hold : c.hold = hd
  cnt : c.cnt ≤ j
section
variable {w wr w1 w2 w3 : World} {av av' : Value} {S nS n' B M N j : Nat} {hd : Int} {c c' : Tb}
theorem KSt.lt (h : KSt w wr av S nS B M N j hd c) : B < wr.heap.size ∧ M < wr.heap.size ∧ N < wr.heap.size ∧ S < wr.heap.size := by
  obtain ⟨f, h1, _⟩ := h.s_
  exact ⟨h.c_.cells.lt, h.c_.lt.1, h.c_.lt.2, h1.lt⟩
theorem KSt.new_ (h : KSt w wr av S nS B M N j hd c) (o : Only None' wr w1) : KSt w w1 av S nS B M N j hd c := by
  obtain ⟨f, h1, h2⟩ := h.s_
  exact ⟨h.only.trans o, h.row.only o fun _ _ e => e, h.c_.new o, ⟨f, h1.only o fun e => e, h2⟩, h.new, h.apart, h.av_, h.few, h.hold, h.cnt⟩
theorem KSt.later {j' : Nat} (h : KSt w wr av S nS B M N j hd c) (hj : j ≤ j') : KSt w wr av S nS B M N j' hd c :=
  ⟨h.only, h.row, h.c_, h.s_, h.new, h.apart, h.av_, Nat.le_trans h.few hj, h.hold, Nat.le_trans h.cnt hj⟩
theorem KSt.long (h : KSt w wr av S nS B M N j hd c) : c.ls.length ≤ 1048575 := Nat.le_trans h.c_.ok.few h.c_.ok.g
/-- leases came or went, and the row with them -/
theorem KSt.turned (h : KSt w wr av S nS B M N j hd c) (h1 : TabAt w1 B M N c') (o1 : Only (fun k => k = B ∨ k = M) wr w1) (e1 : c'.shut = c.shut) (e2 : c'.hold = c.hold) (e3 : c'.cnt = c.cnt)
    (hv : Vec w3 4 av' c'.ls.length (c'.ls.flatMap Ls.row)) (hf : ∀ q, av'.ownBlock = some q → w1.heap.size ≤ q) (o3 : Only None' w1 w3) : KSt w w3 av' S nS B M N j hd c' := by
  obtain ⟨f, hs, h2⟩ := h.s_
  obtain ⟨a1, a2, a3⟩ := h.apart
  have hn := h.new
  have hl := h.lt
  have hsz := o1.size
  have hsz0 := h.only.size
  refine ⟨(h.only.trans2 o1 fun q hq e => by omega).trans o3, hv, h1.new o3, ⟨f, (hs.only o1 (by omega)).only o3 fun e => e, by rw [e1]; exact h2⟩, hn, h.apart, fun q hq => ?_, h.few, by rw [e2]; exact h.hold, by rw [e3]; exact h.cnt⟩
  have := hf q hq
  omega
/-- the table alone was written, to no end -/
theorem KSt.same (h : KSt w wr av S nS B M N j hd c) (h1 : TabAt w1 B M N c) (o1 : Only (fun k => k = B ∨ k = M) wr w1) : KSt w w1 av S nS B M N j hd c := by
  obtain ⟨f, hs, h2⟩ := h.s_
  obtain ⟨a1, a2, a3⟩ := h.apart
  have hn := h.new
  exact ⟨h.only.trans2 o1 fun q hq e => by omega, h.row.only o1 fun q hq e => by have := h.av_ q hq; omega, h1, ⟨f, hs.only o1 (by omega), h2⟩, hn, h.apart, h.av_, h.few, h.hold, h.cnt⟩
/-- a key was shut or opened -/
theorem KSt.shuts {g : List UInt8 → Int} (h : KSt w wr av S nS B M N j hd c) (h1 : TabAt w1 B M N c') (o1 : Only (fun k => k = N) wr w1) (e1 : c'.ls = c.ls) (e2 : c'.hold = c.hold) (e3 : c'.cnt ≤ j + 1)
    (hs : SMap w3 S n' g) (hn' : n' ≤ j + 1) (hg : ∀ k, 0 < g k → k ∈ c'.shut) (o3 : Only (fun k => k = S) w1 w3) : KSt w w3 av S n' B M N (j + 1) hd c' := by
  obtain ⟨a1, a2, a3⟩ := h.apart
  have hn := h.new
  have hl := h.lt
  have hsz := o1.size
  have hsz0 := h.only.size
  refine ⟨(h.only.trans2 o1 fun q hq e => by omega).trans2 o3 fun q hq e => by omega, ?_, h1.only o3 (by omega) (by omega) (by omega), ⟨g, hs, hg⟩, hn, h.apart, h.av_, hn', by rw [e2]; exact h.hold, e3⟩
  rw [e1]
  exact (h.row.only o1 fun q hq e => by have := h.av_ q hq; omega).only o3 fun q hq e => by have := h.av_ q hq; omega
/-- all are cleared -/
theorem KSt.cleared {M' N' : Nat} (h : KSt w wr av S nS B M N j hd c) (h1 : TabAt w1 B M' N' c.cleared) (hM : wr.heap.size ≤ M') (hN : wr.heap.size ≤ N') (o1 : Only (fun k => k = B) wr w1) : KSt w (w1.alloc (.map #[] 0)) (.slice none 0 0) w1.heap.size 0 B M' N' j hd c.cleared := by
  have hn := h.new
  have hl := h.lt
  have hsz := o1.size
  have hsz0 := h.only.size
  have hM' := h1.lt.1
  have hN' := h1.lt.2
  have hB' := h1.cells.lt
  refine ⟨(h.only.trans2 o1 fun q hq e => by omega).alloc _, Vec.nil _ _, h1.new ((Only.refl _ _).alloc _), ⟨_, SMap.made w1, fun k hk => absurd hk (by decide)⟩, ⟨hn.1, by omega, by omega, by omega⟩, ⟨by omega, by omega, by omega⟩, (fun q hq => by cases hq), Nat.zero_le _, h.hold, Nat.zero_le _⟩
end
/-- a row of leases that is being made -/
structure GL (w5 wy : World) (lv : Value) (l : List Ls) : Prop where
  only : Only None' w5 wy
  row : Vec wy 4 lv l.length (l.flatMap Ls.row)
  fresh : ∀ q, lv.ownBlock = some q → w5.heap.size ≤ q
theorem GL.start (w5 : World) : GL w5 w5 (.slice none 0 0) [] := ⟨Only.refl _ _, Vec.nil _ _, fun q hq => by cases hq⟩
theorem GL.drewN {w5 wy : World} {lv : Value} {l : List Ls} (h : GL w5 wy lv l) (q : Nat) : GL w5 (wy.drewN q) lv l := ⟨h.only.drewN q, h.row.drewN q, h.fresh⟩
theorem GL.push {w5 wy w6 : World} {lv v2 : Value} {l : List Ls} {x : Ls} {o : Obj} (h : GL w5 wy lv l) (hv : Vec w6 4 v2 (l.length + 1) (l.flatMap Ls.row ++ x.row)) (hg : (wy.alloc o).grownBy w6 lv.ownBlock) (hf : ∀ k, v2.ownBlock = some k → lv.ownBlock = some k ∨ (wy.alloc o).heap.size ≤ k) : GL w5 w6 v2 (l ++ [x]) := by
  have hs := h.only.size
  have hsz : (wy.alloc o).heap.size = wy.heap.size + 1 := by simp
  refine ⟨?_, ?_, fun q hq => ?_⟩
  · have o1 : Only (fun q => w5.heap.size ≤ q) (wy.alloc o) w6 := (Only.refl _ _).grown hg fun q hq => h.fresh q hq
    exact (h.only.alloc o).trans2 o1 fun q hq e => by omega
  · rw [List.length_append, List.flatMap_append, List.flatMap_singleton]
    exact hv
  · rcases hf q hq with h1 | h1
    · exact h.fresh q h1
    · omega
theorem take_next {l : List Ls} {P : Ls → Bool} {k : Nat} {x : Ls} (hx : l[k]? = some x) : (l.take (k + 1)).filter P = (l.take k).filter P ++ (if P x = true then [x] else []) := by
  rw [List.take_add_one, hx, List.filter_append]
  simp only [Option.toList_some, List.filter_cons, List.filter_nil]
theorem back_one {ls : List Ls} (G : Good ls) {x : Ls} (hx : x ∈ ls) : ls.filter (fun y => !hitB x.cache x.num y) = ls.filter (fun y => decide (y ≠ x)) := by
  refine List.filter_congr fun y hy => ?_
  rw [Bool.eq_iff_iff]
  unfold hitB
  simp only [Bool.not_eq_true', decide_eq_false_iff_not, decide_eq_true_eq]
  constructor
  · rintro h rfl; exact h ⟨rfl, rfl⟩
  · rintro h ⟨_, e⟩; exact h (G.one_num hy hx e)
theorem has_one {t : Tb} (G : Good t.ls) {x : Ls} (hx : x ∈ t.ls) (cl : Int) : t.has cl x.num = decide (cl = x.cache) := by
  rw [Bool.eq_iff_iff]
  unfold Tb.has hitB
  simp only [List.any_eq_true, decide_eq_true_eq]
  constructor
  · rintro ⟨y, hy, e1, e2⟩
    rw [← e1, G.one_num hy hx e2]
  · intro e
    exact ⟨x, hx, e.symm, rfl⟩
end Go.Proofs.Ytfjfpnlcmjpofaa
