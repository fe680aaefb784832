/- CallPlays: the walk. -/
import Derived.Test.YtehoiapadnbklaaDA
namespace Go.Proofs.Ytehoiapadnbklaa
open Go.RowKit Go.Maps
set_option linter.unusedVariables false

theorem vec_new (w : World) (vs : List Value) (t : TypeId) (n size : Nat) (h : vs.length = n * size) (hn : n ≤ maxLen) : Vec (w.alloc (.cells vs.toArray t)) size (.slice (some ⟨w.heap.size, 0, none⟩) n n) n vs := by
  have hc := cells_new w vs t
  refine ⟨h, .inr ⟨w.heap.size, 0, n, rfl, Nat.le_refl _, hn, hc.lt, fun j u hu => ?_, fun j hj => ?_⟩⟩
  · rw [Nat.zero_add]; exact hc.is j u hu
  · rw [Nat.zero_add]
    have hj' : j < vs.length := by rw [h]; exact hj
    exact ⟨by rw [hc.is j vs[j] (List.getElem?_eq_getElem hj')]; rfl, hc.thaw j⟩
theorem wrow_new (w : World) (x : Wt) (t : TypeId) : WRow (w.alloc (.cells x.row.toArray t)) (.slice (some ⟨w.heap.size, 0, none⟩) 1 1) [x] :=
  ⟨by
    have := vec_new w x.row t 1 7 (by rw [Wt.row_length]) (by decide)
    simpa using this⟩
section
variable {w wr w1 w2 w3 : World} {B M X T i j : Nat} {lv gv gv' v u : Value} {nums : List Int} {cc cd cc' cd' : Cl} {S : Nat → Prop} {cs : List Value} {l : List Wt}
theorem PT.later (h : PT w wr B M X lv gv nums i cc cd T cs) (hj : i ≤ j) : PT w wr B M X lv gv nums j cc cd T cs := ⟨h.h.later hj, h.tc, h.tn, h.tl, h.tg⟩
theorem PT.push {n : Int} {o : Obj} (h : PT w wr B M X lv gv nums i cc cd T cs) (hn : (Lit.int .i64 n).wf = true) (hv : Vec w1 1 gv' (nums.length + 1) (nums.map (Value.int .i64) ++ [.int .i64 n])) (hg : (wr.alloc o).grownBy w1 gv.ownBlock) (hf : ∀ q, gv'.ownBlock = some q → gv.ownBlock = some q ∨ (wr.alloc o).heap.size ≤ q) : PT w w1 B M X lv gv' (nums ++ [n]) (i + 1) cc cd T cs := by
  have og : Only (fun g => gv.ownBlock = some g) (wr.alloc o) w1 := (Only.refl _ _).grown hg fun g hg => hg
  have hsz : (wr.alloc o).heap.size = wr.heap.size + 1 := by simp
  refine ⟨h.h.push hn hv hg hf, (h.tc.kept ((Only.refl None' wr).alloc o) fun e => e).kept og fun e => h.tg e, h.tn, h.tl, fun e => ?_⟩
  rcases hf T e with e | e
  · exact h.tg e
  · have := h.tc.lt; omega
end
section
variable {w wr w1 w2 w3 : World} {B M X T i j : Nat} {lv gv gv' v u : Value} {nums : List Int} {cc cd cc' cd' c : Cl} {S : Nat → Prop} {cs : List Value} {l : List Wt} {now every : Int}
theorem fil64 {c : Cl} (h : c.Ok) (q : Wt → Bool) : (c.ws.filter q).length ≤ 64 := Nat.le_trans (List.length_filter_le _ _) h.few
theorem PT.dueC (h : PT w wr B M X lv gv nums i cc cd T cs) (now every : Int) : Calls Try.prog 20 #[.pointer (some ⟨B, 0, none⟩), .int .i64 now, .int .i64 every] wr fun e w' => ∃ v, e = .returned v ∧ PV w w' B M X lv gv nums i (cc.due now every) cd T cs v ((cc.ws.filter fun x => agoB x.last now every).map (Wt.at_ now)) :=
  (dues_any h.h.c_ now every).mono fun _ _ ⟨v, e, h1, h2, h3, o⟩ => ⟨v, e, h.row h3 o h1 h2⟩
theorem PT.oldC (h : PT w wr B M X lv gv nums i cc cd T cs) (now every : Int) : Calls Try.prog 22 #[.pointer (some ⟨B, 0, none⟩), .int .i64 now, .int .i64 every] wr fun e w' => ∃ v, e = .returned v ∧ PV w w' B M X lv gv nums i (cc.old now every) cd T cs v (cc.ws.filter fun x => agoB x.first now every) :=
  (olds_any h.h.c_ now every).mono fun _ _ ⟨v, e, h1, h2, h3, o⟩ => ⟨v, e, h.row h3 o h1 h2⟩
theorem PT.allC (h : PT w wr B M X lv gv nums i cc cd T cs) : Calls Try.prog 24 #[.pointer (some ⟨B, 0, none⟩)] wr fun e w' => ∃ v, e = .returned v ∧ PV w w' B M X lv gv nums i cc cd T cs v cc.ws :=
  (alls_any h.h.c_).mono fun _ _ ⟨v, e, h1, h2, o⟩ => ⟨v, e, h.row (h.h.c_.new o) (o.mono fun _ _ e => e.elim) h1 h2⟩
theorem PV.dueD (h : PV w wr B M X lv gv nums i cc cd T cs v ((cd.ws.filter fun x => agoB x.last now every).map (Wt.at_ now))) : Calls Try.prog 21 #[.pointer (some ⟨X, 0, none⟩), .int .i64 now, .int .i64 every] wr fun e w' => ∃ u, e = .returned u ∧ ∃ lv', PVU w w' B M X lv' gv nums i cc (cd.due now every) T cs v u ((cd.ws.filter fun x => agoB x.last now every).map (Wt.at_ now)) :=
  (ddue_any h.t.h.d_ now every).mono fun _ _ ⟨u, e, h1, h2⟩ => ⟨u, e, h.drow h2 h1⟩
theorem PV.oldD (h : PV w wr B M X lv gv nums i cc cd T cs v (cd.ws.filter fun x => agoB x.first now every)) : Calls Try.prog 23 #[.pointer (some ⟨X, 0, none⟩), .int .i64 now, .int .i64 every] wr fun e w' => ∃ u, e = .returned u ∧ ∃ lv', PVU w w' B M X lv' gv nums i cc (cd.old now every) T cs v u (cd.ws.filter fun x => agoB x.first now every) :=
  (dold_any h.t.h.d_ now every).mono fun _ _ ⟨u, e, h1, h2⟩ => ⟨u, e, h.drow h2 h1⟩
theorem PV.drew (h : PV w wr B M X lv gv nums i cc cd T cs v l) : PV w wr.drew B M X lv gv nums i cc cd T cs v l := ⟨h.t.drew, h.row.only (Only.refl None' wr).drew fun _ _ e => e, h.va⟩
theorem PVU.drew (h : PVU w wr B M X lv gv nums i cc cd T cs v u l) : PVU w wr.drew B M X lv gv nums i cc cd T cs v u l := ⟨h.v_.drew, h.row.only (Only.refl None' wr).drew fun _ _ e => e⟩
theorem PV.twiceD (h : PV w wr B M X lv gv nums i c c T cs v c.ws) : Calls Try.prog 19 #[v, lv] wr fun e w' => e = .returned (.bool true) ∧ PT w w' B M X lv gv nums i c c T cs :=
  PVU.twice ⟨h, h.t.h.d_.row⟩ h.t.h.d_.ok.few
theorem PV.sameD (h : PV w wr B M X lv gv nums i c c T cs v c.ws) : Calls Try.prog 16 #[v, lv] wr fun e w' => e = .returned (.bool true) ∧ PT w w' B M X lv gv nums i c c T cs :=
  (same_any h.row h.t.h.d_.row (by have := h.t.h.d_.ok.few; omega)).mono fun _ _ ⟨e, o⟩ => ⟨e, h.t.new_ o⟩
end
/-- ... and a variable Z -/
structure PZ (w wr : World) (B M X : Nat) (lv gv : Value) (nums : List Int) (i : Nat) (cc cd : Cl) (T : Nat) (cs : List Value) (Z : Nat) (zs : List Value) : Prop where
  t : PT w wr B M X lv gv nums i cc cd T cs
  zc : CellsR wr Z zs
  zn : w.heap.size ≤ Z ∧ Z ≠ B ∧ Z ≠ M ∧ Z ≠ X ∧ Z ≠ T
  zl : lv.ownBlock ≠ some Z
  zg : gv.ownBlock ≠ some Z
structure PZV (w wr : World) (B M X : Nat) (lv gv : Value) (nums : List Int) (i : Nat) (cc cd : Cl) (T : Nat) (cs : List Value) (Z : Nat) (zs : List Value) (V : Nat) (vs : List Value) : Prop where
  z : PZ w wr B M X lv gv nums i cc cd T cs Z zs
  v : PZ w wr B M X lv gv nums i cc cd T cs V vs
  ne : Z ≠ V
section
variable {w wr w1 w2 w3 : World} {B M X T i j Z V : Nat} {lv gv gv' v u : Value} {nums : List Int} {cc cd cc' cd' c : Cl} {S : Nat → Prop} {cs zs vs : List Value} {l : List Wt}
theorem PT.var (h : PT w wr B M X lv gv nums i cc cd T cs) (zs : List Value) (t : TypeId) : PZ w (wr.alloc (.cells zs.toArray t)) B M X lv gv nums i cc cd T cs wr.heap.size zs := by
  have hB := h.h.c_.cells.lt
  have hM := h.h.c_.lt
  have hX := h.h.d_.cells.lt
  have hT := h.tc.lt
  have hw := h.h.only.size
  refine ⟨h.new_ ((Only.refl _ _).alloc _), cells_new wr zs t, by omega, fun e => ?_, fun e => ?_⟩
  · have := h.h.d_.own _ e; omega
  · have := h.h.gv_.lt e; omega
theorem PZ.new_ (h : PZ w wr B M X lv gv nums i cc cd T cs Z zs) (o : Only None' wr w1) : PZ w w1 B M X lv gv nums i cc cd T cs Z zs := ⟨h.t.new_ o, h.zc.kept o fun e => e, h.zn, h.zl, h.zg⟩
theorem PZV.new_ (h : PZV w wr B M X lv gv nums i cc cd T cs Z zs V vs) (o : Only None' wr w1) : PZV w w1 B M X lv gv nums i cc cd T cs Z zs V vs := ⟨h.z.new_ o, h.v.new_ o, h.ne⟩
theorem PZ.doc (h : PZ w wr B M X lv gv nums i cc cd T cs Z zs) (hd : DocTo wr w1 X lv cd') : ∃ lv', PZ w w1 B M X lv' gv nums i cc cd' T cs Z zs := by
  obtain ⟨lv', h1, o, hf⟩ := h.t.doc hd
  refine ⟨lv', h1, h.zc.kept o ?_, h.zn, fun e => ?_, h.zg⟩
  · rintro (e | e)
    · exact h.zn.2.2.2.1 e
    · exact h.zl e
  · rcases hf Z e with e | e
    · exact h.zl e
    · have := h.zc.lt; omega
theorem PZ.tellD (h : PZ w wr B M X lv gv nums i cc cd T cs Z zs) (n : Int) : Calls Try.prog 13 #[.pointer (some ⟨X, 0, none⟩), .int .i64 n] wr fun e w' => e = .returned (.tuple #[((cd.find n).getD Wt.zero).v, .bool (cd.find n).isSome]) ∧ ∃ lv', PZ w w' B M X lv' gv nums i cc (cd.told n) T cs Z zs :=
  (dtell_any h.t.h.d_ n).mono fun _ _ ⟨e, h1⟩ => ⟨e, h.doc h1⟩
theorem PZ.var (h : PZ w wr B M X lv gv nums i cc cd T cs Z zs) (vs : List Value) (t : TypeId) : PZV w (wr.alloc (.cells vs.toArray t)) B M X lv gv nums i cc cd T cs Z zs wr.heap.size vs :=
  ⟨h.new_ ((Only.refl _ _).alloc _), h.t.var vs t, by have := h.zc.lt; omega⟩
theorem PT.at_ (h : PT w wr B M X lv gv nums i cc cd T cs) (o : Only (fun k => k = Z) wr w1) (zn : w.heap.size ≤ Z ∧ Z ≠ B ∧ Z ≠ M ∧ Z ≠ X ∧ Z ≠ T) (zl : lv.ownBlock ≠ some Z) (zg : gv.ownBlock ≠ some Z) : PT w w1 B M X lv gv nums i cc cd T cs := by
  obtain ⟨z1, z2, z3, z4, z5⟩ := zn
  exact ⟨h.h.keep o (fun k e => by omega) (by omega) (by omega) (by omega) (fun g hg e => zl (by rw [← e]; exact hg)) (fun g hg e => zg (by rw [← e]; exact hg)), h.tc.kept o (by omega), h.tn, h.tl, h.tg⟩
theorem cells7 {w : World} {T : Nat} {x1 x2 x3 x4 x5 x6 x7 : Value} (h : CellsR w T [x1, x2, x3, x4, x5, x6, x7]) (a b c d e f g : Value) : CellsR (((((((w.setCell ⟨T, 0, none⟩ a).setCell ⟨T, 1, none⟩ b).setCell ⟨T, 2, none⟩ c).setCell ⟨T, 3, none⟩ d).setCell ⟨T, 4, none⟩ e).setCell ⟨T, 5, none⟩ f).setCell ⟨T, 6, none⟩ g) T [a, b, c, d, e, f, g] :=
  ((((((h.set (i := 0) (by simp) a).set (i := 1) (by simp) b).set (i := 2) (by simp) c).set (i := 3) (by simp) d).set (i := 4) (by simp) e).set (i := 5) (by simp) f).set (i := 6) (by simp) g
theorem PZV.stz {x1 x2 x3 x4 x5 x6 x7 : Value} (h : PZV w wr B M X lv gv nums i cc cd T cs Z [x1, x2, x3, x4, x5, x6, x7] V vs) (a b c d e f g : Value) : PZV w (((((((wr.setCell ⟨Z, 0, none⟩ a).setCell ⟨Z, 1, none⟩ b).setCell ⟨Z, 2, none⟩ c).setCell ⟨Z, 3, none⟩ d).setCell ⟨Z, 4, none⟩ e).setCell ⟨Z, 5, none⟩ f).setCell ⟨Z, 6, none⟩ g) B M X lv gv nums i cc cd T cs Z [a, b, c, d, e, f, g] V vs :=
  have o := seven Z wr a b c d e f g
  have t := h.z.t.at_ o h.z.zn h.z.zl h.z.zg
  ⟨⟨t, cells7 h.z.zc a b c d e f g, h.z.zn, h.z.zl, h.z.zg⟩, ⟨t, h.v.zc.kept o fun e => h.ne e.symm, h.v.zn, h.v.zl, h.v.zg⟩, h.ne⟩
theorem PZV.stv {x1 x2 x3 x4 x5 x6 x7 : Value} (h : PZV w wr B M X lv gv nums i cc cd T cs Z zs V [x1, x2, x3, x4, x5, x6, x7]) (a b c d e f g : Value) : PZV w (((((((wr.setCell ⟨V, 0, none⟩ a).setCell ⟨V, 1, none⟩ b).setCell ⟨V, 2, none⟩ c).setCell ⟨V, 3, none⟩ d).setCell ⟨V, 4, none⟩ e).setCell ⟨V, 5, none⟩ f).setCell ⟨V, 6, none⟩ g) B M X lv gv nums i cc cd T cs Z zs V [a, b, c, d, e, f, g] :=
  have o := seven V wr a b c d e f g
  have t := h.v.t.at_ o h.v.zn h.v.zl h.v.zg
  ⟨⟨t, h.z.zc.kept o fun e => h.ne e, h.z.zn, h.z.zl, h.z.zg⟩, ⟨t, cells7 h.v.zc a b c d e f g, h.v.zn, h.v.zl, h.v.zg⟩, h.ne⟩
theorem same_two (W : World) (x1 : Int) (x2 : ByteArray) (x3 x4 x5 x6 : Int) (x7 : Bool) : Calls Try.prog 16 #[.slice (some ⟨W.heap.size, 0, none⟩) 1 1, .slice (some ⟨W.heap.size + 1, 0, none⟩) 1 1] ((W.alloc (.cells #[.int .i64 x1, .string x2, .int .i64 x3, .int .i64 x4, .int .i64 x5, .int .i64 x6, .bool x7] 36)).alloc (.cells #[.int .i64 x1, .string x2, .int .i64 x3, .int .i64 x4, .int .i64 x5, .int .i64 x6, .bool x7] 43)) fun e w' => e = .returned (.bool true) ∧ Only None' W w' := by
  have h1 := (wrow_new W ⟨x1, x2, x3, x4, x5, x6, x7⟩ 36).only ((Only.refl None' _).alloc (.cells #[.int .i64 x1, .string x2, .int .i64 x3, .int .i64 x4, .int .i64 x5, .int .i64 x6, .bool x7] 43)) fun _ _ e => e
  have h2 := wrow_new (W.alloc (.cells #[.int .i64 x1, .string x2, .int .i64 x3, .int .i64 x4, .int .i64 x5, .int .i64 x6, .bool x7] 36)) ⟨x1, x2, x3, x4, x5, x6, x7⟩ 43
  have hs : (W.alloc (.cells #[.int .i64 x1, .string x2, .int .i64 x3, .int .i64 x4, .int .i64 x5, .int .i64 x6, .bool x7] 36)).heap.size = W.heap.size + 1 := by simp
  rw [hs] at h2
  exact (same_any h1 h2 (by simp)).mono fun _ _ ⟨e, o⟩ => ⟨e, (((Only.refl None' W).alloc _).alloc _).trans o⟩
theorem look_told {c : Cl} (n : Int) : ((c.told n).find n) = none := by rw [Cl.find_told, if_pos rfl]
end
set_option maxRecDepth 20000 in
set_option maxHeartbeats 8000000 in
theorem plays_main (lf : Nat) (l1 : 1 ≤ lf) (l2 : lf ≤ 2047) (a : Option Addr) (n c : Nat) (ss : List Stp) (w : World) (rd : Steps w a n ss) (wn : ∀ s ∈ ss, (Lit.int .i64 s.n).wf = true) : Calls Try.prog 4 #[.int .i64 (lf : Int), .slice a n c] w fun e w' => e = .returned (.bool true) ∧ Below w.heap.size w w' := by
  have RD := Lib.hid rd
  have WN := Lib.hid wn
  have LF := Lib.hid (And.intro l1 l2)
  clear rd wn l1 l2
  go_enter Try.func4, Try.ntmps4
  go_wp2_with fail
  refine (new_any lf LF.out.1 LF.out.2 w).mono ?_
  rintro e w1 ⟨B, M, rfl, h1, hB, hM, o1⟩
  have H1 := Lib.hid (And.intro h1 (And.intro hB (And.intro hM o1)))
  clear h1 hB hM o1
  go_wp2_with fail
  refine (dnew_any lf LF.out.1 LF.out.2 w1).mono ?_
  rintro e w2 ⟨rfl, d, o2⟩
  obtain ⟨X, hX⟩ : ∃ X, X = w1.heap.size := ⟨_, rfl⟩
  rw [← hX] at d ⊢
  have L0 := Lib.hid (PH.start H1.out.2.2.2 H1.out.1 H1.out.2.1 H1.out.2.2.1 d hX o2)
  clear d o2 H1 hX
  go_wp2_with fail
  go_loopw [9, 10] (fun p i wr => ∃ (j : Nat) (c : Cl) (lv : Value) (nums : List Int) (ga : Option Addr) (gc : Nat), j ≤ n ∧ j ≤ 120 ∧ p = .slice ga nums.length gc ∧ i = .int .i64 (j : Int) ∧ Hid (PH w wr B M X lv (.slice ga nums.length gc) nums j c c)) (fun p i wr => n - (intOf i).toNat)
  case atStart => exact ⟨0, _, _, [], none, 0, by omega, by omega, rfl, rfl, L0⟩
  case round =>
    clear L0
    obtain ⟨j, c, lv, nums, ga, gc, hj, hj2, rfl, rfl, HI⟩ := hrel
    rename World => wx
    by_cases hlt : j < n ∧ j < 120
    · have hjs : j < ss.length := by have := RD.out.len; omega
      obtain ⟨b, off, rfl, hb, hA⟩ := RD.out.at_ j hjs
      obtain ⟨s, hs⟩ : ∃ s, s = ss[j] := ⟨_, rfl⟩
      have hwn := WN.out s (by rw [hs]; exact List.getElem_mem hjs)
      rw [← hs] at hA
      clear hs
      obtain ⟨kd, key, cl, id, now, nn, raw⟩ := s
      simp only at hwn
      have HWN := Lib.hid hwn
      have hA2 := hA.only hb HI.out.only fun e => e
      have k0 := hA2.k0
      have k1 := hA2.k1
      have k2 := hA2.k2
      have k3 := hA2.k3
      have k4 := hA2.k4
      have k5 := hA2.k5
      have k6 := hA2.k6
      simp only at k0 k1 k2 k3 k4 k5 k6
      have i0 : (0 : Int) ≤ (j : Int) := by omega
      have i1 : (j : Int) < (n : Int) := by omega
      have i2 : (j : Int) < 120 := by omega
      have d1 : decide ((j : Int) < (n : Int)) = true := by rw [decide_eq_true_eq]; exact i1
      have HJ := Lib.hid hlt
      obtain ⟨T, hT⟩ : ∃ T, T = wx.heap.size := ⟨_, rfl⟩
      obtain ⟨wb, hwb⟩ : ∃ wb, wb = wx.alloc (.cells #[.int .u8 (kd : Int), .string key, .int .i64 cl, .int .i64 id, .int .i64 now, .int .i64 nn, .bool raw] 32) := ⟨_, rfl⟩
      have HA : Hid (PT w wb B M X lv (.slice ga nums.length gc) nums j c c T [.int .u8 (kd : Int), .string key, .int .i64 cl, .int .i64 id, .int .i64 now, .int .i64 nn, .bool raw]) := Lib.hid (by rw [hwb, hT]; exact HI.out.round [.int .u8 (kd : Int), .string key, .int .i64 cl, .int .i64 id, .int .i64 now, .int .i64 nn, .bool raw] 32)
      obtain ⟨q, hq⟩ : ∃ q, q = nums.length := ⟨_, rfl⟩
      have HQ := Lib.hid hq
      rw [← hq] at HA ⊢
      clear hq
      go_upto_region 10 with fail
      rw [← hT, ← hwb]
      clear k0 k1 k2 k3 k4 k5 k6 hb hA hA2 hjs hlt hj hj2 hwn hT hwb d1
      have t0 := HA.out.tc.is 0 _ rfl
      have t1 := HA.out.tc.is 1 _ rfl
      have t2 := HA.out.tc.is 2 _ rfl
      have t3 := HA.out.tc.is 3 _ rfl
      have t4 := HA.out.tc.is 4 _ rfl
      have t5 := HA.out.tc.is 5 _ rfl
      have t6 := HA.out.tc.is 6 _ rfl
      go_upto_region 11 with fail
      go_cut [69] from 62 to 68 (fun z wy => ∃ tb : Bool, z = .bool tb ∧ wy = wb ∧ Hid (tb = (!raw && decide (0 < q))))
      case first =>
        have e3 : decide ((0 : Int) < (q : Int)) = decide (0 < q) := by simp
        obtain ⟨qb, hqb⟩ : ∃ qb, qb = decide (0 < q) := ⟨_, rfl⟩
        rw [← hqb] at e3
        have HQB := Lib.hid hqb
        clear hqb
        cases raw <;> cases qb
        all_goals (
          go_wp2_with fail
          go_meet
          exact ⟨_, rfl, rfl, Lib.hid (by rw [← HQB.out]; rfl)⟩)
      case rest =>
      obtain ⟨tb, rfl, rfl, HTB⟩ := hcut
      go_upto_if 69 with fail
      go_cut [12] from 70 to 80 (fun z wy => ∃ m : Int, z = .int .i64 m ∧ wy = wc ∧ Hid ((Lit.int .i64 m).wf = true))
      case first =>
        cases tb with
        | false =>
          go_wp2_with fail
          go_meet
          exact ⟨nn, rfl, rfl, HWN⟩
        | true =>
          have hq0 : 0 < q := by
            have := HTB.out
            simp at this
            exact this.2
          have hq120 : q ≤ 120 := by have h1 := HA.out.h.few; have h2 := HJ.out; have h3 := HQ.out; omega
          obtain ⟨jx, hjx, hjq⟩ := modk nn q (by omega) (by omega)
          have q0 : (0 : Int) ≤ (q : Int) := by omega
          have q1 : (q : Int) ≤ 150 := by omega
          have q2 : ¬ (q : Int) = 0 := by omega
          have hv := HA.out.h.gv_
          rw [← HQ.out] at hv
          obtain ⟨gm, om, rfl, _, hcell, _⟩ := hv.form' (by omega)
          obtain ⟨m, hm'⟩ : ∃ m, nums[jx]? = some m := ⟨_, List.getElem?_eq_getElem (by have := HQ.out; omega)⟩
          have cm := hcell jx (.int .i64 m) (by rw [List.getElem?_map, hm']; rfl)
          have HWF := Lib.hid (HA.out.h.wf m (List.mem_of_getElem? hm'))
          have j0 : (0 : Int) ≤ (jx : Int) := by omega
          have j1 : (jx : Int) < (q : Int) := by omega
          clear hv hcell hm' hjq hq120 hq0
          go_wp2_with fail
          go_meet
          exact ⟨m, rfl, rfl, HWF⟩
      case rest =>
      obtain ⟨m, rfl, rfl, HM⟩ := hcut
      have YA := Lib.hid HA
      go_upto_block 2 with fail
      go_cut [9, 13, 14, 15, 16, 17, 18, 19, 20, 21] from 83 to 203 (fun z9 z13 z14 z15 z16 z17 z18 z19 z20 z21 wy => z13 = .bool true ∧ ∃ (lv' : Value) (nums' : List Int) (c' : Cl) (ga' : Option Addr) (gc' : Nat), z9 = .slice ga' nums'.length gc' ∧ Hid (PT w wy B M X lv' (.slice ga' nums'.length gc') nums' (j + 1) c' c' T [.int .u8 (kd : Int), .string key, .int .i64 cl, .int .i64 id, .int .i64 now, .int .i64 nn, .bool raw]))
      case first =>
        have q0 : (0 : Int) ≤ (q : Int) := by omega
        by_cases h0 : kd = 0
        · have ea0 : ((kd : Int) == 0) = true := by simp; omega
          have eb0 : (kd == 0) = true := by simp; omega
          clear h0
          obtain ⟨N, hN⟩ : ∃ N : Nat, N = c.life * 1048576 + c.given + 1 := ⟨_, rfl⟩
          have HNN := Lib.hid hN
          by_cases hcode : c.askCode now = 0
          · have HK := Lib.hid (HA.out.askC key cl id now hcode)
            rw [← hN] at HK
            have HOK := Lib.hid (HA.out.h.c_.ok.asked (key := key) (client := cl) (id := id) hcode)
            have HCD := Lib.hid hcode
            have hb1 : (1 : Int) ≤ (N : Int) := by omega
            have hb2 : (N : Int) ≤ 2147483647 := by
              have h1 := HA.out.h.c_.ok.l2
              have h2 := HOK.out.g
              simp only [Cl.asked] at h2
              omega
            have HWF := Lib.hid (wf64 (a := (N : Int)) (by omega) (by omega))
            clear hcode hN
            go_wp2_with fail
            refine HK.out.mono ?_
            rintro e w5 ⟨rfl, h5⟩
            have HC2 := Lib.hid h5
            clear h5 t0 t1 t2 t3 t4 t5 t6
            have y1 := HC2.out.tc.is 1 _ rfl
            have y2 := HC2.out.tc.is 2 _ rfl
            have y3 := HC2.out.tc.is 3 _ rfl
            have y4 := HC2.out.tc.is 4 _ rfl
            have HK2 := Lib.hid (HC2.out.askD key cl id now HCD.out)
            rw [← HNN.out] at HK2
            go_wp2_with fail
            refine HK2.out.mono ?_
            rintro e w6 ⟨rfl, lv6, h6⟩
            have HD2 := Lib.hid h6
            clear h6 y1 y2 y3 y4 HK HK2
            have HGV := Lib.hid HD2.out.h.gv_
            rw [← HQ.out] at HGV
            have HQ1 := Lib.hid (show q ≤ 120 by have h1 := HA.out.h.few; have h2 := HJ.out; have h3 := HQ.out; omega)
            go_wp2_with (first | (at_builtin; refine wpList_append_any rfl _ _ 25 rfl 3 Try.t3 (.int .i64 0) 1 8 Try.underlying25 info3 t3_zero t3_size t3_bytes rfl (by decide) (.slice ga q gc) q (nums.map (Value.int .i64)) rfl (HGV.out.alloc _) (.slice (some ⟨w6.heap.size, 0, none⟩) 1 1) 1 [.int .i64 (N : Int)] rfl (rd_one' w6 _ 3) (one_int _) (by have h1 := HQ1.out; unfold maxLen; omega) (by have h1 := HQ1.out; omega) ?_; intro v2 w7 hv2 hg2 hf2; obtain ⟨oa, oc, rfl, _, _⟩ := hv2.shape; have HY := Lib.hid (And.intro hv2 (And.intro hg2 hf2)); clear hv2 hg2 hf2))
            go_meet
            refine ⟨rfl, lv6, nums ++ [(N : Int)], c.asked key cl id now, oa, oc, by rw [List.length_append, HQ.out]; rfl, Lib.hid ?_⟩
            have hy := HY.out
            rw [HQ.out] at hy
            rw [List.length_append]
            have hD := HD2.out
            rw [HQ.out] at hD
            exact hD.push HWF.out hy.1 hy.2.1 hy.2.2
          · obtain ⟨code, hcd⟩ : ∃ code, c.askCode now = code := ⟨_, rfl⟩
            have hne : code ≠ 0 := by rw [← hcd]; exact hcode
            have HK := Lib.hid (HA.out.askCno key cl id now hcd hne)
            have HNE := Lib.hid (And.intro hcd hne)
            have e3 : (code == 0) = false := by simpa using hne
            clear hcode hN hcd hne
            go_wp2_with fail
            refine HK.out.mono ?_
            rintro e w5 ⟨rfl, h5⟩
            have HC2 := Lib.hid h5
            clear h5 t0 t1 t2 t3 t4 t5 t6
            have y1 := HC2.out.tc.is 1 _ rfl
            have y2 := HC2.out.tc.is 2 _ rfl
            have y3 := HC2.out.tc.is 3 _ rfl
            have y4 := HC2.out.tc.is 4 _ rfl
            have HK2 := Lib.hid (HC2.out.askDno key cl id now HNE.out.1 HNE.out.2)
            go_wp2_with fail
            refine HK2.out.mono ?_
            rintro e w6 ⟨rfl, e6⟩
            obtain rfl := e6
            go_wp2_with fail
            go_meet
            exact ⟨rfl, lv, nums, c, ga, gc, by rw [HQ.out], Lib.hid (by rw [← HQ.out]; exact HC2.out.later (Nat.le_succ j))⟩
        by_cases h1 : kd = 1
        · have ea0 : ((kd : Int) == 0) = false := by simp; omega
          have eb0 : (kd == 0) = false := by simp; omega
          have ea1 : ((kd : Int) == 1) = true := by simp; omega
          have eb1 : (kd == 1) = true := by simp; omega
          have ea2 : ((kd : Int) == 2) = false := by simp; omega
          have eb2 : (kd == 2) = false := by simp; omega
          clear h1
          obtain ⟨x, hx⟩ : ∃ x, x = (c.find m).getD Wt.zero := ⟨_, rfl⟩
          obtain ⟨bb, hbb⟩ : ∃ bb, bb = (c.find m).isSome := ⟨_, rfl⟩
          have HT := Lib.hid (HA.out.tellC HM.out)
          have HXB := Lib.hid (And.intro hx hbb)
          rw [← hx, ← hbb] at HT
          clear hx hbb
          obtain ⟨x1, x2, x3, x4, x5, x6, x7⟩ := x
          unfold Wt.v at HT
          simp only at HT
          go_wp2_with fail
          refine HT.out.mono ?_
          rintro e w5 ⟨rfl, h5⟩
          have HC2 := Lib.hid h5
          clear h5 t0 t1 t2 t3 t4 t5 t6 HT
          obtain ⟨Z, hZ⟩ : ∃ Z, Z = w5.heap.size := ⟨_, rfl⟩
          go_upto_region 25 with fail
          obtain ⟨w6, hw6⟩ : ∃ w6, w6 = w5.alloc (.cells #[.int .i64 x1, .string x2, .int .i64 x3, .int .i64 x4, .int .i64 x5, .int .i64 x6, .bool x7] 36) := ⟨_, rfl⟩
          have HC3 : Hid (PZ w w6 B M X lv (.slice ga q gc) nums j (c.told m) c T [.int .u8 (kd : Int), .string key, .int .i64 cl, .int .i64 id, .int .i64 now, .int .i64 nn, .bool raw] Z [.int .i64 x1, .string x2, .int .i64 x3, .int .i64 x4, .int .i64 x5, .int .i64 x6, .bool x7]) := Lib.hid (by rw [hw6, hZ]; exact HC2.out.var [.int .i64 x1, .string x2, .int .i64 x3, .int .i64 x4, .int .i64 x5, .int .i64 x6, .bool x7] 36)
          rw [← hw6, ← hZ]
          clear hw6 hZ
          have HTD := Lib.hid (HC3.out.tellD m)
          rw [← HXB.out.1, ← HXB.out.2] at HTD
          unfold Wt.v at HTD
          simp only at HTD
          go_wp2_with fail
          refine HTD.out.mono ?_
          rintro e w7 ⟨rfl, lv7, h7⟩
          have HD2 := Lib.hid h7
          clear h7 HTD
          obtain ⟨V, hV⟩ : ∃ V, V = w7.heap.size := ⟨_, rfl⟩
          go_upto_region 26 with fail
          obtain ⟨w8, hw8⟩ : ∃ w8, w8 = w7.alloc (.cells #[.int .i64 x1, .string x2, .int .i64 x3, .int .i64 x4, .int .i64 x5, .int .i64 x6, .bool x7] 43) := ⟨_, rfl⟩
          have HD3 : Hid (PZV w w8 B M X lv7 (.slice ga q gc) nums j (c.told m) (c.told m) T [.int .u8 (kd : Int), .string key, .int .i64 cl, .int .i64 id, .int .i64 now, .int .i64 nn, .bool raw] Z [.int .i64 x1, .string x2, .int .i64 x3, .int .i64 x4, .int .i64 x5, .int .i64 x6, .bool x7] V [.int .i64 x1, .string x2, .int .i64 x3, .int .i64 x4, .int .i64 x5, .int .i64 x6, .bool x7]) := Lib.hid (by rw [hw8, hV]; exact HD2.out.var [.int .i64 x1, .string x2, .int .i64 x3, .int .i64 x4, .int .i64 x5, .int .i64 x6, .bool x7] 43)
          rw [← hw8, ← hV]
          clear hw8 hV
          have t0 := HD3.out.z.t.tc.is 0 _ rfl
          have y0 := HD3.out.z.zc.is 0 _ rfl
          have y1 := HD3.out.z.zc.is 1 _ rfl
          have y2 := HD3.out.z.zc.is 2 _ rfl
          have y3 := HD3.out.z.zc.is 3 _ rfl
          have y4 := HD3.out.z.zc.is 4 _ rfl
          have y5 := HD3.out.z.zc.is 5 _ rfl
          have y6 := HD3.out.z.zc.is 6 _ rfl
          have z0 := HD3.out.v.zc.is 0 _ rfl
          have z1 := HD3.out.v.zc.is 1 _ rfl
          have z2 := HD3.out.v.zc.is 2 _ rfl
          have z3 := HD3.out.v.zc.is 3 _ rfl
          have z4 := HD3.out.v.zc.is 4 _ rfl
          have z5 := HD3.out.v.zc.is 5 _ rfl
          have z6 := HD3.out.v.zc.is 6 _ rfl
          have vl := HD3.out.v.zc.lt
          have vn := World.new_ne w8 ⟨V, 0, none⟩ z0
          have HSM := Lib.hid (same_two w8 x1 x2 x3 x4 x5 x6 x7)
          go_wp2_with fail
          refine HSM.out.mono ?_
          rintro e w9 ⟨rfl, o9⟩
          have HW := Lib.hid (HD3.out.z.t.new_ o9)
          clear o9
          go_wp2_with fail
          go_meet
          exact ⟨rfl, lv7, nums, c.told m, ga, gc, by rw [HQ.out], Lib.hid (by rw [← HQ.out]; exact HW.out.later (Nat.le_succ j))⟩
        by_cases h2 : kd = 2
        · have ea0 : ((kd : Int) == 0) = false := by simp; omega
          have eb0 : (kd == 0) = false := by simp; omega
          have ea1 : ((kd : Int) == 1) = false := by simp; omega
          have eb1 : (kd == 1) = false := by simp; omega
          have ea2 : ((kd : Int) == 2) = true := by simp; omega
          have eb2 : (kd == 2) = true := by simp; omega
          clear h2
          obtain ⟨x, hx⟩ : ∃ x, x = (c.find m).getD Wt.zero := ⟨_, rfl⟩
          obtain ⟨bb, hbb⟩ : ∃ bb, bb = (c.find m).isSome := ⟨_, rfl⟩
          have HT := Lib.hid (HA.out.tellC HM.out)
          have HXB := Lib.hid (And.intro hx hbb)
          rw [← hx, ← hbb] at HT
          clear hx hbb
          obtain ⟨x1, x2, x3, x4, x5, x6, x7⟩ := x
          unfold Wt.v at HT
          simp only at HT
          go_wp2_with fail
          refine HT.out.mono ?_
          rintro e w5 ⟨rfl, h5⟩
          have HC2 := Lib.hid h5
          clear h5 t0 t1 t2 t3 t4 t5 t6 HT
          obtain ⟨Z, hZ⟩ : ∃ Z, Z = w5.heap.size := ⟨_, rfl⟩
          go_upto_region 25 with fail
          obtain ⟨w6, hw6⟩ : ∃ w6, w6 = w5.alloc (.cells #[.int .i64 x1, .string x2, .int .i64 x3, .int .i64 x4, .int .i64 x5, .int .i64 x6, .bool x7] 36) := ⟨_, rfl⟩
          have HC3 : Hid (PZ w w6 B M X lv (.slice ga q gc) nums j (c.told m) c T [.int .u8 (kd : Int), .string key, .int .i64 cl, .int .i64 id, .int .i64 now, .int .i64 nn, .bool raw] Z [.int .i64 x1, .string x2, .int .i64 x3, .int .i64 x4, .int .i64 x5, .int .i64 x6, .bool x7]) := Lib.hid (by rw [hw6, hZ]; exact HC2.out.var [.int .i64 x1, .string x2, .int .i64 x3, .int .i64 x4, .int .i64 x5, .int .i64 x6, .bool x7] 36)
          rw [← hw6, ← hZ]
          clear hw6 hZ
          have HTD := Lib.hid (HC3.out.tellD m)
          rw [← HXB.out.1, ← HXB.out.2] at HTD
          unfold Wt.v at HTD
          simp only at HTD
          go_wp2_with fail
          refine HTD.out.mono ?_
          rintro e w7 ⟨rfl, lv7, h7⟩
          have HD2 := Lib.hid h7
          clear h7 HTD
          obtain ⟨V, hV⟩ : ∃ V, V = w7.heap.size := ⟨_, rfl⟩
          go_upto_region 26 with fail
          obtain ⟨w8, hw8⟩ : ∃ w8, w8 = w7.alloc (.cells #[.int .i64 x1, .string x2, .int .i64 x3, .int .i64 x4, .int .i64 x5, .int .i64 x6, .bool x7] 43) := ⟨_, rfl⟩
          have HD3 : Hid (PZV w w8 B M X lv7 (.slice ga q gc) nums j (c.told m) (c.told m) T [.int .u8 (kd : Int), .string key, .int .i64 cl, .int .i64 id, .int .i64 now, .int .i64 nn, .bool raw] Z [.int .i64 x1, .string x2, .int .i64 x3, .int .i64 x4, .int .i64 x5, .int .i64 x6, .bool x7] V [.int .i64 x1, .string x2, .int .i64 x3, .int .i64 x4, .int .i64 x5, .int .i64 x6, .bool x7]) := Lib.hid (by rw [hw8, hV]; exact HD2.out.var [.int .i64 x1, .string x2, .int .i64 x3, .int .i64 x4, .int .i64 x5, .int .i64 x6, .bool x7] 43)
          rw [← hw8, ← hV]
          clear hw8 hV
          have t0 := HD3.out.z.t.tc.is 0 _ rfl
          have HLC := Lib.hid (HD3.out.z.t.lookC HM.out)
          rw [look_told] at HLC
          change Hid (Calls Try.prog 14 #[.pointer (some ⟨B, 0, none⟩), .int .i64 m] w8 fun e w' => e = .returned (.tuple #[.agg #[.int .i64 0, .string ⟨#[]⟩, .int .i64 0, .int .i64 0, .int .i64 0, .int .i64 0, .bool false], .bool false]) ∧ Only None' w8 w') at HLC
          go_wp2_with fail
          refine HLC.out.mono ?_
          rintro e w9 ⟨rfl, o9⟩
          have HD4 := Lib.hid (HD3.out.new_ o9)
          clear o9 HLC t0
          have zf := HD4.out.z.zc.thaw
          have zl := HD4.out.z.zc.lt
          have y0 := HD4.out.z.zc.is 0 _ rfl
          have y1 := HD4.out.z.zc.is 1 _ rfl
          have y2 := HD4.out.z.zc.is 2 _ rfl
          have y3 := HD4.out.z.zc.is 3 _ rfl
          have y4 := HD4.out.z.zc.is 4 _ rfl
          have y5 := HD4.out.z.zc.is 5 _ rfl
          have y6 := HD4.out.z.zc.is 6 _ rfl
          go_upto_region 28 with fail
          obtain ⟨w10, hw10⟩ : ∃ w10, w10 = (((((((w9.setCell ⟨Z, 0, none⟩ (.int .i64 0)).setCell ⟨Z, 1, none⟩ (.string ⟨#[]⟩)).setCell ⟨Z, 2, none⟩ (.int .i64 0)).setCell ⟨Z, 3, none⟩ (.int .i64 0)).setCell ⟨Z, 4, none⟩ (.int .i64 0)).setCell ⟨Z, 5, none⟩ (.int .i64 0)).setCell ⟨Z, 6, none⟩ (.bool false)) := ⟨_, rfl⟩
          have HD5 : Hid (PZV w w10 B M X lv7 (.slice ga q gc) nums j (c.told m) (c.told m) T [.int .u8 (kd : Int), .string key, .int .i64 cl, .int .i64 id, .int .i64 now, .int .i64 nn, .bool raw] Z [.int .i64 0, .string ⟨#[]⟩, .int .i64 0, .int .i64 0, .int .i64 0, .int .i64 0, .bool false] V [.int .i64 x1, .string x2, .int .i64 x3, .int .i64 x4, .int .i64 x5, .int .i64 x6, .bool x7]) := Lib.hid (by rw [hw10]; exact HD4.out.stz _ _ _ _ _ _ _)
          rw [← hw10]
          clear hw10 zf zl y0 y1 y2 y3 y4 y5 y6
          have HLD := Lib.hid (HD5.out.z.t.lookD m)
          rw [look_told] at HLD
          change Hid (Calls Try.prog 15 #[.pointer (some ⟨X, 0, none⟩), .int .i64 m] w10 fun e w' => e = .returned (.tuple #[.agg #[.int .i64 0, .string ⟨#[]⟩, .int .i64 0, .int .i64 0, .int .i64 0, .int .i64 0, .bool false], .bool false]) ∧ Only None' w10 w') at HLD
          go_wp2_with fail
          refine HLD.out.mono ?_
          rintro e w11 ⟨rfl, o11⟩
          have HD6 := Lib.hid (HD5.out.new_ o11)
          clear o11 HLD
          have zf := HD6.out.v.zc.thaw
          have zl := HD6.out.v.zc.lt
          have y0 := HD6.out.v.zc.is 0 _ rfl
          have y1 := HD6.out.v.zc.is 1 _ rfl
          have y2 := HD6.out.v.zc.is 2 _ rfl
          have y3 := HD6.out.v.zc.is 3 _ rfl
          have y4 := HD6.out.v.zc.is 4 _ rfl
          have y5 := HD6.out.v.zc.is 5 _ rfl
          have y6 := HD6.out.v.zc.is 6 _ rfl
          go_upto_region 29 with fail
          obtain ⟨w12, hw12⟩ : ∃ w12, w12 = (((((((w11.setCell ⟨V, 0, none⟩ (.int .i64 0)).setCell ⟨V, 1, none⟩ (.string ⟨#[]⟩)).setCell ⟨V, 2, none⟩ (.int .i64 0)).setCell ⟨V, 3, none⟩ (.int .i64 0)).setCell ⟨V, 4, none⟩ (.int .i64 0)).setCell ⟨V, 5, none⟩ (.int .i64 0)).setCell ⟨V, 6, none⟩ (.bool false)) := ⟨_, rfl⟩
          have HD7 : Hid (PZV w w12 B M X lv7 (.slice ga q gc) nums j (c.told m) (c.told m) T [.int .u8 (kd : Int), .string key, .int .i64 cl, .int .i64 id, .int .i64 now, .int .i64 nn, .bool raw] Z [.int .i64 0, .string ⟨#[]⟩, .int .i64 0, .int .i64 0, .int .i64 0, .int .i64 0, .bool false] V [.int .i64 0, .string ⟨#[]⟩, .int .i64 0, .int .i64 0, .int .i64 0, .int .i64 0, .bool false]) := Lib.hid (by rw [hw12]; exact HD6.out.stv _ _ _ _ _ _ _)
          rw [← hw12]
          clear hw12 zf zl y0 y1 y2 y3 y4 y5 y6
          have y0 := HD7.out.z.zc.is 0 _ rfl
          have y1 := HD7.out.z.zc.is 1 _ rfl
          have y2 := HD7.out.z.zc.is 2 _ rfl
          have y3 := HD7.out.z.zc.is 3 _ rfl
          have y4 := HD7.out.z.zc.is 4 _ rfl
          have y5 := HD7.out.z.zc.is 5 _ rfl
          have y6 := HD7.out.z.zc.is 6 _ rfl
          have z0 := HD7.out.v.zc.is 0 _ rfl
          have z1 := HD7.out.v.zc.is 1 _ rfl
          have z2 := HD7.out.v.zc.is 2 _ rfl
          have z3 := HD7.out.v.zc.is 3 _ rfl
          have z4 := HD7.out.v.zc.is 4 _ rfl
          have z5 := HD7.out.v.zc.is 5 _ rfl
          have z6 := HD7.out.v.zc.is 6 _ rfl
          have vl := HD7.out.v.zc.lt
          have vn := World.new_ne w12 ⟨V, 0, none⟩ z0
          have HSM := Lib.hid (same_two w12 0 ⟨#[]⟩ 0 0 0 0 false)
          go_wp2_with fail
          refine HSM.out.mono ?_
          rintro e w13 ⟨rfl, o13⟩
          have HW := Lib.hid (HD7.out.z.t.new_ o13)
          clear o13
          go_wp2_with fail
          go_meet
          exact ⟨rfl, lv7, nums, c.told m, ga, gc, by rw [HQ.out], Lib.hid (by rw [← HQ.out]; exact HW.out.later (Nat.le_succ j))⟩
        by_cases h3 : kd = 3
        · have ea0 : ((kd : Int) == 0) = false := by simp; omega
          have eb0 : (kd == 0) = false := by simp; omega
          have ea1 : ((kd : Int) == 1) = false := by simp; omega
          have eb1 : (kd == 1) = false := by simp; omega
          have ea2 : ((kd : Int) == 2) = false := by simp; omega
          have eb2 : (kd == 2) = false := by simp; omega
          have ea3 : ((kd : Int) == 3) = true := by simp; omega
          have eb3 : (kd == 3) = true := by simp; omega
          clear h3
          go_wp2_with fail
          go_region_held3 (fun w' => w'.cell? ⟨T, 1, none⟩ = some (.string key))
            (first | exact HA.out.tc.is 1 _ rfl | exact (HA.out.drewN _).tc.is 1 _ rfl | exact HA.out.drew.tc.is 1 _ rfl | exact HC2.out.tc.is 1 _ rfl | exact (HC2.out.drewN _).tc.is 1 _ rfl | exact HC2.out.drew.tc.is 1 _ rfl | exact HD2.out.tc.is 1 _ rfl | exact (HD2.out.drewN _).tc.is 1 _ rfl | exact HD2.out.drew.tc.is 1 _ rfl)
            (first | (go_at_call 17; (first | with_reducible refine (PT.markC HA.out key).mono ?_ | with_reducible refine (PT.markC (HA.out.drewN _) key).mono ?_ | with_reducible refine (PT.markC HA.out.drew key).mono ?_); rintro e w5 ⟨rfl, h5⟩; have HC2 := Lib.hid h5; clear h5) | (go_at_call 18; (first | with_reducible refine (PT.markD HC2.out key).mono ?_ | with_reducible refine (PT.markD (HC2.out.drewN _) key).mono ?_ | with_reducible refine (PT.markD HC2.out.drew key).mono ?_); rintro e w6 ⟨rfl, lv6, h6⟩; have HD2 := Lib.hid h6; clear h6))
          all_goals (
            go_wp2_with fail
            go_meet
            exact ⟨rfl, lv6, nums, c.mark key, ga, gc, by rw [HQ.out], Lib.hid (by rw [← HQ.out]; exact HD2.out.later (Nat.le_succ j))⟩)
        by_cases h4 : kd = 4
        · have ea0 : ((kd : Int) == 0) = false := by simp; omega
          have eb0 : (kd == 0) = false := by simp; omega
          have ea1 : ((kd : Int) == 1) = false := by simp; omega
          have eb1 : (kd == 1) = false := by simp; omega
          have ea2 : ((kd : Int) == 2) = false := by simp; omega
          have eb2 : (kd == 2) = false := by simp; omega
          have ea3 : ((kd : Int) == 3) = false := by simp; omega
          have eb3 : (kd == 3) = false := by simp; omega
          have ea4 : ((kd : Int) == 4) = true := by simp; omega
          have eb4 : (kd == 4) = true := by simp; omega
          clear h4
          have HL : Hid (((c.ws.filter fun x => agoB x.last now nn).map (Wt.at_ now)).length ≤ 64) := Lib.hid (by rw [List.length_map]; exact fil64 HA.out.h.c_.ok _)
          go_wp2_with fail
          go_region_held3 (fun w' => w'.cell? ⟨T, 4, none⟩ = some (.int .i64 now) ∧ w'.cell? ⟨T, 5, none⟩ = some (.int .i64 nn))
            (first | exact ⟨(HA.out).tc.is 4 _ rfl, (HA.out).tc.is 5 _ rfl⟩ | exact ⟨((HA.out.drewN _)).tc.is 4 _ rfl, ((HA.out.drewN _)).tc.is 5 _ rfl⟩ | exact ⟨(HA.out.drew).tc.is 4 _ rfl, (HA.out.drew).tc.is 5 _ rfl⟩ | exact ⟨(HV.out.t).tc.is 4 _ rfl, (HV.out.t).tc.is 5 _ rfl⟩ | exact ⟨((HV.out.t.drewN _)).tc.is 4 _ rfl, ((HV.out.t.drewN _)).tc.is 5 _ rfl⟩ | exact ⟨(HV.out.t.drew).tc.is 4 _ rfl, (HV.out.t.drew).tc.is 5 _ rfl⟩ | exact ⟨(HU.out.v_.t).tc.is 4 _ rfl, (HU.out.v_.t).tc.is 5 _ rfl⟩ | exact ⟨((HU.out.v_.t.drewN _)).tc.is 4 _ rfl, ((HU.out.v_.t.drewN _)).tc.is 5 _ rfl⟩ | exact ⟨(HU.out.v_.t.drew).tc.is 4 _ rfl, (HU.out.v_.t.drew).tc.is 5 _ rfl⟩ | exact ⟨(HW.out).tc.is 4 _ rfl, (HW.out).tc.is 5 _ rfl⟩ | exact ⟨((HW.out.drewN _)).tc.is 4 _ rfl, ((HW.out.drewN _)).tc.is 5 _ rfl⟩ | exact ⟨(HW.out.drew).tc.is 4 _ rfl, (HW.out.drew).tc.is 5 _ rfl⟩)
            (first | (go_at_call 20; (first | with_reducible refine (PT.dueC HA.out now nn).mono ?_ | with_reducible refine (PT.dueC (HA.out.drewN _) now nn).mono ?_ | with_reducible refine (PT.dueC HA.out.drew now nn).mono ?_); rintro e w5 ⟨v5, rfl, h5⟩; have HV := Lib.hid h5; clear h5) | (go_at_call 21; (first | with_reducible refine (PV.dueD HV.out).mono ?_ | with_reducible refine (PV.dueD (HV.out.drewN _)).mono ?_ | with_reducible refine (PV.dueD HV.out.drew).mono ?_); rintro e w6 ⟨u6, rfl, lv6, h6⟩; have HU := Lib.hid h6; clear h6) | (go_at_call 19; (first | with_reducible refine (PVU.twice HU.out HL.out).mono ?_ | with_reducible refine (PVU.twice (HU.out.drewN _) HL.out).mono ?_ | with_reducible refine (PVU.twice HU.out.drew HL.out).mono ?_); rintro e w7 ⟨rfl, h7⟩; have HW := Lib.hid h7; clear h7))
          all_goals (
            go_wp2_with fail
            go_meet
            exact ⟨rfl, lv6, nums, c.due now nn, ga, gc, by rw [HQ.out], Lib.hid (by rw [← HQ.out]; exact HW.out.later (Nat.le_succ j))⟩)
        have ea0 : ((kd : Int) == 0) = false := by simp; omega
        have eb0 : (kd == 0) = false := by simp; omega
        have ea1 : ((kd : Int) == 1) = false := by simp; omega
        have eb1 : (kd == 1) = false := by simp; omega
        have ea2 : ((kd : Int) == 2) = false := by simp; omega
        have eb2 : (kd == 2) = false := by simp; omega
        have ea3 : ((kd : Int) == 3) = false := by simp; omega
        have eb3 : (kd == 3) = false := by simp; omega
        have ea4 : ((kd : Int) == 4) = false := by simp; omega
        have eb4 : (kd == 4) = false := by simp; omega
        clear h0 h1 h2 h3 h4
        have HL : Hid ((c.ws.filter fun x => agoB x.first now nn).length ≤ 64) := Lib.hid (fil64 HA.out.h.c_.ok _)
        go_wp2_with fail
        go_region_held3 (fun w' => w'.cell? ⟨T, 4, none⟩ = some (.int .i64 now) ∧ w'.cell? ⟨T, 5, none⟩ = some (.int .i64 nn))
          (first | exact ⟨(HA.out).tc.is 4 _ rfl, (HA.out).tc.is 5 _ rfl⟩ | exact ⟨((HA.out.drewN _)).tc.is 4 _ rfl, ((HA.out.drewN _)).tc.is 5 _ rfl⟩ | exact ⟨(HA.out.drew).tc.is 4 _ rfl, (HA.out.drew).tc.is 5 _ rfl⟩ | exact ⟨(HV.out.t).tc.is 4 _ rfl, (HV.out.t).tc.is 5 _ rfl⟩ | exact ⟨((HV.out.t.drewN _)).tc.is 4 _ rfl, ((HV.out.t.drewN _)).tc.is 5 _ rfl⟩ | exact ⟨(HV.out.t.drew).tc.is 4 _ rfl, (HV.out.t.drew).tc.is 5 _ rfl⟩ | exact ⟨(HU.out.v_.t).tc.is 4 _ rfl, (HU.out.v_.t).tc.is 5 _ rfl⟩ | exact ⟨((HU.out.v_.t.drewN _)).tc.is 4 _ rfl, ((HU.out.v_.t.drewN _)).tc.is 5 _ rfl⟩ | exact ⟨(HU.out.v_.t.drew).tc.is 4 _ rfl, (HU.out.v_.t.drew).tc.is 5 _ rfl⟩ | exact ⟨(HW.out).tc.is 4 _ rfl, (HW.out).tc.is 5 _ rfl⟩ | exact ⟨((HW.out.drewN _)).tc.is 4 _ rfl, ((HW.out.drewN _)).tc.is 5 _ rfl⟩ | exact ⟨(HW.out.drew).tc.is 4 _ rfl, (HW.out.drew).tc.is 5 _ rfl⟩)
          (first | (go_at_call 22; (first | with_reducible refine (PT.oldC HA.out now nn).mono ?_ | with_reducible refine (PT.oldC (HA.out.drewN _) now nn).mono ?_ | with_reducible refine (PT.oldC HA.out.drew now nn).mono ?_); rintro e w5 ⟨v5, rfl, h5⟩; have HV := Lib.hid h5; clear h5) | (go_at_call 23; (first | with_reducible refine (PV.oldD HV.out).mono ?_ | with_reducible refine (PV.oldD (HV.out.drewN _)).mono ?_ | with_reducible refine (PV.oldD HV.out.drew).mono ?_); rintro e w6 ⟨u6, rfl, lv6, h6⟩; have HU := Lib.hid h6; clear h6) | (go_at_call 19; (first | with_reducible refine (PVU.twice HU.out HL.out).mono ?_ | with_reducible refine (PVU.twice (HU.out.drewN _) HL.out).mono ?_ | with_reducible refine (PVU.twice HU.out.drew HL.out).mono ?_); rintro e w7 ⟨rfl, h7⟩; have HW := Lib.hid h7; clear h7))
        all_goals (
          go_wp2_with fail
          go_meet
          exact ⟨rfl, lv6, nums, c.old now nn, ga, gc, by rw [HQ.out], Lib.hid (by rw [← HQ.out]; exact HW.out.later (Nat.le_succ j))⟩)
      case rest =>
        obtain ⟨rfl, lv', nums', c', ga', gc', rfl, HP⟩ := hcut
        clear HA YA HI HTB HQ
        obtain ⟨la, lk, rfl⟩ := HP.out.h.d_.shape
        obtain ⟨ln, hln⟩ : ∃ ln, ln = c'.ws.length := ⟨_, rfl⟩
        rw [← hln] at HP
        clear hln t0 t1 t2 t3 t4 t5 t6
        go_wp2_with fail
        go_region_held3 (fun w' => w'.cell? ⟨X, 2, none⟩ = some (.slice la ln lk))
          (first | exact (HP.out).h.d_.cells.is 2 _ rfl | exact ((HP.out.drewN _)).h.d_.cells.is 2 _ rfl | exact (HP.out.drew).h.d_.cells.is 2 _ rfl | exact (HV.out.t).h.d_.cells.is 2 _ rfl | exact ((HV.out.t.drewN _)).h.d_.cells.is 2 _ rfl | exact (HV.out.t.drew).h.d_.cells.is 2 _ rfl | exact (HW.out).h.d_.cells.is 2 _ rfl | exact ((HW.out.drewN _)).h.d_.cells.is 2 _ rfl | exact (HW.out.drew).h.d_.cells.is 2 _ rfl | exact (HV2.out.t).h.d_.cells.is 2 _ rfl | exact ((HV2.out.t.drewN _)).h.d_.cells.is 2 _ rfl | exact (HV2.out.t.drew).h.d_.cells.is 2 _ rfl | exact (HW2.out).h.d_.cells.is 2 _ rfl | exact ((HW2.out.drewN _)).h.d_.cells.is 2 _ rfl | exact (HW2.out.drew).h.d_.cells.is 2 _ rfl)
          (first | (go_at_call 24; (first | with_reducible refine (PT.allC HP.out).mono ?_ | with_reducible refine (PT.allC (HP.out.drewN _)).mono ?_ | with_reducible refine (PT.allC HP.out.drew).mono ?_); rintro e w5 ⟨v5, rfl, h5⟩; have HV := Lib.hid h5; clear h5) | (go_at_call 19; (first | with_reducible refine (PV.twiceD HV.out).mono ?_ | with_reducible refine (PV.twiceD (HV.out.drewN _)).mono ?_ | with_reducible refine (PV.twiceD HV.out.drew).mono ?_); rintro e w6 ⟨rfl, h6⟩; have HW := Lib.hid h6; clear h6) | (go_at_call 24; (first | with_reducible refine (PT.allC HW.out).mono ?_ | with_reducible refine (PT.allC (HW.out.drewN _)).mono ?_ | with_reducible refine (PT.allC HW.out.drew).mono ?_); rintro e w7 ⟨v7, rfl, h7⟩; have HV2 := Lib.hid h7; clear h7) | (go_at_call 16; (first | with_reducible refine (PV.sameD HV2.out).mono ?_ | with_reducible refine (PV.sameD (HV2.out.drewN _)).mono ?_ | with_reducible refine (PV.sameD HV2.out.drew).mono ?_); rintro e w8 ⟨rfl, h8⟩; have HW2 := Lib.hid h8; clear h8))
        all_goals (
          go_wp2_with fail
          go_roundw)
        case rel => exact ⟨j + 1, c', _, nums', ga', gc', by have := HJ.out; omega, by have := HJ.out; omega, rfl, rfl, Lib.hid HW2.out.h⟩
        case measure =>
          show n - ((j : Int) + 1).toNat < n - (j : Int).toNat
          have := HJ.out
          omega
    · have HE : Hid (n ≤ j ∨ 120 ≤ j) := Lib.hid (by omega)
      by_cases hn : j < n
      · have i0 : (0 : Int) ≤ (j : Int) := by omega
        have i1 : (j : Int) < (n : Int) := by omega
        have d1 : decide ((j : Int) < (n : Int)) = true := by rw [decide_eq_true_eq]; exact i1
        have d2 : decide ((j : Int) < 120) = false := by rw [decide_eq_false_iff_not]; omega
        have d3 : decide (j < 120) = false := by rw [decide_eq_false_iff_not]; omega
        clear hn hlt
        go_wp2_with fail
        refine (awake_any _).mono ?_
        rintro e w1 ⟨rfl, o⟩
        have O := Lib.hid o
        clear o
        go_wp2_with fail
        go_ret
        exact ⟨rfl, (HI.out.only.trans O.out).below (Nat.le_refl _) fun _ e => e.elim⟩
      · have i0 : (0 : Int) ≤ (j : Int) := by omega
        have i1 : ¬ (j : Int) < (n : Int) := by omega
        have d1 : decide ((j : Int) < (n : Int)) = false := by rw [decide_eq_false_iff_not]; exact i1
        have d3 : decide (j < n) = false := by rw [decide_eq_false_iff_not]; exact hn
        clear hlt
        go_wp2_with fail
        refine (awake_any _).mono ?_
        rintro e w1 ⟨rfl, o⟩
        have O := Lib.hid o
        clear o
        go_wp2_with fail
        go_ret
        exact ⟨rfl, (HI.out.only.trans O.out).below (Nat.le_refl _) fun _ e => e.elim⟩
end Go.Proofs.Ytehoiapadnbklaa
