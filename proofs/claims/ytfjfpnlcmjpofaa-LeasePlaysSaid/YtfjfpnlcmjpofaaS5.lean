/- Back. -/
import Derived.Test.YtfjfpnlcmjpofaaS4
import Derived.Maps.RangeWalk
namespace Go.Proofs.Ytfjfpnlcmjpofaa
open Go.RowKit Go.Maps
set_option linter.unusedVariables false

theorem cells64 : Try.prog.cellsOf 64 = 2 := by kernel_rfl
def strLit (x : Value) : Option (List Lit) := match x with
  | .string s => if s.size ≤ maxLen then some [.string s.data.toList] else none
  | _ => none
def intLit (x : Value) : Option (List Lit) := match x with
  | .int q n => if q = .i64 ∧ (Lit.int q n).wf = true then some [.int q n] else none
  | _ => none
theorem strLit_some {x : Value} {l : List Lit} (h : strLit x = some l) : ∃ s, x = .string s ∧ l = [.string s.data.toList] := by
  unfold strLit at h
  split at h
  · split at h
    · injection h with h
      exact ⟨_, rfl, h.symm⟩
    · cases h
  · cases h
theorem intLit_some {x : Value} {l : List Lit} (h : intLit x = some l) : ∃ n, x = .int .i64 n ∧ l = [.int .i64 n] ∧ (Lit.int .i64 n).wf = true := by
  unfold intLit at h
  split at h
  · split at h
    · rename_i hc
      obtain ⟨rfl, hw⟩ := hc
      injection h with h
      exact ⟨_, rfl, h.symm, hw⟩
    · cases h
  · cases h
theorem kl9 (d : Nat) (x : Value) : Try.prog.keyLits (d + 1) 9 [x] = strLit x := by
  unfold Program.keyLits strLit
  rw [under9]
  cases x <;> rfl
theorem kl3 (d : Nat) (x : Value) : Try.prog.keyLits (d + 1) 3 [x] = intLit x := by
  unfold Program.keyLits intLit
  rw [Try.underlying3]
  cases x with
  | int q n =>
    simp only
    by_cases h : q = .i64
    · subst h; rfl
    · simp [h]
  | _ => rfl
set_option maxRecDepth 20000 in
theorem key_inv {key : Value} {kl : Lit} (h : keyOf Try.prog 64 key = some kl) : ∃ (k : ByteArray) (c : Int), key = plV k c ∧ kl = pk k c ∧ (Lit.int .i64 c).wf = true := by
  have h64 : Try.prog.underlying 64 = some (.struct fs64) := by kernel_rfl
  have hts : 0 < Try.prog.types.size := of_decide_eq_true (by kernel_rfl)
  obtain ⟨d, hd⟩ : ∃ d, Try.prog.types.size = d + 1 := ⟨Try.prog.types.size - 1, by omega⟩
  unfold keyOf at h
  rw [h64] at h
  simp only at h
  split at h
  · rename_i hc
    rw [Bool.and_eq_true] at hc
    obtain ⟨_, hf⟩ := hc
    cases key with
    | agg cs =>
      unfold Value.formed at hf
      rw [h64] at hf
      simp only [cells64, beq_iff_eq] at hf
      obtain ⟨x, y, rfl⟩ : ∃ x y, cs = #[x, y] := by
        obtain ⟨l⟩ := cs
        match l, hf with
        | [x, y], _ => exact ⟨x, y, rfl⟩
      have e3 : Try.prog.keyLits (Try.prog.types.size + 1) 64 (Value.agg #[x, y]).cells.toList = ([Try.prog.keyLits Try.prog.types.size 9 [x], Try.prog.keyLits Try.prog.types.size 3 [y]].mapM id).map List.flatten := by kernel_rfl
      rw [e3, hd] at h
      rw [kl9, kl3] at h
      cases e1 : strLit x with
      | none => rw [e1] at h; exact absurd h (by simp)
      | some l1 =>
        cases e2 : intLit y with
        | none => rw [e1, e2] at h; exact absurd h (by simp)
        | some l2 =>
          obtain ⟨s, rfl, rfl⟩ := strLit_some e1
          obtain ⟨n, rfl, rfl, hw⟩ := intLit_some e2
          rw [e1, e2] at h
          refine ⟨s, n, rfl, ?_, hw⟩
          have : some (Lit.string (keyBytes [.string s.data.toList, .int .i64 n])) = some kl := h
          injection this with this
          exact this.symm
    | _ => unfold Value.formed at hf; rw [h64] at hf; first | cases hf | exact absurd hf (by simp)
  · cases h
structure Pl where
  k : ByteArray
  c : Int
def plP (p : Pl) : Value := .agg #[.string p.k, .int .i64 p.c]
theorem kinv (key : Value) (kl : Lit) (h : keyOf Try.prog 64 key = some kl) : ∃ p : Pl, key = plP p := by
  obtain ⟨k, c, rfl, _⟩ := key_inv h
  exact ⟨⟨k, c⟩, rfl⟩
theorem vinv (v : Value) (y : DataW Unit × List MemPlace) (h : lsR v = some y) : ∃ x : Ls, v = x.v := by
  obtain ⟨x, e, _⟩ := lsR_some h
  exact ⟨x, e⟩
def hitB (cache num : Int) (x : Ls) : Bool := decide (x.cache = cache ∧ x.num = num)
def Tb.back (t : Tb) (cache num : Int) : Tb := ⟨t.life, t.hold, t.start, t.given, t.ls.filter (fun x => !hitB cache num x), t.shut, t.cnt⟩
def Tb.has (t : Tb) (cache num : Int) : Bool := t.ls.any (hitB cache num)
theorem Tb.Ok.back {t : Tb} (h : t.Ok) (cache num : Int) : (t.back cache num).Ok :=
  ⟨h.l1, h.l2, h.g, h.h1, h.h2, h.s1, h.s2, h.good.filter _, fun x hx => h.num x (List.mem_filter.1 hx).1, Nat.le_trans (List.length_filter_le _ _) h.few⟩
theorem Tb.back_none {t : Tb} {cache num : Int} (h : t.has cache num = false) : t.back cache num = t := by
  unfold Tb.back
  have : t.ls.filter (fun x => !hitB cache num x) = t.ls := by
    rw [List.filter_eq_self]
    intro x hx
    unfold Tb.has at h
    rw [List.any_eq_false] at h
    simpa using h x hx
  rw [this]
theorem back_at {ls : List Ls} (G : Good ls) {x : Ls} (hx : x ∈ ls) {cache num : Int} (hc : x.cache = cache) (hn : x.num = num) : ls.filter (fun y => !at_ x.key x.cache y) = ls.filter (fun y => !hitB cache num y) := by
  refine List.filter_congr fun y hy => ?_
  congr 1
  rw [Bool.eq_iff_iff]
  unfold at_ hitB
  simp only [decide_eq_true_eq]
  constructor
  · intro h
    have := G.one hy hx h
    subst this
    exact ⟨hc, hn⟩
  · intro h
    have := G.one_num hy hx (h.2.trans hn.symm)
    subst this
    exact ⟨rfl, rfl⟩
structure BSt (w wy : World) (M r : Nat) (t : Tb) (cache num : Int) (D : DataW Unit) (left : Lit → Bool) (cnt : Nat) (vis : List Ls) : Prop where
  rg : wy.ranges Try.prog 64 lsR M r t.ls.length D left cnt
  rep : Rep D t.ls
  only : Only None' w wy
  came : Came t.ls left vis
  miss : ∀ x ∈ vis, hitB cache num x = false
  rb : w.heap.size ≤ r
theorem back_nil (cache num : Int) (w : World) : Calls Try.prog 13 #[.pointer none, .int .i64 cache, .int .i64 num] w fun e w' => e = .returned (.bool false) ∧ w = w' := by
  go_enter Try.func13, Try.ntmps13
  go_wp2_with fail
  go_ret
  exact ⟨rfl, rfl⟩
theorem Rep.left {D : DataW Unit} {ls : List Ls} (h : Rep D ls) {x : Ls} (hx : x ∈ ls) : Maps.has D (pk x.key x.cache) = true := by
  obtain ⟨es, rfl, hp⟩ := h
  rw [Maps.has_eq, List.any_eq_true]
  exact ⟨ent x, hp.mem_iff.2 (List.mem_map.2 ⟨x, hx, rfl⟩), by simp [ent, pk, Lit.sameKey]⟩
set_option maxRecDepth 20000 in
set_option maxHeartbeats 1000000 in
theorem back_any {w : World} {B M N : Nat} {t : Tb} (h : TabAt w B M N t) (cache num : Int) : Calls Try.prog 13 #[.pointer (some ⟨B, 0, none⟩), .int .i64 cache, .int .i64 num] w fun e w' => e = .returned (.bool (t.has cache num)) ∧ TabAt w' B M N (t.back cache num) ∧ Only (fun k => k = M) w w' := by
  have H := Lib.hid h
  obtain ⟨D, hR, hD⟩ := h.map
  have HD := Lib.hid (And.intro hR hD)
  have c4 := h.cells.is 4 _ rfl
  clear h hR hD
  go_enter Try.func13, Try.ntmps13
  go_wp2_with (first | (at_range; refine wpList_range_own _ rfl _ 59 rfl 64 57 keyed64 under59 lsR M t.ls.length D rfl HD.out.2 ?_; intro w0 hrg0 hg0 hs0; have HR0 := Lib.hid (And.intro hrg0 (And.intro hg0 hs0)); clear hrg0 hg0 hs0))
  go_frame
  obtain ⟨r, hr⟩ : ∃ r, r = w.heap.size := ⟨_, rfl⟩
  have L1 : Hid (BSt w w0 M r t cache num D (Maps.has D) (Maps.size D) []) := Lib.hid ⟨by rw [hr]; exact HR0.out.1, HD.out.1, (Only.refl None' w).grown HR0.out.2.1 fun q hq => (by cases hq), Came.start fun x hx => HD.out.1.left hx, fun x hx => absurd hx (List.not_mem_nil), by omega⟩
  rw [← hr]
  clear hr HR0 c4
  go_loopw [16] (fun _ wy => ∃ (left : Lit → Bool) (cnt : Nat) (vis : List Ls), Hid (BSt w wy M r t cache num D left cnt vis)) (fun _ wy => wy.rangeLeft M r)
  case atStart => exact ⟨_, _, _, L1⟩
  case round =>
    clear L1
    obtain ⟨left, cnt, vis, HR⟩ := hrel
    rename World => wy
    go_wp2_with (first | (at_next; refine wpList_next_ranges _ rfl _ rfl 64 keyed64 lsR plP Ls.v kinv vinv M r t.ls.length D left cnt rfl HR.out.rg ?_ ?_))
    · intro _ hl0
      have HF : Hid (t.has cache num = false) := Lib.hid (by
        unfold Tb.has
        rw [List.any_eq_false]
        intro x hx
        have := HR.out.miss x ((HR.out.came.mem x).2 ⟨hx, hl0 _⟩)
        simp [this])
      clear hl0
      go_wp2_with fail
      go_ret
      rw [HF.out, Tb.back_none HF.out]
      exact ⟨rfl, H.out.new HR.out.only, HR.out.only.mono fun _ _ e => e.elim⟩
    · intro p x kl y y2 w1 cnt1 hkey hlx hRv hat hrg1 hlt hg1 hs1 hen
      obtain ⟨k', c', e, hkl, hwf⟩ := key_inv hkey
      obtain ⟨z, hz, hzk, hzd⟩ := HR.out.rep.at_ hat
      rw [lsR_v] at hRv
      injection hRv with hRv
      injection hRv with hRv hy2
      obtain rfl := d_inj (hRv.trans hzd)
      have HZ := Lib.hid (And.intro hz (And.intro hzk hlx))
      have HX := Lib.hid (And.intro hrg1 (And.intro hlt (And.intro hg1 hkey)))
      clear hRv hy2 hz hzk hzd hlx hrg1 hlt hg1 hs1 hkey hat e hkl hwf
      obtain ⟨pk', pc⟩ := p
      obtain ⟨lk, lc, ln, lf⟩ := x
      dsimp only [plP, Ls.v] at hen ⊢
      have HC1 := Lib.hid (H.out.cells.kept HR.out.only fun e => e)
      have O1 : Hid (Only None' w w1) := Lib.hid (HR.out.only.trans2 ((Only.refl (fun q => q = r) wy).grown HX.out.2.2.1 fun q hq => by injection hq with hq; exact hq.symm) fun q hq e => by have := HR.out.rb; omega)
      obtain ⟨b1, hb1⟩ : ∃ b, (lc == cache) = b := ⟨_, rfl⟩
      obtain ⟨b2, hb2⟩ : ∃ b, (ln == num) = b := ⟨_, rfl⟩
      have HB : Hid ((lc == cache) = b1 ∧ (ln == num) = b2) := Lib.hid ⟨hb1, hb2⟩
      have HGO : Hid ((b1 && b2) = false → ∀ w2, Only None' w1 w2 → w2.ranges Try.prog 64 lsR M r t.ls.length D (fun z => left z && !z.sameKey kl) cnt1 → BSt w w2 M r t cache num D (fun z => left z && !z.sameKey kl) cnt1 (vis ++ [⟨lk, lc, ln, lf⟩])) := Lib.hid (fun hb w2 o2 hrg => by
        obtain ⟨hz, hzk, hlx⟩ := HZ.out
        rw [hzk] at hlx hrg ⊢
        refine ⟨hrg, HR.out.rep, O1.out.trans o2, HR.out.came.step H.out.ok.good hz hlx, fun x hx => ?_, HR.out.rb⟩
        rcases List.mem_append.1 hx with hx | hx
        · exact HR.out.miss x hx
        · simp at hx
          subst hx
          unfold hitB
          rw [← HB.out.1, ← HB.out.2] at hb
          simpa using hb)
      cases b1 with
      | false =>
        clear hb2
        go_wp2_with fail
        go_roundw
        case rel => exact ⟨_, _, _, Lib.hid (HGO.out rfl _ (((Only.refl None' w1).alloc _).alloc _) ((HX.out.1.alloc _).alloc _))⟩
        case measure => rw [((HX.out.1.alloc _).alloc _).left_eq, HR.out.rg.left_eq]; exact HX.out.2.1
      | true =>
        cases b2 with
        | false =>
          go_wp2_with fail
          go_roundw
          case rel => exact ⟨_, _, _, Lib.hid (HGO.out rfl _ (((Only.refl None' w1).alloc _).alloc _) ((HX.out.1.alloc _).alloc _))⟩
          case measure => rw [((HX.out.1.alloc _).alloc _).left_eq, HR.out.rg.left_eq]; exact HX.out.2.1
        | true =>
          go_upto_region 7 with fail
          obtain ⟨w2, hw2⟩ : ∃ w2, w2 = w1.alloc (.cells #[.string pk', .int .i64 pc] 64) := ⟨_, rfl⟩
          obtain ⟨U, hU⟩ : ∃ U, U = w1.heap.size := ⟨_, rfl⟩
          obtain ⟨w3, hw3⟩ : ∃ w3, w3 = w2.alloc (.cells #[.string lk, .int .i64 lc, .int .i64 ln, .int .i64 lf] 57) := ⟨_, rfl⟩
          have C2 : Hid (CellsR w2 U [.string pk', .int .i64 pc]) := Lib.hid (by rw [hw2, hU]; exact cells_new w1 [.string pk', .int .i64 pc] 64)
          have O2 : Hid (Only None' w1 w2) := Lib.hid (by rw [hw2]; exact (Only.refl None' w1).alloc _)
          have O3 : Hid (Only None' w2 w3) := Lib.hid (by rw [hw3]; exact (Only.refl None' w2).alloc _)
          have O03 := Lib.hid (O1.out.trans (O2.out.trans O3.out))
          have HM : Hid (w3.ownsMap Try.prog 64 lsR M t.ls.length D) := Lib.hid (by rw [hw3, hw2]; exact ((HX.out.1.alloc _).alloc _).owns)
          have u0 := (C2.out.kept O3.out fun e => e).is 0 _ rfl
          have u1 := (C2.out.kept O3.out fun e => e).is 1 _ rfl
          have c4 := (H.out.cells.kept O03.out fun e => e).is 4 _ rfl
          rw [← hw2, ← hw3, ← hU]
          clear hw2 hw3 hU hb1 hb2 hen
          go_still_tail 5, (by kernel_rfl)
          refine wpList_delete_own _ rfl _ _ 59 64 rfl 57 keyed64 under59 lsR M t.ls.length D rfl (HM.out.drew) (.agg #[.string pk', .int .i64 pc]) _ rfl HX.out.2.2.2 ?_
          intro w4 ho4 ht4
          have HO4 := Lib.hid ho4
          have O4 : Hid (Only (fun k => k = M) w3 w4) := Lib.hid ((Only.drew (Only.refl _ _)).turned ht4 rfl)
          clear ho4 ht4
          go_wp2_with fail
          go_ret
          obtain ⟨hz, hzk, _⟩ := HZ.out
          have e1 : lc = cache := by simpa using HB.out.1
          have e2 : ln = num := by simpa using HB.out.2
          have hhas : t.has cache num = true := by
            unfold Tb.has
            rw [List.any_eq_true]
            exact ⟨_, hz, by unfold hitB; simp [e1, e2]⟩
          have A := H.out.apart
          obtain ⟨q, E, g1, g2, g3⟩ := H.out.shut
          have hsz := Nat.le_trans O03.out.size O4.out.size
          have T0 := H.out.new O03.out
          have hrep := HD.out.1.del H.out.ok.good.fine (H.out.ok.good.fine _ hz)
          rw [back_at H.out.ok.good hz e1 e2] at hrep
          have hm := owns_tight HO4.out
          rw [hzk] at hm
          rw [hrep.size] at hm
          rw [hhas]
          obtain ⟨q, E, g1, g2, g3⟩ := T0.shut
          exact ⟨rfl, ⟨T0.cells.kept O4.out (by omega), ⟨_, hrep, hm⟩, ⟨q, E, g1, owns_same g2 (O4.out.block N T0.lt.2 (by omega)), g3⟩, A, ⟨Nat.lt_of_lt_of_le H.out.lt.1 hsz, Nat.lt_of_lt_of_le H.out.lt.2 hsz⟩, H.out.ok.back cache num⟩, (O03.out.mono fun _ _ e => e.elim).trans O4.out⟩
end Go.Proofs.Ytfjfpnlcmjpofaa
