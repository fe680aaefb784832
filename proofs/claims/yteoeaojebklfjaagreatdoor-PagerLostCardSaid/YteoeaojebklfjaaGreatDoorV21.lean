/- QD QE QF S2 in one text. -/
import Derived.Test.YteoeaojebklfjaaGreatDoorV20
import Derived.Maps.RangeWalk
namespace Go.Proofs.YteoeaojebklfjaaGreatDoor
open Go.RowKit Go.Maps
set_option linter.unusedVariables false
set_option linter.unusedSimpArgs false
set_option maxRecDepth 20000
section
variable {w : World} {L : Lo} {R : Nat} {F : Nat → Prop} {s : Sy}
set_option maxHeartbeats 1000000 in
theorem Settle_any (h : SyAt w L R F s) (hok : s.p.Ok) (hdd : s.d.dead = false) {n : Nat} (hf : s.d.Few n) (hn : n ≤ 700000) (hl : 8 ≤ s.d.lasts.length) (hb : s.r.top ≤ 4611686018427387904) :
    Calls Tryz.prog 16 #[.pointer (some ⟨L.P, 0, none⟩)] w fun e w' => e = .returned (.int .i64 (s.settle s.r.top).1) ∧ ∃ L' R' F', SyAt w' L' R' F' (s.settle s.r.top).2 ∧ To w w' L R F L' R' F' := by
  have HT := Lib.hid (top_any h.ring)
  have HS := Lib.hid (settle_any h hok hdd hf hn hl hb)
  have c1 := h.pg.cells.is 1 _ rfl
  clear h hok hdd hf hn hl hb
  go_enter Tryz.func16, Tryz.ntmps16
  go_wp2_with fail
  refine HT.out.mono ?_
  rintro e w1 ⟨rfl, rfl⟩
  go_wp2_with fail
  refine HS.out.mono ?_
  rintro e w2 ⟨rfl, h2⟩
  have H2 := Lib.hid h2
  clear h2 c1
  go_wp2_with fail
  go_ret
  exact ⟨rfl, H2.out⟩
end

section
variable {w w' : World} {Q S : Nat} {b : List UInt8}
theorem ruv_failed (h : RdAt w Q S b true) : Calls Tryz.prog 109 #[.pointer (some ⟨Q, 0, none⟩)] w fun e w' => e = .returned (.tuple #[.int .u64 0, .bool false]) ∧ w = w' := by
  have HOK := Lib.hid (ok_any h)
  clear h
  go_enter Tryz.func109, Tryz.ntmps109
  go_wp2_with fail
  refine HOK.out.mono ?_
  rintro e w1 ⟨rfl, rfl⟩
  go_wp2_with fail
  go_ret2
  exact ⟨rfl, rfl⟩
theorem rcount_failed (h : RdAt w Q S b true) (most : Int) : Calls Tryz.prog 93 #[.pointer (some ⟨Q, 0, none⟩), .int .i64 most] w fun e w' => e = .returned (.int .i64 0) ∧ RdAt w' Q S b true ∧ Only (fun k => k = S) w w' := by
  have HU := Lib.hid (ruv_failed h)
  have H := Lib.hid h
  clear h
  go_enter Tryz.func93, Tryz.ntmps93
  go_wp2_with fail
  refine HU.out.mono ?_
  rintro e w1 ⟨rfl, rfl⟩
  clear HU
  go_wp2_with fail
  refine (told_int H.out _ false).mono ?_
  rintro e w2 ⟨rfl, hd2, o2⟩
  have HE := Lib.hid (And.intro hd2 o2)
  clear hd2 o2
  go_wp2_with fail
  go_ret
  exact ⟨rfl, HE.out.1, HE.out.2⟩
theorem rstr_failed (h : RdAt w Q S b true) : Calls Tryz.prog 94 #[.pointer (some ⟨Q, 0, none⟩), .int .i64 512] w fun e w' => e = .returned (.string ⟨#[]⟩) ∧ RdAt w' Q S b true ∧ Only (fun k => k = S) w w' := by
  have HC := Lib.hid (rcount_failed h 512)
  clear h
  go_enter Tryz.func94, Tryz.ntmps94
  go_wp2_with fail
  refine HC.out.mono ?_
  rintro e w1 ⟨rfl, hd, o1⟩
  have HD := Lib.hid (And.intro hd o1)
  clear HC hd o1
  go_wp2_with fail
  refine (ok_any HD.out.1).mono ?_
  rintro e w1 ⟨rfl, rfl⟩
  go_wp2_with fail
  refine (told_str HD.out.1 _ false).mono ?_
  rintro e w3 ⟨rfl, hd3, o3⟩
  have HF := Lib.hid (And.intro hd3 (HD.out.2.trans o3))
  clear HD hd3 o3
  go_wp2_with fail
  go_ret
  exact ⟨rfl, HF.out.1, HF.out.2⟩
end
theorem Mp.nocell {α : Type} {E : Elem α} {w : World} {b : Nat} {l : List (Nat × α)} (h : Mp E w b l) (i : Nat) : w.cell? ⟨b, i, none⟩ = none := by
  obtain ⟨es, clock, h1, _⟩ := h.own
  unfold World.cell?
  rw [h1]
theorem Vec.aside {α : Type} {E : Elem α} {w w' : World} {size n M : Nat} {v : Value} {xs : List Value} {l : List (Nat × α)} (h : Vec w size v n xs) (hm : Mp E w M l) (o : Only (fun k => k = M) w w') : Vec w' size v n xs := by
  refine ⟨h.len, ?_⟩
  rcases h.form with h1 | ⟨g, off, cap, h1, h2, h3, h4, h5, h6⟩
  · exact .inl h1
  · refine .inr ⟨g, off, cap, h1, h2, h3, by have := o.size; omega, fun j u hu => ?_, fun j hj => ?_⟩
    · have h7 := h5 j u hu
      by_cases e : g = M
      · rw [e, hm.nocell] at h7; cases h7
      · rw [o.cell h4 e]; exact h7
    · have h7 := h6 j hj
      by_cases e : g = M
      · rw [e, hm.nocell] at h7; cases h7.1
      · rw [o.cell h4 e, o.frozen h4 e]; exact h7
theorem RdAt.aside {α : Type} {E : Elem α} {w w' : World} {Q S M : Nat} {b : List UInt8} {f : Bool} {l : List (Nat × α)} (h : RdAt w Q S b f) (hm : Mp E w M l) (hQ : Q ≠ M) (hS : S ≠ M) (o : Only (fun k => k = M) w w') : RdAt w' Q S b f := by
  obtain ⟨v, h1, h2, h3⟩ := h.s
  exact ⟨h.q.kept o hQ, ⟨v, h1.kept o hS, h2.aside hm o, h3⟩, h.ne⟩
theorem rdCount_lt {most : Int} {b r : List UInt8} {n : Nat} (h : rdCount most b = some (n, r)) : r.length < b.length := by
  rw [rdCount_eq] at h
  split at h
  · cases h
  · rename_i hb
    split at h
    · simp only [Option.some.injEq, Prod.mk.injEq] at h
      rw [← h.2, List.length_drop]
      have h1 : (firstL b 0 0).2 ≠ 0 := fun e => hb (.inl e)
      have h2 : 0 < b.length := by
        cases b with
        | nil => exact absurd rfl h1
        | cons _ _ => simp
      omega
    · cases h
def rpD (most : Int) (f : Nat) (b : List UInt8) (D : List (Nat × Sec)) : Option (List (Nat × Sec)) := (replayL most f b).map fun l => insL l D
theorem rpD_nil (most : Int) (f : Nat) (D : List (Nat × Sec)) : rpD most f [] D = some D := by cases f <;> rfl
theorem rpD_step {most : Int} {f n : Nat} {b r r' t : List UInt8} {D : List (Nat × Sec)} (hb : b ≠ []) (h1 : rdCount most b = some (n, r)) (h2 : rdStr 512 r = some (t, r')) : rpD most (f + 1) b D = rpD most f r' (ins n (padP t) D) := by
  cases b with
  | nil => exact absurd rfl hb
  | cons c b =>
    unfold rpD
    rw [replayL, h1]
    · simp only [h2, Option.map_map]
      rfl
    · exact hb
theorem rpD_bad1 {most : Int} {f : Nat} {b : List UInt8} {D : List (Nat × Sec)} (hb : b ≠ []) (h1 : rdCount most b = none) : rpD most (f + 1) b D = none := by
  cases b with
  | nil => exact absurd rfl hb
  | cons c b => unfold rpD; rw [replayL, h1]; rfl; exact hb
theorem rpD_bad2 {most : Int} {f n : Nat} {b r : List UInt8} {D : List (Nat × Sec)} (hb : b ≠ []) (h1 : rdCount most b = some (n, r)) (h2 : rdStr 512 r = none) : rpD most (f + 1) b D = none := by
  cases b with
  | nil => exact absurd rfl hb
  | cons c b => unfold rpD; rw [replayL, h1]; simp only [h2]; rfl; exact hb
theorem replayAll_cons (most : Int) (b : Rec) (rs : List Rec) (D : List (Nat × Sec)) : replayAll most (b :: rs) D = (rpD most b.length b D).bind (replayAll most rs) := by
  unfold rpD
  rw [replayAll]
  cases replayL most b.length b <;> rfl
theorem rdStr_len {b t r : List UInt8} (h : rdStr 512 b = some (t, r)) : t.length ≤ 512 ∧ r.length ≤ b.length := by
  obtain ⟨n, r0, h1, h2, rfl, rfl⟩ := rdStr_some h
  have := rdCount_len h1
  rw [List.length_take, List.length_drop]
  omega
theorem page_text {w : World} {g : Nat} {t : List UInt8} (h : Vec w 1 (.slice (some ⟨g, 0, none⟩) 512 512) 512 (bv zs)) (ht : t.length ≤ 512) : Vec (w.setCells g 0 (bv t)) 1 (.slice (some ⟨g, 0, none⟩) 512 512) 512 (bv (padP t)) := by
  have h1 := h.put (o := 0) (vs := bv t) (by rw [bv_length]; omega)
  rw [Nat.zero_add] at h1
  have e : (bv zs).take 0 ++ bv t ++ (bv zs).drop (0 + (bv t).length) = bv (padP t) := by
    rw [List.take_zero, List.nil_append, Nat.zero_add, bv_length]
    unfold padP bv zs
    rw [List.map_append, ← List.map_drop, List.drop_replicate]
  rw [e] at h1
  exact h1
structure RpLoop (w wr : World) (L : Lo) (lg : Value) (p : Pg) (Q S : Nat) (f : Nat) (b' : List UInt8) (D' : List (Nat × Sec)) (b : List UInt8) (D : List (Nat × Sec)) : Prop where
  rd : RdAt wr Q S b' false
  at_ : PgAt wr L lg { p with dirty := D' }
  only : Only (fun k => k = L.Md) w wr
  keys : ∀ q ∈ D', q.1 < p.pages
  fuel : b'.length ≤ f
  is : rpD ((p.pages : Int) - 1) f b' D' = rpD ((p.pages : Int) - 1) b.length b D
  newQ : w.heap.size ≤ Q
  newS : w.heap.size ≤ S
  small : b'.length ≤ 1000000
structure RpOut (w wr : World) (L : Lo) (lg : Value) (p : Pg) (rs : List Rec) (k : Nat) (D' : List (Nat × Sec)) : Prop where
  at_ : PgAt wr L lg { p with dirty := D' }
  only : Only (fun k => k = L.Md) w wr
  keys : ∀ q ∈ D', q.1 < p.pages
  is : replayAll ((p.pages : Int) - 1) (rs.drop k) D' = replayAll ((p.pages : Int) - 1) rs p.dirty
theorem PgAt.setDirty {w w' : World} {L : Lo} {lg : Value} {p : Pg} (h : PgAt w L lg p) {l : List (Nat × Sec)} (hm : Mp pgE w' L.Md l) (o : Only (fun k => k = L.Md) w w') : PgAt w' L lg { p with dirty := l } :=
  ⟨h.cells.kept o fun e => h.ok.pd e, hm, h.now.only o fun e => h.ok.dn e.symm, h.idle.only o fun e => h.ok.di e.symm, h.count.only o fun e => h.ok.dc e.symm, h.ok⟩
theorem RpLoop.out {w wr wi : World} {L : Lo} {lg : Value} {p : Pg} {Q S f k : Nat} {D' D2 : List (Nat × Sec)} {b : List UInt8} {rs : List Rec} (ho : RpOut w wr L lg p rs k D') (hb : rs[k]? = some b) (h : RpLoop w wi L lg p Q S f [] D2 b D') : RpOut w wi L lg p rs (k + 1) D2 := by
  refine ⟨h.at_, h.only, h.keys, ?_⟩
  rw [← ho.is]
  obtain ⟨hk, rfl⟩ := List.getElem?_eq_some_iff.1 hb
  rw [List.drop_eq_getElem_cons hk, replayAll_cons, ← h.is, rpD_nil]
  rfl
theorem RpLoop.none {w wr wi : World} {L : Lo} {lg : Value} {p : Pg} {Q S f k : Nat} {D' D2 : List (Nat × Sec)} {b b' : List UInt8} {rs : List Rec} (ho : RpOut w wr L lg p rs k D') (hb : rs[k]? = some b) (h : RpLoop w wi L lg p Q S f b' D2 b D') (hn : rpD ((p.pages : Int) - 1) f b' D2 = Option.none) : replayAll ((p.pages : Int) - 1) rs p.dirty = Option.none := by
  rw [← ho.is]
  obtain ⟨hk, rfl⟩ := List.getElem?_eq_some_iff.1 hb
  rw [List.drop_eq_getElem_cons hk, replayAll_cons, ← h.is, hn]
  rfl
def RpRes (w : World) (L : Lo) (lg : Value) (p : Pg) (rs : List Rec) (e : Ending) (w' : World) : Prop :=
  Only (fun k => k = L.Md) w w' ∧ match replayAll ((p.pages : Int) - 1) rs p.dirty with
  | some D => e = .returned (.bool true) ∧ PgAt w' L lg { p with dirty := D } ∧ ∀ q ∈ D, q.1 < p.pages
  | none => e = .returned (.bool false)
set_option maxHeartbeats 4000000 in
theorem replay_any {w : World} {L : Lo} {lg : Value} {p : Pg} {Pr : Nat → Prop} {rs : List Rec} {v : Value} (h : PgAt w L lg p) (hr : Recs w Pr v rs) (hap : ∀ k, Pr k → k ≠ L.Md) (hk : ∀ q ∈ p.dirty, q.1 < p.pages) (h1 : 1 ≤ p.pages) (h2 : p.pages ≤ 100000) (hs : ∀ b ∈ rs, b.length ≤ 1000000) (hn : rs.length ≤ 1000000) :
    Calls Tryz.prog 56 #[.pointer (some ⟨L.P, 0, none⟩), v] w (RpRes w L lg p rs) := by
  obtain ⟨va, vc, rfl⟩ := hr.shape
  have HR := Lib.hid hr
  have HB := Lib.hid (And.intro hap (And.intro h1 (And.intro h2 hs)))
  have HL0 : Hid (RpOut w w L lg p rs 0 p.dirty) := Lib.hid ⟨h, Only.refl _ _, hk, rfl⟩
  have HOWN : Hid (∀ k, L.own k → k < w.heap.size) := Lib.hid fun k hk => h.lt hk
  have hLt := h.dirty.lt
  have HLT := Lib.hid (And.intro hLt h.ok)
  obtain ⟨len, hlen⟩ : ∃ len, len = rs.length := ⟨_, rfl⟩
  have HLEN := Lib.hid hlen
  rw [← hlen] at hn ⊢
  have hn' : (len : Int) ≤ 1000000 := by omega
  clear h hr hap hk h1 h2 hs hn hLt hlen
  go_enter Tryz.func56, Tryz.ntmps56
  go_wp2_with fail
  go_loopg [13] len (fun gg t wr => ∃ (k : Nat) (D' : List (Nat × Sec)), gg = len - k ∧ k ≤ len ∧ t = .int .i64 (k : Int) ∧ Hid (RpOut w wr L lg p rs k D'))
  case atStart => exact ⟨0, p.dirty, rfl, Nat.zero_le _, rfl, HL0⟩
  case round =>
    obtain ⟨k, D', rfl, hk, rfl, HO⟩ := hrel
    by_cases hlt : k < len
    · have hlt' : k < rs.length := by rw [← HLEN.out]; exact hlt
      obtain ⟨b, hb⟩ : ∃ b, rs[k]? = some b := ⟨_, List.getElem?_eq_getElem hlt'⟩
      have hbm : b ∈ rs := List.mem_of_getElem? hb
      have hr2 : Recs wr Pr (.slice va rs.length vc) rs := HR.out.only HO.out.only fun k hk e => HB.out.1 k hk e
      obtain ⟨xs, hvx, hrow⟩ := hr2.rows
      obtain ⟨x, hx, hxv, -⟩ := hrow k hlt'
      have hbe : rs[k] = b := by
        have := List.getElem?_eq_getElem hlt'
        rw [hb] at this
        injection this with this
        exact this.symm
      rw [hbe] at hxv
      obtain ⟨g, off, rfl, hgl, hcell, -⟩ := hvx.form' (by omega)
      have hck : wr.cell? ⟨g, off + k, none⟩ = some x := hcell k x hx
      obtain ⟨xa, xc, rfl, _⟩ := hxv.shape
      have HRD := Lib.hid (reader_any hxv (HB.out.2.2.2 b hbm))
      have HBB := Lib.hid (And.intro hb (HB.out.2.2.2 b hbm))
      have i1 : (k : Int) < (len : Int) := by omega
      have HK := Lib.hid hlt
      clear hlt hlt' hb hbm hr2 hvx hrow hx hxv hbe hcell hk
      go_wp2_with fail
      refine HRD.out.mono ?_
      rintro e w1 ⟨Q, S, rfl, hrd, hQ, hS, o1⟩
      have HI0 : Hid (RpLoop w w1 L lg p Q S b.length b D' b D') := Lib.hid ⟨hrd, HO.out.at_.new o1, HO.out.only.quiet o1, HO.out.keys, Nat.le_refl _, rfl, Nat.le_trans HO.out.only.size hQ, Nat.le_trans HO.out.only.size hS, HBB.out.2⟩
      clear hrd hQ hS o1 hck
      go_wp2_with fail
      go_loopg [] b.length (fun gg wi => ∃ (b' : List UInt8) (D2 : List (Nat × Sec)), Hid (RpLoop w wi L lg p Q S gg b' D2 b D'))
      case atStart => exact ⟨b, D', HI0⟩
      case round =>
        obtain ⟨b', D2, HI⟩ := hrel
        have HOKR := Lib.hid (ok_any HI.out.rd)
        have HDN := Lib.hid (done_any HI.out.rd)
        cases b' with
        | nil =>
          have HX := Lib.hid (RpLoop.out HO.out HBB.out.1 HI.out)
          go_wp2_with fail
          refine HOKR.out.mono ?_
          rintro e w2 ⟨rfl, rfl⟩
          go_wp2_with fail
          refine HDN.out.mono ?_
          rintro e w2 ⟨rfl, rfl⟩
          go_wp2_with fail
          go_roundg (len - (k + 1))
          case rel => exact ⟨k + 1, D2, rfl, HK.out, rfl, HX⟩
          case measure => have := HK.out; omega
        | cons c0 b0 =>
          have hne : c0 :: b0 ≠ [] := by simp
          have hlenb : decide ((c0 :: b0).length = 0) = false := by simp
          obtain ⟨b', hb'⟩ : ∃ b', b' = c0 :: b0 := ⟨_, rfl⟩
          rw [← hb'] at HI HDN hne hlenb
          rw [hlenb] at HDN
          clear hlenb hb'
          have hgk : 1 ≤ gk := by
            have := HI.out.fuel
            have : 0 < b'.length := List.length_pos_iff.2 hne
            omega
          obtain ⟨f, rfl⟩ : ∃ f, gk = f + 1 := ⟨gk - 1, by omega⟩
          have HNE := Lib.hid hne
          have c3 := HI.out.at_.cells.is 3 _ rfl
          change wr.cell? ⟨L.P, 3, none⟩ = some (.int .i64 (p.pages : Int)) at c3
          obtain ⟨pp, hpp⟩ : ∃ pp, pp = p.pages := ⟨_, rfl⟩
          have HPP := Lib.hid hpp
          rw [← hpp] at c3
          have pp1 : (1 : Int) ≤ (pp : Int) := by have := HB.out.2.1; omega
          have pp2 : (pp : Int) ≤ 100000 := by have := HB.out.2.2.1; omega
          have hbl := HI.out.small
          cases hc : rdCount ((pp : Int) - 1) b' with
          | none =>
            have HX := Lib.hid (RpLoop.none HO.out HBB.out.1 HI.out (rpD_bad1 hne (by rw [← hpp]; exact hc)))
            have HC := Lib.hid (rcount_none HI.out.rd hbl hc)
            clear hne hgk hpp hbl hc
            go_wp2_with fail
            refine HOKR.out.mono ?_
            rintro e w2 ⟨rfl, rfl⟩
            go_wp2_with fail
            refine HDN.out.mono ?_
            rintro e w2 ⟨rfl, rfl⟩
            go_wp2_with fail
            refine HC.out.mono ?_
            rintro e w3 ⟨rfl, ⟨b3, hd3⟩, o3⟩
            have H3 := Lib.hid (And.intro hd3 o3)
            clear hd3 o3 c3
            go_wp2_with fail
            refine (rstr_failed H3.out.1).mono ?_
            rintro e w4 ⟨rfl, hd4, o4⟩
            have H4 := Lib.hid (And.intro hd4 (H3.out.2.trans o4))
            clear hd4 o4
            go_wp2_with fail
            refine (ok_any H4.out.1).mono ?_
            rintro e w5 ⟨rfl, rfl⟩
            go_wp2_with fail
            go_ret
            unfold RpRes
            rw [HX.out]
            exact ⟨HI.out.only.trans2 H4.out.2 fun k hk e => by have := HI.out.newS; omega, rfl⟩
          | some nr =>
            obtain ⟨n, r⟩ := nr
            have HC := Lib.hid (rcount_some HI.out.rd hbl hc)
            have hrl := rdCount_len hc
            cases hs : rdStr 512 r with
            | none =>
              have HX := Lib.hid (RpLoop.none HO.out HBB.out.1 HI.out (rpD_bad2 hne (by rw [← hpp]; exact hc) hs))
              have HRL := Lib.hid (And.intro hs (show r.length ≤ 1000000 by omega))
              clear hne hgk hpp hbl hc hs hrl
              go_wp2_with fail
              refine HOKR.out.mono ?_
              rintro e w2 ⟨rfl, rfl⟩
              go_wp2_with fail
              refine HDN.out.mono ?_
              rintro e w2 ⟨rfl, rfl⟩
              go_wp2_with fail
              refine HC.out.mono ?_
              rintro e w3 ⟨rfl, hd3, o3⟩
              have H3 := Lib.hid (And.intro hd3 o3)
              clear hd3 o3 c3
              go_wp2_with fail
              refine (rstr_none H3.out.1 HRL.out.2 HRL.out.1).mono ?_
              rintro e w4 ⟨rfl, ⟨b4, hd4⟩, o4⟩
              have H4 := Lib.hid (And.intro hd4 (H3.out.2.trans o4))
              clear hd4 o4
              go_wp2_with fail
              refine (ok_any H4.out.1).mono ?_
              rintro e w5 ⟨rfl, rfl⟩
              go_wp2_with fail
              go_ret
              unfold RpRes
              rw [HX.out]
              exact ⟨HI.out.only.trans2 H4.out.2 fun k hk e => by have := HI.out.newS; omega, rfl⟩
            | some tr =>
              obtain ⟨tx, r'⟩ := tr
              have htl := rdStr_len hs
              have HX := Lib.hid (rpD_step (most := (p.pages : Int) - 1) (f := f) (D := D2) hne (by rw [← hpp]; exact hc) hs)
              have HLT3 := Lib.hid (And.intro (rdCount_lt hc) (And.intro htl hrl))
              have HRL := Lib.hid (And.intro hs (show r.length ≤ 1000000 by omega))
              clear hne hgk hpp hbl hc hs hrl htl
              go_wp2_with fail
              refine HOKR.out.mono ?_
              rintro e w2 ⟨rfl, rfl⟩
              go_wp2_with fail
              refine HDN.out.mono ?_
              rintro e w2 ⟨rfl, rfl⟩
              go_wp2_with fail
              refine HC.out.mono ?_
              rintro e w3 ⟨rfl, hd3, o3⟩
              have H3 := Lib.hid (And.intro hd3 o3)
              clear hd3 o3 c3
              go_wp2_with fail
              refine (rstr_some H3.out.1 HRL.out.2 HRL.out.1).mono ?_
              rintro e w4 ⟨rfl, hd4, o4⟩
              have H4 := Lib.hid (And.intro hd4 (H3.out.2.trans o4))
              clear hd4 o4
              go_wp2_with fail
              refine (ok_any H4.out.1).mono ?_
              rintro e w5 ⟨rfl, rfl⟩
              have hv0 := page_zero w4
              have hfree := fun j (hj : j < 512) => hv0.free0 (k := j) (by omega)
              have HFR := Lib.hid hfree
              obtain ⟨W, hW⟩ : ∃ W, W = (w4.alloc (.cells Tryz.zeroCells74 74)).setCells w4.heap.size 0 (bv tx) := ⟨_, rfl⟩
              have oW : Only None' w4 W := by rw [hW]; exact ((Only.refl None' w4).alloc _).trans2 ((Only.refl (fun k => k = w4.heap.size) _).setCells rfl 0 _) fun k hk e => by omega
              have hP := page_text hv0 HLT3.out.2.1.1
              rw [← hW] at hP
              have HP := Lib.hid hP
              have hat : PgAt W L lg { p with dirty := D2 } := (HI.out.at_.only H4.out.2 fun k hk e => by have := HI.out.newS; have := HOWN.out k hk; omega).new oW
              have HW := Lib.hid hW
              have HAT := Lib.hid (And.intro hat oW)
              have hsl := slice74_all
              clear hv0 hfree hW oW hP hat
              go_upto_region 12 with (refine wpList_copy_string rfl _ _ rfl w4.heap.size 0 512 512 rfl tx rfl HLT3.out.2.1.1 (fun j hj => by rw [Nat.zero_add]; exact HFR.out j (by have := HLT3.out.2.1.1; omega)) ?_; rw [← HW.out]; clear HW HFR)
              have HL5 := Lib.hid (pad_len HLT3.out.2.1.1)
              obtain ⟨sx, hsx⟩ : ∃ sx, sx = padP tx := ⟨_, rfl⟩
              rw [← hsx] at HP HL5 HX
              have HC5 : Hid (∀ w', Only (fun k => k = L.Md) W w' → CellsR w' L.P (Pg.vs L lg { p with dirty := D2 })) := Lib.hid fun w' o => HAT.out.1.cells.kept o fun e => HLT.out.2.pd e
              have HR5 : Hid (∀ w', Only (fun k => k = L.Md) W w' → w'.rangeAt w4.heap.size 0 (bv sx)) := Lib.hid fun w' o => (HP.out.only o fun g hg e => by injection hg with hg; have hg' : w4.heap.size = g := hg; have := HLT.out.1; have := HI.out.only.size; have := H4.out.2.size; omega).range
              have HM5 := Lib.hid HAT.out.1.dirty
              have HND : Hid (n < p.pages ∧ D2.length < 1000000 ∧ n ≤ 100000000000) := Lib.hid (by
                have h5 := HLT3.out.2.2.2.1
                have h6 := HPP.out
                have h7 : D2.length ≤ p.pages := rise_le HAT.out.1.dirty.rise HI.out.keys
                have h8 := HB.out.2.2.1
                omega)
              clear hsx
              refine r_begin (S := fun k => k = L.Md) (by kernel_rfl) ?_
              have HS := Lib.hid (Only.refl (fun k => k = L.Md) W)
              refine r_take 0 (.pointer (some ⟨L.P, 0, none⟩)) rfl (by kernel_rfl) (fun _ _ _ h => h) HS.out (YR.pure (by rfl) fun w hw => y_move w rfl rfl) ?_
              simp only [Act.put, zA, zB, zC]
              refine r_take 1 (.pointer (some ⟨L.P, 0, none⟩)) rfl (by kernel_rfl) (fun _ _ _ h => h) HS.out (YR.pure (by rfl) fun w hw => y_nil w rfl rfl) ?_
              simp only [Act.put, zA, zB, zC]
              refine r_take 2 (.pointer (some ⟨L.P, 4, none⟩)) rfl (by kernel_rfl) (fun _ _ _ h => h) HS.out (YR.pure (by rfl) fun w hw => y_f72_4 w rfl rfl) ?_
              simp only [Act.put, zA, zB, zC]
              refine r_take 3 (.map (some L.Md)) rfl (by kernel_rfl) (fun _ _ _ h => h) HS.out (YR.pure (by rfl) fun w hw => y_load69 rfl rfl ((HC5.out w hw).is 4 _ rfl)) ?_
              simp only [Act.put, zA, zB, zC]
              refine r_take 4 (.int .i64 (n : Int)) rfl (by kernel_rfl) (fun _ _ _ h => h) HS.out (YR.pure (by rfl) fun w hw => y_move w rfl rfl) ?_
              simp only [Act.put, zA, zB, zC]
              refine r_take 5 (.agg (bv sx).toArray) rfl (by kernel_rfl) (fun _ _ _ h => h) HS.out (YR.pure (by rfl) fun w hw => y_load74 rfl rfl HL5.out (HR5.out w hw)) ?_
              simp only [Act.put, zA, zB, zC]
              refine r_one 6 rfl (by kernel_rfl) (by rfl) fun wi oi => ?_
              refine wp_update69 (n := n) (s := sx) rfl rfl rfl rfl (HM5.out.new oi) HND.out.2.1 HND.out.2.2 fun wj hm oj => ⟨(HS.out.quiet oi).trans oj, ?_⟩
              simp only [Act.put, zA, zB, zC]
              have HT := Lib.hid ((HS.out.quiet oi).trans oj)
              have HM6 := Lib.hid hm
              clear HS oi oj hm
              have HS := HT
              clear HT
              refine r_done (by kernel_rfl) fun wz oz => ?_
              have HE5 := Lib.hid (And.intro (HM6.out.new oz) (HS.out.quiet oz))
              clear HS oz HM6 HC5 HR5 HM5
              generalize wz = w7 at HE5 ⊢
              go_wp2_with fail
              go_roundg f
              case rel =>
                refine ⟨r', ins n sx D2, Lib.hid ⟨?_, HAT.out.1.setDirty HE5.out.1 HE5.out.2, ?_, ?_, ?_, ?_, HI.out.newQ, HI.out.newS, ?_⟩⟩
                · exact (H4.out.1.new HAT.out.2).aside HAT.out.1.dirty (by have := HLT.out.1; have := HI.out.newQ; omega) (by have := HLT.out.1; have := HI.out.newS; omega) HE5.out.2
                · exact ((HI.out.only.trans2 H4.out.2 fun k hk e => by have := HI.out.newS; omega).quiet HAT.out.2).trans HE5.out.2
                · intro q hq
                  rcases mem_ins hq with rfl | hq
                  · exact HND.out.1
                  · exact HI.out.keys q hq
                · have := HLT3.out.1; have := HLT3.out.2.1.2; have := HI.out.fuel; omega
                · rw [← HI.out.is, HX.out]
                · have := HRL.out.2; have := HLT3.out.2.1.2; omega
              case measure => omega
    · have HX := Lib.hid HO.out
      have hkl : k = len := by omega
      subst hkl
      have HE : Hid (replayAll ((p.pages : Int) - 1) rs p.dirty = some D') := Lib.hid (by
        have := HO.out.is
        rw [HLEN.out, List.drop_length] at this
        exact this.symm)
      have i1 : ¬ (k : Int) < (k : Int) := by omega
      clear hk hlt HLEN
      go_wp2_with fail
      go_ret
      unfold RpRes
      rw [HE.out]
      exact ⟨HO.out.only, rfl, HO.out.at_, HO.out.keys⟩
end Go.Proofs.YteoeaojebklfjaaGreatDoor
namespace Go.Proofs.YteoeaojebklfjaaGreatDoor
open Go.RowKit Go.Maps
set_option linter.unusedVariables false
set_option linter.unusedSimpArgs false
set_option maxRecDepth 20000

theorem ranges_same {P : Program} {w w' : World} {k : TypeId} {R : Value → Option (DataW Unit × List MemPlace)} {b r n : Nat} {D : DataW Unit} {left : Lit → Bool} {cnt : Nat} (h : w.ranges P k R b r n D left cnt) (hb : w'.heap[b]? = w.heap[b]?) (hr : w'.heap[r]? = w.heap[r]?) : w'.ranges P k R b r n D left cnt := by
  obtain ⟨es, clock, since, seen, c0, h1, h2, h3, h4, h5, h6⟩ := h
  exact ⟨es, clock, since, seen, c0, hb.trans h1, h2, h3, h4, hr.trans h5, h6⟩
theorem pgE_inv {v : Value} {y : DataW Unit × List MemPlace} (h : pgE.R v = some y) : ∃ s : Sec, v = .agg (bv s).toArray := by
  unfold pgE Elem.of at h
  simp only at h
  by_cases g : ∃ x : Sec, v = .agg (bv x).toArray
  · exact g
  · rw [dif_neg g] at h; cases h
theorem has_nat {α : Type} (E : Elem α) {l : List (Nat × α)} {x : Int} (h : Maps.has (kDof E l) (.int .i64 x) = true) : ∃ n : Nat, x = (n : Int) ∧ (kLook l n).isSome = true := by
  have h' := h
  unfold kDof at h
  rw [has_eq, List.any_map, List.any_eq_true] at h
  obtain ⟨p, hp, e⟩ := h
  simp only [kEnt, Lit.sameKey, Function.comp] at e
  have e' : x = (p.1 : Int) := by
    simp at e
    omega
  refine ⟨p.1, e', ?_⟩
  rw [e', kDof_has] at h'
  exact h'
theorem wpList_update69 {w : World} {ops : Array Oper} {rest : List Oper} {o : Oper} {a : Act} {Q : Exit → Act → World → Prop} (hgd : o.guard = none) (x y z : Operand) (ho : o.op = .mapUpdate 69 x y z) (b n : Nat) (l : List (Nat × Sec)) (s : Sec) (hx : a.eval x = .map (some b)) (hy : a.eval y = .int .i64 (n : Int)) (hz : a.eval z = .agg (bv s).toArray)
    (h : Mp pgE w b l) (hm : l.length < 1000000) (hn : n ≤ 100000000000)
    (hK : ∀ w', Mp pgE w' b (ins n s l) → Only (fun k => k = b) w w' → wpList Tryz.prog ops Q rest (a.put o.dst undef) w') : wpList Tryz.prog ops Q (o :: rest) a w := by
  refine wpList_plain hgd fun K hK2 => ?_
  obtain ⟨w', h1, h2, h3⟩ := h.update under69 hm hn s
  change (Instr.mapUpdate 69 (.map (some b)) (.int .i64 (n : Int)) (.agg (bv s).toArray)).run Tryz.prog w = _ at h1
  unfold Oper.wp execOp
  simp only [ho, hx, hy, hz, Sem.run_bind, h1, Result.andThen_ok, Sem.run_pure]
  exact hK2 _ _ (hK _ h2 h3)
structure CpSt (w wy : World) (Ms Md r : Nat) (ls ld : List (Nat × Sec)) (left : Lit → Bool) (cnt : Nat) (D2 : List (Nat × Sec)) : Prop where
  rg : wy.ranges Tryz.prog 3 pgE.R Ms r ls.length (kDof pgE ls) left cnt
  at_ : Mp pgE wy Md D2
  only : Only (fun k => k = Md) w wy
  has : ∀ kl, left kl = true → Maps.has (kDof pgE ls) kl = true
  look : ∀ n, kLook D2 n = if left (.int .i64 (n : Int)) then kLook ld n else (kLook ls n).or (kLook ld n)
  rb : w.heap.size ≤ r
  few : D2.length + cnt ≤ ls.length + ld.length
set_option maxHeartbeats 1000000 in
theorem copy_any {w : World} {Ms Md : Nat} {ls ld : List (Nat × Sec)} (hs : Mp pgE w Ms ls) (hd : Mp pgE w Md ld) (hne : Ms ≠ Md) (hl1 : ls.length ≤ 100000) (hl2 : ld.length ≤ 100000) (hk : ∀ q ∈ ls, q.1 ≤ 20000000000 ∧ q.2.length = 512) :
    Calls Tryz.prog 52 #[.map (some Md), .map (some Ms)] w fun e w' => e = .returned (.tuple #[]) ∧ Mp pgE w' Md (insL ls ld) ∧ Only (fun k => k = Md) w w' := by
  have HS := Lib.hid hs
  have HD := Lib.hid hd
  have HB := Lib.hid (And.intro hne (And.intro hl1 (And.intro hl2 hk)))
  clear hs hd hne hl1 hl2 hk
  go_enter Tryz.func52, Tryz.ntmps52
  go_wp2_with (first | (at_range; refine wpList_range_own _ rfl _ 69 rfl 3 74 keyed3 under69 pgE.R Ms ls.length (kDof pgE ls) rfl HS.out.own ?_; intro w0 hrg0 hg0 hs0; have HR0 := Lib.hid (And.intro hrg0 (And.intro hg0 hs0)); clear hrg0 hg0 hs0))
  go_frame
  obtain ⟨r, hr⟩ : ∃ r, r = w.heap.size := ⟨_, rfl⟩
  have L1 : Hid (CpSt w w0 Ms Md r ls ld (Maps.has (kDof pgE ls)) (Maps.size (kDof pgE ls)) ld) := Lib.hid (by
    have o : Only None' w w0 := (Only.refl None' w).grown HR0.out.2.1 fun q hq => by cases hq
    refine ⟨by rw [hr]; exact HR0.out.1, HD.out.new o, o.mono fun _ _ e => e.elim, fun _ h => h, fun n => ?_, by omega, by rw [kDof_size]; omega⟩
    rw [kDof_has]
    cases kLook ls n <;> rfl)
  rw [← hr]
  clear hr HR0
  go_loopw [8] (fun _ wy => ∃ (left : Lit → Bool) (cnt : Nat) (D2 : List (Nat × Sec)), Hid (CpSt w wy Ms Md r ls ld left cnt D2)) (fun _ wy => wy.rangeLeft Ms r)
  case atStart => exact ⟨_, _, _, L1⟩
  case round =>
    clear L1
    obtain ⟨left, cnt, D2, HR⟩ := hrel
    rename World => wy
    go_wp2_with (first | (at_next; refine wpList_next_ranges _ rfl _ rfl 3 keyed3 pgE.R (Value.int .i64) (fun s : Sec => .agg (bv s).toArray) (fun key kl hkey => by obtain ⟨x, rfl, _⟩ := Maps.keyOf_int_inv Tryz.underlying3 hkey; exact ⟨x, rfl⟩) (fun v y hv => pgE_inv hv) Ms r ls.length (kDof pgE ls) left cnt rfl HR.out.rg ?_ ?_))
    · intro _ hl0
      have HE : Hid (D2 = insL ls ld) := Lib.hid (rise_ext HR.out.at_.rise (rise_insL _ _ HD.out.rise) fun n => by
        rw [HR.out.look n, hl0, look_insL n ls ld HS.out.rise]
        rfl)
      clear hl0
      go_wp2_with fail
      go_end0
      refine ⟨rfl, ?_, HR.out.only⟩
      rw [← HE.out]
      exact HR.out.at_
    · intro x s kl y y2 w1 cnt1 hkey hlx hRv hat hrg1 hlt hg1 hs1 hen
      obtain ⟨x', ex, rfl, hwx⟩ := Maps.keyOf_int_inv Tryz.underlying3 hkey
      cases ex
      obtain ⟨n, rfl, hn⟩ := has_nat pgE (HR.out.has _ hlx)
      obtain ⟨s', hs'⟩ := Option.isSome_iff_exists.1 hn
      have hse : s = s' := by
        have h1 := hat (pgE.enc pgE.z)
        rw [kDof_at, hs'] at h1
        have h2 : pgE.R (pgE.val s) = some (y, y2) := hRv
        rw [pgE.mk'] at h2
        injection h2 with h2
        rw [← (Prod.mk.inj h2).1] at h1
        exact (encP_inj h1).symm
      subst hse
      have hmem := look_mem hs'
      have HX := Lib.hid (And.intro hlx (And.intro hs' (And.intro hrg1 (And.intro hlt hg1))))
      have HL := Lib.hid (HB.out.2.2.2 _ hmem)
      have o1 : Only None' w w1 → True := fun _ => trivial
      have hrb := HR.out.rb
      have ow : Only (fun k => k = r) wy w1 := (Only.refl (fun q => q = r) wy).grown hg1 fun q hq => by injection hq with hq; exact hq.symm
      have hm1 : Mp pgE w1 Md D2 := HR.out.at_.only ow fun e => by have := HD.out.lt; omega
      have HM1 := Lib.hid (And.intro hm1 ow)
      have hv0 := page_zero w1
      have HV0 := Lib.hid hv0
      obtain ⟨W, hW⟩ : ∃ W, W = (w1.alloc (.cells Tryz.zeroCells74 74)).setCells w1.heap.size 0 (bv s) := ⟨_, rfl⟩
      have oW : Only None' w1 W := by rw [hW]; exact ((Only.refl None' w1).alloc _).trans2 ((Only.refl (fun k => k = w1.heap.size) _).setCells rfl 0 _) fun k hk e => by omega
      have hP := page_stored hv0 HL.out.2
      rw [← hW] at hP
      have HP := Lib.hid (And.intro hP.range oW)
      have HM2 := Lib.hid (hm1.new oW)
      have HW := Lib.hid hW
      clear hRv hat hlx hrg1 hlt hg1 hs1 hkey hn hs' hmem o1 hrb ow hm1 hv0 hW oW hP hwx
      go_wp2_with (first | (refine wpList_store_mid rfl 74 _ _ rfl w1.heap.size 0 (bv s).toArray rfl rfl (set_there HV0.out HL.out.2) (size74a s HL.out.2) (all_oneCell_toArray (bv_one s)) ?_; change wpList _ _ _ _ _ ((w1.alloc (.cells Tryz.zeroCells74 74)).setCells w1.heap.size 0 (bv s)); rw [← HW.out]; clear HW hen) | (refine wpList_load_mid rfl 74 _ rfl w1.heap.size 0 rfl (bv s) _ HP.out.1 Tryz.underlying74 rfl (size74 s HL.out.2) ?_) | (refine wpList_update69 rfl _ _ _ rfl Md n D2 s rfl rfl rfl HM2.out (by have := HR.out.few; have := HB.out.2.1; have := HB.out.2.2.1; omega) (by have := HL.out.1; omega) ?_; intro w3 hm3 o3; have H3 := Lib.hid (And.intro hm3 o3); clear hm3 o3))
      have HN : Hid (CpSt w w3 Ms Md r ls ld (fun z => left z && !z.sameKey (.int .i64 (n : Int))) cnt1 (ins n s D2)) := Lib.hid (by
        have hrg := HX.out.2.2.1
        obtain ⟨_, _, _, _, _, hb0, _, _, _, hr0, _⟩ := hrg
        have hbl : Ms < w1.heap.size := (Array.getElem?_eq_some_iff.1 hb0).1
        have hrl : r < w1.heap.size := (Array.getElem?_eq_some_iff.1 hr0).1
        have hs1 := HP.out.2.size
        have hrb := HR.out.rb
        have hdl := HD.out.lt
        refine ⟨ranges_same HX.out.2.2.1 ?_ ?_, H3.out.1, ?_, fun kl h => ?_, fun m => ?_, HR.out.rb, ?_⟩
        · rw [H3.out.2.block Ms (by omega) HB.out.1, HP.out.2.block Ms hbl fun e => e]
        · rw [H3.out.2.block r (by omega) (by omega), HP.out.2.block r hrl fun e => e]
        · exact ((HR.out.only.trans2 HM1.out.2 fun k hk e => by omega).quiet HP.out.2).trans H3.out.2
        · rw [Bool.and_eq_true] at h
          exact HR.out.has kl h.1
        · rw [look_ins, HR.out.look m]
          have e : (Lit.int .i64 (m : Int)).sameKey (.int .i64 (n : Int)) = decide (m = n) := by
            simp [Lit.sameKey, Int.natCast_inj]
          simp only [e]
          by_cases h : n = m
          · subst h
            rw [if_pos rfl, HX.out.2.1]
            simp
          · have h' : ¬ m = n := fun e => h e.symm
            rw [if_neg h]
            simp [h']
        · have := len_ins n s D2; have := HX.out.2.2.2.1; have := HR.out.few; omega)
      clear HM1 HV0 HP HM2
      go_roundw
      case rel => exact ⟨_, _, _, HN⟩
      case measure => rw [HN.out.rg.left_eq, HR.out.rg.left_eq]; exact HX.out.2.2.2.1
end Go.Proofs.YteoeaojebklfjaaGreatDoor
namespace Go.Proofs.YteoeaojebklfjaaGreatDoor
open Go.RowKit Go.Maps
set_option linter.unusedVariables false
set_option linter.unusedSimpArgs false
set_option maxRecDepth 20000

theorem count_all {w : World} {v : Value} {n : Nat} {xs : List UInt8} (h : Vec w 1 v n (bv xs)) (hn : n ≤ 900000) (u : Nat) (hu : u ≤ 100000000000) (h0 : u ≤ 2147483647 ∨ 0 < n) :
    Calls Tryz.prog 46 #[v, .int .i64 (u : Int)] w fun e w' => ∃ v', e = .returned v' ∧ Vec w' 1 v' (n + (uvM u).length) (bv (xs ++ uvM u)) ∧ (∀ g, v'.ownBlock = some g → w.heap.size ≤ g) ∧ Only None' w w' := by
  unfold uvM
  by_cases hm : u ≤ 2147483647
  · rw [if_pos hm]; exact count_any h hn u hm
  · rw [if_neg hm, List.length_nil, Nat.add_zero, List.append_nil]
    obtain ⟨g, off, cap, rfl, _⟩ := h.at_ (by omega)
    have HC := Lib.hid (bclone_any h.rd (by omega))
    have d1 : decide ((u : Int) < 0) = false := by rw [decide_eq_false_iff_not]; omega
    have d2 : decide ((2147483647 : Int) < (u : Int)) = true := by rw [decide_eq_true_eq]; omega
    have d3 : (2147483647 : Int) < (u : Int) := by omega
    clear h hu hm h0
    go_enter Tryz.func46, Tryz.ntmps46
    go_wp2_with fail
    refine HC.out.mono ?_
    rintro e w1 ⟨v1, rfl, h1⟩
    have H1 := Lib.hid h1
    clear h1 HC
    go_wp2_with fail
    go_ret
    exact ⟨v1, rfl, H1.out⟩
theorem trim_at {w w' : World} {g : Nat} {s : Sec} (h : Vec w 1 (.slice (some ⟨g, 0, none⟩) 512 512) 512 (bv s)) (hs : s.length = 512) (o : Only None' w w') : Calls Tryz.prog 47 #[.slice (some ⟨g, 0, none⟩) 512 512, .string ⟨#[0]⟩] w' fun e w'' => e = .returned (.slice (some ⟨g, 0, none⟩) (trimR s).length 512) ∧ w' = w'' := by
  have := trimRight_any (w := w') (g := g) (off := 0) (cap := 512) (s := s) (fun j u hu => (h.only o fun _ _ e => e).range j u hu) (by omega) (by omega) (by omega)
  rw [hs] at this
  refine this.mono ?_
  rintro e w2 ⟨k, rfl, h1, h2, rfl⟩
  have : k = (trimR s).length := by rw [← h2, List.length_take]; omega
  rw [this]
  exact ⟨rfl, rfl⟩
theorem trim_rd {w w' : World} {g : Nat} {s : Sec} (h : Vec w 1 (.slice (some ⟨g, 0, none⟩) 512 512) 512 (bv s)) (hs : s.length = 512) (o : Only None' w w') : Rd w' 1 (.slice (some ⟨g, 0, none⟩) (trimR s).length 512) (trimR s).length (bv (trimR s)) := by
  obtain ⟨k, hk⟩ := trimR_pre s
  have hl := trimR_len s
  have hv := h.only o fun _ _ e => e
  refine ⟨by rw [bv_length, Nat.mul_one], .inr ⟨⟨g, 0, none⟩, 512, rfl, by omega, by unfold maxLen; omega, fun j u hu => ?_⟩⟩
  rw [add_mid' (⟨g, 0, none⟩) j rfl]
  refine hv.range j u ?_
  rw [hk]
  unfold bv at hu ⊢
  rw [List.map_append, List.getElem?_append_left]
  · exact hu
  · exact (List.getElem?_eq_some_iff.1 hu).1
section
variable {a : Act} {o : Oper} {x : Operand}
theorem y_str {w : World} {v : Value} {l : List UInt8} {n : Nat} (hn : n = l.length) (h : Rd w 1 v n (bv l)) (ho : o.op = .convert 35 9 x) (hx : a.eval x = v) : (execOp a.eval o).run Tryz.prog w = .ok (.value (.string (st l))) w := by
  unfold execOp
  simp only [ho, hx, Sem.run_bind, rd_string hn h, Result.andThen_ok, Sem.run_pure]
end
theorem append_sy {w : World} {L : Lo} {R : Nat} {F : Nat → Prop} {s : Sy} (h : SyAt w L R F s) (hrok : s.r.Ok) (hdd : s.d.dead = false) (hl : s.r.first + s.r.count ≤ s.d.lasts.length) {n : Nat} (hf : s.d.Few n) (hn : n ≤ 900000) {g off c : Nat} {rec : Rec} (hr : Vec w 1 (.slice (some ⟨g, off, none⟩) rec.length c) rec.length (bv rec)) (hg : ¬ allS L R F g) (hb : rec.length ≤ 1000000) :
    Calls Tryz.prog 48 #[.pointer (some ⟨R, 0, none⟩), .slice (some ⟨g, off, none⟩) rec.length c] w fun e w' => e = .returned (.int .i64 (s.append rec).1) ∧ ∃ F', SyAt w' L R F' (s.append rec).2 ∧ To w w' L R F L R F' := by
  unfold Sy.append
  have hgl : g < w.heap.size := hr.lt rfl
  obtain ⟨_, _, he, hc, hcm⟩ := hr.shape
  injection he with _ _ he
  subst he
  cases hx : refuse s.r (cutN rec.length) with
  | some code =>
    rw [app_refused hx]
    refine (append_no h.ring hrok h.disk hdd _ _ _ (by omega) hx).mono ?_
    rintro e w' ⟨h1, q, rfl⟩
    have o : Only None' w (w.drewN q) := (Only.refl _ _).drewN q
    exact ⟨h1, F, h.new o, rfl, rfl, o.mono fun _ _ e => e.elim, fun k hk => .inl hk, fun k hk => .inl hk⟩
  | none =>
    refine (append_go h.ring hrok h.disk hdd hl hf hn h.rf hr.rd hc hcm (fun e => hg (.inr (.inr e))) hgl (fun e => hg (.inr (.inl e))) (by omega) hx).mono ?_
    rintro e w' ⟨h1, F', h2, h3, h4, h5⟩
    refine ⟨h1, F', ⟨h.pg.only h5.only fun k hk e => ?_, h2, h3, fun k hk hF => ?_, h.rp, h4⟩, rfl, rfl, h5.only.mono fun k _ e => ?_, fun k hk => .inl hk, fun k hk => ?_⟩
    · rcases e with e | rfl
      · exact h.ap k hk e
      · exact h.rp hk
    · rcases h5.fresh k (.inl hF) with (e | rfl) | e
      · exact h.ap k hk e
      · exact h.rp hk
      · have := h.pg.lt hk; omega
    · exact e.elim (fun e => .inr (.inr e)) fun e => .inr (.inl e)
    · rcases h5.fresh k (.inl hk) with (e | e) | e
      · exact .inl e
      · exact absurd (e ▸ hk) h4
      · exact .inr e
end Go.Proofs.YteoeaojebklfjaaGreatDoor
namespace Go.Proofs.YteoeaojebklfjaaGreatDoor
open Go.RowKit Go.Maps
set_option linter.unusedVariables false

theorem layP_few (first : Nat) : ∀ (l : List (Nat × Sec)) (d : Dk) (n : Nat), d.Few n → (layP first l d).2.Few (n + l.length)
  | [], d, n, h => h
  | q :: l, d, n, h => by
    rw [layP_cons]
    split
    · split
      · exact (h.write _ _).mono (by rw [List.length_cons]; omega)
      · have := layP_few first l _ _ (h.write (first + q.1) q.2)
        rwa [List.length_cons, show n + (l.length + 1) = n + 1 + l.length by omega]
    · exact h.mono (by omega)
theorem layP_len (first : Nat) : ∀ (l : List (Nat × Sec)) (d : Dk), (layP first l d).2.lasts.length = d.lasts.length
  | [], _ => rfl
  | q :: l, d => by
    rw [layP_cons]
    split
    · split
      · exact Dk.write_len _ _ _
      · rw [layP_len first l, Dk.write_len]
    · rfl
theorem layP_live (first : Nat) : ∀ (l : List (Nat × Sec)) (d : Dk), d.dead = false → (layP first l d).1 = 0 → (layP first l d).2.dead = false
  | [], _, h, _ => h
  | q :: l, d, h, h0 => by
    rw [layP_cons] at h0 ⊢
    split at h0
    · rename_i hl
      rw [if_pos hl]
      split at h0
      · cases h0
      · rename_i hdue
        rw [if_neg hdue]
        exact layP_live first l _ (Dk.write_live (by simpa using hdue) h _ _) h0
    · cases h0
theorem settleD_few {first base n : Nat} {l : List (Nat × Sec)} {d : Dk} (h : d.Few n) : (settleD first l d base).2.Few (n + l.length + 3) := by
  have h1 := layP_few first l d n h
  unfold settleD
  split
  · exact h1.mono (by omega)
  · split
    · exact h1.flush.mono (by omega)
    · exact (headR_few h1.flush base).mono (by omega)
theorem settleD_len {first base : Nat} {l : List (Nat × Sec)} {d : Dk} : (settleD first l d base).2.lasts.length = d.lasts.length := by
  unfold settleD
  split
  · exact layP_len _ _ _
  · split
    · rw [Dk.flush_len, layP_len]
    · rw [headR_len, Dk.flush_len, layP_len]
theorem settleD_live {first base : Nat} {l : List (Nat × Sec)} {d : Dk} (h : d.dead = false) (h0 : (settleD first l d base).1 = 0) : (settleD first l d base).2.dead = false := by
  unfold settleD at h0 ⊢
  split at h0
  · rename_i hc
    exact absurd h0 hc
  · rename_i hc
    rw [if_neg hc]
    split at h0
    · cases h0
    · rename_i hdue
      rw [if_neg hdue]
      exact headR_live (flush_live (layP_live first l d h (by simpa using hc)) (by simpa using hdue)) h0
theorem puts_few (pl : Nat → Nat) : ∀ (ps : List Pc) (d : Dk) (n : Nat), d.Few n → (Dk.puts pl ps d).1.Few (n + ps.length)
  | [], d, n, h => h
  | p :: ps, d, n, h => by
    rw [Dk.puts]
    split
    · exact (h.write _ _).mono (by rw [List.length_cons]; omega)
    · have := puts_few pl ps _ _ (h.write (pl p.n) p.lay)
      rwa [List.length_cons, show n + (ps.length + 1) = n + 1 + ps.length by omega]
theorem puts_len (pl : Nat → Nat) : ∀ (ps : List Pc) (d : Dk), (Dk.puts pl ps d).1.lasts.length = d.lasts.length
  | [], _ => rfl
  | p :: ps, d => by
    rw [Dk.puts]
    split
    · exact Dk.write_len _ _ _
    · rw [puts_len pl ps, Dk.write_len]
theorem puts_alive (pl : Nat → Nat) : ∀ (ps : List Pc) (d : Dk), d.dead = false → (Dk.puts pl ps d).2 = true → (Dk.puts pl ps d).1.dead = false
  | [], _, h, _ => h
  | p :: ps, d, h, h0 => by
    rw [Dk.puts] at h0 ⊢
    split at h0
    · cases h0
    · rename_i hdue
      rw [if_neg hdue]
      exact puts_alive pl ps _ (Dk.write_live (by simpa using hdue) h _ _) h0
theorem appR_few {r : Rg} {d : Dk} {n : Nat} (h : d.Few n) (rec : Rec) : (appR r d rec).2.2.Few (n + cutN rec.length) := by
  have h1 := puts_few r.place (cutR r.last rec) d n h
  rw [cutR_length] at h1
  unfold appR
  split
  · exact h.mono (by omega)
  · split
    · exact h.mono (by omega)
    · split
      · exact h.mono (by omega)
      · split
        · exact h.mono (by omega)
        · split
          · rename_i d' e; rw [e] at h1; exact h1
          · rename_i d' e; rw [e] at h1; exact h1
theorem appR_len {r : Rg} {d : Dk} (rec : Rec) : (appR r d rec).2.2.lasts.length = d.lasts.length := by
  have h1 := puts_len r.place (cutR r.last rec) d
  unfold appR
  split
  · rfl
  · split
    · rfl
    · split
      · rfl
      · split
        · rfl
        · split
          · rename_i d' e; rw [e] at h1; exact h1
          · rename_i d' e; rw [e] at h1; exact h1
theorem appR_live {r : Rg} {d : Dk} {rec : Rec} (hd : d.dead = false) (h : (appR r d rec).1 ≠ 20) : (appR r d rec).2.2.dead = false := by
  have h1 := puts_alive r.place (cutR r.last rec) d hd
  unfold appR at h ⊢
  split
  · exact hd
  · rename_i c1
    rw [if_neg c1] at h
    split
    · exact hd
    · rename_i c2
      rw [if_neg c2] at h
      split
      · exact hd
      · rename_i c3
        rw [if_neg c3] at h
        split
        · exact hd
        · rename_i c4
          rw [if_neg c4] at h
          split
          · rename_i d' e; rw [e] at h1; exact h1 rfl
          · rename_i d' e
            rw [e] at h
            exact absurd rfl h
theorem appR_keep {r : Rg} {d : Dk} {rec : Rec} (h : (appR r d rec).1 ≠ 0) : (appR r d rec).2.1 = r := by
  unfold appR at h ⊢
  split
  · rfl
  · rename_i c1
    rw [if_neg c1] at h
    split
    · rfl
    · rename_i c2
      rw [if_neg c2] at h
      split
      · rfl
      · rename_i c3
        rw [if_neg c3] at h
        split
        · rfl
        · rename_i c4
          rw [if_neg c4] at h
          split
          · rename_i d' e; rw [e] at h; exact absurd rfl h
          · rfl
end Go.Proofs.YteoeaojebklfjaaGreatDoor
