/- T4 T5 in one text. -/
import Derived.Test.YteoeaojebklfjaaGreatDoorV27
/- PagerApart (4): the walk. -/
namespace Go.Proofs.YteoeaojebklfjaaGreatDoor
open Go.RowKit Go.Maps
set_option linter.unusedVariables false
set_option linter.unusedSimpArgs false
set_option maxRecDepth 20000
/-- where the law stands: the pager, the marks (block bi), the pages that were taken -/
structure Ar (w0 w : World) (L : Lo) (R : Nat) (F : Nat → Prop) (s : Sy) (G : List Nat) (bi : Nat) (bits : List Bool) (v : Value) (l : List Nat) : Prop where
  pw : Pw w0 w L R F s 200 4 0 G []
  marks : Vec w 1 (.slice (some ⟨bi, 0, none⟩) 200 200) 200 (bo bits)
  far : w0.heap.size ≤ bi ∧ ¬ allS L R F bi
  nums : Nums w0 w L R F v l
  ne : ∀ g, v.ownBlock = some g → g ≠ bi
/-- what is marked is in use -/
structure ArP (s : Sy) (bits : List Bool) (l : List Nat) (left : Nat) : Prop where
  bl : bits.length = 200
  bits : ∀ n, n < 149 → bits.getD n false = s.p.uses (n : Int)
  ls : ∀ n ∈ l, 1 ≤ n ∧ n < 149
  free : s.p.free + (left : Int) = 148
section
variable {w0 w w' : World} {L : Lo} {R : Nat} {F : Nat → Prop} {s s' : Sy} {G G' : List Nat} {bi : Nat} {bits : List Bool} {v v' : Value} {l : List Nat} {left : Nat}
theorem Ar.pg (h : Ar w0 w L R F s G bi bits v l) (hp : Pw w0 w' L R F s' 200 4 0 G' []) (t : To w w' L R F L R F) : Ar w0 w' L R F s' G' bi bits v l :=
  ⟨hp, h.marks.only t.only fun g hg => by injection hg with hg; have hg' : bi = g := hg; exact hg' ▸ h.far.2, h.far, h.nums.to t, h.ne⟩
theorem Ar.quiet (h : Ar w0 w L R F s G bi bits v l) (o : Only None' w w') : Ar w0 w' L R F s G bi bits v l := h.pg (h.pw.quiet o) (To.new o)
theorem Ar.set (h : Ar w0 w L R F s G bi bits v l) {n : Nat} (hn : n < 200) (b : Bool) : Ar w0 (w.setCell ⟨bi, n, none⟩ (.bool b)) L R F s G bi (bits.set n b) v l := by
  have o : Only (fun k => k = bi) w (w.setCell ⟨bi, n, none⟩ (.bool b)) := (Only.refl (fun k => k = bi) w).setCell (p := ⟨bi, n, none⟩) rfl _
  refine ⟨h.pw.aside o fun k e => e ▸ h.far, ?_, h.far, h.nums.only o fun g hg e => h.ne g hg e, h.ne⟩
  have := h.marks.set1 hn (.bool b)
  have e : (bo bits).set n (.bool b) = bo (bits.set n b) := by unfold bo; rw [List.map_set]
  rw [e] at this
  exact this
theorem Ar.push (h : Ar w0 w L R F s G bi bits v l) {n : Nat} {w2 : World} (o : Only None' w w2) (hv : Vec w' 1 v' (l.length + 1) (inv l ++ [.int .i64 (n : Int)])) (hg : w2.grownBy w' v.ownBlock) (hf : ∀ k, v'.ownBlock = some k → v.ownBlock = some k ∨ w2.heap.size ≤ k) : Ar w0 w' L R F s G bi bits v' (l ++ [n]) := by
  have h2 := h.quiet o
  have og : Only (fun k => v.ownBlock = some k) w2 w' := (Only.refl _ _).grown hg fun k hk => hk
  refine ⟨h2.pw.aside og fun k e => h2.nums.fresh k e, h2.marks.only og fun g hg e => ?_, h.far, h.nums.push (fun k hk => h.pw.at_.lt hk) h.pw.only.size o hv hf, fun g hg => ?_⟩
  · injection hg with hg
    have hg' : bi = g := hg
    exact h.ne g e hg'.symm
  · rcases hf g hg with e | e
    · exact h.ne g e
    · have h9 : bi < w2.heap.size := h2.marks.lt rfl
      omega
theorem Ar.mark (h : Ar w0 w L R F s G bi bits v l) (hp : ArP s bits l left) {n : Nat} (hn : n < 149) : w.cell? ⟨bi, n, none⟩ = some (.bool (s.p.uses (n : Int))) := by
  have hl := hp.bl
  have hh := h.marks.range n (.bool (bits[n]'(by omega))) (by unfold bo; rw [List.getElem?_map, List.getElem?_eq_getElem (by omega)]; rfl)
  rw [Nat.zero_add] at hh
  rw [hh, ← hp.bits n hn, List.getD_eq_getElem?_getD, List.getElem?_eq_getElem (by omega)]
  rfl
theorem Ar.bit (h : Ar w0 w L R F s G bi bits v l) (hl : bits.length = 200) {n : Nat} (hn : n < 200) {b : Bool} (hb : bits.getD n false = b) : w.cell? ⟨bi, n, none⟩ = some (.bool b) := by
  have hh := h.marks.range n (.bool (bits[n]'(by omega))) (by unfold bo; rw [List.getElem?_map, List.getElem?_eq_getElem (by omega)]; rfl)
  rw [Nat.zero_add] at hh
  rw [hh, ← hb, List.getD_eq_getElem?_getD, List.getElem?_eq_getElem (by omega)]
  rfl
theorem Ar.thaw (h : Ar w0 w L R F s G bi bits v l) {n : Nat} (hn : n < 200) : w.frozen? ⟨bi, n, none⟩ = false := (h.marks.free0 (k := n) (by omega)).2
/-- a page was taken -/
theorem ArP.took (hp : ArP s bits l left) {p' : Pg} {k : Nat} (ht : Took 200 s.p p' s.d G' [] k) (h149 : s.p.pages = 149) : ArP ⟨p', s.r, s.d⟩ (bits.set k true) (l ++ [k]) (left + 1) := by
  have hlt := ht.lt
  have hpos := ht.pos
  refine ⟨by rw [List.length_set]; exact hp.bl, fun n hn => ?_, fun n hn => ?_, ?_⟩
  · show (bits.set k true).getD n false = p'.uses (n : Int)
    rw [ht.uses, ← hp.bits n hn, List.getD_eq_getElem?_getD, List.getD_eq_getElem?_getD, List.getElem?_set]
    have hl := hp.bl
    by_cases e : k = n
    · subst e
      rw [if_pos rfl, if_pos (by omega)]
      simp
    · rw [if_neg e]
      have : decide ((n : Int) = (k : Int)) = false := decide_eq_false (by omega)
      rw [this, Bool.or_false]
  · rcases List.mem_append.1 hn with hn | hn
    · exact hp.ls n hn
    · simp at hn; subst hn; omega
  · show p'.free + _ = 148
    have := hp.free
    rw [ht.free]
    omega
/-- a page was dropped -/
theorem ArP.dropped (hp : ArP s bits l left) {k : Nat} (hlv : Lv 200 s.p s.d G []) (hu : s.p.uses (k : Int) = true) (hk : k < 149) (h1 : 1 ≤ left) : ArP ⟨s.p.dropped k, s.r, s.d⟩ (bits.set k false) l (left - 1) := by
  obtain ⟨_, h2, _, h4⟩ := hlv.drop hu
  refine ⟨by rw [List.length_set]; exact hp.bl, fun n hn => ?_, hp.ls, ?_⟩
  · show (bits.set k false).getD n false = (s.p.dropped k).uses (n : Int)
    rw [h2, ← hp.bits n hn, List.getD_eq_getElem?_getD, List.getD_eq_getElem?_getD, List.getElem?_set]
    have hl := hp.bl
    by_cases e : k = n
    · subst e
      rw [if_pos rfl, if_pos (by omega)]
      simp
    · rw [if_neg e]
      have : decide ((n : Int) ≠ (k : Int)) = true := decide_eq_true (by omega)
      rw [this, Bool.and_true]
  · show (s.p.dropped k).free + _ = 148
    have := hp.free
    rw [h4]
    omega
theorem ArP.undropped (hp : ArP s bits l left) {k : Nat} (hu : s.p.uses (k : Int) = false) (hk : k < 149) : ArP s (bits.set k false) l left := by
  refine ⟨by rw [List.length_set]; exact hp.bl, fun n hn => ?_, hp.ls, hp.free⟩
  rw [← hp.bits n hn, List.getD_eq_getElem?_getD, List.getD_eq_getElem?_getD, List.getElem?_set]
  have hl := hp.bl
  by_cases e : k = n
  · subst e
    have := hp.bits k hk
    rw [hu, List.getD_eq_getElem?_getD] at this
    rw [if_pos rfl, if_pos (by omega), this]
    rfl
  · rw [if_neg e]
theorem ArP.less {l' : List Nat} (hp : ArP s bits l' left) (h : ∀ n ∈ l, n ∈ l') : ArP s bits l left := ⟨hp.bl, hp.bits, fun n hn => hp.ls n (h n hn), hp.free⟩
theorem ArP.some_left (hp : ArP s bits l left) (hlv : Lv 200 s.p s.d G []) {k : Nat} (hu : s.p.uses (k : Int) = true) : 1 ≤ left := by
  obtain ⟨h1, _, _, h4⟩ := hlv.drop hu
  have h5 := h1.free
  have h6 := h1.fl
  have h7 := h1.mu
  have h8 : (s.p.dropped k).pages = 149 := h1.pages
  have := hp.free
  rw [h8] at h5
  omega
theorem ArP.le (hp : ArP s bits l left) (hlv : Lv 200 s.p s.d G []) : left ≤ 148 := by
  have := hp.free
  have := hlv.free0
  omega
end
end Go.Proofs.YteoeaojebklfjaaGreatDoor
/- PagerApart (4): the walk. -/
namespace Go.Proofs.YteoeaojebklfjaaGreatDoor
open Go.RowKit Go.Maps
set_option linter.unusedVariables false
set_option linter.unusedSimpArgs false
set_option maxRecDepth 20000
theorem apart_long (x y : Int) (a : Option Addr) (n c : Nat) (w : World) (h : 200 < n) : Calls Tryz.prog 4 #[.int .i64 x, .slice a n c, .int .i64 y] w fun e w' => e = .returned (.bool true) ∧ Only None' w w' := by
  have h1 : (200 : Int) < (n : Int) := by omega
  go_enter Tryz.func4, Tryz.ntmps4
  go_wp2_with fail
  refine (works_any w).mono ?_
  rintro e w1 ⟨rfl, o⟩
  have O := Lib.hid o
  clear o
  go_wp2_with fail
  refine (works_any w1).mono ?_
  rintro e w2 ⟨rfl, o⟩
  have O2 := Lib.hid (O.out.trans o)
  clear o
  go_wp2_with fail
  go_ret
  exact ⟨rfl, O2.out⟩
set_option maxHeartbeats 8000000 in
theorem apart_main (x y : Int) (a : Option Addr) (n c : Nat) (dl : List Int) (w : World) (rd : Rd w 1 (.slice a n c) dl.length (dl.map (Value.int .i64))) (h : n ≤ 200) : Calls Tryz.prog 4 #[.int .i64 x, .slice a n c, .int .i64 y] w fun e w' => e = .returned (.bool true) ∧ Only None' w w' := by
  have h1 : ¬ (200 : Int) < (n : Int) := by omega
  have RD := Lib.hid rd
  have H200 := Lib.hid h
  have HLN : Hid (dl.length = n) := by
    obtain ⟨a', c', e⟩ := rd.shape
    injection e with _ e _
    exact e.symm
  obtain ⟨take, htk, htk2⟩ := mod_is x 200 (by decide) (by decide)
  obtain ⟨again, hag, hag2⟩ := mod_is y 200 (by decide) (by decide)
  have HB := Lib.hid (And.intro htk2 hag2)
  clear rd h htk2 hag2
  go_enter Tryz.func4, Tryz.ntmps4
  go_wp2_with fail
  refine (works_any w).mono ?_
  rintro e w1 ⟨rfl, o1⟩
  have O1 := Lib.hid o1
  clear o1
  go_wp2_with fail
  refine (fresh_any 200 200 rfl (by decide) (by decide) w1).mono ?_
  rintro e w2 ⟨L, R, F, rfl, hp⟩
  have hp0 : Pw w w2 L R F (formatS 200) 200 4 0 [] [] := ⟨hp.at_, fun k hk => by have := hp.new k hk; have := O1.out.size; omega, O1.out.trans hp.only, hp.lv, hp.lg, hp.calm⟩
  have hfr := wk_free hp0
  have hf148 : (formatS 200).p.free = 148 := rfl
  have hpg149 : (formatS 200).p.pages = 149 := rfl
  have hus : ∀ k : Nat, (formatS 200).p.uses (k : Int) = false := fun k => by
    unfold Pg.uses
    have : (formatS 200).p.m.used = 1 := rfl
    rw [this]
    by_cases e : k = 0
    · subst e; rfl
    · have : decide ((k : Int) < ((1 : Nat) : Int)) = false := decide_eq_false (by omega)
      rw [this]; simp
  rw [hf148] at hfr
  obtain ⟨s, hs⟩ : ∃ s, s = formatS 200 := ⟨_, rfl⟩
  rw [← hs] at hp0 hfr hf148 hpg149 hus
  have HP0 := Lib.hid hp0
  have HFR := Lib.hid hfr
  have HS0 := Lib.hid (And.intro hf148 (And.intro hpg149 hus))
  clear hp hp0 hfr hf148 hpg149 hus hs O1
  go_wp2_with fail
  refine HFR.out.mono ?_
  rintro e w3 ⟨rfl, h3, o3⟩
  obtain ⟨w4, hm, hv4, o4, l4⟩ := make43 200 w3 (by decide)
  have hm2 : (Instr.makeSlice 43 (.int .i64 200) (.int .i64 200)).run Tryz.prog w3 = .ok (.slice (some ⟨w3.heap.size, 0, none⟩) 200 200) w4 := hm
  obtain ⟨bi, hbi⟩ : ∃ bi, bi = w3.heap.size := ⟨_, rfl⟩
  have hA0 : Ar w w4 L R F s [] bi (List.replicate 200 false) (.slice none 0 0) [] := by
    rw [hbi]
    exact ⟨h3.quiet o4, hv4, ⟨h3.only.size, h3.lit (Nat.le_refl _)⟩, Nums.nil, fun g hg => by cases hg⟩
  have hP0 : ArP s (List.replicate 200 false) [] 0 := by
    refine ⟨List.length_replicate, fun k hk => ?_, fun k hk => by simp at hk, by rw [HS0.out.1]; rfl⟩
    rw [HS0.out.2.2, List.getD_eq_getElem?_getD, List.getElem?_replicate, if_pos (by omega)]
    rfl
  rw [← hbi] at hm2
  have HA0 := Lib.hid (And.intro hA0 hP0)
  have t0 : (0 : Int) ≤ (take : Int) := by omega
  have t1 : (take : Int) < 200 := HB.out.1
  clear h3 o3 hm hv4 o4 l4 hbi hA0 hP0 HFR HP0
  go_wp2_with fail
  clear hm2 htk
  go_loopg [11, 12] take (fun gg z t wr => ∃ (i : Nat) (l : List Nat) (bits : List Bool) (s2 : Sy) (G : List Nat), gg = take - i ∧ i ≤ take ∧ t = .int .i64 (i : Int) ∧ Hid (Ar w wr L R F s2 G bi bits z l ∧ ArP s2 bits l l.length ∧ l.length = min i 148))
  case atStart => exact ⟨0, [], _, s, [], rfl, Nat.zero_le _, rfl, Lib.hid ⟨HA0.out.1, HA0.out.2, rfl⟩⟩
  case round =>
    obtain ⟨i, l, bits, s2, G, rfl, hi, rfl, HL⟩ := hrel
    by_cases hlt : i < take
    · have i0 : (0 : Int) ≤ (i : Int) := by omega
      have i1 : (i : Int) < (take : Int) := by omega
      have hpg : s2.p.pages = 149 := HL.out.1.pw.lv.pages
      have hfre := HL.out.2.1.free
      have hll := HL.out.2.2
      by_cases h148 : i < 148
      · have i2 : (i : Int) < 148 := by omega
        have hl2 : l.length = i := by omega
        obtain ⟨k, p', G', ht, hc⟩ := wk_alloc HL.out.1.pw (by decide) (by omega)
        have HT := Lib.hid ht
        have HC := Lib.hid hc
        have hk149 : k < 149 := by have := ht.lt; omega
        have k1 : (1 : Int) ≤ (k : Int) := by have := ht.pos; omega
        have k2 : (k : Int) < 149 := by omega
        have HK := Lib.hid (And.intro hlt (And.intro h148 (And.intro hl2 (And.intro hk149 (And.intro hpg (And.intro hi hfre))))))
        clear hlt h148 hl2 ht hc hk149 hpg hi hfre hll
        go_wp2_with fail
        refine HC.out.mono ?_
        rintro e w5 ⟨rfl, h5, t5⟩
        have ha5 := HL.out.1.pg h5 t5
        have hcell := ha5.bit HL.out.2.1.bl (n := k) (by have := HK.out.2.2.2.1; omega) ((HL.out.2.1.bits k HK.out.2.2.2.1).trans HT.out.was)
        have hp5 := wk_pages h5
        rw [show (⟨p', s2.r, s2.d⟩ : Sy).p.pages = 149 from HT.out.pages.trans HK.out.2.2.2.2.1] at hp5
        have hf5 := wk_free h5
        have hfe : (⟨p', s2.r, s2.d⟩ : Sy).p.free = 148 - (i : Int) - 1 := by
          have h1 := HT.out.free
          have h2 := HK.out.2.2.2.2.2.2
          have h3 := HK.out.2.2.1
          show p'.free = _
          rw [h1]
          omega
        rw [hfe] at hf5
        have HP5 : Hid (Calls Tryz.prog 21 #[.pointer (some ⟨L.P, 0, none⟩)] w5 fun e w' => e = .returned (.int .i64 149) ∧ w5 = w') := Lib.hid hp5
        have HF5 := Lib.hid hf5
        have HA5 := Lib.hid ha5
        clear h5 t5 ha5 hp5 hf5 hfe HC
        go_wp2_with fail
        refine HP5.out.mono ?_
        rintro e w6 ⟨rfl, rfl⟩
        go_wp2_with fail
        refine HF5.out.mono ?_
        rintro e w6 ⟨rfl, h6, o6⟩
        have ha6 := HA5.out.quiet o6
        have hcell6 := ha6.bit HL.out.2.1.bl (n := k) (by have := HK.out.2.2.2.1; omega) ((HL.out.2.1.bits k HK.out.2.2.2.1).trans HT.out.was)
        have hfz6 := ha6.thaw (n := k) (by have := HK.out.2.2.2.1; omega)
        obtain ⟨w7, hw7⟩ : ∃ w7, w7 = w6.setCell ⟨bi, k, none⟩ (.bool true) := ⟨_, rfl⟩
        have ha7 := ha6.set (n := k) (by have := HK.out.2.2.2.1; omega) true
        rw [← hw7] at ha7
        have HA7 := Lib.hid ha7
        have HP7 := Lib.hid (HL.out.2.1.took HT.out HK.out.2.2.2.2.1)
        have HW7 := Lib.hid hw7
        have HSZ := Lib.hid (show l.length + 1 ≤ 1000 by have := HK.out.2.2.1; have := HK.out.2.1; omega)
        obtain ⟨va, vc, hve⟩ := ha7.nums.row.shape
        obtain ⟨hve, _, _⟩ := hve
        subst hve
        clear ha6 ha7 hw7 h6 o6 hcell HP5 HF5 HA5
        go_upto_region 18 with fail
        rw [← HW7.out]
        clear HW7 hcell6 hfz6
        go_wp2_with (first | (at_builtin; refine wpList_append_any rfl _ _ 28 rfl 3 Tryz.t3 (.int .i64 0) 1 8 Tryz.underlying28 info3 t3_zero t3_size t3_bytes rfl (by decide) (.slice va l.length vc) l.length (inv l) rfl (HA7.out.nums.row.only ((Only.refl None' w7).alloc _) fun _ _ e => e) (.slice (some ⟨w7.heap.size, 0, none⟩) 1 1) 1 [.int .i64 (k : Int)] rfl (rd_one' w7 _ 3) (one_int _) (by have := HSZ.out; unfold maxLen; omega) (by have := HSZ.out; omega) ?_; intro v2 w8 hv2 hg2 hf2; have HY := Lib.hid (And.intro hv2 (And.intro hg2 hf2)); clear hv2 hg2 hf2))
        go_roundg (take - (i + 1))
        case rel =>
          refine ⟨i + 1, l ++ [k], bits.set k true, ⟨p', s2.r, s2.d⟩, G', rfl, HK.out.1, by first | rfl | (congr 1), Lib.hid ⟨HA7.out.push ((Only.refl None' w7).alloc _) HY.out.1 HY.out.2.1 HY.out.2.2, ?_, ?_⟩⟩
          · rw [List.length_append, List.length_singleton]
            exact HP7.out
          · rw [List.length_append, List.length_singleton]
            have := HK.out.2.2.1; have := HK.out.2.1; omega
        case measure => have := HK.out.1; omega
      · have i2 : ¬ (i : Int) < 148 := by omega
        have hfu := wk_full HL.out.1.pw (by omega)
        have HFU := Lib.hid hfu
        have HK := Lib.hid (And.intro hlt (And.intro h148 hll))
        clear hlt h148 hfu hpg hi hfre hll
        go_wp2_with fail
        refine HFU.out.mono ?_
        rintro e w5 ⟨rfl, h5, o5⟩
        have HA5 := Lib.hid (HL.out.1.quiet o5)
        clear h5 o5
        go_wp2_with fail
        go_roundg (take - (i + 1))
        case rel => exact ⟨i + 1, l, bits, s2, G, rfl, HK.out.1, by first | rfl | (congr 1), Lib.hid ⟨HA5.out, HL.out.2.1, by have := HK.out.2.1; have := HK.out.2.2; omega⟩⟩
        case measure => have := HK.out.1; omega
    · have i1 : ¬ (i : Int) < (take : Int) := by omega
      obtain ⟨va, vc, hve, _, _⟩ := HL.out.1.nums.row.shape
      subst hve
      have HA := Lib.hid HL.out.1
      have HP := Lib.hid HL.out.2.1
      have HLL := Lib.hid (show l.length ≤ 148 by have := HL.out.2.2; omega)
      obtain ⟨ln, hln⟩ : ∃ ln, ln = l.length := ⟨_, rfl⟩
      have HLE := Lib.hid hln
      rw [← hln]
      have ln1 : (ln : Int) ≤ 148 := by have := HLL.out; omega
      clear hlt hi HL hln
      go_wp2_with fail
      clear i1
      go_loopg [15, 16] n (fun gg z t wr => ∃ (i left : Nat) (bits : List Bool) (s2 : Sy) (G : List Nat), gg = n - i ∧ i ≤ n ∧ t = .int .i64 (i : Int) ∧ z = .int .i64 (left : Int) ∧ Hid (Ar w wr L R F s2 G bi bits (.slice va l.length vc) l ∧ ArP s2 bits l left))
      case atStart => exact ⟨0, ln, bits, s2, G, rfl, Nat.zero_le _, rfl, rfl, Lib.hid ⟨HA.out, by rw [HLE.out]; exact HP.out⟩⟩
      case round =>
        clear HA HP
        clear bits s2 G
        obtain ⟨i, left, bits, s2, G, rfl, hi, rfl, rfl, HL⟩ := hrel
        by_cases hlt : i < n ∧ 0 < ln
        · obtain ⟨hlt, hl0⟩ := hlt
          have hil : i < dl.length := by have := HLN.out; omega
          obtain ⟨g, off, cap, e, hg, hcell⟩ := RD.out.at_ (by omega)
          injection e with e e2 e3
          subst e
          clear e2 e3
          have hzz := hcell i _ (by rw [List.getElem?_map, List.getElem?_eq_getElem hil]; rfl)
          have cz := (HL.out.1.pw.only.cell hg (fun e => e) (off + i)).trans hzz
          obtain ⟨z, hz⟩ : ∃ z, z = dl[i] := ⟨_, rfl⟩
          rw [← hz] at cz
          obtain ⟨j, hj, hj2⟩ := mod_is z (ln : Int) (by omega) (by omega)
          have hwl : IntKind.u64.wrap (ln : Int) = (ln : Int) := by
            unfold IntKind.wrap
            simp only [IntKind.signed, Bool.false_and, if_false]
            exact Int.emod_eq_of_lt (by omega) (by simp [IntKind.bits]; omega)
          have hjl : j < l.length := by have := HLE.out; omega
          obtain ⟨k, hk⟩ : ∃ k, l[j]? = some k := ⟨_, List.getElem?_eq_getElem hjl⟩
          obtain ⟨g2, off2, cap2, e, cl⟩ := HL.out.1.nums.cell hk
          injection e with e e2 e3
          subst e
          clear e2 e3
          have hkm := HL.out.2.ls k (List.mem_of_getElem? hk)
          have hb0 := HL.out.2.bits k hkm.2
          have i0 : (0 : Int) ≤ (i : Int) := by omega
          have i1 : (i : Int) < (n : Int) := by omega
          have l0 : (0 : Int) < (ln : Int) := by omega
          have lz : ((ln : Int) == 0) = false := by simp; omega
          have lz2 : ¬ (ln : Int) = 0 := by omega
          have j0 : (0 : Int) ≤ (j : Int) := by omega
          have j1 : (j : Int) < (ln : Int) := by omega
          have k0 : (0 : Int) ≤ (k : Int) := by omega
          have k1 : (k : Int) < 149 := by omega
          have HK := Lib.hid (And.intro hlt (And.intro hi hkm))
          have hcellk := HL.out.1.bit HL.out.2.bl (n := k) (by omega) hb0
          have hfz := HL.out.1.thaw (n := k) (by omega)
          cases hu : s2.p.uses (k : Int) with
          | true =>
            have hleft := HL.out.2.some_left HL.out.1.pw.lv hu
            have hdr := wk_drop HL.out.1.pw hu
            have HDR := Lib.hid hdr
            have HU := Lib.hid (And.intro hu hleft)
            have lf0 : (0 : Int) ≤ (left : Int) := by omega
            have lf1 : (left : Int) ≤ 148 := by have := HL.out.2.le HL.out.1.pw.lv; omega
            rw [hu] at hcellk
            clear hlt hl0 hil hcell hzz hz hj2 hjl hk hkm hb0 hi hdr hleft hu
            go_wp2_with fail
            refine HDR.out.mono ?_
            rintro e w5 ⟨rfl, h5, t5⟩
            have ha5 := HL.out.1.pg h5 t5
            have hb5 := (HL.out.2.bits k HK.out.2.2.2).trans HU.out.1
            have hcell5 := ha5.bit HL.out.2.bl (n := k) (by have := HK.out.2.2.2; omega) hb5
            have hfz5 := ha5.thaw (n := k) (by have := HK.out.2.2.2; omega)
            have HA6 := Lib.hid (ha5.set (n := k) (by have := HK.out.2.2.2; omega) false)
            have HP6 := Lib.hid (HL.out.2.dropped HL.out.1.pw.lv HU.out.1 HK.out.2.2.2 HU.out.2)
            clear hcellk hfz h5 t5 ha5 hb5 cz cl HDR
            go_wp2_with fail
            go_roundg (n - (i + 1))
            case rel => exact ⟨i + 1, left - 1, bits.set k false, _, _, rfl, HK.out.1, by first | rfl | (congr 1), by have := HU.out.2; first | (congr 1; omega) | (simp; omega), Lib.hid ⟨HA6.out, HP6.out⟩⟩
            case measure => have := HK.out.1; omega
          | false =>
            have hdr := wk_nodrop HL.out.1.pw hu
            have HDR := Lib.hid hdr
            have HU := Lib.hid hu
            rw [hu] at hcellk
            clear hlt hl0 hil hcell hzz hz hj2 hjl hk hkm hb0 hi hdr hu
            go_wp2_with fail
            refine HDR.out.mono ?_
            rintro e w5 ⟨rfl, rfl⟩
            have HA6 := Lib.hid (HL.out.1.set (n := k) (by have := HK.out.2.2.2; omega) false)
            have HP6 := Lib.hid (HL.out.2.undropped HU.out HK.out.2.2.2)
            clear cz cl HDR
            go_wp2_with fail
            go_roundg (n - (i + 1))
            case rel => exact ⟨i + 1, left, bits.set k false, _, _, rfl, HK.out.1, by first | rfl | (congr 1), rfl, Lib.hid ⟨HA6.out, HP6.out⟩⟩
            case measure => have := HK.out.1; omega
        · by_cases h2 : i < n
          · have i0 : (0 : Int) ≤ (i : Int) := by omega
            have i1 : (i : Int) < (n : Int) := by omega
            have l0 : ¬ (0 : Int) < (ln : Int) := by omega
            have HA2 : Hid (Ar w wr L R F s2 G bi bits (.slice va l.length vc) l ∧ ArP s2 bits l left) := Lib.hid HL.out
            clear hlt h2 hi HL
            go_wp2_with fail
            go_loopg [15, 19] again (fun gg z t wr => ∃ (i left : Nat) (bits : List Bool) (s2 : Sy) (G : List Nat), gg = again - i ∧ i ≤ again ∧ t = .int .i64 (i : Int) ∧ z = .int .i64 (left : Int) ∧ Hid (Ar w wr L R F s2 G bi bits (.slice va l.length vc) l ∧ ArP s2 bits l left))
            case atStart => exact ⟨0, left, bits, s2, G, rfl, Nat.zero_le _, rfl, rfl, HA2⟩
            case round =>
              clear HA2
              clear bits s2 G left
              obtain ⟨i, left, bits, s2, G, rfl, hi, rfl, rfl, HL⟩ := hrel
              have lf0 : (0 : Int) ≤ (left : Int) := by omega
              have hle := HL.out.2.le HL.out.1.pw.lv
              have lf1 : (left : Int) ≤ 148 := by omega
              have hfre := HL.out.2.free
              by_cases hlt : i < again
              · have i0 : (0 : Int) ≤ (i : Int) := by omega
                have i1 : (i : Int) < (again : Int) := by omega
                by_cases hf0 : s2.p.free = 0
                · have hfu := wk_full HL.out.1.pw hf0
                  have HFU := Lib.hid hfu
                  have lf2 : ¬ (left : Int) < 148 := by omega
                  have lf3 : decide ((left : Int) < 148) = false := decide_eq_false lf2
                  have HFE := Lib.hid hfre
                  clear hlt hf0 hfu hi hle hfre
                  go_wp2_with fail
                  refine HFU.out.mono ?_
                  rintro e w5 ⟨rfl, h5, o5⟩
                  have hf5 := wk_free h5
                  have HF5 := Lib.hid hf5
                  obtain ⟨fr, hfr⟩ : ∃ fr, fr = s2.p.free := ⟨_, rfl⟩
                  rw [← hfr] at HF5 HFE
                  clear h5 o5 hf5 hfr HFU
                  go_wp2_with fail
                  refine HF5.out.mono ?_
                  rintro e w6 ⟨rfl, h6, o6⟩
                  have HO6 := Lib.hid h6.only
                  have hfe := HFE.out
                  have fe : (fr == 148 - (left : Int)) = true := by rw [beq_iff_eq]; omega
                  have fe2 : fr = 148 - (left : Int) := by omega
                  clear h6 o6 hfe
                  go_wp2_with fail
                  go_ret
                  exact ⟨by first | rfl | (rw [fe]) | (simp [fe2]), HO6.out⟩
                · obtain ⟨k, p', G', ht, hc⟩ := wk_alloc HL.out.1.pw (by decide) hf0
                  have HT := Lib.hid ht
                  have HC := Lib.hid hc
                  have hpg : s2.p.pages = 149 := HL.out.1.pw.lv.pages
                  have h0f := HL.out.1.pw.lv.free0
                  have hk149 : k < 149 := by have := ht.lt; omega
                  have k1 : (1 : Int) ≤ (k : Int) := by have := ht.pos; omega
                  have k2 : (k : Int) < 149 := by omega
                  have lf2 : (left : Int) < 148 := by omega
                  have lf3 : decide ((left : Int) < 148) = true := decide_eq_true lf2
                  have HK := Lib.hid (And.intro hlt (And.intro hk149 hpg))
                  clear hlt hf0 ht hc hk149 hpg hi hfre hle h0f lf1
                  go_wp2_with fail
                  refine HC.out.mono ?_
                  rintro e w5 ⟨rfl, h5, t5⟩
                  have ha5 := HL.out.1.pg h5 t5
                  have hcell := ha5.bit HL.out.2.bl (n := k) (by have := HK.out.2.1; omega) ((HL.out.2.bits k HK.out.2.1).trans HT.out.was)
                  have hp5 := wk_pages h5
                  rw [show (⟨p', s2.r, s2.d⟩ : Sy).p.pages = 149 from HT.out.pages.trans HK.out.2.2] at hp5
                  have HP5 : Hid (Calls Tryz.prog 21 #[.pointer (some ⟨L.P, 0, none⟩)] w5 fun e w' => e = .returned (.int .i64 149) ∧ w5 = w') := Lib.hid hp5
                  have HA5 := Lib.hid ha5
                  clear h5 t5 ha5 hp5 HC
                  go_wp2_with fail
                  refine HP5.out.mono ?_
                  rintro e w6 ⟨rfl, rfl⟩
                  have hfz6 := HA5.out.thaw (n := k) (by have := HK.out.2.1; omega)
                  have HA7 := Lib.hid (HA5.out.set (n := k) (by have := HK.out.2.1; omega) true)
                  have HP7 := Lib.hid ((HL.out.2.took HT.out HK.out.2.2).less (l := l) fun n hn => List.mem_append.2 (.inl hn))
                  clear HP5
                  go_wp2_with fail
                  go_roundg (again - (i + 1))
                  case rel => exact ⟨i + 1, left + 1, bits.set k true, _, _, rfl, HK.out.1, by first | exact next_int (by have := HK.out.1; have := HB.out.2; omega) | rfl | (congr 1), by first | rfl | (congr 1), Lib.hid ⟨HA7.out, HP7.out⟩⟩
                  case measure => have := HK.out.1; omega
              · have i0 : (0 : Int) ≤ (i : Int) := by omega
                have i1 : ¬ (i : Int) < (again : Int) := by omega
                have HFE := Lib.hid hfre
                have hf5 := wk_free HL.out.1.pw
                have HF5 := Lib.hid hf5
                obtain ⟨fr, hfr⟩ : ∃ fr, fr = s2.p.free := ⟨_, rfl⟩
                rw [← hfr] at HF5 HFE
                clear hlt hi hle hfre hf5 hfr
                go_wp2_with fail
                refine HF5.out.mono ?_
                rintro e w6 ⟨rfl, h6, o6⟩
                have HO6 := Lib.hid h6.only
                have hfe := HFE.out
                have fe : (fr == 148 - (left : Int)) = true := by rw [beq_iff_eq]; omega
                have fe2 : fr = 148 - (left : Int) := by omega
                clear h6 o6 hfe
                go_wp2_with fail
                go_ret
                exact ⟨by first | rfl | (rw [fe]) | (simp [fe2]), HO6.out⟩
          · have i0 : (0 : Int) ≤ (i : Int) := by omega
            have i1 : ¬ (i : Int) < (n : Int) := by omega
            have HA2 : Hid (Ar w wr L R F s2 G bi bits (.slice va l.length vc) l ∧ ArP s2 bits l left) := Lib.hid HL.out
            clear hlt h2 hi HL
            go_wp2_with fail
            go_loopg [15, 19] again (fun gg z t wr => ∃ (i left : Nat) (bits : List Bool) (s2 : Sy) (G : List Nat), gg = again - i ∧ i ≤ again ∧ t = .int .i64 (i : Int) ∧ z = .int .i64 (left : Int) ∧ Hid (Ar w wr L R F s2 G bi bits (.slice va l.length vc) l ∧ ArP s2 bits l left))
            case atStart => exact ⟨0, left, bits, s2, G, rfl, Nat.zero_le _, rfl, rfl, HA2⟩
            case round =>
              clear HA2
              clear bits s2 G left
              obtain ⟨i, left, bits, s2, G, rfl, hi, rfl, rfl, HL⟩ := hrel
              have lf0 : (0 : Int) ≤ (left : Int) := by omega
              have hle := HL.out.2.le HL.out.1.pw.lv
              have lf1 : (left : Int) ≤ 148 := by omega
              have hfre := HL.out.2.free
              by_cases hlt : i < again
              · have i0 : (0 : Int) ≤ (i : Int) := by omega
                have i1 : (i : Int) < (again : Int) := by omega
                by_cases hf0 : s2.p.free = 0
                · have hfu := wk_full HL.out.1.pw hf0
                  have HFU := Lib.hid hfu
                  have lf2 : ¬ (left : Int) < 148 := by omega
                  have lf3 : decide ((left : Int) < 148) = false := decide_eq_false lf2
                  have HFE := Lib.hid hfre
                  clear hlt hf0 hfu hi hle hfre
                  go_wp2_with fail
                  refine HFU.out.mono ?_
                  rintro e w5 ⟨rfl, h5, o5⟩
                  have hf5 := wk_free h5
                  have HF5 := Lib.hid hf5
                  obtain ⟨fr, hfr⟩ : ∃ fr, fr = s2.p.free := ⟨_, rfl⟩
                  rw [← hfr] at HF5 HFE
                  clear h5 o5 hf5 hfr HFU
                  go_wp2_with fail
                  refine HF5.out.mono ?_
                  rintro e w6 ⟨rfl, h6, o6⟩
                  have HO6 := Lib.hid h6.only
                  have hfe := HFE.out
                  have fe : (fr == 148 - (left : Int)) = true := by rw [beq_iff_eq]; omega
                  have fe2 : fr = 148 - (left : Int) := by omega
                  clear h6 o6 hfe
                  go_wp2_with fail
                  go_ret
                  exact ⟨by first | rfl | (rw [fe]) | (simp [fe2]), HO6.out⟩
                · obtain ⟨k, p', G', ht, hc⟩ := wk_alloc HL.out.1.pw (by decide) hf0
                  have HT := Lib.hid ht
                  have HC := Lib.hid hc
                  have hpg : s2.p.pages = 149 := HL.out.1.pw.lv.pages
                  have h0f := HL.out.1.pw.lv.free0
                  have hk149 : k < 149 := by have := ht.lt; omega
                  have k1 : (1 : Int) ≤ (k : Int) := by have := ht.pos; omega
                  have k2 : (k : Int) < 149 := by omega
                  have lf2 : (left : Int) < 148 := by omega
                  have lf3 : decide ((left : Int) < 148) = true := decide_eq_true lf2
                  have HK := Lib.hid (And.intro hlt (And.intro hk149 hpg))
                  clear hlt hf0 ht hc hk149 hpg hi hfre hle h0f lf1
                  go_wp2_with fail
                  refine HC.out.mono ?_
                  rintro e w5 ⟨rfl, h5, t5⟩
                  have ha5 := HL.out.1.pg h5 t5
                  have hcell := ha5.bit HL.out.2.bl (n := k) (by have := HK.out.2.1; omega) ((HL.out.2.bits k HK.out.2.1).trans HT.out.was)
                  have hp5 := wk_pages h5
                  rw [show (⟨p', s2.r, s2.d⟩ : Sy).p.pages = 149 from HT.out.pages.trans HK.out.2.2] at hp5
                  have HP5 : Hid (Calls Tryz.prog 21 #[.pointer (some ⟨L.P, 0, none⟩)] w5 fun e w' => e = .returned (.int .i64 149) ∧ w5 = w') := Lib.hid hp5
                  have HA5 := Lib.hid ha5
                  clear h5 t5 ha5 hp5 HC
                  go_wp2_with fail
                  refine HP5.out.mono ?_
                  rintro e w6 ⟨rfl, rfl⟩
                  have hfz6 := HA5.out.thaw (n := k) (by have := HK.out.2.1; omega)
                  have HA7 := Lib.hid (HA5.out.set (n := k) (by have := HK.out.2.1; omega) true)
                  have HP7 := Lib.hid ((HL.out.2.took HT.out HK.out.2.2).less (l := l) fun n hn => List.mem_append.2 (.inl hn))
                  clear HP5
                  go_wp2_with fail
                  go_roundg (again - (i + 1))
                  case rel => exact ⟨i + 1, left + 1, bits.set k true, _, _, rfl, HK.out.1, by first | exact next_int (by have := HK.out.1; have := HB.out.2; omega) | rfl | (congr 1), by first | rfl | (congr 1), Lib.hid ⟨HA7.out, HP7.out⟩⟩
                  case measure => have := HK.out.1; omega
              · have i0 : (0 : Int) ≤ (i : Int) := by omega
                have i1 : ¬ (i : Int) < (again : Int) := by omega
                have HFE := Lib.hid hfre
                have hf5 := wk_free HL.out.1.pw
                have HF5 := Lib.hid hf5
                obtain ⟨fr, hfr⟩ : ∃ fr, fr = s2.p.free := ⟨_, rfl⟩
                rw [← hfr] at HF5 HFE
                clear hlt hi hle hfre hf5 hfr
                go_wp2_with fail
                refine HF5.out.mono ?_
                rintro e w6 ⟨rfl, h6, o6⟩
                have HO6 := Lib.hid h6.only
                have hfe := HFE.out
                have fe : (fr == 148 - (left : Int)) = true := by rw [beq_iff_eq]; omega
                have fe2 : fr = 148 - (left : Int) := by omega
                clear h6 o6 hfe
                go_wp2_with fail
                go_ret
                exact ⟨by first | rfl | (rw [fe]) | (simp [fe2]), HO6.out⟩
/-- the law -/
theorem apart_walk (x y : Int) (v : Value) (dl : List Int) (w : World) (rd : Rd w 1 v dl.length (dl.map (Value.int .i64))) : Calls Tryz.prog 4 #[.int .i64 x, v, .int .i64 y] w fun e w' => e = .returned (.bool true) ∧ Below w.heap.size w w' := by
  obtain ⟨a, c, rfl⟩ := rd.shape
  by_cases h : dl.length ≤ 200
  · exact (apart_main x y a dl.length c dl w rd h).mono fun e w' ⟨h1, o⟩ => ⟨h1, o.below (Nat.le_refl _) fun _ e => e.elim⟩
  · exact (apart_long x y a dl.length c w (by omega)).mono fun e w' ⟨h1, o⟩ => ⟨h1, o.below (Nat.le_refl _) fun _ e => e.elim⟩
end Go.Proofs.YteoeaojebklfjaaGreatDoor
