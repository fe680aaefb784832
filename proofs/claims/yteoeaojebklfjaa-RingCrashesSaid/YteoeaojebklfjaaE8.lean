/- puts; DiskApart: the walk. -/
import Derived.Test.YteoeaojebklfjaaE7
namespace Go.Proofs.Yteoeaojebklfjaa
open Go.RowKit Go.Maps
set_option linter.unusedVariables false

theorem twoCells {w0 w' : World} {b o : Nat} {p : Put} (h : At3 w0 b o p) (hb : b < w0.heap.size) (ho : Only None' w0 w') : w'.cell? ⟨b, o, none⟩ = some (.int .u8 (p.at_ : Int)) ∧ w'.cell? ⟨b, o + 1, none⟩ = some (.int .u8 (p.what.toNat : Int)) :=
  ⟨(ho.cell hb (fun e => e) o).trans h.k0, (ho.cell hb (fun e => e) (o + 1)).trans h.k1⟩

/-- a disk of five that is neither dead nor fused -/
structure Five (w0 w : World) (D : Nat) (F : Nat → Prop) (d : Dk) (n : Nat) : Prop where
  dsk : Dsk w0 w D F d
  dead : d.dead = false
  set : d.set = false
  len : d.lasts.length = 5
  few : d.Few n

set_option maxRecDepth 20000 in
set_option maxHeartbeats 4000000 in
theorem puts_any {w0 w : World} {D : Nat} {F : Nat → Prop} {d : Dk} {m : Nat} (h : Five w0 w D F d m) (hm : m ≤ 1000) (a : Option Addr) (n c : Nat) (ps : List Put) (P : Puts w0 a n ps) (hn : n ≤ 80) :
    Calls Try.prog 25 #[.pointer (some ⟨D, 0, none⟩), .slice a n c] w fun r w' => r = .returned (.tuple #[]) ∧ ∃ F' d', Five w0 w' D F' d' (m + 2 * n) ∧ Kept F F' w w' := by
  have PP := Lib.hid P
  have H0 := Lib.hid h
  have HM := Lib.hid hm
  have HN := Lib.hid hn
  clear P h hm hn
  go_enter Try.func25, Try.ntmps25
  go_wp2_with fail
  go_loopw [4] (fun i wr => ∃ (k : Nat) (F' : Nat → Prop) (d' : Dk), k ≤ n ∧ i = .int .i64 (k : Int) ∧ Hid (Five w0 wr D F' d' (m + 2 * k) ∧ Kept F F' w wr)) (fun i wr => n - (intOf i).toNat)
  case atStart => exact ⟨0, _, _, by omega, rfl, Lib.hid ⟨H0.out, Kept.refl _ _⟩⟩
  case round =>
    obtain ⟨k, F', d', hk, rfl, HL⟩ := hrel
    by_cases hlt : k < n
    · have hj : k < ps.length := by have := PP.out.len; omega
      obtain ⟨b, off, rfl, hb, hA⟩ := PP.out.at_ k hj
      have hby := PP.out.byte k hj
      obtain ⟨p, hp⟩ : ∃ p, p = ps[k] := ⟨_, rfl⟩
      rw [← hp] at hA hby
      clear hp
      obtain ⟨pa, pw, pf⟩ := p
      have hby : pa < 256 := hby
      have HB := Lib.hid hb
      have BA := Lib.hid hA
      obtain ⟨q, hq⟩ : ∃ q, q = pa % 5 := ⟨_, rfl⟩
      have e1 : (IntKind.i64.wrap (pa : Int)).tmod 5 = (q : Int) := by
        rw [IntWalk.i64_in _ (by omega), hq]; rfl
      have HQ := Lib.hid (And.intro (show q < 5 by rw [hq]; exact Nat.mod_lt _ (by decide)) hby)
      have i0 : (0 : Int) ≤ (k : Int) := by omega
      have i1 : (k : Int) < (n : Int) := by omega
      have S0 := Lib.hid (twoCells hA hb HL.out.1.dsk.drew.only)
      clear hq hby hb hA
      cases pf
      all_goals
        go_wp2_with fail
        go_region_held3 (fun w' => w'.cell? ⟨b, off + k * 3, none⟩ = some (.int .u8 (pa : Int)) ∧ w'.cell? ⟨b, off + k * 3 + 1, none⟩ = some (.int .u8 (pw.toNat : Int)))
          (first | exact S0.out | exact twoCells BA.out HB.out L6.out.1.dsk.only | exact twoCells BA.out HB.out L5.out.only)
          (first | (go_at_call 17; (with_reducible refine (full_any pw _).mono ?_); rintro r w5 ⟨gf, rfl, hg, hv, ho⟩; have L5 := Lib.hid (HL.out.1.dsk.drew.new ho); have V5 := Lib.hid hv; have O5 := Lib.hid ho; have A5 := Lib.hid (outF (F := F') (v := .slice (some ⟨gf, 0, none⟩) 512 512) rfl hg fun k hk => HL.out.1.dsk.drew.at_.lt hk); clear hg hv ho) | (go_at_call 16; (with_reducible refine (L5.out.write (i := q) rfl HL.out.1.few (by have := HM.out; have := HN.out; omega) HL.out.1.dead (by rw [HL.out.1.len]; exact HQ.out.1) V5.out.rd A5.out (sec_length _) (e := 0) (Dk.live_err HL.out.1.set) (Dk.live_write HL.out.1.set q (sec pw))).mono ?_); rintro r w6 ⟨rfl, F6, hd, hk6⟩; have L6 := Lib.hid (And.intro (show Five w0 w6 D F6 (d'.wrote q (sec pw)).tick (m + 2 * k + 1) from ⟨hd, HL.out.1.dead, HL.out.1.set, HL.out.1.len, HL.out.1.few.wroteTick _ _⟩) (show Kept F F6 w w6 from (HL.out.2.trans (Kept.new ((Only.refl None' _).drew.trans O5.out))).trans hk6)); clear hd hk6))
        have k2 := (L6.out.1.dsk.only.cell HB.out (fun e => e) (off + k * 3 + 2)).trans BA.out.k2
        go_wp2_with fail
      · go_roundw
        case rel => exact ⟨k + 1, _, _, by omega, next_int (by have := HN.out; omega), Lib.hid ⟨⟨L6.out.1.dsk, L6.out.1.dead, L6.out.1.set, L6.out.1.len, L6.out.1.few.mono (by omega)⟩, L6.out.2⟩⟩
        case measure => exact meas hlt (by have := HN.out; omega)
      · refine (L6.out.1.dsk.flush L6.out.1.few (by have := HM.out; have := HN.out; omega) L6.out.1.dead (e := 0) (Dk.live_err L6.out.1.set) (Dk.live_flush L6.out.1.set)).mono ?_
        rintro r w8 ⟨rfl, F8, hd, hk8⟩
        have L8 := Lib.hid (And.intro (show Five w0 w8 D F8 _ (m + 2 * (k + 1)) from ⟨hd, L6.out.1.dead, L6.out.1.set, (len_settled _ _).trans L6.out.1.len, (L6.out.1.few.tick.settled _).mono (by omega)⟩) (L6.out.2.trans hk8))
        clear hd hk8 k2
        go_wp2_with fail
        go_roundw
        case rel => exact ⟨k + 1, _, _, by omega, next_int (by have := HN.out; omega), L8⟩
        case measure => exact meas hlt (by have := HN.out; omega)
    · obtain rfl : k = n := by omega
      go_wp2_with fail
      go_end0
      exact ⟨rfl, _, _, HL.out.1, HL.out.2⟩

section
variable {P : Program} {ops : Array Oper}
theorem wpStill_convert {w : World} {op : Oper} {rest : List Oper} {a : Act} {Q : Act → Prop} (src dst : TypeId) (x : Operand) (ho : op.op = .convert src dst x) (hw : Region.wanted op (yielded ops a.tmps) = true) (u v : Value) (hx : a.eval x = u)
    (hc : (convert src dst u).run P w = .ok v w) (h : wpStill P ops w Q rest (a.put op.dst v)) : wpStill P ops w Q (op :: rest) a :=
  wpStill_step fun K hK => by
    rw [if_pos hw]
    unfold Oper.still execOp
    simp only [ho, hx, Sem.run_bind, hc, Result.andThen_ok, Sem.run_pure]
    exact ⟨rfl, hK _ h⟩
end

def strs (l : List ByteArray) : List Value := l.map Value.string
theorem strs_one (l : List ByteArray) : ∀ u ∈ strs l, u.oneCell' = true := by
  intro u hu
  obtain ⟨c, _, rfl⟩ := List.mem_map.1 hu
  rfl
theorem info9 : Try.prog.info? 9 = some Try.t9 := by kernel_rfl
theorem t9_zero : Try.t9.zero = some (.string ⟨#[]⟩) := by kernel_rfl
theorem t9_size : Try.t9.size = 1 := by kernel_rfl
theorem t9_bytes : Try.t9.bytes = 16 := by kernel_rfl

/-- a disk and its copy, and a row of strings -/
structure Wa (w0 w : World) (D : Nat) (F : Nat → Prop) (d : Dk) (C : Nat) (G : Nat → Prop) (e : Dk) (V : Value) (l : List ByteArray) : Prop where
  two : Two w0 w D F d C G e
  was : Vec w 1 V l.length (strs l)
  vF : ∀ j, V.ownBlock = some j → ¬ F j ∧ ¬ G j ∧ w0.heap.size ≤ j

section
variable {w0 w w' : World} {D C : Nat} {F F' G : Nat → Prop} {d d' e : Dk} {V : Value} {l : List ByteArray}
theorem Wa.new (h : Wa w0 w D F d C G e V l) (o : Only None' w w') : Wa w0 w' D F d C G e V l := ⟨h.two.new o, h.was.only o fun _ _ e => e, h.vF⟩
theorem Wa.left (h : Wa w0 w D F d C G e V l) (hd : Dsk w0 w' D F' d') (k : Kept F F' w w') : Wa w0 w' D F' d' C G e V l :=
  ⟨h.two.left hd k, h.was.only k.only fun j hj => (h.vF j hj).1, fun j hj => ⟨fun e => (k.fresh j e).elim (h.vF j hj).1 fun e => by have := h.was.lt hj; omega, (h.vF j hj).2⟩⟩
theorem Wa.more (h : Wa w0 w D F d C G e V l) {s : ByteArray} {V' : Value} {o : Obj} (hv : Vec w' 1 V' (l.length + 1) (strs l ++ strs [s])) (hg : (w.alloc o).grownBy w' V.ownBlock)
    (hf : ∀ k, V'.ownBlock = some k → V.ownBlock = some k ∨ (w.alloc o).heap.size ≤ k) : Wa w0 w' D F d C G e V' (l ++ [s]) := by
  have ho : Only (fun k => V.ownBlock = some k) w w' := ((Only.refl _ w).alloc o).grown hg fun k hk => hk
  have hw0 := h.two.l.only.size
  refine ⟨⟨⟨h.two.l.at_.only ho fun k hk e => (h.vF k e).1 hk, h.two.l.fresh, h.two.l.only.cons_new ho fun k hk => (h.vF k hk).2.2⟩, ⟨h.two.r.at_.only ho fun k hk e => (h.vF k e).2.1 hk, h.two.r.fresh, h.two.r.only.cons_new ho fun k hk => (h.vF k hk).2.2⟩, h.two.apart⟩, ?_, fun j hj => ?_⟩
  · rw [List.length_append, strs, List.map_append]
    exact hv
  · rcases hf j hj with h1 | h1
    · exact h.vF j h1
    · simp at h1
      exact ⟨fun e => by have := h.two.l.at_.lt e; omega, fun e => by have := h.two.r.at_.lt e; omega, by omega⟩
end

def said (d : Dk) (n : Nat) : List ByteArray := (List.range n).map fun i => ⟨(d.read i).toArray⟩
theorem said_length (d : Dk) (n : Nat) : (said d n).length = n := by simp [said]
theorem said_snoc (d : Dk) (n : Nat) : said d (n + 1) = said d n ++ [⟨(d.read n).toArray⟩] := by simp [said, List.range_succ]

set_option maxRecDepth 20000 in
theorem apart_long (a : Option Addr) (n c : Nat) (b : Option Addr) (m e : Nat) (w : World) (h : 80 < n ∨ 80 < m) :
    Calls Try.prog 5 #[.slice a n c, .slice b m e] w fun r w' => r = .returned (.bool true) ∧ Below w.heap.size w w' := by
  have HH := Lib.hid h
  clear h
  by_cases h1 : (80 : Int) < (n : Int)
  · go_enter Try.func5, Try.ntmps5
    go_wp2_with fail
    refine (works_any _).mono ?_
    rintro r w1 ⟨rfl, o1⟩
    have O1 := Lib.hid o1
    clear o1
    go_wp2_with fail
    refine (works_any _).mono ?_
    rintro r w2 ⟨rfl, o2⟩
    have O2 := Lib.hid (O1.out.trans o2)
    clear o2
    go_wp2_with fail
    go_ret
    exact ⟨rfl, O2.out.below (Nat.le_refl _) fun _ h => h.elim⟩
  · have h2 : (80 : Int) < (m : Int) := by have := HH.out; omega
    go_enter Try.func5, Try.ntmps5
    go_wp2_with fail
    refine (works_any _).mono ?_
    rintro r w1 ⟨rfl, o1⟩
    have O1 := Lib.hid o1
    clear o1
    go_wp2_with fail
    refine (works_any _).mono ?_
    rintro r w2 ⟨rfl, o2⟩
    have O2 := Lib.hid (O1.out.trans o2)
    clear o2
    go_wp2_with fail
    go_ret
    exact ⟨rfl, O2.out.below (Nat.le_refl _) fun _ h => h.elim⟩

set_option maxRecDepth 20000 in
set_option maxHeartbeats 4000000 in
theorem apart_main (a : Option Addr) (n c : Nat) (ps : List Put) (w : World) (P : Puts w a n ps) (a' : Option Addr) (n' c' : Nat) (ps' : List Put) (P' : Puts w a' n' ps') (h : n ≤ 80) (h' : n' ≤ 80) :
    Calls Try.prog 5 #[.slice a n c, .slice a' n' c'] w fun r w' => r = .returned (.bool true) ∧ Below w.heap.size w w' := by
  have h1 : ¬ (80 : Int) < (n : Int) := by omega
  have h2 : ¬ (80 : Int) < (n' : Int) := by omega
  have PP := Lib.hid P
  have PP' := Lib.hid P'
  have HN := Lib.hid (And.intro h h')
  clear P P' h h'
  go_enter Try.func5, Try.ntmps5
  go_wp2_with fail
  refine (works_any _).mono ?_
  rintro r w1 ⟨rfl, o1⟩
  have O1 := Lib.hid o1
  clear o1
  go_wp2_with fail
  refine (new_dsk 5 5 rfl w _ O1.out (by decide) (by decide)).mono ?_
  rintro r w2 ⟨D, F2, rfl, h1, -, -⟩
  have S2 := Lib.hid (show Five w w2 D F2 (Dk.new 5) 0 from ⟨h1, rfl, rfl, rfl, Dk.Few.new⟩)
  clear h1
  go_wp2_with fail
  refine (puts_any S2.out (by decide) a n c ps PP.out HN.out.1).mono ?_
  rintro r w3 ⟨rfl, F3, d, h1, -⟩
  have S3 := Lib.hid h1
  clear h1
  go_wp2_with fail
  refine (S3.out.dsk.copy S3.out.few (by have := HN.out; omega)).mono ?_
  rintro r w4 ⟨C, G4, rfl, hc, hd, hg, ho⟩
  have T4 : Hid (Wa w w4 D F3 d C G4 d (.slice none 0 0) (said d 0)) := ⟨⟨hd, hc, fun i hF hG => by have := S3.out.dsk.at_.lt hF; have := hg i hG; omega⟩, Vec.nil _ _, fun j hj => by cases hj⟩
  clear hc hd hg ho
  go_wp2_with fail
  go_loopw [8, 9] (fun V i wr => ∃ k : Nat, k ≤ 5 ∧ i = .int .i64 (k : Int) ∧ Hid (Wa w wr D F3 d C G4 d V (said d k))) (fun V i wr => 5 - (intOf i).toNat)
  case atStart => exact ⟨0, by omega, rfl, T4⟩
  case round =>
    obtain ⟨k, hk, rfl, HL⟩ := hrel
    obtain ⟨va, vk, vc, rfl⟩ := HL.out.was.rd.shape'
    have hvk : vk = k := by
      obtain ⟨a, c, e⟩ := HL.out.was.rd.shape
      injection e with _ e _
      rw [e, said_length]
    subst hvk
    by_cases hlt : vk < 5
    · have i0 : (0 : Int) ≤ (vk : Int) := by omega
      have i1 : (vk : Int) < 5 := by omega
      have hr := Lib.hid (Dk.read_length HL.out.two.l.at_.ok (i := vk) (by rw [S3.out.len]; exact hlt))
      go_wp2_with fail
      refine (HL.out.two.l.read S3.out.few (by have := HN.out; omega) S3.out.dead (i := vk) rfl (by rw [S3.out.len]; exact hlt) rfl).mono ?_
      rintro r w6 ⟨g6, o6, c6, rfl, hv, -, -, ho⟩
      have L6 := Lib.hid (HL.out.new ho)
      have cv := conv_vec hv hr.out
      obtain ⟨s, hs⟩ : ∃ s : ByteArray, s = ⟨(d.read vk).toArray⟩ := ⟨_, rfl⟩
      rw [← hs] at cv
      have HS := Lib.hid hs
      have L6a := Lib.hid (L6.out.new ((Only.refl None' w6).alloc (.cells #[.string s] 9)))
      have NW := Lib.hid (news_row w6 9 (strs [s]))
      clear hv ho hs
      go_wp2_with (at_builtin; refine wpList_vec_append _ rfl _ _ 46 rfl 9 Try.t9 (.string ⟨#[]⟩) 1 16 Try.underlying46 info9 t9_zero t9_size t9_bytes rfl (by decide) _ _ _ rfl (said_length d vk ▸ L6a.out.was) ⟨w6.heap.size, 0, none⟩ 1 1 (strs [s]) rfl rfl NW.out (strs_one _) (by unfold maxLen; omega) (by omega) ?_; intro V7 w7 hv7 hg7 hf7; have L7 := Lib.hid (L6.out.more (s := s) ((said_length d vk).symm ▸ hv7) hg7 hf7); clear hv7 hg7 hf7)
      go_roundw
      case rel => exact ⟨vk + 1, by omega, by go_num, by rw [said_snoc, ← HS.out]; exact L7⟩
      case measure => simp [intOf]; omega
    · obtain rfl : vk = 5 := by omega
      go_wp2_with fail
      refine (HL.out.two.l.wait rfl).mono ?_
      rintro r w6 ⟨rfl, rfl⟩
      go_wp2_with fail
      refine (HL.out.two.l.done rfl).mono ?_
      rintro r w6 ⟨rfl, rfl⟩
      go_wp2_with fail
      refine (puts_any (m := 160) ⟨HL.out.two.l, S3.out.dead, S3.out.set, S3.out.len, S3.out.few.mono (by have := HN.out; omega)⟩ (by decide) a' n' c' ps' PP'.out HN.out.2).mono ?_
      rintro r w7 ⟨rfl, F7, d7, h1, hk7⟩
      have L7 := Lib.hid (HL.out.left h1.dsk hk7)
      clear h1 hk7
      go_wp2_with fail
      refine (L7.out.two.r.wait rfl).mono ?_
      rintro r w8 ⟨rfl, rfl⟩
      go_wp2_with fail
      refine (L7.out.two.r.done rfl).mono ?_
      rintro r w8 ⟨rfl, rfl⟩
      go_wp2_with fail
      refine (L7.out.two.r.len (n := 5) (by rw [S3.out.len]; rfl)).mono ?_
      rintro r w8 ⟨rfl, rfl⟩
      go_wp2_with fail
      go_loopw [14] (fun i wr => ∃ j : Nat, j ≤ 5 ∧ i = .int .i64 (j : Int) ∧ Hid (Wa w wr D F7 d7 C G4 d (.slice va 5 vc) (said d 5))) (fun i wr => 5 - (intOf i).toNat)
      case atStart => exact ⟨0, by omega, rfl, L7⟩
      case round =>
        obtain ⟨j, hj, rfl, HJ⟩ := hrel
        by_cases hlt2 : j < 5
        · have j0 : (0 : Int) ≤ (j : Int) := by omega
          have j1 : (j : Int) < 5 := by omega
          have hr := Lib.hid (Dk.read_length HJ.out.two.r.at_.ok (i := j) (by rw [S3.out.len]; exact hlt2))
          go_wp2_with fail
          refine (HJ.out.two.r.read S3.out.few (by have := HN.out; omega) S3.out.dead (i := j) rfl (by rw [S3.out.len]; exact hlt2) rfl).mono ?_
          rintro r w9 ⟨g9, o9, c9, rfl, hv, -, -, ho⟩
          have L9 := Lib.hid (HJ.out.new ho)
          obtain ⟨s, hs⟩ : ∃ s : ByteArray, s = ⟨(d.read j).toArray⟩ := ⟨_, rfl⟩
          obtain ⟨wd, hwd⟩ : ∃ wd, wd = w9.drew := ⟨_, rfl⟩
          have cv : (convert 34 9 (.slice (some ⟨g9, o9, none⟩) 512 c9)).run Try.prog wd = .ok (.string s) wd := by rw [hs, hwd]; exact conv_vec hv.drew hr.out
          have Ld := Lib.hid (hwd ▸ L9.out.new (Only.refl None' w9).drew)
          obtain ⟨gv, ov, cv', ev, _, _, _, hcells, _⟩ := Ld.out.was.at_ (by rw [said_length]; decide)
          injection ev with ev1 ev2 ev3
          subst ev1 ev3
          clear ev2
          have m1 : wd.cell? ⟨gv, ov + j, none⟩ = some (.string s) := hcells j _ (by rw [strs, List.getElem?_map, hs, said, List.getElem?_map, List.getElem?_range hlt2]; rfl)
          have HS := Lib.hid hs
          clear hv ho hs hcells
          have HWD := Lib.hid hwd
          clear hwd
          go_wp2_with fail
          refine wp_region_still_lit (by kernel_rfl) (by kernel_rfl) ?_
          change wpStill _ _ w9.drew _ _ _
          rw [← HWD.out]
          still_step
          still_step
          still_step
          still_step
          refine wpStill_convert 34 9 _ rfl (by rfl) _ _ rfl cv ?_
          simp only [Act.put, List.setIfInBounds_toArray, List.set_cons_zero, List.set_cons_succ]
          repeat still_step
          refine wpStill_nil ?_
          go_wp2_with fail
          go_roundw
          case rel => exact ⟨j + 1, by omega, by go_num, HWD.out ▸ Ld⟩
          case measure => simp [intOf]; omega
        · obtain rfl : j = 5 := by omega
          go_wp2_with fail
          go_ret
          exact ⟨rfl, HJ.out.two.l.only.below (Nat.le_refl _) fun _ h => h.elim⟩

theorem apart_walk (a : Option Addr) (n c : Nat) (ps : List Put) {w : World} (P : Puts w a n ps) (a' : Option Addr) (n' c' : Nat) (ps' : List Put) (P' : Puts w a' n' ps') :
    Calls Try.prog 5 #[.slice a n c, .slice a' n' c'] w fun r w' => r = .returned (.bool true) ∧ Below w.heap.size w w' := by
  by_cases h : 80 < n ∨ 80 < n'
  · exact apart_long a n c a' n' c' w h
  · exact apart_main a n c ps w P a' n' c' ps' P' (by omega) (by omega)
end Go.Proofs.Yteoeaojebklfjaa
