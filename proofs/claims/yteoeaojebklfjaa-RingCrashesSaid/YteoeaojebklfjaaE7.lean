/- DiskFuses: the walk. -/
import Derived.Test.YteoeaojebklfjaaE6
import Derived.Deep.CutBlock
namespace Go.Proofs.Yteoeaojebklfjaa
open Go.RowKit Go.Maps
set_option linter.unusedVariables false

theorem DiskAt.ok {w : World} {D : Nat} {F : Nat → Prop} {d : Dk} (h : DiskAt w D F d) : d.Ok := by
  obtain ⟨_, _, _, _, h, _⟩ := h
  exact h.ok

/-- two disks, each with blocks of its own -/
structure Two (w0 w : World) (D : Nat) (F : Nat → Prop) (d : Dk) (X : Nat) (G : Nat → Prop) (x : Dk) : Prop where
  l : Dsk w0 w D F d
  r : Dsk w0 w X G x
  apart : ∀ i, F i → ¬ G i

section
variable {w0 w w' : World} {D X : Nat} {F F' G G' : Nat → Prop} {d d' x x' : Dk}
theorem Two.new (h : Two w0 w D F d X G x) (o : Only None' w w') : Two w0 w' D F d X G x := ⟨h.l.new o, h.r.new o, h.apart⟩
theorem Two.left (h : Two w0 w D F d X G x) (hd : Dsk w0 w' D F' d') (k : Kept F F' w w') : Two w0 w' D F' d' X G x :=
  ⟨hd, h.r.other k h.l.fresh fun i hG hF => h.apart i hF hG, fun i hF hG => (k.fresh i hF).elim (fun e => h.apart i e hG) fun e => by have := h.r.at_.lt hG; omega⟩
theorem Two.right (h : Two w0 w D F d X G x) (hx : Dsk w0 w' X G' x') (k : Kept G G' w w') : Two w0 w' D F d X G' x' :=
  ⟨h.l.other k h.r.fresh h.apart, hx, fun i hF hG => (k.fresh i hG).elim (h.apart i hF) fun e => by have := h.l.at_.lt hF; omega⟩
end

/-- alike, but for the fuse -/
structure Like (d x : Dk) : Prop where
  lasts : d.lasts = x.lasts
  waits : d.waits = x.waits
  dead : d.dead = x.dead
theorem Like.read {d x : Dk} (h : Like d x) (i : Nat) : d.read i = x.read i := by unfold Dk.read; rw [h.lasts, h.waits]
theorem Like.wrote {d x : Dk} (h : Like d x) (i : Nat) (s : Sec) : Like (d.wrote i s) (x.wrote i s) := ⟨h.lasts, by show d.waits ++ _ = x.waits ++ _; rw [h.waits], h.dead⟩
theorem Like.tick {d x : Dk} (h : Like d x) : Like d.tick x.tick := ⟨h.lasts, h.waits, h.dead⟩
theorem Like.tickR {d x : Dk} (h : Like d x) : Like d x.tick := ⟨h.lasts, h.waits, h.dead⟩
theorem Like.flushed {d x : Dk} (h : Like d x) : Like d.flushed x.flushed := ⟨by show settle _ 0 d.waits d.lasts = settle _ 0 x.waits x.lasts; rw [h.lasts, h.waits], rfl, h.dead⟩
theorem Like.crashed {d x : Dk} (h : Like d x) (k : List Bool) : Like (d.crashed k) (x.crashed k) := ⟨by show settle _ 0 d.waits d.lasts = settle _ 0 x.waits x.lasts; rw [h.lasts, h.waits], rfl, rfl⟩
theorem Like.reopened {d x : Dk} (h : Like d x) : Like d.reopened x.reopened := ⟨h.lasts, rfl, rfl⟩

theorem Dk.due_yes {d : Dk} (h : d.set = true) (hl : d.left = 0) : d.due = true := by unfold Dk.due; rw [h, hl]; rfl
theorem Dk.due_no {d : Dk} (hl : d.left ≠ 0) : d.due = false := by unfold Dk.due; simp [hl]
theorem Dk.yes_err {d : Dk} (h : d.due = true) : d.err = 20 := by unfold Dk.err; rw [h]; rfl
theorem Dk.no_err {d : Dk} (h : d.due = false) : d.err = 0 := by unfold Dk.err; rw [h]; rfl
theorem Dk.yes_write {d : Dk} (h : d.due = true) (i : Nat) (s : Sec) : d.write i s = (d.wrote i s).crashed d.keep := by unfold Dk.write; rw [if_pos h]
theorem Dk.no_write {d : Dk} (h : d.due = false) (i : Nat) (s : Sec) : d.write i s = (d.wrote i s).tick := by unfold Dk.write; rw [if_neg (by rw [h]; decide)]
theorem Dk.yes_flush {d : Dk} (h : d.due = true) : d.flush = d.crashed d.keep := by unfold Dk.flush; rw [if_pos h]
theorem Dk.no_flush {d : Dk} (h : d.due = false) : d.flush = d.tick.flushed := by unfold Dk.flush; rw [if_neg (by rw [h]; decide)]
theorem len_wrote (d : Dk) (i : Nat) (s : Sec) : (d.wrote i s).lasts.length = d.lasts.length := rfl
theorem len_settled (d : Dk) (k : Nat → Bool) : (d.settled k).lasts.length = d.lasts.length := settle_length _ _ _ _

/-- the loop's state: so many were done of K -/
structure Fz (w0 w : World) (D : Nat) (F : Nat → Prop) (d : Dk) (X : Nat) (G : Nat → Prop) (x : Dk) (K dn k : Nat) (keep : List Bool) : Prop where
  two : Two w0 w D F d X G x
  like : Like d x
  dead : d.dead = false
  set : d.set = true
  setx : x.set = false
  left : d.left = (K : Int) - dn
  le : dn ≤ K
  keep : d.keep = keep
  few : d.Few (2 * k)
  fewx : x.Few (2 * k)
  len : d.lasts.length = 7

theorem conv_vec {w : World} {g o c : Nat} {s : Sec} (h : Vec w 1 (.slice (some ⟨g, o, none⟩) 512 c) 512 (bv s)) (hs : s.length = 512) : (convert 34 9 (.slice (some ⟨g, o, none⟩) 512 c)).run Try.prog w = .ok (.string ⟨s.toArray⟩) w := by
  have := run_convert_bytes_back (P := Try.prog) w 34 9 5 ⟨g, o, none⟩ c s Try.underlying34 Try.underlying5 Try.underlying9 (fun j hj => by
    rw [add_mid' (⟨g, o, none⟩) j rfl]
    exact h.range j _ (by simp [bv, List.getElem?_eq_getElem hj]))
  rw [hs] at this
  exact this

set_option maxRecDepth 20000 in
theorem fuses_long (x : Int) (a : Option Addr) (n c : Nat) (v : Value) (w : World) (h : 80 < n) :
    Calls Try.prog 3 #[.slice a n c, .int .i64 x, v] w fun r w' => r = .returned (.bool true) ∧ Below w.heap.size w w' := by
  have h1 : (80 : Int) < (n : Int) := by omega
  clear h
  go_enter Try.func3, Try.ntmps3
  go_wp2_with fail
  refine (works_any _).mono ?_
  rintro r w1 ⟨rfl, o1⟩
  have O1 := Lib.hid o1
  clear o1
  go_wp2_with fail
  refine (works_any _).mono ?_
  rintro r w2 ⟨rfl, o2⟩
  have O2 := Lib.hid (O1.out.trans o2)
  clear o2
  go_wp2_with fail
  go_ret
  exact ⟨rfl, O2.out.below (Nat.le_refl _) fun _ h => h.elim⟩

set_option maxRecDepth 20000 in
set_option maxHeartbeats 4000000 in
theorem fuses_main (y : Int) (a : Option Addr) (n c : Nat) (ps : List Put) (w : World) (P : Puts w a n ps) (v : Value) (keep : List Bool) (R : Rd w 1 v keep.length (bo keep)) (hk : keep.length ≤ 140737488351232) (h : n ≤ 80) :
    Calls Try.prog 3 #[.slice a n c, .int .i64 y, v] w fun r w' => r = .returned (.bool true) ∧ Below w.heap.size w w' := by
  obtain ⟨ka, kn, kc, e⟩ := R.shape'
  subst e
  have hkn : kn = keep.length := by
    obtain ⟨a, c, e⟩ := R.shape
    injection e
  subst hkn
  have h1 : ¬ (80 : Int) < (n : Int) := by omega
  have PP := Lib.hid P
  have RR := Lib.hid R
  have HK := Lib.hid hk
  have H80 := Lib.hid h
  obtain ⟨K, hK, hK1⟩ := mod_is y 100 (by decide) (by decide)
  clear P R hk h
  go_enter Try.func3, Try.ntmps3
  go_wp2_with fail
  refine (works_any _).mono ?_
  rintro r w1 ⟨rfl, o1⟩
  have O1 := Lib.hid o1
  clear o1
  go_wp2_with fail
  refine (new_dsk 7 7 rfl w _ O1.out (by decide) (by decide)).mono ?_
  rintro r w2 ⟨D, F2, rfl, h1, -, -⟩
  have S2 := Lib.hid h1
  clear h1
  go_wp2_with fail
  refine (new_dsk 7 7 rfl w _ S2.out.only (by decide) (by decide)).mono ?_
  rintro r w3 ⟨X, G3, rfl, h1, hg, ho⟩
  have T3 := Lib.hid (show Two w w3 D F2 (Dk.new 7) X G3 (Dk.new 7) from ⟨S2.out.new ho, h1, fun i hF hG => by have := S2.out.at_.lt hF; have := hg i hG; omega⟩)
  clear h1 hg ho
  go_wp2_with fail
  rw [hK]
  have R3 := Lib.hid (RR.out.only T3.out.l.only fun _ _ _ _ e => e)
  refine (T3.out.l.setFuse rfl (k := K) rfl (keep := keep) R3.out HK.out rfl).mono ?_
  rintro r w4 ⟨rfl, F4, hd, hk⟩
  have L4 : Hid (Fz w w4 D F4 ((Dk.new 7).fused K keep) X G3 (Dk.new 7) K 0 0 keep) :=
    ⟨T3.out.left hd hk, ⟨rfl, rfl, rfl⟩, rfl, rfl, rfl, by show (K : Int) = _; omega, Nat.zero_le _, rfl, ⟨by show (0 : Nat) ≤ _; omega, by show (0 : Int) ≤ 0; omega, by show (0 : Int) ≤ _; omega, by show _ ≤ (K : Int); omega, by show (K : Int) ≤ _; omega, HK.out⟩, Dk.Few.new, rfl⟩
  have HK1 := Lib.hid hK1
  clear hd hk hK
  go_upto_block 0 with fail
  go_cut [] from 11 to 132 (fun wx => ∃ F d G x, Two w wx D F d X G x ∧ Like d x ∧ d.Few 200 ∧ x.Few 200 ∧ d.lasts.length = 7)
  case first =>
    go_wp2_with fail
    go_loopw [11, 12] (fun dn i wr => ∃ (k m : Nat) (F : Nat → Prop) (d : Dk) (G : Nat → Prop) (x : Dk), k ≤ n ∧ i = .int .i64 (k : Int) ∧ dn = .int .i64 (m : Int) ∧ Hid (Fz w wr D F d X G x K m k keep ∧ m ≤ 2 * k)) (fun dn i wr => n - (intOf i).toNat)
    case atStart => exact ⟨0, 0, _, _, _, _, by omega, rfl, rfl, Lib.hid ⟨L4.out, by omega⟩⟩
    case round =>
      obtain ⟨k, m, F, d, G, x, hk, rfl, rfl, HL⟩ := hrel
      by_cases hlt : k < n
      · have hj : k < ps.length := by have := PP.out.len; omega
        obtain ⟨b, off, rfl, hb, hA⟩ := PP.out.at_ k hj
        have hby := PP.out.byte k hj
        obtain ⟨p, hp⟩ : ∃ p, p = ps[k] := ⟨_, rfl⟩
        rw [← hp] at hA hby
        clear hp
        obtain ⟨pa, pw, pf⟩ := p
        have hby : pa < 256 := hby
        have HB := Lib.hid hb
        have BA := Lib.hid hA
        obtain ⟨q, hq⟩ : ∃ q, q = pa % 7 := ⟨_, rfl⟩
        have e1 : (pa : Int) % 7 = (q : Int) := by omega
        have HQ := Lib.hid (And.intro (show q < 7 by rw [hq]; exact Nat.mod_lt _ (by decide)) hby)
        have k0 : wr.cell? ⟨b, off + k * 3, none⟩ = some (.int .u8 (pa : Int)) := (HL.out.1.two.l.only.cell hb (fun e => e) (off + k * 3)).trans hA.k0
        have k1 : wr.cell? ⟨b, off + k * 3 + 1, none⟩ = some (.int .u8 (pw.toNat : Int)) := (HL.out.1.two.l.only.cell hb (fun e => e) (off + k * 3 + 1)).trans hA.k1
        have i0 : (0 : Int) ≤ (k : Int) := by omega
        have i1 : (k : Int) < (n : Int) := by omega
        have hmK := HL.out.1.le
        have HM := Lib.hid HL.out.2
        clear hq hby hb hA
        by_cases hm : m = K
        · subst hm
          have DUE := Lib.hid (Dk.due_yes HL.out.1.set (by rw [HL.out.1.left]; omega))
          go_wp2_with fail
          refine (HL.out.1.two.l.isDead (b := false) HL.out.1.dead).mono ?_
          rintro r w4' ⟨rfl, rfl⟩
          go_wp2_with fail
          refine (full_any pw _).mono ?_
          rintro r w5 ⟨gf, rfl, hg, hv, ho⟩
          have L5 := Lib.hid (HL.out.1.two.new ho)
          have V5 := Lib.hid hv
          have A5 := Lib.hid (outF (F := F) (v := .slice (some ⟨gf, 0, none⟩) 512 512) rfl hg fun k hk => HL.out.1.two.l.at_.lt hk)
          clear hg hv ho
          go_wp2_with fail
          refine (L5.out.l.write (i := q) rfl HL.out.1.few (by have := H80.out; omega) HL.out.1.dead (by rw [HL.out.1.len]; exact HQ.out.1) V5.out.rd A5.out (sec_length _) (e := 20) (Dk.yes_err DUE.out) (Dk.yes_write DUE.out q (sec pw))).mono ?_
          rintro r w6 ⟨rfl, F6, hd, hk6⟩
          have L6 := Lib.hid (L5.out.left hd hk6)
          clear hd hk6
          have b0 : w6.cell? ⟨b, off + k * 3, none⟩ = some (.int .u8 (pa : Int)) := (L6.out.l.only.cell HB.out (fun e => e) (off + k * 3)).trans BA.out.k0
          have b1 : w6.cell? ⟨b, off + k * 3 + 1, none⟩ = some (.int .u8 (pw.toNat : Int)) := (L6.out.l.only.cell HB.out (fun e => e) (off + k * 3 + 1)).trans BA.out.k1
          go_wp2_with fail
          refine (full_any pw _).mono ?_
          rintro r w7 ⟨gf', rfl, hg, hv, ho⟩
          have L7 := Lib.hid (L6.out.new ho)
          have V7 := Lib.hid hv
          have A7 := Lib.hid (outF (F := G) (v := .slice (some ⟨gf', 0, none⟩) 512 512) rfl hg fun k hk => L6.out.r.at_.lt hk)
          clear hg hv ho b0 b1
          go_wp2_with fail
          refine (L7.out.r.write (i := q) rfl HL.out.1.fewx (by have := H80.out; omega) (HL.out.1.like.dead ▸ HL.out.1.dead) (by rw [← HL.out.1.like.lasts, HL.out.1.len]; exact HQ.out.1) V7.out.rd A7.out (sec_length _) (e := 0) (Dk.live_err HL.out.1.setx) (Dk.live_write HL.out.1.setx q (sec pw))).mono ?_
          rintro r w8 ⟨rfl, G8, hd, hk8⟩
          have L8 := Lib.hid (L7.out.right hd hk8)
          clear hd hk8
          have k2 := (L8.out.l.only.cell HB.out (fun e => e) (off + k * 3 + 2)).trans BA.out.k2
          have R8 := Lib.hid (RR.out.only L8.out.l.only fun _ _ _ _ e => e)
          clear k2
          go_wp2_with fail
          refine (L8.out.r.crash (HL.out.1.fewx.wroteTick q (sec pw)) (by have := H80.out; omega) (HL.out.1.like.dead ▸ HL.out.1.dead) R8.out (outRd RR.out L8.out.r.fresh) rfl).mono ?_
          rintro r w9 ⟨rfl, G9, hd, hk9⟩
          have L9 := Lib.hid (L8.out.right hd hk9)
          clear hd hk9
          go_wp2_with fail
          go_meet
          refine ⟨_, _, _, _, L9.out, ?_, ((HL.out.1.few.wrote q (sec pw)).crashed _).mono (by have := H80.out; omega), ((HL.out.1.fewx.wroteTick q (sec pw)).crashed _).mono (by have := H80.out; omega), (len_settled _ _).trans HL.out.1.len⟩
          rw [HL.out.1.keep]
          exact (HL.out.1.like.wrote q (sec pw)).tickR.crashed keep
        · have DUE := Lib.hid (Dk.due_no (d := d) (by rw [HL.out.1.left]; omega))
          have hne : ((m : Int) == (K : Int)) = false := by simp; omega
          have hne' : ¬ (m : Int) = (K : Int) := by omega
          cases pf
          · go_wp2_with fail
            refine (HL.out.1.two.l.isDead (b := false) HL.out.1.dead).mono ?_
            rintro r w4' ⟨rfl, rfl⟩
            go_wp2_with fail
            refine (full_any pw _).mono ?_
            rintro r w5 ⟨gf, rfl, hg, hv, ho⟩
            have L5 := Lib.hid (HL.out.1.two.new ho)
            have V5 := Lib.hid hv
            have A5 := Lib.hid (outF (F := F) (v := .slice (some ⟨gf, 0, none⟩) 512 512) rfl hg fun k hk => HL.out.1.two.l.at_.lt hk)
            clear hg hv ho
            go_wp2_with fail
            refine (L5.out.l.write (i := q) rfl HL.out.1.few (by have := H80.out; omega) HL.out.1.dead (by rw [HL.out.1.len]; exact HQ.out.1) V5.out.rd A5.out (sec_length _) (e := 0) (Dk.no_err DUE.out) (Dk.no_write DUE.out q (sec pw))).mono ?_
            rintro r w6 ⟨rfl, F6, hd, hk6⟩
            have L6 := Lib.hid (L5.out.left hd hk6)
            clear hd hk6
            have b0 : w6.cell? ⟨b, off + k * 3, none⟩ = some (.int .u8 (pa : Int)) := (L6.out.l.only.cell HB.out (fun e => e) (off + k * 3)).trans BA.out.k0
            have b1 : w6.cell? ⟨b, off + k * 3 + 1, none⟩ = some (.int .u8 (pw.toNat : Int)) := (L6.out.l.only.cell HB.out (fun e => e) (off + k * 3 + 1)).trans BA.out.k1
            go_wp2_with fail
            refine (full_any pw _).mono ?_
            rintro r w7 ⟨gf', rfl, hg, hv, ho⟩
            have L7 := Lib.hid (L6.out.new ho)
            have V7 := Lib.hid hv
            have A7 := Lib.hid (outF (F := G) (v := .slice (some ⟨gf', 0, none⟩) 512 512) rfl hg fun k hk => L6.out.r.at_.lt hk)
            clear hg hv ho b0 b1
            go_wp2_with fail
            refine (L7.out.r.write (i := q) rfl HL.out.1.fewx (by have := H80.out; omega) (HL.out.1.like.dead ▸ HL.out.1.dead) (by rw [← HL.out.1.like.lasts, HL.out.1.len]; exact HQ.out.1) V7.out.rd A7.out (sec_length _) (e := 0) (Dk.live_err HL.out.1.setx) (Dk.live_write HL.out.1.setx q (sec pw))).mono ?_
            rintro r w8 ⟨rfl, G8, hd, hk8⟩
            have L8 := Lib.hid (L7.out.right hd hk8)
            clear hd hk8
            have k2 := (L8.out.l.only.cell HB.out (fun e => e) (off + k * 3 + 2)).trans BA.out.k2
            go_wp2_with fail
            go_roundw
            case rel =>
              refine ⟨k + 1, m + 1, _, _, _, _, by omega, by go_num, by go_num, Lib.hid ⟨⟨L8.out, (HL.out.1.like.wrote q (sec pw)).tick, HL.out.1.dead, HL.out.1.set, HL.out.1.setx, ?_, by omega, HL.out.1.keep, (HL.out.1.few.wroteTick q (sec pw)).mono (by omega), (HL.out.1.fewx.wroteTick q (sec pw)).mono (by omega), HL.out.1.len⟩, by have := HM.out; omega⟩⟩
              show d.left - 1 = _
              rw [HL.out.1.left]; omega
            case measure => simp [intOf]; omega
          · by_cases hm1 : m + 1 = K
            · have hq1 : (m : Int) + 1 = (K : Int) := by omega
              have DUE1 : Hid ((d.wrote q (sec pw)).tick.due = true) := Dk.due_yes (d := (d.wrote q (sec pw)).tick) HL.out.1.set (by show d.left - 1 = 0; rw [HL.out.1.left]; omega)
              go_wp2_with fail
              refine (HL.out.1.two.l.isDead (b := false) HL.out.1.dead).mono ?_
              rintro r w4' ⟨rfl, rfl⟩
              go_wp2_with fail
              refine (full_any pw _).mono ?_
              rintro r w5 ⟨gf, rfl, hg, hv, ho⟩
              have L5 := Lib.hid (HL.out.1.two.new ho)
              have V5 := Lib.hid hv
              have A5 := Lib.hid (outF (F := F) (v := .slice (some ⟨gf, 0, none⟩) 512 512) rfl hg fun k hk => HL.out.1.two.l.at_.lt hk)
              clear hg hv ho
              go_wp2_with fail
              refine (L5.out.l.write (i := q) rfl HL.out.1.few (by have := H80.out; omega) HL.out.1.dead (by rw [HL.out.1.len]; exact HQ.out.1) V5.out.rd A5.out (sec_length _) (e := 0) (Dk.no_err DUE.out) (Dk.no_write DUE.out q (sec pw))).mono ?_
              rintro r w6 ⟨rfl, F6, hd, hk6⟩
              have L6 := Lib.hid (L5.out.left hd hk6)
              clear hd hk6
              have b0 : w6.cell? ⟨b, off + k * 3, none⟩ = some (.int .u8 (pa : Int)) := (L6.out.l.only.cell HB.out (fun e => e) (off + k * 3)).trans BA.out.k0
              have b1 : w6.cell? ⟨b, off + k * 3 + 1, none⟩ = some (.int .u8 (pw.toNat : Int)) := (L6.out.l.only.cell HB.out (fun e => e) (off + k * 3 + 1)).trans BA.out.k1
              go_wp2_with fail
              refine (full_any pw _).mono ?_
              rintro r w7 ⟨gf', rfl, hg, hv, ho⟩
              have L7 := Lib.hid (L6.out.new ho)
              have V7 := Lib.hid hv
              have A7 := Lib.hid (outF (F := G) (v := .slice (some ⟨gf', 0, none⟩) 512 512) rfl hg fun k hk => L6.out.r.at_.lt hk)
              clear hg hv ho b0 b1
              go_wp2_with fail
              refine (L7.out.r.write (i := q) rfl HL.out.1.fewx (by have := H80.out; omega) (HL.out.1.like.dead ▸ HL.out.1.dead) (by rw [← HL.out.1.like.lasts, HL.out.1.len]; exact HQ.out.1) V7.out.rd A7.out (sec_length _) (e := 0) (Dk.live_err HL.out.1.setx) (Dk.live_write HL.out.1.setx q (sec pw))).mono ?_
              rintro r w8 ⟨rfl, G8, hd, hk8⟩
              have L8 := Lib.hid (L7.out.right hd hk8)
              clear hd hk8
              have k2 := (L8.out.l.only.cell HB.out (fun e => e) (off + k * 3 + 2)).trans BA.out.k2
              go_wp2_with fail
              clear k2
              refine (L8.out.l.flush (HL.out.1.few.wroteTick q (sec pw)) (by have := H80.out; omega) HL.out.1.dead (e := 20) (Dk.yes_err DUE1.out) (Dk.yes_flush DUE1.out)).mono ?_
              rintro r w9 ⟨rfl, F9, hd, hk9⟩
              have L9 := Lib.hid (L8.out.left hd hk9)
              clear hd hk9
              have R9 := Lib.hid (RR.out.only L9.out.l.only fun _ _ _ _ e => e)
              go_wp2_with fail
              refine (L9.out.r.crash (HL.out.1.fewx.wroteTick q (sec pw)) (by have := H80.out; omega) (HL.out.1.like.dead ▸ HL.out.1.dead) R9.out (outRd RR.out L9.out.r.fresh) rfl).mono ?_
              rintro r w10 ⟨rfl, G10, hd, hk10⟩
              have L10 := Lib.hid (L9.out.right hd hk10)
              clear hd hk10
              go_wp2_with fail
              go_meet
              refine ⟨_, _, _, _, L10.out, ?_, ((HL.out.1.few.wroteTick q (sec pw)).crashed _).mono (by have := H80.out; omega), ((HL.out.1.fewx.wroteTick q (sec pw)).crashed _).mono (by have := H80.out; omega), (len_settled _ _).trans HL.out.1.len⟩
              rw [show (d.wrote q (sec pw)).tick.keep = keep from HL.out.1.keep]
              exact (HL.out.1.like.wrote q (sec pw)).tick.crashed keep
            · have hq1 : ((m : Int) + 1 == (K : Int)) = false := by simp; omega
              have hq2 : ¬ (m : Int) + 1 = (K : Int) := by omega
              have DUE1 : Hid ((d.wrote q (sec pw)).tick.due = false) := Dk.due_no (d := (d.wrote q (sec pw)).tick) (by show ¬ d.left - 1 = 0; rw [HL.out.1.left]; omega)
              go_wp2_with fail
              refine (HL.out.1.two.l.isDead (b := false) HL.out.1.dead).mono ?_
              rintro r w4' ⟨rfl, rfl⟩
              go_wp2_with fail
              refine (full_any pw _).mono ?_
              rintro r w5 ⟨gf, rfl, hg, hv, ho⟩
              have L5 := Lib.hid (HL.out.1.two.new ho)
              have V5 := Lib.hid hv
              have A5 := Lib.hid (outF (F := F) (v := .slice (some ⟨gf, 0, none⟩) 512 512) rfl hg fun k hk => HL.out.1.two.l.at_.lt hk)
              clear hg hv ho
              go_wp2_with fail
              refine (L5.out.l.write (i := q) rfl HL.out.1.few (by have := H80.out; omega) HL.out.1.dead (by rw [HL.out.1.len]; exact HQ.out.1) V5.out.rd A5.out (sec_length _) (e := 0) (Dk.no_err DUE.out) (Dk.no_write DUE.out q (sec pw))).mono ?_
              rintro r w6 ⟨rfl, F6, hd, hk6⟩
              have L6 := Lib.hid (L5.out.left hd hk6)
              clear hd hk6
              have b0 : w6.cell? ⟨b, off + k * 3, none⟩ = some (.int .u8 (pa : Int)) := (L6.out.l.only.cell HB.out (fun e => e) (off + k * 3)).trans BA.out.k0
              have b1 : w6.cell? ⟨b, off + k * 3 + 1, none⟩ = some (.int .u8 (pw.toNat : Int)) := (L6.out.l.only.cell HB.out (fun e => e) (off + k * 3 + 1)).trans BA.out.k1
              go_wp2_with fail
              refine (full_any pw _).mono ?_
              rintro r w7 ⟨gf', rfl, hg, hv, ho⟩
              have L7 := Lib.hid (L6.out.new ho)
              have V7 := Lib.hid hv
              have A7 := Lib.hid (outF (F := G) (v := .slice (some ⟨gf', 0, none⟩) 512 512) rfl hg fun k hk => L6.out.r.at_.lt hk)
              clear hg hv ho b0 b1
              go_wp2_with fail
              refine (L7.out.r.write (i := q) rfl HL.out.1.fewx (by have := H80.out; omega) (HL.out.1.like.dead ▸ HL.out.1.dead) (by rw [← HL.out.1.like.lasts, HL.out.1.len]; exact HQ.out.1) V7.out.rd A7.out (sec_length _) (e := 0) (Dk.live_err HL.out.1.setx) (Dk.live_write HL.out.1.setx q (sec pw))).mono ?_
              rintro r w8 ⟨rfl, G8, hd, hk8⟩
              have L8 := Lib.hid (L7.out.right hd hk8)
              clear hd hk8
              have k2 := (L8.out.l.only.cell HB.out (fun e => e) (off + k * 3 + 2)).trans BA.out.k2
              go_wp2_with fail
              clear k2
              refine (L8.out.l.flush (HL.out.1.few.wroteTick q (sec pw)) (by have := H80.out; omega) HL.out.1.dead (e := 0) (Dk.no_err DUE1.out) (Dk.no_flush DUE1.out)).mono ?_
              rintro r w9 ⟨rfl, F9, hd, hk9⟩
              have L9 := Lib.hid (L8.out.left hd hk9)
              clear hd hk9
              go_wp2_with fail
              refine (L9.out.r.flush (HL.out.1.fewx.wroteTick q (sec pw)) (by have := H80.out; omega) (HL.out.1.like.dead ▸ HL.out.1.dead) (e := 0) (Dk.live_err (d := (x.wrote q (sec pw)).tick) HL.out.1.setx) (Dk.live_flush (d := (x.wrote q (sec pw)).tick) HL.out.1.setx)).mono ?_
              rintro r w10 ⟨rfl, G10, hd, hk10⟩
              have L10 := Lib.hid (L9.out.right hd hk10)
              clear hd hk10
              go_wp2_with fail
              go_roundw
              case rel =>
                refine ⟨k + 1, m + 2, _, _, _, _, by omega, by go_num, by go_num, Lib.hid ⟨⟨L10.out, ((HL.out.1.like.wrote q (sec pw)).tick.tick).flushed, HL.out.1.dead, HL.out.1.set, HL.out.1.setx, ?_, by omega, HL.out.1.keep, ((HL.out.1.few.wroteTick q (sec pw)).tick.settled _).mono (by omega), ((HL.out.1.fewx.wroteTick q (sec pw)).tick.settled _).mono (by omega), (len_settled _ _).trans HL.out.1.len⟩, by have := HM.out; omega⟩⟩
                show d.left - 1 - 1 = _
                rw [HL.out.1.left]; omega
              case measure => simp [intOf]; omega
      · have i1 : ¬ (k : Int) < (n : Int) := by omega
        go_wp2_with fail
        go_meet
        exact ⟨_, _, _, _, HL.out.1.two, HL.out.1.like, HL.out.1.few.mono (by have := H80.out; omega), HL.out.1.fewx.mono (by have := H80.out; omega), HL.out.1.len⟩
  case rest =>
    obtain ⟨F, d, G, x, hT, hL, hf, hg, hl⟩ := hcut
    have T0 := Lib.hid hT
    have HL := Lib.hid hL
    have Q0 := Lib.hid (And.intro hf (And.intro hg hl))
    obtain ⟨nw, hnw⟩ : ∃ nw : Nat, d.waits.length = nw := ⟨_, rfl⟩
    have hnx : Hid (x.waits.length = nw) := by show _ = _; rw [← hnw, hL.waits]
    have HNW := Lib.hid hnw
    clear hT hL hf hg hl hnw
    cases hb : d.dead
    · have hx : Hid (x.dead = false) := by show _ = _; rw [← HL.out.dead, hb]
      have HB := Lib.hid hb
      clear hb
      go_wp2_with fail
      refine (T0.out.l.isDead (b := false) HB.out).mono ?_
      rintro r w' ⟨rfl, rfl⟩
      go_wp2_with fail
      refine (T0.out.r.isDead (b := false) hx.out).mono ?_
      rintro r w' ⟨rfl, rfl⟩
      go_wp2_with fail
      refine (T0.out.l.wait (n := nw) (by rw [HNW.out])).mono ?_
      rintro r w' ⟨rfl, rfl⟩
      go_wp2_with fail
      refine (T0.out.r.wait (n := nw) (by rw [hnx.out])).mono ?_
      rintro r w' ⟨rfl, rfl⟩
      go_wp2_with fail
      refine (T0.out.l.isDead (b := false) HB.out).mono ?_
      rintro r w' ⟨rfl, rfl⟩
      have Q := Lib.hid (show d.Few 200 ∧ x.Few 200 ∧ d.dead = false ∧ x.dead = false ∧ d.lasts.length = 7 ∧ Like d x from ⟨Q0.out.1, Q0.out.2.1, HB.out, hx.out, Q0.out.2.2, HL.out⟩)
      have T := T0
      go_wp2_with fail
      go_loopw [15] (fun i wr => ∃ j : Nat, j ≤ 7 ∧ i = .int .i64 (j : Int) ∧ Hid (Two w wr D F d X G x)) (fun i wr => 7 - (intOf i).toNat)
      case atStart => exact ⟨0, by omega, rfl, T⟩
      case round =>
        obtain ⟨j, hj, rfl, HJ⟩ := hrel
        by_cases hlt2 : j < 7
        · have j0 : (0 : Int) ≤ (j : Int) := by omega
          have j1 : (j : Int) < 7 := by omega
          have hr := Lib.hid (Dk.read_length HJ.out.l.at_.ok (i := j) (by rw [Q.out.2.2.2.2.1]; exact hlt2))
          go_wp2_with fail
          refine (HJ.out.l.read Q.out.1 (by decide) Q.out.2.2.1 (i := j) rfl (by rw [Q.out.2.2.2.2.1]; exact hlt2) rfl).mono ?_
          rintro r w11 ⟨g1, o1, c1, rfl, hv1, -, -, ho⟩
          have L11 := Lib.hid (HJ.out.new ho)
          have V11 := Lib.hid hv1
          clear hv1 ho
          go_wp2_with fail
          refine (L11.out.r.read Q.out.2.1 (by decide) Q.out.2.2.2.1 (i := j) rfl (by rw [← Q.out.2.2.2.2.2.lasts, Q.out.2.2.2.2.1]; exact hlt2) (Q.out.2.2.2.2.2.read j).symm).mono ?_
          rintro r w12 ⟨g2, o2, c2, rfl, hv2, -, -, ho⟩
          have L12 := Lib.hid (L11.out.new ho)
          have cv1 := conv_vec (V11.out.only ho fun _ _ e => e) hr.out
          have cv2 := conv_vec hv2 hr.out
          obtain ⟨s, hs⟩ : ∃ s : ByteArray, s = ⟨(d.read j).toArray⟩ := ⟨_, rfl⟩
          rw [← hs] at cv1 cv2
          clear hs hv2 ho
          go_wp2_with fail
          go_roundw
          case rel => exact ⟨j + 1, by omega, by go_num, L12⟩
          case measure => simp [intOf]; omega
        · obtain rfl : j = 7 := by omega
          go_wp2_with fail
          go_ret
          exact ⟨rfl, HJ.out.l.only.below (Nat.le_refl _) fun _ h => h.elim⟩
    · have hx : Hid (x.dead = true) := by show _ = _; rw [← HL.out.dead, hb]
      have HB := Lib.hid hb
      clear hb
      go_wp2_with fail
      refine (T0.out.l.isDead (b := true) HB.out).mono ?_
      rintro r w' ⟨rfl, rfl⟩
      go_wp2_with fail
      refine (T0.out.r.isDead (b := true) hx.out).mono ?_
      rintro r w' ⟨rfl, rfl⟩
      go_wp2_with fail
      refine (T0.out.l.wait (n := nw) (by rw [HNW.out])).mono ?_
      rintro r w' ⟨rfl, rfl⟩
      go_wp2_with fail
      refine (T0.out.r.wait (n := nw) (by rw [hnx.out])).mono ?_
      rintro r w' ⟨rfl, rfl⟩
      go_wp2_with fail
      refine (T0.out.l.isDead (b := true) HB.out).mono ?_
      rintro r w' ⟨rfl, rfl⟩
      go_wp2_with fail
      refine (T0.out.l.reopen HB.out rfl).mono ?_
      rintro r w5 ⟨D', F', rfl, hd, -, hf, ho⟩
      have T1 := Lib.hid (show Two w w5 D' F' d.reopened X G x from ⟨hd, T0.out.r.new ho, fun i hF hG => by have := hf i hF; have := T0.out.r.at_.lt hG; omega⟩)
      clear hd hf ho
      go_wp2_with fail
      refine (T1.out.r.reopen hx.out rfl).mono ?_
      rintro r w6 ⟨X', G', rfl, hd, -, hf, ho⟩
      have T := Lib.hid (show Two w w6 D' F' d.reopened X' G' x.reopened from ⟨T1.out.l.new ho, hd, fun i hF hG => by have := hf i hG; have := T1.out.l.at_.lt hF; omega⟩)
      have Q := Lib.hid (show d.reopened.Few 200 ∧ x.reopened.Few 200 ∧ d.reopened.dead = false ∧ x.reopened.dead = false ∧ d.reopened.lasts.length = 7 ∧ Like d.reopened x.reopened from ⟨Dk.Few.reopened, Dk.Few.reopened, rfl, rfl, Q0.out.2.2, HL.out.reopened⟩)
      obtain ⟨d', hd'⟩ : ∃ d', d' = d.reopened := ⟨_, rfl⟩
      obtain ⟨x', hx'⟩ : ∃ x', x' = x.reopened := ⟨_, rfl⟩
      rw [← hd', ← hx'] at T Q
      clear hd hf ho hd' hx'
      go_wp2_with fail
      go_loopw [15] (fun i wr => ∃ j : Nat, j ≤ 7 ∧ i = .int .i64 (j : Int) ∧ Hid (Two w wr D' F' d' X' G' x')) (fun i wr => 7 - (intOf i).toNat)
      case atStart => exact ⟨0, by omega, rfl, T⟩
      case round =>
        obtain ⟨j, hj, rfl, HJ⟩ := hrel
        by_cases hlt2 : j < 7
        · have j0 : (0 : Int) ≤ (j : Int) := by omega
          have j1 : (j : Int) < 7 := by omega
          have hr := Lib.hid (Dk.read_length HJ.out.l.at_.ok (i := j) (by rw [Q.out.2.2.2.2.1]; exact hlt2))
          go_wp2_with fail
          refine (HJ.out.l.read Q.out.1 (by decide) Q.out.2.2.1 (i := j) rfl (by rw [Q.out.2.2.2.2.1]; exact hlt2) rfl).mono ?_
          rintro r w11 ⟨g1, o1, c1, rfl, hv1, -, -, ho⟩
          have L11 := Lib.hid (HJ.out.new ho)
          have V11 := Lib.hid hv1
          clear hv1 ho
          go_wp2_with fail
          refine (L11.out.r.read Q.out.2.1 (by decide) Q.out.2.2.2.1 (i := j) rfl (by rw [← Q.out.2.2.2.2.2.lasts, Q.out.2.2.2.2.1]; exact hlt2) (Q.out.2.2.2.2.2.read j).symm).mono ?_
          rintro r w12 ⟨g2, o2, c2, rfl, hv2, -, -, ho⟩
          have L12 := Lib.hid (L11.out.new ho)
          have cv1 := conv_vec (V11.out.only ho fun _ _ e => e) hr.out
          have cv2 := conv_vec hv2 hr.out
          obtain ⟨s, hs⟩ : ∃ s : ByteArray, s = ⟨(d'.read j).toArray⟩ := ⟨_, rfl⟩
          rw [← hs] at cv1 cv2
          clear hs hv2 ho
          go_wp2_with fail
          go_roundw
          case rel => exact ⟨j + 1, by omega, by go_num, L12⟩
          case measure => simp [intOf]; omega
        · obtain rfl : j = 7 := by omega
          go_wp2_with fail
          go_ret
          exact ⟨rfl, HJ.out.l.only.below (Nat.le_refl _) fun _ h => h.elim⟩
theorem fuses_walk (a : Option Addr) (n c : Nat) (ps : List Put) {w : World} (P : Puts w a n ps) (y : Int) (v : Value) (keep : List Bool) (R : Rd w 1 v keep.length (bo keep)) (hk : keep.length * Try.prog.bytesOf 4 ≤ reachBytes) :
    Calls Try.prog 3 #[.slice a n c, .int .i64 y, v] w fun r w' => r = .returned (.bool true) ∧ Below w.heap.size w w' := by
  rw [bytes4, reach_eq, Nat.mul_one] at hk
  by_cases h : 80 < n
  · exact fuses_long y a n c v w h
  · exact fuses_main y a n c ps w P v keep R hk (by omega)
end Go.Proofs.Yteoeaojebklfjaa
