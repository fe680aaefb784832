/- Both disks; alike. -/
import Derived.Test.YteoeaojebklfjaaR4
namespace Go.Proofs.Yteoeaojebklfjaa
open Go.RowKit Go.Maps
set_option linter.unusedVariables false

/-- the disk and the document's -/
structure Pair (w0 w : World) (D : Nat) (F : Nat → Prop) (d : Dk) (X : Nat) (G : Nat → Prop) (x : Dk) : Prop where
  l : Dsk w0 w D F d
  r : Rsk w0 w X G x
  apart : ∀ i, F i → ¬ G i
section
variable {w0 w w' : World} {D X : Nat} {F F' G G' : Nat → Prop} {d d' x x' : Dk}
theorem Pair.new (h : Pair w0 w D F d X G x) (o : Only None' w w') : Pair w0 w' D F d X G x := ⟨h.l.new o, h.r.new o, h.apart⟩
theorem Pair.left (h : Pair w0 w D F d X G x) (hd : Dsk w0 w' D F' d') (k : Kept F F' w w') : Pair w0 w' D F' d' X G x :=
  ⟨hd, h.r.other k h.l.fresh fun i hG hF => h.apart i hF hG, fun i hF hG => (k.fresh i hF).elim (fun e => h.apart i e hG) fun e => by have := h.r.at_.lt hG; omega⟩
theorem Pair.right (h : Pair w0 w D F d X G x) (hx : RefAt w' X G' x') (k : Kept G G' w w') : Pair w0 w' D F d X G' x' :=
  ⟨h.l.other k h.r.fresh h.apart, h.r.step hx k, fun i hF hG => (k.fresh i hG).elim (h.apart i hF) fun e => by have := h.l.at_.lt hF; omega⟩
end

theorem conv_nil (w : World) : (convert 34 9 (.slice none 0 0)).run Try.prog w = .ok (.string ⟨#[]⟩) w := Lib.run_convert_nil_bytes w 34 9 5 0 Try.underlying34 Try.underlying5 Try.underlying9

theorem Vec.write1 {w : World} {g off c y : Nat} {xs : List Value} (h : Vec w 1 (.slice (some ⟨g, off, none⟩) 512 c) 512 xs) (hy : y < 512) (v : Value) : ∃ ys, Vec (w.setCell ⟨g, off + y, none⟩ v) 1 (.slice (some ⟨g, off, none⟩) 512 c) 512 ys := by
  have := h.put (o := y) (vs := [v]) (by simp; omega)
  exact ⟨_, by simpa [World.setCells] using this⟩

set_option maxRecDepth 20000 in
set_option maxHeartbeats 2000000 in
theorem alike_any {w0 w : World} {D X : Nat} {F G : Nat → Prop} {d : Dk} (P : Pair w0 w D F d X G d) {n : Nat} (hf : d.Few n) (hn : n ≤ 999999) :
    Calls Try.prog 29 #[.pointer (some ⟨D, 0, none⟩), .pointer (some ⟨X, 0, none⟩)] w fun r w' => r = .returned (.bool true) ∧ Only None' w w' := by
  have PP := Lib.hid P
  obtain ⟨n1, hn1⟩ : ∃ n1, d.lasts.length = n1 := ⟨_, rfl⟩
  obtain ⟨n2, hn2⟩ : ∃ n2, d.waits.length = n2 := ⟨_, rfl⟩
  obtain ⟨dn, hdn⟩ : ∃ dn, d.done = dn := ⟨_, rfl⟩
  obtain ⟨dd, hdd⟩ : ∃ dd, d.dead = dd := ⟨_, rfl⟩
  have B24 : ∀ q, Calls Try.prog 24 #[.pointer (some ⟨D, 0, none⟩)] (w.drewN q) fun r w' => r = .returned (.int .i64 (n1 : Int)) ∧ w' = w.drewN q := fun q => by rw [← hn1]; exact len_any (P.l.at_.drewN q)
  have B20 : ∀ q, Calls Try.prog 20 #[.pointer (some ⟨D, 0, none⟩)] (w.drewN q) fun r w' => r = .returned (.int .i64 (n2 : Int)) ∧ w' = w.drewN q := fun q => by rw [← hn2]; exact waits_any (P.l.at_.drewN q)
  have B23 : ∀ q, Calls Try.prog 23 #[.pointer (some ⟨D, 0, none⟩)] (w.drewN q) fun r w' => r = .returned (.int .i64 dn) ∧ w' = w.drewN q := fun q => by rw [← hdn]; exact done_any (P.l.at_.drewN q)
  have B15 : ∀ q, Calls Try.prog 15 #[.pointer (some ⟨D, 0, none⟩)] (w.drewN q) fun r w' => r = .returned (.bool dd) ∧ w' = w.drewN q := fun q => by rw [← hdd]; exact dead_any (P.l.at_.drewN q)
  have H24 := Lib.hid B24
  have H20 := Lib.hid B20
  have H23 := Lib.hid B23
  have H15 := Lib.hid B15
  obtain ⟨U1, U2, UK, R, rfl⟩ := P.r.at_
  obtain ⟨a1, k1, a2, k2, aK, kK, rfl, rfl, rfl⟩ := R.shapes
  have c0 := R.cells.is 0 _ rfl
  have c1 := R.cells.is 1 _ rfl
  have c2 := R.cells.is 2 _ rfl
  have c3 := R.cells.is 3 _ rfl
  have ltX := R.cells.lt
  have hN1 := Lib.hid hn1
  have hDD := Lib.hid hdd
  have HF := Lib.hid (And.intro hf hn)
  have hmany := Lib.hid (show n1 ≤ 65536 from hn1 ▸ P.l.at_.ok.many)
  rw [hn1] at c0
  rw [hn2] at c1
  rw [hdn] at c2
  rw [hdd] at c3
  clear P B24 B20 B23 B15 R hf hn hn1 hn2 hdn hdd
  go_enter Try.func29, Try.ntmps29
  go_wp2_with fail
  go_quiet ((first | (go_at_call 24; exact Calls.quiet_of_same (H24.out _)) | (go_at_call 20; exact Calls.quiet_of_same (H20.out _)) | (go_at_call 23; exact Calls.quiet_of_same (H23.out _)) | (go_at_call 15; exact Calls.quiet_of_same (H15.out _))))
  go_wp2_with fail
  clear c1 c2 c3
  go_loopw [5] (fun i wr => ∃ z : Int, -1 ≤ z ∧ z ≤ (n1 : Int) + 1 ∧ z ≤ 12 ∧ i = .int .i64 z ∧ Hid (Only None' w wr)) (fun i wr => (13 - intOf i).toNat)
  case atStart => exact ⟨-1, by omega, by omega, by omega, rfl, Lib.hid ((Only.refl None' w).drewN nq)⟩
  case round =>
    obtain ⟨z, hz0, hz1, hz2, rfl, O⟩ := hrel
    have k0 := (O.out.cell ltX (fun e => e) 0).trans c0
    have PW := Lib.hid (PP.out.new O.out)
    by_cases hlt : z ≤ (n1 : Int) ∧ z < 12
    · obtain ⟨hlt, hlt2⟩ := hlt
      cases hdd : d.dead
      · by_cases hin : 0 ≤ z ∧ z < (n1 : Int)
        · obtain ⟨zi, rfl⟩ : ∃ zi : Nat, z = (zi : Int) := ⟨z.toNat, by omega⟩
          have hi : zi < d.lasts.length := by have := hN1.out; omega
          have HR := Lib.hid (read_any PW.out.l.at_ hdd hi (Nat.le_trans HF.out.1.waits (Nat.le_trans HF.out.2 (by decide))))
          have HL := Lib.hid (Dk.read_length PW.out.l.at_.ok hi)
          have HD := Lib.hid (And.intro hdd hi)
          clear hdd hi
          go_wp2_with fail
          refine HR.out.mono ?_
          rintro r w1 ⟨v, rfl, hv, hge, ho⟩
          obtain ⟨g, off, cp, rfl, _⟩ := hv.at_ (by decide)
          have HV := Lib.hid hv
          have HG := Lib.hid (hge g rfl)
          have O1 := Lib.hid ho
          have PW1 := Lib.hid (PW.out.new ho)
          have cv := conv_vec hv HL.out
          obtain ⟨s, hs⟩ : ∃ s : ByteArray, s = ⟨(d.read zi).toArray⟩ := ⟨_, rfl⟩
          rw [← hs] at cv
          have HRR : Hid (Calls Try.prog 30 #[.pointer (some ⟨X, 0, none⟩), .int .i64 (zi : Int)] w1 fun r w' => r = .returned (.tuple #[.string s, .int .i64 0]) ∧ w' = w1) := by rw [hs]; exact rRead_any PW1.out.r.at_ HD.out.1 HD.out.2 (Nat.le_trans HF.out.1.waits (Nat.le_trans HF.out.2 (by decide)))
          clear hv hge ho hs
          go_wp2_with fail
          refine HRR.out.mono ?_
          rintro r w2 ⟨rfl, e⟩
          obtain rfl := e.symm
          go_wp2_with fail
          clear cv
          go_loopw [10] (fun y wx => ∃ yi : Nat, yi ≤ 512 ∧ y = .int .i64 (yi : Int) ∧ Hid ((∃ ys, Vec wx 1 (.slice (some ⟨g, off, none⟩) 512 cp) 512 ys) ∧ Only None' w wx)) (fun y wx => 512 - (intOf y).toNat)
          case atStart => exact ⟨0, by omega, rfl, Lib.hid ⟨⟨_, HV.out⟩, O.out.trans O1.out⟩⟩
          case round =>
            obtain ⟨yi, hy, rfl, HY⟩ := hrel
            by_cases hlt3 : yi < 512
            · have y0 : (0 : Int) ≤ (yi : Int) := by omega
              have y1 : (yi : Int) < 512 := by omega
              obtain ⟨ys, hv⟩ := HY.out.1
              obtain ⟨f1, f2⟩ := hv.free (k := yi) (by omega)
              obtain ⟨u, hu⟩ := Option.isSome_iff_exists.1 f1
              have HVY := Lib.hid hv
              clear f1 hv
              go_wp2_with fail
              go_roundw
              case rel => exact ⟨yi + 1, by omega, by go_num, Lib.hid ⟨HVY.out.write1 hlt3 _, HY.out.2.setNew (Nat.le_trans O.out.size HG.out) _ _⟩⟩
              case measure => simp [intOf]; omega
            · obtain rfl : yi = 512 := by omega
              go_wp2_with fail
              go_roundw
              case rel => exact ⟨(zi : Int) + 1, by omega, by omega, by omega, by go_num, Lib.hid HY.out.2⟩
              case measure => simp [intOf]; omega
        · have HB := Lib.hid (read_bad PW.out.l.at_ hdd z (by have := hN1.out; omega))
          have HBB := Lib.hid (rRead_bad PW.out.r.at_ hdd z (by have := hN1.out; omega))
          clear hdd
          go_wp2_with fail
          refine (HB.out).mono ?_
          rintro r w1 ⟨rfl, e⟩
          obtain rfl := e.symm
          go_wp2_with fail
          refine (HBB.out).mono ?_
          rintro r w1 ⟨rfl, e⟩
          obtain rfl := e.symm
          have cvn := conv_nil wr
          go_wp2_with fail
          go_loopw [10] (fun y wx => y = .int .i64 0 ∧ wx = wr) (fun y wx => 0)
          case atStart => exact ⟨rfl, rfl⟩
          case round =>
            obtain ⟨rfl, e⟩ := hrel
            obtain rfl := e.symm
            go_wp2_with fail
            go_roundw
            case rel => exact ⟨z + 1, by omega, by omega, by omega, by go_num, O⟩
            case measure => simp [intOf]; omega
      · have HB := Lib.hid (read_dead PW.out.l.at_ hdd z)
        have HBB := Lib.hid (rRead_dead PW.out.r.at_ hdd z)
        clear hdd
        go_wp2_with fail
        refine (HB.out).mono ?_
        rintro r w1 ⟨rfl, e⟩
        obtain rfl := e.symm
        go_wp2_with fail
        refine (HBB.out).mono ?_
        rintro r w1 ⟨rfl, e⟩
        obtain rfl := e.symm
        have cvn := conv_nil wr
        go_wp2_with fail
        go_loopw [10] (fun y wx => y = .int .i64 0 ∧ wx = wr) (fun y wx => 0)
        case atStart => exact ⟨rfl, rfl⟩
        case round =>
          obtain ⟨rfl, e⟩ := hrel
          obtain rfl := e.symm
          go_wp2_with fail
          go_roundw
          case rel => exact ⟨z + 1, by omega, by omega, by omega, by go_num, O⟩
          case measure => simp [intOf]; omega
    · by_cases h2 : z ≤ (n1 : Int)
      · have h3 : ¬ z < 12 := by omega
        go_wp2_with fail
        go_ret
        exact ⟨rfl, O.out⟩
      · go_wp2_with fail
        go_ret
        exact ⟨rfl, O.out⟩
end Go.Proofs.Yteoeaojebklfjaa
