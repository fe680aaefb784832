/- I2 I0 H7 I3 I4 in one text. -/
import Derived.Test.YteoeaojebklfjaaGreatDoorV08
import Derived.Deep.RegionLaw
import Derived.Test.YteoeaojebklfjaaGreatDoorV04
namespace Go.Proofs.YteoeaojebklfjaaGreatDoor
open Go.RowKit Go.Maps
set_option linter.unusedVariables false

theorem info34 : Tryz.prog.info? 35 = some Tryz.t35 := by kernel_rfl
theorem t34_zero : Tryz.t35.zero = some (.slice none 0 0) := by kernel_rfl
theorem t34_size : Tryz.t35.size = 1 := by kernel_rfl
theorem t34_bytes : Tryz.t35.bytes = 24 := by kernel_rfl
theorem row_block {w : World} {v : Value} {n : Nat} {xs : List Value} {k : Nat} (h : Vec w 1 v n xs) (hk : w.heap.size ≤ k) : v.ownBlock ≠ some k := fun e => by have := h.lt e; omega

structure RecLoop (w wr : World) (R D N B : Nat) (r : Rg) (g : Nat → Sec) (j : Nat) (vo : Value) (out : List (List UInt8)) (vn : Value) (now : List UInt8) (last : Nat) : Prop where
  only : Only (fun k => k = R) w wr
  cn : CellsR wr N [.int .i64 ((r.base + j : Nat) : Int)]
  cb : CellsR wr B [.pointer (some ⟨R, 0, none⟩)]
  ring : RingAt wr R D { r with last := last }
  recs : Recs wr (fun k => w.heap.size ≤ k ∧ k ≠ N ∧ k ≠ B ∧ vn.ownBlock ≠ some k) vo out
  row : Vec wr 1 vn now.length (bv now)
  own : ∀ k, vn.ownBlock = some k → w.heap.size ≤ k ∧ k ≠ N ∧ k ≠ B
  nb : N ≠ B
  newN : w.heap.size ≤ N
  newB : w.heap.size ≤ B
  small : now.length ≤ 501 * j ∧ out.length ≤ j
  le : r.base ≤ last ∧ last ≤ r.base + j ∧ last ≤ r.top

def RunAt (r : Rg) (g : Nat → Sec) (j : Nat) (out : List (List UInt8)) (now : List UInt8) (last : Nat) : Prop := runG r.count g r.count r.base [] [] r.base = runG r.count g (r.count - j) (r.base + j) out now last

def RecRes (w : World) (R D : Nat) (r : Rg) (g : Nat → Sec) (e : Ending) (w' : World) : Prop :=
  ∃ v, e = .returned (.tuple #[v, .int .i64 0]) ∧ Recs w' (fun k => w.heap.size ≤ k) v (runG r.count g r.count r.base [] [] r.base).1 ∧ RingAt w' R D { r with last := (runG r.count g r.count r.base [] [] r.base).2 } ∧ Only (fun k => k = R) w w'

theorem rd_one (w : World) (v : Value) (t : TypeId) : Rd ((w.alloc (.cells #[v] t)).drew) 1 (.slice (some ⟨w.heap.size, 0, none⟩) 1 1) 1 [v] := by
  refine ⟨rfl, .inr ⟨_, 1, rfl, Nat.le_refl _, by unfold maxLen; decide, fun j u hu => ?_⟩⟩
  rw [add_mid' (⟨w.heap.size, 0, none⟩) j rfl]
  match j with
  | 0 =>
    simp at hu
    subst hu
    show (w.alloc (.cells #[v] t)).cell? _ = _
    rw [World.cell?_alloc_new]; rfl
  | j + 1 => simp at hu
theorem one_slice (a : Option Addr) (n c : Nat) : ∀ u ∈ [Value.slice a n c], u.oneCell' = true := by
  intro u hu
  simp at hu
  subst hu
  rfl
section
variable {w wr : World} {R D N B : Nat} {r : Rg} {g : Nat → Sec} {j : Nat} {vo vn : Value} {out : List (List UInt8)} {now : List UInt8} {last : Nat}
theorem RecLoop.tell (h : RecLoop w wr R D N B r g j vo out vn now last) (hR : R < w.heap.size) {w2 : World} (o : Only (fun k => k = N) wr w2) (hrun : RunAt r g j out now last) (hf : runG r.count g (r.count - j) (r.base + j) out now last = (out, last)) : RecRes w R D r g (.returned (.tuple #[vo, .int .i64 0])) w2 := by
  refine ⟨vo, rfl, ?_, ?_, ?_⟩
  · rw [hrun, hf]
    exact (h.recs.only o fun k hk e => hk.2.1 e).mono fun k _ hk => hk.1
  · rw [hrun, hf]
    exact h.ring.kept o fun e => by have := h.newN; omega
  · exact h.only.trans2 o fun k hk e => by have := h.newN; omega
theorem RecLoop.more (h : RecLoop w wr R D N B r g j vo out vn now last) (hR : R < w.heap.size) {wA xA : World} {p : Pc} {v' : Value} (hj : j < r.count) (hp : pieceG r.count g (r.base + j + 1) = some p)
    (oA : Only (fun k => k = N) wr wA) (hN : CellsR wA N [.int .i64 ((r.base + j + 1 : Nat) : Int)]) (hv : Vec xA 1 v' (now.length + p.data.length) (bv now ++ bv p.data)) (hg : wA.grownBy xA vn.ownBlock) (hf : ∀ k, v'.ownBlock = some k → vn.ownBlock = some k ∨ wA.heap.size ≤ k) :
    RecLoop w xA R D N B r g (j + 1) vo out v' (now ++ p.data) last := by
  have o2 : Only (fun k => vn.ownBlock = some k) wA xA := (Only.refl _ wA).grown hg fun k hk => hk
  have ok := seeG_ok (count := r.count) (g := g) (i := (r.base + j + 1) % r.count) (p := p) (by
    have := pieceG_some hp
    unfold seeG
    rw [this.1]
    simp only
    rw [if_pos (by rw [this.2])])
  have hs := ok.size
  have hN' := h.cn.lt
  have hB' := h.cb.lt
  refine ⟨?_, ?_, ?_, ?_, ?_, ?_, ?_, h.nb, h.newN, h.newB, ?_, ?_⟩
  · exact (h.only.trans2 oA fun k hk e => by have := h.newN; omega).trans2 o2 fun k hk e => by have := (h.own k e).1; omega
  · exact hN.kept o2 fun e => (h.own N e).2.1 rfl
  · exact (h.cb.kept oA fun e => h.nb e.symm).kept o2 fun e => (h.own B e).2.2 rfl
  · exact (h.ring.kept oA fun e => by have := h.newN; omega).kept o2 fun e => by have := (h.own R e).1; omega
  · refine ((h.recs.mono (P' := fun k => (w.heap.size ≤ k ∧ k ≠ N ∧ k ≠ B ∧ v'.ownBlock ≠ some k) ∧ vn.ownBlock ≠ some k) fun k hk hk' => ⟨⟨hk'.1, hk'.2.1, hk'.2.2.1, fun e => ?_⟩, hk'.2.2.2⟩).only oA fun k hk e => hk.1.2.1 e).only o2 (fun k hk e => hk.2 e) |>.mono fun k _ hk => hk.1
    rcases hf k e with h1 | h1
    · exact hk'.2.2.2 h1
    · have := oA.size; omega
  · rw [List.length_append]
    have e : bv (now ++ p.data) = bv now ++ bv p.data := by simp [bv]
    rw [e]; exact hv
  · intro k hk
    rcases hf k hk with h1 | h1
    · exact h.own k h1
    · have := oA.size
      have h3 := h.only.size
      exact ⟨by omega, by omega, by omega⟩
  · rw [List.length_append]; have := h.small; omega
  · have := h.le; omega
theorem RunAt.next {p : Pc} (h : RunAt r g j out now last) (hj : j < r.count) (hp : pieceG r.count g (r.base + j + 1) = some p) : if p.last then RunAt r g (j + 1) (out ++ [now ++ p.data]) [] (r.base + j + 1) else RunAt r g (j + 1) out (now ++ p.data) last := by
  obtain ⟨m, hm⟩ : ∃ m, r.count - j = m + 1 := ⟨r.count - j - 1, by omega⟩
  unfold RunAt at h ⊢
  rw [h, hm, show r.count - (j + 1) = m by omega, show r.base + (j + 1) = r.base + j + 1 by omega, runG, hp]
  simp only
  split <;> rfl
theorem RecLoop.push (h : RecLoop w wr R D N B r g (j + 1) vo out vn now last) (hR : R < w.heap.size) {y : World} {v' : Value} {xs : List Value} {o : Obj} (h1 : ∀ k, vo.ownBlock = some k → w.heap.size ≤ k ∧ k ≠ N ∧ k ≠ B ∧ vn.ownBlock ≠ some k) (h3 : ∀ (i : Nat) (hi : i < out.length), ∃ x, xs[i]? = some x ∧ Vec wr 1 x out[i].length (bv out[i]) ∧ ∀ k, x.ownBlock = some k → (w.heap.size ≤ k ∧ k ≠ N ∧ k ≠ B ∧ vn.ownBlock ≠ some k) ∧ vo.ownBlock ≠ some k) (hlx : xs.length = out.length)
    (hv : Vec y 1 v' (out.length + 1) (xs ++ [vn])) (hg : (wr.alloc o).grownBy y vo.ownBlock) (hf : ∀ k, v'.ownBlock = some k → vo.ownBlock = some k ∨ (wr.alloc o).heap.size ≤ k) (hl : out.length ≤ j) (ht : r.base + j + 1 ≤ r.top) (q : Nat) :
    RecLoop w ((y.setCell ⟨R, 4, none⟩ (.int .i64 ((r.base + j + 1 : Nat) : Int))).drewN q) R D N B r g (j + 1) v' (out ++ [now]) (.slice none 0 0) [] (r.base + j + 1) := by
  have hsz : (wr.alloc o).heap.size = wr.heap.size + 1 := by simp
  have oa : Only None' wr (wr.alloc o) := (Only.refl _ _).alloc _
  have og : Only (fun k => vo.ownBlock = some k) (wr.alloc o) y := (Only.refl _ _).grown hg fun k hk => hk
  have os : Only (fun k => k = R) y ((y.setCell ⟨R, 4, none⟩ (.int .i64 ((r.base + j + 1 : Nat) : Int))).drewN q) := ((Only.refl (fun k => k = R) y).setCell (p := ⟨R, 4, none⟩) rfl _).drewN q
  have hN := h.cn.lt
  have hB := h.cb.lt
  have hRr := h.ring.lt
  have hws := h.only.size
  have hRec : Recs y (fun k => w.heap.size ≤ k ∧ k ≠ N ∧ k ≠ B) v' (out ++ [now]) := by
    refine Recs.push (w := wr.alloc o) (P := fun k => w.heap.size ≤ k ∧ k ≠ N ∧ k ≠ B) (fun k hk => ⟨(h1 k hk).1, (h1 k hk).2.1, (h1 k hk).2.2.1⟩) (fun i hi => ?_) hv hlx hg hf (h.row.alloc _) (fun k hk => ⟨h.own k hk, fun e => (h1 k e).2.2.2 hk⟩) (fun k hk => ⟨by omega, by omega, by omega⟩)
    obtain ⟨x, a, b, c⟩ := h3 i hi
    exact ⟨x, a, b.alloc _, fun k hk => ⟨⟨(c k hk).1.1, (c k hk).1.2.1, (c k hk).1.2.2.1⟩, (c k hk).2⟩⟩
  refine ⟨?_, ?_, ?_, ?_, ?_, Vec.nil _ _, fun k hk => (by cases hk), h.nb, h.newN, h.newB, ?_, ?_⟩
  · exact ((h.only.trans2 oa fun _ _ e => e.elim).trans2 og fun k hk e => by have := (h1 k e).1; omega).trans2 os fun k hk e => e
  · exact ((h.cn.kept oa fun e => e).kept og fun e => (h1 N e).2.1 rfl).kept os fun e => by have := h.newN; omega
  · exact ((h.cb.kept oa fun e => e).kept og fun e => (h1 B e).2.2.1 rfl).kept os fun e => by have := h.newB; omega
  · have := ((h.ring.kept oa fun e => e).kept og fun e => by have := (h1 R e).1; omega).set (i := 4) (by simp) (.int .i64 ((r.base + j + 1 : Nat) : Int))
    exact CellsR.kept this ((Only.refl None' _).drewN q) fun e => e
  · exact (hRec.only os fun k hk e => by have := hk.1; omega).mono fun k _ hk => ⟨hk.1, hk.2.1, hk.2.2, fun e => by cases e⟩
  · rw [List.length_append]; simp; omega
  · have := h.le; omega
end

set_option maxRecDepth 20000 in
set_option maxHeartbeats 4000000 in
theorem records_any {w : World} {R D : Nat} {F : Nat → Prop} {r : Rg} {d : Dk} (h : RingAt w R D r) (hok : r.Ok) (hlb : r.last = r.base) (hd : DiskAt w D F d) (hdd : d.dead = false) (hRF : ¬ F R) (hl : r.first + r.count ≤ d.lasts.length) (hw : d.waits.length ≤ 1000000)
    (htop : ∀ n p, pieceG r.count (gOf r d) n = some p → p.n ≤ r.top) :
    Calls Tryz.prog 89 #[.pointer (some ⟨R, 0, none⟩)] w (RecRes w R D r (gOf r d)) := by
  have HP := Lib.hid (pieces_new h)
  have HR0 := Lib.hid h
  have HD0 := Lib.hid hd
  have HK := Lib.hid hok
  have HDD := Lib.hid (And.intro hdd (And.intro hl hw))
  have HLB := Lib.hid hlb
  have HRF := Lib.hid hRF
  have HTOP := Lib.hid htop
  obtain ⟨g, hg⟩ : ∃ g, g = gOf r d := ⟨_, rfl⟩
  rw [← hg] at HTOP ⊢
  have HG := Lib.hid hg
  have c5 := h.lt
  have HLT := Lib.hid c5
  clear h hok hd hdd hl hw hlb hRF htop hg c5
  go_enter Tryz.func89, Tryz.ntmps89
  go_wp2_with fail
  refine HP.out.mono ?_
  rintro e w1 ⟨N, B, rfl, hN, hB, hn, hb, hnb, ho⟩
  have L0 : RecLoop w w1 R D N B r g 0 (.slice none 0 0) [] (.slice none 0 0) [] r.base := by
    refine ⟨ho.mono fun _ _ e => e.elim, hN, hB, ?_, Recs.nil _ _, Vec.nil _ _, fun k hk => (by cases hk), hnb, hn, hb, ⟨Nat.le_refl _, Nat.le_refl _⟩, ⟨Nat.le_refl _, Nat.le_refl _, Nat.le_trans HK.out.bl HK.out.lt⟩⟩
    have := HR0.out.kept ho fun e => e
    rw [HLB.out] at this
    exact this
  have HL0 := Lib.hid L0
  clear hN hB hn hb hnb ho L0
  go_wp2_with fail
  go_loopg [4, 5] r.count (fun gg s u wr => ∃ (j : Nat) (oa : Option Addr) (out : List (List UInt8)) (oc : Nat) (na : Option Addr) (now : List UInt8) (nc last : Nat), gg = r.count - j ∧ j ≤ r.count ∧ s = .slice oa out.length oc ∧ u = .slice na now.length nc ∧ Hid (RecLoop w wr R D N B r g j s out u now last ∧ RunAt r g j out now last))
  case atStart => exact ⟨0, none, [], 0, none, [], 0, r.base, rfl, Nat.zero_le _, rfl, rfl, Lib.hid ⟨HL0.out, rfl⟩⟩
  case round =>
    obtain ⟨j, oa, out, oc, na, now, nc, last, rfl, hj, rfl, rfl, HL2⟩ := hrel
    have HL := Lib.hid HL2.out.1
    have HRU := Lib.hid HL2.out.2
    clear HL2
    have HK' : Hid (Rg.Ok { r with last := last }) := ⟨HK.out.count, HK.out.small, HL.out.le.1, HL.out.le.2.2, by have := HL.out.le.2.1; show last ≤ r.base + r.count; omega, HK.out.top⟩
    by_cases hlt : j < r.count
    · have hDr : DiskAt wr D F d := HD0.out.only HL.out.only fun k hk e => HRF.out (e ▸ hk)
      have hNF : ¬ F N := fun hF => by have := HD0.out.lt hF; have := HL.out.newN; omega
      have hNR : N ≠ R := fun e => by have := HL.out.newN; have := HLT.out; omega
      cases hpc : pieceG r.count g (r.base + j + 1) with
      | none =>
        have HNX := Lib.hid (next_any HL.out.cn HL.out.cb HL.out.ring HK'.out hDr HDD.out.1 HDD.out.2.1 HDD.out.2.2 HL.out.nb hNR hNF (by show r.base ≤ _; omega) (by show _ < r.base + r.count; omega) (o := none) (by rw [← hpc, HG.out]; rfl))
        have HPC := Lib.hid hpc
        have HJ := Lib.hid (And.intro hj hlt)
        clear hpc hDr hNF hNR hj hlt
        go_wp2_with fail
        refine HNX.out.mono ?_
        rintro e w2 ⟨o2, -, n', b', a', k', c', rfl⟩
        have O2 := Lib.hid o2
        clear o2
        go_wp2_with fail
        go_ret2
        refine HL.out.tell HLT.out (O2.out.alloc _) HRU.out ?_
        obtain ⟨m, hm⟩ : ∃ m, r.count - j = m + 1 := ⟨r.count - j - 1, by have := HJ.out; omega⟩
        rw [hm, runG, HPC.out]
      | some p =>
        have HNX := Lib.hid (next_any HL.out.cn HL.out.cb HL.out.ring HK'.out hDr HDD.out.1 HDD.out.2.1 HDD.out.2.2 HL.out.nb hNR hNF (by show r.base ≤ _; omega) (by show _ < r.base + r.count; omega) (o := some p) (by rw [← hpc, HG.out]; rfl))
        have HPC := Lib.hid hpc
        have HJ := Lib.hid (And.intro hj hlt)
        have HNN := Lib.hid (pieceG_some hpc).2
        have HPO := Lib.hid (seeG_ok (count := r.count) (g := g) (i := (r.base + j + 1) % r.count) (p := p) (by
          have := pieceG_some hpc
          unfold seeG
          rw [this.1]
          simp only
          rw [if_pos (by rw [this.2])]))
        clear hpc hDr hNF hNR hj hlt
        obtain ⟨pn, la, data⟩ := p
        simp only at HNN
        go_wp2_with fail
        refine HNX.out.mono ?_
        rintro e w2 ⟨o2, cN, v, rfl, hv, hfr⟩
        obtain ⟨va, vk, vc, rfl⟩ := hv.rd.shape'
        have OA := Lib.hid (o2.alloc (.cells #[.int .i64 (pn : Int), .bool la, .slice va vk vc] 132))
        have CNA := Lib.hid (cN.kept ((Only.refl None' _).alloc (.cells #[.int .i64 (pn : Int), .bool la, .slice va vk vc] 132)) fun e => e)
        have TA := Lib.hid (cells_new w2 [.int .i64 (pn : Int), .bool la, .slice va vk vc] 132)
        have RD := Lib.hid ((hv.alloc (.cells #[.int .i64 (pn : Int), .bool la, .slice va vk vc] 132)).rd)
        have NA := Lib.hid (HL.out.row.only OA.out fun k hk e => (HL.out.own k hk).2.1 e)
        have HB1 := Lib.hid (show now.length + data.length ≤ 40000000 by
          have h1 := HPO.out.size
          have h2 := HL.out.small.1
          have h3 := HJ.out.1
          have h4 := HK.out.small
          simp only at h1
          omega)
        have HTN := Lib.hid o2.size
        clear o2 cN hv hfr
        obtain ⟨wA, hwA⟩ : ∃ wA, wA = w2.alloc (.cells #[.int .i64 (pn : Int), .bool la, .slice va vk vc] 132) := ⟨_, rfl⟩
        obtain ⟨T, hT⟩ : ∃ T, T = w2.heap.size := ⟨_, rfl⟩
        rw [← hwA] at OA CNA TA RD NA
        rw [← hT] at TA
        have eT := hT.symm
        have eA := hwA.symm
        have t2 := TA.out.is 2 _ rfl
        have HTn := Lib.hid (show wr.heap.size ≤ T by have := HTN.out; omega)
        clear hwA hT
        cases la
        · go_wp2_with (first | (at_builtin; refine wpList_append_any rfl _ _ 35 rfl 5 Tryz.t5 (.int .u8 0) 1 1 Tryz.underlying35 info5 zero5 size5 bytes5 rfl (by decide) (.slice na now.length nc) now.length (bv now) rfl NA.out (.slice va vk vc) data.length (bv data) rfl RD.out (bv_one _) (by have := HB1.out; unfold maxLen; omega) (by have := HB1.out; omega) ?_; intro v' w3 hv3 hg3 hf3; obtain ⟨na', nc', rfl, _, _⟩ := hv3.shape; have o3 : Only (fun k => (Value.slice na now.length nc).ownBlock = some k) wA w3 := (Only.refl _ wA).grown hg3 fun k hk => hk; have TB := TA.out.kept o3 (fun e => by have := NA.out.lt e; have := HL.out.row.lt e; have := HTn.out; omega); have t0 := TB.is 0 _ rfl; have t1 := TB.is 1 _ rfl; have HX := Lib.hid (And.intro hv3 (And.intro hg3 hf3)); clear t2 hv3 hg3 hf3 o3))
          go_roundg (r.count - (j + 1))
          case rel =>
            refine ⟨j + 1, oa, out, oc, na', now ++ data, nc', last, rfl, HJ.out.2, rfl, by rw [List.length_append], Lib.hid ⟨HL.out.more HLT.out HJ.out.2 HPC.out OA.out CNA.out HX.out.1 HX.out.2.1 HX.out.2.2, ?_⟩⟩
            exact HRU.out.next HJ.out.2 HPC.out
          case measure => have := HJ.out.2; omega
        · skip
          go_wp2_with (first | (at_builtin; refine wpList_append_any rfl _ _ 35 rfl 5 Tryz.t5 (.int .u8 0) 1 1 Tryz.underlying35 info5 zero5 size5 bytes5 rfl (by decide) (.slice na now.length nc) now.length (bv now) rfl NA.out (.slice va vk vc) data.length (bv data) rfl RD.out (bv_one _) (by have := HB1.out; unfold maxLen; omega) (by have := HB1.out; omega) ?_; intro v' w3 hv3 hg3 hf3; obtain ⟨na', nc', rfl, _, _⟩ := hv3.shape; have o3 : Only (fun k => (Value.slice na now.length nc).ownBlock = some k) wA w3 := (Only.refl _ wA).grown hg3 fun k hk => hk; have TB := TA.out.kept o3 (fun e => by have := NA.out.lt e; have := HL.out.row.lt e; have := HTn.out; omega); have t0 := TB.is 0 _ rfl; have t1 := TB.is 1 _ rfl; have HM := Lib.hid (HL.out.more HLT.out HJ.out.2 HPC.out OA.out CNA.out hv3 hg3 hf3); clear t2 hv3 hg3 hf3 o3))
          obtain ⟨xs, hvx, hrow⟩ := HM.out.recs.rows
          have HVX := Lib.hid hvx
          have HRW := Lib.hid hrow
          have lR := HM.out.ring.lt
          have z4 := HM.out.ring.thaw 4
          have c4 := HM.out.ring.is 4 _ rfl
          have HTT := Lib.hid (And.intro TB (show ∀ k, (Value.slice oa out.length oc).ownBlock = some k → k < T from fun k hk => by
            obtain ⟨_, ys, hy, _⟩ := HL.out.recs
            have := hy.lt hk
            have := HTn.out
            omega))
          have lT := TB.lt
          clear hvx hrow TB
          go_region_law (refine step_append_any (by rfl) _ _ 89 (by rfl) 35 Tryz.t35 (.slice none 0 0) 1 24 Tryz.underlying89 info34 t34_zero t34_size t34_bytes (by rfl) (by decide) (.slice oa out.length oc) out.length xs (by rfl) ((HVX.out.alloc _).drew) (.slice (some ⟨w3.heap.size, 0, none⟩) 1 1) 1 [.slice na' (now.length + data.length) nc'] (by rfl) (rd_one w3 _ 35) (one_slice _ _ _) (by have := HM.out.small.2; have := HJ.out.1; have := HK.out.small; unfold maxLen; omega) (by have := HM.out.small.2; have := HJ.out.1; have := HK.out.small; omega) ?_; intro v2 y hv2 hg2 hf2; obtain ⟨oa2, oc2, rfl, _, _⟩ := hv2.shape; have oy : Only (fun k => (Value.slice oa out.length oc).ownBlock = some k) (w3.alloc (.cells #[.slice na' (now.length + data.length) nc'] 35)).drew y := (Only.refl _ _).grown hg2 fun k hk => hk; have yR : RingAt y R D { r with last := last } := CellsR.kept (CellsR.kept HM.out.ring (((Only.refl None' w3).alloc _).drew) fun e => e) oy fun e => (by have := (HM.out.recs.own R e).1; have := HLT.out; omega); have yT := CellsR.kept (CellsR.kept HTT.out.1 (((Only.refl None' w3).alloc (.cells #[.slice na' (now.length + data.length) nc'] 35)).drew) fun e => e) oy fun e => (by have := HTT.out.2 T e; omega); have y4 := yR.is 4 _ rfl; have yz := yR.thaw 4; have yt := yT.is 0 _ rfl; have ylR := yR.lt; have HY := Lib.hid (And.intro hv2 (And.intro hg2 hf2)); clear hv2 hg2 hf2 oy)
          all_goals (
            obtain rfl := HNN.out
            go_wp2_with fail
            go_roundg (r.count - (j + 1))
            case rel =>
              refine ⟨j + 1, oa2, out ++ [now ++ data], oc2, none, [], 0, r.base + j + 1, rfl, HJ.out.2, by rw [List.length_append]; rfl, rfl, Lib.hid ⟨?_, ?_⟩⟩
              · exact HM.out.push HLT.out HM.out.recs.own HRW.out (by have := HVX.out.len; omega) HY.out.1 ⟨HY.out.2.1.os, HY.out.2.1.tape, HY.out.2.1.output, HY.out.2.1.size, HY.out.2.1.block⟩ HY.out.2.2 HL.out.small.2 (HTOP.out _ _ HPC.out) 0
              · exact HRU.out.next HJ.out.2 HPC.out
            case measure => have := HJ.out.2; omega)
    · have HNX := Lib.hid (next_end (by have := HL.out.cn; rwa [show j = r.count by omega] at this) HL.out.cb HL.out.ring HK'.out)
      have HJ := Lib.hid (show j = r.count by omega)
      clear hj hlt
      go_wp2_with fail
      refine HNX.out.mono ?_
      rintro e w2 ⟨rfl, o2⟩
      have O2 := Lib.hid o2
      clear o2
      go_wp2_with fail
      go_ret2
      refine HL.out.tell HLT.out (((O2.out.mono (S' := fun k => k = N) fun _ _ e => e.elim)).alloc _) HRU.out ?_
      rw [HJ.out, Nat.sub_self]; rfl
end Go.Proofs.YteoeaojebklfjaaGreatDoor
namespace Go.Proofs.YteoeaojebklfjaaGreatDoor
open Go.RowKit Go.Maps
set_option linter.unusedVariables false

section
variable {a : Act} {o : Oper} {x y : Operand} {p q z : Int}
theorem yields_move (w : World) {v : Value} (ho : o.op = .move x) (hx : a.eval x = v) : (execOp a.eval o).run Tryz.prog w = .ok (.value v) w := by
  unfold execOp
  simp only [ho, hx]
  go_simp
theorem yields_add (w : World) (ho : o.op = .binOp .add 3 x y 3) (hx : a.eval x = .int .i64 p) (hy : a.eval y = .int .i64 q) (h1 : p + q = z) (h2 : IntKind.i64.wrap z = z) : (execOp a.eval o).run Tryz.prog w = .ok (.value (.int .i64 z)) w := by
  unfold execOp
  simp only [ho, hx, hy]
  go_simp
theorem yields_sub (w : World) (ho : o.op = .binOp .sub 3 x y 3) (hx : a.eval x = .int .i64 p) (hy : a.eval y = .int .i64 q) (h1 : p - q = z) (h2 : IntKind.i64.wrap z = z) : (execOp a.eval o).run Tryz.prog w = .ok (.value (.int .i64 z)) w := by
  unfold execOp
  simp only [ho, hx, hy]
  go_simp
theorem yields_mul (w : World) (ho : o.op = .binOp .mul 3 x y 3) (hx : a.eval x = .int .i64 p) (hy : a.eval y = .int .i64 q) (h1 : p * q = z) (h2 : IntKind.i64.wrap z = z) : (execOp a.eval o).run Tryz.prog w = .ok (.value (.int .i64 z)) w := by
  unfold execOp
  simp only [ho, hx, hy]
  go_simp
theorem yields_eql (w : World) {b : Bool} (ho : o.op = .binOp .eql 3 x y 3) (hx : a.eval x = .int .i64 p) (hy : a.eval y = .int .i64 q) (h1 : (p == q) = b) : (execOp a.eval o).run Tryz.prog w = .ok (.value (.bool b)) w := by
  unfold execOp
  simp only [ho, hx, hy]
  go_simp
theorem yields_min (w : World) {t : Array TypeId} (ho : o.op = .call { callee := .builtin .min, args := #[x, y], argTypes := t }) (hx : a.eval x = .int .i64 p) (hy : a.eval y = .int .i64 q) (h1 : (if q < p then q else p) = z) : (execOp a.eval o).run Tryz.prog w = .ok (.value (.int .i64 z)) w := by
  unfold execOp
  simp only [ho, resolve, invoke, builtin, Sem.run_bind, Sem.run_pure, Result.andThen_ok, List.map_toArray, List.map_cons, List.map_nil, hx, hy, run_min_int2, h1]
theorem yields_len34 (w : World) {ad : Option Addr} {n c : Nat} (ho : o.op = .call { callee := .builtin .len, args := #[x], argTypes := #[35] }) (hx : a.eval x = .slice ad n c) : (execOp a.eval o).run Tryz.prog w = .ok (.value (.int .i64 (n : Int))) w := by
  unfold execOp
  simp only [ho, resolve, invoke, builtin, Sem.run_bind, Sem.run_pure, Result.andThen_ok, List.map_toArray, List.map_cons, List.map_nil, hx]
  go_simp
theorem run_slice34 (w : World) {g off n c lo hi : Nat} (h1 : lo ≤ hi) (h2 : hi ≤ c) (h3 : lo < c ∨ lo = 0) :
    (Instr.sliceAt 35 (.slice (some ⟨g, off, none⟩) n c) (some (.int .i64 (lo : Int))) (some (.int .i64 (hi : Int))) none).run Tryz.prog w = .ok (.slice (some ⟨g, off + lo, none⟩) (hi - lo) (c - lo)) w := by
  have b1 : (0 : Int) ≤ (lo : Int) := by omega
  have b2 : (lo : Int) ≤ (hi : Int) := by omega
  have b3 : (hi : Int) ≤ (c : Int) := by omega
  have hs : (Tryz.prog.info? 5).map (·.size) = some 1 := by kernel_rfl
  rcases h3 with h3 | rfl
  · have hne : ¬ c = lo := by omega
    go_simp
  · go_simp
theorem yields_slice34 (w : World) {g off n c lo hi : Nat} {l h : Operand} (ho : o.op = .slice 35 x (some l) (some h) none) (hx : a.eval x = .slice (some ⟨g, off, none⟩) n c) (hl : a.eval l = .int .i64 (lo : Int)) (hh : a.eval h = .int .i64 (hi : Int)) (h1 : lo ≤ hi) (h2 : hi ≤ c) (h3 : lo < c ∨ lo = 0) :
    (execOp a.eval o).run Tryz.prog w = .ok (.value (.slice (some ⟨g, off + lo, none⟩) (hi - lo) (c - lo))) w := by
  unfold execOp
  simp only [ho, Sem.run_bind, Option.map_some, Option.map_none, hx, hl, hh, run_slice34 w h1 h2 h3, Result.andThen_ok, Sem.run_pure]
theorem run_all124 (w : World) (S : Nat) : (Instr.sliceAt 133 (.pointer (some ⟨S, 0, none⟩)) none none none).run Tryz.prog w = .ok (.slice (some ⟨S, 0, none⟩) 512 512) w := by
  have hs : (Tryz.prog.info? 5).map (·.size) = some 1 := by kernel_rfl
  go_simp
theorem yields_all124 (w : World) {S : Nat} (ho : o.op = .slice 133 x none none none) (hx : a.eval x = .pointer (some ⟨S, 0, none⟩)) : (execOp a.eval o).run Tryz.prog w = .ok (.value (.slice (some ⟨S, 0, none⟩) 512 512)) w := by
  unfold execOp
  simp only [ho, Sem.run_bind, Option.map_none, hx, run_all124 w S, Result.andThen_ok, Sem.run_pure]
end
end Go.Proofs.YteoeaojebklfjaaGreatDoor
namespace Go.Proofs.YteoeaojebklfjaaGreatDoor
set_option linter.unusedVariables false

abbrev Rec := List UInt8
def grp : List Pc → Rec → List Rec
  | [], _ => []
  | p :: ps, now => if p.last then (now ++ p.data) :: grp ps [] else grp ps (now ++ p.data)
def lastN : List Pc → Nat → Nat
  | [], l => l
  | p :: ps, l => lastN ps (if p.last then p.n else l)
def chainG (count : Nat) (g : Nat → Sec) : Nat → Nat → List Pc
  | 0, _ => []
  | k + 1, n => match pieceG count g (n + 1) with
    | none => []
    | some p => p :: chainG count g k (n + 1)
theorem runG_chain {count : Nat} {g : Nat → Sec} : ∀ (k n : Nat) (out : List Rec) (now : Rec) (last : Nat), runG count g k n out now last = (out ++ grp (chainG count g k n) now, lastN (chainG count g k n) last)
  | 0, n, out, now, last => by simp [runG, chainG, grp, lastN]
  | k + 1, n, out, now, last => by
    unfold runG chainG
    cases h : pieceG count g (n + 1) with
    | none => simp [grp, lastN]
    | some p =>
      have hn := (pieceG_some h).2
      simp only [grp, lastN]
      split
      · rw [runG_chain k, hn]; simp
      · rw [runG_chain k]

theorem chainG_len {count : Nat} {g : Nat → Sec} : ∀ (k n : Nat), (chainG count g k n).length ≤ k
  | 0, _ => Nat.le_refl _
  | k + 1, n => by
    unfold chainG
    split
    · simp
    · simp; exact chainG_len k (n + 1)
theorem chainG_at {count : Nat} {g : Nat → Sec} : ∀ (k n j : Nat) (h : j < (chainG count g k n).length), pieceG count g (n + 1 + j) = some (chainG count g k n)[j]
  | 0, _, j, h => absurd h (by simp [chainG])
  | k + 1, n, j, h => by
    cases hp : pieceG count g (n + 1) with
    | none => simp [chainG, hp] at h
    | some p =>
      have e : chainG count g (k + 1) n = p :: chainG count g k (n + 1) := by simp [chainG, hp]
      simp only [e] at h ⊢
      match j, h with
      | 0, h => simpa using hp
      | j + 1, h =>
        simp only [List.getElem_cons_succ]
        rw [show n + 1 + (j + 1) = n + 1 + 1 + j by omega]
        exact chainG_at k (n + 1) j (by simpa using h)
theorem chainG_of {count : Nat} {g : Nat → Sec} : ∀ (ps : List Pc) (k n : Nat), (∀ j (h : j < ps.length), pieceG count g (n + 1 + j) = some ps[j]) → ps.length ≤ k → ∃ qs, chainG count g k n = ps ++ qs
  | [], k, n, _, _ => ⟨_, rfl⟩
  | p :: ps, 0, n, _, hk => absurd hk (by simp)
  | p :: ps, k + 1, n, h, hk => by
    have h0 := h 0 (by simp)
    simp only [Nat.add_zero, List.getElem_cons_zero] at h0
    obtain ⟨qs, hq⟩ := chainG_of ps k (n + 1) (fun j hj => by
      have := h (j + 1) (by simpa using hj)
      rw [show n + 1 + 1 + j = n + 1 + (j + 1) by omega]
      simpa using this) (by simpa using hk)
    refine ⟨qs, ?_⟩
    unfold chainG
    rw [h0]
    simp only [hq, List.cons_append]

theorem grp_append : ∀ (ps qs : List Pc) (now : Rec), ∃ m, grp (ps ++ qs) now = grp ps now ++ grp qs m
  | [], qs, now => ⟨now, by simp [grp]⟩
  | p :: ps, qs, now => by
    simp only [List.cons_append, grp]
    split
    · obtain ⟨m, hm⟩ := grp_append ps qs []
      exact ⟨m, by rw [hm]; rfl⟩
    · exact grp_append ps qs _
theorem lastN_append (qs : List Pc) : ∀ (ps : List Pc) (l : Nat), lastN (ps ++ qs) l = lastN qs (lastN ps l)
  | [], l => rfl
  | p :: ps, l => by simp only [List.cons_append, lastN]; exact lastN_append qs ps _

def cutN (n : Nat) : Nat := if n = 0 then 1 else (n - 1) / 501 + 1
def cutAt (l : Nat) (rec : Rec) (i : Nat) : Pc := ⟨l + 1 + i, decide (i + 1 = cutN rec.length), (rec.drop (501 * i)).take 501⟩
def cutR (l : Nat) (rec : Rec) : List Pc := (List.range (cutN rec.length)).map (cutAt l rec)
theorem cutR_length (l : Nat) (rec : Rec) : (cutR l rec).length = cutN rec.length := by simp [cutR]
theorem cutN_pos (n : Nat) : 1 ≤ cutN n := by unfold cutN; split <;> omega
theorem cutN_bound (n : Nat) : n ≤ 501 * cutN n ∧ (0 < n → 501 * (cutN n - 1) < n) := by
  unfold cutN
  split <;> omega
theorem cutAt_ok {l : Nat} {rec : Rec} {i : Nat} (hi : i < cutN rec.length) (hl : l + cutN rec.length ≤ 4611686018427387904) : (cutAt l rec i).Ok := by
  refine ⟨by show 1 ≤ l + 1 + i; omega, by show l + 1 + i ≤ _; omega, by simp [cutAt]; omega, fun h => ?_⟩
  have h1 : ¬ i + 1 = cutN rec.length := by simpa [cutAt] using h
  have h2 := cutN_bound rec.length
  have h3 := cutN_pos rec.length
  have h0 : 0 < rec.length := by
    rcases Nat.eq_zero_or_pos rec.length with e | e
    · rw [e] at hi h1
      unfold cutN at hi h1
      simp at hi h1
      omega
    · exact e
  have h4 := h2.2 h0
  simp only [cutAt, List.length_take, List.length_drop]
  have : 501 * (i + 1) ≤ 501 * (cutN rec.length - 1) := Nat.mul_le_mul_left _ (by omega)
  omega
theorem grp_cut (l : Nat) (rec : Rec) (ps : List Pc) : grp (cutR l rec ++ ps) [] = rec :: grp ps [] := by
  have key : ∀ (k i : Nat), i + k + 1 = cutN rec.length → grp ((List.range' i (k + 1)).map (cutAt l rec) ++ ps) (rec.take (501 * i)) = rec :: grp ps [] := by
    intro k
    induction k with
    | zero =>
      intro i hi
      have hb := cutN_bound rec.length
      simp only [List.range'_succ, List.range'_zero, List.map_cons, List.map_nil, List.cons_append, List.nil_append, grp]
      rw [if_pos (by simp [cutAt]; omega)]
      have e : rec.take (501 * i) ++ (cutAt l rec i).data = rec := by
        show rec.take (501 * i) ++ (rec.drop (501 * i)).take 501 = rec
        have h1 : rec.length ≤ 501 * (i + 1) := by rw [show i + 1 = cutN rec.length by omega]; exact hb.1
        have h2 : (rec.drop (501 * i)).take 501 = rec.drop (501 * i) := List.take_of_length_le (by simp only [List.length_drop]; omega)
        rw [h2]
        exact List.take_append_drop _ _
      rw [e]
    | succ k ih =>
      intro i hi
      rw [List.range'_succ, List.map_cons, List.cons_append]
      simp only [grp]
      rw [if_neg (by simp [cutAt]; omega)]
      have e : rec.take (501 * i) ++ (cutAt l rec i).data = rec.take (501 * (i + 1)) := by
        show rec.take (501 * i) ++ (rec.drop (501 * i)).take 501 = _
        rw [Nat.mul_add, Nat.mul_one, List.take_add]
      rw [e]
      exact ih (i + 1) (by omega)
  have hp := cutN_pos rec.length
  have := key (cutN rec.length - 1) 0 (by omega)
  rw [show cutN rec.length - 1 + 1 = cutN rec.length by omega, ← List.range_eq_range', Nat.mul_zero, List.take_zero] at this
  exact this
theorem lastN_cut (l : Nat) (rec : Rec) (m : Nat) : lastN (cutR l rec) m = l + cutN rec.length := by
  have hp := cutN_pos rec.length
  obtain ⟨k, hk⟩ : ∃ k, cutN rec.length = k + 1 := ⟨cutN rec.length - 1, by omega⟩
  unfold cutR
  rw [hk, List.range_succ, List.map_append, lastN_append]
  simp only [List.map_cons, List.map_nil, lastN, cutAt]
  rw [if_pos (by simp [hk])]
  omega
def cutAll : Nat → List Rec → List Pc
  | _, [] => []
  | l, r :: rs => cutR l r ++ cutAll (l + cutN r.length) rs
theorem grp_all : ∀ (l : Nat) (rs : List Rec), grp (cutAll l rs) [] = rs
  | _, [] => rfl
  | l, r :: rs => by rw [cutAll, grp_cut, grp_all]
theorem cutAll_snoc (r : Rec) : ∀ (l : Nat) (rs : List Rec), cutAll l (rs ++ [r]) = cutAll l rs ++ cutR (l + (cutAll l rs).length) r
  | l, [] => by simp [cutAll]
  | l, q :: rs => by
    simp only [List.cons_append, cutAll, cutAll_snoc r, List.append_assoc, List.length_append, cutR_length]
    rw [Nat.add_assoc]
theorem lastN_all : ∀ (l : Nat) (rs : List Rec), lastN (cutAll l rs) l = l + (cutAll l rs).length
  | l, [] => rfl
  | l, r :: rs => by
    rw [cutAll, lastN_append, lastN_cut, lastN_all, List.length_append, cutR_length]; omega
theorem grp_begin {ps qs : List Pc} (l : Nat) {rs : List Rec} (h : ps ++ qs = cutAll l rs) : ∃ ts, grp ps [] ++ ts = rs := by
  obtain ⟨m, hm⟩ := grp_append ps qs []
  exact ⟨_, by rw [← hm, h, grp_all]⟩
end Go.Proofs.YteoeaojebklfjaaGreatDoor
namespace Go.Proofs.YteoeaojebklfjaaGreatDoor
set_option linter.unusedVariables false

structure Holds (count : Nat) (g : Nat → Sec) (base : Nat) (ps : List Pc) : Prop where
  has : ∀ j (h : j < ps.length), pieceG count g (base + 1 + j) = some ps[j]
  le : ∀ i p, i < count → seeG count g i = some p → p.n ≤ base + ps.length

theorem seeG_self {count : Nat} {g : Nat → Sec} {n : Nat} {p : Pc} (h : pieceG count g n = some p) : seeG count g (n % count) = some p := by
  have h1 := pieceG_some h
  unfold seeG
  rw [h1.1]
  simp only
  rw [if_pos (by rw [h1.2])]
theorem topG_upto {count : Nat} {g : Nat → Sec} {base m : Nat} (hb : base ≤ m) (hl : ∀ i p, i < count → seeG count g i = some p → p.n ≤ m) : ∀ k, k ≤ count → topG count g base k ≤ m
  | 0, _ => hb
  | k + 1, hk => by
    unfold topG
    split
    · rename_i p hp
      exact Nat.max_le.2 ⟨topG_upto hb hl k (by omega), hl k p (by omega) hp⟩
    · exact topG_upto hb hl k (by omega)

section
variable {count base : Nat} {g : Nat → Sec} {ps : List Pc}
theorem Holds.no (H : Holds count g base ps) (hc : 1 ≤ count) : pieceG count g (base + 1 + ps.length) = none := by
  cases h : pieceG count g (base + 1 + ps.length) with
  | none => rfl
  | some p =>
    have h1 := pieceG_some h
    have := H.le _ p (Nat.mod_lt _ (by omega)) (seeG_self h)
    omega
theorem Holds.chain (H : Holds count g base ps) (hc : 1 ≤ count) {k : Nat} (hk : ps.length ≤ k) : chainG count g k base = ps := by
  obtain ⟨qs, hq⟩ := chainG_of ps k base H.has hk
  cases qs with
  | nil => simpa using hq
  | cons q qs =>
    have := chainG_at (count := count) (g := g) k base ps.length (by rw [hq]; simp)
    rw [H.no hc] at this
    cases this
theorem Holds.n (H : Holds count g base ps) {j : Nat} (h : j < ps.length) : ps[j].n = base + 1 + j := (pieceG_some (H.has j h)).2
theorem Holds.top (H : Holds count g base ps) (hc : 1 ≤ count) : topG count g base count = base + ps.length := by
  refine Nat.le_antisymm (topG_upto (by omega) H.le count (Nat.le_refl _)) ?_
  cases h : ps.length with
  | zero => exact topG_le count
  | succ k =>
    have h1 := H.has k (by omega)
    have h2 := pieceG_top (base := base) hc h1
    rw [H.n] at h2
    omega
theorem Holds.empty (H : Holds count g base ps) : Holds count g (base + ps.length) [] :=
  ⟨fun j h => absurd h (by simp), fun i p hi hp => by have := H.le i p hi hp; simpa using this⟩
theorem Holds.none_at (hz : ∀ i, i < count → seeG count g i = none) : Holds count g base [] :=
  ⟨fun j h => absurd h (by simp), fun i p hi hp => by rw [hz i hi] at hp; cases hp⟩

def setG (g : Nat → Sec) (i : Nat) (s : Sec) : Nat → Sec := fun k => if k = i then s else g k
theorem seeG_other {i k : Nat} {s : Sec} (h : k ≠ i) : seeG count (setG g i s) k = seeG count g k := by
  unfold seeG setG
  rw [if_neg h]
theorem seeG_same {p : Pc} (ok : p.Ok) : seeG count (setG g (p.n % count) p.lay) (p.n % count) = some p := by
  unfold seeG setG
  rw [if_pos rfl, pieceOf_lay ok]
  simp
theorem pieceG_other {i n : Nat} {s : Sec} (h : n % count ≠ i) : pieceG count (setG g i s) n = pieceG count g n := by
  unfold pieceG
  rw [seeG_other h]
theorem pieceG_same {p : Pc} (ok : p.Ok) : pieceG count (setG g (p.n % count) p.lay) p.n = some p := by
  unfold pieceG
  rw [seeG_same ok]
  simp
theorem mod_apart {a b c : Nat} (h1 : a < b) (h2 : b < a + c) : a % c ≠ b % c := fun e => by
  have h3 : (b - a) % c = 0 := Nat.sub_mod_eq_zero_of_mod_eq e.symm
  rw [Nat.mod_eq_of_lt (by omega)] at h3
  omega
theorem Holds.put (H : Holds count g base ps) {p : Pc} (ok : p.Ok) (hn : p.n = base + ps.length + 1) (hl : ps.length < count) : Holds count (setG g (p.n % count) p.lay) base (ps ++ [p]) := by
  refine ⟨fun j h => ?_, fun i q hi hq => ?_⟩
  · by_cases hj : j < ps.length
    · rw [pieceG_other (by rw [hn]; exact mod_apart (by omega) (by omega)), H.has j hj, List.getElem_append_left hj]
    · have e : j = ps.length := by simp at h; omega
      subst e
      rw [show base + 1 + ps.length = p.n by omega, pieceG_same ok]
      simp
  · rw [List.length_append, List.length_singleton]
    by_cases e : i = p.n % count
    · subst e
      rw [seeG_same ok] at hq
      injection hq with hq
      subst hq
      omega
    · rw [seeG_other e] at hq
      have := H.le i q hi hq
      omega
end

theorem Dk.read_wrote (d : Dk) (i : Nat) (s : Sec) (k : Nat) : (d.wrote i s).read k = if k = i then s else d.read k := by
  unfold Dk.read Dk.wrote
  simp only
  rw [lastIx_snoc]
  by_cases e : i = k
  · subst e
    simp
  · rw [if_neg e, if_neg (fun h => e h.symm)]
    cases h : lastIx d.waits k with
    | none => rfl
    | some j =>
      obtain ⟨h1, _⟩ := lastIx_lt h
      simp only [List.getD_eq_getElem?_getD]
      rw [List.getElem?_append_left h1]
theorem Dk.read_tick (d : Dk) (k : Nat) : d.tick.read k = d.read k := rfl
def Dk.puts (pl : Nat → Nat) : List Pc → Dk → Dk × Bool
  | [], d => (d, true)
  | p :: ps, d => if d.due then (d.write (pl p.n) p.lay, false) else Dk.puts pl ps (d.write (pl p.n) p.lay)
theorem gOf_wrote {r : Rg} {d : Dk} {n : Nat} (s : Sec) (i : Nat) : gOf r (d.wrote (r.place n) s).tick i = setG (gOf r d) (n % r.count) s i := by
  unfold gOf setG
  rw [Dk.read_tick, Dk.read_wrote, place_mod]
  by_cases e : i = n % r.count
  · rw [if_pos e, if_pos (by omega)]
  · rw [if_neg e, if_neg (by omega)]
structure Dk.Calm (d : Dk) (len n : Nat) : Prop where
  dead : d.dead = false
  set : d.set = false
  len : d.lasts.length = len
  few : d.Few n
theorem Dk.Calm.due {d : Dk} {len n : Nat} (h : d.Calm len n) : d.due = false := by unfold Dk.due; rw [h.set]; rfl
theorem Dk.Calm.err {d : Dk} {len n : Nat} (h : d.Calm len n) : d.err = 0 := by unfold Dk.err; rw [h.due]; rfl
theorem Dk.Calm.write {d : Dk} {len n : Nat} (h : d.Calm len n) (i : Nat) (s : Sec) : d.write i s = (d.wrote i s).tick ∧ (d.write i s).Calm len (n + 1) := by
  have e : d.write i s = (d.wrote i s).tick := by unfold Dk.write; rw [h.due]; rfl
  refine ⟨e, ?_⟩
  have hf := h.few.write i s
  rw [e] at hf ⊢
  exact ⟨h.dead, h.set, h.len, hf⟩
theorem puts_calm {r : Rg} {base len : Nat} : ∀ (qs : List Pc) (d : Dk) (ps : List Pc) (n : Nat), d.Calm len n → Holds r.count (gOf r d) base ps → (∀ j (h : j < qs.length), qs[j].Ok ∧ qs[j].n = base + ps.length + 1 + j) → ps.length + qs.length ≤ r.count →
    ∃ d', Dk.puts r.place qs d = (d', true) ∧ d'.Calm len (n + qs.length) ∧ Holds r.count (gOf r d') base (ps ++ qs)
  | [], d, ps, n, hc, hh, _, _ => ⟨d, rfl, hc, by simpa using hh⟩
  | q :: qs, d, ps, n, hc, hh, hq, hl => by
    obtain ⟨e, hc'⟩ := hc.write (r.place q.n) q.lay
    obtain ⟨ok, hn⟩ := hq 0 (by simp)
    simp only [List.getElem_cons_zero, Nat.add_zero] at ok hn
    have hh' : Holds r.count (gOf r (d.write (r.place q.n) q.lay)) base (ps ++ [q]) := by
      have h1 := hh.put ok hn (by simp at hl; omega)
      have e2 : gOf r (d.write (r.place q.n) q.lay) = setG (gOf r d) (q.n % r.count) q.lay := by
        funext i
        rw [e, gOf_wrote]
      rw [e2]; exact h1
    obtain ⟨d', h1, h2, h3⟩ := puts_calm qs _ (ps ++ [q]) (n + 1) hc' hh' (fun j hj => by
      have := hq (j + 1) (by simpa using hj)
      simp only [List.getElem_cons_succ] at this
      refine ⟨this.1, ?_⟩
      rw [this.2, List.length_append, List.length_singleton]; omega) (by simp at hl ⊢; omega)
    refine ⟨d', ?_, ?_, ?_⟩
    · unfold Dk.puts
      rw [hc.due]
      exact h1
    · rw [List.length_cons, show n + (qs.length + 1) = n + 1 + qs.length by omega]; exact h2
    · rwa [List.append_assoc] at h3
end Go.Proofs.YteoeaojebklfjaaGreatDoor
namespace Go.Proofs.YteoeaojebklfjaaGreatDoor
set_option linter.unusedVariables false

def many (base : Nat) (rs : List Rec) : Nat := (cutAll base rs).length
theorem many_snoc (base : Nat) (rs : List Rec) (r : Rec) : many base (rs ++ [r]) = many base rs + cutN r.length := by
  unfold many
  rw [cutAll_snoc, List.length_append, cutR_length]
theorem many_nil (base : Nat) : many base [] = 0 := rfl
theorem cutR_at (l : Nat) (rec : Rec) (j : Nat) (h : j < (cutR l rec).length) : (cutR l rec)[j] = cutAt l rec j := by
  simp [cutR]
theorem told_run {count base : Nat} {g : Nat → Sec} {rs : List Rec} (h : Holds count g base (cutAll base rs)) (hc : 1 ≤ count) (hl : many base rs ≤ count) : runG count g count base [] [] base = (rs, base + many base rs) := by
  rw [runG_chain, h.chain hc hl, grp_all, lastN_all]
  rfl
theorem told_none {count base : Nat} {g : Nat → Sec} (h : Holds count g base []) (hc : 1 ≤ count) : runG count g count base [] [] base = ([], base) :=
  told_run (rs := []) h hc (by rw [many_nil]; omega)
theorem puts_rec {r : Rg} {base len n : Nat} {d : Dk} {rs : List Rec} {rec : Rec} (hc : d.Calm len n) (hh : Holds r.count (gOf r d) base (cutAll base rs)) (hl : many base rs + cutN rec.length ≤ r.count) (ht : base + many base rs + cutN rec.length ≤ 4611686018427387904) :
    ∃ d', Dk.puts r.place (cutR (base + many base rs) rec) d = (d', true) ∧ d'.Calm len (n + cutN rec.length) ∧ Holds r.count (gOf r d') base (cutAll base (rs ++ [rec])) := by
  obtain ⟨d', h1, h2, h3⟩ := puts_calm (cutR (base + many base rs) rec) d (cutAll base rs) n hc hh (fun j hj => by
    rw [cutR_at]
    have hj' : j < cutN rec.length := by rwa [cutR_length] at hj
    exact ⟨cutAt_ok hj' ht, by show base + many base rs + 1 + j = _; unfold many; omega⟩) (by rw [cutR_length]; exact hl)
  refine ⟨d', h1, ?_, ?_⟩
  · rwa [cutR_length] at h2
  · rw [cutAll_snoc]; exact h3

def appR (r : Rg) (d : Dk) (rec : Rec) : Int × Rg × Dk :=
  if r.count < cutN rec.length then (40, r, d)
  else if r.last < r.top then (50, r, d)
  else if r.room < cutN rec.length then (3, r, d)
  else if 4611686018427387904 < r.last + cutN rec.length then (70, r, d)
  else match Dk.puts r.place (cutR r.last rec) d with
    | (d', true) => (0, { r with last := r.last + cutN rec.length, top := r.last + cutN rec.length }, d')
    | (d', false) => (20, r, d')

theorem pieceOf_zs : pieceOf (List.replicate 512 0) = none := by
  unfold pieceOf
  rw [if_pos (Or.inl (by rw [show pieceN (List.replicate 512 0) = 0 by rfl]; decide))]
theorem see_new {count len : Nat} {r : Rg} (hl : r.first + count ≤ len) (i : Nat) (hi : i < count) : seeG count (gOf r (Dk.new len)) i = none := by
  have e : gOf r (Dk.new len) i = List.replicate 512 0 := by
    unfold gOf Dk.read Dk.new
    simp only [lastIx]
    rw [List.getD_eq_getElem?_getD, List.getElem?_replicate, if_pos (by omega)]
    rfl
  unfold seeG
  rw [e, pieceOf_zs]
theorem calm_new (len : Nat) : (Dk.new len).Calm len 0 := ⟨rfl, rfl, by simp [Dk.new], Dk.Few.new⟩
end Go.Proofs.YteoeaojebklfjaaGreatDoor
