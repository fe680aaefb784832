/- The records of a ring: the walk. -/
import Derived.Test.YteoeaojebklfjaaI1
import Derived.Test.YteoeaojebklfjaaH9
import Derived.Deep.RegionLaw
namespace Go.Proofs.Yteoeaojebklfjaa
open Go.RowKit Go.Maps
set_option linter.unusedVariables false

theorem info34 : Try.prog.info? 34 = some Try.t34 := by kernel_rfl
theorem t34_zero : Try.t34.zero = some (.slice none 0 0) := by kernel_rfl
theorem t34_size : Try.t34.size = 1 := by kernel_rfl
theorem t34_bytes : Try.t34.bytes = 24 := by kernel_rfl
theorem row_block {w : World} {v : Value} {n : Nat} {xs : List Value} {k : Nat} (h : Vec w 1 v n xs) (hk : w.heap.size ≤ k) : v.ownBlock ≠ some k := fun e => by have := h.lt e; omega

/-- at a round's head: j pieces are told -/
structure RecLoop (w wr : World) (R D N B : Nat) (r : Rg) (g : Nat → Sec) (j : Nat) (vo : Value) (out : List (List UInt8)) (vn : Value) (now : List UInt8) (last : Nat) : Prop where
  only : Only (fun k => k = R) w wr
  cn : CellsR wr N [.int .i64 ((r.base + j : Nat) : Int)]
  cb : CellsR wr B [.pointer (some ⟨R, 0, none⟩)]
  ring : RingAt wr R D { r with last := last }
  recs : Recs wr (fun k => w.heap.size ≤ k ∧ k ≠ N ∧ k ≠ B ∧ vn.ownBlock ≠ some k) vo out
  row : Vec wr 1 vn now.length (bv now)
  own : ∀ k, vn.ownBlock = some k → w.heap.size ≤ k ∧ k ≠ N ∧ k ≠ B
  nb : N ≠ B
  newN : w.heap.size ≤ N
  newB : w.heap.size ≤ B
  small : now.length ≤ 501 * j ∧ out.length ≤ j
  le : r.base ≤ last ∧ last ≤ r.base + j ∧ last ≤ r.top

def RunAt (r : Rg) (g : Nat → Sec) (j : Nat) (out : List (List UInt8)) (now : List UInt8) (last : Nat) : Prop := runG r.count g r.count r.base [] [] r.base = runG r.count g (r.count - j) (r.base + j) out now last

def RecRes (w : World) (R D : Nat) (r : Rg) (g : Nat → Sec) (e : Ending) (w' : World) : Prop :=
  ∃ v, e = .returned (.tuple #[v, .int .i64 0]) ∧ Recs w' (fun k => w.heap.size ≤ k) v (runG r.count g r.count r.base [] [] r.base).1 ∧ RingAt w' R D { r with last := (runG r.count g r.count r.base [] [] r.base).2 } ∧ Only (fun k => k = R) w w'

theorem rd_one (w : World) (v : Value) (t : TypeId) : Rd ((w.alloc (.cells #[v] t)).drew) 1 (.slice (some ⟨w.heap.size, 0, none⟩) 1 1) 1 [v] := by
  refine ⟨rfl, .inr ⟨_, 1, rfl, Nat.le_refl _, by unfold maxLen; decide, fun j u hu => ?_⟩⟩
  rw [add_mid' (⟨w.heap.size, 0, none⟩) j rfl]
  match j with
  | 0 =>
    simp at hu
    subst hu
    show (w.alloc (.cells #[v] t)).cell? _ = _
    rw [World.cell?_alloc_new]; rfl
  | j + 1 => simp at hu
theorem one_slice (a : Option Addr) (n c : Nat) : ∀ u ∈ [Value.slice a n c], u.oneCell' = true := by
  intro u hu
  simp at hu
  subst hu
  rfl
section
variable {w wr : World} {R D N B : Nat} {r : Rg} {g : Nat → Sec} {j : Nat} {vo vn : Value} {out : List (List UInt8)} {now : List UInt8} {last : Nat}
theorem RecLoop.tell (h : RecLoop w wr R D N B r g j vo out vn now last) (hR : R < w.heap.size) {w2 : World} (o : Only (fun k => k = N) wr w2) (hrun : RunAt r g j out now last) (hf : runG r.count g (r.count - j) (r.base + j) out now last = (out, last)) : RecRes w R D r g (.returned (.tuple #[vo, .int .i64 0])) w2 := by
  refine ⟨vo, rfl, ?_, ?_, ?_⟩
  · rw [hrun, hf]
    exact (h.recs.only o fun k hk e => hk.2.1 e).mono fun k _ hk => hk.1
  · rw [hrun, hf]
    exact h.ring.kept o fun e => by have := h.newN; omega
  · exact h.only.trans2 o fun k hk e => by have := h.newN; omega
/-- what the next round has; wA: behind the closure's call, xA: behind the data's append -/
theorem RecLoop.more (h : RecLoop w wr R D N B r g j vo out vn now last) (hR : R < w.heap.size) {wA xA : World} {p : Pc} {v' : Value} (hj : j < r.count) (hp : pieceG r.count g (r.base + j + 1) = some p)
    (oA : Only (fun k => k = N) wr wA) (hN : CellsR wA N [.int .i64 ((r.base + j + 1 : Nat) : Int)]) (hv : Vec xA 1 v' (now.length + p.data.length) (bv now ++ bv p.data)) (hg : wA.grownBy xA vn.ownBlock) (hf : ∀ k, v'.ownBlock = some k → vn.ownBlock = some k ∨ wA.heap.size ≤ k) :
    RecLoop w xA R D N B r g (j + 1) vo out v' (now ++ p.data) last := by
  have o2 : Only (fun k => vn.ownBlock = some k) wA xA := (Only.refl _ wA).grown hg fun k hk => hk
  have ok := seeG_ok (count := r.count) (g := g) (i := (r.base + j + 1) % r.count) (p := p) (by
    have := pieceG_some hp
    unfold seeG
    rw [this.1]
    simp only
    rw [if_pos (by rw [this.2])])
  have hs := ok.size
  have hN' := h.cn.lt
  have hB' := h.cb.lt
  refine ⟨?_, ?_, ?_, ?_, ?_, ?_, ?_, h.nb, h.newN, h.newB, ?_, ?_⟩
  · exact (h.only.trans2 oA fun k hk e => by have := h.newN; omega).trans2 o2 fun k hk e => by have := (h.own k e).1; omega
  · exact hN.kept o2 fun e => (h.own N e).2.1 rfl
  · exact (h.cb.kept oA fun e => h.nb e.symm).kept o2 fun e => (h.own B e).2.2 rfl
  · exact (h.ring.kept oA fun e => by have := h.newN; omega).kept o2 fun e => by have := (h.own R e).1; omega
  · refine ((h.recs.mono (P' := fun k => (w.heap.size ≤ k ∧ k ≠ N ∧ k ≠ B ∧ v'.ownBlock ≠ some k) ∧ vn.ownBlock ≠ some k) fun k hk hk' => ⟨⟨hk'.1, hk'.2.1, hk'.2.2.1, fun e => ?_⟩, hk'.2.2.2⟩).only oA fun k hk e => hk.1.2.1 e).only o2 (fun k hk e => hk.2 e) |>.mono fun k _ hk => hk.1
    rcases hf k e with h1 | h1
    · exact hk'.2.2.2 h1
    · have := oA.size; omega
  · rw [List.length_append]
    have e : bv (now ++ p.data) = bv now ++ bv p.data := by simp [bv]
    rw [e]; exact hv
  · intro k hk
    rcases hf k hk with h1 | h1
    · exact h.own k h1
    · have := oA.size
      have h3 := h.only.size
      exact ⟨by omega, by omega, by omega⟩
  · rw [List.length_append]; have := h.small; omega
  · have := h.le; omega
theorem RunAt.next {p : Pc} (h : RunAt r g j out now last) (hj : j < r.count) (hp : pieceG r.count g (r.base + j + 1) = some p) : if p.last then RunAt r g (j + 1) (out ++ [now ++ p.data]) [] (r.base + j + 1) else RunAt r g (j + 1) out (now ++ p.data) last := by
  obtain ⟨m, hm⟩ : ∃ m, r.count - j = m + 1 := ⟨r.count - j - 1, by omega⟩
  unfold RunAt at h ⊢
  rw [h, hm, show r.count - (j + 1) = m by omega, show r.base + (j + 1) = r.base + j + 1 by omega, runG, hp]
  simp only
  split <;> rfl
/-- ... behind a record's end -/
theorem RecLoop.push (h : RecLoop w wr R D N B r g (j + 1) vo out vn now last) (hR : R < w.heap.size) {y : World} {v' : Value} {xs : List Value} {o : Obj} (h1 : ∀ k, vo.ownBlock = some k → w.heap.size ≤ k ∧ k ≠ N ∧ k ≠ B ∧ vn.ownBlock ≠ some k) (h3 : ∀ (i : Nat) (hi : i < out.length), ∃ x, xs[i]? = some x ∧ Vec wr 1 x out[i].length (bv out[i]) ∧ ∀ k, x.ownBlock = some k → (w.heap.size ≤ k ∧ k ≠ N ∧ k ≠ B ∧ vn.ownBlock ≠ some k) ∧ vo.ownBlock ≠ some k) (hlx : xs.length = out.length)
    (hv : Vec y 1 v' (out.length + 1) (xs ++ [vn])) (hg : (wr.alloc o).grownBy y vo.ownBlock) (hf : ∀ k, v'.ownBlock = some k → vo.ownBlock = some k ∨ (wr.alloc o).heap.size ≤ k) (hl : out.length ≤ j) (ht : r.base + j + 1 ≤ r.top) (q : Nat) :
    RecLoop w ((y.setCell ⟨R, 4, none⟩ (.int .i64 ((r.base + j + 1 : Nat) : Int))).drewN q) R D N B r g (j + 1) v' (out ++ [now]) (.slice none 0 0) [] (r.base + j + 1) := by
  have hsz : (wr.alloc o).heap.size = wr.heap.size + 1 := by simp
  have oa : Only None' wr (wr.alloc o) := (Only.refl _ _).alloc _
  have og : Only (fun k => vo.ownBlock = some k) (wr.alloc o) y := (Only.refl _ _).grown hg fun k hk => hk
  have os : Only (fun k => k = R) y ((y.setCell ⟨R, 4, none⟩ (.int .i64 ((r.base + j + 1 : Nat) : Int))).drewN q) := ((Only.refl (fun k => k = R) y).setCell (p := ⟨R, 4, none⟩) rfl _).drewN q
  have hN := h.cn.lt
  have hB := h.cb.lt
  have hRr := h.ring.lt
  have hws := h.only.size
  have hRec : Recs y (fun k => w.heap.size ≤ k ∧ k ≠ N ∧ k ≠ B) v' (out ++ [now]) := by
    refine Recs.push (w := wr.alloc o) (P := fun k => w.heap.size ≤ k ∧ k ≠ N ∧ k ≠ B) (fun k hk => ⟨(h1 k hk).1, (h1 k hk).2.1, (h1 k hk).2.2.1⟩) (fun i hi => ?_) hv hlx hg hf (h.row.alloc _) (fun k hk => ⟨h.own k hk, fun e => (h1 k e).2.2.2 hk⟩) (fun k hk => ⟨by omega, by omega, by omega⟩)
    obtain ⟨x, a, b, c⟩ := h3 i hi
    exact ⟨x, a, b.alloc _, fun k hk => ⟨⟨(c k hk).1.1, (c k hk).1.2.1, (c k hk).1.2.2.1⟩, (c k hk).2⟩⟩
  refine ⟨?_, ?_, ?_, ?_, ?_, Vec.nil _ _, fun k hk => (by cases hk), h.nb, h.newN, h.newB, ?_, ?_⟩
  · exact ((h.only.trans2 oa fun _ _ e => e.elim).trans2 og fun k hk e => by have := (h1 k e).1; omega).trans2 os fun k hk e => e
  · exact ((h.cn.kept oa fun e => e).kept og fun e => (h1 N e).2.1 rfl).kept os fun e => by have := h.newN; omega
  · exact ((h.cb.kept oa fun e => e).kept og fun e => (h1 B e).2.2.1 rfl).kept os fun e => by have := h.newB; omega
  · have := ((h.ring.kept oa fun e => e).kept og fun e => by have := (h1 R e).1; omega).set (i := 4) (by simp) (.int .i64 ((r.base + j + 1 : Nat) : Int))
    exact CellsR.kept this ((Only.refl None' _).drewN q) fun e => e
  · exact (hRec.only os fun k hk e => by have := hk.1; omega).mono fun k _ hk => ⟨hk.1, hk.2.1, hk.2.2, fun e => by cases e⟩
  · rw [List.length_append]; simp; omega
  · have := h.le; omega
end

set_option maxRecDepth 20000 in
set_option maxHeartbeats 4000000 in
theorem records_any {w : World} {R D : Nat} {F : Nat → Prop} {r : Rg} {d : Dk} (h : RingAt w R D r) (hok : r.Ok) (hlb : r.last = r.base) (hd : DiskAt w D F d) (hdd : d.dead = false) (hRF : ¬ F R) (hl : r.first + r.count ≤ d.lasts.length) (hw : d.waits.length ≤ 1000000)
    (htop : ∀ n p, pieceG r.count (gOf r d) n = some p → p.n ≤ r.top) :
    Calls Try.prog 69 #[.pointer (some ⟨R, 0, none⟩)] w (RecRes w R D r (gOf r d)) := by
  have HP := Lib.hid (pieces_new h)
  have HR0 := Lib.hid h
  have HD0 := Lib.hid hd
  have HK := Lib.hid hok
  have HDD := Lib.hid (And.intro hdd (And.intro hl hw))
  have HLB := Lib.hid hlb
  have HRF := Lib.hid hRF
  have HTOP := Lib.hid htop
  obtain ⟨g, hg⟩ : ∃ g, g = gOf r d := ⟨_, rfl⟩
  rw [← hg] at HTOP ⊢
  have HG := Lib.hid hg
  have c5 := h.lt
  have HLT := Lib.hid c5
  clear h hok hd hdd hl hw hlb hRF htop hg c5
  go_enter Try.func69, Try.ntmps69
  go_wp2_with fail
  refine HP.out.mono ?_
  rintro e w1 ⟨N, B, rfl, hN, hB, hn, hb, hnb, ho⟩
  have L0 : RecLoop w w1 R D N B r g 0 (.slice none 0 0) [] (.slice none 0 0) [] r.base := by
    refine ⟨ho.mono fun _ _ e => e.elim, hN, hB, ?_, Recs.nil _ _, Vec.nil _ _, fun k hk => (by cases hk), hnb, hn, hb, ⟨Nat.le_refl _, Nat.le_refl _⟩, ⟨Nat.le_refl _, Nat.le_refl _, Nat.le_trans HK.out.bl HK.out.lt⟩⟩
    have := HR0.out.kept ho fun e => e
    rw [HLB.out] at this
    exact this
  have HL0 := Lib.hid L0
  clear hN hB hn hb hnb ho L0
  go_wp2_with fail
  go_loopg [4, 5] r.count (fun gg s u wr => ∃ (j : Nat) (oa : Option Addr) (out : List (List UInt8)) (oc : Nat) (na : Option Addr) (now : List UInt8) (nc last : Nat), gg = r.count - j ∧ j ≤ r.count ∧ s = .slice oa out.length oc ∧ u = .slice na now.length nc ∧ Hid (RecLoop w wr R D N B r g j s out u now last ∧ RunAt r g j out now last))
  case atStart => exact ⟨0, none, [], 0, none, [], 0, r.base, rfl, Nat.zero_le _, rfl, rfl, Lib.hid ⟨HL0.out, rfl⟩⟩
  case round =>
    obtain ⟨j, oa, out, oc, na, now, nc, last, rfl, hj, rfl, rfl, HL2⟩ := hrel
    have HL := Lib.hid HL2.out.1
    have HRU := Lib.hid HL2.out.2
    clear HL2
    have HK' : Hid (Rg.Ok { r with last := last }) := ⟨HK.out.count, HK.out.small, HL.out.le.1, HL.out.le.2.2, by have := HL.out.le.2.1; show last ≤ r.base + r.count; omega, HK.out.top⟩
    by_cases hlt : j < r.count
    · have hDr : DiskAt wr D F d := HD0.out.only HL.out.only fun k hk e => HRF.out (e ▸ hk)
      have hNF : ¬ F N := fun hF => by have := HD0.out.lt hF; have := HL.out.newN; omega
      have hNR : N ≠ R := fun e => by have := HL.out.newN; have := HLT.out; omega
      cases hpc : pieceG r.count g (r.base + j + 1) with
      | none =>
        have HNX := Lib.hid (next_any HL.out.cn HL.out.cb HL.out.ring HK'.out hDr HDD.out.1 HDD.out.2.1 HDD.out.2.2 HL.out.nb hNR hNF (by show r.base ≤ _; omega) (by show _ < r.base + r.count; omega) (o := none) (by rw [← hpc, HG.out]; rfl))
        have HPC := Lib.hid hpc
        have HJ := Lib.hid (And.intro hj hlt)
        clear hpc hDr hNF hNR hj hlt
        go_wp2_with fail
        refine HNX.out.mono ?_
        rintro e w2 ⟨o2, -, n', b', a', k', c', rfl⟩
        have O2 := Lib.hid o2
        clear o2
        go_wp2_with fail
        go_ret2
        refine HL.out.tell HLT.out (O2.out.alloc _) HRU.out ?_
        obtain ⟨m, hm⟩ : ∃ m, r.count - j = m + 1 := ⟨r.count - j - 1, by have := HJ.out; omega⟩
        rw [hm, runG, HPC.out]
      | some p =>
        have HNX := Lib.hid (next_any HL.out.cn HL.out.cb HL.out.ring HK'.out hDr HDD.out.1 HDD.out.2.1 HDD.out.2.2 HL.out.nb hNR hNF (by show r.base ≤ _; omega) (by show _ < r.base + r.count; omega) (o := some p) (by rw [← hpc, HG.out]; rfl))
        have HPC := Lib.hid hpc
        have HJ := Lib.hid (And.intro hj hlt)
        have HNN := Lib.hid (pieceG_some hpc).2
        have HPO := Lib.hid (seeG_ok (count := r.count) (g := g) (i := (r.base + j + 1) % r.count) (p := p) (by
          have := pieceG_some hpc
          unfold seeG
          rw [this.1]
          simp only
          rw [if_pos (by rw [this.2])]))
        clear hpc hDr hNF hNR hj hlt
        obtain ⟨pn, la, data⟩ := p
        simp only at HNN
        go_wp2_with fail
        refine HNX.out.mono ?_
        rintro e w2 ⟨o2, cN, v, rfl, hv, hfr⟩
        obtain ⟨va, vk, vc, rfl⟩ := hv.rd.shape'
        have OA := Lib.hid (o2.alloc (.cells #[.int .i64 (pn : Int), .bool la, .slice va vk vc] 119))
        have CNA := Lib.hid (cN.kept ((Only.refl None' _).alloc (.cells #[.int .i64 (pn : Int), .bool la, .slice va vk vc] 119)) fun e => e)
        have TA := Lib.hid (cells_new w2 [.int .i64 (pn : Int), .bool la, .slice va vk vc] 119)
        have RD := Lib.hid ((hv.alloc (.cells #[.int .i64 (pn : Int), .bool la, .slice va vk vc] 119)).rd)
        have NA := Lib.hid (HL.out.row.only OA.out fun k hk e => (HL.out.own k hk).2.1 e)
        have HB1 := Lib.hid (show now.length + data.length ≤ 40000000 by
          have h1 := HPO.out.size
          have h2 := HL.out.small.1
          have h3 := HJ.out.1
          have h4 := HK.out.small
          simp only at h1
          omega)
        have HTN := Lib.hid o2.size
        clear o2 cN hv hfr
        obtain ⟨wA, hwA⟩ : ∃ wA, wA = w2.alloc (.cells #[.int .i64 (pn : Int), .bool la, .slice va vk vc] 119) := ⟨_, rfl⟩
        obtain ⟨T, hT⟩ : ∃ T, T = w2.heap.size := ⟨_, rfl⟩
        rw [← hwA] at OA CNA TA RD NA
        rw [← hT] at TA
        have eT := hT.symm
        have eA := hwA.symm
        have t2 := TA.out.is 2 _ rfl
        have HTn := Lib.hid (show wr.heap.size ≤ T by have := HTN.out; omega)
        clear hwA hT
        cases la
        · go_wp2_with (first | (at_builtin; refine wpList_append_any rfl _ _ 34 rfl 5 Try.t5 (.int .u8 0) 1 1 Try.underlying34 info5 zero5 size5 bytes5 rfl (by decide) (.slice na now.length nc) now.length (bv now) rfl NA.out (.slice va vk vc) data.length (bv data) rfl RD.out (bv_one _) (by have := HB1.out; unfold maxLen; omega) (by have := HB1.out; omega) ?_; intro v' w3 hv3 hg3 hf3; obtain ⟨na', nc', rfl, _, _⟩ := hv3.shape; have o3 : Only (fun k => (Value.slice na now.length nc).ownBlock = some k) wA w3 := (Only.refl _ wA).grown hg3 fun k hk => hk; have TB := TA.out.kept o3 (fun e => by have := NA.out.lt e; have := HL.out.row.lt e; have := HTn.out; omega); have t0 := TB.is 0 _ rfl; have t1 := TB.is 1 _ rfl; have HX := Lib.hid (And.intro hv3 (And.intro hg3 hf3)); clear t2 hv3 hg3 hf3 o3))
          go_roundg (r.count - (j + 1))
          case rel =>
            refine ⟨j + 1, oa, out, oc, na', now ++ data, nc', last, rfl, HJ.out.2, rfl, by rw [List.length_append], Lib.hid ⟨HL.out.more HLT.out HJ.out.2 HPC.out OA.out CNA.out HX.out.1 HX.out.2.1 HX.out.2.2, ?_⟩⟩
            exact HRU.out.next HJ.out.2 HPC.out
          case measure => have := HJ.out.2; omega
        · skip
          go_wp2_with (first | (at_builtin; refine wpList_append_any rfl _ _ 34 rfl 5 Try.t5 (.int .u8 0) 1 1 Try.underlying34 info5 zero5 size5 bytes5 rfl (by decide) (.slice na now.length nc) now.length (bv now) rfl NA.out (.slice va vk vc) data.length (bv data) rfl RD.out (bv_one _) (by have := HB1.out; unfold maxLen; omega) (by have := HB1.out; omega) ?_; intro v' w3 hv3 hg3 hf3; obtain ⟨na', nc', rfl, _, _⟩ := hv3.shape; have o3 : Only (fun k => (Value.slice na now.length nc).ownBlock = some k) wA w3 := (Only.refl _ wA).grown hg3 fun k hk => hk; have TB := TA.out.kept o3 (fun e => by have := NA.out.lt e; have := HL.out.row.lt e; have := HTn.out; omega); have t0 := TB.is 0 _ rfl; have t1 := TB.is 1 _ rfl; have HM := Lib.hid (HL.out.more HLT.out HJ.out.2 HPC.out OA.out CNA.out hv3 hg3 hf3); clear t2 hv3 hg3 hf3 o3))
          obtain ⟨xs, hvx, hrow⟩ := HM.out.recs.rows
          have HVX := Lib.hid hvx
          have HRW := Lib.hid hrow
          have lR := HM.out.ring.lt
          have z4 := HM.out.ring.thaw 4
          have c4 := HM.out.ring.is 4 _ rfl
          have HTT := Lib.hid (And.intro TB (show ∀ k, (Value.slice oa out.length oc).ownBlock = some k → k < T from fun k hk => by
            obtain ⟨_, ys, hy, _⟩ := HL.out.recs
            have := hy.lt hk
            have := HTn.out
            omega))
          have lT := TB.lt
          clear hvx hrow TB
          go_region_law (refine step_append_any (by rfl) _ _ 64 (by rfl) 34 Try.t34 (.slice none 0 0) 1 24 Try.underlying64 info34 t34_zero t34_size t34_bytes (by rfl) (by decide) (.slice oa out.length oc) out.length xs (by rfl) ((HVX.out.alloc _).drew) (.slice (some ⟨w3.heap.size, 0, none⟩) 1 1) 1 [.slice na' (now.length + data.length) nc'] (by rfl) (rd_one w3 _ 34) (one_slice _ _ _) (by have := HM.out.small.2; have := HJ.out.1; have := HK.out.small; unfold maxLen; omega) (by have := HM.out.small.2; have := HJ.out.1; have := HK.out.small; omega) ?_; intro v2 y hv2 hg2 hf2; obtain ⟨oa2, oc2, rfl, _, _⟩ := hv2.shape; have oy : Only (fun k => (Value.slice oa out.length oc).ownBlock = some k) (w3.alloc (.cells #[.slice na' (now.length + data.length) nc'] 34)).drew y := (Only.refl _ _).grown hg2 fun k hk => hk; have yR : RingAt y R D { r with last := last } := CellsR.kept (CellsR.kept HM.out.ring (((Only.refl None' w3).alloc _).drew) fun e => e) oy fun e => (by have := (HM.out.recs.own R e).1; have := HLT.out; omega); have yT := CellsR.kept (CellsR.kept HTT.out.1 (((Only.refl None' w3).alloc (.cells #[.slice na' (now.length + data.length) nc'] 34)).drew) fun e => e) oy fun e => (by have := HTT.out.2 T e; omega); have y4 := yR.is 4 _ rfl; have yz := yR.thaw 4; have yt := yT.is 0 _ rfl; have ylR := yR.lt; have HY := Lib.hid (And.intro hv2 (And.intro hg2 hf2)); clear hv2 hg2 hf2 oy)
          all_goals (
            obtain rfl := HNN.out
            go_wp2_with fail
            go_roundg (r.count - (j + 1))
            case rel =>
              refine ⟨j + 1, oa2, out ++ [now ++ data], oc2, none, [], 0, r.base + j + 1, rfl, HJ.out.2, by rw [List.length_append]; rfl, rfl, Lib.hid ⟨?_, ?_⟩⟩
              · exact HM.out.push HLT.out HM.out.recs.own HRW.out (by have := HVX.out.len; omega) HY.out.1 ⟨HY.out.2.1.os, HY.out.2.1.tape, HY.out.2.1.output, HY.out.2.1.size, HY.out.2.1.block⟩ HY.out.2.2 HL.out.small.2 (HTOP.out _ _ HPC.out) 0
              · exact HRU.out.next HJ.out.2 HPC.out
            case measure => have := HJ.out.2; omega)
    · have HNX := Lib.hid (next_end (by have := HL.out.cn; rwa [show j = r.count by omega] at this) HL.out.cb HL.out.ring HK'.out)
      have HJ := Lib.hid (show j = r.count by omega)
      clear hj hlt
      go_wp2_with fail
      refine HNX.out.mono ?_
      rintro e w2 ⟨rfl, o2⟩
      have O2 := Lib.hid o2
      clear o2
      go_wp2_with fail
      go_ret2
      refine HL.out.tell HLT.out (((O2.out.mono (S' := fun k => k = N) fun _ _ e => e.elim)).alloc _) HRU.out ?_
      rw [HJ.out, Nat.sub_self]; rfl
end Go.Proofs.Yteoeaojebklfjaa
