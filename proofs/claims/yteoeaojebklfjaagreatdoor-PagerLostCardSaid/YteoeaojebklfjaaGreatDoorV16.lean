/- Q5 Q6 Q7 in one text. -/
import Derived.Test.YteoeaojebklfjaaGreatDoorV15
namespace Go.Proofs.YteoeaojebklfjaaGreatDoor
open Go.RowKit Go.Maps
set_option linter.unusedVariables false
set_option maxRecDepth 20000

theorem results_cell_mid2 {P : Program} {fn : Func} {p u : Tmp} {ty : TypeId} (h : fn.results = #[.cell p ty, .tmp u]) (tmps : Array Value) (w : World) (g : Nat) (cs : List Value) (d : TypeDesc)
    (hp : tmps.getD p undef = .pointer (some ⟨g, 0, none⟩)) (hc : w.rangeAt g 0 cs) (hu : P.underlying ty = some d) (hd : d.isRow = true) (hi : (P.info? ty).map (·.size) = some cs.length) {x : Value} (hx : tmps.getD u undef = x) :
    (results fn tmps).run P w = .ok (.tuple #[.agg cs.toArray, x]) w := by
  subst hx
  have hp' : tmps[p]?.getD undef = .pointer (some ⟨g, 0, none⟩) := by simpa using hp
  simp [results, h, hp', asAddr, run_loadVar_mid w g 0 ty cs d hc hu hd hi]
def Pg.get (p : Pg) (d : Dk) (n : Nat) : Sec × Int := match kLook p.now n with
  | some s => (s, 0)
  | none => match kLook p.dirty n with
    | some s => (s, 0)
    | none => if p.first + n < d.lasts.length then (d.read (p.first + n), 0) else (zs, 1)
structure Pg.Ok (p : Pg) : Prop where
  first : p.first ≤ 100000
  pages : p.pages ≤ 100000
  dirty : ∀ q ∈ p.dirty, q.1 ≤ 20000000000 ∧ q.2.length = 512
  now : ∀ q ∈ p.now, q.1 ≤ 20000000000 ∧ q.2.length = 512
  dl : p.dirty.length ≤ 100000
  nl : p.now.length ≤ 100000
  il : p.idle.length ≤ 100000
  cl : p.count.length ≤ 100000
  m : p.m.Fits
  kept : p.kept.Fits
theorem page_stored {w : World} {g : Nat} {s s' : Sec} (h : Vec w 1 (.slice (some ⟨g, 0, none⟩) 512 512) 512 (bv s')) (hs : s.length = 512) : Vec (w.setCells g 0 (bv s)) 1 (.slice (some ⟨g, 0, none⟩) 512 512) 512 (bv s) := by
  have h1 := h.put (o := 0) (vs := bv s) (by rw [bv_length, hs]; decide)
  rw [Nat.zero_add] at h1
  have e : (bv s').take 0 ++ bv s ++ (bv s').drop (0 + (bv s).length) = bv s := by
    rw [List.take_zero, List.nil_append, List.drop_eq_nil_of_le, List.append_nil]
    have := h.len
    rw [this, bv_length, hs]
    decide
  rw [e] at h1
  exact h1
theorem set_there {w : World} {g : Nat} {s' : Sec} (h : Vec w 1 (.slice (some ⟨g, 0, none⟩) 512 512) 512 (bv s')) {s : Sec} (hs : s.length = 512) : w.there g 0 (bv s).toArray.size := by
  have := page_there h
  rw [show (bv s).toArray.size = 512 by simp [bv_length, hs]]
  exact this
set_option maxHeartbeats 1000000 in
theorem get_now {w : World} {L : Lo} {lg : Value} {p : Pg} (h : PgAt w L lg p) (hok : p.Ok) {n : Nat} (hn : n ≤ 20000000000) {s : Sec} (hs : kLook p.now n = some s) :
    Calls Tryz.prog 38 #[.pointer (some ⟨L.P, 0, none⟩), .int .i64 (n : Int)] w fun e w' => e = .returned (.tuple #[.agg (bv s).toArray, .int .i64 0]) ∧ Only None' w w' := by
  have c5 := h.cells.is 5 _ rfl
  have hl : ∀ w', Only None' w w' → (Instr.lookup 69 (.map (some L.Mn)) (.int .i64 (n : Int)) true).run Tryz.prog w' = .ok (.tuple #[.agg (bv s).toArray, .bool true]) w' := fun w' o => by
    have := (h.now.new o).look_ok under69 zeroP (n := n) (by omega)
    rw [hs] at this
    exact this
  have hlen : s.length = 512 := (hok.now _ (look_mem hs)).2
  have HL := Lib.hid hlen
  have v0 := page_zero w
  have a0 := (Only.refl None' w).alloc (.cells Tryz.zeroCells74 74)
  have v1 := page_zero (w.alloc (.cells Tryz.zeroCells74 74))
  have a1 := a0.alloc (.cells Tryz.zeroCells74 74)
  rw [show (w.alloc (.cells Tryz.zeroCells74 74)).heap.size = w.heap.size + 1 by simp] at v1
  have HV0 := Lib.hid (v0.alloc (.cells Tryz.zeroCells74 74))
  have HV1 := Lib.hid v1
  have HO := Lib.hid (And.intro a0 a1)
  have hl1 := hl _ a0
  have hl2 := hl _ a1
  have c5' := (h.cells.kept a0 fun e => e).is 5 _ rfl
  clear h hok hs hlen v0 v1 a0 a1 hl
  have HP := page_stored HV1.out HL.out
  have oS := (Only.refl (fun k => k = w.heap.size + 1) ((w.alloc (.cells Tryz.zeroCells74 74)).alloc (.cells Tryz.zeroCells74 74))).setCells rfl 0 (bv s)
  have HV3 := HV0.out.only oS fun g hg e => by injection hg with hg; have hg' : w.heap.size = g := hg; have e' : g = w.heap.size + 1 := e; omega
  have oT : Only None' w (((w.alloc (.cells Tryz.zeroCells74 74)).alloc (.cells Tryz.zeroCells74 74)).setCells (w.heap.size + 1) 0 (bv s)) := HO.out.2.trans2 oS fun k hk e => by omega
  obtain ⟨W, hW⟩ : ∃ W, W = ((w.alloc (.cells Tryz.zeroCells74 74)).alloc (.cells Tryz.zeroCells74 74)).setCells (w.heap.size + 1) 0 (bv s) := ⟨_, rfl⟩
  rw [← hW] at HP HV3 oT
  have HW := Lib.hid hW
  have HR := Lib.hid (And.intro HP.range (And.intro HV3 oT))
  clear hW HP HV3 oT oS
  go_enter Tryz.func38, Tryz.ntmps38
  go_wp2_with (first | (refine wpList_store_mid rfl 74 _ _ rfl (w.heap.size + 1) 0 (bv s).toArray rfl rfl (set_there HV1.out HL.out) (size74a s HL.out) (all_oneCell_toArray (bv_one s)) ?_; change wpList _ _ _ _ _ (((w.alloc (.cells Tryz.zeroCells74 74)).alloc (.cells Tryz.zeroCells74 74)).setCells (w.heap.size + 1) 0 (bv s)); rw [← HW.out]; clear HW hl1 hl2 c5 c5') | (refine wpList_load_mid rfl 74 _ rfl (w.heap.size + 1) 0 rfl (bv s) _ HR.out.1 Tryz.underlying74 rfl (size74 s HL.out) ?_) | (refine wpList_store_mid rfl 74 _ _ rfl w.heap.size 0 (bv s).toArray rfl rfl (set_there HR.out.2.1 HL.out) (size74a s HL.out) (all_oneCell_toArray (bv_one s)) ?_))
  refine bodyPost_ret (v := .tuple #[.agg (bv s).toArray, .int .i64 0]) (results_cell_mid2 rfl _ _ w.heap.size (bv s) _ rfl (page_stored HR.out.2.1 HL.out).range Tryz.underlying74 rfl (size74 s HL.out) rfl) rfl ⟨rfl, HR.out.2.2.trans2 ((Only.refl (fun k => k = w.heap.size) W).setCells rfl 0 _) fun k hk e => by omega⟩
structure Miss (w A0 B1 : World) : Prop where
  e0 : A0 = w.alloc (.cells Tryz.zeroCells74 74)
  eb : B1 = (A0.alloc (.cells Tryz.zeroCells74 74)).setCells (w.heap.size + 1) 0 (bv zs)
  s0 : A0.heap.size = w.heap.size + 1
  sb : B1.heap.size = w.heap.size + 1 + 1
  o0 : Only None' w A0
  ob : Only None' w B1
  v1 : Vec (A0.alloc (.cells Tryz.zeroCells74 74)) 1 (.slice (some ⟨w.heap.size + 1, 0, none⟩) 512 512) 512 (bv zs)
  v0 : Vec B1 1 (.slice (some ⟨w.heap.size, 0, none⟩) 512 512) 512 (bv zs)
theorem miss_worlds (w : World) : ∃ A0 B1, Miss w A0 B1 := by
  have v0 := page_zero w
  have a0 := (Only.refl None' w).alloc (.cells Tryz.zeroCells74 74)
  have v1 := page_zero (w.alloc (.cells Tryz.zeroCells74 74))
  have a1 := a0.alloc (.cells Tryz.zeroCells74 74)
  have e := show (w.alloc (.cells Tryz.zeroCells74 74)).heap.size = w.heap.size + 1 by simp
  rw [e] at v1
  have oS := (Only.refl (fun k => k = w.heap.size + 1) ((w.alloc (.cells Tryz.zeroCells74 74)).alloc (.cells Tryz.zeroCells74 74))).setCells rfl 0 (bv zs)
  refine ⟨_, _, ⟨rfl, rfl, e, by rw [size_setCells]; simp, a0, a1.trans2 oS fun k hk e => by omega, v1, ?_⟩⟩
  exact (v0.alloc (.cells Tryz.zeroCells74 74)).only oS fun g hg e => by injection hg with hg; have hg' : w.heap.size = g := hg; have e' : g = w.heap.size + 1 := e; omega
theorem zs_len : zs.length = 512 := List.length_replicate
theorem Pg.look_miss {w w' : World} {L : Lo} {lg : Value} {p : Pg} (h : PgAt w L lg p) {n : Nat} (hn : n ≤ 20000000000) (hs : kLook p.now n = none) (o : Only None' w w') :
    (Instr.lookup 69 (.map (some L.Mn)) (.int .i64 (n : Int)) true).run Tryz.prog w' = .ok (.tuple #[.agg (bv zs).toArray, .bool false]) w' := by
  have := (h.now.new o).look_ok under69 zeroP (n := n) (by omega)
  rw [hs] at this
  exact this
theorem Pg.look_dirty {w w' : World} {L : Lo} {lg : Value} {p : Pg} (h : PgAt w L lg p) {n : Nat} (hn : n ≤ 20000000000) {s : Sec} {b : Bool} (hs : (kLook p.dirty n).getD zs = s) (hb : (kLook p.dirty n).isSome = b) (o : Only None' w w') :
    (Instr.lookup 69 (.map (some L.Md)) (.int .i64 (n : Int)) true).run Tryz.prog w' = .ok (.tuple #[.agg (bv s).toArray, .bool b]) w' := by
  have := (h.dirty.new o).look_ok under69 zeroP (n := n) (by omega)
  rw [hb] at this
  subst hs
  exact this
set_option maxHeartbeats 1000000 in
theorem get_dirty {w : World} {L : Lo} {lg : Value} {p : Pg} (h : PgAt w L lg p) (hok : p.Ok) {n : Nat} (hn : n ≤ 20000000000) {s : Sec} (hno : kLook p.now n = none) (hs : kLook p.dirty n = some s) :
    Calls Tryz.prog 38 #[.pointer (some ⟨L.P, 0, none⟩), .int .i64 (n : Int)] w fun e w' => e = .returned (.tuple #[.agg (bv s).toArray, .int .i64 0]) ∧ Only None' w w' := by
  have hlen : s.length = 512 := (hok.dirty _ (look_mem hs)).2
  have HL := Lib.hid hlen
  obtain ⟨A0, B1, M⟩ := miss_worlds w
  have HM := Lib.hid M
  have c5 := (h.cells.kept M.o0 fun e => e).is 5 _ rfl
  have c4 := (h.cells.kept M.ob fun e => e).is 4 _ rfl
  have hl1 := Pg.look_miss h hn hno M.o0
  have hl2 := Pg.look_dirty h hn (s := s) (b := true) (by rw [hs]; rfl) (by rw [hs]; rfl) M.ob
  have v2 := page_zero B1
  rw [M.sb] at v2
  have HV2 := Lib.hid v2
  have v0 := M.v0.alloc (.cells Tryz.zeroCells74 74)
  have oA := (Only.refl None' B1).alloc (.cells Tryz.zeroCells74 74)
  have oS := (Only.refl (fun k => k = w.heap.size + 1 + 1) (B1.alloc (.cells Tryz.zeroCells74 74))).setCells rfl 0 (bv s)
  have HV0 := Lib.hid (v0.only oS fun g hg e => by injection hg with hg; have hg' : w.heap.size = g := hg; have e' : g = w.heap.size + 1 + 1 := e; omega)
  have HP := Lib.hid (page_stored v2 hlen)
  have HO := Lib.hid ((M.ob.trans oA).trans2 oS fun k hk e => by omega)
  obtain ⟨W, hW⟩ : ∃ W, W = (B1.alloc (.cells Tryz.zeroCells74 74)).setCells (w.heap.size + 1 + 1) 0 (bv s) := ⟨_, rfl⟩
  rw [← hW] at HV0 HP HO
  have HW := Lib.hid hW
  have hs0 := M.s0
  have hsb := M.sb
  have HR := Lib.hid HP.out.range
  have H0 := Lib.hid M.e0
  have HB := Lib.hid M.eb
  have HZ := Lib.hid zs_len
  clear hW v2 v0 oA oS h hok hs hno M hlen
  go_enter Tryz.func38, Tryz.ntmps38
  go_upto_region 1 with fail
  rw [← H0.out]
  clear H0
  go_wp2_with (first | (refine wpList_store_mid rfl 74 _ _ rfl (w.heap.size + 1) 0 (bv zs).toArray rfl rfl (set_there HM.out.v1 HZ.out) (size74a zs HZ.out) (all_oneCell_toArray (bv_one zs)) ?_; change wpList _ _ _ _ _ ((A0.alloc (.cells Tryz.zeroCells74 74)).setCells (w.heap.size + 1) 0 (bv zs)); rw [← HB.out]; clear HB hl1 c5) | (refine wpList_load_mid rfl 74 _ rfl (w.heap.size + 1 + 1) 0 rfl (bv s) _ HR.out Tryz.underlying74 rfl (size74 s HL.out) ?_) | (refine wpList_store_mid rfl 74 _ _ rfl (w.heap.size + 1 + 1) 0 (bv s).toArray rfl rfl (set_there HV2.out HL.out) (size74a s HL.out) (all_oneCell_toArray (bv_one s)) ?_; change wpList _ _ _ _ _ ((B1.alloc (.cells Tryz.zeroCells74 74)).setCells (w.heap.size + 1 + 1) 0 (bv s)); rw [← HW.out]; clear HW) | (refine wpList_store_mid rfl 74 _ _ rfl w.heap.size 0 (bv s).toArray rfl rfl (set_there HV0.out HL.out) (size74a s HL.out) (all_oneCell_toArray (bv_one s)) ?_))
  refine bodyPost_ret (v := .tuple #[.agg (bv s).toArray, .int .i64 0]) (results_cell_mid2 rfl _ _ w.heap.size (bv s) _ rfl (page_stored HV0.out HL.out).range Tryz.underlying74 rfl (size74 s HL.out) rfl) rfl ⟨rfl, HO.out.trans2 ((Only.refl (fun k => k = w.heap.size) W).setCells rfl 0 _) fun k hk e => by omega⟩
set_option maxHeartbeats 1000000 in
theorem get_disk {w : World} {L : Lo} {lg : Value} {p : Pg} {F : Nat → Prop} {d : Dk} (h : PgAt w L lg p) (hok : p.Ok) (hd : DiskAt w L.D F d) (hdd : d.dead = false) (hw : d.waits.length ≤ 1000000) {n : Nat} (hno : kLook p.now n = none) (hno2 : kLook p.dirty n = none) (hlt : p.first + n < d.lasts.length) :
    Calls Tryz.prog 38 #[.pointer (some ⟨L.P, 0, none⟩), .int .i64 (n : Int)] w fun e w' => e = .returned (.tuple #[.agg (bv (d.read (p.first + n))).toArray, .int .i64 0]) ∧ Only None' w w' := by
  have hmany := hd.ok.many
  have hn : n ≤ 20000000000 := by omega
  obtain ⟨A0, B1, M⟩ := miss_worlds w
  have HM := Lib.hid M
  have c5 := (h.cells.kept M.o0 fun e => e).is 5 _ rfl
  have c4 := (h.cells.kept M.ob fun e => e).is 4 _ rfl
  have hl1 := Pg.look_miss h hn hno M.o0
  have hl2 := Pg.look_dirty h hn (s := zs) (b := false) (by rw [hno2]; rfl) (by rw [hno2]; rfl) M.ob
  have v2 := page_zero B1
  rw [M.sb] at v2
  have HV2 := Lib.hid v2
  have v0 := M.v0.alloc (.cells Tryz.zeroCells74 74)
  have oA := (Only.refl None' B1).alloc (.cells Tryz.zeroCells74 74)
  have oS := (Only.refl (fun k => k = w.heap.size + 1 + 1) (B1.alloc (.cells Tryz.zeroCells74 74))).setCells rfl 0 (bv zs)
  have HV0 := Lib.hid (v0.only oS fun g hg e => by injection hg with hg; have hg' : w.heap.size = g := hg; have e' : g = w.heap.size + 1 + 1 := e; omega)
  have HO := Lib.hid ((M.ob.trans oA).trans2 oS fun k hk e => by omega)
  obtain ⟨W, hW⟩ : ∃ W, W = (B1.alloc (.cells Tryz.zeroCells74 74)).setCells (w.heap.size + 1 + 1) 0 (bv zs) := ⟨_, rfl⟩
  rw [← hW] at HV0 HO
  have HW := Lib.hid hW
  have hs0 := M.s0
  have hsb := M.sb
  have H0 := Lib.hid M.e0
  have HB := Lib.hid M.eb
  have HZ := Lib.hid zs_len
  obtain ⟨i, hi⟩ : ∃ i, i = p.first + n := ⟨_, rfl⟩
  have hi' : (p.first : Int) + (n : Int) = (i : Int) := by omega
  have HI := Lib.hid (And.intro hi' (show i ≤ 65536 by omega))
  rw [← hi] at hlt ⊢
  have HRL : Hid ((d.read i).length = 512) := Lib.hid (by
    unfold Dk.read
    cases hx : lastIx d.waits i with
    | some k =>
      obtain ⟨h1, _⟩ := lastIx_lt hx
      simp only
      rw [List.getD_eq_getElem?_getD, List.getElem?_eq_getElem h1]
      exact (hd.ok.waits _ (List.getElem_mem h1)).2
    | none =>
      simp only
      rw [List.getD_eq_getElem?_getD, List.getElem?_eq_getElem hlt]
      exact hd.ok.lasts _ (List.getElem_mem hlt))
  have HRD : Hid (∀ w', Only None' w w' → Calls Tryz.prog 28 #[.pointer (some ⟨L.D, 0, none⟩), .int .i64 (i : Int)] w' fun r w'' => ∃ v, r = .returned (.tuple #[v, .int .i64 0]) ∧ Vec w'' 1 v 512 (bv (d.read i)) ∧ (∀ k, v.ownBlock = some k → w'.heap.size ≤ k) ∧ Only None' w' w'') := Lib.hid fun w' o => read_any (hd.new o) hdd hlt hw
  have HC : Hid (∀ w', Only None' W w' → CellsR w' L.P (p.vs L lg)) := Lib.hid fun w' o => h.cells.kept (HO.out.trans o) fun e => e
  obtain ⟨s, hs⟩ : ∃ s, s = d.read i := ⟨_, rfl⟩
  rw [← hs] at HRL HRD ⊢
  clear hW v2 v0 oA oS h hok hno M hno2 hd hdd hw hlt hmany hn hi hi' hs
  go_enter Tryz.func38, Tryz.ntmps38
  go_upto_region 1 with fail
  rw [← H0.out]
  clear H0
  go_upto_region 7 with (first | (refine wpList_store_mid rfl 74 _ _ rfl (w.heap.size + 1) 0 (bv zs).toArray rfl rfl (set_there HM.out.v1 HZ.out) (size74a zs HZ.out) (all_oneCell_toArray (bv_one zs)) ?_; change wpList _ _ _ _ _ ((A0.alloc (.cells Tryz.zeroCells74 74)).setCells (w.heap.size + 1) 0 (bv zs)); rw [← HB.out]; clear HB hl1 c5) | (refine wpList_store_mid rfl 74 _ _ rfl (w.heap.size + 1 + 1) 0 (bv zs).toArray rfl rfl (set_there HV2.out HZ.out) (size74a zs HZ.out) (all_oneCell_toArray (bv_one zs)) ?_; change wpList _ _ _ _ _ ((B1.alloc (.cells Tryz.zeroCells74 74)).setCells (w.heap.size + 1 + 1) 0 (bv zs)); rw [← HW.out]; clear HW))
  refine r_begin (S := None') (by kernel_rfl) ?_
  have HS := Lib.hid (Only.refl (None') W)
  refine r_take 0 (.pointer (some ⟨L.P, 0, none⟩)) rfl (by kernel_rfl) (fun _ _ _ h => h) HS.out (YR.pure (by rfl) fun w hw => y_move w rfl rfl) ?_
  simp only [Act.put, zA, zB, zC]
  refine r_take 1 (.pointer (some ⟨L.P, 0, none⟩)) rfl (by kernel_rfl) (fun _ _ _ h => h) HS.out (YR.pure (by rfl) fun w hw => y_nil w rfl rfl) ?_
  simp only [Act.put, zA, zB, zC]
  refine r_take 2 (.pointer (some ⟨L.P, 0, none⟩)) rfl (by kernel_rfl) (fun _ _ _ h => h) HS.out (YR.pure (by rfl) fun w hw => y_f72_0 w rfl rfl) ?_
  simp only [Act.put, zA, zB, zC]
  refine r_take 3 (.pointer (some ⟨L.D, 0, none⟩)) rfl (by kernel_rfl) (fun _ _ _ h => h) HS.out (YR.pure (by rfl) fun w hw => y_load23 rfl rfl ((HC.out w hw).is 0 _ rfl)) ?_
  simp only [Act.put, zA, zB, zC]
  refine r_take 4 (.pointer (some ⟨L.P, 0, none⟩)) rfl (by kernel_rfl) (fun _ _ _ h => h) HS.out (YR.pure (by rfl) fun w hw => y_move w rfl rfl) ?_
  simp only [Act.put, zA, zB, zC]
  refine r_take 5 (.pointer (some ⟨L.P, 0, none⟩)) rfl (by kernel_rfl) (fun _ _ _ h => h) HS.out (YR.pure (by rfl) fun w hw => y_nil w rfl rfl) ?_
  simp only [Act.put, zA, zB, zC]
  refine r_take 6 (.pointer (some ⟨L.P, 2, none⟩)) rfl (by kernel_rfl) (fun _ _ _ h => h) HS.out (YR.pure (by rfl) fun w hw => y_f72_2 w rfl rfl) ?_
  simp only [Act.put, zA, zB, zC]
  refine r_take 7 (.int .i64 (p.first : Int)) rfl (by kernel_rfl) (fun _ _ _ h => h) HS.out (YR.pure (by rfl) fun w hw => y_load3 rfl rfl ((HC.out w hw).is 2 _ rfl)) ?_
  simp only [Act.put, zA, zB, zC]
  refine r_take 8 (.int .i64 (n : Int)) rfl (by kernel_rfl) (fun _ _ _ h => h) HS.out (YR.pure (by rfl) fun w hw => y_move w rfl rfl) ?_
  simp only [Act.put, zA, zB, zC]
  refine r_take 9 (.int .i64 (i : Int)) rfl (by kernel_rfl) (fun _ _ _ h => h) HS.out (YR.pure (by rfl) fun w hw => y_add3 w HI.out.1 (by have := HI.out.2; omega) (by have := HI.out.2; omega) rfl rfl rfl) ?_
  simp only [Act.put, zA, zB, zC]
  refine r_one 10 rfl (by kernel_rfl) (by rfl) fun wi oi => ?_
  refine wp_enter (y_enter [.pointer (some ⟨L.D, 0, none⟩), .int .i64 (i : Int)] rfl (by rfl) (call28_ _) wi) ((HRD.out wi (HO.out.trans oi)).mono ?_)
  rintro e wj ⟨v, rfl, hv, hfr, oj⟩
  refine ⟨_, rfl, (HS.out.quiet oi).quiet oj, ?_⟩
  simp only [Act.put, zA, zB, zC]
  have HT := Lib.hid ((HS.out.quiet oi).quiet oj)
  have HVV := Lib.hid (And.intro hv hfr)
  clear hv hfr
  clear HS oi oj
  have HS := HT
  clear HT
  refine r_take 11 (.tuple #[v, .int .i64 0]) rfl (by kernel_rfl) (fun _ _ _ h => h) HS.out (YR.pure (by rfl) fun w hw => y_move w rfl rfl) ?_
  simp only [Act.put, zA, zB, zC]
  refine r_take 12 (v) rfl (by kernel_rfl) (fun _ _ _ h => h) HS.out (YR.pure (by rfl) fun w hw => y_ext0 w rfl rfl) ?_
  simp only [Act.put, zA, zB, zC]
  refine r_take 13 (.int .i64 0) rfl (by kernel_rfl) (fun _ _ _ h => h) HS.out (YR.pure (by rfl) fun w hw => y_ext1 w rfl rfl) ?_
  simp only [Act.put, zA, zB, zC]
  refine r_take 14 (v) rfl (by kernel_rfl) (fun _ _ _ h => h) HS.out (YR.pure (by rfl) fun w hw => y_assign w rfl rfl) ?_
  simp only [Act.put, zA, zB, zC]
  refine r_take 15 (.int .i64 0) rfl (by kernel_rfl) (fun _ _ _ h => h) HS.out (YR.pure (by rfl) fun w hw => y_assign w rfl rfl) ?_
  simp only [Act.put, zA, zB, zC]
  refine r_done (by kernel_rfl) fun wz oz => ?_
  obtain ⟨g, off, cap, rfl, _⟩ := HVV.out.1.at_ (by decide)
  have hRG := (HVV.out.1.only oz fun _ _ e => e).range
  have hV := (HV0.out.only (HS.out.trans oz) fun _ _ e => e)
  have oZ := HO.out.trans (HS.out.trans oz)
  have HF := Lib.hid (And.intro hRG (And.intro hV oZ))
  clear hRG hV oZ HS oz HVV HRD HC HV0 HO
  generalize wz = w5 at HF ⊢
  have hab : ∀ w, (Instr.arrayAt 74 (.slice (some ⟨g, off, none⟩) 512 cap)).run Tryz.prog w = .ok (.pointer (some ⟨g, off, none⟩)) w := fun w => by simp [Instr.arrayAt, run_underlying Tryz.underlying74]
  go_wp2_with (first | (refine wpList_load_mid rfl 74 _ rfl g off rfl (bv s) _ HF.out.1 Tryz.underlying74 rfl (size74 s HRL.out) ?_) | (refine wpList_store_mid rfl 74 _ _ rfl w.heap.size 0 (bv s).toArray rfl rfl (set_there HF.out.2.1 HRL.out) (size74a s HRL.out) (all_oneCell_toArray (bv_one s)) ?_))
  refine bodyPost_ret (v := .tuple #[.agg (bv s).toArray, .int .i64 0]) (results_cell_mid2 rfl _ _ w.heap.size (bv s) _ rfl (page_stored HF.out.2.1 HRL.out).range Tryz.underlying74 rfl (size74 s HRL.out) rfl) rfl ⟨rfl, HF.out.2.2.trans2 ((Only.refl (fun k => k = w.heap.size) w5).setCells rfl 0 _) fun k hk e => by omega⟩
set_option maxHeartbeats 1000000 in
theorem get_bad {w : World} {L : Lo} {lg : Value} {p : Pg} {F : Nat → Prop} {d : Dk} (h : PgAt w L lg p) (hok : p.Ok) (hd : DiskAt w L.D F d) (hdd : d.dead = false) {n : Nat} (hn : n ≤ 20000000000) (hno : kLook p.now n = none) (hno2 : kLook p.dirty n = none) (hlt : ¬ p.first + n < d.lasts.length) :
    Calls Tryz.prog 38 #[.pointer (some ⟨L.P, 0, none⟩), .int .i64 (n : Int)] w fun e w' => e = .returned (.tuple #[.agg (bv zs).toArray, .int .i64 1]) ∧ Only None' w w' := by
  have hfst := hok.first
  obtain ⟨A0, B1, M⟩ := miss_worlds w
  have HM := Lib.hid M
  have c5 := (h.cells.kept M.o0 fun e => e).is 5 _ rfl
  have c4 := (h.cells.kept M.ob fun e => e).is 4 _ rfl
  have hl1 := Pg.look_miss h hn hno M.o0
  have hl2 := Pg.look_dirty h hn (s := zs) (b := false) (by rw [hno2]; rfl) (by rw [hno2]; rfl) M.ob
  have v2 := page_zero B1
  rw [M.sb] at v2
  have HV2 := Lib.hid v2
  have v0 := M.v0.alloc (.cells Tryz.zeroCells74 74)
  have oA := (Only.refl None' B1).alloc (.cells Tryz.zeroCells74 74)
  have oS := (Only.refl (fun k => k = w.heap.size + 1 + 1) (B1.alloc (.cells Tryz.zeroCells74 74))).setCells rfl 0 (bv zs)
  have HV0 := Lib.hid (v0.only oS fun g hg e => by injection hg with hg; have hg' : w.heap.size = g := hg; have e' : g = w.heap.size + 1 + 1 := e; omega)
  have HO := Lib.hid ((M.ob.trans oA).trans2 oS fun k hk e => by omega)
  obtain ⟨W, hW⟩ : ∃ W, W = (B1.alloc (.cells Tryz.zeroCells74 74)).setCells (w.heap.size + 1 + 1) 0 (bv zs) := ⟨_, rfl⟩
  rw [← hW] at HV0 HO
  have HW := Lib.hid hW
  have hs0 := M.s0
  have hsb := M.sb
  have H0 := Lib.hid M.e0
  have HB := Lib.hid M.eb
  have HZ := Lib.hid zs_len
  obtain ⟨i, hi⟩ : ∃ i, i = p.first + n := ⟨_, rfl⟩
  have hi' : (p.first : Int) + (n : Int) = (i : Int) := by omega
  have HI := Lib.hid (And.intro hi' (show i ≤ 20000100000 by omega))
  rw [← hi] at hlt
  have HRD : Hid (∀ w', Only None' w w' → Calls Tryz.prog 28 #[.pointer (some ⟨L.D, 0, none⟩), .int .i64 (i : Int)] w' fun r w'' => r = .returned (.tuple #[.slice none 0 0, .int .i64 1]) ∧ Only None' w' w'') := Lib.hid fun w' o => (read_bad (hd.new o) hdd (i : Int) (Or.inr (by omega))).mono fun r w'' e => ⟨e.1, by rw [e.2]; exact Only.refl _ _⟩
  have HC : Hid (∀ w', Only None' W w' → CellsR w' L.P (p.vs L lg)) := Lib.hid fun w' o => h.cells.kept (HO.out.trans o) fun e => e
  clear hW v2 v0 oA oS h hok hno M hno2 hd hdd hlt hn hi hi' hfst
  go_enter Tryz.func38, Tryz.ntmps38
  go_upto_region 1 with fail
  rw [← H0.out]
  clear H0
  go_upto_region 7 with (first | (refine wpList_store_mid rfl 74 _ _ rfl (w.heap.size + 1) 0 (bv zs).toArray rfl rfl (set_there HM.out.v1 HZ.out) (size74a zs HZ.out) (all_oneCell_toArray (bv_one zs)) ?_; change wpList _ _ _ _ _ ((A0.alloc (.cells Tryz.zeroCells74 74)).setCells (w.heap.size + 1) 0 (bv zs)); rw [← HB.out]; clear HB hl1 c5) | (refine wpList_store_mid rfl 74 _ _ rfl (w.heap.size + 1 + 1) 0 (bv zs).toArray rfl rfl (set_there HV2.out HZ.out) (size74a zs HZ.out) (all_oneCell_toArray (bv_one zs)) ?_; change wpList _ _ _ _ _ ((B1.alloc (.cells Tryz.zeroCells74 74)).setCells (w.heap.size + 1 + 1) 0 (bv zs)); rw [← HW.out]; clear HW))
  refine r_begin (S := None') (by kernel_rfl) ?_
  have HS := Lib.hid (Only.refl (None') W)
  refine r_take 0 (.pointer (some ⟨L.P, 0, none⟩)) rfl (by kernel_rfl) (fun _ _ _ h => h) HS.out (YR.pure (by rfl) fun w hw => y_move w rfl rfl) ?_
  simp only [Act.put, zA, zB, zC]
  refine r_take 1 (.pointer (some ⟨L.P, 0, none⟩)) rfl (by kernel_rfl) (fun _ _ _ h => h) HS.out (YR.pure (by rfl) fun w hw => y_nil w rfl rfl) ?_
  simp only [Act.put, zA, zB, zC]
  refine r_take 2 (.pointer (some ⟨L.P, 0, none⟩)) rfl (by kernel_rfl) (fun _ _ _ h => h) HS.out (YR.pure (by rfl) fun w hw => y_f72_0 w rfl rfl) ?_
  simp only [Act.put, zA, zB, zC]
  refine r_take 3 (.pointer (some ⟨L.D, 0, none⟩)) rfl (by kernel_rfl) (fun _ _ _ h => h) HS.out (YR.pure (by rfl) fun w hw => y_load23 rfl rfl ((HC.out w hw).is 0 _ rfl)) ?_
  simp only [Act.put, zA, zB, zC]
  refine r_take 4 (.pointer (some ⟨L.P, 0, none⟩)) rfl (by kernel_rfl) (fun _ _ _ h => h) HS.out (YR.pure (by rfl) fun w hw => y_move w rfl rfl) ?_
  simp only [Act.put, zA, zB, zC]
  refine r_take 5 (.pointer (some ⟨L.P, 0, none⟩)) rfl (by kernel_rfl) (fun _ _ _ h => h) HS.out (YR.pure (by rfl) fun w hw => y_nil w rfl rfl) ?_
  simp only [Act.put, zA, zB, zC]
  refine r_take 6 (.pointer (some ⟨L.P, 2, none⟩)) rfl (by kernel_rfl) (fun _ _ _ h => h) HS.out (YR.pure (by rfl) fun w hw => y_f72_2 w rfl rfl) ?_
  simp only [Act.put, zA, zB, zC]
  refine r_take 7 (.int .i64 (p.first : Int)) rfl (by kernel_rfl) (fun _ _ _ h => h) HS.out (YR.pure (by rfl) fun w hw => y_load3 rfl rfl ((HC.out w hw).is 2 _ rfl)) ?_
  simp only [Act.put, zA, zB, zC]
  refine r_take 8 (.int .i64 (n : Int)) rfl (by kernel_rfl) (fun _ _ _ h => h) HS.out (YR.pure (by rfl) fun w hw => y_move w rfl rfl) ?_
  simp only [Act.put, zA, zB, zC]
  refine r_take 9 (.int .i64 (i : Int)) rfl (by kernel_rfl) (fun _ _ _ h => h) HS.out (YR.pure (by rfl) fun w hw => y_add3 w HI.out.1 (by have := HI.out.2; omega) (by have := HI.out.2; omega) rfl rfl rfl) ?_
  simp only [Act.put, zA, zB, zC]
  refine r_one 10 rfl (by kernel_rfl) (by rfl) fun wi oi => ?_
  refine wp_enter (y_enter [.pointer (some ⟨L.D, 0, none⟩), .int .i64 (i : Int)] rfl (by rfl) (call28_ _) wi) ((HRD.out wi (HO.out.trans oi)).mono ?_)
  rintro e wj ⟨rfl, oj⟩
  refine ⟨_, rfl, (HS.out.quiet oi).quiet oj, ?_⟩
  simp only [Act.put, zA, zB, zC]
  have HT := Lib.hid ((HS.out.quiet oi).quiet oj)
  clear HS oi oj
  have HS := HT
  clear HT
  refine r_take 11 (.tuple #[.slice none 0 0, .int .i64 1]) rfl (by kernel_rfl) (fun _ _ _ h => h) HS.out (YR.pure (by rfl) fun w hw => y_move w rfl rfl) ?_
  simp only [Act.put, zA, zB, zC]
  refine r_take 12 (.slice none 0 0) rfl (by kernel_rfl) (fun _ _ _ h => h) HS.out (YR.pure (by rfl) fun w hw => y_ext0 w rfl rfl) ?_
  simp only [Act.put, zA, zB, zC]
  refine r_take 13 (.int .i64 1) rfl (by kernel_rfl) (fun _ _ _ h => h) HS.out (YR.pure (by rfl) fun w hw => y_ext1 w rfl rfl) ?_
  simp only [Act.put, zA, zB, zC]
  refine r_take 14 (.slice none 0 0) rfl (by kernel_rfl) (fun _ _ _ h => h) HS.out (YR.pure (by rfl) fun w hw => y_assign w rfl rfl) ?_
  simp only [Act.put, zA, zB, zC]
  refine r_take 15 (.int .i64 1) rfl (by kernel_rfl) (fun _ _ _ h => h) HS.out (YR.pure (by rfl) fun w hw => y_assign w rfl rfl) ?_
  simp only [Act.put, zA, zB, zC]
  refine r_done (by kernel_rfl) fun wz oz => ?_
  have hV := (HV0.out.only (HS.out.trans oz) fun _ _ e => e)
  have oZ := HO.out.trans (HS.out.trans oz)
  have HF := Lib.hid (And.intro hV oZ)
  clear hV oZ HS oz HRD HC HV0 HO
  generalize wz = w5 at HF ⊢
  have hbz : ∀ w, (Instr.build 74 #[]).run Tryz.prog w = .ok (.agg (bv zs).toArray) w := fun w => by rw [← zbv74]; kernel_rfl
  go_wp2_with (refine wpList_store_mid rfl 74 _ _ rfl w.heap.size 0 (bv zs).toArray rfl rfl (set_there HF.out.1 HZ.out) (size74a zs HZ.out) (all_oneCell_toArray (bv_one zs)) ?_)
  refine bodyPost_ret (v := .tuple #[.agg (bv zs).toArray, .int .i64 1]) (results_cell_mid2 rfl _ _ w.heap.size (bv zs) _ rfl (page_stored HF.out.1 HZ.out).range Tryz.underlying74 rfl (size74 zs HZ.out) rfl) rfl ⟨rfl, HF.out.2.trans2 ((Only.refl (fun k => k = w.heap.size) w5).setCells rfl 0 _) fun k hk e => by omega⟩
theorem get_any {w : World} {L : Lo} {lg : Value} {p : Pg} {F : Nat → Prop} {d : Dk} (h : PgAt w L lg p) (hok : p.Ok) (hd : DiskAt w L.D F d) (hdd : d.dead = false) (hw : d.waits.length ≤ 1000000) {n : Nat} (hn : n ≤ 20000000000) :
    Calls Tryz.prog 38 #[.pointer (some ⟨L.P, 0, none⟩), .int .i64 (n : Int)] w fun e w' => e = .returned (.tuple #[.agg (bv (p.get d n).1).toArray, .int .i64 (p.get d n).2]) ∧ Only None' w w' := by
  unfold Pg.get
  cases h1 : kLook p.now n with
  | some s => exact get_now h hok hn h1
  | none =>
    simp only
    cases h2 : kLook p.dirty n with
    | some s => exact get_dirty h hok hn h1 h2
    | none =>
      simp only
      by_cases h3 : p.first + n < d.lasts.length
      · rw [if_pos h3]; exact get_disk h hok hd hdd hw h1 h2 h3
      · rw [if_neg h3]; exact get_bad h hok hd hdd hn h1 h2 h3
theorem Dk.read_len {d : Dk} (h : d.Ok) {i : Nat} (hi : i < d.lasts.length) : (d.read i).length = 512 := by
  unfold Dk.read
  cases hx : lastIx d.waits i with
  | some k =>
    obtain ⟨h1, _⟩ := lastIx_lt hx
    simp only
    rw [List.getD_eq_getElem?_getD, List.getElem?_eq_getElem h1]
    exact (h.waits _ (List.getElem_mem h1)).2
  | none =>
    simp only
    rw [List.getD_eq_getElem?_getD, List.getElem?_eq_getElem hi]
    exact h.lasts _ (List.getElem_mem hi)
theorem get_len {p : Pg} {d : Dk} (hok : p.Ok) (hd : d.Ok) (n : Nat) : (p.get d n).1.length = 512 := by
  unfold Pg.get
  split
  · rename_i s h1; exact (hok.now _ (look_mem h1)).2
  · split
    · rename_i s h1; exact (hok.dirty _ (look_mem h1)).2
    · split
      · rename_i h; exact Dk.read_len hd h
      · exact zs_len
end Go.Proofs.YteoeaojebklfjaaGreatDoor
namespace Go.Proofs.YteoeaojebklfjaaGreatDoor
open Go.RowKit Go.Maps
set_option linter.unusedVariables false
set_option maxRecDepth 20000

def Pg.uses (p : Pg) (n : Int) : Bool := decide (0 < n) && decide (n < (p.m.used : Int)) && !(kLook p.idle n.toNat).getD false
section
variable {w : World} {L : Lo} {lg : Value} {p : Pg}
set_option maxHeartbeats 1000000 in
theorem uses_any (h : PgAt w L lg p) (hok : p.Ok) (n : Int) : Calls Tryz.prog 40 #[.pointer (some ⟨L.P, 0, none⟩), .int .i64 n] w fun e w' => e = .returned (.bool (p.uses n)) ∧ w = w' := by
  have c11 := h.cells.is 11 _ rfl
  have c14 := h.cells.is 14 _ rfl
  unfold Pg.uses
  by_cases h1 : 0 < n
  · have d1 : decide (0 < n) = true := decide_eq_true h1
    rw [d1]
    by_cases h2 : n < (p.m.used : Int)
    · have d2 : decide (n < (p.m.used : Int)) = true := decide_eq_true h2
      have hu := hok.m.used
      have hl := h.idle.lookup under70 zeroB (n := n.toNat) (by omega)
      rw [show ((n.toNat : Nat) : Int) = n by omega] at hl
      change (Instr.lookup 70 (.map (some L.Mi)) (.int .i64 n) false).run Tryz.prog w = .ok (.bool ((kLook p.idle n.toNat).getD false)) w at hl
      rw [d2]
      obtain ⟨b, hb⟩ : ∃ b, b = (kLook p.idle n.toNat).getD false := ⟨_, rfl⟩
      rw [← hb] at hl ⊢
      clear hb h hok hu h1 h2
      go_enter Tryz.func40, Tryz.ntmps40
      go_wp2_with fail
      go_ret
      exact ⟨by simp, rfl⟩
    · have d2 : decide (n < (p.m.used : Int)) = false := decide_eq_false h2
      rw [d2]
      clear h hok h1 h2
      go_enter Tryz.func40, Tryz.ntmps40
      go_wp2_with fail
      go_ret
      exact ⟨by simp, rfl⟩
  · have d1 : decide (0 < n) = false := decide_eq_false h1
    rw [d1]
    clear h hok h1
    go_enter Tryz.func40, Tryz.ntmps40
    go_wp2_with fail
    go_ret
    exact ⟨by simp, rfl⟩
theorem pages_any (h : PgAt w L lg p) : Calls Tryz.prog 21 #[.pointer (some ⟨L.P, 0, none⟩)] w fun e w' => e = .returned (.int .i64 (p.pages : Int)) ∧ w = w' := by
  have c3 := h.cells.is 3 _ rfl
  clear h
  go_enter Tryz.func21, Tryz.ntmps21
  go_wp2_with fail
  go_ret
  exact ⟨rfl, rfl⟩
theorem root_any (h : PgAt w L lg p) : Calls Tryz.prog 18 #[.pointer (some ⟨L.P, 0, none⟩)] w fun e w' => e = .returned (.int .i64 (p.m.root : Int)) ∧ w = w' := by
  have c10 := h.cells.is 10 _ rfl
  clear h
  go_enter Tryz.func18, Tryz.ntmps18
  go_wp2_with fail
  go_ret
  exact ⟨rfl, rfl⟩
def Pg.free (p : Pg) : Int := (p.pages : Int) - (p.m.used : Int) + p.m.free
theorem free_any (h : PgAt w L lg p) (hok : p.Ok) : Calls Tryz.prog 19 #[.pointer (some ⟨L.P, 0, none⟩)] w fun e w' => e = .returned (.int .i64 p.free) ∧ Only None' w w' := by
  have h1 := hok.pages
  have h2 := hok.m.used
  have h3 := hok.m.free0
  have h4 := hok.m.free
  have HC : Hid (∀ w', Only None' w w' → CellsR w' L.P (p.vs L lg)) := Lib.hid fun w' o => h.cells.kept o fun e => e
  obtain ⟨x, hx⟩ : ∃ x, x = (p.pages : Int) - (p.m.used : Int) := ⟨_, rfl⟩
  obtain ⟨y, hy⟩ : ∃ y, y = p.free := ⟨_, rfl⟩
  have hy' := hy
  unfold Pg.free at hy'
  rw [← hx] at hy'
  have HX := Lib.hid (And.intro hx.symm (And.intro hy'.symm (show -30000000000 ≤ x ∧ x ≤ 30000000000 ∧ -30000000000 ≤ y ∧ y ≤ 30000000000 by omega)))
  rw [← hy]
  clear h hok h1 h2 h3 h4 hx hy hy'
  go_enter Tryz.func19, Tryz.ntmps19
  go_upto_region 3 with fail
  refine r_begin (S := None') (by kernel_rfl) ?_
  have HS := Lib.hid (Only.refl (None') w)
  refine r_take 0 (.pointer (some ⟨L.P, 0, none⟩)) rfl (by kernel_rfl) (fun _ _ _ h => h) HS.out (YR.pure (by rfl) fun w hw => y_move w rfl rfl) ?_
  simp only [Act.put, zA, zB, zC]
  refine r_take 1 (.pointer (some ⟨L.P, 0, none⟩)) rfl (by kernel_rfl) (fun _ _ _ h => h) HS.out (YR.pure (by rfl) fun w hw => y_nil w rfl rfl) ?_
  simp only [Act.put, zA, zB, zC]
  refine r_take 2 (.pointer (some ⟨L.P, 3, none⟩)) rfl (by kernel_rfl) (fun _ _ _ h => h) HS.out (YR.pure (by rfl) fun w hw => y_f72_3 w rfl rfl) ?_
  simp only [Act.put, zA, zB, zC]
  refine r_take 3 (.int .i64 (p.pages : Int)) rfl (by kernel_rfl) (fun _ _ _ h => h) HS.out (YR.pure (by rfl) fun w hw => y_load3 rfl rfl ((HC.out w hw).is 3 _ rfl)) ?_
  simp only [Act.put, zA, zB, zC]
  refine r_take 4 (.pointer (some ⟨L.P, 0, none⟩)) rfl (by kernel_rfl) (fun _ _ _ h => h) HS.out (YR.pure (by rfl) fun w hw => y_move w rfl rfl) ?_
  simp only [Act.put, zA, zB, zC]
  refine r_take 5 (.pointer (some ⟨L.P, 0, none⟩)) rfl (by kernel_rfl) (fun _ _ _ h => h) HS.out (YR.pure (by rfl) fun w hw => y_nil w rfl rfl) ?_
  simp only [Act.put, zA, zB, zC]
  refine r_take 6 (.pointer (some ⟨L.P, 10, none⟩)) rfl (by kernel_rfl) (fun _ _ _ h => h) HS.out (YR.pure (by rfl) fun w hw => y_f72_7 w rfl rfl) ?_
  simp only [Act.put, zA, zB, zC]
  refine r_take 7 (.pointer (some ⟨L.P, 11, none⟩)) rfl (by kernel_rfl) (fun _ _ _ h => h) HS.out (YR.pure (by rfl) fun w hw => y_f67_1 w rfl rfl) ?_
  simp only [Act.put, zA, zB, zC]
  refine r_take 8 (.int .i64 (p.m.used : Int)) rfl (by kernel_rfl) (fun _ _ _ h => h) HS.out (YR.pure (by rfl) fun w hw => y_load3 rfl rfl ((HC.out w hw).is 11 _ rfl)) ?_
  simp only [Act.put, zA, zB, zC]
  refine r_take 9 (.int .i64 x) rfl (by kernel_rfl) (fun _ _ _ h => h) HS.out (YR.pure (by rfl) fun w hw => y_sub3 w HX.out.1 (by have := HX.out.2.2; omega) (by have := HX.out.2.2; omega) rfl rfl rfl) ?_
  simp only [Act.put, zA, zB, zC]
  refine r_take 10 (.pointer (some ⟨L.P, 0, none⟩)) rfl (by kernel_rfl) (fun _ _ _ h => h) HS.out (YR.pure (by rfl) fun w hw => y_move w rfl rfl) ?_
  simp only [Act.put, zA, zB, zC]
  refine r_take 11 (.pointer (some ⟨L.P, 0, none⟩)) rfl (by kernel_rfl) (fun _ _ _ h => h) HS.out (YR.pure (by rfl) fun w hw => y_nil w rfl rfl) ?_
  simp only [Act.put, zA, zB, zC]
  refine r_take 12 (.pointer (some ⟨L.P, 10, none⟩)) rfl (by kernel_rfl) (fun _ _ _ h => h) HS.out (YR.pure (by rfl) fun w hw => y_f72_7 w rfl rfl) ?_
  simp only [Act.put, zA, zB, zC]
  refine r_take 13 (.pointer (some ⟨L.P, 13, none⟩)) rfl (by kernel_rfl) (fun _ _ _ h => h) HS.out (YR.pure (by rfl) fun w hw => y_f67_3 w rfl rfl) ?_
  simp only [Act.put, zA, zB, zC]
  refine r_take 14 (.int .i64 p.m.free) rfl (by kernel_rfl) (fun _ _ _ h => h) HS.out (YR.pure (by rfl) fun w hw => y_load3 rfl rfl ((HC.out w hw).is 13 _ rfl)) ?_
  simp only [Act.put, zA, zB, zC]
  refine r_take 15 (.int .i64 y) rfl (by kernel_rfl) (fun _ _ _ h => h) HS.out (YR.pure (by rfl) fun w hw => y_add3 w HX.out.2.1 (by have := HX.out.2.2; omega) (by have := HX.out.2.2; omega) rfl rfl rfl) ?_
  simp only [Act.put, zA, zB, zC]
  refine r_take 16 (.int .i64 y) rfl (by kernel_rfl) (fun _ _ _ h => h) HS.out (YR.pure (by rfl) fun w hw => y_assign w rfl rfl) ?_
  simp only [Act.put, zA, zB, zC]
  refine r_done (by kernel_rfl) fun wz oz => ?_
  have HO := Lib.hid (HS.out.trans oz)
  clear HS oz
  generalize wz = w5 at HO ⊢
  go_wp2_with fail
  go_ret
  exact ⟨rfl, HO.out⟩
def Pg.rooted (p : Pg) (n : Nat) : Pg := { p with m := { p.m with root := n } }
def Pg.setRoot (p : Pg) (n : Int) : Int × Pg := if n ≠ 0 ∧ p.uses n = false then (1, p) else (0, p.rooted n.toNat)
theorem PgAt.setMeta (h : PgAt w L lg p) {w' : World} {p' : Pg} (hc : CellsR w' L.P (p'.vs L lg)) (o : Only (fun k => k = L.P) w w') (e1 : p'.dirty = p.dirty) (e2 : p'.now = p.now) (e3 : p'.idle = p.idle) (e4 : p'.count = p.count) : PgAt w' L lg p' :=
  ⟨hc, by rw [e1]; exact h.dirty.only o fun e => h.ok.pd e.symm, by rw [e2]; exact h.now.only o fun e => h.ok.pn e.symm, by rw [e3]; exact h.idle.only o fun e => h.ok.pi e.symm, by rw [e4]; exact h.count.only o fun e => h.ok.pc e.symm, h.ok⟩
set_option maxHeartbeats 1000000 in
theorem setRoot_any (h : PgAt w L lg p) (hok : p.Ok) (n : Int) : Calls Tryz.prog 12 #[.pointer (some ⟨L.P, 0, none⟩), .int .i64 n] w fun e w' => e = .returned (.int .i64 (p.setRoot n).1) ∧ PgAt w' L lg (p.setRoot n).2 ∧ Only (fun k => k = L.P) w w' := by
  have HU := Lib.hid (uses_any h hok n)
  have H := Lib.hid h
  have hc := (h.cells.is 10 _ rfl)
  have hf := (h.cells.thaw 10)
  unfold Pg.setRoot
  by_cases h0 : n = 0
  · subst h0
    rw [if_neg (by simp)]
    clear h hok
    go_enter Tryz.func12, Tryz.ntmps12
    go_wp2_with fail
    go_ret
    refine ⟨rfl, H.out.setMeta (H.out.cells.set (i := 10) (by simp [Pg.vs]) _) ((Only.refl (fun k => k = L.P) w).setCell (p := ⟨L.P, 10, none⟩) rfl _) rfl rfl rfl rfl, (Only.refl (fun k => k = L.P) w).setCell (p := ⟨L.P, 10, none⟩) rfl _⟩
  · have e0 : (n == 0) = false := by simpa using h0
    cases hu : p.uses n with
    | false =>
      rw [hu] at HU
      rw [if_pos ⟨h0, rfl⟩]
      clear h hok hc hf
      go_enter Tryz.func12, Tryz.ntmps12
      go_wp2_with fail
      refine HU.out.mono ?_
      rintro e w2 ⟨rfl, rfl⟩
      go_wp2_with fail
      go_ret
      exact ⟨rfl, H.out, Only.refl _ _⟩
    | true =>
      rw [hu] at HU
      rw [if_neg (by simp)]
      have hn : ((n.toNat : Nat) : Int) = n := by
        unfold Pg.uses at hu
        simp only [Bool.and_eq_true, decide_eq_true_eq] at hu
        omega
      have HN := Lib.hid hn
      clear h hok hu hn
      go_enter Tryz.func12, Tryz.ntmps12
      go_wp2_with fail
      refine HU.out.mono ?_
      rintro e w2 ⟨rfl, rfl⟩
      go_wp2_with fail
      go_ret
      refine ⟨rfl, H.out.setMeta ?_ ((Only.refl (fun k => k = L.P) w).setCell (p := ⟨L.P, 10, none⟩) rfl _) rfl rfl rfl rfl, (Only.refl (fun k => k = L.P) w).setCell (p := ⟨L.P, 10, none⟩) rfl _⟩
      have := H.out.cells.set (i := 10) (by simp [Pg.vs]) (.int .i64 ((n.toNat : Nat) : Int))
      rw [HN.out] at this
      have e : (p.rooted n.toNat).vs L lg = (p.vs L lg).set 10 (.int .i64 n) := by unfold Pg.rooted Pg.vs; simp only [HN.out]; rfl
      rw [e]
      exact this
end
end Go.Proofs.YteoeaojebklfjaaGreatDoor
namespace Go.Proofs.YteoeaojebklfjaaGreatDoor
open Go.RowKit Go.Maps
set_option linter.unusedVariables false
set_option maxRecDepth 20000

section
variable {w : World} {L : Lo} {lg : Value} {p : Pg} {F : Nat → Prop} {d : Dk}
theorem get_code (p : Pg) (d : Dk) (n : Nat) : (p.get d n).2 = 0 ∨ (p.get d n).2 = 1 := by
  unfold Pg.get
  split
  · exact .inl rfl
  · split
    · exact .inl rfl
    · split
      · exact .inl rfl
      · exact .inr rfl
theorem Pg.uses_nat {n : Int} (h : p.uses n = true) (hok : p.Ok) : 0 < n ∧ n ≤ 10000000000 := by
  unfold Pg.uses at h
  simp only [Bool.and_eq_true, decide_eq_true_eq] at h
  have := hok.m.used
  omega
theorem read_no (h : PgAt w L lg p) (hok : p.Ok) {n : Int} (hu : p.uses n = false) : Calls Tryz.prog 20 #[.pointer (some ⟨L.P, 0, none⟩), .int .i64 n] w fun e w' => e = .returned (.tuple #[.slice none 0 0, .int .i64 1]) ∧ w = w' := by
  have HU := Lib.hid (uses_any h hok n)
  rw [hu] at HU
  clear h hok hu
  go_enter Tryz.func20, Tryz.ntmps20
  go_wp2_with fail
  refine HU.out.mono ?_
  rintro e w2 ⟨rfl, rfl⟩
  go_wp2_with fail
  go_ret2
  exact ⟨rfl, rfl⟩
set_option maxHeartbeats 1000000 in
theorem pread_bad (h : PgAt w L lg p) (hok : p.Ok) (hd : DiskAt w L.D F d) (hdd : d.dead = false) (hw : d.waits.length ≤ 1000000) {n : Nat} (hu : p.uses (n : Int) = true) (hg : (p.get d n).2 = 1) : Calls Tryz.prog 20 #[.pointer (some ⟨L.P, 0, none⟩), .int .i64 (n : Int)] w fun e w' => e = .returned (.tuple #[.slice none 0 0, .int .i64 1]) ∧ Only None' w w' := by
  have HU := Lib.hid (uses_any h hok (n : Int))
  rw [hu] at HU
  have hn := Pg.uses_nat hu hok
  have HG := get_any h hok hd hdd hw (n := n) (by omega)
  have HL := Lib.hid (get_len hok hd.ok n)
  rw [hg] at HG
  obtain ⟨s, hs⟩ : ∃ s, s = (p.get d n).1 := ⟨_, rfl⟩
  rw [← hs] at HG HL
  have HG := Lib.hid HG
  clear h hok hu hd hdd hw hn hg hs
  go_enter Tryz.func20, Tryz.ntmps20
  go_wp2_with fail
  refine HU.out.mono ?_
  rintro e w2 ⟨rfl, rfl⟩
  go_wp2_with fail
  refine HG.out.mono ?_
  rintro e w3 ⟨rfl, o3⟩
  have HV := Lib.hid (page_zero w3)
  have HO := Lib.hid (And.intro o3 ((o3.alloc (.cells Tryz.zeroCells74 74)).trans2 ((Only.refl (fun k => k = w3.heap.size) _).setCells rfl 0 (bv s)) fun k hk e => by have := o3.size; omega))
  clear o3
  go_wp2_with (refine wpList_store_mid rfl 74 _ _ rfl w3.heap.size 0 (bv s).toArray rfl rfl (set_there HV.out HL.out) (size74a s HL.out) (all_oneCell_toArray (bv_one s)) ?_)
  go_ret2
  exact ⟨rfl, HO.out.2⟩
set_option maxHeartbeats 1000000 in
theorem pread_ok (h : PgAt w L lg p) (hok : p.Ok) (hd : DiskAt w L.D F d) (hdd : d.dead = false) (hw : d.waits.length ≤ 1000000) {n : Nat} (hu : p.uses (n : Int) = true) {s : Sec} (hs : p.get d n = (s, 0)) : Calls Tryz.prog 20 #[.pointer (some ⟨L.P, 0, none⟩), .int .i64 (n : Int)] w fun e w' => ∃ v, e = .returned (.tuple #[v, .int .i64 0]) ∧ Vec w' 1 v 512 (bv s) ∧ (∀ g, v.ownBlock = some g → w.heap.size ≤ g) ∧ Only None' w w' := by
  have HU := Lib.hid (uses_any h hok (n : Int))
  rw [hu] at HU
  have hn := Pg.uses_nat hu hok
  have HG := get_any h hok hd hdd hw (n := n) (by omega)
  have HL := Lib.hid (get_len hok hd.ok n)
  rw [hs] at HG HL
  have HG := Lib.hid HG
  have hq := slice74_all
  clear h hok hu hd hdd hw hn hs
  go_enter Tryz.func20, Tryz.ntmps20
  go_wp2_with fail
  refine HU.out.mono ?_
  rintro e w2 ⟨rfl, rfl⟩
  go_wp2_with fail
  refine HG.out.mono ?_
  rintro e w3 ⟨rfl, o3⟩
  have HV := Lib.hid (page_zero w3)
  have o4 := ((o3.alloc (.cells Tryz.zeroCells74 74)).trans2 ((Only.refl (fun k => k = w3.heap.size) _).setCells rfl 0 (bv s)) fun k hk e => by have := o3.size; omega)
  have HP := page_stored HV.out HL.out
  obtain ⟨W, hW⟩ : ∃ W, W = (w3.alloc (.cells Tryz.zeroCells74 74)).setCells w3.heap.size 0 (bv s) := ⟨_, rfl⟩
  rw [← hW] at o4 HP
  have HW := Lib.hid hW
  have HO := Lib.hid (And.intro HP o4)
  have HC := Lib.hid (bclone_any HP.rd (by decide))
  clear o3 o4 hW HP
  go_wp2_with (first | (refine wpList_store_mid rfl 74 _ _ rfl w3.heap.size 0 (bv s).toArray rfl rfl (set_there HV.out HL.out) (size74a s HL.out) (all_oneCell_toArray (bv_one s)) ?_; change wpList _ _ _ _ _ ((w3.alloc (.cells Tryz.zeroCells74 74)).setCells w3.heap.size 0 (bv s)); rw [← HW.out]; clear HW))
  refine HC.out.mono ?_
  rintro e w5 ⟨v, rfl, hv, hfr, o5⟩
  have HZ := Lib.hid (And.intro hv (And.intro hfr o5))
  clear hv hfr o5
  go_wp2_with fail
  go_ret2
  exact ⟨v, rfl, HZ.out.1, fun g hg => Nat.le_trans HO.out.2.size (HZ.out.2.1 g hg), HO.out.2.trans HZ.out.2.2⟩
end
end Go.Proofs.YteoeaojebklfjaaGreatDoor
