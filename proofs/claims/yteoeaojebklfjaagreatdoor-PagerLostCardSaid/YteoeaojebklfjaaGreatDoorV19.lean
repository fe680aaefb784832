/- QB in one text. -/
import Derived.Test.YteoeaojebklfjaaGreatDoorV18
import Derived.WalkMore
namespace Go.Proofs.YteoeaojebklfjaaGreatDoor
open Go.RowKit Go.Maps
set_option linter.unusedVariables false
set_option linter.unusedSimpArgs false
set_option maxRecDepth 20000

theorem CellsR.puts {X : Nat} : ∀ (vs : List Value) (off : Nat) (w : World) (us : List Value), CellsR w X us → off + vs.length ≤ us.length → CellsR (w.setCells X off vs) X (us.take off ++ vs ++ us.drop (off + vs.length))
  | [], off, w, us, h, _ => by
    rw [List.append_nil, List.length_nil, Nat.add_zero, List.take_append_drop]
    exact h
  | v :: vs, off, w, us, h, hl => by
    have h1 := CellsR.puts vs (off + 1) (w.setCell ⟨X, off, none⟩ v) (us.set off v) (h.set (by simp only [List.length_cons] at hl; omega) v) (by rw [List.length_set]; simp only [List.length_cons] at hl; omega)
    have hlt : off < us.length := by simp only [List.length_cons] at hl; omega
    have e : (us.set off v).take (off + 1) ++ vs ++ (us.set off v).drop (off + 1 + vs.length) = us.take off ++ v :: vs ++ us.drop (off + (v :: vs).length) := by
      rw [List.take_add_one, List.take_set_of_le (Nat.le_refl _), List.getElem?_set_self hlt, List.drop_set_of_lt (by omega), List.length_cons, show off + 1 + vs.length = off + (vs.length + 1) by omega]
      simp
    rw [e] at h1
    exact h1
theorem CellsR.there {w : World} {X : Nat} {us : List Value} (h : CellsR w X us) {off k : Nat} (hl : off + k ≤ us.length) : w.there X off k := by
  intro j hj
  obtain ⟨u, hu⟩ : ∃ u, us[off + j]? = some u := ⟨us[off + j]'(by omega), List.getElem?_eq_getElem _⟩
  exact ⟨by rw [h.is _ _ hu]; rfl, h.thaw _⟩
theorem Meta.vs_len (m : Meta) : m.vs.length = 4 := rfl
theorem Meta.vs_one (m : Meta) : ∀ u ∈ m.vs, u.oneCell' = true := by
  intro u hu
  simp only [Meta.vs, List.mem_cons, List.not_mem_nil, or_false] at hu
  rcases hu with rfl | rfl | rfl | rfl <;> rfl
theorem size67 (m : Meta) : (Tryz.prog.info? 67).map (·.size) = some m.vs.length := by kernel_rfl
theorem under67 : Tryz.prog.underlying 67 = Tryz.prog.underlying 67 := rfl
theorem get_zero {p : Pg} {d : Dk} {n : Nat} (h : p.first + n < d.lasts.length) : (p.get d n).2 = 0 := by
  unfold Pg.get
  split
  · rfl
  · split
    · rfl
    · rw [if_pos h]
theorem metaOf_fits {s : Sec} (h : s.length = 512) : (metaOf s).Fits := by
  have h1 : numB (s.take 4) < 4294967296 := numB_lt4 (by rw [List.length_take]; omega)
  have h2 : numB ((s.drop 4).take 4) < 4294967296 := numB_lt4 (by rw [List.length_take, List.length_drop]; omega)
  have h3 : numB ((s.drop 8).take 4) < 4294967296 := numB_lt4 (by rw [List.length_take, List.length_drop]; omega)
  have h4 : numB ((s.drop 12).take 4) < 4294967296 := numB_lt4 (by rw [List.length_take, List.length_drop]; omega)
  unfold metaOf
  constructor <;> simp only <;> omega
theorem Pg.Ok.aborting {p : Pg} {d : Dk} (h : p.Ok) (hd : d.Ok) {I : List (Nat × Bool)} (hI : I.length ≤ 100000) : (p.aborting d I).Ok := by
  have hc : p.cleared.Ok := ⟨h.first, h.pages, h.dirty, fun q hq => by simp [Pg.cleared] at hq, h.dl, Nat.zero_le _, Nat.zero_le _, Nat.zero_le _, h.m, h.kept⟩
  have hf := metaOf_fits (get_len hc hd 0)
  exact ⟨h.first, h.pages, h.dirty, fun q hq => by simp [Pg.aborting, Pg.cleared] at hq, h.dl, Nat.zero_le _, hI, Nat.zero_le _, hf, hf⟩
theorem Pg.Ok.cleared {p : Pg} (h : p.Ok) : p.cleared.Ok := ⟨h.first, h.pages, h.dirty, fun q hq => by simp [Pg.cleared] at hq, h.dl, Nat.zero_le _, Nat.zero_le _, Nat.zero_le _, h.m, h.kept⟩
structure AbLoop (W wr : World) (L : Lo) (lg : Value) (p : Pg) (d : Dk) (g n : Nat) (I : List (Nat × Bool)) : Prop where
  at_ : PgAt wr L lg (p.aborting d I)
  only : Only (fun k => k = L.Mi) W wr
  keys : ∀ q ∈ I, q.1 < p.pages
  len : g + I.length = p.pages + 1
  is : p.cleared.chase d g n I = p.cleared.chase d (p.pages + 1) (metaOf (p.cleared.get d 0).1).head []
  small : n < 4294967296
  marks : ∀ q ∈ I, q.2 = true
theorem AbLoop.pos {W wr : World} {L : Lo} {lg : Value} {p : Pg} {d : Dk} {g n : Nat} {I : List (Nat × Bool)} (h : AbLoop W wr L lg p d g n I) : 1 ≤ g ∧ I.length ≤ p.pages := by
  have h1 : I.length ≤ p.pages := rise_le h.at_.idle.rise h.keys
  have := h.len
  omega
theorem AbLoop.stop {W wr : World} {L : Lo} {lg : Value} {p : Pg} {d : Dk} {g n : Nat} {I : List (Nat × Bool)} (h : AbLoop W wr L lg p d g n I) (hs : n = 0 ∨ p.pages ≤ n ∨ (kLook I n).getD false = true) : PgAt wr L lg (p.abort d) := by
  obtain ⟨k, rfl⟩ : ∃ k, g = k + 1 := ⟨g - 1, by have := h.pos; omega⟩
  have e := h.is
  have e1 : p.cleared.chase d (k + 1) n I = I := by
    unfold Pg.chase
    exact if_pos hs
  rw [e1] at e
  unfold Pg.abort
  have := h.at_
  rw [e] at this
  exact this
theorem AbLoop.next {W wr wc : World} {L : Lo} {lg : Value} {p : Pg} {d : Dk} {g n m : Nat} {I : List (Nat × Bool)} (h : AbLoop W wr L lg p d g n I) (h1 : n ≠ 0) (h2 : n < p.pages) (h3 : (kLook I n).getD false = false) (hp : PgAt wc L lg (p.aborting d (ins n true I))) (o : Only (fun k => k = L.Mi) wr wc) (hm : m = numB ((p.cleared.get d n).1.take 4)) (hs : m < 4294967296) : AbLoop W wc L lg p d (g - 1) m (ins n true I) := by
  obtain ⟨k, rfl⟩ : ∃ k, g = k + 1 := ⟨g - 1, by have := h.pos; omega⟩
  have h4 : kLook I n = none := by
    cases hx : kLook I n with
    | none => rfl
    | some b =>
      have := h.marks _ (look_mem hx)
      rw [hx] at h3
      simp only at this h3
      rw [this] at h3
      cases h3
  refine ⟨hp, h.only.trans o, fun q hq => ?_, ?_, ?_, hs, fun q hq => by
    rcases mem_ins hq with rfl | hq
    · rfl
    · exact h.marks q hq⟩
  · rcases mem_ins hq with rfl | hq
    · exact h2
    · exact h.keys q hq
  · rw [len_ins_new n true I h4]
    have := h.len
    omega
  · have e := h.is
    rw [hm, ← e]
    have e1 : p.cleared.chase d (k + 1) n I = p.cleared.chase d k (numB ((p.cleared.get d n).1.take 4)) (ins n true I) := by
      conv => lhs; unfold Pg.chase
      refine if_neg ?_
      rintro (e | e | e)
      · exact h1 e
      · have e' : p.pages ≤ n := e
        omega
      · rw [h3] at e; cases e
    rw [e1]
    rfl
theorem next_num {W w' : World} {g : Nat} {s : Sec} (h : Vec W 1 (.slice (some ⟨g, 0, none⟩) 512 512) 512 (bv s)) (hs : s.length = 512) (o : Only None' W w') : Calls Tryz.prog 39 #[.slice (some ⟨g, 0, none⟩) 4 512] w' fun e w'' => e = .returned (.int .i64 (numB (s.take 4) : Int)) ∧ w' = w'' := by
  have hl4 : (s.take 4).length = 4 := by rw [List.length_take, hs]; decide
  have := number_any (w := w') (g := g) (off := 0) (cap := 512) (s := s.take 4) (fun j u hu => by
    have hj : j < 4 := by
      have := (List.getElem?_eq_some_iff.1 hu).1
      rwa [bv_length, hl4] at this
    refine (h.only o fun _ _ e => e).range j u ?_
    unfold bv at hu ⊢
    rwa [List.map_take, List.getElem?_take_of_lt hj] at hu) (by omega) (by omega) (by have := numB_lt4 hl4; omega)
  rw [hl4] at this
  exact this
theorem slice74_four (w : World) (S : Nat) : (Instr.sliceAt 74 (.pointer (some ⟨S, 0, none⟩)) none (some (.int .i64 4)) none).run Tryz.prog w = .ok (.slice (some ⟨S, 0, none⟩) 4 512) w := by
  have hs : (Tryz.prog.info? 5).map (·.size) = some 1 := info5s
  go_simp
section
variable {w : World} {L : Lo} {lg : Value} {p : Pg} {F : Nat → Prop} {d : Dk}
def Lo.anew (L : Lo) (z : Nat) : Lo := ⟨L.P, L.D, L.Md, z, z + 1 + 1, z + 1⟩
theorem cleared_at (h : PgAt w L lg p) {w1 : World} (hw1 : w1 = (((((w.alloc (.map #[] 0)).alloc (.map #[] 0)).alloc (.map #[] 0)).setCell ⟨L.P, 5, none⟩ (.map (some w.heap.size))).setCell ⟨L.P, 15, none⟩ (.map (some (w.heap.size + 1)))).setCell ⟨L.P, 14, none⟩ (.map (some (w.heap.size + 1 + 1)))) : PgAt w1 (L.anew w.heap.size) lg p.cleared ∧ Only (fun k => k = L.P) w w1 := by
  have o : Only None' w (((w.alloc (.map #[] 0)).alloc (.map #[] 0)).alloc (.map #[] 0)) := (((Only.refl _ _).alloc _).alloc _).alloc _
  have m0 := Mp.made w pgE
  have m1 := Mp.made (w.alloc (.map #[] 0)) mkE
  have m2 := Mp.made ((w.alloc (.map #[] 0)).alloc (.map #[] 0)) mkE
  have e1 : (w.alloc (.map #[] 0)).heap.size = w.heap.size + 1 := by simp
  have e2 : ((w.alloc (.map #[] 0)).alloc (.map #[] 0)).heap.size = w.heap.size + 1 + 1 := by simp
  rw [e1] at m1
  rw [e2] at m2
  have hlt := h.cells.lt
  have hlm := h.dirty.lt
  have oP : Only (fun k => k = L.P) (((w.alloc (.map #[] 0)).alloc (.map #[] 0)).alloc (.map #[] 0)) w1 := by
    rw [hw1]
    exact (((Only.refl (fun k => k = L.P) _).setCell (p := ⟨L.P, 5, none⟩) rfl _).setCell (p := ⟨L.P, 15, none⟩) rfl _).setCell (p := ⟨L.P, 14, none⟩) rfl _
  have o1 : Only (fun k => k = L.P) w w1 := (o.mono fun _ _ e => e.elim).trans oP
  refine ⟨⟨?_, ?_, ?_, ?_, ?_, ?_⟩, o1⟩
  · have hc := h.cells.kept o fun e => e
    have := ((hc.set (i := 5) (by simp [Pg.vs]) (.map (some w.heap.size))).set (i := 15) (by simp [Pg.vs]) (.map (some (w.heap.size + 1)))).set (i := 14) (by simp [Pg.vs]) (.map (some (w.heap.size + 1 + 1)))
    rw [← hw1] at this
    exact this
  · exact h.dirty.only o1 fun e => h.ok.pd e.symm
  · exact ((m0.new ((Only.refl None' _).alloc _)).new ((Only.refl None' _).alloc _)).only oP fun e => by omega
  · exact m2.only oP fun e => by omega
  · exact (m1.new ((Only.refl None' _).alloc _)).only oP fun e => by omega
  · have := h.ok.pd
    constructor <;> simp only [Lo.anew, ne_eq] <;> omega
theorem setMeta2 {lg : Value} {p q : Pg} (h : PgAt w L lg p) {m : Meta} {w1 : World} (hw1 : w1 = (w.setCells L.P 10 m.vs).setCells L.P 6 m.vs) (hq : q = { p with kept := m, m := m }) : PgAt w1 L lg q ∧ Only (fun k => k = L.P) w w1 := by
  have o1 : Only (fun k => k = L.P) w w1 := by rw [hw1]; exact ((Only.refl (fun k => k = L.P) _).setCells rfl _ _).setCells rfl _ _
  refine ⟨h.setMeta ?_ o1 (by rw [hq]) (by rw [hq]) (by rw [hq]) (by rw [hq]), o1⟩
  have := (h.cells.puts m.vs 10 w _ (by simp [Pg.vs, Meta.vs])).puts m.vs 6 _ _ (by simp [Pg.vs, Meta.vs])
  rw [← hw1] at this
  rw [hq]
  exact this
set_option maxHeartbeats 4000000 in
theorem abort_any (h : PgAt w L lg p) (hok : p.Ok) (hd : DiskAt w L.D F d) (hdd : d.dead = false) (hw : d.waits.length ≤ 1000000) (hlen : p.first + p.pages ≤ d.lasts.length) (hp : 1 ≤ p.pages) (hPF : ¬ F L.P) :
    Calls Tryz.prog 30 #[.pointer (some ⟨L.P, 0, none⟩)] w fun e w' => e = .returned (.int .i64 0) ∧ PgAt w' (L.anew w.heap.size) lg (p.abort d) ∧ Only (fun k => k = L.P) w w' := by
  have hmm := @run_makeMap Tryz.prog
  have H := Lib.hid h
  have hc3 := h.cells.kept ((((Only.refl None' w).alloc (.map #[] 0)).alloc (.map #[] 0)).alloc (.map #[] 0)) fun e => e
  have hc4 := hc3.set (i := 5) (by simp [Pg.vs]) (.map (some w.heap.size))
  have hc5 := hc4.set (i := 15) (by simp [Pg.vs]) (.map (some (w.heap.size + 1)))
  have f5 := hc3.thaw 5
  have f15 := hc4.thaw 15
  have f14 := hc5.thaw 14
  have c5 := hc3.is 5 _ rfl
  have c15 := hc4.is 15 _ rfl
  have c14 := hc5.is 14 _ rfl
  clear hc3 hc4 hc5
  obtain ⟨W1, hW1⟩ : ∃ W1, W1 = (((((w.alloc (.map #[] 0)).alloc (.map #[] 0)).alloc (.map #[] 0)).setCell ⟨L.P, 5, none⟩ (.map (some w.heap.size))).setCell ⟨L.P, 15, none⟩ (.map (some (w.heap.size + 1)))).setCell ⟨L.P, 14, none⟩ (.map (some (w.heap.size + 1 + 1))) := ⟨_, rfl⟩
  obtain ⟨h1, o1⟩ := cleared_at h hW1
  have H1 := Lib.hid (And.intro h1 o1)
  have hd1 : DiskAt W1 L.D F d := hd.only o1 fun k hk e => hPF (e ▸ hk)
  have HD1 := Lib.hid hd1
  have H0F : Hid (∀ k, F k → k < w.heap.size) := Lib.hid fun k hk => hd.lt hk
  have HOK := Lib.hid (And.intro hok (And.intro hdd (And.intro hw (And.intro hlen (And.intro hp hPF)))))
  obtain ⟨z, hz⟩ : ∃ z, z = w.heap.size := ⟨_, rfl⟩
  obtain ⟨A, hA⟩ : ∃ A, A = L.anew z := ⟨_, rfl⟩
  rw [← hz, ← hA] at H1
  rw [← hz, ← hA]
  have HA : Hid (A.P = L.P ∧ A.D = L.D ∧ A.Mi = w.heap.size + 1 + 1) := Lib.hid (by rw [hA, hz]; exact ⟨rfl, rfl, rfl⟩)
  have HG0 := get_any h1 hok.cleared (n := 0) hd1 hdd hw (by decide)
  rw [get_zero (by show p.first + 0 < _; omega)] at HG0
  have HL := Lib.hid (get_len hok.cleared hd.ok 0)
  obtain ⟨s, hs⟩ : ∃ s, s = (p.cleared.get d 0).1 := ⟨_, rfl⟩
  rw [← hs] at HG0 HL
  have HG := Lib.hid HG0
  clear HG0
  have HSE := Lib.hid hs
  have HW1 := Lib.hid hW1
  clear h hok hd hdd hw hlen hp hPF hW1 h1 o1 hd1 hz hA hs
  go_enter Tryz.func30, Tryz.ntmps30
  go_wp2_with fail
  go_step3
  go_wp2_with fail
  rw [← HW1.out]
  clear HW1 f5 f15 f14 c5 c15 c14
  refine HG.out.mono ?_
  rintro e w3 ⟨rfl, o3⟩
  have HV := Lib.hid (page_zero w3)
  have o4 := ((o3.alloc (.cells Tryz.zeroCells74 74)).trans2 ((Only.refl (fun k => k = w3.heap.size) _).setCells rfl 0 (bv s)) fun k hk e => by have := o3.size; omega)
  have HP := page_stored HV.out HL.out
  obtain ⟨W, hW⟩ : ∃ W, W = (w3.alloc (.cells Tryz.zeroCells74 74)).setCells w3.heap.size 0 (bv s) := ⟨_, rfl⟩
  rw [← hW] at o4 HP
  have HW := Lib.hid hW
  have HO4 := Lib.hid (And.intro HP o4)
  have HR4 := Lib.hid HP.range
  clear o3 o4 HP hW
  go_upto_region 7 with (first | (refine wpList_store_mid rfl 74 _ _ rfl w3.heap.size 0 (bv s).toArray rfl rfl (set_there HV.out HL.out) (size74a s HL.out) (all_oneCell_toArray (bv_one s)) ?_; change wpList _ _ _ _ _ ((w3.alloc (.cells Tryz.zeroCells74 74)).setCells w3.heap.size 0 (bv s)); rw [← HW.out]; clear HW))
  obtain ⟨m, hm⟩ : ∃ m, m = metaOf s := ⟨_, rfl⟩
  have HOF := Lib.hid (of_any HL.out W hm.symm)
  have HM := Lib.hid hm
  clear hm
  go_wp2_with (refine wpList_load_mid rfl 74 _ rfl w3.heap.size 0 rfl (bv s) _ HR4.out Tryz.underlying74 rfl (size74 s HL.out) ?_)
  refine HOF.out.mono ?_
  rintro e w5 ⟨rfl, o5⟩
  have hA5 : PgAt w5 A lg p.cleared := (H1.out.1.new HO4.out.2).new o5
  obtain ⟨W6, hW6⟩ : ∃ W6, W6 = w5.setCells A.P 10 m.vs := ⟨_, rfl⟩
  obtain ⟨W7, hW7⟩ : ∃ W7, W7 = W6.setCells A.P 6 m.vs := ⟨_, rfl⟩
  obtain ⟨h7, o7⟩ := setMeta2 (m := m) (q := p.aborting d []) hA5 (w1 := W7) (by rw [hW7, hW6]) (by unfold Pg.aborting; rw [← HSE.out, ← HM.out]; rfl)
  have c6 := (hA5.cells.puts m.vs 10 w5 _ (by simp [Pg.vs, Meta.vs]))
  rw [← hW6] at c6
  have HC6 : Hid (W6.rangeAt A.P 10 m.vs ∧ W6.there A.P 6 m.vs.length) := Lib.hid ⟨fun j u hu => c6.is (10 + j) u (by
    have hj : j < 4 := by
      have := (List.getElem?_eq_some_iff.1 hu).1
      simpa [Meta.vs] using this
    have e : (List.take 10 (Pg.vs A lg p.cleared) ++ m.vs ++ List.drop (10 + m.vs.length) (Pg.vs A lg p.cleared)) = (List.take 10 (Pg.vs A lg p.cleared)) ++ (m.vs ++ List.drop (10 + m.vs.length) (Pg.vs A lg p.cleared)) := List.append_assoc ..
    rw [e, List.getElem?_append_right (by simp [Pg.vs]), List.getElem?_append_left (by simp [Pg.vs, Meta.vs]; omega)]
    simpa [Pg.vs] using hu), c6.there (by simp [Pg.vs, Meta.vs])⟩
  have HC5 := Lib.hid (hA5.cells.there (off := 10) (k := m.vs.length) (by simp [Pg.vs, Meta.vs]))
  have HW6 := Lib.hid hW6
  have HW7 := Lib.hid hW7
  have H7 := Lib.hid (And.intro h7 ((o5.mono (S' := fun k => k = A.P) fun _ _ e => e.elim).trans o7))
  have c12 : W7.cell? ⟨L.P, 12, none⟩ = some (.int .i64 (m.head : Int)) := by
    have := h7.cells.is 12 _ rfl
    rw [HA.out.1] at this
    rw [this, HM.out, HSE.out]
    rfl
  rw [HA.out.1] at HC6 HC5 HW6 HW7
  clear o5 hA5 hW6 hW7 h7 o7 c6
  have hz0 : (Tryz.prog.info? 67).map (·.size) = some m.vs.toArray.size := size67 m
  have hu67 := Tryz.underlying67
  go_upto_region 9 with (first | (refine wpList_store_mid rfl 67 _ _ rfl L.P 10 m.vs.toArray rfl rfl HC5.out hz0 (all_oneCell_toArray m.vs_one) ?_; change wpList _ _ _ _ _ (w5.setCells L.P 10 m.vs); rw [← HW6.out]; clear HW6) | (refine wpList_load_mid rfl 67 _ rfl L.P 10 rfl m.vs _ HC6.out.1 hu67 rfl (size67 m) ?_) | (refine wpList_store_mid rfl 67 _ _ rfl L.P 6 m.vs.toArray rfl rfl HC6.out.2 hz0 (all_oneCell_toArray m.vs_one) ?_; change wpList _ _ _ _ _ (W6.setCells L.P 6 m.vs); rw [← HW7.out]; clear HW7))
  go_step3
  go_wp2_with fail
  have HZ : Hid (Only (fun k => k = L.P) w W7) := Lib.hid (by
    have h1 := (H1.out.2.trans2 HO4.out.2 fun k _ e => e.elim).trans2 H7.out.2 fun k _ e => (by rw [e]; exact HA.out.1)
    exact h1)
  have HFL : Hid (∀ k, F k → k < w.heap.size) := Lib.hid fun k hk => H0F.out k hk
  have HD7 : Hid (DiskAt W7 L.D F d) := Lib.hid ((HD1.out.new HO4.out.2).only H7.out.2 fun k hk e => HOK.out.2.2.2.2.2 (by rw [← HA.out.1, ← e]; exact hk))
  have HSM := Lib.hid (show m.head < 4294967296 by rw [HM.out]; exact numB_lt4 (by rw [List.length_take, List.length_drop, HL.out]; decide))
  clear HC6 HC5 c12 hz0 hu67 HO4 HR4 HOF HV HG
  go_loopg [5] (p.pages + 1) (fun gg t wr => ∃ (n : Nat) (I : List (Nat × Bool)), t = .int .i64 (n : Int) ∧ Hid (AbLoop W7 wr A lg p d gg n I))
  case atStart => exact ⟨m.head, [], rfl, Lib.hid ⟨H7.out.1, Only.refl _ _, fun q hq => by simp at hq, rfl, by rw [HM.out, HSE.out], HSM.out, fun q hq => by simp at hq⟩⟩
  case round =>
    obtain ⟨n, I, rfl, HLP⟩ := hrel
    have n0 : (0 : Int) ≤ (n : Int) := by omega
    have hn1 := Lib.hid HLP.out.small
    have hcell := HLP.out.at_.cells
    rw [HA.out.1] at hcell
    by_cases h0 : n = 0
    · have HE := Lib.hid (HLP.out.stop (.inl h0))
      subst h0
      clear n0 hcell
      go_wp2_with fail
      try rw [Exit.noGoto_ret]
      go_ret
      exact ⟨rfl, HE.out, HZ.out.trans2 HLP.out.only fun k hk e => by have := HA.out.2.2; omega⟩
    · have e0 : ((n : Int) == 0) = false := by simp; omega
      have e1 : (n == 0) = false := by simpa using h0
      have c3 := hcell.is 3 _ rfl
      change wr.cell? ⟨L.P, 3, none⟩ = some (.int .i64 (p.pages : Int)) at c3
      by_cases h2 : p.pages ≤ n
      · have HE := Lib.hid (HLP.out.stop (.inr (.inl h2)))
        have e2 : (p.pages : Int) ≤ (n : Int) := by omega
        obtain ⟨pp, hpp⟩ : ∃ pp, pp = p.pages := ⟨_, rfl⟩
        rw [← hpp] at c3 e2
        clear h0 h2 hcell hpp
        go_wp2_with fail
        try rw [Exit.noGoto_ret]
        go_ret
        exact ⟨rfl, HE.out, HZ.out.trans2 HLP.out.only fun k hk e => by have := HA.out.2.2; omega⟩
      · have c14 := hcell.is 14 _ rfl
        change wr.cell? ⟨L.P, 14, none⟩ = some (.map (some A.Mi)) at c14
        have hl := HLP.out.at_.idle.lookup under70 zeroB (n := n) (by have := hn1.out; omega)
        change (Instr.lookup 70 (.map (some A.Mi)) (.int .i64 (n : Int)) false).run Tryz.prog wr = .ok (.bool ((kLook I n).getD false)) wr at hl
        have e4 : (n : Int) < (p.pages : Int) := by omega
        have HI2 := Lib.hid (show n < p.pages by omega)
        have H0 := Lib.hid h0
        cases hb : (kLook I n).getD false with
        | true =>
          have HE := Lib.hid (HLP.out.stop (.inr (.inr hb)))
          rw [hb] at hl
          obtain ⟨pp, hpp⟩ : ∃ pp, pp = p.pages := ⟨_, rfl⟩
          rw [← hpp] at c3 e4
          clear h0 h2 hcell hpp hb
          go_wp2_with fail
          try rw [Exit.noGoto_ret]
          go_ret
          exact ⟨rfl, HE.out, HZ.out.trans2 HLP.out.only fun k hk e => by have := HA.out.2.2; omega⟩
        | false =>
          rw [hb] at hl
          have HB := Lib.hid hb
          have HIM := Lib.hid HLP.out.at_.idle
          change Hid (Mp mkE wr A.Mi I) at HIM
          have HPO := Lib.hid HLP.out.pos
          obtain ⟨pp, hpp⟩ : ∃ pp, pp = p.pages := ⟨_, rfl⟩
          rw [← hpp] at c3 e4
          clear h0 h2 hcell hpp hb
          go_upto_region 13 with (refine wpList_update70 rfl _ _ _ rfl A.Mi n I true rfl rfl rfl HIM.out (by have := HPO.out.2; have := HOK.out.1.pages; omega) (by have := hn1.out; omega) ?_; intro w7 hm7 o7; have H8 := Lib.hid (And.intro hm7 o7); clear hm7 o7 c14 c3 hl)
          have h9 : PgAt w7 A lg (p.aborting d (ins n true I)) := HLP.out.at_.setIdle H8.out.1 H8.out.2
          have HD9 : DiskAt w7 L.D F d := (HD7.out.only HLP.out.only fun k hk e => by have := HFL.out k hk; have := HA.out.2.2; omega).only H8.out.2 fun k hk e => by have := HFL.out k hk; have := HA.out.2.2; omega
          rw [← HA.out.2.1] at HD9
          have hln : (ins n true I).length ≤ 100000 := by
            have h3 := HI2.out
            have h4 : (ins n true I).length ≤ p.pages := rise_le h9.idle.rise (m := p.pages) (fun q hq => by
              rcases mem_ins hq with rfl | hq
              · exact h3
              · exact HLP.out.keys q hq)
            exact Nat.le_trans h4 HOK.out.1.pages
          have hg9 := get_any h9 (HOK.out.1.aborting HD7.out.ok hln) HD9 HOK.out.2.1 HOK.out.2.2.1 (n := n) (by have := hn1.out; omega)
          rw [get_zero (by show p.first + n < _; have := HI2.out; have := HOK.out.2.2.2.1; omega), HA.out.1] at hg9
          change Calls Tryz.prog 38 #[.pointer (some ⟨L.P, 0, none⟩), .int .i64 (n : Int)] w7 (fun e w' => e = .returned (.tuple #[.agg (bv (p.cleared.get d n).1).toArray, .int .i64 0]) ∧ Only None' w7 w') at hg9
          have HL9 := Lib.hid (get_len HOK.out.1.cleared HD7.out.ok n)
          obtain ⟨sn, hsn⟩ : ∃ sn, sn = (p.cleared.get d n).1 := ⟨_, rfl⟩
          rw [← hsn] at hg9 HL9
          have HSN := Lib.hid hsn
          have HG9 := Lib.hid hg9
          have H9 := Lib.hid h9
          clear h9 HD9 hln hg9 hsn
          go_wp2_with fail
          refine HG9.out.mono ?_
          rintro e w8 ⟨rfl, o8⟩
          have HV := Lib.hid (page_zero w8)
          have o9 := ((o8.alloc (.cells Tryz.zeroCells74 74)).trans2 ((Only.refl (fun k => k = w8.heap.size) _).setCells rfl 0 (bv sn)) fun k hk e => by have := o8.size; omega)
          have HP := page_stored HV.out HL9.out
          obtain ⟨Wn, hWn⟩ : ∃ Wn, Wn = (w8.alloc (.cells Tryz.zeroCells74 74)).setCells w8.heap.size 0 (bv sn) := ⟨_, rfl⟩
          rw [← hWn] at o9 HP
          have HWn := Lib.hid hWn
          have HO9 := Lib.hid (And.intro HP o9)
          have hsl := slice74_four
          have HNU := Lib.hid (next_num HP HL9.out (Only.refl None' Wn))
          obtain ⟨nx, hnx⟩ : ∃ nx, nx = numB (sn.take 4) := ⟨_, rfl⟩
          rw [← hnx] at HNU
          have HNX := Lib.hid hnx
          clear o8 o9 HP hWn hnx
          go_wp2_with (first | (refine wpList_store_mid rfl 74 _ _ rfl w8.heap.size 0 (bv sn).toArray rfl rfl (set_there HV.out HL9.out) (size74a sn HL9.out) (all_oneCell_toArray (bv_one sn)) ?_; change wpList _ _ _ _ _ ((w8.alloc (.cells Tryz.zeroCells74 74)).setCells w8.heap.size 0 (bv sn)); rw [← HWn.out]; clear HWn))
          refine HNU.out.mono ?_
          rintro e w10 ⟨rfl, rfl⟩
          go_wp2_with fail
          go_roundg (gk - 1)
          case rel =>
            exact ⟨nx, ins n true I, rfl, Lib.hid (HLP.out.next H0.out HI2.out HB.out (H9.out.new HO9.out.2) (H8.out.2.quiet HO9.out.2) (by rw [HNX.out, HSN.out]) (by rw [HNX.out]; exact numB_lt4 (by rw [List.length_take, HL9.out]; decide)))⟩
          case measure => have := HPO.out; omega
end
end Go.Proofs.YteoeaojebklfjaaGreatDoor
