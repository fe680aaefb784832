/- slices.Insert of one number, slices.SortFunc by the greater ones first: the contracts; ballot.Common. -/
import Derived.Test.YtochcilkpjhmiaaB3
import Derived.Deep.MidRow
namespace Go.Proofs.Ytochcilkpjhmiaa
open Go.RowKit
open Go.Sort (Holds putRow)

theorem shape_setCells (g : Nat) (T : TypeId) (fz : Nat × Nat) : ∀ (vs : List Value) (o : Nat) (w : World) (cur : Array Value), w.heap[g]? = some (.cells cur T fz) → ∃ cur', (w.setCells g o vs).heap[g]? = some (.cells cur' T fz) ∧ cur'.size = cur.size
  | [], _, _, cur, h => ⟨cur, h, rfl⟩
  | v :: r, o, w, cur, h => by
    have h1 : (w.setCell ⟨g, o, none⟩ v).heap[g]? = some (.cells (cur.setIfInBounds o v) T fz) := by
      simp [World.setCell, Array.getElem?_modify, h]
    obtain ⟨cur', h2, h3⟩ := shape_setCells g T fz r (o + 1) (w.setCell ⟨g, o, none⟩ v) _ h1
    exact ⟨cur', h2, by simpa using h3⟩

theorem owns_of_cells {w : World} {B g n cap : Nat} {cur : Array Value} {xs : List Value} (hg : w.heap[g]? = some (.cells cur 3 (0, 0))) (hs : cur.size = cap) (hn : n ≤ cap) (hm : cap ≤ maxLen) (hB : B ≤ g) (hx : xs.length = n)
    (hc : ∀ j v, xs[j]? = some v → w.cell? ⟨g, j, none⟩ = some v) : w.ownsRow B 3 1 (.slice (some ⟨g, 0, none⟩) n cap) n xs := by
  refine ⟨by omega, .inr ⟨g, cap, cur, rfl, hB, hg, hn, hm, by omega, ?_⟩⟩
  apply List.ext_getElem?
  intro j
  rw [List.getElem?_take]
  by_cases hj : j < n
  · rw [if_pos (by omega), Array.getElem?_toList]
    have h1 := hc j xs[j] (List.getElem?_eq_getElem (by omega))
    simp only [World.cell?, hg] at h1
    rw [List.getElem?_eq_getElem (by omega)]
    simpa using h1
  · rw [if_neg (by omega), List.getElem?_eq_none (by omega)]

theorem ins_get (cs : List Value) (i : Nat) (x : Value) (hi : i ≤ cs.length) (j : Nat) (v : Value) (h : (cs.take i ++ x :: cs.drop i)[j]? = some v) :
    (j < i ∧ cs[j]? = some v) ∨ (j = i ∧ v = x) ∨ (i < j ∧ (cs.drop i)[j - (i + 1)]? = some v) := by
  rcases Nat.lt_trichotomy j i with h' | h' | h'
  · left
    rw [List.getElem?_append_left (by simp; omega), List.getElem?_take, if_pos h'] at h
    exact ⟨h', h⟩
  · right; left
    subst h'
    rw [List.getElem?_append_right (by simp; omega)] at h
    simp [Nat.min_eq_left hi] at h
    exact ⟨rfl, h.symm⟩
  · right; right
    rw [List.getElem?_append_right (by simp; omega)] at h
    have e : j - (cs.take i).length = (j - (i + 1)) + 1 := by simp; omega
    rw [e, List.getElem?_cons_succ] at h
    exact ⟨h', h⟩

theorem zero_size (n : Nat) : (Builtin.zeroCells (Value.int .i64 0).cells n).size = n := by
  have : (Value.int .i64 0).cells = #[Value.int .i64 0] := rfl
  rw [this]; simp [Builtin.zeroCells]

theorem heap_new (W : World) (o : Obj) : (W.alloc o).heap[W.heap.size]? = some o := by
  show (W.heap.push o)[W.heap.size]? = _
  simp

theorem one_get (x : Value) (v : Value) (j : Nat) (h : [x][j]? = some v) : j = 0 ∧ v = x := by
  match j, h with
  | 0, h => simp at h; exact ⟨rfl, h.symm⟩

theorem ins_cells_a (W : World) (g i n : Nat) (cs : List Value) (x : Value) (hcl : cs.length = n) (hi : i ≤ n) (hsp : ∀ j, j < n + 1 → (W.cell? ⟨g, j, none⟩).isSome = true) (hlow : ∀ j v, j < i → cs[j]? = some v → W.cell? ⟨g, j, none⟩ = some v)
    (j : Nat) (v : Value) (h : (cs.take i ++ x :: cs.drop i)[j]? = some v) : ((W.setCells g (i + 1) (cs.drop i)).setCells g i [x]).cell? ⟨g, j, none⟩ = some v := by
  rcases ins_get cs i x (by omega) j v h with ⟨h1, h2⟩ | ⟨rfl, rfl⟩ | ⟨h1, h2⟩
  · rw [World.cell?_setCells_out _ _ _ _ _ (by intro _ _; left; exact h1), World.cell?_setCells_out _ _ _ _ _ (by intro _ _; left; show j < i + 1; omega)]
    exact hlow j v h1 h2
  · have := World.cell?_setCells_in g [v] j (W.setCells g (j + 1) (cs.drop j)) (fun k hk => by
      have : k = 0 := by simpa using hk
      subst this
      exact World.isSome_setCells _ _ _ _ _ (hsp j (by omega))) 0 (by simp)
    simpa using this
  · rw [World.cell?_setCells_out _ _ _ _ _ (by intro _ _; right; show i + 1 ≤ j; omega)]
    have hl : j - (i + 1) < (cs.drop i).length := (List.getElem?_eq_some_iff.1 h2).1
    have hl' := hl
    rw [List.length_drop] at hl'
    have := World.cell?_setCells_in g (cs.drop i) (i + 1) W (fun k hk => hsp _ (by rw [List.length_drop] at hk; omega)) (j - (i + 1)) hl
    rw [show i + 1 + (j - (i + 1)) = j from by omega] at this
    rw [this, ← h2, List.getElem?_eq_getElem hl]

theorem ins_cells_b (W : World) (g i n : Nat) (cs : List Value) (x : Value) (hcl : cs.length = n) (hi : i ≤ n) (hsp : ∀ j, j < n + 1 → (W.cell? ⟨g, j, none⟩).isSome = true) (hlow : ∀ j v, j < i → cs[j]? = some v → W.cell? ⟨g, j, none⟩ = some v)
    (j : Nat) (v : Value) (h : (cs.take i ++ x :: cs.drop i)[j]? = some v) : ((W.setCells g i [x]).setCells g (i + 1) (cs.drop i)).cell? ⟨g, j, none⟩ = some v := by
  rcases ins_get cs i x (by omega) j v h with ⟨h1, h2⟩ | ⟨rfl, rfl⟩ | ⟨h1, h2⟩
  · rw [World.cell?_setCells_out _ _ _ _ _ (by intro _ _; left; show j < i + 1; omega), World.cell?_setCells_out _ _ _ _ _ (by intro _ _; left; exact h1)]
    exact hlow j v h1 h2
  · rw [World.cell?_setCells_out _ _ _ _ _ (by intro _ _; left; show j < j + 1; omega)]
    have := World.cell?_setCells_in g [v] j W (fun k hk => by
      have : k = 0 := by simpa using hk
      subst this
      exact hsp j (by omega)) 0 (by simp)
    simpa using this
  · have hl : j - (i + 1) < (cs.drop i).length := (List.getElem?_eq_some_iff.1 h2).1
    have hl' := hl
    rw [List.length_drop] at hl'
    have := World.cell?_setCells_in g (cs.drop i) (i + 1) (W.setCells g i [x]) (fun k hk => World.isSome_setCells _ _ _ _ _ (hsp _ (by rw [List.length_drop] at hk; omega))) (j - (i + 1)) hl
    rw [show i + 1 + (j - (i + 1)) = j from by omega] at this
    rw [this, ← h2, List.getElem?_eq_getElem hl]

theorem setCells_drew' (g : Nat) : ∀ (vs : List Value) (o : Nat) (w : World), w.drew.setCells g o vs = (w.setCells g o vs).drew
  | [], _, _ => rfl
  | v :: r, o, w => setCells_drew' g r (o + 1) (w.setCell ⟨g, o, none⟩ v)

theorem below_setCells {B : Nat} {a : World} (g : Nat) (hB : B ≤ g) : ∀ (vs : List Value) (o : Nat) (w : World), Below B a w → Below B a (w.setCells g o vs)
  | [], _, _, h => h
  | v :: r, o, _, h => below_setCells g hB r (o + 1) _ (h.setCell (p := ⟨g, o, none⟩) hB v)

theorem ins_len (cs : List Value) (i : Nat) (x : Value) (h : i ≤ cs.length) : (cs.take i ++ x :: cs.drop i).length = cs.length + 1 := by simp; omega

theorem owns_new (W : World) (B n cap : Nat) (xs : List Value) (hx : xs.length = n) (hn : n ≤ cap) (hm : cap ≤ maxLen) (hB : B ≤ W.heap.size) :
    (W.alloc (.cells (xs.toArray ++ Builtin.zeroCells (Value.int .i64 0).cells (cap - n)) 3)).ownsRow B 3 1 (.slice (some ⟨W.heap.size, 0, none⟩) n cap) n xs := by
  refine owns_of_cells (cur := xs.toArray ++ Builtin.zeroCells (Value.int .i64 0).cells (cap - n)) (heap_new _ _) ?_ hn hm hB hx ?_
  · simp [zero_size]; omega
  · intro j v hj
    rw [World.cell?_alloc_new]
    have hjl : j < xs.length := (List.getElem?_eq_some_iff.1 hj).1
    rw [Array.getElem?_append_left (by simpa using hjl)]
    simpa using hj

theorem insert_any (B : Nat) (p : Option Addr) (n cap i vb : Nat) (zs : List Int) (x : Int) (w : World) (h : OI B w p n cap zs) (hi : i ≤ n) (hbig : (n + 1) * 8 ≤ 140737488355328) (hBw : B ≤ w.heap.size)
    (hv : w.heap[vb]? = some (.cells #[.int .i64 x] 3 (0, 0))) (hvb : ∀ a, p = some a → a.block ≠ vb) :
    Calls Try.prog 32 #[.slice p n cap, .int .i64 i, .slice (some ⟨vb, 0, none⟩) 1 1] w fun e w' => ∃ p' cap', e = .returned (.slice p' (n + 1) cap') ∧ OI B w' p' (n + 1) cap' (zs.take i ++ x :: zs.drop i) ∧ Below B w w' := by
  have hl := h.len
  have hvs : ∀ j v, [Value.int .i64 x][j]? = some v → w.cell? ⟨vb, 0 + j, none⟩ = some v := by
    intro j v hj
    match j, hj with
    | 0, hj => simp at hj; subst hj; simp [World.cell?, hv]
  have h1v : ∀ v ∈ [Value.int .i64 x], v.oneCell' = true := by intro v hv; simp at hv; subst hv; rfl
  have hsv : w.shape? vb = some (3, 1) := by simp [World.shape?, hv]
  have hfa : w.frozen? ⟨vb, 0, none⟩ = false := by simp [World.frozen?, hv]
  have hfe : w.frozen? ⟨vb, 1, none⟩ = false := by simp [World.frozen?, hv]
  have hmap : (zs.take i ++ x :: zs.drop i).map (Value.int .i64) = (zs.map (Value.int .i64)).take i ++ (Value.int .i64 x) :: (zs.map (Value.int .i64)).drop i := by
    simp [List.map_take, List.map_drop]
  have hcl : (zs.map (Value.int .i64)).length = n := by simpa using hl
  have h1c : ∀ v ∈ zs.map (Value.int .i64), v.oneCell' = true := by
    intro v hv; obtain ⟨y, _, rfl⟩ := List.mem_map.1 hv; rfl
  unfold OI
  rw [hmap]
  generalize hcs : zs.map (Value.int .i64) = cs at *
  cases p with
  | none =>
    obtain ⟨rfl, rfl, rfl⟩ := h.none
    obtain rfl : i = 0 := by omega
    simp at hcs; subst hcs
    refine (Any2.slices_Insert_int_end_grow Try.laysIns none 0 0 vb 0 1 1 [] [.int .i64 x] w (by omega) (by omega) (by omega) (by omega) rfl rfl (fun _ => rfl) (fun a ha => by cases ha) hvs h1v).mono ?_
    rintro e w' ⟨rfl, rfl⟩
    refine ⟨_, _, rfl, ?_, (Below.refl B w).drew.alloc hBw _⟩
    exact owns_new w.drew B (0 + 1) (grownCap w (0 + 1) 0 3) [.int .i64 x] rfl (grownCap_ge _ _ _ _) (grownCap_le_maxLen _ _ _ _ (by unfold maxLen; omega)) hBw
  | some a =>
    obtain ⟨g, rfl, hg1, hg2, hg3, hg4, hH⟩ := h.some
    have hne := hvb _ rfl
    simp only at hne
    have hcell : ∀ j v, cs[j]? = some v → w.cell? ⟨g, 0 + j, none⟩ = some v := by
      intro j v hj
      have hjl : j < cs.length := (List.getElem?_eq_some_iff.1 hj).1
      have h1 := (hH j (by simp; omega)).1
      rw [h1, ← hj, ← hcs, List.getElem?_map, List.getElem?_eq_getElem (by omega)]
      simp [getElem!_pos, show j < zs.length by omega]
    rcases h.2 with ⟨e, _⟩ | ⟨g', cap', cur, e, hgB, hblk, _, _, hcs1, _⟩
    · cases e
    injection e with e1 _ e3
    injection e1 with e1
    injection e1 with e1
    subst e1; subst e3
    have hspc : ∀ j, j < cap → (w.cell? ⟨g, j, none⟩).isSome = true := by
      intro j hj
      simp [World.cell?, hblk, show j < cur.size by omega]
    have hfz : ∀ j, w.frozen? ⟨g, j, none⟩ = false := by intro j; simp [World.frozen?, hblk]
    by_cases hroom : n + 1 ≤ cap
    · by_cases hin : i < n
      · refine (Any2.slices_Insert_int_shift Try.laysIns g 0 n cap i vb 0 1 1 cs [.int .i64 x] w hin (by omega) hroom (by unfold maxLen at hg4; omega) (Ne.symm hne) hcl rfl hcell (fun j hj => by rw [Nat.zero_add]; exact hspc j (by omega)) (fun j _ => hfz _) hvs h1c h1v 3 3 1 cap hsv (by simp [World.shape?, hblk]; omega) (by omega) hfa hfe).mono ?_
        rintro e w' ⟨rfl, rfl⟩
        rw [Nat.zero_add, Nat.zero_add]
        refine ⟨_, _, rfl, ?_, below_setCells g hg1 _ _ _ (below_setCells g hg1 _ _ _ (Below.refl B w).drew)⟩
        obtain ⟨cur1, hb1, hs1⟩ := shape_setCells g 3 (0, 0) (cs.drop i) (i + 1) w.drew cur hblk
        obtain ⟨cur2, hb2, hs2⟩ := shape_setCells g 3 (0, 0) [Value.int .i64 x] i _ cur1 hb1
        exact owns_of_cells hb2 (by omega) hroom hg4 hg1 (by rw [ins_len cs i _ (by omega)]; omega) (ins_cells_a w.drew g i n cs _ hcl hi (fun j hj => hspc j (by omega)) (fun j v hj h => by have := hcell j v h; rw [Nat.zero_add] at this; exact this))
      · obtain rfl : i = n := by omega
        refine (Any2.slices_Insert_int_end_room Try.laysIns g 0 i cap vb 0 1 1 [.int .i64 x] w (by omega) hroom (by unfold maxLen at hg4; omega) rfl (fun j hj => by rw [Nat.zero_add]; exact hspc _ (by omega)) (fun j _ => hfz _) hvs h1v).mono ?_
        rintro e w' ⟨rfl, rfl⟩
        rw [Nat.zero_add]
        refine ⟨_, _, rfl, ?_, below_setCells g hg1 _ _ _ (Below.refl B w)⟩
        obtain ⟨cur2, hb2, hs2⟩ := shape_setCells g 3 (0, 0) [Value.int .i64 x] i w cur hblk
        have e0 : cs.drop i = [] := List.drop_eq_nil_of_le (by omega)
        have hh := ins_cells_b w g i i cs (.int .i64 x) hcl hi (fun j hj => hspc j (by omega)) (fun j v hj h => by have := hcell j v h; rw [Nat.zero_add] at this; exact this)
        have e1 : (w.setCells g i [Value.int .i64 x]).setCells g (i + 1) (cs.drop i) = w.setCells g i [Value.int .i64 x] := by rw [e0]; rfl
        rw [e1] at hh
        exact owns_of_cells hb2 (by omega) hroom hg4 hg1 (by rw [ins_len cs i _ (by omega)]; omega) hh
    · by_cases hin : i < n
      · refine (Any2.slices_Insert_int_grow Try.laysIns g 0 n cap i vb 0 1 1 cs [.int .i64 x] w hin (by omega) hg3 (by omega) (by omega) hcl rfl hcell hvs h1c h1v).mono ?_
        rintro e w' ⟨he, hw⟩
        have he' : e = .returned (.slice (some ⟨w.heap.size, 0, none⟩) (n + 1) (grownCap w (n + 1) cap 3)) := he
        have hw' : w' = (((w.alloc (.cells ((cs.take i).toArray ++ Builtin.zeroCells (Value.int .i64 0).cells (n + 1 - i) ++ Builtin.zeroCells (Value.int .i64 0).cells (grownCap w (n + 1) cap 3 - (n + 1))) 3)).drew.setCells w.heap.size i [.int .i64 x]).drew).setCells w.heap.size (i + 1) (cs.drop i) := hw
        clear he hw
        subst he'; subst hw'
        have hge := grownCap_ge w (n + 1) cap 3
        have hgm := grownCap_le_maxLen w (n + 1) cap 3 (by unfold maxLen; omega)
        refine ⟨_, _, rfl, ?_, below_setCells _ hBw _ _ _ (below_setCells _ hBw _ _ _ (((Below.refl B w).alloc hBw _).drew)).drew⟩
        generalize hW : w.alloc (.cells ((cs.take i).toArray ++ Builtin.zeroCells (Value.int .i64 0).cells (n + 1 - i) ++ Builtin.zeroCells (Value.int .i64 0).cells (grownCap w (n + 1) cap 3 - (n + 1))) 3) = W
        have hWb : W.heap[w.heap.size]? = some (.cells ((cs.take i).toArray ++ Builtin.zeroCells (Value.int .i64 0).cells (n + 1 - i) ++ Builtin.zeroCells (Value.int .i64 0).cells (grownCap w (n + 1) cap 3 - (n + 1))) 3 (0, 0)) := by
          rw [← hW]; exact heap_new _ _
        have hsz : ((cs.take i).toArray ++ Builtin.zeroCells (Value.int .i64 0).cells (n + 1 - i) ++ Builtin.zeroCells (Value.int .i64 0).cells (grownCap w (n + 1) cap 3 - (n + 1))).size = grownCap w (n + 1) cap 3 := by
          simp only [Array.size_append, zero_size, List.size_toArray, List.length_take]; omega
        obtain ⟨cur1, hb1, hs1⟩ := shape_setCells w.heap.size 3 (0, 0) [Value.int .i64 x] i W.drew _ hWb
        obtain ⟨cur2, hb2, hs2⟩ := shape_setCells w.heap.size 3 (0, 0) (cs.drop i) (i + 1) _ cur1 hb1
        rw [setCells_drew']
        refine owns_of_cells (cur := cur2) hb2 (by omega) hge hgm hBw (by rw [ins_len cs i _ (by omega)]; omega) (ins_cells_b W.drew w.heap.size i n cs _ hcl hi (fun j hj => ?_) (fun j v hj h => ?_))
        · show (W.cell? _).isSome = true
          simp only [World.cell?, hWb]
          simp only [Option.isSome_none, Bool.false_eq_true, if_false]
          rw [Array.getElem?_eq_getElem (by rw [hsz]; omega)]; rfl
        · show W.cell? _ = _
          simp only [World.cell?, hWb]
          simp only [Option.isSome_none, Bool.false_eq_true, if_false]
          rw [Array.getElem?_append_left (by simp [zero_size]; omega), Array.getElem?_append_left (by simp; omega)]
          simp [hj, h]
      · obtain rfl : i = n := by omega
        refine (Any2.slices_Insert_int_end_grow Try.laysIns (some ⟨g, 0, none⟩) i cap vb 0 1 1 cs [.int .i64 x] w (by omega) hg3 (by omega) (by omega) hcl rfl (fun h => by cases h) (fun a ha j v hj => by injection ha with ha; subst ha; have := hcell j v hj; cases j <;> simpa [Addr.add] using this) hvs h1v).mono ?_
        rintro e w' ⟨rfl, rfl⟩
        refine ⟨_, _, rfl, ?_, (Below.refl B w).drew.alloc hBw _⟩
        have e0 : cs.take i ++ Value.int .i64 x :: cs.drop i = cs ++ [Value.int .i64 x] := by
          rw [List.drop_eq_nil_of_le (by omega), List.take_of_length_le (by omega)]
        rw [e0]
        exact owns_new w.drew B (i + 1) (grownCap w (i + 1) cap 3) (cs ++ [.int .i64 x]) (by simp; omega) (grownCap_ge _ _ _ _) (grownCap_le_maxLen _ _ _ _ (by unfold maxLen; omega)) hBw

end Go.Proofs.Ytochcilkpjhmiaa
