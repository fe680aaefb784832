/- O5 Q1 Q2 O6 in one text. -/
import Derived.Test.YteoeaojebklfjaaGreatDoorV13
import Derived.Maps.Own
import Derived.Maps.OwnSet
import Derived.Maps.Views
import Derived.Maps.OwnOps
import Derived.Lib.SlKeysI
import Derived.WideKeyEntry
import Derived.Test.YteoeaojebklfjaaGreatDoorShelf
import Derived.Lib.LazyBuf
namespace Go.Proofs.YteoeaojebklfjaaGreatDoor
open Go.RowKit Go.Maps
set_option linter.unusedVariables false
set_option maxRecDepth 20000

def Meta.v (m : Meta) : Value := .agg #[.int .i64 (m.root : Int), .int .i64 (m.used : Int), .int .i64 (m.head : Int), .int .i64 m.free]
theorem numB_lt4 {l : List UInt8} (h : l.length = 4) : numB l < 4294967296 := by
  have := numB_lt l
  rw [h] at this
  exact this
theorem num98_any {w : World} {B : Nat} {s : Sec} (h : Vec w 1 (.slice (some ⟨B, 0, none⟩) 512 512) 512 (bv s)) (hs : s.length = 512) {k : Nat} (hk : k < 4) {n : Nat} (hn : numB ((s.drop (4 * k)).take 4) = n) :
    Calls Tryz.prog 98 #[.int .i64 (k : Int), .pointer (some ⟨B, 0, none⟩)] w fun e w' => e = .returned (.int .i64 (n : Int)) ∧ w = w' := by
  subst hn
  obtain ⟨l, hl⟩ : ∃ l, l = (s.drop (4 * k)).take 4 := ⟨_, rfl⟩
  have hl4 : l.length = 4 := by rw [hl, List.length_take, List.length_drop]; omega
  have hcell : ∀ j u, (bv l)[j]? = some u → w.cell? ⟨B, 4 * k + j, none⟩ = some u := by
    intro j u hu
    have hj : j < 4 := by
      have := (List.getElem?_eq_some_iff.1 hu).1
      rwa [bv_length, hl4] at this
    have := h.range (4 * k + j) u (by
      rw [hl] at hu
      unfold bv at hu ⊢
      rw [List.map_take, List.map_drop, List.getElem?_take_of_lt hj, List.getElem?_drop] at hu
      exact hu)
    rwa [Nat.zero_add] at this
  have hnum := number_any (cap := 512 - 4 * k) hcell (by omega) (by omega) (by have := numB_lt4 hl4; omega)
  rw [hl4] at hnum
  rw [← hl]
  obtain ⟨j, hj⟩ : ∃ j, j = 4 * k := ⟨_, rfl⟩
  obtain ⟨j4, hj4⟩ : ∃ j4, j4 = j + 4 := ⟨_, rfl⟩
  rw [← hj] at hnum
  have HN := Lib.hid hnum
  have e1 : 4 * (k : Int) = (j : Int) := by omega
  have e2 : (j : Int) + 4 = (j4 : Int) := by omega
  have j0 : (0 : Int) ≤ (j : Int) := by omega
  have j1 : (j : Int) ≤ 12 := by omega
  have j2 : (j4 : Int) ≤ 16 := by omega
  have hsl := slice74_4 B j (by omega) w
  rw [← hj4] at hsl
  clear hj hj4 hl hl4 hcell hnum h
  go_enter Tryz.func98, Tryz.ntmps98
  go_wp2_with fail
  refine HN.out.mono ?_
  rintro e w2 ⟨rfl, e⟩
  obtain rfl := e.symm
  go_wp2_with fail
  go_ret
  exact ⟨rfl, rfl⟩
theorem of_any {s : Sec} (hs : s.length = 512) (w : World) {m : Meta} (hm : metaOf s = m) : Calls Tryz.prog 71 #[.agg (bv s).toArray] w fun e w' => e = .returned m.v ∧ Only None' w w' := by
  obtain ⟨wb, hwb⟩ : ∃ wb, wb = w.alloc (.cells (bv s).toArray 74) := ⟨_, rfl⟩
  obtain ⟨B, hB⟩ : ∃ B, B = w.heap.size := ⟨_, rfl⟩
  have hrow := page_row w s hs
  rw [← hwb, ← hB] at hrow
  have ob : Only None' w wb := by rw [hwb]; exact (Only.refl _ _).alloc _
  have C := fun (y : World) (hy : Only None' wb y) (k : Nat) (hk : k < 4) (n : Nat) (hn : numB ((s.drop (4 * k)).take 4) = n) => num98_any (w := y) (B := B) (hrow.only hy fun _ _ e => e) hs hk hn
  subst hm
  have C0 := fun y hy => C y hy 0 (by omega) _ rfl
  have C1 := fun y hy => C y hy 1 (by omega) _ rfl
  have C2 := fun y hy => C y hy 2 (by omega) _ rfl
  have C3 := fun y hy => C y hy 3 (by omega) _ rfl
  simp only [Nat.mul_zero, Nat.mul_one, List.drop_zero, Nat.reduceMul] at C0 C1 C2 C3
  unfold metaOf Meta.v
  simp only
  obtain ⟨n0, h0⟩ : ∃ n0, n0 = numB (s.take 4) := ⟨_, rfl⟩
  obtain ⟨n1, h1⟩ : ∃ n1, n1 = numB ((s.drop 4).take 4) := ⟨_, rfl⟩
  obtain ⟨n2, h2⟩ : ∃ n2, n2 = numB ((s.drop 8).take 4) := ⟨_, rfl⟩
  obtain ⟨n3, h3⟩ : ∃ n3, n3 = numB ((s.drop 12).take 4) := ⟨_, rfl⟩
  rw [← h0] at C0 ⊢
  rw [← h1] at C1 ⊢
  rw [← h2] at C2 ⊢
  rw [← h3] at C3 ⊢
  have HC := Lib.hid (And.intro C0 (And.intro C1 (And.intro C2 C3)))
  have HB := Lib.hid ob
  have HWB := Lib.hid (And.intro hwb hB)
  clear C C0 C1 C2 C3 h0 h1 h2 h3 ob hrow hwb hB
  go_enter Tryz.func71, Tryz.ntmps71
  go_wp2_with fail
  rw [← HWB.out.1, ← HWB.out.2]
  obtain ⟨wc, hwc⟩ : ∃ wc, wc = wb.alloc (.cells #[.int .i64 0, .int .i64 0, .int .i64 0, .int .i64 0] 67) := ⟨_, rfl⟩
  have hcc := cells_new wb [.int .i64 0, .int .i64 0, .int .i64 0, .int .i64 0] 67
  have oc : Only None' wb wc := by rw [hwc]; exact (Only.refl _ _).alloc _
  have hsz : wb.heap.size = B + 1 := by rw [HWB.out.1, HWB.out.2]; simp
  rw [← hwc]
  rw [hsz] at hcc
  change CellsR (wb.alloc (.cells #[.int .i64 0, .int .i64 0, .int .i64 0, .int .i64 0] 67)) _ _ at hcc
  rw [← hwc] at hcc
  have k0 := hcc.is 0 _ rfl
  have k1 := hcc.is 1 _ rfl
  have k2 := hcc.is 2 _ rfl
  have k3 := hcc.is 3 _ rfl
  have kz := hcc.thaw
  have HO := Lib.hid (And.intro oc hcc)
  clear hwc oc hsz hcc
  refine (HC.out.1 wc HO.out.1).mono ?_
  rintro e w2 ⟨rfl, e⟩
  subst e
  go_wp2_with fail
  refine (HC.out.2.1 wc HO.out.1).mono ?_
  rintro e w2 ⟨rfl, e⟩
  subst e
  go_wp2_with fail
  refine (HC.out.2.2.1 wc HO.out.1).mono ?_
  rintro e w2 ⟨rfl, e⟩
  subst e
  go_wp2_with fail
  refine (HC.out.2.2.2 wc HO.out.1).mono ?_
  rintro e w2 ⟨rfl, e⟩
  subst e
  go_wp2_with fail
  have hfin : CellsR ((((wc.setCell ⟨B + 1, 0, none⟩ (.int .i64 (n0 : Int))).setCell ⟨B + 1, 1, none⟩ (.int .i64 (n1 : Int))).setCell ⟨B + 1, 2, none⟩ (.int .i64 (n2 : Int))).setCell ⟨B + 1, 3, none⟩ (.int .i64 (n3 : Int))) (B + 1) [.int .i64 (n0 : Int), .int .i64 (n1 : Int), .int .i64 (n2 : Int), .int .i64 (n3 : Int)] := by
    have h1 := (((HO.out.2.set (i := 0) (by simp) (.int .i64 (n0 : Int))).set (i := 1) (by simp) (.int .i64 (n1 : Int))).set (i := 2) (by simp) (.int .i64 (n2 : Int))).set (i := 3) (by simp) (.int .i64 (n3 : Int))
    exact h1
  refine bodyPost_ret (v := .agg #[.int .i64 (n0 : Int), .int .i64 (n1 : Int), .int .i64 (n2 : Int), .int .i64 (n3 : Int)]) (results_cell_mid rfl _ _ (B + 1) [.int .i64 (n0 : Int), .int .i64 (n1 : Int), .int .i64 (n2 : Int), .int .i64 (n3 : Int)] _ rfl (fun j u hu => by rw [Nat.zero_add]; exact hfin.is j u hu) Tryz.underlying67 rfl (by kernel_rfl)) rfl ⟨rfl, ?_⟩
  have hB := HWB.out.2
  refine (HB.out.trans HO.out.1).trans2 (S := None') (((((Only.refl (fun j => j = B + 1) wc).setCell (p := ⟨B + 1, 0, none⟩) rfl _).setCell (p := ⟨B + 1, 1, none⟩) rfl _).setCell (p := ⟨B + 1, 2, none⟩) rfl _).setCell (p := ⟨B + 1, 3, none⟩) rfl _) fun k hk e => by omega
end Go.Proofs.YteoeaojebklfjaaGreatDoor
namespace Go.Proofs.YteoeaojebklfjaaGreatDoor
open Go.RowKit Go.Maps
open Go.ChangeMaps (setBlock modify_eq_set heap_setBlock_same heap_setBlock_other)
open Go.WideElems (Fit rd rg findIdx_born findIdx_arr modify_last set_self)
set_option linter.unusedVariables false
set_option maxRecDepth 20000

structure Elem (α : Type) where
  R : Value → Option (DataW Unit × List MemPlace)
  enc : α → DataW Unit
  val : α → Value
  z : α
  mk' : ∀ x, R (val x) = some (enc x, [])
  inv : ∀ {v x ps}, R v = some (enc x, ps) → v = val x
open Classical in
noncomputable def Elem.of {α : Type} (enc : α → DataW Unit) (val : α → Value) (z : α) (hv : ∀ x y, val x = val y → x = y) (he : ∀ x y, enc x = enc y → x = y) : Elem α where
  R := fun v => if h : ∃ x, v = val x then some (enc h.choose, []) else none
  enc := enc
  val := val
  z := z
  mk' := fun x => by
    have h : ∃ y, val x = val y := ⟨x, rfl⟩
    rw [dif_pos h, ← hv _ _ h.choose_spec]
  inv := fun {v x ps} h => by
    by_cases g : ∃ y, v = val y
    · rw [dif_pos g] at h
      simp only [Option.some.injEq, Prod.mk.injEq] at h
      rw [← he _ _ h.1]
      exact g.choose_spec
    · rw [dif_neg g] at h
      cases h
section
variable {α : Type}
def ins (n : Nat) (x : α) : List (Nat × α) → List (Nat × α)
  | [] => [(n, x)]
  | p :: l => if n < p.1 then (n, x) :: p :: l else if p.1 = n then (n, x) :: l else p :: ins n x l
def kLook (l : List (Nat × α)) (n : Nat) : Option α := (l.find? fun p => decide (p.1 = n)).map (·.2)
def kDel (l : List (Nat × α)) (n : Nat) : List (Nat × α) := l.filter fun p => decide (p.1 ≠ n)
def kRise (l : List (Nat × α)) : Prop := l.Pairwise fun a b => a.1 < b.1
theorem kLook_nil (n : Nat) : kLook ([] : List (Nat × α)) n = none := rfl
theorem kLook_cons (p : Nat × α) (l : List (Nat × α)) (n : Nat) : kLook (p :: l) n = if p.1 = n then some p.2 else kLook l n := by
  unfold kLook
  rw [List.find?_cons]
  by_cases h : p.1 = n
  · rw [if_pos h, decide_eq_true h]; rfl
  · rw [if_neg h, decide_eq_false h]
theorem mem_ins {n : Nat} {x : α} {q : Nat × α} : ∀ {l : List (Nat × α)}, q ∈ ins n x l → q = (n, x) ∨ q ∈ l
  | [], h => by simp [ins] at h; exact .inl h
  | p :: l, h => by
    unfold ins at h
    split at h
    · rcases List.mem_cons.1 h with h | h
      · exact .inl h
      · exact .inr h
    · split at h
      · rcases List.mem_cons.1 h with h | h
        · exact .inl h
        · exact .inr (List.mem_cons_of_mem _ h)
      · rcases List.mem_cons.1 h with h | h
        · exact .inr (h ▸ List.mem_cons_self)
        · rcases mem_ins h with h | h
          · exact .inl h
          · exact .inr (List.mem_cons_of_mem _ h)
theorem rise_ins {n : Nat} {x : α} : ∀ {l : List (Nat × α)}, kRise l → kRise (ins n x l)
  | [], _ => List.pairwise_singleton _ _
  | p :: l, h => by
    obtain ⟨h1, h2⟩ := List.pairwise_cons.1 h
    unfold ins
    split
    · rename_i g
      refine List.pairwise_cons.2 ⟨fun q hq => ?_, h⟩
      rcases List.mem_cons.1 hq with rfl | hq
      · exact g
      · exact Nat.lt_trans g (h1 q hq)
    · split
      · rename_i g1 g2
        exact List.pairwise_cons.2 ⟨fun q hq => g2 ▸ h1 q hq, h2⟩
      · rename_i g1 g2
        refine List.pairwise_cons.2 ⟨fun q hq => ?_, rise_ins h2⟩
        rcases mem_ins hq with rfl | hq
        · show p.1 < n; omega
        · exact h1 q hq
theorem look_ins (n : Nat) (x : α) (m : Nat) : ∀ l : List (Nat × α), kLook (ins n x l) m = if n = m then some x else kLook l m
  | [] => by rw [ins, kLook_cons, kLook_nil]
  | p :: l => by
    unfold ins
    split
    · rw [kLook_cons]
    · split
      · rename_i g
        rw [kLook_cons, kLook_cons, g]
        by_cases e : n = m
        · rw [if_pos e, if_pos e]
        · rw [if_neg e, if_neg e, if_neg e]
      · rename_i g1 g
        rw [kLook_cons, kLook_cons, look_ins n x m l]
        by_cases e : p.1 = m
        · rw [if_pos e, if_pos e, if_neg (by omega)]
        · rw [if_neg e, if_neg e]
theorem look_del (n m : Nat) : ∀ l : List (Nat × α), kLook (kDel l n) m = if n = m then none else kLook l m
  | [] => by simp [kDel, kLook]
  | p :: l => by
    have ih := look_del n m l
    unfold kDel at ih ⊢
    rw [List.filter_cons]
    by_cases e : p.1 = n
    · rw [if_neg (by simp [e]), ih, kLook_cons]
      by_cases e2 : n = m
      · rw [if_pos e2, if_pos e2]
      · rw [if_neg e2, if_neg e2, if_neg (by omega)]
    · rw [if_pos (by simp [e]), kLook_cons, ih, kLook_cons]
      by_cases e2 : n = m
      · rw [if_pos e2, if_pos e2, if_neg (by omega)]
      · rw [if_neg e2, if_neg e2]
theorem rise_del {l : List (Nat × α)} (h : kRise l) (n : Nat) : kRise (kDel l n) := List.Pairwise.filter _ h
theorem len_ins (n : Nat) (x : α) : ∀ l : List (Nat × α), (ins n x l).length ≤ l.length + 1
  | [] => Nat.le_refl _
  | p :: l => by
    unfold ins
    split
    · simp
    · split
      · simp
      · have := len_ins n x l
        simp only [List.length_cons]
        omega
theorem len_del (l : List (Nat × α)) (n : Nat) : (kDel l n).length ≤ l.length := List.length_filter_le _ _
theorem look_mem {l : List (Nat × α)} {n : Nat} {x : α} (h : kLook l n = some x) : (n, x) ∈ l := by
  unfold kLook at h
  obtain ⟨p, hp, rfl⟩ := Option.map_eq_some_iff.1 h
  have h1 := List.mem_of_find?_eq_some hp
  have h2 := List.find?_some hp
  simp at h2
  rw [← h2]
  exact h1
theorem look_of_mem {l : List (Nat × α)} (hr : kRise l) {p : Nat × α} (h : p ∈ l) : kLook l p.1 = some p.2 := by
  induction l with
  | nil => cases h
  | cons q l ih =>
    obtain ⟨h1, h2⟩ := List.pairwise_cons.1 hr
    rw [kLook_cons]
    rcases List.mem_cons.1 h with rfl | h
    · rw [if_pos rfl]
    · rw [if_neg (by have := h1 p h; omega), ih h2 h]
theorem rise_ext : ∀ {l l' : List (Nat × α)}, kRise l → kRise l' → (∀ n, kLook l n = kLook l' n) → l = l'
  | [], [], _, _, _ => rfl
  | [], q :: l', _, _, h => by have := h q.1; rw [kLook_cons, if_pos rfl] at this; cases this
  | p :: l, [], _, _, h => by have := h p.1; rw [kLook_cons, if_pos rfl] at this; cases this
  | p :: l, q :: l', hr, hr', h => by
    obtain ⟨a1, a2⟩ := List.pairwise_cons.1 hr
    obtain ⟨b1, b2⟩ := List.pairwise_cons.1 hr'
    have e : p.1 = q.1 := by
      have h1 := h p.1
      have h2 := h q.1
      rw [kLook_cons, if_pos rfl, kLook_cons] at h1
      rw [kLook_cons, kLook_cons, if_pos rfl] at h2
      by_cases e : q.1 = p.1
      · exact e.symm
      · rw [if_neg e] at h1
        rw [if_neg (fun x => e x.symm)] at h2
        have m1 := look_mem h1.symm
        have m2 := look_mem h2
        have := b1 _ m1
        have := a1 _ m2
        simp only at *
        omega
    have e2 : p.2 = q.2 := by
      have h1 := h p.1
      rw [kLook_cons, if_pos rfl, kLook_cons, if_pos e.symm] at h1
      injection h1
    have e3 : p = q := Prod.ext e e2
    subst e3
    have : l = l' := rise_ext a2 b2 fun n => by
      have h1 := h n
      rw [kLook_cons, kLook_cons] at h1
      by_cases g : p.1 = n
      · cases g1 : kLook l n with
        | some x => have := a1 _ (look_mem g1); simp only at this; omega
        | none =>
          cases g2 : kLook l' n with
          | some x => have := b1 _ (look_mem g2); simp only at this; omega
          | none => rfl
      · rwa [if_neg g, if_neg g] at h1
    rw [this]

variable (E : Elem α)
def kEnt (p : Nat × α) : Lit × DataW Unit := (.int .i64 (p.1 : Int), E.enc p.2)
def kDof (l : List (Nat × α)) : DataW Unit := .map (l.map (kEnt E))
theorem kDof_has (l : List (Nat × α)) (n : Nat) : Maps.has (kDof E l) (.int .i64 (n : Int)) = (kLook l n).isSome := by
  unfold kDof kLook
  rw [has_eq, List.any_map, Option.isSome_map, Bool.eq_iff_iff, List.any_eq_true, List.find?_isSome]
  simp only [kEnt, Lit.sameKey, Function.comp]
  simp [Int.natCast_inj]
theorem kDof_size (l : List (Nat × α)) : Maps.size (kDof E l) = l.length := by simp [kDof, Maps.size]
theorem kDof_at (l : List (Nat × α)) (n : Nat) : (kDof E l).atKey (.int .i64 (n : Int)) (E.enc E.z) = E.enc ((kLook l n).getD E.z) := by
  unfold kDof DataW.atKey kLook
  have : ((fun p : Lit × DataW Unit => p.1.sameKey (.int .i64 (n : Int))) ∘ kEnt E) = fun p : Nat × α => decide (p.1 = n) := by
    funext p
    simp [kEnt, Lit.sameKey, Int.natCast_inj]
  simp only [List.find?_map, this]
  cases l.find? fun p => decide (p.1 = n) <;> rfl
theorem kDof_keys (l : List (Nat × α)) : intKeys (kDof E l) = l.map fun p => (p.1 : Int) := by simp [kDof, intKeys, kEnt, _root_.Go.intOf, Function.comp_def]
theorem kDof_del (l : List (Nat × α)) (n : Nat) : (kDof E l).del (.int .i64 (n : Int)) = kDof E (kDel l n) := by
  unfold kDof DataW.del kDel
  simp only [List.filter_map]
  congr 2
  refine List.filter_congr fun x _ => ?_
  simp [kEnt, Lit.sameKey, Int.natCast_inj]
theorem kDof_put {l : List (Nat × α)} (hr : kRise l) (n : Nat) (x : α) : (kDof E l).put (.int .i64 (n : Int)) (E.enc x) = kDof E (ins n x l) := by
  have key : ∀ {l : List (Nat × α)}, kRise l → DataW.insert (kEnt E (n, x)) ((l.map (kEnt E)).filter fun p => !p.1.sameKey (.int .i64 (n : Int))) = (ins n x l).map (kEnt E) := by
    intro l
    induction l with
    | nil => intro _; rfl
    | cons p l ih =>
      intro hr
      obtain ⟨h1, h2⟩ := List.pairwise_cons.1 hr
      have rest : ∀ m : Nat, (∀ q ∈ l, q.1 ≠ m) → (l.map (kEnt E)).filter (fun p => !p.1.sameKey (.int .i64 (m : Int))) = l.map (kEnt E) := fun m hm => by
        rw [List.filter_eq_self]
        intro q hq
        obtain ⟨y, hy, rfl⟩ := List.mem_map.1 hq
        have := hm y hy
        simp [kEnt, Lit.sameKey]
        omega
      unfold ins
      split
      · rename_i g
        rw [List.map_cons, List.filter_cons, if_pos (by simp [kEnt, Lit.sameKey]; omega), rest n (fun q hq => by have := h1 q hq; omega), List.map_cons, List.map_cons]
        unfold DataW.insert
        rw [if_pos (by simp [kEnt, Lit.before]; omega)]
      · split
        · rename_i g1 g
          rw [List.map_cons, List.filter_cons, if_neg (by simp [kEnt, Lit.sameKey, g]), rest n (fun q hq => by have := h1 q hq; omega), List.map_cons]
          cases l with
          | nil => rfl
          | cons q l =>
            rw [List.map_cons]
            unfold DataW.insert
            rw [if_pos]
            have := h1 q (by simp)
            simp [kEnt, Lit.before]
            omega
        · rename_i g1 g
          rw [List.map_cons, List.filter_cons, if_pos (by simp [kEnt, Lit.sameKey]; omega), List.map_cons]
          unfold DataW.insert
          rw [if_neg (by simp [kEnt, Lit.before]; omega), ih h2]
  unfold kDof DataW.put
  exact congrArg _ (key hr)
end
theorem owns_tight {P : Program} {w : World} {k : TypeId} {R : Value → Option (DataW Unit × List MemPlace)} {b n : Nat} {D : DataW Unit} (h : w.ownsMap P k R b n D) : w.ownsMap P k R b (Maps.size D) D := by
  obtain ⟨es, clock, h1, h2, h3, h4⟩ := h
  refine ⟨es, clock, h1, h2, ?_, h4⟩
  subst h4
  show es.size ≤ ((es.toList.map _).foldr DataW.insert []).length
  rw [length_sorted]
  simp
theorem owns_same {P : Program} {w w' : World} {k : TypeId} {R : Value → Option (DataW Unit × List MemPlace)} {b n : Nat} {D : DataW Unit} (h : w.ownsMap P k R b n D) (hb : w'.heap[b]? = w.heap[b]?) : w'.ownsMap P k R b n D := by
  obtain ⟨es, clock, h1, h2⟩ := h
  exact ⟨es, clock, hb.trans h1, h2⟩
structure Mp {α : Type} (E : Elem α) (w : World) (b : Nat) (l : List (Nat × α)) : Prop where
  own : w.ownsMap Tryz.prog 3 E.R b l.length (kDof E l)
  rise : kRise l
section
variable {α : Type} {E : Elem α} {w w' : World} {b : Nat} {l : List (Nat × α)} {S : Nat → Prop} {t e : TypeId}
theorem Mp.lt (h : Mp E w b l) : b < w.heap.size := h.own.lt
theorem Mp.only (h : Mp E w b l) (o : Only S w w') (hS : ¬ S b) : Mp E w' b l := ⟨owns_same h.own (o.block b h.lt hS), h.rise⟩
theorem Mp.new (h : Mp E w b l) (o : Only None' w w') : Mp E w' b l := h.only o fun e => e
theorem keyN {n : Nat} (hn : n ≤ 100000000000) : keyOf Tryz.prog 3 (.int .i64 (n : Int)) = some (.int .i64 (n : Int)) := keyOf_int_mk Tryz.underlying3 (WalkArith.wf_i64 (by omega))
theorem Mp.made (w : World) (E : Elem α) : Mp E (w.alloc (.map #[] 0)) w.heap.size [] := ⟨World.ownsMap_made w Tryz.prog 3 E.R, List.Pairwise.nil⟩
theorem Mp.look_ok (h : Mp E w b l) (ht : Tryz.prog.underlying t = some (.map 3 e)) (hz : ∀ w, (zeroValue e).run Tryz.prog w = .ok (E.val E.z) w) {n : Nat} (hn : n ≤ 100000000000) :
    (Instr.lookup t (.map (some b)) (.int .i64 (n : Int)) true).run Tryz.prog w = .ok (.tuple #[E.val ((kLook l n).getD E.z), .bool (kLook l n).isSome]) w := by
  obtain ⟨v, ps, h1, h2⟩ := h.own.look_ok keyed3 ht (hz w) (E.mk' E.z) (keyN hn)
  rw [kDof_at] at h2
  rw [h1, kDof_has, E.inv h2]
theorem Mp.lookup (h : Mp E w b l) (ht : Tryz.prog.underlying t = some (.map 3 e)) (hz : ∀ w, (zeroValue e).run Tryz.prog w = .ok (E.val E.z) w) {n : Nat} (hn : n ≤ 100000000000) :
    (Instr.lookup t (.map (some b)) (.int .i64 (n : Int)) false).run Tryz.prog w = .ok (E.val ((kLook l n).getD E.z)) w := by
  obtain ⟨v, ps, h1, h2⟩ := h.own.lookup keyed3 ht (hz w) (E.mk' E.z) (keyN hn)
  rw [kDof_at] at h2
  rw [h1, E.inv h2]
theorem Mp.len (h : Mp E w b l) (ht : Tryz.prog.underlying t = some (.map 3 e)) (ty : TypeId) : (Builtin.len_ #[t] ty #[.map (some b)]).run Tryz.prog w = .ok (.int .i64 (l.length : Int)) w := by
  rw [h.own.len ht ty, kDof_size]
theorem Mp.update (h : Mp E w b l) (ht : Tryz.prog.underlying t = some (.map 3 e)) (hm : l.length < 1000000) {n : Nat} (hn : n ≤ 100000000000) (x : α) :
    ∃ w', (Instr.mapUpdate t (.map (some b)) (.int .i64 (n : Int)) (E.val x)).run Tryz.prog w = .ok () w' ∧ Mp E w' b (ins n x l) ∧ Only (fun k => k = b) w w' := by
  obtain ⟨w', h1, h2, h3⟩ := h.own.update keyed3 ht (show l.length < maxLen by unfold maxLen; omega) (keyN hn) (E.mk' x)
  rw [kDof_put E h.rise] at h2
  have h4 := owns_tight h2
  rw [kDof_size] at h4
  exact ⟨w', h1, ⟨h4, rise_ins h.rise⟩, (Only.refl _ _).grown h3 fun k hk => by injection hk with hk; exact hk.symm⟩
theorem Mp.delete (h : Mp E w b l) (ht : Tryz.prog.underlying t = some (.map 3 e)) {n : Nat} (hn : n ≤ 100000000000) (ty : TypeId) :
    ∃ w', (Builtin.delete_ #[t, 3] ty #[.map (some b), .int .i64 (n : Int)]).run Tryz.prog w = .ok (.tuple #[]) w' ∧ Mp E w' b (kDel l n) ∧ Only (fun k => k = b) w w' := by
  obtain ⟨w', h1, h2, h3⟩ := h.own.drop keyed3 ht (keyN hn) ty
  rw [kDof_del] at h2
  have h4 := owns_tight h2
  rw [kDof_size] at h4
  exact ⟨w', h1, ⟨h4, rise_del h.rise n⟩, (Only.refl _ _).turned h3 rfl⟩
def Half (E : Elem α) (t : TypeId) (w : World) (b st n : Nat) (l : List (Nat × α)) : Prop := ∃ es1 clock1, w.heap[b]? = some (.map es1 clock1) ∧
  ∀ (w2 : World) (x : α), w2.heap[b]? = some (.map es1 clock1) → ∃ w3, (Instr.entryStore t (.map (some b)) (goInt st) (E.val x)).run Tryz.prog w2 = .ok () w3 ∧ Mp E w3 b (ins n x l) ∧ Only (fun k => k = b) w2 w3
theorem Half.only {st n : Nat} (h : Half E t w b st n l) (o : Only S w w') (hS : ¬ S b) : Half E t w' b st n l := by
  obtain ⟨es, c, h1, h2⟩ := h
  exact ⟨es, c, (o.block b (Array.getElem?_eq_some_iff.1 h1).1 hS).trans h1, h2⟩
theorem Half.store {st n : Nat} (h : Half E t w b st n l) (x : α) : ∃ w3, (Instr.entryStore t (.map (some b)) (goInt st) (E.val x)).run Tryz.prog w = .ok () w3 ∧ Mp E w3 b (ins n x l) ∧ Only (fun k => k = b) w w3 := by
  obtain ⟨es, c, h1, h2⟩ := h
  exact h2 w x h1
theorem setBlock_only {w : World} {b : Nat} {es : Array MapEntry} {clock : Nat} (hb : w.heap[b]? = some (.map es clock)) (o : Obj) : Only (fun k => k = b) w (setBlock w b o) :=
  ⟨rfl, rfl, rfl, by simp [setBlock], fun k _ hk => heap_setBlock_other hb o hk⟩
theorem Mp.entry (h : Mp E w b l) (ht : Tryz.prog.underlying t = some (.map 3 e)) (hz : ∀ w, (zeroValue e).run Tryz.prog w = .ok (E.val E.z) w) (hm : l.length < 1000000) {n : Nat} (hn : n ≤ 100000000000) :
    ∃ (v0 : Value) (st : Nat) (w' : World), (Instr.mapEntry t (.map (some b)) (.int .i64 (n : Int))).run Tryz.prog w = .ok (.tuple #[v0, goInt st]) w' ∧ Half E t w' b st n l ∧ Only (fun k => k = b) w w' := by
  obtain ⟨es, clock, hb, F, hs, hD⟩ := h.own
  have hkey := keyN hn
  have K := keyed3
  obtain ⟨s1, s2, _⟩ := F.stamped
  have upd : ∀ (x : α), ∃ es' clock', (Instr.mapUpdate t (.map (some b)) (.int .i64 (n : Int)) (E.val x)).run Tryz.prog w = .ok () (setBlock w b (.map es' clock')) ∧ Mp E (setBlock w b (.map es' clock')) b (ins n x l) := by
    intro x
    obtain ⟨w', h1, h2, _⟩ := h.update ht hm hn x
    obtain ⟨es', clock', hrun, _⟩ := Maps.fit_store (R' := E.R) K ht hb F (Nat.lt_of_le_of_lt hs (show l.length < maxLen by unfold maxLen; omega)) (fun _ _ _ _ hz => hz) hkey (E.mk' x)
    have e : w' = setBlock w b (.map es' clock') := by
      rw [h1] at hrun
      injection hrun
    exact ⟨es', clock', hrun, e ▸ h2⟩
  have fin : ∀ (es1 : Array MapEntry) (clock1 st : Nat), (∀ (w2 : World) (val : Value), w2.heap[b]? = some (.map es1 clock1) → ∃ es' clock', (Instr.entryStore t (.map (some b)) (goInt st) val).run Tryz.prog w2 = .ok () (setBlock w2 b (.map es' clock')) ∧
        (Instr.mapUpdate t (.map (some b)) (.int .i64 (n : Int)) val).run Tryz.prog w = .ok () (setBlock w b (.map es' clock'))) → Half E t (setBlock w b (.map es1 clock1)) b st n l := by
    intro es1 clock1 st hh
    refine ⟨es1, clock1, heap_setBlock_same hb _, fun w2 x hw2 => ?_⟩
    obtain ⟨es', clock', r1, r2⟩ := hh w2 (E.val x) hw2
    obtain ⟨es2, clock2, r3, r4⟩ := upd x
    rw [r2] at r3
    injection r3 with _ r3
    refine ⟨_, r1, ⟨?_, r4.rise⟩, setBlock_only hw2 _⟩
    have h5 := r4.own
    rw [← r3] at h5
    exact owns_same h5 ((heap_setBlock_same hw2 _).trans (heap_setBlock_same hb _).symm)
  rcases K.find w hkey es.toList F.keys with ⟨h1, h2⟩ | ⟨j, e0, h1, h2, h3⟩
  · refine ⟨E.val E.z, clock, setBlock w b (.map (es.push ⟨.int .i64 (n : Int), E.val E.z, clock⟩) (clock + 1)), ?_, fin _ _ _ fun w2 val hw2 => ⟨es.push ⟨.int .i64 (n : Int), val, clock⟩, clock + 1, ?_, ?_⟩, setBlock_only hb _⟩
    · simp [Instr.mapEntry, run_underlying ht, MapKept.run_getObj_map hb, K.check w false hkey, h1, hz, MapKept.run_setObj_map _ hb, Result.andThen, setBlock]
    · have hidx : (es.push ⟨.int .i64 (n : Int), E.val E.z, clock⟩).findIdx? (fun e => ((e.born : Nat) : Int) == ((clock : Nat) : Int)) = some es.size := by
        rw [findIdx_arr]
        have := findIdx_born (l := (es.push ⟨.int .i64 (n : Int), E.val E.z, clock⟩).toList) (j := es.size) (e0 := ⟨.int .i64 (n : Int), E.val E.z, clock⟩) (by
          simp only [Array.toList_push, List.map_append, List.map_cons, List.map_nil]
          refine List.nodup_append.2 ⟨s2, by simp, fun a ha c hc e1 => ?_⟩
          simp only [List.mem_singleton] at hc
          obtain ⟨x, hx, rfl⟩ := List.mem_map.1 ha
          have := s1 x hx
          omega) (by simp)
        exact this
      have hmod : (es.push ⟨.int .i64 (n : Int), E.val E.z, clock⟩).modify es.size (fun e => { e with val := val }) = es.push ⟨.int .i64 (n : Int), val, clock⟩ := by
        apply Array.ext'
        rw [Array.toList_modify, Array.toList_push, Array.toList_push, ← Array.length_toList, modify_last]
      simp [Instr.entryStore, MapKept.run_getObj_map hw2, asInt, asIntOf, goInt, hidx, hmod, MapKept.run_setObj_map _ hw2, Result.andThen, setBlock]
    · simp [Instr.mapUpdate, run_underlying ht, MapKept.run_getObj_map hb, K.check w false hkey, h1, MapKept.run_setObj_map _ hb, Result.andThen, setBlock]
  · have hj : es[j]? = some e0 := by simpa using h2
    have hsame : es.modify j (fun e => { e with key := (.int .i64 (n : Int)) }) = es := by
      apply Array.ext'
      rw [Array.toList_modify, modify_eq_set _ _ _ _ h2]
      have : ({ e0 with key := (.int .i64 (n : Int)) } : MapEntry) = e0 := by rw [← h3]
      rw [this]
      exact set_self _ _ _ h2
    refine ⟨e0.val, e0.born, setBlock w b (.map es clock), ?_, fin _ _ _ fun w2 val hw2 => ⟨es.modify j (fun e' => { e' with key := (.int .i64 (n : Int)), val := val }), clock, ?_, ?_⟩, setBlock_only hb _⟩
    · simp [Instr.mapEntry, run_underlying ht, MapKept.run_getObj_map hb, K.check w false hkey, h1, hj, h3, K.stays w hkey, hsame, MapKept.run_setObj_map _ hb, Result.andThen, setBlock]
    · have hidx : es.findIdx? (fun e => ((e.born : Nat) : Int) == ((e0.born : Nat) : Int)) = some j := by
        rw [findIdx_arr]
        exact findIdx_born s2 h2
      have hmod : es.modify j (fun e => { e with val := val }) = es.modify j (fun e' => { e' with key := (.int .i64 (n : Int)), val := val }) := by
        apply Array.ext'
        rw [Array.toList_modify, Array.toList_modify, modify_eq_set _ _ _ _ h2, modify_eq_set _ _ _ _ h2, ← h3]
      simp [Instr.entryStore, MapKept.run_getObj_map hw2, asInt, asIntOf, goInt, hidx, hmod, MapKept.run_setObj_map _ hw2, Result.andThen, setBlock]
    · simp [Instr.mapUpdate, run_underlying ht, MapKept.run_getObj_map hb, K.check w false hkey, h1, hj, h3, K.stays w hkey, MapKept.run_setObj_map _ hb, Result.andThen, setBlock]
end
theorem bv_inj {s t : Sec} (h : bv s = bv t) : s = t := by
  unfold bv at h
  induction s generalizing t with
  | nil => cases t with
    | nil => rfl
    | cons _ _ => simp at h
  | cons a s ih => cases t with
    | nil => simp at h
    | cons b t =>
      simp only [List.map_cons, List.cons.injEq, Value.int.injEq, true_and] at h
      rw [ih h.2, show a = b from UInt8.toNat_inj.1 (by have := h.1; omega)]
def encP (s : Sec) : DataW Unit := .agg (s.map fun c => .lit (.int .u8 (c.toNat : Int)))
theorem encP_inj {s t : Sec} (h : encP s = encP t) : s = t := by
  unfold encP at h
  injection h with h
  induction s generalizing t with
  | nil => cases t with
    | nil => rfl
    | cons _ _ => simp at h
  | cons a s ih => cases t with
    | nil => simp at h
    | cons b t =>
      simp only [List.map_cons, List.cons.injEq, DataW.lit.injEq, Lit.int.injEq, true_and] at h
      rw [ih h.2, show a = b from UInt8.toNat_inj.1 (by have := h.1; omega)]
noncomputable def pgE : Elem Sec := Elem.of encP (fun s => .agg (bv s).toArray) zs (fun x y h => by
  injection h with h
  exact bv_inj (List.toArray_inj h)) fun x y h => encP_inj h
noncomputable def mkE : Elem Bool := Elem.of (fun b => .lit (.bool b)) (fun b => .bool b) false (fun x y h => by injection h) fun x y h => by injection h with h; injection h
theorem under69 : Tryz.prog.underlying 69 = some (.map 3 74) := by kernel_rfl
theorem under70 : Tryz.prog.underlying 70 = some (.map 3 4) := by kernel_rfl
theorem zeroP (w : World) : (zeroValue 74).run Tryz.prog w = .ok (pgE.val pgE.z) w := by
  have h : Tryz.t74.zero = some (.agg Tryz.zeroCells74) := by kernel_rfl
  have e : pgE.val pgE.z = .agg Tryz.zeroCells74 := by rw [zbv74]; rfl
  rw [e]
  simp [zeroValue, Go.typeInfo, info74, h]
theorem zeroB (w : World) : (zeroValue 4).run Tryz.prog w = .ok (mkE.val mkE.z) w := by
  show _ = Result.ok (Value.bool false) w
  kernel_rfl
end Go.Proofs.YteoeaojebklfjaaGreatDoor
namespace Go.Proofs.YteoeaojebklfjaaGreatDoor
open Go.RowKit Go.Maps Go.Sort Go.Shelf
set_option linter.unusedVariables false
set_option maxRecDepth 20000

theorem sortsA (m : Nat) : AnyZI.SortsIn Tryz.prog Tryz.sortedA_ren Fence.wide m :=
  ⟨fun blk off cap ss W hH hblk hsz => callsIn_wide.2 (AnyM.slices_Sort_int Tryz.sortA blk off cap ss W hH hblk hsz),
   fun p cap W => callsIn_wide.2 (AnyM.slices_Sort_int_none Tryz.sortA p cap W)⟩
theorem keys_any (mb : Option Nat) (W : World) : Calls Tryz.prog 44 #[.map mb] W fun e w' => e = .returned (.func (.func 76) #[] #[.pointer (some ⟨W.heap.size, 0, none⟩)]) ∧ w' = W.alloc (.cells #[.map mb] 69) :=
  (callsIn_wide (n := 5)).1 (AnyZI.keys_in Tryz.keysA Fence.wide 5 trivial rfl mb W)
theorem rise_sorted {l ss : List Int} (h : l.Pairwise (· < ·)) (hp : ss.Perm l) : ss.mergeSort (fun x y => decide (x ≤ y)) = l := by
  have h1 := mergeSort_of_perm_i hp
  have h2 : l.mergeSort leI = l := List.mergeSort_of_pairwise (h.imp fun {a b} hab => by simp only [leI, decide_eq_true_eq]; omega)
  exact h1.trans h2
set_option maxHeartbeats 1000000 in
theorem sorted_any {α : Type} {E : Elem α} {w : World} {b : Nat} {l : List (Nat × α)} (h : Mp E w b l) (hl : l.length ≤ 100000) :
    Calls Tryz.prog 43 #[.func (.func 76) #[] #[.pointer (some ⟨w.heap.size, 0, none⟩)]] (w.alloc (.cells #[.map (some b)] 69)) fun e w' => ∃ v, e = .returned v ∧ Vec w' 1 v l.length ((l.map fun p => (p.1 : Int)).map (Value.int .i64)) ∧ (∀ g, v.ownBlock = some g → w.heap.size ≤ g) ∧ Only None' w w' := by
  have hown := h.own
  have hr := h.rise
  have hbl := hown.lt
  have hmax : Maps.size (kDof E l) ≤ maxLen := by rw [kDof_size]; unfold maxLen; omega
  have hbytes : Maps.size (kDof E l) * 8 ≤ 140737488355328 := by rw [kDof_size]; omega
  have hseq : SeqGives Fence.wide 2 Tryz.prog 76 #[.pointer (some ⟨w.heap.size, 0, none⟩)] encZ (fun ss => ss.Perm (intKeys (kDof E l))) (Maps.size (kDof E l)) (w.alloc (.cells #[.map (some b)] 69)) :=
    AnyZI.keys_gives (ρ := Tryz.keysA_ren) { Tryz.keysA with } Fence.wide _ trivial rfl (by omega) w.heap.size b l.length (kDof E l) _ (by simp) (by simp) (by
      obtain ⟨es, clock, hb, Ft, hs, hD⟩ := hown
      exact ⟨es, clock, (Below.heap_alloc _ _ b hbl).trans hb, Ft, hs, hD⟩)
  have cS := AnyZI.sorted_in Tryz.sortedA Fence.wide 5 trivial trivial trivial trivial rfl (by omega) (sortsA _) (enters_of Tryz.func75 (by kernel_rfl) rfl) 76 #[.pointer (some ⟨w.heap.size, 0, none⟩)] trivial (enters_of Tryz.func76 (by kernel_rfl) rfl) _ _ hmax hbytes _ hseq
  change CallsIn _ _ Tryz.prog 43 _ _ _ at cS
  refine ((callsIn_wide (n := 5)).1 cS).mono ?_
  rintro e w' ⟨v, ss, rfl, hS, hrow, hnil, hb⟩
  rw [kDof_keys] at hS
  have hso := rise_sorted (l := l.map fun p => (p.1 : Int)) (List.pairwise_map.2 (hr.imp fun {a b} hab => by omega)) hS
  have hlen : ss.length = l.length := by rw [hS.length_eq, List.length_map]
  rw [hso, hlen] at hrow
  refine ⟨v, rfl, Vec.of_owns hrow, fun g hg => ?_, Only.of_below (((Below.refl _ w).alloc (Nat.le_refl _) _).trans (hb.mono (by simp))) _⟩
  have := (hrow.lt g hg).1
  simp at this
  omega
end Go.Proofs.YteoeaojebklfjaaGreatDoor
namespace Go.Proofs.YteoeaojebklfjaaGreatDoor
open Go.RowKit Go.Maps
set_option linter.unusedVariables false
set_option maxRecDepth 20000

section
variable {P : Program}
theorem run_copy_st (w : World) (g off dLen dCap : Nat) (s : Sec) (hn : s.length ≤ dLen) (hc : ∀ j, j < s.length → (w.cell? ⟨g, off + j, none⟩).isSome = true ∧ w.frozen? ⟨g, off + j, none⟩ = false) (ty : TypeId) :
    (Builtin.copy_ #[35, 9] ty #[.slice (some ⟨g, off, none⟩) dLen dCap, .string (st s)]).run Tryz.prog w = .ok (goInt s.length) (w.setCells g off (bv s)) := by
  have h := run_copy_string (P := Tryz.prog) w 35 9 ty 5 g off dLen dCap (st s) Tryz.underlying35 (fun w => by
    have := info5s
    cases hi : Tryz.prog.info? 5 with
    | none => rw [hi] at this; cases this
    | some i =>
      rw [hi] at this
      injection this with this
      simp [Go.sizeOf, Go.typeInfo, hi, this]) (by rw [st_size]; exact hn) (fun j hj => (hc j (by rwa [st_size] at hj)).1) (fun j hj => (hc j (by rwa [st_size] at hj)).2)
  rw [st_size] at h
  rw [h]
  simp [st, bv]
theorem wpList_copy_string {w : World} {ops : Array Oper} {rest : List Oper} {o : Oper} {a : Act} {Q : Exit → Act → World → Prop} (hgd : o.guard = none) (d x : Operand)
    (ho : o.op = .call { callee := .builtin .copy, args := #[d, x], argTypes := #[35, 9] }) (g off dLen dCap : Nat) (hd : a.eval d = .slice (some ⟨g, off, none⟩) dLen dCap) (s : Sec) (hx : a.eval x = .string (st s)) (hn : s.length ≤ dLen)
    (hc : ∀ j, j < s.length → (w.cell? ⟨g, off + j, none⟩).isSome = true ∧ w.frozen? ⟨g, off + j, none⟩ = false)
    (h : wpList Tryz.prog ops Q rest (a.put o.dst (goInt s.length)) (w.setCells g off (bv s))) : wpList Tryz.prog ops Q (o :: rest) a w := by
  refine wpList_plain hgd fun K hK => ?_
  unfold Oper.wp execOp
  simp only [ho, resolve, invoke, builtin, Sem.run_bind, Sem.run_pure, Result.andThen_ok, List.map_toArray, List.map_cons, List.map_nil, hd, hx, run_copy_st w g off dLen dCap s hn hc]
  exact hK _ _ h
end
def markB : Sec := [98, 117, 116, 116, 101, 114, 121, 49]
def headB (base : Nat) : Sec := markB ++ (beB 8 base ++ List.replicate 496 0)
theorem headB_len (base : Nat) : (headB base).length = 512 := by
  unfold headB
  rw [List.length_append, List.length_append, beB_len, List.length_replicate]
  rfl
def markP : Sec := markB ++ List.replicate 504 0
theorem markP_len : markP.length = 512 := by unfold markP; rw [List.length_append, List.length_replicate]; rfl
theorem head_is (base : Nat) : putL markP (8 + 8) base 8 = headB base := by
  rw [putL_is _ (by rw [markP_len]; decide) 8 (by decide)]
  have h1 : markP.take (8 + 8 - 8) = markB := List.take_left' rfl
  have h2 : markP.drop (8 + 8) = List.replicate 496 0 := by
    unfold markP
    rw [List.drop_append, List.drop_eq_nil_of_le (by decide), List.nil_append, List.drop_replicate]
    rfl
  rw [h1, h2]
  rfl
def headR (d : Dk) (base : Nat) : Int × Dk := if d.due then (20, d.write 0 (headB base)) else ((d.write 0 (headB base)).err, (d.write 0 (headB base)).flush)
theorem Dk.write_live {d : Dk} (h : d.due = false) (hd : d.dead = false) (i : Nat) (s : Sec) : (d.write i s).dead = false := by
  unfold Dk.write
  rw [h]
  exact hd
theorem Dk.write_len (d : Dk) (i : Nat) (s : Sec) : (d.write i s).lasts.length = d.lasts.length := by
  unfold Dk.write
  split
  · simp [Dk.wrote, Dk.crashed, Dk.settled, settle_length]
  · rfl
theorem slice74_all (w : World) (S : Nat) : (Instr.sliceAt 74 (.pointer (some ⟨S, 0, none⟩)) none none none).run Tryz.prog w = .ok (.slice (some ⟨S, 0, none⟩) 512 512) w := by
  have hs : (Tryz.prog.info? 5).map (·.size) = some 1 := info5s
  go_simp
set_option maxHeartbeats 1000000 in
theorem head_any {w : World} {D : Nat} {F : Nat → Prop} {d : Dk} (h : DiskAt w D F d) (hd : d.dead = false) (hl : 1 ≤ d.lasts.length) {n : Nat} (hf : d.Few n) (hn : n ≤ 900000) {base : Nat} (hb : base < 9223372036854775808) :
    Calls Tryz.prog 67 #[.pointer (some ⟨D, 0, none⟩), .int .i64 (base : Int)] w fun e w' => e = .returned (.int .i64 (headR d base).1) ∧ ∃ F', DiskAt w' D F' (headR d base).2 ∧ Kept F F' w w' := by
  have hrow := page_zero w
  have ob : Only None' w (w.alloc (.cells Tryz.zeroCells74 74)) := (Only.refl _ _).alloc _
  have hfree := fun j (hj : j < 8) => hrow.free0 (k := j) (by omega)
  obtain ⟨wc, hwc⟩ : ∃ wc, wc = (w.alloc (.cells Tryz.zeroCells74 74)).setCells w.heap.size 0 (bv markB) := ⟨_, rfl⟩
  have hmark : Vec wc 1 (.slice (some ⟨w.heap.size, 0, none⟩) 512 512) 512 (bv markP) := by
    have h1 := hrow.put (o := 0) (vs := bv markB) (by decide)
    rw [Nat.zero_add] at h1
    rw [hwc]
    have e : (bv zs).take 0 ++ bv markB ++ (bv zs).drop (0 + (bv markB).length) = bv markP := by
      rw [List.take_zero, List.nil_append, show (0 + (bv markB).length) = 8 from rfl]
      unfold markP bv zs
      rw [List.map_append, ← List.map_drop, List.drop_replicate]
    rw [e] at h1
    exact h1
  have oc : Only None' w wc := by rw [hwc]; exact ob.trans2 ((Only.refl (fun k => k = w.heap.size) _).setCells rfl 0 _) fun k hk e => by omega
  have HFR := Lib.hid hfree
  have HWC := Lib.hid hwc
  obtain ⟨B, hB⟩ : ∃ B, B = w.heap.size := ⟨_, rfl⟩
  rw [← hB] at hmark
  have HM := Lib.hid (And.intro hmark (And.intro oc hB))
  have HP := Lib.hid (put_any (g := B) (off := 8) (m := 8) (cap := 504) hmark (by omega) (by omega) (base : Int) (by omega) (by omega))
  have HD := Lib.hid h
  have HF := Lib.hid (And.intro hd (And.intro hl (And.intro hf hn)))
  have HBB := Lib.hid hb
  have hs1 := slice74_all
  have hs2 : ∀ w, (Instr.sliceAt 74 (.pointer (some ⟨B, 0, none⟩)) (some (.int .i64 8)) (some (.int .i64 16)) none).run Tryz.prog w = .ok (.slice (some ⟨B, 8, none⟩) 8 504) w := slice74 B 8 16 (by decide) (by decide) (by decide)
  clear hrow ob h hd hl hf hn hb hmark oc hfree hwc
  go_enter Tryz.func67, Tryz.ntmps67
  go_wp2_with (first | (refine wpList_copy_string rfl _ _ rfl w.heap.size 0 512 512 rfl markB rfl (by decide) (fun j hj => by rw [Nat.zero_add]; exact HFR.out j hj) ?_; rw [← HWC.out]; clear HWC HFR))

  subst hB
  refine HP.out.mono ?_
  rintro e w2 ⟨rfl, hv, ho⟩
  have hlen : (word (base : Int)) = base := word_nat (by have := HBB.out; omega)
  rw [hlen, head_is] at hv
  have oX : Only None' w w2 := HM.out.2.1.trans2 ho fun k hk e => by have := HM.out.2.2; omega
  have HV := Lib.hid (And.intro hv oX)
  obtain ⟨i, hi⟩ : ∃ i, i = (d.write 0 (headB base)) := ⟨_, rfl⟩
  have HW := Lib.hid (write_any (i := 0) (HD.out.new oX) HF.out.1 HF.out.2.1 hv.rd (fun g hg hF => by injection hg with hg; have := HD.out.lt hF; have := HM.out.2.2; have hg' : w.heap.size = g := hg; omega) (headB_len base) HF.out.2.2.1 (by have := HF.out.2.2.2; omega))
  clear hv ho oX
  cases hdue : d.due with
  | true =>
    rw [hdue, ← hi] at HW
    have HR : Hid (headR d base = (20, i)) := Lib.hid (by unfold headR; rw [hdue, if_pos rfl, hi])
    go_wp2_with fail
    refine HW.out.mono ?_
    rintro e w3 ⟨rfl, F', hD', hK⟩
    have HZ := Lib.hid (And.intro hD' hK)
    clear hD' hK
    simp only [if_true]
    go_wp2_with fail
    go_ret
    rw [HR.out]
    exact ⟨rfl, F', HZ.out.1, (Kept.new HV.out.2).trans HZ.out.2⟩
  | false =>
    rw [hdue, ← hi] at HW
    have HR : Hid (headR d base = (i.err, i.flush)) := Lib.hid (by unfold headR; rw [hdue, if_neg (by decide), hi])
    have HI : Hid (i.dead = false ∧ i.Few (n + 1)) := Lib.hid ⟨by rw [hi]; exact Dk.write_live hdue HF.out.1 _ _, by rw [hi]; exact HF.out.2.2.1.write _ _⟩
    go_wp2_with fail
    refine HW.out.mono ?_
    rintro e w3 ⟨rfl, F', hD', hK⟩
    have HZ := Lib.hid (And.intro hD' hK)
    have HFL := flush_any hD' HI.out.1 HI.out.2 (by have := HF.out.2.2.2; omega)
    obtain ⟨ec, hec⟩ : ∃ ec, ec = i.err := ⟨_, rfl⟩
    change Calls _ _ _ _ (fun r w' => r = .returned (.int .i64 i.err) ∧ _) at HFL
    rw [← hec] at HFL HR
    have HFL := Lib.hid HFL
    clear hec
    clear hD' hK
    simp only [Bool.false_eq_true, if_false]
    go_wp2_with fail
    refine HFL.out.mono ?_
    rintro e w4 ⟨rfl, F2, hD2, hK2⟩
    have HY := Lib.hid (And.intro hD2 hK2)
    clear hD2 hK2
    go_wp2_with fail
    go_ret
    rw [HR.out]
    exact ⟨rfl, F2, HY.out.1, ((Kept.new HV.out.2).trans HZ.out.2).trans HY.out.2⟩
theorem places_any {w : World} {D : Nat} {F : Nat → Prop} {d : Dk} (h : DiskAt w D F d) : Calls Tryz.prog 55 #[.pointer (some ⟨D, 0, none⟩)] w fun e w' => e = .returned (.int .i64 ((d.lasts.length / 4 : Nat) : Int)) ∧ w = w' := by
  have HL := Lib.hid (len_any h)
  have hm := h.ok.many
  obtain ⟨n, hn⟩ : ∃ n, n = d.lasts.length := ⟨_, rfl⟩
  rw [← hn] at HL hm ⊢
  have n0 : (0 : Int) ≤ (n : Int) := by omega
  have n1 : (n : Int) ≤ 65536 := by omega
  clear hm hn h
  go_enter Tryz.func55, Tryz.ntmps55
  go_wp2_with fail
  refine HL.out.mono ?_
  rintro e w1 ⟨rfl, rfl⟩
  go_wp2_with fail
  go_ret
  exact ⟨rfl, rfl⟩
end Go.Proofs.YteoeaojebklfjaaGreatDoor
