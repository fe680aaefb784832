/- A shelf by its entries alone; Put, Get, Drop, Sweep each by one contract. -/
import Derived.Test.YthmdaekkpihlnaaW4
namespace Go.Proofs.Ythmdaekkpihlnaa
open Go.RowKit Go.Maps
set_option linter.unusedVariables false

def es (l : List Node) : List Ent := l.map (·.2)
def pdrop (l : List Ent) (k : ByteArray) : List Ent := l.filter fun e => !decide (e.key = k)
def phas (l : List Ent) (k : ByteArray) : Bool := l.any fun e => decide (e.key = k)
def pbytes (l : List Ent) : Nat := (l.map fun e => e.key.size + e.val.size).sum
def pover (E Y : Int) (l : List Ent) : Bool := decide (E < (l.length : Int)) || decide (Y < (pbytes l : Int))
def pevict (E Y : Int) : List Ent → List Ent
  | [] => []
  | x :: r => if pover E Y (x :: r) then pevict E Y r else x :: r
def plive (now : Int) (l : List Ent) : List Ent := l.filter fun e => decide (now < e.til)
def pgone (now : Int) (l : List Ent) : Nat := (l.filter fun e => decide (e.til ≤ now)).length
def pfits (E Y : Int) (e : Ent) : Bool := !(decide (E = 0) || decide (Y < (e.key.size : Int) + (e.val.size : Int)))
def pput (E Y : Int) (l : List Ent) (e : Ent) : List Ent := if pfits E Y e then pevict E Y (pdrop l e.key ++ [e]) else pdrop l e.key
def pfind (l : List Ent) (k : ByteArray) : Option Ent := l.find? fun e => decide (e.key = k)
def pget (l : List Ent) (k : ByteArray) (now : Int) : Option Ent := (pfind l k).filter fun e => decide (now < e.til)
def pgot (l : List Ent) (k : ByteArray) (now : Int) : List Ent := match pfind l k with
  | none => l
  | some e => if now < e.til then pdrop l k ++ [e] else pdrop l k
def zent : Ent := ⟨⟨#[]⟩, ⟨#[]⟩, 0, 0⟩

theorem es_length (l : List Node) : (es l).length = l.length := by simp [es]
theorem es_append (p q : List Node) : es (p ++ q) = es p ++ es q := by simp [es]
theorem es_drop (l : List Node) (k : ByteArray) : es (dropKey l k) = pdrop (es l) k := by
  simp [es, dropKey, pdrop, List.filter_map]; rfl
theorem es_has (l : List Node) (k : ByteArray) : hasKey l k = phas (es l) k := by
  simp [es, hasKey, phas, List.any_map]; rfl
theorem es_bytes (l : List Node) : bytesOf l = pbytes (es l) := by
  simp [es, bytesOf, pbytes, List.map_map]; rfl
theorem es_over (E Y : Int) (l : List Node) : over E Y l = pover E Y (es l) := by
  simp [over, pover, es_bytes, es_length]
theorem es_evict (E Y : Int) : ∀ l : List Node, es (evict E Y l) = pevict E Y (es l)
  | [] => rfl
  | x :: r => by
    show es (if over E Y (x :: r) then evict E Y r else x :: r) = if pover E Y (x.2 :: es r) then pevict E Y (es r) else x.2 :: es r
    rw [es_over]
    show es (if pover E Y (x.2 :: es r) then evict E Y r else x :: r) = _
    split
    · exact es_evict E Y r
    · rfl
theorem es_live (now : Int) (l : List Node) : es (live now l) = plive now (es l) := by
  simp [es, live, plive, List.filter_map]; rfl
theorem es_gone (now : Int) (l : List Node) : gone now l = pgone now (es l) := by
  simp only [es, gone, pgone, List.filter_map, List.length_map]; rfl

/-- only what F has turns; F' has no more than F and what is new -/
structure Kept (F F' : Nat → Prop) (w w' : World) : Prop where
  only : Only F w w'
  fresh : ∀ k, F' k → F k ∨ w.heap.size ≤ k

theorem Kept.refl (F : Nat → Prop) (w : World) : Kept F F w w := ⟨Only.refl _ _, fun _ h => .inl h⟩
theorem Kept.trans {F F' F'' : Nat → Prop} {a b c : World} (h : Kept F F' a b) (k : Kept F' F'' b c) : Kept F F'' a c :=
  ⟨h.only.trans2 k.only fun i hi hF => (h.fresh i hF).resolve_right (by omega), fun i hi => by
    rcases k.fresh i hi with h1 | h1
    · exact h.fresh i h1
    · exact .inr (Nat.le_trans h.only.size h1)⟩
theorem Kept.mono {F F' G : Nat → Prop} {w w' : World} (h : Kept F F' w w') (hs : ∀ k, k < w.heap.size → F k → G k) (hg : ∀ k, G k → G k) : Kept G (fun k => G k ∨ F' k) w w' :=
  ⟨h.only.mono hs, fun k hk => by
    rcases hk with hk | hk
    · exact .inl hk
    · rcases h.fresh k hk with h1 | h1
      · rcases Nat.lt_or_ge k w.heap.size with h2 | h2
        · exact .inl (hs k h2 h1)
        · exact .inr h2
      · exact .inr h1⟩
theorem Kept.only' {F : Nat → Prop} {w w' : World} (h : Only F w w') : Kept F F w w' := ⟨h, fun _ h => .inl h⟩

theorem evict_mem {E Y : Int} {l : List Node} {y : Node} (h : y ∈ evict E Y l) : y ∈ l := by
  obtain ⟨p, hp⟩ := evict_sub E Y l
  rw [hp]; exact List.mem_append_right _ h

theorem own_mem {B M : Nat} {l : List Node} {k : Nat} (h : Own B M l k) : k = B ∨ k = M ∨ ∃ y ∈ l, y.1 = k := by
  rcases h with h | h | h
  · exact .inl h
  · exact .inr (.inl h)
  · obtain ⟨y, hy, e⟩ := List.mem_map.1 h
    exact .inr (.inr ⟨y, hy, e⟩)

theorem put_any {m : Nat} {w : World} {B M : Nat} {E Y : Int} {l : List Node} (S : Shelf m w B M E Y l) (hm : m ≤ w.heap.size) (e : Ent) (hk : e.key.size ≤ 140737488355328) (hv : e.val.size ≤ 140737488355328) (hE0 : 0 ≤ E) (hY0 : 0 ≤ Y) (hl : l.length < 1000) :
    Calls Try.prog 10 #[.pointer (some ⟨B, 0, none⟩), .agg #[.string e.key, .string e.val, .int .i64 e.til, .int .i64 e.gra]] w fun r w' =>
      r = .returned (.int .i64 (if pfits E Y e then 0 else 40)) ∧ ∃ l', Shelf m w' B M E Y l' ∧ es l' = pput E Y (es l) e ∧ Kept (Own B M l) (Own B M l') w w' := by
  have hd : ∀ k, Own B M (dropKey l e.key) k → Own B M l k := fun k h => own_sub (fun y hy => (List.mem_filter.1 hy).1) h
  by_cases h1 : E = 0
  · subst h1
    refine (put_zero S e hk hv).mono ?_
    rintro r w' ⟨rfl, hS, hO⟩
    have hf : pfits 0 Y e = false := by simp [pfits]
    exact ⟨by rw [hf]; rfl, _, hS, by unfold pput; rw [hf, es_drop]; rfl, hO, fun k hk => .inl (hd k hk)⟩
  · have e1 : (E == 0) = false := by simpa using h1
    by_cases h2 : Y < (e.key.size : Int) + (e.val.size : Int)
    · refine (put_refuse S e hk hv e1 h2).mono ?_
      rintro r w' ⟨rfl, hS, hO⟩
      have hf : pfits E Y e = false := by simp [pfits, h2]
      exact ⟨by rw [hf]; rfl, _, hS, by unfold pput; rw [hf, es_drop]; rfl, hO, fun k hk => .inl (hd k hk)⟩
    · refine (put_fits S hm e hk hv hE0 e1 hY0 (by simpa using h2) hl).mono ?_
      rintro r w' ⟨rfl, x, hx, hS, hO⟩
      have hf : pfits E Y e = true := by simp [pfits, h1, h2]
      refine ⟨by rw [hf]; rfl, _, hS, by unfold pput; rw [hf, es_evict, es_append, es_drop]; rfl, hO, fun k hk => ?_⟩
      rcases own_mem hk with h | h | ⟨y, hy, rfl⟩
      · exact .inl (.inl h)
      · exact .inl (.inr (.inl h))
      · rcases List.mem_append.1 (evict_mem hy) with hy | hy
        · exact .inl (.inr (.inr (List.mem_map.2 ⟨y, (List.mem_filter.1 hy).1, rfl⟩)))
        · simp at hy; subst hy; exact .inr hx

theorem pfind_none {l : List Node} {k : ByteArray} (h : hasKey l k = false) : pfind (es l) k = none := by
  simp only [hasKey, List.any_eq_false, decide_eq_true_eq] at h
  simp only [pfind, es, List.find?_eq_none, List.mem_map]
  rintro e ⟨y, hy, rfl⟩
  simpa using h y hy

theorem pfind_mid {p q : List Node} {x : Node} (h : ((p ++ x :: q).map (·.2.key)).Nodup) : pfind (es (p ++ x :: q)) x.2.key = some x.2 := by
  unfold pfind
  rw [es_append, List.find?_append]
  have : (es p).find? (fun e => decide (e.key = x.2.key)) = none := by
    simp only [List.find?_eq_none, es, List.mem_map]
    rintro e ⟨y, hy, rfl⟩
    simp only [List.map_append, List.map_cons, List.nodup_append, List.nodup_cons, List.mem_map, List.mem_cons] at h
    simpa using h.2.2 y.2.key ⟨y, hy, rfl⟩ x.2.key (.inl rfl)
  rw [this]
  simp [es]

theorem Shelf.keys {m : Nat} {w : World} {B M : Nat} {E Y : Int} {l : List Node} (S : Shelf m w B M E Y l) : (l.map (·.2.key)).Nodup := by
  obtain ⟨D, _, hD⟩ := S.map; exact hD.keys

theorem get_any {m : Nat} {w : World} {B M : Nat} {E Y : Int} {l : List Node} (S : Shelf m w B M E Y l) (k : ByteArray) (now : Int) (hk : k.size ≤ 140737488355328) :
    Calls Try.prog 12 #[.pointer (some ⟨B, 0, none⟩), .string k, .int .i64 now] w fun r w' =>
      ∃ g b, g = (pget (es l) k now).getD zent ∧ b = (pget (es l) k now).isSome ∧ r = .returned (.tuple #[.agg #[.string g.key, .string g.val, .int .i64 g.til, .int .i64 g.gra], .bool b]) ∧
      ∃ l', Shelf m w' B M E Y l' ∧ es l' = pgot (es l) k now ∧ Kept (Own B M l) (Own B M l') w w' := by
  cases hh : hasKey l k with
  | false =>
    have hf := pfind_none hh
    refine (get_none S k now hk hh).mono ?_
    rintro r w' ⟨rfl, hS, hO⟩
    refine ⟨zent, false, by simp [pget, hf], by simp [pget, hf], rfl, l, hS, by simp [pgot, hf], Kept.only' (hO.mono fun _ _ h => h.elim)⟩
  | true =>
    obtain ⟨p, x, q, rfl, rfl⟩ := has_split hh
    have hf := pfind_mid S.keys
    have hdk : pdrop (es (p ++ x :: q)) x.2.key = es (p ++ q) := by rw [← es_drop, dropKey_mid S.keys]
    by_cases hn : x.2.til ≤ now
    · have hn' : ¬ now < x.2.til := by omega
      refine (get_ended S now hn).mono ?_
      rintro r w' ⟨rfl, hS, hO⟩
      refine ⟨zent, false, by simp [pget, hf, Option.filter, hn'], by simp [pget, hf, Option.filter, hn'], rfl, _, hS, by simp only [pgot, hf]; rw [if_neg hn', hdk], hO, fun k hk => .inl (own_sub (fun y hy => ?_) hk)⟩
      rcases List.mem_append.1 hy with hy | hy <;> simp [hy]
    · have hn' : now < x.2.til := by omega
      refine (get_live S now hn).mono ?_
      rintro r w' ⟨rfl, hS, hO⟩
      refine ⟨x.2, true, by simp [pget, hf, Option.filter, hn'], by simp [pget, hf, Option.filter, hn'], rfl, _, hS, by simp only [pgot, hf]; rw [if_pos hn', hdk, es_append]; rfl, hO, fun k hk => .inl (own_sub (fun y hy => ?_) hk)⟩
      simp only [List.mem_append, List.mem_singleton] at hy
      rcases hy with (hy | hy) | hy <;> simp [hy]

theorem drop_e {m : Nat} {w : World} {B M : Nat} {E Y : Int} {l : List Node} (S : Shelf m w B M E Y l) (k : ByteArray) (hk : k.size ≤ 140737488355328) :
    Calls Try.prog 16 #[.pointer (some ⟨B, 0, none⟩), .string k] w fun r w' => r = .returned (.bool (phas (es l) k)) ∧ ∃ l', Shelf m w' B M E Y l' ∧ es l' = pdrop (es l) k ∧ Kept (Own B M l) (Own B M l') w w' := by
  refine (drop_any S k hk).mono ?_
  rintro r w' ⟨rfl, hS, hO⟩
  exact ⟨by rw [es_has], _, hS, es_drop _ _, hO, fun k hk => .inl (own_sub (fun y hy => (List.mem_filter.1 hy).1) hk)⟩

theorem sweep_e {m : Nat} {w : World} {B M : Nat} {E Y : Int} {l : List Node} (S : Shelf m w B M E Y l) (now : Int) :
    Calls Try.prog 17 #[.pointer (some ⟨B, 0, none⟩), .int .i64 now] w fun r w' => r = .returned (.int .i64 (pgone now (es l) : Int)) ∧ ∃ l', Shelf m w' B M E Y l' ∧ es l' = plive now (es l) ∧ Kept (Own B M l) (Own B M l') w w' := by
  refine (sweep_any S now).mono ?_
  rintro r w' ⟨rfl, hS, hO⟩
  exact ⟨by rw [es_gone], _, hS, es_live _ _, hO, fun k hk => .inl (own_sub (fun y hy => (List.mem_filter.1 hy).1) hk)⟩

def cellsOf (l : List Ent) : List Value := l.flatMap Ent.cells
theorem ents_es (l : List Node) : ents l = cellsOf (es l) := by
  simp [ents, cellsOf, es, List.flatMap_map]

/-! ### of nil -/
theorem get_nil (k : ByteArray) (now : Int) (w : World) : Calls Try.prog 12 #[.pointer none, .string k, .int .i64 now] w fun r w' => r = .returned (.tuple #[.agg #[.string ⟨#[]⟩, .string ⟨#[]⟩, .int .i64 0, .int .i64 0], .bool false]) ∧ Only None' w w' := by
  go_enter Try.func12, Try.ntmps12
  go_wp2
  (try simp only [Exit.inBlock, Exit.then])
  refine bodyPost_ret (v := .tuple #[.agg #[.string ⟨#[]⟩, .string ⟨#[]⟩, .int .i64 0, .int .i64 0], .bool false]) ?_ rfl ⟨rfl, (Only.refl _ _).alloc _⟩
  rw [results_cell_tmp rfl]
  go_simp
theorem put_nil (e : Ent) (w : World) : Calls Try.prog 10 #[.pointer none, .agg #[.string e.key, .string e.val, .int .i64 e.til, .int .i64 e.gra]] w fun r w' => r = .returned (.int .i64 2) ∧ Only None' w w' := by
  go_enter Try.func10, Try.ntmps10
  go_wp2
  go_ret
  exact ⟨rfl, (Only.refl _ _).alloc _⟩
theorem drop_nil (k : ByteArray) (w : World) : Calls Try.prog 16 #[.pointer none, .string k] w fun r w' => r = .returned (.bool false) ∧ w = w' := by
  go_enter Try.func16, Try.ntmps16
  go_wp2
  go_ret
  exact ⟨rfl, rfl⟩
theorem each_nil (F : Nat) (cap : Array Value) (w : World) : Calls Try.prog 27 #[.pointer none, .func (.func F) #[] cap] w fun r w' => r = .returned (.tuple #[]) ∧ w = w' := by
  go_enter Try.func27, Try.ntmps27
  go_wp2
  exact bodyPost_ret (v := .tuple #[]) (by simp [results, Try.results27, go_sem]) rfl ⟨rfl, rfl⟩
theorem sweep_nil (now : Int) (w : World) : Calls Try.prog 17 #[.pointer none, .int .i64 now] w fun r w' => r = .returned (.int .i64 0) ∧ Only None' w w' := by
  go_enter Try.func17, Try.ntmps17
  go_wp2_with fail
  refine (each_nil _ _ _).mono ?_
  rintro e w' ⟨rfl, rfl⟩
  go_wp2
  go_ret
  exact ⟨rfl, (((Only.refl _ _).alloc _).alloc _).alloc _⟩
theorem len_nil' (w : World) : Calls Try.prog 14 #[.pointer none] w fun r w' => r = .returned (.int .i64 0) ∧ w = w' := by
  go_enter Try.func14, Try.ntmps14
  go_wp2
  go_ret
  exact ⟨rfl, rfl⟩
theorem bytes_nil (w : World) : Calls Try.prog 15 #[.pointer none] w fun r w' => r = .returned (.int .i64 0) ∧ w = w' := by
  go_enter Try.func15, Try.ntmps15
  go_wp2
  go_ret
  exact ⟨rfl, rfl⟩
theorem all_nil (w : World) : Calls Try.prog 13 #[.pointer none] w fun r w' => r = .returned (.slice none 0 0) ∧ Only None' w w' := by
  go_enter Try.func13, Try.ntmps13
  go_wp2_with fail
  refine (each_nil _ _ _).mono ?_
  rintro e w' ⟨rfl, rfl⟩
  go_wp2
  go_ret
  exact ⟨rfl, (Only.refl _ _).alloc _⟩

end Go.Proofs.Ythmdaekkpihlnaa
