/- CallOnce: the state, and its steps. -/
import Derived.Test.YtehoiapadnbklaaT1
namespace Go.Proofs.Ytehoiapadnbklaa
open Go.RowKit Go.Maps
set_option linter.unusedVariables false

theorem find_none {ws : List Wt} {n : Int} (h : ∀ x ∈ ws, x.req ≠ n) : (ws.find? fun x => decide (x.req = n)) = none := by
  rw [List.find?_eq_none]
  intro x hx
  simpa using h x hx
theorem Cl.find_asked {c : Cl} (h : c.Ok) {key : ByteArray} {client id now n : Int} (hn : n ≤ (c.top : Int)) : (c.asked key client id now).find n = c.find n := by
  unfold Cl.find Cl.asked
  rw [List.find?_append]
  have : ([(⟨((c.life * 1048576 + c.given + 1 : Nat) : Int), key, client, id, now, now, false⟩ : Wt)].find? fun x => decide (x.req = n)) = none := by
    refine find_none fun x hx => ?_
    simp at hx
    subst hx
    unfold Cl.top at hn
    simp only
    omega
  rw [this, Option.or_none]
theorem Cl.find_new {c : Cl} (h : c.Ok) {key : ByteArray} {client id now : Int} : (c.asked key client id now).find ((c.life * 1048576 + c.given + 1 : Nat) : Int) = some ⟨((c.life * 1048576 + c.given + 1 : Nat) : Int), key, client, id, now, now, false⟩ := by
  unfold Cl.find Cl.asked
  have : (c.ws.find? fun x => decide (x.req = ((c.life * 1048576 + c.given + 1 : Nat) : Int))) = none := by
    refine find_none fun x hx => ?_
    have := (h.num x hx).2
    unfold Cl.top at this
    omega
  rw [List.find?_append, this]
  simp
theorem Cl.find_told (c : Cl) (n m : Int) : (c.told n).find m = if m = n then none else c.find m := by
  unfold Cl.find Cl.told
  split
  · subst m
    refine find_none fun x hx => ?_
    simpa using (List.mem_filter.1 hx).2
  · rename_i hne
    rw [List.find?_filter]
    congr 1
    funext x
    by_cases e : x.req = m
    · simp [e, hne]
    · simp [e]
theorem Cl.find_req {c : Cl} {n : Int} {x : Wt} (h : c.find n = some x) : x.req = n ∧ x ∈ c.ws := by
  unfold Cl.find at h
  exact ⟨by simpa using List.find?_some h, List.mem_of_find?_eq_some h⟩

/-- the numbers of lives that were -/
def Past (lives : List Nat) (k : Nat) (n : Int) : Prop := ∃ j l, j < k ∧ lives[j]? = some l ∧ ((l * 1048576 : Nat) : Int) < n ∧ n ≤ ((l * 1048576 + 1048575 : Nat) : Int)
structure OHead (w wr : World) (lv : Value) (G nG : Nat) (lives : List Nat) (k : Nat) (g : Int → Int) : Prop where
  only : Only None' w wr
  lrow : Vec wr 1 lv lives.length (lives.map fun x : Nat => Value.int .i64 (x : Int))
  g_ : IMap wr G nG g
  lvG : ∀ q, lv.ownBlock = some q → w.heap.size ≤ q ∧ q < G
  new : w.heap.size ≤ G
  old : ∀ n, g n ≠ 0 → Past lives k n
structure Lives (lives : List Nat) : Prop where
  nodup : lives.Nodup
  one : ∀ l ∈ lives, 1 ≤ l ∧ l ≤ 2047
  few : lives.length ≤ 2
structure OIn (w wr : World) (lv : Value) (G nG B M T nT : Nat) (lives : List Nat) (k i : Nat) (c : Cl) (g t : Int → Int) (mv : Value) (mine : List Int) : Prop where
  only : Only None' w wr
  lrow : Vec wr 1 lv lives.length (lives.map fun x : Nat => Value.int .i64 (x : Int))
  g_ : IMap wr G nG g
  lvG : ∀ q, lv.ownBlock = some q → w.heap.size ≤ q ∧ q < G
  new : w.heap.size ≤ G
  c_ : CallAt wr B M c
  t_ : IMap wr T nT t
  mrow : Vec wr 1 mv mine.length (mine.map (Value.int .i64))
  gb : G < B ∧ G < M
  bt : B < T ∧ M < T
  mt : ∀ q, mv.ownBlock = some q → T < q
  life : lives[k]? = some c.life
  old : ∀ n, g n ≠ 0 → Past lives k n ∨ (((c.life * 1048576 : Nat) : Int) < n ∧ n ≤ (c.top : Int))
  tn : ∀ n, t n ≠ 0 → n ∈ mine
  ok : ∀ n ∈ mine, ((c.life * 1048576 : Nat) : Int) < n ∧ n ≤ (c.top : Int) ∧ 0 ≤ t n ∧ t n ≤ (i : Int) ∧ (c.find n).isSome = decide (t n = 0)
  small : mine.length ≤ i ∧ nT ≤ i
section
variable {w wr w1 w2 w3 : World} {lv mv mv' : Value} {G nG B M T nT k i : Nat} {lives : List Nat} {c : Cl} {g t : Int → Int} {mine : List Int}
theorem OIn.new_ (h : OIn w wr lv G nG B M T nT lives k i c g t mv mine) (o : Only None' wr w1) : OIn w w1 lv G nG B M T nT lives k i c g t mv mine :=
  ⟨h.only.trans o, h.lrow.only o fun _ _ e => e, h.g_.only o fun e => e, h.lvG, h.new, h.c_.new o, h.t_.only o fun e => e, h.mrow.only o fun _ _ e => e, h.gb, h.bt, h.mt, h.life, h.old, h.tn, h.ok, h.small⟩
theorem OIn.later {j : Nat} (h : OIn w wr lv G nG B M T nT lives k i c g t mv mine) (hj : i ≤ j) : OIn w wr lv G nG B M T nT lives k j c g t mv mine :=
  ⟨h.only, h.lrow, h.g_, h.lvG, h.new, h.c_, h.t_, h.mrow, h.gb, h.bt, h.mt, h.life, h.old, h.tn, fun n hn => by obtain ⟨a, b, c, d, e⟩ := h.ok n hn; exact ⟨a, b, c, by omega, e⟩, ⟨by have := h.small; omega, by have := h.small; omega⟩⟩
/-- a fresh number -/
theorem OIn.unseen (h : OIn w wr lv G nG B M T nT lives k i c g t mv mine) (L : Lives lives) : g ((c.life * 1048576 + c.given + 1 : Nat) : Int) = 0 := by
  refine Classical.byContradiction fun hne => ?_
  rcases h.old _ hne with ⟨j, l, hj, hl, h1, h2⟩ | ⟨_, h2⟩
  · have hlk := h.life
    have hg := h.c_.ok.g
    have : l ≠ c.life := fun e => by
      subst e
      have := (List.getElem?_inj (i := j) (j := k) (by have := (List.getElem?_eq_some_iff.1 hlk).1; omega) L.nodup).1 (hl.trans hlk.symm)
      omega
    rcases Nat.lt_or_gt_of_ne this with h3 | h3
    · have : (l + 1) * 1048576 ≤ c.life * 1048576 := Nat.mul_le_mul_right _ h3
      omega
    · have : (c.life + 1) * 1048576 ≤ l * 1048576 := Nat.mul_le_mul_right _ h3
      omega
  · unfold Cl.top at h2
    omega
theorem OIn.asked (h : OIn w wr lv G nG B M T nT lives k i c g t mv mine) {key : ByteArray} {client id now v : Int} {o : Obj} (hok : (c.asked key client id now).Ok)
    (h1 : CallAt w1 B M (c.asked key client id now)) (o1 : Only (fun k => k = B ∨ k = M) wr w1) (hg : IMap w2 G (nG + 1) (upd g ((c.life * 1048576 + c.given + 1 : Nat) : Int) v)) (o2 : Only (fun k => k = G) w1 w2)
    (hv : Vec w3 1 mv' (mine.length + 1) (mine.map (Value.int .i64) ++ [.int .i64 ((c.life * 1048576 + c.given + 1 : Nat) : Int)])) (hg3 : (w2.alloc o).grownBy w3 mv.ownBlock) (hf : ∀ q, mv'.ownBlock = some q → mv.ownBlock = some q ∨ (w2.alloc o).heap.size ≤ q) :
    OIn w w3 lv G (nG + 1) B M T nT lives k (i + 1) (c.asked key client id now) (upd g ((c.life * 1048576 + c.given + 1 : Nat) : Int) v) t mv' (mine ++ [((c.life * 1048576 + c.given + 1 : Nat) : Int)]) := by
  have oa : Only None' w2 (w2.alloc o) := (Only.refl _ _).alloc _
  have o3 : Only (fun q => mv.ownBlock = some q) (w2.alloc o) w3 := (Only.refl _ _).grown hg3 fun q hq => hq
  have hsz : (w2.alloc o).heap.size = w2.heap.size + 1 := by simp
  have hws := h.only.size
  have s1 := o1.size
  have s2 := o2.size
  obtain ⟨gb1, gb2⟩ := h.gb
  obtain ⟨bt1, bt2⟩ := h.bt
  have hT := h.t_.lt
  have hnew := h.new
  have hmB : ∀ q, mv.ownBlock = some q → q ≠ B ∧ q ≠ M ∧ q ≠ G ∧ q ≠ T := fun q hq => by have := h.mt q hq; omega
  have hnot : ∀ q, q ≤ T → ¬ mv.ownBlock = some q := fun q hq e => by have := h.mt q e; omega
  refine ⟨?_, ?_, ?_, h.lvG, h.new, ?_, ?_, ?_, h.gb, h.bt, ?_, h.life, ?_, ?_, ?_, ?_⟩
  · exact (((h.only.trans2 o1 fun q hq e => by omega).trans2 o2 fun q hq e => by omega).trans oa).trans2 o3 fun q hq e => by have := h.mt q e; omega
  · have hl : ∀ q, lv.ownBlock = some q → q < G := fun q hq => (h.lvG q hq).2
    exact (((h.lrow.only o1 fun q hq e => by have := hl q hq; omega).only o2 fun q hq e => by have := hl q hq; omega).only oa fun _ _ e => e).only o3 fun q hq e => by have := hl q hq; have := h.mt q e; omega
  · exact (hg.only oa fun e => e).only o3 (hnot G (by omega))
  · exact ((h1.only o2 (by omega) (by omega)).new oa).only o3 (hnot B (by omega)) (hnot M (by omega))
  · exact (((h.t_.only o1 (by omega)).only o2 (by omega)).only oa fun e => e).only o3 (hnot T (by omega))
  · rw [List.length_append, List.length_singleton, List.map_append]; exact hv
  · intro q hq
    rcases hf q hq with e | e
    · exact h.mt q e
    · omega
  · intro n hn
    unfold upd at hn
    by_cases e : n = ((c.life * 1048576 + c.given + 1 : Nat) : Int)
    · subst e
      refine Or.inr ⟨?_, ?_⟩
      · show ((c.life * 1048576 : Nat) : Int) < _
        omega
      · show _ ≤ ((c.life * 1048576 + (c.given + 1) : Nat) : Int)
        omega
    · rw [if_neg e] at hn
      rcases h.old n hn with h2 | ⟨h2, h3⟩
      · exact Or.inl h2
      · refine Or.inr ⟨h2, ?_⟩
        show n ≤ ((c.life * 1048576 + (c.given + 1) : Nat) : Int)
        unfold Cl.top at h3
        omega
  · intro n hn
    exact List.mem_append_left _ (h.tn n hn)
  · intro n hn
    rcases List.mem_append.1 hn with hn | hn
    · obtain ⟨a1, a2, a3, a4, a5⟩ := h.ok n hn
      refine ⟨a1, ?_, a3, by omega, ?_⟩
      · show n ≤ ((c.life * 1048576 + (c.given + 1) : Nat) : Int)
        unfold Cl.top at a2
        omega
      · rw [Cl.find_asked h.c_.ok a2]; exact a5
    · simp only [List.mem_singleton] at hn
      have ht : t n = 0 := Classical.byContradiction fun e => by
        have := (h.ok n (h.tn n e)).2.1
        unfold Cl.top at this
        omega
      refine ⟨?_, ?_, by omega, by omega, ?_⟩
      · show ((c.life * 1048576 : Nat) : Int) < n
        omega
      · show n ≤ ((c.life * 1048576 + (c.given + 1) : Nat) : Int)
        omega
      · rw [ht, hn, Cl.find_new h.c_.ok]; rfl
  · have := h.small
    rw [List.length_append, List.length_singleton]
    omega
theorem OIn.told (h : OIn w wr lv G nG B M T nT lives k i c g t mv mine) {n : Int} (hn : n ∈ mine) (h1 : CallAt w1 B M (c.told n)) (o1 : Only (fun k => k = B ∨ k = M) wr w1) (o2 : Only None' w1 w2) (ht : IMap w3 T (nT + 1) (upd t n (t n + 1))) (o3 : Only (fun k => k = T) w2 w3) :
    OIn w w3 lv G nG B M T (nT + 1) lives k (i + 1) (c.told n) g (upd t n (t n + 1)) mv mine := by
  have hws := h.only.size
  obtain ⟨gb1, gb2⟩ := h.gb
  obtain ⟨bt1, bt2⟩ := h.bt
  have hnew := h.new
  have hl : ∀ q, lv.ownBlock = some q → q < G := fun q hq => (h.lvG q hq).2
  refine ⟨?_, ?_, ?_, h.lvG, h.new, ?_, ht, ?_, h.gb, h.bt, h.mt, h.life, h.old, ?_, ?_, ?_⟩
  · exact ((h.only.trans2 o1 fun q hq e => by omega).trans o2).trans2 o3 fun q hq e => by omega
  · exact ((h.lrow.only o1 fun q hq e => by have := hl q hq; omega).only o2 fun _ _ e => e).only o3 fun q hq e => by have := hl q hq; omega
  · exact ((h.g_.only o1 (by omega)).only o2 fun e => e).only o3 (by omega)
  · exact (h1.new o2).only o3 (by omega) (by omega)
  · exact ((h.mrow.only o1 fun q hq e => by have := h.mt q hq; omega).only o2 fun _ _ e => e).only o3 fun q hq e => by have := h.mt q hq; omega
  · intro m hm
    unfold upd at hm
    by_cases e : m = n
    · rw [e]; exact hn
    · rw [if_neg e] at hm
      exact h.tn m hm
  · intro m hm
    obtain ⟨a1, a2, a3, a4, a5⟩ := h.ok m hm
    refine ⟨a1, a2, ?_⟩
    rw [Cl.find_told]
    unfold upd
    by_cases e : m = n
    · subst e
      rw [if_pos rfl, if_pos rfl]
      refine ⟨by omega, by omega, ?_⟩
      have : ¬ t m + 1 = 0 := by omega
      simp [this]
    · rw [if_neg e, if_neg e]
      exact ⟨a3, by omega, a5⟩
  · have := h.small
    omega
theorem OIn.head (h : OIn w wr lv G nG B M T nT lives k i c g t mv mine) (hk : lives[k]? = some c.life) : OHead w wr lv G nG lives (k + 1) g := by
  refine ⟨h.only, h.lrow, h.g_, h.lvG, h.new, fun n hn => ?_⟩
  rcases h.old n hn with ⟨j, l, hj, hl, h1⟩ | ⟨h1, h2⟩
  · exact ⟨j, l, by omega, hl, h1⟩
  · refine ⟨k, c.life, by omega, hk, h1, ?_⟩
    have := h.c_.ok.g
    unfold Cl.top at h2
    omega
end
end Go.Proofs.Ytehoiapadnbklaa
