/- Contract of push; the map to the links. -/
import Derived.Test.YtfmpidacklhmaaaU5
namespace Go.Proofs.Ytfmpidacklhmaaa.Lru
open Go.RowKit Go.Maps
set_option linter.unusedVariables false
set_option maxRecDepth 20000

theorem heap_size_setCell (w : World) (p : Addr) (v : Value) : (w.setCell p v).heap.size = w.heap.size := by simp [World.setCell]

/-- a link put last -/
theorem push_any {m : Nat} {w : World} {B M : Nat} {l : List Node} {x : Node} {a z : Option Nat} (h : Row m w B M l) (hx : Link w x.1 x.2 a z) (hnew : x.1 ∉ nums l) (hm : m ≤ x.1) (hlt : x.1 < w.heap.size) (hxB : x.1 ≠ B) (hxM : x.1 ≠ M) :
    Calls Try.prog 52 #[.pointer (some ⟨B, 0, none⟩), .pointer (some ⟨x.1, 0, none⟩)] w fun e w' => e = .returned (.tuple #[]) ∧ Row m w' B M (l ++ [x]) ∧ Rowed w w' B (x.1 :: nums l) := by
  have hBn : B ∉ nums l := fun hB => (h.mine B hB).2.2.1 rfl
  have hmine : ∀ k ∈ nums (l ++ [x]), m ≤ k ∧ k < w.heap.size ∧ k ≠ B ∧ k ≠ M := by
    intro k hk
    simp only [nums, List.map_append, List.map_cons, List.map_nil, List.mem_append, List.mem_singleton] at hk
    rcases hk with hk | rfl
    · exact h.mine k hk
    · exact ⟨hm, hlt, hxB, hxM⟩
  have hnd : (nums (l ++ [x])).Nodup := by
    simp only [nums, List.map_append, List.map_cons, List.map_nil, List.nodup_append]
    refine ⟨h.nodup, by simp, fun a ha b hb => ?_⟩
    simp at hb
    subst hb
    rintro rfl
    exact hnew ha
  rcases List.eq_nil_or_concat l with rfl | ⟨l', y, rfl⟩
  · refine (push_none w B x.1 h.last ⟨_, h.front⟩ ⟨_, hx.ahead⟩ ⟨_, hx.back⟩ h.thaw hx.thaw hxB).mono ?_
    rintro e w' ⟨rfl, rfl⟩
    have hL := (((hx.setAhead none).setBack none).far (p := ⟨B, 2, none⟩) hxB (pt (some x.1))).far (p := ⟨B, 3, none⟩) hxB (pt (some x.1))
    refine ⟨rfl, ⟨?_, ?_, ⟨hL, trivial⟩, hnd, ?_, h.mB, h.mM, h.BM, ?_, ?_⟩, ?_⟩
    · rw [World.cell?_setCell_other _ _ _ _ (off_ne (by decide))]
      refine World.cell?_setCell_same _ _ _ (u := pt none) ?_
      rw [cell_far hxB, cell_far hxB]; exact h.front
    · refine World.cell?_setCell_same _ _ _ (u := pt none) ?_
      rw [World.cell?_setCell_other _ _ _ _ (off_ne (by decide)), cell_far hxB, cell_far hxB]; exact h.last
    · simpa only [heap_size_setCell] using hmine
    · simpa only [heap_size_setCell] using h.ltB
    · intro o; simp only [World.frozen?_setCell]; exact h.thaw o
    · exact ((((Rowed.refl _ _ _).link (by simp) hxB _).link (by simp) hxB _).own (.inl rfl) _).own (.inr rfl) _
  · rw [List.concat_eq_append] at *
    have hyB : y.1 ≠ B := ne_of_row h (by simp)
    have hs := (seg_append l' [y] none none).1 h.seg
    have hy := hs.2.1
    have hxy : x.1 ≠ y.1 := fun e => hnew (by simp [nums, e])
    have hyn : y.1 ∉ nums l' := by
      have := h.nodup
      simp only [nums, List.map_append, List.map_cons, List.map_nil, List.nodup_append] at this
      intro hy'; exact this.2.2 y.1 hy' y.1 (by simp) rfl
    have hlast : w.cell? ⟨B, 3, none⟩ = some (.pointer (some ⟨y.1, 0, none⟩)) := by rw [h.last, lst_snoc]; rfl
    refine (push_mid w B x.1 y.1 hlast ⟨_, hx.ahead⟩ ⟨_, hx.back⟩ ⟨_, hy.back⟩ h.thaw hx.thaw hy.thaw hxB hyB hxy).mono ?_
    rintro e w' ⟨rfl, rfl⟩
    have hL := (((hx.setAhead (some y.1)).setBack none).far (p := ⟨y.1, 5, none⟩) hxy (pt (some x.1))).far (p := ⟨B, 3, none⟩) hxB (pt (some x.1))
    have hS : Seg ((((w.setCell ⟨x.1, 4, none⟩ (pt (some y.1))).setCell ⟨x.1, 5, none⟩ (pt none)).setCell ⟨y.1, 5, none⟩ (pt (some x.1))).setCell ⟨B, 3, none⟩ (pt (some x.1))) none (l' ++ [y]) (some x.1) :=
      (((h.seg.far (p := ⟨x.1, 4, none⟩) hnew _).far (p := ⟨x.1, 5, none⟩) hnew _).endBack hyn (some x.1)).far (p := ⟨B, 3, none⟩) hBn _
    refine ⟨rfl, ⟨?_, ?_, (seg_append (l' ++ [y]) [x] none none).2 ⟨hS, ?_, trivial⟩, hnd, ?_, h.mB, h.mM, h.BM, ?_, ?_⟩, ?_⟩
    · rw [World.cell?_setCell_other _ _ _ _ (off_ne (by decide)), cell_far hyB, cell_far hxB, cell_far hxB, h.front, hd_append (l' ++ [y]) [x]]
      rw [hd_snoc l' y none]
    · rw [lst_snoc]
      refine World.cell?_setCell_same _ _ _ (u := pt (lst (l' ++ [y]) none)) ?_
      rw [cell_far hyB, cell_far hxB, cell_far hxB]; exact h.last
    · rw [lst_snoc]; exact hL
    · simpa only [heap_size_setCell] using hmine
    · simpa only [heap_size_setCell] using h.ltB
    · intro o; simp only [World.frozen?_setCell]; exact h.thaw o
    · exact ((((Rowed.refl _ _ _).link (by simp) hxB _).link (by simp) hxB _).link (by simp [nums]) hyB _).own (.inr rfl) _

/-! ### the map -/
/-- how a pointer to a link reads -/
def ptrR : Value → Option (DataW Unit × List MemPlace)
  | .pointer none => some (.nil, [])
  | .pointer (some ⟨b, 0, none⟩) => some (.lit (.int .i64 (b : Int)), [])
  | _ => none

theorem ptrR_inv {v : Value} {b : Nat} {ps : List MemPlace} (h : ptrR v = some (.lit (.int .i64 (b : Int)), ps)) : v = .pointer (some ⟨b, 0, none⟩) := by
  unfold ptrR at h
  split at h
  · cases h
  · rename_i b'
    simp only [Option.some.injEq, Prod.mk.injEq, DataW.lit.injEq, Lit.int.injEq, true_and, Int.natCast_inj] at h
    rw [h.1]
  · cases h

def kl (k : ByteArray) : Lit := .string k.data.toList
theorem kl_inj {k k' : ByteArray} (h : kl k = kl k') : k = k' := by
  unfold kl at h
  injection h with h
  have : k.data = k'.data := Array.toList_inj.1 h
  cases k; cases k'; simp_all
theorem kl_key (k : ByteArray) : WideAt.IsKeyLit (kl k) := by unfold kl; trivial

/-- the map leads from each key to its link, and from no other -/
structure MapOf (D : DataW Unit) (l : List Node) : Prop where
  tidy : Tidy D
  keys : (l.map (·.2.key)).Nodup
  has : ∀ k, has D (kl k) = true ↔ ∃ y ∈ l, y.2.key = k
  at_ : ∀ y ∈ l, ∀ z, D.atKey (kl y.2.key) z = .lit (.int .i64 (y.1 : Int))
  size : size D = l.length

theorem MapOf.nil : MapOf (.map []) [] := ⟨tidy_empty, by simp, fun k => by simp [Maps.has], fun y hy => by simp at hy, rfl⟩

theorem MapOf.del {D : DataW Unit} {p q : List Node} {x : Node} (h : MapOf D (p ++ x :: q)) : MapOf (D.del (kl x.2.key)) (p ++ q) := by
  have hk := h.keys
  have hne : ∀ y ∈ p ++ q, y.2.key ≠ x.2.key := by
    intro y hy e
    simp only [List.map_append, List.map_cons, List.nodup_append, List.nodup_cons, List.mem_map, List.mem_cons] at hk
    rcases List.mem_append.1 hy with hy | hy
    · exact hk.2.2 y.2.key ⟨y, hy, rfl⟩ x.2.key (.inl rfl) e
    · exact hk.2.1.1 ⟨y, hy, e⟩
  refine ⟨h.tidy.del _, ?_, fun k => ?_, fun y hy z => ?_, ?_⟩
  · simp only [List.map_append, List.map_cons, List.nodup_append, List.nodup_cons] at hk ⊢
    exact ⟨hk.1, hk.2.1.2, fun a ha b hb => hk.2.2 a ha b (List.mem_cons_of_mem _ hb)⟩
  · by_cases e : k = x.2.key
    · subst e
      rw [has_del_same]
      simp only [Bool.false_eq_true, false_iff, not_exists, not_and]
      exact hne
    · rw [has_del_other (fun e' => e (kl_inj e')), h.has k]
      constructor
      · rintro ⟨y, hy, rfl⟩
        rcases List.mem_append.1 hy with hy | hy
        · exact ⟨y, by simp [hy], rfl⟩
        · rcases List.mem_cons.1 hy with rfl | hy
          · exact absurd rfl e
          · exact ⟨y, by simp [hy], rfl⟩
      · rintro ⟨y, hy, rfl⟩
        exact ⟨y, by rcases List.mem_append.1 hy with hy | hy <;> simp [hy], rfl⟩
  · rw [atKey_del_other (fun e' => hne y hy (kl_inj e'))]
    exact h.at_ y (by rcases List.mem_append.1 hy with hy | hy <;> simp [hy]) z
  · have := size_del (k := kl x.2.key) h.tidy
    rw [(h.has x.2.key).2 ⟨x, by simp, rfl⟩, h.size] at this
    simp at this ⊢
    omega

theorem MapOf.put {D : DataW Unit} {l : List Node} {x : Node} (h : MapOf D l) (hn : ∀ y ∈ l, y.2.key ≠ x.2.key) : MapOf (D.put (kl x.2.key) (.lit (.int .i64 (x.1 : Int)))) (l ++ [x]) := by
  refine ⟨h.tidy.put (kl_key _) _, ?_, fun k => ?_, fun y hy z => ?_, ?_⟩
  · simp only [List.map_append, List.map_cons, List.map_nil, List.nodup_append]
    refine ⟨h.keys, by simp, fun a ha b hb => ?_⟩
    simp at hb
    obtain ⟨y, hy, rfl⟩ := List.mem_map.1 ha
    subst hb
    exact hn y hy
  · by_cases e : k = x.2.key
    · subst e
      rw [has_put_same h.tidy.isMap (kl_key _)]
      exact ⟨fun _ => ⟨x, by simp, rfl⟩, fun _ => rfl⟩
    · rw [has_put_other (fun e' => e (kl_inj e')), h.has k]
      constructor
      · rintro ⟨y, hy, rfl⟩; exact ⟨y, by simp [hy], rfl⟩
      · rintro ⟨y, hy, rfl⟩
        rcases List.mem_append.1 hy with hy | hy
        · exact ⟨y, hy, rfl⟩
        · simp at hy; subst hy; exact absurd rfl e
  · rcases List.mem_append.1 hy with hy | hy
    · rw [atKey_put_other (fun e' => hn y hy (kl_inj e'))]
      exact h.at_ y hy z
    · simp at hy; subst hy
      exact atKey_put_same h.tidy.isMap (kl_key _) _ _
  · rw [size_put h.tidy, if_neg, h.size]
    · simp
    · rw [h.has]; rintro ⟨y, hy, e⟩; exact hn y hy e

end Go.Proofs.Ytfmpidacklhmaaa.Lru
