/- New, Len, Bytes, Get. -/
import Derived.Test.YtfmpidacklhmaaaV2
import Derived.Laws.ResultCell
namespace Go.Proofs.Ytfmpidacklhmaaa.Lru
open Go.RowKit Go.Maps
set_option linter.unusedVariables false
set_option maxRecDepth 20000

theorem new_bad (a b : Int) (w : World) (h : a < 0 ∨ b < 0 ∨ 2147483647 < a ∨ 2147483647 < b) :
    Calls Try.prog 17 #[.int .i64 a, .int .i64 b] w fun r w' => r = .returned (.tuple #[.pointer none, .int .i64 1]) ∧ w = w' := by
  have H := Lib.hid h
  clear h
  by_cases h1 : a < 0
  · go_enter Try.func17, Try.ntmps17
    go_wp2
    go_ret2
    exact ⟨rfl, rfl⟩
  · by_cases h2 : b < 0
    · go_enter Try.func17, Try.ntmps17
      go_wp2
      go_ret2
      exact ⟨rfl, rfl⟩
    · by_cases h3 : (2147483647 : Int) < a
      · go_enter Try.func17, Try.ntmps17
        go_wp2
        go_ret2
        exact ⟨rfl, rfl⟩
      · have h4 : (2147483647 : Int) < b := by have := H.out; omega
        go_enter Try.func17, Try.ntmps17
        go_wp2
        go_ret2
        exact ⟨rfl, rfl⟩

theorem new_any (a b : Int) (w : World) (ha : 0 ≤ a) (hb : 0 ≤ b) (ha' : a ≤ 2147483647) (hb' : b ≤ 2147483647) :
    Calls Try.prog 17 #[.int .i64 a, .int .i64 b] w fun r w' => ∃ B M, r = .returned (.tuple #[.pointer (some ⟨B, 0, none⟩), .int .i64 0]) ∧ Shelf w.heap.size w' B M a b [] ∧ Only None' w w' := by
  have h1 : ¬ a < 0 := by omega
  have h2 : ¬ b < 0 := by omega
  have h3 : ¬ (2147483647 : Int) < a := by omega
  have h4 : ¬ (2147483647 : Int) < b := by omega
  have hmm := @run_makeMap Try.prog
  clear ha hb ha' hb'
  go_enter Try.func17, Try.ntmps17
  go_wp2
  go_ret2
  have hs : (w.alloc (.map #[] 0)).heap.size = w.heap.size + 1 := by simp
  have hb (i : Nat) := World.cell?_alloc_new (w.alloc (.map #[] 0)) #[.int .i64 a, .int .i64 b, .pointer none, .pointer none, .map (some w.heap.size), .int .i64 0] 82 i
  have hf (i : Nat) := World.frozen?_alloc_new (w.alloc (.map #[] 0)) #[.int .i64 a, .int .i64 b, .pointer none, .pointer none, .map (some w.heap.size), .int .i64 0] 82 i
  rw [hs] at hb hf
  refine ⟨_, rfl, ⟨w.heap.size, ⟨⟨hb 2, hb 3, trivial, by simp [nums], by simp [nums], by omega, by omega, by omega, by simp, hf⟩, ⟨hb 0, hb 1, hb 4, hb 5⟩, ⟨.map [], ?_, MapOf.nil⟩, by simp, by simp⟩⟩, ((Only.refl None' w).alloc _).alloc _⟩
  exact (World.ownsMap_made w Try.prog 9 ptrR).alloc _

/-- Get of a key that is not there -/
theorem get_none {m : Nat} {w : World} {B M : Nat} {E Y : Int} {l : List Node} (S : Shelf m w B M E Y l) (k : ByteArray) (now : Int) (hk : k.size ≤ 140737488355328) (hh : hasKey l k = false) :
    Calls Try.prog 36 #[.pointer (some ⟨B, 0, none⟩), .string k, .int .i64 now] w fun r w' => r = .returned (.tuple #[.agg #[.string ⟨#[]⟩, .string ⟨#[]⟩, .int .i64 0, .int .i64 0], .bool false]) ∧ Shelf m w' B M E Y l ∧ Only None' w w' := by
  have SS := Lib.hid S
  obtain ⟨D, hown, hD⟩ := S.map
  have hkey : Hid (keyOf Try.prog 9 (.string k) = some (kl k)) := Go.WideMaps.keyOf_string_mk Try.underlying9 (by unfold maxLen; omega)
  have hn : Hid (Maps.has D (kl k) = false) := by
    show _ = _
    cases e : Maps.has D (kl k) with
    | false => rfl
    | true => rw [(hasKey_iff l k).2 ((hD.has k).1 e)] at hh; cases hh
  have c4 := S.rest.at_
  have HO := Lib.hid hown
  have lB := S.row.ltB
  clear S hD hh hk hown
  go_enter Try.func36, Try.ntmps36
  go_wp2_with (at_lookup; refine wpList_lookup_own_ok _ rfl _ _ 79 rfl 9 80 keyed9 under79 ptrR (zero80 _) .nil [] rfl M l.length D rfl (HO.out.alloc _) _ _ rfl hkey.out ?_; rw [hn.out]; intro v ps hv; clear hv)
  (try simp only [Exit.inBlock, Exit.then])
  refine bodyPost_ret (v := .tuple #[.agg #[.string ⟨#[]⟩, .string ⟨#[]⟩, .int .i64 0, .int .i64 0], .bool false]) ?_ rfl ⟨rfl, SS.out.alloc _, (Only.refl _ _).alloc _⟩
  rw [results_cell_tmp rfl]
  go_simp

/-- the link of a key that is there -/
theorem get_parts {m : Nat} {w : World} {B M : Nat} {E Y : Int} {p : List Node} {x : Node} {q : List Node} (S : Shelf m w B M E Y (p ++ x :: q)) :
    Link w x.1 x.2 (lst p none) (hd q none) ∧ x.1 < w.heap.size ∧ x.1 ≠ B ∧ ∃ D, w.ownsMap Try.prog 9 ptrR M (p ++ x :: q).length D ∧ Maps.has D (kl x.2.key) = true ∧ D.atKey (kl x.2.key) .nil = .lit (.int .i64 (x.1 : Int)) := by
  obtain ⟨D, hown, hD⟩ := S.map
  have hx := S.row.mine x.1 (by simp [nums])
  exact ⟨S.row.part.mid, hx.2.1, hx.2.2.1, D, hown, (hD.has _).2 ⟨x, by simp, rfl⟩, hD.at_ x (by simp) _⟩

/-- Get of a key whose entry has ended -/
theorem get_ended {m : Nat} {w : World} {B M : Nat} {E Y : Int} {p : List Node} {x : Node} {q : List Node} (S : Shelf m w B M E Y (p ++ x :: q)) (now : Int) (hnow : x.2.til ≤ now) :
    Calls Try.prog 36 #[.pointer (some ⟨B, 0, none⟩), .string x.2.key, .int .i64 now] w fun r w' => r = .returned (.tuple #[.agg #[.string ⟨#[]⟩, .string ⟨#[]⟩, .int .i64 0, .int .i64 0], .bool false]) ∧ Shelf m w' B M E Y (p ++ q) ∧ Only (Own B M (p ++ x :: q)) w w' := by
  have SS := Lib.hid S
  have hkey : Hid (keyOf Try.prog 9 (.string x.2.key) = some (kl x.2.key)) := Go.WideMaps.keyOf_string_mk Try.underlying9 (by have := (S.small x (by simp)).1; unfold maxLen; omega)
  obtain ⟨L, lx, hxB, D, hown, hn, hx⟩ := get_parts S
  have c4 := S.rest.at_
  have k2 := L.til
  have HN := Lib.hid hn
  have HX := Lib.hid hx
  have HO := Lib.hid hown
  have lB := S.row.ltB
  have hres : ¬ Own B M (p ++ x :: q) w.heap.size := fun h => absurd (S.ltOwn h) (by omega)
  have HR := Lib.hid hres
  clear S hown hn hx L hxB hres
  go_enter Try.func36, Try.ntmps36
  go_wp2_with (at_lookup; refine wpList_lookup_own_ok _ rfl _ _ 79 rfl 9 80 keyed9 under79 ptrR (zero80 _) .nil [] rfl M (p ++ x :: q).length D rfl (HO.out.alloc _) _ _ rfl hkey.out ?_; rw [HN.out]; intro v ps hv; rw [HX.out] at hv; obtain rfl := ptrR_inv hv; clear hv)
  refine (remove_any (SS.out.alloc _)).mono ?_
  rintro r w1 ⟨rfl, h1, h2⟩
  have H1 := Lib.hid h1
  have H2 := Lib.hid h2
  have hs : w.heap.size < (w.alloc (.cells #[.string { data := #[] }, .string { data := #[] }, .int .i64 0, .int .i64 0] 66)).heap.size := by simp
  have j0 : w1.cell? ⟨w.heap.size, 0, none⟩ = some (.string { data := #[] }) := by rw [h2.cell hs HR.out 0, World.cell?_alloc_new]; rfl
  have j1 : w1.cell? ⟨w.heap.size, 1, none⟩ = some (.string { data := #[] }) := by rw [h2.cell hs HR.out 1, World.cell?_alloc_new]; rfl
  have j2 : w1.cell? ⟨w.heap.size, 2, none⟩ = some (.int .i64 0) := by rw [h2.cell hs HR.out 2, World.cell?_alloc_new]; rfl
  have j3 : w1.cell? ⟨w.heap.size, 3, none⟩ = some (.int .i64 0) := by rw [h2.cell hs HR.out 3, World.cell?_alloc_new]; rfl
  have jf : ∀ o, w1.frozen? ⟨w.heap.size, o, none⟩ = false := fun o => by rw [h2.frozen hs HR.out o, World.frozen?_alloc_new]
  clear h1 h2 hs
  go_wp2
  (try simp only [Exit.inBlock, Exit.then])
  have hset : ∀ v0 v1 v2 v3 nn, Only (fun k => k = w.heap.size) w1 (((((w1.setCell ⟨w.heap.size, 0, none⟩ v0).setCell ⟨w.heap.size, 1, none⟩ v1).setCell ⟨w.heap.size, 2, none⟩ v2).setCell ⟨w.heap.size, 3, none⟩ v3).drewN nn) := fun v0 v1 v2 v3 nn =>
    (((((Only.refl (fun k => k = w.heap.size) w1).setCell (p := ⟨w.heap.size, 0, none⟩) rfl v0).setCell (p := ⟨w.heap.size, 1, none⟩) rfl v1).setCell (p := ⟨w.heap.size, 2, none⟩) rfl v2).setCell (p := ⟨w.heap.size, 3, none⟩) rfl v3).drewN nn
  have hown : ∀ k, Own B M (p ++ q) k → ¬ k = w.heap.size := fun k h e => absurd (SS.out.ltOwn (by rcases h with h | h | h; exact .inl h; exact .inr (.inl h); exact .inr (.inr (by simp only [nums, List.map_append, List.map_cons, List.mem_append, List.mem_cons] at h ⊢; rcases h with h | h; exact .inl h; exact .inr (.inr h))))) (by omega)
  refine bodyPost_ret (v := .tuple #[.agg #[.string ⟨#[]⟩, .string ⟨#[]⟩, .int .i64 0, .int .i64 0], .bool false]) ?_ rfl ⟨rfl, H1.out.only (hset _ _ _ _ 0) hown, (((Only.refl _ _).alloc _).trans H2.out).trans2 (hset _ _ _ _ 0) (fun k hk e => by omega)⟩
  rw [results_cell_tmp rfl]
  go_simp

end Go.Proofs.Ytfmpidacklhmaaa.Lru
