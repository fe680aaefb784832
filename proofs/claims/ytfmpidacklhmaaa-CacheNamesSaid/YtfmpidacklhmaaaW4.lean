/- Contract of Sweep. -/
import Derived.Test.YtfmpidacklhmaaaW3
namespace Go.Proofs.Ytfmpidacklhmaaa.Lru
open Go.RowKit Go.Maps
set_option linter.unusedVariables false
set_option maxRecDepth 20000

theorem sweep_keep (w : World) (x c1 c2 c3 : Nat) (til now : Int) (k2 : w.cell? ⟨x, 2, none⟩ = some (.int .i64 til)) (n1 : w.cell? ⟨c1, 0, none⟩ = some (.int .i64 now)) (h : ¬ til ≤ now) :
    Calls Try.prog 29 #[.pointer (some ⟨x, 0, none⟩), .pointer (some ⟨c1, 0, none⟩), .pointer (some ⟨c2, 0, none⟩), .pointer (some ⟨c3, 0, none⟩)] w fun r w' => r = .returned (.tuple #[]) ∧ ∃ n, w' = w.drewN n := by
  go_enter Try.func29, Try.ntmps29
  go_wp2_with fail
  go_quiet (fail)
  go_wp2
  go_end0
  exact ⟨rfl, _, rfl⟩

theorem sweep_gone {m : Nat} {w : World} {B M : Nat} {E Y : Int} {p : List Node} {x : Node} {q : List Node} (S : Shelf m w B M E Y (p ++ x :: q)) (c1 c2 c3 : Nat) (now n : Int)
    (n1 : w.cell? ⟨c1, 0, none⟩ = some (.int .i64 now)) (n2 : w.cell? ⟨c2, 0, none⟩ = some (.pointer (some ⟨B, 0, none⟩))) (n3 : w.cell? ⟨c3, 0, none⟩ = some (.int .i64 n)) (f3 : w.frozen? ⟨c3, 0, none⟩ = false)
    (h : x.2.til ≤ now) (hn0 : 0 ≤ n) (hn1 : n ≤ 100000) (a3 : ¬ Own B M (p ++ x :: q) c3) (l3 : c3 < w.heap.size) :
    Calls Try.prog 29 #[.pointer (some ⟨x.1, 0, none⟩), .pointer (some ⟨c1, 0, none⟩), .pointer (some ⟨c2, 0, none⟩), .pointer (some ⟨c3, 0, none⟩)] w fun r w' => r = .returned (.tuple #[]) ∧
      Shelf m w' B M E Y (p ++ q) ∧ w'.cell? ⟨c3, 0, none⟩ = some (.int .i64 (n + 1)) ∧ w'.frozen? ⟨c3, 0, none⟩ = false ∧ Only (fun k => Own B M (p ++ x :: q) k ∨ k = c3) w w' := by
  have SS := Lib.hid S
  have k2 := S.row.part.mid.til
  have A3 := Lib.hid a3
  clear S a3
  go_enter Try.func29, Try.ntmps29
  go_wp2_with fail
  go_quiet (fail)
  go_wp2_with fail
  refine (remove_any (SS.out.drewN nq)).mono ?_
  rintro r w1 ⟨rfl, h1, h2⟩
  have j3 : w1.cell? ⟨c3, 0, none⟩ = some (.int .i64 n) := (h2.cell l3 A3.out 0).trans n3
  have jf : w1.frozen? ⟨c3, 0, none⟩ = false := (h2.frozen l3 A3.out 0).trans f3
  have S1 := Lib.hid h1
  have O1 := Lib.hid h2
  clear h1 h2 n1 n2 n3 f3 k2
  go_wp2
  go_end0
  have hO : Only (fun k => k = c3) w1 (w1.setCell ⟨c3, 0, none⟩ (.int .i64 (n + 1))) := (Only.refl (fun k => k = c3) _).setCell (p := ⟨c3, 0, none⟩) rfl _
  refine ⟨rfl, S1.out.only hO ?_, World.cell?_setCell_same _ _ _ j3, by rw [World.frozen?_setCell]; exact jf, ?_⟩
  · rintro k hk rfl
    refine A3.out ?_
    rcases hk with hk | hk | hk
    · exact .inl hk
    · exact .inr (.inl hk)
    · refine .inr (.inr ?_)
      simp only [nums_append, nums_cons, List.mem_append, List.mem_cons] at hk ⊢
      rcases hk with hk | hk
      · exact .inl hk
      · exact .inr (.inr hk)
  · exact (((Only.refl _ w).drewN nq).trans (O1.out.mono fun k _ hk => .inl hk)).trans2 hO fun k _ hk => .inr hk

def live (now : Int) (l : List Node) : List Node := l.filter fun y => decide (now < y.2.til)
def gone (now : Int) (l : List Node) : Nat := (l.filter fun y => decide (y.2.til ≤ now)).length

theorem live_snoc (now : Int) (l : List Node) (y : Node) : live now (l ++ [y]) = if y.2.til ≤ now then live now l else live now l ++ [y] := by
  unfold live
  rw [List.filter_append]
  by_cases h : y.2.til ≤ now
  · rw [if_pos h]
    have : ¬ now < y.2.til := by omega
    simp [this]
  · rw [if_neg h]
    have : now < y.2.til := by omega
    simp [this]
theorem gone_snoc (now : Int) (l : List Node) (y : Node) : gone now (l ++ [y]) = gone now l + if y.2.til ≤ now then 1 else 0 := by
  unfold gone
  rw [List.filter_append]
  by_cases h : y.2.til ≤ now <;> simp [h]
theorem gone_le (now : Int) (l : List Node) : gone now l ≤ l.length := List.length_filter_le _ _

theorem own_sub {B M : Nat} {l l' : List Node} (h : ∀ y ∈ l', y ∈ l) {k : Nat} (hk : Own B M l' k) : Own B M l k := by
  rcases hk with hk | hk | hk
  · exact .inl hk
  · exact .inr (.inl hk)
  · obtain ⟨y, hy, e⟩ := List.mem_map.1 hk
    exact .inr (.inr (List.mem_map.2 ⟨y, h y hy, e⟩))

structure Swept (w0 : World) (m B M : Nat) (E Y : Int) (c1 c2 c3 : Nat) (now : Int) (l : List Node) (i : Nat) (wr : World) : Prop where
  shelf : Shelf m wr B M E Y (live now (l.take i) ++ l.drop i)
  n3 : wr.cell? ⟨c3, 0, none⟩ = some (.int .i64 (gone now (l.take i) : Int))
  f3 : wr.frozen? ⟨c3, 0, none⟩ = false
  only : Only (fun k => Own B M l k ∨ k = c3) w0 wr

theorem live_sub {now : Int} {l : List Node} {i : Nat} : ∀ y ∈ live now (l.take i) ++ l.drop i, y ∈ l := by
  intro y hy
  rcases List.mem_append.1 hy with hy | hy
  · exact List.mem_of_mem_take (List.mem_filter.1 hy).1
  · exact List.mem_of_mem_drop hy

set_option maxRecDepth 100000 in
theorem sweep_any {m : Nat} {w : World} {B M : Nat} {E Y : Int} {l : List Node} (S : Shelf m w B M E Y l) (now : Int) :
    Calls Try.prog 20 #[.pointer (some ⟨B, 0, none⟩), .int .i64 now] w fun e w' => e = .returned (.int .i64 (gone now l : Int)) ∧ Shelf m w' B M E Y (live now l) ∧ Only (Own B M l) w w' := by
  have SA := Lib.hid (((S.alloc (.cells #[.pointer (some ⟨B, 0, none⟩)] 56)).alloc (.cells #[.int .i64 now] 3)).alloc (.cells #[.int .i64 0] 3))
  have hOwn : ∀ k, Own B M l k → k < w.heap.size := fun k h => S.ltOwn h
  have hmine := S.row.mine
  have hfew := S.few
  clear S
  have hE := each_gen B 29 (.inr rfl) #[.pointer (some ⟨w.heap.size + 1, 0, none⟩), .pointer (some ⟨w.heap.size, 0, none⟩), .pointer (some ⟨w.heap.size + 2, 0, none⟩)] l
    (Swept (((w.alloc (.cells #[.pointer (some ⟨B, 0, none⟩)] 56)).alloc (.cells #[.int .i64 now] 3)).alloc (.cells #[.int .i64 0] 3)) m B M E Y (w.heap.size + 1) w.heap.size (w.heap.size + 2) now l)
    (fun w1 h => h.shelf.row.front)
    (fun i w1 y r h hd' => by
      have := (h.shelf.link (i := (live now (l.take i)).length) (y := y) (r := r) (by rw [List.drop_left]; exact hd')).back
      exact this)
    (fun i w1 y r h hd' => by
      have S1 := h.shelf
      rw [hd'] at S1
      have hr : l.drop (i + 1) = r := by rw [← List.drop_drop, hd']; rfl
      have hs : w.heap.size + 2 < (((w.alloc (.cells #[.pointer (some ⟨B, 0, none⟩)] 56)).alloc (.cells #[.int .i64 now] 3)).alloc (.cells #[.int .i64 0] 3)).heap.size := by simp
      have a1 : ¬ (Own B M l (w.heap.size + 1) ∨ w.heap.size + 1 = w.heap.size + 2) := by rintro (h | h); have := hOwn _ h; omega; omega
      have a2 : ¬ (Own B M l w.heap.size ∨ w.heap.size = w.heap.size + 2) := by rintro (h | h); have := hOwn _ h; omega; omega
      have n1 : w1.cell? ⟨w.heap.size + 1, 0, none⟩ = some (.int .i64 now) := by
        rw [h.only.cell (by omega) a1 0, World.cell?_alloc_lt _ _ _ (by simp)]
        rw [show w.heap.size + 1 = (w.alloc (.cells #[.pointer (some ⟨B, 0, none⟩)] 56)).heap.size by simp]
        exact World.cell?_alloc_new (w.alloc (.cells #[.pointer (some ⟨B, 0, none⟩)] 56)) #[.int .i64 now] 3 0
      have n2 : w1.cell? ⟨w.heap.size, 0, none⟩ = some (.pointer (some ⟨B, 0, none⟩)) := by
        rw [h.only.cell (by omega) a2 0, World.cell?_alloc_lt _ _ _ (by simp; omega), World.cell?_alloc_lt _ _ _ (by simp)]
        exact World.cell?_alloc_new _ _ _ _
      have L := S1.row.part.mid
      have hlt : i < l.length := by have := congrArg List.length hd'; simp at this; omega
      have hg := gone_le now (l.take i)
      have hlen : (l.take i).length ≤ l.length := List.length_take_le' _ _
      show Calls _ _ _ _ _
      by_cases hyn : y.2.til ≤ now
      · refine (sweep_gone S1 (w.heap.size + 1) w.heap.size (w.heap.size + 2) now (gone now (l.take i)) n1 n2 h.n3 h.f3 hyn (by omega) (by omega) ?_ (Nat.lt_of_lt_of_le hs h.only.size)).mono ?_
        · intro hk
          have := hOwn _ (own_sub (l' := live now (l.take i) ++ y :: r) (by rw [← hd']; exact live_sub) hk)
          omega
        · rintro e w2 ⟨rfl, h1, h2, h3, h4⟩
          refine ⟨rfl, ⟨?_, ?_, h3, h.only.trans (h4.mono fun k _ hk => ?_)⟩⟩
          · rw [take_snoc hd', live_snoc, if_pos hyn, hr]; exact h1
          · rw [take_snoc hd', gone_snoc, if_pos hyn, h2]; rfl
          · rcases hk with hk | hk
            · exact .inl (own_sub (l' := live now (l.take i) ++ y :: r) (by rw [← hd']; exact live_sub) hk)
            · exact .inr hk
      · refine (sweep_keep w1 y.1 (w.heap.size + 1) w.heap.size (w.heap.size + 2) y.2.til now L.til n1 hyn).mono ?_
        rintro e w2 ⟨rfl, n, rfl⟩
        refine ⟨rfl, ⟨?_, ?_, h.f3, h.only.drewN n⟩⟩
        · rw [take_snoc hd', live_snoc, if_neg hyn, hr, List.append_assoc]; exact S1.drewN n
        · rw [take_snoc hd', gone_snoc, if_neg hyn]; exact h.n3)
    (((w.alloc (.cells #[.pointer (some ⟨B, 0, none⟩)] 56)).alloc (.cells #[.int .i64 now] 3)).alloc (.cells #[.int .i64 0] 3))
    ⟨by simpa [live] using SA.out, by
      have := World.cell?_alloc_new ((w.alloc (.cells #[.pointer (some ⟨B, 0, none⟩)] 56)).alloc (.cells #[.int .i64 now] 3)) #[.int .i64 0] 3 0
      simpa [gone] using this, by
      have := World.frozen?_alloc_new ((w.alloc (.cells #[.pointer (some ⟨B, 0, none⟩)] 56)).alloc (.cells #[.int .i64 now] 3)) #[.int .i64 0] 3 0
      simpa using this, Only.refl _ _⟩
  have HEE := Lib.hid hE
  have HOWN := Lib.hid hOwn
  clear hE hmine hfew hOwn
  go_enter Try.func20, Try.ntmps20
  go_wp2_with fail
  refine HEE.out.mono ?_
  rintro e w1 ⟨rfl, h⟩
  have n3 : w1.cell? ⟨w.heap.size + 2, 0, none⟩ = some (.int .i64 (gone now l : Int)) := by have := h.n3; rwa [List.take_length] at this
  have HG := Lib.hid h
  clear h
  go_wp2
  go_ret
  have hS := HG.out.shelf
  rw [List.take_length, List.drop_length, List.append_nil] at hS
  refine ⟨rfl, hS, ?_⟩
  refine ((((Only.refl (Own B M l) w).alloc _).alloc _).alloc _).trans2 HG.out.only fun k hk hS => ?_
  rcases hS with h | h
  · exact h
  · omega

end Go.Proofs.Ytfmpidacklhmaaa.Lru
