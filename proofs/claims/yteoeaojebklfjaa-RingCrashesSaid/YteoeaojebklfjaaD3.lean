/- The clones; burns; Fuse. -/
import Derived.Test.YteoeaojebklfjaaD2
import Derived.Test.YteoeaojebklfjaaK1
import Derived.Lib.SliceRun
namespace Go.Proofs.Yteoeaojebklfjaa
open Go.RowKit Go.Maps
set_option linter.unusedVariables false

theorem info102 : Try.prog.info? 102 = some Try.t102 := by kernel_rfl
theorem zsize100 : (Value.agg Try.zeroCells100).cells.size = 512 := by kernel_rfl
theorem t102_zero : Try.t102.zero = some (.agg Try.zeroCells102) := by kernel_rfl
theorem t102_size : Try.t102.size = 513 := by kernel_rfl
theorem t102_bytes : Try.t102.bytes = 520 := by kernel_rfl
theorem zsize102 : (Value.agg Try.zeroCells102).cells.size = 513 := by kernel_rfl
theorem info4 : Try.prog.info? 4 = some Try.t4 := by kernel_rfl

/-- a clone of a row: a row of its own -/
structure Cloned (w w' : World) (size : Nat) (v v' : Value) (n : Nat) (xs : List Value) : Prop where
  vec : Vec w' size v' n xs
  fresh : ∀ k, v'.ownBlock = some k → w.heap.size ≤ k
  only : Only None' w w'

theorem eql_nil (ty e : TypeId) (ht : Try.prog.underlying ty = some (.slice e)) (w : World) (a : Option Addr) (n c : Nat) : (binOp .eql ty (.slice a n c) (.slice none 0 0)).run Try.prog w = .ok (.bool a.isNone) w := Lib.run_eql_slice_nil w _ _ a n c 0 0 ht

theorem read_later {w : World} {g off : Nat} {xs : List Value} (h : ∀ j u, xs[j]? = some u → w.cell? ⟨g, off + j, none⟩ = some u) (o : Obj) : ∀ j u, xs[j]? = some u → (w.alloc o).cell? ((⟨g, off, none⟩ : Addr).add j) = some u := by
  intro j u hu
  rw [add_mid' (⟨g, off, none⟩) j rfl]
  exact Lib.cell?_alloc_some _ (h j u hu)

theorem cloned {w w1 : World} {size n g off cap : Nat} {v' : Value} {xs : List Value} {o : Obj} (hv : Vec w1 size v' (0 + n) ([] ++ xs)) (hg : (w.alloc o).grownBy w1 (some w.heap.size)) (hf : ∀ k, v'.ownBlock = some k → some w.heap.size = some k ∨ (w.alloc o).heap.size ≤ k) : Cloned w w1 size (.slice (some ⟨g, off, none⟩) n cap) v' n xs := by
  rw [Nat.zero_add, List.nil_append] at hv
  refine ⟨hv, fun k hk => ?_, Only.of_below (((Below.refl _ w).alloc (Nat.le_refl _) o).grown hg (by simp) (by intro k hk; injection hk with hk; omega)) _⟩
  rcases hf k hk with h | h
  · injection h with h; omega
  · simp at h; omega

/-- a row of zero cells to which is appended -/
theorem made_nil (w : World) (e : TypeId) (size : Nat) : Vec (w.alloc (.cells #[] e)) size (.slice (some ⟨w.heap.size, 0, none⟩) 0 0) 0 [] :=
  ⟨by simp, .inr ⟨w.heap.size, 0, 0, rfl, Nat.le_refl _, Nat.zero_le _, by simp, fun j u hu => by simp at hu, fun j hj => by omega⟩⟩

theorem cloned' {w w1 : World} {size n : Nat} {v v' : Value} {xs : List Value} {o : Obj} (hv : Vec w1 size v' (0 + n) ([] ++ xs)) (hg : (w.alloc o).grownBy w1 (some w.heap.size)) (hf : ∀ k, v'.ownBlock = some k → some w.heap.size = some k ∨ (w.alloc o).heap.size ≤ k) : Cloned w w1 size v v' n xs := by
  have := cloned (g := 0) (off := 0) (cap := 0) hv hg hf
  exact ⟨this.vec, this.fresh, this.only⟩

theorem clone_bools {w : World} {v : Value} {n : Nat} {xs : List Value} (h : Rd w 1 v n xs) (h1 : ∀ u ∈ xs, u.oneCell' = true) (hn : n ≤ 140737488351232) : Calls Try.prog 57 #[v] w fun r w' => ∃ v', r = .returned v' ∧ Cloned w w' 1 v v' n xs := by
  have q23 := eql_nil 23 4 Try.underlying23
  rcases h.form with ⟨rfl, rfl⟩ | ⟨ad, cap, rfl, g1, g2, g4⟩
  · have H := Lib.hid h
    clear h h1
    go_enter Try.func57, Try.ntmps57
    go_wp2
    go_ret
    have hx : xs = [] := by have := H.out.len; simpa using this
    subst hx
    exact ⟨_, rfl, ⟨Vec.nil _ _, fun k hk => (by cases hk), Only.refl _ _⟩⟩
  · have H := Lib.hid (And.intro h (And.intro h1 hn))
    have G : Hid (∀ j u, xs[j]? = some u → (w.alloc (.cells #[] 4)).cell? (ad.add j) = some u) := fun j u hu => Lib.cell?_alloc_some _ (g4 j u hu)
    clear h h1 hn g4
    go_enter Try.func57, Try.ntmps57
    go_wp2_with (at_builtin; go_loud (refine wpList_vec_append _ rfl _ _ 23 rfl 4 Try.t4 (.bool false) 1 1 Try.underlying23 info4 (by kernel_rfl) (by kernel_rfl) (by kernel_rfl) rfl (by decide) _ _ _ rfl (made_nil w _ _) ad n cap xs rfl H.out.1.len G.out H.out.2.1 (by have := H.out.2.2; unfold maxLen; omega) (by have := H.out.2.2; omega) ?_; intro v' w1 hv hg hf))
    go_ret
    exact ⟨_, rfl, cloned' hv hg hf⟩

theorem clone_bytes {w : World} {v : Value} {n : Nat} {xs : List Value} (h : Vec w 1 v n xs) (h1 : ∀ u ∈ xs, u.oneCell' = true) (hn : n ≤ 1000000) : Calls Try.prog 63 #[v] w fun r w' => ∃ v', r = .returned v' ∧ Cloned w w' 1 v v' n xs := by
  have q23 := eql_nil 34 5 Try.underlying34
  rcases h.form with ⟨rfl, rfl⟩ | ⟨g, off, cap, rfl, g1, g2, g3, g4, g5⟩
  · have H := Lib.hid h
    clear h h1
    go_enter Try.func63, Try.ntmps63
    go_wp2
    go_ret
    exact ⟨_, rfl, ⟨H.out, fun k hk => (by cases hk), Only.refl _ _⟩⟩
  · have H := Lib.hid (And.intro h (And.intro h1 hn))
    have G := Lib.hid (read_later g4 (.cells #[] 5))
    clear h h1 hn g4 g5
    go_enter Try.func63, Try.ntmps63
    go_wp2_with (at_builtin; go_loud (refine wpList_vec_append _ rfl _ _ 34 rfl 5 Try.t5 (.int .u8 0) 1 1 Try.underlying34 info5 t5_zero t5_size t5_bytes rfl (by decide) _ _ _ rfl (made_nil w _ _) ⟨g, off, none⟩ n cap xs rfl H.out.1.len G.out H.out.2.1 (by have := H.out.2.2; unfold maxLen; omega) (by have := H.out.2.2; omega) ?_; intro v' w1 hv hg hf))
    go_ret
    exact ⟨_, rfl, cloned hv hg hf⟩

theorem clone_secs {w : World} {v : Value} {n : Nat} {xs : List Value} (h : Vec w 512 v n xs) (h1 : ∀ u ∈ xs, u.oneCell' = true) (hn : n ≤ 1000000) : Calls Try.prog 62 #[v] w fun r w' => ∃ v', r = .returned v' ∧ Cloned w w' 512 v v' n xs := by
  have q23 := eql_nil 91 100 Try.underlying91
  rcases h.form with ⟨rfl, rfl⟩ | ⟨g, off, cap, rfl, g1, g2, g3, g4, g5⟩
  · have H := Lib.hid h
    clear h h1
    go_enter Try.func62, Try.ntmps62
    go_wp2
    go_ret
    exact ⟨_, rfl, ⟨H.out, fun k hk => (by cases hk), Only.refl _ _⟩⟩
  · have H := Lib.hid (And.intro h (And.intro h1 hn))
    have G := Lib.hid (read_later g4 (.cells #[] 100))
    clear h h1 hn g4 g5
    go_enter Try.func62, Try.ntmps62
    go_wp2_with (at_builtin; go_loud (refine wpList_vec_append _ rfl _ _ 91 rfl 100 Try.t100 (.agg Try.zeroCells100) 512 512 Try.underlying91 info100 t100_zero t100_size t100_bytes zsize100 (by decide) _ _ _ rfl (made_nil w _ _) ⟨g, off, none⟩ n cap xs rfl H.out.1.len G.out H.out.2.1 (by have := H.out.2.2; unfold maxLen; omega) (by have := H.out.2.2; omega) ?_; intro v' w1 hv hg hf))
    go_ret
    exact ⟨_, rfl, cloned hv hg hf⟩

theorem clone_writes {w : World} {v : Value} {n : Nat} {xs : List Value} (h : Vec w 513 v n xs) (h1 : ∀ u ∈ xs, u.oneCell' = true) (hn : n ≤ 1000000) : Calls Try.prog 64 #[v] w fun r w' => ∃ v', r = .returned v' ∧ Cloned w w' 513 v v' n xs := by
  have q23 := eql_nil 93 102 Try.underlying93
  rcases h.form with ⟨rfl, rfl⟩ | ⟨g, off, cap, rfl, g1, g2, g3, g4, g5⟩
  · have H := Lib.hid h
    clear h h1
    go_enter Try.func64, Try.ntmps64
    go_wp2
    go_ret
    exact ⟨_, rfl, ⟨H.out, fun k hk => (by cases hk), Only.refl _ _⟩⟩
  · have H := Lib.hid (And.intro h (And.intro h1 hn))
    have G := Lib.hid (read_later g4 (.cells #[] 102))
    clear h h1 hn g4 g5
    go_enter Try.func64, Try.ntmps64
    go_wp2_with (at_builtin; go_loud (refine wpList_vec_append _ rfl _ _ 93 rfl 102 Try.t102 (.agg Try.zeroCells102) 513 520 Try.underlying93 info102 t102_zero t102_size t102_bytes zsize102 (by decide) _ _ _ rfl (made_nil w _ _) ⟨g, off, none⟩ n cap xs rfl H.out.1.len G.out H.out.2.1 (by have := H.out.2.2; unfold maxLen; omega) (by have := H.out.2.2; omega) ?_; intro v' w1 hv hg hf))
    go_ret
    exact ⟨_, rfl, cloned hv hg hf⟩

/-- nobody's disk -/
theorem fuse_nil (k : Int) (v : Value) (w : World) : Calls Try.prog 14 #[.pointer none, .int .i64 k, v] w fun r w' => r = .returned (.int .i64 2) ∧ w' = w := by
  have hc := alive_nil w
  go_enter Try.func14, Try.ntmps14
  go_wp2_with fail
  refine hc.mono ?_
  rintro r w1 ⟨rfl, rfl⟩
  clear hc
  go_wp2_with fail
  go_ret
  exact ⟨rfl, rfl⟩

end Go.Proofs.Yteoeaojebklfjaa
