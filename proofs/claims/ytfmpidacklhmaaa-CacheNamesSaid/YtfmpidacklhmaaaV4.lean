/- Get of what is there; a shelf's row turned. -/
import Derived.Test.YtfmpidacklhmaaaV3
namespace Go.Proofs.Ytfmpidacklhmaaa.Lru
open Go.RowKit Go.Maps
set_option linter.unusedVariables false
set_option maxRecDepth 20000

theorem MapOf.perm {D : DataW Unit} {l l' : List Node} (h : MapOf D l) (hp : l.Perm l') : MapOf D l' :=
  ⟨h.tidy, ((hp.map _).nodup_iff).1 h.keys, fun k => by rw [h.has k]; exact ⟨fun ⟨y, hy, e⟩ => ⟨y, hp.mem_iff.1 hy, e⟩, fun ⟨y, hy, e⟩ => ⟨y, hp.mem_iff.2 hy, e⟩⟩, fun y hy => h.at_ y (hp.mem_iff.2 hy), by rw [h.size, hp.length_eq]⟩

theorem bytesOf_perm {l l' : List Node} (hp : l.Perm l') : bytesOf l = bytesOf l' := (hp.map _).sum_nat

/-- the row turned, all else as it was -/
theorem Shelf.turn {m : Nat} {w w' : World} {B M : Nat} {E Y : Int} {l l' : List Node} (S : Shelf m w B M E Y l) (R : Row m w' B M l') (hp : l.Perm l') (hr : Rowed w w' B (nums l)) : Shelf m w' B M E Y l' := by
  have hM : ¬ (M = B ∨ M ∈ nums l) := by
    rintro (e | e)
    · exact S.row.BM e.symm
    · exact (S.row.mine M e).2.2.2 rfl
  refine ⟨R, ?_, ?_, fun y hy => S.small y (hp.mem_iff.2 hy), by rw [← hp.length_eq]; exact S.few⟩
  · rw [← bytesOf_perm hp]; exact S.rest.rowed hr
  · obtain ⟨D, hown, hD⟩ := S.map
    exact ⟨D, by rw [← hp.length_eq]; exact owns_same hown (hr.only.block M hown.lt hM), hD.perm hp⟩

theorem get_live {m : Nat} {w : World} {B M : Nat} {E Y : Int} {p : List Node} {x : Node} {q : List Node} (S : Shelf m w B M E Y (p ++ x :: q)) (now : Int) (hnow : ¬ x.2.til ≤ now) :
    Calls Try.prog 36 #[.pointer (some ⟨B, 0, none⟩), .string x.2.key, .int .i64 now] w fun r w' => r = .returned (.tuple #[.agg #[.string x.2.key, .string x.2.val, .int .i64 x.2.til, .int .i64 x.2.gra], .bool true]) ∧ Shelf m w' B M E Y (p ++ q ++ [x]) ∧ Only (Own B M (p ++ x :: q)) w w' := by
  have SS := Lib.hid S
  have hkey : Hid (keyOf Try.prog 9 (.string x.2.key) = some (kl x.2.key)) := Go.WideMaps.keyOf_string_mk Try.underlying9 (by have := (S.small x (by simp)).1; unfold maxLen; omega)
  obtain ⟨L, lx, hxB, D, hown, hn, hx⟩ := get_parts S
  have c4 := S.rest.at_
  have k2 := L.til
  have HN := Lib.hid hn
  have HX := Lib.hid hx
  have HO := Lib.hid hown
  have lB := S.row.ltB
  have hres : ¬ Own B M (p ++ x :: q) w.heap.size := fun h => absurd (S.ltOwn h) (by omega)
  have HR := Lib.hid hres
  clear S hown hn hx L hxB hres
  go_enter Try.func36, Try.ntmps36
  go_wp2_with (at_lookup; refine wpList_lookup_own_ok _ rfl _ _ 79 rfl 9 80 keyed9 under79 ptrR (zero80 _) .nil [] rfl M (p ++ x :: q).length D rfl (HO.out.alloc _) _ _ rfl hkey.out ?_; rw [HN.out]; intro v ps hv; rw [HX.out] at hv; obtain rfl := ptrR_inv hv; clear hv)
  have SA := Lib.hid (SS.out.alloc (.cells #[.string { data := #[] }, .string { data := #[] }, .int .i64 0, .int .i64 0] 66))
  refine (cut_any SA.out.row).mono ?_
  rintro r w1 ⟨rfl, h1, h2, h3⟩
  have R1 := Lib.hid h1
  have P1 := Lib.hid h2
  have L1 := Lib.hid h3
  clear h1 h2 h3
  go_wp2_with fail
  have hmx := SA.out.row.mine x.1 (by simp [nums])
  have hnx : x.1 ∉ nums (p ++ q) := by
    have := SA.out.row.nodup
    simp only [nums, List.map_append, List.map_cons, List.nodup_append, List.nodup_cons, List.mem_append, List.mem_cons] at this ⊢
    rintro (e | e)
    · exact this.2.2 _ e _ (.inl rfl) rfl
    · exact this.2.1.1 e
  refine (push_any R1.out L1.out hnx hmx.1 (by rw [P1.out.same]; exact hmx.2.1) hmx.2.2.1 hmx.2.2.2).mono ?_
  rintro r w2 ⟨rfl, h1, h2⟩
  have hp : (p ++ x :: q).Perm (p ++ q ++ [x]) := by
    rw [List.append_assoc]
    exact List.Perm.append_left p (by rw [← List.singleton_append]; exact List.perm_append_comm)
  have P2 : Rowed (w.alloc (.cells #[.string { data := #[] }, .string { data := #[] }, .int .i64 0, .int .i64 0] 66)) w2 B (nums (p ++ x :: q)) := P1.out.trans ⟨h2.only.mono (by
      rintro k _ (e | e)
      · exact .inl e
      · right
        simp only [nums, List.map_append, List.map_cons, List.mem_append, List.mem_cons] at e ⊢
        rcases e with e | e | e
        · exact .inr (.inl e)
        · exact .inl e
        · exact .inr (.inr e)), h2.rest, h2.same⟩
  have S2 := SA.out.turn h1 hp P2
  have HS2 := Lib.hid S2
  have HP2 := Lib.hid P2
  have L2 : Link w2 x.1 x.2 _ _ := ((seg_append (p ++ q) [x] none none).1 h1.seg).2.1
  have k0 := L2.key
  have k1 := L2.val
  have k3 := L2.til
  have k4 := L2.gra
  have hs : w.heap.size < (w.alloc (.cells #[.string { data := #[] }, .string { data := #[] }, .int .i64 0, .int .i64 0] 66)).heap.size := by simp
  have hnR : ¬ (w.heap.size = B ∨ w.heap.size ∈ nums (p ++ x :: q)) := by
    rintro (e | e)
    · exact HR.out (.inl e)
    · exact HR.out (.inr (.inr e))
  have j0 : w2.cell? ⟨w.heap.size, 0, none⟩ = some (.string { data := #[] }) := by rw [P2.only.cell hs hnR 0, World.cell?_alloc_new]; rfl
  have j1 : w2.cell? ⟨w.heap.size, 1, none⟩ = some (.string { data := #[] }) := by rw [P2.only.cell hs hnR 1, World.cell?_alloc_new]; rfl
  have j2 : w2.cell? ⟨w.heap.size, 2, none⟩ = some (.int .i64 0) := by rw [P2.only.cell hs hnR 2, World.cell?_alloc_new]; rfl
  have j3 : w2.cell? ⟨w.heap.size, 3, none⟩ = some (.int .i64 0) := by rw [P2.only.cell hs hnR 3, World.cell?_alloc_new]; rfl
  have jf : ∀ o, w2.frozen? ⟨w.heap.size, o, none⟩ = false := fun o => by rw [P2.only.frozen hs hnR o, World.frozen?_alloc_new]
  have hset : ∀ v0 v1 v2 v3 nn, Only (fun k => k = w.heap.size) w2 (((((w2.setCell ⟨w.heap.size, 0, none⟩ v0).setCell ⟨w.heap.size, 1, none⟩ v1).setCell ⟨w.heap.size, 2, none⟩ v2).setCell ⟨w.heap.size, 3, none⟩ v3).drewN nn) := fun v0 v1 v2 v3 nn =>
    (((((Only.refl (fun k => k = w.heap.size) w2).setCell (p := ⟨w.heap.size, 0, none⟩) rfl v0).setCell (p := ⟨w.heap.size, 1, none⟩) rfl v1).setCell (p := ⟨w.heap.size, 2, none⟩) rfl v2).setCell (p := ⟨w.heap.size, 3, none⟩) rfl v3).drewN nn
  have HSET := Lib.hid hset
  have hown : Hid (∀ k, Own B M (p ++ q ++ [x]) k → ¬ k = w.heap.size) := by
    rintro k h rfl
    refine HR.out ?_
    rcases h with h | h | h
    · exact .inl h
    · exact .inr (.inl h)
    · refine .inr (.inr ?_)
      simp only [nums, List.map_append, List.map_cons, List.map_nil, List.mem_append, List.mem_cons, List.mem_singleton, List.not_mem_nil, or_false] at h ⊢
      rcases h with (h | h) | h
      · exact .inl h
      · exact .inr (.inr h)
      · exact .inr (.inl h)
  clear hmx hnx h1 h2 hp P2 S2 L2 hs hnR hset
  go_wp2
  (try simp only [Exit.inBlock, Exit.then])
  refine bodyPost_ret (v := .tuple #[.agg #[.string x.2.key, .string x.2.val, .int .i64 x.2.til, .int .i64 x.2.gra], .bool true]) ?_ rfl ⟨rfl, HS2.out.only (HSET.out _ _ _ _ 0) hown.out, (((Only.refl _ _).alloc _).trans (HP2.out.only.mono ?_)).trans2 (HSET.out _ _ _ _ 0) (fun k hk e => by omega)⟩
  · rw [results_cell_tmp rfl]
    go_simp
  · rintro k _ (e | e)
    · exact .inl e
    · exact .inr (.inr e)

end Go.Proofs.Ytfmpidacklhmaaa.Lru
