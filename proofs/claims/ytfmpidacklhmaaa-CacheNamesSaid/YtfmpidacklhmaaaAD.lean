/- A cache, in a world; its parts' turns. -/
import Derived.Test.YtfmpidacklhmaaaAC
import Derived.Test.YtfmpidacklhmaaaBA
import Derived.Test.YtfmpidacklhmaaaBG
import Derived.Test.YtfmpidacklhmaaaA5
import Derived.Test.YtfmpidacklhmaaaW4
namespace Go.Proofs.Ytfmpidacklhmaaa
open Go.RowKit Go.Maps
set_option linter.unusedVariables false
set_option maxRecDepth 20000

theorem ofLru {S : Nat → Prop} {w w' : World} (h : Lru.Only S w w') : Only S w w' := ⟨h.os, h.tape, h.output, h.size, h.block⟩
theorem toLru {S : Nat → Prop} {w w' : World} (h : Only S w w') : Lru.Only S w w' := ⟨h.os, h.tape, h.output, h.size, h.block⟩
theorem ofLru0 {w w' : World} (h : Lru.Only Lru.None' w w') : Only None' w w' := ⟨h.os, h.tape, h.output, h.size, h.block⟩

/-- the blocks of a cache -/
structure Bk where
  m : Nat
  C : Nat
  B : Nat
  M : Nat
  Bc : Nat
  Mc : Nat
  Ma : Nat
  R : Nat
  T : Nat
def Bk.five (b : Bk) (k : Nat) : Prop := k = b.C ∨ k = b.Bc ∨ k = b.Mc ∨ k = b.Ma ∨ k = b.R ∨ k = b.T
def Bk.own (b : Bk) (l : List Lru.Node) (k : Nat) : Prop := Lru.Own b.B b.M l k ∨ b.five k
/-- what a cache has -/
structure Cs where
  clock : Int
  l : List Lru.Node
  c : Cl
  f : Int → Ak
  n : Nat
  at_ : Int
  ow : Int
  ep : Int
def cacheR (b : Bk) (clock : Int) : List Value := suR ++ [.int .i64 101, .int .i64 clock, .pointer (some ⟨b.B, 0, none⟩), .pointer (some ⟨b.R, 0, none⟩), .pointer (some ⟨b.Bc, 0, none⟩), .map (some b.Ma)]
structure CacheAt (w : World) (b : Bk) (s : Cs) : Prop where
  blk : CellsR w b.C (cacheR b s.clock)
  shelf : Lru.Shelf b.m w b.B b.M 10 1000 s.l
  calls : CallAt w b.Bc b.Mc s.c
  asked : AskedAt w b.Ma s.f s.n
  route : RtAt w b.R b.T s.at_ s.ow s.ep
  sep : ∀ k, Lru.Own b.B b.M s.l k → ¬ b.five k
  dis : [b.C, b.Bc, b.Mc, b.Ma, b.R, b.T].Nodup
structure Did (b : Bk) (s s' : Cs) (w w' : World) : Prop where
  at_ : CacheAt w' b s'
  kept : Kept (b.own s.l) (b.own s'.l) w w'
section
variable {w w' w'' : World} {b : Bk} {s s' s'' : Cs}
theorem CacheAt.apart (h : CacheAt w b s) : b.C ≠ b.Bc ∧ b.C ≠ b.Mc ∧ b.C ≠ b.Ma ∧ b.C ≠ b.R ∧ b.C ≠ b.T ∧ b.Bc ≠ b.Mc ∧ b.Bc ≠ b.Ma ∧ b.Bc ≠ b.R ∧ b.Bc ≠ b.T ∧ b.Mc ≠ b.Ma ∧ b.Mc ≠ b.R ∧ b.Mc ≠ b.T ∧ b.Ma ≠ b.R ∧ b.Ma ≠ b.T ∧ b.R ≠ b.T := by
  have := h.dis
  simp only [List.nodup_cons, List.mem_cons, List.not_mem_nil, or_false, not_or] at this
  omega
theorem CacheAt.lt (h : CacheAt w b s) {k : Nat} (hk : b.own s.l k) : k < w.heap.size := by
  rcases hk with h1 | h1 | h1 | h1 | h1 | h1 | h1
  · exact h.shelf.ltOwn h1
  · exact h1 ▸ h.blk.lt
  · exact h1 ▸ h.calls.cells.lt
  · exact h1 ▸ h.calls.lt
  · exact h1 ▸ h.asked.lt
  · exact h1 ▸ h.route.blk.lt
  · exact h1 ▸ h.route.cells.2.2.2.2
theorem CacheAt.only (h : CacheAt w b s) {S : Nat → Prop} (o : Only S w w') (hS : ∀ k, b.own s.l k → ¬ S k) : CacheAt w' b s :=
  ⟨h.blk.kept o (hS _ (.inr (.inl rfl))), h.shelf.only (toLru o) fun k hk => hS k (.inl hk), h.calls.only o (hS _ (.inr (.inr (.inl rfl)))) (hS _ (.inr (.inr (.inr (.inl rfl))))), h.asked.only o (hS _ (.inr (.inr (.inr (.inr (.inl rfl)))))), h.route.only o (hS _ (.inr (.inr (.inr (.inr (.inr (.inl rfl))))))) (hS _ (.inr (.inr (.inr (.inr (.inr (.inr rfl))))))), h.sep, h.dis⟩
theorem CacheAt.new (h : CacheAt w b s) (o : Only None' w w') : CacheAt w' b s := h.only o fun _ _ e => e
theorem CacheAt.did (h : CacheAt w b s) : Did b s s w w := ⟨h, Kept.refl _ _⟩
theorem Did.trans (h : Did b s s' w w') (k : Did b s' s'' w' w'') : Did b s s'' w w'' := ⟨k.at_, h.kept.trans k.kept⟩
theorem Did.new (h : Did b s s' w w') (o : Only None' w' w'') : Did b s s' w w'' := ⟨h.at_.new o, h.kept.trans (Kept.new o)⟩
theorem CacheAt.shelf_to (h : CacheAt w b s) {l' : List Lru.Node} (hs : Lru.Shelf b.m w' b.B b.M 10 1000 l') (o : Lru.Only (Lru.Own b.B b.M s.l) w w') (hn : ∀ k, k ∈ Lru.nums l' → k ∈ Lru.nums s.l ∨ w.heap.size ≤ k) : Did b s { s with l := l' } w w' := by
  have o' := ofLru o
  have hne : ∀ k, b.five k → ¬ Lru.Own b.B b.M s.l k := fun k hk ho => h.sep k ho hk
  refine ⟨⟨h.blk.kept o' (hne _ (.inl rfl)), hs, h.calls.only o' (hne _ (.inr (.inl rfl))) (hne _ (.inr (.inr (.inl rfl)))), h.asked.only o' (hne _ (.inr (.inr (.inr (.inl rfl))))), h.route.only o' (hne _ (.inr (.inr (.inr (.inr (.inl rfl)))))) (hne _ (.inr (.inr (.inr (.inr (.inr rfl)))))), ?_, h.dis⟩, o'.mono fun k _ hk => .inl hk, ?_⟩
  · rintro k (hk | hk | hk) h5
    · exact h.sep k (.inl hk) h5
    · exact h.sep k (.inr (.inl hk)) h5
    · rcases hn k hk with h1 | h1
      · exact h.sep k (.inr (.inr h1)) h5
      · have := h.lt (k := k) (.inr h5)
        omega
  · rintro k ((hk | hk | hk) | hk)
    · exact .inl (.inl (.inl hk))
    · exact .inl (.inl (.inr (.inl hk)))
    · rcases hn k hk with h1 | h1
      · exact .inl (.inl (.inr (.inr h1)))
      · exact .inr h1
    · exact .inl (.inr hk)
theorem CacheAt.calls_to (h : CacheAt w b s) {c' : Cl} (hc : CallAt w' b.Bc b.Mc c') (o : Only (fun k => k = b.Bc ∨ k = b.Mc) w w') : Did b s { s with c := c' } w w' := by
  have ha := h.apart
  refine ⟨⟨h.blk.kept o (by omega), h.shelf.only (toLru o) fun k hk hk' => ?_, hc, h.asked.only o (by omega), h.route.only o (by omega) (by omega), h.sep, h.dis⟩, Kept.only' (o.mono fun k _ hk => .inr ?_)⟩
  · rcases hk' with e | e
    · exact h.sep k hk (.inr (.inl e))
    · exact h.sep k hk (.inr (.inr (.inl e)))
  · rcases hk with e | e
    · exact .inr (.inl e)
    · exact .inr (.inr (.inl e))
theorem CacheAt.asked_to (h : CacheAt w b s) {f' : Int → Ak} {n' : Nat} (hc : AskedAt w' b.Ma f' n') (o : Only (fun k => k = b.Ma) w w') : Did b s { s with f := f', n := n' } w w' := by
  have ha := h.apart
  refine ⟨⟨h.blk.kept o (by omega), h.shelf.only (toLru o) fun k hk hk' => h.sep k hk (.inr (.inr (.inr (.inl hk')))), h.calls.only o (by omega) (by omega), hc, h.route.only o (by omega) (by omega), h.sep, h.dis⟩, Kept.only' (o.mono fun k _ hk => .inr (.inr (.inr (.inr (.inl hk)))))⟩
theorem CacheAt.route_to (h : CacheAt w b s) {at' ow' ep' : Int} (hc : RtAt w' b.R b.T at' ow' ep') (o : Only (fun k => k = b.R ∨ k = b.T) w w') : Did b s { s with at_ := at', ow := ow', ep := ep' } w w' := by
  have ha := h.apart
  refine ⟨⟨h.blk.kept o (by omega), h.shelf.only (toLru o) fun k hk hk' => ?_, h.calls.only o (by omega) (by omega), h.asked.only o (by omega), hc, h.sep, h.dis⟩, Kept.only' (o.mono fun k _ hk => .inr ?_)⟩
  · rcases hk' with e | e
    · exact h.sep k hk (.inr (.inr (.inr (.inr (.inl e)))))
    · exact h.sep k hk (.inr (.inr (.inr (.inr (.inr e)))))
  · rcases hk with e | e
    · exact .inr (.inr (.inr (.inr (.inl e))))
    · exact .inr (.inr (.inr (.inr (.inr e))))
theorem CacheAt.clock_to (h : CacheAt w b s) (t : Int) : Did b s { s with clock := t } w (w.setCell ⟨b.C, 14, none⟩ (.int .i64 t)) := by
  have ha := h.apart
  have o : Only (fun k => k = b.C) w (w.setCell ⟨b.C, 14, none⟩ (.int .i64 t)) := (Only.refl (fun k => k = b.C) w).setCell (p := ⟨b.C, 14, none⟩) rfl _
  refine ⟨⟨h.blk.set (i := 14) (by show 14 < 19; omega) (.int .i64 t), h.shelf.only (toLru o) fun k hk hk' => h.sep k hk (.inl hk'), h.calls.only o (by omega) (by omega), h.asked.only o (by omega), h.route.only o (by omega) (by omega), h.sep, h.dis⟩, Kept.only' (o.mono fun k _ hk => .inr (.inl hk))⟩
/-- its cells -/
structure CCells (w : World) (b : Bk) (clock : Int) : Prop where
  c0 : w.cell? ⟨b.C, 0, none⟩ = some (.int .i64 3)
  c3 : w.cell? ⟨b.C, 3, none⟩ = some (.int .i64 1)
  c5 : w.cell? ⟨b.C, 5, none⟩ = some (.int .i64 5)
  c11 : w.cell? ⟨b.C, 11, none⟩ = some (.int .i64 5)
  c13 : w.cell? ⟨b.C, 13, none⟩ = some (.int .i64 101)
  c14 : w.cell? ⟨b.C, 14, none⟩ = some (.int .i64 clock)
  c15 : w.cell? ⟨b.C, 15, none⟩ = some (.pointer (some ⟨b.B, 0, none⟩))
  c16 : w.cell? ⟨b.C, 16, none⟩ = some (.pointer (some ⟨b.R, 0, none⟩))
  c17 : w.cell? ⟨b.C, 17, none⟩ = some (.pointer (some ⟨b.Bc, 0, none⟩))
  c18 : w.cell? ⟨b.C, 18, none⟩ = some (.map (some b.Ma))
  lt : b.C < w.heap.size
  thaw : w.frozen? ⟨b.C, 14, none⟩ = false
theorem CacheAt.cells (h : CacheAt w b s) : CCells w b s.clock := ⟨h.blk.is 0 _ rfl, h.blk.is 3 _ rfl, h.blk.is 5 _ rfl, h.blk.is 11 _ rfl, h.blk.is 13 _ rfl, h.blk.is 14 _ rfl, h.blk.is 15 _ rfl, h.blk.is 16 _ rfl, h.blk.is 17 _ rfl, h.blk.is 18 _ rfl, h.blk.lt, h.blk.thaw 14⟩
end
end Go.Proofs.Ytfmpidacklhmaaa
