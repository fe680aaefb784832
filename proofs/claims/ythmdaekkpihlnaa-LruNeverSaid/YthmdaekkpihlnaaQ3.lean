/- The document's shelf: Drop. -/
import Derived.Test.YthmdaekkpihlnaaQ2
namespace Go.Proofs.Ythmdaekkpihlnaa
open Go.RowKit
set_option linter.unusedVariables false

theorem info50 : (Try.prog.info? 50).map (fun i => (i.zero, i.size, i.bytes)) = some (some (.agg #[.string ⟨#[]⟩, .string ⟨#[]⟩, .int .i64 0, .int .i64 0]), 4, 48) := by kernel_rfl

theorem At4.below {w w' : World} {g o : Nat} {e : Ent} (h : At4 w g o e) (hb : Below w.heap.size w w') (hg : g < w.heap.size) : At4 w' g o e :=
  ⟨by rw [hb.cell (p := ⟨g, o, none⟩) hg]; exact h.k0, by rw [hb.cell (p := ⟨g, o + 1, none⟩) hg]; exact h.k1, by rw [hb.cell (p := ⟨g, o + 2, none⟩) hg]; exact h.k2, by rw [hb.cell (p := ⟨g, o + 3, none⟩) hg]; exact h.k3⟩

theorem keyT {a b : ByteArray} (h : a = b) : (a.toList == b.toList) = true := by subst h; simp
theorem keyF {a b : ByteArray} (h : ¬ a = b) : (a.toList == b.toList) = false := by
  rw [beq_eq_false_iff_ne]
  intro e
  rw [ByteArray.toList_eq, ByteArray.toList_eq] at e
  apply h
  have := Array.toList_inj.1 e
  cases a; cases b; simp_all

theorem pdrop_snoc (l : List Ent) (k : ByteArray) (e : Ent) : pdrop (l ++ [e]) k = if e.key = k then pdrop l k else pdrop l k ++ [e] := by
  unfold pdrop
  rw [List.filter_append]
  by_cases h : e.key = k <;> simp [h]
theorem pdrop_le (l : List Ent) (k : ByteArray) : (pdrop l k).length ≤ l.length := List.length_filter_le _ _

set_option maxRecDepth 8000 in
theorem drop20 {w : World} {X : Nat} {E Y : Int} {v : Value} {L : List Ent} (R : Ref w X E Y v L) (key : ByteArray) :
    Calls Try.prog 20 #[.pointer (some ⟨X, 0, none⟩), .string key] w fun r w' => r = .returned (.bool (decide ((pdrop L key).length < L.length))) ∧ ∃ v', Ref w' X E Y v' (pdrop L key) ∧ Kept (OwnR X v) (OwnR X v') w w' := by
  obtain ⟨i0, hi, hz0, hz1, hz2⟩ := info_parts info50
  obtain ⟨a, cap, rfl, hcap, hmax⟩ := R.vec.shape
  have RR := Lib.hid R
  have c2 := R.c2
  have lX := R.ltX
  have hfew := R.few
  have HV := Lib.hid R.vec
  clear R
  go_enter Try.func20, Try.ntmps20
  go_wp2
  go_loopw [5, 6] (fun lv i wr => ∃ k : Nat, k ≤ L.length ∧ i = .int .i64 k ∧ wr.ownsRow w.heap.size 50 4 lv (pdrop (L.take k) key).length (cellsOf (pdrop (L.take k) key)) ∧ Below w.heap.size w wr) (fun lv i wr => L.length - (intOf i).toNat)
  case atStart => exact ⟨0, by omega, rfl, World.ownsRow_nil _ _ _ _, Below.refl _ _⟩
  case round =>
    obtain ⟨k, hk, rfl, hown, hbel⟩ := hrel
    have HO := Lib.hid hown
    have HB := Lib.hid hbel
    have d2 : wr.cell? ⟨X, 2, none⟩ = some (.slice a L.length cap) := by rw [hbel.cell (p := ⟨X, 2, none⟩) lX]; exact c2
    have hsz := hbel.size
    clear hown hbel
    by_cases hlt : k < L.length
    · rcases HV.out.form with ⟨h1, h2⟩ | ⟨g, off, cap', h1, h2, h3, h4, h5, h6⟩
      · omega
      · simp only [Value.slice.injEq] at h1
        obtain ⟨rfl, _, rfl⟩ := h1
        have hA := (at4 h5 hlt).below HB.out h4
        obtain ⟨k0, k1, k2, k3⟩ := hA
        have i1 : (k : Int) < (L.length : Int) := by omega
        have hl : (pdrop (L.take k) key).length ≤ k := Nat.le_trans (pdrop_le _ _) (by simp; omega)
        have hs := pdrop_snoc (L.take k) key L[k]
        rw [← take_snocE hlt] at hs
        clear h5 h6
        by_cases hkey : L[k].key = key
        · rw [if_pos hkey] at hs
          have HS := Lib.hid hs
          have hb := keyT hkey
          clear hs hkey
          go_wp2
          go_roundw
          case rel => exact ⟨k + 1, by omega, by go_num, by rw [HS.out]; exact HO.out, HB.out⟩
          case measure => simp [intOf]; omega
        · rw [if_neg hkey] at hs
          have HS := Lib.hid hs
          have hb := keyF hkey
          clear hs hkey
          go_wp2_with (at_builtin; refine wpList_append_own_at _ rfl _ _ 46 rfl w.heap.size 50 i0 _ 4 48 Try.underlying46 hi hz0 hz1 hz2 rfl (by omega) u5 _ _ rfl (HO.out.alloc _) ⟨wr.heap.size, 0, none⟩ 1 1 L[k].cells rfl rfl (World.news_of_block (cs := #[.string L[k].key, .string L[k].val, .int .i64 L[k].til, .int .i64 L[k].gra]) (t := 50) (fr := (0, 0)) (heap_alloc_new wr _)) (by simp [Value.oneCell', Ent.cells]) (by unfold maxLen; omega) (by omega) (by simp; omega) ?_)
          intro v' w1 hown1 hg1 _ hat
          have HB1 := Lib.hid ((HB.out.alloc hsz _).grown hg1 (by simp; omega) fun g hg => (HO.out.lt g hg).1)
          have HO1 := Lib.hid hown1
          clear hown1 hg1 hat
          go_wp2
          go_roundw
          case rel => exact ⟨k + 1, by omega, by go_num, by rw [HS.out, cellsOf_append, List.length_append]; exact HO1.out, HB1.out⟩
          case measure => simp [intOf]; omega
    · have : k = L.length := by omega
      subst this
      have hO := HO.out
      rw [List.take_length] at hO
      obtain ⟨a1, cap1, rfl, q1, q2⟩ := (Vec.of_owns hO).shape
      have HV1 := Lib.hid (Vec.of_owns hO)
      have HO1 := Lib.hid (fun g (hg : Value.ownBlock (.slice a1 (pdrop L key).length cap1) = some g) => hO.lt g hg)
      have hX := Lib.hid (fun o => (HB.out.frozen (p := ⟨X, o, none⟩) lX).trans (RR.out.thaw o))
      have f2 := hX.out 2
      clear hO
      go_wp2
      go_ret
      have hB := HB.out
      have hO : Only (fun k => k = X) wr (wr.setCell ⟨X, 2, none⟩ (.slice a1 (pdrop L key).length cap1)) := (Only.refl (fun k => k = X) wr).setCell (p := ⟨X, 2, none⟩) rfl _
      have hap : ∀ g, Value.ownBlock (.slice a1 (pdrop L key).length cap1) = some g → ¬ g = X := fun g hg e => by have := HO1.out g hg; omega
      refine ⟨rfl, _, ⟨?_, ?_, World.cell?_setCell_same _ _ _ d2, fun o => by rw [World.frozen?_setCell]; exact hX.out o, ?_, HV1.out.only hO hap, fun h => hap X h rfl, ?_, ?_⟩, ?_, ?_⟩
      · rw [World.cell?_setCell_other _ _ _ _ (off_ne (by decide)), hB.cell (p := ⟨X, 0, none⟩) lX]; exact RR.out.c0
      · rw [World.cell?_setCell_other _ _ _ _ (off_ne (by decide)), hB.cell (p := ⟨X, 1, none⟩) lX]; exact RR.out.c1
      · rw [heap_size_setCell]; omega
      · intro e he; exact RR.out.small e (List.mem_filter.1 he).1
      · exact Nat.le_trans (pdrop_le _ _) hfew
      · have h1 : Only (OwnR X (.slice a L.length cap)) w wr := ⟨hB.os, hB.tape, hB.output, hB.size, fun k hk _ => hB.block k hk⟩
        exact h1.trans2 hO fun k _ hk => .inl hk
      · rintro k (hk | hk)
        · exact .inl (.inl hk)
        · exact .inr (HO1.out k hk).1

end Go.Proofs.Ythmdaekkpihlnaa
