/- The document's shelf: Sweep, Put. -/
import Derived.Test.YthmdaekkpihlnaaQ3
namespace Go.Proofs.Ythmdaekkpihlnaa
open Go.RowKit
set_option linter.unusedVariables false

theorem plive_snoc (now : Int) (l : List Ent) (e : Ent) : plive now (l ++ [e]) = if e.til > now then plive now l ++ [e] else plive now l := by
  unfold plive
  rw [List.filter_append]
  by_cases h : e.til > now
  · have : now < e.til := h
    simp [this]
  · have : ¬ now < e.til := h
    simp [this]
theorem plive_le (now : Int) (l : List Ent) : (plive now l).length ≤ l.length := List.length_filter_le _ _
theorem plive_gone (now : Int) : ∀ l : List Ent, (plive now l).length + pgone now l = l.length
  | [] => rfl
  | x :: r => by
    have ih := plive_gone now r
    unfold plive pgone at *
    by_cases h : x.til ≤ now
    · have h' : ¬ now < x.til := by omega
      simp [h, h']; omega
    · have h' : now < x.til := by omega
      simp [h, h']; omega

set_option maxRecDepth 8000 in
theorem sweep21 {w : World} {X : Nat} {E Y : Int} {v : Value} {L : List Ent} (R : Ref w X E Y v L) (now : Int) :
    Calls Try.prog 21 #[.pointer (some ⟨X, 0, none⟩), .int .i64 now] w fun r w' => r = .returned (.int .i64 ((L.length : Int) - ((plive now L).length : Int))) ∧ ∃ v', Ref w' X E Y v' (plive now L) ∧ Kept (OwnR X v) (OwnR X v') w w' := by
  obtain ⟨i0, hi, hz0, hz1, hz2⟩ := info_parts info50
  obtain ⟨a, cap, rfl, hcap, hmax⟩ := R.vec.shape
  have RR := Lib.hid R
  have c2 := R.c2
  have lX := R.ltX
  have hfew := R.few
  have HV := Lib.hid R.vec
  clear R
  go_enter Try.func21, Try.ntmps21
  go_wp2
  go_loopw [5, 6] (fun lv i wr => ∃ k : Nat, k ≤ L.length ∧ i = .int .i64 k ∧ wr.ownsRow w.heap.size 50 4 lv (plive now (L.take k)).length (cellsOf (plive now (L.take k))) ∧ Below w.heap.size w wr) (fun lv i wr => L.length - (intOf i).toNat)
  case atStart => exact ⟨0, by omega, rfl, World.ownsRow_nil _ _ _ _, Below.refl _ _⟩
  case round =>
    obtain ⟨k, hk, rfl, hown, hbel⟩ := hrel
    have HO := Lib.hid hown
    have HB := Lib.hid hbel
    have d2 : wr.cell? ⟨X, 2, none⟩ = some (.slice a L.length cap) := by rw [hbel.cell (p := ⟨X, 2, none⟩) lX]; exact c2
    have hsz := hbel.size
    clear hown hbel
    by_cases hlt : k < L.length
    · rcases HV.out.form with ⟨h1, h2⟩ | ⟨g, off, cap', h1, h2, h3, h4, h5, h6⟩
      · omega
      · simp only [Value.slice.injEq] at h1
        obtain ⟨rfl, _, rfl⟩ := h1
        have hA := (at4 h5 hlt).below HB.out h4
        obtain ⟨k0, k1, k2, k3⟩ := hA
        have i1 : (k : Int) < (L.length : Int) := by omega
        have hl : (plive now (L.take k)).length ≤ k := Nat.le_trans (plive_le _ _) (by simp; omega)
        have hs := plive_snoc now (L.take k) L[k]
        rw [← take_snocE hlt] at hs
        clear h5 h6
        by_cases hkey : L[k].til > now
        · rw [if_pos hkey] at hs
          have HS := Lib.hid hs
          have hb : now < L[k].til := hkey
          clear hs hkey
          go_wp2_with (at_builtin; refine wpList_append_own_at _ rfl _ _ 46 rfl w.heap.size 50 i0 _ 4 48 Try.underlying46 hi hz0 hz1 hz2 rfl (by omega) u5 _ _ rfl (HO.out.alloc _) ⟨wr.heap.size, 0, none⟩ 1 1 L[k].cells rfl rfl (World.news_of_block (cs := #[.string L[k].key, .string L[k].val, .int .i64 L[k].til, .int .i64 L[k].gra]) (t := 50) (fr := (0, 0)) (heap_alloc_new wr _)) (by simp [Value.oneCell', Ent.cells]) (by unfold maxLen; omega) (by omega) (by simp; omega) ?_)
          intro v' w1 hown1 hg1 _ hat
          have HB1 := Lib.hid ((HB.out.alloc hsz _).grown hg1 (by simp; omega) fun g hg => (HO.out.lt g hg).1)
          have HO1 := Lib.hid hown1
          clear hown1 hg1 hat
          go_wp2
          go_roundw
          case rel => exact ⟨k + 1, by omega, by go_num, by rw [HS.out, cellsOf_append, List.length_append]; exact HO1.out, HB1.out⟩
          case measure => simp [intOf]; omega
        · rw [if_neg hkey] at hs
          have HS := Lib.hid hs
          have hb : ¬ now < L[k].til := hkey
          clear hs hkey
          go_wp2
          go_roundw
          case rel => exact ⟨k + 1, by omega, by go_num, by rw [HS.out]; exact HO.out, HB.out⟩
          case measure => simp [intOf]; omega
    · have : k = L.length := by omega
      subst this
      have hO := HO.out
      rw [List.take_length] at hO
      obtain ⟨a1, cap1, rfl, q1, q2⟩ := (Vec.of_owns hO).shape
      have HV1 := Lib.hid (Vec.of_owns hO)
      have HO1 := Lib.hid (fun g (hg : Value.ownBlock (.slice a1 (plive now L).length cap1) = some g) => hO.lt g hg)
      have hX := Lib.hid (fun o => (HB.out.frozen (p := ⟨X, o, none⟩) lX).trans (RR.out.thaw o))
      have f2 := hX.out 2
      have hpl := plive_le now L
      clear hO
      go_wp2
      go_ret
      have hB := HB.out
      have hO : Only (fun k => k = X) wr (wr.setCell ⟨X, 2, none⟩ (.slice a1 (plive now L).length cap1)) := (Only.refl (fun k => k = X) wr).setCell (p := ⟨X, 2, none⟩) rfl _
      have hap : ∀ g, Value.ownBlock (.slice a1 (plive now L).length cap1) = some g → ¬ g = X := fun g hg e => by have := HO1.out g hg; omega
      refine ⟨rfl, _, ⟨?_, ?_, World.cell?_setCell_same _ _ _ d2, fun o => by rw [World.frozen?_setCell]; exact hX.out o, ?_, HV1.out.only hO hap, fun h => hap X h rfl, ?_, ?_⟩, ?_, ?_⟩
      · rw [World.cell?_setCell_other _ _ _ _ (off_ne (by decide)), hB.cell (p := ⟨X, 0, none⟩) lX]; exact RR.out.c0
      · rw [World.cell?_setCell_other _ _ _ _ (off_ne (by decide)), hB.cell (p := ⟨X, 1, none⟩) lX]; exact RR.out.c1
      · rw [heap_size_setCell]; omega
      · intro e he; exact RR.out.small e (List.mem_filter.1 he).1
      · exact Nat.le_trans (plive_le _ _) hfew
      · have h1 : Only (OwnR X (.slice a L.length cap)) w wr := ⟨hB.os, hB.tape, hB.output, hB.size, fun k hk _ => hB.block k hk⟩
        exact h1.trans2 hO fun k _ hk => .inl hk
      · rintro k (hk | hk)
        · exact .inl (.inl hk)
        · exact .inr (HO1.out k hk).1

end Go.Proofs.Ythmdaekkpihlnaa
