/- The steps that came in; long. -/
import Derived.Test.YthmdaekkpihlnaaK1
import Derived.Test.YthmdaekkpihlnaaQ8
namespace Go.Proofs.Ythmdaekkpihlnaa
open Go.RowKit Go.WideShapes
set_option linter.unusedVariables false

structure Stp where
  kind : Int
  key : ByteArray
  val : ByteArray
  til : Int
  gra : Int
  now : Int

structure At6 (w : World) (b o : Nat) (s : Stp) : Prop where
  k0 : w.cell? ⟨b, o, none⟩ = some (.int .i64 s.kind)
  k1 : w.cell? ⟨b, o + 1, none⟩ = some (.string s.key)
  k2 : w.cell? ⟨b, o + 2, none⟩ = some (.string s.val)
  k3 : w.cell? ⟨b, o + 3, none⟩ = some (.int .i64 s.til)
  k4 : w.cell? ⟨b, o + 4, none⟩ = some (.int .i64 s.gra)
  k5 : w.cell? ⟨b, o + 5, none⟩ = some (.int .i64 s.now)

structure Steps (w : World) (a : Option Addr) (n : Nat) (ss : List Stp) : Prop where
  len : ss.length = n
  le : n * 64 ≤ 140737488351232
  at_ : ∀ j (hj : j < ss.length), ∃ b off, a = some ⟨b, off, none⟩ ∧ b < w.heap.size ∧ At6 w b (off + j * 6) ss[j]
  small : ∀ j (hj : j < ss.length), ss[j].key.size ≤ 140737488351232 ∧ ss[j].val.size ≤ 140737488351232

noncomputable def fs32 : Array Field := match Try.prog.underlying 32 with
  | some (.struct fs) => fs
  | _ => #[]
theorem under32 : Try.prog.underlying 32 = some (.struct fs32) := by kernel_rfl
theorem hone32 : Go.Deep.oneCellFields Try.prog fs32 = true := by kernel_rfl
theorem cells32 : Try.prog.cellsOf 32 = fs32.size := by kernel_rfl
theorem size32 : fs32.size = 6 := by kernel_rfl
theorem bytes32 : Try.prog.bytesOf 32 = 64 := by kernel_rfl
theorem under22 : Try.prog.underlying 22 = some (.slice 32) := by kernel_rfl
theorem f32 : (fs32.toList.map (·.type)) = [3, 9, 9, 3, 3, 3] := by kernel_rfl
theorem f32at (i : Nat) (t : TypeId) (h : (fs32.toList.map (·.type))[i]? = some t) : ∃ f, fs32[i]? = some f ∧ f.type = t := by
  rw [List.getElem?_map, Array.getElem?_toList] at h
  cases hf : fs32[i]? with
  | none => rw [hf] at h; cases h
  | some f => rw [hf] at h; injection h with h; exact ⟨f, rfl, h⟩

theorem open_steps {H : Type} {enc : TypeId × Value → H} {W : World} {base : Nat} {v : Value} {d : DataW H} {ps : List MemPlace}
    (hok : Value.okWide Try.prog W .any base 22 v) (hd : DataW.Trod enc Try.prog W 0 (fun _ => true) true 22 v d ps) (hw : ∀ n ∈ d.weights Try.prog 22, n ≤ reachBytes) :
    ∃ a len cap ss, v = .slice a len cap ∧ Steps W a len ss ∧ len ≤ cap ∧ cap ≤ maxLen := by
  obtain ⟨a, len, cap, rfl, hle, _, hb, hc, hm, hat⟩ := open_flat under22 under32 hone32 cells32 hok hd hw
  rw [bytes32] at hle
  have key : ∀ j, j < len → ∃ s : Stp, ∃ b off, a = some ⟨b, off, none⟩ ∧ b < W.heap.size ∧ At6 W b (off + j * 6) s ∧ s.key.size ≤ 140737488351232 ∧ s.val.size ≤ 140737488351232 := by
    intro j hj
    obtain ⟨b, off, rfl, hf⟩ := hat j hj
    rw [size32] at hf
    obtain ⟨g0, e0, t0⟩ := f32at 0 3 (by rw [f32]; rfl)
    obtain ⟨g1, e1, t1⟩ := f32at 1 9 (by rw [f32]; rfl)
    obtain ⟨g2, e2, t2⟩ := f32at 2 9 (by rw [f32]; rfl)
    obtain ⟨g3, e3, t3⟩ := f32at 3 3 (by rw [f32]; rfl)
    obtain ⟨g4, e4, t4⟩ := f32at 4 3 (by rw [f32]; rfl)
    obtain ⟨g5, e5, t5⟩ := f32at 5 3 (by rw [f32]; rfl)
    obtain ⟨u0, c0, s0⟩ := hf 0 g0 e0
    obtain ⟨u1, c1, s1⟩ := hf 1 g1 e1
    obtain ⟨u2, c2, s2⟩ := hf 2 g2 e2
    obtain ⟨u3, c3, s3⟩ := hf 3 g3 e3
    obtain ⟨u4, c4, s4⟩ := hf 4 g4 e4
    obtain ⟨u5, c5, s5⟩ := hf 5 g5 e5
    rw [t0] at s0; rw [t1] at s1; rw [t2] at s2; rw [t3] at s3; rw [t4] at s4; rw [t5] at s5
    obtain ⟨n0, rfl, _⟩ := s0.int _ Try.underlying3
    obtain ⟨n1, rfl, l1⟩ := s1.string Try.underlying9
    obtain ⟨n2, rfl, l2⟩ := s2.string Try.underlying9
    obtain ⟨n3, rfl, _⟩ := s3.int _ Try.underlying3
    obtain ⟨n4, rfl, _⟩ := s4.int _ Try.underlying3
    obtain ⟨n5, rfl, _⟩ := s5.int _ Try.underlying3
    exact ⟨⟨n0, n1, n2, n3, n4, n5⟩, b, off, rfl, (hb _ rfl).2, ⟨c0, c1, c2, c3, c4, c5⟩, l1, l2⟩
  obtain ⟨ss, hl, hp⟩ := list_of _ len key
  refine ⟨a, len, cap, ss, rfl, ⟨hl, hle, fun j hj => ?_, fun j hj => ?_⟩, hc, hm⟩
  · obtain ⟨b, off, h1, h2, h3, _⟩ := hp j hj
    exact ⟨b, off, h1, h2, h3⟩
  · obtain ⟨_, _, _, _, _, h⟩ := hp j hj
    exact h

theorem At6.below {w w' : World} {b o : Nat} {s : Stp} (h : At6 w b o s) (hb : b < w.heap.size) (hB : Below w.heap.size w w') : At6 w' b o s :=
  ⟨by rw [hB.cell (p := ⟨b, o, none⟩) hb]; exact h.k0, by rw [hB.cell (p := ⟨b, o + 1, none⟩) hb]; exact h.k1, by rw [hB.cell (p := ⟨b, o + 2, none⟩) hb]; exact h.k2,
   by rw [hB.cell (p := ⟨b, o + 3, none⟩) hb]; exact h.k3, by rw [hB.cell (p := ⟨b, o + 4, none⟩) hb]; exact h.k4, by rw [hB.cell (p := ⟨b, o + 5, none⟩) hb]; exact h.k5⟩
theorem Steps.below {w w' : World} {a : Option Addr} {n : Nat} {ss : List Stp} (h : Steps w a n ss) (hB : Below w.heap.size w w') : Steps w' a n ss :=
  ⟨h.len, h.le, fun j hj => by obtain ⟨b, off, h1, h2, h3⟩ := h.at_ j hj; exact ⟨b, off, h1, Nat.lt_of_lt_of_le h2 hB.size, h3.below h2 hB⟩, h.small⟩

/-! ### long -/
def sbytes (l : List Stp) : Nat := (l.map fun s => s.key.size + s.val.size).sum
theorem sbytes_snoc {l : List Stp} {k : Nat} (hk : k < l.length) : sbytes (l.take (k + 1)) = sbytes (l.take k) + (l[k].key.size + l[k].val.size) := by
  unfold sbytes
  rw [List.take_succ_eq_append_getElem hk, List.map_append, List.sum_append]
  rfl
theorem sbytes_le {l : List Stp} : ∀ k, k ≤ l.length → (∀ j (hj : j < l.length), l[j].key.size ≤ 140737488351232 ∧ l[j].val.size ≤ 140737488351232) → sbytes (l.take k) ≤ k * 281474976702464
  | 0, _, _ => by simp [sbytes]
  | k + 1, hk, h => by
    have ih := sbytes_le k (by omega) h
    have hx := h k (by omega)
    rw [sbytes_snoc (by omega)]
    omega
def wrapsum (l : List Stp) : Int := l.foldl (fun n s => RowKit.wrap64 (RowKit.wrap64 (n + s.key.size) + s.val.size)) 0
theorem wrapsum_snoc {l : List Stp} {k : Nat} (hk : k < l.length) : wrapsum (l.take (k + 1)) = RowKit.wrap64 (RowKit.wrap64 (wrapsum (l.take k) + l[k].key.size) + l[k].val.size) := by
  unfold wrapsum
  rw [List.take_succ_eq_append_getElem hk, List.foldl_append]
  rfl
theorem wrapsum_eq {l : List Stp} (hl : l.length ≤ 300) (h : ∀ j (hj : j < l.length), l[j].key.size ≤ 140737488351232 ∧ l[j].val.size ≤ 140737488351232) : ∀ k, k ≤ l.length → wrapsum (l.take k) = (sbytes (l.take k) : Int)
  | 0, _ => rfl
  | k + 1, hk => by
    have ih := wrapsum_eq hl h k (by omega)
    have hb := sbytes_le (k + 1) hk h
    have hs := sbytes_snoc (l := l) (k := k) (by omega)
    rw [hs] at hb
    rw [wrapsum_snoc (by omega), ih, hs]
    have b : sbytes (l.take k) + (l[k].key.size + l[k].val.size) ≤ 300 * 281474976702464 := Nat.le_trans hb (Nat.mul_le_mul_right _ (by omega))
    rw [IntWalk.wrap64_in ((sbytes (l.take k) : Int) + (l[k].key.size : Int)) (by omega), IntWalk.wrap64_in _ (by omega)]
    omega
def longB (l : List Stp) : Bool := decide (300 < (l.length : Int)) || decide (100000 < wrapsum l)
theorem long_no {l : List Stp} (h : longB l = false) (hs : ∀ j (hj : j < l.length), l[j].key.size ≤ 140737488351232 ∧ l[j].val.size ≤ 140737488351232) : l.length ≤ 300 ∧ sbytes l ≤ 100000 := by
  simp only [longB, Bool.or_eq_false_iff, decide_eq_false_iff_not] at h
  have hl : l.length ≤ 300 := by omega
  have := wrapsum_eq hl hs l.length (Nat.le_refl _)
  rw [List.take_length] at this
  omega

set_option maxRecDepth 8000 in
theorem long_any {w : World} {a : Option Addr} {n cap : Nat} {ss : List Stp} (S : Steps w a n ss) :
    Calls Try.prog 8 #[.slice a n cap] w fun r w' => r = .returned (.bool (longB ss)) ∧ ∃ q, w' = w.drewN q := by
  have SS := Lib.hid S
  have hn := S.le
  have hl : Hid (ss.length = n) := S.len
  clear S
  go_enter Try.func8, Try.ntmps8
  go_wp2
  go_loopw [3, 4] (fun s i wr => ∃ k q : Nat, k ≤ n ∧ i = .int .i64 k ∧ s = .int .i64 (wrapsum (ss.take k)) ∧ wr = w.drewN q) (fun s i wr => n - (intOf i).toNat)
  case atStart => exact ⟨0, 0, by omega, rfl, rfl, rfl⟩
  case round =>
    obtain ⟨k, q, hk, rfl, rfl, rfl⟩ := hrel
    by_cases hlt : k < n
    · have hj : k < ss.length := by have := hl.out; omega
      obtain ⟨b, off, rfl, hb, hA⟩ := SS.out.at_ k hj
      have hs := wrapsum_snoc hj
      obtain ⟨s, hs'⟩ : ∃ s, s = ss[k] := ⟨_, rfl⟩
      rw [← hs'] at hA hs
      have HS := Lib.hid hs
      have hsm := SS.out.small k hj
      rw [← hs'] at hsm
      have k1 := hA.k1
      have k2 := hA.k2
      have i0 : (0 : Int) ≤ (k : Int) := by omega
      have i1 : (k : Int) < (n : Int) := by omega
      clear hA hs hs' hsm
      go_wp2_with fail
      go_quiet (fail)
      go_wp2
      go_roundw
      case rel => exact ⟨k + 1, q + nq, by omega, by go_num, by rw [HS.out], rfl⟩
      case measure => simp [intOf]; omega
    · have : k = n := by omega
      subst this
      have ht : Hid (ss.take k = ss) := by show _ = _; rw [← hl.out, List.take_length]
      rw [ht.out]
      cases h1 : decide (300 < (k : Int)) with
      | true =>
        go_wp2
        go_ret
        refine ⟨?_, q, rfl⟩
        have : longB ss = true := by unfold longB; rw [hl.out, h1]; rfl
        rw [this]; rfl
      | false =>
        go_wp2
        go_ret
        refine ⟨?_, q, rfl⟩
        have : longB ss = decide (100000 < wrapsum ss) := by unfold longB; rw [hl.out, h1]; rfl
        rw [this]; rfl

end Go.Proofs.Ythmdaekkpihlnaa
