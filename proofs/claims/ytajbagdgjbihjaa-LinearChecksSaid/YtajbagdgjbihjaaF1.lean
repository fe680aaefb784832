/- An argument that is a slice of events. -/
import Derived.Test.YtajbagdgjbihjaaE8
import Derived.Test.YtajbagdgjbihjaaP2
namespace Go.Proofs.Ytajbagdgjbihjaa
open Go.RowKit Go.Maps Go.Sort Go.WideShapes
set_option linter.unusedVariables false

noncomputable def fsOf (t : TypeId) : Array Field := match Try.prog.underlying t with
  | some (.struct fs) => fs
  | _ => #[]
theorem f31 : (fsOf 31).toList.map (fun f => (f.type, f.offset)) = [(3, 0), (3, 1), (3, 2), (4, 3), (24, 4), (29, 9)] := by kernel_rfl
theorem f24 : (fsOf 24).toList.map (fun f => (f.type, f.offset)) = [(5, 0), (9, 1), (9, 2), (9, 3), (4, 4)] := by kernel_rfl
theorem f29 : (fsOf 29).toList.map (fun f => (f.type, f.offset)) = [(5, 0), (4, 1), (9, 2)] := by kernel_rfl
theorem u31 : Try.prog.underlying 31 = some (.struct (fsOf 31)) := by kernel_rfl
theorem u24 : Try.prog.underlying 24 = some (.struct (fsOf 24)) := by kernel_rfl
theorem u29 : Try.prog.underlying 29 = some (.struct (fsOf 29)) := by kernel_rfl
theorem c31 : Try.prog.cellsOf 31 = 12 := by kernel_rfl
theorem c24 : Try.prog.cellsOf 24 = 5 := by kernel_rfl
theorem c29 : Try.prog.cellsOf 29 = 3 := by kernel_rfl
theorem c3 : Try.prog.cellsOf 3 = 1 := by kernel_rfl
theorem c4 : Try.prog.cellsOf 4 = 1 := by kernel_rfl
theorem c5 : Try.prog.cellsOf 5 = 1 := by kernel_rfl
theorem c9 : Try.prog.cellsOf 9 = 1 := by kernel_rfl
theorem leaf_f {t i ft off o u : Nat} (hu : Try.prog.underlying t = some (.struct (fsOf t))) (hf : ((fsOf t).toList.map (fun f => (f.type, f.offset)))[i]? = some (ft, off)) (hin : off + Try.prog.cellsOf ft ≤ Try.prog.cellsOf t) (ho : o < Try.prog.cellsOf ft) (h : Leaf Try.prog ft o u) : Leaf Try.prog t (off + o) u := by
  rw [List.getElem?_map] at hf
  cases e : (fsOf t).toList[i]? with
  | none => rw [e] at hf; cases hf
  | some f =>
    rw [e] at hf
    simp only [Option.map_some, Option.some.injEq, Prod.mk.injEq] at hf
    obtain ⟨rfl, rfl⟩ := hf
    rw [Array.getElem?_toList] at e
    exact Leaf.field hu e hin ho h
theorem l3 : Leaf Try.prog 3 0 3 := .here c3
theorem l4 : Leaf Try.prog 4 0 4 := .here c4
theorem l5 : Leaf Try.prog 5 0 5 := .here c5
theorem l9 : Leaf Try.prog 9 0 9 := .here c9
theorem e0 : Leaf Try.prog 31 0 3 := leaf_f (i := 0) (ft := 3) (off := 0) (o := 0) u31 (by rw [f31]; rfl) (by rw [c31, c3]; decide) (by rw [c3]; decide) l3
theorem e1 : Leaf Try.prog 31 1 3 := leaf_f (i := 1) (ft := 3) (off := 1) (o := 0) u31 (by rw [f31]; rfl) (by rw [c31, c3]; decide) (by rw [c3]; decide) l3
theorem e2 : Leaf Try.prog 31 2 3 := leaf_f (i := 2) (ft := 3) (off := 2) (o := 0) u31 (by rw [f31]; rfl) (by rw [c31, c3]; decide) (by rw [c3]; decide) l3
theorem e3 : Leaf Try.prog 31 3 4 := leaf_f (i := 3) (ft := 4) (off := 3) (o := 0) u31 (by rw [f31]; rfl) (by rw [c31, c4]; decide) (by rw [c4]; decide) l4
theorem o0 : Leaf Try.prog 24 0 5 := leaf_f (i := 0) (ft := 5) (off := 0) (o := 0) u24 (by rw [f24]; rfl) (by rw [c24, c5]; decide) (by rw [c5]; decide) l5
theorem o1 : Leaf Try.prog 24 1 9 := leaf_f (i := 1) (ft := 9) (off := 1) (o := 0) u24 (by rw [f24]; rfl) (by rw [c24, c9]; decide) (by rw [c9]; decide) l9
theorem o2 : Leaf Try.prog 24 2 9 := leaf_f (i := 2) (ft := 9) (off := 2) (o := 0) u24 (by rw [f24]; rfl) (by rw [c24, c9]; decide) (by rw [c9]; decide) l9
theorem o3 : Leaf Try.prog 24 3 9 := leaf_f (i := 3) (ft := 9) (off := 3) (o := 0) u24 (by rw [f24]; rfl) (by rw [c24, c9]; decide) (by rw [c9]; decide) l9
theorem o4 : Leaf Try.prog 24 4 4 := leaf_f (i := 4) (ft := 4) (off := 4) (o := 0) u24 (by rw [f24]; rfl) (by rw [c24, c4]; decide) (by rw [c4]; decide) l4
theorem r0 : Leaf Try.prog 29 0 5 := leaf_f (i := 0) (ft := 5) (off := 0) (o := 0) u29 (by rw [f29]; rfl) (by rw [c29, c5]; decide) (by rw [c5]; decide) l5
theorem r1 : Leaf Try.prog 29 1 4 := leaf_f (i := 1) (ft := 4) (off := 1) (o := 0) u29 (by rw [f29]; rfl) (by rw [c29, c4]; decide) (by rw [c4]; decide) l4
theorem r2 : Leaf Try.prog 29 2 9 := leaf_f (i := 2) (ft := 9) (off := 2) (o := 0) u29 (by rw [f29]; rfl) (by rw [c29, c9]; decide) (by rw [c9]; decide) l9
theorem eO {o u : Nat} (ho : o < 5) (h : Leaf Try.prog 24 o u) : Leaf Try.prog 31 (4 + o) u := leaf_f (i := 4) (ft := 24) (off := 4) u31 (by rw [f31]; rfl) (by rw [c31, c24]; decide) (by rw [c24]; exact ho) h
theorem eR {o u : Nat} (ho : o < 3) (h : Leaf Try.prog 29 o u) : Leaf Try.prog 31 (9 + o) u := leaf_f (i := 5) (ft := 29) (off := 9) u31 (by rw [f31]; rfl) (by rw [c31, c29]; decide) (by rw [c29]; exact ho) h

set_option maxRecDepth 20000 in
theorem open_events {H : Type} {enc : TypeId × Value → H} {W : World} {base : Nat} {v : Value} {d : DataW H} {ps : List MemPlace}
    (hok : Value.okWide Try.prog W .any base 34 v) (hd : DataW.Trod enc Try.prog W 0 (fun _ => true) true 34 v d ps) (hw : ∀ n ∈ d.weights Try.prog 34, n ≤ reachBytes) :
    ∃ a len cap l, v = .slice a len cap ∧ ER W (.slice a len cap) l ∧ ∀ e ∈ l, (Wf e.client ∧ Wf e.id) ∧ e.key.size ≤ maxLen := by
  obtain ⟨a, len, cap, rfl, hle, hn, hb, hc, hm, hat⟩ := open_nest under34 c31 hok hd hw
  have key : ∀ j, j < len → ∃ e : Ev, ((Wf e.client ∧ Wf e.id) ∧ e.key.size ≤ maxLen) ∧ ∃ b off, a = some ⟨b, off, none⟩ ∧ ∀ i u, e.row[i]? = some u → W.cell? ⟨b, off + j * 12 + i, none⟩ = some u := by
    intro j hj
    obtain ⟨b, off, rfl, hf⟩ := hat j hj
    obtain ⟨v0, k0, s0⟩ := hf 0 3 (by omega) e0
    obtain ⟨v1, k1, s1⟩ := hf 1 3 (by omega) e1
    obtain ⟨v2, k2, s2⟩ := hf 2 3 (by omega) e2
    obtain ⟨v3, k3, s3⟩ := hf 3 4 (by omega) e3
    obtain ⟨v4, k4, s4⟩ := hf 4 5 (by omega) (eO (by omega) o0)
    obtain ⟨v5, k5, s5⟩ := hf 5 9 (by omega) (eO (by omega) o1)
    obtain ⟨v6, k6, s6⟩ := hf 6 9 (by omega) (eO (by omega) o2)
    obtain ⟨v7, k7, s7⟩ := hf 7 9 (by omega) (eO (by omega) o3)
    obtain ⟨v8, k8, s8⟩ := hf 8 4 (by omega) (eO (by omega) o4)
    obtain ⟨v9, k9, s9⟩ := hf 9 5 (by omega) (eR (by omega) r0)
    obtain ⟨va, ka, sa⟩ := hf 10 4 (by omega) (eR (by omega) r1)
    obtain ⟨vb, kb, sb⟩ := hf 11 9 (by omega) (eR (by omega) r2)
    obtain ⟨n0, rfl, w0⟩ := s0.int _ Try.underlying3
    obtain ⟨n1, rfl, w1⟩ := s1.int _ Try.underlying3
    obtain ⟨n2, rfl, _⟩ := s2.int _ Try.underlying3
    obtain ⟨n3, rfl⟩ := s3.bool Try.underlying4
    obtain ⟨n4, rfl, _⟩ := s4.int _ Try.underlying5
    obtain ⟨n5, rfl, w5⟩ := s5.string Try.underlying9
    obtain ⟨n6, rfl, _⟩ := s6.string Try.underlying9
    obtain ⟨n7, rfl, _⟩ := s7.string Try.underlying9
    obtain ⟨n8, rfl⟩ := s8.bool Try.underlying4
    obtain ⟨n9, rfl, _⟩ := s9.int _ Try.underlying5
    obtain ⟨na, rfl⟩ := sa.bool Try.underlying4
    obtain ⟨nb, rfl, _⟩ := sb.string Try.underlying9
    refine ⟨⟨n0, n1, n2, n3, n4, n5, n6, n7, n8, n9, na, nb⟩, ⟨⟨w0, w1⟩, Nat.le_trans w5 (by rw [reach_eq]; unfold maxLen; omega)⟩, b, off, rfl, fun i u hu => ?_⟩
    have hi : i < 12 := (List.getElem?_eq_some_iff.1 hu).1
    rcases i with _ | _ | _ | _ | _ | _ | _ | _ | _ | _ | _ | _ | i
    all_goals first
      | (injection hu with hu; subst hu; assumption)
      | omega
  obtain ⟨l, hl, hp⟩ := list_of _ len key
  refine ⟨a, len, cap, l, rfl, ⟨?_⟩, fun e he => by
    obtain ⟨j, hj, rfl⟩ := List.getElem_of_mem he
    exact (hp j hj).1⟩
  cases a with
  | none =>
    obtain ⟨rfl, rfl⟩ := hn rfl
    exact .inl ⟨rfl, List.eq_nil_of_length_eq_zero hl⟩
  | some x =>
    obtain ⟨hs, hlt⟩ := hb x rfl
    obtain ⟨b, off, s⟩ := x
    simp only at hs hlt
    subst hs
    refine .inr ⟨b, off, cap, by rw [hl], by omega, hm, hlt, fun j u hu => ?_⟩
    have hlen : (l.flatMap Ev.row).length = l.length * 12 := flat_length Ev.row 12 l fun x _ => rfl
    have hj := (List.getElem?_eq_some_iff.1 hu).1
    rw [hlen] at hj
    obtain ⟨_, b', off', e, h⟩ := hp (j / 12) (by omega)
    injection e with e
    injection e with e1 e2
    subst e1 e2
    have hq : j / 12 < l.length := by omega
    have h2 := flat_at Ev.row 12 l (j / 12) (fun y _ => rfl) hq (j % 12)
    have hr : (l[j / 12]).row[j % 12]? = some ((l[j / 12]).row[j % 12]'(by rw [Ev.row_length]; omega)) := List.getElem?_eq_getElem _
    have h3 := h2 _ hr
    have ej : j / 12 * 12 + j % 12 = j := by omega
    rw [ej, hu] at h3
    injection h3 with h3
    have h4 := h (j % 12) _ hr
    rw [← h3, Nat.add_assoc, ej] at h4
    exact h4
end Go.Proofs.Ytajbagdgjbihjaa
