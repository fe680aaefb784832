/- An argument that is a slice of plans. -/
import Derived.Test.YtajbagdgjbihjaaR1
import Derived.Test.YtajbagdgjbihjaaF1
namespace Go.Proofs.Ytajbagdgjbihjaa
open Go.RowKit Go.Maps Go.Sort Go.WideShapes
set_option linter.unusedVariables false

def Pl.row (p : Pl) : List Value := [.int .i64 p.client, .int .i64 p.call, .int .i64 p.do_, .int .i64 p.back, .bool p.done, .bool p.told, .int .u8 p.op.kind, .string p.op.key, .string p.op.val, .string p.op.old, .bool p.op.had]
/-- plans, in a row that may be read -/
structure PLR (w : World) (v : Value) (l : List Pl) : Prop where
  form : (v = .slice none 0 0 ∧ l = []) ∨ ∃ g off cap, v = .slice (some ⟨g, off, none⟩) l.length cap ∧ l.length ≤ cap ∧ cap ≤ maxLen ∧ g < w.heap.size ∧ ∀ j u, (l.flatMap Pl.row)[j]? = some u → w.cell? ⟨g, off + j, none⟩ = some u
section
variable {w w' : World} {v : Value} {l : List Pl} {S : Nat → Prop}
theorem PLR.shape (h : PLR w v l) : ∃ a c, v = .slice a l.length c := by
  rcases h.form with ⟨rfl, rfl⟩ | ⟨g, off, cap, rfl, _⟩
  · exact ⟨none, 0, rfl⟩
  · exact ⟨_, _, rfl⟩
theorem PLR.only (h : PLR w v l) (o : Only S w w') (hn : ∀ g, v.ownBlock = some g → ¬ S g) : PLR w' v l := by
  rcases h.form with h1 | ⟨g, off, cap, rfl, h1, h2, h3, h4⟩
  · exact ⟨.inl h1⟩
  · exact ⟨.inr ⟨g, off, cap, rfl, h1, h2, Nat.lt_of_lt_of_le h3 o.size, fun j u hu => (o.cell h3 (hn g rfl) _).trans (h4 j u hu)⟩⟩
theorem PLR.own_lt (h : PLR w v l) {g : Nat} (hg : v.ownBlock = some g) : g < w.heap.size := by
  rcases h.form with ⟨rfl, _⟩ | ⟨g', off, cap, rfl, _, _, h3, _⟩
  · cases hg
  · injection hg with hg
    exact hg ▸ h3
theorem PLR.at_ (h : PLR w v l) {j : Nat} {p : Pl} (hp : l[j]? = some p) : ∃ g off c, v = .slice (some ⟨g, off, none⟩) l.length c ∧ g < w.heap.size ∧ ∀ i u, p.row[i]? = some u → w.cell? ⟨g, off + j * 11 + i, none⟩ = some u := by
  obtain ⟨hj, rfl⟩ := List.getElem?_eq_some_iff.1 hp
  rcases h.form with ⟨_, rfl⟩ | ⟨g, off, c, e, h1, h2, h3, h4⟩
  · simp at hj
  · refine ⟨g, off, c, e, h3, fun i u hu => ?_⟩
    rw [Nat.add_assoc]
    exact h4 _ u (flat_at Pl.row 11 l j (fun y _ => rfl) hj i u hu)
end
theorem f73 : (fsOf 73).toList.map (fun f => (f.type, f.offset)) = [(3, 0), (3, 1), (3, 2), (3, 3), (4, 4), (4, 5), (24, 6)] := by kernel_rfl
theorem u73 : Try.prog.underlying 73 = some (.struct (fsOf 73)) := by kernel_rfl
theorem under50 : Try.prog.underlying 50 = some (.slice 73) := by kernel_rfl
theorem c73 : Try.prog.cellsOf 73 = 11 := by kernel_rfl
theorem p0 : Leaf Try.prog 73 0 3 := leaf_f (i := 0) (ft := 3) (off := 0) (o := 0) u73 (by rw [f73]; rfl) (by rw [c73, c3]; decide) (by rw [c3]; decide) l3
theorem p1 : Leaf Try.prog 73 1 3 := leaf_f (i := 1) (ft := 3) (off := 1) (o := 0) u73 (by rw [f73]; rfl) (by rw [c73, c3]; decide) (by rw [c3]; decide) l3
theorem p2 : Leaf Try.prog 73 2 3 := leaf_f (i := 2) (ft := 3) (off := 2) (o := 0) u73 (by rw [f73]; rfl) (by rw [c73, c3]; decide) (by rw [c3]; decide) l3
theorem p3 : Leaf Try.prog 73 3 3 := leaf_f (i := 3) (ft := 3) (off := 3) (o := 0) u73 (by rw [f73]; rfl) (by rw [c73, c3]; decide) (by rw [c3]; decide) l3
theorem p4 : Leaf Try.prog 73 4 4 := leaf_f (i := 4) (ft := 4) (off := 4) (o := 0) u73 (by rw [f73]; rfl) (by rw [c73, c4]; decide) (by rw [c4]; decide) l4
theorem p5 : Leaf Try.prog 73 5 4 := leaf_f (i := 5) (ft := 4) (off := 5) (o := 0) u73 (by rw [f73]; rfl) (by rw [c73, c4]; decide) (by rw [c4]; decide) l4
theorem pO {o u : Nat} (ho : o < 5) (h : Leaf Try.prog 24 o u) : Leaf Try.prog 73 (6 + o) u := leaf_f (i := 6) (ft := 24) (off := 6) u73 (by rw [f73]; rfl) (by rw [c73, c24]; decide) (by rw [c24]; exact ho) h
set_option maxRecDepth 20000 in
theorem open_plans {H : Type} {enc : TypeId × Value → H} {W : World} {base : Nat} {v : Value} {d : DataW H} {ps : List MemPlace}
    (hok : Value.okWide Try.prog W .any base 50 v) (hd : DataW.Trod enc Try.prog W 0 (fun _ => true) true 50 v d ps) (hw : ∀ n ∈ d.weights Try.prog 50, n ≤ reachBytes) :
    ∃ a len cap l, v = .slice a len cap ∧ PLR W (.slice a len cap) l ∧ ∀ p ∈ l, (Wf p.client ∧ Wf p.call ∧ Wf p.do_ ∧ Wf p.back) ∧ p.op.key.size ≤ maxLen := by
  obtain ⟨a, len, cap, rfl, hle, hn, hb, hc, hm, hat⟩ := open_nest under50 c73 hok hd hw
  have key : ∀ j, j < len → ∃ e : Pl, ((Wf e.client ∧ Wf e.call ∧ Wf e.do_ ∧ Wf e.back) ∧ e.op.key.size ≤ maxLen) ∧ ∃ b off, a = some ⟨b, off, none⟩ ∧ ∀ i u, e.row[i]? = some u → W.cell? ⟨b, off + j * 11 + i, none⟩ = some u := by
    intro j hj
    obtain ⟨b, off, rfl, hf⟩ := hat j hj
    obtain ⟨v0, k0, s0⟩ := hf 0 3 (by omega) p0
    obtain ⟨v1, k1, s1⟩ := hf 1 3 (by omega) p1
    obtain ⟨v2, k2, s2⟩ := hf 2 3 (by omega) p2
    obtain ⟨v3, k3, s3⟩ := hf 3 3 (by omega) p3
    obtain ⟨v4, k4, s4⟩ := hf 4 4 (by omega) p4
    obtain ⟨v5, k5, s5⟩ := hf 5 4 (by omega) p5
    obtain ⟨v6, k6, s6⟩ := hf 6 5 (by omega) (pO (by omega) o0)
    obtain ⟨v7, k7, s7⟩ := hf 7 9 (by omega) (pO (by omega) o1)
    obtain ⟨v8, k8, s8⟩ := hf 8 9 (by omega) (pO (by omega) o2)
    obtain ⟨v9, k9, s9⟩ := hf 9 9 (by omega) (pO (by omega) o3)
    obtain ⟨va, ka, sa⟩ := hf 10 4 (by omega) (pO (by omega) o4)
    obtain ⟨n0, rfl, w0⟩ := s0.int _ Try.underlying3
    obtain ⟨n1, rfl, w1⟩ := s1.int _ Try.underlying3
    obtain ⟨n2, rfl, w2⟩ := s2.int _ Try.underlying3
    obtain ⟨n3, rfl, w3⟩ := s3.int _ Try.underlying3
    obtain ⟨n4, rfl⟩ := s4.bool Try.underlying4
    obtain ⟨n5, rfl⟩ := s5.bool Try.underlying4
    obtain ⟨n6, rfl, w6⟩ := s6.int _ Try.underlying5
    obtain ⟨n7, rfl, w7⟩ := s7.string Try.underlying9
    obtain ⟨n8, rfl, w8⟩ := s8.string Try.underlying9
    obtain ⟨n9, rfl, w9⟩ := s9.string Try.underlying9
    obtain ⟨na, rfl⟩ := sa.bool Try.underlying4
    refine ⟨⟨n0, n1, n2, n3, n4, n5, ⟨n6, n7, n8, n9, na⟩⟩, ⟨⟨w0, w1, w2, w3⟩, Nat.le_trans w7 (by rw [reach_eq]; unfold maxLen; omega)⟩, b, off, rfl, fun i u hu => ?_⟩
    have hi : i < 11 := (List.getElem?_eq_some_iff.1 hu).1
    rcases i with _ | _ | _ | _ | _ | _ | _ | _ | _ | _ | _ | i
    all_goals first
      | (injection hu with hu; subst hu; assumption)
      | omega
  obtain ⟨l, hl, hp⟩ := list_of _ len key
  refine ⟨a, len, cap, l, rfl, ⟨?_⟩, fun e he => by
    obtain ⟨j, hj, rfl⟩ := List.getElem_of_mem he
    exact (hp j hj).1⟩
  cases a with
  | none =>
    obtain ⟨rfl, rfl⟩ := hn rfl
    exact .inl ⟨rfl, List.eq_nil_of_length_eq_zero hl⟩
  | some x =>
    obtain ⟨hs, hlt⟩ := hb x rfl
    obtain ⟨b, off, s⟩ := x
    simp only at hs hlt
    subst hs
    refine .inr ⟨b, off, cap, by rw [hl], by omega, hm, hlt, fun j u hu => ?_⟩
    have hlen : (l.flatMap Pl.row).length = l.length * 11 := flat_length Pl.row 11 l fun x _ => rfl
    have hj := (List.getElem?_eq_some_iff.1 hu).1
    rw [hlen] at hj
    obtain ⟨_, b', off', e, h⟩ := hp (j / 11) (by omega)
    injection e with e
    injection e with e1 e2
    subst e1 e2
    have hq : j / 11 < l.length := by omega
    have h2 := flat_at Pl.row 11 l (j / 11) (fun y _ => rfl) hq (j % 11)
    have hr : (l[j / 11]).row[j % 11]? = some ((l[j / 11]).row[j % 11]'(by show _ < 11; omega)) := List.getElem?_eq_getElem _
    have h3 := h2 _ hr
    have ej : j / 11 * 11 + j % 11 = j := by omega
    rw [ej, hu] at h3
    injection h3 with h3
    have h4 := h (j % 11) _ hr
    rw [← h3, Nat.add_assoc, ej] at h4
    exact h4
end Go.Proofs.Ytajbagdgjbihjaa
