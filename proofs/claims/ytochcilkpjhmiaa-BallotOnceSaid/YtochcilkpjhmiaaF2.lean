/- A slice of those who stand that came in. -/
import Derived.Test.YtochcilkpjhmiaaF1
import Derived.Test.YtochcilkpjhmiaaL9
import Derived.Deep.Slices
import Derived.Deep.Strs
namespace Go.Proofs.Ytochcilkpjhmiaa
open Go.RowKit Go.WideShapes

theorem under35 : Try.prog.underlying 35 = some (.slice 37) := by kernel_rfl
theorem cells37 : Try.prog.cellsOf 37 = 3 := by kernel_rfl
theorem cells3 : Try.prog.cellsOf 3 = 1 := by kernel_rfl
theorem cells4 : Try.prog.cellsOf 4 = 1 := by kernel_rfl
noncomputable def fld37 (i : Nat) : Field := match Try.prog.underlying 37 with
  | some (.struct fs) => fs.getD i default
  | _ => default
theorem under37 : ∃ f0 f1 f2, Try.prog.underlying 37 = some (.struct #[f0, f1, f2]) ∧ f0.type = 3 ∧ f1.type = 3 ∧ f2.type = 4 ∧ f0.offset = 0 ∧ f1.offset = 1 ∧ f2.offset = 2 :=
  ⟨fld37 0, fld37 1, fld37 2, by kernel_rfl, by kernel_rfl, by kernel_rfl, by kernel_rfl, by kernel_rfl, by kernel_rfl, by kernel_rfl⟩

theorem add_plain (b off k : Nat) : (⟨b, off, none⟩ : Addr).add k = ⟨b, off + k, none⟩ := by cases k <;> simp [Addr.add]

theorem open_stands {H : Type} {enc : TypeId × Value → H} {W : World} {base : Nat} {v : Value} {d : DataW H} {ps : List MemPlace}
    (hok : Value.okWide Try.prog W .any base 35 v) (hd : DataW.Trod enc Try.prog W 0 (fun _ => true) true 35 v d ps) :
    ∃ a len cap ss, v = .slice a len cap ∧ RS W a len ss := by
  obtain ⟨m, hm⟩ := hd
  have hv : ∃ a len cap, v = .slice a len cap := by
    simp only [Value.okWide, under35, Cell.okWide] at hok
    cases v <;> simp only [Cell.ok, under35] at hok
    exact ⟨_, _, _, rfl⟩
  obtain ⟨a, len, cap, rfl⟩ := hv
  rcases Deep.open_slice under35 hm with ⟨hcs, hx⟩ | ⟨x, l, c, m', n, D, Pl, hcs, hb, hl, hm', hmm, hx, hall⟩
  · simp [Value.cells] at hcs
    obtain ⟨rfl, rfl, rfl⟩ := hcs
    exact ⟨none, 0, 0, [], rfl, rfl, fun j hj => by omega⟩
  · simp [Value.cells] at hcs
    obtain ⟨rfl, rfl, rfl⟩ := hcs
    obtain ⟨hs, hlt⟩ := okWide_has under35 hok
    obtain ⟨b, off, s⟩ := x
    simp only at hs hlt
    subst hs
    have hlm : len ≤ m' := by rw [hmm]; split <;> omega
    have key : ∀ j, j < len → ∃ s : Int × Int × Bool, W.cell? ⟨b, off + j * 3, none⟩ = some (.int .i64 s.1) ∧ W.cell? ⟨b, off + j * 3 + 1, none⟩ = some (.int .i64 s.2.1) ∧ W.cell? ⟨b, off + j * 3 + 2, none⟩ = some (.bool s.2.2) := by
      intro j hj
      obtain ⟨cs, h1, h2⟩ := hall j (by omega)
      rw [cells37] at h1
      obtain ⟨f0, f1, f2, hu, t0, t1, t2, o0, o1, o2⟩ := under37
      obtain ⟨y0, y1, y2, n', _, hlen, g0, g1, g2⟩ := Deep.trod_struct3 hu h2
      rw [cells37] at hlen
      rw [t0, o0, cells3] at g0
      rw [t1, o1, cells3] at g1
      rw [t2, o2, cells4] at g2
      obtain ⟨_, _, hc⟩ := World.cells?_some h1
      match cs, hlen with
      | [c0, c1, c2], _ =>
        have e0 := hc 0 (by omega)
        have e1 := hc 1 (by omega)
        have e2 := hc 2 (by omega)
        simp at g0 g1 g2
        obtain ⟨i0, q0, _⟩ := DataW.trod_int Try.underlying3 g0
        obtain ⟨i1, q1, _⟩ := DataW.trod_int Try.underlying3 g1
        obtain ⟨i2, q2, _⟩ := DataW.trod_bool Try.underlying4 g2
        simp at q0 q1 q2
        subst q0 q1 q2
        simp only [add_plain] at e0 e1 e2
        exact ⟨(i0, i1, i2), e0, e1, e2⟩
    refine ⟨some ⟨b, off, none⟩, len, cap, (List.range len).map (fun j => if h : j < len then (key j h).choose else (0, 0, false)), rfl, by simp, fun j hj => ?_⟩
    have e : ((List.range len).map (fun j => if h : j < len then (key j h).choose else (0, 0, false))).getD j (0, 0, false) = (key j hj).choose := by
      simp [List.getD, hj]
    rw [e]
    obtain ⟨k1, k2, k3⟩ := (key j hj).choose_spec
    exact ⟨b, off, rfl, hlt, k1, k2, k3⟩

end Go.Proofs.Ytochcilkpjhmiaa
