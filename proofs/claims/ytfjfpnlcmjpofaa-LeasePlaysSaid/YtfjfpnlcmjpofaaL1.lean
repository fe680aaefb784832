/- awake (7): the example. -/
import Derived.Test.YtfjfpnlcmjpofaaSC
namespace Go.Proofs.Ytfjfpnlcmjpofaa
open Go.RowKit Go.Maps Go.Sort Go.Shelf
set_option linter.unusedVariables false

def kk : ByteArray := ⟨#[107]⟩
def x1 : Ls := ⟨kk, 101, 2097153, 129⟩
def x2 : Ls := ⟨kk, 102, 2097154, 130⟩
def T0 : Tb := ⟨2, 9, 100, 0, [], [], 0⟩
def T1 : Tb := ⟨2, 9, 100, 1, [x1], [], 0⟩
def T2 : Tb := ⟨2, 9, 100, 2, [x1, x2], [], 0⟩
def T3 : Tb := ⟨2, 9, 100, 2, [x1], [], 0⟩
def T4 : Tb := ⟨2, 9, 100, 2, [x1], [[107]], 1⟩
theorem fine_k (c : Int) (h0 : -1000 ≤ c) (h1 : c ≤ 1000) : Fine kk c := ⟨by decide, wf64 (by omega) (by omega)⟩
theorem g1 : T0.gave kk 101 120 = T1 := rfl
theorem g2 : T1.gave kk 102 121 = T2 := by
  have e : at_ (Tb.new ⟨2, 9, 100, 1, [x1], [], 0⟩ kk 102 121).key (Tb.new ⟨2, 9, 100, 1, [x1], [], 0⟩ kk 102 121).cache x1 = false := by
    unfold at_
    rw [decide_eq_false_iff_not]
    rintro ⟨_, h⟩
    exact absurd h (by decide)
  unfold Tb.gave T1 T2 give
  rw [List.filter_cons, e]
  rfl
theorem g3 : T2.back 102 2097154 = T3 := by kernel_rfl
theorem live2 : ((T2.ls.filter (live 128)).filter (ofKey kk)) = [x1, x2] := by
  have e1 : live 128 x1 = true := by decide
  have e2 : live 128 x2 = true := by decide
  have e3 : ofKey kk x1 = true := (ofKey_iff _ _).2 rfl
  have e4 : ofKey kk x2 = true := (ofKey_iff _ _).2 rfl
  simp [T2, e1, e2, e3, e4]
theorem live1 : ((T2.ls.filter (live 129)).filter (ofKey kk)) = [x2] := by
  have e1 : live 129 x1 = false := by decide
  have e2 : live 129 x2 = true := by decide
  have e4 : ofKey kk x2 = true := (ofKey_iff _ _).2 rfl
  simp [T2, e1, e2, e4]
theorem c1 : T0.giveCode kk.data.toList 120 = 0 := by decide
theorem c2 : T1.giveCode kk.data.toList 121 = 0 := by decide
theorem c3 : T4.giveCode kk.data.toList 130 = 61 := by decide
theorem h1 : T2.has 102 2097153 = false := by decide
theorem h2 : T2.has 102 2097154 = true := by decide
theorem s1 : T3.shutted kk.data.toList = T4 := by kernel_rfl
end Go.Proofs.Ytfjfpnlcmjpofaa
