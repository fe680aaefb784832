/- Small functions: in, setup, May, get, Place. -/
import Derived.Test.YtfmpidacklhmaaaG2
import Derived.Test.YtfmpidacklhmaaaProg
import Derived.BigQuiet
import Derived.Laws.Rows
import Derived.StillTailTactics
import Derived.Deep.RegionWith
import Derived.Deep.QuietTactic
import Derived.Deep.CutBlock
namespace Go.Proofs.Ytfmpidacklhmaaa
open Go.RowKit Go.Maps
set_option linter.unusedVariables false
set_option maxRecDepth 20000

theorem in_any (n a b : Int) (w : World) : Calls Try.prog 23 #[.int .i64 n, .int .i64 a, .int .i64 b] w fun e w' => e = .returned (.bool (decide (a ≤ n) && decide (n ≤ b))) ∧ w = w' := by
  cases h1 : decide (a ≤ n) <;> cases h2 : decide (n ≤ b)
  all_goals (
    go_enter Try.func23, Try.ntmps23
    go_wp2_with fail
    go_ret
    first | exact ⟨rfl, rfl⟩ | exact ⟨by rw [h1, h2]; rfl, rfl⟩)
/-- the examples' setup -/
def suV : Value := .agg #[.int .i64 3, .int .i64 2, .int .i64 2, .int .i64 1, .int .i64 2000, .int .i64 5, .int .i64 2, .int .i64 10, .int .i64 1000, .int .i64 8, .int .i64 2, .int .i64 5, .int .i64 0]
def suR : List Value := [.int .i64 3, .int .i64 2, .int .i64 2, .int .i64 1, .int .i64 2000, .int .i64 5, .int .i64 2, .int .i64 10, .int .i64 1000, .int .i64 8, .int .i64 2, .int .i64 5, .int .i64 0]
/-- none -/
def suZ : Value := .agg #[.int .i64 0, .int .i64 0, .int .i64 0, .int .i64 0, .int .i64 0, .int .i64 0, .int .i64 0, .int .i64 0, .int .i64 0, .int .i64 0, .int .i64 0, .int .i64 0, .int .i64 0]
theorem setup_any (w : World) : Calls Try.prog 6 #[] w fun e w' => e = .returned suV ∧ Only None' w w' := by
  go_enter Try.func6, Try.ntmps6
  go_wp2_with fail
  (try simp only [Exit.inBlock, Exit.then])
  refine bodyPost_ret (v := suV) ?_ rfl ?_
  · exact results_cell_row rfl _ _ w.heap.size 28 _ (0, 0) _ rfl (heap_alloc_new w _) Try.underlying28 rfl (by kernel_rfl)
  · exact ⟨rfl, (Only.refl None' w).alloc _⟩
/-- a message -/
structure Mg where
  kind : Int := 0
  shard : Int := 0
  epoch : Int := 0
  owner : Int := 0
  req : Int := 0
  client : Int := 0
  id : Int := 0
  op : Int := 0
  key : ByteArray := ⟨#[]⟩
  val : ByteArray := ⟨#[]⟩
  old : ByteArray := ⟨#[]⟩
  had : Bool := false
  code : Int := 0
  rk : Int := 0
  rf : Bool := false
  rv : ByteArray := ⟨#[]⟩
  grant : Int := 0
def Mg.row (m : Mg) : List Value := [.int .u8 m.kind, .int .i64 m.shard, .int .i64 m.epoch, .int .i64 m.owner, .int .i64 m.req, .int .i64 m.client, .int .i64 m.id, .int .u8 m.op, .string m.key, .string m.val, .string m.old, .bool m.had, .int .i64 m.code, .int .u8 m.rk, .bool m.rf, .string m.rv, .int .i64 m.grant, .int .i64 0, .int .i64 0, .int .i64 0, .int .i64 0, .bool false, .slice none 0 0, .slice none 0 0, .string ⟨#[]⟩, .int .i64 0, .bool false, .slice none 0 0, .slice none 0 0, .int .u8 0, .int .i64 0, .int .i64 0, .int .i64 0]
def Mg.v (m : Mg) : Value := .agg #[.int .u8 m.kind, .int .i64 m.shard, .int .i64 m.epoch, .int .i64 m.owner, .int .i64 m.req, .int .i64 m.client, .int .i64 m.id, .int .u8 m.op, .string m.key, .string m.val, .string m.old, .bool m.had, .int .i64 m.code, .int .u8 m.rk, .bool m.rf, .string m.rv, .int .i64 m.grant, .int .i64 0, .int .i64 0, .int .i64 0, .int .i64 0, .bool false, .slice none 0 0, .slice none 0 0, .string ⟨#[]⟩, .int .i64 0, .bool false, .slice none 0 0, .slice none 0 0, .int .u8 0, .int .i64 0, .int .i64 0, .int .i64 0]
def getM (key : ByteArray) (id : Int) : Mg := { kind := 10, req := id, client := 201, id := id, op := 1, key := key }
end Go.Proofs.Ytfmpidacklhmaaa
