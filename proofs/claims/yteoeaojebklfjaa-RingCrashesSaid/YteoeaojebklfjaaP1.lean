/- A disk's steps, plainly. -/
import Derived.Test.YteoeaojebklfjaaD4
namespace Go.Proofs.Yteoeaojebklfjaa
open Go.RowKit Go.Maps
set_option linter.unusedVariables false

def kept (keep : List Bool) (i : Nat) : Bool := keep.getD i false
def Dk.settled (d : Dk) (kept : Nat → Bool) : Dk := { d with lasts := settle kept 0 d.waits d.lasts, waits := [] }
def Dk.crashed (d : Dk) (keep : List Bool) : Dk := { d.settled (kept keep) with dead := true }
def Dk.flushed (d : Dk) : Dk := d.settled fun _ => true
def Dk.wrote (d : Dk) (i : Nat) (s : Sec) : Dk := { d with waits := d.waits ++ [(i, s)] }
def Dk.write (d : Dk) (i : Nat) (s : Sec) : Dk := if d.due then (d.wrote i s).crashed d.keep else (d.wrote i s).tick
def Dk.flush (d : Dk) : Dk := if d.due then d.crashed d.keep else d.tick.flushed
def Dk.reopened (d : Dk) : Dk := ⟨d.lasts, [], 0, false, false, 0, []⟩

/-- numbers that do not wrap -/
structure Dk.Few (d : Dk) (n : Nat) : Prop where
  waits : d.waits.length ≤ n
  done0 : 0 ≤ d.done
  done : d.done ≤ (n : Int)
  left0 : -(n : Int) ≤ d.left
  left : d.left ≤ 9223372036854775807
  keep : d.keep.length ≤ 140737488351232

theorem Dk.settled_ok {d : Dk} (h : d.Ok) (kept : Nat → Bool) : (d.settled kept).Ok :=
  ⟨settle_ok kept d.waits 0 d.lasts h.waits h.lasts, (fun p hp => by cases hp), by show (settle kept 0 d.waits d.lasts).length ≤ _; rw [settle_length]; exact h.many⟩
theorem Dk.wrote_ok {d : Dk} (h : d.Ok) {i : Nat} {s : Sec} (hi : i < d.lasts.length) (hs : s.length = 512) : (d.wrote i s).Ok :=
  ⟨h.lasts, (fun p hp => by
    rcases List.mem_append.1 hp with hp | hp
    · exact h.waits p hp
    · rw [List.mem_singleton.1 hp]; exact ⟨hi, hs⟩), h.many⟩
theorem Dk.read_length {d : Dk} (h : d.Ok) {i : Nat} (hi : i < d.lasts.length) : (d.read i).length = 512 := by
  unfold Dk.read
  cases hk : lastIx d.waits i with
  | none => simp only [List.getD_eq_getElem?_getD, List.getElem?_eq_getElem hi, Option.getD_some]; exact h.lasts _ (List.getElem_mem hi)
  | some k =>
    obtain ⟨h1, h2⟩ := lastIx_lt hk
    simp only [List.getD_eq_getElem?_getD, List.getElem?_eq_getElem h1, Option.getD_some]
    exact (h.waits _ (List.getElem_mem h1)).2

end Go.Proofs.Yteoeaojebklfjaa
