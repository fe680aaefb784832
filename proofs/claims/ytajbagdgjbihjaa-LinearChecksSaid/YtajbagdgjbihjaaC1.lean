/- The keys of the calls. -/
import Derived.Test.YtajbagdgjbihjaaE1
namespace Go.Proofs.Ytajbagdgjbihjaa
open Go.RowKit Go.Maps
set_option linter.unusedVariables false

def Ev.k (e : Ev) : Str := e.key.data.toList
/-- the keys of the calls -/
def calls (l : List Ev) : List Str := (l.filter fun e => !e.back).map Ev.k
theorem calls_succ {l : List Ev} {j : Nat} {e : Ev} (h : l[j]? = some e) : calls (l.take (j + 1)) = if e.back then calls (l.take j) else calls (l.take j) ++ [e.k] := by
  obtain ⟨hj, rfl⟩ := List.getElem?_eq_some_iff.1 h
  unfold calls
  rw [List.take_succ_eq_append_getElem hj, List.filter_append, List.map_append]
  generalize l[j] = e
  cases h2 : e.back <;> simp [h2]
theorem insAll_nodup (l : List Str) : (insAll l).Nodup := (insAll_rise l).imp fun {a b} h e => by subst e; exact List.lt_irrefl a h
end Go.Proofs.Ytajbagdgjbihjaa
