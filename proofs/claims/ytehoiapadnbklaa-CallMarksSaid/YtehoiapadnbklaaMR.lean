/- A store, in a round over a map, at a key that is there. No program. -/
import Derived.Maps.RangeWalk
import Derived.Maps.Own
namespace Go.Proofs.Ytehoiapadnbklaa
open Go.RowKit Go.Maps Go.MapKept Go.WideShapes Go.ChangeMaps
open Go.WideElems (Fit rd rg pl rd_key rd_val rg_of rd_mk)
set_option linter.unusedVariables false

section
variable {H : Type} {P : Program} {k : TypeId} {R : Value → Option (DataW H × List MemPlace)} {w : World} {b r n : Nat} {D : DataW H} {left : Lit → Bool} {cnt : Nat}
theorem ranges_store {t e : TypeId} (h : w.ranges P k R b r n D left cnt) (K : Keyed P k) (ht : P.underlying t = some (.map k e)) (hn : n < maxLen) {key val : Value} {kl : Lit} {d : DataW H} {ps : List MemPlace}
    (hkey : keyOf P k key = some kl) (hv : R val = some (d, ps)) (hhas : Maps.has D kl = true) : ∃ w', (Instr.mapUpdate t (.map (some b)) key val).run P w = .ok () w' ∧ w'.ranges P k R b r n (D.put kl d) left cnt ∧ w.mapTurned w' b := by
  have hne := h.ne
  obtain ⟨es, clock, since, seen, c0, hb, F, hs, rfl, hr, hold, rfl, hl1, hl2, hsc, hsk⟩ := h
  obtain ⟨es', clock', hrun, F', hput, _⟩ := Maps.fit_store (R' := R) K ht hb F (Nat.lt_of_le_of_lt hs hn) (fun _ _ _ _ hz => hz) hkey hv
  rcases K.find w hkey es.toList F.keys with ⟨h1, h2⟩ | ⟨j, e0, h1, h2, h3⟩
  · exfalso
    obtain ⟨p, hp, hpk⟩ := List.any_eq_true.1 hhas
    obtain ⟨x, hx, rfl⟩ := List.mem_map.1 (mem_sorted.1 hp)
    obtain ⟨y, hy⟩ := F.reads x hx
    have e1 := WideAt.sameKey_eq hpk
    rw [rg_of hy] at e1
    exact h2 x hx (K.inj (e1 ▸ rd_key hy) hkey)
  · have hj : es[j]? = some e0 := by simpa using h2
    have hrun2 : (Instr.mapUpdate t (.map (some b)) key val).run P w = .ok () (setBlock w b (.map (es.modify j (fun e' => { e' with key := key, val := val })) clock)) := by
      simp [Instr.mapUpdate, run_underlying ht, MapKept.run_getObj_map hb, K.check w false hkey, h1, hj, h3, K.stays w hkey, MapKept.run_setObj_map _ hb, Result.andThen, setBlock]
    have hsame : Obj.map es' clock' = Obj.map (es.modify j (fun e' => { e' with key := key, val := val })) clock := by
      rw [hrun] at hrun2
      injection hrun2 with _ hw
      have a1 := heap_setBlock_same (w := w) hb (Obj.map es' clock')
      rw [hw, heap_setBlock_same hb] at a1
      injection a1 with a1
      exact a1.symm
    injection hsame with e1 e2
    subst e1
    subst e2
    have hjl : j < es.toList.length := (List.getElem?_eq_some_iff.1 h2).1
    have hej : es.toList[j] = e0 := (List.getElem?_eq_some_iff.1 h2).2
    have hlist : (es.modify j (fun e' => { e' with key := key, val := val })).toList = es.toList.set j { e0 with key := key, val := val } := by rw [Array.toList_modify, modify_eq_set _ _ _ _ h2]
    have hem : e0 ∈ es.toList := hej ▸ List.getElem_mem hjl
    have hrg : (rg P k R { e0 with key := key, val := val }).1 = (rg P k R e0).1 := by
      obtain ⟨y, hy⟩ := F.reads e0 hem
      have k1 := rd_key hy
      rw [h3] at k1
      rw [rg_of hy, rg_of (rd_mk hkey hv)]
      exact Option.some.inj (hkey.symm.trans k1)
    have hborn : ∀ x ∈ es.toList.set j { e0 with key := key, val := val }, ∃ y ∈ es.toList, y.born = x.born ∧ (rg P k R y).1 = (rg P k R x).1 := by
      intro x hx
      rcases List.mem_or_eq_of_mem_set hx with hx | rfl
      · exact ⟨x, hx, rfl, rfl⟩
      · exact ⟨e0, hem, rfl, hrg.symm⟩
    refine ⟨_, hrun, ⟨_, clock', since, seen, c0, heap_setBlock_same hb _, F', ?_, by rw [DataW.put_eq, hput], (heap_setBlock_other hb _ hne).trans hr, fun x hx => ?_, ?_, fun x hx => ?_, fun x0 hx0 => ?_, hsc, hsk⟩, ⟨es, clock', _, clock', hb, rfl⟩⟩
    · simpa using hs
    · rw [hlist] at hx
      obtain ⟨y, hy, h5, _⟩ := hborn x hx
      rw [← h5]
      exact hold y hy
    · have e1 : ∀ a : Array MapEntry, (leftOf a seen).size = (a.toList.filter fun e => !seen.contains e.born).length := fun a => by
        unfold leftOf
        rw [← Array.toList_filter, Array.length_toList]
      rw [e1, e1, hlist]
      have e2 : ∀ l : List MapEntry, (l.filter fun e => !seen.contains e.born).length = ((l.map (·.born)).filter fun c => !seen.contains c).length := fun l => by
        rw [List.filter_map, List.length_map]; rfl
      rw [e2, e2]
      congr 2
      rw [List.map_set]
      have hb2 : (es.toList.map (·.born))[j]? = some e0.born := by rw [List.getElem?_map, h2]; rfl
      obtain ⟨hj2, hj3⟩ := List.getElem?_eq_some_iff.1 hb2
      show (es.toList.map (·.born)).set j e0.born = _
      rw [← hj3]
      exact List.set_getElem_self hj2
    · rw [hlist] at hx
      obtain ⟨y, hy, h5, h6⟩ := hborn x hx
      rw [← h5, ← h6]
      exact hl1 y hy
    · obtain ⟨x, hx, rfl⟩ := hl2 x0 hx0
      obtain ⟨i, hi, rfl⟩ := List.getElem_of_mem hx
      by_cases e : i = j
      · subst e
        refine ⟨{ e0 with key := key, val := val }, ?_, ?_⟩
        · rw [hlist]; exact List.mem_iff_getElem.2 ⟨i, by simpa using hjl, by simp⟩
        · rw [hrg, hej]
      · refine ⟨es.toList[i], ?_, rfl⟩
        rw [hlist]
        exact List.mem_iff_getElem.2 ⟨i, by simpa using hi, by rw [List.getElem_set_ne (fun h => e h.symm)]⟩
end
theorem wpList_store_ranges {H : Type} {P : Program} (w : World) {ops : Array Oper} {rest : List Oper} {o : Oper} {a : Act} {Q : Exit → Act → World → Prop} (hg : o.guard = none) (m x v : Operand) (t : TypeId) (hop : o.op = Op.mapUpdate t m x v)
    (k e : TypeId) (K : Keyed P k) (ht : P.underlying t = some (.map k e)) (R : Value → Option (DataW H × List MemPlace)) (b r n : Nat) (D : DataW H) (left : Lit → Bool) (cnt : Nat)
    (hm : a.eval m = .map (some b)) (h : w.ranges P k R b r n D left cnt) (hn : n < maxLen) (key val : Value) (kl : Lit) (hx : a.eval x = key) (hv : a.eval v = val) (hkey : keyOf P k key = some kl)
    (d : DataW H) (ps : List MemPlace) (hval : R val = some (d, ps)) (hhas : Maps.has D kl = true)
    (hK : ∀ w', w'.ranges P k R b r n (D.put kl d) left cnt → w.mapTurned w' b → wpList P ops Q rest (a.put o.dst undef) w') :
    wpList P ops Q (o :: rest) a w := by
  refine wpList_plain hg fun K' hK' => ?_
  obtain ⟨w', hrun, r1, r2⟩ := ranges_store h K ht hn hkey hval hhas
  unfold Oper.wp
  simp [execOp, hop, hm, hx, hv, hrun, Result.andThen]
  exact hK' _ _ (hK w' r1 r2)
end Go.Proofs.Ytehoiapadnbklaa
