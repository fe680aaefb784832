/- 'm[k]++': an entry is fetched, then stored. -/
import Derived.Test.YtajbagdgjbihjaaE5
import Derived.WideKeyEntry
namespace Go.Proofs.Ytajbagdgjbihjaa
open Go.RowKit Go.Maps Go.ChangeMaps
set_option linter.unusedVariables false

section
variable {H : Type} {P : Program} {w : World} {t k e : TypeId} {q : IntKind} {b n : Nat} {D : DataW H}
/-- fetching an entry that is not there puts the zero value in; one that is there stays -/
theorem entry_run (K : Go.WideMaps.KeyLaw P k) (ht : P.underlying t = some (.map k e)) {z : Value} (hz : ∀ u : World, (zeroValue e).run P u = .ok z u) {R : Value → Option (DataW H × List MemPlace)} {es : Array MapEntry} {clock : Nat} (hb : w.heap[b]? = some (.map es clock)) (F : Go.WideElems.Fit P k R es clock)
    {key : Value} {kl : Lit} (hkey : keyOf P k key = some kl) :
    (∃ st w1, (Instr.mapEntry t (.map (some b)) key).run P w = .ok (.tuple #[z, .int .i64 ((st : Nat) : Int)]) w1 ∧ (Instr.mapUpdate t (.map (some b)) key z).run P w = .ok () w1 ∧ (Instr.lookup t (.map (some b)) key false).run P w = .ok z w) ∨
    (∃ st v, (Instr.mapEntry t (.map (some b)) key).run P w = .ok (.tuple #[v, .int .i64 ((st : Nat) : Int)]) w ∧ (Instr.lookup t (.map (some b)) key false).run P w = .ok v w) := by
  rcases K.find w hkey es.toList F.keys with ⟨h1, h2⟩ | ⟨j, e0, h1, h2, h3⟩
  · refine .inl ⟨clock, setBlock w b (.map (es.push ⟨key, z, clock⟩) (clock + 1)), ?_, ?_, ?_⟩
    · simp [Instr.mapEntry, run_underlying ht, MapKept.run_getObj_map hb, K.check w false hkey, h1, hz, MapKept.run_setObj_map _ hb, Result.andThen, setBlock, goInt]
    · simp [Instr.mapUpdate, run_underlying ht, MapKept.run_getObj_map hb, K.check w false hkey, h1, MapKept.run_setObj_map _ hb, Result.andThen, setBlock]
    · simp [Instr.lookup, run_underlying ht, MapKept.run_getObj_map hb, K.check w es.isEmpty hkey, h1, hz, Result.andThen]
  · have hj : es[j]? = some e0 := by simpa using h2
    have hsame : es.modify j (fun e => { e with key := key }) = es := by
      refine Array.ext' ?_
      rw [Array.toList_modify]
      refine List.ext_getElem? fun i => ?_
      rw [List.getElem?_modify]
      by_cases hij : j = i
      · subst hij
        rw [h2]
        simp only [if_true]
        rw [← h3]
        rfl
      · cases es.toList[i]? with
        | none => rfl
        | some x => show some (if j = i then _ else x) = _; rw [if_neg hij]
    have hself : ({ w with heap := w.heap.setIfInBounds b (.map es clock) } : World) = w := by
      have hb' := (Array.getElem?_eq_some_iff.1 hb)
      have : w.heap.setIfInBounds b (.map es clock) = w.heap := by
        refine Array.ext' ?_
        rw [Array.toList_setIfInBounds]
        refine Go.WideElems.set_self _ _ _ ?_
        rw [Array.getElem?_toList]
        exact hb
      rw [this]
    refine .inr ⟨e0.born, e0.val, ?_, ?_⟩
    · simp [Instr.mapEntry, run_underlying ht, MapKept.run_getObj_map hb, K.check w false hkey, h1, hj, h3, K.stays w hkey, hsame, MapKept.run_setObj_map _ hb, Result.andThen, goInt]
      exact hself
    · simp [Instr.lookup, run_underlying ht, MapKept.run_getObj_map hb, K.check w es.isEmpty hkey, h1, Result.andThen]
theorem own_entry (KL : Go.WideMaps.KeyLaw P k) (K : Keyed P k) (h : w.ownsMap P k (plainElem P e) b n D) (ht : P.underlying t = some (.map k e)) (he : P.underlying e = some (.int q)) (hz : ∀ u : World, (zeroValue e).run P u = .ok (.int q 0) u) (hn : n < maxLen) {key : Value} {kl : Lit} (hkey : keyOf P k key = some kl) :
    ∃ (c : Int) (st : Nat) (w1 : World), D.atKey kl (.lit (.int q 0)) = .lit (.int q c) ∧ (Lit.int q c).wf = true ∧ (Instr.lookup t (.map (some b)) key false).run P w = .ok (.int q c) w ∧
      (Instr.mapEntry t (.map (some b)) key).run P w = .ok (.tuple #[.int q c, .int .i64 ((st : Nat) : Int)]) w1 ∧ (Instr.lookup t (.map (some b)) key false).run P w1 = .ok (.int q c) w1 ∧ w.grownBy w1 (some b) ∧
      ∀ x : Int, (Lit.int q x).wf = true → ∃ w3, (Instr.entryStore t (.map (some b)) (.int .i64 ((st : Nat) : Int)) (.int q x)).run P w1 = .ok () w3 ∧ w3.ownsMap P k (plainElem P e) b (n + 1) (D.put kl (.lit (.int q x))) ∧ w.grownBy w3 (some b) := by
  obtain ⟨c, hrun, hat, hwc⟩ := h.lookup_int K ht he (hz w) hkey
  obtain ⟨es, clock, hb, F, hs, hD⟩ := id h
  obtain ⟨v0, st, es1, clock1, hE, hv0, hS⟩ := Go.WideElems.entry_then_store KL ht hz hb F hkey
  have hset : ∀ o1 o2 : Obj, setBlock (setBlock w b o1) b o2 = setBlock w b o2 := fun o1 o2 => by
    unfold setBlock
    simp
  have hst : ∀ x : Int, (Lit.int q x).wf = true → ∃ w3, (Instr.entryStore t (.map (some b)) (.int .i64 ((st : Nat) : Int)) (.int q x)).run P (setBlock w b (.map es1 clock1)) = .ok () w3 ∧ w3.ownsMap P k (plainElem P e) b (n + 1) (D.put kl (.lit (.int q x))) ∧ w.grownBy w3 (some b) := fun x hx => by
    obtain ⟨es', clock', r1, r2⟩ := hS (setBlock w b (.map es1 clock1)) (.int q x) (heap_setBlock_same hb _)
    obtain ⟨w', u1, u2, u3⟩ := h.update K ht hn hkey (plainElem_int he hx)
    rw [r2] at u1
    injection u1 with _ u1
    rw [hset] at r1
    exact ⟨w', by rw [← u1]; exact r1, u2, u3⟩
  rcases entry_run KL ht hz hb F hkey with ⟨st', w1, e1, e2, e3⟩ | ⟨st', v, e1, e2⟩
  · rw [hE] at e1
    injection e1 with e1 e1'
    injection e1 with e1
    simp only [Array.mk.injEq, List.cons.injEq, and_true] at e1
    obtain ⟨a1, a2⟩ := e1
    rw [hrun] at e3
    injection e3 with e3
    injection e3 with _ e3
    obtain ⟨w', u1, u2, u3⟩ := h.update K ht hn hkey (plainElem_int (q := q) he (a := 0) (by cases q <;> decide))
    rw [e2] at u1
    injection u1 with _ u1
    obtain ⟨c1, hr1, ha1, _⟩ := u2.lookup_int K ht he (hz w') hkey
    rw [atKey_put_same h.isMap (K.key hkey)] at ha1
    injection ha1 with ha1
    injection ha1 with _ ha1
    refine ⟨c, st, setBlock w b (.map es1 clock1), hat, hwc, hrun, ?_, ?_, ?_, hst⟩
    · rw [hE, a1, e3]; rfl
    · rw [e1', u1, hr1, ← ha1, e3]
    · rw [e1', u1]; exact u3
  · rw [hE] at e1
    injection e1 with e1 e1'
    injection e1 with e1
    simp only [Array.mk.injEq, List.cons.injEq, and_true] at e1
    obtain ⟨a1, a2⟩ := e1
    rw [hrun] at e2
    injection e2 with e2
    refine ⟨c, st, setBlock w b (.map es1 clock1), hat, hwc, hrun, ?_, ?_, ?_, hst⟩
    · rw [hE, a1, ← e2]; rfl
    · rw [e1']; exact hrun
    · rw [e1']; exact World.grownBy.refl w _
end
end Go.Proofs.Ytajbagdgjbihjaa
