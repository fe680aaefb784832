/- LinearKeys: the state of its rounds. -/
import Derived.Test.YtajbagdgjbihjaaF1
import Derived.Test.YtajbagdgjbihjaaE4
import Derived.Test.YtajbagdgjbihjaaE7
import Derived.Test.YtajbagdgjbihjaaEC
namespace Go.Proofs.Ytajbagdgjbihjaa
open Go.RowKit Go.Maps Go.Sort
set_option linter.unusedVariables false

theorem er_of_vec {w : World} {v : Value} {l : List Ev} (h : Vec w 12 v l.length (l.flatMap Ev.row)) : ER w v l := by
  refine ⟨?_⟩
  rcases h.form with ⟨rfl, h1⟩ | ⟨g, off, cap, rfl, h1, h2, h3, h4, _⟩
  · exact .inl ⟨rfl, List.eq_nil_of_length_eq_zero h1⟩
  · exact .inr ⟨g, off, cap, rfl, h1, h2, h3, h4⟩
theorem ER.rd {w : World} {v : Value} {l : List Ev} (h : ER w v l) : Rd w 12 v l.length (l.flatMap Ev.row) := by
  refine ⟨flat_length Ev.row 12 l fun x _ => rfl, ?_⟩
  rcases h.form with ⟨rfl, rfl⟩ | ⟨g, off, cap, rfl, h1, h2, h3, h4⟩
  · exact .inl ⟨rfl, rfl⟩
  · exact .inr ⟨_, cap, rfl, h1, h2, fun j u hu => by rw [add_mid' (⟨g, off, none⟩) j rfl]; exact h4 j u hu⟩
theorem ER.own_lt {w : World} {v : Value} {l : List Ev} {g : Nat} (h : ER w v l) (hg : v.ownBlock = some g) : g < w.heap.size := by
  rcases h.form with ⟨rfl, _⟩ | ⟨g', off, cap, rfl, _, _, h3, _⟩
  · cases hg
  · injection hg with hg
    exact hg ▸ h3
/-- the history and its copy -/
structure LH (w wr : World) (vi vh : Value) (l : List Ev) : Prop where
  only : Only None' w wr
  i : ER wr vi l
  h : ER wr vh l
theorem LH.new_ {w wr w1 : World} {vi vh : Value} {l : List Ev} (h : LH w wr vi vh l) (o : Only None' wr w1) : LH w w1 vi vh l :=
  ⟨h.only.trans o, h.i.only o fun _ _ e => e, h.h.only o fun _ _ e => e⟩
/-- the rows of keys: of the one, those below i are written over -/
structure LI (w wr : World) (vi vh va vb : Value) (l : List Ev) (ks : List Str) (i : Nat) : Prop where
  b : LH w wr vi vh l
  ra : ∃ xs, Vec wr 1 va ks.length xs ∧ ∀ j, i ≤ j → xs[j]? = (ks.map encStr)[j]?
  rb : Vec wr 1 vb ks.length (ks.map encStr)
  apart : ∀ g, va.ownBlock = some g → w.heap.size ≤ g ∧ vi.ownBlock ≠ some g ∧ vh.ownBlock ≠ some g ∧ vb.ownBlock ≠ some g
section
variable {w wr w1 : World} {vi vh va vb : Value} {l : List Ev} {ks : List Str} {i : Nat}
theorem LI.new_ (h : LI w wr vi vh va vb l ks i) (o : Only None' wr w1) : LI w w1 vi vh va vb l ks i := by
  obtain ⟨xs, h1, h2⟩ := h.ra
  exact ⟨h.b.new_ o, ⟨xs, h1.only o fun _ _ e => e, h2⟩, h.rb.only o fun _ _ e => e, h.apart⟩
theorem LI.drewN (h : LI w wr vi vh va vb l ks i) (q : Nat) : LI w (wr.drewN q) vi vh va vb l ks i := h.new_ ((Only.refl _ _).drewN q)
theorem LI.drew (h : LI w wr vi vh va vb l ks i) : LI w wr.drew vi vh va vb l ks i := h.new_ (Only.refl _ _).drew
theorem LI.sa (h : LI w wr vi vh va vb l ks i) (hi : i < ks.length) : ∃ g off c, va = .slice (some ⟨g, off, none⟩) ks.length c := by
  obtain ⟨xs, h1, _⟩ := h.ra
  obtain ⟨g, off, c, e, _⟩ := h1.at_ (by omega)
  exact ⟨g, off, c, e⟩
theorem LI.sb (h : LI w wr vi vh va vb l ks i) (hi : i < ks.length) : ∃ g off c, vb = .slice (some ⟨g, off, none⟩) ks.length c := by
  obtain ⟨g, off, c, e, _⟩ := h.rb.at_ (by omega)
  exact ⟨g, off, c, e⟩
theorem LI.ca {g off n c : Nat} {k : Str} (h : LI w wr vi vh (.slice (some ⟨g, off, none⟩) n c) vb l ks i) (hk : ks[i]? = some k) : wr.cell? ⟨g, off + i, none⟩ = some (encStr k) := by
  obtain ⟨xs, h1, h2⟩ := h.ra
  obtain ⟨g', off', c', e, _, _, _, h4, _⟩ := h1.at_ (by have := (List.getElem?_eq_some_iff.1 hk).1; omega)
  injection e with e
  injection e with e
  injection e with e e'
  subst e e'
  exact h4 i _ (by rw [h2 i (Nat.le_refl _), List.getElem?_map, hk]; rfl)
theorem LI.cb {g off n c : Nat} {k : Str} (h : LI w wr vi vh va (.slice (some ⟨g, off, none⟩) n c) l ks i) (hk : ks[i]? = some k) : wr.cell? ⟨g, off + i, none⟩ = some (encStr k) := by
  obtain ⟨g', off', c', e, _, _, _, h4, _⟩ := h.rb.at_ (by have := (List.getElem?_eq_some_iff.1 hk).1; omega)
  injection e with e
  injection e with e
  injection e with e e'
  subst e e'
  exact h4 i _ (by rw [List.getElem?_map, hk]; rfl)
theorem LI.free {g off n c : Nat} (h : LI w wr vi vh (.slice (some ⟨g, off, none⟩) n c) vb l ks i) (hi : i < ks.length) : wr.frozen? ⟨g, off + i, none⟩ = false := by
  obtain ⟨xs, h1, h2⟩ := h.ra
  obtain ⟨g', off', c', e, h0, _, _, h4, h5⟩ := h1.at_ (by omega)
  injection e with e
  injection e with e
  injection e with e e'
  subst e e'
  exact (h5 i (by omega)).2
/-- the key at i is written over -/
theorem LI.spoil {g off n c : Nat} (h : LI w wr vi vh (.slice (some ⟨g, off, none⟩) n c) vb l ks i) (hi : i < ks.length) (u : Value) : LI w (wr.setCell ⟨g, off + i, none⟩ u) vi vh (.slice (some ⟨g, off, none⟩) n c) vb l ks (i + 1) := by
  obtain ⟨xs, h1, h2⟩ := h.ra
  obtain ⟨g', off', c', e, _⟩ := h1.at_ (by omega)
  injection e with e1 e2 _
  subst e2
  have A := h.apart g rfl
  have o : Only (fun q => q = g) wr (wr.setCell ⟨g, off + i, none⟩ u) := (Only.refl (fun q => q = g) wr).setCell (p := ⟨g, off + i, none⟩) rfl u
  have h3 := h1.put (o := i) (vs := [u]) (by simp; omega)
  refine ⟨⟨h.b.only.trans2 o fun k hk e => by have := A.1; omega, h.b.i.only o fun q hq e => by subst e; exact A.2.1 hq, h.b.h.only o fun q hq e => by subst e; exact A.2.2.1 hq⟩, ⟨_, h3, fun j hj => ?_⟩, h.rb.only o fun q hq e => by subst e; exact A.2.2.2 hq, h.apart⟩
  have hlen : (xs.take i).length = i := by rw [List.length_take, h1.len]; omega
  rw [List.append_assoc, List.getElem?_append_right (by rw [hlen]; omega), hlen, List.getElem?_append_right (by simp; omega), List.length_singleton, List.getElem?_drop, ← h2 j (by omega)]
  congr 1
  omega
/-- the events of a key are picked: by the code, by the document; they are alike -/
theorem LH.of1 (h : LH w wr vi vh l) (hl : l.length ≤ 150) (hw : ∀ e ∈ l, Wf e.client ∧ Wf e.id) (key : ByteArray) : Calls Try.prog 21 #[vi, .string key] wr fun e w' => ∃ v, e = .returned v ∧ Vec w' 12 v (ofl key l).length ((ofl key l).flatMap Ev.row) ∧ (∀ g, v.ownBlock = some g → wr.heap.size ≤ g) ∧ Only None' wr w' := of_any h.i hl hw key
theorem LH.of2 (h : LH w wr vi vh l) (hl : l.length ≤ 150) (key : ByteArray) : Calls Try.prog 22 #[vh, .string key] wr fun e w' => ∃ v, e = .returned v ∧ ER w' v (ofl key l) ∧ Only None' wr w' :=
  (dof_any h.h hl key).mono fun e w' ⟨v, e1, h1, _, o⟩ => ⟨v, e1, er_of_vec h1, o⟩
theorem insAll_len : ∀ l : List Str, (insAll l).length ≤ l.length := by
  have hi : ∀ (k : Str) (l : List Str), (ins k l).length ≤ l.length + 1 := by
    intro k l
    induction l with
    | nil => simp [ins]
    | cons y r ih =>
      unfold ins
      split
      · simp; omega
      · split <;> simp
  intro l
  rw [← List.reverse_reverse l]
  induction l.reverse with
  | nil => simp [insAll]
  | cons k r ih =>
    rw [List.reverse_cons, insAll_snoc, List.length_append, List.length_singleton]
    exact Nat.le_trans (hi k _) (by omega)
theorem ofl_le (key : ByteArray) (hl : l.length ≤ 150) : (ofl key l).length ≤ 150 := by
  have := ofl_len (key := key) (l := l) l.length (Nat.le_refl _)
  rw [List.take_length] at this
  omega
theorem LI.of1 (h : LI w wr vi vh va vb l ks i) (hl : l.length ≤ 150) (hw : ∀ e ∈ l, Wf e.client ∧ Wf e.id) (k : Str) : Calls Try.prog 21 #[vi, encStr k] wr fun e w' => ∃ v, e = .returned v ∧ LI w w' vi vh va vb l ks i ∧ ER w' v (ofl ⟨k.toArray⟩ l) :=
  (h.b.of1 hl hw ⟨k.toArray⟩).mono fun e w' ⟨v, e1, h1, _, o⟩ => ⟨v, e1, h.new_ o, er_of_vec h1⟩
theorem LI.of2 {v1 : Value} {key : ByteArray} (h : LI w wr vi vh va vb l ks i ∧ ER wr v1 (ofl key l)) (hl : l.length ≤ 150) (k : Str) : Calls Try.prog 22 #[vh, encStr k] wr fun e w' => ∃ v, e = .returned v ∧ LI w w' vi vh va vb l ks i ∧ ER w' v1 (ofl key l) ∧ ER w' v (ofl ⟨k.toArray⟩ l) :=
  (h.1.b.of2 hl ⟨k.toArray⟩).mono fun e w' ⟨v, e1, h1, o⟩ => ⟨v, e1, h.1.new_ o, h.2.only o fun _ _ e => e, h1⟩
theorem LI.ev {v1 v2 : Value} {key : ByteArray} (h : LI w wr vi vh va vb l ks i ∧ ER wr v1 (ofl key l) ∧ ER wr v2 (ofl key l)) (hl : l.length ≤ 150) : Calls Try.prog 15 #[v1, v2] wr fun e w' => e = .returned (.bool true) ∧ LI w w' vi vh va vb l ks i :=
  (events_any h.2.1 h.2.2 (Nat.le_trans (ofl_le key hl) (by decide))).mono fun e w' ⟨e1, o⟩ => ⟨e1, h.1.new_ o⟩
theorem P1.drewN {v1 : Value} {key : ByteArray} (h : LI w wr vi vh va vb l ks i ∧ ER wr v1 (ofl key l)) (q : Nat) : LI w (wr.drewN q) vi vh va vb l ks i ∧ ER (wr.drewN q) v1 (ofl key l) := ⟨h.1.drewN q, h.2.only ((Only.refl None' wr).drewN q) fun _ _ e => e⟩
theorem P2.drewN {v1 v2 : Value} {key : ByteArray} (h : LI w wr vi vh va vb l ks i ∧ ER wr v1 (ofl key l) ∧ ER wr v2 (ofl key l)) (q : Nat) : LI w (wr.drewN q) vi vh va vb l ks i ∧ ER (wr.drewN q) v1 (ofl key l) ∧ ER (wr.drewN q) v2 (ofl key l) := ⟨h.1.drewN q, h.2.1.only ((Only.refl None' wr).drewN q) fun _ _ e => e, h.2.2.only ((Only.refl None' wr).drewN q) fun _ _ e => e⟩
end
/-- the code's events, written over -/
structure LX (w wr : World) (vi vh vx : Value) (l : List Ev) (m : Nat) : Prop where
  b : LH w wr vi vh l
  rx : ∃ xs, Vec wr 12 vx m xs
  apart : ∀ g, vx.ownBlock = some g → w.heap.size ≤ g ∧ vi.ownBlock ≠ some g ∧ vh.ownBlock ≠ some g
theorem LX.new_ {w wr w1 : World} {vi vh vx : Value} {l : List Ev} {m : Nat} (h : LX w wr vi vh vx l m) (o : Only None' wr w1) : LX w w1 vi vh vx l m := by
  obtain ⟨xs, h1⟩ := h.rx
  exact ⟨h.b.new_ o, ⟨xs, h1.only o fun _ _ e => e⟩, h.apart⟩
theorem LX.at_ {w wr : World} {vi vh vx : Value} {l : List Ev} {m : Nat} (h : LX w wr vi vh vx l m) {j : Nat} (hj : j < m) : ∃ g off c u, vx = .slice (some ⟨g, off, none⟩) m c ∧ wr.cell? ⟨g, off + j * 12 + 1, none⟩ = some u ∧ wr.frozen? ⟨g, off + j * 12 + 1, none⟩ = false := by
  obtain ⟨xs, h1⟩ := h.rx
  obtain ⟨g, off, c, e, hc, _, _, _, h5⟩ := h1.at_ (by omega)
  have h6 := h5 (j * 12 + 1) (by omega)
  rw [← Nat.add_assoc] at h6
  obtain ⟨u, hu⟩ := Option.isSome_iff_exists.1 h6.1
  exact ⟨g, off, c, u, e, hu, h6.2⟩
theorem LX.spoil {w wr : World} {vi vh : Value} {g off m c : Nat} {l : List Ev} (h : LX w wr vi vh (.slice (some ⟨g, off, none⟩) m c) l m) {j : Nat} (hj : j < m) (u : Value) : LX w (wr.setCell ⟨g, off + j * 12 + 1, none⟩ u) vi vh (.slice (some ⟨g, off, none⟩) m c) l m := by
  obtain ⟨xs, h1⟩ := h.rx
  have A := h.apart g rfl
  have o : Only (fun q => q = g) wr (wr.setCell ⟨g, off + j * 12 + 1, none⟩ u) := (Only.refl (fun q => q = g) wr).setCell (p := ⟨g, off + j * 12 + 1, none⟩) rfl u
  have h3 := h1.put (o := j * 12 + 1) (vs := [u]) (by simp; omega)
  rw [← Nat.add_assoc] at h3
  exact ⟨⟨h.b.only.trans2 o fun k hk e => by have := A.1; omega, h.b.i.only o fun q hq e => by subst e; exact A.2.1 hq, h.b.h.only o fun q hq e => by subst e; exact A.2.2 hq⟩, ⟨_, h3⟩, h.apart⟩
end Go.Proofs.Ytajbagdgjbihjaa
