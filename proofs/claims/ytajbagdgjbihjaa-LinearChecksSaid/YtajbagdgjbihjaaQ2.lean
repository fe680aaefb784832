/- A history, key by key, plainly. -/
import Derived.Test.YtajbagdgjbihjaaQ1
namespace Go.Proofs.Ytajbagdgjbihjaa
set_option linter.unusedVariables false

section
variable {key : ByteArray} {h : List Ev}
theorem ren_who (o : Opn) : (ren key h o).who = o.who := rfl
theorem at_key {o : Opn} : o.at_ key = true ↔ o.op.key = key := by
  unfold Opn.at_
  rw [decide_eq_true_eq]
theorem side_nil : Side key h 0 [] := by
  refine ⟨?_, fun p => ?_, fun o ho => absurd ho List.not_mem_nil⟩
  · rw [List.take_zero]; rfl
  · rw [List.take_zero]
    constructor
    · intro h; cases h
    · rintro ⟨o, ho, _⟩; cases ho
theorem side_step {k : Nat} {all all' : List Opn} {e : Ev} (he : h[k]? = some e) (sn : Sane k all) (sd : Side key h k all) (hs : opStep all k e = some all') : Side key h (k + 1) all' := by
  have hps := pos_succ (key := key) he
  cases hb : e.back with
  | false =>
    obtain ⟨rfl, hn⟩ := opStep_call hb hs
    simp only [hb, Bool.false_eq_true, if_false] at hps
    have hof : ofl key (h.take (k + 1)) = ofl key (h.take k) ++ if e.hit key then [e] else [] := by
      rw [ofl_succ he, hb]
      simp only [Bool.false_eq_true, if_false]
    have hat : (e.opn k).at_ key = e.hit key := by
      rw [Bool.eq_iff_iff, at_key, hit_eq]
      exact Iff.rfl
    refine ⟨?_, fun p => ?_, fun o ho hk => ?_⟩
    · rw [hof, List.filter_append]
      by_cases hh : e.hit key = true
      · rw [if_pos hh, opRun_snoc, sd.part]
        show opStep _ _ e = _
        rw [opStep_call' hb, List.filter_cons_of_pos (by rw [hat]; exact hh), List.filter_nil, List.map_append]
        · rfl
        · intro o ho
          obtain ⟨y, hy, rfl⟩ := List.mem_map.1 ho
          exact hn y (List.mem_filter.1 hy).1
      · rw [if_neg hh, List.append_nil, List.filter_cons_of_neg (by rw [hat]; exact hh), List.filter_nil, List.append_nil]
        exact sd.part
    · rw [opn_succ he, hb]
      simp only [Bool.false_eq_true, if_false]
      have hno : ¬ ∃ o ∈ all, o.who = e.who ∧ o.op.key = key ∧ o.til < 0 := fun ⟨o, ho, h1, _⟩ => hn o ho h1
      by_cases hw : e.who = p
      · subst hw
        rw [if_pos rfl]
        by_cases hh : e.hit key = true
        · rw [if_pos hh]
          exact ⟨fun _ => ⟨e.opn k, List.mem_append_right _ List.mem_cons_self, rfl, hit_eq.1 hh, by show (-1 : Int) < 0; decide⟩, fun _ => rfl⟩
        · rw [if_neg hh]
          constructor
          · intro h1; exact absurd ((sd.open_ _).1 h1) hno
          · rintro ⟨o, ho, h1, h2, h3⟩
            rcases List.mem_append.1 ho with ho | ho
            · exact absurd ⟨o, ho, h1, h2, h3⟩ hno
            · rw [List.mem_singleton] at ho
              subst ho
              exact absurd (hit_eq.2 h2) hh
      · rw [if_neg hw, sd.open_]
        constructor
        · rintro ⟨o, ho, h1⟩; exact ⟨o, List.mem_append_left _ ho, h1⟩
        · rintro ⟨o, ho, h1⟩
          rcases List.mem_append.1 ho with ho | ho
          · exact ⟨o, ho, h1⟩
          · rw [List.mem_singleton] at ho
            subst ho
            exact absurd h1.1 hw
    · rcases List.mem_append.1 ho with ho | ho
      · exact sd.fr_ o ho hk
      · rw [List.mem_singleton] at ho
        subst ho
        show pos key h (((k : Nat) : Int).toNat + 1) = pos key h ((k : Nat) : Int).toNat + 1
        rw [Int.toNat_natCast, hps, if_pos (hit_eq.2 hk)]
  | true =>
    obtain ⟨j, o, h1, h2, h3, h4, h5, h6, rfl⟩ := opStep_back hb hs
    simp only [hb, if_true] at hps
    have hof : ofl key (h.take (k + 1)) = ofl key (h.take k) ++ if opn key (h.take k) e.who then [e] else [] := by
      rw [ofl_succ he, hb]
      simp only [if_true]
    have hom := List.mem_of_getElem? h2
    have e1 : all.set j (o.came k e.rs) = all.map fun x => if x.who = o.who then x.came k e.rs else x := set_map (f := fun x => x.came k e.rs) sn.unlike h2
    have hopn : opn key (h.take k) e.who = true ↔ o.op.key = key := by
      rw [sd.open_]
      constructor
      · rintro ⟨x, hx, g1, g2, g3⟩
        rw [sn.unlike.one hom hx (h4.trans g1.symm)]
        exact g2
      · intro hk; exact ⟨o, hom, h4, hk, h3⟩
    have hat : ∀ x : Opn, (if x.who = o.who then x.came k e.rs else x).at_ key = x.at_ key := fun x => by split <;> rfl
    have hfm : (all.set j (o.came k e.rs)).filter (Opn.at_ key) = (all.filter (Opn.at_ key)).map fun x => if x.who = o.who then x.came k e.rs else x := by
      rw [e1, List.filter_map]
      congr 1
      refine List.filter_congr fun x _ => ?_
      exact hat x
    have hmem : ∀ x ∈ all.set j (o.came k e.rs), ∃ y ∈ all, x.fr = y.fr ∧ x.op = y.op ∧ x.who = y.who ∧ (x.til < 0 → y.til < 0 ∧ y.who ≠ o.who) := fun x hx => by
      rw [e1, List.mem_map] at hx
      obtain ⟨y, hy, rfl⟩ := hx
      by_cases hyo : y.who = o.who
      · refine ⟨y, hy, ?_⟩
        rw [if_pos hyo]
        exact ⟨rfl, rfl, rfl, fun h0 => absurd (show (k : Int) < 0 from h0) (by omega)⟩
      · refine ⟨y, hy, ?_⟩
        rw [if_neg hyo]
        exact ⟨rfl, rfl, rfl, fun h0 => ⟨h0, hyo⟩⟩
    refine ⟨?_, fun p => ?_, fun x hx hk => ?_⟩
    · rw [hof, hfm]
      by_cases hk : o.op.key = key
      · rw [if_pos (hopn.2 hk), opRun_snoc, sd.part]
        show opStep _ _ e = _
        obtain ⟨j', g1, g2⟩ := lastAt_filter (P := Opn.at_ key) (at_key.2 hk) h1 h2
        have g3 : ((all.filter (Opn.at_ key)).map (ren key h))[j']? = some (ren key h o) := by rw [List.getElem?_map, g2]; rfl
        rw [opStep_back' hb (by rw [lastAt_map e.client (ren key h) (fun _ => rfl)]; exact g1) g3 (by unfold ren; rw [if_pos h3]; show (-1 : Int) < 0; decide) h4 h5 h6]
        congr 1
        have hu : Unlike ((all.filter (Opn.at_ key)).map (ren key h)) := List.pairwise_map.2 ((sn.unlike.filter _).imp fun hab => hab)
        rw [set_map (f := fun x => x.came (ofl key (h.take k)).length e.rs) hu g3, List.map_map, List.map_map]
        refine List.map_congr_left fun x hx => ?_
        show (if (ren key h x).who = (ren key h o).who then (ren key h x).came _ e.rs else ren key h x) = ren key h (if x.who = o.who then x.came k e.rs else x)
        rw [ren_who, ren_who]
        by_cases hxo : x.who = o.who
        · rw [if_pos hxo, if_pos hxo]
          unfold ren Opn.came
          simp only
          rw [if_neg (by omega), Int.toNat_natCast]
          rfl
        · rw [if_neg hxo, if_neg hxo]
      · rw [if_neg (fun h1 => hk (hopn.1 h1)), List.append_nil, sd.part]
        congr 2
        conv => lhs; rw [← List.map_id (all.filter (Opn.at_ key))]
        refine List.map_congr_left fun x hx => ?_
        rw [if_neg]
        · rfl
        · intro hxo
          have := sn.unlike.one (List.mem_filter.1 hx).1 hom hxo
          subst this
          exact hk (at_key.1 (List.mem_filter.1 hx).2)
    · rw [opn_succ he, hb]
      simp only [if_true]
      by_cases hw : e.who = p
      · subst hw
        rw [if_pos rfl]
        constructor
        · intro h0; cases h0
        · rintro ⟨x, hx, g1, g2, g3⟩
          obtain ⟨y, hy, a1, a2, a3, a4⟩ := hmem x hx
          exact absurd (a3.symm.trans (g1.trans h4.symm)) (a4 g3).2
      · rw [if_neg hw, sd.open_]
        constructor
        · rintro ⟨y, hy, g1, g2, g3⟩
          refine ⟨y, ?_, g1, g2, g3⟩
          rw [e1, List.mem_map]
          exact ⟨y, hy, if_neg (fun h0 => hw (h4.symm.trans (h0.symm.trans g1)))⟩
        · rintro ⟨x, hx, g1, g2, g3⟩
          rw [e1, List.mem_map] at hx
          obtain ⟨y, hy, rfl⟩ := hx
          by_cases hyo : y.who = o.who
          · rw [if_pos hyo] at g3
            exact absurd (show (k : Int) < 0 from g3) (by omega)
          · rw [if_neg hyo] at g1 g2 g3
            exact ⟨y, hy, g1, g2, g3⟩
    · obtain ⟨y, hy, a1, a2, a3, a4⟩ := hmem x hx
      rw [a1]
      exact sd.fr_ y hy (by rw [← a2]; exact hk)
theorem side_run : ∀ {k : Nat} {all : List Opn}, k ≤ h.length → opRun [] 0 (h.take k) = some all → Side key h k all
  | 0, all, _, hr => by
    have : all = [] := by
      rw [List.take_zero] at hr
      injection hr with hr
      exact hr.symm
    rw [this]
    exact side_nil
  | k + 1, all, hk, hr => by
    have hk' : k < h.length := by omega
    rw [opRun_take (List.getElem?_eq_getElem hk')] at hr
    cases hp : opRun [] 0 (h.take k) with
    | none => rw [hp] at hr; cases hr
    | some a =>
      rw [hp] at hr
      exact side_step (List.getElem?_eq_getElem hk') (sane_run (by omega) hp) (side_run (by omega) hp) hr
/-- which key's event an event is -/
theorem whose {k : Nat} {all all' : List Opn} {e : Ev} (he : h[k]? = some e) (hr : opRun [] 0 (h.take k) = some all) (hs : opStep all k e = some all') : ∃ key0, (∃ c ∈ h, c.back = false ∧ c.key = key0) ∧ ∀ key, (if e.back then opn key (h.take k) e.who else e.hit key) = decide (key = key0) := by
  have hk : k < h.length := (List.getElem?_eq_some_iff.1 he).1
  cases hb : e.back with
  | false =>
    refine ⟨e.key, ⟨e, List.mem_of_getElem? he, hb, rfl⟩, fun key => ?_⟩
    rw [if_neg (by simp), Bool.eq_iff_iff, hit_eq, decide_eq_true_eq]
    exact eq_comm
  | true =>
    obtain ⟨j, o, h1, h2, h3, h4, h5, h6, rfl⟩ := opStep_back hb hs
    have hom := List.mem_of_getElem? h2
    have sn := sane_run (by omega) hr
    have hopn : ∀ key, opn key (h.take k) e.who = true ↔ o.op.key = key := fun key => by
      rw [(side_run (key := key) (by omega) hr).open_]
      constructor
      · rintro ⟨x, hx, g1, g2, g3⟩
        rw [sn.unlike.one hom hx (h4.trans g1.symm)]
        exact g2
      · intro hk; exact ⟨o, hom, h4, hk, h3⟩
    refine ⟨o.op.key, ?_, fun key => ?_⟩
    · have := (hopn o.op.key).2 rfl
      unfold opn at this
      rw [openB_iff _ _ _ _ _ _ (by omega)] at this
      obtain ⟨i, a, g1, g2, g3, g4, g5, g6⟩ := this
      exact ⟨a, List.mem_of_getElem? g1, g3, hit_eq.1 g4⟩
    · rw [if_pos rfl, Bool.eq_iff_iff, hopn, decide_eq_true_eq]
      exact eq_comm
end
/-! ### could, of operations that lie alike -/
theorem erase_map (f : Opn → Opn) : ∀ (l : List Opn) (i : Nat), (l.map f).eraseIdx i = (l.eraseIdx i).map f
  | [], i => by simp
  | x :: l, 0 => rfl
  | x :: l, i + 1 => by
    rw [List.map_cons, List.eraseIdx_cons_succ, List.eraseIdx_cons_succ, List.map_cons, erase_map f l i]
theorem pc_map {f : Opn → Opn} {L : List Opn} (h1 : ∀ o, (f o).op = o.op ∧ (f o).res = o.res ∧ ((f o).til < 0 ↔ o.til < 0)) (h2 : ∀ o ∈ L, ∀ p ∈ L, 0 ≤ p.til → ((f o).fr < (f p).til ↔ o.fr < p.til)) : ∀ (n : Nat) (l : List Opn) (st : Option ByteArray), (∀ o ∈ l, o ∈ L) → pc n (l.map f) st = pc n l st := by
  have hidle : ∀ l : List Opn, idle (l.map f) = idle l := fun l => by
    unfold idle
    rw [List.all_map]
    refine List.all_congr rfl fun p => ?_
    rw [Bool.eq_iff_iff]
    simp only [Function.comp, decide_eq_true_eq]
    exact (h1 p).2.2
  intro n
  induction n with
  | zero => intro l st hl; exact hidle l
  | succ n ih =>
    intro l st hl
    unfold pc
    rw [hidle, List.length_map]
    congr 1
    rw [Bool.eq_iff_iff, List.any_eq_true, List.any_eq_true]
    refine exists_congr fun i => and_congr_right fun hi => ?_
    have hil : i < l.length := List.mem_range.1 hi
    have ho : l[i] ∈ L := hl _ (List.getElem_mem hil)
    rw [List.getElem?_map, List.getElem?_eq_getElem hil]
    simp only [Option.map_some, Bool.and_eq_true]
    have hf : firstB (l.map f) (f l[i]) = firstB l l[i] := by
      unfold firstB
      rw [List.all_map, Bool.eq_iff_iff, List.all_eq_true, List.all_eq_true]
      refine forall_congr' fun p => forall_congr' fun hp => ?_
      simp only [Function.comp, Bool.or_eq_true, decide_eq_true_eq]
      by_cases h0 : p.til < 0
      · exact ⟨fun _ => .inl h0, fun _ => .inl ((h1 p).2.2.2 h0)⟩
      · have g1 := h2 _ ho p (hl p hp) (by omega)
        have g2 := (h1 p).2.2
        rw [g1, g2]
    have hg : (f l[i]).goes st = l[i].goes st := by
      unfold Opn.goes
      obtain ⟨a1, a2, a3⟩ := h1 l[i]
      rw [a1, a2]
      congr 1
      rw [eq_iff_iff, a3]
    rw [hf, hg]
    refine and_congr_right fun _ => ?_
    cases l[i].goes st with
    | none => exact Iff.rfl
    | some st' =>
      simp only
      rw [erase_map, ih _ st' fun o ho => hl o (List.mem_of_mem_eraseIdx ho)]
section
variable {key : ByteArray} {h : List Ev} {all : List Opn}
theorem fix_ren (o : Opn) : (ren key h o).fix = o.fix.map (ren key h) := by
  unfold Opn.fix
  have hr : (ren key h o).res = o.res := rfl
  rw [hr]
  by_cases h3 : o.res.kind = 3
  · rw [if_pos h3, if_pos h3]; rfl
  · rw [if_neg h3, if_neg h3]
    by_cases h2 : o.res.kind = 2
    · rw [if_pos h2, if_pos h2]
      unfold ren
      simp
    · rw [if_neg h2, if_neg h2]; rfl
theorem fix_some {o x : Opn} (hx : o.fix = some x) : x.op = o.op ∧ x.fr = o.fr ∧ x.who = o.who ∧ (x = o ∨ x.til = -1) := by
  unfold Opn.fix at hx
  split at hx
  · cases hx
  · split at hx
    · injection hx with hx; subst hx; exact ⟨rfl, rfl, rfl, .inr rfl⟩
    · injection hx with hx; subst hx; exact ⟨rfl, rfl, rfl, .inl rfl⟩
theorem fix_part : ∀ all : List Opn, ((all.filter (Opn.at_ key)).map (ren key h)).filterMap Opn.fix = ((all.filterMap Opn.fix).filter (Opn.at_ key)).map (ren key h)
  | [] => rfl
  | o :: l => by
    have ih := fix_part l
    rw [List.filterMap_cons]
    cases ho : o.fix with
    | none =>
      simp only
      by_cases hk : o.at_ key = true
      · rw [List.filter_cons_of_pos hk, List.map_cons, List.filterMap_cons, fix_ren, ho]
        exact ih
      · rw [List.filter_cons_of_neg hk]; exact ih
    | some x =>
      simp only
      have hx : x.at_ key = o.at_ key := by unfold Opn.at_; rw [(fix_some ho).1]
      by_cases hk : o.at_ key = true
      · rw [List.filter_cons_of_pos hk, List.map_cons, List.filterMap_cons, fix_ren, ho, List.filter_cons_of_pos (hx.trans hk), List.map_cons]
        exact congrArg _ ih
      · rw [List.filter_cons_of_neg hk, List.filter_cons_of_neg (by rw [hx]; exact hk)]; exact ih
theorem looked_ren (o : Opn) : looked key (ren key h o) = looked key o := by
  unfold looked
  rw [Bool.eq_iff_iff, decide_eq_true_eq, decide_eq_true_eq]
  have : (0 ≤ (ren key h o).til) ↔ 0 ≤ o.til := by
    unfold ren
    simp only
    split <;> omega
  rw [this]
  exact Iff.rfl
theorem byKey_part (l : List Opn) : byKey ((l.filter (Opn.at_ key)).map (ren key h)) key = (byKey l key).map (ren key h) := by
  unfold byKey
  rw [List.filter_map, List.filter_filter]
  congr 1
  refine List.filter_congr fun o _ => ?_
  simp only [Function.comp]
  rw [looked_ren, Bool.eq_iff_iff, Bool.and_eq_true]
  refine ⟨fun h => h.1, fun h => ⟨h, ?_⟩⟩
  unfold looked at h
  exact at_key.2 (of_decide_eq_true h).1
theorem pos_le (k : Nat) : pos key h k ≤ pos key h (k + 1) := by
  by_cases hk : k < h.length
  · rw [pos_succ (List.getElem?_eq_getElem hk)]
    omega
  · unfold pos
    rw [List.take_of_length_le (by omega), List.take_of_length_le (by omega)]
    exact Nat.le_refl _
theorem pos_mono {a b : Nat} (hab : a ≤ b) : pos key h a ≤ pos key h b := by
  induction hab with
  | refl => exact Nat.le_refl _
  | step _ ih => exact Nat.le_trans ih (pos_le _)
theorem could_part {l : List Opn} (hr : opRun [] 0 h = some all) (hl : l = all.filterMap Opn.fix) : couldB ((byKey l key).map (ren key h)) = couldB (byKey l key) := by
  have hr' : opRun [] 0 (h.take h.length) = some all := by rw [List.take_length]; exact hr
  have sn := sane_run (Nat.le_refl _) hr'
  have sd := side_run (key := key) (Nat.le_refl _) hr'
  unfold couldB
  rw [List.length_map]
  refine pc_map (f := ren key h) (L := byKey l key) (fun o => ⟨rfl, rfl, ?_⟩) (fun o ho p hp h0 => ?_) _ _ _ fun o ho => ho
  · unfold ren
    simp only
    split <;> omega
  · have hfrom : ∀ o ∈ byKey l key, ∃ y ∈ all, o.fr = y.fr ∧ y.op.key = key ∧ (0 ≤ o.til → o.til = y.til) := fun o ho => by
      obtain ⟨h1, h2⟩ := List.mem_filter.1 ho
      rw [hl] at h1
      obtain ⟨y, hy, hyo⟩ := List.mem_filterMap.1 h1
      obtain ⟨a1, a2, a3, a4⟩ := fix_some hyo
      unfold looked at h2
      refine ⟨y, hy, a2, by rw [← a1]; exact (of_decide_eq_true h2).1, fun h0 => ?_⟩
      rcases a4 with rfl | a4
      · rfl
      · omega
    obtain ⟨y, hy, a1, a2, _⟩ := hfrom o ho
    have hf := sn.fr_ y hy
    have hs := sd.fr_ y hy a2
    rw [← a1] at hs hf
    unfold ren
    simp only
    rw [if_neg (by omega)]
    constructor
    · intro hlt
      by_cases hc : o.fr < p.til
      · exact hc
      · have := pos_mono (key := key) (h := h) (show p.til.toNat ≤ o.fr.toNat by omega)
        omega
    · intro hlt
      have := pos_mono (key := key) (h := h) (show o.fr.toNat + 1 ≤ p.til.toNat by omega)
      omega
/-- a key's events, checked -/
theorem check_part {l : List Opn} (hr : opRun [] 0 h = some all) (hl : l = all.filterMap Opn.fix) : checkOf (ofl key h) = if 14 < (byKey l key).length then (false, 3) else (couldB (byKey l key), 0) := by
  have hr' : opRun [] 0 (h.take h.length) = some all := by rw [List.take_length]; exact hr
  have sd := side_run (key := key) (Nat.le_refl _) hr'
  have hp := sd.part
  rw [List.take_length] at hp
  unfold checkOf opsOf
  rw [hp]
  simp only [Option.map_some]
  rw [fix_part, ← hl]
  have hkey : ∀ o ∈ (l.filter (Opn.at_ key)).map (ren key h), byKey ((l.filter (Opn.at_ key)).map (ren key h)) o.op.key = (byKey l key).map (ren key h) := fun o ho => by
    obtain ⟨y, hy, rfl⟩ := List.mem_map.1 ho
    rw [show (ren key h y).op.key = key from at_key.1 (List.mem_filter.1 hy).2]
    exact byKey_part l
  have hmem : ∀ o ∈ byKey l key, ren key h o ∈ (l.filter (Opn.at_ key)).map (ren key h) := fun o ho => by
    obtain ⟨h1, h2⟩ := List.mem_filter.1 ho
    unfold looked at h2
    exact List.mem_map.2 ⟨o, List.mem_filter.2 ⟨h1, at_key.2 (of_decide_eq_true h2).1⟩, rfl⟩
  by_cases h14 : 14 < (byKey l key).length
  · rw [if_pos h14, if_pos]
    obtain ⟨o, ho⟩ : ∃ o, o ∈ byKey l key := by
      cases hb : byKey l key with
      | nil => rw [hb] at h14; simp at h14
      | cons o _ => exact ⟨o, List.mem_cons_self⟩
    exact List.any_eq_true.2 ⟨_, hmem o ho, by rw [decide_eq_true_eq, hkey _ (hmem o ho), List.length_map]; exact h14⟩
  · rw [if_neg h14, if_neg]
    · congr 1
      rw [Bool.eq_iff_iff, List.all_eq_true]
      constructor
      · intro ha
        cases hb : byKey l key with
        | nil => rfl
        | cons o t =>
          have ho : o ∈ byKey l key := by rw [hb]; exact List.mem_cons_self
          have := ha _ (hmem o ho)
          rw [hkey _ (hmem o ho), could_part hr hl, hb] at this
          exact this
      · intro hc o ho
        rw [hkey o ho, could_part hr hl]
        exact hc
    · intro ha
      obtain ⟨o, ho, h2⟩ := List.any_eq_true.1 ha
      rw [decide_eq_true_eq, hkey o ho, List.length_map] at h2
      exact h14 h2
theorem sum_one {keys : List ByteArray} {k0 : ByteArray} (hn : keys.Nodup) (hm : k0 ∈ keys) (f g : ByteArray → Nat) (hf : ∀ k, g k = f k + if k = k0 then 1 else 0) : (keys.map g).sum = (keys.map f).sum + 1 := by
  induction keys with
  | nil => cases hm
  | cons x l ih =>
    have hn' := List.nodup_cons.1 hn
    rw [List.map_cons, List.map_cons, List.sum_cons, List.sum_cons, hf x]
    by_cases hx : x = k0
    · subst hx
      rw [if_pos rfl]
      have : l.map g = l.map f := List.map_congr_left fun y hy => by
        rw [hf y, if_neg (fun e => hn'.1 (by rw [← e]; exact hy))]
        rfl
      rw [this]
      omega
    · rw [if_neg hx, ih hn'.2 (by rcases List.mem_cons.1 hm with e | e; exact absurd e.symm hx; exact e)]
      omega
/-- each event is one key's -/
theorem sum_len {keys : List ByteArray} (hn : keys.Nodup) (hm : ∀ e ∈ h, e.back = false → e.key ∈ keys) (hr : opRun [] 0 h = some all) : (keys.map fun k => (ofl k h).length).sum = h.length := by
  have key : ∀ k, k ≤ h.length → (keys.map fun x => pos x h k).sum = k := by
    intro k
    induction k with
    | zero =>
      intro _
      have : ∀ l : List ByteArray, (l.map fun x => pos x h 0).sum = 0 := fun l => by
        induction l with
        | nil => rfl
        | cons x l ih => rw [List.map_cons, List.sum_cons, ih]; rfl
      exact this keys
    | succ k ih =>
      intro hk
      have hk' : k < h.length := by omega
      have he : h[k]? = some h[k] := List.getElem?_eq_getElem hk'
      have hsp : opRun [] 0 (h.take (k + 1) ++ h.drop (k + 1)) = some all := by rw [List.take_append_drop]; exact hr
      rw [opRun_append] at hsp
      cases hp : opRun [] 0 (h.take (k + 1)) with
      | none => rw [hp] at hsp; cases hsp
      | some a' =>
        rw [opRun_take he] at hp
        cases hq : opRun [] 0 (h.take k) with
        | none => rw [hq] at hp; cases hp
        | some a =>
          rw [hq] at hp
          obtain ⟨k0, ⟨c, hc1, hc2, hc3⟩, hw⟩ := whose he hq hp
          have hmk : k0 ∈ keys := by rw [← hc3]; exact hm c hc1 hc2
          rw [sum_one hn hmk (fun x => pos x h k) (fun x => pos x h (k + 1)) (fun x => by rw [pos_succ he, hw x]; simp), ih (by omega)]
  have := key h.length (Nat.le_refl _)
  have hp : (fun x => pos x h h.length) = fun k => (ofl k h).length := by
    funext x
    unfold pos
    rw [List.take_length]
  rwa [hp] at this
theorem op_key {l : List Opn} (hr : opRun [] 0 h = some all) (hl : l = all.filterMap Opn.fix) : ∀ o ∈ l, ∃ e ∈ h, e.back = false ∧ e.key = o.op.key := by
  have key : ∀ k a, k ≤ h.length → opRun [] 0 (h.take k) = some a → ∀ o ∈ a, ∃ e ∈ h, e.back = false ∧ e.key = o.op.key := by
    intro k
    induction k with
    | zero =>
      intro a _ hr o ho
      rw [List.take_zero] at hr
      injection hr with hr
      subst hr
      cases ho
    | succ k ih =>
      intro a hk hr o ho
      have hk' : k < h.length := by omega
      have he : h[k]? = some h[k] := List.getElem?_eq_getElem hk'
      rw [opRun_take he] at hr
      cases hp : opRun [] 0 (h.take k) with
      | none => rw [hp] at hr; cases hr
      | some b =>
        rw [hp] at hr
        have ih' := ih b (by omega) hp
        cases hb : h[k].back with
        | false =>
          obtain ⟨rfl, _⟩ := opStep_call hb hr
          rcases List.mem_append.1 ho with ho | ho
          · exact ih' o ho
          · rw [List.mem_singleton] at ho
            subst ho
            exact ⟨h[k], List.getElem_mem hk', hb, rfl⟩
        | true =>
          obtain ⟨j, x, h1, h2, h3, h4, h5, h6, rfl⟩ := opStep_back hb hr
          rcases List.mem_or_eq_of_mem_set ho with ho | rfl
          · exact ih' o ho
          · exact ih' x (List.mem_of_getElem? h2)
  intro o ho
  rw [hl] at ho
  obtain ⟨y, hy, hyo⟩ := List.mem_filterMap.1 ho
  rw [(fix_some hyo).1]
  exact key h.length all (Nat.le_refl _) (by rw [List.take_length]; exact hr) y hy
/-- a history could be that of one map just if of each of its keys it could -/
theorem key_by_key {keys : List ByteArray} {l : List Opn} (hm : ∀ e ∈ h, e.back = false → e.key ∈ keys) (hr : opRun [] 0 h = some all) (hl : l = all.filterMap Opn.fix) :
    checkOf h = if keys.any (fun k => decide ((checkOf (ofl k h)).2 = 3)) then (false, 3) else (keys.all fun k => (checkOf (ofl k h)).1, 0) := by
  have hof : opsOf h = some l := by unfold opsOf; rw [hr, hl]; rfl
  have h3 : ∀ k, (checkOf (ofl k h)).2 = 3 ↔ 14 < (byKey l k).length := fun k => by
    rw [check_part hr hl]
    split
    · next hh => exact ⟨fun _ => hh, fun _ => rfl⟩
    · next hh => exact ⟨fun h0 => absurd (show (0 : Int) = 3 from h0) (by decide), fun h0 => absurd h0 hh⟩
  have hin : ∀ k o, o ∈ byKey l k → o ∈ l ∧ o.op.key = k := fun k o ho => by
    obtain ⟨a, b⟩ := List.mem_filter.1 ho
    unfold looked at b
    exact ⟨a, (of_decide_eq_true b).1⟩
  have hany : (l.any fun o => decide (14 < (byKey l o.op.key).length)) = keys.any fun k => decide ((checkOf (ofl k h)).2 = 3) := by
    rw [Bool.eq_iff_iff, List.any_eq_true, List.any_eq_true]
    constructor
    · rintro ⟨o, ho, h1⟩
      obtain ⟨e, he, hb, hk⟩ := op_key hr hl o ho
      exact ⟨o.op.key, by rw [← hk]; exact hm e he hb, by rw [decide_eq_true_eq, h3]; exact of_decide_eq_true h1⟩
    · rintro ⟨k, hk, h1⟩
      rw [decide_eq_true_eq, h3] at h1
      obtain ⟨o, ho⟩ : ∃ o, o ∈ byKey l k := by
        cases hb : byKey l k with
        | nil => rw [hb] at h1; simp at h1
        | cons o _ => exact ⟨o, List.mem_cons_self⟩
      obtain ⟨a, b⟩ := hin k o ho
      exact ⟨o, a, by rw [decide_eq_true_eq, b]; exact h1⟩
  have h0 : checkOf h = if l.any fun o => decide (14 < (byKey l o.op.key).length) then (false, 3) else (l.all fun o => couldB (byKey l o.op.key), 0) := by
    unfold checkOf
    rw [hof]
  rw [h0, hany]
  split
  · rfl
  · next hno =>
    congr 1
    have hsm : ∀ k ∈ keys, ¬ 14 < (byKey l k).length := fun k hk h1 => hno (List.any_eq_true.2 ⟨k, hk, by rw [decide_eq_true_eq, h3]; exact h1⟩)
    rw [Bool.eq_iff_iff, List.all_eq_true, List.all_eq_true]
    constructor
    · intro ha k hk
      rw [check_part hr hl, if_neg (hsm k hk)]
      cases hb : byKey l k with
      | nil => rfl
      | cons o t =>
        have ho : o ∈ byKey l k := by rw [hb]; exact List.mem_cons_self
        obtain ⟨a, b⟩ := hin k o ho
        have := ha o a
        rw [b, hb] at this
        exact this
    · intro ha o ho
      obtain ⟨e, he, hb, hk⟩ := op_key hr hl o ho
      have hmk : o.op.key ∈ keys := by rw [← hk]; exact hm e he hb
      have := ha _ hmk
      rw [check_part hr hl, if_neg (hsm _ hmk)] at this
      exact this
end
end Go.Proofs.Ytajbagdgjbihjaa
