/- Shut, Unshut, Give. -/
import Derived.Test.YtfjfpnlcmjpofaaS3
namespace Go.Proofs.Ytfjfpnlcmjpofaa
open Go.RowKit Go.Maps
set_option linter.unusedVariables false

theorem wrap_small {a : Int} (h0 : -9223372036854775808 ≤ a) (h1 : a ≤ 9223372036854775807) : IntKind.i64.wrap a = a := by
  simp only [IntKind.wrap, IntKind.bits, IntKind.signed]
  simp
  omega
def Tb.shutted (t : Tb) (k : List UInt8) : Tb := ⟨t.life, t.hold, t.start, t.given, t.ls, if k ∈ t.shut then t.shut else t.shut ++ [k], t.cnt + 1⟩
def Tb.unshut (t : Tb) (k : List UInt8) : Tb := ⟨t.life, t.hold, t.start, t.given, t.ls, t.shut.filter (fun x => decide (x ≠ k)), t.cnt⟩
theorem mem_shutted (t : Tb) (k x : List UInt8) : x ∈ (t.shutted k).shut ↔ x ∈ t.shut ∨ x = k := by
  unfold Tb.shutted
  simp only
  split
  · rename_i h
    constructor
    · exact Or.inl
    · rintro (h1 | rfl)
      · exact h1
      · exact h
  · simp
theorem mem_unshut (t : Tb) (k x : List UInt8) : x ∈ (t.unshut k).shut ↔ x ∈ t.shut ∧ x ≠ k := by
  unfold Tb.unshut
  simp
theorem ok_same {t u : Tb} (h : t.Ok) (e1 : u.life = t.life) (e2 : u.hold = t.hold) (e3 : u.start = t.start) (e4 : u.given = t.given) (e5 : u.ls = t.ls) : u.Ok := by
  obtain ⟨a, b, c, d, e, f, g, h1, h2, h3⟩ := h
  refine ⟨by rw [e1]; exact a, by rw [e1]; exact b, by rw [e4]; exact c, by rw [e2]; exact d, by rw [e2]; exact e, by rw [e3]; exact f, by rw [e3]; exact g, by rw [e5]; exact h1, ?_, by rw [e5, e4]; exact h3⟩
  rw [e5]
  unfold Tb.top at *
  rw [e1, e4]
  exact h2
section
variable {w w' : World} {B M N : Nat} {t : Tb} {S : Nat → Prop}
theorem shut_any (h : TabAt w B M N t) (key : ByteArray) (hk : key.size ≤ 140737488355328) (hc : t.cnt ≤ 1000000) : Calls Try.prog 15 #[.pointer (some ⟨B, 0, none⟩), .string key] w fun e w' => e = .returned (.tuple #[]) ∧ TabAt w' B M N (t.shutted key.data.toList) ∧ Only (fun k => k = N) w w' := by
  have c5 := h.cells.is 5 _ rfl
  have H := Lib.hid h
  obtain ⟨n, D, hn, hD, hat⟩ := h.shut
  have HD := Lib.hid (And.intro hn (And.intro hD hat))
  have HC := Lib.hid (And.intro hc hk)
  clear h hn hD hat hc hk
  go_enter Try.func15, Try.ntmps15
  go_wp2_with (first | (at_mapUpdate; go_loud (refine wpList_mapUpdate_in _ rfl _ _ _ 60 rfl 9 4 keyed9 under60 (plainElem Try.prog 4) N n D rfl HD.out.2.1 (by have h1 := HD.out.1; have h2 := HC.out.1; unfold maxLen; omega) (.string key) (.bool true) (.string key.data.toList) rfl rfl (key_str HC.out.2) (.lit (.bool true)) [] (plainElem_bool Try.underlying4 true) ?_); intro w4 ho4 ht4; have HO4 := Lib.hid ho4; have O4 : Hid (Only (fun q => q = N) w w4) := Lib.hid ((Only.refl _ _).turned ht4 rfl); clear ho4 ht4))
  go_end0
  have A := H.out.apart
  obtain ⟨E, g1, g2⟩ := H.out.map
  refine ⟨rfl, ⟨H.out.cells.kept O4.out (by omega), ⟨E, g1, owns_same g2 (O4.out.block M H.out.lt.1 (by omega))⟩, ⟨n + 1, _, by have := HD.out.1; show n + 1 ≤ t.cnt + 1; omega, HO4.out, fun x => ?_⟩, A, ⟨Nat.lt_of_lt_of_le H.out.lt.1 O4.out.size, Nat.lt_of_lt_of_le H.out.lt.2 O4.out.size⟩, ok_same H.out.ok rfl rfl rfl rfl rfl⟩, O4.out⟩
  by_cases e : x = key.data.toList
  · subst e
    rw [Maps.atKey_put_same HD.out.2.1.isMap (by trivial)]
    rw [decide_eq_true ((mem_shutted t _ _).2 (Or.inr rfl))]
  · rw [Maps.atKey_put_other (fun e' => e (by injection e')), HD.out.2.2]
    congr 3
    rw [eq_iff_iff, mem_shutted]
    simp [e]
theorem shut_nil (key : ByteArray) (w : World) : Calls Try.prog 15 #[.pointer none, .string key] w fun e w' => e = .returned (.tuple #[]) ∧ w = w' := by
  go_enter Try.func15, Try.ntmps15
  go_wp2_with fail
  go_end0
  exact ⟨rfl, rfl⟩
theorem unshut_any (h : TabAt w B M N t) (key : ByteArray) (hk : key.size ≤ 140737488355328) : Calls Try.prog 17 #[.pointer (some ⟨B, 0, none⟩), .string key] w fun e w' => e = .returned (.tuple #[]) ∧ TabAt w' B M N (t.unshut key.data.toList) ∧ Only (fun k => k = N) w w' := by
  have c5 := h.cells.is 5 _ rfl
  have H := Lib.hid h
  obtain ⟨n, D, hn, hD, hat⟩ := h.shut
  have HD := Lib.hid (And.intro hn (And.intro hD hat))
  have HC := Lib.hid hk
  clear h hn hD hat hk
  go_enter Try.func17, Try.ntmps17
  go_wp2_with (first | (at_delete; refine wpList_delete_own _ rfl _ _ 60 9 rfl 4 keyed9 under60 (plainElem Try.prog 4) N n D rfl HD.out.2.1 (.string key) _ rfl (key_str HC.out) ?_; intro w4 ho4 ht4; have HO4 := Lib.hid ho4; have O4 : Hid (Only (fun q => q = N) w w4) := Lib.hid ((Only.refl _ _).turned ht4 rfl); clear ho4 ht4))
  go_end0
  have A := H.out.apart
  obtain ⟨E, g1, g2⟩ := H.out.map
  refine ⟨rfl, ⟨H.out.cells.kept O4.out (by omega), ⟨E, g1, owns_same g2 (O4.out.block M H.out.lt.1 (by omega))⟩, ⟨n, _, HD.out.1, HO4.out, fun x => ?_⟩, A, ⟨Nat.lt_of_lt_of_le H.out.lt.1 O4.out.size, Nat.lt_of_lt_of_le H.out.lt.2 O4.out.size⟩, ok_same H.out.ok rfl rfl rfl rfl rfl⟩, O4.out⟩
  by_cases e : x = key.data.toList
  · subst e
    rw [Maps.atKey_del_same]
    rw [decide_eq_false (fun h => ((mem_unshut t _ _).1 h).2 rfl)]
  · rw [Maps.atKey_del_other (fun e' => e (by injection e')), HD.out.2.2]
    congr 3
    rw [eq_iff_iff, mem_unshut]
    simp [e]
theorem unshut_nil (key : ByteArray) (w : World) : Calls Try.prog 17 #[.pointer none, .string key] w fun e w' => e = .returned (.tuple #[]) ∧ w = w' := by
  go_enter Try.func17, Try.ntmps17
  go_wp2_with fail
  go_end0
  exact ⟨rfl, rfl⟩
/-! ### Give -/
def Tb.giveCode (t : Tb) (key : List UInt8) (now : Int) : Int := if clockB now = false then 1 else if key ∈ t.shut then 61 else if t.given = 1048575 ∨ clockB (now + t.hold) = false then 70 else 0
def Tb.new (t : Tb) (key : ByteArray) (cache now : Int) : Ls := ⟨key, cache, ((t.life * 1048576 + t.given + 1 : Nat) : Int), now + t.hold⟩
def Tb.gave (t : Tb) (key : ByteArray) (cache now : Int) : Tb := ⟨t.life, t.hold, t.start, t.given + 1, give t.ls (t.new key cache now), t.shut, t.cnt⟩
theorem give_len (ls : List Ls) (x : Ls) : (give ls x).length ≤ ls.length + 1 := by
  unfold give
  rw [List.length_append, List.length_singleton]
  have := List.length_filter_le (fun y => !at_ x.key x.cache y) ls
  omega
theorem Tb.code0 {t : Tb} {key : List UInt8} {now : Int} (h : t.giveCode key now = 0) : clockB now = true ∧ key ∉ t.shut ∧ t.given ≠ 1048575 ∧ clockB (now + t.hold) = true := by
  unfold Tb.giveCode at h
  split at h
  · cases h
  split at h
  · cases h
  split at h
  · cases h
  rename_i h1 h2 h3
  exact ⟨by simpa using h1, h2, fun e => h3 (Or.inl e), by cases e : clockB (now + t.hold); exact absurd (Or.inr e) h3; rfl⟩
theorem Tb.Ok.gave {t : Tb} (h : t.Ok) {key : ByteArray} {cache now : Int} (hf : Fine key cache) (hc : t.giveCode key.data.toList now = 0) : (t.gave key cache now).Ok := by
  obtain ⟨h1, h2, h3, h4⟩ := t.code0 hc
  unfold clockB at h4
  simp only [Bool.and_eq_true, decide_eq_true_eq] at h4
  have g := h.g
  refine ⟨h.l1, h.l2, by show t.given + 1 ≤ _; omega, h.h1, h.h2, h.s1, h.s2, h.good.give hf fun y hy => ?_, fun x hx => ?_, ?_⟩
  · have := (h.num y hy).2.1
    unfold Tb.top at this
    show y.num < ((t.life * 1048576 + t.given + 1 : Nat) : Int)
    omega
  · show ((t.life * 1048576 : Nat) : Int) < x.num ∧ x.num ≤ ((t.life * 1048576 + (t.given + 1) : Nat) : Int) ∧ 0 ≤ x.fin ∧ x.fin ≤ 2147483647
    rcases List.mem_append.1 hx with hx | hx
    · have := h.num x (List.mem_filter.1 hx).1
      unfold Tb.top at this
      omega
    · simp at hx
      subst hx
      unfold Tb.new
      simp only
      omega
  · have := give_len t.ls (t.new key cache now)
    have := h.few
    show (give t.ls (t.new key cache now)).length ≤ t.given + 1
    omega
theorem give_nil (key : ByteArray) (cache now : Int) (w : World) : Calls Try.prog 10 #[.pointer none, .string key, .int .i64 cache, .int .i64 now] w fun e w' => e = .returned (.tuple #[.int .i64 0, .int .i64 2]) ∧ w = w' := by
  go_enter Try.func10, Try.ntmps10
  go_wp2_with fail
  go_ret2
  exact ⟨rfl, rfl⟩
set_option maxHeartbeats 1000000 in
theorem give_no (h : TabAt w B M N t) (key : ByteArray) (hk : key.size ≤ 140737488355328) (cache now : Int) {code : Int} (hc : t.giveCode key.data.toList now = code) (h0 : code ≠ 0) : Calls Try.prog 10 #[.pointer (some ⟨B, 0, none⟩), .string key, .int .i64 cache, .int .i64 now] w fun e w' => e = .returned (.tuple #[.int .i64 0, .int .i64 code]) ∧ ∃ q, w' = w.drewN q := by
  have hl := h.look hk
  have HC := Lib.hid (fun n w => clock_any n w)
  have c0 := h.cells.is 0 _ rfl
  have c2 := h.cells.is 2 _ rfl
  have c3 := h.cells.is 3 _ rfl
  have c5 := h.cells.is 5 _ rfl
  obtain ⟨hd, hhd⟩ : ∃ a, a = t.hold := ⟨_, rfl⟩
  obtain ⟨tp, htp⟩ : ∃ a : Int, a = (t.top : Int) := ⟨_, rfl⟩
  obtain ⟨fn, hfn⟩ : ∃ a : Int, a = (t.fin : Int) := ⟨_, rfl⟩
  obtain ⟨sh, hsh⟩ : ∃ a, a = decide (key.data.toList ∈ t.shut) := ⟨_, rfl⟩
  have HT : Hid ((tp == fn) = decide (t.given = 1048575)) := Lib.hid (by
    rw [Bool.eq_iff_iff, beq_iff_eq, decide_eq_true_eq, htp, hfn]
    unfold Tb.top Tb.fin
    omega)
  have r1 := h.ok.h1
  have r2 := h.ok.h2
  rw [← hhd] at c0 r1 r2
  rw [← htp] at c2
  rw [← hfn] at c3
  rw [← hsh] at hl
  unfold Tb.giveCode at hc
  rw [← hhd] at hc
  obtain ⟨cb, hcb⟩ : ∃ a, a = clockB now := ⟨_, rfl⟩
  have HC1 : Hid (∀ w, Calls Try.prog 27 #[.int .i64 now] w fun e w' => e = .returned (.bool cb) ∧ w = w') := Lib.hid (fun w => by rw [hcb]; exact clock_any now w)
  cases cb with
  | false =>
    rw [if_pos hcb.symm] at hc
    subst hc
    clear h h0 hcb hsh htp hfn hhd HT HC hl r1 r2
    go_enter Try.func10, Try.ntmps10
    go_wp2_with (go_at_call 27; refine (HC1.out _).mono ?_; rintro e w' ⟨rfl, rfl⟩)
    go_ret2
    exact ⟨rfl, 0, rfl⟩
  | true =>
    rw [if_neg (by rw [← hcb]; decide)] at hc
    cases sh with
    | true =>
      rw [if_pos (of_decide_eq_true hsh.symm)] at hc
      subst hc
      clear h h0 hcb hsh htp hfn hhd HT HC r1 r2
      go_enter Try.func10, Try.ntmps10
      go_wp2_with (go_at_call 27; refine (HC1.out _).mono ?_; rintro e w' ⟨rfl, rfl⟩)
      go_ret2
      exact ⟨rfl, 0, rfl⟩
    | false =>
      rw [if_neg (of_decide_eq_false hsh.symm)] at hc
      have hcl : 0 ≤ now ∧ now ≤ 2147483647 := by
        unfold clockB at hcb
        have := hcb.symm
        simpa using this
      obtain ⟨n1, n2⟩ := hcl
      by_cases hg : t.given = 1048575
      · rw [if_pos (Or.inl hg)] at hc
        subst hc
        have d1 : (tp == fn) = true := by rw [HT.out]; simpa using hg
        clear h h0 hcb hsh htp hfn hhd HT HC hg
        go_enter Try.func10, Try.ntmps10
        go_wp2_with (go_at_call 27; refine (HC1.out _).mono ?_; rintro e w' ⟨rfl, rfl⟩)
        go_quiet (fail)
        go_wp2_with fail
        go_ret2
        exact ⟨rfl, _, rfl⟩
      · have d1 : (tp == fn) = false := by rw [HT.out]; simpa using hg
        by_cases hcl : clockB (now + hd) = false
        · rw [if_pos (Or.inr hcl)] at hc
          subst hc
          have HC2 : Hid (∀ w, Calls Try.prog 27 #[.int .i64 (now + hd)] w fun e w' => e = .returned (.bool false) ∧ w' = w) := Lib.hid (fun w => by rw [← hcl]; exact (clock_any _ w).mono fun e w' h => ⟨h.1, h.2.symm⟩)
          clear h h0 hcb hsh htp hfn hhd HT HC hg hcl
          go_enter Try.func10, Try.ntmps10
          go_wp2_with (go_at_call 27; refine (HC1.out _).mono ?_; rintro e w' ⟨rfl, rfl⟩)
          go_quiet ((go_at_call 27; exact Calls.quiet_of_same (HC2.out _)))
          go_wp2_with fail
          go_ret2
          exact ⟨rfl, _, rfl⟩
        · rw [if_neg (fun e => e.elim hg hcl)] at hc
          exact absurd hc.symm h0
set_option maxRecDepth 20000 in
set_option maxHeartbeats 1000000 in
theorem give_go (h : TabAt w B M N t) (key : ByteArray) (cache now : Int) (hf : Fine key cache) (hc : t.giveCode key.data.toList now = 0) : Calls Try.prog 10 #[.pointer (some ⟨B, 0, none⟩), .string key, .int .i64 cache, .int .i64 now] w fun e w' => e = .returned (.tuple #[.int .i64 ((t.top + 1 : Nat) : Int), .int .i64 0]) ∧ TabAt w' B M N (t.gave key cache now) ∧ Only (fun k => k = B ∨ k = M) w w' := by
  obtain ⟨h1, h2, h3, h4⟩ := t.code0 hc
  have hl := h.look hf.1
  rw [decide_eq_false h2] at hl
  have OK := Lib.hid (h.ok.gave hf hc)
  have H := Lib.hid h
  have HF := Lib.hid hf
  obtain ⟨D, hR, hD⟩ := h.map
  have HD := Lib.hid (And.intro hR hD)
  have HC1 : Hid (∀ w, Calls Try.prog 27 #[.int .i64 now] w fun e w' => e = .returned (.bool true) ∧ w = w') := Lib.hid (fun w => by rw [← h1]; exact clock_any now w)
  have HC2 : Hid (∀ w, Calls Try.prog 27 #[.int .i64 (now + t.hold)] w fun e w' => e = .returned (.bool true) ∧ w' = w) := Lib.hid (fun w => by rw [← h4]; exact (clock_any _ w).mono fun e w' h => ⟨h.1, h.2.symm⟩)
  have hcl : 0 ≤ now ∧ now ≤ 2147483647 := by
    unfold clockB at h1
    simpa using h1
  obtain ⟨n1, n2⟩ := hcl
  have r1 := h.ok.h1
  have r2 := h.ok.h2
  have c0 := h.cells.is 0 _ rfl
  have c2 := h.cells.is 2 _ rfl
  have c3 := h.cells.is 3 _ rfl
  have c4 := h.cells.is 4 _ rfl
  have c5 := h.cells.is 5 _ rfl
  have f2 := h.cells.thaw 2
  have lB := h.cells.lt
  have g1 := h.ok.g
  have g2 := h.ok.l2
  obtain ⟨hd, hhd⟩ : ∃ a, a = t.hold := ⟨_, rfl⟩
  obtain ⟨tp, htp⟩ : ∃ a, a = t.top := ⟨_, rfl⟩
  obtain ⟨fn, hfn⟩ : ∃ a, a = t.fin := ⟨_, rfl⟩
  have t0 : (0 : Int) ≤ (tp : Int) := by omega
  have t1 : (tp : Int) ≤ 3000000000 := by rw [htp]; unfold Tb.top; omega
  have d1 : ((tp : Int) == (fn : Int)) = false := by
    rw [beq_eq_false_iff_ne, htp, hfn]
    unfold Tb.top Tb.fin
    omega
  have d2 : (tp == fn) = false := by
    rw [beq_eq_false_iff_ne, htp, hfn]
    unfold Tb.top Tb.fin
    omega
  have HWR : Hid (IntKind.i64.wrap (now + hd) = now + hd) := Lib.hid (wrap_small (by omega) (by omega))
  have HH := Lib.hid hhd
  have HT := Lib.hid htp
  have HFN := Lib.hid hfn
  rw [← hhd] at c0 r1 r2 HC2
  rw [← htp] at c2 ⊢
  rw [← hfn] at c3
  clear h hf hR hD h1 h2 h3 h4 hc hhd htp hfn g1 g2
  go_enter Try.func10, Try.ntmps10
  go_wp2_with (go_at_call 27; refine (HC1.out _).mono ?_; rintro e w' ⟨rfl, rfl⟩)
  go_quiet ((go_at_call 27; exact Calls.quiet_of_same (HC2.out _)))
  go_upto_region 10 with fail
  obtain ⟨w1, hw1⟩ : ∃ w1, w1 = (w.drewN nq).setCell ⟨B, 2, none⟩ (.int .i64 ((tp : Int) + 1)) := ⟨_, rfl⟩
  have CB : Hid (CellsR w1 B [.int .i64 hd, .int .i64 t.start, .int .i64 ((tp : Int) + 1), .int .i64 (fn : Int), .map (some M), .map (some N)]) := Lib.hid (by
    have := (H.out.cells.kept ((Only.refl None' w).drewN nq) fun e => e).set (i := 2) (by simp) (.int .i64 ((tp : Int) + 1))
    rw [← HH.out, ← HT.out, ← HFN.out, ← hw1] at this
    exact this)
  have O1 : Hid (Only (fun k => k = B) w w1) := Lib.hid (by rw [hw1]; exact ((Only.refl (fun k => k = B) w).drewN nq).setCell (p := ⟨B, 2, none⟩) rfl _)
  have HM : Hid (w1.ownsMap Try.prog 64 lsR M t.ls.length D) := Lib.hid (owns_same HD.out.2 (O1.out.block M H.out.lt.1 fun e => H.out.apart.1 e.symm))
  have c0' := CB.out.is 0 _ rfl
  have c2' := CB.out.is 2 _ rfl
  have c4' := CB.out.is 4 _ rfl
  rw [← hw1]
  clear hw1 c0 c2 c3 c4 c5 f2 hl d1 d2
  go_still_tail 20, (by kernel_rfl)
  refine wpList_mapUpdate_in _ rfl _ _ _ 59 rfl 64 57 keyed64 under59 lsR M t.ls.length D rfl (HM.out.drew) (by have h1 := H.out.ok.few; have h2 := H.out.ok.g; unfold maxLen; omega) (plV key cache) _ (pk key cache) rfl rfl (key_pl HF.out) (Ls.mk key cache ((tp : Int) + 1) (now + hd)).d [] (by show lsR (.agg #[.string key, .int .i64 cache, .int .i64 ((tp : Int) + 1), .int .i64 (IntKind.i64.wrap (now + hd))]) = _; rw [HWR.out]; rfl) ?_
  intro w3 ho3 ht3
  have HO3 := Lib.hid ho3
  have O3 : Hid (Only (fun k => k = M) w1 w3) := Lib.hid ((Only.drew (Only.refl _ _)).turned ht3 rfl)
  have C3 := Lib.hid (CB.out.kept O3.out fun e => H.out.apart.1 e)
  have c2 := C3.out.is 2 _ rfl
  clear ho3 ht3 c0' c2' c4'
  go_wp2_with fail
  go_ret2
  have ht : tp = t.life * 1048576 + t.given := HT.out
  have e1 : ((t.gave key cache now).top : Int) = (tp : Int) + 1 := by simp only [Tb.top, Tb.gave]; omega
  have e2 : ((t.gave key cache now).fin : Int) = (fn : Int) := by rw [HFN.out]; rfl
  have e3 : t.new key cache now = ⟨key, cache, (tp : Int) + 1, now + hd⟩ := by
    unfold Tb.new
    rw [← HH.out, ht]
    rfl
  have A := H.out.apart
  obtain ⟨q, E, g1, g2, g3⟩ := H.out.shut
  have hsz := Nat.le_trans O1.out.size O3.out.size
  have hrep := HD.out.1.put H.out.ok.good.fine (x := ⟨key, cache, (tp : Int) + 1, now + hd⟩) HF.out
  refine ⟨rfl, ⟨?_, ⟨D.put (pk key cache) (Ls.mk key cache ((tp : Int) + 1) (now + hd)).d, ?_, ?_⟩, ⟨q, E, g1, owns_same (owns_same g2 (O1.out.block N H.out.lt.2 (by omega))) (O3.out.block N (Nat.lt_of_lt_of_le H.out.lt.2 O1.out.size) (by omega)), g3⟩, A, ⟨Nat.lt_of_lt_of_le H.out.lt.1 hsz, Nat.lt_of_lt_of_le H.out.lt.2 hsz⟩, OK.out⟩, (O1.out.mono fun _ _ e => Or.inl e).trans2 O3.out fun k _ e => Or.inr e⟩
  · rw [e1, e2]
    show CellsR w3 B [.int .i64 t.hold, .int .i64 t.start, _, _, _, _]
    rw [← HH.out]
    exact C3.out
  · show Rep _ (give t.ls (t.new key cache now))
    rw [e3]
    exact hrep
  · show w3.ownsMap Try.prog 64 lsR M (give t.ls (t.new key cache now)).length _
    have h5 := owns_tight HO3.out
    rw [hrep.size] at h5
    rw [e3]
    exact h5
end
end Go.Proofs.Ytfjfpnlcmjpofaa
