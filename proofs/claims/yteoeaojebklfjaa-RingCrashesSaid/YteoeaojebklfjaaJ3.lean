/- Rings on a disk that nobody crashes: steps. Open, where it refuses. -/
import Derived.Test.YteoeaojebklfjaaJ1
namespace Go.Proofs.Yteoeaojebklfjaa
open Go.RowKit Go.Maps
set_option linter.unusedVariables false

theorem open_nil (f c b : Int) (w : World) : Calls Try.prog 38 #[.pointer none, .int .i64 f, .int .i64 c, .int .i64 b] w fun e w' => e = .returned (.tuple #[.pointer none, .slice none 0 0, .int .i64 2]) ∧ w = w' := by
  go_enter Try.func38, Try.ntmps38
  go_wp2_with fail
  go_ret3
  exact ⟨rfl, rfl⟩
theorem append_nil (a : Option Addr) (n c : Nat) (w : World) : Calls Try.prog 40 #[.pointer none, .slice a n c] w fun e w' => e = .returned (.int .i64 2) ∧ w = w' := by
  have hc := ralive_nil w
  go_enter Try.func40, Try.ntmps40
  go_wp2_with fail
  refine hc.mono ?_
  rintro r w1 ⟨rfl, e⟩
  obtain rfl := e.symm
  clear hc
  go_wp2_with fail
  go_ret
  exact ⟨rfl, rfl⟩
/-- what Open refuses -/
def OpenBad (ln f c b : Int) : Prop := f < 0 ∨ c < 1 ∨ ln < c ∨ ln - c < f ∨ b < 0 ∨ 4611686018427387904 < b
set_option maxRecDepth 20000 in
theorem open_bad {w : World} {D : Nat} {F : Nat → Prop} {d : Dk} (hd : DiskAt w D F d) (f c b : Int) (h : OpenBad (d.lasts.length : Int) f c b) : Calls Try.prog 38 #[.pointer (some ⟨D, 0, none⟩), .int .i64 f, .int .i64 c, .int .i64 b] w fun e w' => e = .returned (.tuple #[.pointer none, .slice none 0 0, .int .i64 1]) ∧ w = w' := by
  have hmany := hd.ok.many
  have HLN := Lib.hid (len_any hd)
  obtain ⟨ln, hln⟩ : ∃ ln, ln = d.lasts.length := ⟨_, rfl⟩
  rw [← hln] at h hmany HLN
  unfold OpenBad at h
  have HH := Lib.hid h
  clear h hd hln
  by_cases h1 : f < 0
  · have d1 : decide (f < 0) = true := by simpa using h1
    clear h1 hmany
    go_enter Try.func38, Try.ntmps38
    go_wp2_with fail
    refine HLN.out.mono ?_
    rintro e w1 ⟨rfl, e⟩
    obtain rfl := e.symm
    go_wp2_with fail
    go_ret3
    exact ⟨rfl, rfl⟩
  have d1 : decide (f < 0) = false := by simpa using h1
  by_cases h2 : c < 1
  · have d2 : decide (c < 1) = true := by simpa using h2
    clear h1 h2 hmany
    go_enter Try.func38, Try.ntmps38
    go_wp2_with fail
    refine HLN.out.mono ?_
    rintro e w1 ⟨rfl, e⟩
    obtain rfl := e.symm
    go_wp2_with fail
    go_ret3
    exact ⟨rfl, rfl⟩
  have d2 : decide (c < 1) = false := by simpa using h2
  by_cases h3 : (ln : Int) < c
  · have d3 : decide ((ln : Int) < c) = true := by simpa using h3
    clear h1 h2 h3 hmany
    go_enter Try.func38, Try.ntmps38
    go_wp2_with fail
    refine HLN.out.mono ?_
    rintro e w1 ⟨rfl, e⟩
    obtain rfl := e.symm
    go_wp2_with fail
    go_ret3
    exact ⟨rfl, rfl⟩
  have d3 : decide ((ln : Int) < c) = false := by simpa using h3
  obtain ⟨m, hm⟩ : ∃ m : Int, (ln : Int) - c = m := ⟨_, rfl⟩
  have HW := Lib.hid (show wrap64 m = m from IntWalk.wrap64_in _ (by omega))
  by_cases h4 : m < f
  · have d4 : decide (m < f) = true := by simpa using h4
    clear h1 h2 h3 h4 hmany
    have a2 := HW.out
    go_enter Try.func38, Try.ntmps38
    go_wp2_with fail
    refine HLN.out.mono ?_
    rintro e w1 ⟨rfl, e⟩
    obtain rfl := e.symm
    go_wp2_with fail
    go_ret3
    exact ⟨rfl, rfl⟩
  have d4 : decide (m < f) = false := by simpa using h4
  by_cases h5 : b < 0
  · have d5 : decide (b < 0) = true := by simpa using h5
    clear h1 h2 h3 h4 h5 hmany
    have a2 := HW.out
    go_enter Try.func38, Try.ntmps38
    go_wp2_with fail
    refine HLN.out.mono ?_
    rintro e w1 ⟨rfl, e⟩
    obtain rfl := e.symm
    go_wp2_with fail
    go_ret3
    exact ⟨rfl, rfl⟩
  have d5 : decide (b < 0) = false := by simpa using h5
  have h6 : 4611686018427387904 < b := by
    have := HH.out
    omega
  have d6 : decide (4611686018427387904 < b) = true := by simpa using h6
  clear h1 h2 h3 h4 h5 h6 hmany
  have a2 := HW.out
  go_enter Try.func38, Try.ntmps38
  go_wp2_with fail
  refine HLN.out.mono ?_
  rintro e w1 ⟨rfl, e⟩
  obtain rfl := e.symm
  go_wp2_with fail
  go_ret3
  exact ⟨rfl, rfl⟩

/-- a ring on a disk that nobody crashes, both newer than a world -/
structure Rk (w0 w : World) (R D : Nat) (F : Nat → Prop) (r : Rg) (d : Dk) (len n : Nat) : Prop where
  ring : RingAt w R D r
  dsk : Dsk w0 w D F d
  calm : d.Calm len n
  ok : r.Ok
  new : w0.heap.size ≤ R
  apart : ¬ F R
  fit : r.first + r.count ≤ len

theorem puts_live {len : Nat} (pl : Nat → Nat) : ∀ (ps : List Pc) (d : Dk) (n : Nat), d.Calm len n → ∃ d', Dk.puts pl ps d = (d', true) ∧ d'.Calm len (n + ps.length)
  | [], d, n, h => ⟨d, rfl, h⟩
  | p :: ps, d, n, h => by
    obtain ⟨d', h1, h2⟩ := puts_live pl ps _ _ (h.write (pl p.n) p.lay).2
    refine ⟨d', ?_, ?_⟩
    · unfold Dk.puts
      rw [h.due]
      exact h1
    · rw [List.length_cons, show n + (ps.length + 1) = n + 1 + ps.length by omega]
      exact h2
/-- what an append does: refused or not -/
theorem app_refused {r : Rg} {d : Dk} {rec : Rec} {code : Int} (h : refuse r (cutN rec.length) = some code) : appR r d rec = (code, r, d) := by
  unfold refuse at h
  unfold appR
  split at h
  · rename_i g
    injection h with h
    rw [if_pos g, h]
  rename_i g
  rw [if_neg g]
  split at h
  · rename_i g
    injection h with h
    rw [if_pos g, h]
  rename_i g
  rw [if_neg g]
  split at h
  · rename_i g
    injection h with h
    rw [if_pos g, h]
  rename_i g
  rw [if_neg g]
  split at h
  · rename_i g
    injection h with h
    rw [if_pos g, h]
  · cases h
theorem app_free {r : Rg} {d d' : Dk} {rec : Rec} (h : refuse r (cutN rec.length) = none) (hd : Dk.puts r.place (cutR r.last rec) d = (d', true)) : appR r d rec = (0, { r with last := r.last + cutN rec.length, top := r.last + cutN rec.length }, d') := by
  unfold refuse at h
  unfold appR
  split at h
  · cases h
  rename_i g
  rw [if_neg g]
  split at h
  · cases h
  rename_i g
  rw [if_neg g]
  split at h
  · cases h
  rename_i g
  rw [if_neg g]
  split at h
  · cases h
  rename_i g
  rw [if_neg g, hd]
theorem refuse_room {r : Rg} {m : Nat} (ok : r.Ok) (h : refuse r m = none) : m ≤ r.count ∧ r.last = r.top ∧ m ≤ r.count - (r.last - r.base) ∧ r.last + m ≤ 4611686018427387904 := by
  have h1 := ok.lt
  unfold refuse at h
  split at h
  · cases h
  split at h
  · cases h
  rename_i g1 g2
  split at h
  · cases h
  rename_i g3
  split at h
  · cases h
  unfold Rg.room at g3
  rw [if_neg g2] at g3
  exact ⟨by omega, by omega, by omega, by omega⟩
theorem grown_ok {r : Rg} {m : Nat} (ok : r.Ok) (h : refuse r m = none) : ({ r with last := r.last + m, top := r.last + m } : Rg).Ok := by
  obtain ⟨h1, h2, h3, h4⟩ := refuse_room ok h
  have h5 := ok.bl
  have h6 := ok.room
  exact ⟨ok.count, ok.small, by show r.base ≤ r.last + m; omega, Nat.le_refl _, by show r.last + m ≤ r.base + r.count; omega, h4⟩

section
variable {w0 w w' : World} {R D : Nat} {F : Nat → Prop} {r : Rg} {d : Dk} {len n : Nat}
theorem Rk.only (h : Rk w0 w R D F r d len n) (o : Only None' w w') : Rk w0 w' R D F r d len n := ⟨h.ring.kept o fun e => e, h.dsk.new o, h.calm, h.ok, h.new, h.apart, h.fit⟩
theorem Rk.few {m : Nat} (h : Rk w0 w R D F r d len n) (hm : n ≤ m) : Rk w0 w R D F r d len m := ⟨h.ring, h.dsk, ⟨h.calm.dead, h.calm.set, h.calm.len, h.calm.few.mono hm⟩, h.ok, h.new, h.apart, h.fit⟩
theorem Rk.aside {S : Nat → Prop} (h : Rk w0 w R D F r d len n) (o : Only S w w') (hS : ∀ k, S k → w0.heap.size ≤ k ∧ k ≠ R ∧ ¬ F k) : Rk w0 w' R D F r d len n :=
  ⟨h.ring.kept o fun e => (hS R e).2.1 rfl, ⟨h.dsk.at_.only o fun k hk e => (hS k e).2.2 hk, h.dsk.fresh, h.dsk.only.cons_new o fun k hk => (hS k hk).1⟩, h.calm, h.ok, h.new, h.apart, h.fit⟩
theorem Rk.append (h : Rk w0 w R D F r d len n) (hn : n ≤ 800000) {g off c m : Nat} {rec : Rec} (hm : rec.length = m) (hr : Rd w 1 (.slice (some ⟨g, off, none⟩) m c) rec.length (bv rec)) (hc : m ≤ c) (hcm : c ≤ maxLen) (hgF : ¬ F g) (hgl : g < w.heap.size) (hgR : g ≠ R) (hb : m ≤ 140737488355328)
    {code : Int} {r' : Rg} {d' : Dk} (ha : appR r d rec = (code, r', d')) :
    Calls Try.prog 40 #[.pointer (some ⟨R, 0, none⟩), .slice (some ⟨g, off, none⟩) m c] w fun e w' => e = .returned (.int .i64 code) ∧ ∃ F', Rk w0 w' R D F' r' d' len (n + 65536) ∧ Kept (fun k => F k ∨ k = R) (fun k => F' k ∨ k = R) w w' := by
  subst hm
  cases hf : refuse r (cutN rec.length) with
  | some cd =>
    rw [app_refused hf] at ha
    injection ha with h1 h2
    injection h2 with h2 h3
    subst h1 h2 h3
    refine (append_no h.ring h.ok h.dsk.at_ h.calm.dead _ _ _ hb hf).mono ?_
    rintro e w' ⟨rfl, q, rfl⟩
    exact ⟨rfl, F, (h.only ((Only.refl None' w).drewN q)).few (by omega), Kept.new ((Only.refl None' w).drewN q)⟩
  | none =>
    obtain ⟨d2, hd1, hd2⟩ := puts_live r.place (cutR r.last rec) d n h.calm
    have hap := app_free hf hd1
    have hcut := (refuse_room h.ok hf).1
    refine (append_go h.ring h.ok h.dsk.at_ h.calm.dead (by rw [h.calm.len]; exact h.fit) h.calm.few (by omega) h.apart hr hc hcm hgF hgl hgR hb hf).mono ?_
    rintro e w' ⟨rfl, F', hR', hD', hnR, hk⟩
    rw [hap] at hR' hD' ⊢
    rw [hap] at ha
    injection ha with h1 h2
    injection h2 with h2 h3
    subst h1 h2 h3
    refine ⟨rfl, F', ⟨hR', ⟨hD', fun k hk' => ?_, ?_⟩, ⟨hd2.dead, hd2.set, hd2.len, hd2.few.mono ?_⟩, grown_ok h.ok hf, h.new, hnR, h.fit⟩, hk⟩
    · rcases hk.fresh k (Or.inl hk') with (h1 | h1) | h1
      · exact h.dsk.fresh k h1
      · rw [h1]; exact h.new
      · exact Nat.le_trans h.dsk.only.size h1
    · exact h.dsk.only.cons_new hk.only fun i hi => hi.elim (h.dsk.fresh i) fun e => e ▸ h.new
    · rw [cutR_length]
      have := h.ok.small
      omega
theorem rk_open (hd : Dsk w0 w D F d) (hc : d.Calm len n) (hn : n ≤ 900000) {first count base : Nat} (h1 : 1 ≤ count) (h2 : first + count ≤ len) (h3 : base ≤ 4611686018427387904) {f c b : Int} (hf : (first : Int) = f) (hcc : (count : Int) = c) (hb : (base : Int) = b) {r : Rg} (hr : Rg.opened first count base (gAt first d) = r) {rs : List Rec} (hrs : (runG count (gAt first d) count base [] [] base).1 = rs) {m : Nat} (hm : rs.length = m) :
    Calls Try.prog 38 #[.pointer (some ⟨D, 0, none⟩), .int .i64 f, .int .i64 c, .int .i64 b] w fun e w' => ∃ R a k, e = .returned (.tuple #[.pointer (some ⟨R, 0, none⟩), .slice a m k, .int .i64 0]) ∧ w.heap.size ≤ R ∧
      Rk w0 w' R D F r d len n ∧ Recs w' (fun k => w.heap.size ≤ k ∧ k ≠ R) (.slice a m k) rs ∧ Only None' w w' := by
  subst hf hcc hb hr hrs hm
  have hlen := hd.at_.ok.many
  rw [hc.len] at hlen
  refine (ropen_any (first := first) (count := count) (base := base) hd.at_ hc.dead (Nat.le_trans hc.few.waits (by omega)) h1 (by rw [hc.len]; exact h2) h3).mono ?_
  rintro e w' ⟨R, v, rfl, hR, hr, hrec, ho⟩
  obtain ⟨a, k, rfl⟩ := hrec.shape
  exact ⟨R, a, k, rfl, hR, ⟨hr, hd.new ho, hc, Rg.opened_ok h1 (by omega) h3, Nat.le_trans hd.only.size hR, fun hF => by have := hd.at_.lt hF; omega, h2⟩, hrec, ho⟩
theorem Rk.room_ (h : Rk w0 w R D F r d len n) {m : Int} (hm : (r.room : Int) = m) : Calls Try.prog 39 #[.pointer (some ⟨R, 0, none⟩)] w fun e w' => e = .returned (.int .i64 m) ∧ Only None' w w' := by
  subst hm
  refine (room_any h.ring h.ok).mono ?_
  rintro e w' ⟨rfl, q, rfl⟩
  exact ⟨rfl, (Only.refl _ _).drewN q⟩
end
/-- a ring in which there is nothing -/
theorem opened_none {first count base : Nat} {g : Nat → Sec} (hc : 1 ≤ count) (hz : ∀ i, i < count → seeG count g i = none) : Rg.opened first count base g = ⟨first, count, base, base, base⟩ ∧ (runG count g count base [] [] base).1 = [] := by
  have H : Holds count g base [] := Holds.none_at hz
  have h1 := told_none H hc
  have h2 := H.top hc
  refine ⟨?_, by rw [h1]⟩
  unfold Rg.opened
  rw [h1, h2]
  rfl
theorem see_zero {count : Nat} {g : Nat → Sec} {i : Nat} (h : g i = List.replicate 512 0) : seeG count g i = none := by
  unfold seeG
  rw [h, pieceOf_zs]
theorem new_read {len i : Nat} (h : i < len) : (Dk.new len).read i = List.replicate 512 0 := by
  unfold Dk.read Dk.new
  simp only [lastIx]
  rw [List.getD_eq_getElem?_getD, List.getElem?_replicate, if_pos h]
  rfl
end Go.Proofs.Yteoeaojebklfjaa
