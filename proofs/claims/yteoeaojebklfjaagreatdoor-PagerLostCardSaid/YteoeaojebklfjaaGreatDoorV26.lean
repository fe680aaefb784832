/- S4 S5 S6 T0 in one text. -/
import Derived.Test.YteoeaojebklfjaaGreatDoorV25
namespace Go.Proofs.YteoeaojebklfjaaGreatDoor
open Go.RowKit Go.Maps
set_option linter.unusedVariables false

theorem settle_read (i : Nat) : ∀ (ws : List (Nat × Sec)) (k : Nat) (L : List Sec), (∀ p ∈ ws, p.1 < L.length) → (settle (fun _ => true) k ws L).getD i [] = match lastIx ws i with
    | some j => (ws.getD j (0, [])).2
    | none => L.getD i []
  | [], _, _, _ => rfl
  | p :: r, k, L, h => by
    have hp := h p (by simp)
    have h1 := settle_read i r (k + 1) (L.set p.1 p.2) fun q hq => by rw [List.length_set]; exact h q (by simp [hq])
    unfold settle lastIx
    simp only [if_true]
    rw [h1]
    cases lastIx r i with
    | some j => simp
    | none =>
      simp only
      by_cases e : p.1 = i
      · subst e
        rw [if_pos rfl]
        simp [List.getD_eq_getElem?_getD, List.getElem?_set_self hp]
      · rw [if_neg e]
        simp [List.getD_eq_getElem?_getD, List.getElem?_set_ne e]
theorem read_flush {d : Dk} (h : d.Ok) (hdue : d.due = false) (i : Nat) : d.flush.read i = d.read i := by
  unfold Dk.flush
  rw [hdue, if_neg (by decide)]
  have := settle_read i d.waits 0 d.lasts fun p hp => (h.waits p hp).1
  unfold Dk.read Dk.flushed Dk.settled Dk.tick
  simp only [lastIx]
  rw [this]
  cases lastIx d.waits i <;> rfl
theorem flush_waits {d : Dk} (hdue : d.due = false) : d.flush.waits = [] := by
  unfold Dk.flush
  rw [hdue, if_neg (by decide)]
  rfl
theorem flush_dk_ok {d : Dk} (h : d.Ok) (hdue : d.due = false) : d.flush.Ok := by
  unfold Dk.flush
  rw [hdue, if_neg (by decide)]
  exact Dk.settled_ok (d := d.tick) ⟨h.lasts, h.waits, h.many⟩ _
theorem write_dk_ok {d : Dk} (h : d.Ok) (hdue : d.due = false) {i : Nat} {s : Sec} (hi : i < d.lasts.length) (hs : s.length = 512) : (d.write i s).Ok := by
  unfold Dk.write
  rw [hdue, if_neg (by decide)]
  have := Dk.wrote_ok h hi hs
  exact ⟨this.lasts, this.waits, this.many⟩
theorem read_write {d : Dk} (hdue : d.due = false) (i : Nat) (s : Sec) (k : Nat) : (d.write i s).read k = if k = i then s else d.read k := by
  unfold Dk.write
  rw [hdue, if_neg (by decide), Dk.read_tick, Dk.read_wrote]
theorem layP_calm {len first : Nat} : ∀ (l : List (Nat × Sec)) (d : Dk) (n : Nat), d.Calm len n → d.Ok → (∀ q ∈ l, first + q.1 < len ∧ q.2.length = 512) → kRise l →
    ∃ d', layP first l d = (0, d') ∧ d'.Calm len (n + l.length) ∧ d'.Ok ∧ (∀ k, k < first → d'.read k = d.read k) ∧ ∀ k, d'.read (first + k) = (kLook l k).getD (d.read (first + k))
  | [], d, n, hc, ho, _, _ => ⟨d, rfl, hc, ho, fun _ _ => rfl, fun _ => by rw [kLook_nil]; rfl⟩
  | q :: l, d, n, hc, ho, hb, hr => by
    have hq := hb q (by simp)
    have hp := List.pairwise_cons.1 hr
    have h1 := (hc.write (first + q.1) q.2).2
    obtain ⟨d', e, h2, h3, h4, h5⟩ := layP_calm l (d.write (first + q.1) q.2) (n + 1) h1 (write_dk_ok ho hc.due (by rw [hc.len]; exact hq.1) hq.2) (fun x hx => hb x (by simp [hx])) hp.2
    refine ⟨d', ?_, by rw [List.length_cons, show n + (l.length + 1) = n + 1 + l.length by omega]; exact h2, h3, fun k hk => ?_, fun k => ?_⟩
    · rw [layP_cons, if_pos (by rw [hc.len]; exact hq.1), hc.due, if_neg (by decide)]
      exact e
    · rw [h4 k hk, read_write hc.due, if_neg (by omega)]
    · rw [h5 k, read_write hc.due, kLook_cons]
      by_cases e2 : q.1 = k
      · have hn : kLook l k = none := by
          cases hx : kLook l k with
          | none => rfl
          | some x => have := hp.1 _ (look_mem hx); simp only at this; omega
        rw [hn, if_pos e2, if_pos (by omega)]
        rfl
      · rw [if_neg e2, if_neg (by omega)]
theorem headB_take (base : Nat) : (headB base).take 8 = markB := by
  unfold headB
  rw [List.take_append_of_le_length (by decide)]
  rfl
theorem headB_byte {base : Nat} (h : base < 9223372036854775808) : ((headB base).getD 8 0).toNat ≤ 127 := by
  have e : (headB base).getD 8 0 = byteAt base 7 := rfl
  rw [e, byteAt_nat]
  have : base / 256 ^ 7 < 128 := by
    rw [Nat.div_lt_iff_lt_mul (by decide)]
    omega
  omega
theorem headB_num {base : Nat} (h : base < 9223372036854775808) : numB (((headB base).drop 8).take 8) = base := by
  have e : ((headB base).drop 8).take 8 = beB 8 base := by
    unfold headB
    rw [List.drop_append_of_le_length (by decide)]
    have : List.drop 8 markB = [] := rfl
    rw [this, List.nil_append, List.take_append_of_le_length (by rw [beB_len]; exact Nat.le_refl _), List.take_of_length_le (by rw [beB_len]; exact Nat.le_refl _)]
  rw [e]
  exact numB_be' (by omega)
structure Lg (len : Nat) (s : Sy) (base : Nat) (rs : List Rec) : Prop where
  ring : s.r = Rg.of 1 (len / 4) base rs
  holds : Holds (len / 4) (gAt 1 s.d) base (cutAll base rs)
  room : many base rs ≤ len / 4
  head : s.d.read 0 = headB base
  rep : replayAll ((s.p.pages : Int) - 1) rs [] = some s.p.dirty
  base : base + many base rs ≤ 1000000000
structure Pd (len : Nat) (p : Pg) (d : Dk) : Prop where
  l64 : 64 ≤ len
  l400 : len ≤ 400
  first : p.first = 1 + len / 4
  pages : p.pages = len - 1 - len / 4
  dlen : d.lasts.length = len
  dok : d.Ok
  dirty : ∀ q ∈ p.dirty, q.1 < p.pages ∧ q.2.length = 512
  dr : kRise p.dirty
theorem Lv.pd {len : Nat} {p : Pg} {d : Dk} {F K : List Nat} (h : Lv len p d F K) : Pd len p d := ⟨h.l64, h.l400, h.first, h.pages, h.dlen, h.dok, h.dirty, h.dr⟩
theorem Pd.dl {len : Nat} {p : Pg} {d : Dk} (h : Pd len p d) : p.dirty.length ≤ 400 := by
  have h1 : p.dirty.length ≤ p.pages := rise_le h.dr fun q hq => (h.dirty q hq).1
  have := h.pages; have := h.l400
  omega
theorem holds_same {count base : Nat} {g g' : Nat → Sec} {ps : List Pc} (h : Holds count g base ps) (hc : 1 ≤ count) (e : ∀ i, i < count → g' i = g i) : Holds count g' base ps := by
  have hs : ∀ i, i < count → seeG count g' i = seeG count g i := fun i hi => by unfold seeG; rw [e i hi]
  refine ⟨fun j hj => ?_, fun i p hi hp => h.le i p hi (by rw [← hs i hi]; exact hp)⟩
  have := h.has j hj
  unfold pieceG at this ⊢
  rw [hs _ (Nat.mod_lt _ (by omega))]
  exact this
theorem settle_calm {len n base : Nat} {s : Sy} {rs : List Rec} (h : Pd len s.p s.d) (g : Lg len s base rs) (hc : s.d.Calm len n) :
    ∃ s', s.settle s.r.top = (0, s') ∧ s'.p = s.p.settled ∧ Pd len s'.p s'.d ∧ Lg len s' (base + many base rs) [] ∧ s'.d.Calm len (n + 403) ∧ s'.d.waits = [] ∧ s'.p.comm s'.d = s.p.comm s.d := by
  have hl64 := h.l64
  have hdl := h.dl
  have hroom := g.room
  have hbase := g.base
  have hl4 := h.l400
  have htop : s.r.top = base + many base rs := by rw [g.ring]; rfl
  obtain ⟨d1, e1, c1, o1, r1, r1'⟩ := layP_calm (first := s.p.first) s.p.dirty s.d n hc h.dok (fun q hq => ⟨by have := h.dirty q hq; have := h.first; have := h.pages; omega, (h.dirty q hq).2⟩) h.dr
  have c2 := c1.flush
  have o2 := flush_dk_ok o1 c1.due
  have c3 := c2.head s.r.top
  have e3 : settleD s.p.first s.p.dirty s.d s.r.top = (0, (headR d1.flush s.r.top).2) := by
    rw [settleD_head e1 c1.due, c3.1]
  have cw := c2.write 0 (headB s.r.top)
  have ow := write_dk_ok (i := 0) (s := headB s.r.top) o2 c2.due (by rw [c2.len]; omega) (headB_len _)
  have o3 : (headR d1.flush s.r.top).2.Ok := by
    rw [c3.1]
    exact flush_dk_ok ow cw.2.due
  have r3 : ∀ k, (headR d1.flush s.r.top).2.read k = if k = 0 then headB s.r.top else d1.read k := fun k => by
    rw [c3.1]
    show ((d1.flush.write 0 (headB s.r.top)).flush).read k = _
    rw [read_flush ow cw.2.due, read_write c2.due, read_flush o1 c1.due]
  have w3 : (headR d1.flush s.r.top).2.waits = [] := by
    rw [c3.1]
    exact flush_waits cw.2.due
  obtain ⟨d3, hd3⟩ : ∃ d3, d3 = (headR d1.flush s.r.top).2 := ⟨_, rfl⟩
  rw [← hd3] at e3 o3 r3 w3
  have cc3 : d3.Calm len (n + s.p.dirty.length + 1 + 2) := by rw [hd3]; exact c3.2
  have hg3 : ∀ i, i < len / 4 → gAt 1 d3 i = gAt 1 s.d i := fun i hi => by
    unfold gAt
    rw [r3, if_neg (by omega), r1 _ (by have := h.first; omega)]
  have hh3 : Holds (len / 4) (gAt 1 d3) (base + many base rs) [] := by
    have := (holds_same g.holds (by omega) hg3).empty
    exact this
  have hop : Rg.opened 1 (len / 4) (base + many base rs) (gAt 1 d3) = Rg.of 1 (len / 4) (base + many base rs) [] := opened_of (rs := []) hh3 (by omega) (by rw [many_nil]; omega)
  refine ⟨⟨s.p.settled, Rg.opened 1 (s.d.lasts.length / 4) s.r.top (gAt 1 d3), d3⟩, ?_, rfl, ⟨h.l64, h.l400, h.first, h.pages, cc3.len, o3, fun q hq => by simp [Pg.settled] at hq, List.Pairwise.nil⟩, ⟨?_, hh3, by rw [many_nil]; omega, ?_, rfl, by rw [many_nil]; omega⟩, ⟨cc3.dead, cc3.set, cc3.len, cc3.few.mono (by omega)⟩, w3, ?_⟩
  · unfold Sy.settle
    rw [e3]
    rfl
  · rw [h.dlen, htop]; exact hop
  · show d3.read 0 = _
    rw [r3, if_pos rfl, htop]
  · funext k
    unfold Pg.comm
    show (kLook [] k).getD (d3.read (s.p.first + k)) = _
    rw [kLook_nil, r3, if_neg (by have := h.first; omega), r1' k]
    rfl
end Go.Proofs.YteoeaojebklfjaaGreatDoor
namespace Go.Proofs.YteoeaojebklfjaaGreatDoor
open Go.RowKit Go.Maps
set_option linter.unusedVariables false

theorem puts_read {len : Nat} (pl : Nat → Nat) : ∀ (ps : List Pc) (d : Dk) (n : Nat), d.Calm len n → d.Ok → (∀ p ∈ ps, pl p.n < len ∧ p.data.length ≤ 501) → (Dk.puts pl ps d).1.Ok ∧ ∀ k, (∀ p ∈ ps, pl p.n ≠ k) → (Dk.puts pl ps d).1.read k = d.read k
  | [], d, _, _, ho, _ => ⟨ho, fun _ _ => rfl⟩
  | p :: ps, d, n, hc, ho, hb => by
    have hp := hb p (by simp)
    rw [Dk.puts, hc.due]
    simp only [Bool.false_eq_true, if_false]
    have h1 := puts_read pl ps (d.write (pl p.n) p.lay) (n + 1) (hc.write _ _).2 (write_dk_ok ho hc.due (by rw [hc.len]; exact hp.1) (Pc.lay_length p hp.2)) fun q hq => hb q (by simp [hq])
    refine ⟨h1.1, fun k hk => ?_⟩
    rw [h1.2 k fun q hq => hk q (by simp [hq]), read_write hc.due, if_neg fun e => hk p (by simp) e.symm]
theorem gOf_of {len base : Nat} {rs : List Rec} (d : Dk) : gOf (Rg.of 1 len base rs) d = gAt 1 d := rfl
theorem append_calm {len n base : Nat} {s : Sy} {rs : List Rec} (h : Pd len s.p s.d) (g : Lg len s base rs) (hc : s.d.Calm len n) {rec : Rec} (hfit : many base rs + cutN rec.length ≤ len / 4) :
    ∃ s', s.append rec = (0, s') ∧ s'.p = s.p ∧ s'.r = Rg.of 1 (len / 4) base (rs ++ [rec]) ∧ Holds (len / 4) (gAt 1 s'.d) base (cutAll base (rs ++ [rec])) ∧ s'.d.Calm len (n + cutN rec.length) ∧ s'.d.Ok ∧ ∀ k, k = 0 ∨ len / 4 < k → s'.d.read k = s.d.read k := by
  have hl64 := h.l64
  have hl4 := h.l400
  have htop := g.base
  obtain ⟨r, hr⟩ : ∃ r, r = s.r := ⟨_, rfl⟩
  have hring := g.ring
  rw [← hr] at hring
  subst hring
  have hno : refuse (Rg.of 1 (len / 4) base rs) (cutN rec.length) = none := by
    unfold refuse Rg.room Rg.of
    simp only [Nat.lt_irrefl, if_false]
    rw [if_neg (by omega), if_neg (by omega), if_neg (by omega)]
  obtain ⟨d', e1, c1, hh⟩ := puts_rec (r := Rg.of 1 (len / 4) base rs) (n := n) (rec := rec) hc g.holds hfit (by omega)
  have ha := app_free (r := Rg.of 1 (len / 4) base rs) (d := s.d) (rec := rec) hno e1
  have hpr := puts_read (len := len) (Rg.of 1 (len / 4) base rs).place (cutR (base + many base rs) rec) s.d n hc h.dok fun p hp => by
    obtain ⟨j, hj, rfl⟩ := List.mem_iff_getElem.1 hp
    rw [cutR_at]
    refine ⟨?_, ?_⟩
    · show 1 + _ % (len / 4) < len
      have := Nat.mod_lt (cutAt (base + many base rs) rec j).n (show 0 < len / 4 by omega)
      omega
    · show ((rec.drop (501 * j)).take 501).length ≤ 501
      rw [List.length_take]; omega
  rw [e1] at hpr
  refine ⟨⟨s.p, Rg.of 1 (len / 4) base (rs ++ [rec]), d'⟩, ?_, rfl, rfl, hh, c1, hpr.1, fun k hk => hpr.2 k fun p hp e => ?_⟩
  · unfold Sy.append
    rw [← hr, ha]
    unfold Rg.of
    simp only
    rw [many_snoc, Nat.add_assoc]
  · have : 1 + p.n % (len / 4) = k := e
    have := Nat.mod_lt p.n (show 0 < len / 4 by omega)
    omega
theorem append_full {len base : Nat} {s : Sy} {rs : List Rec} (h : Pd len s.p s.d) (g : Lg len s base rs) {rec : Rec} (hle : cutN rec.length ≤ len / 4) (hfit : ¬ many base rs + cutN rec.length ≤ len / 4) : s.append rec = (3, s) := by
  have htop := g.base
  have hroom := g.room
  have hpos := cutN_pos rec.length
  have hno : refuse s.r (cutN rec.length) = some 3 := by
    rw [g.ring]
    unfold refuse Rg.room Rg.of
    simp only [Nat.lt_irrefl, if_false]
    rw [if_neg (by omega), if_pos (by omega)]
  unfold Sy.append
  rw [app_refused hno]
theorem replayAll_snoc (most : Int) (b : Rec) : ∀ (rs : List Rec) (D : List (Nat × Sec)), replayAll most (rs ++ [b]) D = (replayAll most rs D).bind fun D1 => (replayL most b.length b).map fun l => insL l D1
  | [], D => by
    rw [List.nil_append, replayAll_cons]
    show (rpD most b.length b D).bind (fun D => some D) = _
    unfold rpD
    cases replayL most b.length b <;> rfl
  | c :: rs, D => by
    rw [List.cons_append, replayAll_cons, replayAll_cons]
    cases rpD most c.length c D with
    | none => rfl
    | some D1 => exact replayAll_snoc most b rs D1
theorem zero_first (x : Sec) {l : List (Nat × Sec)} (hl : kRise l) (D : List (Nat × Sec)) (hD : kRise D) : insL (ins 0 x l) D = ins 0 x (insL l D) := by
  refine rise_ext (rise_insL _ _ hD) (rise_ins (rise_insL _ _ hD)) fun k => ?_
  rw [look_insL k _ _ (rise_ins hl), look_ins, look_ins, look_insL k _ _ hl]
  by_cases e : 0 = k
  · subst e; rfl
  · rw [if_neg e, if_neg e]
theorem logged_same {len : Nat} {p : Pg} {d : Dk} {F K : List Nat} (h : Lv len p d F K) : p.logged = p := by
  have : kDel (ins 0 p.m.page p.now) 0 = p.now := by
    refine rise_ext (rise_del (rise_ins h.nr) 0) h.nr fun k => ?_
    rw [look_del, look_ins]
    by_cases e : 0 = k
    · subst e
      rw [if_pos rfl]
      cases hx : kLook p.now 0 with
      | none => rfl
      | some x => have := h.now _ (look_mem hx); simp only at this; omega
    · rw [if_neg e, if_neg e]
  unfold Pg.logged
  rw [this]
theorem Frees.of_view {V V' : Nat → Sec} {m : Meta} {F : List Nat} (h : Frees V m F) (he : ∀ n ∈ F, V' n = V n) : Frees V' m F := ⟨h.chain.of_view (Nat.le_refl _) he, h.nodup, h.free⟩
theorem Lv.small {len : Nat} {p : Pg} {d : Dk} {F K : List Nat} (h : Lv len p d F K) : p.m.Small := by
  have h1 := h.fits
  have h2 := h.fr.free
  have h3 := h.fl
  have h4 := h.mu
  have h5 := h.few
  have h6 := h.mr
  have h7 := h.fr.head h4.1
  constructor <;> omega
theorem commit_tail {len n base : Nat} {s s2 : Sy} {F K : List Nat} {rs : List Rec} (h : Lv len s.p s.d F K) (hp2 : s2.p = s.p ∨ s2.p = s.p.settled) (h2 : Pd len s2.p s2.d) (g : Lg len s2 base rs) (hc : s2.d.Calm len n) (hcm : s2.p.comm s2.d = s.p.comm s.d) (hroot : s.p.m.root = 0 ∨ s.p.uses (s.p.m.root : Int) = true) (hfit : many base rs + cutN s.p.record.length ≤ len / 4) (htop : base + many base rs + cutN s.p.record.length ≤ 1000000000) :
    ∃ s', Sy.finish (s2.append s.p.record) = (0, s') ∧ Lv len s'.p s'.d F F ∧ Lg len s' base (rs ++ [s.p.record]) ∧ s'.d.Calm len (n + cutN s.p.record.length + 1) ∧ s'.d.waits = [] ∧ s'.p.m = s.p.m ∧ s'.p.kept = s.p.m ∧ s'.p.now = [] ∧ s'.p.count = [] ∧ (∀ k, 1 ≤ k → s'.p.view s'.d k = s.p.view s.d k) ∧ (∀ k, 1 ≤ k → s'.p.comm s'.d k = s.p.view s.d k) := by
  obtain ⟨s3, e3, p3, r3, hh3, c3, o3, rd3⟩ := append_calm h2 g hc hfit
  have hl64 := h.l64
  have hpd : s2.p.first = s.p.first ∧ s2.p.pages = s.p.pages ∧ s2.p.m = s.p.m ∧ s2.p.now = s.p.now ∧ s2.p.idle = s.p.idle := by
    rcases hp2 with e | e <;> rw [e] <;> exact ⟨rfl, rfl, rfl, rfl, rfl⟩
  have hfin : Sy.finish (s2.append s.p.record) = (0, ⟨s2.p.done, s3.r, s3.d.flush⟩) := by
    rw [e3]
    unfold Sy.finish
    simp only [ne_eq, not_true_eq_false, if_false]
    rw [c3.err, if_neg (by simp), p3]
  have hdone : s2.p.done.dirty = ins 0 s.p.m.page (insL s.p.now s2.p.dirty) := by
    show ins 0 s2.p.m.page (insL s2.p.now s2.p.dirty) = _
    rw [hpd.2.2.1, hpd.2.2.2.1]
  have hrd : ∀ k, k = 0 ∨ len / 4 < k → s3.d.flush.read k = s2.d.read k := fun k hk => by rw [read_flush o3 c3.due, rd3 k hk]
  have hcomm : ∀ k, s2.p.done.comm s3.d.flush k = if k = 0 then s.p.m.page else s.p.view s.d k := fun k => by
    unfold Pg.comm
    rw [hdone, look_ins]
    by_cases e : k = 0
    · subst e; simp
    · rw [if_neg fun e' => e e'.symm, if_neg e, look_insL k _ _ h.nr]
      have hk : s2.p.comm s2.d k = s.p.comm s.d k := by rw [hcm]
      unfold Pg.view
      rw [← hk]
      unfold Pg.comm
      show ((kLook s.p.now k).or (kLook s2.p.dirty k)).getD (s3.d.flush.read (s2.p.done.first + k)) = _
      have e2 : s2.p.done.first = s2.p.first := rfl
      rw [e2, hrd _ (.inr (by have := h2.first; omega))]
      cases kLook s.p.now k <;> rfl
  have hview : ∀ k, s2.p.done.view s3.d.flush k = s2.p.done.comm s3.d.flush k := fun k => by
    unfold Pg.view
    show (kLook [] k).getD _ = _
    rw [kLook_nil]; rfl
  have hfr : Frees (s2.p.done.comm s3.d.flush) s.p.m F := h.fr.of_view fun n hn => by
    rw [hcomm, if_neg (h.fr.chain.mem n hn).1]
  have hmu := h.mu
  refine ⟨_, hfin, ⟨h.l64, h.l400, h2.first, h2.pages, by show s3.d.flush.lasts.length = len; rw [Dk.flush_len]; exact c3.len, flush_dk_ok o3 c3.due, fun q hq => ?_, ?_, fun q hq => by simp [Pg.done] at hq, List.Pairwise.nil, rfl, ?_, ?_, ?_, ?_, ?_, ?_, ?_, ?_⟩, ⟨r3, ?_, ?_, ?_, ?_, ?_⟩, c3.flush, flush_waits c3.due, hpd.2.2.1, hpd.2.2.1, rfl, rfl, fun k hk => ?_, fun k hk => ?_⟩
  · have hq' : q ∈ ins 0 s.p.m.page (insL s.p.now s2.p.dirty) := by rw [← hdone]; exact hq
    show q.1 < s2.p.pages ∧ _
    rw [hpd.2.1]
    rcases mem_ins hq' with rfl | hq'
    · exact ⟨by omega, Meta.page_len _⟩
    · rcases mem_insL hq' with hq' | hq'
      · have := h.now q hq'; exact ⟨by omega, this.2.2⟩
      · have := h2.dirty q hq'; rw [hpd.2.1] at this; exact this
  · show kRise s2.p.done.dirty
    rw [hdone]
    exact rise_ins (rise_insL _ _ h2.dr)
  · exact hpd.2.2.2.2.trans h.idle
  · show 1 ≤ s2.p.m.used ∧ s2.p.m.used ≤ s2.p.pages
    rw [hpd.2.2.1, hpd.2.1]; exact h.mu
  · show s2.p.m.root < s2.p.m.used
    rw [hpd.2.2.1]; exact h.mr
  · show Frees _ s2.p.m F
    rw [hpd.2.2.1]
    exact hfr.of_view fun n hn => hview n
  · show 1 ≤ s2.p.m.used ∧ s2.p.m.used ≤ s2.p.pages
    rw [hpd.2.2.1, hpd.2.1]; exact h.mu
  · show s2.p.m.root = 0 ∨ (s2.p.m.root < s2.p.m.used ∧ s2.p.m.root ∉ F)
    rw [hpd.2.2.1]
    rcases hroot with e | e
    · exact .inl e
    · obtain ⟨k, e1, e2, e3, e4⟩ := h.in_use e
      have : s.p.m.root = k := by omega
      rw [this]
      exact .inr ⟨e3, e4⟩
  · show metaOf (s2.p.done.comm s3.d.flush 0) = s2.p.m
    rw [hcomm, if_pos rfl, hpd.2.2.1]
    exact meta_of_page h.small
  · show Frees _ s2.p.m F
    rw [hpd.2.2.1]
    exact hfr
  · show Holds (len / 4) (gAt 1 s3.d.flush) base (cutAll base (rs ++ [s.p.record]))
    exact holds_same hh3 (by omega) fun i _ => by unfold gAt; rw [read_flush o3 c3.due]
  · rw [many_snoc]; exact hfit
  · show s3.d.flush.read 0 = _
    rw [hrd 0 (.inl rfl)]; exact g.head
  · show replayAll ((s2.p.pages : Int) - 1) (rs ++ [s.p.record]) [] = some s2.p.done.dirty
    rw [replayAll_snoc, g.rep, hdone]
    have hkey : ∀ q ∈ ins 0 s.p.m.page s.p.now, (q.1 : Int) ≤ (s2.p.pages : Int) - 1 ∧ q.2.length = 512 := fun q hq => by
      rw [hpd.2.1]
      rcases mem_ins hq with rfl | hq
      · exact ⟨by simp only; omega, Meta.page_len _⟩
      · have := h.now q hq; exact ⟨by omega, this.2.2⟩
    have hrec : s.p.record = recB (ins 0 s.p.m.page s.p.now) := by
      unfold Pg.record
      refine recG_eq fun q hq => ?_
      have := hkey q hq
      rw [hpd.2.1] at this
      have := h.few
      omega
    have hrp := replay_rec (most := (s2.p.pages : Int) - 1) (by rw [hpd.2.1]; have := h.few; omega) (ins 0 s.p.m.page s.p.now) s.p.record.length hkey (by rw [hrec]; exact Nat.le_refl _)
    rw [← hrec] at hrp
    rw [hrp]
    show some (insL (ins 0 s.p.m.page s.p.now) s2.p.dirty) = _
    rw [zero_first _ h.nr _ h2.dr]
  · rw [many_snoc]; omega
  · rw [hview, hcomm, if_neg (by omega)]
  · rw [hcomm, if_neg (by omega)]
theorem commit_calm {len n base : Nat} {s : Sy} {F K : List Nat} {rs : List Rec} (h : Lv len s.p s.d F K) (g : Lg len s base rs) (hc : s.d.Calm len n) (hcnt : s.p.count.length ≤ len / 8) (hroot : s.p.m.root = 0 ∨ s.p.uses (s.p.m.root : Int) = true) (htop : base + many base rs ≤ 999999000) :
    ∃ s' base' rs', s.commit = (0, s') ∧ Lv len s'.p s'.d F F ∧ Lg len s' base' rs' ∧ base' + many base' rs' ≤ base + many base rs + 100 ∧ s'.d.Calm len (n + 600) ∧ s'.d.waits = [] ∧ s'.p.m = s.p.m ∧ s'.p.kept = s.p.m ∧ s'.p.now = [] ∧ s'.p.count = [] ∧ (∀ k, 1 ≤ k → s'.p.view s'.d k = s.p.view s.d k) ∧ (∀ k, 1 ≤ k → s'.p.comm s'.d k = s.p.view s.d k) := by
  have hl64 := h.l64
  have hl4 := h.l400
  have hlen : s.p.record.length ≤ 522 * (len / 8 + 1) := by
    have h1 := recG_len (ins 0 s.p.m.page s.p.now) fun q hq => by
      rcases mem_ins hq with rfl | hq
      · exact Meta.page_len _
      · exact (h.now q hq).2.2
    have h2 := len_ins 0 s.p.m.page s.p.now
    have h3 : s.p.now.length = s.p.count.length := by rw [h.count, List.length_map]
    have h4 : 522 * (ins 0 s.p.m.page s.p.now).length ≤ 522 * (len / 8 + 1) := Nat.mul_le_mul_left _ (by omega)
    exact Nat.le_trans h1 h4
  have hcut := cutN_le hlen
  have hcle : cutN s.p.record.length ≤ len / 4 := by omega
  have hlog : s.p.logged = s.p := logged_same h
  have hcom : s.commit = Sy.finish (Sy.log s s.p.record) := by
    unfold Sy.commit
    rw [h.dlen, if_neg (by omega), if_neg (by
      rintro ⟨h1, h2⟩
      rcases hroot with e | e
      · exact h1 e
      · rw [h2] at e; cases e), hlog]
  rw [hcom]
  by_cases hfit : many base rs + cutN s.p.record.length ≤ len / 4
  · obtain ⟨s', e, r1, r2, r3, r4, r5⟩ := commit_tail (s := s) (s2 := s) h (.inl rfl) h.pd g hc rfl hroot hfit (by omega)
    have hap := append_calm h.pd g hc hfit
    obtain ⟨sa, ea, _⟩ := hap
    refine ⟨s', base, rs ++ [s.p.record], ?_, r1, r2, ?_, ⟨r3.dead, r3.set, r3.len, r3.few.mono (by omega)⟩, r4, r5⟩
    · unfold Sy.log
      rw [ea]
      simp only
      rw [if_neg (by decide), ← ea]
      exact e
    · rw [many_snoc]; omega
  · obtain ⟨s1, e1, p1, pd1, g1, c1, w1, cm1⟩ := settle_calm h.pd g hc
    have hmn : many (base + many base rs) ([] : List Rec) = 0 := many_nil _
    obtain ⟨s', e, r1, r2, r3, r4, r5⟩ := commit_tail (s := s) (s2 := s1) h (.inr p1) pd1 g1 c1 cm1 hroot (by rw [hmn]; omega) (by rw [hmn]; omega)
    refine ⟨s', base + many base rs, [] ++ [s.p.record], ?_, r1, r2, ?_, ⟨r3.dead, r3.set, r3.len, r3.few.mono (by omega)⟩, r4, r5⟩
    · unfold Sy.log
      rw [append_full h.pd g hcle hfit]
      simp only [if_true]
      rw [e1]
      simp only [if_true]
      exact e
    · rw [many_snoc, hmn]; omega
end Go.Proofs.YteoeaojebklfjaaGreatDoor
namespace Go.Proofs.YteoeaojebklfjaaGreatDoor
open Go.RowKit Go.Maps
set_option linter.unusedVariables false

structure Cm (len : Nat) (p : Pg) (d : Dk) (m : Meta) (K : List Nat) : Prop where
  pd : Pd len p d
  ku : 1 ≤ m.used ∧ m.used ≤ p.pages
  kr : m.root = 0 ∨ (m.root < m.used ∧ m.root ∉ K)
  km : metaOf (p.comm d 0) = m
  fk : Frees (p.comm d) m K
theorem Lv.cm {len : Nat} {p : Pg} {d : Dk} {F K : List Nat} (h : Lv len p d F K) : Cm len p d p.kept K := ⟨h.pd, h.ku, h.kr, h.km, h.fk⟩
theorem Pd.get {len : Nat} {p : Pg} {d : Dk} (h : Pd len p d) {n : Nat} (hn : n < p.pages) : p.cleared.get d n = (p.comm d n, 0) := by
  unfold Pg.get Pg.comm
  have : p.first + n < d.lasts.length := by have := h.first; have := h.pages; have := h.dlen; have := h.l64; omega
  show (match kLook [] n with
    | some s => (s, 0)
    | none => match kLook p.dirty n with
      | some s => (s, 0)
      | none => if p.first + n < d.lasts.length then (d.read (p.first + n), 0) else (zs, (1 : Int))) = _
  rw [kLook_nil]
  simp only
  split
  · rename_i s e; rw [e]; rfl
  · rename_i e; rw [e, if_pos this]; rfl
theorem Cm.abort {len : Nat} {p : Pg} {d : Dk} {m : Meta} {K : List Nat} (h : Cm len p d m K) : Lv len (p.abort d) d K K ∧ (p.abort d).m = m ∧ (p.abort d).kept = m ∧ (p.abort d).comm d = p.comm d ∧ (p.abort d).view d = p.comm d ∧ (p.abort d).dirty = p.dirty ∧ (p.abort d).now = [] ∧ (p.abort d).count = [] ∧ (p.abort d).first = p.first ∧ (p.abort d).pages = p.pages := by
  have hpg : 1 ≤ p.pages := by have := h.ku; omega
  have h0 := h.pd.get (n := 0) (by omega)
  have hm : metaOf (p.cleared.get d 0).1 = m := by rw [h0]; exact h.km
  have hK := h.fk.small h.ku.1
  have hku := h.ku
  have hch := chase_is (p := p.cleared) (d := d) (V := p.comm d) (u := m.used) h.ku.2 K (p.pages + 1) m.head [] h.fk.chain h.fk.nodup (fun n hn => by
    rw [h.pd.get (by have := h.fk.chain.mem n hn; omega)]) (fun n _ => by rw [kLook_nil]; rfl) (by omega)
  have he : p.abort d = { p with now := [], count := [], kept := m, m := m, idle := marksOf K } := by
    unfold Pg.abort Pg.aborting
    rw [hm, hch]
    rfl
  rw [he]
  have hv : ({ p with now := [], count := [], kept := m, m := m, idle := marksOf K } : Pg).view d = p.comm d := by
    funext k
    unfold Pg.view
    show (kLook [] k).getD _ = _
    rw [kLook_nil]; rfl
  refine ⟨⟨h.pd.l64, h.pd.l400, h.pd.first, h.pd.pages, h.pd.dlen, h.pd.dok, h.pd.dirty, h.pd.dr, fun q hq => by simp at hq, List.Pairwise.nil, rfl, rfl, h.ku, ?_, ?_, h.ku, h.kr, h.km, h.fk⟩, rfl, rfl, rfl, hv, rfl, rfl, rfl, rfl, rfl⟩
  · show m.root < m.used
    rcases h.kr with e | e
    · omega
    · exact e.1
  · rw [hv]; exact h.fk
theorem open_core {len n base : Nat} {s : Sy} {m : Meta} {K : List Nat} {rs : List Rec} (h : Cm len s.p s.d m K) (g : Lg len s base rs) (hc : s.d.Calm len n) :
    ∃ s', openS s.d = (0, s') ∧ Lv len s'.p s'.d K K ∧ Lg len s' (base + many base rs) [] ∧ s'.d.Calm len (n + 403) ∧ s'.d.waits = [] ∧ s'.p.m = m ∧ s'.p.kept = m ∧ s'.p.comm s'.d = s.p.comm s.d ∧ s'.p.view s'.d = s.p.comm s.d ∧ s'.p.now = [] ∧ s'.p.dirty = [] ∧ s'.p.first = s.p.first ∧ s'.p.pages = s.p.pages ∧ s'.p.count = [] := by
  have hl64 := h.pd.l64
  have hl4 := h.pd.l400
  have htop := g.base
  have hb63 : base < 9223372036854775808 := by omega
  have hmade : (Pg.made s.d.lasts.length).first = s.p.first ∧ (Pg.made s.d.lasts.length).pages = s.p.pages := by
    rw [h.pd.dlen, h.pd.first, h.pd.pages]
    exact ⟨rfl, rfl⟩
  have hrun : runG (len / 4) (gAt 1 s.d) (len / 4) base [] [] base = (rs, base + many base rs) := told_run g.holds (by omega) g.room
  have hrop : Rg.opened 1 (len / 4) base (gAt 1 s.d) = Rg.of 1 (len / 4) base rs := opened_of g.holds (by omega) g.room
  obtain ⟨s1, hs1⟩ : ∃ s1 : Sy, s1 = ⟨{ Pg.made s.d.lasts.length with dirty := s.p.dirty }, Rg.opened 1 (s.d.lasts.length / 4) base (gAt 1 s.d), s.d⟩ := ⟨_, rfl⟩
  have hno : ¬ (s.d.lasts.length < 64 ∨ (s.d.read 0).take 8 ≠ markB ∨ 127 < ((s.d.read 0).getD 8 0).toNat) := by
    rw [g.head, h.pd.dlen, headB_take]
    have := headB_byte hb63
    rintro (e | e | e)
    · omega
    · exact e rfl
    · omega
  have hop := open_on (d := s.d) (base := base) (D := s.p.dirty) hno (by rw [g.head]; exact (headB_num hb63).symm) (by omega) (by rw [h.pd.dlen, hrun, ← h.pd.dlen, hmade.2]; exact g.rep) hs1
  have hcm1 : s1.p.comm s1.d = s.p.comm s.d := by
    funext k
    unfold Pg.comm
    rw [hs1]
    show (kLook s.p.dirty k).getD (s.d.read ((Pg.made s.d.lasts.length).first + k)) = _
    rw [hmade.1]
  have hpd1 : Pd len s1.p s1.d := by
    rw [hs1]
    exact ⟨h.pd.l64, h.pd.l400, hmade.1.trans h.pd.first, hmade.2.trans h.pd.pages, h.pd.dlen, h.pd.dok, fun q hq => by
      have := h.pd.dirty q hq
      exact ⟨by show q.1 < (Pg.made s.d.lasts.length).pages; rw [hmade.2]; exact this.1, this.2⟩, h.pd.dr⟩
  have hg1 : Lg len s1 base rs := by
    rw [hs1]
    refine ⟨by rw [h.pd.dlen]; exact hrop, g.holds, g.room, g.head, ?_, g.base⟩
    show replayAll (((Pg.made s.d.lasts.length).pages : Int) - 1) rs [] = some s.p.dirty
    rw [hmade.2]; exact g.rep
  obtain ⟨s2, e2, p2, pd2, g2, c2, w2, cm2⟩ := settle_calm hpd1 hg1 (n := n) (by rw [hs1]; exact hc)
  have hcm2 : Cm len s2.p s2.d m K := by
    refine ⟨pd2, ?_, h.kr, ?_, ?_⟩
    · have : s2.p.pages = s.p.pages := by rw [p2, hs1]; exact hmade.2
      rw [this]; exact h.ku
    · rw [cm2, hcm1]; exact h.km
    · rw [cm2, hcm1]; exact h.fk
  obtain ⟨a1, a2, a3, a4, a5, a6, a7, a8, a9, a10⟩ := hcm2.abort
  refine ⟨s2.abort, ?_, a1, ⟨g2.ring, g2.holds, g2.room, g2.head, ?_, g2.base⟩, c2, w2, a2, a3, ?_, ?_, a7, ?_, ?_, ?_, a8⟩
  · rw [hop, e2]
    simp only [ne_eq, not_true_eq_false, if_false]
  · show replayAll (((s2.p.abort s2.d).pages : Int) - 1) [] [] = some (s2.p.abort s2.d).dirty
    rw [a6, p2]
    rfl
  · exact a4.trans (cm2.trans hcm1)
  · exact a5.trans (cm2.trans hcm1)
  · show (s2.p.abort s2.d).dirty = []
    rw [a6, p2]; rfl
  · show (s2.p.abort s2.d).first = _
    rw [a9, p2, hs1]; exact hmade.1
  · show (s2.p.abort s2.d).pages = _
    rw [a10, p2, hs1]; exact hmade.2
theorem new_zero {len i : Nat} : (Dk.new len).read i = zs ∨ (Dk.new len).read i = [] := by
  by_cases h : i < len
  · left; exact new_read h
  · right
    unfold Dk.read Dk.new
    simp only [lastIx]
    rw [List.getD_eq_getElem?_getD, List.getElem?_eq_none (by rw [List.length_replicate]; omega)]
    rfl
theorem format_lv {len : Nat} (h64 : 64 ≤ len) (h400 : len ≤ 400) : Lv len (formatS len).p (formatS len).d [] [] ∧ Lg len (formatS len) 0 [] ∧ (formatS len).d.Calm len 4 ∧ (formatS len).d.waits = [] ∧ (formatS len).p.m = meta1 ∧ (formatS len).p.kept = meta1 ∧ (formatS len).p.count = [] ∧ (formatS len).p.now = [] := by
  have hc := formatD_calm len
  have c0 := calm_new len
  have o0 : (Dk.new len).Ok := Dk.new_ok (by omega)
  have hpl : meta1.page.length = 512 := Meta.page_len _
  have c1 := c0.write (1 + len / 4) meta1.page
  have o1 := write_dk_ok (i := 1 + len / 4) (s := meta1.page) o0 c0.due (by rw [c0.len]; omega) hpl
  have c2 := c1.2.flush
  have o2 := flush_dk_ok o1 c1.2.due
  have c3 := c2.write 0 (headB 0)
  have o3 := write_dk_ok (i := 0) (s := headB 0) o2 c2.due (by rw [c2.len]; omega) (headB_len _)
  have hfd : formatD len = (((Dk.new len).write (1 + len / 4) meta1.page).flush.write 0 (headB 0)).flush := by
    unfold formatD
    rw [(c2.head 0).1]
  have od : (formatD len).Ok := by rw [hfd]; exact flush_dk_ok o3 c3.2.due
  have hrd : ∀ k, (formatD len).read k = if k = 0 then headB 0 else if k = 1 + len / 4 then meta1.page else (Dk.new len).read k := fun k => by
    rw [hfd, read_flush o3 c3.2.due, read_write c2.due, read_flush o1 c1.2.due, read_write c0.due]
  have hcm : ∀ k, (formatS len).p.comm (formatS len).d k = (formatD len).read (1 + len / 4 + k) := fun k => by
    unfold Pg.comm
    show (kLook [] k).getD _ = _
    rw [kLook_nil]; rfl
  have hh : Holds (len / 4) (gAt 1 (formatD len)) 0 [] := Holds.none_at fun i hi => by
    unfold seeG gAt
    rw [hrd, if_neg (by omega), if_neg (by omega), new_read (by omega), pieceOf_zs]
  have hfr : ∀ V : Nat → Sec, Frees V meta1 [] := fun V => ⟨rfl, List.nodup_nil, rfl⟩
  have hmt : metaOf meta1.page = meta1 := meta_of_page ⟨by decide, by decide, by decide, by decide, by decide⟩
  refine ⟨⟨h64, h400, rfl, rfl, hc.len, od, fun q hq => by simp [formatS, Pg.made] at hq, List.Pairwise.nil, fun q hq => by simp [formatS, Pg.made] at hq, List.Pairwise.nil, rfl, rfl, ?_, Nat.zero_lt_one, hfr _, ?_, .inl rfl, ?_, hfr _⟩, ⟨?_, hh, by rw [many_nil]; omega, ?_, rfl, by rw [many_nil]; omega⟩, hc, by show (formatD len).waits = []; rw [hfd]; exact flush_waits c3.2.due, rfl, rfl, rfl, rfl⟩
  · show 1 ≤ 1 ∧ 1 ≤ len - 1 - len / 4; omega
  · show 1 ≤ 1 ∧ 1 ≤ len - 1 - len / 4; omega
  · rw [hcm, hrd, if_neg (by omega), if_pos (by omega)]
    exact hmt
  · exact opened_of (rs := []) hh (by omega) (by rw [many_nil]; omega)
  · show (formatD len).read 0 = _
    rw [hrd, if_pos rfl]
end Go.Proofs.YteoeaojebklfjaaGreatDoor
namespace Go.Proofs.YteoeaojebklfjaaGreatDoor
open Go.RowKit Go.Maps
set_option linter.unusedVariables false
set_option linter.unusedSimpArgs false
set_option maxRecDepth 20000

structure Pw (w0 w : World) (L : Lo) (R : Nat) (F : Nat → Prop) (s : Sy) (len n T : Nat) (G K : List Nat) : Prop where
  at_ : SyAt w L R F s
  new : ∀ k, allS L R F k → w0.heap.size ≤ k
  only : Only None' w0 w
  lv : Lv len s.p s.d G K
  lg : ∃ base rs, Lg len s base rs ∧ base + many base rs ≤ T
  calm : s.d.Calm len n
section
variable {w0 w w' : World} {L L' : Lo} {R R' : Nat} {F F' : Nat → Prop} {s s' : Sy} {len n n' T T' : Nat} {G G' K K' : List Nat}
theorem Pw.step (h : Pw w0 w L R F s len n T G K) (hs : SyAt w' L' R' F' s') (t : To w w' L R F L' R' F') (lv : Lv len s'.p s'.d G' K') (lg : ∃ base rs, Lg len s' base rs ∧ base + many base rs ≤ T') (calm : s'.d.Calm len n') : Pw w0 w' L' R' F' s' len n' T' G' K' := by
  have hs0 := h.only.size
  refine ⟨hs, fun k hk => ?_, h.only.trans2 t.only fun k hk e => by have := h.new k e; omega, lv, lg, calm⟩
  rcases t.kept.fresh k hk with e | e
  · exact h.new k e
  · omega
theorem Pw.aside (h : Pw w0 w L R F s len n T G K) {S : Nat → Prop} (o : Only S w w') (hS : ∀ k, S k → w0.heap.size ≤ k ∧ ¬ allS L R F k) : Pw w0 w' L R F s len n T G K :=
  ⟨h.at_.only o fun k hk e => (hS k e).2 hk, h.new, h.only.trans2 o fun k hk e => by have := (hS k e).1; omega, h.lv, h.lg, h.calm⟩
theorem Pw.quiet (h : Pw w0 w L R F s len n T G K) (o : Only None' w w') : Pw w0 w' L R F s len n T G K := h.aside o fun k e => e.elim
theorem Pw.few (h : Pw w0 w L R F s len n T G K) (hn : n ≤ n') (hT : T ≤ T') : Pw w0 w L R F s len n' T' G K := by
  obtain ⟨b, rs, h1, h2⟩ := h.lg
  exact ⟨h.at_, h.new, h.only, h.lv, ⟨b, rs, h1, by omega⟩, ⟨h.calm.dead, h.calm.set, h.calm.len, h.calm.few.mono hn⟩⟩
theorem Pw.lit (h : Pw w0 w L R F s len n T G K) {k : Nat} (hk : w.heap.size ≤ k) : ¬ allS L R F k := fun e => by have := h.at_.lt e; omega
theorem own_to {p' : Pg} (h : SyAt w L R F s) (hp : PgAt w' L (.pointer (some ⟨R, 0, none⟩)) p') (o : Only L.own w w') : SyAt w' L R F ⟨p', s.r, s.d⟩ ∧ To w w' L R F L R F := by
  have hd := h.disk.only o fun k hk e => h.ap k e hk
  exact ⟨⟨hp, h.ring.kept o h.rp, hd, h.ap, h.rp, h.rf⟩, To.owns o fun k e => .inl e⟩
theorem Pw.own (h : Pw w0 w L R F s len n T G K) {p' : Pg} (hp : PgAt w' L (.pointer (some ⟨R, 0, none⟩)) p') (o : Only L.own w w') (lv : Lv len p' s.d G' K') (e1 : p'.pages = s.p.pages) (e2 : p'.dirty = s.p.dirty) : Pw w0 w' L R F ⟨p', s.r, s.d⟩ len n T G' K' ∧ To w w' L R F L R F := by
  obtain ⟨hs, t⟩ := own_to h.at_ hp o
  obtain ⟨b, rs, g, hT⟩ := h.lg
  exact ⟨h.step hs t lv ⟨b, rs, ⟨g.ring, g.holds, g.room, g.head, by show replayAll ((p'.pages : Int) - 1) rs [] = some p'.dirty; rw [e1, e2]; exact g.rep, g.base⟩, hT⟩ h.calm, t⟩
theorem Pw.waits (h : Pw w0 w L R F s len n T G K) (hn : n ≤ 1000000) : s.d.waits.length ≤ 1000000 := by have := h.calm.few.waits; omega
theorem wk_full (h : Pw w0 w L R F s len n T G K) (hf : s.p.free = 0) : Calls Tryz.prog 11 #[.pointer (some ⟨L.P, 0, none⟩)] w fun e w' => e = .returned (.tuple #[.int .i64 0, .int .i64 3]) ∧ Pw w0 w' L R F s len n T G K ∧ Only None' w w' :=
  (alloc_full h.at_.pg h.lv.ok hf).mono fun e w' ⟨h1, h2⟩ => ⟨h1, h.quiet h2, h2⟩
theorem wk_alloc (h : Pw w0 w L R F s len n T G K) (hn : n ≤ 1000000) (hf : s.p.free ≠ 0) : ∃ (k : Nat) (p' : Pg) (G' : List Nat), Took len s.p p' s.d G' K k ∧ Calls Tryz.prog 11 #[.pointer (some ⟨L.P, 0, none⟩)] w fun e w' => e = .returned (.tuple #[.int .i64 (k : Int), .int .i64 0]) ∧ Pw w0 w' L R F ⟨p', s.r, s.d⟩ len n T G' K ∧ To w w' L R F L R F := by
  obtain ⟨k, G', h1, ht, hc⟩ := h.lv.alloc hf
  refine ⟨k, (s.p.alloc s.d).2, G', ht, ?_⟩
  rcases hc with ⟨a1, a2, a3⟩ | ⟨a1, a2, a3, a4⟩
  · refine (alloc_fresh h.at_.pg h.lv.ok hf a1).mono ?_
    rintro e w' ⟨h2, h3, h4⟩
    rw [← a3] at h3
    rw [← a2] at h2
    exact ⟨h2, h.own h3 h4 ht.lv ht.pages ht.dirty⟩
  · refine (alloc_again h.at_.pg h.lv.ok h.at_.disk h.calm.dead (h.waits hn) hf a1 a3).mono ?_
    rintro e w' ⟨h2, h3, h4⟩
    rw [← a4] at h3
    rw [← a2] at h2
    exact ⟨h2, h.own h3 h4 ht.lv ht.pages ht.dirty⟩
theorem wk_write (h : Pw w0 w L R F s len n T G K) {k : Nat} (hu : s.p.uses (k : Int) = true) {g off cap : Nat} {x : Sec} (hv : Vec w 1 (.slice (some ⟨g, off, none⟩) 512 cap) 512 (bv x)) (hx : x.length = 512) (hg : ¬ L.own g) : Calls Tryz.prog 14 #[.pointer (some ⟨L.P, 0, none⟩), .int .i64 (k : Int), .slice (some ⟨g, off, none⟩) 512 cap] w fun e w' => e = .returned (.int .i64 0) ∧ Pw w0 w' L R F ⟨s.p.touched k x, s.r, s.d⟩ len n T G K ∧ To w w' L R F L R F :=
  (pwrite_ok h.at_.pg h.lv.ok hu hv hx hg).mono fun e w' ⟨h1, h2, h3⟩ => ⟨h1, h.own h2 (h3.mono fun k _ e => e.elim (fun e => .inr (.inr (.inl e))) fun e => .inr (.inr (.inr (.inr e)))) (h.lv.write hu hx).1 rfl rfl⟩
theorem wk_drop (h : Pw w0 w L R F s len n T G K) {k : Nat} (hu : s.p.uses (k : Int) = true) : Calls Tryz.prog 22 #[.pointer (some ⟨L.P, 0, none⟩), .int .i64 (k : Int)] w fun e w' => e = .returned (.int .i64 0) ∧ Pw w0 w' L R F ⟨s.p.dropped k, s.r, s.d⟩ len n T (k :: G) K ∧ To w w' L R F L R F :=
  (drop_ok h.at_.pg h.lv.ok hu).mono fun e w' ⟨h1, h2, h3⟩ => ⟨h1, h.own h2 h3 (h.lv.drop hu).1 rfl rfl⟩
theorem wk_nodrop (h : Pw w0 w L R F s len n T G K) {k : Int} (hu : s.p.uses k = false) : Calls Tryz.prog 22 #[.pointer (some ⟨L.P, 0, none⟩), .int .i64 k] w fun e w' => e = .returned (.int .i64 1) ∧ w = w' := drop_no h.at_.pg h.lv.ok hu
theorem wk_setRoot (h : Pw w0 w L R F s len n T G K) {k : Nat} (hu : k = 0 ∨ s.p.uses (k : Int) = true) : Calls Tryz.prog 12 #[.pointer (some ⟨L.P, 0, none⟩), .int .i64 (k : Int)] w fun e w' => e = .returned (.int .i64 0) ∧ Pw w0 w' L R F ⟨s.p.rooted k, s.r, s.d⟩ len n T G K ∧ To w w' L R F L R F := by
  have he : s.p.setRoot (k : Int) = (0, s.p.rooted k) := by
    unfold Pg.setRoot
    rw [if_neg]
    · rfl
    · rintro ⟨h1, h2⟩
      rcases hu with e | e
      · exact h1 (by omega)
      · rw [e] at h2; cases h2
  refine (setRoot_any h.at_.pg h.lv.ok (k : Int)).mono ?_
  rintro e w' ⟨h1, h2, h3⟩
  rw [he] at h1 h2
  exact ⟨h1, h.own h2 (h3.mono fun k _ e => .inl e) (h.lv.setRoot hu) rfl rfl⟩
theorem wk_free (h : Pw w0 w L R F s len n T G K) : Calls Tryz.prog 19 #[.pointer (some ⟨L.P, 0, none⟩)] w fun e w' => e = .returned (.int .i64 s.p.free) ∧ Pw w0 w' L R F s len n T G K ∧ Only None' w w' :=
  (free_any h.at_.pg h.lv.ok).mono fun e w' ⟨h1, h2⟩ => ⟨h1, h.quiet h2, h2⟩
theorem wk_root (h : Pw w0 w L R F s len n T G K) : Calls Tryz.prog 18 #[.pointer (some ⟨L.P, 0, none⟩)] w fun e w' => e = .returned (.int .i64 (s.p.m.root : Int)) ∧ w = w' := root_any h.at_.pg
theorem wk_pages (h : Pw w0 w L R F s len n T G K) : Calls Tryz.prog 21 #[.pointer (some ⟨L.P, 0, none⟩)] w fun e w' => e = .returned (.int .i64 (s.p.pages : Int)) ∧ w = w' := pages_any h.at_.pg
theorem wk_commit (h : Pw w0 w L R F s len n T G K) (hn : n ≤ 400000) (hT : T ≤ 999999000) (hcnt : s.p.count.length ≤ len / 8) (hroot : s.p.m.root = 0 ∨ s.p.uses (s.p.m.root : Int) = true) : ∃ s', s'.p.m = s.p.m ∧ s'.p.kept = s.p.m ∧ s'.p.now = [] ∧ s'.p.count = [] ∧ (∀ k, 1 ≤ k → s'.p.view s'.d k = s.p.view s.d k) ∧ (∀ k, 1 ≤ k → s'.p.comm s'.d k = s.p.view s.d k) ∧ Calls Tryz.prog 13 #[.pointer (some ⟨L.P, 0, none⟩)] w fun e w' => e = .returned (.int .i64 0) ∧ ∃ L' R' F', Pw w0 w' L' R' F' s' len (n + 600) (T + 100) G G ∧ To w w' L R F L' R' F' := by
  obtain ⟨b, rs, g, hTb⟩ := h.lg
  have hl64 := h.lv.l64
  have hl4 := h.lv.l400
  obtain ⟨s', b', rs', e, r1, r2, r3, r4, _, r5, r6, r7, r8, r9, r10⟩ := commit_calm h.lv g h.calm hcnt hroot (by omega)
  refine ⟨s', r5, r6, r7, r8, r9, r10, ?_⟩
  have hrok : s.r.Ok := by
    rw [g.ring]
    have := g.room
    have := g.base
    exact ⟨by show 1 ≤ len / 4; omega, by show 1 + len / 4 ≤ _; omega, by show b ≤ b + _; omega, by show b + _ ≤ b + _; omega, by show b + _ ≤ b + len / 4; omega, by show b + _ ≤ _; omega⟩
  refine (commit_any h.at_ h.lv.ok hrok h.calm.dead h.calm.few (by omega) (by rw [h.lv.dlen]; omega) (by rw [g.ring, h.lv.dlen]; show 1 + len / 4 ≤ len; omega) (by have := h.lv.nlen; have := h.lv.few; omega)).mono ?_
  rintro x w' ⟨h1, L', R', F', h2, t⟩
  rw [e] at h1 h2
  exact ⟨h1, L', R', F', h.step h2 t r1 ⟨b', rs', r2, by omega⟩ r4, t⟩
theorem wk_settle (h : Pw w0 w L R F s len n T G K) (hn : n ≤ 400000) : ∃ s', s'.p = s.p.settled ∧ s'.p.comm s'.d = s.p.comm s.d ∧ s'.p.view s'.d = s.p.view s.d ∧ Calls Tryz.prog 16 #[.pointer (some ⟨L.P, 0, none⟩)] w fun e w' => e = .returned (.int .i64 0) ∧ ∃ L' R' F', Pw w0 w' L' R' F' s' len (n + 600) T G K ∧ To w w' L R F L' R' F' := by
  obtain ⟨b, rs, g, hTb⟩ := h.lg
  have hl64 := h.lv.l64
  have hl4 := h.lv.l400
  obtain ⟨s', e, p', pd, g', c', _, cm⟩ := settle_calm h.lv.pd g h.calm
  have hvw : s'.p.view s'.d = s.p.view s.d := by
    funext k
    unfold Pg.view
    rw [cm, p']
    rfl
  refine ⟨s', p', cm, hvw, ?_⟩
  have htop : s.r.top ≤ 4611686018427387904 := by rw [g.ring]; have := g.base; show b + many b rs ≤ _; omega
  refine (Settle_any h.at_ h.lv.ok h.calm.dead h.calm.few (by omega) (by rw [h.lv.dlen]; omega) htop).mono ?_
  rintro x w' ⟨h1, L', R', F', h2, t⟩
  rw [e] at h1 h2
  refine ⟨h1, L', R', F', h.step h2 t ⟨h.lv.l64, h.lv.l400, pd.first, pd.pages, pd.dlen, pd.dok, pd.dirty, pd.dr, ?_, ?_, ?_, ?_, ?_, ?_, ?_, ?_, ?_, ?_, ?_⟩ ⟨_, _, g', by rw [many_nil]; omega⟩ ⟨c'.dead, c'.set, c'.len, c'.few.mono (by omega)⟩, t⟩
  · rw [p']; exact h.lv.now
  · rw [p']; exact h.lv.nr
  · rw [p']; exact h.lv.count
  · rw [p']; exact h.lv.idle
  · rw [p']; exact h.lv.mu
  · rw [p']; exact h.lv.mr
  · rw [hvw, p']; exact h.lv.fr
  · rw [p']; exact h.lv.ku
  · rw [p']; exact h.lv.kr
  · rw [cm, p']; exact h.lv.km
  · rw [cm, p']; exact h.lv.fk
theorem wk_abort (h : Pw w0 w L R F s len n T G K) (hn : n ≤ 400000) : ∃ s', s'.p.m = s.p.kept ∧ s'.p.kept = s.p.kept ∧ s'.p.comm s'.d = s.p.comm s.d ∧ s'.p.view s'.d = s.p.comm s.d ∧ s'.p.now = [] ∧ s'.p.count = [] ∧ s'.d = s.d ∧ Calls Tryz.prog 30 #[.pointer (some ⟨L.P, 0, none⟩)] w fun e w' => e = .returned (.int .i64 0) ∧ ∃ L' R' F', Pw w0 w' L' R' F' s' len n T K K ∧ To w w' L R F L' R' F' := by
  obtain ⟨a1, a2, a3, a4, a5, a6, a7, a8, a9, a10⟩ := h.lv.cm.abort
  obtain ⟨b, rs, g, hTb⟩ := h.lg
  refine ⟨s.abort, a2, a3, a4, a5, a7, a8, rfl, ?_⟩
  refine (abort_sy h.at_ h.lv.ok h.calm.dead h.calm.few (by omega) (by have := h.lv.first; have := h.lv.pages; have := h.lv.dlen; have := h.lv.l64; omega) (by have := h.lv.mu; omega)).mono ?_
  rintro x w' ⟨h1, L', R', F', h2, t⟩
  refine ⟨h1, L', R', F', h.step h2 t a1 ⟨b, rs, ⟨g.ring, g.holds, g.room, g.head, ?_, g.base⟩, hTb⟩ h.calm, t⟩
  show replayAll (((s.p.abort s.d).pages : Int) - 1) rs [] = some (s.p.abort s.d).dirty
  rw [a10, a6]
  exact g.rep
theorem wk_open (h : Pw w0 w L R F s len n T G K) (hn : n ≤ 400000) : ∃ s', s'.p.m = s.p.kept ∧ s'.p.kept = s.p.kept ∧ s'.p.comm s'.d = s.p.comm s.d ∧ s'.p.view s'.d = s.p.comm s.d ∧ s'.p.now = [] ∧ s'.p.count = [] ∧ s'.p.pages = s.p.pages ∧ s'.p.first = s.p.first ∧ s'.p.dirty = [] ∧ Calls Tryz.prog 17 #[.pointer (some ⟨L.D, 0, none⟩)] w fun e w' => ∃ L' R' F', e = .returned (.tuple #[.pointer (some ⟨L'.P, 0, none⟩), .int .i64 0]) ∧ Pw w0 w' L' R' F' s' len (n + 600) T K K ∧ L'.D = L.D ∧ (∀ k, L'.own k → w.heap.size ≤ k) ∧ w.heap.size ≤ R' ∧ Kept F F' w w' := by
  obtain ⟨b, rs, g, hTb⟩ := h.lg
  have hl64 := h.lv.l64
  have hl4 := h.lv.l400
  obtain ⟨s', e, r1, r2, r3, _, r4, r5, r6, r7, r8, r9, r10, r11, r12⟩ := open_core h.lv.cm g h.calm
  refine ⟨s', r4, r5, r6, r7, r8, r12, r11, r10, r9, ?_⟩
  refine (Open_any h.at_.disk h.calm.dead h.calm.few (by omega) (by rw [h.lv.dlen]; omega) (by rw [h.lv.dlen]; omega)).mono ?_
  intro x w' hx
  unfold OpenRes at hx
  rw [e] at hx
  rcases hx with ⟨h1, _⟩ | ⟨_, L', R', F', h1, h2, h3, h4, h5, h6⟩
  · exact absurd rfl h1
  · have hs0 := h.only.size
    have hFn : ∀ k, F k → w0.heap.size ≤ k := fun k hk => h.new k (.inr (.inr hk))
    refine ⟨L', R', F', h1, ⟨h2, fun k hk => ?_, h.only.trans2 h6.only fun k hk e => by have := hFn k e; omega, r1, ⟨_, _, r2, by rw [many_nil]; omega⟩, ⟨r3.dead, r3.set, r3.len, r3.few.mono (by omega)⟩⟩, h3, h4, h5, h6⟩
    rcases hk with hk | rfl | hk
    · have := h4 k hk; omega
    · omega
    · rcases h6.fresh k hk with e | e
      · exact hFn k e
      · omega
theorem wk_read (h : Pw w0 w L R F s len n T G K) (hn : n ≤ 400000) {k : Nat} (hu : s.p.uses (k : Int) = true) : Calls Tryz.prog 20 #[.pointer (some ⟨L.P, 0, none⟩), .int .i64 (k : Int)] w fun e w' => ∃ v, e = .returned (.tuple #[v, .int .i64 0]) ∧ Vec w' 1 v 512 (bv (s.p.view s.d k)) ∧ (∀ g, v.ownBlock = some g → w.heap.size ≤ g) ∧ Pw w0 w' L R F s len n T G K ∧ Only None' w w' := by
  obtain ⟨k', e, h1, h2, h3⟩ := h.lv.in_use hu
  have e' : k = k' := by omega
  subst e'
  have hg := h.lv.get (n := k) (by have := h.lv.mu; omega)
  exact (pread_ok h.at_.pg h.lv.ok h.at_.disk h.calm.dead (h.waits (by omega)) hu hg).mono fun e w' ⟨v, a1, a2, a3, a4⟩ => ⟨v, a1, a2, a3, h.quiet a4, a4⟩
end
end Go.Proofs.YteoeaojebklfjaaGreatDoor
