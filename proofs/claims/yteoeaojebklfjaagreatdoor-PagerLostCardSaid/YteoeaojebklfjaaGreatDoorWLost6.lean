/- X3 Y5 in one text. -/
import Derived.Test.YteoeaojebklfjaaGreatDoorWLost5
namespace Go.Proofs.YteoeaojebklfjaaGreatDoor
open Go.RowKit Go.Maps
set_option linter.unusedVariables false
section
variable {N : Nat} {d e : Dk}
theorem Tw.get (t : Tw N d e) (p : Pg) (n : Nat) : p.get d n = p.get e n := by
  unfold Pg.get
  rw [t.lasts, t.read]
theorem Tw.chase (t : Tw N d e) (p : Pg) : ∀ (f n : Nat) (I : List (Nat × Bool)), p.chase d f n I = p.chase e f n I
  | 0, _, _ => rfl
  | f + 1, n, I => by
    unfold Pg.chase
    rw [t.get, Tw.chase t p f]
theorem Tw.abort (t : Tw N d e) (p : Pg) : p.abort d = p.abort e := by
  unfold Pg.abort Pg.aborting
  rw [t.get, t.chase]
theorem Died.len {L : List Sec} {ws : List (Nat × Sec)} (h : Died d L ws) : d.lasts.length = L.length := by
  obtain ⟨_, _, kp, h⟩ := h
  rw [h, settle_length]
end
structure Mt (len : Nat) (V : Nat → Sec) (m : Meta) (K : List Nat) : Prop where
  ku : 1 ≤ m.used ∧ m.used ≤ len - 1 - len / 4
  kr : m.root = 0 ∨ (m.root < m.used ∧ m.root ∉ K)
  km : metaOf (V 0) = m
  fk : Frees V m K
theorem Cm.mt {len : Nat} {p : Pg} {d : Dk} {m : Meta} {K : List Nat} (h : Cm len p d m K) : Mt len (p.comm d) m K := ⟨by have := h.ku; rw [h.pd.pages] at this; exact this, h.kr, h.km, h.fk⟩
section
variable {N len top : Nat} {s : Sy} {e : Dk}
theorem Tw.settle (t : Tw N s.d e) (h : Pd len s.p e) (hw : e.waits = []) :
    ((s.settle top).1 = 0 ∧ ((Sy.mk s.p s.r e).settle top).1 = 0 ∧ (s.settle top).2.p = ((Sy.mk s.p s.r e).settle top).2.p ∧ (s.settle top).2.r = ((Sy.mk s.p s.r e).settle top).2.r ∧ Tw (N - 403) (s.settle top).2.d ((Sy.mk s.p s.r e).settle top).2.d) ∨
    (N < 403 ∧ (s.settle top).1 = 20 ∧ (Died (s.settle top).2.d e.lasts (pageWs s.p.first s.p.dirty) ∨ Died (s.settle top).2.d (settle (fun _ => true) 0 (pageWs s.p.first s.p.dirty) e.lasts) [(0, headB top)])) := by
  have hdl := h.dl
  have h64 := h.l64
  rcases t.settleD (first := s.p.first) (base := top) (l := s.p.dirty) hw (fun q hq => by rw [h.dlen]; have := (h.dirty q hq).1; have := h.first; have := h.pages; omega) with ⟨a, b, c, _⟩ | ⟨a, b, c⟩
  · refine .inl ?_
    unfold Sy.settle
    simp only
    rw [if_pos a, if_pos b]
    refine ⟨rfl, rfl, rfl, ?_, c.less (by omega)⟩
    show Rg.opened 1 (s.d.lasts.length / 4) top _ = Rg.opened 1 (e.lasts.length / 4) top _
    rw [t.lasts, c.gAt]
  · refine .inr ⟨by omega, ?_⟩
    unfold Sy.settle
    rw [if_neg (by rw [b]; decide)]
    exact ⟨b, c⟩
end
theorem open_tw {len n N T : Nat} {d e : Dk} {V : Nat → Sec} {m : Meta} {K : List Nat} (t : Tw N d e) (hc : e.Calm len n) (hw : e.waits = []) (h64 : 64 ≤ len) (h400 : len ≤ 400) (hv : HasV len e.lasts V T) (hT : T ≤ 1000000000) (mt : Mt len V m K) :
    ∃ p r e', openS e = (0, ⟨p, r, e'⟩) ∧ Lv len p e' K K ∧ (∃ b, Lg len ⟨p, r, e'⟩ b [] ∧ b ≤ T) ∧ e'.Calm len (n + 403) ∧ e'.waits = [] ∧ p.m = m ∧ p.kept = m ∧ p.comm e' = V ∧ p.view e' = V ∧ p.now = [] ∧ p.count = [] ∧
    ((∃ d', openS d = (0, ⟨p, r, d'⟩) ∧ Tw (N - 403) d' e') ∨
    (N < 403 ∧ (openS d).1 = 20 ∧ (openS d).2.d.dead = true ∧ (openS d).2.d.waits = [] ∧ HasV len (openS d).2.d.lasts V T)) := by
  obtain ⟨base, rs, D, o, hV⟩ := hv
  have hg := gAt_gL hw 1
  obtain ⟨top, htop⟩ : ∃ top, top = topG (len / 4) (gAt 1 e) base (len / 4) := ⟨_, rfl⟩
  have hle : ∀ i p, i < len / 4 → seeG (len / 4) (gAt 1 e) i = some p → p.n ≤ top := fun i p hi hp => by rw [htop]; exact topG_ge hp _ hi
  have hbt : base ≤ top := by rw [htop]; exact topG_le _
  have htT : top ≤ T := by
    rw [htop, hg]
    exact topG_upto o.base o.le _ (Nat.le_refl _)
  have o1 : OnD len e.lasts base rs D top := ⟨o.ln, o.ok, o.head, o.run, fun i p hi hp => hle i p hi (by rw [hg]; exact hp), hbt, o.rep, o.dirty, o.dr⟩
  have hb63 : base < 9223372036854775808 := by omega
  obtain ⟨pD, hpD⟩ : ∃ pD : Pg, pD = { Pg.made len with dirty := D } := ⟨_, rfl⟩
  obtain ⟨rD, hrD⟩ : ∃ rD : Rg, rD = Rg.opened 1 (len / 4) base (gAt 1 e) := ⟨_, rfl⟩
  have hst : rD.top = top := by rw [hrD, htop]; rfl
  have hopG : ∀ x : Dk, x.lasts = e.lasts → x.waits = e.waits → openS x = if ((Sy.mk pD rD x).settle top).1 ≠ 0 then (Sy.mk pD rD x).settle top else (0, ((Sy.mk pD rD x).settle top).2.abort) := fun x h1 h2 => by
    have hr : ∀ i, x.read i = e.read i := fun i => by unfold Dk.read; rw [h1, h2]
    have hgx : gAt 1 x = gAt 1 e := funext fun i => hr _
    have hdl : x.lasts.length = len := by rw [h1]; exact o.ln
    have hr0 : x.read 0 = headB base := by rw [hr, read_done hw]; exact o.head
    have hno : ¬ (x.lasts.length < 64 ∨ (x.read 0).take 8 ≠ markB ∨ 127 < ((x.read 0).getD 8 0).toNat) := by
      rw [hr0, hdl, headB_take]
      have := headB_byte hb63
      rintro (e | e | e)
      · omega
      · exact e rfl
      · omega
    have := open_on (d := x) (base := base) (D := D) hno (by rw [hr0]; exact (headB_num hb63).symm) (by omega) (by rw [hdl, hgx, hg, o.run]; exact o.rep) (s := ⟨pD, rD, x⟩) (by rw [hdl, hgx, hpD, hrD])
    rw [this]
    show (if ((Sy.mk pD rD x).settle rD.top).1 ≠ 0 then (Sy.mk pD rD x).settle rD.top else (0, ((Sy.mk pD rD x).settle rD.top).2.abort)) = _
    rw [hst]
  have hpd : Pd len pD e := by
    rw [hpD]
    exact ⟨h64, h400, rfl, rfl, o.ln, ⟨o.ok, (fun p hp => by rw [hw] at hp; cases hp), by rw [o.ln]; omega⟩, o.dirty, o.dr⟩
  have hcomm : pD.comm e = V := by
    rw [← hV, hpD]
    funext k
    unfold vL Pg.comm
    rw [read_done hw]
    rfl
  obtain ⟨s2, e2, p2, pd2, g2, c2, w2, cm2⟩ := settle_top (s := ⟨pD, rD, e⟩) hpd hle (by omega) hc
  have hcm2 : Cm len s2.p s2.d m K := by
    have hpg : s2.p.pages = len - 1 - len / 4 := pd2.pages
    have hcv : s2.p.comm s2.d = V := cm2.trans hcomm
    exact ⟨pd2, by rw [hpg]; exact mt.ku, mt.kr, by rw [hcv]; exact mt.km, by rw [hcv]; exact mt.fk⟩
  obtain ⟨a1, a2, a3, a4, a5, a6, a7, a8, a9, a10⟩ := hcm2.abort
  refine ⟨s2.p.abort s2.d, s2.r, s2.d, ?_, a1, ⟨top, ⟨g2.ring, g2.holds, g2.room, g2.head, ?_, g2.base⟩, htT⟩, c2, w2, a2, a3, a4.trans (cm2.trans hcomm), a5.trans (cm2.trans hcomm), a7, a8, ?_⟩
  · rw [hopG e rfl rfl, e2, if_neg (by simp)]
    rfl
  · show replayAll (((s2.p.abort s2.d).pages : Int) - 1) [] [] = some (s2.p.abort s2.d).dirty
    rw [a6, p2]
    rfl
  have hod := hopG d t.lasts t.waits
  rcases Tw.settle (s := ⟨pD, rD, d⟩) (top := top) t hpd hw with ⟨a, b, x1, x2, x3⟩ | ⟨a, b, c⟩
  · have x1' : ((Sy.mk pD rD d).settle top).2.p = s2.p := by rw [x1]; exact congrArg (fun z : Int × Sy => z.2.p) e2
    have x2' : ((Sy.mk pD rD d).settle top).2.r = s2.r := by rw [x2]; exact congrArg (fun z : Int × Sy => z.2.r) e2
    have x3' : Tw (N - 403) ((Sy.mk pD rD d).settle top).2.d s2.d := by
      have e3 : ((Sy.mk pD rD e).settle top).2.d = s2.d := congrArg (fun z : Int × Sy => z.2.d) e2
      have x3 : Tw (N - 403) ((Sy.mk pD rD d).settle top).2.d ((Sy.mk pD rD e).settle top).2.d := x3
      rw [e3] at x3
      exact x3
    refine .inl ⟨((Sy.mk pD rD d).settle top).2.d, ?_, x3'⟩
    rw [hod, if_neg (by rw [a]; simp)]
    unfold Sy.abort
    rw [x1', x2', x3'.abort]
  · refine .inr ⟨a, ?_⟩
    have hoe : openS d = (Sy.mk pD rD d).settle top := by rw [hod, if_pos (by rw [b]; decide)]
    rw [hoe]
    have hfirst : pD.first = 1 + len / 4 := by rw [hpD]; rfl
    have hdirty : pD.dirty = D := by rw [hpD]
    have c : Died ((Sy.mk pD rD d).settle top).2.d e.lasts (pageWs pD.first pD.dirty) ∨ Died ((Sy.mk pD rD d).settle top).2.d (settle (fun _ => true) 0 (pageWs pD.first pD.dirty) e.lasts) [(0, headB top)] := c
    rw [hfirst, hdirty] at c
    refine ⟨b, ?_⟩
    rcases c with ⟨c1, c2, kp, c3⟩ | ⟨c1, c2, kp, c3⟩
    · obtain ⟨y1, y2⟩ := o1.pages h64 kp
      exact ⟨c1, c2, by rw [c3]; exact ⟨base, rs, D, y1.upto htT, y2.trans hV⟩⟩
    · refine ⟨c1, c2, ?_⟩
      rw [c3, ← hV]
      exact (o1.headed h64 kp).upto htT
theorem app_go {r : Rg} {d : Dk} {rec : Rec} (h : refuse r (cutN rec.length) = none) : appR r d rec = match Dk.puts r.place (cutR r.last rec) d with
    | (d', true) => (0, { r with last := r.last + cutN rec.length, top := r.last + cutN rec.length }, d')
    | (d', false) => (20, r, d') := by
  unfold refuse at h
  unfold appR
  split at h
  · cases h
  rename_i g
  rw [if_neg g]
  split at h
  · cases h
  rename_i g
  rw [if_neg g]
  split at h
  · cases h
  rename_i g
  rw [if_neg g]
  split at h
  · cases h
  rename_i g
  rw [if_neg g]
  rfl
theorem Tw.append {N : Nat} {s : Sy} {e : Dk} (t : Tw N s.d e) {rec : Rec} (h : refuse s.r (cutN rec.length) = none) :
    ((s.append rec).1 = 0 ∧ ((Sy.mk s.p s.r e).append rec).1 = 0 ∧ (s.append rec).2.p = s.p ∧ ((Sy.mk s.p s.r e).append rec).2.p = s.p ∧ (s.append rec).2.r = ((Sy.mk s.p s.r e).append rec).2.r ∧ Tw (N - cutN rec.length) (s.append rec).2.d ((Sy.mk s.p s.r e).append rec).2.d ∧ ((Sy.mk s.p s.r e).append rec).2.d.lasts = e.lasts ∧ ((Sy.mk s.p s.r e).append rec).2.d.waits = e.waits ++ pieceWs s.r.place (cutR s.r.last rec)) ∨
    (N < cutN rec.length ∧ (s.append rec).1 = 20 ∧ Died (s.append rec).2.d e.lasts (e.waits ++ pieceWs s.r.place (cutR s.r.last rec))) := by
  have hl : (cutR s.r.last rec).length = cutN rec.length := cutR_length _ _
  have hd := app_go (d := s.d) h
  have he := app_go (d := e) h
  obtain ⟨x, hx⟩ : ∃ x, x = Dk.puts s.r.place (cutR s.r.last rec) s.d := ⟨_, rfl⟩
  obtain ⟨y, hy⟩ : ∃ y, y = Dk.puts s.r.place (cutR s.r.last rec) e := ⟨_, rfl⟩
  have hp := Tw.puts s.r.place (cutR s.r.last rec) t
  rw [← hx, ← hy, hl] at hp
  rw [← hx] at hd
  rw [← hy] at he
  obtain ⟨x1, x2⟩ := x
  obtain ⟨y1, y2⟩ := y
  unfold Sy.append
  rcases hp with ⟨a, b, c, f, g⟩ | ⟨a, b, b', c⟩
  · simp only at a b c f g
    subst a; subst b
    rw [hd, he]
    exact .inl ⟨rfl, rfl, rfl, rfl, rfl, c, f, g⟩
  · simp only at b c
    subst b
    rw [hd]
    exact .inr ⟨a, rfl, c⟩
theorem tail_tw {len n N base T : Nat} {s2 s' : Sy} {e2 : Dk} {rs : List Rec} {rec : Rec} (t : Tw N s2.d e2) (h : Pd len s2.p e2) (g : Lg len ⟨s2.p, s2.r, e2⟩ base rs) (hc : e2.Calm len n) (hw : e2.waits = []) (hfit : many base rs + cutN rec.length ≤ len / 4) (hT : base + many base rs + cutN rec.length ≤ T) (hT' : T ≤ 1000000000)
    (hs : Sy.finish ((Sy.mk s2.p s2.r e2).append rec) = (0, s')) (hrep : replayAll (((len - 1 - len / 4 : Nat) : Int) - 1) (rs ++ [rec]) [] = some s'.p.dirty) (hdr : kRise s'.p.dirty) (hdl : ∀ q ∈ s'.p.dirty, q.1 < len - 1 - len / 4 ∧ q.2.length = 512) :
    ((Sy.finish (s2.append rec)).1 = 0 ∧ (Sy.finish (s2.append rec)).2.p = s'.p ∧ (Sy.finish (s2.append rec)).2.r = s'.r ∧ Tw (N - 101) (Sy.finish (s2.append rec)).2.d s'.d) ∨
    (N < 101 ∧ (Sy.finish (s2.append rec)).1 = 20 ∧ (Sy.finish (s2.append rec)).2.d.dead = true ∧ (Sy.finish (s2.append rec)).2.d.waits = [] ∧ (HasV len (Sy.finish (s2.append rec)).2.d.lasts (s2.p.comm e2) T ∨ HasV len (Sy.finish (s2.append rec)).2.d.lasts (s'.p.comm s'.d) T)) := by
  have h64 := h.l64
  have h400 := h.l400
  have htop := g.base
  obtain ⟨o, hv, hh⟩ := Lg.onD (s := ⟨s2.p, s2.r, e2⟩) h g hw
  have hring : s2.r = Rg.of 1 (len / 4) base rs := g.ring
  have hno : refuse s2.r (cutN rec.length) = none := by
    rw [hring]
    unfold refuse Rg.room Rg.of
    simp only [Nat.lt_irrefl, if_false]
    rw [if_neg (by omega), if_neg (by omega), if_neg (by omega)]
  have hpw : pieceWs s2.r.place (cutR s2.r.last rec) = (cutR (base + many base rs) rec).map (wr 1 (len / 4)) := by rw [hring]; rfl
  obtain ⟨s3, e3, p3, r3, hh3, c3, o3, rd3⟩ := append_calm (s := ⟨s2.p, s2.r, e2⟩) h g hc hfit
  have hfin : s' = ⟨s2.p.done, s3.r, s3.d.flush⟩ := by
    rw [e3] at hs
    unfold Sy.finish at hs
    simp only [ne_eq, not_true_eq_false, if_false] at hs
    rw [c3.err, if_neg (by simp), p3] at hs
    injection hs with _ hs
    exact hs.symm
  have hcv : vL len e2.lasts s'.p.dirty = s'.p.comm s'.d := by
    funext k
    unfold vL Pg.comm
    have h1 : s'.p.first = 1 + len / 4 := by rw [hfin]; exact h.first
    have h2 : s'.d.read (1 + len / 4 + k) = e2.lasts.getD (1 + len / 4 + k) [] := by
      rw [hfin]
      show s3.d.flush.read _ = _
      rw [read_flush o3 c3.due, rd3 _ (.inr (by omega))]
      exact read_done hw _
    rw [h1, h2]
  have died : ∀ {x : Dk}, Died x e2.lasts ((cutR (base + many base rs) rec).map (wr 1 (len / 4))) → x.dead = true ∧ x.waits = [] ∧ (HasV len x.lasts (s2.p.comm e2) T ∨ HasV len x.lasts (s'.p.comm s'.d) T) := fun {x} hx => by
    obtain ⟨x1, x2, kp, x3⟩ := hx
    refine ⟨x1, x2, ?_⟩
    rw [x3, ← hv, ← hcv]
    exact o.appended h64 hh hfit hT hT' hrep hdl hdr kp
  have hcut : cutN rec.length ≤ 100 := by omega
  rcases t.append (rec := rec) hno with ⟨a, b, y1, y2, y3, y4, y5, y6⟩ | ⟨a, b, c⟩
  · rw [e3] at y3 y4 y5 y6
    rw [hw, List.nil_append, hpw] at y6
    unfold Sy.finish
    rw [if_neg (by rw [a]; simp)]
    rcases y4.flush with ⟨f1, f2⟩ | ⟨f1, f2, f3⟩
    · rw [if_neg (by unfold Dk.err; rw [f1]; simp)]
      refine .inl ⟨rfl, ?_, ?_, ?_⟩
      · show (s2.append rec).2.p.done = _
        rw [y1, hfin]
      · show (s2.append rec).2.r = _
        rw [y3, hfin]
      · rw [hfin]
        exact f2.less (by omega)
    · have herr : (s2.append rec).2.d.err = 20 := by unfold Dk.err; rw [f2]; rfl
      rw [if_pos (by rw [herr]; decide)]
      rw [y5, y6] at f3
      exact .inr ⟨by omega, herr, died f3⟩
  · rw [hw, List.nil_append, hpw] at c
    unfold Sy.finish
    rw [if_pos (by rw [b]; decide)]
    exact .inr ⟨by omega, b, died c⟩
theorem commit_tw {len n N base : Nat} {s : Sy} {e : Dk} {F K : List Nat} {rs : List Rec} (t : Tw N s.d e) (h : Lv len s.p e F K) (g : Lg len ⟨s.p, s.r, e⟩ base rs) (hc : e.Calm len n) (hw : e.waits = []) (hcnt : s.p.count.length ≤ len / 8) (hroot : s.p.m.root = 0 ∨ s.p.uses (s.p.m.root : Int) = true) (htop : base + many base rs ≤ 999999000) :
    ∃ s' base' rs', (Sy.mk s.p s.r e).commit = (0, s') ∧ Lv len s'.p s'.d F F ∧ Lg len s' base' rs' ∧ base' + many base' rs' ≤ base + many base rs + 100 ∧ s'.d.Calm len (n + 600) ∧ s'.d.waits = [] ∧ s'.p.m = s.p.m ∧ s'.p.kept = s.p.m ∧ s'.p.now = [] ∧ s'.p.count = [] ∧ (∀ k, 1 ≤ k → s'.p.view s'.d k = s.p.view e k) ∧ (∀ k, 1 ≤ k → s'.p.comm s'.d k = s.p.view e k) ∧
      ((s.commit.1 = 0 ∧ s.commit.2.p = s'.p ∧ s.commit.2.r = s'.r ∧ Tw (N - 600) s.commit.2.d s'.d) ∨
      (N < 600 ∧ s.commit.1 = 20 ∧ s.commit.2.d.dead = true ∧ s.commit.2.d.waits = [] ∧ (HasV len s.commit.2.d.lasts (s.p.comm e) (base + many base rs + 100) ∨ HasV len s.commit.2.d.lasts (s'.p.comm s'.d) (base + many base rs + 100)))) := by
  obtain ⟨se, hse⟩ : ∃ se : Sy, se = ⟨s.p, s.r, e⟩ := ⟨_, rfl⟩
  have hl64 := h.l64
  have hl4 := h.l400
  have hlen : s.p.record.length ≤ 522 * (len / 8 + 1) := by
    have h1 := recG_len (ins 0 s.p.m.page s.p.now) fun q hq => by
      rcases mem_ins hq with rfl | hq
      · exact Meta.page_len _
      · exact (h.now q hq).2.2
    have h2 := len_ins 0 s.p.m.page s.p.now
    have h3 : s.p.now.length = s.p.count.length := by rw [h.count, List.length_map]
    have h4 : 522 * (ins 0 s.p.m.page s.p.now).length ≤ 522 * (len / 8 + 1) := Nat.mul_le_mul_left _ (by omega)
    exact Nat.le_trans h1 h4
  have hcut := cutN_le hlen
  have hcle : cutN s.p.record.length ≤ len / 4 := by omega
  have hlog : s.p.logged = s.p := logged_same h
  have hcomG : ∀ d0 : Dk, d0.lasts.length = len → (Sy.mk s.p s.r d0).commit = Sy.finish (Sy.log ⟨s.p, s.r, d0⟩ s.p.record) := fun d0 hd0 => by
    unfold Sy.commit
    rw [hd0, if_neg (by show ¬ len / 8 < s.p.count.length; omega), if_neg (by
      rintro ⟨h1, h2⟩
      rcases hroot with e | e
      · exact h1 e
      · rw [h2] at e; cases e), hlog]
  have hcom := hcomG e h.dlen
  have hcomd : s.commit = Sy.finish (Sy.log s s.p.record) := hcomG s.d (by rw [t.lasts]; exact h.dlen)
  rw [hcom, hcomd]
  obtain ⟨rec, hrec⟩ : ∃ rec, rec = s.p.record := ⟨_, rfl⟩
  have hpgs : ∀ {s' : Sy}, Lv len s'.p s'.d F F → s'.p.pages = len - 1 - len / 4 := fun x => x.pages
  by_cases hfit : many base rs + cutN s.p.record.length ≤ len / 4
  · obtain ⟨s', ef, r1, r2, r3, r4, r5⟩ := commit_tail (s := ⟨s.p, s.r, e⟩) (s2 := ⟨s.p, s.r, e⟩) h (.inl rfl) h.pd g hc rfl hroot hfit (by show base + many base rs + cutN s.p.record.length ≤ _; omega)
    have hap := append_calm (s := ⟨s.p, s.r, e⟩) h.pd g hc hfit
    obtain ⟨sa, ea, _⟩ := hap
    refine ⟨s', base, rs ++ [s.p.record], ?_, r1, r2, ?_, ⟨r3.dead, r3.set, r3.len, r3.few.mono (by show n + cutN s.p.record.length + 1 ≤ _; omega)⟩, r4, r5.1, r5.2.1, r5.2.2.1, r5.2.2.2.1, r5.2.2.2.2.1, r5.2.2.2.2.2, ?_⟩
    · unfold Sy.log
      rw [ea]
      simp only
      rw [if_neg (by decide), ← ea]
      exact ef
    · rw [many_snoc]; omega
    · have hrep := r2.rep
      rw [hpgs r1] at hrep
      have htw := tail_tw (T := base + many base rs + 100) t h.pd g hc hw hfit (by omega) (by omega) ef hrep r1.dr fun q hq => by have := r1.dirty q hq; rw [hpgs r1] at this; exact this
      have hlg : Sy.log s s.p.record = s.append s.p.record := by
        unfold Sy.log
        rw [if_neg]
        have hring : s.r = Rg.of 1 (len / 4) base rs := g.ring
        rcases t.append (rec := s.p.record) (by
          rw [hring]
          unfold refuse Rg.room Rg.of
          simp only [Nat.lt_irrefl, if_false]
          rw [if_neg (by omega), if_neg (by omega), if_neg (by omega)]) with ⟨a, _⟩ | ⟨_, a, _⟩
        · rw [a]; decide
        · rw [a]; decide
      rw [hlg]
      rcases htw with ⟨a, b, c, f⟩ | ⟨a, b⟩
      · exact .inl ⟨a, b, c, f.less (by omega)⟩
      · exact .inr ⟨by omega, b⟩
  · obtain ⟨s1, e1, p1, pd1, g1, c1, w1, cm1⟩ := settle_calm (s := ⟨s.p, s.r, e⟩) h.pd g hc
    have hmn : many (base + many base rs) ([] : List Rec) = 0 := many_nil _
    obtain ⟨s', ef, r1, r2, r3, r4, r5⟩ := commit_tail (s := ⟨s.p, s.r, e⟩) (s2 := s1) h (.inr p1) pd1 g1 c1 cm1 hroot (by rw [hmn]; show 0 + cutN s.p.record.length ≤ _; omega) (by rw [hmn]; show _ + 0 + cutN s.p.record.length ≤ _; omega)
    have hring : s.r = Rg.of 1 (len / 4) base rs := g.ring
    have htp : s.r.top = base + many base rs := by rw [hring]; rfl
    refine ⟨s', base + many base rs, [] ++ [s.p.record], ?_, r1, r2, ?_, ⟨r3.dead, r3.set, r3.len, r3.few.mono (by show n + 403 + cutN s.p.record.length + 1 ≤ _; omega)⟩, r4, r5.1, r5.2.1, r5.2.2.1, r5.2.2.2.1, r5.2.2.2.2.1, r5.2.2.2.2.2, ?_⟩
    · unfold Sy.log
      rw [append_full (s := ⟨s.p, s.r, e⟩) h.pd g hcle hfit]
      simp only [if_true]
      rw [e1]
      simp only [if_true]
      exact ef
    · rw [many_snoc, hmn]; omega
    · have hfull : s.append s.p.record = (3, s) := by
        have hroom := g.room
        have hpos := cutN_pos s.p.record.length
        have hno : refuse s.r (cutN s.p.record.length) = some 3 := by
          rw [hring]
          unfold refuse Rg.room Rg.of
          simp only [Nat.lt_irrefl, if_false]
          rw [if_neg (by omega), if_pos (by omega)]
        unfold Sy.append
        rw [app_refused hno]
      have hlg : Sy.log s s.p.record = if (s.settle s.r.top).1 = 0 then (s.settle s.r.top).2.append s.p.record else s.settle s.r.top := by
        unfold Sy.log
        rw [hfull]
        simp only [if_true]
      rw [hlg]
      rcases t.settle (top := s.r.top) h.pd hw with ⟨a, b, x1, x2, x3⟩ | ⟨a, b, c⟩
      · rw [if_pos a]
        rw [e1] at x1 x2 x3
        have hrep := r2.rep
        rw [hpgs r1] at hrep
        obtain ⟨s4, hs4⟩ : ∃ s4, s4 = (s.settle s.r.top).2 := ⟨_, rfl⟩
        rw [← hs4] at x1 x2 x3 ⊢
        have hq : (Sy.mk s4.p s4.r s1.d) = s1 := by rw [x1, x2]
        have htw := tail_tw (T := base + many base rs + 100) (s2 := s4) (e2 := s1.d) (s' := s') (rec := s.p.record) (rs := []) (base := base + many base rs) x3 (by rw [x1]; exact pd1) (by rw [hq]; exact g1) c1 w1 (by rw [hmn]; omega) (by rw [hmn]; omega) (by omega) (by rw [hq]; exact ef) hrep r1.dr fun q hq => by have := r1.dirty q hq; rw [hpgs r1] at this; exact this
        have hcm : s4.p.comm s1.d = s.p.comm e := by rw [x1]; exact cm1
        rw [hcm] at htw
        rcases htw with ⟨a, b, c, f⟩ | ⟨a, b⟩
        · exact .inl ⟨a, b, c, f.less (by omega)⟩
        · exact .inr ⟨by omega, b⟩
      · rw [if_neg (by rw [b]; decide)]
        have hfin : Sy.finish (s.settle s.r.top) = s.settle s.r.top := by
          unfold Sy.finish
          rw [if_pos (by rw [b]; decide)]
        rw [hfin]
        rw [h.first, htp] at c
        rw [htp] at b ⊢
        refine .inr ⟨by omega, b, ?_⟩
        obtain ⟨o, hv, _⟩ := Lg.onD (s := ⟨s.p, s.r, e⟩) h.pd g hw
        have o' : OnD len e.lasts base rs s.p.dirty (base + many base rs) := o
        have hv' : vL len e.lasts s.p.dirty = s.p.comm e := hv
        rcases c with ⟨c1, c2, kp, c3⟩ | ⟨c1, c2, kp, c3⟩
        · obtain ⟨y1, y2⟩ := o'.pages hl64 kp
          exact ⟨c1, c2, .inl (by rw [c3]; exact ⟨base, rs, _, y1.upto (by omega), y2.trans hv'⟩)⟩
        · refine ⟨c1, c2, .inl ?_⟩
          rw [c3, ← hv']
          exact (o'.headed hl64 kp).upto (by omega)
end Go.Proofs.YteoeaojebklfjaaGreatDoor
namespace Go.Proofs.YteoeaojebklfjaaGreatDoor
open Go.RowKit Go.Maps
set_option linter.unusedVariables false
def Un (d : Dk) : Prop := d.dead = false ∧ d.set = false
theorem Un.due {d : Dk} (h : Un d) : d.due = false := by unfold Dk.due; rw [h.2]; rfl
theorem Un.err {d : Dk} (h : Un d) : d.err = 0 := by unfold Dk.err; rw [h.due]; rfl
theorem Un.write {d : Dk} (h : Un d) (i : Nat) (s : Sec) : Un (d.write i s) := by
  unfold Dk.write
  rw [h.due]
  exact h
theorem Un.flush {d : Dk} (h : Un d) : Un d.flush := by
  unfold Dk.flush
  rw [h.due]
  exact h
theorem Un.layP (first : Nat) : ∀ (l : List (Nat × Sec)) {d : Dk}, Un d → Un (layP first l d).2
  | [], d, h => h
  | q :: l, d, h => by
    rw [layP_cons]
    split
    · rw [h.due]
      simp only [Bool.false_eq_true, if_false]
      exact Un.layP first l (h.write _ _)
    · exact h
theorem Un.headR {d : Dk} (h : Un d) (base : Nat) : Un (headR d base).2 := by
  unfold Go.Proofs.YteoeaojebklfjaaGreatDoor.headR
  rw [h.due]
  simp only [Bool.false_eq_true, if_false]
  exact (h.write _ _).flush
theorem Un.settleD {first base : Nat} {l : List (Nat × Sec)} {d : Dk} (h : Un d) : Un (settleD first l d base).2 := by
  unfold Go.Proofs.YteoeaojebklfjaaGreatDoor.settleD
  have h1 := h.layP first l
  split
  · exact h1
  · rw [h1.due]
    simp only [Bool.false_eq_true, if_false]
    exact h1.flush.headR base
theorem Un.puts (pl : Nat → Nat) : ∀ (l : List Pc) {d : Dk}, Un d → Un (Dk.puts pl l d).1
  | [], d, h => h
  | q :: l, d, h => by
    rw [Dk.puts, h.due]
    simp only [Bool.false_eq_true, if_false]
    exact Un.puts pl l (h.write _ _)
theorem Un.appR {r : Rg} {d : Dk} (h : Un d) (rec : Rec) : Un (appR r d rec).2.2 := by
  have h1 := h.puts r.place (cutR r.last rec)
  unfold Go.Proofs.YteoeaojebklfjaaGreatDoor.appR
  split
  · exact h
  · split
    · exact h
    · split
      · exact h
      · split
        · exact h
        · split
          · rename_i d' e; rw [e] at h1; exact h1
          · rename_i d' e; rw [e] at h1; exact h1
theorem Un.settle {s : Sy} {base : Nat} (h : Un s.d) : Un (s.settle base).2.d := by
  have h1 := h.settleD (first := s.p.first) (base := base) (l := s.p.dirty)
  unfold Sy.settle
  split <;> exact h1
theorem Un.append {s : Sy} (h : Un s.d) (rec : Rec) : Un (s.append rec).2.d := h.appR rec
theorem Un.log {s : Sy} (h : Un s.d) (rec : Rec) : Un (s.log rec).2.d := by
  have h1 := h.append rec
  unfold Sy.log
  split
  · split
    · exact (h1.settle).append rec
    · exact h1.settle
  · exact h1
theorem Un.commit {s : Sy} (h : Un s.d) : Un s.commit.2.d := by
  unfold Sy.commit
  split
  · exact h
  · split
    · exact h
    · have h1 := Un.log (s := ⟨s.p.logged, s.r, s.d⟩) h s.p.record
      unfold Sy.finish
      split
      · exact h1
      · split
        · exact h1.flush
        · exact h1.flush
theorem log_len (s : Sy) (rec : Rec) : (s.log rec).2.d.lasts.length = s.d.lasts.length := by
  have h1 : (s.append rec).2.d.lasts.length = s.d.lasts.length := appR_len rec
  unfold Sy.log
  split
  · split
    · show (appR _ _ rec).2.2.lasts.length = _
      rw [appR_len, settle_len]; exact h1
    · rw [settle_len]; exact h1
  · exact h1
structure Ri (sec : Nat) (r : Rg) : Prop where
  ok : r.Ok
  first : r.first = 1
  count : r.count = sec / 4
theorem Ri.append {sec : Nat} {r : Rg} (h : Ri sec r) {d : Dk} {rec : Rec} : Ri sec (appR r d rec).2.1 := by
  unfold appR
  split
  · exact h
  · split
    · exact h
    · split
      · exact h
      · split
        · exact h
        · rename_i h1 h2 h3 h4
          split
          · refine ⟨⟨h.ok.count, h.ok.small, ?_, Nat.le_refl _, ?_, ?_⟩, h.first, h.count⟩
            · have := h.ok.bl; show r.base ≤ r.last + _; omega
            · have h5 := h.ok.room
              have h6 := h.ok.bl
              unfold Rg.room at h3
              rw [if_neg h2] at h3
              show r.last + _ ≤ r.base + r.count
              omega
            · show r.last + _ ≤ _; omega
          · exact h
theorem Ri.settle {sec : Nat} {s : Sy} {base : Nat} (h : Ri sec s.r) (hs : s.d.lasts.length = sec) (h64 : 64 ≤ sec) (h200 : sec ≤ 1000) (hb : base ≤ 4611686018427387904) : Ri sec (s.settle base).2.r := by
  unfold Sy.settle
  split
  · show Ri sec (Rg.opened 1 (s.d.lasts.length / 4) base _)
    rw [hs]
    exact ⟨Rg.opened_ok (by omega) (by omega) hb, rfl, rfl⟩
  · exact h
theorem Ri.log {sec : Nat} {s : Sy} (h : Ri sec s.r) (hs : s.d.lasts.length = sec) (h64 : 64 ≤ sec) (h200 : sec ≤ 1000) (rec : Rec) : Ri sec (s.log rec).2.r := by
  have h1 : Ri sec (s.append rec).2.r := h.append
  have hl : (s.append rec).2.d.lasts.length = sec := by show (appR s.r s.d rec).2.2.lasts.length = sec; rw [appR_len]; exact hs
  unfold Sy.log
  split
  · split
    · exact (h1.settle hl h64 h200 h1.ok.top).append
    · exact h1.settle hl h64 h200 h1.ok.top
  · exact h1
structure MB (k : Nat) (m : Meta) : Prop where
  root : m.root ≤ 4294967296 + k
  used : m.used ≤ 4294967296 + k
  head : m.head ≤ 4294967296 + k
  free0 : -(k : Int) ≤ m.free
  free : m.free ≤ 4294967296 + (k : Int)
theorem MB.up {k : Nat} {m : Meta} (h : MB k m) : MB (k + 1) m := ⟨by have := h.root; omega, by have := h.used; omega, by have := h.head; omega, by have := h.free0; omega, by have := h.free; omega⟩
theorem MB.fits {k : Nat} {m : Meta} (h : MB k m) (hk : k ≤ 1000) : m.Fits := ⟨by have := h.root; omega, by have := h.used; omega, by have := h.head; omega, by have := h.free0; omega, by have := h.free; omega⟩
theorem numB4 (l : List UInt8) : numB (l.take 4) < 4294967296 := by
  have h1 := numB_lt (l.take 4)
  have h2 : (l.take 4).length ≤ 4 := by rw [List.length_take]; omega
  have h3 : 256 ^ (l.take 4).length ≤ 256 ^ 4 := Nat.pow_le_pow_right (by decide) h2
  have h4 : (256 : Nat) ^ 4 = 4294967296 := by decide
  omega
theorem metaOf_mb (s : Sec) (k : Nat) : MB k (metaOf s) := by
  have h0 := numB4 s
  have h1 := numB4 (s.drop 4)
  have h2 := numB4 (s.drop 8)
  have h3 := numB4 (s.drop 12)
  refine ⟨?_, ?_, ?_, ?_, ?_⟩
  · show numB (s.take 4) ≤ _; omega
  · show numB ((s.drop 4).take 4) ≤ _; omega
  · show numB ((s.drop 8).take 4) ≤ _; omega
  · show -(k : Int) ≤ ((numB ((s.drop 12).take 4) : Nat) : Int); omega
  · show ((numB ((s.drop 12).take 4) : Nat) : Int) ≤ _; omega
theorem chase_len (p : Pg) (d : Dk) : ∀ (f n : Nat) (I : List (Nat × Bool)), (p.chase d f n I).length ≤ I.length + f
  | 0, _, I => Nat.le_refl _
  | f + 1, n, I => by
    unfold Pg.chase
    split
    · omega
    · have := chase_len p d f (numB ((p.get d n).1.take 4)) (ins n true I)
      have := len_ins n true I
      omega
theorem del_ins {α : Type} (n : Nat) (x : α) : ∀ l : List (Nat × α), kDel (ins n x l) n = kDel l n
  | [] => by unfold ins kDel; simp
  | p :: l => by
    unfold ins
    split
    · unfold kDel; simp
    · split
      · rename_i h; unfold kDel; simp [h]
      · rename_i h
        have ih := del_ins n x l
        unfold kDel at ih ⊢
        rw [List.filter_cons, List.filter_cons, ih]
structure Gk (sec k : Nat) (s : Sy) : Prop where
  first : s.p.first = 1 + sec / 4
  pages : s.p.pages = sec - 1 - sec / 4
  un : Un s.d
  len : s.d.lasts.length = sec
  few : s.d.Few (1000 + 1000 * k)
  dirty : ∀ q ∈ s.p.dirty, q.1 ≤ 20000000000 ∧ q.2.length = 512
  now : ∀ q ∈ s.p.now, q.1 ≤ 20000000000 ∧ q.2.length = 512
  dn : s.p.dirty.length + s.p.now.length ≤ k
  il : s.p.idle.length ≤ 400 + k
  cl : s.p.count.length ≤ k
  m : MB k s.p.m
  kept : MB k s.p.kept
  ring : Ri sec s.r
section
variable {sec k : Nat} {s : Sy}
theorem Gk.up (h : Gk sec k s) : Gk sec (k + 1) s := ⟨h.first, h.pages, h.un, h.len, h.few.mono (by omega), h.dirty, h.now, by have := h.dn; omega, by have := h.il; omega, by have := h.cl; omega, h.m.up, h.kept.up, h.ring⟩
theorem Gk.ok (h : Gk sec k s) (hk : k ≤ 1000) (hs : sec ≤ 1000) : s.p.Ok := by
  have h1 := h.first
  have h2 := h.pages
  have h3 := h.dn
  exact ⟨by omega, by omega, h.dirty, h.now, by omega, by omega, by have := h.il; omega, by have := h.cl; omega, h.m.fits hk, h.kept.fits hk⟩
theorem Gk.touch (h : Gk sec k s) (hk : k ≤ 1000) {n : Nat} {x : Sec} {m : Meta} {I : List (Nat × Bool)} (hn : n ≤ 20000000000) (hx : x.length = 512) (hm : MB (k + 1) m) (hI : I.length ≤ s.p.idle.length + 1) : Gk sec (k + 1) ⟨{ s.p.touched n x with m := m, idle := I }, s.r, s.d⟩ := by
  refine ⟨h.first, h.pages, h.un, h.len, h.few.mono (by omega), h.dirty, fun q hq => ?_, ?_, ?_, ?_, hm, h.kept.up, h.ring⟩
  · rcases mem_ins hq with rfl | hq
    · exact ⟨hn, hx⟩
    · exact h.now q hq
  · have := len_ins n x s.p.now
    have := h.dn
    show s.p.dirty.length + (ins n x s.p.now).length ≤ _
    omega
  · have := h.il
    show I.length ≤ _
    omega
  · have := len_ins n true s.p.count
    have := h.cl
    show (ins n true s.p.count).length ≤ _
    omega
theorem uses_nat (p : Pg) {n : Int} (h : p.uses n = true) : ∃ k : Nat, n = (k : Int) ∧ k < p.m.used := by
  unfold Pg.uses at h
  simp only [Bool.and_eq_true, decide_eq_true_eq] at h
  exact ⟨n.toNat, by omega, by omega⟩
theorem Gk.alloc (h : Gk sec k s) (hk : k ≤ 1000) : Gk sec (k + 1) ⟨(s.p.alloc s.d).2, s.r, s.d⟩ := by
  have hm := h.m
  unfold Pg.alloc
  split
  · exact h.up
  · split
    · refine h.touch hk (n := s.p.m.used) (x := zs) (by have := hm.used; omega) List.length_replicate ⟨by have := hm.root; show s.p.m.root ≤ _; omega, by have := hm.used; show s.p.m.used + 1 ≤ _; omega, by have := hm.head; show s.p.m.head ≤ _; omega, by have := hm.free0; show _ ≤ s.p.m.free; omega, by have := hm.free; show s.p.m.free ≤ _; omega⟩ (Nat.le_succ _)
    · split
      · have h4 := numB4 (s.p.get s.d s.p.m.head).1
        refine h.touch hk (n := s.p.m.head) (x := zs) (by have := hm.head; omega) List.length_replicate ⟨by have := hm.root; show s.p.m.root ≤ _; omega, by have := hm.used; show s.p.m.used ≤ _; omega, by show numB _ ≤ _; omega, by have := hm.free0; show _ ≤ s.p.m.free - 1; omega, by have := hm.free; show s.p.m.free - 1 ≤ _; omega⟩ ?_
        have := len_del s.p.idle s.p.m.head
        show (kDel s.p.idle s.p.m.head).length ≤ _
        omega
      · exact h.up
theorem Gk.write (h : Gk sec k s) (hk : k ≤ 1000) {n : Nat} (hn : n < s.p.m.used) {x : Sec} (hx : x.length = 512) : Gk sec (k + 1) ⟨s.p.touched n x, s.r, s.d⟩ :=
  h.touch hk (m := s.p.m) (I := s.p.idle) (by have := h.m.used; omega) hx h.m.up (Nat.le_succ _)
theorem Gk.drop (h : Gk sec k s) (hk : k ≤ 1000) {n : Nat} (hn : n < s.p.m.used) : Gk sec (k + 1) ⟨s.p.dropped n, s.r, s.d⟩ := by
  have hm := h.m
  refine h.touch hk (n := n) (x := freeB s.p.m.head) (m := { s.p.m with head := n, free := s.p.m.free + 1 }) (I := ins n true s.p.idle) (by have := hm.used; omega) (freeB_len _) ⟨by have := hm.root; show s.p.m.root ≤ _; omega, by have := hm.used; show s.p.m.used ≤ _; omega, by have := hm.used; show n ≤ _; omega, by have := hm.free0; show _ ≤ s.p.m.free + 1; omega, by have := hm.free; show s.p.m.free + 1 ≤ _; omega⟩ (len_ins _ _ _)
theorem Gk.setRoot (h : Gk sec k s) (n : Int) : Gk sec (k + 1) ⟨(s.p.setRoot n).2, s.r, s.d⟩ := by
  unfold Pg.setRoot
  split
  · exact h.up
  · rename_i hn
    have hle : n.toNat ≤ 4294967296 + k := by
      by_cases e : n = 0
      · omega
      · cases hu : s.p.uses n with
        | true =>
          obtain ⟨q, e1, e2⟩ := uses_nat s.p hu
          have := h.m.used
          omega
        | false => exact absurd ⟨e, hu⟩ hn
    have hu := h.up
    have hm := hu.m
    exact ⟨hu.first, hu.pages, hu.un, hu.len, hu.few, hu.dirty, hu.now, hu.dn, hu.il, hu.cl, ⟨by show n.toNat ≤ _; omega, hm.used, hm.head, hm.free0, hm.free⟩, hu.kept, hu.ring⟩
theorem Gk.abort (h : Gk sec k s) (hs : sec ≤ 400) : Gk sec (k + 1) s.abort := by
  refine ⟨h.first, h.pages, h.un, h.len, h.few.mono (by omega), h.dirty, fun q hq => by simp [Sy.abort, Pg.abort, Pg.aborting, Pg.cleared] at hq, ?_, ?_, Nat.zero_le _, metaOf_mb _ _, metaOf_mb _ _, h.ring⟩
  · have := h.dn
    show s.p.dirty.length + 0 ≤ _
    omega
  · have := chase_len s.p.cleared s.d (s.p.pages + 1) (metaOf (s.p.cleared.get s.d 0).1).head []
    have h2 := h.pages
    show (s.p.cleared.chase s.d (s.p.pages + 1) (metaOf (s.p.cleared.get s.d 0).1).head []).length ≤ _
    have h3 : ([] : List (Nat × Bool)).length = 0 := rfl
    omega
theorem Gk.settled (h : Gk sec k s) : Gk sec k ⟨s.p.settled, s.r, s.d⟩ := ⟨h.first, h.pages, h.un, h.len, h.few, (fun q hq => by cases hq), h.now, by have := h.dn; show 0 + s.p.now.length ≤ _; omega, h.il, h.cl, h.m, h.kept, h.ring⟩
theorem Gk.settle (h : Gk sec k s) (h64 : 64 ≤ sec) (h400 : sec ≤ 400) (hk : k ≤ 200) : Gk sec (k + 1) (s.settle s.r.top).2 := by
  have hun : Un (s.settle s.r.top).2.d := h.un.settle
  have hfew := settle_few (base := s.r.top) h.few
  have hlen : (s.settle s.r.top).2.d.lasts.length = sec := by rw [settle_len]; exact h.len
  have hri := h.ring.settle (base := s.r.top) h.len h64 (by omega) h.ring.ok.top
  have hp : (s.settle s.r.top).2.p = s.p ∨ (s.settle s.r.top).2.p = s.p.settled := by
    unfold Sy.settle
    split
    · exact .inr rfl
    · exact .inl rfl
  have hdn := h.dn
  have hu := h.up
  rcases hp with hp | hp
  · exact ⟨by rw [hp]; exact hu.first, by rw [hp]; exact hu.pages, hun, hlen, hfew.mono (by omega), by rw [hp]; exact hu.dirty, by rw [hp]; exact hu.now, by rw [hp]; exact hu.dn, by rw [hp]; exact hu.il, by rw [hp]; exact hu.cl, by rw [hp]; exact hu.m, by rw [hp]; exact hu.kept, hri⟩
  · have hz := hu.settled
    exact ⟨by rw [hp]; exact hz.first, by rw [hp]; exact hz.pages, hun, hlen, hfew.mono (by omega), by rw [hp]; exact hz.dirty, by rw [hp]; exact hz.now, by rw [hp]; exact hz.dn, by rw [hp]; exact hz.il, by rw [hp]; exact hz.cl, by rw [hp]; exact hz.m, by rw [hp]; exact hz.kept, hri⟩
theorem Gk.commit (h : Gk sec k s) (h64 : 64 ≤ sec) (h400 : sec ≤ 400) (hk : k ≤ 200) : Gk sec (k + 1) s.commit.2 := by
  have hun : Un s.commit.2.d := h.un.commit
  unfold Sy.commit at hun ⊢
  split
  · exact h.up
  · split
    · exact h.up
    · rename_i h1 h2
      rw [if_neg h1, if_neg h2] at hun
      have hdn := h.dn
      -- the record
      have hrec : s.p.record.length ≤ 522 * (k + 1) := by
        have h1 := recG_len (ins 0 s.p.m.page s.p.now) fun q hq => by
          rcases mem_ins hq with rfl | hq
          · exact Meta.page_len _
          · exact (h.now q hq).2
        have h2 := len_ins 0 s.p.m.page s.p.now
        have h4 : 522 * (ins 0 s.p.m.page s.p.now).length ≤ 522 * (k + 1) := Nat.mul_le_mul_left _ (by omega)
        exact Nat.le_trans h1 h4
      have hcut := cutN_le hrec
      have hnl : (s.p.logged).now.length ≤ s.p.now.length := by
        show (kDel (ins 0 s.p.m.page s.p.now) 0).length ≤ _
        rw [del_ins]
        exact len_del _ _
      have hnm : ∀ q ∈ (s.p.logged).now, q.1 ≤ 20000000000 ∧ q.2.length = 512 := fun q hq => by
        have hq' : q ∈ kDel (ins 0 s.p.m.page s.p.now) 0 := hq
        rw [del_ins] at hq'
        exact h.now q (List.mem_filter.1 hq').1
      obtain ⟨sl, hsl⟩ : ∃ sl : Sy, sl = ⟨s.p.logged, s.r, s.d⟩ := ⟨_, rfl⟩
      have hlf := log_few (s := sl) (n := 1000 + 1000 * k) (by rw [hsl]; exact h.few) s.p.record
      have hlr := Ri.log (s := sl) (sec := sec) (by rw [hsl]; exact h.ring) (by rw [hsl]; exact h.len) h64 (by omega) s.p.record
      have hll : (sl.log s.p.record).2.d.lasts.length = sec := by
        have := log_len sl s.p.record
        rw [this, hsl]; exact h.len
      have hlp := log_p sl s.p.record
      rw [← hsl] at hun ⊢
      obtain ⟨x, hx⟩ : ∃ x, x = sl.log s.p.record := ⟨_, rfl⟩
      rw [← hx] at hun hlf hlr hll hlp ⊢
      clear hx
      obtain ⟨c, s2⟩ := x
      simp only at hlf hlr hll hlp
      have hdl : sl.p.dirty.length = s.p.dirty.length := by rw [hsl]; rfl
      have hpf : s2.p.first = s.p.first ∧ s2.p.pages = s.p.pages ∧ s2.p.m = s.p.m ∧ s2.p.kept = s.p.kept ∧ s2.p.idle = s.p.idle ∧ s2.p.count = s.p.count ∧ s2.p.now = s.p.logged.now ∧ (s2.p.dirty = s.p.dirty ∨ s2.p.dirty = []) := by
        rcases hlp with e | e <;> rw [e, hsl]
        · exact ⟨rfl, rfl, rfl, rfl, rfl, rfl, rfl, .inl rfl⟩
        · exact ⟨rfl, rfl, rfl, rfl, rfl, rfl, rfl, .inr rfl⟩
      obtain ⟨p1, p2, p3, p4, p5, p6, p7, p8⟩ := hpf
      have hdd : s2.p.dirty.length ≤ s.p.dirty.length ∧ ∀ q ∈ s2.p.dirty, q.1 ≤ 20000000000 ∧ q.2.length = 512 := by
        rcases p8 with e | e
        · rw [e]; exact ⟨Nat.le_refl _, h.dirty⟩
        · rw [e]; exact ⟨Nat.zero_le _, fun q hq => by cases hq⟩
      have hrest : ∀ d' : Dk, Un d' → d'.lasts.length = sec → d'.Few (1000 + 1000 * (k + 1)) → Gk sec (k + 1) ⟨s2.p, s2.r, d'⟩ := fun d' hu hl hf =>
        ⟨by show s2.p.first = _; rw [p1]; exact h.first, by show s2.p.pages = _; rw [p2]; exact h.pages, hu, hl, hf, hdd.2, by show ∀ q ∈ s2.p.now, _; rw [p7]; exact hnm, by show s2.p.dirty.length + s2.p.now.length ≤ _; rw [p7]; omega, by show s2.p.idle.length ≤ _; rw [p5]; have := h.il; omega, by show s2.p.count.length ≤ _; rw [p6]; have := h.cl; omega, by show MB _ s2.p.m; rw [p3]; exact h.m.up, by show MB _ s2.p.kept; rw [p4]; exact h.kept.up, hlr⟩
      unfold Sy.finish at hun ⊢
      simp only at hun ⊢
      split
      · rename_i hc
        rw [if_pos hc] at hun
        exact hrest s2.d hun hll (hlf.mono (by omega))
      · rename_i hc
        rw [if_neg hc] at hun
        split
        · rename_i he
          rw [if_pos he] at hun
          exact hrest s2.d.flush hun (by rw [Dk.flush_len]; exact hll) (hlf.flush.mono (by omega))
        · rename_i he
          rw [if_neg he] at hun
          have hb := hrest s2.d.flush hun (by rw [Dk.flush_len]; exact hll) (hlf.flush.mono (by omega))
          refine ⟨hb.first, hb.pages, hb.un, hb.len, hb.few, fun q hq => ?_, (fun q hq => by simp [Pg.done] at hq), ?_, hb.il, Nat.zero_le _, hb.m, hb.m, hb.ring⟩
          · have hq' : q ∈ ins 0 s2.p.m.page (insL s2.p.now s2.p.dirty) := hq
            rcases mem_ins hq' with rfl | hq'
            · exact ⟨Nat.zero_le _, Meta.page_len _⟩
            · rcases mem_insL hq' with hq' | hq'
              · rw [p7] at hq'; exact hnm q hq'
              · exact hdd.2 q hq'
          · have e1 := len_ins 0 s2.p.m.page (insL s2.p.now s2.p.dirty)
            have e2 := len_insL s2.p.now s2.p.dirty
            rw [p7] at e2
            show (ins 0 s2.p.m.page (insL s2.p.now s2.p.dirty)).length + 0 ≤ _
            rw [p7] at e1 ⊢
            omega
end
end Go.Proofs.YteoeaojebklfjaaGreatDoor
