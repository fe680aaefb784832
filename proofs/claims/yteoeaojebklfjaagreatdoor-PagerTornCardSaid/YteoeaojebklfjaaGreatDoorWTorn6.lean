/- X3 X4 X5 in one text. -/
import Derived.Test.YteoeaojebklfjaaGreatDoorWTorn5
import Derived.Test.YteoeaojebklfjaaGreatDoorWTorn4
namespace Go.Proofs.YteoeaojebklfjaaGreatDoor
open Go.RowKit Go.Maps
set_option linter.unusedVariables false
section
variable {N : Nat} {d e : Dk}
theorem Tw.get (t : Tw N d e) (p : Pg) (n : Nat) : p.get d n = p.get e n := by
  unfold Pg.get
  rw [t.lasts, t.read]
theorem Tw.chase (t : Tw N d e) (p : Pg) : ∀ (f n : Nat) (I : List (Nat × Bool)), p.chase d f n I = p.chase e f n I
  | 0, _, _ => rfl
  | f + 1, n, I => by
    unfold Pg.chase
    rw [t.get, Tw.chase t p f]
theorem Tw.abort (t : Tw N d e) (p : Pg) : p.abort d = p.abort e := by
  unfold Pg.abort Pg.aborting
  rw [t.get, t.chase]
theorem Died.len {L : List Sec} {ws : List (Nat × Sec)} (h : Died d L ws) : d.lasts.length = L.length := by
  obtain ⟨_, _, kp, h⟩ := h
  rw [h, settle_length]
end
structure Mt (len : Nat) (V : Nat → Sec) (m : Meta) (K : List Nat) : Prop where
  ku : 1 ≤ m.used ∧ m.used ≤ len - 1 - len / 4
  kr : m.root = 0 ∨ (m.root < m.used ∧ m.root ∉ K)
  km : metaOf (V 0) = m
  fk : Frees V m K
theorem Cm.mt {len : Nat} {p : Pg} {d : Dk} {m : Meta} {K : List Nat} (h : Cm len p d m K) : Mt len (p.comm d) m K := ⟨by have := h.ku; rw [h.pd.pages] at this; exact this, h.kr, h.km, h.fk⟩
section
variable {N len top : Nat} {s : Sy} {e : Dk}
theorem Tw.settle (t : Tw N s.d e) (h : Pd len s.p e) (hw : e.waits = []) :
    ((s.settle top).1 = 0 ∧ ((Sy.mk s.p s.r e).settle top).1 = 0 ∧ (s.settle top).2.p = ((Sy.mk s.p s.r e).settle top).2.p ∧ (s.settle top).2.r = ((Sy.mk s.p s.r e).settle top).2.r ∧ Tw (N - 403) (s.settle top).2.d ((Sy.mk s.p s.r e).settle top).2.d) ∨
    (N < 403 ∧ (s.settle top).1 = 20 ∧ (Died (s.settle top).2.d e.lasts (pageWs s.p.first s.p.dirty) ∨ Died (s.settle top).2.d (settle (fun _ => true) 0 (pageWs s.p.first s.p.dirty) e.lasts) [(0, headB top)])) := by
  have hdl := h.dl
  have h64 := h.l64
  rcases t.settleD (first := s.p.first) (base := top) (l := s.p.dirty) hw (fun q hq => by rw [h.dlen]; have := (h.dirty q hq).1; have := h.first; have := h.pages; omega) with ⟨a, b, c, _⟩ | ⟨a, b, c⟩
  · refine .inl ?_
    unfold Sy.settle
    simp only
    rw [if_pos a, if_pos b]
    refine ⟨rfl, rfl, rfl, ?_, c.less (by omega)⟩
    show Rg.opened 1 (s.d.lasts.length / 4) top _ = Rg.opened 1 (e.lasts.length / 4) top _
    rw [t.lasts, c.gAt]
  · refine .inr ⟨by omega, ?_⟩
    unfold Sy.settle
    rw [if_neg (by rw [b]; decide)]
    exact ⟨b, c⟩
end
theorem open_tw {len n N T : Nat} {d e : Dk} {V : Nat → Sec} {m : Meta} {K : List Nat} (t : Tw N d e) (hc : e.Calm len n) (hw : e.waits = []) (h64 : 64 ≤ len) (h400 : len ≤ 400) (hv : HasV len e.lasts V T) (hT : T ≤ 1000000000) (mt : Mt len V m K) :
    ∃ p r e', openS e = (0, ⟨p, r, e'⟩) ∧ Lv len p e' K K ∧ (∃ b, Lg len ⟨p, r, e'⟩ b [] ∧ b ≤ T) ∧ e'.Calm len (n + 403) ∧ e'.waits = [] ∧ p.m = m ∧ p.kept = m ∧ p.comm e' = V ∧ p.view e' = V ∧ p.now = [] ∧ p.count = [] ∧
    ((∃ d', openS d = (0, ⟨p, r, d'⟩) ∧ Tw (N - 403) d' e') ∨
    (N < 403 ∧ (openS d).1 = 20 ∧ (openS d).2.d.dead = true ∧ (openS d).2.d.waits = [] ∧ HasV len (openS d).2.d.lasts V T)) := by
  obtain ⟨base, rs, D, o, hV⟩ := hv
  have hg := gAt_gL hw 1
  obtain ⟨top, htop⟩ : ∃ top, top = topG (len / 4) (gAt 1 e) base (len / 4) := ⟨_, rfl⟩
  have hle : ∀ i p, i < len / 4 → seeG (len / 4) (gAt 1 e) i = some p → p.n ≤ top := fun i p hi hp => by rw [htop]; exact topG_ge hp _ hi
  have hbt : base ≤ top := by rw [htop]; exact topG_le _
  have htT : top ≤ T := by
    rw [htop, hg]
    exact topG_upto o.base o.le _ (Nat.le_refl _)
  have o1 : OnD len e.lasts base rs D top := ⟨o.ln, o.ok, o.head, o.run, fun i p hi hp => hle i p hi (by rw [hg]; exact hp), hbt, o.rep, o.dirty, o.dr⟩
  have hb63 : base < 9223372036854775808 := by omega
  obtain ⟨pD, hpD⟩ : ∃ pD : Pg, pD = { Pg.made len with dirty := D } := ⟨_, rfl⟩
  obtain ⟨rD, hrD⟩ : ∃ rD : Rg, rD = Rg.opened 1 (len / 4) base (gAt 1 e) := ⟨_, rfl⟩
  have hst : rD.top = top := by rw [hrD, htop]; rfl
  have hopG : ∀ x : Dk, x.lasts = e.lasts → x.waits = e.waits → openS x = if ((Sy.mk pD rD x).settle top).1 ≠ 0 then (Sy.mk pD rD x).settle top else (0, ((Sy.mk pD rD x).settle top).2.abort) := fun x h1 h2 => by
    have hr : ∀ i, x.read i = e.read i := fun i => by unfold Dk.read; rw [h1, h2]
    have hgx : gAt 1 x = gAt 1 e := funext fun i => hr _
    have hdl : x.lasts.length = len := by rw [h1]; exact o.ln
    have hr0 : x.read 0 = headB base := by rw [hr, read_done hw]; exact o.head
    have hno : ¬ (x.lasts.length < 64 ∨ (x.read 0).take 8 ≠ markB ∨ 127 < ((x.read 0).getD 8 0).toNat) := by
      rw [hr0, hdl, headB_take]
      have := headB_byte hb63
      rintro (e | e | e)
      · omega
      · exact e rfl
      · omega
    have := open_on (d := x) (base := base) (D := D) hno (by rw [hr0]; exact (headB_num hb63).symm) (by omega) (by rw [hdl, hgx, hg, o.run]; exact o.rep) (s := ⟨pD, rD, x⟩) (by rw [hdl, hgx, hpD, hrD])
    rw [this]
    show (if ((Sy.mk pD rD x).settle rD.top).1 ≠ 0 then (Sy.mk pD rD x).settle rD.top else (0, ((Sy.mk pD rD x).settle rD.top).2.abort)) = _
    rw [hst]
  have hpd : Pd len pD e := by
    rw [hpD]
    exact ⟨h64, h400, rfl, rfl, o.ln, ⟨o.ok, (fun p hp => by rw [hw] at hp; cases hp), by rw [o.ln]; omega⟩, o.dirty, o.dr⟩
  have hcomm : pD.comm e = V := by
    rw [← hV, hpD]
    funext k
    unfold vL Pg.comm
    rw [read_done hw]
    rfl
  obtain ⟨s2, e2, p2, pd2, g2, c2, w2, cm2⟩ := settle_top (s := ⟨pD, rD, e⟩) hpd hle (by omega) hc
  have hcm2 : Cm len s2.p s2.d m K := by
    have hpg : s2.p.pages = len - 1 - len / 4 := pd2.pages
    have hcv : s2.p.comm s2.d = V := cm2.trans hcomm
    exact ⟨pd2, by rw [hpg]; exact mt.ku, mt.kr, by rw [hcv]; exact mt.km, by rw [hcv]; exact mt.fk⟩
  obtain ⟨a1, a2, a3, a4, a5, a6, a7, a8, a9, a10⟩ := hcm2.abort
  refine ⟨s2.p.abort s2.d, s2.r, s2.d, ?_, a1, ⟨top, ⟨g2.ring, g2.holds, g2.room, g2.head, ?_, g2.base⟩, htT⟩, c2, w2, a2, a3, a4.trans (cm2.trans hcomm), a5.trans (cm2.trans hcomm), a7, a8, ?_⟩
  · rw [hopG e rfl rfl, e2, if_neg (by simp)]
    rfl
  · show replayAll (((s2.p.abort s2.d).pages : Int) - 1) [] [] = some (s2.p.abort s2.d).dirty
    rw [a6, p2]
    rfl
  have hod := hopG d t.lasts t.waits
  rcases Tw.settle (s := ⟨pD, rD, d⟩) (top := top) t hpd hw with ⟨a, b, x1, x2, x3⟩ | ⟨a, b, c⟩
  · have x1' : ((Sy.mk pD rD d).settle top).2.p = s2.p := by rw [x1]; exact congrArg (fun z : Int × Sy => z.2.p) e2
    have x2' : ((Sy.mk pD rD d).settle top).2.r = s2.r := by rw [x2]; exact congrArg (fun z : Int × Sy => z.2.r) e2
    have x3' : Tw (N - 403) ((Sy.mk pD rD d).settle top).2.d s2.d := by
      have e3 : ((Sy.mk pD rD e).settle top).2.d = s2.d := congrArg (fun z : Int × Sy => z.2.d) e2
      have x3 : Tw (N - 403) ((Sy.mk pD rD d).settle top).2.d ((Sy.mk pD rD e).settle top).2.d := x3
      rw [e3] at x3
      exact x3
    refine .inl ⟨((Sy.mk pD rD d).settle top).2.d, ?_, x3'⟩
    rw [hod, if_neg (by rw [a]; simp)]
    unfold Sy.abort
    rw [x1', x2', x3'.abort]
  · refine .inr ⟨a, ?_⟩
    have hoe : openS d = (Sy.mk pD rD d).settle top := by rw [hod, if_pos (by rw [b]; decide)]
    rw [hoe]
    have hfirst : pD.first = 1 + len / 4 := by rw [hpD]; rfl
    have hdirty : pD.dirty = D := by rw [hpD]
    have c : Died ((Sy.mk pD rD d).settle top).2.d e.lasts (pageWs pD.first pD.dirty) ∨ Died ((Sy.mk pD rD d).settle top).2.d (settle (fun _ => true) 0 (pageWs pD.first pD.dirty) e.lasts) [(0, headB top)] := c
    rw [hfirst, hdirty] at c
    refine ⟨b, ?_⟩
    rcases c with ⟨c1, c2, kp, c3⟩ | ⟨c1, c2, kp, c3⟩
    · obtain ⟨y1, y2⟩ := o1.pages h64 kp
      exact ⟨c1, c2, by rw [c3]; exact ⟨base, rs, D, y1.upto htT, y2.trans hV⟩⟩
    · refine ⟨c1, c2, ?_⟩
      rw [c3, ← hV]
      exact (o1.headed h64 kp).upto htT
theorem app_go {r : Rg} {d : Dk} {rec : Rec} (h : refuse r (cutN rec.length) = none) : appR r d rec = match Dk.puts r.place (cutR r.last rec) d with
    | (d', true) => (0, { r with last := r.last + cutN rec.length, top := r.last + cutN rec.length }, d')
    | (d', false) => (20, r, d') := by
  unfold refuse at h
  unfold appR
  split at h
  · cases h
  rename_i g
  rw [if_neg g]
  split at h
  · cases h
  rename_i g
  rw [if_neg g]
  split at h
  · cases h
  rename_i g
  rw [if_neg g]
  split at h
  · cases h
  rename_i g
  rw [if_neg g]
  rfl
theorem Tw.append {N : Nat} {s : Sy} {e : Dk} (t : Tw N s.d e) {rec : Rec} (h : refuse s.r (cutN rec.length) = none) :
    ((s.append rec).1 = 0 ∧ ((Sy.mk s.p s.r e).append rec).1 = 0 ∧ (s.append rec).2.p = s.p ∧ ((Sy.mk s.p s.r e).append rec).2.p = s.p ∧ (s.append rec).2.r = ((Sy.mk s.p s.r e).append rec).2.r ∧ Tw (N - cutN rec.length) (s.append rec).2.d ((Sy.mk s.p s.r e).append rec).2.d ∧ ((Sy.mk s.p s.r e).append rec).2.d.lasts = e.lasts ∧ ((Sy.mk s.p s.r e).append rec).2.d.waits = e.waits ++ pieceWs s.r.place (cutR s.r.last rec)) ∨
    (N < cutN rec.length ∧ (s.append rec).1 = 20 ∧ Died (s.append rec).2.d e.lasts (e.waits ++ pieceWs s.r.place (cutR s.r.last rec))) := by
  have hl : (cutR s.r.last rec).length = cutN rec.length := cutR_length _ _
  have hd := app_go (d := s.d) h
  have he := app_go (d := e) h
  obtain ⟨x, hx⟩ : ∃ x, x = Dk.puts s.r.place (cutR s.r.last rec) s.d := ⟨_, rfl⟩
  obtain ⟨y, hy⟩ : ∃ y, y = Dk.puts s.r.place (cutR s.r.last rec) e := ⟨_, rfl⟩
  have hp := Tw.puts s.r.place (cutR s.r.last rec) t
  rw [← hx, ← hy, hl] at hp
  rw [← hx] at hd
  rw [← hy] at he
  obtain ⟨x1, x2⟩ := x
  obtain ⟨y1, y2⟩ := y
  unfold Sy.append
  rcases hp with ⟨a, b, c, f, g⟩ | ⟨a, b, b', c⟩
  · simp only at a b c f g
    subst a; subst b
    rw [hd, he]
    exact .inl ⟨rfl, rfl, rfl, rfl, rfl, c, f, g⟩
  · simp only at b c
    subst b
    rw [hd]
    exact .inr ⟨a, rfl, c⟩
theorem tail_tw {len n N base T : Nat} {s2 s' : Sy} {e2 : Dk} {rs : List Rec} {rec : Rec} (t : Tw N s2.d e2) (h : Pd len s2.p e2) (g : Lg len ⟨s2.p, s2.r, e2⟩ base rs) (hc : e2.Calm len n) (hw : e2.waits = []) (hfit : many base rs + cutN rec.length ≤ len / 4) (hT : base + many base rs + cutN rec.length ≤ T) (hT' : T ≤ 1000000000)
    (hs : Sy.finish ((Sy.mk s2.p s2.r e2).append rec) = (0, s')) (hrep : replayAll (((len - 1 - len / 4 : Nat) : Int) - 1) (rs ++ [rec]) [] = some s'.p.dirty) (hdr : kRise s'.p.dirty) (hdl : ∀ q ∈ s'.p.dirty, q.1 < len - 1 - len / 4 ∧ q.2.length = 512) :
    ((Sy.finish (s2.append rec)).1 = 0 ∧ (Sy.finish (s2.append rec)).2.p = s'.p ∧ (Sy.finish (s2.append rec)).2.r = s'.r ∧ Tw (N - 101) (Sy.finish (s2.append rec)).2.d s'.d) ∨
    (N < 101 ∧ (Sy.finish (s2.append rec)).1 = 20 ∧ (Sy.finish (s2.append rec)).2.d.dead = true ∧ (Sy.finish (s2.append rec)).2.d.waits = [] ∧ (HasV len (Sy.finish (s2.append rec)).2.d.lasts (s2.p.comm e2) T ∨ HasV len (Sy.finish (s2.append rec)).2.d.lasts (s'.p.comm s'.d) T)) := by
  have h64 := h.l64
  have h400 := h.l400
  have htop := g.base
  obtain ⟨o, hv, hh⟩ := Lg.onD (s := ⟨s2.p, s2.r, e2⟩) h g hw
  have hring : s2.r = Rg.of 1 (len / 4) base rs := g.ring
  have hno : refuse s2.r (cutN rec.length) = none := by
    rw [hring]
    unfold refuse Rg.room Rg.of
    simp only [Nat.lt_irrefl, if_false]
    rw [if_neg (by omega), if_neg (by omega), if_neg (by omega)]
  have hpw : pieceWs s2.r.place (cutR s2.r.last rec) = (cutR (base + many base rs) rec).map (wr 1 (len / 4)) := by rw [hring]; rfl
  obtain ⟨s3, e3, p3, r3, hh3, c3, o3, rd3⟩ := append_calm (s := ⟨s2.p, s2.r, e2⟩) h g hc hfit
  have hfin : s' = ⟨s2.p.done, s3.r, s3.d.flush⟩ := by
    rw [e3] at hs
    unfold Sy.finish at hs
    simp only [ne_eq, not_true_eq_false, if_false] at hs
    rw [c3.err, if_neg (by simp), p3] at hs
    injection hs with _ hs
    exact hs.symm
  have hcv : vL len e2.lasts s'.p.dirty = s'.p.comm s'.d := by
    funext k
    unfold vL Pg.comm
    have h1 : s'.p.first = 1 + len / 4 := by rw [hfin]; exact h.first
    have h2 : s'.d.read (1 + len / 4 + k) = e2.lasts.getD (1 + len / 4 + k) [] := by
      rw [hfin]
      show s3.d.flush.read _ = _
      rw [read_flush o3 c3.due, rd3 _ (.inr (by omega))]
      exact read_done hw _
    rw [h1, h2]
  have died : ∀ {x : Dk}, Died x e2.lasts ((cutR (base + many base rs) rec).map (wr 1 (len / 4))) → x.dead = true ∧ x.waits = [] ∧ (HasV len x.lasts (s2.p.comm e2) T ∨ HasV len x.lasts (s'.p.comm s'.d) T) := fun {x} hx => by
    obtain ⟨x1, x2, kp, x3⟩ := hx
    refine ⟨x1, x2, ?_⟩
    rw [x3, ← hv, ← hcv]
    exact o.appended h64 hh hfit hT hT' hrep hdl hdr kp
  have hcut : cutN rec.length ≤ 100 := by omega
  rcases t.append (rec := rec) hno with ⟨a, b, y1, y2, y3, y4, y5, y6⟩ | ⟨a, b, c⟩
  · rw [e3] at y3 y4 y5 y6
    rw [hw, List.nil_append, hpw] at y6
    unfold Sy.finish
    rw [if_neg (by rw [a]; simp)]
    rcases y4.flush with ⟨f1, f2⟩ | ⟨f1, f2, f3⟩
    · rw [if_neg (by unfold Dk.err; rw [f1]; simp)]
      refine .inl ⟨rfl, ?_, ?_, ?_⟩
      · show (s2.append rec).2.p.done = _
        rw [y1, hfin]
      · show (s2.append rec).2.r = _
        rw [y3, hfin]
      · rw [hfin]
        exact f2.less (by omega)
    · have herr : (s2.append rec).2.d.err = 20 := by unfold Dk.err; rw [f2]; rfl
      rw [if_pos (by rw [herr]; decide)]
      rw [y5, y6] at f3
      exact .inr ⟨by omega, herr, died f3⟩
  · rw [hw, List.nil_append, hpw] at c
    unfold Sy.finish
    rw [if_pos (by rw [b]; decide)]
    exact .inr ⟨by omega, b, died c⟩
theorem commit_tw {len n N base : Nat} {s : Sy} {e : Dk} {F K : List Nat} {rs : List Rec} (t : Tw N s.d e) (h : Lv len s.p e F K) (g : Lg len ⟨s.p, s.r, e⟩ base rs) (hc : e.Calm len n) (hw : e.waits = []) (hcnt : s.p.count.length ≤ len / 8) (hroot : s.p.m.root = 0 ∨ s.p.uses (s.p.m.root : Int) = true) (htop : base + many base rs ≤ 999999000) :
    ∃ s' base' rs', (Sy.mk s.p s.r e).commit = (0, s') ∧ Lv len s'.p s'.d F F ∧ Lg len s' base' rs' ∧ base' + many base' rs' ≤ base + many base rs + 100 ∧ s'.d.Calm len (n + 600) ∧ s'.d.waits = [] ∧ s'.p.m = s.p.m ∧ s'.p.kept = s.p.m ∧ s'.p.now = [] ∧ s'.p.count = [] ∧ (∀ k, 1 ≤ k → s'.p.view s'.d k = s.p.view e k) ∧ (∀ k, 1 ≤ k → s'.p.comm s'.d k = s.p.view e k) ∧
      ((s.commit.1 = 0 ∧ s.commit.2.p = s'.p ∧ s.commit.2.r = s'.r ∧ Tw (N - 600) s.commit.2.d s'.d) ∨
      (N < 600 ∧ s.commit.1 = 20 ∧ s.commit.2.d.dead = true ∧ s.commit.2.d.waits = [] ∧ (HasV len s.commit.2.d.lasts (s.p.comm e) (base + many base rs + 100) ∨ HasV len s.commit.2.d.lasts (s'.p.comm s'.d) (base + many base rs + 100)))) := by
  obtain ⟨se, hse⟩ : ∃ se : Sy, se = ⟨s.p, s.r, e⟩ := ⟨_, rfl⟩
  have hl64 := h.l64
  have hl4 := h.l400
  have hlen : s.p.record.length ≤ 522 * (len / 8 + 1) := by
    have h1 := recG_len (ins 0 s.p.m.page s.p.now) fun q hq => by
      rcases mem_ins hq with rfl | hq
      · exact Meta.page_len _
      · exact (h.now q hq).2.2
    have h2 := len_ins 0 s.p.m.page s.p.now
    have h3 : s.p.now.length = s.p.count.length := by rw [h.count, List.length_map]
    have h4 : 522 * (ins 0 s.p.m.page s.p.now).length ≤ 522 * (len / 8 + 1) := Nat.mul_le_mul_left _ (by omega)
    exact Nat.le_trans h1 h4
  have hcut := cutN_le hlen
  have hcle : cutN s.p.record.length ≤ len / 4 := by omega
  have hlog : s.p.logged = s.p := logged_same h
  have hcomG : ∀ d0 : Dk, d0.lasts.length = len → (Sy.mk s.p s.r d0).commit = Sy.finish (Sy.log ⟨s.p, s.r, d0⟩ s.p.record) := fun d0 hd0 => by
    unfold Sy.commit
    rw [hd0, if_neg (by show ¬ len / 8 < s.p.count.length; omega), if_neg (by
      rintro ⟨h1, h2⟩
      rcases hroot with e | e
      · exact h1 e
      · rw [h2] at e; cases e), hlog]
  have hcom := hcomG e h.dlen
  have hcomd : s.commit = Sy.finish (Sy.log s s.p.record) := hcomG s.d (by rw [t.lasts]; exact h.dlen)
  rw [hcom, hcomd]
  obtain ⟨rec, hrec⟩ : ∃ rec, rec = s.p.record := ⟨_, rfl⟩
  have hpgs : ∀ {s' : Sy}, Lv len s'.p s'.d F F → s'.p.pages = len - 1 - len / 4 := fun x => x.pages
  by_cases hfit : many base rs + cutN s.p.record.length ≤ len / 4
  · obtain ⟨s', ef, r1, r2, r3, r4, r5⟩ := commit_tail (s := ⟨s.p, s.r, e⟩) (s2 := ⟨s.p, s.r, e⟩) h (.inl rfl) h.pd g hc rfl hroot hfit (by show base + many base rs + cutN s.p.record.length ≤ _; omega)
    have hap := append_calm (s := ⟨s.p, s.r, e⟩) h.pd g hc hfit
    obtain ⟨sa, ea, _⟩ := hap
    refine ⟨s', base, rs ++ [s.p.record], ?_, r1, r2, ?_, ⟨r3.dead, r3.set, r3.len, r3.few.mono (by show n + cutN s.p.record.length + 1 ≤ _; omega)⟩, r4, r5.1, r5.2.1, r5.2.2.1, r5.2.2.2.1, r5.2.2.2.2.1, r5.2.2.2.2.2, ?_⟩
    · unfold Sy.log
      rw [ea]
      simp only
      rw [if_neg (by decide), ← ea]
      exact ef
    · rw [many_snoc]; omega
    · have hrep := r2.rep
      rw [hpgs r1] at hrep
      have htw := tail_tw (T := base + many base rs + 100) t h.pd g hc hw hfit (by omega) (by omega) ef hrep r1.dr fun q hq => by have := r1.dirty q hq; rw [hpgs r1] at this; exact this
      have hlg : Sy.log s s.p.record = s.append s.p.record := by
        unfold Sy.log
        rw [if_neg]
        have hring : s.r = Rg.of 1 (len / 4) base rs := g.ring
        rcases t.append (rec := s.p.record) (by
          rw [hring]
          unfold refuse Rg.room Rg.of
          simp only [Nat.lt_irrefl, if_false]
          rw [if_neg (by omega), if_neg (by omega), if_neg (by omega)]) with ⟨a, _⟩ | ⟨_, a, _⟩
        · rw [a]; decide
        · rw [a]; decide
      rw [hlg]
      rcases htw with ⟨a, b, c, f⟩ | ⟨a, b⟩
      · exact .inl ⟨a, b, c, f.less (by omega)⟩
      · exact .inr ⟨by omega, b⟩
  · obtain ⟨s1, e1, p1, pd1, g1, c1, w1, cm1⟩ := settle_calm (s := ⟨s.p, s.r, e⟩) h.pd g hc
    have hmn : many (base + many base rs) ([] : List Rec) = 0 := many_nil _
    obtain ⟨s', ef, r1, r2, r3, r4, r5⟩ := commit_tail (s := ⟨s.p, s.r, e⟩) (s2 := s1) h (.inr p1) pd1 g1 c1 cm1 hroot (by rw [hmn]; show 0 + cutN s.p.record.length ≤ _; omega) (by rw [hmn]; show _ + 0 + cutN s.p.record.length ≤ _; omega)
    have hring : s.r = Rg.of 1 (len / 4) base rs := g.ring
    have htp : s.r.top = base + many base rs := by rw [hring]; rfl
    refine ⟨s', base + many base rs, [] ++ [s.p.record], ?_, r1, r2, ?_, ⟨r3.dead, r3.set, r3.len, r3.few.mono (by show n + 403 + cutN s.p.record.length + 1 ≤ _; omega)⟩, r4, r5.1, r5.2.1, r5.2.2.1, r5.2.2.2.1, r5.2.2.2.2.1, r5.2.2.2.2.2, ?_⟩
    · unfold Sy.log
      rw [append_full (s := ⟨s.p, s.r, e⟩) h.pd g hcle hfit]
      simp only [if_true]
      rw [e1]
      simp only [if_true]
      exact ef
    · rw [many_snoc, hmn]; omega
    · have hfull : s.append s.p.record = (3, s) := by
        have hroom := g.room
        have hpos := cutN_pos s.p.record.length
        have hno : refuse s.r (cutN s.p.record.length) = some 3 := by
          rw [hring]
          unfold refuse Rg.room Rg.of
          simp only [Nat.lt_irrefl, if_false]
          rw [if_neg (by omega), if_pos (by omega)]
        unfold Sy.append
        rw [app_refused hno]
      have hlg : Sy.log s s.p.record = if (s.settle s.r.top).1 = 0 then (s.settle s.r.top).2.append s.p.record else s.settle s.r.top := by
        unfold Sy.log
        rw [hfull]
        simp only [if_true]
      rw [hlg]
      rcases t.settle (top := s.r.top) h.pd hw with ⟨a, b, x1, x2, x3⟩ | ⟨a, b, c⟩
      · rw [if_pos a]
        rw [e1] at x1 x2 x3
        have hrep := r2.rep
        rw [hpgs r1] at hrep
        obtain ⟨s4, hs4⟩ : ∃ s4, s4 = (s.settle s.r.top).2 := ⟨_, rfl⟩
        rw [← hs4] at x1 x2 x3 ⊢
        have hq : (Sy.mk s4.p s4.r s1.d) = s1 := by rw [x1, x2]
        have htw := tail_tw (T := base + many base rs + 100) (s2 := s4) (e2 := s1.d) (s' := s') (rec := s.p.record) (rs := []) (base := base + many base rs) x3 (by rw [x1]; exact pd1) (by rw [hq]; exact g1) c1 w1 (by rw [hmn]; omega) (by rw [hmn]; omega) (by omega) (by rw [hq]; exact ef) hrep r1.dr fun q hq => by have := r1.dirty q hq; rw [hpgs r1] at this; exact this
        have hcm : s4.p.comm s1.d = s.p.comm e := by rw [x1]; exact cm1
        rw [hcm] at htw
        rcases htw with ⟨a, b, c, f⟩ | ⟨a, b⟩
        · exact .inl ⟨a, b, c, f.less (by omega)⟩
        · exact .inr ⟨by omega, b⟩
      · rw [if_neg (by rw [b]; decide)]
        have hfin : Sy.finish (s.settle s.r.top) = s.settle s.r.top := by
          unfold Sy.finish
          rw [if_pos (by rw [b]; decide)]
        rw [hfin]
        rw [h.first, htp] at c
        rw [htp] at b ⊢
        refine .inr ⟨by omega, b, ?_⟩
        obtain ⟨o, hv, _⟩ := Lg.onD (s := ⟨s.p, s.r, e⟩) h.pd g hw
        have o' : OnD len e.lasts base rs s.p.dirty (base + many base rs) := o
        have hv' : vL len e.lasts s.p.dirty = s.p.comm e := hv
        rcases c with ⟨c1, c2, kp, c3⟩ | ⟨c1, c2, kp, c3⟩
        · obtain ⟨y1, y2⟩ := o'.pages hl64 kp
          exact ⟨c1, c2, .inl (by rw [c3]; exact ⟨base, rs, _, y1.upto (by omega), y2.trans hv'⟩)⟩
        · refine ⟨c1, c2, .inl ?_⟩
          rw [c3, ← hv']
          exact (o'.headed hl64 kp).upto (by omega)
end Go.Proofs.YteoeaojebklfjaaGreatDoor
namespace Go.Proofs.YteoeaojebklfjaaGreatDoor
open Go.RowKit Go.Maps
set_option linter.unusedVariables false
section
variable {N : Nat} {d e : Dk} {p : Pg}
theorem Tw.comm (t : Tw N d e) (p : Pg) : p.comm d = p.comm e := by
  funext k
  unfold Pg.comm
  rw [t.read]
theorem Tw.view (t : Tw N d e) (p : Pg) : p.view d = p.view e := by
  funext k
  unfold Pg.view
  rw [t.comm]
theorem Tw.lv (t : Tw N d e) {len : Nat} {G K : List Nat} (h : Lv len p e G K) : Lv len p d G K :=
  ⟨h.l64, h.l400, h.first, h.pages, by rw [t.lasts]; exact h.dlen, ⟨by rw [t.lasts]; exact h.dok.lasts, by rw [t.waits, t.lasts]; exact h.dok.waits, by rw [t.lasts]; exact h.dok.many⟩, h.dirty, h.dr, h.now, h.nr, h.count, h.idle, h.mu, h.mr, by rw [t.view]; exact h.fr, h.ku, h.kr, by rw [t.comm]; exact h.km, by rw [t.comm]; exact h.fk⟩
theorem Tw.fit {s : Sy} (t : Tw N s.d e) {K : List Nat} {m : Mi} : FitP s K m ↔ FitP ⟨s.p, s.r, e⟩ K m := by
  constructor
  · intro h
    exact ⟨h.pages, by show HalfP _ _ _ (s.p.view e) _ _ _; rw [← t.view]; exact h.now, by show HalfP _ _ _ (s.p.comm e) _ _ _; rw [← t.comm]; exact h.kept, h.chm, h.chl⟩
  · intro h
    exact ⟨h.pages, by rw [t.view]; exact h.now, by rw [t.comm]; exact h.kept, h.chm, h.chl⟩
end
theorem settle_tw {len n N base : Nat} {s : Sy} {e : Dk} {G K : List Nat} {rs : List Rec} (t : Tw N s.d e) (l : Lv len s.p e G K) (g : Lg len ⟨s.p, s.r, e⟩ base rs) (hc : e.Calm len n) (hw : e.waits = []) :
    ∃ s', (Sy.mk s.p s.r e).settle s.r.top = (0, s') ∧ s'.p = s.p.settled ∧ Lv len s'.p s'.d G K ∧ Lg len s' (base + many base rs) [] ∧ s'.d.Calm len (n + 403) ∧ s'.d.waits = [] ∧ s'.p.comm s'.d = s.p.comm e ∧ s'.p.view s'.d = s.p.view e ∧
      (((s.settle s.r.top).1 = 0 ∧ (s.settle s.r.top).2.p = s'.p ∧ (s.settle s.r.top).2.r = s'.r ∧ Tw (N - 403) (s.settle s.r.top).2.d s'.d) ∨
      (N < 403 ∧ (s.settle s.r.top).1 = 20 ∧ (s.settle s.r.top).2.d.dead = true ∧ (s.settle s.r.top).2.d.waits = [] ∧ HasV len (s.settle s.r.top).2.d.lasts (s.p.comm e) (base + many base rs))) := by
  obtain ⟨s', es, p', l', g', c', cm, vw⟩ := settle_lv (s := ⟨s.p, s.r, e⟩) l g hc
  obtain ⟨s'', es', _, _, _, _, w', _⟩ := settle_calm (s := ⟨s.p, s.r, e⟩) l.pd g hc
  have hss : s'' = s' := by
    have := es'.symm.trans es
    injection this
  subst hss
  refine ⟨s'', es, p', l', g', c', w', cm, vw, ?_⟩
  have hring : s.r = Rg.of 1 (len / 4) base rs := g.ring
  have htp : s.r.top = base + many base rs := by rw [hring]; rfl
  rcases t.settle (top := s.r.top) l.pd hw with ⟨a, b, x1, x2, x3⟩ | ⟨a, b, c⟩
  · have es2 : (Sy.mk s.p s.r e).settle s.r.top = (0, s'') := es
    rw [es2] at x1 x2 x3
    exact .inl ⟨a, x1, x2, x3⟩
  · refine .inr ⟨a, b, ?_⟩
    obtain ⟨o, hv, _⟩ := Lg.onD (s := ⟨s.p, s.r, e⟩) l.pd g hw
    have o' : OnD len e.lasts base rs s.p.dirty (base + many base rs) := o
    have hv' : vL len e.lasts s.p.dirty = s.p.comm e := hv
    rw [l.first] at c
    rcases c with ⟨c1, c2, kp, c3⟩ | ⟨c1, c2, kp, c3⟩
    · obtain ⟨y1, y2⟩ := o'.pages l.l64 kp
      exact ⟨c1, c2, by rw [c3]; exact ⟨base, rs, _, y1, y2.trans hv'⟩⟩
    · refine ⟨c1, c2, ?_⟩
      rw [c3, ← hv', htp]
      exact o'.headed l.l64 kp
structure Tn (N : Nat) (s : Sy) (e : Dk) (m : Mi) (len n T : Nat) (G K : List Nat) : Prop where
  tw : Tw N s.d e
  lv : Lv len s.p e G K
  lg : ∃ base rs, Lg len ⟨s.p, s.r, e⟩ base rs ∧ base + many base rs ≤ T
  calm : e.Calm len n
  wt : e.waits = []
  fit : FitP s K m
def PlQ (N : Nat) (s : Sy) (m : Mi) (len n T : Nat) : Prop := ∃ e G K, Tn N s e m len n T G K
def LiesM (len : Nat) (L : List Sec) (T : Nat) (m : Mi) : Prop := ∃ V mt K, HasV len L V T ∧ Mt len V mt K ∧ m.pages = ((len - 1 - len / 4 : Nat) : Int) ∧ HalfP (usesU mt.used K) (((len - 1 - len / 4 : Nat) : Int) - (mt.used : Int) + (K.length : Int)) (mt.root : Int) V m.kept m.pages m.kroot
theorem LiesM.upto {len T T' : Nat} {L : List Sec} {m : Mi} (h : LiesM len L T m) (hT : T ≤ T') : LiesM len L T' m := by
  obtain ⟨V, mt, K, a, b⟩ := h
  exact ⟨V, mt, K, a.upto hT, b⟩
theorem FitP.lies {len T : Nat} {s : Sy} {G K : List Nat} {m : Mi} {L : List Sec} (f : FitP s K m) (l : Lv len s.p s.d G K) (h : HasV len L (s.p.comm s.d) T) : LiesM len L T m := by
  have hp := l.pages
  exact ⟨_, _, K, h, l.cm.mt, by rw [f.pages, hp], by rw [← hp]; exact f.kept⟩
theorem LiesM.abort {len T : Nat} {L : List Sec} {m : Mi} (h : LiesM len L T m) : LiesM len L T m.abort := h
theorem Tn.lies {N len n T : Nat} {s : Sy} {e : Dk} {m : Mi} {G K : List Nat} (h : Tn N s e m len n T G K) : LiesM len e.lasts T m := by
  obtain ⟨base, rs, g, hT⟩ := h.lg
  obtain ⟨o, hv, _⟩ := Lg.onD (s := ⟨s.p, s.r, e⟩) h.lv.pd g h.wt
  exact (h.tw.fit.1 h.fit).lies (s := ⟨s.p, s.r, e⟩) h.lv ⟨base, rs, _, o.upto hT, hv⟩
theorem LiesM.fits {len T : Nat} {m : Mi} {p : Pg} {e' : Dk} {r : Rg} {V : Nat → Sec} {mt : Meta} {K : List Nat} (hp : m.pages = ((len - 1 - len / 4 : Nat) : Int)) (h : HalfP (usesU mt.used K) (((len - 1 - len / 4 : Nat) : Int) - (mt.used : Int) + (K.length : Int)) (mt.root : Int) V m.kept m.pages m.kroot) (lv : Lv len p e' K K) (e1 : p.m = mt) (e2 : p.kept = mt) (e3 : p.comm e' = V) (e4 : p.view e' = V) (e5 : p.count = []) : FitP ⟨p, r, e'⟩ K m.abort := by
  have hpg := lv.pages
  have hus : p.uses = usesU mt.used K := by funext n; rw [lv.uses, e1]; rfl
  have hfr : p.free = ((len - 1 - len / 4 : Nat) : Int) - (mt.used : Int) + (K.length : Int) := by rw [lv.free, e1, hpg]
  refine ⟨by show m.pages = _; rw [hp, hpg], ?_, ?_, fun n => ?_, ?_⟩
  · show HalfP p.uses p.free (p.m.root : Int) (p.view e') m.kept m.pages m.kroot
    rw [hus, hfr, e1, e4]; exact h
  · show HalfP (usesU p.kept.used K) ((p.pages : Int) - (p.kept.used : Int) + (K.length : Int)) (p.kept.root : Int) (p.comm e') m.kept m.pages m.kroot
    rw [e2, e3, hpg]; exact h
  · show (n : Int) ∈ [] ↔ kLook p.count n ≠ none
    rw [e5]; simp [kLook_nil]
  · show 0 = p.count.length
    rw [e5]; rfl
theorem all_of {α : Type} [DecidableEq α] : ∀ (a b : List α), a.Nodup → (∀ x ∈ a, x ∈ b) → b.length ≤ a.length → ∀ y ∈ b, y ∈ a
  | [], b, _, _, hl, y, hy => by
    have : b = [] := List.length_eq_zero_iff.1 (by simpa using hl)
    rw [this] at hy
    exact hy
  | x :: a, b, hn, hs, hl, y, hy => by
    have hn' := List.nodup_cons.1 hn
    have hx : x ∈ b := hs x (by simp)
    by_cases e : y = x
    · rw [e]; simp
    · have hy' : y ∈ b.erase x := (List.mem_erase_of_ne e).2 hy
      have := all_of a (b.erase x) hn'.2 (fun z hz => (List.mem_erase_of_ne (fun e => hn'.1 (by rw [← e]; exact hz))).2 (hs z (by simp [hz]))) (by rw [List.length_erase_of_mem hx]; simp at hl; omega) y hy'
      simp [this]
theorem HalfP.other {s : Sy} {y x : Mi} (h : HalfP s.p.uses s.p.free (s.p.m.root : Int) (s.p.view s.d) y.now y.pages y.root) (st : Standing s x) (nd : (x.now.map fun p => p.n).Nodup) (hp : x.pages = y.pages) : HalfP s.p.uses s.p.free (s.p.m.root : Int) (s.p.view s.d) x.now x.pages x.root := by
  obtain ⟨h1, h2, h3⟩ := st
  have hc := h.cnt
  have hlen : (y.now.map fun p => p.n).length ≤ (x.now.map fun p => p.n).length := by
    rw [List.length_map, List.length_map]
    have : x.free = x.pages - 1 - (x.now.length : Int) := rfl
    omega
  have hall := all_of (x.now.map fun p => p.n) (y.now.map fun p => p.n) nd (fun n hn => by
    obtain ⟨p, hp, rfl⟩ := List.mem_map.1 hn
    obtain ⟨q, hq, e⟩ := (h.use p.n).1 (h3 p hp).1
    exact List.mem_map.2 ⟨q, hq, e⟩) hlen
  refine ⟨nd, fun n => ⟨fun hn => ?_, fun ⟨p, hp, e⟩ => by rw [← e]; exact (h3 p hp).1⟩, fun p hp hk => (h3 p hp).2 hk, h2, h1⟩
  obtain ⟨q, hq, e⟩ := (h.use n).1 hn
  obtain ⟨p, hp, e2⟩ := List.mem_map.1 (hall n (List.mem_map.2 ⟨q, hq, e⟩))
  exact ⟨p, hp, e2⟩
theorem FitP.other {len : Nat} {s : Sy} {e : Dk} {K : List Nat} {y x : Mi} (h : FitP s K y.abort) (l : Lv len s.p s.d K K) (hm : s.p.kept = s.p.m) (hv : s.p.comm s.d = s.p.view s.d) (st : Standing s x.abort) (nd : (x.kept.map fun p => p.n).Nodup) (hp : x.pages = y.pages) : FitP s K x.abort := by
  have hn := HalfP.other (x := x.abort) h.now st nd hp
  have hus : s.p.uses = usesU s.p.kept.used K := by funext n; rw [l.uses, hm]; rfl
  have hfr : s.p.free = (s.p.pages : Int) - (s.p.kept.used : Int) + (K.length : Int) := by rw [l.free, hm]
  have hn' := hn
  rw [hus, hfr, ← hm, ← hv] at hn'
  exact ⟨hp.trans h.pages, hn, hn', h.chm, h.chl⟩
end Go.Proofs.YteoeaojebklfjaaGreatDoor
namespace Go.Proofs.YteoeaojebklfjaaGreatDoor
open Go.RowKit Go.Maps
set_option linter.unusedVariables false
set_option linter.unusedSimpArgs false
set_option maxRecDepth 20000
theorem copiedG {w w5 : World} {size n : Nat} {xs : List Value} {t : TypeId} {a2 : Option Addr} {c2 : Nat} (hv2 : Vec w5 size (.slice a2 (0 + n) c2) (0 + n) ([] ++ xs)) (hg2 : (w.alloc (.cells #[] t)).grownBy w5 (Value.slice (some ⟨w.heap.size, 0, none⟩) 0 0).ownBlock) (hf2 : ∀ k, (Value.slice a2 (0 + n) c2).ownBlock = some k → (Value.slice (some ⟨w.heap.size, 0, none⟩) 0 0).ownBlock = some k ∨ (w.alloc (.cells #[] t)).heap.size ≤ k) : Vec w5 size (.slice a2 (0 + n) c2) n xs ∧ (∀ k, (Value.slice a2 (0 + n) c2).ownBlock = some k → w.heap.size ≤ k) ∧ Only None' w w5 := by
  refine ⟨by simpa using hv2, fun k hk => ?_, ?_⟩
  · rcases hf2 k hk with h2 | h2
    · injection h2 with h2
      have h3 : w.heap.size = k := h2
      omega
    · simp at h2; omega
  · exact ((Only.refl None' w).alloc (.cells #[] t)).trans2 ((Only.refl (fun k => k = w.heap.size) _).grown hg2 fun k hk => by injection hk with hk; exact hk.symm) fun k hk e => by omega
structure Cp (w w1 : World) (M C : Nat) (v : Mv) (m : Mi) (us : List Value) : Prop where
  mi : MindAt w1 M v m
  cells : CellsR w1 C us
  only : Only None' w w1
  new : w.heap.size ≤ C
section
variable {w w1 w5 : World} {M C : Nat} {v : Mv} {m : Mi} {us : List Value}
theorem Cp.quiet (h : Cp w w1 M C v m us) (o : Only None' w1 w5) : Cp w w5 M C v m us := ⟨h.mi.new o, h.cells.kept o fun e => e, h.only.trans o, h.new⟩
theorem Cp.set (h : Cp w w1 M C v m us) (hM : M < w.heap.size ∧ ∀ k, mS M v k → k < w.heap.size) {i : Nat} (hi : i < us.length) (x : Value) : Cp w (w1.setCell ⟨C, i, none⟩ x) M C v m (us.set i x) := by
  have hn := h.new
  have o : Only (fun k => k = C) w1 (w1.setCell ⟨C, i, none⟩ x) := (Only.refl (fun k => k = C) w1).setCell (p := ⟨C, i, none⟩) rfl x
  exact ⟨h.mi.only o fun k hk e => by have := hM.2 k hk; omega, h.cells.set hi x, h.only.trans2 o fun k hk e => by omega, h.new⟩
theorem Cp.vec (h : Cp w w1 M C v m us) {size n : Nat} {x : Value} {xs : List Value} (hx : Vec w1 size x n xs) (hf : ∀ g, x.ownBlock = some g → g ≠ C) (i : Nat) (y : Value) : Vec (w1.setCell ⟨C, i, none⟩ y) size x n xs :=
  hx.only ((Only.refl (fun k => k = C) w1).setCell (p := ⟨C, i, none⟩) rfl y) fun g hg e => hf g hg e
end
section
variable {w w' : World} {M : Nat} {v : Mv} {m : Mi}
theorem ints_one (l : List Int) : ∀ u ∈ ints l, u.oneCell' = true := fun u hu => by
  obtain ⟨x, _, rfl⟩ := List.mem_map.1 hu
  rfl
set_option maxHeartbeats 4000000 in
theorem mcopy (h : MindAt w M v m) (hb : m.now.length ≤ 1000000 ∧ m.kept.length ≤ 1000000 ∧ m.ch.length ≤ 1000000) : Calls Tryz.prog 35 #[.pointer (some ⟨M, 0, none⟩)] w fun e w' => ∃ M' v', e = .returned (.pointer (some ⟨M', 0, none⟩)) ∧ MindAt w' M' v' m ∧ (∀ k, mS M' v' k → w.heap.size ≤ k) ∧ Only None' w w' := by
  obtain ⟨an, cn, hvn, _, _⟩ := h.now.shape
  obtain ⟨ak, ck, hvk, _, _⟩ := h.kept.shape
  obtain ⟨ac, cc, hvc, _, _⟩ := h.ch.shape
  have c0 := h.cells.is 0 _ rfl
  have c1 := h.cells.is 1 _ rfl
  have c2 := h.cells.is 2 _ rfl
  have c3 := h.cells.is 3 _ rfl
  have c4 := h.cells.is 4 _ rfl
  have c5 := h.cells.is 5 _ rfl
  rw [hvn] at c1
  rw [hvk] at c2
  rw [hvc] at c5
  have HVN := Lib.hid hvn
  have HVK := Lib.hid hvk
  have HVC := Lib.hid hvc
  have HB := Lib.hid hb
  have H := Lib.hid h
  have HLT : Hid (M < w.heap.size ∧ ∀ k, mS M v k → k < w.heap.size) := Lib.hid ⟨h.lt (.inl rfl), fun k hk => h.lt hk⟩
  clear h hb hvn hvk hvc
  go_enter Tryz.func35, Tryz.ntmps35
  go_upto_region 2 with fail
  obtain ⟨w1, hw1⟩ : ∃ w1, w1 = w.alloc (.cells #[.int .i64 m.pages, .slice an m.now.length cn, .slice ak m.kept.length ck, .int .i64 m.root, .int .i64 m.kroot, .slice ac m.ch.length cc] 50) := ⟨_, rfl⟩
  rw [← hw1]
  have HC : Hid (Cp w w1 M w.heap.size v m [.int .i64 m.pages, .slice an m.now.length cn, .slice ak m.kept.length ck, .int .i64 m.root, .int .i64 m.kroot, .slice ac m.ch.length cc]) := Lib.hid (by
    rw [hw1]
    exact ⟨H.out.new ((Only.refl None' w).alloc _), cells_new w [.int .i64 m.pages, .slice an m.now.length cn, .slice ak m.kept.length ck, .int .i64 m.root, .int .i64 m.kroot, .slice ac m.ch.length cc] 50, (Only.refl None' w).alloc _, Nat.le_refl _⟩)
  clear hw1 c0 c1 c2 c3 c4 c5
  have hc1 := (HC.out.mi.new ((Only.refl None' w1).alloc (.cells #[] 99))).cells.is 1 _ rfl
  have hr1 := (HC.out.mi.new ((Only.refl None' w1).alloc (.cells #[] 99))).now.rd
  rw [HVN.out] at hc1 hr1
  have HR1 := Lib.hid hr1
  have HV1 := Lib.hid (vec_empty3 w1 99)
  clear hr1
  go_upto_region 3 with (first | (at_builtin; go_loud (refine wpList_append_any rfl _ _ 48 rfl 99 Tryz.t99 (.agg #[.int .i64 0, .bool false, .string ⟨#[]⟩]) 3 32 Tryz.underlying48 info99 t99_zero t99_size t99_bytes rfl (by decide) (.slice (some ⟨w1.heap.size, 0, none⟩) 0 0) 0 [] rfl HV1.out (.slice an m.now.length cn) m.now.length (mrow m.now) rfl HR1.out (mrow_one _) (by have := HB.out.1; unfold maxLen; omega) (by have := HB.out.1; omega) ?_); intro v2 w15 hv2 hg2 hf2; obtain ⟨a1, c1, rfl, _, _⟩ := hv2.shape; have HY1 := Lib.hid (copiedG hv2 hg2 hf2); clear hv2 hg2 hf2; have hk1 := (HC.out.quiet HY1.out.2.2).cells.is 1 _ rfl; have ht1 := (HC.out.quiet HY1.out.2.2).cells.thaw 1))
  obtain ⟨w16, hw1⟩ : ∃ w16, w16 = w15.setCell ⟨w.heap.size, 1, none⟩ (.slice a1 m.now.length c1) := ⟨_, rfl⟩
  rw [← hw1]
  have hy1 := HY1.out
  rw [Nat.zero_add] at hy1
  have hq1 := (HC.out.quiet hy1.2.2)
  have hcs1 := hq1.set HLT.out (i := 1) (by simp) (.slice a1 m.now.length c1)
  have hle1 := HC.out.only.size
  have hC1 : w.heap.size < w1.heap.size := HC.out.cells.lt
  have hv1 := hq1.vec hy1.1 (fun g hg => by have := hy1.2.1 g hg; omega) 1 (.slice a1 m.now.length c1)
  rw [← hw1] at hcs1 hv1
  have HC' := Lib.hid hcs1
  have HX1 : Hid (Vec w16 3 (.slice a1 m.now.length c1) m.now.length (mrow m.now) ∧ (∀ g, (Value.slice a1 m.now.length c1).ownBlock = some g → w.heap.size < g) ∧ ∀ g, (Value.slice a1 m.now.length c1).ownBlock = some g → w1.heap.size ≤ g) := Lib.hid ⟨hv1, fun g hg => by have := hy1.2.1 g hg; omega, hy1.2.1⟩
  have HG1 : Hid (∀ g, (Value.slice a1 m.now.length c1).ownBlock = some g → w1.heap.size ≤ g) := Lib.hid hy1.2.1
  clear hw1 hy1 hq1 hcs1 hle1 hC1 hv1 hc1 hk1 ht1 HR1 HV1 HY1 HC
  have HC := HC'
  clear HC'
  have hc2 := (HC.out.mi.new ((Only.refl None' w16).alloc (.cells #[] 99))).cells.is 2 _ rfl
  have hr2 := (HC.out.mi.new ((Only.refl None' w16).alloc (.cells #[] 99))).kept.rd
  rw [HVK.out] at hc2 hr2
  have HR2 := Lib.hid hr2
  have HV2 := Lib.hid (vec_empty3 w16 99)
  clear hr2
  go_upto_region 4 with (first | (at_builtin; go_loud (refine wpList_append_any rfl _ _ 48 rfl 99 Tryz.t99 (.agg #[.int .i64 0, .bool false, .string ⟨#[]⟩]) 3 32 Tryz.underlying48 info99 t99_zero t99_size t99_bytes rfl (by decide) (.slice (some ⟨w16.heap.size, 0, none⟩) 0 0) 0 [] rfl HV2.out (.slice ak m.kept.length ck) m.kept.length (mrow m.kept) rfl HR2.out (mrow_one _) (by have := HB.out.2.1; unfold maxLen; omega) (by have := HB.out.2.1; omega) ?_); intro v2 w25 hv2 hg2 hf2; obtain ⟨a2, c2, rfl, _, _⟩ := hv2.shape; have HY2 := Lib.hid (copiedG hv2 hg2 hf2); clear hv2 hg2 hf2; have hk2 := (HC.out.quiet HY2.out.2.2).cells.is 2 _ rfl; have ht2 := (HC.out.quiet HY2.out.2.2).cells.thaw 2))
  obtain ⟨w26, hw2⟩ : ∃ w26, w26 = w25.setCell ⟨w.heap.size, 2, none⟩ (.slice a2 m.kept.length c2) := ⟨_, rfl⟩
  rw [← hw2]
  have hy2 := HY2.out
  rw [Nat.zero_add] at hy2
  have hq2 := (HC.out.quiet hy2.2.2)
  have hcs2 := hq2.set HLT.out (i := 2) (by simp) (.slice a2 m.kept.length c2)
  have hle2 := HC.out.only.size
  have hC2 : w.heap.size < w16.heap.size := HC.out.cells.lt
  have hv2 := hq2.vec hy2.1 (fun g hg => by have := hy2.2.1 g hg; omega) 2 (.slice a2 m.kept.length c2)
  have hp12 := hq2.vec (HX1.out.1.only hy2.2.2 fun _ _ e => e) (fun g hg => by have := HX1.out.2.1 g hg; omega) 2 (.slice a2 m.kept.length c2)
  rw [← hw2] at hp12
  rw [← hw2] at hcs2 hv2
  have HC' := Lib.hid hcs2
  have HX2 : Hid (Vec w26 3 (.slice a2 m.kept.length c2) m.kept.length (mrow m.kept) ∧ (∀ g, (Value.slice a2 m.kept.length c2).ownBlock = some g → w.heap.size < g) ∧ ∀ g, (Value.slice a2 m.kept.length c2).ownBlock = some g → w16.heap.size ≤ g) := Lib.hid ⟨hv2, fun g hg => by have := hy2.2.1 g hg; omega, hy2.2.1⟩
  have HX1' : Hid (Vec w26 3 (.slice a1 m.now.length c1) m.now.length (mrow m.now) ∧ (∀ g, (Value.slice a1 m.now.length c1).ownBlock = some g → w.heap.size < g) ∧ True) := Lib.hid ⟨hp12, HX1.out.2.1, trivial⟩
  have HN12 : Hid (∀ g, (Value.slice a1 m.now.length c1).ownBlock = some g → g < w16.heap.size) := Lib.hid fun g hg => HX1.out.1.lt hg
  clear HX1 hp12
  have HX1 := HX1'
  clear HX1'
  have HG2 : Hid (∀ g, (Value.slice a2 m.kept.length c2).ownBlock = some g → w16.heap.size ≤ g) := Lib.hid hy2.2.1
  clear hw2 hy2 hq2 hcs2 hle2 hC2 hv2 hc2 hk2 ht2 HR2 HV2 HY2 HC
  have HC := HC'
  clear HC'
  have hc3 := (HC.out.mi.new ((Only.refl None' w26).alloc (.cells #[] 3))).cells.is 5 _ rfl
  have hr3 := (HC.out.mi.new ((Only.refl None' w26).alloc (.cells #[] 3))).ch.rd
  rw [HVC.out] at hc3 hr3
  have HR3 := Lib.hid hr3
  have HV3 := Lib.hid (vec_empty w26 3)
  clear hr3
  go_upto_region 5 with (first | (at_builtin; go_loud (refine wpList_append_any rfl _ _ 28 rfl 3 Tryz.t3 (.int .i64 0) 1 8 Tryz.underlying28 info3 t3_zero t3_size t3_bytes rfl (by decide) (.slice (some ⟨w26.heap.size, 0, none⟩) 0 0) 0 [] rfl HV3.out (.slice ac m.ch.length cc) m.ch.length (ints m.ch) rfl HR3.out (ints_one _) (by have := HB.out.2.2; unfold maxLen; omega) (by have := HB.out.2.2; omega) ?_); intro v2 w35 hv2 hg2 hf2; obtain ⟨a3, c3, rfl, _, _⟩ := hv2.shape; have HY3 := Lib.hid (copiedG hv2 hg2 hf2); clear hv2 hg2 hf2; have hk3 := (HC.out.quiet HY3.out.2.2).cells.is 5 _ rfl; have ht3 := (HC.out.quiet HY3.out.2.2).cells.thaw 5))
  obtain ⟨w36, hw3⟩ : ∃ w36, w36 = w35.setCell ⟨w.heap.size, 5, none⟩ (.slice a3 m.ch.length c3) := ⟨_, rfl⟩
  rw [← hw3]
  have hy3 := HY3.out
  rw [Nat.zero_add] at hy3
  have hq3 := (HC.out.quiet hy3.2.2)
  have hcs3 := hq3.set HLT.out (i := 5) (by simp) (.slice a3 m.ch.length c3)
  have hle3 := HC.out.only.size
  have hC3 : w.heap.size < w26.heap.size := HC.out.cells.lt
  have hv3 := hq3.vec hy3.1 (fun g hg => by have := hy3.2.1 g hg; omega) 5 (.slice a3 m.ch.length c3)
  have hp13 := hq3.vec (HX1.out.1.only hy3.2.2 fun _ _ e => e) (fun g hg => by have := HX1.out.2.1 g hg; omega) 5 (.slice a3 m.ch.length c3)
  rw [← hw3] at hp13
  have hp23 := hq3.vec (HX2.out.1.only hy3.2.2 fun _ _ e => e) (fun g hg => by have := HX2.out.2.1 g hg; omega) 5 (.slice a3 m.ch.length c3)
  rw [← hw3] at hp23
  rw [← hw3] at hcs3 hv3
  have HC' := Lib.hid hcs3
  have HX3 : Hid (Vec w36 1 (.slice a3 m.ch.length c3) m.ch.length (ints m.ch) ∧ (∀ g, (Value.slice a3 m.ch.length c3).ownBlock = some g → w.heap.size < g) ∧ ∀ g, (Value.slice a3 m.ch.length c3).ownBlock = some g → w26.heap.size ≤ g) := Lib.hid ⟨hv3, fun g hg => by have := hy3.2.1 g hg; omega, hy3.2.1⟩
  have HX1' : Hid (Vec w36 3 (.slice a1 m.now.length c1) m.now.length (mrow m.now) ∧ (∀ g, (Value.slice a1 m.now.length c1).ownBlock = some g → w.heap.size < g) ∧ True) := Lib.hid ⟨hp13, HX1.out.2.1, trivial⟩
  have HN13 : Hid (∀ g, (Value.slice a1 m.now.length c1).ownBlock = some g → g < w26.heap.size) := Lib.hid fun g hg => HX1.out.1.lt hg
  clear HX1 hp13
  have HX1 := HX1'
  clear HX1'
  have HX2' : Hid (Vec w36 3 (.slice a2 m.kept.length c2) m.kept.length (mrow m.kept) ∧ (∀ g, (Value.slice a2 m.kept.length c2).ownBlock = some g → w.heap.size < g) ∧ True) := Lib.hid ⟨hp23, HX2.out.2.1, trivial⟩
  have HN23 : Hid (∀ g, (Value.slice a2 m.kept.length c2).ownBlock = some g → g < w26.heap.size) := Lib.hid fun g hg => HX2.out.1.lt hg
  clear HX2 hp23
  have HX2 := HX2'
  clear HX2'
  have HG3 : Hid (∀ g, (Value.slice a3 m.ch.length c3).ownBlock = some g → w26.heap.size ≤ g) := Lib.hid hy3.2.1
  clear hw3 hy3 hq3 hcs3 hle3 hC3 hv3 hc3 hk3 ht3 HR3 HV3 HY3 HC
  have HC := HC'
  clear HC'
  go_wp2_with fail
  go_ret
  refine ⟨w.heap.size, ⟨.slice a1 m.now.length c1, .slice a2 m.kept.length c2, .slice a3 m.ch.length c3⟩, rfl, ⟨HC.out.cells, HX1.out.1, HX2.out.1, HX3.out.1, fun e => ?_, fun e => ?_, fun e => ?_, fun g hg e => ?_, fun g hg e => ?_, fun g hg e => ?_⟩, fun k hk => ?_, HC.out.only⟩
  · have := HX1.out.2.1 _ e; omega
  · have := HX2.out.2.1 _ e; omega
  · have := HX3.out.2.1 _ e; omega
  · have := HN12.out g hg; have := HG2.out g e; omega
  · have := HN13.out g hg; have := HG3.out g e; omega
  · have := HN23.out g hg; have := HG3.out g e; omega
  · rcases hk with rfl | e | e | e
    · exact Nat.le_refl _
    · have := HX1.out.2.1 k e; omega
    · have := HX2.out.2.1 k e; omega
    · have := HX3.out.2.1 k e; omega
end
end Go.Proofs.YteoeaojebklfjaaGreatDoor
