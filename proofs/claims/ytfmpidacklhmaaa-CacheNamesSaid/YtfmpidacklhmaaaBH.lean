/- AR + AS in one text. -/
import Derived.Test.YtfmpidacklhmaaaAQ
/- The cache's steps as the law does them. (Printed by tp.py.) -/
namespace Go.Proofs.Ytfmpidacklhmaaa
open Go.RowKit Go.Maps
set_option linter.unusedVariables false
set_option linter.unusedSimpArgs false
set_option maxRecDepth 20000

theorem Told.on {w w1 w2 : World} {b : Bk} {s : Cs} {v : Value} {a : Option (Int × Mg)} (h : Told w w1 b s v a) (o : Only None' w1 w2) : Told w w2 b s v a := by
  cases a with
  | none => exact h
  | some q =>
    obtain ⟨R, h1, h2, h3⟩ := h
    exact ⟨R, h1.only o fun e => e, h2, h3⟩
theorem heard_10 {w : World} {b : Bk} {s s' : Cs} (h : CacheAt w b s) (from_ : Int) (m : Mg) (hk : m.kind = 10) (a : Option (Int × Mg))
    (hc : ∀ w1, CacheAt w1 b s → Calls Try.prog 24 #[.pointer (some ⟨b.C, 0, none⟩), .int .i64 from_, m.v] w1 fun e w' => ∃ v, e = .returned v ∧ Told w1 w' b s' v a ∧ Did b s s' w1 w') :
    Calls Try.prog 8 #[.pointer (some ⟨b.C, 0, none⟩), .int .i64 from_, m.v] w fun e w' => ∃ v, e = .returned v ∧ Told w w' b s' v a ∧ Did b s s' w w' :=
  hear_10 h from_ m hk (fun v w' => Told w w' b s' v a ∧ Did b s s' w w') (fun v w1 w2 g o => ⟨g.1.on o, g.2.new o⟩) fun w1 o => (hc w1 (h.new o)).mono fun e w' ⟨v, e1, e2, e3⟩ => ⟨v, e1, e2.from_ o.size, (h.did.new o).trans e3⟩
theorem heard_9 {w : World} {b : Bk} {s s' : Cs} (h : CacheAt w b s) (from_ : Int) (m : Mg) (hk : m.kind = 9) (a : Option (Int × Mg))
    (hc : ∀ w1, CacheAt w1 b s → Calls Try.prog 25 #[.pointer (some ⟨b.C, 0, none⟩), .int .i64 from_, m.v] w1 fun e w' => ∃ v, e = .returned v ∧ Told w1 w' b s' v a ∧ Did b s s' w1 w') :
    Calls Try.prog 8 #[.pointer (some ⟨b.C, 0, none⟩), .int .i64 from_, m.v] w fun e w' => ∃ v, e = .returned v ∧ Told w w' b s' v a ∧ Did b s s' w w' :=
  hear_9 h from_ m hk (fun v w' => Told w w' b s' v a ∧ Did b s s' w w') (fun v w1 w2 g o => ⟨g.1.on o, g.2.new o⟩) fun w1 o => (hc w1 (h.new o)).mono fun e w' ⟨v, e1, e2, e3⟩ => ⟨v, e1, e2.from_ o.size, (h.did.new o).trans e3⟩
theorem heard_13 {w : World} {b : Bk} {s s' : Cs} (h : CacheAt w b s) (from_ : Int) (m : Mg) (hk : m.kind = 13) (a : Option (Int × Mg))
    (hc : ∀ w1, CacheAt w1 b s → Calls Try.prog 26 #[.pointer (some ⟨b.C, 0, none⟩), .int .i64 from_, m.v] w1 fun e w' => ∃ v, e = .returned v ∧ Told w1 w' b s' v a ∧ Did b s s' w1 w') :
    Calls Try.prog 8 #[.pointer (some ⟨b.C, 0, none⟩), .int .i64 from_, m.v] w fun e w' => ∃ v, e = .returned v ∧ Told w w' b s' v a ∧ Did b s s' w w' :=
  hear_13 h from_ m hk (fun v w' => Told w w' b s' v a ∧ Did b s s' w w') (fun v w1 w2 g o => ⟨g.1.on o, g.2.new o⟩) fun w1 o => (hc w1 (h.new o)).mono fun e w' ⟨v, e1, e2, e3⟩ => ⟨v, e1, e2.from_ o.size, (h.did.new o).trans e3⟩
theorem heard_16 {w : World} {b : Bk} {s s' : Cs} (h : CacheAt w b s) (from_ : Int) (m : Mg) (hk : m.kind = 16) (a : Option (Int × Mg))
    (hc : ∀ w1, CacheAt w1 b s → Calls Try.prog 27 #[.pointer (some ⟨b.C, 0, none⟩), .int .i64 from_, m.v] w1 fun e w' => ∃ v, e = .returned v ∧ Told w1 w' b s' v a ∧ Did b s s' w1 w') :
    Calls Try.prog 8 #[.pointer (some ⟨b.C, 0, none⟩), .int .i64 from_, m.v] w fun e w' => ∃ v, e = .returned v ∧ Told w w' b s' v a ∧ Did b s s' w w' :=
  hear_16 h from_ m hk (fun v w' => Told w w' b s' v a ∧ Did b s s' w w') (fun v w1 w2 g o => ⟨g.1.on o, g.2.new o⟩) fun w1 o => (hc w1 (h.new o)).mono fun e w' ⟨v, e1, e2, e3⟩ => ⟨v, e1, e2.from_ o.size, (h.did.new o).trans e3⟩
def kB : ByteArray := ⟨#[107]⟩
def zB : ByteArray := ⟨#[122]⟩
def vB : ByteArray := ⟨#[118]⟩
def wB : ByteArray := ⟨#[119]⟩
/-- what is known of a cache that knows the owner -/
structure Sd (s : Cs) (t : Int) (l : List Lru.Node) (c : Cl) (n : Nat) (q : Option Int) : Prop where
  clock : s.clock = t
  l : s.l = l
  c : s.c = c
  n : s.n ≤ n
  ow : s.ow = 2
  ep : s.ep = 1
  fk : ∀ r, q = some r → (s.f r).op.kind = 1
def Cl.next (c : Cl) : Int := ((c.life * 1048576 + c.given + 1 : Nat) : Int)
theorem get_code {key : ByteArray} (id : Int) (h1 : 1 ≤ key.size) (h2 : key.size ≤ 32) : (getM key id).op5.code = 0 := by
  have a1 : ¬ key.size = 0 := by omega
  have a2 : ¬ 32 < key.size := by omega
  have a3 : ¬ 2000 < ByteArray.size ⟨#[]⟩ := by decide
  simp only [Op5.code, Mg.op5, getM, a1, a2, a3]
  rfl
/-- the mail of a request that is forwarded to the owner -/
def readM (kind : Int) (r id : Int) (m : Mg) : Mg := { kind := kind, epoch := 1, req := r, client := 201, id := id, op := m.op, key := m.key, val := m.val, old := m.old, had := m.had }
theorem fwd_f (s : Cs) (x : Wt) {r : Int} (h : r = x.req) : (s.fwd x).f r = ⟨(s.f x.req).op, s.ow == 0⟩ := by
  unfold Cs.fwd
  simp only
  rw [if_pos h]
theorem asks_f (s : Cs) (m : Mg) {r : Int} (h : r = (s.newWait m).req) : (s.asks m).f r = ⟨m.op5, false⟩ := by
  unfold Cs.asks
  simp only
  rw [if_pos h]
theorem asks_mail {s : Cs} {t : Int} {l : List Lru.Node} {c : Cl} {n : Nat} {q : Option Int} (d : Sd s t l c n q) (m : Mg) (hcl : m.client = 201) : (s.asks m).fwdMail (s.newWait m) = (2, readM (if m.op = 1 then 12 else 14) c.next m.id m) := by
  have e1 : (s.newWait m).req = c.next := by unfold Cs.newWait; rw [d.c]; rfl
  have e2 : (s.asks m).f (s.newWait m).req = ⟨m.op5, false⟩ := asks_f s m rfl
  have e3 : (s.asks m).ow = 2 := d.ow
  have e4 : (s.asks m).ep = 1 := d.ep
  unfold Cs.fwdMail
  rw [e2, e3, e4, e1, if_neg (by decide)]
  unfold readM Cs.newWait Mg.op5
  rw [hcl]
theorem asks_sd {s : Cs} {t : Int} {l : List Lru.Node} {c : Cl} {n : Nat} {q : Option Int} (d : Sd s t l c n q) (m : Mg) (hcl : m.client = 201) (hop : m.op = 1) : Sd ((s.asks m).fwd (s.newWait m)) t l (c.asked m.key 201 m.id t) (n + 2) (some c.next) := by
  have e1 : (s.newWait m).req = c.next := by unfold Cs.newWait; rw [d.c]; rfl
  refine ⟨d.clock, d.l, ?_, ?_, d.ow, d.ep, ?_⟩
  · show s.c.asked m.key m.client m.id s.clock = _
    rw [d.c, d.clock, hcl]
  · show s.n + 1 + 1 ≤ _
    have := d.n
    omega
  · intro r hr
    injection hr with hr
    rw [fwd_f _ _ (hr.symm.trans e1.symm), asks_f s m rfl]
    exact hop
theorem asks_sd0 {s : Cs} {t : Int} {l : List Lru.Node} {c : Cl} {n : Nat} {q : Option Int} (d : Sd s t l c n q) (m : Mg) (hcl : m.client = 201) : Sd ((s.asks m).fwd (s.newWait m)) t l (c.asked m.key 201 m.id t) (n + 2) none := by
  refine ⟨d.clock, d.l, ?_, ?_, d.ow, d.ep, fun r hr => by cases hr⟩
  · show s.c.asked m.key m.client m.id s.clock = _
    rw [d.c, d.clock, hcl]
  · show s.n + 1 + 1 ≤ _
    have := d.n
    omega
section
variable {w : World} {b : Bk} {s : Cs} {t : Int} {l : List Lru.Node} {c : Cl} {n : Nat} {q : Option Int}
/-- a Get of a key that is not on the shelf -/
theorem st_miss (h : CacheAt w b s) (d : Sd s t l c n q) (key : ByteArray) (id : Int) (h1 : 1 ≤ key.size) (h2 : key.size ≤ 32) (hh : Lru.hasKey l key = false) (hc : c.askCode t = 0) (hn : n ≤ 1000) :
    Calls Try.prog 8 #[.pointer (some ⟨b.C, 0, none⟩), .int .i64 201, (getM key id).v] w fun e w' => ∃ v, e = .returned v ∧ ∃ s', Told w w' b s' v (some (2, readM 12 c.next id (getM key id))) ∧ Did b s s' w w' ∧ Sd s' t l (c.asked key 201 id t) (n + 2) (some c.next) := by
  have hm : (s.asks (getM key id)).fwdMail (s.newWait (getM key id)) = (2, readM 12 c.next id (getM key id)) := asks_mail d (getM key id) rfl
  have hs := asks_sd d (getM key id) rfl rfl
  refine (heard_10 (s' := (s.asks (getM key id)).fwd (s.newWait (getM key id))) h 201 (getM key id) rfl (some (2, readM 12 c.next id (getM key id))) fun w1 h1' => ?_).mono ?_
  · rw [← hm]
    exact hask_miss s h1' (getM key id) rfl (by rw [d.l]; exact hh) (get_code id h1 h2) (by rw [d.c, d.clock]; exact hc) (by have := d.n; omega) (by show key.size ≤ _; omega) (fun e => by rw [d.ow] at e; cases e)
  · rintro e w' ⟨v, rfl, h3, h4⟩
    exact ⟨v, rfl, _, h3, h4, hs⟩
/-- a Put -/
theorem st_put (h : CacheAt w b s) (d : Sd s t l c n q) (m : Mg) (hk : m.kind = 10) (hcl : m.client = 201) (hop : m.op ≠ 1) (hcode : m.op5.code = 0) (h2 : m.key.size ≤ 32) (hc : c.askCode t = 0) (hn : n ≤ 1000) :
    Calls Try.prog 8 #[.pointer (some ⟨b.C, 0, none⟩), .int .i64 201, m.v] w fun e w' => ∃ v, e = .returned v ∧ ∃ s', Told w w' b s' v (some (2, readM 14 c.next m.id m)) ∧ Did b s s' w w' ∧ Sd s' t l (c.asked m.key 201 m.id t) (n + 2) none := by
  have hm := asks_mail d m hcl
  have hs := asks_sd0 d m hcl
  rw [if_neg hop] at hm
  refine (heard_10 (s' := (s.asks m).fwd (s.newWait m)) h 201 m hk (some (2, readM 14 c.next m.id m)) fun w1 h1' => ?_).mono ?_
  · rw [← hm, ← hcl]
    exact hask_put s h1' m hop hcode (by rw [d.c, d.clock]; exact hc) (by have := d.n; omega) (by omega) (fun e => by rw [d.ow] at e; cases e)
  · rintro e w' ⟨v, rfl, h3, h4⟩
    exact ⟨v, rfl, _, h3, h4, hs⟩
/-- a Get of the key that is on the shelf -/
theorem st_hit (h : CacheAt w b s) {x : Lru.Node} (d : Sd s t [x] c n q) (id : Int) (h1 : 1 ≤ x.2.key.size) (h2 : x.2.key.size ≤ 32) (ht : ¬ x.2.til ≤ t) :
    Calls Try.prog 8 #[.pointer (some ⟨b.C, 0, none⟩), .int .i64 201, (getM x.2.key id).v] w fun e w' => ∃ v, e = .returned v ∧ ∃ s', Told w w' b s' v (some (201, { kind := 11, req := id, rk := 1, rf := true, rv := x.2.val })) ∧ Did b s s' w w' ∧ Sd s' t [x] c n q := by
  refine (heard_10 (s' := { s with l := [] ++ [] ++ [x] }) h 201 (getM x.2.key id) rfl (some (201, { kind := 11, req := id, rk := 1, rf := true, rv := x.2.val })) fun w1 h1' => ?_).mono ?_
  · exact hask_hit s h1' (getM x.2.key id) rfl (p := []) (q := []) d.l rfl (by rw [d.clock]; exact ht) (get_code id h1 h2) (by show x.2.key.size ≤ _; omega)
  · rintro e w' ⟨v, rfl, h3, h4⟩
    exact ⟨v, rfl, _, h3, h4, ⟨d.clock, rfl, d.c, d.n, d.ow, d.ep, d.fk⟩⟩
theorem st_no (h : CacheAt w b s) (m : Mg) (hk : m.kind = 10) (from_ : Int) (hf : m.client ≠ from_) :
    Calls Try.prog 8 #[.pointer (some ⟨b.C, 0, none⟩), .int .i64 from_, m.v] w fun e w' => ∃ v, e = .returned v ∧ Told w w' b s v none ∧ Did b s s w w' :=
  heard_10 h from_ m hk none fun w1 h1' => hask_no s h1' m from_ hf
theorem st_inval (h : CacheAt w b s) (d : Sd s t l c n q) (key : ByteArray) (grant : Int) (hk : key.size ≤ 32) :
    Calls Try.prog 8 #[.pointer (some ⟨b.C, 0, none⟩), .int .i64 2, (Mg.v { kind := 16, key := key, grant := grant })] w fun e w' => ∃ v, e = .returned v ∧ ∃ s', Told w w' b s' v (some (2, { kind := 17, key := key, grant := grant })) ∧ Did b s s' w w' ∧ Sd s' t (Lru.dropKey l key) (c.mark key) n q := by
  refine (heard_16 (s' := { s with l := Lru.dropKey s.l key, c := s.c.mark key }) h 2 { kind := 16, key := key, grant := grant } rfl (some (2, { kind := 17, key := key, grant := grant })) fun w1 h1' => ?_).mono ?_
  · exact hinval_any s h1' { kind := 16, key := key, grant := grant } 2 (by show key.size ≤ _; omega)
  · rintro e w' ⟨v, rfl, h3, h4⟩
    exact ⟨v, rfl, _, h3, h4, ⟨d.clock, by show Lru.dropKey s.l key = _; rw [d.l], by show s.c.mark key = _; rw [d.c], d.n, d.ow, d.ep, d.fk⟩⟩
theorem st_tick (h : CacheAt w b s) (d : Sd s t l c n q) (h0 : 0 ≤ t) (h1 : t ≤ 1000) (ho : ∀ r, q = some r → ∀ x ∈ c.ws, agoB x.first (t + 1) 20 = true → x.req ≠ r) :
    Calls Try.prog 10 #[.pointer (some ⟨b.C, 0, none⟩)] w fun e w' => e = .returned (.slice none 0 0) ∧ ∃ s', Did b s s' w w' ∧ Sd s' (t + 1) (Lru.live (t + 1) l) (c.old (t + 1) 20) n q := by
  refine (tick_any h (by rw [d.clock]; exact h0) (by rw [d.clock]; exact h1)).mono ?_
  rintro e w' ⟨rfl, h3⟩
  refine ⟨rfl, _, h3, ⟨by show s.clock + 1 = _; rw [d.clock], by show Lru.live (s.clock + 1) s.l = _; rw [d.clock, d.l], by show s.c.old (s.clock + 1) 20 = _; rw [d.clock, d.c], d.n, d.ow, d.ep, fun r hr => ?_⟩⟩
  show (delF (s.olds (s.clock + 1)) s.f r).op.kind = 1
  have hno : ∀ x ∈ s.olds (s.clock + 1), x.req ≠ r := fun x hx => by
    unfold Cs.olds at hx
    rw [d.c, d.clock] at hx
    exact ho r hr x (List.mem_filter.1 hx).1 (List.mem_filter.1 hx).2
  have key : ∀ (l : List Wt) (f : Int → Ak), (∀ x ∈ l, x.req ≠ r) → delF l f r = f r := by
    intro l
    induction l with
    | nil => intro f _; rfl
    | cons x l ih =>
      intro f hl
      unfold delF
      rw [ih _ fun y hy => hl y (by simp [hy]), if_neg fun e => hl x (by simp) e.symm]
  rw [key _ _ hno]
  exact d.fk r hr
theorem st_told_B (h : CacheAt w b s) (d : Sd s t l c n q) (rv : ByteArray) (r : Int) (hr : (Lit.int .i64 r).wf = true) (x : Wt) (hf : c.find r = some x) (hxr : x.req = r) (hq : q = some r) (hks : x.key.size ≤ 32) (hmk : x.marked = false) :
    Calls Try.prog 8 #[.pointer (some ⟨b.C, 0, none⟩), .int .i64 2, Mg.v { kind := 13, req := r, code := 0, grant := 0, rk := 1, rf := true, rv := rv }] w fun e w' => ∃ v, e = .returned v ∧ ∃ s', Told w w' b s' v (some (x.client, { kind := 11, req := x.id, code := 0, rk := 1, rf := true, rv := rv })) ∧ Did b s s' w w' ∧ Sd s' t l (c.told r) n none := by
  refine (heard_13 (s' := s.told x r) h 2 { kind := 13, req := r, code := 0, grant := 0, rk := 1, rf := true, rv := rv } rfl (some (x.client, { kind := 11, req := x.id, code := 0, rk := 1, rf := true, rv := rv })) fun w1 h1' => ?_).mono ?_
  · exact htold_B s h1' { kind := 13, req := r, code := 0, grant := 0, rk := 1, rf := true, rv := rv } rv r rfl 2 hr x (by rw [d.c]; exact hf) (by rw [hxr]; exact hr) (by omega) (by rw [hxr]; exact d.fk r hq) hmk
  · rintro e w' ⟨v, rfl, h3, h4⟩
    exact ⟨v, rfl, _, h3, h4, ⟨d.clock, d.l, by show s.c.told r = _; rw [d.c], d.n, d.ow, d.ep, fun r hr => by cases hr⟩⟩
theorem st_told_C (h : CacheAt w b s) (d : Sd s t l c n q) (rv : ByteArray) (r : Int) (hr : (Lit.int .i64 r).wf = true) (x : Wt) (hf : c.find r = some x) (hxr : x.req = r) (hq : q = some r) (hks : x.key.size ≤ 32) (hmk : x.marked = false) :
    Calls Try.prog 8 #[.pointer (some ⟨b.C, 0, none⟩), .int .i64 2, Mg.v { kind := 13, req := r, code := 0, grant := 8, rk := 1, rf := false, rv := rv }] w fun e w' => ∃ v, e = .returned v ∧ ∃ s', Told w w' b s' v (some (x.client, { kind := 11, req := x.id, code := 0, rk := 1, rf := false, rv := rv })) ∧ Did b s s' w w' ∧ Sd s' t l (c.told r) n none := by
  refine (heard_13 (s' := s.told x r) h 2 { kind := 13, req := r, code := 0, grant := 8, rk := 1, rf := false, rv := rv } rfl (some (x.client, { kind := 11, req := x.id, code := 0, rk := 1, rf := false, rv := rv })) fun w1 h1' => ?_).mono ?_
  · exact htold_C s h1' { kind := 13, req := r, code := 0, grant := 8, rk := 1, rf := false, rv := rv } rv r rfl 2 hr x (by rw [d.c]; exact hf) (by rw [hxr]; exact hr) (by omega) (by rw [hxr]; exact d.fk r hq) hmk
  · rintro e w' ⟨v, rfl, h3, h4⟩
    exact ⟨v, rfl, _, h3, h4, ⟨d.clock, d.l, by show s.c.told r = _; rw [d.c], d.n, d.ow, d.ep, fun r hr => by cases hr⟩⟩
theorem st_told_D (h : CacheAt w b s) (d : Sd s t l c n q) (rv : ByteArray) (r : Int) (hr : (Lit.int .i64 r).wf = true) (x : Wt) (hf : c.find r = some x) (hxr : x.req = r) (hq : q = some r) (hks : x.key.size ≤ 32) (hmk : x.marked = false) :
    Calls Try.prog 8 #[.pointer (some ⟨b.C, 0, none⟩), .int .i64 2, Mg.v { kind := 13, req := r, code := 61, grant := 0, rk := 0, rf := false, rv := rv }] w fun e w' => ∃ v, e = .returned v ∧ ∃ s', Told w w' b s' v (some (x.client, { kind := 11, req := x.id, code := 61, rk := 0, rf := false, rv := rv })) ∧ Did b s s' w w' ∧ Sd s' t l (c.told r) n none := by
  refine (heard_13 (s' := s.told x r) h 2 { kind := 13, req := r, code := 61, grant := 0, rk := 0, rf := false, rv := rv } rfl (some (x.client, { kind := 11, req := x.id, code := 61, rk := 0, rf := false, rv := rv })) fun w1 h1' => ?_).mono ?_
  · exact htold_D s h1' { kind := 13, req := r, code := 61, grant := 0, rk := 0, rf := false, rv := rv } rv r rfl 2 hr x (by rw [d.c]; exact hf) (by rw [hxr]; exact hr) (by omega) (by rw [hxr]; exact d.fk r hq) hmk
  · rintro e w' ⟨v, rfl, h3, h4⟩
    exact ⟨v, rfl, _, h3, h4, ⟨d.clock, d.l, by show s.c.told r = _; rw [d.c], d.n, d.ow, d.ep, fun r hr => by cases hr⟩⟩
theorem st_told_E (h : CacheAt w b s) (d : Sd s t l c n q) (rv : ByteArray) (r : Int) (hr : (Lit.int .i64 r).wf = true) (x : Wt) (hf : c.find r = some x) (hxr : x.req = r) (hq : q = some r) (hks : x.key.size ≤ 32) (hmk : x.marked = true) :
    Calls Try.prog 8 #[.pointer (some ⟨b.C, 0, none⟩), .int .i64 2, Mg.v { kind := 13, req := r, code := 0, grant := 8, rk := 1, rf := true, rv := rv }] w fun e w' => ∃ v, e = .returned v ∧ ∃ s', Told w w' b s' v (some (x.client, { kind := 11, req := x.id, code := 0, rk := 1, rf := true, rv := rv })) ∧ Did b s s' w w' ∧ Sd s' t l (c.told r) n none := by
  refine (heard_13 (s' := s.told x r) h 2 { kind := 13, req := r, code := 0, grant := 8, rk := 1, rf := true, rv := rv } rfl (some (x.client, { kind := 11, req := x.id, code := 0, rk := 1, rf := true, rv := rv })) fun w1 h1' => ?_).mono ?_
  · exact htold_E s h1' { kind := 13, req := r, code := 0, grant := 8, rk := 1, rf := true, rv := rv } rv r rfl 2 hr x (by rw [d.c]; exact hf) (by rw [hxr]; exact hr) (by omega) (by rw [hxr]; exact d.fk r hq) hmk
  · rintro e w' ⟨v, rfl, h3, h4⟩
    exact ⟨v, rfl, _, h3, h4, ⟨d.clock, d.l, by show s.c.told r = _; rw [d.c], d.n, d.ow, d.ep, fun r hr => by cases hr⟩⟩
theorem st_told_none (h : CacheAt w b s) (d : Sd s t l c n q) (m : Mg) (hk : m.kind = 13) (hr : (Lit.int .i64 m.req).wf = true) (hf : c.find m.req = none) :
    Calls Try.prog 8 #[.pointer (some ⟨b.C, 0, none⟩), .int .i64 2, m.v] w fun e w' => ∃ v, e = .returned v ∧ Told w w' b s v none ∧ Did b s s w w' :=
  heard_13 h 2 m hk none fun w1 h1' => htold_none s h1' m 2 hr (by rw [d.c]; exact hf)
end
end Go.Proofs.Ytfmpidacklhmaaa
/- filled (7). (Printed by tp.py.) -/
namespace Go.Proofs.Ytfmpidacklhmaaa
open Go.RowKit Go.Maps
set_option linter.unusedVariables false
set_option linter.unusedSimpArgs false
set_option maxRecDepth 20000

def m1 : Mg := getM kB 1048577
def S1 : Cs := (Cs.zero.asks m1).fwd (Cs.zero.newWait m1)
def X1 : Wt := ⟨1048577, kB, 201, 1048577, 0, 0, false⟩
theorem X1_is : Cs.zero.newWait m1 = X1 := by kernel_rfl
def m2 : Mg := { kind := 9, req := 1048577, epoch := 1, owner := 2 }
def S2 : Cs := S1.learned.fwd X1
def m3 : Mg := { kind := 13, req := 1048577, code := 0, grant := 7, rk := 1, rf := true, rv := vB }
theorem MailAt.cells {w : World} {v : Value} {R : Nat} {rc : Int} {m : Mg} (h : MailAt w v R rc m) : CellsR w R (mailR rc m) := cells_of_row h.row
section
variable {w : World} {b : Bk}
theorem st_first (h : CacheAt w b Cs.zero) : Calls Try.prog 8 #[.pointer (some ⟨b.C, 0, none⟩), .int .i64 201, m1.v] w fun e w' => ∃ v, e = .returned v ∧ Told w w' b S1 v (some (1, { kind := 8, req := 1048577 })) ∧ Did b Cs.zero S1 w w' := by
  refine heard_10 h 201 m1 rfl _ fun w1 h1 => ?_
  have := hask_miss Cs.zero h1 m1 rfl rfl (get_code _ (by decide) (by decide)) (by kernel_rfl) (by decide) (by decide) (fun _ => rfl)
  have e : (Cs.zero.asks m1).fwdMail (Cs.zero.newWait m1) = (1, { kind := 8, req := 1048577 }) := by kernel_rfl
  rw [e] at this
  exact this
theorem st_where (h : CacheAt w b S1) : Calls Try.prog 8 #[.pointer (some ⟨b.C, 0, none⟩), .int .i64 1, m2.v] w fun e w' => ∃ v, e = .returned v ∧ Told w w' b S2 v (some (2, readM 12 1048577 1048577 m1)) ∧ Did b S1 S2 w w' := by
  refine heard_9 h 1 m2 rfl _ fun w1 h1 => ?_
  have := hwhere_any S1 h1 rfl rfl 1048577 (by decide) X1 (by kernel_rfl) (by decide) (by kernel_rfl) (show (2 : Nat) ≤ 900000 by omega) (by decide) 1 m2 rfl
  have e : S1.learned.fwdMail X1 = (2, readM 12 1048577 1048577 m1) := by kernel_rfl
  rw [e] at this
  exact this
theorem st_keep (h : CacheAt w b S2) : Calls Try.prog 8 #[.pointer (some ⟨b.C, 0, none⟩), .int .i64 2, m3.v] w fun e w' => ∃ v, e = .returned v ∧ ∃ xn s, Told w w' b s v (some (201, { kind := 11, req := 1048577, rk := 1, rf := true, rv := vB })) ∧ Did b S2 s w w' ∧ Sd s 0 [(xn, ⟨kB, vB, 5, 7⟩)] ⟨1, 1, []⟩ 3 none := by
  refine (hear_13 h 2 m3 rfl (fun v w' => ∃ xn, Told w w' b (S2.kept X1 m3 xn) v (some (201, { kind := 11, req := 1048577, rk := 1, rf := true, rv := vB })) ∧ Did b S2 (S2.kept X1 m3 xn) w w') (fun v w1 w2 g o => ⟨g.choose, g.choose_spec.1.on o, g.choose_spec.2.new o⟩) fun w1 o => ?_).mono ?_
  · refine (htold_A S2 (h.new o) m3 vB 1048577 rfl 2 (by decide) X1 (by kernel_rfl) (by decide) (by decide) (by decide) (by kernel_rfl) rfl rfl rfl rfl).mono ?_
    rintro e w' ⟨xn, v, rfl, h1, h2⟩
    exact ⟨v, rfl, xn, h1.from_ o.size, (h.did.new o).trans h2⟩
  · rintro e w' ⟨v, rfl, xn, h1, h2⟩
    exact ⟨v, rfl, xn, _, h1, h2, ⟨rfl, rfl, by kernel_rfl, show (3 : Nat) ≤ 3 by omega, rfl, rfl, fun r hr => by cases hr⟩⟩
end
/-- what filled leaves -/
structure FilledAt (w w' : World) (b : Bk) (s : Cs) : Prop where
  at_ : CacheAt w' b s
  sd : ∃ xn, Sd s 0 [(xn, ⟨kB, vB, 5, 7⟩)] ⟨1, 1, []⟩ 3 none
  own : ∀ k, b.own s.l k → w.heap.size ≤ k
  only : Only None' w w'
/-- while filled is under way -/
structure Fl (w wz : World) (b : Bk) (s : Cs) : Prop where
  at_ : CacheAt wz b s
  own : ∀ k, b.own s.l k → w.heap.size ≤ k
  only : Only None' w wz
theorem Fl.to {w wz wy : World} {b : Bk} {s s' : Cs} (h : Fl w wz b s) (d : Did b s s' wz wy) : Fl w wy b s' :=
  ⟨d.at_, fun k hk => by
    rcases d.kept.fresh k hk with h1 | h1
    · exact h.own k h1
    · exact Nat.le_trans h.only.size h1, h.only.trans2 d.kept.only fun k hk e => absurd (h.own k e) (by omega)⟩
theorem Fl.on {w wz wy : World} {b : Bk} {s : Cs} (h : Fl w wz b s) (o : Only None' wz wy) : Fl w wy b s := ⟨h.at_.new o, h.own, h.only.trans o⟩
set_option maxHeartbeats 1000000 in
theorem filled_any (w : World) : Calls Try.prog 7 #[] w fun e w' => ∃ b s, e = .returned (.pointer (some ⟨b.C, 0, none⟩)) ∧ FilledAt w w' b s := by
  go_enter Try.func7, Try.ntmps7
  go_wp2_with fail
  refine (setup_any w).mono ?_
  rintro e w1 ⟨rfl, o1⟩
  have O1 := Lib.hid o1
  clear o1
  go_wp2_with fail
  refine (cnew_any w1).mono ?_
  rintro e w2 ⟨b, rfl, h2, own2, o2⟩
  have HF : Hid (Fl w w2 b Cs.zero) := Lib.hid ⟨h2, fun k hk => Nat.le_trans O1.out.size (own2 k hk), O1.out.trans o2⟩
  clear h2 own2 o2 O1
  go_wp2_with fail
  refine (get_any _ _ w2).mono ?_
  rintro e w3 ⟨rfl, o3⟩
  have HF3 := Lib.hid (HF.out.on o3)
  clear HF o3
  go_wp2_with fail
  refine (st_first HF3.out.at_).mono ?_
  rintro e w4 ⟨v, rfl, ⟨R, hm, hR, hN⟩, hd⟩
  obtain ⟨rfl, hrow⟩ := hm
  have HF4 := Lib.hid (HF3.out.to hd)
  have hc := cells_of_row hrow
  have k1 := hc.is 1 _ rfl
  have k2 := hc.is 2 _ rfl
  have k6 := hc.is 6 _ rfl
  clear HF3 hR hN hd hrow hc
  go_wp2_with fail
  clear k1 k2 k6
  refine (st_where HF4.out.at_).mono ?_
  rintro e w5 ⟨v, rfl, ⟨R2, hm, hR, hN⟩, hd⟩
  obtain ⟨rfl, hrow⟩ := hm
  have HF5 := Lib.hid (HF4.out.to hd)
  have hc := cells_of_row hrow
  have k1 : w5.cell? ⟨R2, 1, none⟩ = some (.int .i64 2) := hc.is 1 _ rfl
  have k2 : w5.cell? ⟨R2, 2, none⟩ = some (.int .u8 12) := hc.is 2 _ rfl
  have k4 : w5.cell? ⟨R2, 4, none⟩ = some (.int .i64 1) := hc.is 4 _ rfl
  have k6 : w5.cell? ⟨R2, 6, none⟩ = some (.int .i64 1048577) := hc.is 6 _ rfl
  have k8 : w5.cell? ⟨R2, 8, none⟩ = some (.int .i64 1048577) := hc.is 8 _ rfl
  clear HF4 hR hN hd hrow hc
  go_wp2_with fail
  clear k1 k2 k4 k6 k8
  refine (st_keep HF5.out.at_).mono ?_
  rintro e w6 ⟨v, rfl, xn, s3, ⟨R3, hm, hR, hN⟩, hd, hsd⟩
  obtain ⟨rfl, hrow⟩ := hm
  have HF6 := Lib.hid (And.intro (HF5.out.to hd) hsd)
  have hc := cells_of_row hrow
  have k1 := hc.is 1 _ rfl
  have k2 := hc.is 2 _ rfl
  have k6 := hc.is 6 _ rfl
  have k17 : w6.cell? ⟨R3, 17, none⟩ = some (.string ⟨#[118]⟩) := hc.is 17 _ rfl
  clear HF5 hR hN hd hsd hrow hc
  go_wp2_with fail
  clear k1 k2 k6 k17
  refine (entries_any HF6.out.1.at_).mono ?_
  rintro e w7 ⟨v, rfl, hv, o7⟩
  have HF7 := Lib.hid (And.intro (HF6.out.1.on o7) HF6.out.2)
  rw [HF6.out.2.l] at hv
  have hw := Vec.of_owns hv
  obtain ⟨g, off, cap, rfl, h1, h2, h3, h4, h5⟩ := hw.at_ (Nat.zero_lt_succ 0)
  clear HF6 hv o7 hw h1 h2 h3 h4 h5
  go_wp2_with fail
  refine (entries_any HF7.out.1.at_).mono ?_
  rintro e w8 ⟨v, rfl, hv, o8⟩
  have HF8 := Lib.hid (And.intro (HF7.out.1.on o8) HF7.out.2)
  rw [HF7.out.2.l] at hv
  have hw := Vec.of_owns hv
  obtain ⟨g, off, cap, rfl, h1, h2, h3, h4, h5⟩ := hw.at_ (Nat.zero_lt_succ 0)
  have k2 : w8.cell? ⟨g, off + 2, none⟩ = some (.int .i64 5) := h4 2 _ rfl
  clear HF7 hv o8 hw h1 h2 h3 h4 h5
  go_wp2_with fail

  go_ret
  exact ⟨b, s3, rfl, HF8.out.1.at_, ⟨xn, HF8.out.2⟩, HF8.out.1.own, HF8.out.1.only⟩
end Go.Proofs.Ytfmpidacklhmaaa
