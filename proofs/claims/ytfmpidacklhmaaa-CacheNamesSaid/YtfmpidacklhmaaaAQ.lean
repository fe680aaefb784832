/- Tick (10). (Printed by tp.py.) -/
import Derived.Test.YtfmpidacklhmaaaAP
namespace Go.Proofs.Ytfmpidacklhmaaa
open Go.RowKit Go.Maps
set_option linter.unusedVariables false
set_option linter.unusedSimpArgs false
set_option maxRecDepth 20000

def delF : List Wt → (Int → Ak) → Int → Ak
  | [], f => f
  | x :: r, f => delF r fun j => if j = x.req then Ak.zero else f j
theorem delF_snoc (l : List Wt) (x : Wt) : ∀ f, delF (l ++ [x]) f = fun j => if j = x.req then Ak.zero else delF l f j := by
  induction l with
  | nil => intro f; rfl
  | cons y r ih => intro f; exact ih _
theorem delF_succ {l : List Wt} {k : Nat} {x : Wt} (h : l[k]? = some x) (f : Int → Ak) : delF (l.take (k + 1)) f = fun j => if j = x.req then Ak.zero else delF (l.take k) f j := by
  obtain ⟨hk, rfl⟩ := List.getElem?_eq_some_iff.1 h
  rw [List.take_succ_eq_append_getElem hk, delF_snoc]
def Cs.olds (s : Cs) (now : Int) : List Wt := s.c.ws.filter fun x => agoB x.first now 20
def Cs.ticked (s : Cs) : Cs := { s with clock := s.clock + 1, l := Lru.live (s.clock + 1) s.l, c := s.c.old (s.clock + 1) 20 }
def Cs.tick (s : Cs) : Cs := { s.ticked with f := delF (s.olds (s.clock + 1)) s.f }
theorem olds_c {w : World} {b : Bk} {s : Cs} (h : CacheAt w b s) (now every : Int) : Calls Try.prog 21 #[.pointer (some ⟨b.Bc, 0, none⟩), .int .i64 now, .int .i64 every] w fun e w' => ∃ v, e = .returned v ∧ (WRow w' v (s.c.ws.filter fun x => agoB x.first now every) ∧ ∀ g, v.ownBlock = some g → w.heap.size ≤ g) ∧ Did b s { s with c := s.c.old now every } w w' ∧ Only (fun k => k = b.Mc) w w' :=
  (olds_any h.calls now every).mono fun r w' h' => by
    obtain ⟨v, rfl, h1, h2, h3, h4⟩ := h'
    exact ⟨v, rfl, ⟨h1, h2⟩, h.calls_to h3 (h4.mono fun _ _ e => .inr e), h4⟩
theorem Did.on {b : Bk} {s s' : Cs} {w w' w'' : World} (h : Did b s s' w w') (o : Only None' w' w'') : Did b s s' w w'' := h.new o
theorem Did.to {b : Bk} {s s' s'' : Cs} {w w' w'' : World} (h : Did b s s' w w') (k : Did b s' s'' w' w'') : Did b s s'' w w'' := h.trans k
section
variable {a : Act} {o : Oper} {x y z : Operand}
theorem y_len71 (w : World) {p : Option Addr} {n c f : Nat} (ho : o.op = .call { callee := .builtin .len, args := #[.tmp f], argTypes := #[71] }) (ht : o.type = 3) (hx : a.eval (.tmp f) = .slice p n c) : (execOp a.eval o).run Try.prog w = .ok (.value (.int .i64 (n : Int))) w := by
  unfold execOp
  have hx' : a.tmps[f]?.getD undef = .slice p n c := by simpa [Act.eval] using hx
  simp only [ho, ht]
  go_simp
theorem y_mul3e (w : World) {p q r : Int} (he : IntKind.i64.wrap (p * q) = r) (ho : o.op = .binOp .mul 3 x y 3) (hx : a.eval x = .int .i64 p) (hy : a.eval y = .int .i64 q) : (execOp a.eval o).run Try.prog w = .ok (.value (.int .i64 r)) w := by
  rw [← he]
  exact y_mul3 w ho hx hy
end
/-- at a round's head -/
structure TickLoop (w wr : World) (b : Bk) (s s2 : Cs) (l : List Wt) (v : Value) (k : Nat) : Prop where
  did : Did b s { s2 with f := delF (l.take k) s2.f } w wr
  row : WRow wr v l
  no : ∀ g, v.ownBlock = some g → ¬ b.own s2.l g
theorem TickLoop.next {w wr w3 w4 : World} {b : Bk} {s s2 : Cs} {l : List Wt} {v : Value} {k : Nat} {x : Wt} (h : TickLoop w wr b s s2 l v k) (hx : l[k]? = some x) (o3 : Only None' wr w3)
    (ha : AskedAt w4 b.Ma (fun j => if j = x.req then Ak.zero else delF (l.take k) s2.f j) s2.n) (o4 : Only (fun j => j = b.Ma) w3 w4) : TickLoop w w4 b s s2 l v (k + 1) := by
  have d3 := h.did.new o3
  have hd := d3.trans (d3.at_.asked_to ha o4)
  rw [← delF_succ hx] at hd
  exact ⟨hd, (h.row.only o3 fun _ _ e => e).only o4 fun g hg e => h.no g hg (.inr (.inr (.inr (.inr (.inl e))))), h.no⟩
set_option maxHeartbeats 1000000 in
theorem tick_any {w : World} {b : Bk} {s : Cs} (h : CacheAt w b s) (h0 : 0 ≤ s.clock) (h1 : s.clock ≤ 1000) : Calls Try.prog 10 #[.pointer (some ⟨b.C, 0, none⟩)] w fun e w' => e = .returned (.slice none 0 0) ∧ Did b s s.tick w w' := by
  have H := Lib.hid h
  have c14 := h.cells.c14
  have f14 := h.cells.thaw
  have HN0 : Hid (s.c.ws.length ≤ 64) := Lib.hid h.calls.ok.few
  have HWF0 : Hid (∀ x ∈ s.c.ws, (Lit.int .i64 x.req).wf = true) := Lib.hid fun x hx => h.calls.ok.wf hx
  clear h
  go_enter Try.func10, Try.ntmps10
  go_upto_region 4 with fail
  obtain ⟨w1, hw1⟩ : ∃ w1, w1 = w.setCell ⟨b.C, 14, none⟩ (.int .i64 (s.clock + 1)) := ⟨_, rfl⟩
  have HB : Hid (Did b s { s with clock := s.clock + 1 } w w1) := Lib.hid (by rw [hw1]; exact H.out.clock_to _)
  rw [← hw1]
  clear hw1 c14 f14
  obtain ⟨t, ht⟩ : ∃ t, t = s.clock + 1 := ⟨_, rfl⟩
  rw [← ht] at HB
  have HT0 := Lib.hid ht
  clear ht
  have HC : Hid (∀ w', Only (Lru.Own b.B b.M s.l) w1 w' → CellsR w' b.C (cacheR b t)) := Lib.hid fun w' o => HB.out.at_.blk.kept o fun e => HB.out.at_.sep _ e (.inl rfl)
  refine r_begin (S := Lru.Own b.B b.M s.l) (by kernel_rfl) ?_
  have HS := Lib.hid (Only.refl (Lru.Own b.B b.M s.l) w1)
  refine r_take 0 (.pointer (some ⟨b.C, 0, none⟩)) rfl (by kernel_rfl) (fun _ _ _ h => h) HS.out (YR.pure (by rfl) fun w hw => y_move w rfl rfl) ?_
  simp only [Act.put, List.setIfInBounds_toArray, List.set_cons_zero, List.set_cons_succ]
  refine r_take 1 (.pointer (some ⟨b.C, 0, none⟩)) rfl (by kernel_rfl) (fun _ _ _ h => h) HS.out (YR.pure (by rfl) fun w hw => y_nil w rfl rfl) ?_
  simp only [Act.put, List.setIfInBounds_toArray, List.set_cons_zero, List.set_cons_succ]
  refine r_take 2 (.pointer (some ⟨b.C, 15, none⟩)) rfl (by kernel_rfl) (fun _ _ _ h => h) HS.out (YR.pure (by rfl) fun w hw => y_f64_3 w rfl rfl) ?_
  simp only [Act.put, List.setIfInBounds_toArray, List.set_cons_zero, List.set_cons_succ]
  refine r_take 3 (.pointer (some ⟨b.B, 0, none⟩)) rfl (by kernel_rfl) (fun _ _ _ h => h) HS.out (YR.pure (by rfl) fun w hw => y_load56 rfl rfl ((HC.out w hw).is 15 _ rfl)) ?_
  simp only [Act.put, List.setIfInBounds_toArray, List.set_cons_zero, List.set_cons_succ]
  refine r_take 4 (.pointer (some ⟨b.C, 0, none⟩)) rfl (by kernel_rfl) (fun _ _ _ h => h) HS.out (YR.pure (by rfl) fun w hw => y_move w rfl rfl) ?_
  simp only [Act.put, List.setIfInBounds_toArray, List.set_cons_zero, List.set_cons_succ]
  refine r_take 5 (.pointer (some ⟨b.C, 0, none⟩)) rfl (by kernel_rfl) (fun _ _ _ h => h) HS.out (YR.pure (by rfl) fun w hw => y_nil w rfl rfl) ?_
  simp only [Act.put, List.setIfInBounds_toArray, List.set_cons_zero, List.set_cons_succ]
  refine r_take 6 (.pointer (some ⟨b.C, 14, none⟩)) rfl (by kernel_rfl) (fun _ _ _ h => h) HS.out (YR.pure (by rfl) fun w hw => y_f64_2 w rfl rfl) ?_
  simp only [Act.put, List.setIfInBounds_toArray, List.set_cons_zero, List.set_cons_succ]
  refine r_take 7 (.int .i64 t) rfl (by kernel_rfl) (fun _ _ _ h => h) HS.out (YR.pure (by rfl) fun w hw => y_load3 rfl rfl ((HC.out w hw).is 14 _ rfl)) ?_
  simp only [Act.put, List.setIfInBounds_toArray, List.set_cons_zero, List.set_cons_succ]
  refine r_one 8 rfl (by kernel_rfl) (by rfl) fun wi oi => ?_
  refine wp_enter (y_enter [.pointer (some ⟨b.B, 0, none⟩), .int .i64 t] rfl (by rfl) (call20_ _) wi) ((sweep_c (HB.out.at_.new oi) t).mono ?_)
  rintro e wj ⟨rfl, hd, oj⟩
  refine ⟨_, rfl, (HS.out.quiet oi).trans oj, ?_⟩
  simp only [Act.put, List.setIfInBounds_toArray, List.set_cons_zero, List.set_cons_succ]
  have HT := Lib.hid ((HS.out.quiet oi).trans oj)
  have HB2 := Lib.hid ((HB.out.on oi).to (hd))
  clear HS oi oj hd
  have HS := HT
  clear HT
  refine r_done (by kernel_rfl) fun wz oz => ?_
  have HB3 := Lib.hid (HB2.out.on oz)
  clear HB HB2 HS oz HC
  generalize wz = w2 at HB3 ⊢
  go_upto_region 5 with fail
  have HC : Hid (∀ w', Only (fun k => k = b.Mc) w2 w' → CellsR w' b.C (cacheR b t)) := Lib.hid fun w' o => HB3.out.at_.blk.kept o (by have := HB3.out.at_.apart; omega)
  obtain ⟨l, hl⟩ : ∃ l, l = s.c.ws.filter fun x => agoB x.first t 20 := ⟨_, rfl⟩
  have HN : Hid (l.length ≤ 64) := Lib.hid (by rw [hl]; exact Nat.le_trans (List.length_filter_le _ _) HN0.out)
  have HWF : Hid (∀ x ∈ l, (Lit.int .i64 x.req).wf = true) := Lib.hid (by rw [hl]; exact fun x hx => HWF0.out x (List.mem_filter.1 hx).1)
  have HOLD : Hid (∀ wi, Only None' w2 wi → Calls Try.prog 21 #[.pointer (some ⟨b.Bc, 0, none⟩), .int .i64 t, .int .i64 20] wi fun e w' => ∃ v, e = .returned v ∧ (WRow w' v l ∧ ∀ g, v.ownBlock = some g → wi.heap.size ≤ g) ∧ Did b { s with clock := t, l := Lru.live t s.l } { s with clock := t, l := Lru.live t s.l, c := s.c.old t 20 } wi w' ∧ Only (fun k => k = b.Mc) wi w') := Lib.hid fun wi o => by rw [hl]; exact olds_c (HB3.out.at_.new o) t 20
  have HL := Lib.hid hl
  obtain ⟨n, hn⟩ : ∃ n, n = l.length := ⟨_, rfl⟩
  have HLN := Lib.hid hn
  obtain ⟨s2, hs2⟩ : ∃ s2 : Cs, s2 = { s with clock := t, l := Lru.live t s.l, c := s.c.old t 20 } := ⟨_, rfl⟩
  rw [← hs2] at HOLD
  have HS2 := Lib.hid hs2
  clear hl hn hs2
  refine r_begin (S := fun k => k = b.Mc) (by kernel_rfl) ?_
  have HS := Lib.hid (Only.refl (fun k => k = b.Mc) w2)
  refine r_take 0 (.pointer (some ⟨b.C, 0, none⟩)) rfl (by kernel_rfl) (fun _ _ _ h => h) HS.out (YR.pure (by rfl) fun w hw => y_move w rfl rfl) ?_
  simp only [Act.put, List.setIfInBounds_toArray, List.set_cons_zero, List.set_cons_succ]
  refine r_take 1 (.pointer (some ⟨b.C, 0, none⟩)) rfl (by kernel_rfl) (fun _ _ _ h => h) HS.out (YR.pure (by rfl) fun w hw => y_nil w rfl rfl) ?_
  simp only [Act.put, List.setIfInBounds_toArray, List.set_cons_zero, List.set_cons_succ]
  refine r_take 2 (.pointer (some ⟨b.C, 17, none⟩)) rfl (by kernel_rfl) (fun _ _ _ h => h) HS.out (YR.pure (by rfl) fun w hw => y_f64_5 w rfl rfl) ?_
  simp only [Act.put, List.setIfInBounds_toArray, List.set_cons_zero, List.set_cons_succ]
  refine r_take 3 (.pointer (some ⟨b.Bc, 0, none⟩)) rfl (by kernel_rfl) (fun _ _ _ h => h) HS.out (YR.pure (by rfl) fun w hw => y_load53 rfl rfl ((HC.out w hw).is 17 _ rfl)) ?_
  simp only [Act.put, List.setIfInBounds_toArray, List.set_cons_zero, List.set_cons_succ]
  refine r_take 4 (.pointer (some ⟨b.C, 0, none⟩)) rfl (by kernel_rfl) (fun _ _ _ h => h) HS.out (YR.pure (by rfl) fun w hw => y_move w rfl rfl) ?_
  simp only [Act.put, List.setIfInBounds_toArray, List.set_cons_zero, List.set_cons_succ]
  refine r_take 5 (.pointer (some ⟨b.C, 0, none⟩)) rfl (by kernel_rfl) (fun _ _ _ h => h) HS.out (YR.pure (by rfl) fun w hw => y_nil w rfl rfl) ?_
  simp only [Act.put, List.setIfInBounds_toArray, List.set_cons_zero, List.set_cons_succ]
  refine r_take 6 (.pointer (some ⟨b.C, 14, none⟩)) rfl (by kernel_rfl) (fun _ _ _ h => h) HS.out (YR.pure (by rfl) fun w hw => y_f64_2 w rfl rfl) ?_
  simp only [Act.put, List.setIfInBounds_toArray, List.set_cons_zero, List.set_cons_succ]
  refine r_take 7 (.int .i64 t) rfl (by kernel_rfl) (fun _ _ _ h => h) HS.out (YR.pure (by rfl) fun w hw => y_load3 rfl rfl ((HC.out w hw).is 14 _ rfl)) ?_
  simp only [Act.put, List.setIfInBounds_toArray, List.set_cons_zero, List.set_cons_succ]
  refine r_take 8 (.pointer (some ⟨b.C, 0, none⟩)) rfl (by kernel_rfl) (fun _ _ _ h => h) HS.out (YR.pure (by rfl) fun w hw => y_move w rfl rfl) ?_
  simp only [Act.put, List.setIfInBounds_toArray, List.set_cons_zero, List.set_cons_succ]
  refine r_take 9 (.pointer (some ⟨b.C, 0, none⟩)) rfl (by kernel_rfl) (fun _ _ _ h => h) HS.out (YR.pure (by rfl) fun w hw => y_nil w rfl rfl) ?_
  simp only [Act.put, List.setIfInBounds_toArray, List.set_cons_zero, List.set_cons_succ]
  refine r_take 10 (.pointer (some ⟨b.C, 0, none⟩)) rfl (by kernel_rfl) (fun _ _ _ h => h) HS.out (YR.pure (by rfl) fun w hw => y_f64_0 w rfl rfl) ?_
  simp only [Act.put, List.setIfInBounds_toArray, List.set_cons_zero, List.set_cons_succ]
  refine r_take 11 (.pointer (some ⟨b.C, 11, none⟩)) rfl (by kernel_rfl) (fun _ _ _ h => h) HS.out (YR.pure (by rfl) fun w hw => y_f28_11 w rfl rfl) ?_
  simp only [Act.put, List.setIfInBounds_toArray, List.set_cons_zero, List.set_cons_succ]
  refine r_take 12 (.int .i64 5) rfl (by kernel_rfl) (fun _ _ _ h => h) HS.out (YR.pure (by rfl) fun w hw => y_load3 rfl rfl ((HC.out w hw).is 11 _ rfl)) ?_
  simp only [Act.put, List.setIfInBounds_toArray, List.set_cons_zero, List.set_cons_succ]
  refine r_take 13 (.int .i64 20) rfl (by kernel_rfl) (fun _ _ _ h => h) HS.out (YR.pure (by rfl) fun w hw => y_mul3e w (p := 4) (q := 5) (by kernel_rfl) rfl rfl rfl) ?_
  simp only [Act.put, List.setIfInBounds_toArray, List.set_cons_zero, List.set_cons_succ]
  refine r_take 16 (.int .i64 0) rfl (by kernel_rfl) (fun _ _ _ h => h) HS.out (YR.pure (by rfl) fun w hw => y_move w rfl rfl) ?_
  simp only [Act.put, List.setIfInBounds_toArray, List.set_cons_zero, List.set_cons_succ]
  refine r_one 14 rfl (by kernel_rfl) (by rfl) fun wi oi => ?_
  refine wp_enter (y_enter [.pointer (some ⟨b.Bc, 0, none⟩), .int .i64 t, .int .i64 20] rfl (by rfl) (call21_ _) wi) ((HOLD.out wi oi).mono ?_)
  rintro e wj ⟨v, rfl, hv, hd, oj⟩
  obtain ⟨p, cap, rfl⟩ := hv.1.shape
  rw [← HLN.out] at hv ⊢
  refine ⟨_, rfl, (HS.out.quiet oi).trans oj, ?_⟩
  simp only [Act.put, List.setIfInBounds_toArray, List.set_cons_zero, List.set_cons_succ]
  have HT := Lib.hid ((HS.out.quiet oi).trans oj)
  have HB4 : Hid (Did b s s2 w wj ∧ WRow wj (.slice p n cap) l ∧ ∀ g, (Value.slice p n cap).ownBlock = some g → ¬ b.own s2.l g) := Lib.hid ⟨(HB3.out.on oi).to hd, hv.1, fun g hg e => by have h1 := hv.2 g hg; rw [HS2.out] at e; exact absurd ((HB3.out.at_.new oi).lt e) (by omega)⟩
  clear HS oi oj hd hv
  have HS := HT
  clear HT
  refine r_take 15 (.int .i64 (n : Int)) rfl (by kernel_rfl) (fun _ _ _ h => h) HS.out (YR.pure (by rfl) fun w hw => y_len71 w rfl rfl rfl) ?_
  simp only [Act.put, List.setIfInBounds_toArray, List.set_cons_zero, List.set_cons_succ]
  refine r_done (by kernel_rfl) fun wz oz => ?_
  have L0 : Hid (TickLoop w wz b s s2 l (.slice p n cap) 0) := Lib.hid ⟨HB4.out.1.on oz, HB4.out.2.1.only oz fun _ _ e => e, HB4.out.2.2⟩
  clear HB3 HB4 HS oz HC HOLD
  generalize wz = w3 at L0 ⊢
  go_wp2_with fail
  go_loopw [39] (fun i wr => ∃ k : Nat, k ≤ n ∧ i = .int .i64 (k : Int) ∧ Hid (TickLoop w wr b s s2 l (.slice p n cap) k)) (fun i wr => n - (intOf i).toNat)
  case atStart => exact ⟨0, by omega, rfl, L0⟩
  case round =>
    obtain ⟨k, hk, rfl, HK⟩ := hrel
    clear L0
    by_cases hlt : k < n
    · have hj : k < l.length := by have := HLN.out; omega
      obtain ⟨g, off, cp, e, hg, hcell, _⟩ := HK.out.row.at_ hj
      injection e with e e2 e3
      subst e
      clear e2 e3
      obtain ⟨x, hx⟩ : ∃ x, x = l[k] := ⟨_, rfl⟩
      rw [← hx] at hcell
      have HX : Hid (l[k]? = some x) := Lib.hid (by rw [hx]; exact List.getElem?_eq_getElem hj)
      have HM : Hid ((Lit.int .i64 x.req).wf = true) := Lib.hid (HWF.out x (by rw [hx]; exact List.getElem_mem hj))
      clear hx hj
      obtain ⟨x1, x2, x3, x4, x5, x6, x7⟩ := x
      have k0 := hcell 0 _ rfl
      have k1 := hcell 1 _ rfl
      have k2 := hcell 2 _ rfl
      have k3 := hcell 3 _ rfl
      have k4 := hcell 4 _ rfl
      have k5 := hcell 5 _ rfl
      have k6 := hcell 6 _ rfl
      rw [Nat.add_zero] at k0
      have i0 : (0 : Int) ≤ (k : Int) := by omega
      have i1 : (k : Int) < (n : Int) := by omega
      have HLT := Lib.hid hlt
      clear hcell hlt hk
      go_wp2_with fail
      obtain ⟨w4, hw4⟩ : ∃ w4, w4 = wr.alloc (.cells #[.int .i64 x1, .string x2, .int .i64 x3, .int .i64 x4, .int .i64 x5, .int .i64 x6, .bool x7] 74) := ⟨_, rfl⟩
      have O4 : Hid (Only None' wr w4) := Lib.hid (by rw [hw4]; exact (Only.refl None' wr).alloc _)
      have C4 : Hid (CellsR w4 wr.heap.size [.int .i64 x1, .string x2, .int .i64 x3, .int .i64 x4, .int .i64 x5, .int .i64 x6, .bool x7]) := Lib.hid (by rw [hw4]; exact cells_new wr [.int .i64 x1, .string x2, .int .i64 x3, .int .i64 x4, .int .i64 x5, .int .i64 x6, .bool x7] 74)
      have A4 := Lib.hid (HK.out.did.at_.new O4.out)
      have c18 := A4.out.cells.c18
      have t0 := C4.out.is 0 _ rfl
      rw [← hw4]
      clear hw4 k0 k1 k2 k3 k4 k5 k6
      obtain ⟨D, hD, hat⟩ := A4.out.asked.map
      have HD := Lib.hid (And.intro hD hat)
      clear hD hat
      go_still_tail 6, (by kernel_rfl)
      at_delete
      refine wpList_delete_own _ rfl _ _ 62 3 rfl 101 keyed3 under62 akR b.Ma _ D rfl (HD.out.1.drew) (.int .i64 x1) _ rfl (keyOf_int_mk Try.underlying3 HM.out) ?_
      intro w5 ho5 ht5
      have O5 : Hid (Only (fun j => j = b.Ma) w4 w5) := Lib.hid ((Only.drew (Only.refl _ _)).turned ht5 rfl)
      have NX := Lib.hid (HK.out.next HX.out O4.out (asked_del HD.out.2 ho5) O5.out)
      clear ho5 ht5 HD
      go_wp2_with fail
      go_roundw
      case rel => exact ⟨k + 1, by have := HLT.out; omega, next_int (by have := HN.out; have := HLN.out; have := HLT.out; omega), NX⟩
      case measure => exact meas HLT.out (by have := HN.out; have := HLN.out; omega)
    · obtain rfl : k = n := by omega
      go_wp2_with fail
      go_ret
      refine ⟨rfl, ?_⟩
      have hd := HK.out.did
      rw [List.take_of_length_le (by have := HLN.out; omega)] at hd
      have e : ({ s2 with f := delF l s2.f } : Cs) = s.tick := by
        rw [HS2.out, HL.out, HT0.out]
        rfl
      rw [e] at hd
      exact hd
end Go.Proofs.Ytfmpidacklhmaaa
