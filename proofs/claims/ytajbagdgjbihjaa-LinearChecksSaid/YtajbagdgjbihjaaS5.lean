/- The document's Could (18). -/
import Derived.Test.YtajbagdgjbihjaaT1
import Derived.Test.YtajbagdgjbihjaaMA
import Derived.Deep.CutBlock
namespace Go.Proofs.Ytajbagdgjbihjaa
open Go.RowKit Go.Maps
set_option linter.unusedVariables false

theorem under40 : Try.prog.underlying 40 = some (.slice 44) := by kernel_rfl
theorem info44 : Try.prog.info? 44 = some Try.t44 := by kernel_rfl
theorem t44_size : Try.t44.size = 12 := by kernel_rfl
theorem t44_bytes : Try.t44.bytes ≤ 200 := by decide
theorem zero44 : ∃ z, Try.t44.zero = some z ∧ z.cells.size = 12 := ⟨.agg #[.int .i64 0, .int .i64 0, .int .i64 0, .int .i64 0, .int .u8 0, .string ⟨#[]⟩, .string ⟨#[]⟩, .string ⟨#[]⟩, .bool false, .int .u8 0, .bool false, .string ⟨#[]⟩], by kernel_rfl, rfl⟩
theorem or_vec {v : Value} {l : List Opn} {wq : World} (h : Vec wq 12 v l.length (l.flatMap Opn.row)) : OR wq v l := by
  rcases h.form with ⟨h1, h2⟩ | ⟨g, off, cap, h1, h2, h3, h4, h5, _⟩
  · exact ⟨.inl ⟨h1, List.eq_nil_of_length_eq_zero h2⟩⟩
  · exact ⟨.inr ⟨g, off, cap, h1, h2, h3, h4, h5⟩⟩
theorem opn_one (l : List Opn) : ∀ u ∈ l.flatMap Opn.row, u.oneCell' = true := fun u hu => by
  obtain ⟨p, _, h⟩ := List.mem_flatMap.1 hu
  exact Opn.row_one p u h
/-- is there a way on that begins with i? -/
def pcT (l : List Opn) (st : Option ByteArray) (i : Nat) : Bool := match l[i]? with
  | none => false
  | some o => firstB l o && match o.goes st with
    | none => false
    | some st' => pc (l.length - 1) (l.eraseIdx i) st'
theorem pc_unf (l : List Opn) (st : Option ByteArray) : pc l.length l st = (idle l || (List.range l.length).any (pcT l st)) := by
  cases l with
  | nil => rfl
  | cons o l => rfl
theorem firstB_next {l : List Opn} {k : Nat} {q o : Opn} (hq : l[k]? = some q) : firstB (l.take (k + 1)) o = (firstB (l.take k) o && (decide (q.til < 0) || decide (o.fr < q.til))) := by
  unfold firstB
  rw [List.take_add_one, hq, List.all_append]
  simp
theorem idle_next {l : List Opn} {k : Nat} {q : Opn} (hq : l[k]? = some q) : idle (l.take (k + 1)) = (idle (l.take k) && decide (q.til < 0)) := by
  unfold idle
  rw [List.take_add_one, hq, List.all_append]
  simp
/-- the pieces ahead of i and behind it -/
theorem or_head {w : World} {g off c n i : Nat} {l : List Opn} (h : OR w (.slice (some ⟨g, off, none⟩) n c) l) (hn : n = l.length) (hi : i ≤ n) : i ≤ c ∧ Rd w 12 (.slice (some ⟨g, off, none⟩) i c) i ((l.take i).flatMap Opn.row) := by
  subst hn
  rcases h.form with ⟨e, _⟩ | ⟨g', off', c', e, h1, h2, h3, h4⟩
  · cases e
  · cases e
    refine ⟨by omega, by rw [flat_length Opn.row 12 _ fun _ _ => rfl, List.length_take, Nat.min_eq_left hi], .inr ⟨_, c, rfl, by omega, h2, fun j u hu => ?_⟩⟩
    rw [add_mid' (⟨g, off, none⟩) j rfl]
    refine h4 j u ?_
    rw [← flat_take Opn.row 12 l i (fun _ _ => rfl) hi, List.getElem?_take] at hu
    split at hu
    · exact hu
    · cases hu
theorem or_tail {w : World} {g off c n i : Nat} {l : List Opn} (h : OR w (.slice (some ⟨g, off, none⟩) n c) l) (hn : n = l.length) (hi : i < n) : i + 1 ≤ c ∧ Rd w 12 (.slice (if c = i + 1 then some ⟨g, off, none⟩ else some ⟨g, off + (i + 1) * 12, none⟩) (n - (i + 1)) (c - (i + 1))) (n - (i + 1)) ((l.drop (i + 1)).flatMap Opn.row) := by
  subst hn
  rcases h.form with ⟨e, _⟩ | ⟨g', off', c', e, h1, h2, h3, h4⟩
  · cases e
  · cases e
    have hl : ((l.drop (i + 1)).flatMap Opn.row).length = (l.length - (i + 1)) * 12 := by rw [flat_length Opn.row 12 _ fun _ _ => rfl, List.length_drop]
    refine ⟨by omega, hl, .inr ?_⟩
    by_cases e : c = i + 1
    · rw [if_pos e]
      have e2 : l.length - (i + 1) = 0 := by omega
      refine ⟨_, _, rfl, by omega, by omega, fun j u hu => ?_⟩
      have := (List.getElem?_eq_some_iff.1 hu).1
      rw [hl, e2] at this
      omega
    · rw [if_neg e]
      refine ⟨_, _, rfl, by omega, by omega, fun j u hu => ?_⟩
      rw [add_mid' (⟨g, off + (i + 1) * 12, none⟩) j rfl, Nat.add_assoc]
      refine h4 _ u ?_
      rw [← flat_drop Opn.row 12 l (i + 1) (fun _ _ => rfl) (by omega), List.getElem?_drop] at hu
      exact hu
section
variable {a : Act} {o : Oper} {x y : Operand}
theorem run_upto40 (w : World) {g off n c k : Nat} (h : k ≤ c) : (Instr.sliceAt 40 (.slice (some ⟨g, off, none⟩) n c) none (some (.int .i64 (k : Int))) none).run Try.prog w = .ok (.slice (some ⟨g, off, none⟩) k c) w := by
  have b1 : (0 : Int) ≤ (k : Int) := by omega
  have b3 : (k : Int) ≤ (c : Int) := by omega
  have hs : (Try.prog.info? 44).map (·.size) = some 12 := by rw [info44]; rfl
  go_simp
theorem y_upto40 (w : World) {g off n c k : Nat} {h : Operand} (ho : o.op = .slice 40 x none (some h) none) (hx : a.eval x = .slice (some ⟨g, off, none⟩) n c) (hh : a.eval h = .int .i64 (k : Int)) (hk : k ≤ c) : (execOp a.eval o).run Try.prog w = .ok (.value (.slice (some ⟨g, off, none⟩) k c)) w := by
  unfold execOp
  simp only [ho, Sem.run_bind, Option.map_some, Option.map_none, hx, hh, run_upto40 w hk, Result.andThen_ok, Sem.run_pure]
theorem run_from40 (w : World) {g off n c k : Nat} (h : k ≤ n) (hc : n ≤ c) : (Instr.sliceAt 40 (.slice (some ⟨g, off, none⟩) n c) (some (.int .i64 (k : Int))) none none).run Try.prog w = .ok (.slice (if c = k then some ⟨g, off, none⟩ else some ⟨g, off + k * 12, none⟩) (n - k) (c - k)) w := by
  have b1 : (0 : Int) ≤ (k : Int) := by omega
  have b3 : (k : Int) ≤ (n : Int) := by omega
  have b4 : (n : Int) ≤ (c : Int) := by omega
  have hs : (Try.prog.info? 44).map (·.size) = some 12 := by rw [info44]; rfl
  by_cases e : c = k
  · have e2 : n = k := by omega
    subst e2
    subst e
    rw [if_pos rfl]
    go_simp
  · rw [if_neg e]
    go_simp
theorem y_from40 (w : World) {g off n c k : Nat} {h : Operand} (ho : o.op = .slice 40 x (some h) none none) (hx : a.eval x = .slice (some ⟨g, off, none⟩) n c) (hh : a.eval h = .int .i64 (k : Int)) (hk : k ≤ n) (hc : n ≤ c) : (execOp a.eval o).run Try.prog w = .ok (.value (.slice (if c = k then some ⟨g, off, none⟩ else some ⟨g, off + k * 12, none⟩) (n - k) (c - k))) w := by
  unfold execOp
  simp only [ho, Sem.run_bind, Option.map_some, Option.map_none, hx, hh, run_from40 w hk hc, Result.andThen_ok, Sem.run_pure]
end
theorem wp_append40 {o : Oper} {a : Act} {w : World} {K : Act → World → Prop} {Q : Exit → Act → World → Prop} {s x : Operand} {sv xv : Value} {n m : Nat} {xs ys : List Value} (ho : o.op = .call { callee := .builtin .append, args := #[s, x], argTypes := #[40, 40] }) (hs : a.eval s = sv) (hx : a.eval x = xv)
    (hv : Vec w 12 sv n xs) (hr : Rd w 12 xv m ys) (h1 : ∀ u ∈ ys, u.oneCell' = true) (few : n + m ≤ 100000)
    (h : ∀ v' w', Vec w' 12 v' (n + m) (xs ++ ys) → w.grownBy w' sv.ownBlock → (∀ k, v'.ownBlock = some k → sv.ownBlock = some k ∨ w.heap.size ≤ k) → K (a.put o.dst v') w') : o.wp Try.prog a w K Q := by
  have hb := t44_bytes
  obtain ⟨z, hz, hzs⟩ := zero44
  obtain ⟨v', w', hrun, h2, h3, h4⟩ := run_append_any (P := Try.prog) (w := w) 40 o.type 44 Try.t44 z 12 Try.t44.bytes under40 info44 hz t44_size rfl hzs (by decide) sv n xs hv xv m ys hr h1 (by unfold maxLen; omega)
    (by have : (n + m) * Try.t44.bytes ≤ 100000 * 200 := Nat.mul_le_mul few hb; omega)
  unfold Oper.wp execOp
  simp only [ho, resolve, invoke, builtin, Sem.run_bind, Sem.run_pure, Result.andThen_ok, List.map_toArray, List.map_cons, List.map_nil, hs, hx, hrun]
  exact h v' w' h2 h3 h4
theorem pcT_first {l : List Opn} {st : Option ByteArray} {i : Nat} {o : Opn} (ho : l[i]? = some o) (h : firstB l o = false) : pcT l st i = false := by
  unfold pcT
  rw [ho]
  simp only
  rw [h]
  rfl
theorem pcT_goes {l : List Opn} {st : Option ByteArray} {i : Nat} {o : Opn} (ho : l[i]? = some o) (h : o.goes st = none) : pcT l st i = false := by
  unfold pcT
  rw [ho]
  simp only
  rw [h]
  simp
theorem pcT_on {l : List Opn} {st st' : Option ByteArray} {i : Nat} {o : Opn} (ho : l[i]? = some o) (h1 : firstB l o = true) (h : o.goes st = some st') : pcT l st i = pc (l.length - 1) (l.eraseIdx i) st' := by
  unfold pcT
  rw [ho]
  simp only
  rw [h, h1]
  rfl
/-- what the document's Could says of a row -/
def CouldOK (l : List Opn) : Prop := ∀ (w : World) (v : Value) (st : Option ByteArray), OR w v l → (∀ o ∈ l, 0 ≤ o.op.kind) → l.length ≤ 100 → Calls Try.prog 18 #[v, .bool st.isSome, .string (st.getD ⟨#[]⟩)] w fun e w' => e = .returned (.bool (pc l.length l st)) ∧ Only None' w w'
set_option maxRecDepth 20000 in
set_option maxHeartbeats 8000000 in
theorem could_step (l : List Opn) (IH : ∀ l' : List Opn, l'.length < l.length → CouldOK l') : CouldOK l := by
  intro w v st h hk hl
  obtain ⟨a, c, rfl⟩ := h.shape
  have H := Lib.hid h
  have HK := Lib.hid hk
  have HIH := Lib.hid IH
  obtain ⟨n, hn⟩ : ∃ n, n = l.length := ⟨_, rfl⟩
  have HN := Lib.hid (And.intro hn hl)
  have HPC := Lib.hid (pc_unf l st)
  rw [← hn] at H ⊢
  obtain ⟨z44, hz44, hzs44⟩ := zero44
  have HB44 := Lib.hid t44_bytes
  obtain ⟨pcv, hpcv⟩ : ∃ pcv, pcv = pc n l st := ⟨_, rfl⟩
  rw [← hpcv]
  have HPV : Hid (pcv = (idle l || (List.range n).any (pcT l st))) := Lib.hid (by rw [hpcv, hn]; exact pc_unf l st)
  clear h hk hl IH hn hpcv HPC
  go_enter Try.func18, Try.ntmps18
  go_wp2_with fail
  go_loopw [7, 8] (fun u7 u8 wr => ∃ j : Nat, j ≤ n ∧ u8 = .int .i64 (j : Int) ∧ u7 = .bool (idle (l.take j)) ∧ wr = w) (fun u7 u8 wr => n - (intOf u8).toNat)
  case atStart => exact ⟨0, by omega, rfl, rfl, rfl⟩
  case round =>
    obtain ⟨j, hj, rfl, rfl, rfl⟩ := hrel
    by_cases hlt : j < n
    · have hjl : j < l.length := by have := HN.out.1; omega
      obtain ⟨q, hq⟩ : ∃ q, l[j]? = some q := ⟨_, List.getElem?_eq_getElem hjl⟩
      obtain ⟨g, off, cp, e, hg, hcell⟩ := H.out.at_ hjl
      injection e with e e2 e3
      subst e
      clear e2 e3
      rw [(List.getElem?_eq_some_iff.1 hq).2] at hcell
      have y3 := hcell 3 _ rfl
      obtain ⟨tl, htl⟩ : ∃ tl, q.til = tl := ⟨_, rfl⟩
      rw [htl] at y3
      have HQ := Lib.hid (And.intro hq htl)
      obtain ⟨cur, hcur⟩ : ∃ cur, idle (l.take j) = cur := ⟨_, rfl⟩
      rw [hcur]
      have HC := Lib.hid hcur
      have j0 : (0 : Int) ≤ (j : Int) := by omega
      have j1 : (j : Int) < (n : Int) := by omega
      have HLT := Lib.hid hlt
      clear hcell hg hq htl hcur hlt hj hjl
      cases cur with
      | false =>
        go_wp2_with fail
        go_roundw
        case rel => exact ⟨j + 1, by have := HLT.out; omega, next_int (by have := HLT.out; have := HN.out; omega), by rw [idle_next HQ.out.1, HC.out]; rfl, by first | rfl | trivial⟩
        case measure => exact meas HLT.out (by have := HN.out; omega)
      | true =>
        by_cases ht : tl < 0
        · have dt : decide (tl < 0) = true := decide_eq_true ht
          have HT := Lib.hid ht
          go_wp2_with fail
          go_roundw
          case rel => exact ⟨j + 1, by have := HLT.out; omega, next_int (by have := HLT.out; have := HN.out; omega), by rw [idle_next HQ.out.1, HC.out, HQ.out.2, decide_eq_true HT.out]; rfl, by first | rfl | trivial⟩
          case measure => exact meas HLT.out (by have := HN.out; omega)
        · have dt : decide (tl < 0) = false := decide_eq_false ht
          have HT := Lib.hid ht
          clear ht
          go_wp2_with fail
          go_roundw
          case rel => exact ⟨j + 1, by have := HLT.out; omega, next_int (by have := HLT.out; have := HN.out; omega), by rw [idle_next HQ.out.1, HC.out, HQ.out.2, decide_eq_false HT.out]; rfl, by first | rfl | trivial⟩
          case measure => exact meas HLT.out (by have := HN.out; omega)
    · obtain rfl : j = n := by omega
      have et : l.take j = l := List.take_of_length_le (by rw [HN.out.1]; exact Nat.le_refl _)
      rw [et]
      obtain ⟨cur, hcur⟩ : ∃ cur, idle l = cur := ⟨_, rfl⟩
      rw [hcur]
      have HC := Lib.hid hcur
      clear et hcur hlt hj
      cases cur with
      | true =>
        go_wp2_with fail
        go_ret
        exact ⟨by rw [HPV.out, HC.out]; rfl, Only.refl _ _⟩
      | false =>
        rename World => w
        go_wp2_with fail
        go_loopw [9] (fun u9 wr => ∃ i : Nat, i ≤ j ∧ u9 = .int .i64 (i : Int) ∧ Hid (Only None' w wr ∧ ∀ i', i' < i → pcT l st i' = false)) (fun u9 wr => j - (intOf u9).toNat)
        case atStart => exact ⟨0, by omega, rfl, Lib.hid ⟨Only.refl _ _, fun i' h => by omega⟩⟩
        case round =>
          rename World => wr
          obtain ⟨i, hi, rfl, HI⟩ := hrel
          by_cases hlt : i < j
          · have hil : i < l.length := by have := HN.out.1; omega
            obtain ⟨o, ho⟩ : ∃ o, l[i]? = some o := ⟨_, List.getElem?_eq_getElem hil⟩
            have HR := Lib.hid (H.out.only HI.out.1 fun _ _ e => e)
            obtain ⟨g, off, cp, e, hg, hcell⟩ := HR.out.at_ hil
            injection e with e e2 e3
            subst e
            clear e2 e3
            rw [(List.getElem?_eq_some_iff.1 ho).2] at hcell
            have HK0 := Lib.hid (HK.out o (List.mem_of_getElem? ho))
            have HO := Lib.hid ho
            have HLT := Lib.hid hlt
            have i0 : (0 : Int) ≤ (i : Int) := by omega
            have i1 : (i : Int) < (j : Int) := by omega
            have HCELL := Lib.hid (And.intro hg hcell)
            have hnx : ∀ w', Only None' wr w' → pcT l st i = false → Only None' w w' ∧ ∀ i', i' < i + 1 → pcT l st i' = false := fun w' o' hf => ⟨HI.out.1.trans o', fun i' hi' => by
              by_cases e : i' = i
              · rw [e]; exact hf
              · exact HI.out.2 i' (by omega)⟩
            have HNX := Lib.hid hnx
            obtain ⟨x0, x1, x2, x3, ⟨x4, x5, x6, x7, x8⟩, ⟨x9, x10, x11⟩⟩ := o
            have y2 := hcell 2 _ rfl
            clear hil ho hg hlt hi hcell hnx
            go_wp2_with fail
            go_loopw [10, 11] (fun u10 u11 wx => ∃ k : Nat, k ≤ j ∧ u11 = .int .i64 (k : Int) ∧ u10 = .bool (firstB (l.take k) ⟨x0, x1, x2, x3, ⟨x4, x5, x6, x7, x8⟩, ⟨x9, x10, x11⟩⟩) ∧ Hid (Only None' wr wx)) (fun u10 u11 wx => j - (intOf u11).toNat)
            case atStart => exact ⟨0, by omega, rfl, rfl, Lib.hid (Only.refl _ _)⟩
            case round =>
              rename World => wx
              obtain ⟨k, hk, rfl, rfl, HX⟩ := hrel
              obtain ⟨cur, hcur⟩ : ∃ cur, firstB (l.take k) ⟨x0, x1, x2, x3, ⟨x4, x5, x6, x7, x8⟩, ⟨x9, x10, x11⟩⟩ = cur := ⟨_, rfl⟩
              rw [hcur]
              have HC := Lib.hid hcur
              have y2 := (HX.out.cell HCELL.out.1 (fun e => e) _).trans y2
              clear hcur
              by_cases hkt : k < j
              · have hkl : k < l.length := by have := HN.out.1; omega
                obtain ⟨q, hq⟩ : ∃ q, l[k]? = some q := ⟨_, List.getElem?_eq_getElem hkl⟩
                obtain ⟨g', off', cp, e, hg, hcell⟩ := (HR.out.only HX.out fun _ _ e => e).at_ hkl
                injection e with e e2 e3
                injection e with e
                injection e with e e4 _
                subst e
                subst e4
                clear e2 e3
                rw [(List.getElem?_eq_some_iff.1 hq).2] at hcell
                have y3 := hcell 3 _ rfl
                obtain ⟨tl, htl⟩ : ∃ tl, q.til = tl := ⟨_, rfl⟩
                rw [htl] at y3
                have HQ := Lib.hid (And.intro hq htl)
                have j0 : (0 : Int) ≤ (k : Int) := by omega
                have j1 : (k : Int) < (j : Int) := by omega
                have HKT := Lib.hid hkt
                clear hcell hg hq htl hkt hk hkl
                cases cur with
                | false =>
                  go_upto_region 15 with fail
                  go_quiet (fail)
                  go_wp2_with fail
                  go_roundw
                  case rel => exact ⟨k + 1, by have := HKT.out; omega, next_int (by have := HKT.out; have := HN.out; omega), by rw [firstB_next HQ.out.1, HC.out, HQ.out.2]; rfl, Lib.hid (HX.out.drewN _)⟩
                  case measure => exact meas HKT.out (by have := HN.out; omega)
                | true =>
                  by_cases ht : tl < 0
                  · have dt : decide (tl < 0) = true := decide_eq_true ht
                    have HT := Lib.hid ht
                    go_upto_region 15 with fail
                    go_quiet (fail)
                    go_wp2_with fail
                    go_roundw
                    case rel => exact ⟨k + 1, by have := HKT.out; omega, next_int (by have := HKT.out; have := HN.out; omega), by rw [firstB_next HQ.out.1, HC.out, HQ.out.2]; rw [decide_eq_true HT.out]; rfl, Lib.hid (HX.out.drewN _)⟩
                    case measure => exact meas HKT.out (by have := HN.out; omega)
                  · have dt : decide (tl < 0) = false := decide_eq_false ht
                    have HT := Lib.hid ht
                    clear ht
                    by_cases hf : x2 < tl
                    · have df : decide (x2 < tl) = true := decide_eq_true hf
                      have HF := Lib.hid hf
                      go_upto_region 15 with fail
                      go_quiet (fail)
                      go_wp2_with fail
                      go_roundw
                      case rel => exact ⟨k + 1, by have := HKT.out; omega, next_int (by have := HKT.out; have := HN.out; omega), by rw [firstB_next HQ.out.1, HC.out, HQ.out.2]; rw [decide_eq_false HT.out]; simp only [decide_eq_true HF.out]; rfl, Lib.hid (HX.out.drewN _)⟩
                      case measure => exact meas HKT.out (by have := HN.out; omega)
                    · have df : decide (x2 < tl) = false := decide_eq_false hf
                      have HF := Lib.hid hf
                      clear hf
                      go_upto_region 15 with fail
                      go_quiet (fail)
                      go_wp2_with fail
                      go_roundw
                      case rel => exact ⟨k + 1, by have := HKT.out; omega, next_int (by have := HKT.out; have := HN.out; omega), by rw [firstB_next HQ.out.1, HC.out, HQ.out.2]; rw [decide_eq_false HT.out]; simp only [decide_eq_false HF.out]; rfl, Lib.hid (HX.out.drewN _)⟩
                      case measure => exact meas HKT.out (by have := HN.out; omega)
              · obtain rfl : k = j := by omega
                have et : l.take k = l := List.take_of_length_le (by rw [HN.out.1]; exact Nat.le_refl _)
                rw [et] at HC
                clear et hkt hk
                cases cur with
                | false =>
                  go_wp2_with fail
                  go_roundw
                  case rel => exact ⟨i + 1, by have := HLT.out; omega, next_int (by have := HLT.out; have := HN.out; omega), Lib.hid (HNX.out _ HX.out (pcT_first HO.out HC.out))⟩
                  case measure => exact meas HLT.out (by have := HN.out; omega)
                | true =>
                  have y5 := (HX.out.cell HCELL.out.1 (fun e => e) _).trans (HCELL.out.2 5 _ rfl)
                  go_upto_if 71 with fail
                  go_cut [12] from 71 to 82 (fun u12 wy => Hid (PRow wy u12 (psOf x5 st) ∧ Only None' wx wy))
                  case first =>
                    cases st with
                    | none =>
                      go_wp2_with fail
                      go_meet
                      exact Lib.hid ⟨PRow.nil _, Only.refl _ _⟩
                    | some x =>
                      go_wp2_with (at_builtin; refine wpList_append_any rfl _ _ 65 rfl 67 Try.t67 (pairV ⟨#[]⟩ ⟨#[]⟩) 2 32 under65 info67 t67_zero t67_size t67_bytes rfl (by decide) (.slice none 0 0) 0 [] rfl (Vec.nil _ _) _ 1 (pairR (x5, x)) rfl (vec_pair _ x5 x).rd (pairR_one _) (by decide) (by decide) ?_; intro v5 w5 hv5 hg5 hf5; have HV := Lib.hid (one_of (Only.refl None' _) hv5 hg5 hf5); clear hv5 hg5 hf5)
                      go_meet
                      exact Lib.hid ⟨HV.out.pnew.row, HV.out.only⟩
                  case rest =>
                    rename World => wy
                    have HM := hcut
                    clear hcut
                    have HY := Lib.hid (HX.out.trans HM.out.2)
                    have z4 := (HY.out.cell HCELL.out.1 (fun e => e) _).trans (HCELL.out.2 4 _ rfl)
                    have z5 := (HY.out.cell HCELL.out.1 (fun e => e) _).trans (HCELL.out.2 5 _ rfl)
                    have z6 := (HY.out.cell HCELL.out.1 (fun e => e) _).trans (HCELL.out.2 6 _ rfl)
                    have z7 := (HY.out.cell HCELL.out.1 (fun e => e) _).trans (HCELL.out.2 7 _ rfl)
                    have z8 := (HY.out.cell HCELL.out.1 (fun e => e) _).trans (HCELL.out.2 8 _ rfl)
                    have HD := Lib.hid (rdo_any (o := ⟨x4, x5, x6, x7, x8⟩) HM.out.1 HK0.out)
                    obtain ⟨mv, hmv⟩ : ∃ mv, mv = u12 := ⟨_, rfl⟩
                    unfold Op5.v at HD
                    dsimp only at z4 z5 z6 z7 z8 HD
                    clear hmv
                    go_wp2_with fail
                    refine HD.out.mono ?_
                    intro e w6 hend
                    obtain ⟨o6, hend⟩ := hend
                    have HO6 := Lib.hid (HY.out.trans o6)
                    clear o6 HD
                    rcases hend with ⟨hcode, v8, rfl, N8⟩ | ⟨hcode, rfl⟩
                    · have HN8 := Lib.hid N8
                      have HCODE := Lib.hid hcode
                      obtain ⟨r6, hr6⟩ : ∃ r6, r6 = (Op5.does ⟨x4, x5, x6, x7, x8⟩ st).2 := ⟨_, rfl⟩
                      obtain ⟨st2, hst2⟩ : ∃ st2, st2 = (Op5.does ⟨x4, x5, x6, x7, x8⟩ st).1 := ⟨_, rfl⟩
                      rw [← hr6]
                      rw [← hst2] at HN8
                      have HR6 := Lib.hid (And.intro hr6 hst2)
                      clear N8 hcode hr6 hst2 z4 z5 z6 z7 z8 y2 y5
                      obtain ⟨rk, rf, rv⟩ := r6
                      unfold Rs.v
                      dsimp only
                      go_upto_region 21 with fail
                      generalize hXX : w6.heap.size = X
                      generalize hw7 : w6.alloc (.cells #[.int .u8 rk, .bool rf, .string rv] 29) = w7
                      have c7 : CellsR w7 X [.int .u8 rk, .bool rf, .string rv] := by rw [← hw7, ← hXX]; exact cells_new w6 _ 29
                      have o7 : Only None' w6 w7 := by rw [← hw7]; exact (Only.refl None' w6).alloc _
                      have H7 := Lib.hid (HO6.out.trans o7)
                      have N7 := Lib.hid (HN8.out.row.new_ o7)
                      have C7 := Lib.hid c7
                      obtain ⟨ok, hok⟩ : ∃ ok, ok = decide (x3 < 0 ∨ (⟨rk, rf, rv⟩ : Rs) = ⟨x9, x10, x11⟩) := ⟨_, rfl⟩
                      have HOK := Lib.hid hok
                      clear c7 o7 hXX hw7 hok
                      go_cut [112] from 94 to 112 (fun u112 wz => u112 = .bool (!ok) ∧ Hid (Only None' w7 wz))
                      case first =>
                        have y3 := (H7.out.cell HCELL.out.1 (fun e => e) _).trans (HCELL.out.2 3 _ rfl)
                        have y9 := (H7.out.cell HCELL.out.1 (fun e => e) _).trans (HCELL.out.2 9 _ rfl)
                        have y10 := (H7.out.cell HCELL.out.1 (fun e => e) _).trans (HCELL.out.2 10 _ rfl)
                        have y11 := (H7.out.cell HCELL.out.1 (fun e => e) _).trans (HCELL.out.2 11 _ rfl)
                        have r0 := C7.out.is 0 _ rfl
                        have r1 := C7.out.is 1 _ rfl
                        have r2 := C7.out.is 2 _ rfl
                        dsimp only at y3 y9 y10 y11
                        by_cases h3 : x3 < 0
                        · have dx : decide ((0 : Int) ≤ x3) = false := by rw [decide_eq_false_iff_not]; omega
                          obtain rfl : ok = true := by rw [HOK.out]; exact decide_eq_true (.inl h3)
                          clear h3
                          go_quiet (fail)
                          go_wp2_with fail
                          go_meet
                          exact ⟨rfl, Lib.hid ((Only.refl None' w7).drewN _)⟩
                        · have dx : decide ((0 : Int) ≤ x3) = true := by rw [decide_eq_true_eq]; omega
                          by_cases h9 : rk = x9
                          · have b9 : (rk == x9) = true := by simpa using h9
                            by_cases h10 : rf = x10
                            · have b10 : (rf == x10) = true := by simpa using h10
                              by_cases h11 : rv = x11
                              · have b11 : (rv.toList == x11.toList) = true := by rw [same_str, decide_eq_true_eq]; exact h11
                                obtain rfl : ok = true := by rw [HOK.out]; exact decide_eq_true (.inr (by rw [h9, h10, h11]))
                                clear h3 h9 h10 h11
                                go_quiet (fail)
                                go_wp2_with fail
                                go_meet
                                exact ⟨rfl, Lib.hid ((Only.refl None' w7).drewN _)⟩
                              · have b11 : (rv.toList == x11.toList) = false := by rw [same_str, decide_eq_false_iff_not]; exact h11
                                obtain rfl : ok = false := by rw [HOK.out]; exact decide_eq_false (by rintro (e | e); exact h3 e; injection e with _ _ e; exact h11 e)
                                clear h3 h9 h10 h11
                                go_quiet (fail)
                                go_wp2_with fail
                                go_meet
                                exact ⟨rfl, Lib.hid ((Only.refl None' w7).drewN _)⟩
                            · have b10 : (rf == x10) = false := by simpa using h10
                              obtain rfl : ok = false := by rw [HOK.out]; exact decide_eq_false (by rintro (e | e); exact h3 e; injection e with _ e _; exact h10 e)
                              clear h3 h9 h10
                              go_quiet (fail)
                              go_wp2_with fail
                              go_meet
                              exact ⟨rfl, Lib.hid ((Only.refl None' w7).drewN _)⟩
                          · have b9 : (rk == x9) = false := by simpa using h9
                            obtain rfl : ok = false := by rw [HOK.out]; exact decide_eq_false (by rintro (e | e); exact h3 e; injection e with e _ _; exact h9 e)
                            clear h3 h9
                            go_quiet (fail)
                            go_wp2_with fail
                            go_meet
                            exact ⟨rfl, Lib.hid ((Only.refl None' w7).drewN _)⟩
                      case rest =>
                        obtain ⟨rfl, HZ⟩ := hcut
                        rename World => wz
                        have HZ2 := Lib.hid (H7.out.trans HZ.out)
                        have HGO : Hid ((⟨x0, x1, x2, x3, ⟨x4, x5, x6, x7, x8⟩, ⟨x9, x10, x11⟩⟩ : Opn).goes st = if ok then some st2 else none) := Lib.hid (by
                          unfold Opn.goes
                          simp only
                          rw [← HR6.out.1, ← HR6.out.2, HCODE.out, HOK.out]
                          by_cases e : x3 < 0 ∨ (⟨rk, rf, rv⟩ : Rs) = ⟨x9, x10, x11⟩
                          · rw [if_pos ⟨rfl, e⟩, decide_eq_true e]; rfl
                          · rw [if_neg fun h => e h.2, decide_eq_false e]; rfl)
                        cases ok with
                        | false =>
                          go_wp2_with fail
                          go_roundw
                          case rel => exact ⟨i + 1, by have := HLT.out; omega, next_int (by have := HLT.out; have := HN.out; omega), Lib.hid (HNX.out _ HZ2.out (pcT_goes HO.out HGO.out))⟩
                          case measure => exact meas HLT.out (by have := HN.out; omega)
                        | true =>
                          have y5 := (HZ2.out.cell HCELL.out.1 (fun e => e) _).trans (HCELL.out.2 5 _ rfl)
                          have NZ := Lib.hid (N7.out.new_ HZ.out)
                          go_wp2_with fail
                          refine (rfind_any NZ.out).mono ?_
                          rintro e w8 ⟨rfl, o8⟩
                          have H8 := Lib.hid (HZ2.out.trans o8)
                          have HL8 : ∀ w', Only None' w8 w' → OR w' (.slice (some ⟨g, off, none⟩) k c) l := fun w' o => HR.out.only (H8.out.trans o) fun _ _ e => e
                          have HL9 := Lib.hid HL8
                          have HCC : Hid (i ≤ c ∧ k ≤ c) := Lib.hid (by
                            have h1 := (or_head HR.out HN.out.1 (Nat.le_of_lt HLT.out)).1
                            have h2 := (or_head HR.out HN.out.1 (Nat.le_refl k)).1
                            exact ⟨h1, h2⟩)
                          clear o8 HL8 y5
                          go_upto_region 24 with fail
                          go_cut [18] from 124 to 128 (fun u18 wq => Hid (Vec wq 12 u18 i ((l.take i).flatMap Opn.row) ∧ Only None' w8 wq ∧ ∀ g, u18.ownBlock = some g → w8.heap.size ≤ g))
                          case first =>
                            refine p_begin ?_
                            have HS : Hid (Only None' w8 w8) := Lib.hid (Only.refl _ _)
                            have HN0 : Hid (Only None' w8 w8) := Lib.hid (Only.refl _ _)
                            refine p_take 0 (.slice none 0 0) rfl (YR.pure (by rfl) fun w hw => y_move w rfl rfl) ?_
                            simp only [Act.put, List.setIfInBounds_toArray, List.set_cons_zero, List.set_cons_succ]
                            refine p_take 1 (.slice (some ⟨g, off, none⟩) k c) rfl (YR.pure (by rfl) fun w hw => y_move w rfl rfl) ?_
                            simp only [Act.put, List.setIfInBounds_toArray, List.set_cons_zero, List.set_cons_succ]
                            refine p_take 2 (.int .i64 (i : Int)) rfl (YR.pure (by rfl) fun w hw => y_move w rfl rfl) ?_
                            simp only [Act.put, List.setIfInBounds_toArray, List.set_cons_zero, List.set_cons_succ]
                            refine p_take 3 (.slice (some ⟨g, off, none⟩) i c) rfl (YR.pure (by rfl) fun w hw => y_upto40 w rfl rfl rfl HCC.out.1) ?_
                            simp only [Act.put, List.setIfInBounds_toArray, List.set_cons_zero, List.set_cons_succ]
                            refine p_one 4 rfl (by rfl) fun wi oi => ?_
                            refine wp_append40 (n := 0) (m := i) (xs := []) (ys := (l.take i).flatMap Opn.row) rfl rfl rfl (Vec.nil _ _) (or_head (HL9.out _ (HN0.out.trans oi)) HN.out.1 (Nat.le_of_lt HLT.out)).2 (opn_one _) (by have := HLT.out; have := HN.out; omega) fun v5 w5 hv5 hg5 hf5 => ?_
                            have HJ5 : Hid (Vec w5 12 v5 i ((l.take i).flatMap Opn.row) ∧ Only None' w8 w5 ∧ ∀ g, v5.ownBlock = some g → w8.heap.size ≤ g) := Lib.hid ⟨by rw [Nat.zero_add, List.nil_append] at hv5; exact hv5, (HN0.out.trans oi).trans ((Only.refl None' _).grown hg5 fun k hk => by cases hk), fun g hg => by rcases hf5 g hg with e | e; cases e; exact Nat.le_trans (HN0.out.trans oi).size e⟩
                            simp only [Act.put, List.setIfInBounds_toArray, List.set_cons_zero, List.set_cons_succ]
                            clear hv5 hg5 hf5 oi
                            refine p_take 5 (v5) rfl (YR.pure (by rfl) fun w hw => y_assign w rfl rfl) ?_
                            simp only [Act.put, List.setIfInBounds_toArray, List.set_cons_zero, List.set_cons_succ]
                            refine p_done fun wz oz => ?_
                            have HJ6 := Lib.hid (And.intro (HJ5.out.1.only oz fun _ _ e => e) (And.intro (HJ5.out.2.1.trans oz) HJ5.out.2.2))
                            clear HS HN0 oz HJ5
                            go_wp2_with fail
                            go_meet
                            exact HJ6
                          case rest =>
                            rename World => wq
                            have HV := hcut
                            clear hcut
                            obtain ⟨tv, htv⟩ : ∃ tv : Value, tv = .slice (if c = i + 1 then some ⟨g, off, none⟩ else some ⟨g, off + (i + 1) * 12, none⟩) (k - (i + 1)) (c - (i + 1)) := ⟨_, rfl⟩
                            have HTV := Lib.hid htv
                            clear htv
                            go_upto_region 25 with fail
                            go_cut [18] from 129 to 134 (fun u18 wp => Hid (Vec wp 12 u18 (l.eraseIdx i).length ((l.eraseIdx i).flatMap Opn.row) ∧ Only None' w8 wp))
                            case first =>
                              refine p_begin ?_
                              have HS : Hid (Only None' wq wq) := Lib.hid (Only.refl _ _)
                              have HN0 : Hid (Only None' wq wq) := Lib.hid (Only.refl _ _)
                              refine p_take 0 (u18) rfl (YR.pure (by rfl) fun w hw => y_move w rfl rfl) ?_
                              simp only [Act.put, List.setIfInBounds_toArray, List.set_cons_zero, List.set_cons_succ]
                              refine p_take 1 (.slice (some ⟨g, off, none⟩) k c) rfl (YR.pure (by rfl) fun w hw => y_move w rfl rfl) ?_
                              simp only [Act.put, List.setIfInBounds_toArray, List.set_cons_zero, List.set_cons_succ]
                              refine p_take 2 (.int .i64 (i : Int)) rfl (YR.pure (by rfl) fun w hw => y_move w rfl rfl) ?_
                              simp only [Act.put, List.setIfInBounds_toArray, List.set_cons_zero, List.set_cons_succ]
                              refine p_take 3 (.int .i64 ((i + 1 : Nat) : Int)) rfl (YR.pure (by rfl) fun w hw => y_add w rfl rfl rfl rfl (by rw [IntKind.wrap_i64]; have := HLT.out; have := HN.out; omega)) ?_
                              simp only [Act.put, List.setIfInBounds_toArray, List.set_cons_zero, List.set_cons_succ]
                              refine p_take 4 (tv) rfl (YR.pure (by rfl) fun w hw => by rw [HTV.out]; exact y_from40 w rfl rfl rfl (by have := HLT.out; omega) HCC.out.2) ?_
                              simp only [Act.put, List.setIfInBounds_toArray, List.set_cons_zero, List.set_cons_succ]
                              refine p_one 5 rfl (by rfl) fun wi oi => ?_
                              refine wp_append40 (n := i) (m := k - (i + 1)) (xs := (l.take i).flatMap Opn.row) (ys := (l.drop (i + 1)).flatMap Opn.row) rfl rfl rfl (HV.out.1.only (HN0.out.trans oi) fun _ _ e => e) (by rw [HTV.out]; exact (or_tail (HL9.out _ (HV.out.2.1.trans (HN0.out.trans oi))) HN.out.1 HLT.out).2) (opn_one _) (by have := HLT.out; have := HN.out; omega) fun v5 w5 hv5 hg5 hf5 => ?_
                              have HJ5 : Hid (Vec w5 12 v5 (l.eraseIdx i).length ((l.eraseIdx i).flatMap Opn.row) ∧ Only None' w8 w5) := Lib.hid (by
                                have hlen : (l.eraseIdx i).length = i + (k - (i + 1)) := by rw [List.length_eraseIdx]; have h1 := HN.out.1; have h2 := HLT.out; rw [if_pos (by omega)]; omega
                                have hrow : (l.take i).flatMap Opn.row ++ (l.drop (i + 1)).flatMap Opn.row = (l.eraseIdx i).flatMap Opn.row := by rw [List.eraseIdx_eq_take_drop_succ, List.flatMap_append]
                                rw [hlen, ← hrow]
                                have h8 := (HV.out.2.1.trans (HN0.out.trans oi)).size
                                exact ⟨hv5, (HV.out.2.1.trans (HN0.out.trans oi)).trans2 ((Only.refl (fun q => u18.ownBlock = some q) _).grown hg5 fun k hk => hk) fun q hq e => by have := HV.out.2.2 q e; omega⟩)
                              simp only [Act.put, List.setIfInBounds_toArray, List.set_cons_zero, List.set_cons_succ]
                              clear hv5 hg5 hf5 oi
                              refine p_take 6 (v5) rfl (YR.pure (by rfl) fun w hw => y_assign w rfl rfl) ?_
                              simp only [Act.put, List.setIfInBounds_toArray, List.set_cons_zero, List.set_cons_succ]
                              refine p_done fun wz oz => ?_
                              have HJ6 := Lib.hid (And.intro (HJ5.out.1.only oz fun _ _ e => e) (HJ5.out.2.trans oz))
                              clear HS HN0 oz HJ5
                              go_wp2_with fail
                              go_meet
                              exact HJ6
                            case rest =>
                              rename World => wp
                              have HL := hcut
                              clear hcut
                              have hel : (l.eraseIdx i).length = l.length - 1 := by rw [List.length_eraseIdx]; have h1 := HN.out.1; have h2 := HLT.out; rw [if_pos (by omega)]
                              have hih := HIH.out (l.eraseIdx i) (by have h1 := HN.out.1; have h2 := HLT.out; omega) wp u18 st2 (or_vec HL.out.1) (fun o ho => HK.out o (List.mem_of_mem_eraseIdx ho)) (by have := HN.out; omega)
                              rw [hel, ← pcT_on HO.out HC.out HGO.out] at hih
                              obtain ⟨b, hb⟩ : ∃ b, pcT l st i = b := ⟨_, rfl⟩
                              rw [hb] at hih
                              have HB := Lib.hid hb
                              have HCALL := Lib.hid hih
                              clear hel hih hb
                              go_wp2_with fail
                              refine HCALL.out.mono ?_
                              rintro e w9 ⟨rfl, o9⟩
                              have H9 := Lib.hid ((H8.out.trans HL.out.2).trans o9)
                              clear o9 HCALL
                              cases b with
                              | true =>
                                go_wp2_with fail
                                go_ret
                                refine ⟨?_, HI.out.1.trans H9.out⟩
                                have : (List.range k).any (pcT l st) = true := List.any_eq_true.2 ⟨i, List.mem_range.2 HLT.out, HB.out⟩
                                rw [HPV.out, this, Bool.or_true]
                                rfl
                              | false =>
                                go_wp2_with fail
                                go_roundw
                                case rel => exact ⟨i + 1, by have := HLT.out; omega, next_int (by have := HLT.out; have := HN.out; omega), Lib.hid (HNX.out _ H9.out HB.out)⟩
                                case measure => exact meas HLT.out (by have := HN.out; omega)
                    · obtain ⟨cd, hcd⟩ : ∃ cd, cd = Op5.code ⟨x4, x5, x6, x7, x8⟩ := ⟨_, rfl⟩
                      have HGO : Hid ((⟨x0, x1, x2, x3, ⟨x4, x5, x6, x7, x8⟩, ⟨x9, x10, x11⟩⟩ : Opn).goes st = none) := Lib.hid (by unfold Opn.goes; exact if_neg fun h => hcode h.1)
                      rw [← hcd] at hcode ⊢
                      have ec : (cd != 0) = true := by simpa using hcode
                      have ec2 : (cd == 0) = false := by simpa using hcode
                      clear hcode hcd z4 z5 z6 z7 z8 y2 y5
                      unfold Rs.v Rs.zero
                      dsimp only
                      go_upto_region 21 with fail
                      generalize hXX : w6.heap.size = X
                      generalize hw7 : w6.alloc (.cells #[.int .u8 0, .bool false, .string ⟨#[]⟩] 29) = w7
                      have o7 : Only None' w6 w7 := by rw [← hw7]; exact (Only.refl None' w6).alloc _
                      have H7 := Lib.hid (HO6.out.trans o7)
                      clear o7 hXX hw7
                      go_quiet (fail)
                      go_wp2_with fail
                      go_roundw
                      case rel => exact ⟨i + 1, by have := HLT.out; omega, next_int (by have := HLT.out; have := HN.out; omega), Lib.hid (HNX.out _ (H7.out.drewN _) (pcT_goes HO.out HGO.out))⟩
                      case measure => exact meas HLT.out (by have := HN.out; omega)
          · obtain rfl : i = j := by omega
            go_wp2_with fail
            go_ret
            refine ⟨?_, HI.out.1⟩
            have : (List.range i).any (pcT l st) = false := by
              rw [List.any_eq_false]
              intro x hx
              rw [HI.out.2 x (List.mem_range.1 hx)]
              decide
            rw [HPV.out, HC.out, this]
            rfl
theorem could_all : ∀ (n : Nat) (l : List Opn), l.length ≤ n → CouldOK l
  | 0, l, h => could_step l fun l' h' => by omega
  | n + 1, l, h => could_step l fun l' h' => could_all n l' (by omega)
end Go.Proofs.Ytajbagdgjbihjaa
