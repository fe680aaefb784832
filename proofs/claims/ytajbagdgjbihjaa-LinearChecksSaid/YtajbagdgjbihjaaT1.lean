/- S2 + S3 + S4 in one text. -/
import Derived.Test.YtajbagdgjbihjaaD6
import Derived.Deep.QuietTactic
/- The document's dedup: Check (31), Find (25), Put (32) of a map of one key. -/
namespace Go.Proofs.Ytajbagdgjbihjaa
open Go.RowKit Go.Maps
set_option linter.unusedVariables false

set_option maxRecDepth 20000 in
set_option maxHeartbeats 1000000 in
theorem rcheck_any (o : Op5) (hk0 : 0 ≤ o.kind) (w : World) : Calls Try.prog 31 #[o.v] w fun e w' => e = .returned (.int .i64 o.code) ∧ Only None' w w' := by
  obtain ⟨kd, key, val, old, had⟩ := o
  simp only at hk0
  have HO := Lib.hid ((Only.refl None' w).alloc (.cells #[.int .u8 kd, .string key, .string val, .string old, .bool had] 24))
  unfold Op5.v Op5.code
  simp only
  go_enter Try.func31, Try.ntmps31
  by_cases h1 : kd < 1
  · obtain rfl : kd = 0 := by omega
    rw [if_pos (.inl h1)]
    go_wp2_with fail
    go_ret
    exact ⟨rfl, HO.out⟩
  · have d1 : (kd == 0) = false := by rw [beq_eq_false_iff_ne]; omega
    by_cases h2 : 4 < kd
    · have d2 : decide (4 < kd) = true := decide_eq_true h2
      rw [if_pos (.inr h2)]
      clear h1
      go_wp2_with fail
      go_ret
      exact ⟨rfl, HO.out⟩
    · have d2 : decide (4 < kd) = false := decide_eq_false h2
      rw [if_neg (by omega)]
      clear h1 h2
      by_cases hk : key.size = 0
      · have dk : decide ((key.size : Int) < 1) = true := by rw [decide_eq_true_eq]; omega
        have dk' : (key.size : Int) < 1 := by omega
        rw [if_pos (.inl hk)]
        clear hk
        go_wp2_with fail
        go_ret
        exact ⟨rfl, HO.out⟩
      · have dk : decide ((key.size : Int) < 1) = false := by rw [decide_eq_false_iff_not]; omega
        have dk' : ¬ (key.size : Int) < 1 := by omega
        by_cases h3 : 32 < key.size
        · have d3 : decide ((32 : Int) < (key.size : Int)) = true := by rw [decide_eq_true_eq]; omega
          have d3' : (32 : Int) < (key.size : Int) := by omega
          rw [if_pos (.inr (.inl h3))]
          clear h3 hk
          go_wp2_with fail
          go_ret
          exact ⟨rfl, HO.out⟩
        · have d3 : decide ((32 : Int) < (key.size : Int)) = false := by rw [decide_eq_false_iff_not]; omega
          have d3' : ¬ (32 : Int) < (key.size : Int) := by omega
          by_cases h4 : 2000 < val.size
          · have d4 : decide ((2000 : Int) < (val.size : Int)) = true := by rw [decide_eq_true_eq]; omega
            have d4' : (2000 : Int) < (val.size : Int) := by omega
            rw [if_pos (.inr (.inr (.inl h4)))]
            clear h3 h4 hk
            go_wp2_with fail
            go_ret
            exact ⟨rfl, HO.out⟩
          · have d4 : decide ((2000 : Int) < (val.size : Int)) = false := by rw [decide_eq_false_iff_not]; omega
            have d4' : ¬ (2000 : Int) < (val.size : Int) := by omega
            by_cases h5 : 2000 < old.size
            · have d5 : decide ((2000 : Int) < (old.size : Int)) = true := by rw [decide_eq_true_eq]; omega
              have d5' : (2000 : Int) < (old.size : Int) := by omega
              rw [if_pos (.inr (.inr (.inr h5)))]
              clear h3 h4 h5 hk
              go_wp2_with fail
              go_ret
              exact ⟨rfl, HO.out⟩
            · have d5 : decide ((2000 : Int) < (old.size : Int)) = false := by rw [decide_eq_false_iff_not]; omega
              have d5' : ¬ (2000 : Int) < (old.size : Int) := by omega
              rw [if_neg (by omega)]
              clear h3 h4 h5 hk
              go_wp2_with fail
              go_ret
              exact ⟨rfl, HO.out⟩
/-- a map of one key -/
def psOf (key : ByteArray) (st : Option ByteArray) : List Pr := match st with
  | none => []
  | some v => [(key, v)]
theorem same_self (k : ByteArray) : (k.toList == k.toList) = true := by rw [beq_iff_eq]
set_option maxRecDepth 20000 in
set_option maxHeartbeats 1000000 in
theorem rfind_any {w : World} {v : Value} {key : ByteArray} {st : Option ByteArray} (h : PRow w v (psOf key st)) : Calls Try.prog 25 #[v, .string key] w fun e w' => e = .returned (.tuple #[.string (st.getD ⟨#[]⟩), .bool st.isSome]) ∧ Only None' w w' := by
  obtain ⟨a, cap, rfl, _⟩ := h.row.shape
  have ss := same_self key
  cases st with
  | none =>
    unfold psOf
    rw [List.length_nil]
    clear h
    go_enter Try.func25, Try.ntmps25
    go_wp2_with fail
    go_loopw [6] (fun u6 wr => u6 = .int .i64 0 ∧ wr = w) (fun u6 wr => 0)
    case atStart => exact ⟨rfl, rfl⟩
    case round =>
      obtain ⟨rfl, rfl⟩ := hrel
      go_wp2_with fail
      go_ret2
      exact ⟨rfl, Only.refl _ _⟩
  | some x =>
    obtain ⟨g, off, rfl, hg, hcell, _⟩ := h.row.form' (by unfold psOf; simp)
    have c0 := hcell 0 (.string key) rfl
    have c1 := hcell 1 (.string x) rfl
    rw [Nat.add_zero] at c0
    unfold psOf
    rw [List.length_singleton]
    clear h hcell hg
    go_enter Try.func25, Try.ntmps25
    go_wp2_with fail
    go_loopw [6] (fun u6 wr => u6 = .int .i64 0 ∧ wr = w) (fun u6 wr => 0)
    case atStart => exact ⟨rfl, rfl⟩
    case round =>
      obtain ⟨rfl, rfl⟩ := hrel
      go_wp2_with fail
      go_ret2
      exact ⟨rfl, Only.refl _ _⟩
end Go.Proofs.Ytajbagdgjbihjaa
/- The document's dedup: Put (32) into a map of one key. -/
namespace Go.Proofs.Ytajbagdgjbihjaa
open Go.RowKit Go.Maps
set_option linter.unusedVariables false

/-- a row of one pair, of the call's own -/
structure OneP (w wr : World) (v : Value) (key x : ByteArray) : Prop where
  row : Vec wr 2 v 1 (pairR (key, x))
  fresh : ∀ g, v.ownBlock = some g → w.heap.size ≤ g
  only : Only None' w wr
theorem OneP.pnew {w wr : World} {v : Value} {key x : ByteArray} (h : OneP w wr v key x) : PNew w wr v (psOf key (some x)) := ⟨⟨h.row⟩, h.fresh, h.only⟩
theorem one_of {w w1 w2 : World} {v : Value} {key x : ByteArray} (o : Only None' w w1) (hv : Vec w2 2 v (0 + 1) ([] ++ pairR (key, x))) (hg : (w1.alloc (.cells #[.string key, .string x] 67)).grownBy w2 (Value.slice none 0 0).ownBlock) (hf : ∀ k, v.ownBlock = some k → (Value.slice none 0 0).ownBlock = some k ∨ (w1.alloc (.cells #[.string key, .string x] 67)).heap.size ≤ k) : OneP w w2 v key x := by
  rw [Nat.zero_add, List.nil_append] at hv
  have o1 : Only None' w (w1.alloc (.cells #[.string key, .string x] 67)) := o.alloc _
  refine ⟨hv, fun g hgg => ?_, o1.trans ((Only.refl None' _).grown hg fun k hk => by cases hk)⟩
  rcases hf g hgg with e | e
  · cases e
  · have := o1.size; omega
set_option maxRecDepth 20000 in
set_option maxHeartbeats 1000000 in
theorem rput_any {w : World} {v : Value} {key x : ByteArray} {st : Option ByteArray} (h : PRow w v (psOf key st)) : Calls Try.prog 32 #[v, pairV key x] w fun e w' => ∃ v', e = .returned v' ∧ PNew w w' v' (psOf key (some x)) := by
  obtain ⟨w1, hw1⟩ : ∃ w1, w1 = w.alloc (.cells #[.string key, .string x] 67) := ⟨_, rfl⟩
  have o1 : Only None' w w1 := by rw [hw1]; exact (Only.refl None' w).alloc _
  obtain ⟨P, hP⟩ : ∃ P, P = w.heap.size := ⟨_, rfl⟩
  have hC : CellsR w1 P [.string key, .string x] := by rw [hw1, hP]; exact cells_new w [.string key, .string x] 67
  have h1 := h.new_ o1
  have HF := Lib.hid (rfind_any h1)
  have HC := Lib.hid hC
  have O1 := Lib.hid o1
  have HR := Lib.hid h1
  have ss := same_self key
  have ew := hw1.symm
  have eP := hP.symm
  unfold pairV
  cases st with
  | none =>
    obtain ⟨a, cap, rfl, _⟩ := h.row.shape
    unfold psOf at HF HR ⊢
    rw [List.length_nil] at HF HR ⊢
    have c0 := hC.is 0 _ rfl
    clear h h1 o1 hC hw1 hP
    go_enter Try.func32, Try.ntmps32
    go_wp2_with fail
    refine HF.out.mono ?_
    rintro e w2 ⟨rfl, o2⟩
    have O2 := Lib.hid (O1.out.trans o2)
    have C2 := HC.out.kept o2 fun e => e
    have d0 := C2.is 0 _ rfl
    have d1 := C2.is 1 _ rfl
    clear o2 HF ew
    go_wp2_with fail
    go_loopw [5, 8, 9] (fun u5 u8 u9 wr => u5 = .slice none 0 0 ∧ u8 = .bool false ∧ u9 = .int .i64 0 ∧ wr = w2) (fun u5 u8 u9 wr => 0)
    case atStart => exact ⟨rfl, rfl, rfl, rfl⟩
    case round =>
      obtain ⟨rfl, rfl, rfl, rfl⟩ := hrel
      go_wp2_with (at_builtin; refine wpList_append_any rfl _ _ 65 rfl 67 Try.t67 (pairV ⟨#[]⟩ ⟨#[]⟩) 2 32 under65 info67 t67_zero t67_size t67_bytes rfl (by decide) (.slice none 0 0) 0 [] rfl (Vec.nil _ _) _ 1 (pairR (key, x)) rfl (vec_pair _ key x).rd (pairR_one _) (by decide) (by decide) ?_; intro v5 w5 hv5 hg5 hf5; have HV := Lib.hid (one_of O2.out hv5 hg5 hf5); clear hv5 hg5 hf5)
      go_ret
      exact ⟨_, rfl, HV.out.pnew⟩
  | some y =>
    obtain ⟨g, off, ⟨cap, rfl⟩, hg, hcell⟩ : ∃ g off, (∃ cap, v = .slice (some ⟨g, off, none⟩) 1 cap) ∧ g < w1.heap.size ∧ (∀ j u, (pairR (key, y))[j]? = some u → w1.cell? ⟨g, off + j, none⟩ = some u) := by
      obtain ⟨g, off, c, e, _, _, h3, h4, _⟩ := h1.row.at_ (by unfold psOf; simp)
      exact ⟨g, off, ⟨c, e⟩, h3, fun j u hu => h4 j u hu⟩
    have HCELL := Lib.hid (And.intro hg hcell)
    have c0 := hC.is 0 _ rfl
    simp only [Option.getD_some, Option.isSome_some] at HF
    clear h h1 o1 hC hw1 hP HR hg hcell
    go_enter Try.func32, Try.ntmps32
    go_wp2_with fail
    refine HF.out.mono ?_
    rintro e w2 ⟨rfl, o2⟩
    have O2 := Lib.hid (O1.out.trans o2)
    have C2 := HC.out.kept o2 fun e => e
    have d0 := C2.is 0 _ rfl
    have d1 := C2.is 1 _ rfl
    have k0 := (o2.cell HCELL.out.1 (fun e => e) _).trans (HCELL.out.2 0 _ rfl)
    have k1 := (o2.cell HCELL.out.1 (fun e => e) _).trans (HCELL.out.2 1 _ rfl)
    rw [Nat.add_zero] at k0
    clear o2 HF ew C2
    go_wp2_with fail
    go_loopw [5, 8, 9] (fun u5 u8 u9 wr => (u9 = .int .i64 0 ∧ u5 = .slice none 0 0 ∧ u8 = .bool false ∧ wr = w2) ∨ (u9 = .int .i64 1 ∧ u8 = .bool true ∧ Hid (OneP w wr u5 key x))) (fun u5 u8 u9 wr => 1 - (intOf u9).toNat)
    case atStart => exact .inl ⟨rfl, rfl, rfl, rfl⟩
    case round =>
      rcases hrel with ⟨rfl, rfl, rfl, rfl⟩ | ⟨rfl, rfl, HV⟩
      · go_upto_region 7 with fail
        go_quiet (fail)
        go_wp2_with (at_builtin; refine wpList_append_any rfl _ _ 65 rfl 67 Try.t67 (pairV ⟨#[]⟩ ⟨#[]⟩) 2 32 under65 info67 t67_zero t67_size t67_bytes rfl (by decide) (.slice none 0 0) 0 [] rfl (Vec.nil _ _) _ 1 (pairR (key, x)) rfl (vec_pair _ key x).rd (pairR_one _) (by decide) (by decide) ?_; intro v5 w5 hv5 hg5 hf5; have HV := Lib.hid (one_of (O2.out.drewN _) hv5 hg5 hf5); clear hv5 hg5 hf5)
        go_roundw
        case rel => exact .inr ⟨rfl, rfl, HV⟩
        case measure => decide
      · go_wp2_with fail
        go_ret
        exact ⟨_, rfl, HV.out.pnew⟩
end Go.Proofs.Ytajbagdgjbihjaa
/- The document's Do (24), of a map of one key. -/
namespace Go.Proofs.Ytajbagdgjbihjaa
open Go.RowKit Go.Maps
set_option linter.unusedVariables false

/-- what the document's Do hands back -/
def RDo (w : World) (o : Op5) (st : Option ByteArray) (e : Ending) (w' : World) : Prop := Only None' w w' ∧
  ((o.code = 0 ∧ ∃ v', e = .returned (.tuple #[v', (o.does st).2.v, .int .i64 0]) ∧ PNew w w' v' (psOf o.key (o.does st).1)) ∨
   (o.code ≠ 0 ∧ e = .returned (.tuple #[.slice none 0 0, Rs.zero.v, .int .i64 o.code])))
theorem rdo_end {w w8 wz : World} {R : Nat} {v : Value} {o : Op5} {st st' : Option ByteArray} {r : Rs} (hc : 0 = o.code) (N : PNew w w8 v (psOf o.key st')) (hR : w.heap.size ≤ R) (hv : ∀ g, v.ownBlock = some g → g ≠ R) (oz : Only (fun k => k = R) w8 wz) (hs : o.does st = (st', r)) : RDo w o st (.returned (.tuple #[v, r.v, .int .i64 0])) wz := by
  have N7 : PNew w wz v (psOf o.key st') := ⟨N.row.only oz fun g hg e => hv g hg e, N.fresh, N.only.fresh hR oz⟩
  refine ⟨N7.only, .inl ⟨hc.symm, v, by rw [hs], by rw [hs]; exact N7⟩⟩
theorem ps_one (key : ByteArray) (st : Option ByteArray) : (psOf key st).length ≤ 1 := by
  cases st <;> unfold psOf <;> simp
theorem flat_pairs (ps : List Pr) : ∀ u ∈ ps.flatMap pairR, u.oneCell' = true := fun u hu => by
  obtain ⟨p, _, h⟩ := List.mem_flatMap.1 hu
  exact pairR_one p u h
theorem pnew_app {w w3 w4 : World} {v4 : Value} {ps : List Pr} {n : Nat} (hn : n = ps.length) (o : Only None' w w3) (hv : Vec w4 2 v4 (0 + n) ([] ++ ps.flatMap pairR)) (hg : w3.grownBy w4 (Value.slice none 0 0).ownBlock) (hf : ∀ k, v4.ownBlock = some k → (Value.slice none 0 0).ownBlock = some k ∨ w3.heap.size ≤ k) : PNew w w4 v4 ps := by
  rw [Nat.zero_add, List.nil_append, hn] at hv
  refine ⟨⟨hv⟩, fun g hgg => ?_, o.trans ((Only.refl None' _).grown hg fun k hk => by cases hk)⟩
  rcases hf g hgg with e | e
  · cases e
  · have := o.size; omega
theorem pnew_nil {w w8 : World} (o : Only None' w w8) : PNew w w8 (.slice none 0 0) [] := ⟨PRow.nil _, (fun g hg => by cases hg), o⟩
set_option maxRecDepth 20000 in
set_option maxHeartbeats 4000000 in
theorem rdo_any {w : World} {v : Value} {o : Op5} {st : Option ByteArray} (h : PRow w v (psOf o.key st)) (hk0 : 0 ≤ o.kind) : Calls Try.prog 24 #[v, o.v] w (RDo w o st) := by
  obtain ⟨P, hP⟩ : ∃ P, P = w.heap.size := ⟨_, rfl⟩
  obtain ⟨w1, hw1⟩ : ∃ w1, w1 = (w.alloc (.cells #[.int .u8 o.kind, .string o.key, .string o.val, .string o.old, .bool o.had] 24)).alloc (.cells #[.int .u8 0, .bool false, .string ⟨#[]⟩] 29) := ⟨_, rfl⟩
  have o1 : Only None' w w1 := by rw [hw1]; exact ((Only.refl None' w).alloc _).alloc _
  have cP : CellsR w1 P [.int .u8 o.kind, .string o.key, .string o.val, .string o.old, .bool o.had] := by
    rw [hw1, hP]
    exact (cells_new w [.int .u8 o.kind, .string o.key, .string o.val, .string o.old, .bool o.had] 24).kept ((Only.refl None' _).alloc _) fun e => e
  have cR : CellsR w1 (P + 1) [.int .u8 0, .bool false, .string ⟨#[]⟩] := by
    rw [hw1, hP]
    have := cells_new (w.alloc (.cells #[.int .u8 o.kind, .string o.key, .string o.val, .string o.old, .bool o.had] 24)) [.int .u8 0, .bool false, .string ⟨#[]⟩] 29
    have e2 : (w.alloc (.cells #[.int .u8 o.kind, .string o.key, .string o.val, .string o.old, .bool o.had] 24)).heap.size = w.heap.size + 1 := by simp
    rw [e2] at this
    exact this
  have H := Lib.hid (h.new_ o1)
  have HP := Lib.hid cP
  have HR := Lib.hid cR
  have O1 := Lib.hid o1
  have HPW := Lib.hid (show w.heap.size ≤ P by omega)
  obtain ⟨a, cap, rfl, _⟩ := h.row.shape
  obtain ⟨n, hnn⟩ : ∃ n, n = (psOf o.key st).length := ⟨_, rfl⟩
  rw [← hnn] at H ⊢
  have HN := Lib.hid hnn
  have ew := hw1.symm
  have eP := hP.symm
  have p0 := cP.is 0 _ rfl
  have p1 := cP.is 1 _ rfl
  have p2 := cP.is 2 _ rfl
  have p3 := cP.is 3 _ rfl
  have p4 := cP.is 4 _ rfl
  clear h o1 cP cR hw1 hP hnn
  obtain ⟨kd, key, val, old, had⟩ := o
  unfold Op5.v
  simp only at p0 p1 p2 p3 p4 ew HP H hk0
  have ss := same_self key
  go_enter Try.func24, Try.ntmps24
  go_wp2_with fail
  refine (rcheck_any ⟨kd, key, val, old, had⟩ hk0 w1).mono ?_
  rintro e w2 ⟨rfl, o2⟩
  obtain ⟨code, hcode⟩ : ∃ code, code = (⟨kd, key, val, old, had⟩ : Op5).code := ⟨_, rfl⟩
  rw [← hcode]
  have HCODE := Lib.hid hcode
  have O2 := Lib.hid (O1.out.trans o2)
  have P2 := Lib.hid (HP.out.kept o2 fun e => e)
  have R2 := Lib.hid (HR.out.kept o2 fun e => e)
  have H2 := Lib.hid (H.out.new_ o2)
  by_cases h0 : code = 0
  · subst h0
    have p1 := P2.out.is 1 _ rfl
    clear p0 p2 p3 p4 ew o2 hcode
    go_wp2_with fail
    refine (rfind_any H2.out).mono ?_
    rintro e w3 ⟨rfl, o3⟩
    have O3 := Lib.hid (O2.out.trans o3)
    have P3 := Lib.hid (P2.out.kept o3 fun e => e)
    have R3 := Lib.hid (R2.out.kept o3 fun e => e)
    have H3 := Lib.hid (H2.out.new_ o3)
    have p1 := P3.out.is 1 _ rfl
    have p2 := P3.out.is 2 _ rfl
    clear o3
    go_upto_region 7 with (at_builtin; refine wpList_append_any rfl _ _ 65 rfl 67 Try.t67 (pairV ⟨#[]⟩ ⟨#[]⟩) 2 32 under65 info67 t67_zero t67_size t67_bytes rfl (by decide) (.slice none 0 0) 0 [] rfl (Vec.nil _ _) (.slice a n cap) n ((psOf key st).flatMap pairR) rfl (by have := H3.out.row.rd; rw [← HN.out] at this; exact this) (flat_pairs _) (by have h1 := ps_one key st; have h2 : n = (psOf key st).length := HN.out; unfold maxLen; omega) (by have h1 := ps_one key st; have h2 : n = (psOf key st).length := HN.out; omega) ?_; intro v4 w4 hv4 hg4 hf4; have N4 := Lib.hid (pnew_app (ps := psOf key st) HN.out O3.out hv4 hg4 hf4); have O34 : Hid (Only None' w3 w4) := Lib.hid ((Only.refl None' _).grown hg4 fun k hk => by cases hk); have HF4 : Hid (∀ g, v4.ownBlock = some g → w3.heap.size ≤ g) := Lib.hid fun g hg => (hf4 g hg).resolve_left (fun e => by cases e); clear hv4 hg4 hf4)
    rename World => w4
    rename Value => v4
    have P4 := Lib.hid (P3.out.kept O34.out fun e => e)
    have R4 := Lib.hid (R3.out.kept O34.out fun e => e)
    have H4 := Lib.hid (H3.out.new_ O34.out)
    have p1 := P4.out.is 1 _ rfl
    have p2 := P4.out.is 2 _ rfl
    obtain ⟨Q, hQ⟩ : ∃ Q, Q = w4.heap.size := ⟨_, rfl⟩
    obtain ⟨w5, hw5⟩ : ∃ w5, w5 = w4.alloc (.cells #[.string key, .string val] 67) := ⟨_, rfl⟩
    have o5 : Only None' w4 w5 := by rw [hw5]; exact (Only.refl None' w4).alloc _
    have cQ : CellsR w5 Q [.string key, .string val] := by rw [hw5, hQ]; exact cells_new w4 [.string key, .string val] 67
    have Q5 := Lib.hid cQ
    have P5 := Lib.hid (P4.out.kept o5 fun e => e)
    have R5 := Lib.hid (R4.out.kept o5 fun e => e)
    have H5 := Lib.hid (H4.out.new_ o5)
    have N5 : Hid (PNew w w5 v4 (psOf key st)) := Lib.hid ⟨N4.out.row.new_ o5, N4.out.fresh, N4.out.only.trans o5⟩
    have HV4 : Hid (∀ g, v4.ownBlock = some g → g ≠ P + 1) := Lib.hid fun g hg e => by
      have h1 := R3.out.lt
      have h2 := HF4.out g hg
      omega
    have ew5 := hw5.symm
    have eQ := hQ.symm
    have q0 := cQ.is 0 _ rfl
    have q1 := cQ.is 1 _ rfl
    have p0 := P5.out.is 0 _ rfl
    clear o5 cQ hw5 hQ
    by_cases h1 : kd = 1
    · subst h1
      as_aux_lemma =>
        have r0 := R5.out.is 0 _ rfl
        have r1 := R5.out.is 1 _ rfl
        have r2 := R5.out.is 2 _ rfl
        have z0 := R5.out.thaw 0
        have z1 := R5.out.thaw 1
        have z2 := R5.out.thaw 2
        go_wp2_with fail
        (try simp only [Exit.inBlock, Exit.then])
        refine bodyPost_ret (v := .tuple #[v4, .agg #[.int .u8 1, .bool st.isSome, .string (st.getD ⟨#[]⟩)], .int .i64 0]) ?_ rfl ?_
        · rw [results_tct rfl]
          go_simp
        · exact rdo_end (R := P + 1) (st' := st) (r := ⟨1, st.isSome, (st.getD ⟨#[]⟩)⟩) HCODE.out N5.out (by have := HPW.out; omega) HV4.out ((((Only.refl (fun k => k = P + 1) w5).setCell (p := ⟨P + 1, 0, none⟩) rfl _).setCell (p := ⟨P + 1, 1, none⟩) rfl _).setCell (p := ⟨P + 1, 2, none⟩) rfl _) (by unfold Op5.does; rw [if_pos rfl])
    have b1 : (kd == 1) = false := by simpa using h1
    by_cases h2 : kd = 2
    · subst h2
      as_aux_lemma =>
        go_wp2_with fail
        refine (rput_any (key := key) (x := val) H5.out).mono ?_
        rintro e w8 ⟨v8, rfl, n8⟩
        have N8 := Lib.hid n8
        have R8 := Lib.hid (R5.out.kept n8.only fun e => e)
        have N9 : Hid (PNew w w8 v8 (psOf key (some val))) := Lib.hid ⟨N8.out.row, fun g hg => by have h1 := N8.out.fresh g hg; have h2 := N5.out.only.size; omega, N5.out.only.trans N8.out.only⟩
        have HF8 : Hid (∀ g, v8.ownBlock = some g → g ≠ P + 1) := Lib.hid fun g hg => by have h1 := N8.out.fresh g hg; have h2 := R5.out.lt; omega
        clear n8 ew5 q0 q1
        have r0 := R8.out.is 0 _ rfl
        have r1 := R8.out.is 1 _ rfl
        have r2 := R8.out.is 2 _ rfl
        have z0 := R8.out.thaw 0
        have z1 := R8.out.thaw 1
        have z2 := R8.out.thaw 2
        go_wp2_with fail
        (try simp only [Exit.inBlock, Exit.then])
        refine bodyPost_ret (v := .tuple #[v8, .agg #[.int .u8 1, .bool false, .string ⟨#[]⟩], .int .i64 0]) ?_ rfl ?_
        · rw [results_tct rfl]
          go_simp
        · exact rdo_end (R := P + 1) (st' := some val) (r := ⟨1, false, ⟨#[]⟩⟩) HCODE.out N9.out (by have := HPW.out; omega) HF8.out ((((Only.refl (fun k => k = P + 1) w8).setCell (p := ⟨P + 1, 0, none⟩) rfl _).setCell (p := ⟨P + 1, 1, none⟩) rfl _).setCell (p := ⟨P + 1, 2, none⟩) rfl _) (by unfold Op5.does; rw [if_neg (show ¬ (2 : Int) = 1 by decide), if_pos rfl])
    have b2 : (kd == 2) = false := by simpa using h2
    by_cases h4 : kd = 4
    · subst h4
      have p4 := P5.out.is 4 _ rfl
      have p3 := P5.out.is 3 _ rfl
      cases had with
      | false =>
        cases st with
        | none =>
          as_aux_lemma =>
            go_wp2_with fail
            refine (rput_any (key := key) (x := val) H5.out).mono ?_
            rintro e w8 ⟨v8, rfl, n8⟩
            have N8 := Lib.hid n8
            have R8 := Lib.hid (R5.out.kept n8.only fun e => e)
            have N9 : Hid (PNew w w8 v8 (psOf key (some val))) := Lib.hid ⟨N8.out.row, fun g hg => by have h1 := N8.out.fresh g hg; have h2 := N5.out.only.size; omega, N5.out.only.trans N8.out.only⟩
            have HF8 : Hid (∀ g, v8.ownBlock = some g → g ≠ P + 1) := Lib.hid fun g hg => by have h1 := N8.out.fresh g hg; have h2 := R5.out.lt; omega
            clear n8 ew5 q0 q1
            have r0 := R8.out.is 0 _ rfl
            have r1 := R8.out.is 1 _ rfl
            have r2 := R8.out.is 2 _ rfl
            have z0 := R8.out.thaw 0
            have z1 := R8.out.thaw 1
            have z2 := R8.out.thaw 2
            go_wp2_with fail
            (try simp only [Exit.inBlock, Exit.then])
            refine bodyPost_ret (v := .tuple #[v8, .agg #[.int .u8 1, .bool true, .string ⟨#[]⟩], .int .i64 0]) ?_ rfl ?_
            · rw [results_tct rfl]
              go_simp
            · exact rdo_end (R := P + 1) (st' := some val) (r := ⟨1, true, ⟨#[]⟩⟩) HCODE.out N9.out (by have := HPW.out; omega) HF8.out ((((Only.refl (fun k => k = P + 1) w8).setCell (p := ⟨P + 1, 0, none⟩) rfl _).setCell (p := ⟨P + 1, 1, none⟩) rfl _).setCell (p := ⟨P + 1, 2, none⟩) rfl _) (by unfold Op5.does; rw [if_neg (show ¬ (4 : Int) = 1 by decide), if_neg (show ¬ (4 : Int) = 2 by decide), if_neg (show ¬ (4 : Int) = 3 by decide)]; exact if_pos rfl)
        | some x =>
          as_aux_lemma =>
            have r0 := R5.out.is 0 _ rfl
            have r1 := R5.out.is 1 _ rfl
            have r2 := R5.out.is 2 _ rfl
            have z0 := R5.out.thaw 0
            have z1 := R5.out.thaw 1
            have z2 := R5.out.thaw 2
            go_wp2_with fail
            (try simp only [Exit.inBlock, Exit.then])
            refine bodyPost_ret (v := .tuple #[v4, .agg #[.int .u8 1, .bool false, .string ⟨#[]⟩], .int .i64 0]) ?_ rfl ?_
            · rw [results_tct rfl]
              go_simp
            · exact rdo_end (R := P + 1) (st' := some x) (r := ⟨1, false, ⟨#[]⟩⟩) HCODE.out N5.out (by have := HPW.out; omega) HV4.out ((((Only.refl (fun k => k = P + 1) w5).setCell (p := ⟨P + 1, 0, none⟩) rfl _).setCell (p := ⟨P + 1, 1, none⟩) rfl _).setCell (p := ⟨P + 1, 2, none⟩) rfl _) (by unfold Op5.does; rw [if_neg (show ¬ (4 : Int) = 1 by decide), if_neg (show ¬ (4 : Int) = 2 by decide), if_neg (show ¬ (4 : Int) = 3 by decide)]; exact if_neg (by simp))
      | true =>
        cases st with
        | none =>
          as_aux_lemma =>
            have r0 := R5.out.is 0 _ rfl
            have r1 := R5.out.is 1 _ rfl
            have r2 := R5.out.is 2 _ rfl
            have z0 := R5.out.thaw 0
            have z1 := R5.out.thaw 1
            have z2 := R5.out.thaw 2
            go_wp2_with fail
            (try simp only [Exit.inBlock, Exit.then])
            refine bodyPost_ret (v := .tuple #[v4, .agg #[.int .u8 1, .bool false, .string ⟨#[]⟩], .int .i64 0]) ?_ rfl ?_
            · rw [results_tct rfl]
              go_simp
            · exact rdo_end (R := P + 1) (st' := none) (r := ⟨1, false, ⟨#[]⟩⟩) HCODE.out N5.out (by have := HPW.out; omega) HV4.out ((((Only.refl (fun k => k = P + 1) w5).setCell (p := ⟨P + 1, 0, none⟩) rfl _).setCell (p := ⟨P + 1, 1, none⟩) rfl _).setCell (p := ⟨P + 1, 2, none⟩) rfl _) (by unfold Op5.does; rw [if_neg (show ¬ (4 : Int) = 1 by decide), if_neg (show ¬ (4 : Int) = 2 by decide), if_neg (show ¬ (4 : Int) = 3 by decide)]; exact if_neg (by simp))
        | some x =>
          by_cases hx : x = old
          · as_aux_lemma =>
              subst hx
              have sx := same_self x
              go_wp2_with fail
              refine (rput_any (key := key) (x := val) H5.out).mono ?_
              rintro e w8 ⟨v8, rfl, n8⟩
              have N8 := Lib.hid n8
              have R8 := Lib.hid (R5.out.kept n8.only fun e => e)
              have N9 : Hid (PNew w w8 v8 (psOf key (some val))) := Lib.hid ⟨N8.out.row, fun g hg => by have h1 := N8.out.fresh g hg; have h2 := N5.out.only.size; omega, N5.out.only.trans N8.out.only⟩
              have HF8 : Hid (∀ g, v8.ownBlock = some g → g ≠ P + 1) := Lib.hid fun g hg => by have h1 := N8.out.fresh g hg; have h2 := R5.out.lt; omega
              clear n8 ew5 q0 q1
              have r0 := R8.out.is 0 _ rfl
              have r1 := R8.out.is 1 _ rfl
              have r2 := R8.out.is 2 _ rfl
              have z0 := R8.out.thaw 0
              have z1 := R8.out.thaw 1
              have z2 := R8.out.thaw 2
              go_wp2_with fail
              (try simp only [Exit.inBlock, Exit.then])
              refine bodyPost_ret (v := .tuple #[v8, .agg #[.int .u8 1, .bool true, .string ⟨#[]⟩], .int .i64 0]) ?_ rfl ?_
              · rw [results_tct rfl]
                go_simp
              · exact rdo_end (R := P + 1) (st' := some val) (r := ⟨1, true, ⟨#[]⟩⟩) HCODE.out N9.out (by have := HPW.out; omega) HF8.out ((((Only.refl (fun k => k = P + 1) w8).setCell (p := ⟨P + 1, 0, none⟩) rfl _).setCell (p := ⟨P + 1, 1, none⟩) rfl _).setCell (p := ⟨P + 1, 2, none⟩) rfl _) (by unfold Op5.does; rw [if_neg (show ¬ (4 : Int) = 1 by decide), if_neg (show ¬ (4 : Int) = 2 by decide), if_neg (show ¬ (4 : Int) = 3 by decide)]; exact if_pos rfl)
          · as_aux_lemma =>
              have sx : (x.toList == old.toList) = false := by rw [same_str]; exact decide_eq_false hx
              have r0 := R5.out.is 0 _ rfl
              have r1 := R5.out.is 1 _ rfl
              have r2 := R5.out.is 2 _ rfl
              have z0 := R5.out.thaw 0
              have z1 := R5.out.thaw 1
              have z2 := R5.out.thaw 2
              go_wp2_with fail
              (try simp only [Exit.inBlock, Exit.then])
              refine bodyPost_ret (v := .tuple #[v4, .agg #[.int .u8 1, .bool false, .string ⟨#[]⟩], .int .i64 0]) ?_ rfl ?_
              · rw [results_tct rfl]
                go_simp
              · exact rdo_end (R := P + 1) (st' := some x) (r := ⟨1, false, ⟨#[]⟩⟩) HCODE.out N5.out (by have := HPW.out; omega) HV4.out ((((Only.refl (fun k => k = P + 1) w5).setCell (p := ⟨P + 1, 0, none⟩) rfl _).setCell (p := ⟨P + 1, 1, none⟩) rfl _).setCell (p := ⟨P + 1, 2, none⟩) rfl _) (by unfold Op5.does; rw [if_neg (show ¬ (4 : Int) = 1 by decide), if_neg (show ¬ (4 : Int) = 2 by decide), if_neg (show ¬ (4 : Int) = 3 by decide)]; exact if_neg (by simp; exact hx))
    have b4 : (kd == 4) = false := by simpa using h4
    have h3 : kd = 3 := by
      have hc := HCODE.out
      unfold Op5.code at hc
      simp only at hc
      split at hc
      · cases hc
      · omega
    subst h3
    cases st with
    | none =>
      as_aux_lemma =>
        obtain rfl : n = 0 := HN.out
        go_wp2_with fail
        go_loopw [12, 13] (fun u12 u13 wr => u12 = .slice none 0 0 ∧ u13 = .int .i64 0 ∧ wr = w5) (fun u12 u13 wr => 0)
        case atStart => exact ⟨rfl, rfl, rfl⟩
        case round =>
          obtain ⟨rfl, rfl, rfl⟩ := hrel
          have r0 := R5.out.is 0 _ rfl
          have r1 := R5.out.is 1 _ rfl
          have r2 := R5.out.is 2 _ rfl
          have z0 := R5.out.thaw 0
          have z1 := R5.out.thaw 1
          have z2 := R5.out.thaw 2
          go_wp2_with fail
          (try simp only [Exit.inBlock, Exit.then])
          refine bodyPost_ret (v := .tuple #[.slice none 0 0, .agg #[.int .u8 1, .bool false, .string ⟨#[]⟩], .int .i64 0]) ?_ rfl ?_
          · rw [results_tct rfl]
            go_simp
          · exact rdo_end (R := P + 1) (st' := none) (r := ⟨1, false, ⟨#[]⟩⟩) HCODE.out (pnew_nil N5.out.only) (by have := HPW.out; omega) (fun g hg => by cases hg) ((((Only.refl (fun k => k = P + 1) wr).setCell (p := ⟨P + 1, 0, none⟩) rfl _).setCell (p := ⟨P + 1, 1, none⟩) rfl _).setCell (p := ⟨P + 1, 2, none⟩) rfl _) (by unfold Op5.does; rw [if_neg (show ¬ (3 : Int) = 1 by decide), if_neg (show ¬ (3 : Int) = 2 by decide), if_pos rfl]; rfl)
    | some x =>
      as_aux_lemma =>
        obtain rfl : n = 1 := HN.out
        obtain ⟨g, off, rfl, hg, hcell, _⟩ := H5.out.row.form' (by decide)
        have m0 := hcell 0 (.string key) rfl
        rw [Nat.add_zero] at m0
        have p1 := P5.out.is 1 _ rfl
        have sn : (!(key.toList == key.toList)) = false := by rw [ss]; rfl
        clear hg hcell
        go_wp2_with fail
        go_loopw [12, 13] (fun u12 u13 wr => u12 = .slice none 0 0 ∧ (u13 = .int .i64 0 ∨ u13 = .int .i64 1) ∧ Hid (Only None' w5 wr)) (fun u12 u13 wr => 1 - (intOf u13).toNat)
        case atStart => exact ⟨rfl, .inl rfl, Lib.hid (Only.refl _ _)⟩
        case round =>
          obtain ⟨rfl, hu, HO⟩ := hrel
          rcases hu with rfl | rfl
          · have m0 := (HO.out.cell (World.block_lt_of_cell? _ _ m0) (fun e => e) _).trans m0
            have p1 := (P5.out.kept HO.out fun e => e).is 1 _ rfl
            go_upto_region 20 with fail
            go_quiet (fail)
            go_wp2_with fail
            go_roundw
            case rel => exact ⟨rfl, .inr rfl, Lib.hid (HO.out.drewN _)⟩
            case measure => decide
          · have R9 := Lib.hid (R5.out.kept HO.out fun e => e)
            have r0 := R9.out.is 0 _ rfl
            have r1 := R9.out.is 1 _ rfl
            have r2 := R9.out.is 2 _ rfl
            have z0 := R9.out.thaw 0
            have z1 := R9.out.thaw 1
            have z2 := R9.out.thaw 2
            go_wp2_with fail
            (try simp only [Exit.inBlock, Exit.then])
            refine bodyPost_ret (v := .tuple #[.slice none 0 0, .agg #[.int .u8 1, .bool true, .string ⟨#[]⟩], .int .i64 0]) ?_ rfl ?_
            · rw [results_tct rfl]
              go_simp
            · exact rdo_end (R := P + 1) (st' := none) (r := ⟨1, true, ⟨#[]⟩⟩) HCODE.out (pnew_nil (N5.out.only.trans HO.out)) (by have := HPW.out; omega) (fun g hg => by cases hg) ((((Only.refl (fun k => k = P + 1) wr).setCell (p := ⟨P + 1, 0, none⟩) rfl _).setCell (p := ⟨P + 1, 1, none⟩) rfl _).setCell (p := ⟨P + 1, 2, none⟩) rfl _) (by unfold Op5.does; rw [if_neg (show ¬ (3 : Int) = 1 by decide), if_neg (show ¬ (3 : Int) = 2 by decide), if_pos rfl]; rfl)
  · have b0 : (code != 0) = true := by simpa using h0
    have b00 : (code == 0) = false := by simpa using h0
    have r0 := R2.out.is 0 _ rfl
    have r1 := R2.out.is 1 _ rfl
    have r2 := R2.out.is 2 _ rfl
    have z0 := R2.out.thaw 0
    have z1 := R2.out.thaw 1
    have z2 := R2.out.thaw 2
    clear p0 p1 p2 p3 p4 ew o2
    go_wp2_with fail
    (try simp only [Exit.inBlock, Exit.then])
    refine bodyPost_ret (v := .tuple #[.slice none 0 0, .agg #[.int .u8 0, .bool false, .string ⟨#[]⟩], .int .i64 code]) ?_ rfl ?_
    · rw [results_tct rfl]
      go_simp
    · have oz : Only (fun k => k = P + 1) w2 (((w2.setCell ⟨P + 1, 0, none⟩ (.int .u8 0)).setCell ⟨P + 1, 1, none⟩ (.bool false)).setCell ⟨P + 1, 2, none⟩ (.string ⟨#[]⟩)) := (((Only.refl (fun k => k = P + 1) w2).setCell (p := ⟨P + 1, 0, none⟩) rfl _).setCell (p := ⟨P + 1, 1, none⟩) rfl _).setCell (p := ⟨P + 1, 2, none⟩) rfl _
      exact ⟨O2.out.fresh (by have := HPW.out; omega) oz, .inr ⟨by rw [← HCODE.out]; exact h0, by rw [← HCODE.out]; rfl⟩⟩
end Go.Proofs.Ytajbagdgjbihjaa
