/- N7 N8 O1 O2 O3 O4 in one text. -/
import Derived.Test.YteoeaojebklfjaaGreatDoorV12
import Derived.Laws.IdiomStrings
import Derived.Laws.BytesArg
import Derived.Test.YteoeaojebklfjaaGreatDoorV11
import Derived.Test.YteoeaojebklfjaaGreatDoorV05
import Derived.Test.YteoeaojebklfjaaGreatDoorV06
namespace Go.Proofs.YteoeaojebklfjaaGreatDoor
open Go.RowKit Go.Maps
set_option linter.unusedVariables false
set_option maxRecDepth 20000

theorem rdCount_eq (most : Int) (b : List UInt8) : rdCount most b = if badU b then none else if 0 ≤ most ∧ (firstL b 0 0).1 ≤ 2147483647 ∧ ((firstL b 0 0).1 : Int) ≤ most then some ((firstL b 0 0).1, b.drop (firstL b 0 0).2) else none := by
  show (if (firstL b 0 0).2 = 0 ∨ (1 < (firstL b 0 0).2 ∧ b.getD ((firstL b 0 0).2 - 1) 0 = 0) then none else if 0 ≤ most ∧ (firstL b 0 0).1 ≤ 2147483647 ∧ ((firstL b 0 0).1 : Int) ≤ most then some ((firstL b 0 0).1, b.drop (firstL b 0 0).2) else none) = _
  by_cases h : badU b
  · rw [if_pos h]
    exact if_pos h
  · rw [if_neg h]
    exact if_neg h
section
variable {w w' : World} {Q S : Nat} {b : List UInt8}
set_option maxHeartbeats 1000000 in
theorem rcount_some (h : RdAt w Q S b false) (hb : b.length ≤ 1000000) {most : Int} {n : Nat} {r : List UInt8} (hr : rdCount most b = some (n, r)) : Calls Tryz.prog 93 #[.pointer (some ⟨Q, 0, none⟩), .int .i64 most] w fun e w' => e = .returned (.int .i64 (n : Int)) ∧ RdAt w' Q S r false ∧ Only (fun k => k = S) w w' := by
  rw [rdCount_eq] at hr
  split at hr
  · cases hr
  rename_i hgood
  split at hr
  case isFalse => cases hr
  rename_i hc
  injection hr with hr
  injection hr with e1 e2
  have HU := Lib.hid (ruv_good h hb hgood)
  rw [e1] at hc
  rw [e1, e2] at HU
  obtain ⟨c1, c2, c3⟩ := hc
  clear e1 e2 hgood h hb
  have m0 : decide ((0 : Int) ≤ most) = true := by rw [decide_eq_true_eq]; exact c1
  have m1 : decide ((n : Int) ≤ 2147483647) = true := by rw [decide_eq_true_eq]; omega
  have m2 : decide ((n : Int) ≤ most) = true := by rw [decide_eq_true_eq]; exact c3
  have n0 : (0 : Int) ≤ (n : Int) := by omega
  have n1 : (n : Int) ≤ 2147483647 := by omega

  go_enter Tryz.func93, Tryz.ntmps93
  go_wp2_with fail
  refine HU.out.mono ?_
  rintro e w1 ⟨rfl, hd, o⟩
  have HD := Lib.hid (And.intro hd o)
  clear HU hd o
  go_wp2_with fail
  refine (told_int HD.out.1 _ true).mono ?_
  rintro e w2 ⟨rfl, hd2, o2⟩
  have HE := Lib.hid (And.intro hd2 (HD.out.2.trans o2))
  clear HD hd2 o2
  go_wp2_with fail
  go_ret
  exact ⟨rfl, HE.out.1, HE.out.2⟩
set_option maxHeartbeats 1000000 in
theorem rcount_none (h : RdAt w Q S b false) (hb : b.length ≤ 1000000) {most : Int} (hr : rdCount most b = none) : Calls Tryz.prog 93 #[.pointer (some ⟨Q, 0, none⟩), .int .i64 most] w fun e w' => e = .returned (.int .i64 0) ∧ (∃ b', RdAt w' Q S b' true) ∧ Only (fun k => k = S) w w' := by
  rw [rdCount_eq] at hr
  by_cases hbad : badU b
  · have HU := Lib.hid (ruv_bad h hb hbad)
    have H := Lib.hid h
    clear hr hbad h hb
    go_enter Tryz.func93, Tryz.ntmps93
    go_wp2_with fail
    refine HU.out.mono ?_
    rintro e w1 ⟨rfl, rfl⟩
    clear HU
    go_wp2_with fail
    refine (told_int H.out _ false).mono ?_
    rintro e w2 ⟨rfl, hd2, o2⟩
    have HE := Lib.hid (And.intro hd2 o2)
    clear hd2 o2
    go_wp2_with fail
    go_ret
    exact ⟨rfl, ⟨_, HE.out.1⟩, HE.out.2⟩
  · rw [if_neg hbad] at hr
    have HU := Lib.hid (ruv_good h hb hbad)
    obtain ⟨u, hu⟩ : ∃ u, u = (firstL b 0 0).1 := ⟨_, rfl⟩
    obtain ⟨r, hr'⟩ : ∃ r, r = b.drop (firstL b 0 0).2 := ⟨_, rfl⟩
    rw [← hu, ← hr'] at hr HU
    clear hu hr' hbad h hb
    by_cases c1 : 0 ≤ most
    · have m0 : decide ((0 : Int) ≤ most) = true := by rw [decide_eq_true_eq]; exact c1
      by_cases c2 : u ≤ 2147483647
      · have m1 : decide ((u : Int) ≤ 2147483647) = true := by rw [decide_eq_true_eq]; omega
        have c3 : ¬ (u : Int) ≤ most := fun c3 => by rw [if_pos ⟨c1, c2, c3⟩] at hr; cases hr
        have m2 : decide ((u : Int) ≤ most) = false := by rw [decide_eq_false_iff_not]; exact c3
        have n0 : (0 : Int) ≤ (u : Int) := by omega
        have n1 : (u : Int) ≤ 2147483647 := by omega
        clear hr c2 c3
        go_enter Tryz.func93, Tryz.ntmps93
        go_wp2_with fail
        refine HU.out.mono ?_
        rintro e w1 ⟨rfl, hd, o⟩
        have HD := Lib.hid (And.intro hd o)
        clear HU hd o
        go_wp2_with fail
        refine (told_int HD.out.1 _ false).mono ?_
        rintro e w2 ⟨rfl, hd2, o2⟩
        have HE := Lib.hid (And.intro hd2 (HD.out.2.trans o2))
        clear HD hd2 o2
        go_wp2_with fail
        go_ret
        exact ⟨rfl, ⟨_, HE.out.1⟩, HE.out.2⟩
      · have m1 : decide ((u : Int) ≤ 2147483647) = false := by rw [decide_eq_false_iff_not]; omega
        clear hr c2
        go_enter Tryz.func93, Tryz.ntmps93
        go_wp2_with fail
        refine HU.out.mono ?_
        rintro e w1 ⟨rfl, hd, o⟩
        have HD := Lib.hid (And.intro hd o)
        clear HU hd o
        go_wp2_with fail
        refine (told_int HD.out.1 _ false).mono ?_
        rintro e w2 ⟨rfl, hd2, o2⟩
        have HE := Lib.hid (And.intro hd2 (HD.out.2.trans o2))
        clear HD hd2 o2
        go_wp2_with fail
        go_ret
        exact ⟨rfl, ⟨_, HE.out.1⟩, HE.out.2⟩
    · have m0 : decide ((0 : Int) ≤ most) = false := by rw [decide_eq_false_iff_not]; exact c1
      clear hr c1
      go_enter Tryz.func93, Tryz.ntmps93
      go_wp2_with fail
      refine HU.out.mono ?_
      rintro e w1 ⟨rfl, hd, o⟩
      have HD := Lib.hid (And.intro hd o)
      clear HU hd o
      go_wp2_with fail
      refine (told_int HD.out.1 _ false).mono ?_
      rintro e w2 ⟨rfl, hd2, o2⟩
      have HE := Lib.hid (And.intro hd2 (HD.out.2.trans o2))
      clear HD hd2 o2
      go_wp2_with fail
      go_ret
      exact ⟨rfl, ⟨_, HE.out.1⟩, HE.out.2⟩
end
end Go.Proofs.YteoeaojebklfjaaGreatDoor
namespace Go.Proofs.YteoeaojebklfjaaGreatDoor
open Go.RowKit Go.Maps
set_option linter.unusedVariables false
set_option maxRecDepth 20000

theorem rd_string {w : World} {v : Value} {l : List UInt8} {n : Nat} (hn : n = l.length) (h : Rd w 1 v n (bv l)) : (convert 35 9 v).run Tryz.prog w = .ok (.string (st l)) w := by
  subst hn
  rcases h.form with ⟨rfl, h0⟩ | ⟨ad, cap, rfl, h1, h2, h3⟩
  · have : l = [] := List.eq_nil_of_length_eq_zero h0
    subst this
    rw [run_convert_bytes_nil w 35 5 Tryz.underlying35 Tryz.underlying5 0 0 9 Tryz.underlying9]
    rfl
  · exact run_convert_bytes_back w 35 9 5 ad cap l Tryz.underlying35 Tryz.underlying5 Tryz.underlying9 fun j hj => h3 j _ (by simp [bv, hj])
theorem rdStr_some {most : Int} {b t r : List UInt8} (h : rdStr most b = some (t, r)) : ∃ n r0, rdCount most b = some (n, r0) ∧ n ≤ r0.length ∧ t = r0.take n ∧ r = r0.drop n := by
  unfold rdStr at h
  split at h
  · rename_i n r0 hc
    split at h
    · rename_i hn
      injection h with h
      injection h with h1 h2
      exact ⟨n, r0, hc, hn, h1.symm, h2.symm⟩
    · cases h
  · cases h
theorem rdStr_none {most : Int} {b : List UInt8} (h : rdStr most b = none) : rdCount most b = none ∨ ∃ n r0, rdCount most b = some (n, r0) ∧ r0.length < n := by
  unfold rdStr at h
  split at h
  · rename_i n r0 hc
    split at h
    · cases h
    · rename_i hn
      exact .inr ⟨n, r0, hc, by omega⟩
  · rename_i hc
    exact .inl hc
theorem rdCount_len {most : Int} {b r : List UInt8} {n : Nat} (h : rdCount most b = some (n, r)) : r.length ≤ b.length ∧ (n : Int) ≤ most ∧ n ≤ 2147483647 := by
  rw [rdCount_eq] at h
  split at h
  · cases h
  · split at h
    · rename_i hc
      injection h with h
      injection h with h1 h2
      subst h1 h2
      exact ⟨by simp, hc.2.2, hc.2.1⟩
    · cases h
section
variable {w w' : World} {Q S : Nat} {b : List UInt8}
set_option maxHeartbeats 1000000 in
theorem rstr_some (h : RdAt w Q S b false) (hb : b.length ≤ 1000000) {t r : List UInt8} (hr : rdStr 512 b = some (t, r)) : Calls Tryz.prog 94 #[.pointer (some ⟨Q, 0, none⟩), .int .i64 512] w fun e w' => e = .returned (.string (st t)) ∧ RdAt w' Q S r false ∧ Only (fun k => k = S) w w' := by
  obtain ⟨n, r0, hc, hn, rfl, rfl⟩ := rdStr_some hr
  have hl := rdCount_len hc
  have HC := Lib.hid (rcount_some h hb hc)
  have HN := Lib.hid (And.intro hn (show r0.length ≤ 1000000 by omega))
  clear hr hc hn h hb
  go_enter Tryz.func94, Tryz.ntmps94
  go_wp2_with fail
  refine HC.out.mono ?_
  rintro e w1 ⟨rfl, hd, o1⟩
  have HD := Lib.hid (And.intro hd o1)
  clear HC hd o1
  go_wp2_with fail
  refine (ok_any HD.out.1).mono ?_
  rintro e w1 ⟨rfl, rfl⟩
  have q0 := HD.out.1.q.is 0 _ rfl
  obtain ⟨v, h1, h2, h3⟩ := HD.out.1.s
  have s0 := h1.is 0 _ rfl
  obtain ⟨a0, c0, rfl, _⟩ := h2.shape
  obtain ⟨m, hm⟩ : ∃ m, m = r0.length := ⟨_, rfl⟩
  have d1 : decide ((m : Int) < (n : Int)) = false := by have := HN.out.1; rw [decide_eq_false_iff_not]; omega
  have d2 : decide (m < n) = false := by have := HN.out.1; rw [decide_eq_false_iff_not]; omega
  rw [← hm] at s0
  clear h1 h2 h3 hm hl
  go_wp2_with fail
  refine (take_any HD.out.1 n HN.out.1 HN.out.2).mono ?_
  rintro e w2 ⟨v2, rfl, hrd, hd2, o2⟩
  have hcv := rd_string (l := r0.take n) (by rw [List.length_take]; have := HN.out.1; omega) hrd
  have HE := Lib.hid (And.intro hd2 (HD.out.2.trans o2))
  clear hrd hd2 o2 HD s0 q0 d1 d2
  go_wp2_with fail
  refine (told_str HE.out.1 _ true).mono ?_
  rintro e w3 ⟨rfl, hd3, o3⟩
  have HF := Lib.hid (And.intro hd3 (HE.out.2.trans o3))
  clear HE hd3 o3 hcv
  go_wp2_with fail
  go_ret
  exact ⟨rfl, HF.out.1, HF.out.2⟩
set_option maxHeartbeats 1000000 in
theorem rstr_none (h : RdAt w Q S b false) (hb : b.length ≤ 1000000) (hr : rdStr 512 b = none) : Calls Tryz.prog 94 #[.pointer (some ⟨Q, 0, none⟩), .int .i64 512] w fun e w' => e = .returned (.string ⟨#[]⟩) ∧ (∃ b', RdAt w' Q S b' true) ∧ Only (fun k => k = S) w w' := by
  rcases rdStr_none hr with hc | ⟨n, r0, hc, hn⟩
  · have HC := Lib.hid (rcount_none h hb hc)
    clear hr hc h hb
    go_enter Tryz.func94, Tryz.ntmps94
    go_wp2_with fail
    refine HC.out.mono ?_
    rintro e w1 ⟨rfl, ⟨b', hd⟩, o1⟩
    have HD := Lib.hid (And.intro hd o1)
    clear HC hd o1
    go_wp2_with fail
    refine (ok_any HD.out.1).mono ?_
    rintro e w1 ⟨rfl, rfl⟩
    go_wp2_with fail
    refine (told_str HD.out.1 _ false).mono ?_
    rintro e w3 ⟨rfl, hd3, o3⟩
    have HF := Lib.hid (And.intro hd3 (HD.out.2.trans o3))
    clear HD hd3 o3
    go_wp2_with fail
    go_ret
    exact ⟨rfl, ⟨_, HF.out.1⟩, HF.out.2⟩
  · have HC := Lib.hid (rcount_some h hb hc)
    have HN := Lib.hid hn
    clear hr hc hn h hb
    go_enter Tryz.func94, Tryz.ntmps94
    go_wp2_with fail
    refine HC.out.mono ?_
    rintro e w1 ⟨rfl, hd, o1⟩
    have HD := Lib.hid (And.intro hd o1)
    clear HC hd o1
    go_wp2_with fail
    refine (ok_any HD.out.1).mono ?_
    rintro e w1 ⟨rfl, rfl⟩
    have q0 := HD.out.1.q.is 0 _ rfl
    obtain ⟨v, h1, h2, h3⟩ := HD.out.1.s
    have s0 := h1.is 0 _ rfl
    obtain ⟨a0, c0, rfl, _⟩ := h2.shape
    obtain ⟨m, hm⟩ : ∃ m, m = r0.length := ⟨_, rfl⟩
    have d1 : decide ((m : Int) < (n : Int)) = true := by have := HN.out; rw [decide_eq_true_eq]; omega
    have d2 : decide (m < n) = true := by have := HN.out; rw [decide_eq_true_eq]; omega
    rw [← hm] at s0
    clear h1 h2 h3 hm
    go_wp2_with fail
    refine (told_str HD.out.1 _ false).mono ?_
    rintro e w3 ⟨rfl, hd3, o3⟩
    have HF := Lib.hid (And.intro hd3 (HD.out.2.trans o3))
    clear HD hd3 o3 s0 q0 d1 d2
    go_wp2_with fail
    go_ret
    exact ⟨rfl, ⟨_, HF.out.1⟩, HF.out.2⟩
theorem reader_any {v : Value} (h : Vec w 1 v b.length (bv b)) (hb : b.length ≤ 1000000) : Calls Tryz.prog 90 #[v] w fun e w' => ∃ Q S, e = .returned (.pointer (some ⟨Q, 0, none⟩)) ∧ RdAt w' Q S b false ∧ w.heap.size ≤ Q ∧ w.heap.size ≤ S ∧ Only None' w w' := by
  have HC := Lib.hid (clone_bytes h (bv_one b) hb)
  clear h
  go_enter Tryz.func90, Tryz.ntmps90
  go_wp2_with fail
  refine HC.out.mono ?_
  rintro e w1 ⟨v1, rfl, hv, hf, o1⟩
  have HV := Lib.hid (And.intro hv (And.intro hf o1))
  obtain ⟨a1, c1, rfl, _⟩ := hv.shape
  obtain ⟨v1, hv1⟩ : ∃ v1, v1 = Value.slice a1 b.length c1 := ⟨_, rfl⟩
  clear hv hf o1 HC
  go_wp2_with fail
  go_ret
  obtain ⟨hv, hf, o1⟩ := HV.out
  rw [← hv1] at hv hf ⊢
  have hs := cells_new w1 [v1, .bool false] 155
  have hq := cells_new (w1.alloc (.cells #[v1, .bool false] 155)) [.pointer (some ⟨w1.heap.size, 0, none⟩)] 157
  have e1 : (w1.alloc (.cells #[v1, .bool false] 155)).heap.size = w1.heap.size + 1 := by simp
  rw [e1] at hq
  have o2 : Only None' (w1.alloc (.cells #[v1, .bool false] 155)) ((w1.alloc (.cells #[v1, .bool false] 155)).alloc (.cells #[.pointer (some ⟨w1.heap.size, 0, none⟩)] 157)) := (Only.refl None' _).alloc _
  refine ⟨w1.heap.size + 1, w1.heap.size, rfl, ⟨hq, ⟨v1, hs.kept o2 fun e => e, (hv.alloc _).alloc _, fun e => ?_⟩, by omega⟩, ?_, ?_, (o1.alloc _).alloc _⟩
  · have := hv.lt e; omega
  · have := o1.size; omega
  · exact o1.size
end
end Go.Proofs.YteoeaojebklfjaaGreatDoor
namespace Go.Proofs.YteoeaojebklfjaaGreatDoor
open Go.RowKit Go.Maps
set_option linter.unusedVariables false
set_option maxRecDepth 20000

theorem trim_zero (l : List UInt8) : trimR (l ++ [0]) = trimR l := by
  unfold trimR
  rw [List.reverse_append, List.reverse_singleton, List.singleton_append, List.dropWhile_cons_of_pos (by simp)]
theorem trim_stop {l : List UInt8} {c : UInt8} (h : c ≠ 0) : trimR (l ++ [c]) = l ++ [c] := by
  unfold trimR
  rw [List.reverse_append, List.reverse_singleton, List.singleton_append, List.dropWhile_cons_of_neg (by simpa using h)]
  simp
theorem take_snoc_ (s : List UInt8) {k : Nat} (h : k < s.length) : s.take (k + 1) = s.take k ++ [s[k]] := List.take_succ_eq_append_getElem h
structure TrLoop (s : List UInt8) (k : Nat) : Prop where
  le : k ≤ s.length
  is : trimR (s.take k) = trimR s
set_option maxHeartbeats 1000000 in
theorem trimByte_any {w : World} {g off cap : Nat} {s : List UInt8} (hc : ∀ j u, (bv s)[j]? = some u → w.cell? ⟨g, off + j, none⟩ = some u) (hn : s.length ≤ 1000000) (hcap : s.length ≤ cap) :
    Calls Tryz.prog 78 #[.slice (some ⟨g, off, none⟩) s.length cap, .int .u8 0] w fun e w' => ∃ k, e = .returned (.slice (some ⟨g, off, none⟩) k cap) ∧ k ≤ s.length ∧ s.take k = trimR s ∧ w = w' := by
  have HC := Lib.hid hc
  have HN := Lib.hid (And.intro hn hcap)
  have L0 : Hid (TrLoop s s.length) := Lib.hid ⟨Nat.le_refl _, by rw [List.take_length]⟩
  obtain ⟨n, hn'⟩ : ∃ n, n = s.length := ⟨_, rfl⟩
  rw [← hn'] at L0 ⊢
  have HL := Lib.hid hn'
  clear hc hn hcap hn'
  go_enter Tryz.func78, Tryz.ntmps78
  go_wp2_with fail
  go_loopw [0] (fun v wr => ∃ k : Nat, v = .slice (some ⟨g, off, none⟩) k cap ∧ wr = w ∧ Hid (TrLoop s k)) (fun v wr => match v with | .slice _ k _ => k | _ => 0)
  case atStart => exact ⟨n, rfl, rfl, L0⟩
  case round =>
    obtain ⟨k, rfl, rfl, HK⟩ := hrel
    clear L0
    cases k with
    | zero =>
      go_wp2_with fail
      go_ret
      exact ⟨0, rfl, Nat.zero_le _, by rw [← HK.out.is]; rfl, rfl⟩
    | succ k =>
      have hk : k < s.length := HK.out.le
      obtain ⟨c, hcc⟩ : ∃ c, c = s[k] := ⟨_, rfl⟩
      have HCC : Hid (s.take (k + 1) = s.take k ++ [c]) := Lib.hid (by rw [hcc]; exact take_snoc_ s hk)
      have kc : wr.cell? ⟨g, off + k, none⟩ = some (.int .u8 (c.toNat : Int)) := by
        refine HC.out k _ ?_
        rw [hcc]
        simp [bv, hk]
      have HKL := Lib.hid hk
      have k1 : (k : Int) ≤ 1000000 := by have := HN.out.1; omega
      have k0 : (0 : Int) ≤ (k : Int) := by omega
      have k2 : (k : Int) ≤ (cap : Int) := by have := HN.out.2; omega
      clear hk hcc
      by_cases h0 : c.toNat = 0
      · have z1 : ((c.toNat : Int) == 0) = true := by rw [beq_iff_eq]; omega
        have z2 : (c.toNat == 0) = true := by rw [beq_iff_eq]; omega
        have HZ : Hid (c = 0) := Lib.hid (UInt8.toNat_inj.1 h0)
        clear h0
        go_wp2_with fail
        go_roundw
        case rel => exact ⟨k, rfl, by first | rfl | trivial, Lib.hid ⟨by have := HKL.out; omega, by rw [← HK.out.is, HCC.out, HZ.out, trim_zero]⟩⟩
        case measure => exact Nat.lt_succ_self k
      · have z1 : ((c.toNat : Int) == 0) = false := by rw [beq_eq_false_iff_ne]; omega
        have z2 : (c.toNat == 0) = false := by rw [beq_eq_false_iff_ne]; omega
        have HZ : Hid (c ≠ 0) := Lib.hid (fun e => h0 (by rw [e]; rfl))
        clear h0
        go_wp2_with fail
        go_ret
        exact ⟨k + 1, rfl, by have := HKL.out; have := HL.out; omega, by rw [← HK.out.is, HCC.out, trim_stop HZ.out], rfl⟩
theorem trimRight_any {w : World} {g off cap : Nat} {s : List UInt8} (hc : ∀ j u, (bv s)[j]? = some u → w.cell? ⟨g, off + j, none⟩ = some u) (hs : 0 < s.length) (hn : s.length ≤ 1000000) (hcap : s.length ≤ cap) :
    Calls Tryz.prog 47 #[.slice (some ⟨g, off, none⟩) s.length cap, .string ⟨#[0]⟩] w fun e w' => ∃ k, e = .returned (.slice (some ⟨g, off, none⟩) k cap) ∧ k ≤ s.length ∧ s.take k = trimR s ∧ w = w' := by
  have HB := Lib.hid (trimByte_any hc hn hcap)
  obtain ⟨n, hn'⟩ : ∃ n, n = s.length := ⟨_, rfl⟩
  rw [← hn'] at HB ⊢
  have n1 : (n == 0) = false := by rw [beq_eq_false_iff_ne]; omega
  have n2 : ((n : Int) == 0) = false := by rw [beq_eq_false_iff_ne]; omega
  clear hc hs hcap hn hn'
  go_enter Tryz.func47, Tryz.ntmps47
  go_upto_region 3 with fail

  go_wp2_with fail
  refine HB.out.mono ?_
  rintro e w1 ⟨k, rfl, h1, h2, rfl⟩
  have HE := Lib.hid (And.intro h1 h2)
  clear h1 h2 HB
  go_wp2_with fail
  go_ret
  exact ⟨k, rfl, HE.out.1, HE.out.2, rfl⟩
end Go.Proofs.YteoeaojebklfjaaGreatDoor
namespace Go.Proofs.YteoeaojebklfjaaGreatDoor
set_option linter.unusedVariables false

theorem snocRec {α : Type} {P : List α → Prop} (h0 : P []) (h1 : ∀ l c, P l → P (l ++ [c])) (l : List α) : P l := by
  rw [← l.reverse_reverse]
  induction l.reverse with
  | nil => exact h0
  | cons c r ih => rw [List.reverse_cons]; exact h1 _ _ ih
def numB (l : List UInt8) : Nat := l.foldl (fun n c => n * 256 + c.toNat) 0
theorem numB_snoc (l : List UInt8) (c : UInt8) : numB (l ++ [c]) = numB l * 256 + c.toNat := by simp [numB]
theorem numB_lt (l : List UInt8) : numB l < 256 ^ l.length := by
  refine snocRec (P := fun l => numB l < 256 ^ l.length) (by simp [numB]) (fun l c ih => ?_) l
  rw [numB_snoc, List.length_append, List.length_singleton, Nat.pow_succ]
  have := c.toNat_lt
  omega
theorem numB_take (l : List UInt8) (k : Nat) : numB (l.take k) ≤ numB l := by
  refine snocRec (P := fun l => numB (l.take k) ≤ numB l) (by simp) (fun l c ih => ?_) l
  rw [numB_snoc]
  by_cases h : k ≤ l.length
  · rw [List.take_append_of_le_length h]
    omega
  · rw [List.take_of_length_le (by simp; omega), numB_snoc]
    exact Nat.le_refl _
def beB : Nat → Nat → List UInt8
  | 0, _ => []
  | m + 1, n => byteAt n m :: beB m n
theorem beB_len (m n : Nat) : (beB m n).length = m := by
  induction m with
  | zero => rfl
  | succ m ih => rw [beB, List.length_cons, ih]
theorem byteAt_nat (n i : Nat) : (byteAt n i).toNat = n / 256 ^ i % 256 := by
  unfold byteAt
  exact toNat_of (Nat.mod_lt _ (by omega))
theorem numB_cons (c : UInt8) (l : List UInt8) : numB (c :: l) = c.toNat * 256 ^ l.length + numB l := by
  refine snocRec (P := fun l => numB (c :: l) = c.toNat * 256 ^ l.length + numB l) (by simp [numB]) (fun l d ih => ?_) l
  rw [← List.cons_append, numB_snoc, ih, numB_snoc, List.length_append, List.length_singleton, Nat.pow_succ, Nat.add_mul, Nat.mul_assoc, Nat.add_assoc]
theorem numB_be (n : Nat) : ∀ m, numB (beB m n) = n % 256 ^ m
  | 0 => by simp [beB, numB, Nat.mod_one]
  | m + 1 => by
    rw [beB, numB_cons, beB_len, byteAt_nat, numB_be n m, Nat.pow_succ, Nat.mod_mul]
    rw [Nat.mul_comm (256 ^ m), Nat.add_comm]
theorem numB_be' {n m : Nat} (h : n < 256 ^ m) : numB (beB m n) = n := by rw [numB_be, Nat.mod_eq_of_lt h]
def putL (S : List UInt8) (e n : Nat) : Nat → List UInt8
  | 0 => S
  | k + 1 => (putL S e n k).set (e - 1 - k) (byteAt n k)
theorem putL_len (S : List UInt8) (e n : Nat) : ∀ k, (putL S e n k).length = S.length
  | 0 => rfl
  | k + 1 => by rw [putL, List.length_set, putL_len S e n k]
theorem putL_is (S : List UInt8) {e n : Nat} (he : e ≤ S.length) : ∀ k, k ≤ e → putL S e n k = S.take (e - k) ++ (beB k n ++ S.drop e)
  | 0, _ => by simp [putL, beB]
  | k + 1, hk => by
    rw [putL, putL_is S he k (by omega)]
    have e1 : e - k = (e - 1 - k) + 1 := by omega
    have hlt : e - 1 - k < S.length := by omega
    rw [e1, List.take_succ_eq_append_getElem hlt, List.append_assoc, List.set_append_right _ _ (by rw [List.length_take]; omega), List.length_take, Nat.min_eq_left (by omega), Nat.sub_self]
    rw [List.singleton_append, List.set_cons_zero]
    have e2 : e - (k + 1) = e - 1 - k := by omega
    rw [e2]
    rfl
def word (z : Int) : Nat := (z % 18446744073709551616).toNat
theorem word_nat {n : Nat} (h : n < 18446744073709551616) : word (n : Int) = n := by unfold word; omega
theorem word_byte (z : Int) {k : Nat} (hk : k < 8) : z / 2 ^ (8 * k) % 256 = ((byteAt (word z) k).toNat : Int) := by
  rw [byteAt_nat]
  unfold word
  have hc : k = 0 ∨ k = 1 ∨ k = 2 ∨ k = 3 ∨ k = 4 ∨ k = 5 ∨ k = 6 ∨ k = 7 := by omega
  rcases hc with rfl | rfl | rfl | rfl | rfl | rfl | rfl | rfl <;> simp only [Nat.mul_zero, Nat.mul_one, Nat.reduceMul, Int.reducePow, Nat.reducePow] <;> omega
theorem be_word {n m : Nat} (h : n < 18446744073709551616) : beB m (word (n : Int)) = beB m n := by rw [word_nat h]
structure Meta where
  root : Nat
  used : Nat
  head : Nat
  free : Int
  deriving DecidableEq
def Meta.page (m : Meta) : List UInt8 := beB 4 m.root ++ (beB 4 m.used ++ (beB 4 m.head ++ (beB 4 (word m.free) ++ List.replicate 496 0)))
theorem Meta.page_len (m : Meta) : m.page.length = 512 := by
  unfold Meta.page
  rw [List.length_append, List.length_append, List.length_append, List.length_append, beB_len, beB_len, beB_len, beB_len, List.length_replicate]
def metaOf (p : List UInt8) : Meta := ⟨numB (p.take 4), numB ((p.drop 4).take 4), numB ((p.drop 8).take 4), (numB ((p.drop 12).take 4) : Int)⟩
structure Meta.Small (m : Meta) : Prop where
  root : m.root < 4294967296
  used : m.used < 4294967296
  head : m.head < 4294967296
  free0 : 0 ≤ m.free
  free : m.free < 4294967296
theorem meta_of_page {m : Meta} (h : m.Small) : metaOf m.page = m := by
  have l4 := fun n => beB_len 4 n
  have e1 : m.page.take 4 = beB 4 m.root := by unfold Meta.page; rw [List.take_left' (l4 _)]
  have d1 : m.page.drop 4 = beB 4 m.used ++ (beB 4 m.head ++ (beB 4 (word m.free) ++ List.replicate 496 0)) := by unfold Meta.page; rw [List.drop_left' (l4 _)]
  have d2 : m.page.drop 8 = beB 4 m.head ++ (beB 4 (word m.free) ++ List.replicate 496 0) := by
    rw [show (8 : Nat) = 4 + 4 from rfl, ← List.drop_drop, d1, List.drop_left' (l4 _)]
  have d3 : m.page.drop 12 = beB 4 (word m.free) ++ List.replicate 496 0 := by
    rw [show (12 : Nat) = 8 + 4 from rfl, ← List.drop_drop, d2, List.drop_left' (l4 _)]
  unfold metaOf
  rw [e1, d1, d2, d3, List.take_left' (l4 _), List.take_left' (l4 _), List.take_left' (l4 _), numB_be' (by have := h.root; omega), numB_be' (by have := h.used; omega), numB_be' (by have := h.head; omega), numB_be' (by have := h.free0; have := h.free; unfold word; omega)]
  have e : ((word m.free : Nat) : Int) = m.free := by have := h.free0; have := h.free; unfold word; omega
  rw [e]
end Go.Proofs.YteoeaojebklfjaaGreatDoor
namespace Go.Proofs.YteoeaojebklfjaaGreatDoor
open Go.RowKit Go.Maps
set_option linter.unusedVariables false
set_option maxRecDepth 20000

theorem or256 {n : Nat} {c : UInt8} (h : n * 256 + c.toNat < 9223372036854775808) : bits .or .i64 ((n * 256 : Nat) : Int) ((c.toNat : Nat) : Int) = ((n * 256 + c.toNat : Nat) : Int) := by
  have h1 := or_disjoint (a := c.toNat) (b := n) (m := 8) c.toNat_lt
  have h2 : n * 256 ||| c.toNat = n * 256 + c.toNat := by
    rw [Nat.or_comm]
    have : n * 2 ^ 8 = n * 256 := rfl
    rw [← this, h1]
    omega
  rw [bits_i64 (by omega) (by have := c.toNat_lt; omega) (by rw [h2]; exact h), h2]
set_option maxHeartbeats 1000000 in
theorem number_any {w : World} {g off cap : Nat} {s : List UInt8} (hc : ∀ j u, (bv s)[j]? = some u → w.cell? ⟨g, off + j, none⟩ = some u) (hm : s.length ≤ 8) (hcap : s.length ≤ cap) (hlt : numB s < 9223372036854775808) :
    Calls Tryz.prog 39 #[.slice (some ⟨g, off, none⟩) s.length cap] w fun e w' => e = .returned (.int .i64 (numB s : Int)) ∧ w = w' := by
  have HC := Lib.hid hc
  have HLT := Lib.hid hlt
  obtain ⟨n, hn⟩ : ∃ n, n = s.length := ⟨_, rfl⟩
  have HN := Lib.hid (And.intro hn hm)
  rw [← hn] at hm hcap ⊢
  have n8 : (n : Int) ≤ 8 := by omega
  clear hc hlt hn
  go_enter Tryz.func39, Tryz.ntmps39
  go_wp2_with fail
  go_loopw [3, 8] (fun x i wr => ∃ k : Nat, k ≤ n ∧ x = .int .i64 (numB (s.take k) : Int) ∧ i = .int .i64 (k : Int) ∧ wr = w) (fun x i wr => n - (intOf i).toNat)
  case atStart => exact ⟨0, Nat.zero_le _, rfl, rfl, rfl⟩
  case round =>
    obtain ⟨k, hk, rfl, rfl, rfl⟩ := hrel
    by_cases hlt : k < n
    · have hks : k < s.length := by have := HN.out.1; omega
      obtain ⟨c, hcc⟩ : ∃ c, c = s[k] := ⟨_, rfl⟩
      have hsn : s.take (k + 1) = s.take k ++ [c] := by rw [hcc]; exact take_snoc_ s hks
      have kc : wr.cell? ⟨g, off + k, none⟩ = some (.int .u8 (c.toNat : Int)) := by
        refine HC.out k _ ?_
        rw [hcc]
        simp [bv, hks]
      have hb := numB_take s (k + 1)
      rw [hsn, numB_snoc] at hb
      obtain ⟨x, hx⟩ : ∃ x, x = numB (s.take k) := ⟨_, rfl⟩
      rw [← hx] at hb ⊢
      have HX : Hid (numB (s.take (k + 1)) = x * 256 + c.toNat) := Lib.hid (by rw [hsn, numB_snoc, hx])
      have hb2 : x * 256 + c.toNat < 9223372036854775808 := by have := HLT.out; omega
      have HO := Lib.hid (or256 hb2)
      have x0 : (0 : Int) ≤ (x : Int) := by omega
      have x1 : (x : Int) * 256 ≤ 9223372036854775807 := by omega
      have i0 : (0 : Int) ≤ (k : Int) := by omega
      have i1 : (k : Int) < (n : Int) := by omega
      have c0 : (0 : Int) ≤ (c.toNat : Int) := by omega
      have c1 : (c.toNat : Int) ≤ 255 := by have := c.toNat_lt; omega
      have HL := Lib.hid hlt
      clear hk hks hsn hb hb2 hcc hx hlt
      go_wp2_with fail
      go_roundw
      case rel => exact ⟨k + 1, HL.out, by rw [HX.out, ← HO.out]; rfl, rfl, trivial⟩
      case measure =>
        show n - ((k : Int) + 1).toNat < n - (k : Int).toNat
        have := HL.out
        omega
    · obtain rfl : k = n := by omega
      have e : s.take k = s := List.take_of_length_le (by have := HN.out.1; omega)
      go_wp2_with fail
      go_ret
      rw [e]
      exact ⟨rfl, rfl⟩
structure PutLoop (w wr : World) (g off N C m n : Nat) (S : List UInt8) (k : Nat) : Prop where
  le : k ≤ m
  row : Vec wr 1 (.slice (some ⟨g, 0, none⟩) N C) N (bv (putL S (off + m) n k))
  only : Only (fun j => j = g) w wr
theorem PutLoop.next {w wr : World} {g off N C m n : Nat} {S : List UInt8} {k : Nat} (h : PutLoop w wr g off N C m n S k) (hk : k < m) (hN : off + m ≤ N) {z : Int} (hz : z = ((byteAt n k).toNat : Int)) : PutLoop w (wr.setCell ⟨g, off + (m - 1 - k), none⟩ (.int .u8 z)) g off N C m n S (k + 1) := by
  refine ⟨hk, ?_, h.only.setCell (p := ⟨g, off + (m - 1 - k), none⟩) rfl _⟩
  have h1 := h.row.set1 (k := off + (m - 1 - k)) (by omega) (.int .u8 z)
  have e : off + m - 1 - k = off + (m - 1 - k) := by omega
  rw [putL, e, ← bv_set, ← hz]
  exact h1
set_option maxHeartbeats 1000000 in
theorem put_any {w : World} {g off N C m cap : Nat} {S : List UInt8} (h : Vec w 1 (.slice (some ⟨g, 0, none⟩) N C) N (bv S)) (hN : off + m ≤ N) (hm : m ≤ 8) (z : Int) (hz0 : -9223372036854775808 ≤ z) (hz1 : z ≤ 9223372036854775807) :
    Calls Tryz.prog 58 #[.slice (some ⟨g, off, none⟩) m cap, .int .i64 z] w fun e w' => e = .returned (.tuple #[]) ∧ Vec w' 1 (.slice (some ⟨g, 0, none⟩) N C) N (bv (putL S (off + m) (word z) m)) ∧ Only (fun j => j = g) w w' := by
  obtain ⟨n, hnw⟩ : ∃ n, n = word z := ⟨_, rfl⟩
  rw [← hnw]
  have HNW := Lib.hid hnw
  clear hnw
  have L0 : Hid (PutLoop w w g off N C m n S 0) := Lib.hid ⟨Nat.zero_le _, h, Only.refl _ _⟩
  have HN := Lib.hid (And.intro hN hm)
  have m8 : (m : Int) ≤ 8 := by omega
  clear h hN hm
  go_enter Tryz.func58, Tryz.ntmps58
  go_wp2_with fail
  go_loopw [7] (fun i wr => ∃ k : Nat, i = .int .i64 (k : Int) ∧ Hid (PutLoop w wr g off N C m n S k)) (fun i wr => m - (intOf i).toNat)
  case atStart => exact ⟨0, rfl, L0⟩
  case round =>
    obtain ⟨k, rfl, HK⟩ := hrel
    clear L0
    by_cases hlt : k < m
    · have HL := Lib.hid hlt
      obtain ⟨kc, kf⟩ := HK.out.row.free0 (k := off + (m - 1 - k)) (by have := HN.out.1; omega)
      obtain ⟨old, kc⟩ := Option.isSome_iff_exists.1 kc
      obtain ⟨j, hj⟩ : ∃ j, j = m - 1 - k := ⟨_, rfl⟩
      have HZ := Lib.hid hj
      rw [← hj] at kc kf
      have hj1 : (m : Int) - 1 - (k : Int) = (j : Int) := by omega
      have j0 : (0 : Int) ≤ (j : Int) := by omega
      have j1 : (j : Int) < (m : Int) := by omega
      have i0 : (0 : Int) ≤ (k : Int) := by omega
      have i1 : (k : Int) < (m : Int) := by omega
      have i2 : (k : Int) ≤ 7 := by omega
      clear hlt hj
      go_wp2_with fail
      go_roundw
      case rel =>
        refine ⟨k + 1, rfl, Lib.hid ?_⟩
        have hb : z / 2 ^ (8 * k) % 256 = ((byteAt n k).toNat : Int) := by
          rw [HNW.out]
          exact word_byte z (by have := HL.out; have := HN.out.2; omega)
        have := HK.out.next HL.out HN.out.1 hb
        rw [← HZ.out] at this
        exact this
      case measure =>
        show m - ((k : Int) + 1).toNat < m - (k : Int).toNat
        have := HL.out
        omega
    · obtain rfl : k = m := by have := HK.out.le; omega
      go_wp2_with fail
      go_end0
      exact ⟨rfl, HK.out.row, HK.out.only⟩
end Go.Proofs.YteoeaojebklfjaaGreatDoor
namespace Go.Proofs.YteoeaojebklfjaaGreatDoor
open Go.RowKit Go.Maps
set_option linter.unusedVariables false
set_option maxRecDepth 20000

theorem zero74 : Tryz.zeroCells74 = Array.replicate 512 (.int .u8 0) := by kernel_rfl
theorem info74 : Tryz.prog.info? 74 = some Tryz.t74 := by kernel_rfl
theorem t74_size : Tryz.t74.size = 512 := by kernel_rfl
theorem size74 (s : Sec) (h : s.length = 512) : (Tryz.prog.info? 74).map (·.size) = some (bv s).length := by
  rw [info74, bv_length, h]; exact congrArg some t74_size
theorem size74a (s : Sec) (h : s.length = 512) : (Tryz.prog.info? 74).map (·.size) = some (bv s).toArray.size := by
  rw [size74 s h]; simp
theorem zsize74 : Tryz.zeroCells74.size = 512 := by kernel_rfl
theorem zbv74 : Tryz.zeroCells74 = (bv zs).toArray := by rw [zero74, zs_bv]; rw [List.toArray_replicate]
theorem page_row (w : World) (s : Sec) (h : s.length = 512) : Vec (w.alloc (.cells (bv s).toArray 74)) 1 (.slice (some ⟨w.heap.size, 0, none⟩) 512 512) 512 (bv s) := by
  refine ⟨by rw [bv_length, h], .inr ⟨w.heap.size, 0, 512, rfl, Nat.le_refl _, by unfold maxLen; decide, by simp, fun j u hu => ?_, fun j hj => ?_⟩⟩
  · rw [Nat.zero_add, World.cell?_alloc_new]
    simpa using hu
  · rw [Nat.zero_add, World.cell?_alloc_new]
    exact ⟨by simp [bv_length, h]; omega, World.frozen?_alloc_new _ _ _ _⟩
theorem page_zero (w : World) : Vec (w.alloc (.cells Tryz.zeroCells74 74)) 1 (.slice (some ⟨w.heap.size, 0, none⟩) 512 512) 512 (bv zs) := by
  rw [zbv74]
  exact page_row w zs List.length_replicate
theorem slice74 (S lo hi : Nat) (h1 : lo ≤ hi) (h2 : hi ≤ 512) (h3 : lo < 512) (w : World) : (Instr.sliceAt 74 (.pointer (some ⟨S, 0, none⟩)) (some (.int .i64 (lo : Int))) (some (.int .i64 (hi : Int))) none).run Tryz.prog w = .ok (.slice (some ⟨S, lo, none⟩) (hi - lo) (512 - lo)) w := by
  have hs : (Tryz.prog.info? 5).map (·.size) = some 1 := info5s
  have g1 : (lo : Int) ≤ (hi : Int) := by omega
  have g2 : (hi : Int) ≤ 512 := by omega
  clear h1 h2
  go_simp
  all_goals omega
theorem slice74_4 (S lo : Nat) (h : lo + 4 ≤ 512) (w : World) : (Instr.sliceAt 74 (.pointer (some ⟨S, 0, none⟩)) (some (.int .i64 (lo : Int))) (some (.int .i64 ((lo + 4 : Nat) : Int))) none).run Tryz.prog w = .ok (.slice (some ⟨S, lo, none⟩) 4 (512 - lo)) w := by
  rw [slice74 S lo (lo + 4) (by omega) h (by omega), Nat.add_sub_cancel_left]
def Meta.int (m : Meta) : Nat → Int
  | 0 => m.root
  | 1 => m.used
  | 2 => m.head
  | _ => m.free
def Meta.part (m : Meta) : Nat → List UInt8
  | 0 => zs
  | k + 1 => putL (m.part k) (4 * k + 4) (word (m.int k)) 4
theorem Meta.part_len (m : Meta) : ∀ k, (m.part k).length = 512
  | 0 => List.length_replicate
  | k + 1 => by rw [Meta.part, putL_len, m.part_len k]
theorem put_pre {pre : List UInt8} {a b n : Nat} (h : pre.length = a) (hb : 4 ≤ b) : putL (pre ++ List.replicate b 0) (a + 4) n 4 = (pre ++ beB 4 n) ++ List.replicate (b - 4) 0 := by
  rw [putL_is _ (by rw [List.length_append, List.length_replicate]; omega) 4 (by omega), Nat.add_sub_cancel, List.take_left' h, List.drop_append, h, List.drop_eq_nil_of_le (by omega), Nat.add_sub_cancel_left, List.drop_replicate, List.nil_append, List.append_assoc]
structure Meta.Fits (m : Meta) : Prop where
  root : m.root ≤ 10000000000
  used : m.used ≤ 10000000000
  head : m.head ≤ 10000000000
  free0 : -10000000000 ≤ m.free
  free : m.free ≤ 10000000000
theorem Meta.part_four {m : Meta} (h : m.Fits) : m.part 4 = m.page := by
  have e0 : zs = [] ++ List.replicate 512 0 := rfl
  have f := h.root
  have g := h.used
  have k := h.head
  rw [Meta.part, Meta.part, Meta.part, Meta.part, Meta.part, e0, put_pre (a := 4 * 0) rfl (by omega), put_pre (a := 4 * 1) (by simp [beB_len]) (by omega), put_pre (a := 4 * 2) (by simp [beB_len]) (by omega), put_pre (a := 4 * 3) (by simp [beB_len]) (by omega)]
  unfold Meta.page Meta.int
  simp only [List.nil_append, List.append_assoc]
  rw [word_nat (by omega), word_nat (by omega), word_nat (by omega)]
theorem Meta.int_fits {m : Meta} (h : m.Fits) (k : Nat) : -9223372036854775808 ≤ m.int k ∧ m.int k ≤ 9223372036854775807 := by
  have f := h.root
  have g := h.used
  have j := h.head
  have a := h.free0
  have b := h.free
  unfold Meta.int
  split <;> omega
def Meta.vs (m : Meta) : List Value := [.int .i64 (m.root : Int), .int .i64 (m.used : Int), .int .i64 (m.head : Int), .int .i64 m.free]
theorem Meta.vs_at (m : Meta) {k : Nat} (h : k < 4) : m.vs[k]? = some (.int .i64 (m.int k)) := by
  rcases (show k = 0 ∨ k = 1 ∨ k = 2 ∨ k = 3 by omega) with rfl | rfl | rfl | rfl <;> rfl
theorem page_there {w : World} {g : Nat} {s : Sec} (h : Vec w 1 (.slice (some ⟨g, 0, none⟩) 512 512) 512 (bv s)) : w.there g 0 512 := by
  have := h.there (o := 0) (k := 512) (by decide)
  simpa using this
set_option maxHeartbeats 1000000 in
theorem bytes_any {m : Meta} (hm : m.Fits) (w : World) : Calls Tryz.prog 42 #[.agg #[.int .i64 (m.root : Int), .int .i64 (m.used : Int), .int .i64 (m.head : Int), .int .i64 m.free]] w fun e w' => e = .returned (.agg (bv m.page).toArray) ∧ Only None' w w' := by
  have HM := Lib.hid hm
  obtain ⟨wa, hwa⟩ : ∃ wa, wa = w.alloc (.cells #[.int .i64 (m.root : Int), .int .i64 (m.used : Int), .int .i64 (m.head : Int), .int .i64 m.free] 67) := ⟨_, rfl⟩
  obtain ⟨w4, hw4⟩ : ∃ w4, w4 = (((wa.alloc (.cells Tryz.zeroCells74 74)).alloc (.cells Tryz.zeroCells74 74)).alloc (.cells #[.int .i64 (m.root : Int), .int .i64 (m.used : Int), .int .i64 (m.head : Int), .int .i64 m.free] 3)) := ⟨_, rfl⟩
  have hsa : wa.heap.size = w.heap.size + 1 := by rw [hwa]; simp
  have hT : Vec w4 1 (.slice (some ⟨w.heap.size + 1, 0, none⟩) 512 512) 512 (bv zs) := by
    have := ((page_zero wa).alloc (.cells Tryz.zeroCells74 74)).alloc (.cells #[.int .i64 (m.root : Int), .int .i64 (m.used : Int), .int .i64 (m.head : Int), .int .i64 m.free] 3)
    rw [hsa] at this
    rw [hw4]; exact this
  have hS : Vec w4 1 (.slice (some ⟨w.heap.size + 1 + 1, 0, none⟩) 512 512) 512 (bv zs) := by
    have := (page_zero (wa.alloc (.cells Tryz.zeroCells74 74))).alloc (.cells #[.int .i64 (m.root : Int), .int .i64 (m.used : Int), .int .i64 (m.head : Int), .int .i64 m.free] 3)
    rw [show (wa.alloc (.cells Tryz.zeroCells74 74)).heap.size = w.heap.size + 1 + 1 by simp [hsa]] at this
    rw [hw4]; exact this
  have hI : CellsR w4 (w.heap.size + 1 + 1 + 1) m.vs := by
    have := cells_new ((wa.alloc (.cells Tryz.zeroCells74 74)).alloc (.cells Tryz.zeroCells74 74)) m.vs 3
    rw [show ((wa.alloc (.cells Tryz.zeroCells74 74)).alloc (.cells Tryz.zeroCells74 74)).heap.size = w.heap.size + 1 + 1 + 1 by simp [hsa]] at this
    rw [hw4]; exact this
  have o4 : Only None' w w4 := by rw [hw4, hwa]; exact ((((Only.refl _ _).alloc _).alloc _).alloc _).alloc _
  rw [hwa] at hw4
  have hsz : w4.heap.size = w.heap.size + 1 + 1 + 1 + 1 := by rw [hw4]; simp
  have HW := Lib.hid hw4
  have HH := Lib.hid (And.intro hT (And.intro hS (And.intro hI (And.intro o4 hsz))))
  clear hm hw4 hwa hT hS hI o4 hsa hsz
  go_enter Tryz.func42, Tryz.ntmps42
  go_wp2_with fail
  rw [← HW.out]
  clear HW
  obtain ⟨T, hTe⟩ : ∃ T, T = w.heap.size + 1 := ⟨_, rfl⟩
  obtain ⟨S, hSe⟩ : ∃ S, S = w.heap.size + 1 + 1 := ⟨_, rfl⟩
  obtain ⟨I, hIe⟩ : ∃ I, I = w.heap.size + 1 + 1 + 1 := ⟨_, rfl⟩
  have HE := Lib.hid (And.intro hTe (And.intro hSe hIe))
  rw [← hIe, ← hSe, ← hTe] at HH
  rw [← hIe, ← hSe, ← hTe]
  clear hTe hSe hIe
  go_loopw [16] (fun i wr => ∃ k : Nat, k ≤ 4 ∧ i = .int .i64 (k : Int) ∧ Hid (Vec wr 1 (.slice (some ⟨S, 0, none⟩) 512 512) 512 (bv (m.part k)) ∧ Only (fun j => j = S) w4 wr)) (fun i wr => 4 - (intOf i).toNat)
  case atStart => exact ⟨0, by omega, rfl, Lib.hid ⟨HH.out.2.1, Only.refl _ _⟩⟩
  case round =>
    obtain ⟨k, hk, rfl, HL⟩ := hrel
    have hIS : ¬ I = S := by have := HE.out; omega
    by_cases hlt : k < 4
    · have kc := (HH.out.2.2.1.kept HL.out.2 hIS).is k _ (m.vs_at hlt)
      obtain ⟨j, hj⟩ : ∃ j, j = 4 * k := ⟨_, rfl⟩
      obtain ⟨j4, hj4⟩ : ∃ j4, j4 = j + 4 := ⟨_, rfl⟩
      have e1 : 4 * (k : Int) = (j : Int) := by omega
      have e2 : (j : Int) + 4 = (j4 : Int) := by omega
      have j0 : (0 : Int) ≤ (j : Int) := by omega
      have j1 : (j : Int) ≤ 12 := by omega
      have j2 : (j4 : Int) ≤ 16 := by omega
      have i0 : (0 : Int) ≤ (k : Int) := by omega
      have i1 : (k : Int) < 4 := by omega
      have hsl := slice74_4 S j (by omega) wr
      rw [← hj4] at hsl
      have HP := Lib.hid (put_any (g := S) (off := j) (m := 4) (cap := 512 - j) HL.out.1 (by omega) (by omega) (m.int k) (m.int_fits HM.out k).1 (m.int_fits HM.out k).2)
      obtain ⟨z, hz⟩ : ∃ z, z = m.int k := ⟨_, rfl⟩
      rw [← hz] at HP kc
      have HJ := Lib.hid (And.intro hj (And.intro hj4 (And.intro hlt hz)))
      clear hlt hj hj4 hz hk
      go_wp2_with fail
      refine HP.out.mono ?_
      rintro e w5 ⟨rfl, hv, ho⟩
      have HV := Lib.hid (And.intro hv ho)
      clear hv ho kc hsl
      go_wp2_with fail
      go_roundw
      case rel =>
        refine ⟨k + 1, by have := HJ.out; omega, rfl, Lib.hid ⟨?_, HL.out.2.trans HV.out.2⟩⟩
        have := HV.out.1
        rw [HJ.out.1, HJ.out.2.2.2] at this
        exact this
      case measure =>
        show 4 - ((k : Int) + 1).toNat < 4 - (k : Int).toNat
        have := HJ.out
        omega
    · obtain rfl : k = 4 := by omega
      have hl : (m.page).length = 512 := m.page_len
      have HP : Hid (Vec wr 1 (.slice (some ⟨S, 0, none⟩) 512 512) 512 (bv m.page)) := Lib.hid (by have := HL.out.1; rwa [Meta.part_four HM.out] at this)
      obtain ⟨s, hs⟩ : ∃ s, s = m.page := ⟨_, rfl⟩
      rw [← hs] at HP hl
      have HSS := Lib.hid hs
      have hTS : T ≠ S := by have := HE.out; omega
      have HTH := Lib.hid (page_there (HH.out.1.only HL.out.2 fun g hg e => hTS (by injection hg with hg; exact hg.trans e)))
      have HLL := Lib.hid hl
      have HR := Lib.hid HP.out.range
      clear hl hs
      go_wp2_with (first | (refine wpList_load_mid rfl 74 _ rfl S 0 rfl (bv s) _ HR.out Tryz.underlying74 rfl (size74 s HLL.out) ?_) | (refine wpList_store_mid rfl 74 _ _ rfl T 0 (bv s).toArray rfl rfl ((show 512 = (bv s).toArray.size by simp [bv_length, HLL.out]) ▸ HTH.out) (size74a s HLL.out) (all_oneCell_toArray (bv_one s)) ?_))
      have hth' : wr.there T 0 (bv s).length := by rw [bv_length, HLL.out]; exact HTH.out
      refine bodyPost_ret (v := .agg (bv s).toArray) (results_cell_mid rfl _ _ T (bv s) _ rfl (World.rangeAt_setCells_same _ _ _ _ hth') Tryz.underlying74 rfl (size74 s HLL.out)) rfl ⟨by rw [HSS.out], ?_⟩
      refine (HH.out.2.2.2.1.trans2 HL.out.2 fun k hk e => by have := HE.out; omega).trans2 (S := None') ((Only.refl (fun j => j = T) wr).setCells rfl 0 _) fun k hk e => by have := HE.out; omega
end Go.Proofs.YteoeaojebklfjaaGreatDoor
