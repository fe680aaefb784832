/- Put, where there is no room at all; where there is room. -/
import Derived.Test.YtfmpidacklhmaaaV1
namespace Go.Proofs.Ytfmpidacklhmaaa.Lru
open Go.RowKit Go.Maps
set_option linter.unusedVariables false
set_option maxRecDepth 20000

set_option maxRecDepth 4000 in
theorem put_zero {m : Nat} {w : World} {B M : Nat} {Y : Int} {l : List Node} (S : Shelf m w B M 0 Y l) (e : Ent) (hk : e.key.size ≤ 140737488355328) (hv : e.val.size ≤ 140737488355328) :
    Calls Try.prog 45 #[.pointer (some ⟨B, 0, none⟩), .agg #[.string e.key, .string e.val, .int .i64 e.til, .int .i64 e.gra]] w fun r w' => r = .returned (.int .i64 40) ∧ Shelf m w' B M 0 Y (dropKey l e.key) ∧ Only (Own B M l) w w' := by
  have SA := Lib.hid (S.alloc (entObj e))
  have hd := drop_any SA.out e.key hk
  have hnew : ¬ Own B M l w.heap.size := fun h => absurd (S.ltOwn h) (by omega)
  have HN := Lib.hid hnew
  clear S hnew hk hv
  go_enter Try.func45, Try.ntmps45
  go_wp2_with fail
  refine hd.mono ?_
  rintro r w1 ⟨rfl, hS, hO⟩
  have HS := Lib.hid hS
  have HO := Lib.hid hO
  obtain ⟨k0, k1, k2, k3⟩ := entry_cells hO HN.out
  have c0 := hS.rest.ent
  clear hd hS hO
  go_wp2_with fail
  go_quiet (fail)
  go_wp2
  go_ret
  refine ⟨rfl, HS.out.drewN _, ?_⟩
  exact ((((Only.refl _ _).alloc _).trans HO.out).drewN _)

def over (E Y : Int) (l : List Node) : Bool := decide (E < (l.length : Int)) || decide (Y < (bytesOf l : Int))
def evict (E Y : Int) : List Node → List Node
  | [] => []
  | x :: r => if over E Y (x :: r) then evict E Y r else x :: r

theorem evict_sub (E Y : Int) : ∀ l : List Node, ∃ p, l = p ++ evict E Y l
  | [] => ⟨[], rfl⟩
  | x :: r => by
    unfold evict
    split
    · obtain ⟨p, h⟩ := evict_sub E Y r
      exact ⟨x :: p, by rw [List.cons_append, ← h]⟩
    · exact ⟨[], rfl⟩

theorem Shelf.lenRun {m : Nat} {w : World} {B M : Nat} {E Y : Int} {l : List Node} (S : Shelf m w B M E Y l) (ty : TypeId) : (Builtin.len_ #[79] ty #[.map (some M)]).run Try.prog w = .ok (.int .i64 (l.length : Int)) w := by
  obtain ⟨D, hown, hD⟩ := S.map
  rw [hown.len under79 ty, hD.size]

/-- one round of what goes for want of room -/
theorem evict_over {E Y : Int} {x : Node} {r : List Node} (h : over E Y (x :: r) = true) : evict E Y (x :: r) = evict E Y r := by
  show (if over E Y (x :: r) then evict E Y r else x :: r) = _
  rw [if_pos h]
theorem evict_fits {E Y : Int} {l : List Node} (h : over E Y l = false) : evict E Y l = l := by
  cases l with
  | nil => rfl
  | cons x r => unfold evict; rw [if_neg (by simp [h])]

/-- the shelf behind a put, ahead of the loop -/
theorem put_shelf {m : Nat} {wc w2 w3 : World} {B M : Nat} {E Y : Int} {L : List Node} {e : Ent} {x : Nat} {D : DataW Unit} {o1 : Obj} (o : Obj) (nn : Nat) (S1 : Shelf m wc B M E Y L) (hx : x = wc.heap.size) (hk : e.key.size ≤ 140737488355328) (hv : e.val.size ≤ 140737488355328) (hl : L.length < 1000)
    (R2 : Row m w2 B M (L ++ [(x, e)])) (P2 : Rowed (wc.alloc o1) w2 B (x :: nums L)) (ho3 : w3.ownsMap Try.prog 9 ptrR M (L.length + 1) (D.put (kl e.key) (.lit (.int .i64 (x : Int))))) (hO3 : Only (fun k => k = M) w2 w3) (hD : MapOf D L) (hn : ∀ y ∈ L, y.2.key ≠ e.key) :
    Shelf m (((w3.setCell ⟨B, 5, none⟩ (.int .i64 ((bytesOf L : Int) + ((e.key.size : Int) + (e.val.size : Int))))).alloc o).drewN nn) B M E Y (L ++ [(x, e)]) ∧
      Only (Own B M L) wc (((w3.setCell ⟨B, 5, none⟩ (.int .i64 ((bytesOf L : Int) + ((e.key.size : Int) + (e.val.size : Int))))).alloc o).drewN nn) := by
  have hBM : ¬ B = M := S1.row.BM
  have lB2 : B < w3.heap.size := Nat.lt_of_lt_of_le R2.ltB hO3.size
  obtain ⟨u1, u2, u3, u4, u5⟩ := used_world (v := .int .i64 ((bytesOf L : Int) + ((e.key.size : Int) + (e.val.size : Int)))) o nn lB2
  have cB (i : Nat) : w3.cell? ⟨B, i, none⟩ = w2.cell? ⟨B, i, none⟩ := hO3.cell R2.ltB hBM i
  have hr : Rest w2 B M E Y (bytesOf L) := (S1.alloc o1).rest.rowed P2
  have hD' : MapOf _ (L ++ [(x, e)]) := hD.put (x := (x, e)) hn
  refine ⟨⟨R2.move ?_ ?_ ((u2 2 (by decide)).trans (cB 2)) ((u2 3 (by decide)).trans (cB 3)) (fun i => (u4 i).trans (hO3.frozen R2.ltB hBM i)), ⟨?_, ?_, ?_, ?_⟩, ⟨_, ?_, hD'⟩, ?_, ?_⟩, ?_⟩
  · exact Nat.le_trans hO3.size u5.size
  · intro k hk
    obtain ⟨_, a, b, c⟩ := R2.mine k hk
    rw [u1 k (Nat.lt_of_lt_of_le a hO3.size) b, hO3.block k a c]
  · rw [u2 0 (by decide), cB]; exact hr.ent
  · rw [u2 1 (by decide), cB]; exact hr.byt
  · rw [u2 4 (by decide), cB]; exact hr.at_
  · rw [u3 ⟨_, (cB 5).trans hr.used⟩, bytesOf_append, bytesOf_cons]
    congr 2
  · rw [← hD'.size]
    exact owns_tight (owns_same ho3 (u1 M ho3.lt fun e => hBM e.symm))
  · intro y hy
    rcases List.mem_append.1 hy with hy | hy
    · exact S1.small y hy
    · simp at hy; subst hy; exact ⟨hk, hv⟩
  · simp; omega
  · have hA : Only (Own B M L) wc w2 := by
      refine ⟨P2.only.os, P2.only.tape, P2.only.output, Nat.le_trans (by simp) P2.only.size, fun k hk' hn' => ?_⟩
      rw [P2.only.block k (by simp; omega) ?_, Below.heap_alloc _ _ _ hk']
      rintro (e | e)
      · exact hn' (.inl e)
      · rcases List.mem_cons.1 e with e | e
        · omega
        · exact hn' (.inr (.inr e))
    refine (hA.trans (hO3.mono ?_)).trans (u5.mono ?_)
    · rintro k _ e; exact .inr (.inl e)
    · rintro k _ e; exact .inl e

theorem Only.trans2 {S S' : Nat → Prop} {a b c : World} (h : Only S a b) (k : Only S' b c) (hs : ∀ k, k < a.heap.size → S' k → S k) : Only S a c :=
  ⟨k.os.trans h.os, k.tape.trans h.tape, k.output.trans h.output, Nat.le_trans h.size k.size, fun i hi hn => (k.block i (Nat.lt_of_lt_of_le hi h.size) fun h' => hn (hs i hi h')).trans (h.block i hi hn)⟩

def mapSize (w : World) (M : Nat) : Nat := match w.heap[M]? with | some (.map es _) => es.size | _ => 0
theorem Shelf.mapSize {m : Nat} {w : World} {B M : Nat} {E Y : Int} {l : List Node} (S : Shelf m w B M E Y l) : mapSize w M = l.length := by
  obtain ⟨D, ⟨es, c, hb, F, h2, rfl⟩, hD⟩ := S.map
  have := hD.size
  simp [Maps.size, length_sorted] at this
  simp [Lru.mapSize, hb, this]

set_option maxRecDepth 8000 in
set_option maxHeartbeats 1000000 in
theorem put_fits {m : Nat} {w : World} {B M : Nat} {E Y : Int} {l : List Node} (S : Shelf m w B M E Y l) (hm : m ≤ w.heap.size) (e : Ent) (hk : e.key.size ≤ 140737488355328) (hv : e.val.size ≤ 140737488355328) (hE0 : 0 ≤ E) (hE : (E == 0) = false) (hY0 : 0 ≤ Y) (hY : decide (Y < (e.key.size : Int) + (e.val.size : Int)) = false) (hl : l.length < 1000) :
    Calls Try.prog 45 #[.pointer (some ⟨B, 0, none⟩), .agg #[.string e.key, .string e.val, .int .i64 e.til, .int .i64 e.gra]] w fun r w' => r = .returned (.int .i64 0) ∧ ∃ x, w.heap.size ≤ x ∧ Shelf m w' B M E Y (evict E Y (dropKey l e.key ++ [(x, e)])) ∧ Only (Own B M l) w w' := by
  have SA := Lib.hid (S.alloc (entObj e))
  have hd := drop_any SA.out e.key hk
  have hnew : ¬ Own B M l w.heap.size := fun h => absurd (S.ltOwn h) (by omega)
  have HN := Lib.hid hnew
  have HK := Lib.hid hk
  have HV := Lib.hid hv
  have HY0 := Lib.hid hY0
  have HE0 := Lib.hid hE0
  have HM := Lib.hid hm
  have HL := Lib.hid hl
  clear S hnew hk hv hE0 hY0 hm hl
  go_enter Try.func45, Try.ntmps45
  go_wp2_with fail
  refine hd.mono ?_
  rintro r w1 ⟨rfl, hS, hO⟩
  have HS := Lib.hid hS
  have HO := Lib.hid hO
  obtain ⟨k0, k1, k2, k3⟩ := entry_cells hO HN.out
  have c0 := hS.rest.ent
  have c1 := hS.rest.byt
  have lB := hS.row.ltB
  have lx : w.heap.size < w1.heap.size := Nat.lt_of_lt_of_le (by simp) hO.size
  clear hd hS hO
  go_upto_region 4 with fail
  go_cut [25] from 12 to 25 (fun c wx => c = .bool false ∧ ∃ o n, wx = (w1.alloc o).drewN n)
  case first =>
    go_region_with (go_at_call 49; refine (size_any e _ HK.out HV.out).mono ?_; rintro r w2 ⟨rfl, o, rfl⟩)
    all_goals (go_wp2_with fail; go_meet; exact ⟨rfl, o, 1, rfl⟩)
  case rest =>
    obtain ⟨rfl, o, n, hwd⟩ := hcut
    rename World => wd
    have O1 : Hid (Only (Own B M l) (w.alloc (entObj e)) wd) := by show Only _ _ _; rw [hwd]; exact ((HO.out.alloc o).drewN n)
    have S1 : Hid (Shelf m wd B M E Y (dropKey l e.key)) := by show Shelf _ _ _ _ _ _ _; rw [hwd]; exact ((HS.out.alloc o).drewN n)
    clear k0 k1 k2 k3 c0 c1 lB
    obtain ⟨k0, k1, k2, k3⟩ := entry_cells O1.out HN.out
    clear hwd
    go_wp2_with fail
    have hx0 : wd.heap.size ∉ nums (dropKey l e.key) := fun h => absurd (S1.out.row.mine _ h).2.1 (by omega)
    have hLk : Link (wd.alloc (.cells #[.string e.key, .string e.val, .int .i64 e.til, .int .i64 e.gra, .pointer none, .pointer none] 90)) wd.heap.size e none none :=
      ⟨World.cell?_alloc_new _ _ _ _, World.cell?_alloc_new _ _ _ _, World.cell?_alloc_new _ _ _ _, World.cell?_alloc_new _ _ _ _, World.cell?_alloc_new _ _ _ _, World.cell?_alloc_new _ _ _ _, fun o => by rw [World.frozen?_alloc_new]⟩
    have hwd : w.heap.size < wd.heap.size := Nat.lt_of_lt_of_le (by simp) O1.out.size
    refine (push_any (x := (wd.heap.size, e)) (S1.out.alloc _).row hLk hx0 (by have := HM.out; show m ≤ wd.heap.size; omega) (by simp) (by have := S1.out.row.ltB; show wd.heap.size ≠ B; omega) (by have := S1.out.ltM; show wd.heap.size ≠ M; omega)).mono ?_
    rintro r w2 ⟨rfl, hR2, hP2⟩
    have R2 := Lib.hid hR2
    have P2 := Lib.hid hP2
    have hnn : ¬ (w.heap.size = B ∨ w.heap.size ∈ wd.heap.size :: nums (dropKey l e.key)) := by
      rintro (h | h)
      · exact HN.out (.inl h)
      · rcases List.mem_cons.1 h with h | h
        · omega
        · refine HN.out (.inr (.inr ?_))
          simp only [nums, dropKey, List.mem_map, List.mem_filter] at h
          obtain ⟨y, ⟨hy, _⟩, e⟩ := h
          exact List.mem_map.2 ⟨y, hy, e⟩
    have hbox : w.heap.size < (wd.alloc (.cells #[.string e.key, .string e.val, .int .i64 e.til, .int .i64 e.gra, .pointer none, .pointer none] 90)).heap.size := by simp; omega
    have j0 : w2.cell? ⟨w.heap.size, 0, none⟩ = some (.string e.key) := by rw [hP2.only.cell hbox hnn, World.cell?_alloc_lt _ _ _ hwd]; exact k0
    have j1 : w2.cell? ⟨w.heap.size, 1, none⟩ = some (.string e.val) := by rw [hP2.only.cell hbox hnn, World.cell?_alloc_lt _ _ _ hwd]; exact k1
    have j2 : w2.cell? ⟨w.heap.size, 2, none⟩ = some (.int .i64 e.til) := by rw [hP2.only.cell hbox hnn, World.cell?_alloc_lt _ _ _ hwd]; exact k2
    have j3 : w2.cell? ⟨w.heap.size, 3, none⟩ = some (.int .i64 e.gra) := by rw [hP2.only.cell hbox hnn, World.cell?_alloc_lt _ _ _ hwd]; exact k3
    have hr2 := Lib.hid ((S1.out.alloc (.cells #[.string e.key, .string e.val, .int .i64 e.til, .int .i64 e.gra, .pointer none, .pointer none] 90)).rest.rowed hP2)
    have c4 := hr2.out.at_
    obtain ⟨D, hown, hD⟩ := S1.out.map
    have hMn : ¬ (M = B ∨ M ∈ wd.heap.size :: nums (dropKey l e.key)) := by
      rintro (h | h)
      · exact S1.out.row.BM h.symm
      · rcases List.mem_cons.1 h with h | h
        · exact absurd S1.out.ltM (by omega)
        · exact (S1.out.row.mine M h).2.2.2 rfl
    have HOW := Lib.hid (owns_same (hown.alloc (.cells #[.string e.key, .string e.val, .int .i64 e.til, .int .i64 e.gra, .pointer none, .pointer none] 90)) (hP2.only.block M (by have := S1.out.ltM; simp; omega) hMn))
    have HD := Lib.hid hD
    have HX := Lib.hid hwd
    have HBX := Lib.hid hbox
    have hlw : w.heap.size < w2.heap.size := by have := hP2.same; omega
    clear hx0 hLk hwd hR2 hP2 hnn hbox hown hD hMn k0 k1 k2 k3
    go_wp2_with fail
    go_still_tail 7, (by kernel_rfl)
    refine wpList_mapUpdate_in _ rfl _ _ _ 79 rfl 9 80 keyed9 under79 ptrR M _ D rfl (HOW.out.drew) (by unfold maxLen; have h1 := S1.out.few; omega) (.string e.key) _ (kl e.key) rfl rfl (Go.WideMaps.keyOf_string_mk Try.underlying9 (by have := HK.out; unfold maxLen; omega)) (.lit (.int .i64 (wd.heap.size : Int))) [] rfl ?_
    intro w3 ho3 ht3
    have hO3 : Only (fun k => k = M) w2 w3 := (Only.drew (Only.refl _ _)).turned ht3 rfl
    have HO3 := Lib.hid ho3
    have HT3 := Lib.hid hO3
    have lBw2 : B < w2.heap.size := R2.out.ltB
    have hBM : ¬ B = M := S1.out.row.BM
    have hxM : ¬ w.heap.size = M := fun h => HN.out (.inr (.inl h))
    have i0 : w3.cell? ⟨w.heap.size, 0, none⟩ = some (.string e.key) := (hO3.cell hlw hxM 0).trans j0
    have i1 : w3.cell? ⟨w.heap.size, 1, none⟩ = some (.string e.val) := (hO3.cell hlw hxM 1).trans j1
    have i2 : w3.cell? ⟨w.heap.size, 2, none⟩ = some (.int .i64 e.til) := (hO3.cell hlw hxM 2).trans j2
    have i3 : w3.cell? ⟨w.heap.size, 3, none⟩ = some (.int .i64 e.gra) := (hO3.cell hlw hxM 3).trans j3
    have c5 : w3.cell? ⟨B, 5, none⟩ = some (.int .i64 (bytesOf (dropKey l e.key) : Int)) := (hO3.cell lBw2 hBM 5).trans hr2.out.used
    have f1 : ∀ o, w3.frozen? ⟨B, o, none⟩ = false := fun o => (hO3.frozen lBw2 hBM o).trans (R2.out.thaw o)
    have l1 : B < w3.heap.size := Nat.lt_of_lt_of_le lBw2 hO3.size
    have l2 : w.heap.size < w3.heap.size := Nat.lt_of_lt_of_le hlw hO3.size
    have hb : bytesOf (dropKey l e.key) ≤ 1000 * 281474976710656 := Nat.le_trans (bytesOf_le _ S1.out.small) (Nat.mul_le_mul_right _ S1.out.few)
    have t1 : (e.key.size : Int) ≤ 140737488355328 := by have := HK.out; omega
    have t2 : (e.val.size : Int) ≤ 140737488355328 := by have := HV.out; omega
    have hw : Hid (IntKind.i64.wrap ((bytesOf (dropKey l e.key) : Int) + ((e.key.size : Int) + (e.val.size : Int))) = (bytesOf (dropKey l e.key) : Int) + ((e.key.size : Int) + (e.val.size : Int))) := wrap64 _ (by omega) (by omega)
    clear ho3 ht3 hO3 j0 j1 j2 j3 c4 lx hlw hxM hBM lBw2 hb
    go_upto_region 9 with fail
    simp only [Act.put]
    go_cut [] from 39 to 47 (fun wx => ∃ o n, wx = ((w3.setCell ⟨B, 5, none⟩ (.int .i64 ((bytesOf (dropKey l e.key) : Int) + ((e.key.size : Int) + (e.val.size : Int))))).alloc o).drewN n)
    case first =>
      go_region_with (go_at_call 49; refine (size_any e _ HK.out HV.out).mono ?_; rintro r w2 ⟨rfl, o, rfl⟩)
      all_goals (go_wp2_with fail; go_meet; exact ⟨o, 1, by rw [hw.out]; rfl⟩)
    case rest =>
      obtain ⟨o, n, hwc⟩ := hcut
      have hSL := put_shelf o n S1.out rfl HK.out HV.out (Nat.lt_of_le_of_lt (List.length_filter_le _ _) HL.out) R2.out P2.out HO3.out HT3.out HD.out (by intro y hy; simpa using (List.mem_filter.1 hy).2)
      rw [← hwc] at hSL
      obtain ⟨hS2, hO2⟩ := hSL
      have S2 := Lib.hid hS2
      have O2 : Hid (Only (Own B M l) (w.alloc (entObj e)) wc) := O1.out.trans2 hO2 (by
        rintro k _ (e | e | e)
        · exact .inl e
        · exact .inr (.inl e)
        · simp only [nums, dropKey, List.mem_map, List.mem_filter] at e
          obtain ⟨y, ⟨hy, _⟩, e⟩ := e
          exact .inr (.inr (List.mem_map.2 ⟨y, hy, e⟩)))
      have W1 : Hid ((w.alloc (entObj e)).heap.size ≤ wd.heap.size) := O1.out.size
      clear hwc hS2 hO2 i0 i1 i2 i3 c5 f1 l1 l2 t1 t2 hw HT3 HO3 HBX HX HD HOW hr2 P2 R2 S1 O1 HO HS SA hE hY
      go_wp2_with fail
      go_loopw [] (fun wr => ∃ L : List Node, Shelf m wr B M E Y L ∧ evict E Y L = evict E Y (dropKey l e.key ++ [(wd.heap.size, e)]) ∧ Only (Own B M l) (w.alloc (entObj e)) wr ∧ (∀ k ∈ nums L, k ∈ nums l ∨ k = wd.heap.size)) (fun wr => mapSize wr M)
      case atStart =>
        refine ⟨_, S2.out, rfl, O2.out, ?_⟩
        intro k hk
        simp only [nums, dropKey, List.map_append, List.mem_append, List.mem_map, List.mem_filter, List.mem_singleton] at hk
        rcases hk with ⟨y, ⟨hy, _⟩, e⟩ | ⟨y, rfl, rfl⟩
        · exact .inl (List.mem_map.2 ⟨y, hy, e⟩)
        · exact .inr rfl
      case round =>
        obtain ⟨L, hSr, hev, hOr, hin⟩ := hrel
        have SR := Lib.hid hSr
        have EV := Lib.hid hev
        have OR := Lib.hid hOr
        have IN := Lib.hid hin
        have c0 := hSr.rest.ent
        have c1 := hSr.rest.byt
        have c4 := hSr.rest.at_
        have c5 := hSr.rest.used
        have hlen : ∀ n ty, (Builtin.len_ #[79] ty #[.map (some M)]).run Try.prog (wr.drewN n) = .ok (.int .i64 (L.length : Int)) (wr.drewN n) := fun n ty => (hSr.drewN n).lenRun ty
        obtain ⟨len, hl⟩ : ∃ len : Int, len = (L.length : Int) := ⟨_, rfl⟩
        obtain ⟨u, hu⟩ : ∃ u : Int, u = (bytesOf L : Int) := ⟨_, rfl⟩
        rw [← hl] at hlen
        rw [← hu] at c5
        have HLn := Lib.hid hl
        have HU := Lib.hid hu
        have hO : over E Y L = (decide (E < len) || decide (Y < u)) := by rw [hl, hu]; rfl
        have HO := Lib.hid hO
        clear hev hOr hin hl hu hO
        cases h1 : decide (E < len) with
        | true =>
          have ho : over E Y L = true := by rw [HO.out, h1]; rfl
          cases L with
          | nil => exfalso; simp [over, bytesOf] at ho; have a := HE0.out; have b := HY0.out; omega
          | cons x1 r =>
            have c2 : wr.cell? ⟨B, 2, none⟩ = some (.pointer (some ⟨x1.1, 0, none⟩)) := hSr.row.front
            have EV2 := Lib.hid (evict_over ho)
            clear ho hSr
            go_wp2_with fail
            go_quiet (fail)
            go_wp2_with fail
            refine (remove_any (p := []) (x := x1) (q := r) (SR.out.drewN nq)).mono ?_
            rintro r' w5 ⟨rfl, hS5, hO5⟩
            have S5 := Lib.hid hS5
            have O5 := Lib.hid hO5
            clear hS5 hO5
            go_wp2_with fail
            go_roundw
            case rel =>
              refine ⟨r, S5.out, by rw [← EV.out, EV2.out], (OR.out.drewN nq).trans2 O5.out ?_, fun k hk => IN.out k (List.mem_cons_of_mem _ hk)⟩
              rintro k hk (e | e | e)
              · exact .inl e
              · exact .inr (.inl e)
              · rcases IN.out k e with e | e
                · exact .inr (.inr e)
                · have := W1.out; omega
            case measure =>
              rw [S5.out.mapSize, SR.out.mapSize]; simp
        | false =>
          cases h2 : decide (Y < u) with
          | true =>
            have ho : over E Y L = true := by rw [HO.out, h1, h2]; rfl
            cases L with
            | nil => exfalso; simp [over, bytesOf] at ho; have a := HE0.out; have b := HY0.out; omega
            | cons x1 r =>
              have c2 : wr.cell? ⟨B, 2, none⟩ = some (.pointer (some ⟨x1.1, 0, none⟩)) := hSr.row.front
              have EV2 := Lib.hid (evict_over ho)
              clear ho hSr
              go_wp2_with fail
              go_quiet (fail)
              go_wp2_with fail
              refine (remove_any (p := []) (x := x1) (q := r) (SR.out.drewN nq)).mono ?_
              rintro r' w5 ⟨rfl, hS5, hO5⟩
              have S5 := Lib.hid hS5
              have O5 := Lib.hid hO5
              clear hS5 hO5
              go_wp2_with fail
              go_roundw
              case rel =>
                refine ⟨r, S5.out, by rw [← EV.out, EV2.out], (OR.out.drewN nq).trans2 O5.out ?_, fun k hk => IN.out k (List.mem_cons_of_mem _ hk)⟩
                rintro k hk (e | e | e)
                · exact .inl e
                · exact .inr (.inl e)
                · rcases IN.out k e with e | e
                  · exact .inr (.inr e)
                  · have := W1.out; omega
              case measure =>
                rw [S5.out.mapSize, SR.out.mapSize]; simp
          | false =>
            have ho : over E Y L = false := by rw [HO.out, h1, h2]; rfl
            have EV2 := Lib.hid (evict_fits ho)
            clear ho hSr
            go_wp2_with fail
            go_quiet (fail)
            go_wp2
            go_ret
            refine ⟨rfl, wd.heap.size, by have := W1.out; simp at this; omega, ?_, ?_⟩
            · rw [← EV.out, EV2.out]; exact SR.out.drewN _
            · exact ((Only.refl _ _).alloc _).trans (OR.out.drewN _)

end Go.Proofs.Ytfmpidacklhmaaa.Lru
