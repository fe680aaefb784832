/- T7 T9 U0 U1 in one text. -/
import Derived.Test.YteoeaojebklfjaaGreatDoorV27
namespace Go.Proofs.YteoeaojebklfjaaGreatDoor
open Go.RowKit Go.Maps
set_option linter.unusedVariables false
set_option linter.unusedSimpArgs false
set_option maxRecDepth 20000
section
variable {a : Act} {o : Oper} {x y z : Operand}
theorem y_idx28 (w : World) {g off n cap k : Nat} (hk : k < n) (ho : o.op = .indexAddr 28 x y) (hx : a.eval x = .slice (some ⟨g, off, none⟩) n cap) (hy : a.eval y = .int .i64 (k : Int)) : (execOp a.eval o).run Tryz.prog w = .ok (.value (.pointer (some ⟨g, off + k, none⟩))) w := by
  have i0 : (0 : Int) ≤ (k : Int) := by omega
  have i1 : (k : Int) < (n : Int) := by omega
  have hs : (Tryz.prog.info? 3).map (·.size) = some 1 := by kernel_rfl
  unfold execOp
  simp only [ho, hx, hy]
  go_simp
theorem y_conv35 (w : World) {p : Int} (ho : o.op = .convert 3 5 x) (hx : a.eval x = .int .i64 p) : (execOp a.eval o).run Tryz.prog w = .ok (.value (.int .u8 (IntKind.u8.wrap p))) w := by
  unfold execOp
  simp only [ho, hx]
  go_simp
theorem y_add5 (w : World) {p q : Int} (ho : o.op = .binOp .add 5 x y 5) (hx : a.eval x = .int .u8 p) (hy : a.eval y = .int .u8 q) : (execOp a.eval o).run Tryz.prog w = .ok (.value (.int .u8 (IntKind.u8.wrap (p + q)))) w := by
  unfold execOp
  simp only [ho, hx, hy]
  go_simp
theorem y_ne29 (w : World) {p q : Int} {b : Bool} (hb : (p != q) = b) (ho : o.op = .binOp .neq 29 x y 29) (hx : a.eval x = .int .i64 p) (hy : a.eval y = .int .i64 q) : (execOp a.eval o).run Tryz.prog w = .ok (.value (.bool b)) w := by
  subst hb
  unfold execOp
  simp only [ho, hx, hy]
  go_simp
theorem y_ne3 (w : World) {p q : Int} {b : Bool} (hb : (p != q) = b) (ho : o.op = .binOp .neq 3 x y 3) (hx : a.eval x = .int .i64 p) (hy : a.eval y = .int .i64 q) : (execOp a.eval o).run Tryz.prog w = .ok (.value (.bool b)) w := by
  subst hb
  unfold execOp
  simp only [ho, hx, hy]
  go_simp
theorem y_ne9 (w : World) {p q : ByteArray} {b : Bool} (hb : (!(p.toList == q.toList)) = b) (ho : o.op = .binOp .neq 9 x y 9) (hx : a.eval x = .string p) (hy : a.eval y = .string q) : (execOp a.eval o).run Tryz.prog w = .ok (.value (.bool b)) w := by
  subst hb
  unfold execOp
  simp only [ho, hx, hy]
  go_simp
theorem y_pickF (w : World) {v : Value} (ho : o.op = .pick x y z) (hx : a.eval x = .bool false) (hy : a.eval z = v) : (execOp a.eval o).run Tryz.prog w = .ok (.value v) w := by
  unfold execOp
  simp only [ho, hx, hy]
  go_simp
theorem call20_ (args : Array Value) (w : World) : (callFunc 20 args).run Tryz.prog w = .ok (.enter 20 args) w := by go_simp
theorem call14_ (args : Array Value) (w : World) : (callFunc 14 args).run Tryz.prog w = .ok (.enter 14 args) w := by go_simp
end
def byteOf (c : UInt8) (n : Nat) : UInt8 := c + UInt8.ofNat n
theorem byteOf_is (c : UInt8) (n : Nat) : IntKind.u8.wrap ((c.toNat : Int) + IntKind.u8.wrap (n : Int)) = ((byteOf c n).toNat : Int) := by
  unfold byteOf IntKind.wrap
  simp only [IntKind.signed, Bool.false_and, if_false]
  rw [UInt8.toNat_add, UInt8.toNat_ofNat']
  show ((c.toNat : Int) + (n : Int) % 256) % 256 = _
  omega
theorem old_get {len : Nat} {p q : Pg} {d d' : Dk} {G K : List Nat} (h : Lv len p d G K) (hn : p.now = []) (hq : q.comm d' = p.comm d) (hqd : q.dirty = []) (hqf : q.first = p.first) (hdl : d'.lasts.length = len) {k : Nat} (hk : k < p.pages) : p.get d' k = (p.comm d k, 0) := by
  have e : d'.read (p.first + k) = p.comm d k := by
    have := congrFun hq k
    unfold Pg.comm at this
    rw [hqd, kLook_nil, hqf] at this
    exact this
  have hl := h.fit hk
  unfold Pg.get
  rw [hn, kLook_nil]
  simp only
  cases hx : kLook p.dirty k with
  | some x =>
    simp only
    unfold Pg.comm
    rw [hx]; rfl
  | none =>
    simp only
    rw [if_pos (by rw [hdl]; rw [h.dlen] at hl; exact hl), e]
structure InUse (p : Pg) (l : List Nat) : Prop where
  uses : ∀ k ∈ l, p.uses (k : Int) = true
  nd : l.Nodup
theorem nodup_at {l : List Nat} (h : l.Nodup) {i j k : Nat} (hi : l[i]? = some k) (hj : l[j]? = some k) : i = j := by
  obtain ⟨h1, e1⟩ := List.getElem?_eq_some_iff.1 hi
  exact (List.getElem?_inj h1 h).1 (hi.trans hj.symm)
end Go.Proofs.YteoeaojebklfjaaGreatDoor
namespace Go.Proofs.YteoeaojebklfjaaGreatDoor
theorem u8_of {n : Int} (h : (Lit.int .u8 n).wf = true) : ∃ a : UInt8, n = (a.toNat : Int) := by
  simp [Lit.wf, IntKind.min, IntKind.max, IntKind.signed, IntKind.bits] at h
  refine ⟨UInt8.ofNat n.toNat, ?_⟩
  rw [UInt8.toNat_ofNat']
  omega
end Go.Proofs.YteoeaojebklfjaaGreatDoor
namespace Go.Proofs.YteoeaojebklfjaaGreatDoor
open Go.RowKit Go.Maps
set_option linter.unusedVariables false
set_option linter.unusedSimpArgs false
set_option maxRecDepth 20000
structure MPg where
  n : Int
  known : Bool
  text : ByteArray
def MPg.vs (p : MPg) : List Value := [.int .i64 p.n, .bool p.known, .string p.text]
def mrow (l : List MPg) : List Value := l.flatMap MPg.vs
structure Mi where
  pages : Int
  now : List MPg
  kept : List MPg
  root : Int
  kroot : Int
  ch : List Int
structure Mv where
  n : Value
  k : Value
  c : Value
def mS (M : Nat) (v : Mv) (k : Nat) : Prop := k = M ∨ v.n.ownBlock = some k ∨ v.k.ownBlock = some k ∨ v.c.ownBlock = some k
def ints (l : List Int) : List Value := l.map (Value.int .i64)
def Mi.vs (m : Mi) (v : Mv) : List Value := [.int .i64 m.pages, v.n, v.k, .int .i64 m.root, .int .i64 m.kroot, v.c]
structure MindAt (w : World) (M : Nat) (v : Mv) (m : Mi) : Prop where
  cells : CellsR w M (m.vs v)
  now : Vec w 3 v.n m.now.length (mrow m.now)
  kept : Vec w 3 v.k m.kept.length (mrow m.kept)
  ch : Vec w 1 v.c m.ch.length (ints m.ch)
  an : v.n.ownBlock ≠ some M
  ak : v.k.ownBlock ≠ some M
  ac : v.c.ownBlock ≠ some M
  nk : ∀ g, v.n.ownBlock = some g → v.k.ownBlock ≠ some g
  nc : ∀ g, v.n.ownBlock = some g → v.c.ownBlock ≠ some g
  kc : ∀ g, v.k.ownBlock = some g → v.c.ownBlock ≠ some g
theorem mrow_len : ∀ l : List MPg, (mrow l).length = l.length * 3
  | [] => rfl
  | p :: l => by
    have := mrow_len l
    unfold mrow at this ⊢
    rw [List.flatMap_cons, List.length_append, this, List.length_cons]
    show 3 + _ = _
    omega
theorem mrow_at : ∀ (l : List MPg) (i : Nat) {p : MPg}, l[i]? = some p → (mrow l)[i * 3]? = some (.int .i64 p.n) ∧ (mrow l)[i * 3 + 1]? = some (.bool p.known) ∧ (mrow l)[i * 3 + 2]? = some (.string p.text)
  | [], i, p, h => by simp at h
  | q :: l, 0, p, h => by
    simp at h; subst h
    exact ⟨rfl, rfl, rfl⟩
  | q :: l, i + 1, p, h => by
    have h' : l[i]? = some p := by simpa using h
    obtain ⟨a, b, c⟩ := mrow_at l i h'
    have e : mrow (q :: l) = .int .i64 q.n :: .bool q.known :: .string q.text :: mrow l := rfl
    have e1 : (i + 1) * 3 = i * 3 + 3 := by omega
    rw [e, e1]
    exact ⟨by simpa using a, by simpa using b, by simpa using c⟩
theorem mrow_append (a b : List MPg) : mrow (a ++ b) = mrow a ++ mrow b := List.flatMap_append ..
theorem mrow_one : ∀ l : List MPg, ∀ u ∈ mrow l, u.oneCell' = true := fun l u hu => by
  unfold mrow at hu
  obtain ⟨p, _, hp⟩ := List.mem_flatMap.1 hu
  unfold MPg.vs at hp
  simp at hp
  rcases hp with rfl | rfl | rfl <;> rfl
section
variable {w w' : World} {M : Nat} {v : Mv} {m : Mi} {S : Nat → Prop}
theorem MindAt.lt (h : MindAt w M v m) {k : Nat} (hk : mS M v k) : k < w.heap.size := by
  rcases hk with rfl | e | e | e
  · exact h.cells.lt
  · exact h.now.lt e
  · exact h.kept.lt e
  · exact h.ch.lt e
theorem MindAt.only (h : MindAt w M v m) (o : Only S w w') (hS : ∀ k, mS M v k → ¬ S k) : MindAt w' M v m :=
  ⟨h.cells.kept o (hS M (.inl rfl)), h.now.only o fun g hg => hS g (.inr (.inl hg)), h.kept.only o fun g hg => hS g (.inr (.inr (.inl hg))), h.ch.only o fun g hg => hS g (.inr (.inr (.inr hg))), h.an, h.ak, h.ac, h.nk, h.nc, h.kc⟩
theorem MindAt.new (h : MindAt w M v m) (o : Only None' w w') : MindAt w' M v m := h.only o fun _ _ e => e
theorem MindAt.page (h : MindAt w M v m) {i : Nat} {p : MPg} (hi : m.now[i]? = some p) : ∃ g off cap, v.n = .slice (some ⟨g, off, none⟩) m.now.length cap ∧ w.cell? ⟨g, off + i * 3, none⟩ = some (.int .i64 p.n) ∧ w.cell? ⟨g, off + (i * 3 + 1), none⟩ = some (.bool p.known) ∧ w.cell? ⟨g, off + (i * 3 + 2), none⟩ = some (.string p.text) := by
  obtain ⟨hl, _⟩ := List.getElem?_eq_some_iff.1 hi
  obtain ⟨g, off, cap, e, _, _, _, hc, _⟩ := h.now.at_ (by omega)
  obtain ⟨a, b, c⟩ := mrow_at m.now i hi
  exact ⟨g, off, cap, e, hc _ _ a, hc _ _ b, hc _ _ c⟩
end
def findP (l : List MPg) (n : Int) : Int := match l.findIdx? fun p => p.n == n with
  | some i => (i : Int)
  | none => -1
section
variable {w w' : World} {M : Nat} {v : Mv} {m : Mi}
set_option maxHeartbeats 2000000 in
theorem mfind (h : MindAt w M v m) (n : Int) (hb : m.now.length ≤ 1000000) : Calls Tryz.prog 60 #[.pointer (some ⟨M, 0, none⟩), .int .i64 n] w fun e w' => e = .returned (.int .i64 (findP m.now n)) ∧ w = w' := by
  have hc1 := h.cells.is 1 _ rfl
  obtain ⟨a, cap, hve, _, _⟩ := h.now.shape
  obtain ⟨vn, hvn⟩ : ∃ vn, vn = v.n := ⟨_, rfl⟩
  rw [hve] at hc1
  obtain ⟨len, hlen⟩ : ∃ len, len = m.now.length := ⟨_, rfl⟩
  have H := Lib.hid (And.intro h (And.intro hve (And.intro hlen (show len ≤ 1000000 by omega))))
  rw [← hlen] at hc1
  have l6 : (len : Int) ≤ 1000000 := by omega
  clear h hve hvn hb hlen vn
  go_enter Tryz.func60, Tryz.ntmps60
  go_wp2_with fail
  go_loopg [5] len (fun gg t wr => ∃ (i : Nat), gg = len - i ∧ i ≤ len ∧ t = .int .i64 (i : Int) ∧ wr = w ∧ Hid (∀ j, j < i → ∀ p, m.now[j]? = some p → p.n ≠ n))
  case atStart => exact ⟨0, rfl, Nat.zero_le _, rfl, rfl, Lib.hid fun j hj => by omega⟩
  case round =>
    obtain ⟨i, rfl, hi, rfl, rfl, HA⟩ := hrel
    by_cases hlt : i < len
    · have i0 : (0 : Int) ≤ (i : Int) := by omega
      have i1 : (i : Int) < (len : Int) := by omega
      obtain ⟨p, hp⟩ : ∃ p, m.now[i]? = some p := ⟨_, List.getElem?_eq_getElem (by have := H.out.2.2.1; omega)⟩
      obtain ⟨g, off, cap2, e, cl, _⟩ := H.out.1.page hp
      rw [H.out.2.1] at e
      injection e with e e2 e3
      subst e; subst e3
      clear e2
      have HI := Lib.hid (And.intro hlt hp)
      clear hi hlt
      by_cases hpn : p.n = n
      · have hpb : (p.n == n) = true := by simpa using hpn
        have HE : Hid (findP m.now n = (i : Int)) := Lib.hid (by
          unfold findP
          have hl : i < m.now.length := by have := H.out.2.2.1; have := HI.out.1; omega
          have : (m.now.findIdx? fun p => p.n == n) = some i := by
            rw [List.findIdx?_eq_some_iff_getElem]
            refine ⟨hl, ?_, fun j hj => ?_⟩
            · have e2 : m.now[i] = p := by have := List.getElem?_eq_getElem hl; rw [hp] at this; injection this with this; exact this.symm
              rw [e2]; simpa using hpn
            · have := HA.out j hj (m.now[j]'(by omega)) (List.getElem?_eq_getElem (by omega))
              simpa using this
          rw [this])
        clear hpn
        go_wp2_with fail
        go_ret
        rw [HE.out]
        exact ⟨rfl, rfl⟩
      · have hpb : (p.n == n) = false := by simpa using hpn
        have HE := Lib.hid hpn
        clear hpn
        go_wp2_with fail
        go_roundg (len - (i + 1))
        case rel =>
          refine ⟨i + 1, rfl, HI.out.1, by first | exact next_int (by have := HI.out.1; have := H.out.2.2.2; omega) | rfl | (congr 1), rfl, Lib.hid fun j hj q hq => ?_⟩
          rcases Nat.lt_or_ge j i with e | e
          · exact HA.out j e q hq
          · have : j = i := by omega
            subst this
            rw [HI.out.2] at hq
            injection hq with hq
            exact hq ▸ HE.out
        case measure => have := HI.out.1; omega
    · have i1 : ¬ (i : Int) < (len : Int) := by omega
      have HE : Hid (findP m.now n = -1) := Lib.hid (by
        unfold findP
        have : (m.now.findIdx? fun p => p.n == n) = none := by
          rw [List.findIdx?_eq_none_iff]
          intro q hq
          obtain ⟨j, hj⟩ := List.mem_iff_getElem?.1 hq
          have := HA.out j (by have := (List.getElem?_eq_some_iff.1 hj).1; have := H.out.2.2.1; omega) q hj
          simpa using this
        rw [this])
      clear hlt hi
      go_wp2_with fail
      go_ret
      rw [HE.out]
      exact ⟨rfl, rfl⟩
end
section
variable {w w' : World} {M : Nat} {v : Mv} {m : Mi}
theorem MindAt.setN (h : MindAt w M v m) {x : Value} {l : List MPg} (hv : Vec w 3 x l.length (mrow l)) (hf : ∀ g, x.ownBlock = some g → g ≠ M ∧ v.k.ownBlock ≠ some g ∧ v.c.ownBlock ≠ some g) : MindAt (w.setCell ⟨M, 1, none⟩ x) M { v with n := x } { m with now := l } := by
  have o := (Only.refl (fun k => k = M) w).setCell (p := ⟨M, 1, none⟩) rfl x
  exact ⟨h.cells.set (i := 1) (by simp [Mi.vs]) x, hv.only o fun g hg e => (hf g hg).1 e, h.kept.only o fun g hg e => h.ak (e ▸ hg), h.ch.only o fun g hg e => h.ac (e ▸ hg), fun e => (hf M e).1 rfl, h.ak, h.ac, fun g hg => (hf g hg).2.1, fun g hg => (hf g hg).2.2, h.kc⟩
theorem MindAt.setK (h : MindAt w M v m) {x : Value} {l : List MPg} (hv : Vec w 3 x l.length (mrow l)) (hf : ∀ g, x.ownBlock = some g → g ≠ M ∧ v.n.ownBlock ≠ some g ∧ v.c.ownBlock ≠ some g) : MindAt (w.setCell ⟨M, 2, none⟩ x) M { v with k := x } { m with kept := l } := by
  have o := (Only.refl (fun k => k = M) w).setCell (p := ⟨M, 2, none⟩) rfl x
  exact ⟨h.cells.set (i := 2) (by simp [Mi.vs]) x, h.now.only o fun g hg e => h.an (e ▸ hg), hv.only o fun g hg e => (hf g hg).1 e, h.ch.only o fun g hg e => h.ac (e ▸ hg), h.an, fun e => (hf M e).1 rfl, h.ac, fun g hg e => (hf g e).2.1 hg, h.nc, fun g hg => (hf g hg).2.2⟩
theorem MindAt.setC (h : MindAt w M v m) {x : Value} {l : List Int} (hv : Vec w 1 x l.length (ints l)) (hf : ∀ g, x.ownBlock = some g → g ≠ M ∧ v.n.ownBlock ≠ some g ∧ v.k.ownBlock ≠ some g) : MindAt (w.setCell ⟨M, 5, none⟩ x) M { v with c := x } { m with ch := l } := by
  have o := (Only.refl (fun k => k = M) w).setCell (p := ⟨M, 5, none⟩) rfl x
  exact ⟨h.cells.set (i := 5) (by simp [Mi.vs]) x, h.now.only o fun g hg e => h.an (e ▸ hg), h.kept.only o fun g hg e => h.ak (e ▸ hg), hv.only o fun g hg e => (hf g hg).1 e, h.an, h.ak, fun e => (hf M e).1 rfl, h.nk, fun g hg e => (hf g e).2.1 hg, fun g hg e => (hf g e).2.2 hg⟩
theorem MindAt.setR (h : MindAt w M v m) (r : Int) : MindAt (w.setCell ⟨M, 3, none⟩ (.int .i64 r)) M v { m with root := r } := by
  have o := (Only.refl (fun k => k = M) w).setCell (p := ⟨M, 3, none⟩) rfl (.int .i64 r)
  exact ⟨h.cells.set (i := 3) (by simp [Mi.vs]) _, h.now.only o fun g hg e => h.an (e ▸ hg), h.kept.only o fun g hg e => h.ak (e ▸ hg), h.ch.only o fun g hg e => h.ac (e ▸ hg), h.an, h.ak, h.ac, h.nk, h.nc, h.kc⟩
theorem MindAt.setKR (h : MindAt w M v m) (r : Int) : MindAt (w.setCell ⟨M, 4, none⟩ (.int .i64 r)) M v { m with kroot := r } := by
  have o := (Only.refl (fun k => k = M) w).setCell (p := ⟨M, 4, none⟩) rfl (.int .i64 r)
  exact ⟨h.cells.set (i := 4) (by simp [Mi.vs]) _, h.now.only o fun g hg e => h.an (e ▸ hg), h.kept.only o fun g hg e => h.ak (e ▸ hg), h.ch.only o fun g hg e => h.ac (e ▸ hg), h.an, h.ak, h.ac, h.nk, h.nc, h.kc⟩
theorem one_mS (x : Value) (i : Nat) : Kept (mS M v) (mS M v) w (w.setCell ⟨M, i, none⟩ x) := Kept.only' ((Only.refl (mS M v) w).setCell (p := ⟨M, i, none⟩) (.inl rfl) x)
end
theorem info99 : Tryz.prog.info? 99 = some Tryz.t99 := by kernel_rfl
theorem t99_zero : Tryz.t99.zero = some (.agg #[.int .i64 0, .bool false, .string ⟨#[]⟩]) := by kernel_rfl
theorem t99_size : Tryz.t99.size = 3 := by kernel_rfl
theorem t99_bytes : Tryz.t99.bytes = 32 := by kernel_rfl
theorem vec_empty3 (w : World) (t : TypeId) : Vec (w.alloc (.cells #[] t)) 3 (.slice (some ⟨w.heap.size, 0, none⟩) 0 0) 0 [] :=
  ⟨rfl, .inr ⟨w.heap.size, 0, 0, rfl, Nat.le_refl _, Nat.zero_le _, by simp, fun j u hu => by simp at hu, fun j hj => by omega⟩⟩
theorem copied {w w5 : World} {l : List MPg} {a2 : Option Addr} {c2 : Nat} (hv2 : Vec w5 3 (.slice a2 (0 + l.length) c2) (0 + l.length) ([] ++ mrow l)) (hg2 : (w.alloc (.cells #[] 99)).grownBy w5 (Value.slice (some ⟨w.heap.size, 0, none⟩) 0 0).ownBlock) (hf2 : ∀ k, (Value.slice a2 (0 + l.length) c2).ownBlock = some k → (Value.slice (some ⟨w.heap.size, 0, none⟩) 0 0).ownBlock = some k ∨ (w.alloc (.cells #[] 99)).heap.size ≤ k) : Vec w5 3 (.slice a2 (0 + l.length) c2) l.length (mrow l) ∧ (∀ k, (Value.slice a2 (0 + l.length) c2).ownBlock = some k → w.heap.size ≤ k) ∧ Only None' w w5 := by
  refine ⟨by simpa using hv2, fun k hk => ?_, ?_⟩
  · rcases hf2 k hk with h2 | h2
    · injection h2 with h2
      have h3 : w.heap.size = k := h2
      omega
    · simp at h2; omega
  · exact ((Only.refl None' w).alloc (.cells #[] 99)).trans2 ((Only.refl (fun k => k = w.heap.size) _).grown hg2 fun k hk => by injection hk with hk; exact hk.symm) fun k hk e => by omega
def Mi.commit (m : Mi) : Mi := { m with kept := m.now, kroot := m.root, ch := [] }
def Mi.abort (m : Mi) : Mi := { m with now := m.kept, root := m.kroot, ch := [] }
section
variable {w w' : World} {M : Nat} {v : Mv} {m : Mi}
set_option maxHeartbeats 2000000 in
theorem mcommit (h : MindAt w M v m) (hb : m.now.length ≤ 1000000) : Calls Tryz.prog 36 #[.pointer (some ⟨M, 0, none⟩)] w fun e w' => e = .returned (.tuple #[]) ∧ ∃ v', MindAt w' M v' m.commit ∧ Kept (mS M v) (mS M v') w w' := by
  obtain ⟨an, cn, hvn, _, _⟩ := h.now.shape
  have hc1 := (h.new ((Only.refl None' w).alloc (.cells #[] 99))).cells.is 1 _ rfl
  have hr := (h.new ((Only.refl None' w).alloc (.cells #[] 99))).now.rd
  rw [hvn] at hc1 hr
  have HR := Lib.hid hr
  have HV := Lib.hid (vec_empty3 w 99)
  have HB := Lib.hid hb
  have H := Lib.hid h
  clear h hb hr hvn
  go_enter Tryz.func36, Tryz.ntmps36
  go_wp2_with (first | (at_builtin; go_loud (refine wpList_append_any rfl _ _ 48 rfl 99 Tryz.t99 (.agg #[.int .i64 0, .bool false, .string ⟨#[]⟩]) 3 32 Tryz.underlying48 info99 t99_zero t99_size t99_bytes rfl (by decide) (.slice (some ⟨w.heap.size, 0, none⟩) 0 0) 0 [] rfl HV.out (.slice an m.now.length cn) m.now.length (mrow m.now) rfl HR.out (mrow_one _) (by have := HB.out; unfold maxLen; omega) (by have := HB.out; omega) ?_); intro v2 w5 hv2 hg2 hf2; obtain ⟨a2, c2, rfl, _, _⟩ := hv2.shape; have HY := Lib.hid (copied hv2 hg2 hf2); clear hv2 hg2 hf2; have hc2 := (H.out.new HY.out.2.2).cells.is 2 _ rfl; have ht2 := (H.out.new HY.out.2.2).cells.thaw 2; have hc3 := (H.out.new HY.out.2.2).cells.is 3 _ rfl; have hc4 := (H.out.new HY.out.2.2).cells.is 4 _ rfl; have ht4 := (H.out.new HY.out.2.2).cells.thaw 4; have hc5 := (H.out.new HY.out.2.2).cells.is 5 _ rfl; have ht5 := (H.out.new HY.out.2.2).cells.thaw 5))
  go_end0
  have hv := HY.out.1
  have hf := HY.out.2.1
  rw [Nat.zero_add] at hv hf
  have h5 := H.out.new HY.out.2.2
  have hlt := fun k (hk : mS M v k) => H.out.lt hk
  have h6 := h5.setK hv fun g hg => ⟨fun e => by have := hf g hg; have := hlt M (.inl rfl); omega, fun e => by have := hf g hg; have := hlt g (.inr (.inl e)); omega, fun e => by have := hf g hg; have := hlt g (.inr (.inr (.inr e))); omega⟩
  have h7 := (h6.setKR m.root).setC (x := .slice none 0 0) (l := []) (Vec.nil _ _) (fun g hg => by cases hg)
  have o : Only (mS M v) w5 _ := (((Only.refl (mS M v) w5).setCell (p := ⟨M, 2, none⟩) (.inl rfl) (.slice a2 m.now.length c2)).setCell (p := ⟨M, 4, none⟩) (.inl rfl) (.int .i64 m.root)).setCell (p := ⟨M, 5, none⟩) (.inl rfl) (.slice none 0 0)
  refine ⟨rfl, _, h7, ((Kept.new HY.out.2.2).trans (Kept.only' o)).only, fun k hk => ?_⟩
  rcases hk with e | e | e | e
  · exact .inl (.inl e)
  · exact .inl (.inr (.inl e))
  · exact .inr (hf k e)
  · cases e
set_option maxHeartbeats 2000000 in
theorem mabort (h : MindAt w M v m) (hb : m.kept.length ≤ 1000000) : Calls Tryz.prog 37 #[.pointer (some ⟨M, 0, none⟩)] w fun e w' => e = .returned (.tuple #[]) ∧ ∃ v', MindAt w' M v' m.abort ∧ Kept (mS M v) (mS M v') w w' := by
  obtain ⟨an, cn, hvn, _, _⟩ := h.kept.shape
  have hc1 := (h.new ((Only.refl None' w).alloc (.cells #[] 99))).cells.is 2 _ rfl
  have hr := (h.new ((Only.refl None' w).alloc (.cells #[] 99))).kept.rd
  rw [hvn] at hc1 hr
  have HR := Lib.hid hr
  have HV := Lib.hid (vec_empty3 w 99)
  have HB := Lib.hid hb
  have H := Lib.hid h
  clear h hb hr hvn
  go_enter Tryz.func37, Tryz.ntmps37
  go_wp2_with (first | (at_builtin; go_loud (refine wpList_append_any rfl _ _ 48 rfl 99 Tryz.t99 (.agg #[.int .i64 0, .bool false, .string ⟨#[]⟩]) 3 32 Tryz.underlying48 info99 t99_zero t99_size t99_bytes rfl (by decide) (.slice (some ⟨w.heap.size, 0, none⟩) 0 0) 0 [] rfl HV.out (.slice an m.kept.length cn) m.kept.length (mrow m.kept) rfl HR.out (mrow_one _) (by have := HB.out; unfold maxLen; omega) (by have := HB.out; omega) ?_); intro v2 w5 hv2 hg2 hf2; obtain ⟨a2, c2, rfl, _, _⟩ := hv2.shape; have HY := Lib.hid (copied hv2 hg2 hf2); clear hv2 hg2 hf2; have hc2 := (H.out.new HY.out.2.2).cells.is 1 _ rfl; have ht2 := (H.out.new HY.out.2.2).cells.thaw 1; have hc3 := (H.out.new HY.out.2.2).cells.is 4 _ rfl; have hc4 := (H.out.new HY.out.2.2).cells.is 3 _ rfl; have ht4 := (H.out.new HY.out.2.2).cells.thaw 3; have hc5 := (H.out.new HY.out.2.2).cells.is 5 _ rfl; have ht5 := (H.out.new HY.out.2.2).cells.thaw 5))
  go_end0
  have hv := HY.out.1
  have hf := HY.out.2.1
  rw [Nat.zero_add] at hv hf
  have h5 := H.out.new HY.out.2.2
  have hlt := fun k (hk : mS M v k) => H.out.lt hk
  have h6 := h5.setN hv fun g hg => ⟨fun e => by have := hf g hg; have := hlt M (.inl rfl); omega, fun e => by have := hf g hg; have := hlt g (.inr (.inr (.inl e))); omega, fun e => by have := hf g hg; have := hlt g (.inr (.inr (.inr e))); omega⟩
  have h7 := (h6.setR m.kroot).setC (x := .slice none 0 0) (l := []) (Vec.nil _ _) (fun g hg => by cases hg)
  have o : Only (mS M v) w5 _ := (((Only.refl (mS M v) w5).setCell (p := ⟨M, 1, none⟩) (.inl rfl) (.slice a2 m.kept.length c2)).setCell (p := ⟨M, 3, none⟩) (.inl rfl) (.int .i64 m.kroot)).setCell (p := ⟨M, 5, none⟩) (.inl rfl) (.slice none 0 0)
  refine ⟨rfl, _, h7, ((Kept.new HY.out.2.2).trans (Kept.only' o)).only, fun k hk => ?_⟩
  rcases hk with e | e | e | e
  · exact .inl (.inl e)
  · exact .inr (hf k e)
  · exact .inl (.inr (.inr (.inl e)))
  · cases e
end
end Go.Proofs.YteoeaojebklfjaaGreatDoor
namespace Go.Proofs.YteoeaojebklfjaaGreatDoor
open Go.RowKit Go.Maps
set_option linter.unusedVariables false
set_option linter.unusedSimpArgs false
set_option maxRecDepth 20000
section
variable {a : Act} {o : Oper} {x y z : Operand} {g off : Nat}
theorem y_f50_0 (w : World) (ho : o.op = .fieldAddr 50 x 0) (hx : a.eval x = .pointer (some ⟨g, off, none⟩)) : (execOp a.eval o).run Tryz.prog w = .ok (.value (.pointer (some ⟨g, off, none⟩))) w := by
  unfold execOp
  simp only [ho, hx]
  go_simp
theorem y_f50_1 (w : World) (ho : o.op = .fieldAddr 50 x 1) (hx : a.eval x = .pointer (some ⟨g, off, none⟩)) : (execOp a.eval o).run Tryz.prog w = .ok (.value (.pointer (some ⟨g, off + 1, none⟩))) w := by
  unfold execOp
  simp only [ho, hx]
  go_simp
theorem y_f50_2 (w : World) (ho : o.op = .fieldAddr 50 x 2) (hx : a.eval x = .pointer (some ⟨g, off, none⟩)) : (execOp a.eval o).run Tryz.prog w = .ok (.value (.pointer (some ⟨g, off + 2, none⟩))) w := by
  unfold execOp
  simp only [ho, hx]
  go_simp
theorem y_f50_3 (w : World) (ho : o.op = .fieldAddr 50 x 3) (hx : a.eval x = .pointer (some ⟨g, off, none⟩)) : (execOp a.eval o).run Tryz.prog w = .ok (.value (.pointer (some ⟨g, off + 3, none⟩))) w := by
  unfold execOp
  simp only [ho, hx]
  go_simp
theorem y_f50_4 (w : World) (ho : o.op = .fieldAddr 50 x 4) (hx : a.eval x = .pointer (some ⟨g, off, none⟩)) : (execOp a.eval o).run Tryz.prog w = .ok (.value (.pointer (some ⟨g, off + 4, none⟩))) w := by
  unfold execOp
  simp only [ho, hx]
  go_simp
theorem y_f50_5 (w : World) (ho : o.op = .fieldAddr 50 x 5) (hx : a.eval x = .pointer (some ⟨g, off, none⟩)) : (execOp a.eval o).run Tryz.prog w = .ok (.value (.pointer (some ⟨g, off + 5, none⟩))) w := by
  unfold execOp
  simp only [ho, hx]
  go_simp
theorem y_f99_0 (w : World) (ho : o.op = .fieldAddr 99 x 0) (hx : a.eval x = .pointer (some ⟨g, off, none⟩)) : (execOp a.eval o).run Tryz.prog w = .ok (.value (.pointer (some ⟨g, off, none⟩))) w := by
  unfold execOp
  simp only [ho, hx]
  go_simp
theorem y_f99_1 (w : World) (ho : o.op = .fieldAddr 99 x 1) (hx : a.eval x = .pointer (some ⟨g, off, none⟩)) : (execOp a.eval o).run Tryz.prog w = .ok (.value (.pointer (some ⟨g, off + 1, none⟩))) w := by
  unfold execOp
  simp only [ho, hx]
  go_simp
theorem y_f99_2 (w : World) (ho : o.op = .fieldAddr 99 x 2) (hx : a.eval x = .pointer (some ⟨g, off, none⟩)) : (execOp a.eval o).run Tryz.prog w = .ok (.value (.pointer (some ⟨g, off + 2, none⟩))) w := by
  unfold execOp
  simp only [ho, hx]
  go_simp
theorem y_f54_0 (w : World) (ho : o.op = .fieldAddr 54 x 0) (hx : a.eval x = .pointer (some ⟨g, off, none⟩)) : (execOp a.eval o).run Tryz.prog w = .ok (.value (.pointer (some ⟨g, off, none⟩))) w := by
  unfold execOp
  simp only [ho, hx]
  go_simp
theorem y_f54_1 (w : World) (ho : o.op = .fieldAddr 54 x 1) (hx : a.eval x = .pointer (some ⟨g, off, none⟩)) : (execOp a.eval o).run Tryz.prog w = .ok (.value (.pointer (some ⟨g, off + 1, none⟩))) w := by
  unfold execOp
  simp only [ho, hx]
  go_simp
theorem y_f54_2 (w : World) (ho : o.op = .fieldAddr 54 x 2) (hx : a.eval x = .pointer (some ⟨g, off, none⟩)) : (execOp a.eval o).run Tryz.prog w = .ok (.value (.pointer (some ⟨g, off + 2, none⟩))) w := by
  unfold execOp
  simp only [ho, hx]
  go_simp
theorem y_f54_3 (w : World) (ho : o.op = .fieldAddr 54 x 3) (hx : a.eval x = .pointer (some ⟨g, off, none⟩)) : (execOp a.eval o).run Tryz.prog w = .ok (.value (.pointer (some ⟨g, off + 3, none⟩))) w := by
  unfold execOp
  simp only [ho, hx]
  go_simp
theorem y_load48 {w : World} {z : Option Addr} {n m : Nat} (ho : o.op = .load 48 x) (hx : a.eval x = .pointer (some ⟨g, off, none⟩)) (hc : w.cell? ⟨g, off, none⟩ = some (.slice z n m)) : (execOp a.eval o).run Tryz.prog w = .ok (.value (.slice z n m)) w := by
  unfold execOp
  simp only [ho, hx]
  go_simp
theorem y_len48 {w : World} {z : Option Addr} {n m : Nat} (ho : o.op = .call { callee := .builtin .len, args := #[x], argTypes := #[48] }) (hx : a.eval x = .slice z n m) : (execOp a.eval o).run Tryz.prog w = .ok (.value (.int .i64 (n : Int))) w := by
  unfold execOp
  simp only [ho, resolve, invoke, builtin, Sem.run_bind, Sem.run_pure, Result.andThen_ok, List.map_toArray, List.map_cons, List.map_nil, hx]
  go_simp
theorem y_load28 {w : World} {z : Option Addr} {n m : Nat} (ho : o.op = .load 28 x) (hx : a.eval x = .pointer (some ⟨g, off, none⟩)) (hc : w.cell? ⟨g, off, none⟩ = some (.slice z n m)) : (execOp a.eval o).run Tryz.prog w = .ok (.value (.slice z n m)) w := by
  unfold execOp
  simp only [ho, hx]
  go_simp
theorem y_len28 {w : World} {z : Option Addr} {n m : Nat} (ho : o.op = .call { callee := .builtin .len, args := #[x], argTypes := #[28] }) (hx : a.eval x = .slice z n m) : (execOp a.eval o).run Tryz.prog w = .ok (.value (.int .i64 (n : Int))) w := by
  unfold execOp
  simp only [ho, resolve, invoke, builtin, Sem.run_bind, Sem.run_pure, Result.andThen_ok, List.map_toArray, List.map_cons, List.map_nil, hx]
  go_simp
theorem call61_ (args : Array Value) (w : World) : (callFunc 61 args).run Tryz.prog w = .ok (.enter 61 args) w := by go_simp
end
def Mi.free (m : Mi) : Int := m.pages - 1 - (m.now.length : Int)
def touchL (l : List Int) (n : Int) : List Int := if n ∈ l then l else l ++ [n]
def Mi.touch (m : Mi) (n : Int) : Mi := { m with ch := touchL m.ch n }
def Mi.take (m : Mi) (n : Int) : Mi := ({ m with now := m.now ++ [⟨n, false, ⟨#[]⟩⟩] } : Mi).touch n
def Mi.drop (m : Mi) (n : Int) : Mi := ({ m with now := m.now.filter fun p => p.n != n } : Mi).touch n
section
variable {w w' : World} {M : Nat} {v : Mv} {m : Mi}
theorem mfree (h : MindAt w M v m) (hb : m.now.length ≤ 1000000) (hp : 0 ≤ m.pages ∧ m.pages ≤ 1000000) : Calls Tryz.prog 61 #[.pointer (some ⟨M, 0, none⟩)] w fun e w' => e = .returned (.int .i64 m.free) ∧ Only None' w w' := by
  obtain ⟨an, cn, hvn, _, _⟩ := h.now.shape
  have HC : Hid (∀ w', Only None' w w' → CellsR w' M (m.vs v)) := Lib.hid fun w' o => h.cells.kept o fun e => e
  have HC1 : Hid (∀ w', Only None' w w' → w'.cell? ⟨M, 1, none⟩ = some (.slice an m.now.length cn)) := Lib.hid fun w' o => by rw [← hvn]; exact (HC.out w' o).is 1 _ rfl
  obtain ⟨x, hx⟩ : ∃ x, x = m.pages - 1 := ⟨_, rfl⟩
  obtain ⟨y, hy⟩ : ∃ y, y = m.free := ⟨_, rfl⟩
  obtain ⟨len, hlen⟩ : ∃ len, len = m.now.length := ⟨_, rfl⟩
  have hy' := hy
  unfold Mi.free at hy'
  rw [← hlen] at HC1
  have HX := Lib.hid (And.intro hx.symm (And.intro (show x - (len : Int) = y by rw [hy', hx, hlen]) (show -30000000000 ≤ x ∧ x ≤ 30000000000 ∧ -30000000000 ≤ y ∧ y ≤ 30000000000 by omega)))
  rw [← hy]
  clear h hb hp hx hy hy' hvn hlen
  go_enter Tryz.func61, Tryz.ntmps61
  go_upto_region 1 with fail
  refine r_begin (S := None') (by kernel_rfl) ?_
  have HS := Lib.hid (Only.refl (None') w)
  refine r_take 0 (.pointer (some ⟨M, 0, none⟩)) rfl (by kernel_rfl) (fun _ _ _ h => h) HS.out (YR.pure (by rfl) fun w hw => y_move w rfl rfl) ?_
  simp only [Act.put, zA, zB, zC]
  refine r_take 1 (.pointer (some ⟨M, 0, none⟩)) rfl (by kernel_rfl) (fun _ _ _ h => h) HS.out (YR.pure (by rfl) fun w hw => y_nil w rfl rfl) ?_
  simp only [Act.put, zA, zB, zC]
  refine r_take 2 (.pointer (some ⟨M, 0, none⟩)) rfl (by kernel_rfl) (fun _ _ _ h => h) HS.out (YR.pure (by rfl) fun w hw => y_f50_0 w rfl rfl) ?_
  simp only [Act.put, zA, zB, zC]
  refine r_take 3 (.int .i64 m.pages) rfl (by kernel_rfl) (fun _ _ _ h => h) HS.out (YR.pure (by rfl) fun w hw => y_load3 rfl rfl ((HC.out w hw).is 0 _ rfl)) ?_
  simp only [Act.put, zA, zB, zC]
  refine r_take 4 (.int .i64 x) rfl (by kernel_rfl) (fun _ _ _ h => h) HS.out (YR.pure (by rfl) fun w hw => y_sub3 w HX.out.1 (by have := HX.out.2.2; omega) (by have := HX.out.2.2; omega) rfl rfl rfl) ?_
  simp only [Act.put, zA, zB, zC]
  refine r_take 5 (.pointer (some ⟨M, 0, none⟩)) rfl (by kernel_rfl) (fun _ _ _ h => h) HS.out (YR.pure (by rfl) fun w hw => y_move w rfl rfl) ?_
  simp only [Act.put, zA, zB, zC]
  refine r_take 6 (.pointer (some ⟨M, 0, none⟩)) rfl (by kernel_rfl) (fun _ _ _ h => h) HS.out (YR.pure (by rfl) fun w hw => y_nil w rfl rfl) ?_
  simp only [Act.put, zA, zB, zC]
  refine r_take 7 (.pointer (some ⟨M, 1, none⟩)) rfl (by kernel_rfl) (fun _ _ _ h => h) HS.out (YR.pure (by rfl) fun w hw => y_f50_1 w rfl rfl) ?_
  simp only [Act.put, zA, zB, zC]
  refine r_take 8 (.slice an len cn) rfl (by kernel_rfl) (fun _ _ _ h => h) HS.out (YR.pure (by rfl) fun w hw => y_load48 rfl rfl (HC1.out w hw)) ?_
  simp only [Act.put, zA, zB, zC]
  refine r_take 9 (.int .i64 (len : Int)) rfl (by kernel_rfl) (fun _ _ _ h => h) HS.out (YR.pure (by rfl) fun w hw => y_len48 rfl rfl) ?_
  simp only [Act.put, zA, zB, zC]
  refine r_take 10 (.int .i64 y) rfl (by kernel_rfl) (fun _ _ _ h => h) HS.out (YR.pure (by rfl) fun w hw => y_sub3 w HX.out.2.1 (by have := HX.out.2.2; omega) (by have := HX.out.2.2; omega) rfl rfl rfl) ?_
  simp only [Act.put, zA, zB, zC]
  refine r_take 11 (.int .i64 y) rfl (by kernel_rfl) (fun _ _ _ h => h) HS.out (YR.pure (by rfl) fun w hw => y_assign w rfl rfl) ?_
  simp only [Act.put, zA, zB, zC]
  refine r_done (by kernel_rfl) fun wz oz => ?_
  have HO := Lib.hid (HS.out.trans oz)
  clear HS oz
  go_wp2_with fail
  go_ret
  exact ⟨rfl, HO.out⟩
theorem MindAt.putC (h : MindAt w M v m) {w5 : World} (o : Only (fun k => v.c.ownBlock = some k) w w5) {x : Value} {l : List Int} (hv : Vec w5 1 x l.length (ints l)) (hf : ∀ g, x.ownBlock = some g → v.c.ownBlock = some g ∨ w.heap.size ≤ g) : MindAt (w5.setCell ⟨M, 5, none⟩ x) M { v with c := x } { m with ch := l } ∧ Kept (mS M v) (mS M { v with c := x }) w (w5.setCell ⟨M, 5, none⟩ x) := by
  have o5 := (Only.refl (fun k => k = M) w5).setCell (p := ⟨M, 5, none⟩) rfl x
  have hlt := fun k (hk : mS M v k) => h.lt hk
  refine ⟨⟨(h.cells.kept o h.ac).set (i := 5) (by simp [Mi.vs]) x, (h.now.only o fun g hg e => h.nc g hg e).only o5 fun g hg e => h.an (e ▸ hg), (h.kept.only o fun g hg e => h.kc g hg e).only o5 fun g hg e => h.ak (e ▸ hg), hv.only o5 fun g hg e => ?_, h.an, h.ak, fun e => ?_, h.nk, fun g hg e => ?_, fun g hg e => ?_⟩, (o.mono fun k _ e => .inr (.inr (.inr e))).trans2 o5 fun k _ e => .inl e, fun k hk => ?_⟩
  · rcases hf g hg with e2 | e2
    · exact h.ac (e ▸ e2)
    · have := hlt M (.inl rfl); omega
  · rcases hf M e with e2 | e2
    · exact h.ac e2
    · have := hlt M (.inl rfl); omega
  · rcases hf g e with e2 | e2
    · exact h.nc g hg e2
    · have := hlt g (.inr (.inl hg)); omega
  · rcases hf g e with e2 | e2
    · exact h.kc g hg e2
    · have := hlt g (.inr (.inr (.inl hg))); omega
  · rcases hk with e | e | e | e
    · exact .inl (.inl e)
    · exact .inl (.inr (.inl e))
    · exact .inl (.inr (.inr (.inl e)))
    · exact (hf k e).imp (fun e => .inr (.inr (.inr e))) id
theorem MindAt.putN (h : MindAt w M v m) {w5 : World} (o : Only (fun k => v.n.ownBlock = some k) w w5) {x : Value} {l : List MPg} (hv : Vec w5 3 x l.length (mrow l)) (hf : ∀ g, x.ownBlock = some g → v.n.ownBlock = some g ∨ w.heap.size ≤ g) : MindAt (w5.setCell ⟨M, 1, none⟩ x) M { v with n := x } { m with now := l } ∧ Kept (mS M v) (mS M { v with n := x }) w (w5.setCell ⟨M, 1, none⟩ x) := by
  have o5 := (Only.refl (fun k => k = M) w5).setCell (p := ⟨M, 1, none⟩) rfl x
  have hlt := fun k (hk : mS M v k) => h.lt hk
  refine ⟨⟨(h.cells.kept o h.an).set (i := 1) (by simp [Mi.vs]) x, hv.only o5 fun g hg e => ?_, (h.kept.only o fun g hg e => h.nk g e hg).only o5 fun g hg e => h.ak (e ▸ hg), (h.ch.only o fun g hg e => h.nc g e hg).only o5 fun g hg e => h.ac (e ▸ hg), fun e => ?_, h.ak, h.ac, fun g hg e => ?_, fun g hg e => ?_, h.kc⟩, (o.mono fun k _ e => .inr (.inl e)).trans2 o5 fun k _ e => .inl e, fun k hk => ?_⟩
  · rcases hf g hg with e2 | e2
    · exact h.an (e ▸ e2)
    · have := hlt M (.inl rfl); omega
  · rcases hf M e with e2 | e2
    · exact h.an e2
    · have := hlt M (.inl rfl); omega
  · rcases hf g hg with e2 | e2
    · exact h.nk g e2 e
    · have := hlt g (.inr (.inr (.inl e))); omega
  · rcases hf g hg with e2 | e2
    · exact h.nc g e2 e
    · have := hlt g (.inr (.inr (.inr e))); omega
  · rcases hk with e | e | e | e
    · exact .inl (.inl e)
    · exact (hf k e).imp (fun e => .inr (.inl e)) id
    · exact .inl (.inr (.inr (.inl e)))
    · exact .inl (.inr (.inr (.inr e)))
theorem one_int' (n : Int) : ∀ u ∈ [Value.int .i64 n], u.oneCell' = true := by intro u hu; simp at hu; subst hu; rfl
set_option maxHeartbeats 2000000 in
theorem mtouch (h : MindAt w M v m) (n : Int) (hb : m.ch.length ≤ 1000000) : Calls Tryz.prog 63 #[.pointer (some ⟨M, 0, none⟩), .int .i64 n] w fun e w' => e = .returned (.tuple #[]) ∧ ∃ v', MindAt w' M v' (m.touch n) ∧ Kept (mS M v) (mS M v') w w' := by
  obtain ⟨ac, cc, hvc, _, _⟩ := h.ch.shape
  have hc5 := h.cells.is 5 _ rfl
  have hv := (h.new ((Only.refl None' w).alloc (.cells #[.int .i64 n] 3))).ch
  have hc5a := (h.new ((Only.refl None' w).alloc (.cells #[.int .i64 n] 3))).cells.is 5 _ rfl
  rw [hvc] at hc5 hv hc5a
  obtain ⟨len, hlen⟩ : ∃ len, len = m.ch.length := ⟨_, rfl⟩
  have H := Lib.hid (And.intro h (And.intro hvc (And.intro hlen (show len ≤ 1000000 by omega))))
  rw [← hlen] at hc5 hv hc5a
  have HV := Lib.hid hv
  have hac := h.ac
  rw [hvc] at hac
  rw [← hlen] at hac
  have HAC : Hid (¬ (Value.slice ac len cc).ownBlock = some M) := Lib.hid hac
  clear hac
  have l6 : (len : Int) ≤ 1000000 := by omega
  clear h hvc hb hlen hv hc5a
  go_enter Tryz.func63, Tryz.ntmps63
  go_wp2_with fail
  go_loopg [4] len (fun gg t wr => ∃ (i : Nat), gg = len - i ∧ i ≤ len ∧ t = .int .i64 (i : Int) ∧ wr = w ∧ Hid (∀ j, j < i → ∀ p, m.ch[j]? = some p → p ≠ n))
  case atStart => exact ⟨0, rfl, Nat.zero_le _, rfl, rfl, Lib.hid fun j hj => by omega⟩
  case round =>
    obtain ⟨i, rfl, hi, rfl, rfl, HA⟩ := hrel
    by_cases hlt : i < len
    · have i0 : (0 : Int) ≤ (i : Int) := by omega
      have i1 : (i : Int) < (len : Int) := by omega
      obtain ⟨p, hp⟩ : ∃ p, m.ch[i]? = some p := ⟨_, List.getElem?_eq_getElem (by have := H.out.2.2.1; omega)⟩
      obtain ⟨g, off, cap2, e, _, _, _, hcs, _⟩ := H.out.1.ch.at_ (by have := H.out.2.2.1; omega)
      have cl := hcs i (.int .i64 p) (by unfold ints; rw [List.getElem?_map, hp]; rfl)
      clear hcs
      rw [H.out.2.1] at e
      injection e with e e2 e3
      subst e; subst e3
      clear e2
      have HI := Lib.hid (And.intro hlt hp)
      clear hi hlt
      by_cases hpn : p = n
      · have hpb : (p == n) = true := by simpa using hpn
        have HE : Hid (m.touch n = m) := Lib.hid (by
          unfold Mi.touch touchL
          rw [if_pos (hpn ▸ List.mem_of_getElem? HI.out.2)])
        clear hpn
        go_wp2_with fail
        (try simp only [Exit.inBlock, Exit.then])
        refine bodyPost_ret (results_none rfl _ _ _) rfl ?_
        rw [HE.out]
        exact ⟨rfl, _, H.out.1, Kept.refl _ _⟩
      · have hpb : (p == n) = false := by simpa using hpn
        have HE := Lib.hid hpn
        clear hpn
        go_wp2_with fail
        go_roundg (len - (i + 1))
        case rel =>
          refine ⟨i + 1, rfl, HI.out.1, by first | exact next_int (by have := HI.out.1; have := H.out.2.2.2; omega) | rfl | (congr 1), rfl, Lib.hid fun j hj q hq => ?_⟩
          rcases Nat.lt_or_ge j i with e | e
          · exact HA.out j e q hq
          · have : j = i := by omega
            subst this
            rw [HI.out.2] at hq
            injection hq with hq
            exact hq ▸ HE.out
        case measure => have := HI.out.1; omega
    · have i1 : ¬ (i : Int) < (len : Int) := by omega
      have HE : Hid (m.touch n = { m with ch := m.ch ++ [n] }) := Lib.hid (by
        unfold Mi.touch touchL
        rw [if_neg]
        intro hq
        obtain ⟨j, hj⟩ := List.mem_iff_getElem?.1 hq
        exact HA.out j (by have := (List.getElem?_eq_some_iff.1 hj).1; have := H.out.2.2.1; omega) n hj rfl)
      clear hlt hi
      go_wp2_with (first | (at_builtin; go_loud (refine wpList_append_any rfl _ _ 28 rfl 3 Tryz.t3 (.int .i64 0) 1 8 Tryz.underlying28 info3 t3_zero t3_size t3_bytes rfl (by decide) (.slice ac len cc) len (ints m.ch) rfl HV.out (.slice (some ⟨wr.heap.size, 0, none⟩) 1 1) 1 [.int .i64 n] rfl (rd_one' wr _ 3) (one_int' _) (by have := H.out.2.2.2; unfold maxLen; omega) (by have := H.out.2.2.2; omega) ?_); intro v2 w5 hv2 hg2 hf2; obtain ⟨a2, c2, rfl, _, _⟩ := hv2.shape; have HY := Lib.hid (And.intro hv2 (And.intro (((Only.refl (fun k => (Value.slice ac len cc).ownBlock = some k) wr).alloc (.cells #[.int .i64 n] 3)).grown hg2 fun k hk => hk) hf2)); have hq := (H.out.1.cells.kept HY.out.2.1 (fun e => HAC.out e)); have hq5 := hq.is 5 _ rfl; have hqt := hq.thaw 5; clear hv2 hg2 hf2 hq))
      go_end0
      have ov := HY.out.2.1
      rw [HE.out]
      have e1 : len + 1 = (m.ch ++ [n]).length := by rw [List.length_append, H.out.2.2.1]; rfl
      have e2 : ints m.ch ++ [Value.int .i64 n] = ints (m.ch ++ [n]) := by unfold ints; rw [List.map_append]; rfl
      have hv2 := HY.out.1
      have hf2 := HY.out.2.2
      rw [e2] at hv2
      have hvc := H.out.2.1
      rw [← H.out.2.2.1] at hvc
      rw [← hvc] at ov hf2
      have := H.out.1.putC ov (x := .slice a2 (len + 1) c2) (l := m.ch ++ [n]) (by rw [← e1]; exact hv2) fun g hg => (hf2 g hg).imp id fun e => by simp at e; omega
      exact ⟨rfl, _, this.1, this.2⟩
end
end Go.Proofs.YteoeaojebklfjaaGreatDoor
