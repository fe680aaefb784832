/- The puts that came in; what lasts, plainly, byte by byte. -/
import Derived.Test.YteoeaojebklfjaaE3
namespace Go.Proofs.Yteoeaojebklfjaa
open Go.RowKit Go.Maps Go.WideShapes
set_option linter.unusedVariables false

structure Put where
  at_ : Nat
  what : UInt8
  flush : Bool

structure At3 (w : World) (b o : Nat) (p : Put) : Prop where
  k0 : w.cell? ⟨b, o, none⟩ = some (.int .u8 (p.at_ : Int))
  k1 : w.cell? ⟨b, o + 1, none⟩ = some (.int .u8 (p.what.toNat : Int))
  k2 : w.cell? ⟨b, o + 2, none⟩ = some (.bool p.flush)

structure Puts (w : World) (a : Option Addr) (n : Nat) (ps : List Put) : Prop where
  len : ps.length = n
  small : n ≤ 140737488351232
  at_ : ∀ j (hj : j < ps.length), ∃ b off, a = some ⟨b, off, none⟩ ∧ b < w.heap.size ∧ At3 w b (off + j * 3) ps[j]
  byte : ∀ j (hj : j < ps.length), ps[j].at_ < 256

noncomputable def fs32 : Array Field := match Try.prog.underlying 32 with
  | some (.struct fs) => fs
  | _ => #[]
theorem under32 : Try.prog.underlying 32 = some (.struct fs32) := by kernel_rfl
theorem hone32 : Go.Deep.oneCellFields Try.prog fs32 = true := by kernel_rfl
theorem cells32 : Try.prog.cellsOf 32 = fs32.size := by kernel_rfl
theorem size32 : fs32.size = 3 := by kernel_rfl
theorem bytes32 : Try.prog.bytesOf 32 = 3 := by kernel_rfl
theorem under22 : Try.prog.underlying 22 = some (.slice 32) := by kernel_rfl
theorem cells4 : Try.prog.cellsOf 4 = 1 := by kernel_rfl
theorem bytes4 : Try.prog.bytesOf 4 = 1 := by kernel_rfl
theorem f32 : (fs32.toList.map (·.type)) = [5, 5, 4] := by kernel_rfl
theorem f32at (i : Nat) (t : TypeId) (h : (fs32.toList.map (·.type))[i]? = some t) : ∃ f, fs32[i]? = some f ∧ f.type = t := by
  rw [List.getElem?_map, Array.getElem?_toList] at h
  cases hf : fs32[i]? with
  | none => rw [hf] at h; cases h
  | some f => rw [hf] at h; injection h with h; exact ⟨f, rfl, h⟩

theorem reach_eq : reachBytes = 140737488351232 := by decide
theorem wf8 {n : Int} (h : (Lit.int .u8 n).wf = true) : 0 ≤ n ∧ n ≤ 255 := by
  have h1 : IntKind.min .u8 = 0 := by decide
  have h2 : IntKind.max .u8 = 255 := by decide
  simpa only [Lit.wf, h1, h2, Bool.and_eq_true, decide_eq_true_eq] using h
theorem byte_of {n : Int} (h : 0 ≤ n ∧ n ≤ 255) : ∃ c : UInt8, (c.toNat : Int) = n := by
  refine ⟨UInt8.ofNat n.toNat, ?_⟩
  have : (UInt8.ofNat n.toNat).toNat = n.toNat := UInt8.toNat_ofNat_of_lt' (by show n.toNat < 256; omega)
  rw [this]; omega

set_option maxRecDepth 20000 in
theorem open_puts {H : Type} {enc : TypeId × Value → H} {W : World} {base : Nat} {v : Value} {d : DataW H} {ps : List MemPlace}
    (hok : Value.okWide Try.prog W .any base 22 v) (hd : DataW.Trod enc Try.prog W 0 (fun _ => true) true 22 v d ps) (hw : ∀ n ∈ d.weights Try.prog 22, n ≤ reachBytes) :
    ∃ a len cap ss, v = .slice a len cap ∧ Puts W a len ss := by
  obtain ⟨a, len, cap, rfl, hle, _, hb, hc, hm, hat⟩ := open_flat under22 under32 hone32 cells32 hok hd hw
  rw [bytes32, reach_eq] at hle
  have key : ∀ j, j < len → ∃ s : Put, ∃ b off, a = some ⟨b, off, none⟩ ∧ b < W.heap.size ∧ At3 W b (off + j * 3) s ∧ s.at_ < 256 := by
    intro j hj
    obtain ⟨b, off, rfl, hf⟩ := hat j hj
    rw [size32] at hf
    obtain ⟨g0, e0, t0⟩ := f32at 0 5 (by rw [f32]; rfl)
    obtain ⟨g1, e1, t1⟩ := f32at 1 5 (by rw [f32]; rfl)
    obtain ⟨g2, e2, t2⟩ := f32at 2 4 (by rw [f32]; rfl)
    obtain ⟨u0, c0, s0⟩ := hf 0 g0 e0
    obtain ⟨u1, c1, s1⟩ := hf 1 g1 e1
    obtain ⟨u2, c2, s2⟩ := hf 2 g2 e2
    rw [t0] at s0; rw [t1] at s1; rw [t2] at s2
    obtain ⟨n0, rfl, l0⟩ := s0.int _ Try.underlying5
    obtain ⟨n1, rfl, l1⟩ := s1.int _ Try.underlying5
    obtain ⟨n2, rfl⟩ := s2.bool Try.underlying4
    have l0 := wf8 l0
    obtain ⟨c, hc⟩ := byte_of (wf8 l1)
    refine ⟨⟨n0.toNat, c, n2⟩, b, off, rfl, (hb _ rfl).2, ⟨?_, ?_, c2⟩, by show n0.toNat < 256; omega⟩
    · show _ = some (Value.int .u8 ((n0.toNat : Nat) : Int))
      rw [Int.toNat_of_nonneg l0.1]; exact c0
    · show _ = some (Value.int .u8 (c.toNat : Int))
      rw [hc]; exact c1
  obtain ⟨ss, hl, hp⟩ := list_of _ len key
  refine ⟨a, len, cap, ss, rfl, ⟨hl, by omega, fun j hj => ?_, fun j hj => ?_⟩⟩
  · obtain ⟨b, off, h1, h2, h3, _⟩ := hp j hj
    exact ⟨b, off, h1, h2, h3⟩
  · obtain ⟨_, _, _, _, _, h⟩ := hp j hj
    exact h

theorem At3.old {w w' : World} {b o : Nat} {p : Put} (h : At3 w b o p) (hb : b < w.heap.size) (hO : Only None' w w') : At3 w' b o p :=
  ⟨(hO.cell hb (fun e => e) o).trans h.k0, (hO.cell hb (fun e => e) (o + 1)).trans h.k1, (hO.cell hb (fun e => e) (o + 2)).trans h.k2⟩
theorem Puts.old {w w' : World} {a : Option Addr} {n : Nat} {ps : List Put} (h : Puts w a n ps) (hO : Only None' w w') : Puts w' a n ps :=
  ⟨h.len, h.small, fun j hj => by obtain ⟨b, off, h1, h2, h3⟩ := h.at_ j hj; exact ⟨b, off, h1, Nat.lt_of_lt_of_le h2 hO.size, h3.old h2 hO⟩, h.byte⟩

/-! ### what lasts, of whatever kind -/
def settleG {α : Type} (kept : Nat → Bool) : Nat → List (Nat × α) → List α → List α
  | _, [], L => L
  | k, p :: r, L => settleG kept (k + 1) r (if kept k then L.set p.1 p.2 else L)
theorem settleG_eq (kept : Nat → Bool) : ∀ (ws : List (Nat × Sec)) (k : Nat) (L : List Sec), settle kept k ws L = settleG kept k ws L
  | [], _, _ => rfl
  | p :: r, k, L => by rw [settle, settleG, settleG_eq kept r]
theorem settleG_map {α β : Type} (f : α → β) (kept : Nat → Bool) : ∀ (ws : List (Nat × α)) (k : Nat) (L : List α), settleG kept k (ws.map fun p => (p.1, f p.2)) (L.map f) = (settleG kept k ws L).map f
  | [], _, _ => rfl
  | p :: r, k, L => by
    rw [List.map_cons, settleG, settleG, ← settleG_map f kept r]
    congr 1
    split
    · rw [List.map_set]
    · rfl
theorem settleG_length {α : Type} (kept : Nat → Bool) : ∀ (ws : List (Nat × α)) (k : Nat) (L : List α), (settleG kept k ws L).length = L.length
  | [], _, _ => rfl
  | p :: r, k, L => by
    rw [settleG, settleG_length kept r]
    split <;> simp
theorem settleG_snoc {α : Type} (kept : Nat → Bool) (p : Nat × α) : ∀ (ws : List (Nat × α)) (k : Nat) (L : List α), settleG kept k (ws ++ [p]) L = if kept (k + ws.length) then (settleG kept k ws L).set p.1 p.2 else settleG kept k ws L
  | [], k, L => by simp [settleG]
  | q :: r, k, L => by
    rw [List.cons_append, settleG, settleG_snoc kept p r (k + 1), settleG, List.length_cons, Nat.add_right_comm, Nat.add_assoc k]
theorem settleG_none {α : Type} (kept : Nat → Bool) : ∀ (ws : List (Nat × α)) (k : Nat) (L : List α), (∀ j, k ≤ j → kept j = false) → settleG kept k ws L = L
  | [], _, _, _ => rfl
  | p :: r, k, L, h => by
    rw [settleG, if_neg (by rw [h k (Nat.le_refl _)]; decide)]
    exact settleG_none kept r (k + 1) L fun j hj => h j (by omega)
theorem settleG_append {α : Type} (kept : Nat → Bool) : ∀ (a b : List (Nat × α)) (k : Nat) (L : List α), settleG kept k (a ++ b) L = settleG kept (k + a.length) b (settleG kept k a L)
  | [], b, k, L => rfl
  | p :: r, b, k, L => by
    rw [List.cons_append, settleG, settleG_append kept r b (k + 1), settleG, List.length_cons, Nat.add_right_comm, Nat.add_assoc k]
theorem kept_past {keep : List Bool} {j : Nat} (h : keep.length ≤ j) : kept keep j = false := by simp [kept, List.getD_eq_getElem?_getD, List.getElem?_eq_none h]
theorem settleG_short {α : Type} (keep : List Bool) (ws : List (Nat × α)) (L : List α) {j : Nat} (h : keep.length ≤ j ∨ ws.length ≤ j) : settleG (kept keep) 0 (ws.take j) L = settleG (kept keep) 0 ws L := by
  rcases h with h | h
  · conv => rhs; rw [← List.take_append_drop j ws, settleG_append]
    by_cases h1 : j ≤ ws.length
    · rw [settleG_none (kept keep) (ws.drop j) _ _ fun i hi => kept_past (by rw [List.length_take_of_le h1] at hi; omega)]
    · rw [List.drop_eq_nil_of_le (by omega)]; rfl
  · rw [List.take_of_length_le h]

/-! ### rows of bytes and of writes -/
def by_ (l : List UInt8) : List Value := l.map fun c => .int .u8 (c.toNat : Int)
def pv (p : Nat × UInt8) : List Value := [.int .u8 (p.1 : Int), .int .u8 (p.2.toNat : Int), .bool false]
def wsec (p : Nat × UInt8) : Nat × Sec := (p.1, sec p.2)
theorem pv_length (p : Nat × UInt8) : (pv p).length = 3 := rfl
theorem pv_one (p : Nat × UInt8) : ∀ u ∈ pv p, u.oneCell' = true := by
  intro u hu
  simp only [pv, List.mem_cons, List.not_mem_nil, or_false] at hu
  rcases hu with rfl | rfl | rfl <;> rfl

/-- a disk whose sectors are each of one byte -/
structure Bytes (d : Dk) (Bs : List UInt8) (Ws : List (Nat × UInt8)) : Prop where
  lasts : d.lasts = Bs.map sec
  waits : d.waits = Ws.map wsec
theorem zs_sec : zs = sec 0 := by unfold zs sec; rfl
theorem Bytes.new (n : Nat) : Bytes (Dk.new n) (List.replicate n 0) [] := ⟨by show List.replicate n zs = _; rw [List.map_replicate, zs_sec], rfl⟩
theorem Bytes.len {d : Dk} {Bs Ws} (h : Bytes d Bs Ws) : d.lasts.length = Bs.length ∧ d.waits.length = Ws.length := by rw [h.lasts, h.waits]; simp
theorem Bytes.wrote {d : Dk} {Bs Ws} (h : Bytes d Bs Ws) (i : Nat) (c : UInt8) : Bytes (d.wrote i (sec c)) Bs (Ws ++ [(i, c)]) := ⟨h.lasts, by show d.waits ++ _ = _; rw [h.waits]; simp [wsec]⟩
theorem Bytes.tick {d : Dk} {Bs Ws} (h : Bytes d Bs Ws) : Bytes d.tick Bs Ws := ⟨h.lasts, h.waits⟩
theorem Bytes.settled {d : Dk} {Bs Ws} (h : Bytes d Bs Ws) (k : Nat → Bool) : Bytes (d.settled k) (settleG k 0 Ws Bs) [] :=
  ⟨by show settle k 0 d.waits d.lasts = _; rw [h.lasts, h.waits, settleG_eq]; exact settleG_map sec k Ws 0 Bs, rfl⟩
theorem Bytes.crashed {d : Dk} {Bs Ws} (h : Bytes d Bs Ws) (k : List Bool) : Bytes (d.crashed k) (settleG (kept k) 0 Ws Bs) [] := ⟨(h.settled _).lasts, rfl⟩
theorem Bytes.reopened {d : Dk} {Bs Ws} (h : Bytes d Bs Ws) : Bytes d.reopened Bs [] := ⟨h.lasts, rfl⟩
theorem Bytes.read {d : Dk} {Bs} (h : Bytes d Bs []) {i : Nat} (hi : i < Bs.length) : d.read i = sec Bs[i] := by
  unfold Dk.read
  rw [h.waits, h.lasts]
  simp [lastIx, List.getD_eq_getElem?_getD, List.getElem?_eq_getElem hi]

end Go.Proofs.Yteoeaojebklfjaa
