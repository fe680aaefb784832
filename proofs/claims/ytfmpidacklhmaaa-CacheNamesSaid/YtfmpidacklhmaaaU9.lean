/- Contract of Drop. -/
import Derived.Test.YtfmpidacklhmaaaU8
namespace Go.Proofs.Ytfmpidacklhmaaa.Lru
open Go.RowKit Go.Maps
set_option linter.unusedVariables false
set_option maxRecDepth 20000

def hasKey (l : List Node) (k : ByteArray) : Bool := l.any fun y => decide (y.2.key = k)
def dropKey (l : List Node) (k : ByteArray) : List Node := l.filter fun y => !decide (y.2.key = k)

theorem hasKey_iff (l : List Node) (k : ByteArray) : hasKey l k = true ↔ ∃ y ∈ l, y.2.key = k := by simp [hasKey]
theorem dropKey_none {l : List Node} {k : ByteArray} (h : hasKey l k = false) : dropKey l k = l := by
  simp only [hasKey, List.any_eq_false, decide_eq_true_eq] at h
  simp only [dropKey, List.filter_eq_self]
  intro y hy; simpa using h y hy
theorem dropKey_mid {p q : List Node} {x : Node} (h : ((p ++ x :: q).map (·.2.key)).Nodup) : dropKey (p ++ x :: q) x.2.key = p ++ q := by
  simp only [List.map_append, List.map_cons, List.nodup_append, List.nodup_cons, List.mem_map, List.mem_cons] at h
  have h1 : dropKey p x.2.key = p := by
    simp only [dropKey, List.filter_eq_self]
    intro y hy
    simpa using fun e => h.2.2 y.2.key ⟨y, hy, rfl⟩ x.2.key (.inl rfl) e
  have h2 : dropKey q x.2.key = q := by
    simp only [dropKey, List.filter_eq_self]
    intro y hy
    simpa using fun e => h.2.1.1 ⟨y, hy, e⟩
  unfold dropKey at *
  rw [List.filter_append, List.filter_cons, h1, h2]
  simp

theorem has_split {l : List Node} {k : ByteArray} (h : hasKey l k = true) : ∃ p x q, l = p ++ x :: q ∧ x.2.key = k := by
  obtain ⟨x, hx, e⟩ := (hasKey_iff l k).1 h
  obtain ⟨p, q, rfl⟩ := List.append_of_mem hx
  exact ⟨p, x, q, rfl, e⟩

theorem zero80 (w : World) : (zeroValue 80).run Try.prog w = .ok (.pointer none) w := by kernel_rfl

theorem drop_any {m : Nat} {w : World} {B M : Nat} {E Y : Int} {l : List Node} (S : Shelf m w B M E Y l) (k : ByteArray) (hk : k.size ≤ 140737488355328) :
    Calls Try.prog 47 #[.pointer (some ⟨B, 0, none⟩), .string k] w fun r w' => r = .returned (.bool (hasKey l k)) ∧ Shelf m w' B M E Y (dropKey l k) ∧ Only (Own B M l) w w' := by
  have SS := Lib.hid S
  obtain ⟨D, hown, hD⟩ := S.map
  have hkey : Hid (keyOf Try.prog 9 (.string k) = some (kl k)) := Go.WideMaps.keyOf_string_mk Try.underlying9 (by unfold maxLen; omega)
  have c4 := S.rest.at_
  have HO := Lib.hid hown
  have hat := hD.at_
  have hhas := hD.has k
  have hkeys := hD.keys
  clear hown hD S hk
  cases hb : hasKey l k with
  | false =>
    have hn : Maps.has D (kl k) = false := by
      cases e : Maps.has D (kl k) with
      | false => rfl
      | true => rw [(hasKey_iff l k).2 (hhas.1 e)] at hb; cases hb
    have e1 := Lib.hid (dropKey_none hb)
    clear hat hhas hkeys hb
    go_enter Try.func47, Try.ntmps47
    go_wp2_with (at_lookup; refine wpList_lookup_own_ok _ rfl _ _ 79 rfl 9 80 keyed9 under79 ptrR (zero80 _) .nil [] rfl M l.length D rfl HO.out _ _ rfl hkey.out ?_; rw [hn]; intro v ps hv; clear hv)
    go_ret
    rw [e1.out]
    exact ⟨rfl, SS.out, Only.refl _ _⟩
  | true =>
    have hn : Maps.has D (kl k) = true := hhas.2 ((hasKey_iff l k).1 hb)
    obtain ⟨p, x, q, rfl, rfl⟩ := has_split hb
    have hx := Lib.hid (hat x (by simp) .nil)
    have e1 := Lib.hid (dropKey_mid hkeys)
    clear hat hhas hkeys hb
    go_enter Try.func47, Try.ntmps47
    go_wp2_with (at_lookup; refine wpList_lookup_own_ok _ rfl _ _ 79 rfl 9 80 keyed9 under79 ptrR (zero80 _) .nil [] rfl M (p ++ x :: q).length D rfl HO.out _ _ rfl hkey.out ?_; rw [hn]; intro v ps hv; rw [hx.out] at hv; obtain rfl := ptrR_inv hv; clear hv)
    refine (remove_any SS.out).mono ?_
    rintro r w1 ⟨rfl, h1, h2⟩
    have H1 := Lib.hid h1
    have H2 := Lib.hid h2
    clear h1 h2
    go_wp2
    go_ret
    rw [e1.out]
    exact ⟨rfl, H1.out, H2.out⟩

end Go.Proofs.Ytfmpidacklhmaaa.Lru
