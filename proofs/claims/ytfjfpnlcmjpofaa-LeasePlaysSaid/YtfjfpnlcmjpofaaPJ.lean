/- What is told of both tables: the same rows. -/
import Derived.Test.YtfjfpnlcmjpofaaPF
import Derived.Test.YtfjfpnlcmjpofaaVA
namespace Go.Proofs.Ytfjfpnlcmjpofaa
open Go.RowKit Go.Maps Go.Sort Go.Shelf
set_option linter.unusedVariables false

theorem dall_told {w : World} {X : Nat} {lv sv : Value} {t : Tb} (h : DocAt w X lv sv t) (now : Int) : Calls Try.prog 25 #[.pointer (some ⟨X, 0, none⟩), .int .i64 now] w (ToldBy w (t.ls.filter (live now))) :=
  (dall_any h now).mono fun e w' h => h
theorem dout_told {w : World} {X : Nat} {lv sv : Value} {t : Tb} (h : DocAt w X lv sv t) (key : ByteArray) (now : Int) : Calls Try.prog 23 #[.pointer (some ⟨X, 0, none⟩), .string key, .int .i64 now] w (ToldBy w ((t.ls.filter (live now)).filter (ofKey key))) :=
  dout_of (Nat.le_trans (List.length_filter_le _ _) (Nat.le_trans h.ok.few h.ok.g)) key now (dall_told h now)
theorem all_told {w : World} {B M N : Nat} {t : Tb} (h : TabAt w B M N t) (now : Int) : Calls Try.prog 24 #[.pointer (some ⟨B, 0, none⟩), .int .i64 now] w (ToldBy w (t.ls.filter (live now))) :=
  (all_any h now).mono fun e w' h => h
theorem out_told {w : World} {B M N : Nat} {t : Tb} (h : TabAt w B M N t) (key : ByteArray) (now : Int) : Calls Try.prog 22 #[.pointer (some ⟨B, 0, none⟩), .string key, .int .i64 now] w (ToldBy w ((t.ls.filter (live now)).filter (ofKey key))) :=
  (outL_any h key now).mono fun e w' h => h
end Go.Proofs.Ytfjfpnlcmjpofaa
