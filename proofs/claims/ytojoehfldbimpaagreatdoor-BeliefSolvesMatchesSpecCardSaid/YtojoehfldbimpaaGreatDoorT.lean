/- Closed facts about the types of the program; printed. No condition. -/
import Derived.Test.YtojoehfldbimpaaGreatDoorRows
import Derived.Test.YtojoehfldbimpaaGreatDoorPl12
import Derived.Test.YtojoehfldbimpaaGreatDoorSp
import Derived.ChangeKeysEq
namespace Go.Proofs.YtojoehfldbimpaaGreatDoor.Pl
open Go Go.RowKit
theorem tZ27 : TZero Tryz.prog 27 [.int .i64 0, .int .i64 0] := tZero_mk (z := .agg #[.int .i64 0, .int .i64 0]) (by kernel_rfl) rfl
theorem tB27 : TBld Tryz.prog 27 [.int .i64 0, .int .i64 0] [(0, 1), (1, 1)] := tBld_mk Tryz.underlying27 (by kernel_rfl) (z := .agg #[.int .i64 0, .int .i64 0]) (by kernel_rfl) (by kernel_rfl)
theorem tA27 : TAgg Tryz.prog 27 2 := tAgg_mk Tryz.underlying27 rfl (by kernel_rfl)
theorem tS22 : TSl Tryz.prog 22 3 1 8 [.int .i64 0] := tSl_mk (z := .int .i64 0) Tryz.underlying22 (by kernel_rfl) rfl
theorem tO3 : TOne Tryz.prog 3 := tOne_mk Tryz.underlying3 rfl (by kernel_rfl)
theorem tO22 : TOne Tryz.prog 22 := tOne_mk Tryz.underlying22 rfl (by kernel_rfl)
theorem tF54_0 : FldAt Tryz.prog 54 0 0 := fldAt_mk Tryz.underlying54 (by kernel_rfl)
theorem tF54_1 : FldAt Tryz.prog 54 1 1 := fldAt_mk Tryz.underlying54 (by kernel_rfl)
theorem tF54_2 : FldAt Tryz.prog 54 2 2 := fldAt_mk Tryz.underlying54 (by kernel_rfl)
theorem tF54_3 : FldAt Tryz.prog 54 3 3 := fldAt_mk Tryz.underlying54 (by kernel_rfl)
theorem tF25_0 : FldAt Tryz.prog 25 0 0 := fldAt_mk Tryz.underlying25 (by kernel_rfl)
theorem tF25_1 : FldAt Tryz.prog 25 1 1 := fldAt_mk Tryz.underlying25 (by kernel_rfl)
theorem tF25_2 : FldAt Tryz.prog 25 2 2 := fldAt_mk Tryz.underlying25 (by kernel_rfl)
theorem tF25_3 : FldAt Tryz.prog 25 3 3 := fldAt_mk Tryz.underlying25 (by kernel_rfl)
theorem tO23 : TOne Tryz.prog 23 := tOne_mk Tryz.underlying23 rfl (by kernel_rfl)
theorem tS23 : TSl Tryz.prog 23 54 4 80 [.slice none 0 0, .slice none 0 0, .slice none 0 0, .int .i64 0] := tSl_mk (z := .agg #[.slice none 0 0, .slice none 0 0, .slice none 0 0, .int .i64 0]) Tryz.underlying23 (by kernel_rfl) rfl
theorem tA54 : TAgg Tryz.prog 54 4 := tAgg_mk Tryz.underlying54 rfl (by kernel_rfl)
theorem tZ54 : TZero Tryz.prog 54 [.slice none 0 0, .slice none 0 0, .slice none 0 0, .int .i64 0] := tZero_mk (z := .agg #[.slice none 0 0, .slice none 0 0, .slice none 0 0, .int .i64 0]) (by kernel_rfl) rfl
theorem tA25 : TAgg Tryz.prog 25 4 := tAgg_mk Tryz.underlying25 rfl (by kernel_rfl)
theorem tS35 : TSl Tryz.prog 35 22 1 24 [.slice none 0 0] := tSl_mk (z := .slice none 0 0) Tryz.underlying35 (by kernel_rfl) rfl
theorem tS110 : TSl Tryz.prog 110 5 1 1 [.int .u8 0] := tSl_mk (z := .int .u8 0) Tryz.underlying110 (by kernel_rfl) rfl
theorem tE27 : TEq2 Tryz.prog 27 := ⟨by kernel_rfl, fun d a b c e w => by
  simp [go_sem]
  by_cases h1 : a = c <;> by_cases h2 : b = e <;> simp [h1, h2]⟩
theorem tF27_0 : FldAt Tryz.prog 27 0 0 := fldAt_mk Tryz.underlying27 (by kernel_rfl)
theorem tO35 : TOne Tryz.prog 35 := tOne_mk Tryz.underlying35 rfl (by kernel_rfl)
theorem tZ25 : TZero Tryz.prog 25 [.int .i64 0, .slice none 0 0, .slice none 0 0, .slice none 0 0] := tZero_mk (z := .agg #[.int .i64 0, .slice none 0 0, .slice none 0 0, .slice none 0 0]) (by kernel_rfl) rfl
theorem tB54 : TBld Tryz.prog 54 [.slice none 0 0, .slice none 0 0, .slice none 0 0, .int .i64 0] [(0, 1), (1, 1), (2, 1), (3, 1)] := tBld_mk Tryz.underlying54 (by kernel_rfl) (z := .agg #[.slice none 0 0, .slice none 0 0, .slice none 0 0, .int .i64 0]) (by kernel_rfl) (by kernel_rfl)
theorem tB25 : TBld Tryz.prog 25 [.int .i64 0, .slice none 0 0, .slice none 0 0, .slice none 0 0] [(0, 1), (1, 1), (2, 1), (3, 1)] := tBld_mk Tryz.underlying25 (by kernel_rfl) (z := .agg #[.int .i64 0, .slice none 0 0, .slice none 0 0, .slice none 0 0]) (by kernel_rfl) (by kernel_rfl)
theorem tZ22 : TZero Tryz.prog 22 [.slice none 0 0] := tZero_mk (z := .slice none 0 0) (by kernel_rfl) rfl
theorem tZ4 : TZero Tryz.prog 4 [.bool false] := tZero_mk (z := .bool false) (by kernel_rfl) rfl
theorem tB113 : TBld Tryz.prog 113 [.slice none 0 0, .int .i64 0, .int .i64 0] [(0, 1), (1, 1), (2, 1)] := tBld_mk Tryz.underlying113 (by kernel_rfl) (z := .agg #[.slice none 0 0, .int .i64 0, .int .i64 0]) (by kernel_rfl) (by kernel_rfl)
theorem tS114 : TSl Tryz.prog 114 113 3 40 [.slice none 0 0, .int .i64 0, .int .i64 0] := tSl_mk (z := .agg #[.slice none 0 0, .int .i64 0, .int .i64 0]) Tryz.underlying114 (by kernel_rfl) rfl
theorem tZ114 : TZero Tryz.prog 114 [.slice none 0 0] := tZero_mk (z := .slice none 0 0) (by kernel_rfl) rfl
theorem tO114 : TOne Tryz.prog 114 := tOne_mk Tryz.underlying114 rfl (by kernel_rfl)
theorem tM97 : TMap Tryz.prog 97 := tMap_mk Tryz.underlying97 Tryz.underlying9 (by kernel_rfl)
theorem tO80 : TOne Tryz.prog 80 := tOne_mk Tryz.underlying80 rfl (by kernel_rfl)
theorem tZ97 : TZero Tryz.prog 97 [.map none] := tZero_mk (z := .map none) (by kernel_rfl) rfl
theorem tO97 : TOne Tryz.prog 97 := tOne_mk Tryz.underlying97 rfl (by kernel_rfl)
theorem tZ3 : TZero Tryz.prog 3 [.int .i64 0] := tZero_mk (z := .int .i64 0) (by kernel_rfl) rfl
theorem tF113_0 : FldAt Tryz.prog 113 0 0 := fldAt_mk Tryz.underlying113 (by kernel_rfl)
theorem tF113_1 : FldAt Tryz.prog 113 1 1 := fldAt_mk Tryz.underlying113 (by kernel_rfl)
theorem tF113_2 : FldAt Tryz.prog 113 2 2 := fldAt_mk Tryz.underlying113 (by kernel_rfl)
theorem tO4 : TOne Tryz.prog 4 := tOne_mk Tryz.underlying4 rfl (by kernel_rfl)
end Go.Proofs.YtojoehfldbimpaaGreatDoor.Pl

