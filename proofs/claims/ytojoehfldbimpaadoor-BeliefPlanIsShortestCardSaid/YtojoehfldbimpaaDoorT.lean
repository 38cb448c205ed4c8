/- Closed facts about the types of the program; printed. No condition. -/
import Derived.Test.YtojoehfldbimpaaDoorRows
import Derived.Test.YtojoehfldbimpaaDoorPl12
import Derived.Test.YtojoehfldbimpaaDoorSp
import Derived.ChangeKeysEq
namespace Go.Proofs.YtojoehfldbimpaaDoor.Pl
open Go Go.RowKit
theorem tS22 : TSl Tryd.prog 22 3 1 8 [.int .i64 0] := tSl_mk (z := .int .i64 0) Tryd.underlying22 (by kernel_rfl) rfl
theorem tO3 : TOne Tryd.prog 3 := tOne_mk Tryd.underlying3 rfl (by kernel_rfl)
theorem tO22 : TOne Tryd.prog 22 := tOne_mk Tryd.underlying22 rfl (by kernel_rfl)
theorem tF64_0 : FldAt Tryd.prog 64 0 0 := fldAt_mk Tryd.underlying64 (by kernel_rfl)
theorem tF64_1 : FldAt Tryd.prog 64 1 1 := fldAt_mk Tryd.underlying64 (by kernel_rfl)
theorem tF64_2 : FldAt Tryd.prog 64 2 2 := fldAt_mk Tryd.underlying64 (by kernel_rfl)
theorem tF64_3 : FldAt Tryd.prog 64 3 3 := fldAt_mk Tryd.underlying64 (by kernel_rfl)
theorem tZ27 : TZero Tryd.prog 27 [.int .i64 0, .int .i64 0] := tZero_mk (z := .agg #[.int .i64 0, .int .i64 0]) (by kernel_rfl) rfl
theorem tF25_0 : FldAt Tryd.prog 25 0 0 := fldAt_mk Tryd.underlying25 (by kernel_rfl)
theorem tB27 : TBld Tryd.prog 27 [.int .i64 0, .int .i64 0] [(0, 1), (1, 1)] := tBld_mk Tryd.underlying27 (by kernel_rfl) (z := .agg #[.int .i64 0, .int .i64 0]) (by kernel_rfl) (by kernel_rfl)
theorem tA27 : TAgg Tryd.prog 27 2 := tAgg_mk Tryd.underlying27 rfl (by kernel_rfl)
theorem tF25_1 : FldAt Tryd.prog 25 1 1 := fldAt_mk Tryd.underlying25 (by kernel_rfl)
theorem tF25_2 : FldAt Tryd.prog 25 2 2 := fldAt_mk Tryd.underlying25 (by kernel_rfl)
theorem tF25_3 : FldAt Tryd.prog 25 3 3 := fldAt_mk Tryd.underlying25 (by kernel_rfl)
theorem tO23 : TOne Tryd.prog 23 := tOne_mk Tryd.underlying23 rfl (by kernel_rfl)
theorem tS23 : TSl Tryd.prog 23 64 4 80 [.slice none 0 0, .slice none 0 0, .slice none 0 0, .int .i64 0] := tSl_mk (z := .agg #[.slice none 0 0, .slice none 0 0, .slice none 0 0, .int .i64 0]) Tryd.underlying23 (by kernel_rfl) rfl
theorem tA64 : TAgg Tryd.prog 64 4 := tAgg_mk Tryd.underlying64 rfl (by kernel_rfl)
theorem tZ64 : TZero Tryd.prog 64 [.slice none 0 0, .slice none 0 0, .slice none 0 0, .int .i64 0] := tZero_mk (z := .agg #[.slice none 0 0, .slice none 0 0, .slice none 0 0, .int .i64 0]) (by kernel_rfl) rfl
theorem tS41 : TSl Tryd.prog 41 22 1 24 [.slice none 0 0] := tSl_mk (z := .slice none 0 0) Tryd.underlying41 (by kernel_rfl) rfl
theorem tA25 : TAgg Tryd.prog 25 4 := tAgg_mk Tryd.underlying25 rfl (by kernel_rfl)
theorem tS68 : TSl Tryd.prog 68 5 1 1 [.int .u8 0] := tSl_mk (z := .int .u8 0) Tryd.underlying68 (by kernel_rfl) rfl
theorem tE27 : TEq2 Tryd.prog 27 := ⟨by kernel_rfl, fun d a b c e w => by
  simp [go_sem]
  by_cases h1 : a = c <;> by_cases h2 : b = e <;> simp [h1, h2]⟩
theorem tZ25 : TZero Tryd.prog 25 [.int .i64 0, .slice none 0 0, .slice none 0 0, .slice none 0 0] := tZero_mk (z := .agg #[.int .i64 0, .slice none 0 0, .slice none 0 0, .slice none 0 0]) (by kernel_rfl) rfl
theorem tB64 : TBld Tryd.prog 64 [.slice none 0 0, .slice none 0 0, .slice none 0 0, .int .i64 0] [(0, 1), (1, 1), (2, 1), (3, 1)] := tBld_mk Tryd.underlying64 (by kernel_rfl) (z := .agg #[.slice none 0 0, .slice none 0 0, .slice none 0 0, .int .i64 0]) (by kernel_rfl) (by kernel_rfl)
theorem tB25 : TBld Tryd.prog 25 [.int .i64 0, .slice none 0 0, .slice none 0 0, .slice none 0 0] [(0, 1), (1, 1), (2, 1), (3, 1)] := tBld_mk Tryd.underlying25 (by kernel_rfl) (z := .agg #[.int .i64 0, .slice none 0 0, .slice none 0 0, .slice none 0 0]) (by kernel_rfl) (by kernel_rfl)
theorem tZ22 : TZero Tryd.prog 22 [.slice none 0 0] := tZero_mk (z := .slice none 0 0) (by kernel_rfl) rfl
theorem tZ4 : TZero Tryd.prog 4 [.bool false] := tZero_mk (z := .bool false) (by kernel_rfl) rfl
theorem tB71 : TBld Tryd.prog 71 [.slice none 0 0, .int .i64 0, .int .i64 0] [(0, 1), (1, 1), (2, 1)] := tBld_mk Tryd.underlying71 (by kernel_rfl) (z := .agg #[.slice none 0 0, .int .i64 0, .int .i64 0]) (by kernel_rfl) (by kernel_rfl)
theorem tS72 : TSl Tryd.prog 72 71 3 40 [.slice none 0 0, .int .i64 0, .int .i64 0] := tSl_mk (z := .agg #[.slice none 0 0, .int .i64 0, .int .i64 0]) Tryd.underlying72 (by kernel_rfl) rfl
theorem tZ72 : TZero Tryd.prog 72 [.slice none 0 0] := tZero_mk (z := .slice none 0 0) (by kernel_rfl) rfl
theorem tO72 : TOne Tryd.prog 72 := tOne_mk Tryd.underlying72 rfl (by kernel_rfl)
theorem tM73 : TMap Tryd.prog 73 := tMap_mk Tryd.underlying73 Tryd.underlying9 (by kernel_rfl)
theorem tO52 : TOne Tryd.prog 52 := tOne_mk Tryd.underlying52 rfl (by kernel_rfl)
theorem tZ73 : TZero Tryd.prog 73 [.map none] := tZero_mk (z := .map none) (by kernel_rfl) rfl
theorem tO73 : TOne Tryd.prog 73 := tOne_mk Tryd.underlying73 rfl (by kernel_rfl)
theorem tZ3 : TZero Tryd.prog 3 [.int .i64 0] := tZero_mk (z := .int .i64 0) (by kernel_rfl) rfl
theorem tF71_0 : FldAt Tryd.prog 71 0 0 := fldAt_mk Tryd.underlying71 (by kernel_rfl)
theorem tO41 : TOne Tryd.prog 41 := tOne_mk Tryd.underlying41 rfl (by kernel_rfl)
theorem tF71_1 : FldAt Tryd.prog 71 1 1 := fldAt_mk Tryd.underlying71 (by kernel_rfl)
theorem tF71_2 : FldAt Tryd.prog 71 2 2 := fldAt_mk Tryd.underlying71 (by kernel_rfl)
theorem tO4 : TOne Tryd.prog 4 := tOne_mk Tryd.underlying4 rfl (by kernel_rfl)
theorem tF27_0 : FldAt Tryd.prog 27 0 0 := fldAt_mk Tryd.underlying27 (by kernel_rfl)
end Go.Proofs.YtojoehfldbimpaaDoor.Pl
