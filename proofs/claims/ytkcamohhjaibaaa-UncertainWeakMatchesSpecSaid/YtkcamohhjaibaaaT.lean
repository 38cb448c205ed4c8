/- Closed facts about the types of the program; printed. No condition. -/
import Derived.Test.YtkcamohhjaibaaaRows
import Derived.Test.YtkcamohhjaibaaaPl9
import Derived.Test.YtkcamohhjaibaaaSp
import Derived.ChangeKeysEq
namespace Go.Proofs.Ytkcamohhjaibaaa.Pl
open Go Go.RowKit
theorem tZ28 : TZero Try.prog 28 [.int .i64 0, .int .i64 0] := tZero_mk (z := .agg #[.int .i64 0, .int .i64 0]) (by kernel_rfl) rfl
theorem tB28 : TBld Try.prog 28 [.int .i64 0, .int .i64 0] [(0, 1), (1, 1)] := tBld_mk Try.underlying28 (by kernel_rfl) (z := .agg #[.int .i64 0, .int .i64 0]) (by kernel_rfl) (by kernel_rfl)
theorem tA28 : TAgg Try.prog 28 2 := tAgg_mk Try.underlying28 rfl (by kernel_rfl)
theorem tF48_0 : FldAt Try.prog 48 0 0 := fldAt_mk Try.underlying48 (by kernel_rfl)
theorem tO3 : TOne Try.prog 3 := tOne_mk Try.underlying3 rfl (by kernel_rfl)
theorem tF48_1 : FldAt Try.prog 48 1 1 := fldAt_mk Try.underlying48 (by kernel_rfl)
theorem tF48_2 : FldAt Try.prog 48 2 2 := fldAt_mk Try.underlying48 (by kernel_rfl)
theorem tF48_3 : FldAt Try.prog 48 3 3 := fldAt_mk Try.underlying48 (by kernel_rfl)
theorem tF24_0 : FldAt Try.prog 24 0 0 := fldAt_mk Try.underlying24 (by kernel_rfl)
theorem tF24_1 : FldAt Try.prog 24 1 1 := fldAt_mk Try.underlying24 (by kernel_rfl)
theorem tO22 : TOne Try.prog 22 := tOne_mk Try.underlying22 rfl (by kernel_rfl)
theorem tS22 : TSl Try.prog 22 48 4 32 [.int .i64 0, .int .i64 0, .int .i64 0, .int .i64 0] := tSl_mk (z := .agg #[.int .i64 0, .int .i64 0, .int .i64 0, .int .i64 0]) Try.underlying22 (by kernel_rfl) rfl
theorem tA48 : TAgg Try.prog 48 4 := tAgg_mk Try.underlying48 rfl (by kernel_rfl)
theorem tZ48 : TZero Try.prog 48 [.int .i64 0, .int .i64 0, .int .i64 0, .int .i64 0] := tZero_mk (z := .agg #[.int .i64 0, .int .i64 0, .int .i64 0, .int .i64 0]) (by kernel_rfl) rfl
theorem tS35 : TSl Try.prog 35 3 1 8 [.int .i64 0] := tSl_mk (z := .int .i64 0) Try.underlying35 (by kernel_rfl) rfl
theorem tS40 : TSl Try.prog 40 35 1 24 [.slice none 0 0] := tSl_mk (z := .slice none 0 0) Try.underlying40 (by kernel_rfl) rfl
theorem tO35 : TOne Try.prog 35 := tOne_mk Try.underlying35 rfl (by kernel_rfl)
theorem tA24 : TAgg Try.prog 24 2 := tAgg_mk Try.underlying24 rfl (by kernel_rfl)
theorem tF26_0 : FldAt Try.prog 26 0 0 := fldAt_mk Try.underlying26 (by kernel_rfl)
theorem tE28 : TEq2 Try.prog 28 := ⟨by kernel_rfl, fun d a b c e w => by
  simp [go_sem]
  by_cases h1 : a = c <;> by_cases h2 : b = e <;> simp [h1, h2]⟩
theorem tF26_1 : FldAt Try.prog 26 1 2 := fldAt_mk Try.underlying26 (by kernel_rfl)
theorem tF28_0 : FldAt Try.prog 28 0 0 := fldAt_mk Try.underlying28 (by kernel_rfl)
theorem tZ24 : TZero Try.prog 24 [.int .i64 0, .slice none 0 0] := tZero_mk (z := .agg #[.int .i64 0, .slice none 0 0]) (by kernel_rfl) rfl
theorem tB24 : TBld Try.prog 24 [.int .i64 0, .slice none 0 0] [(0, 1), (1, 1)] := tBld_mk Try.underlying24 (by kernel_rfl) (z := .agg #[.int .i64 0, .slice none 0 0]) (by kernel_rfl) (by kernel_rfl)
theorem tB48 : TBld Try.prog 48 [.int .i64 0, .int .i64 0, .int .i64 0, .int .i64 0] [(0, 1), (1, 1), (2, 1), (3, 1)] := tBld_mk Try.underlying48 (by kernel_rfl) (z := .agg #[.int .i64 0, .int .i64 0, .int .i64 0, .int .i64 0]) (by kernel_rfl) (by kernel_rfl)
theorem tB56 : TBld Try.prog 56 [.int .i64 0, .int .i64 0, .int .i64 0] [(0, 1), (1, 1), (2, 1)] := tBld_mk Try.underlying56 (by kernel_rfl) (z := .agg #[.int .i64 0, .int .i64 0, .int .i64 0]) (by kernel_rfl) (by kernel_rfl)
theorem tS53 : TSl Try.prog 53 56 3 24 [.int .i64 0, .int .i64 0, .int .i64 0] := tSl_mk (z := .agg #[.int .i64 0, .int .i64 0, .int .i64 0]) Try.underlying53 (by kernel_rfl) rfl
theorem tA56 : TAgg Try.prog 56 3 := tAgg_mk Try.underlying56 rfl (by kernel_rfl)
theorem tA26 : TAgg Try.prog 26 3 := tAgg_mk Try.underlying26 rfl (by kernel_rfl)
theorem tZ56 : TZero Try.prog 56 [.int .i64 0, .int .i64 0, .int .i64 0] := tZero_mk (z := .agg #[.int .i64 0, .int .i64 0, .int .i64 0]) (by kernel_rfl) rfl
theorem tF56_1 : FldAt Try.prog 56 1 1 := fldAt_mk Try.underlying56 (by kernel_rfl)
theorem tF56_2 : FldAt Try.prog 56 2 2 := fldAt_mk Try.underlying56 (by kernel_rfl)
theorem tF56_0 : FldAt Try.prog 56 0 0 := fldAt_mk Try.underlying56 (by kernel_rfl)
theorem tZ4 : TZero Try.prog 4 [.bool false] := tZero_mk (z := .bool false) (by kernel_rfl) rfl
theorem tO4 : TOne Try.prog 4 := tOne_mk Try.underlying4 rfl (by kernel_rfl)
theorem tB26 : TBld Try.prog 26 [.int .i64 0, .slice none 0 0, .slice none 0 0] [(0, 2), (2, 1)] := tBld_mk Try.underlying26 (by kernel_rfl) (z := .agg #[.int .i64 0, .slice none 0 0, .slice none 0 0]) (by kernel_rfl) (by kernel_rfl)
theorem tZ26 : TZero Try.prog 26 [.int .i64 0, .slice none 0 0, .slice none 0 0] := tZero_mk (z := .agg #[.int .i64 0, .slice none 0 0, .slice none 0 0]) (by kernel_rfl) rfl
end Go.Proofs.Ytkcamohhjaibaaa.Pl
