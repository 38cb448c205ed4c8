/- Closed facts about the types of the program; printed. No condition. -/
import Derived.Test.YtaenggfmpagjgaaRows
import Derived.Test.YtaenggfmpagjgaaPl7
import Derived.Test.YtaenggfmpagjgaaSp
import Derived.ChangeKeysEq
namespace Go.Proofs.Ytaenggfmpagjgaa.Pl
open Go Go.RowKit
theorem tZ28 : TZero Try.prog 28 [.int .i64 0, .int .i64 0] := tZero_mk (z := .agg #[.int .i64 0, .int .i64 0]) (by kernel_rfl) rfl
theorem tB28 : TBld Try.prog 28 [.int .i64 0, .int .i64 0] [(0, 1), (1, 1)] := tBld_mk Try.underlying28 (by kernel_rfl) (z := .agg #[.int .i64 0, .int .i64 0]) (by kernel_rfl) (by kernel_rfl)
theorem tA28 : TAgg Try.prog 28 2 := tAgg_mk Try.underlying28 rfl (by kernel_rfl)
theorem tS22 : TSl Try.prog 22 3 1 8 [.int .i64 0] := tSl_mk (z := .int .i64 0) Try.underlying22 (by kernel_rfl) rfl
theorem tO3 : TOne Try.prog 3 := tOne_mk Try.underlying3 rfl (by kernel_rfl)
theorem tF63_2 : FldAt Try.prog 63 2 2 := fldAt_mk Try.underlying63 (by kernel_rfl)
theorem tO4 : TOne Try.prog 4 := tOne_mk Try.underlying4 rfl (by kernel_rfl)
theorem tF63_0 : FldAt Try.prog 63 0 0 := fldAt_mk Try.underlying63 (by kernel_rfl)
theorem tO77 : TOne Try.prog 77 := tOne_mk Try.underlying77 rfl (by kernel_rfl)
theorem tA63 : TAgg Try.prog 63 3 := tAgg_mk Try.underlying63 rfl (by kernel_rfl)
theorem tF63_1 : FldAt Try.prog 63 1 1 := fldAt_mk Try.underlying63 (by kernel_rfl)
theorem tO22 : TOne Try.prog 22 := tOne_mk Try.underlying22 rfl (by kernel_rfl)
theorem tF73_0 : FldAt Try.prog 73 0 0 := fldAt_mk Try.underlying73 (by kernel_rfl)
theorem tF73_1 : FldAt Try.prog 73 1 1 := fldAt_mk Try.underlying73 (by kernel_rfl)
theorem tF73_2 : FldAt Try.prog 73 2 2 := fldAt_mk Try.underlying73 (by kernel_rfl)
theorem tF73_3 : FldAt Try.prog 73 3 3 := fldAt_mk Try.underlying73 (by kernel_rfl)
theorem tF50_0 : FldAt Try.prog 50 0 0 := fldAt_mk Try.underlying50 (by kernel_rfl)
theorem tF50_1 : FldAt Try.prog 50 1 1 := fldAt_mk Try.underlying50 (by kernel_rfl)
theorem tF50_2 : FldAt Try.prog 50 2 2 := fldAt_mk Try.underlying50 (by kernel_rfl)
theorem tF50_3 : FldAt Try.prog 50 3 3 := fldAt_mk Try.underlying50 (by kernel_rfl)
theorem tO48 : TOne Try.prog 48 := tOne_mk Try.underlying48 rfl (by kernel_rfl)
theorem tS48 : TSl Try.prog 48 73 4 80 [.slice none 0 0, .slice none 0 0, .slice none 0 0, .int .i64 0] := tSl_mk (z := .agg #[.slice none 0 0, .slice none 0 0, .slice none 0 0, .int .i64 0]) Try.underlying48 (by kernel_rfl) rfl
theorem tA73 : TAgg Try.prog 73 4 := tAgg_mk Try.underlying73 rfl (by kernel_rfl)
theorem tZ73 : TZero Try.prog 73 [.slice none 0 0, .slice none 0 0, .slice none 0 0, .int .i64 0] := tZero_mk (z := .agg #[.slice none 0 0, .slice none 0 0, .slice none 0 0, .int .i64 0]) (by kernel_rfl) rfl
theorem tA50 : TAgg Try.prog 50 4 := tAgg_mk Try.underlying50 rfl (by kernel_rfl)
theorem tE28 : TEq2 Try.prog 28 := ⟨by kernel_rfl, fun d a b c e w => by
  simp [go_sem]
  by_cases h1 : a = c <;> by_cases h2 : b = e <;> simp [h1, h2]⟩
theorem tS84 : TSl Try.prog 84 22 1 24 [.slice none 0 0] := tSl_mk (z := .slice none 0 0) Try.underlying84 (by kernel_rfl) rfl
theorem tF41_0 : FldAt Try.prog 41 0 0 := fldAt_mk Try.underlying41 (by kernel_rfl)
theorem tF41_1 : FldAt Try.prog 41 1 1 := fldAt_mk Try.underlying41 (by kernel_rfl)
theorem tF41_2 : FldAt Try.prog 41 2 2 := fldAt_mk Try.underlying41 (by kernel_rfl)
theorem tF41_3 : FldAt Try.prog 41 3 3 := fldAt_mk Try.underlying41 (by kernel_rfl)
theorem tF41_4 : FldAt Try.prog 41 4 4 := fldAt_mk Try.underlying41 (by kernel_rfl)
theorem tF41_5 : FldAt Try.prog 41 5 5 := fldAt_mk Try.underlying41 (by kernel_rfl)
theorem tF41_6 : FldAt Try.prog 41 6 6 := fldAt_mk Try.underlying41 (by kernel_rfl)
theorem tF41_7 : FldAt Try.prog 41 7 7 := fldAt_mk Try.underlying41 (by kernel_rfl)
theorem tF25_0 : FldAt Try.prog 25 0 0 := fldAt_mk Try.underlying25 (by kernel_rfl)
theorem tF25_1 : FldAt Try.prog 25 1 1 := fldAt_mk Try.underlying25 (by kernel_rfl)
theorem tF25_2 : FldAt Try.prog 25 2 2 := fldAt_mk Try.underlying25 (by kernel_rfl)
theorem tF25_3 : FldAt Try.prog 25 3 3 := fldAt_mk Try.underlying25 (by kernel_rfl)
theorem tO23 : TOne Try.prog 23 := tOne_mk Try.underlying23 rfl (by kernel_rfl)
theorem tS23 : TSl Try.prog 23 41 8 176 [.slice none 0 0, .slice none 0 0, .slice none 0 0, .slice none 0 0, .slice none 0 0, .slice none 0 0, .slice none 0 0, .int .i64 0] := tSl_mk (z := .agg #[.slice none 0 0, .slice none 0 0, .slice none 0 0, .slice none 0 0, .slice none 0 0, .slice none 0 0, .slice none 0 0, .int .i64 0]) Try.underlying23 (by kernel_rfl) rfl
theorem tA41 : TAgg Try.prog 41 8 := tAgg_mk Try.underlying41 rfl (by kernel_rfl)
theorem tZ41 : TZero Try.prog 41 [.slice none 0 0, .slice none 0 0, .slice none 0 0, .slice none 0 0, .slice none 0 0, .slice none 0 0, .slice none 0 0, .int .i64 0] := tZero_mk (z := .agg #[.slice none 0 0, .slice none 0 0, .slice none 0 0, .slice none 0 0, .slice none 0 0, .slice none 0 0, .slice none 0 0, .int .i64 0]) (by kernel_rfl) rfl
theorem tA25 : TAgg Try.prog 25 4 := tAgg_mk Try.underlying25 rfl (by kernel_rfl)
theorem tS26 : TSl Try.prog 26 38 2 16 [.int .i64 0, .int .i64 0] := tSl_mk (z := .agg #[.int .i64 0, .int .i64 0]) Try.underlying26 (by kernel_rfl) rfl
theorem tA38 : TAgg Try.prog 38 2 := tAgg_mk Try.underlying38 rfl (by kernel_rfl)
theorem tZ38 : TZero Try.prog 38 [.int .i64 0, .int .i64 0] := tZero_mk (z := .agg #[.int .i64 0, .int .i64 0]) (by kernel_rfl) rfl
theorem tF38_0 : FldAt Try.prog 38 0 0 := fldAt_mk Try.underlying38 (by kernel_rfl)
theorem tF38_1 : FldAt Try.prog 38 1 1 := fldAt_mk Try.underlying38 (by kernel_rfl)
theorem tF28_0 : FldAt Try.prog 28 0 0 := fldAt_mk Try.underlying28 (by kernel_rfl)
theorem tB63 : TBld Try.prog 63 [.int .i64 0, .int .i64 0, .bool false] [(0, 1), (1, 1), (2, 1)] := tBld_mk Try.underlying63 (by kernel_rfl) (z := .agg #[.int .i64 0, .int .i64 0, .bool false]) (by kernel_rfl) (by kernel_rfl)
theorem tS60 : TSl Try.prog 60 63 3 24 [.int .i64 0, .int .i64 0, .bool false] := tSl_mk (z := .agg #[.int .i64 0, .int .i64 0, .bool false]) Try.underlying60 (by kernel_rfl) rfl
theorem tZ77 : TZero Try.prog 77 [.nilFunc] := tZero_mk (z := .nilFunc) (by kernel_rfl) rfl
theorem tS59 : TSl Try.prog 59 4 1 1 [.bool false] := tSl_mk (z := .bool false) Try.underlying59 (by kernel_rfl) rfl
theorem tZ63 : TZero Try.prog 63 [.int .i64 0, .int .i64 0, .bool false] := tZero_mk (z := .agg #[.int .i64 0, .int .i64 0, .bool false]) (by kernel_rfl) rfl
theorem tZ50 : TZero Try.prog 50 [.int .i64 0, .slice none 0 0, .slice none 0 0, .slice none 0 0] := tZero_mk (z := .agg #[.int .i64 0, .slice none 0 0, .slice none 0 0, .slice none 0 0]) (by kernel_rfl) rfl
theorem tB50 : TBld Try.prog 50 [.int .i64 0, .slice none 0 0, .slice none 0 0, .slice none 0 0] [(0, 1), (1, 1), (2, 1), (3, 1)] := tBld_mk Try.underlying50 (by kernel_rfl) (z := .agg #[.int .i64 0, .slice none 0 0, .slice none 0 0, .slice none 0 0]) (by kernel_rfl) (by kernel_rfl)
theorem tB73 : TBld Try.prog 73 [.slice none 0 0, .slice none 0 0, .slice none 0 0, .int .i64 0] [(0, 1), (1, 1), (2, 1), (3, 1)] := tBld_mk Try.underlying73 (by kernel_rfl) (z := .agg #[.slice none 0 0, .slice none 0 0, .slice none 0 0, .int .i64 0]) (by kernel_rfl) (by kernel_rfl)
theorem tB38 : TBld Try.prog 38 [.int .i64 0, .int .i64 0] [(0, 1), (1, 1)] := tBld_mk Try.underlying38 (by kernel_rfl) (z := .agg #[.int .i64 0, .int .i64 0]) (by kernel_rfl) (by kernel_rfl)
theorem tE38 : TEq2 Try.prog 38 := ⟨by kernel_rfl, fun d a b c e w => by
  simp [go_sem]
  by_cases h1 : a = c <;> by_cases h2 : b = e <;> simp [h1, h2]⟩
theorem tZ25 : TZero Try.prog 25 [.int .i64 0, .slice none 0 0, .slice none 0 0, .slice none 0 0] := tZero_mk (z := .agg #[.int .i64 0, .slice none 0 0, .slice none 0 0, .slice none 0 0]) (by kernel_rfl) rfl
theorem tB41 : TBld Try.prog 41 [.slice none 0 0, .slice none 0 0, .slice none 0 0, .slice none 0 0, .slice none 0 0, .slice none 0 0, .slice none 0 0, .int .i64 0] [(0, 1), (1, 1), (2, 1), (3, 1), (4, 1), (5, 1), (6, 1), (7, 1)] := tBld_mk Try.underlying41 (by kernel_rfl) (z := .agg #[.slice none 0 0, .slice none 0 0, .slice none 0 0, .slice none 0 0, .slice none 0 0, .slice none 0 0, .slice none 0 0, .int .i64 0]) (by kernel_rfl) (by kernel_rfl)
theorem tB25 : TBld Try.prog 25 [.int .i64 0, .slice none 0 0, .slice none 0 0, .slice none 0 0] [(0, 1), (1, 1), (2, 1), (3, 1)] := tBld_mk Try.underlying25 (by kernel_rfl) (z := .agg #[.int .i64 0, .slice none 0 0, .slice none 0 0, .slice none 0 0]) (by kernel_rfl) (by kernel_rfl)
theorem tV28_0 : FldV Try.prog 28 0 0 := fldV_mk Try.underlying28 (by kernel_rfl) tO3
end Go.Proofs.Ytaenggfmpagjgaa.Pl
