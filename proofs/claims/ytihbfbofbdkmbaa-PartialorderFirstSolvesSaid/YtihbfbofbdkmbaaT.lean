/- Closed facts about the types of the program; printed. No condition. -/
import Derived.Test.YtihbfbofbdkmbaaRows
import Derived.Test.YtihbfbofbdkmbaaPl7
import Derived.Test.YtihbfbofbdkmbaaSp
import Derived.ChangeKeysEq
namespace Go.Proofs.Ytihbfbofbdkmbaa.Pl
open Go Go.RowKit
theorem tZ28 : TZero Try.prog 28 [.int .i64 0, .int .i64 0] := tZero_mk (z := .agg #[.int .i64 0, .int .i64 0]) (by kernel_rfl) rfl
theorem tB28 : TBld Try.prog 28 [.int .i64 0, .int .i64 0] [(0, 1), (1, 1)] := tBld_mk Try.underlying28 (by kernel_rfl) (z := .agg #[.int .i64 0, .int .i64 0]) (by kernel_rfl) (by kernel_rfl)
theorem tA28 : TAgg Try.prog 28 2 := tAgg_mk Try.underlying28 rfl (by kernel_rfl)
theorem tS22 : TSl Try.prog 22 3 1 8 [.int .i64 0] := tSl_mk (z := .int .i64 0) Try.underlying22 (by kernel_rfl) rfl
theorem tO3 : TOne Try.prog 3 := tOne_mk Try.underlying3 rfl (by kernel_rfl)
theorem tO22 : TOne Try.prog 22 := tOne_mk Try.underlying22 rfl (by kernel_rfl)
theorem tF89_0 : FldAt Try.prog 89 0 0 := fldAt_mk Try.underlying89 (by kernel_rfl)
theorem tF89_1 : FldAt Try.prog 89 1 1 := fldAt_mk Try.underlying89 (by kernel_rfl)
theorem tF89_2 : FldAt Try.prog 89 2 2 := fldAt_mk Try.underlying89 (by kernel_rfl)
theorem tF89_3 : FldAt Try.prog 89 3 3 := fldAt_mk Try.underlying89 (by kernel_rfl)
theorem tF25_0 : FldAt Try.prog 25 0 0 := fldAt_mk Try.underlying25 (by kernel_rfl)
theorem tF25_1 : FldAt Try.prog 25 1 1 := fldAt_mk Try.underlying25 (by kernel_rfl)
theorem tF25_2 : FldAt Try.prog 25 2 2 := fldAt_mk Try.underlying25 (by kernel_rfl)
theorem tF25_3 : FldAt Try.prog 25 3 3 := fldAt_mk Try.underlying25 (by kernel_rfl)
theorem tO23 : TOne Try.prog 23 := tOne_mk Try.underlying23 rfl (by kernel_rfl)
theorem tS23 : TSl Try.prog 23 89 4 80 [.slice none 0 0, .slice none 0 0, .slice none 0 0, .int .i64 0] := tSl_mk (z := .agg #[.slice none 0 0, .slice none 0 0, .slice none 0 0, .int .i64 0]) Try.underlying23 (by kernel_rfl) rfl
theorem tA89 : TAgg Try.prog 89 4 := tAgg_mk Try.underlying89 rfl (by kernel_rfl)
theorem tZ89 : TZero Try.prog 89 [.slice none 0 0, .slice none 0 0, .slice none 0 0, .int .i64 0] := tZero_mk (z := .agg #[.slice none 0 0, .slice none 0 0, .slice none 0 0, .int .i64 0]) (by kernel_rfl) rfl
theorem tA25 : TAgg Try.prog 25 4 := tAgg_mk Try.underlying25 rfl (by kernel_rfl)
theorem tE28 : TEq2 Try.prog 28 := ⟨by kernel_rfl, fun d a b c e w => by
  simp [go_sem]
  by_cases h1 : a = c <;> by_cases h2 : b = e <;> simp [h1, h2]⟩
theorem tF28_0 : FldAt Try.prog 28 0 0 := fldAt_mk Try.underlying28 (by kernel_rfl)
theorem tS80 : TSl Try.prog 80 84 1 24 [.slice none 0 0] := tSl_mk (z := .slice none 0 0) Try.underlying80 (by kernel_rfl) rfl
theorem tS84 : TSl Try.prog 84 4 1 1 [.bool false] := tSl_mk (z := .bool false) Try.underlying84 (by kernel_rfl) rfl
theorem tO84 : TOne Try.prog 84 := tOne_mk Try.underlying84 rfl (by kernel_rfl)
theorem tS26 : TSl Try.prog 26 43 2 16 [.int .i64 0, .int .i64 0] := tSl_mk (z := .agg #[.int .i64 0, .int .i64 0]) Try.underlying26 (by kernel_rfl) rfl
theorem tA43 : TAgg Try.prog 43 2 := tAgg_mk Try.underlying43 rfl (by kernel_rfl)
theorem tZ43 : TZero Try.prog 43 [.int .i64 0, .int .i64 0] := tZero_mk (z := .agg #[.int .i64 0, .int .i64 0]) (by kernel_rfl) rfl
theorem tR43 : TArr Try.prog 43 2 1 := tArr_mk Try.underlying43 (by kernel_rfl)
theorem tO4 : TOne Try.prog 4 := tOne_mk Try.underlying4 rfl (by kernel_rfl)
theorem tS36 : TSl Try.prog 36 22 1 24 [.slice none 0 0] := tSl_mk (z := .slice none 0 0) Try.underlying36 (by kernel_rfl) rfl
theorem tB43 : TBldA Try.prog 43 1 [.int .i64 0, .int .i64 0] := tBldA_mk Try.underlying43 (by kernel_rfl) (z := .agg #[.int .i64 0, .int .i64 0]) rfl (by kernel_rfl)
theorem tF87_1 : FldAt Try.prog 87 1 4 := fldAt_mk Try.underlying87 (by kernel_rfl)
theorem tF87_2 : FldAt Try.prog 87 2 5 := fldAt_mk Try.underlying87 (by kernel_rfl)
theorem tO80 : TOne Try.prog 80 := tOne_mk Try.underlying80 rfl (by kernel_rfl)
theorem tF87_0 : FldAt Try.prog 87 0 0 := fldAt_mk Try.underlying87 (by kernel_rfl)
theorem tA87 : TAgg Try.prog 87 6 := tAgg_mk Try.underlying87 rfl (by kernel_rfl)
theorem tB87 : TBld Try.prog 87 [.int .i64 0, .slice none 0 0, .slice none 0 0, .slice none 0 0, .slice none 0 0, .slice none 0 0] [(0, 4), (4, 1), (5, 1)] := tBld_mk Try.underlying87 (by kernel_rfl) (z := .agg #[.int .i64 0, .slice none 0 0, .slice none 0 0, .slice none 0 0, .slice none 0 0, .slice none 0 0]) (by kernel_rfl) (by kernel_rfl)
theorem tZ87 : TZero Try.prog 87 [.int .i64 0, .slice none 0 0, .slice none 0 0, .slice none 0 0, .slice none 0 0, .slice none 0 0] := tZero_mk (z := .agg #[.int .i64 0, .slice none 0 0, .slice none 0 0, .slice none 0 0, .slice none 0 0, .slice none 0 0]) (by kernel_rfl) rfl
theorem tZ3 : TZero Try.prog 3 [.int .i64 0] := tZero_mk (z := .int .i64 0) (by kernel_rfl) rfl
theorem cellsE43 : Try.prog.cellsOf 3 = 1 := by kernel_rfl
theorem infoE43 : (Try.prog.info? 3).isSome = true := by kernel_rfl
theorem tE43 : TEq2 Try.prog 43 := ⟨by kernel_rfl, fun d a b c e w => by
  obtain ⟨i, hi⟩ := Option.isSome_iff_exists.1 infoE43
  rw [run_equalIn_array w (d + 1) _ _ Try.underlying43 hi, cellsE43, show List.range 2 = [0, 1] from rfl]
  simp [Op.eqItems, go_sem]
  by_cases h1 : a = c <;> by_cases h2 : b = e <;> simp [h1, h2]⟩
end Go.Proofs.Ytihbfbofbdkmbaa.Pl
