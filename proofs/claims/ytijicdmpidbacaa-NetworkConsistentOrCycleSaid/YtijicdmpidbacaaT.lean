/- Closed facts about the types of the program; printed. No condition. -/
import Derived.Test.YtijicdmpidbacaaRows
import Derived.Test.YtijicdmpidbacaaPl7
import Derived.Test.YtijicdmpidbacaaSp
namespace Go.Proofs.Ytijicdmpidbacaa.Pl
open Go Go.RowKit
theorem tZ27 : TZero Try.prog 27 [.int .i64 0, .int .i64 0] := tZero_mk (z := .agg #[.int .i64 0, .int .i64 0]) (by kernel_rfl) rfl
theorem tB27 : TBld Try.prog 27 [.int .i64 0, .int .i64 0] [(0, 1), (1, 1)] := tBld_mk Try.underlying27 (by kernel_rfl) (z := .agg #[.int .i64 0, .int .i64 0]) (by kernel_rfl) rfl
theorem tA27 : TAgg Try.prog 27 2 := tAgg_mk Try.underlying27 rfl (by kernel_rfl)
theorem tF35_0 : FldAt Try.prog 35 0 0 := fldAt_mk Try.underlying35 (by kernel_rfl)
theorem tO3 : TOne Try.prog 3 := tOne_mk Try.underlying3 rfl (by kernel_rfl)
theorem tF35_1 : FldAt Try.prog 35 1 1 := fldAt_mk Try.underlying35 (by kernel_rfl)
theorem tF35_2 : FldAt Try.prog 35 2 2 := fldAt_mk Try.underlying35 (by kernel_rfl)
theorem tF35_3 : FldAt Try.prog 35 3 3 := fldAt_mk Try.underlying35 (by kernel_rfl)
theorem tF24_0 : FldAt Try.prog 24 0 0 := fldAt_mk Try.underlying24 (by kernel_rfl)
theorem tF24_1 : FldAt Try.prog 24 1 1 := fldAt_mk Try.underlying24 (by kernel_rfl)
theorem tO22 : TOne Try.prog 22 := tOne_mk Try.underlying22 rfl (by kernel_rfl)
theorem tS22 : TSl Try.prog 22 35 4 32 [.int .i64 0, .int .i64 0, .int .i64 0, .int .i64 0] := tSl_mk (z := .agg #[.int .i64 0, .int .i64 0, .int .i64 0, .int .i64 0]) Try.underlying22 (by kernel_rfl) rfl
theorem tA35 : TAgg Try.prog 35 4 := tAgg_mk Try.underlying35 rfl (by kernel_rfl)
theorem tZ35 : TZero Try.prog 35 [.int .i64 0, .int .i64 0, .int .i64 0, .int .i64 0] := tZero_mk (z := .agg #[.int .i64 0, .int .i64 0, .int .i64 0, .int .i64 0]) (by kernel_rfl) rfl
theorem tS32 : TSl Try.prog 32 3 1 8 [.int .i64 0] := tSl_mk (z := .int .i64 0) Try.underlying32 (by kernel_rfl) rfl
theorem tS25 : TSl Try.prog 25 32 1 24 [.slice none 0 0] := tSl_mk (z := .slice none 0 0) Try.underlying25 (by kernel_rfl) rfl
theorem tO32 : TOne Try.prog 32 := tOne_mk Try.underlying32 rfl (by kernel_rfl)
theorem tA24 : TAgg Try.prog 24 2 := tAgg_mk Try.underlying24 rfl (by kernel_rfl)
theorem tF51_0 : FldAt Try.prog 51 0 0 := fldAt_mk Try.underlying51 (by kernel_rfl)
theorem tE27 : TEq2 Try.prog 27 := ⟨by kernel_rfl, fun d a b c e w => by
  simp [go_sem]
  by_cases h1 : a = c <;> by_cases h2 : b = e <;> simp [h1, h2]⟩
theorem tF51_1 : FldAt Try.prog 51 1 2 := fldAt_mk Try.underlying51 (by kernel_rfl)
theorem tF27_0 : FldAt Try.prog 27 0 0 := fldAt_mk Try.underlying27 (by kernel_rfl)
theorem tA51 : TAgg Try.prog 51 3 := tAgg_mk Try.underlying51 rfl (by kernel_rfl)
theorem tZ24 : TZero Try.prog 24 [.int .i64 0, .slice none 0 0] := tZero_mk (z := .agg #[.int .i64 0, .slice none 0 0]) (by kernel_rfl) rfl
theorem tB24 : TBld Try.prog 24 [.int .i64 0, .slice none 0 0] [(0, 1), (1, 1)] := tBld_mk Try.underlying24 (by kernel_rfl) (z := .agg #[.int .i64 0, .slice none 0 0]) (by kernel_rfl) rfl
theorem tB35 : TBld Try.prog 35 [.int .i64 0, .int .i64 0, .int .i64 0, .int .i64 0] [(0, 1), (1, 1), (2, 1), (3, 1)] := tBld_mk Try.underlying35 (by kernel_rfl) (z := .agg #[.int .i64 0, .int .i64 0, .int .i64 0, .int .i64 0]) (by kernel_rfl) rfl
theorem tB79 : TBld Try.prog 79 [.int .i64 0, .int .i64 0, .int .i64 0] [(0, 1), (1, 1), (2, 1)] := tBld_mk Try.underlying79 (by kernel_rfl) (z := .agg #[.int .i64 0, .int .i64 0, .int .i64 0]) (by kernel_rfl) rfl
theorem tS76 : TSl Try.prog 76 79 3 24 [.int .i64 0, .int .i64 0, .int .i64 0] := tSl_mk (z := .agg #[.int .i64 0, .int .i64 0, .int .i64 0]) Try.underlying76 (by kernel_rfl) rfl
theorem tA79 : TAgg Try.prog 79 3 := tAgg_mk Try.underlying79 rfl (by kernel_rfl)
theorem tZ79 : TZero Try.prog 79 [.int .i64 0, .int .i64 0, .int .i64 0] := tZero_mk (z := .agg #[.int .i64 0, .int .i64 0, .int .i64 0]) (by kernel_rfl) rfl
theorem tF79_1 : FldAt Try.prog 79 1 1 := fldAt_mk Try.underlying79 (by kernel_rfl)
theorem tF79_2 : FldAt Try.prog 79 2 2 := fldAt_mk Try.underlying79 (by kernel_rfl)
theorem tF79_0 : FldAt Try.prog 79 0 0 := fldAt_mk Try.underlying79 (by kernel_rfl)
theorem tE35 : TEq4 Try.prog 35 := ⟨by kernel_rfl, fun d a b c e a' b' c' e' w => by
  simp [go_sem]
  by_cases h1 : a = a' <;> by_cases h2 : b = b' <;> by_cases h3 : c = c' <;> by_cases h4 : e = e' <;> simp [h1, h2, h3, h4]⟩
theorem tB51 : TBld Try.prog 51 [.int .i64 0, .slice none 0 0, .slice none 0 0] [(0, 2), (2, 1)] := tBld_mk Try.underlying51 (by kernel_rfl) (z := .agg #[.int .i64 0, .slice none 0 0, .slice none 0 0]) (by kernel_rfl) rfl
theorem tZ51 : TZero Try.prog 51 [.int .i64 0, .slice none 0 0, .slice none 0 0] := tZero_mk (z := .agg #[.int .i64 0, .slice none 0 0, .slice none 0 0]) (by kernel_rfl) rfl
end Go.Proofs.Ytijicdmpidbacaa.Pl
