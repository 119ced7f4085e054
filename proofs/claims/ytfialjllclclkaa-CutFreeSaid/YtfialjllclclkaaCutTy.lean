/- The types of the cuts' program. -/
import Derived.Test.YtfialjllclclkaaAbSteps
import Derived.Test.YtfialjllclclkaaProg
import Derived.Test.YtfialjllclclkaaCutRaw
import Derived.KernelRfl
set_option linter.unusedSimpArgs false
set_option linter.unusedVariables false
namespace Go.Proofs.Ytfialjllclclkaa
open Go.Abs Go.Cut
theorem size3 : sizeA Try.prog 3 = some 1 := by kernel_rfl
theorem agg3 : aggA Try.prog 3 = some none := by kernel_rfl
theorem ty3 : TyI Try.prog 3 (.int .i64 0) 1 8 := .of (by kernel_rfl)
theorem size5 : sizeA Try.prog 5 = some 1 := by kernel_rfl
theorem agg5 : aggA Try.prog 5 = some none := by kernel_rfl
theorem ty5 : TyI Try.prog 5 (.int .u8 0) 1 1 := .of (by kernel_rfl)
theorem size43 : sizeA Try.prog 43 = some 1 := by kernel_rfl
theorem agg43 : aggA Try.prog 43 = some none := by kernel_rfl
theorem ty43 : TyI Try.prog 43 (.int .i64 0) 1 8 := .of (by kernel_rfl)
theorem size4 : sizeA Try.prog 4 = some 1 := by kernel_rfl
theorem agg4 : aggA Try.prog 4 = some none := by kernel_rfl
theorem ty4 : TyI Try.prog 4 (.bool false) 1 1 := .of (by kernel_rfl)
theorem size37 : sizeA Try.prog 37 = some 1 := by kernel_rfl
theorem agg37 : aggA Try.prog 37 = some none := by kernel_rfl
theorem ty37 : TyI Try.prog 37 (.int .u64 0) 1 8 := .of (by kernel_rfl)
theorem size30 : sizeA Try.prog 30 = some 1 := by kernel_rfl
theorem agg30 : aggA Try.prog 30 = some none := by kernel_rfl
theorem ty30 : TyI Try.prog 30 (.int .i64 0) 1 8 := .of (by kernel_rfl)
theorem size22 : sizeA Try.prog 22 = some 1 := by kernel_rfl
theorem agg22 : aggA Try.prog 22 = some none := by kernel_rfl
theorem ty22 : TyI Try.prog 22 (.slice none 0 0) 1 24 := .of (by kernel_rfl)
theorem size23 : sizeA Try.prog 23 = some 1 := by kernel_rfl
theorem agg23 : aggA Try.prog 23 = some none := by kernel_rfl
theorem ty23 : TyI Try.prog 23 (.slice none 0 0) 1 24 := .of (by kernel_rfl)
theorem size24 : sizeA Try.prog 24 = some 1 := by kernel_rfl
theorem agg24 : aggA Try.prog 24 = some none := by kernel_rfl
theorem ty24 : TyI Try.prog 24 (.slice none 0 0) 1 24 := .of (by kernel_rfl)
theorem size35 : sizeA Try.prog 35 = some 1 := by kernel_rfl
theorem agg35 : aggA Try.prog 35 = some none := by kernel_rfl
theorem ty35 : TyI Try.prog 35 (.slice none 0 0) 1 24 := .of (by kernel_rfl)
theorem size33 : sizeA Try.prog 33 = some 1 := by kernel_rfl
theorem agg33 : aggA Try.prog 33 = some none := by kernel_rfl
theorem ty33 : TyI Try.prog 33 (.slice none 0 0) 1 24 := .of (by kernel_rfl)
theorem size29 : sizeA Try.prog 29 = some 1 := by kernel_rfl
theorem agg29 : aggA Try.prog 29 = some none := by kernel_rfl
theorem ty29 : TyI Try.prog 29 (.slice none 0 0) 1 24 := .of (by kernel_rfl)
theorem size56 : sizeA Try.prog 56 = some 1 := by kernel_rfl
theorem agg56 : aggA Try.prog 56 = some none := by kernel_rfl
theorem ty56 : TyI Try.prog 56 (.slice none 0 0) 1 24 := .of (by kernel_rfl)
theorem size45 : sizeA Try.prog 45 = some 2 := by kernel_rfl
theorem agg45 : aggA Try.prog 45 = some (some 2) := by kernel_rfl
theorem ty45 : TyI Try.prog 45 (.agg #[.int .i64 0, .int .u8 0]) 2 16 := .of (by kernel_rfl)
theorem size47 : sizeA Try.prog 47 = some 2 := by kernel_rfl
theorem agg47 : aggA Try.prog 47 = some (some 2) := by kernel_rfl
theorem ty47 : TyI Try.prog 47 (.agg #[.int .i64 0, .int .i64 0]) 2 16 := .of (by kernel_rfl)
theorem size26 : sizeA Try.prog 26 = some 4 := by kernel_rfl
theorem agg26 : aggA Try.prog 26 = some (some 4) := by kernel_rfl
theorem ty26 : TyI Try.prog 26 (.agg #[.int .i64 0, .slice none 0 0, .slice none 0 0, .slice none 0 0]) 4 80 := .of (by kernel_rfl)
theorem size66 : sizeA Try.prog 66 = some 5 := by kernel_rfl
theorem agg66 : aggA Try.prog 66 = some (some 5) := by kernel_rfl
theorem ty66 : TyI Try.prog 66 (.agg #[.int .i64 0, .slice none 0 0, .slice none 0 0, .slice none 0 0, .int .i64 0]) 5 88 := .of (by kernel_rfl)
theorem size69 : sizeA Try.prog 69 = some 2 := by kernel_rfl
theorem agg69 : aggA Try.prog 69 = some (some 2) := by kernel_rfl
theorem ty69 : TyI Try.prog 69 (.agg #[.int .i64 0, .int .i64 0]) 2 16 := .of (by kernel_rfl)
end Go.Proofs.Ytfialjllclclkaa
