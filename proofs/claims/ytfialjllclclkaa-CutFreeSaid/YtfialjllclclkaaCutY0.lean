/- awake of chapter 26 reckoned: the reference and the code of the cuts agree on the samples. -/
import Derived.Test.YtfialjllclclkaaAbFxD
import Derived.Test.YtfialjllclclkaaProg
import Derived.KernelRfl
set_option linter.unusedSimpArgs false
set_option linter.unusedVariables false
namespace Go.Proofs.Ytfialjllclclkaa
open Go.Abs
set_option maxRecDepth 1000000 in
theorem Awk_run : runF Try.prog [] 100 12 [] = some (.bool true) := by kernel_rfl
theorem Awk_gives (N : Nat) (σ : AHeap) : Gives Try.prog 12 [] N σ (.bool true) := gives_runF .nil 100 Awk_run rfl rfl N σ
def AwkM : Memo := (12, [], (.bool true)) :: []
theorem AwkOk : MemoOk Try.prog AwkM := .cons Awk_gives .nil
end Go.Proofs.Ytfialjllclclkaa
