/- TableExamples reckoned: the closed call answers true. -/
import Derived.Test.YtbpjoamdcbbnnaaTabX0
import Derived.Test.YtbpjoamdcbbnnaaProg
import Derived.KernelRfl
set_option linter.unusedSimpArgs false
set_option linter.unusedVariables false
namespace Go.Proofs.Ytbpjoamdcbbnnaa
open Go.Abs
set_option maxRecDepth 1000000 in
theorem Examples_run : runM Try.prog AwkM 500 13 [] = some (.bool true) := by kernel_rfl
theorem Examples_gives (N : Nat) (σ : AHeap) : Gives Try.prog 13 [] N σ (.bool true) := gives_runM AwkOk 500 Examples_run rfl rfl N σ
end Go.Proofs.Ytbpjoamdcbbnnaa
