/- RewriteExamples reckoned. -/
import Derived.Test.YtnmbjabbnkbklaaGreatRwX0
namespace Go.Proofs.YtnmbjabbnkbklaaGreat
open Go.Abs
set_option maxRecDepth 1000000 in
theorem Ex_run : runF Tryz.prog AwkM 200 9 [] = some (.bool true) := by kernel_rfl
theorem Ex_gives (N : Nat) (σ : AHeap) : Gives Tryz.prog 9 [] N σ (.bool true) := gives_runF AwkOk 200 Ex_run rfl rfl N σ
end Go.Proofs.YtnmbjabbnkbklaaGreat
