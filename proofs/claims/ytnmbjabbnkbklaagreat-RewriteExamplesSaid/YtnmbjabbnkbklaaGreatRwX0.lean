/- awake of chapter 27 reckoned. -/
import Derived.Test.YtnmbjabbnkbklaaGreatAbFxD
import Derived.Test.YtnmbjabbnkbklaaGreatProg
import Derived.KernelRfl
set_option linter.unusedSimpArgs false
set_option linter.unusedVariables false
namespace Go.Proofs.YtnmbjabbnkbklaaGreat
open Go.Abs
set_option maxRecDepth 1000000 in
theorem Awk_run : runF Tryz.prog [] 200 13 [] = some (.bool true) := by kernel_rfl
theorem Awk_gives (N : Nat) (σ : AHeap) : Gives Tryz.prog 13 [] N σ (.bool true) := gives_runF .nil 200 Awk_run rfl rfl N σ
def AwkM : Memo := (13, [], (.bool true)) :: []
theorem AwkOk : MemoOk Tryz.prog AwkM := .cons Awk_gives .nil
end Go.Proofs.YtnmbjabbnkbklaaGreat
