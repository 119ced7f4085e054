/- awake run in pieces. -/
import Derived.Test.YtbpjoamdcbbnnaaAbRun
import Derived.Test.YtbpjoamdcbbnnaaProg
import Derived.KernelRfl
set_option linter.unusedSimpArgs false
set_option linter.unusedVariables false
namespace Go.Proofs.Ytbpjoamdcbbnnaa
open Go.Abs
set_option maxRecDepth 1000000
def AwkS0 : St := (ofArgs 0 [] .leaf, 0, .leaf)
def AwkS1 : St := (mkT [(0, (Value.bool false)), (1, (Value.int IntKind.u64 (Int.ofNat 102))), (2, (Value.int IntKind.i64 (Int.ofNat 0)))], 2, mkT [])
theorem Awk_s1 : evT Try.prog [] 500 151 (seg Try.f16 0 2) AwkS0 [0, 1, 2] [] = some (Exit.normal, AwkS1) := by kernel_rfl
def AwkS2 : St := (mkT [(0, (Value.bool false)), (1, (Value.int IntKind.u64 (Int.ofNat 102))), (2, (Value.int IntKind.i64 (Int.ofNat 0))), (3, (Value.int IntKind.u64 (Int.ofNat 1))), (5, (Value.int IntKind.i64 (Int.ofNat 0)))], 68, mkT [])
theorem Awk_s2 : evT Try.prog [] 500 151 (seg Try.f16 2 1) AwkS1 [0, 1, 2, 3, 5] [] = some (Exit.normal, AwkS2) := by kernel_rfl
def AwkS3 : St := (mkT [(0, (Value.bool false)), (1, (Value.int IntKind.u64 (Int.ofNat 102))), (2, (Value.int IntKind.i64 (Int.ofNat 0))), (3, (Value.int IntKind.u64 (Int.ofNat 1))), (5, (Value.int IntKind.i64 (Int.ofNat 0))), (6, (Value.int IntKind.u64 (Int.ofNat 1))), (8, (Value.int IntKind.i64 (Int.ofNat 0)))], 128, mkT [])
theorem Awk_s3 : evT Try.prog [] 500 151 (seg Try.f16 3 1) AwkS2 [0, 1, 2, 3, 5, 6, 8] [] = some (Exit.normal, AwkS3) := by kernel_rfl
def AwkS4 : St := (mkT [(0, (Value.bool false)), (1, (Value.int IntKind.u64 (Int.ofNat 102))), (2, (Value.int IntKind.i64 (Int.ofNat 0))), (3, (Value.int IntKind.u64 (Int.ofNat 1))), (5, (Value.int IntKind.i64 (Int.ofNat 0))), (6, (Value.int IntKind.u64 (Int.ofNat 1))), (8, (Value.int IntKind.i64 (Int.ofNat 0))), (9, (Value.int IntKind.u64 (Int.ofNat 1))), (11, (Value.int IntKind.i64 (Int.ofNat 0)))], 192, mkT [])
theorem Awk_s4 : evT Try.prog [] 500 151 (seg Try.f16 4 1) AwkS3 [0, 1, 2, 3, 5, 6, 8, 9, 11] [] = some (Exit.normal, AwkS4) := by kernel_rfl
def AwkS5 : St := (mkT [(0, (Value.bool false)), (1, (Value.int IntKind.u64 (Int.ofNat 102))), (2, (Value.int IntKind.i64 (Int.ofNat 0))), (3, (Value.int IntKind.u64 (Int.ofNat 1))), (5, (Value.int IntKind.i64 (Int.ofNat 0))), (6, (Value.int IntKind.u64 (Int.ofNat 1))), (8, (Value.int IntKind.i64 (Int.ofNat 0))), (9, (Value.int IntKind.u64 (Int.ofNat 1))), (11, (Value.int IntKind.i64 (Int.ofNat 0))), (12, (Value.int IntKind.u64 (Int.ofNat 6))), (14, (Value.int IntKind.i64 (Int.ofNat 0)))], 252, mkT [])
theorem Awk_s5 : evT Try.prog [] 500 151 (seg Try.f16 5 1) AwkS4 [0, 1, 2, 3, 5, 6, 8, 9, 11, 12, 14] [] = some (Exit.normal, AwkS5) := by kernel_rfl
def AwkS6 : St := (mkT [(0, (Value.bool false)), (1, (Value.int IntKind.u64 (Int.ofNat 102))), (2, (Value.int IntKind.i64 (Int.ofNat 0))), (3, (Value.int IntKind.u64 (Int.ofNat 1))), (5, (Value.int IntKind.i64 (Int.ofNat 0))), (6, (Value.int IntKind.u64 (Int.ofNat 1))), (8, (Value.int IntKind.i64 (Int.ofNat 0))), (9, (Value.int IntKind.u64 (Int.ofNat 1))), (11, (Value.int IntKind.i64 (Int.ofNat 0))), (12, (Value.int IntKind.u64 (Int.ofNat 6))), (14, (Value.int IntKind.i64 (Int.ofNat 0))), (15, (Value.slice (some { block := 310, off := 0 }) 3 3)), (16, (Value.int IntKind.i64 (Int.ofNat 0)))], 313, mkT [(310, ([(Value.int IntKind.u8 (Int.ofNat 3)), (Value.int IntKind.u8 (Int.ofNat 0)), (Value.int IntKind.u8 (Int.ofNat 5)), (Value.int IntKind.u8 (Int.ofNat 0)), (Value.int IntKind.u8 (Int.ofNat 6)), (Value.int IntKind.u8 (Int.ofNat 0))], 2))])
theorem Awk_s6 : evT Try.prog [] 500 151 (seg Try.f16 6 1) AwkS5 [0, 1, 2, 3, 5, 6, 8, 9, 11, 12, 14, 15, 16] [310] = some (Exit.normal, AwkS6) := by kernel_rfl
def AwkS7 : St := (mkT [(0, (Value.bool false)), (1, (Value.int IntKind.u64 (Int.ofNat 102))), (3, (Value.int IntKind.u64 (Int.ofNat 1))), (6, (Value.int IntKind.u64 (Int.ofNat 1))), (9, (Value.int IntKind.u64 (Int.ofNat 1))), (12, (Value.int IntKind.u64 (Int.ofNat 6))), (17, (Value.int IntKind.u64 (Int.ofNat 143))), (88, (Value.slice (some { block := 310, off := 0 }) 3 3)), (89, (Value.int IntKind.i64 (Int.ofNat 3))), (90, (Value.int IntKind.i64 (Int.ofNat 0)))], 321, mkT [(310, ([(Value.int IntKind.u8 (Int.ofNat 3)), (Value.int IntKind.u8 (Int.ofNat 0)), (Value.int IntKind.u8 (Int.ofNat 5)), (Value.int IntKind.u8 (Int.ofNat 0)), (Value.int IntKind.u8 (Int.ofNat 6)), (Value.int IntKind.u8 (Int.ofNat 0))], 2))])
theorem Awk_s7 : evT Try.prog [] 500 151 (seg Try.f16 7 4) AwkS6 [0, 1, 3, 6, 9, 12, 17, 88, 89, 90] [310] = some (Exit.normal, AwkS7) := by kernel_rfl
def AwkS8 : St := (mkT [(0, (Value.bool true))], 329, mkT [])
theorem Awk_s8 : evT Try.prog [] 500 151 (seg Try.f16 11 2) AwkS7 [0] [] = some (Exit.normal, AwkS8) := by kernel_rfl
def AwkS9 : St := (mkT [(0, (Value.bool true))], 329, mkT [])
theorem Awk_s9 : evT Try.prog [] 500 151 (seg Try.f16 13 1) AwkS8 [0] [] = some (Exit.ret, AwkS9) := by kernel_rfl
theorem Awk_gives (N : Nat) (σ : AHeap) : Gives Try.prog 16 [] N σ (.bool true) := by
  have h := runs_append (runs_evT .nil 500 Awk_s1) (runs_append (runs_evT .nil 500 Awk_s2) (runs_append (runs_evT .nil 500 Awk_s3) (runs_append (runs_evT .nil 500 Awk_s4) (runs_append (runs_evT .nil 500 Awk_s5) (runs_append (runs_evT .nil 500 Awk_s6) (runs_append (runs_evT .nil 500 Awk_s7) (runs_append (runs_evT .nil 500 Awk_s8) (runs_evT .nil 500 Awk_s9))))))))
  exact gives_pieces (fn := Try.f16) (ex := Exit.ret) (r := AwkS9) Try.func16 rfl (by kernel_rfl) rfl h (.inr rfl) (by kernel_rfl) rfl rfl N σ
def AwkM : Memo := (16, [], (.bool true)) :: []
theorem AwkOk : MemoOk Try.prog AwkM := .cons Awk_gives .nil
end Go.Proofs.Ytbpjoamdcbbnnaa
