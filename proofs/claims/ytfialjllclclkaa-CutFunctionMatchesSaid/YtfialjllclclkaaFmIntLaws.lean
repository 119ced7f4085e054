/- Shaken texts of the layer and of the walks. -/
import Derived.Test.YtfialjllclclkaaFmQuiet
import Derived.IntWalk
import Derived.Laws.Bits64
namespace Go.Abs

theorem ofInt_toNat (x : BitVec 64) : BitVec.ofInt 64 (x.toNat : Int) = x := by simp
theorem wrap_u64_toNat (x : BitVec 64) : IntKind.u64.wrap (x.toNat : Int) = x.toNat := by rw [IntKind.wrap_u64]; have := x.isLt; omega
theorem u64_and (a b : Int) : intA .and .u64 a b = some (.int .u64 (BitVec.ofInt 64 a &&& BitVec.ofInt 64 b).toNat) := by
  simp only [intA]; exact congrArg (fun z => some (Value.int .u64 z)) (wrap_u64_toNat (BitVec.ofInt 64 a &&& BitVec.ofInt 64 b))
theorem u64_or (a b : Int) : intA .or .u64 a b = some (.int .u64 (BitVec.ofInt 64 a ||| BitVec.ofInt 64 b).toNat) := by
  simp only [intA]; exact congrArg (fun z => some (Value.int .u64 z)) (wrap_u64_toNat (BitVec.ofInt 64 a ||| BitVec.ofInt 64 b))
theorem u64_xor (a b : Int) : intA .xor .u64 a b = some (.int .u64 (BitVec.ofInt 64 a ^^^ BitVec.ofInt 64 b).toNat) := by
  simp only [intA]; exact congrArg (fun z => some (Value.int .u64 z)) (wrap_u64_toNat (BitVec.ofInt 64 a ^^^ BitVec.ofInt 64 b))
theorem u64_andNot (a b : Int) : intA .andNot .u64 a b = some (.int .u64 (BitVec.ofInt 64 a &&& ~~~ BitVec.ofInt 64 b).toNat) := by
  simp only [intA]; exact congrArg (fun z => some (Value.int .u64 z)) (wrap_u64_toNat (BitVec.ofInt 64 a &&& ~~~ BitVec.ofInt 64 b))
theorem wrap_u64_ofInt (a : Int) : IntKind.u64.wrap a = (BitVec.ofInt 64 a).toNat := by
  rw [IntKind.wrap_u64, BitVec.toNat_ofInt]; omega
theorem u64_sub (a b : Int) : intA .sub .u64 a b = some (.int .u64 (BitVec.ofInt 64 (a - b)).toNat) := by simp only [intA, wrap_u64_ofInt]
theorem u64_add (a b : Int) : intA .add .u64 a b = some (.int .u64 (BitVec.ofInt 64 (a + b)).toNat) := by simp only [intA, wrap_u64_ofInt]
theorem ofInt_shl (a : Int) (n : Nat) : BitVec.ofInt 64 (a * 2 ^ (min n 64)) = BitVec.ofInt 64 a <<< n := by
  have h2 : ((2 : Int) ^ (min n 64)) = ((2 ^ (min n 64) : Nat) : Int) := by simp
  rw [BitVec.ofInt_mul, h2, BitVec.ofInt_natCast]
  by_cases hb : n < 64
  · rw [show min n 64 = n from by omega, BitVec.shiftLeft_eq_mul_twoPow]
    congr 1
    apply BitVec.eq_of_toNat_eq
    simp
  · rw [show min n 64 = 64 from by omega, BitVec.shiftLeft_eq_zero (by omega)]
    simp
theorem u64_shl (a b : Int) (h : 0 ≤ b) : shiftA .shl .u64 a b = some (.int .u64 (BitVec.ofInt 64 a <<< b.toNat).toNat) := by
  unfold shiftA
  rw [if_neg (by omega)]
  simp only [wrap_u64_ofInt, IntKind.bits, ofInt_shl]
theorem u64_shr (x : BitVec 64) (b : Int) (h : 0 ≤ b) : shiftA .shr .u64 x.toNat b = some (.int .u64 (x >>> b.toNat).toNat) := by
  unfold shiftA
  rw [if_neg (by omega)]
  simp only [IntKind.bits, BitVec.toNat_ushiftRight, Nat.shiftRight_eq_div_pow]
  have h2 : ((2 : Int) ^ (min b.toNat 64)) = ((2 ^ (min b.toNat 64) : Nat) : Int) := by simp
  rw [h2, Int.fdiv_eq_ediv_of_nonneg _ (Int.natCast_nonneg _), ← Int.natCast_ediv]
  congr 3
  by_cases hb : b.toNat < 64
  · rw [show min b.toNat 64 = b.toNat from by omega]
  · rw [show min b.toNat 64 = 64 from by omega]
    have h1 := x.isLt
    rw [Nat.div_eq_of_lt h1, Nat.div_eq_of_lt (Nat.lt_of_lt_of_le h1 (Nat.pow_le_pow_right (by omega) (by omega)))]
theorem u64_shr_lit (a b : Int) (h0 : 0 ≤ a) (h1 : a < 18446744073709551616) (h : 0 ≤ b) : shiftA .shr .u64 a b = some (.int .u64 (BitVec.ofInt 64 a >>> b.toNat).toNat) := by
  rw [← u64_shr _ _ h]
  congr 1
  simp only [BitVec.toNat_ofInt]
  omega
theorem u64_eql_lit (x : BitVec 64) (c : Int) (h0 : 0 ≤ c) (h1 : c < 18446744073709551616) : cmpA .eql (x.toNat : Int) c = some (decide (x = BitVec.ofInt 64 c)) := by
  simp only [cmpA, BitVec.toNat_eq, BitVec.toNat_ofInt]
  congr 1
  have : (c % (2 ^ 64 : Nat)).toNat = c.toNat := by omega
  rw [this]
  by_cases h : x.toNat = c.toNat
  · simp [h]; omega
  · simp [h]; omega
theorem u64_eql (x y : BitVec 64) : cmpA .eql (x.toNat : Int) y.toNat = some (decide (x = y)) := by
  simp only [cmpA, BitVec.toNat_eq]
  congr 1
  by_cases h : x.toNat = y.toNat <;> simp [h]; omega
theorem u64_neq (x y : BitVec 64) : cmpA .neq (x.toNat : Int) y.toNat = some (!decide (x = y)) := by
  simp only [cmpA, BitVec.toNat_eq]
  congr 1
  by_cases h : x.toNat = y.toNat <;> simp [h, bne]; omega
theorem bv_small {a : Nat} (h : a < 9223372036854775808) : (BitVec.ofInt 64 (a : Int)).toNat = a := by simp; omega
theorem i64_wrap_nat {a : Nat} (h : a < 9223372036854775808) : IntKind.i64.wrap (a : Int) = a := IntWalk.i64_in _ (by omega)
theorem i64_and {a b : Nat} (ha : a < 9223372036854775808) (hb : b < 9223372036854775808) : intA .and .i64 (a : Int) (b : Int) = some (.int .i64 ((a &&& b : Nat) : Int)) := by
  have h := bv_small ha; have h' := bv_small hb
  have hlt : a &&& b < 9223372036854775808 := Nat.lt_of_le_of_lt Nat.and_le_left ha
  have e : (BitVec.ofInt IntKind.i64.bits (a : Int) &&& BitVec.ofInt IntKind.i64.bits (b : Int)).toNat = a &&& b := by
    show (BitVec.ofInt 64 (a : Int) &&& BitVec.ofInt 64 (b : Int)).toNat = a &&& b
    rw [BitVec.toNat_and, h, h']
  simp only [intA, e, i64_wrap_nat hlt]
theorem i64_shl {a : Nat} {i : Int} (hi : 0 ≤ i) (h : a * 2 ^ i.toNat < 9223372036854775808) (h64 : i ≤ 64) : shiftA .shl .i64 (a : Int) i = some (.int .i64 ((a * 2 ^ i.toNat : Nat) : Int)) := by
  unfold shiftA
  rw [if_neg (by omega)]
  have : min i.toNat IntKind.i64.bits = i.toNat := by simp only [IntKind.bits]; omega
  simp only [this]
  have h2 : ((a : Int) * 2 ^ i.toNat) = ((a * 2 ^ i.toNat : Nat) : Int) := by simp
  rw [h2, i64_wrap_nat h]
theorem i64_shr {a : Nat} {i : Int} (hi : 0 ≤ i) (ha : a < 9223372036854775808) : shiftA .shr .i64 (a : Int) i = some (.int .i64 ((a >>> i.toNat : Nat) : Int)) := by
  unfold shiftA
  rw [if_neg (by omega)]
  simp only [IntKind.bits, Nat.shiftRight_eq_div_pow]
  have h2 : ((2 : Int) ^ (min i.toNat 64)) = ((2 ^ (min i.toNat 64) : Nat) : Int) := by simp
  rw [h2, Int.fdiv_eq_ediv_of_nonneg _ (Int.natCast_nonneg _), ← Int.natCast_ediv]
  congr 3
  by_cases hb : i.toNat < 64
  · rw [show min i.toNat 64 = i.toNat from by omega]
  · rw [show min i.toNat 64 = 64 from by omega]
    rw [Nat.div_eq_of_lt (by omega), Nat.div_eq_of_lt (Nat.lt_of_lt_of_le (show a < 2 ^ 64 by omega) (Nat.pow_le_pow_right (by omega) (by omega)))]
theorem i64_add {a b : Int} (h : -9223372036854775808 ≤ a + b ∧ a + b ≤ 9223372036854775807) : intA .add .i64 a b = some (.int .i64 (a + b)) := by
  simp only [intA, IntWalk.i64_in _ h]
theorem i64_sub {a b : Int} (h : -9223372036854775808 ≤ a - b ∧ a - b ≤ 9223372036854775807) : intA .sub .i64 a b = some (.int .i64 (a - b)) := by
  simp only [intA, IntWalk.i64_in _ h]
theorem i64_lss (x y : Int) : intA .lss .i64 x y = some (.bool (decide (x < y))) := rfl
theorem u64_lss' (x y : Int) : intA .lss .u64 x y = (cmpA .lss x y).map .bool := rfl
theorem i64_leq (x y : Int) : intA .leq .i64 x y = some (.bool (decide (x ≤ y))) := rfl
theorem u64_leq' (x y : Int) : intA .leq .u64 x y = (cmpA .leq x y).map .bool := rfl
theorem i64_gtr (x y : Int) : intA .gtr .i64 x y = some (.bool (decide (x > y))) := rfl
theorem u64_gtr' (x y : Int) : intA .gtr .u64 x y = (cmpA .gtr x y).map .bool := rfl
theorem i64_geq (x y : Int) : intA .geq .i64 x y = some (.bool (decide (x ≥ y))) := rfl
theorem u64_geq' (x y : Int) : intA .geq .u64 x y = (cmpA .geq x y).map .bool := rfl
theorem i64_eql (x y : Int) : intA .eql .i64 x y = some (.bool (x == y)) := rfl
theorem u64_eql' (x y : Int) : intA .eql .u64 x y = (cmpA .eql x y).map .bool := rfl
theorem i64_neq (x y : Int) : intA .neq .i64 x y = some (.bool (x != y)) := rfl
theorem u64_neq' (x y : Int) : intA .neq .u64 x y = (cmpA .neq x y).map .bool := rfl
theorem u8_eql (x y : Int) : intA .eql .u8 x y = some (.bool (x == y)) := rfl
theorem u8_neq (x y : Int) : intA .neq .u8 x y = some (.bool (x != y)) := rfl
end Go.Abs

