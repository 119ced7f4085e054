/- Shaken texts of the layer and of the walks. -/
import Derived.Test.YtfialjllclclkaaFmRun
set_option linter.unusedVariables false
namespace Go.Abs
noncomputable section

structure Box (α : Type) where
  un : α
def forceN {β : Type} (x : Nat) (K : Nat → β) : β := Nat.rec (motive := fun _ => β) (K 0) (fun n _ => K n) (Nat.add x 1)
def asInt (v : Value) (K : IntKind → Int → Option Value) : Option Value := Value.rec (motive_1 := fun _ => Option Value) (motive_2 := fun _ => PUnit) (motive_3 := fun _ => PUnit) (fun _ => none) K (fun _ _ => none) (fun _ _ _ => none) (fun _ => none) (fun _ => none) (fun _ _ _ => none) (fun _ => none) (fun _ => none) (fun _ _ _ _ _ => none) none (fun _ _ _ => none) none (fun _ _ => none) (fun _ _ => none) (fun _ _ => .unit) .unit (fun _ _ _ _ => .unit) v
theorem asInt_some {v r : Value} {K : IntKind → Int → Option Value} (h : asInt v K = some r) : ∃ k a, v = .int k a ∧ K k a = some r := by
  cases v <;> first | exact ⟨_, _, rfl, h⟩ | cases h
def asBool {β : Type} (v : Value) (d : β) (K : Bool → β) : β := Value.rec (motive_1 := fun _ => β) (motive_2 := fun _ => PUnit) (motive_3 := fun _ => PUnit) K (fun _ _ => d) (fun _ _ => d) (fun _ _ _ => d) (fun _ => d) (fun _ => d) (fun _ _ _ => d) (fun _ => d) (fun _ => d) (fun _ _ _ _ _ => d) d (fun _ _ _ => d) d (fun _ _ => d) (fun _ _ => d) (fun _ _ => .unit) .unit (fun _ _ _ _ => .unit) v
def onKB : IntKind → Box (IntKind → Option Value → Option Value)
  | .i8 => ⟨fun k y => IntKind.rec (motive := fun _ => Option Value) y none none none none none none none k⟩
  | .i16 => ⟨fun k y => IntKind.rec (motive := fun _ => Option Value) none y none none none none none none k⟩
  | .i32 => ⟨fun k y => IntKind.rec (motive := fun _ => Option Value) none none y none none none none none k⟩
  | .i64 => ⟨fun k y => IntKind.rec (motive := fun _ => Option Value) none none none y none none none none k⟩
  | .u8 => ⟨fun k y => IntKind.rec (motive := fun _ => Option Value) none none none none y none none none k⟩
  | .u16 => ⟨fun k y => IntKind.rec (motive := fun _ => Option Value) none none none none none y none none k⟩
  | .u32 => ⟨fun k y => IntKind.rec (motive := fun _ => Option Value) none none none none none none y none k⟩
  | .u64 => ⟨fun k y => IntKind.rec (motive := fun _ => Option Value) none none none none none none none y k⟩
theorem onK_some {k0 k : IntKind} {y : Option Value} {r : Value} (h : (onKB k0).un k y = some r) : k = k0 ∧ y = some r := by
  cases k0 <;> cases k <;> first | exact ⟨rfl, h⟩ | cases h
def lim : IntKind → Nat
  | .i8 => 128
  | .i16 => 32768
  | .i32 => 2147483648
  | .i64 => 9223372036854775808
  | .u8 => 256
  | .u16 => 65536
  | .u32 => 4294967296
  | .u64 => 18446744073709551616
def bitsN : IntKind → Nat
  | .i8 => 8
  | .i16 => 16
  | .i32 => 32
  | .i64 => 64
  | .u8 => 8
  | .u16 => 16
  | .u32 => 32
  | .u64 => 64
theorem lim_le (k : IntKind) : lim k ≤ 2 ^ k.bits := by cases k <;> decide
theorem lim_pow (k : IntKind) : ∃ b, lim k = 2 ^ b := by
  cases k
  · exact ⟨7, rfl⟩
  · exact ⟨15, rfl⟩
  · exact ⟨31, rfl⟩
  · exact ⟨63, rfl⟩
  · exact ⟨8, rfl⟩
  · exact ⟨16, rfl⟩
  · exact ⟨32, rfl⟩
  · exact ⟨64, rfl⟩
theorem wrap_nat (k : IntKind) (m : Nat) (h : m < lim k) : k.wrap (m : Int) = m := by
  cases k <;> simp only [lim] at h <;> simp only [IntKind.wrap, IntKind.signed, IntKind.bits] <;> simp <;> omega

def okI (k : IntKind) (m : Nat) (slow : Option Value) : Option Value :=
  Bool.rec (motive := fun _ => Option Value) slow (forceN m fun m => some (.int k (.ofNat m))) (Nat.blt m (lim k))
theorem okI_eq (k : IntKind) (m : Nat) (slow : Option Value) (hs : m < lim k → slow = some (.int k m)) : okI k m slow = slow := by
  unfold okI
  cases h : Nat.blt m (lim k) with
  | false => rfl
  | true => exact (hs (blt_lt h)).symm
def okB (b : Bool) : Option Value := Bool.rec (motive := fun _ => Option Value) (some (.bool false)) (some (.bool true)) b
theorem okB_eq (b : Bool) : okB b = some (.bool b) := by cases b <;> rfl
def both (a b : Int) (K : Nat → Nat → Option Value) (slow : Int → Int → Option Value) : Option Value :=
  Int.rec (motive := fun _ => Option Value) (fun m => Int.rec (motive := fun _ => Option Value) (fun n => K m n) (fun n => slow (.ofNat m) (.negSucc n)) b) (fun m => slow (.negSucc m) b) a
theorem both_eq (a b : Int) (K : Nat → Nat → Option Value) (slow : Int → Int → Option Value) (h : ∀ m n : Nat, K m n = slow m n) : both a b K slow = slow a b := by
  cases a with
  | ofNat m => cases b with
    | ofNat n => exact h m n
    | negSucc n => rfl
  | negSucc m => rfl
def bigI (o : BinOp) (k : IntKind) (a b : Int) : Option Value := match o with
  | .shl => shiftA .shl k a b
  | .shr => shiftA .shr k a b
  | o => intA o k a b
def arB (o : BinOp) (k : IntKind) : Box (Int → Int → Option Value) := match o with
  | .add => ⟨fun a b => both a b (fun m n => okI k (Nat.add m n) (intA .add k m n)) (intA .add k)⟩
  | .sub => ⟨fun a b => both a b (fun m n => Bool.rec (motive := fun _ => Option Value) (intA .sub k m n) (okI k (Nat.sub m n) (intA .sub k m n)) (Nat.ble n m)) (intA .sub k)⟩
  | .mul => ⟨fun a b => both a b (fun m n => okI k (Nat.mul m n) (intA .mul k m n)) (intA .mul k)⟩
  | .quo => ⟨fun a b => both a b (fun m n => Bool.rec (motive := fun _ => Option Value) (okI k (Nat.div m n) (intA .quo k m n)) none (Nat.beq n 0)) (intA .quo k)⟩
  | .rem => ⟨fun a b => both a b (fun m n => Bool.rec (motive := fun _ => Option Value) (okI k (Nat.mod m n) (intA .rem k m n)) none (Nat.beq n 0)) (intA .rem k)⟩
  | .and => ⟨fun a b => both a b (fun m n => Bool.rec (motive := fun _ => Option Value) (intA .and k m n) (Bool.rec (motive := fun _ => Option Value) (intA .and k m n) (okI k (Nat.land m n) (intA .and k m n)) (Nat.blt n (lim k))) (Nat.blt m (lim k))) (intA .and k)⟩
  | .or => ⟨fun a b => both a b (fun m n => Bool.rec (motive := fun _ => Option Value) (intA .or k m n) (Bool.rec (motive := fun _ => Option Value) (intA .or k m n) (okI k (Nat.lor m n) (intA .or k m n)) (Nat.blt n (lim k))) (Nat.blt m (lim k))) (intA .or k)⟩
  | .xor => ⟨fun a b => both a b (fun m n => Bool.rec (motive := fun _ => Option Value) (intA .xor k m n) (Bool.rec (motive := fun _ => Option Value) (intA .xor k m n) (okI k (Nat.xor m n) (intA .xor k m n)) (Nat.blt n (lim k))) (Nat.blt m (lim k))) (intA .xor k)⟩
  | .andNot => ⟨fun a b => both a b (fun m n => Bool.rec (motive := fun _ => Option Value) (intA .andNot k m n) (Bool.rec (motive := fun _ => Option Value) (intA .andNot k m n) (okI k (Nat.xor m (Nat.land m n)) (intA .andNot k m n)) (Nat.blt n (lim k))) (Nat.blt m (lim k))) (intA .andNot k)⟩
  | .shl => ⟨fun a b => both a b (fun m n => Bool.rec (motive := fun _ => Option Value) (shiftA .shl k m n) (okI k (Nat.mul m (Nat.pow 2 n)) (shiftA .shl k m n)) (Nat.ble n (bitsN k))) (shiftA .shl k)⟩
  | .shr => ⟨fun a b => both a b (fun m n => Bool.rec (motive := fun _ => Option Value) (shiftA .shr k m n) (okI k (Nat.div m (Nat.pow 2 n)) (shiftA .shr k m n)) (Nat.ble n (bitsN k))) (shiftA .shr k)⟩
  | .eql => ⟨fun a b => both a b (fun m n => okB (Nat.beq m n)) (intA .eql k)⟩
  | .neq => ⟨fun a b => both a b (fun m n => okB (not (Nat.beq m n))) (intA .neq k)⟩
  | .lss => ⟨fun a b => both a b (fun m n => okB (Nat.blt m n)) (intA .lss k)⟩
  | .leq => ⟨fun a b => both a b (fun m n => okB (Nat.ble m n)) (intA .leq k)⟩
  | .gtr => ⟨fun a b => both a b (fun m n => okB (Nat.blt n m)) (intA .gtr k)⟩
  | .geq => ⟨fun a b => both a b (fun m n => okB (Nat.ble n m)) (intA .geq k)⟩

theorem bits_eq (k : IntKind) : bitsN k = k.bits := by cases k <;> rfl
theorem bv_nat (w m : Nat) (h : m < 2 ^ w) : (BitVec.ofInt w (m : Int)).toNat = m := by
  have : (BitVec.ofInt w (m : Int)) = BitVec.ofNat w m := by simp
  rw [this, BitVec.toNat_ofNat, Nat.mod_eq_of_lt h]
theorem bool_ite {b : Bool} {x y : Option Value} (h : b = true → y = x) : Bool.rec (motive := fun _ => Option Value) x y b = x := by
  cases b with
  | false => rfl
  | true => exact h rfl
theorem and_lt_lim {k : IntKind} {m n : Nat} (hm : m < lim k) (hn : n < lim k) : m &&& n < lim k ∧ m ||| n < lim k ∧ m ^^^ n < lim k := by
  obtain ⟨b, hb⟩ := lim_pow k
  rw [hb] at hm hn ⊢
  exact ⟨Nat.and_lt_two_pow _ hn, Nat.or_lt_two_pow hm hn, Nat.xor_lt_two_pow hm hn⟩
theorem ble_le {m n : Nat} (h : Nat.ble m n = true) : m ≤ n := Nat.le_of_ble_eq_true h
theorem arB_eq (o : BinOp) (k : IntKind) (a b : Int) : (arB o k).un a b = bigI o k a b := by
  have wr : ∀ m : Nat, m < lim k → k.wrap (m : Int) = m := wrap_nat k
  have l2 : lim k ≤ 2 ^ k.bits := lim_le k
  cases o
  case add =>
    refine both_eq a b _ _ fun m n => okI_eq _ _ _ fun h => ?_
    simp only [intA]; rw [← Int.natCast_add]; exact congrArg (fun z => some (Value.int k z)) (wr _ h)
  case sub =>
    refine both_eq a b _ _ fun m n => bool_ite fun hb => okI_eq _ _ _ fun h => ?_
    simp only [intA]; rw [← Int.natCast_sub (ble_le hb)]; exact congrArg (fun z => some (Value.int k z)) (wr _ h)
  case mul =>
    refine both_eq a b _ _ fun m n => okI_eq _ _ _ fun h => ?_
    simp only [intA]; rw [← Int.natCast_mul]; exact congrArg (fun z => some (Value.int k z)) (wr _ h)
  case quo =>
    refine both_eq a b _ _ fun m n => ?_
    cases hn : Nat.beq n 0 with
    | true => have := Nat.eq_of_beq_eq_true hn; subst this; simp [intA]
    | false =>
      have hn0 : (n : Int) ≠ 0 := fun h => by have : n = 0 := by omega
                                              subst this; simp at hn
      refine okI_eq _ _ _ fun h => ?_
      simp only [intA, if_neg hn0]
      rw [show (m : Int).tdiv (n : Int) = ((m / n : Nat) : Int) from by simp [Int.tdiv]]
      exact congrArg (fun z => some (Value.int k z)) (wr _ h)
  case rem =>
    refine both_eq a b _ _ fun m n => ?_
    cases hn : Nat.beq n 0 with
    | true => have := Nat.eq_of_beq_eq_true hn; subst this; simp [intA]
    | false =>
      have hn0 : (n : Int) ≠ 0 := fun h => by have : n = 0 := by omega
                                              subst this; simp at hn
      refine okI_eq _ _ _ fun h => ?_
      simp only [intA, if_neg hn0]
      rw [show (m : Int).tmod (n : Int) = ((m % n : Nat) : Int) from by simp [Int.tmod]]
      rfl
  case and =>
    refine both_eq a b _ _ fun m n => bool_ite fun hm => bool_ite fun hn => okI_eq _ _ _ fun h => ?_
    have hm := blt_lt hm
    have hn := blt_lt hn
    simp only [intA, BitVec.toNat_and, bv_nat k.bits m (by omega), bv_nat k.bits n (by omega)]
    exact congrArg (fun z => some (Value.int k z)) (wr _ (and_lt_lim hm hn).1)
  case or =>
    refine both_eq a b _ _ fun m n => bool_ite fun hm => bool_ite fun hn => okI_eq _ _ _ fun h => ?_
    have hm := blt_lt hm
    have hn := blt_lt hn
    simp only [intA, BitVec.toNat_or, bv_nat k.bits m (by omega), bv_nat k.bits n (by omega)]
    exact congrArg (fun z => some (Value.int k z)) (wr _ (and_lt_lim hm hn).2.1)
  case xor =>
    refine both_eq a b _ _ fun m n => bool_ite fun hm => bool_ite fun hn => okI_eq _ _ _ fun h => ?_
    have hm := blt_lt hm
    have hn := blt_lt hn
    simp only [intA, BitVec.toNat_xor, bv_nat k.bits m (by omega), bv_nat k.bits n (by omega)]
    exact congrArg (fun z => some (Value.int k z)) (wr _ (and_lt_lim hm hn).2.2)
  case andNot =>
    refine both_eq a b _ _ fun m n => bool_ite fun hm => bool_ite fun hn => okI_eq _ _ _ fun h => ?_
    have hm := blt_lt hm
    have hn := blt_lt hn
    have e : ∀ x y : BitVec k.bits, x &&& ~~~ y = x ^^^ (x &&& y) := fun x y => by
      ext i hi
      simp only [BitVec.getElem_and, BitVec.getElem_not, BitVec.getElem_xor]
      cases x[i] <;> cases y[i] <;> rfl
    simp only [intA, e, BitVec.toNat_and, BitVec.toNat_xor, bv_nat k.bits m (by omega), bv_nat k.bits n (by omega)]
    exact congrArg (fun z => some (Value.int k z)) (wr _ (and_lt_lim hm (and_lt_lim hm hn).1).2.2)
  case shl =>
    refine both_eq a b _ _ fun m n => bool_ite fun hb => okI_eq _ _ _ fun h => ?_
    have hb := ble_le hb
    rw [bits_eq] at hb
    have h0 : ¬ ((n : Int) < 0) := by omega
    simp only [shiftA, if_neg h0, Int.toNat_natCast, Nat.min_eq_left hb]
    rw [show (m : Int) * 2 ^ n = ((Nat.mul m (Nat.pow 2 n) : Nat) : Int) from by simp [Int.natCast_mul, Int.natCast_pow]]
    rw [wr _ h]
  case shr =>
    refine both_eq a b _ _ fun m n => bool_ite fun hb => okI_eq _ _ _ fun h => ?_
    have hb := ble_le hb
    rw [bits_eq] at hb
    have h0 : ¬ ((n : Int) < 0) := by omega
    simp only [shiftA, if_neg h0, Int.toNat_natCast, Nat.min_eq_left hb]
    rw [show (m : Int).fdiv (2 ^ n) = ((Nat.div m (Nat.pow 2 n) : Nat) : Int) from by
      rw [Int.fdiv_eq_ediv_of_nonneg _ (Int.pow_nonneg (by omega))]; show (m : Int) / 2 ^ n = ((m / 2 ^ n : Nat) : Int); simp]
  case eql =>
    refine both_eq a b _ _ fun m n => ?_
    rw [okB_eq]; simp only [intA, cmpA, Option.map_some]
    congr 2
    cases e : Nat.beq m n with
    | true => have := Nat.eq_of_beq_eq_true e; subst this; simp
    | false => have : m ≠ n := Nat.ne_of_beq_eq_false e
               symm; simp; omega
  case neq =>
    refine both_eq a b _ _ fun m n => ?_
    rw [okB_eq]; simp only [intA, cmpA, Option.map_some]
    congr 2
    cases e : Nat.beq m n with
    | true => have := Nat.eq_of_beq_eq_true e; subst this; simp
    | false => have : m ≠ n := Nat.ne_of_beq_eq_false e
               symm; simp; omega
  case lss =>
    refine both_eq a b _ _ fun m n => ?_
    rw [okB_eq]; simp only [intA, cmpA, Option.map_some, Trie.blt_eq]
    congr 2
    simp
  case leq =>
    refine both_eq a b _ _ fun m n => ?_
    rw [okB_eq]; simp only [intA, cmpA, Option.map_some]
    congr 2
    rw [Bool.eq_iff_iff]; simp
  case gtr =>
    refine both_eq a b _ _ fun m n => ?_
    rw [okB_eq]; simp only [intA, cmpA, Option.map_some, Trie.blt_eq]
    congr 2
    simp
  case geq =>
    refine both_eq a b _ _ fun m n => ?_
    rw [okB_eq]; simp only [intA, cmpA, Option.map_some]
    congr 2
    rw [Bool.eq_iff_iff]; simp
end
end Go.Abs

