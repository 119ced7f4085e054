/- The walks of the reference's functions on cubes. -/
import Derived.Test.YtbpjoamdcbbnnaaTabE2
set_option linter.unusedSimpArgs false
set_option linter.unusedVariables false
namespace Go.Proofs.Ytbpjoamdcbbnnaa
open Go.Abs Go.Tab
attribute [local go_sem] eqA Try.underlying22 Try.underlying3 Try.underlying77 Try.underlying52 Try.underlying23 Try.underlying25 Try.underlying5 Try.underlying4 Try.underlying36 Try.underlying39 Try.underlying41 Try.underlying72 Try.underlying49 Try.underlying26 size22 size3 size23 size5 size4 size39 Nat.mul_one bne_self_eq_false

theorem i64_andNot_zero {p k : Nat} (hp : p < 256) (hk : k < 9223372036854775808) :
    ∃ r : Nat, intA .andNot .i64 (p : Int) (k : Int) = some (.int .i64 (r : Int)) ∧ ((r : Int) == 0) = decide (p &&& k = p) := by
  have h := bv_small (show p < 9223372036854775808 by omega); have h' := bv_small hk
  let b := BitVec.ofInt 64 (p : Int) &&& ~~~ BitVec.ofInt 64 (k : Int)
  have hlt : b.toNat ≤ p := by
    show (BitVec.ofInt 64 (p : Int) &&& ~~~ BitVec.ofInt 64 (k : Int)).toNat ≤ p
    rw [BitVec.toNat_and, h]; exact Nat.and_le_left
  refine ⟨b.toNat, ?_, ?_⟩
  · show some (Value.int .i64 (IntKind.i64.wrap (b.toNat : Int))) = _
    rw [i64_wrap_nat (by omega)]
  · have hb : b.toNat = 0 ↔ p &&& k = p := by
      constructor
      · intro h0
        apply Nat.eq_of_testBit_eq
        intro i
        rw [Nat.testBit_and]
        cases hpi : p.testBit i with
        | false => rfl
        | true =>
          have hi : i < 64 := by
            apply Decidable.byContradiction; intro hn
            rw [Nat.testBit_lt_two_pow (Nat.lt_of_lt_of_le (show p < 2 ^ 8 by omega) (Nat.pow_le_pow_right (by omega) (by omega)))] at hpi
            cases hpi
          have hz : b.getLsbD i = false := by rw [BitVec.getLsbD, h0, Nat.zero_testBit]
          have he : b.getLsbD i = (p.testBit i && !k.testBit i) := by
            show (BitVec.ofInt 64 (p : Int) &&& ~~~ BitVec.ofInt 64 (k : Int)).getLsbD i = _
            rw [BitVec.getLsbD_and, BitVec.getLsbD_not, BitVec.getLsbD, BitVec.getLsbD, h, h']
            simp [hi]
          rw [he, hpi] at hz
          simpa using hz
      · intro hpk
        have : b = 0#64 := by
          apply BitVec.eq_of_getLsbD_eq
          intro i hi
          show (BitVec.ofInt 64 (p : Int) &&& ~~~ BitVec.ofInt 64 (k : Int)).getLsbD i = _
          rw [BitVec.getLsbD_and, BitVec.getLsbD_not, BitVec.getLsbD, BitVec.getLsbD, h, h', ← hpk, Nat.testBit_and]
          cases k.testBit i <;> simp
        rw [this]; rfl
    by_cases h0 : b.toNat = 0
    · rw [h0, decide_eq_true (hb.1 h0)]; rfl
    · rw [decide_eq_false (fun h => h0 (hb.2 h))]
      simp [h0]
def holdsB (c : Nat × Nat) (k : Nat) : Bool := decide (c.1 &&& k = c.1) && decide (c.2 &&& k = 0)
theorem holdsB_iff (c : Nat × Nat) (k : Nat) : holdsB c k = true ↔ Holds c k := by
  simp only [holdsB, Bool.and_eq_true, decide_eq_true_eq]
  constructor
  · rintro ⟨h1, h2⟩ i
    have e1 := congrArg (fun x => x.testBit i) h1
    have e2 := congrArg (fun x => x.testBit i) h2
    simp only [Nat.testBit_and, Nat.zero_testBit] at e1 e2
    refine ⟨fun h => ?_, fun h => ?_⟩
    · rw [h] at e1; simpa using e1
    · rw [h] at e2; simpa using e2
  · intro h
    refine ⟨Nat.eq_of_testBit_eq fun i => ?_, Nat.eq_of_testBit_eq fun i => ?_⟩
    · rw [Nat.testBit_and]
      cases hp : c.1.testBit i with
      | false => rfl
      | true => simp [(h i).1 hp]
    · rw [Nat.testBit_and, Nat.zero_testBit]
      cases hq : c.2.testBit i with
      | false => rfl
      | true => simp [(h i).2 hq]
theorem nat_eq0 (a : Nat) : ((a : Int) == 0) = decide (a = 0) := by
  by_cases h : a = 0
  · subst h; rfl
  · rw [decide_eq_false h]; simp [h]
theorem size41 : sizeA Try.prog 41 = some 2 := by kernel_rfl
theorem Holds_gives (p q k : Nat) (hp : p < 256) (hq : q < 256) (hk : k < 9223372036854775808) (N : Nat) (σ : AHeap) :
    Gives Try.prog 28 [.agg #[.int .u8 p, .int .u8 q], .int .i64 k] N σ (.bool (holdsB (p, q) k)) := by
  refine gives_of rfl (aok_fresh fun hN => aok_body (n := 19) Try.func28 rfl rfl (by simp) ?_)
  have hle : σ.le (σ.set N ⟨cubeV (p, q), true, 1⟩) := AHeap.le_set (AHeap.le_refl _) fun i b hb => Nat.ne_of_lt (hN i b hb)
  have hg : (σ.set N ⟨cubeV (p, q), true, 1⟩) N = some ⟨cubeV (p, q), true, 1⟩ := AHeap.set_self _ _ _
  obtain ⟨r, hr, hr0⟩ := i64_andNot_zero hp hk
  have wp := i64_wrap_nat (show p < 9223372036854775808 by omega)
  have wq := i64_wrap_nat (show q < 9223372036854775808 by omega)
  first | refine awp_seq (awp_lit ?_) | refine awp_lit ?_ | refine awp_seq (awp_seq (awp_lit ?_))
  refine al_box 1 rfl rfl rfl rfl ?_
  change AList _ _ _ _ _ _ (σ.set N ⟨cubeV (p, q), true, 1⟩) _
  generalize σ.set N ⟨cubeV (p, q), true, 1⟩ = σ1 at hle hg ⊢
  refine al_pureN 1 (by simp only [go_sem, ↓reduceIte, Nat.reduceLT, Nat.reduceEqDiff, Nat.reduceLeDiff, Nat.reduceAdd, Nat.reduceMul, Int.reduceLT, Int.reduceLE, Int.reduceToNat, BitVec.reduceOfInt, Nat.reduceBEq]; try rfl) ?_
  refine al_end [1, 2, 4] ?_
  first | refine awp_seq (awp_lit ?_) | refine awp_lit ?_ | refine awp_seq (awp_seq (awp_lit ?_))
  refine al_pureN 1 (by simp only [go_sem, ↓reduceIte, Nat.reduceLT, Nat.reduceEqDiff, Nat.reduceLeDiff, Nat.reduceAdd, Nat.reduceMul, Int.reduceLT, Int.reduceLE, Int.reduceToNat, BitVec.reduceOfInt, Nat.reduceBEq]; try rfl) ?_
  refine al_load rfl (by simp only [go_sem, ↓reduceIte, Nat.reduceLT, Nat.reduceEqDiff, Nat.reduceLeDiff, Nat.reduceAdd, Nat.reduceMul, Int.reduceLT, Int.reduceLE, Int.reduceToNat, BitVec.reduceOfInt, Nat.reduceBEq]) rfl (by simp only [go_sem, ↓reduceIte, Nat.reduceLT, Nat.reduceEqDiff, Nat.reduceLeDiff, Nat.reduceAdd, Nat.reduceMul, Int.reduceLT, Int.reduceLE, Int.reduceToNat, BitVec.reduceOfInt, Nat.reduceBEq]; try rfl) hg (loadA_scalar agg5 rfl) ?_
  refine al_pureN 3 (by simp only [go_sem, ↓reduceIte, Nat.reduceLT, Nat.reduceEqDiff, Nat.reduceLeDiff, Nat.reduceAdd, Nat.reduceMul, Int.reduceLT, Int.reduceLE, Int.reduceToNat, BitVec.reduceOfInt, Nat.reduceBEq, wp, hr]; try rfl) ?_
  cases hb : decide (p &&& k = p) with
  | false =>
    refine al_pureN 2 (by simp only [go_sem, ↓reduceIte, Nat.reduceLT, Nat.reduceEqDiff, Nat.reduceLeDiff, Nat.reduceAdd, Nat.reduceMul, Int.reduceLT, Int.reduceLE, Int.reduceToNat, BitVec.reduceOfInt, Nat.reduceBEq, hr0, hb]; try rfl) ?_
    refine al_pureN 4 (by simp only [go_sem, ↓reduceIte, Nat.reduceLT, Nat.reduceEqDiff, Nat.reduceLeDiff, Nat.reduceAdd, Nat.reduceMul, Int.reduceLT, Int.reduceLE, Int.reduceToNat, BitVec.reduceOfInt, Nat.reduceBEq]; try rfl) ?_
    refine al_pureN 4 (by simp only [go_sem, ↓reduceIte, Nat.reduceLT, Nat.reduceEqDiff, Nat.reduceLeDiff, Nat.reduceAdd, Nat.reduceMul, Int.reduceLT, Int.reduceLE, Int.reduceToNat, BitVec.reduceOfInt, Nat.reduceBEq]; try rfl) ?_
    refine al_end [4] ?_
    exact awp_ret ⟨_, rfl, by simp only [holdsB, hb, Bool.false_and]; rfl, hle⟩
  | true =>
    refine al_pureN 3 (by simp only [go_sem, ↓reduceIte, Nat.reduceLT, Nat.reduceEqDiff, Nat.reduceLeDiff, Nat.reduceAdd, Nat.reduceMul, Int.reduceLT, Int.reduceLE, Int.reduceToNat, BitVec.reduceOfInt, Nat.reduceBEq, hr0, hb]; try rfl) ?_
    refine al_load rfl (by simp only [go_sem, ↓reduceIte, Nat.reduceLT, Nat.reduceEqDiff, Nat.reduceLeDiff, Nat.reduceAdd, Nat.reduceMul, Int.reduceLT, Int.reduceLE, Int.reduceToNat, BitVec.reduceOfInt, Nat.reduceBEq]) rfl (by simp only [go_sem, ↓reduceIte, Nat.reduceLT, Nat.reduceEqDiff, Nat.reduceLeDiff, Nat.reduceAdd, Nat.reduceMul, Int.reduceLT, Int.reduceLE, Int.reduceToNat, BitVec.reduceOfInt, Nat.reduceBEq]; try rfl) hg (loadA_scalar agg5 rfl) ?_
    refine al_pureN 3 (by simp only [go_sem, ↓reduceIte, Nat.reduceLT, Nat.reduceEqDiff, Nat.reduceLeDiff, Nat.reduceAdd, Nat.reduceMul, Int.reduceLT, Int.reduceLE, Int.reduceToNat, BitVec.reduceOfInt, Nat.reduceBEq, wq, i64_and (show q < 9223372036854775808 by omega) hk]; try rfl) ?_
    refine al_pureN 3 (by simp only [go_sem, ↓reduceIte, Nat.reduceLT, Nat.reduceEqDiff, Nat.reduceLeDiff, Nat.reduceAdd, Nat.reduceMul, Int.reduceLT, Int.reduceLE, Int.reduceToNat, BitVec.reduceOfInt, Nat.reduceBEq]; try rfl) ?_
    refine al_end [4] ?_
    refine awp_ret ⟨_, rfl, ?_, hle⟩
    simp only [holdsB, hb, Bool.true_and]
    rw [← nat_eq0]; rfl
end Go.Proofs.Ytbpjoamdcbbnnaa
