/- The walks of the graph's check. -/
import Derived.Test.YtfialjllclclkaaCutTy
import Derived.Test.YtfialjllclclkaaAbOwn
import Derived.Test.YtfialjllclclkaaAbQuiet2
import Derived.Test.YtfialjllclclkaaAbArgs2
set_option linter.unusedSimpArgs false
set_option linter.unusedVariables false
namespace Go.Proofs.Ytfialjllclclkaa
open Go.Abs Go.Cut
attribute [local go_sem] Try.underlying26 Try.underlying3 Try.underlying22 Try.underlying23 Try.underlying24 Try.underlying43 Try.underlying45 Try.underlying47 Try.underlying5 Try.underlying4 Try.underlying30 size26 size3 size22 size23 size24 size43 size45 size47 size5 size4 size30 Nat.mul_one
theorem pairs_length (k0 k1 : IntKind) (l : List (Int × Int)) : (pairsV k0 k1 l).length = l.length := by simp [pairsV]
theorem first_gives {g : AigD} {v : Value} {N : Nat} {σ : AHeap} (hv : AigAt σ v g) (hf : Few g) (h1 : -1000000 ≤ g.inp) (h2 : g.inp ≤ 1000000) : Gives Try.prog 51 [v] N σ (.int .i64 (firstC g)) := by
  obtain ⟨lv, av, ov, rfl, hl, ha, ho⟩ := hv
  obtain ⟨lb, lc, rfl⟩ := hl.len
  have hls := hf.ls
  refine gives_of rfl (aok_fresh fun hN => aok_body (r := false) (n := 10) Try.func51 rfl rfl (by simp) ?_)
  have e1 : -9223372036854775808 ≤ 1 + g.inp ∧ 1 + g.inp ≤ 9223372036854775807 := by omega
  have e2 : -9223372036854775808 ≤ 1 + g.inp + ((pairsV .i64 .u8 g.ls).length : Int) ∧ 1 + g.inp + ((pairsV .i64 .u8 g.ls).length : Int) ≤ 9223372036854775807 := by rw [pairs_length]; omega
  first | refine awp_seq (awp_lit ?_) | refine awp_lit ?_ | refine awp_seq (awp_seq (awp_lit ?_))
  refine al_box 1 rfl rfl rfl (by simp only [go_sem, ↓reduceIte, Nat.reduceLT, Nat.reduceEqDiff, Nat.reduceLeDiff, Nat.reduceAdd, Nat.reduceMul, Int.reduceLT, Int.reduceLE, Int.reduceToNat, BitVec.reduceOfInt, Nat.reduceBEq]; try rfl) ?_
  refine al_pureN 1 (by simp only [go_sem, ↓reduceIte, Nat.reduceLT, Nat.reduceEqDiff, Nat.reduceLeDiff, Nat.reduceAdd, Nat.reduceMul, Int.reduceLT, Int.reduceLE, Int.reduceToNat, BitVec.reduceOfInt, Nat.reduceBEq]; try rfl) ?_
  refine al_end [1] ?_
  first | refine awp_seq (awp_lit ?_) | refine awp_lit ?_ | refine awp_seq (awp_seq (awp_lit ?_))
  refine al_pureN 1 (by simp only [go_sem, ↓reduceIte, Nat.reduceLT, Nat.reduceEqDiff, Nat.reduceLeDiff, Nat.reduceAdd, Nat.reduceMul, Int.reduceLT, Int.reduceLE, Int.reduceToNat, BitVec.reduceOfInt, Nat.reduceBEq, i64_add e1, i64_add e2]; try rfl) ?_
  refine al_load rfl (by simp only [go_sem, ↓reduceIte, Nat.reduceLT, Nat.reduceEqDiff, Nat.reduceLeDiff, Nat.reduceAdd, Nat.reduceMul, Int.reduceLT, Int.reduceLE, Int.reduceToNat, BitVec.reduceOfInt, Nat.reduceBEq, i64_add e1, i64_add e2]) rfl (by simp only [go_sem, ↓reduceIte, Nat.reduceLT, Nat.reduceEqDiff, Nat.reduceLeDiff, Nat.reduceAdd, Nat.reduceMul, Int.reduceLT, Int.reduceLE, Int.reduceToNat, BitVec.reduceOfInt, Nat.reduceBEq, i64_add e1, i64_add e2]; try rfl) (by first | exact AHeap.set_self _ _ _ | (simp only [AHeap.set, ↓reduceIte, Nat.add_assoc, Nat.reduceAdd, Nat.add_left_cancel_iff, Nat.add_right_cancel_iff, Nat.left_eq_add, Nat.add_eq_left, Nat.add_eq_right, Nat.right_eq_add, Nat.reduceEqDiff, Nat.succ_ne_zero, i64_add e1, i64_add e2]; rfl) | assumption) (by first | exact loadA_scalar agg3 rfl | exact loadA_agg agg3 rfl | exact loadA_scalar agg3 (by assumption)) ?_
  refine al_pureN 2 (by simp only [go_sem, ↓reduceIte, Nat.reduceLT, Nat.reduceEqDiff, Nat.reduceLeDiff, Nat.reduceAdd, Nat.reduceMul, Int.reduceLT, Int.reduceLE, Int.reduceToNat, BitVec.reduceOfInt, Nat.reduceBEq, i64_add e1, i64_add e2]; try rfl) ?_
  refine al_load rfl (by simp only [go_sem, ↓reduceIte, Nat.reduceLT, Nat.reduceEqDiff, Nat.reduceLeDiff, Nat.reduceAdd, Nat.reduceMul, Int.reduceLT, Int.reduceLE, Int.reduceToNat, BitVec.reduceOfInt, Nat.reduceBEq, i64_add e1, i64_add e2]) rfl (by simp only [go_sem, ↓reduceIte, Nat.reduceLT, Nat.reduceEqDiff, Nat.reduceLeDiff, Nat.reduceAdd, Nat.reduceMul, Int.reduceLT, Int.reduceLE, Int.reduceToNat, BitVec.reduceOfInt, Nat.reduceBEq, i64_add e1, i64_add e2]; try rfl) (by first | exact AHeap.set_self _ _ _ | (simp only [AHeap.set, ↓reduceIte, Nat.add_assoc, Nat.reduceAdd, Nat.add_left_cancel_iff, Nat.add_right_cancel_iff, Nat.left_eq_add, Nat.add_eq_left, Nat.add_eq_right, Nat.right_eq_add, Nat.reduceEqDiff, Nat.succ_ne_zero, i64_add e1, i64_add e2]; rfl) | assumption) (by first | exact loadA_scalar agg22 rfl | exact loadA_agg agg22 rfl | exact loadA_scalar agg22 (by assumption)) ?_
  refine al_pureN 3 (by simp only [go_sem, ↓reduceIte, Nat.reduceLT, Nat.reduceEqDiff, Nat.reduceLeDiff, Nat.reduceAdd, Nat.reduceMul, Int.reduceLT, Int.reduceLE, Int.reduceToNat, BitVec.reduceOfInt, Nat.reduceBEq, i64_add e1, i64_add e2]; try rfl) ?_
  refine al_end [2] ?_
  refine awp_ret ⟨_, rfl, ?_, AHeap.le_set (AHeap.le_refl _) fun i b hb => Nat.ne_of_lt (hN i b hb)⟩
  rw [pairs_length]; rfl
theorem AigAt.qv {σ : AHeap} {N : Nat} (hN : ∀ i b, σ i = some b → i < N) {v : Value} {g : AigD} (h : AigAt σ v g) : AigAt (qv N σ) v g := by
  obtain ⟨lv, av, ov, h1, h2, h3, h4⟩ := h
  exact ⟨lv, av, ov, h1, h2.qv hN, h3.qv hN, h4.qv hN⟩
theorem size_gives {g : AigD} {v : Value} {N : Nat} {σ : AHeap} (hv : AigAt σ v g) (hf : Few g) (h1 : -1000000 ≤ g.inp) (h2 : g.inp ≤ 1000000) : Gives Try.prog 49 [v] N σ (.int .i64 (sizeC g)) := by
  have hv0 := hv
  obtain ⟨lv, av, ov, rfl, hl, ha, ho⟩ := hv
  obtain ⟨ab, ac, rfl⟩ := ha.len
  have hls := hf.ls
  have has := hf.as
  refine gives_of rfl (aok_fresh fun hN => aok_body (r := false) (n := 9) Try.func49 rfl rfl (by simp) ?_)
  have e1 : -9223372036854775808 ≤ firstC g + ((pairsV .i64 .i64 g.as).length : Int) ∧ firstC g + ((pairsV .i64 .i64 g.as).length : Int) ≤ 9223372036854775807 := by rw [pairs_length]; unfold firstC; omega
  first | refine awp_seq (awp_lit ?_) | refine awp_lit ?_ | refine awp_seq (awp_seq (awp_lit ?_))
  refine al_box 1 rfl rfl rfl (by simp only [go_sem, ↓reduceIte, Nat.reduceLT, Nat.reduceEqDiff, Nat.reduceLeDiff, Nat.reduceAdd, Nat.reduceMul, Int.reduceLT, Int.reduceLE, Int.reduceToNat, BitVec.reduceOfInt, Nat.reduceBEq]; try rfl) ?_
  refine al_pureN 1 (by simp only [go_sem, ↓reduceIte, Nat.reduceLT, Nat.reduceEqDiff, Nat.reduceLeDiff, Nat.reduceAdd, Nat.reduceMul, Int.reduceLT, Int.reduceLE, Int.reduceToNat, BitVec.reduceOfInt, Nat.reduceBEq]; try rfl) ?_
  refine al_end [1] ?_
  have hle : σ.le (σ.set N ⟨spread (.agg #[.int .i64 g.inp, lv, .slice ab (pairsV .i64 .i64 g.as).length ac, ov]), true, 1⟩) := AHeap.le_set (AHeap.le_refl _) fun i b hb => Nat.ne_of_lt (hN i b hb)
  refine awp_seq (awp_quiet [2] (by kernel_rfl) fun hNq => ?_)
  refine tq_load hNq rfl (by simp only [go_sem, ↓reduceIte, Nat.reduceLT, Nat.reduceEqDiff, Nat.reduceLeDiff, Nat.reduceAdd, Nat.reduceMul, Int.reduceLT, Int.reduceLE, Int.reduceToNat, BitVec.reduceOfInt, Nat.reduceBEq, i64_add e1]; try rfl) rfl (by simp only [go_sem, ↓reduceIte, Nat.reduceLT, Nat.reduceEqDiff, Nat.reduceLeDiff, Nat.reduceAdd, Nat.reduceMul, Int.reduceLT, Int.reduceLE, Int.reduceToNat, BitVec.reduceOfInt, Nat.reduceBEq, i64_add e1]; try rfl) (by first | exact AHeap.set_self _ _ _ | (simp only [AHeap.set, ↓reduceIte, Nat.add_assoc, Nat.reduceAdd, Nat.add_left_cancel_iff, Nat.add_right_cancel_iff, Nat.left_eq_add, Nat.add_eq_left, Nat.add_eq_right, Nat.right_eq_add, Nat.reduceEqDiff, Nat.succ_ne_zero, i64_add e1]; rfl) | assumption) ⟨_, rfl⟩ (by first | exact loadA_scalar agg26 rfl | exact loadA_agg agg26 rfl | exact loadA_scalar agg26 (by assumption)) ?_
  refine tq_gives rfl (by simp only [go_sem, ↓reduceIte, Nat.reduceLT, Nat.reduceEqDiff, Nat.reduceLeDiff, Nat.reduceAdd, Nat.reduceMul, Int.reduceLT, Int.reduceLE, Int.reduceToNat, BitVec.reduceOfInt, Nat.reduceBEq, i64_add e1]; try rfl) (fun m => first_gives (AigAt.qv hNq (hv0.mono hle)) hf h1 h2) (by kernel_rfl) rfl (by simp only [go_sem, ↓reduceIte, Nat.reduceLT, Nat.reduceEqDiff, Nat.reduceLeDiff, Nat.reduceAdd, Nat.reduceMul, Int.reduceLT, Int.reduceLE, Int.reduceToNat, BitVec.reduceOfInt, Nat.reduceBEq, i64_add e1]) ?_
  refine tq_pures 1 (by simp only [go_sem, ↓reduceIte, Nat.reduceLT, Nat.reduceEqDiff, Nat.reduceLeDiff, Nat.reduceAdd, Nat.reduceMul, Int.reduceLT, Int.reduceLE, Int.reduceToNat, BitVec.reduceOfInt, Nat.reduceBEq, i64_add e1]; try rfl) ?_
  refine tq_load hNq rfl (by simp only [go_sem, ↓reduceIte, Nat.reduceLT, Nat.reduceEqDiff, Nat.reduceLeDiff, Nat.reduceAdd, Nat.reduceMul, Int.reduceLT, Int.reduceLE, Int.reduceToNat, BitVec.reduceOfInt, Nat.reduceBEq, i64_add e1]; try rfl) rfl (by simp only [go_sem, ↓reduceIte, Nat.reduceLT, Nat.reduceEqDiff, Nat.reduceLeDiff, Nat.reduceAdd, Nat.reduceMul, Int.reduceLT, Int.reduceLE, Int.reduceToNat, BitVec.reduceOfInt, Nat.reduceBEq, i64_add e1]; try rfl) (by first | exact AHeap.set_self _ _ _ | (simp only [AHeap.set, ↓reduceIte, Nat.add_assoc, Nat.reduceAdd, Nat.add_left_cancel_iff, Nat.add_right_cancel_iff, Nat.left_eq_add, Nat.add_eq_left, Nat.add_eq_right, Nat.right_eq_add, Nat.reduceEqDiff, Nat.succ_ne_zero, i64_add e1]; rfl) | assumption) ⟨_, rfl⟩ (by first | exact loadA_scalar agg23 rfl | exact loadA_agg agg23 rfl | exact loadA_scalar agg23 (by assumption)) ?_
  refine tq_pures 3 (by simp only [go_sem, ↓reduceIte, Nat.reduceLT, Nat.reduceEqDiff, Nat.reduceLeDiff, Nat.reduceAdd, Nat.reduceMul, Int.reduceLT, Int.reduceLE, Int.reduceToNat, BitVec.reduceOfInt, Nat.reduceBEq, i64_add e1]; try rfl) ?_
  refine tq_end ?_
  refine awp_ret ⟨_, rfl, ?_, hle⟩
  rw [pairs_length]; rfl
theorem within_gives (x n : Int) (h1 : -1000000 ≤ n) (h2 : n ≤ 1000000) (N : Nat) (σ : AHeap) : Gives Try.prog 50 [.int .i64 x, .int .i64 n] N σ (.bool (inR x n)) := by
  refine gives_of rfl (aok_body (r := false) (n := 13) Try.func50 rfl rfl (by simp) ?_)
  have e1 : intA .mul .i64 2 n = some (.int .i64 (2 * n)) := by simp only [intA]; rw [IntWalk.i64_in _ (by omega)]
  refine awp_seq (awp_pures [0, 1] (by simp only [go_sem, ↓reduceIte, Nat.reduceLT, Nat.reduceEqDiff, Nat.reduceLeDiff, Nat.reduceAdd, Nat.reduceMul, Int.reduceLT, Int.reduceLE, Int.reduceToNat, BitVec.reduceOfInt, Nat.reduceBEq]; try rfl) ?_)
  by_cases h0 : 0 ≤ x
  · have hb : decide (0 ≤ x) = true := by simpa using h0
    refine awp_seq (awp_pures [4] (by simp only [go_sem, ↓reduceIte, Nat.reduceLT, Nat.reduceEqDiff, Nat.reduceLeDiff, Nat.reduceAdd, Nat.reduceMul, Int.reduceLT, Int.reduceLE, Int.reduceToNat, BitVec.reduceOfInt, Nat.reduceBEq, hb, ge_iff_le, e1]; try rfl) ?_)
    refine awp_ret ⟨_, rfl, ?_, AHeap.le_refl _⟩
    simp [inR, h0]
  · have hb : decide (0 ≤ x) = false := by simpa using h0
    refine awp_seq (awp_pures [4] (by simp only [go_sem, ↓reduceIte, Nat.reduceLT, Nat.reduceEqDiff, Nat.reduceLeDiff, Nat.reduceAdd, Nat.reduceMul, Int.reduceLT, Int.reduceLE, Int.reduceToNat, BitVec.reduceOfInt, Nat.reduceBEq, hb, ge_iff_le, e1]; try rfl) ?_)
    refine awp_ret ⟨_, rfl, ?_, AHeap.le_refl _⟩
    simp [inR, h0]
end Go.Proofs.Ytfialjllclclkaa
