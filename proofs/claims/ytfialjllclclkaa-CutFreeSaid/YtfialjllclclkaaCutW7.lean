/- The walks of Cone and of the uses. -/
import Derived.Test.YtfialjllclclkaaCutW6
set_option linter.unusedSimpArgs false
set_option linter.unusedVariables false
namespace Go.Proofs.Ytfialjllclclkaa
open Go.Abs Go.Cut
attribute [local go_sem] Try.underlying26 Try.underlying66 Try.underlying69 Try.underlying3 Try.underlying22 Try.underlying23 Try.underlying24 Try.underlying35 Try.underlying43 Try.underlying45 Try.underlying47 Try.underlying5 Try.underlying4 Try.underlying30 Try.underlying56 size26 size66 size69 size3 size22 size23 size24 size35 size43 size45 size47 size5 size4 size30 Nat.mul_one
theorem Cone_ok {g : AigD} {v lv : Value} {node : Int} {l : List Int} {N : Nat} {σ : AHeap} (hf : Few g) (hv : AigAt σ v g) (hl : SlAt σ lv (ints l)) :
    AOk Try.prog 20 [v, .int .i64 node, lv] N σ fun r N1 σ1 => ∃ sv, r = .tuple #[sv, .int .i64 (ConeR g l node).2] ∧ OwnAt σ1 N sv (ints (ConeR g l node).1) (ConeR g l node).1.length 1 ∧ σ.le σ1 ∧ N ≤ N1 := by
  obtain ⟨lb, lc, ab, ac, ob, oc, rfl, hls, has, hos⟩ := hv.opn
  have hf1 := hf.as
  have hf2 := hf.ls
  refine aok_fresh fun hN => aok_body (r := false) (n := 24) Try.func20 rfl rfl (by simp) ?_
  first | refine awp_seq (awp_lit ?_) | refine awp_lit ?_ | refine awp_seq (awp_seq (awp_lit ?_))
  refine al_box 1 rfl rfl rfl (by simp only [go_sem, ↓reduceIte, Nat.reduceLT, Nat.reduceEqDiff, Nat.reduceLeDiff, Nat.reduceAdd, Nat.reduceMul, Int.reduceLT, Int.reduceLE, Int.reduceToNat, BitVec.reduceOfInt, Nat.reduceBEq]; try rfl) ?_
  refine al_pureN 2 (by simp only [go_sem, ↓reduceIte, Nat.reduceLT, Nat.reduceEqDiff, Nat.reduceLeDiff, Nat.reduceAdd, Nat.reduceMul, Int.reduceLT, Int.reduceLE, Int.reduceToNat, BitVec.reduceOfInt, Nat.reduceBEq]; try rfl) ?_
  refine al_end [1, 2, 3] ?_
  have hle : σ.le (σ.set N ⟨spread (.agg #[.int .i64 g.inp, .slice lb g.ls.length lc, .slice ab g.as.length ac, .slice ob g.os.length oc]), true, 1⟩) := le_new hN (Nat.le_refl _)
  first | refine awp_seq (awp_lit ?_) | refine awp_lit ?_ | refine awp_seq (awp_seq (awp_lit ?_))
  refine al_load rfl (by simp only [go_sem, ↓reduceIte, Nat.reduceLT, Nat.reduceEqDiff, Nat.reduceLeDiff, Nat.reduceAdd, Nat.reduceMul, Int.reduceLT, Int.reduceLE, Int.reduceToNat, BitVec.reduceOfInt, Nat.reduceBEq]) rfl (by simp only [go_sem, ↓reduceIte, Nat.reduceLT, Nat.reduceEqDiff, Nat.reduceLeDiff, Nat.reduceAdd, Nat.reduceMul, Int.reduceLT, Int.reduceLE, Int.reduceToNat, BitVec.reduceOfInt, Nat.reduceBEq]; try rfl) (by first | exact AHeap.set_self _ _ _ | (simp only [AHeap.set, ↓reduceIte, Nat.add_assoc, Nat.reduceAdd, Nat.add_left_cancel_iff, Nat.add_right_cancel_iff, Nat.left_eq_add, Nat.add_eq_left, Nat.add_eq_right, Nat.right_eq_add, Nat.reduceEqDiff, Nat.succ_ne_zero]; rfl) | assumption) (by first | exact loadA_scalar agg26 rfl | exact loadA_agg agg26 rfl | exact loadA_scalar agg26 (by assumption)) ?_
  refine al_fun (open_ok hf (hls.mono hle) (has.mono hle) (hos.mono hle)) rfl (by simp only [go_sem, ↓reduceIte, Nat.reduceLT, Nat.reduceEqDiff, Nat.reduceLeDiff, Nat.reduceAdd, Nat.reduceMul, Int.reduceLT, Int.reduceLE, Int.reduceToNat, BitVec.reduceOfInt, Nat.reduceBEq]; try rfl) (by kernel_rfl) rfl (by simp only [go_sem, ↓reduceIte, Nat.reduceLT, Nat.reduceEqDiff, Nat.reduceLeDiff, Nat.reduceAdd, Nat.reduceMul, Int.reduceLT, Int.reduceLE, Int.reduceToNat, BitVec.reduceOfInt, Nat.reduceBEq]; try rfl) ?_
  rintro r N1 σ1 ⟨rfl, hN1, hle1⟩
  refine al_fresh fun hNs => ?_
  have hσ1 : σ.le σ1 := hle.trans hle1
  refine al_pureN 3 (by simp only [go_sem, ↓reduceIte, Nat.reduceLT, Nat.reduceEqDiff, Nat.reduceLeDiff, Nat.reduceAdd, Nat.reduceMul, Int.reduceLT, Int.reduceLE, Int.reduceToNat, BitVec.reduceOfInt, Nat.reduceBEq]; try rfl) ?_
  refine al_alloc 1 rfl rfl rfl ty66 (by decide) ?_
  refine al_store rfl (by simp only [go_sem, ↓reduceIte, Nat.reduceLT, Nat.reduceEqDiff, Nat.reduceLeDiff, Nat.reduceAdd, Nat.reduceMul, Int.reduceLT, Int.reduceLE, Int.reduceToNat, BitVec.reduceOfInt, Nat.reduceBEq]) rfl (by simp only [go_sem, ↓reduceIte, Nat.reduceLT, Nat.reduceEqDiff, Nat.reduceLeDiff, Nat.reduceAdd, Nat.reduceMul, Int.reduceLT, Int.reduceLE, Int.reduceToNat, BitVec.reduceOfInt, Nat.reduceBEq]; try rfl) (by simp only [go_sem, ↓reduceIte, Nat.reduceLT, Nat.reduceEqDiff, Nat.reduceLeDiff, Nat.reduceAdd, Nat.reduceMul, Int.reduceLT, Int.reduceLE, Int.reduceToNat, BitVec.reduceOfInt, Nat.reduceBEq]; try rfl) (by first | exact AHeap.set_self _ _ _ | (simp only [AHeap.set, ↓reduceIte, Nat.add_assoc, Nat.reduceAdd, Nat.add_left_cancel_iff, Nat.add_right_cancel_iff, Nat.left_eq_add, Nat.add_eq_left, Nat.add_eq_right, Nat.right_eq_add, Nat.reduceEqDiff, Nat.succ_ne_zero]; rfl) | assumption) rfl (by exact size66.trans rfl) (by rfl) (by exact Nat.le_of_ble_eq_true rfl) ?_
  refine al_pureN 1 (by simp only [go_sem, ↓reduceIte, Nat.reduceLT, Nat.reduceEqDiff, Nat.reduceLeDiff, Nat.reduceAdd, Nat.reduceMul, Int.reduceLT, Int.reduceLE, Int.reduceToNat, BitVec.reduceOfInt, Nat.reduceBEq]; try rfl) ?_
  refine al_end [1, 2, 8, 9] ?_
  rw [AHeap.set_set]
  have hle2 : σ1.le (σ1.set N1 ⟨spread (graphV lb lc ab ac ob oc g (openF g)), true, 1⟩) := le_new hNs (Nat.le_refl _)
  by_cases hc : chkE g = 0
  · have hV := valid_of hc
    have hb : (chkE g != 0) = false := by simp [hc]
    have hinp := hV.inp
    have hsz := hV.size
    unfold sizeC firstC at hsz
    have hF : openF g = (((firstC g).toNat : Nat) : Int) := by rw [openF_valid hV hf, Int.toNat_of_nonneg (by unfold firstC; omega)]
    rw [hF]
    refine awp_seq ?_
    refine awp_seq (awp_pures [1, 2, 8, 9, 16] (by simp only [go_sem, ↓reduceIte, Nat.reduceLT, Nat.reduceEqDiff, Nat.reduceLeDiff, Nat.reduceAdd, Nat.reduceMul, Int.reduceLT, Int.reduceLE, Int.reduceToNat, BitVec.reduceOfInt, Nat.reduceBEq, hb]; try rfl) ?_)
    refine awp_if rfl (fun h => by cases h) (fun _ => ?_)
    refine awp_skip ?_
    first | refine awp_seq (awp_lit ?_) | refine awp_lit ?_ | refine awp_seq (awp_seq (awp_lit ?_))
    refine al_load rfl (by simp only [go_sem, ↓reduceIte, Nat.reduceLT, Nat.reduceEqDiff, Nat.reduceLeDiff, Nat.reduceAdd, Nat.reduceMul, Int.reduceLT, Int.reduceLE, Int.reduceToNat, BitVec.reduceOfInt, Nat.reduceBEq]) rfl (by simp only [go_sem, ↓reduceIte, Nat.reduceLT, Nat.reduceEqDiff, Nat.reduceLeDiff, Nat.reduceAdd, Nat.reduceMul, Int.reduceLT, Int.reduceLE, Int.reduceToNat, BitVec.reduceOfInt, Nat.reduceBEq]; try rfl) (by first | exact AHeap.set_self _ _ _ | (simp only [AHeap.set, ↓reduceIte, Nat.add_assoc, Nat.reduceAdd, Nat.add_left_cancel_iff, Nat.add_right_cancel_iff, Nat.left_eq_add, Nat.add_eq_left, Nat.add_eq_right, Nat.right_eq_add, Nat.reduceEqDiff, Nat.succ_ne_zero]; rfl) | assumption) (by first | exact loadA_scalar agg66 rfl | exact loadA_agg agg66 rfl | exact loadA_scalar agg66 (by assumption)) ?_
    refine al_pureN 2 (by simp only [go_sem, ↓reduceIte, Nat.reduceLT, Nat.reduceEqDiff, Nat.reduceLeDiff, Nat.reduceAdd, Nat.reduceMul, Int.reduceLT, Int.reduceLE, Int.reduceToNat, BitVec.reduceOfInt, Nat.reduceBEq]; try rfl) ?_
    refine al_fun (cone_ok (g := g) (f := (firstC g).toNat) (has.mono (hσ1.trans (le_new hNs (Nat.le_refl _)))) (hl.mono (hσ1.trans (le_new hNs (Nat.le_refl _)))) (by unfold firstC; omega) (by omega) (by rw [← hF, openF_valid hV hf]; exact hV.ands)) rfl (by simp only [go_sem, ↓reduceIte, Nat.reduceLT, Nat.reduceEqDiff, Nat.reduceLeDiff, Nat.reduceAdd, Nat.reduceMul, Int.reduceLT, Int.reduceLE, Int.reduceToNat, BitVec.reduceOfInt, Nat.reduceBEq]; try rfl) (by kernel_rfl) rfl (by simp only [go_sem, ↓reduceIte, Nat.reduceLT, Nat.reduceEqDiff, Nat.reduceLeDiff, Nat.reduceAdd, Nat.reduceMul, Int.reduceLT, Int.reduceLE, Int.reduceToNat, BitVec.reduceOfInt, Nat.reduceBEq]; try rfl) ?_
    rintro r N2 σ2 ⟨sv, rfl, hsv, hle3, hN2⟩
    refine al_pureN 4 (by simp only [go_sem, ↓reduceIte, Nat.reduceLT, Nat.reduceEqDiff, Nat.reduceLeDiff, Nat.reduceAdd, Nat.reduceMul, Int.reduceLT, Int.reduceLE, Int.reduceToNat, BitVec.reduceOfInt, Nat.reduceBEq]; try rfl) ?_
    refine al_end [6, 7] ?_
    have hR : ConeR g l node = coneE (firstC g).toNat g.as l node := by simp [ConeR, hc]
    rw [hR]
    exact awp_ret ⟨_, res_tt rfl rfl rfl, sv, rfl, hsv.mono (fun _ _ _ h => h) (by omega), (hσ1.trans (le_new hNs (Nat.le_refl _))).trans hle3, by omega⟩
  · have hb : (chkE g != 0) = true := by simpa using hc
    have hR : ConeR g l node = ([], chkE g) := by simp [ConeR, hc]
    rw [hR]
    refine awp_seq ?_
    refine awp_seq (awp_pures [1, 2, 8, 9, 16] (by simp only [go_sem, ↓reduceIte, Nat.reduceLT, Nat.reduceEqDiff, Nat.reduceLeDiff, Nat.reduceAdd, Nat.reduceMul, Int.reduceLT, Int.reduceLE, Int.reduceToNat, BitVec.reduceOfInt, Nat.reduceBEq, hb]; try rfl) ?_)
    refine awp_if rfl (fun _ => ?_) (fun h => by cases h)
    refine awp_seq (awp_pures [6, 7] (by simp only [go_sem, ↓reduceIte, Nat.reduceLT, Nat.reduceEqDiff, Nat.reduceLeDiff, Nat.reduceAdd, Nat.reduceMul, Int.reduceLT, Int.reduceLE, Int.reduceToNat, BitVec.reduceOfInt, Nat.reduceBEq]; try rfl) ?_)
    exact awp_ret ⟨_, res_tt rfl rfl rfl, .slice none 0 0, rfl, .nil, hσ1.trans hle2, by omega⟩
end Go.Proofs.Ytfialjllclclkaa
