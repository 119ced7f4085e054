/- The walk of the uses. -/
import Derived.Test.YtfialjllclclkaaCutW7
set_option linter.unusedSimpArgs false
set_option linter.unusedVariables false
namespace Go.Proofs.Ytfialjllclclkaa
open Go.Abs Go.Cut
attribute [local go_sem] Try.underlying26 Try.underlying66 Try.underlying69 Try.underlying3 Try.underlying22 Try.underlying23 Try.underlying24 Try.underlying35 Try.underlying43 Try.underlying45 Try.underlying47 Try.underlying5 Try.underlying4 Try.underlying30 Try.underlying56 size26 size66 size69 size3 size22 size23 size24 size35 size43 size45 size47 size5 size4 size30 Nat.mul_one
theorem uses_ok {g : AigD} {lb ab ob : Option Addr} {lc ac oc f : Nat} {N : Nat} {σ : AHeap} (hl : RowsAt σ 2 (.slice lb g.ls.length lc) (pairsV .i64 .u8 g.ls)) (ha : RowsAt σ 2 (.slice ab g.as.length ac) (pairsV .i64 .i64 g.as)) (ho : SlAt σ (.slice ob g.os.length oc) (ints g.os))
    (hf : f ≤ 400000) (hfew : Few g) (hchk : chkA f g.as = true) (hchl : chkL ((f : Int) + g.as.length) g.ls = true) (hcho : chkO ((f : Int) + g.as.length) g.os = true) :
    AOk Try.prog 46 [graphV lb lc ab ac ob oc g f] N σ fun r N1 σ1 => OwnAt σ1 N r (nums (cntF (allLits g)) (f + g.as.length)) (f + g.as.length) 1 ∧ σ.le σ1 ∧ N ≤ N1 := by
  have hla := hfew.as
  have hll := hfew.ls
  have hlo := hfew.os
  obtain ⟨n, hn⟩ : ∃ n, n = f + g.as.length := ⟨_, rfl⟩
  have hnI : (f : Int) + (g.as.length : Int) = ((n : Nat) : Int) := by omega
  rw [hnI] at hchl hcho
  rw [← hn]
  refine aok_fresh fun hN => aok_body (r := false) (n := 75) Try.func46 rfl rfl (by simp) ?_
  have hadd : -9223372036854775808 ≤ (f : Int) + (g.as.length : Int) ∧ (f : Int) + (g.as.length : Int) ≤ 9223372036854775807 := by omega
  unfold graphV
  first | refine awp_seq (awp_lit ?_) | refine awp_lit ?_ | refine awp_seq (awp_seq (awp_lit ?_))
  refine al_box 1 rfl rfl rfl (by simp only [go_sem, ↓reduceIte, Nat.reduceLT, Nat.reduceEqDiff, Nat.reduceLeDiff, Nat.reduceAdd, Nat.reduceMul, Int.reduceLT, Int.reduceLE, Int.reduceToNat, BitVec.reduceOfInt, Nat.reduceBEq]; try rfl) ?_
  refine al_pureN 1 (by simp only [go_sem, ↓reduceIte, Nat.reduceLT, Nat.reduceEqDiff, Nat.reduceLeDiff, Nat.reduceAdd, Nat.reduceMul, Int.reduceLT, Int.reduceLE, Int.reduceToNat, BitVec.reduceOfInt, Nat.reduceBEq]; try rfl) ?_
  refine al_end [1] ?_
  obtain ⟨G, hG⟩ : ∃ G, G = spread (graphV lb lc ab ac ob oc g f) := ⟨_, rfl⟩
  first | refine awp_seq (awp_lit ?_) | refine awp_lit ?_ | refine awp_seq (awp_seq (awp_lit ?_))
  refine al_pureN 1 (by simp only [go_sem, ↓reduceIte, Nat.reduceLT, Nat.reduceEqDiff, Nat.reduceLeDiff, Nat.reduceAdd, Nat.reduceMul, Int.reduceLT, Int.reduceLE, Int.reduceToNat, BitVec.reduceOfInt, Nat.reduceBEq, i64_add hadd, hnI]; try rfl) ?_
  refine al_load rfl (by simp only [go_sem, ↓reduceIte, Nat.reduceLT, Nat.reduceEqDiff, Nat.reduceLeDiff, Nat.reduceAdd, Nat.reduceMul, Int.reduceLT, Int.reduceLE, Int.reduceToNat, BitVec.reduceOfInt, Nat.reduceBEq, i64_add hadd, hnI]) rfl (by simp only [go_sem, ↓reduceIte, Nat.reduceLT, Nat.reduceEqDiff, Nat.reduceLeDiff, Nat.reduceAdd, Nat.reduceMul, Int.reduceLT, Int.reduceLE, Int.reduceToNat, BitVec.reduceOfInt, Nat.reduceBEq, i64_add hadd, hnI]; try rfl) (by first | exact AHeap.set_self _ _ _ | (simp only [AHeap.set, ↓reduceIte, Nat.add_assoc, Nat.reduceAdd, Nat.add_left_cancel_iff, Nat.add_right_cancel_iff, Nat.left_eq_add, Nat.add_eq_left, Nat.add_eq_right, Nat.right_eq_add, Nat.reduceEqDiff, Nat.succ_ne_zero, i64_add hadd, hnI]; rfl) | assumption) (by first | exact loadA_scalar agg3 rfl | exact loadA_agg agg3 rfl | exact loadA_scalar agg3 (by assumption)) ?_
  refine al_pureN 2 (by simp only [go_sem, ↓reduceIte, Nat.reduceLT, Nat.reduceEqDiff, Nat.reduceLeDiff, Nat.reduceAdd, Nat.reduceMul, Int.reduceLT, Int.reduceLE, Int.reduceToNat, BitVec.reduceOfInt, Nat.reduceBEq, i64_add hadd, hnI]; try rfl) ?_
  refine al_load rfl (by simp only [go_sem, ↓reduceIte, Nat.reduceLT, Nat.reduceEqDiff, Nat.reduceLeDiff, Nat.reduceAdd, Nat.reduceMul, Int.reduceLT, Int.reduceLE, Int.reduceToNat, BitVec.reduceOfInt, Nat.reduceBEq, i64_add hadd, hnI]) rfl (by simp only [go_sem, ↓reduceIte, Nat.reduceLT, Nat.reduceEqDiff, Nat.reduceLeDiff, Nat.reduceAdd, Nat.reduceMul, Int.reduceLT, Int.reduceLE, Int.reduceToNat, BitVec.reduceOfInt, Nat.reduceBEq, i64_add hadd, hnI]; try rfl) (by first | exact AHeap.set_self _ _ _ | (simp only [AHeap.set, ↓reduceIte, Nat.add_assoc, Nat.reduceAdd, Nat.add_left_cancel_iff, Nat.add_right_cancel_iff, Nat.left_eq_add, Nat.add_eq_left, Nat.add_eq_right, Nat.right_eq_add, Nat.reduceEqDiff, Nat.succ_ne_zero, i64_add hadd, hnI]; rfl) | assumption) (by first | exact loadA_scalar agg23 rfl | exact loadA_agg agg23 rfl | exact loadA_scalar agg23 (by assumption)) ?_
  refine al_pureN 2 (by simp only [go_sem, ↓reduceIte, Nat.reduceLT, Nat.reduceEqDiff, Nat.reduceLeDiff, Nat.reduceAdd, Nat.reduceMul, Int.reduceLT, Int.reduceLE, Int.reduceToNat, BitVec.reduceOfInt, Nat.reduceBEq, i64_add hadd, hnI]; try rfl) ?_
  refine al_makeSlice (len := n) rfl (by simp only [go_sem, ↓reduceIte, Nat.reduceLT, Nat.reduceEqDiff, Nat.reduceLeDiff, Nat.reduceAdd, Nat.reduceMul, Int.reduceLT, Int.reduceLE, Int.reduceToNat, BitVec.reduceOfInt, Nat.reduceBEq]; try rfl) rfl Try.underlying35 ty3 (by decide) rfl (by decide) (by simp only [go_sem, ↓reduceIte, Nat.reduceLT, Nat.reduceEqDiff, Nat.reduceLeDiff, Nat.reduceAdd, Nat.reduceMul, Int.reduceLT, Int.reduceLE, Int.reduceToNat, BitVec.reduceOfInt, Nat.reduceBEq]; try rfl) (by simp only [go_sem, ↓reduceIte, Nat.reduceLT, Nat.reduceEqDiff, Nat.reduceLeDiff, Nat.reduceAdd, Nat.reduceMul, Int.reduceLT, Int.reduceLE, Int.reduceToNat, BitVec.reduceOfInt, Nat.reduceBEq]; try rfl) (by omega) (by omega) ?_
  refine al_pureN 1 (by simp only [go_sem, ↓reduceIte, Nat.reduceLT, Nat.reduceEqDiff, Nat.reduceLeDiff, Nat.reduceAdd, Nat.reduceMul, Int.reduceLT, Int.reduceLE, Int.reduceToNat, BitVec.reduceOfInt, Nat.reduceBEq, i64_add hadd, hnI]; try rfl) ?_
  refine al_end [1, 3] ?_
  rw [nums_zero]
  show Abs.Seq _ _ _ _ _ _ _ _ ((σ.set N ⟨spread (graphV lb lc ab ac ob oc g f), true, 1⟩).set (N + 1) _)
  rw [← hG]
  have hNN : ¬ N = N + 1 := by omega
  have hσp : ∀ c, σ.le ((σ.set N ⟨G, true, 1⟩).set (N + 1) ⟨c, true, 1⟩) := fun c => (le_new hN (Nat.le_refl _)).trans (le_new (dom_set hN) (Nat.le_refl _))
  have hGN : ∀ c, ((σ.set N ⟨G, true, 1⟩).set (N + 1) ⟨c, true, 1⟩) N = some ⟨spread (graphV lb lc ab ac ob oc g f), true, 1⟩ := fun c => by
    rw [AHeap.set_ne _ _ hNN, AHeap.set_self, hG]
  refine awp_seq ?_
  first | refine awp_seq (awp_lit ?_) | refine awp_lit ?_ | refine awp_seq (awp_seq (awp_lit ?_))
  refine al_pureN 1 (by simp only [go_sem, ↓reduceIte, Nat.reduceLT, Nat.reduceEqDiff, Nat.reduceLeDiff, Nat.reduceAdd, Nat.reduceMul, Int.reduceLT, Int.reduceLE, Int.reduceToNat, BitVec.reduceOfInt, Nat.reduceBEq]; try rfl) ?_
  refine al_load rfl (by simp only [go_sem, ↓reduceIte, Nat.reduceLT, Nat.reduceEqDiff, Nat.reduceLeDiff, Nat.reduceAdd, Nat.reduceMul, Int.reduceLT, Int.reduceLE, Int.reduceToNat, BitVec.reduceOfInt, Nat.reduceBEq]) rfl (by simp only [go_sem, ↓reduceIte, Nat.reduceLT, Nat.reduceEqDiff, Nat.reduceLeDiff, Nat.reduceAdd, Nat.reduceMul, Int.reduceLT, Int.reduceLE, Int.reduceToNat, BitVec.reduceOfInt, Nat.reduceBEq]; try rfl) (hGN _) (loadA_scalar agg3 rfl) ?_
  refine al_pureN 1 (by simp only [go_sem, ↓reduceIte, Nat.reduceLT, Nat.reduceEqDiff, Nat.reduceLeDiff, Nat.reduceAdd, Nat.reduceMul, Int.reduceLT, Int.reduceLE, Int.reduceToNat, BitVec.reduceOfInt, Nat.reduceBEq]; try rfl) ?_
  refine al_end [1, 3, 4] ?_
  have a01 : intA .add .i64 0 1 = some (.int .i64 1) := rfl
  have a11 : intA .add .i64 1 1 = some (.int .i64 2) := rfl
  have bnd : ∀ (p : List Int) (k : Nat), p.length ≤ 1000 → -9223372036854775808 ≤ ((cntF p k : Nat) : Int) + 1 ∧ ((cntF p k : Nat) : Int) + 1 ≤ 9223372036854775807 := fun p k hp => by
    have := cntF_le p k; omega
  refine awp_block (awp_loop ?_)
  refine ALoop.cast3 (aloop_ind (α := Nat) (fun a => a ≤ g.as.length) (fun a => g.as.length - a)
    (fun a => [(1, .pointer (some ⟨N, 0, none⟩)), (3, .slice (some ⟨N + 1, 0, none⟩) n n), (4, .int .i64 ((f + a : Nat) : Int))]) (fun _ => N + 2) (fun a => (σ.set N ⟨G, true, 1⟩).set (N + 1) ⟨nums (cntF (andLits (g.as.take a))) n, true, 1⟩) ?_ 0 (Nat.zero_le _)) rfl rfl rfl
  intro j hj ih
  by_cases hlt : j < g.as.length
  · have hb : decide (((f + j : Nat) : Int) < (n : Int)) = true := by simp; omega
    refine awp_seq ?_
    refine awp_seq (awp_pures [1, 3, 4, 24] (by simp only [go_sem, ↓reduceIte, Nat.reduceLT, Nat.reduceEqDiff, Nat.reduceLeDiff, Nat.reduceAdd, Nat.reduceMul, Int.reduceLT, Int.reduceLE, Int.reduceToNat, BitVec.reduceOfInt, Nat.reduceBEq, hb]; try rfl) ?_)
    refine awp_if rfl (fun _ => ?_) (fun h => by cases h)
    refine awp_skip ?_
    refine awp_seq (awp_block ?_)
    have hjx : ((f + j : Nat) : Int) - (f : Int) = (j : Int) := by omega
    have hσp := hσp (nums (cntF (andLits (g.as.take j))) n)
    obtain ⟨b1, b2, b3, b4⟩ := chkA_get hchk hlt
    first | refine awp_seq (awp_lit ?_) | refine awp_lit ?_ | refine awp_seq (awp_seq (awp_lit ?_))
    refine al_load rfl (by simp only [go_sem, ↓reduceIte, Nat.reduceLT, Nat.reduceEqDiff, Nat.reduceLeDiff, Nat.reduceAdd, Nat.reduceMul, Int.reduceLT, Int.reduceLE, Int.reduceToNat, BitVec.reduceOfInt, Nat.reduceBEq]) rfl (by simp only [go_sem, ↓reduceIte, Nat.reduceLT, Nat.reduceEqDiff, Nat.reduceLeDiff, Nat.reduceAdd, Nat.reduceMul, Int.reduceLT, Int.reduceLE, Int.reduceToNat, BitVec.reduceOfInt, Nat.reduceBEq]; try rfl) (hGN _) (loadA_agg agg66 rfl) ?_
    refine al_pureN 1 (by simp only [go_sem, ↓reduceIte, Nat.reduceLT, Nat.reduceEqDiff, Nat.reduceLeDiff, Nat.reduceAdd, Nat.reduceMul, Int.reduceLT, Int.reduceLE, Int.reduceToNat, BitVec.reduceOfInt, Nat.reduceBEq]; try rfl) ?_
    refine al_gives (vs := ?vs1) (v := ?v1) rfl ?ha1 ?hh1 (by kernel_rfl) rfl (by simp only [go_sem, ↓reduceIte, Nat.reduceLT, Nat.reduceEqDiff, Nat.reduceLeDiff, Nat.reduceAdd, Nat.reduceMul, Int.reduceLT, Int.reduceLE, Int.reduceToNat, BitVec.reduceOfInt, Nat.reduceBEq]) ?kk1
    case ha1 => simp only [go_sem, ↓reduceIte, Nat.reduceLT, Nat.reduceEqDiff, Nat.reduceLeDiff, Nat.reduceAdd, Nat.reduceMul, Int.reduceLT, Int.reduceLE, Int.reduceToNat, BitVec.reduceOfInt, Nat.reduceBEq]; try rfl
    case hh1 => exact operands_gives (ha.mono hσp) hlt hjx (by omega)
    refine al_pureN 1 (by simp only [go_sem, ↓reduceIte, Nat.reduceLT, Nat.reduceEqDiff, Nat.reduceLeDiff, Nat.reduceAdd, Nat.reduceMul, Int.reduceLT, Int.reduceLE, Int.reduceToNat, BitVec.reduceOfInt, Nat.reduceBEq]; try rfl) ?_
    refine al_end [1, 3, 4, 29, 30] ?_
    obtain ⟨A, hAe⟩ : ∃ A, A = g.as[j].1 := ⟨_, rfl⟩
    obtain ⟨B, hBe⟩ : ∃ B, B = g.as[j].2 := ⟨_, rfl⟩
    have hsn : andLits (g.as.take (j + 1)) = (andLits (g.as.take j) ++ [A]) ++ [B] := by
      rw [take_snoc _ hlt, andLits, List.flatMap_append]
      simp [andLits, hAe, hBe]
    rw [← hAe] at b1 b2 ⊢
    rw [← hBe] at b3 b4 ⊢
    obtain ⟨p, hp⟩ : ∃ p, p = andLits (g.as.take j) := ⟨_, rfl⟩
    have hpl : p.length ≤ 400 := by rw [hp, andLits_len, List.length_take]; omega
    rw [← hp] at hsn ⊢
    have hA1 : 0 ≤ A / 2 ∧ A / 2 < (n : Int) := by omega
    have hB1 : 0 ≤ B / 2 ∧ B / 2 < (n : Int) := by omega
    have hA2 : (A / 2).toNat = A.toNat / 2 := by omega
    have hB2 : (B / 2).toNat = B.toNat / 2 := by omega
    have qA := quo_two b1 (by omega)
    have qB := quo_two b3 (by omega)
    have gA : (nums (cntF p) n)[(A / 2).toNat]? = some (.int .i64 ((cntF p (A.toNat / 2) : Nat) : Int)) := by rw [hA2]; exact nums_get _ (by omega)
    have gB : (nums (cntF (p ++ [A])) n)[(B / 2).toNat]? = some (.int .i64 ((cntF (p ++ [A]) (B.toNat / 2) : Nat) : Int)) := by rw [hB2]; exact nums_get _ (by omega)
    have wA := bnd p (A.toNat / 2) (by omega)
    have wB := bnd (p ++ [A]) (B.toNat / 2) (by simp; omega)
    refine awp_block (awp_loop ?_)
    refine aloop_round ?_
    refine awp_seq (awp_pures [1, 3, 4, 29, 30, 31] (by simp only [go_sem, ↓reduceIte, Nat.reduceLT, Nat.reduceEqDiff, Nat.reduceLeDiff, Nat.reduceAdd, Nat.reduceMul, Int.reduceLT, Int.reduceLE, Int.reduceToNat, BitVec.reduceOfInt, Nat.reduceBEq]; try rfl) ?_)
    refine awp_seq ?_
    refine awp_if rfl (fun _ => ?_) (fun h => by cases h)
    refine awp_skip ?_
    refine awp_seq (awp_block ?_)
    refine awp_seq (awp_pures [1, 3, 4, 6, 29, 30] (by simp only [go_sem, ↓reduceIte, Nat.reduceLT, Nat.reduceEqDiff, Nat.reduceLeDiff, Nat.reduceAdd, Nat.reduceMul, Int.reduceLT, Int.reduceLE, Int.reduceToNat, BitVec.reduceOfInt, Nat.reduceBEq]; try rfl) ?_)
    refine awp_lit ?_
    refine al_pureN 4 (by simp only [go_sem, ↓reduceIte, Nat.reduceLT, Nat.reduceEqDiff, Nat.reduceLeDiff, Nat.reduceAdd, Nat.reduceMul, Int.reduceLT, Int.reduceLE, Int.reduceToNat, BitVec.reduceOfInt, Nat.reduceBEq, qA, hA1, i64_add wA]; try rfl) ?_
    refine al_load rfl (by simp only [go_sem, ↓reduceIte, Nat.reduceLT, Nat.reduceEqDiff, Nat.reduceLeDiff, Nat.reduceAdd, Nat.reduceMul, Int.reduceLT, Int.reduceLE, Int.reduceToNat, BitVec.reduceOfInt, Nat.reduceBEq, qA, hA1, i64_add wA]) rfl (by simp only [go_sem, ↓reduceIte, Nat.reduceLT, Nat.reduceEqDiff, Nat.reduceLeDiff, Nat.reduceAdd, Nat.reduceMul, Int.reduceLT, Int.reduceLE, Int.reduceToNat, BitVec.reduceOfInt, Nat.reduceBEq, qA, hA1, i64_add wA]; try rfl) (AHeap.set_self _ _ _) (loadA_scalar agg3 gA) ?_
    refine al_pureN 2 (by simp only [go_sem, ↓reduceIte, Nat.reduceLT, Nat.reduceEqDiff, Nat.reduceLeDiff, Nat.reduceAdd, Nat.reduceMul, Int.reduceLT, Int.reduceLE, Int.reduceToNat, BitVec.reduceOfInt, Nat.reduceBEq, qA, hA1, i64_add wA]; try rfl) ?_
    refine al_store1 rfl (by simp only [go_sem, ↓reduceIte, Nat.reduceLT, Nat.reduceEqDiff, Nat.reduceLeDiff, Nat.reduceAdd, Nat.reduceMul, Int.reduceLT, Int.reduceLE, Int.reduceToNat, BitVec.reduceOfInt, Nat.reduceBEq]; try rfl) rfl (by simp only [go_sem, ↓reduceIte, Nat.reduceLT, Nat.reduceEqDiff, Nat.reduceLeDiff, Nat.reduceAdd, Nat.reduceMul, Int.reduceLT, Int.reduceLE, Int.reduceToNat, BitVec.reduceOfInt, Nat.reduceBEq]; try rfl) (by simp only [go_sem, ↓reduceIte, Nat.reduceLT, Nat.reduceEqDiff, Nat.reduceLeDiff, Nat.reduceAdd, Nat.reduceMul, Int.reduceLT, Int.reduceLE, Int.reduceToNat, BitVec.reduceOfInt, Nat.reduceBEq]; try rfl) (AHeap.set_self _ _ _) rfl size3 rfl rfl (by show (A / 2).toNat < (nums _ _).length; rw [nums_len]; omega) ?_
    refine al_end [1, 3, 4, 29, 30] ?_
    refine awp_pures [1, 3, 4, 29, 30] (by simp only [go_sem, ↓reduceIte, Nat.reduceLT, Nat.reduceEqDiff, Nat.reduceLeDiff, Nat.reduceAdd, Nat.reduceMul, Int.reduceLT, Int.reduceLE, Int.reduceToNat, BitVec.reduceOfInt, Nat.reduceBEq, a01]; try rfl) ?_
    rw [AHeap.set_set]
    show ALoop _ _ _ _ _ _ (AHeap.set (AHeap.set σ N ⟨G, true, 1⟩) (N + 1) ⟨(nums (cntF p) n).set (A / 2).toNat (.int .i64 (((cntF p (A.toNat / 2) : Nat) : Int) + 1)), true, .n 1⟩) _
    rw [hA2, nums_bump]
    refine aloop_round ?_
    refine awp_seq (awp_pures [1, 3, 4, 29, 30, 31] (by simp only [go_sem, ↓reduceIte, Nat.reduceLT, Nat.reduceEqDiff, Nat.reduceLeDiff, Nat.reduceAdd, Nat.reduceMul, Int.reduceLT, Int.reduceLE, Int.reduceToNat, BitVec.reduceOfInt, Nat.reduceBEq]; try rfl) ?_)
    refine awp_seq ?_
    refine awp_if rfl (fun _ => ?_) (fun h => by cases h)
    refine awp_skip ?_
    refine awp_seq (awp_block ?_)
    refine awp_seq (awp_pures [1, 3, 4, 6, 29, 30] (by simp only [go_sem, ↓reduceIte, Nat.reduceLT, Nat.reduceEqDiff, Nat.reduceLeDiff, Nat.reduceAdd, Nat.reduceMul, Int.reduceLT, Int.reduceLE, Int.reduceToNat, BitVec.reduceOfInt, Nat.reduceBEq]; try rfl) ?_)
    refine awp_lit ?_
    refine al_pureN 4 (by simp only [go_sem, ↓reduceIte, Nat.reduceLT, Nat.reduceEqDiff, Nat.reduceLeDiff, Nat.reduceAdd, Nat.reduceMul, Int.reduceLT, Int.reduceLE, Int.reduceToNat, BitVec.reduceOfInt, Nat.reduceBEq, qB, hB1, i64_add wB]; try rfl) ?_
    refine al_load rfl (by simp only [go_sem, ↓reduceIte, Nat.reduceLT, Nat.reduceEqDiff, Nat.reduceLeDiff, Nat.reduceAdd, Nat.reduceMul, Int.reduceLT, Int.reduceLE, Int.reduceToNat, BitVec.reduceOfInt, Nat.reduceBEq, qB, hB1, i64_add wB]) rfl (by simp only [go_sem, ↓reduceIte, Nat.reduceLT, Nat.reduceEqDiff, Nat.reduceLeDiff, Nat.reduceAdd, Nat.reduceMul, Int.reduceLT, Int.reduceLE, Int.reduceToNat, BitVec.reduceOfInt, Nat.reduceBEq, qB, hB1, i64_add wB]; try rfl) (AHeap.set_self _ _ _) (loadA_scalar agg3 gB) ?_
    refine al_pureN 2 (by simp only [go_sem, ↓reduceIte, Nat.reduceLT, Nat.reduceEqDiff, Nat.reduceLeDiff, Nat.reduceAdd, Nat.reduceMul, Int.reduceLT, Int.reduceLE, Int.reduceToNat, BitVec.reduceOfInt, Nat.reduceBEq, qB, hB1, i64_add wB]; try rfl) ?_
    refine al_store1 rfl (by simp only [go_sem, ↓reduceIte, Nat.reduceLT, Nat.reduceEqDiff, Nat.reduceLeDiff, Nat.reduceAdd, Nat.reduceMul, Int.reduceLT, Int.reduceLE, Int.reduceToNat, BitVec.reduceOfInt, Nat.reduceBEq]; try rfl) rfl (by simp only [go_sem, ↓reduceIte, Nat.reduceLT, Nat.reduceEqDiff, Nat.reduceLeDiff, Nat.reduceAdd, Nat.reduceMul, Int.reduceLT, Int.reduceLE, Int.reduceToNat, BitVec.reduceOfInt, Nat.reduceBEq]; try rfl) (by simp only [go_sem, ↓reduceIte, Nat.reduceLT, Nat.reduceEqDiff, Nat.reduceLeDiff, Nat.reduceAdd, Nat.reduceMul, Int.reduceLT, Int.reduceLE, Int.reduceToNat, BitVec.reduceOfInt, Nat.reduceBEq]; try rfl) (AHeap.set_self _ _ _) rfl size3 rfl rfl (by show (B / 2).toNat < (nums _ _).length; rw [nums_len]; omega) ?_
    refine al_end [1, 3, 4, 29, 30] ?_
    refine awp_pures [1, 3, 4, 29, 30] (by simp only [go_sem, ↓reduceIte, Nat.reduceLT, Nat.reduceEqDiff, Nat.reduceLeDiff, Nat.reduceAdd, Nat.reduceMul, Int.reduceLT, Int.reduceLE, Int.reduceToNat, BitVec.reduceOfInt, Nat.reduceBEq, a11]; try rfl) ?_
    rw [AHeap.set_set]
    show ALoop _ _ _ _ _ _ (AHeap.set (AHeap.set σ N ⟨G, true, 1⟩) (N + 1) ⟨(nums (cntF (p ++ [A])) n).set (B / 2).toNat (.int .i64 (((cntF (p ++ [A]) (B.toNat / 2) : Nat) : Int) + 1)), true, .n 1⟩) _
    rw [hB2, nums_bump, ← hsn]
    refine aloop_round ?_
    refine awp_seq (awp_pures [1, 3, 4, 29, 30, 31] (by simp only [go_sem, ↓reduceIte, Nat.reduceLT, Nat.reduceEqDiff, Nat.reduceLeDiff, Nat.reduceAdd, Nat.reduceMul, Int.reduceLT, Int.reduceLE, Int.reduceToNat, BitVec.reduceOfInt, Nat.reduceBEq]; try rfl) ?_)
    refine awp_seq ?_
    refine awp_if rfl (fun h => by cases h) (fun _ => ?_)
    refine awp_exit ?_
    simp only [Go.Abs.Seq, Go.Abs.Round, Go.Abs.InBlock, ↓reduceIte]
    have hadd2 : -9223372036854775808 ≤ ((f + j : Nat) : Int) + 1 ∧ ((f + j : Nat) : Int) + 1 ≤ 9223372036854775807 := by omega
    refine awp_pures [1, 3, 4] (by simp only [go_sem, ↓reduceIte, Nat.reduceLT, Nat.reduceEqDiff, Nat.reduceLeDiff, Nat.reduceAdd, Nat.reduceMul, Int.reduceLT, Int.reduceLE, Int.reduceToNat, BitVec.reduceOfInt, Nat.reduceBEq, i64_add hadd2]; try rfl) ?_
    exact ALoop.cast3 (ih (j + 1) hlt (by omega)) rfl rfl rfl
  · have hb : decide (((f + j : Nat) : Int) < (n : Int)) = false := by simp; omega
    have hjm : j = g.as.length := by omega
    refine awp_seq ?_
    refine awp_seq (awp_pures [1, 3, 4, 24] (by simp only [go_sem, ↓reduceIte, Nat.reduceLT, Nat.reduceEqDiff, Nat.reduceLeDiff, Nat.reduceAdd, Nat.reduceMul, Int.reduceLT, Int.reduceLE, Int.reduceToNat, BitVec.reduceOfInt, Nat.reduceBEq, hb]; try rfl) ?_)
    refine awp_if rfl (fun h => by cases h) (fun _ => ?_)
    refine awp_exit ?_
    simp only [Go.Abs.Seq, Go.Abs.Round, Go.Abs.InBlock, ↓reduceIte]
    rw [hjm, List.take_length]
    refine awp_seq ?_
    first | refine awp_seq (awp_lit ?_) | refine awp_lit ?_ | refine awp_seq (awp_seq (awp_lit ?_))
    refine al_pureN 2 (by simp only [go_sem, ↓reduceIte, Nat.reduceLT, Nat.reduceEqDiff, Nat.reduceLeDiff, Nat.reduceAdd, Nat.reduceMul, Int.reduceLT, Int.reduceLE, Int.reduceToNat, BitVec.reduceOfInt, Nat.reduceBEq]; try rfl) ?_
    refine al_load rfl (by simp only [go_sem, ↓reduceIte, Nat.reduceLT, Nat.reduceEqDiff, Nat.reduceLeDiff, Nat.reduceAdd, Nat.reduceMul, Int.reduceLT, Int.reduceLE, Int.reduceToNat, BitVec.reduceOfInt, Nat.reduceBEq]) rfl (by simp only [go_sem, ↓reduceIte, Nat.reduceLT, Nat.reduceEqDiff, Nat.reduceLeDiff, Nat.reduceAdd, Nat.reduceMul, Int.reduceLT, Int.reduceLE, Int.reduceToNat, BitVec.reduceOfInt, Nat.reduceBEq]; try rfl) (hGN _) (loadA_scalar agg22 rfl) ?_
    refine al_pureN 2 (by simp only [go_sem, ↓reduceIte, Nat.reduceLT, Nat.reduceEqDiff, Nat.reduceLeDiff, Nat.reduceAdd, Nat.reduceMul, Int.reduceLT, Int.reduceLE, Int.reduceToNat, BitVec.reduceOfInt, Nat.reduceBEq]; try rfl) ?_
    refine al_end [1, 3, 43, 44, 45] ?_
    obtain ⟨q, hq⟩ : ∃ q, q = andLits g.as := ⟨_, rfl⟩
    have hql : q.length ≤ 400 := by rw [hq, andLits_len]; omega
    rw [← hq]
    refine awp_block (awp_loop ?_)
    refine ALoop.cast3 (aloop_ind (α := Nat × Nat) (fun a => a.1 ≤ g.ls.length ∧ N + 2 ≤ a.2) (fun a => g.ls.length - a.1)
      (fun a => [(1, .pointer (some ⟨N, 0, none⟩)), (3, .slice (some ⟨N + 1, 0, none⟩) n n), (43, .slice lb g.ls.length lc), (44, .int .i64 g.ls.length), (45, .int .i64 a.1)]) (fun a => a.2) (fun a => (σ.set N ⟨G, true, 1⟩).set (N + 1) ⟨nums (cntF (q ++ (g.ls.take a.1).map (·.1))) n, true, 1⟩) ?_ (0, N + 2) ⟨Nat.zero_le _, Nat.le_refl _⟩) rfl rfl (by simp)
    clear ih hlt hj hjm hb
    rintro ⟨j, M⟩ ⟨hj, hM⟩ ih
    dsimp only at hj hM ih ⊢
    by_cases hlt : j < g.ls.length
    · have hb : decide ((j : Int) < (g.ls.length : Int)) = true := by simpa using hlt
      refine awp_seq (awp_pures [1, 3, 43, 44, 45, 46] (by simp only [go_sem, ↓reduceIte, Nat.reduceLT, Nat.reduceEqDiff, Nat.reduceLeDiff, Nat.reduceAdd, Nat.reduceMul, Int.reduceLT, Int.reduceLE, Int.reduceToNat, BitVec.reduceOfInt, Nat.reduceBEq, hb]; try rfl) ?_)
      refine awp_seq ?_
      refine awp_if rfl (fun _ => ?_) (fun h => by cases h)
      refine awp_skip ?_
      refine awp_seq (awp_block ?_)
      have hjj : 0 ≤ (j : Int) ∧ (j : Int) < (g.ls.length : Int) := by omega
      obtain ⟨id, off, cap, b, e1, e2, e3, e4⟩ := rowsAt_pair (hl.mono (hσp (nums (cntF (q ++ (g.ls.take j).map (·.1))) n))) hlt
      cases e1
      first | refine awp_seq (awp_lit ?_) | refine awp_lit ?_ | refine awp_seq (awp_seq (awp_lit ?_))
      refine al_pureN 1 (by simp only [go_sem, ↓reduceIte, Nat.reduceLT, Nat.reduceEqDiff, Nat.reduceLeDiff, Nat.reduceAdd, Nat.reduceMul, Int.reduceLT, Int.reduceLE, Int.reduceToNat, BitVec.reduceOfInt, Nat.reduceBEq, hjj]; try rfl) ?_
      refine al_load rfl (by simp only [go_sem, ↓reduceIte, Nat.reduceLT, Nat.reduceEqDiff, Nat.reduceLeDiff, Nat.reduceAdd, Nat.reduceMul, Int.reduceLT, Int.reduceLE, Int.reduceToNat, BitVec.reduceOfInt, Nat.reduceBEq, hjj]) rfl (by simp only [go_sem, ↓reduceIte, Nat.reduceLT, Nat.reduceEqDiff, Nat.reduceLeDiff, Nat.reduceAdd, Nat.reduceMul, Int.reduceLT, Int.reduceLE, Int.reduceToNat, BitVec.reduceOfInt, Nat.reduceBEq, hjj]; try rfl) e2 (loadA_agg agg45 e3) ?_
      refine al_alloc 1 rfl rfl rfl ty45 (by decide) ?_
      refine al_store rfl (by simp only [go_sem, ↓reduceIte, Nat.reduceLT, Nat.reduceEqDiff, Nat.reduceLeDiff, Nat.reduceAdd, Nat.reduceMul, Int.reduceLT, Int.reduceLE, Int.reduceToNat, BitVec.reduceOfInt, Nat.reduceBEq, hjj]) rfl (by simp only [go_sem, ↓reduceIte, Nat.reduceLT, Nat.reduceEqDiff, Nat.reduceLeDiff, Nat.reduceAdd, Nat.reduceMul, Int.reduceLT, Int.reduceLE, Int.reduceToNat, BitVec.reduceOfInt, Nat.reduceBEq, hjj]; try rfl) (by simp only [go_sem, ↓reduceIte, Nat.reduceLT, Nat.reduceEqDiff, Nat.reduceLeDiff, Nat.reduceAdd, Nat.reduceMul, Int.reduceLT, Int.reduceLE, Int.reduceToNat, BitVec.reduceOfInt, Nat.reduceBEq, hjj]; try rfl) (by first | exact AHeap.set_self _ _ _ | (simp only [AHeap.set, ↓reduceIte, Nat.add_assoc, Nat.reduceAdd, Nat.add_left_cancel_iff, Nat.add_right_cancel_iff, Nat.left_eq_add, Nat.add_eq_left, Nat.add_eq_right, Nat.right_eq_add, Nat.reduceEqDiff, Nat.succ_ne_zero, hjj]; rfl) | assumption) rfl (by exact size45.trans rfl) (by rfl) (by exact Nat.le_of_ble_eq_true rfl) ?_
      refine al_end [1, 3, 8, 43, 44, 45] ?_
      rw [AHeap.set_set]
      obtain ⟨b1, b2⟩ := chkL_get hchl hlt
      obtain ⟨A, hAe⟩ : ∃ A, A = g.ls[j].1 := ⟨_, rfl⟩
      have hsn : q ++ (g.ls.take (j + 1)).map (·.1) = (q ++ (g.ls.take j).map (·.1)) ++ [A] := by
        rw [take_snoc _ hlt, List.map_append, ← List.append_assoc]; simp [hAe]
      rw [← hAe] at b1 b2 ⊢
      obtain ⟨p, hp⟩ : ∃ p, p = q ++ (g.ls.take j).map (·.1) := ⟨_, rfl⟩
      have hpl : p.length ≤ 500 := by rw [hp, List.length_append, List.length_map, List.length_take]; omega
      rw [← hp] at hsn ⊢
      have hA1 : 0 ≤ A / 2 ∧ A / 2 < (n : Int) := by omega
      have hA2 : (A / 2).toNat = A.toNat / 2 := by omega
      have qA := quo_two b1 (by omega)
      have gA : (nums (cntF p) n)[(A / 2).toNat]? = some (.int .i64 ((cntF p (A.toNat / 2) : Nat) : Int)) := by rw [hA2]; exact nums_get _ (by omega)
      have wA := bnd p (A.toNat / 2) (by omega)
      have hM1 : ¬ N + 1 = M := by omega
      have hU : ∀ X, (((σ.set N ⟨G, true, 1⟩).set (N + 1) ⟨nums (cntF p) n, true, 1⟩).set M X) (N + 1) = some ⟨nums (cntF p) n, true, 1⟩ := fun X => by
        rw [AHeap.set_ne _ _ hM1, AHeap.set_self]
      refine awp_lit ?_
      refine al_pureN 2 (by simp only [go_sem, ↓reduceIte, Nat.reduceLT, Nat.reduceEqDiff, Nat.reduceLeDiff, Nat.reduceAdd, Nat.reduceMul, Int.reduceLT, Int.reduceLE, Int.reduceToNat, BitVec.reduceOfInt, Nat.reduceBEq, qA, hA1, i64_add wA]; try rfl) ?_
      refine al_load rfl (by simp only [go_sem, ↓reduceIte, Nat.reduceLT, Nat.reduceEqDiff, Nat.reduceLeDiff, Nat.reduceAdd, Nat.reduceMul, Int.reduceLT, Int.reduceLE, Int.reduceToNat, BitVec.reduceOfInt, Nat.reduceBEq, qA, hA1, i64_add wA]) rfl (by simp only [go_sem, ↓reduceIte, Nat.reduceLT, Nat.reduceEqDiff, Nat.reduceLeDiff, Nat.reduceAdd, Nat.reduceMul, Int.reduceLT, Int.reduceLE, Int.reduceToNat, BitVec.reduceOfInt, Nat.reduceBEq, qA, hA1, i64_add wA]; try rfl) (by first | exact AHeap.set_self _ _ _ | (simp only [AHeap.set, ↓reduceIte, Nat.add_assoc, Nat.reduceAdd, Nat.add_left_cancel_iff, Nat.add_right_cancel_iff, Nat.left_eq_add, Nat.add_eq_left, Nat.add_eq_right, Nat.right_eq_add, Nat.reduceEqDiff, Nat.succ_ne_zero, qA, hA1, i64_add wA]; rfl) | assumption) (by first | exact loadA_scalar agg43 rfl | exact loadA_agg agg43 rfl | exact loadA_scalar agg43 (by assumption)) ?_
      refine al_pureN 2 (by simp only [go_sem, ↓reduceIte, Nat.reduceLT, Nat.reduceEqDiff, Nat.reduceLeDiff, Nat.reduceAdd, Nat.reduceMul, Int.reduceLT, Int.reduceLE, Int.reduceToNat, BitVec.reduceOfInt, Nat.reduceBEq, qA, hA1, i64_add wA]; try rfl) ?_
      refine al_load rfl (by simp only [go_sem, ↓reduceIte, Nat.reduceLT, Nat.reduceEqDiff, Nat.reduceLeDiff, Nat.reduceAdd, Nat.reduceMul, Int.reduceLT, Int.reduceLE, Int.reduceToNat, BitVec.reduceOfInt, Nat.reduceBEq, qA, hA1, i64_add wA]) rfl (by simp only [go_sem, ↓reduceIte, Nat.reduceLT, Nat.reduceEqDiff, Nat.reduceLeDiff, Nat.reduceAdd, Nat.reduceMul, Int.reduceLT, Int.reduceLE, Int.reduceToNat, BitVec.reduceOfInt, Nat.reduceBEq, qA, hA1, i64_add wA]; try rfl) (hU _) (loadA_scalar agg3 gA) ?_
      refine al_pureN 2 (by simp only [go_sem, ↓reduceIte, Nat.reduceLT, Nat.reduceEqDiff, Nat.reduceLeDiff, Nat.reduceAdd, Nat.reduceMul, Int.reduceLT, Int.reduceLE, Int.reduceToNat, BitVec.reduceOfInt, Nat.reduceBEq, qA, hA1, i64_add wA]; try rfl) ?_
      refine al_store1 rfl (by simp only [go_sem, ↓reduceIte, Nat.reduceLT, Nat.reduceEqDiff, Nat.reduceLeDiff, Nat.reduceAdd, Nat.reduceMul, Int.reduceLT, Int.reduceLE, Int.reduceToNat, BitVec.reduceOfInt, Nat.reduceBEq]; try rfl) rfl (by simp only [go_sem, ↓reduceIte, Nat.reduceLT, Nat.reduceEqDiff, Nat.reduceLeDiff, Nat.reduceAdd, Nat.reduceMul, Int.reduceLT, Int.reduceLE, Int.reduceToNat, BitVec.reduceOfInt, Nat.reduceBEq]; try rfl) (by simp only [go_sem, ↓reduceIte, Nat.reduceLT, Nat.reduceEqDiff, Nat.reduceLeDiff, Nat.reduceAdd, Nat.reduceMul, Int.reduceLT, Int.reduceLE, Int.reduceToNat, BitVec.reduceOfInt, Nat.reduceBEq]; try rfl) (hU _) rfl size3 rfl rfl (by show (A / 2).toNat < (nums _ _).length; rw [nums_len]; omega) ?_
      refine al_end [1, 3, 43, 44, 45] ?_
      have hadd2 : -9223372036854775808 ≤ (j : Int) + 1 ∧ (j : Int) + 1 ≤ 9223372036854775807 := by omega
      refine awp_pures [1, 3, 43, 44, 45] (by simp only [go_sem, ↓reduceIte, Nat.reduceLT, Nat.reduceEqDiff, Nat.reduceLeDiff, Nat.reduceAdd, Nat.reduceMul, Int.reduceLT, Int.reduceLE, Int.reduceToNat, BitVec.reduceOfInt, Nat.reduceBEq, i64_add hadd2]; try rfl) ?_
      refine ALoop.cast3 ((ih (j + 1, M + 1) ⟨hlt, by omega⟩ (by dsimp only; omega)).forget (fun _ _ h => h) ?_) rfl rfl rfl
      dsimp only
      rw [hsn, ← nums_bump, hA2]
      exact set_mono ((le_new (dom_set hN) (Nat.le_refl _)).trans (le_new (dom_set (dom_set hN)) hM)) _ _
    · have hb : decide ((j : Int) < (g.ls.length : Int)) = false := by simpa using hlt
      have hjm : j = g.ls.length := by omega
      refine awp_seq (awp_pures [1, 3, 43, 44, 45, 46] (by simp only [go_sem, ↓reduceIte, Nat.reduceLT, Nat.reduceEqDiff, Nat.reduceLeDiff, Nat.reduceAdd, Nat.reduceMul, Int.reduceLT, Int.reduceLE, Int.reduceToNat, BitVec.reduceOfInt, Nat.reduceBEq, hb]; try rfl) ?_)
      refine awp_seq ?_
      refine awp_if rfl (fun h => by cases h) (fun _ => ?_)
      refine awp_exit ?_
      simp only [Go.Abs.Seq, Go.Abs.Round, Go.Abs.InBlock, ↓reduceIte]
      rw [hjm, List.take_length]
      refine awp_seq ?_
      first | refine awp_seq (awp_lit ?_) | refine awp_lit ?_ | refine awp_seq (awp_seq (awp_lit ?_))
      refine al_pureN 2 (by simp only [go_sem, ↓reduceIte, Nat.reduceLT, Nat.reduceEqDiff, Nat.reduceLeDiff, Nat.reduceAdd, Nat.reduceMul, Int.reduceLT, Int.reduceLE, Int.reduceToNat, BitVec.reduceOfInt, Nat.reduceBEq]; try rfl) ?_
      refine al_load rfl (by simp only [go_sem, ↓reduceIte, Nat.reduceLT, Nat.reduceEqDiff, Nat.reduceLeDiff, Nat.reduceAdd, Nat.reduceMul, Int.reduceLT, Int.reduceLE, Int.reduceToNat, BitVec.reduceOfInt, Nat.reduceBEq]) rfl (by simp only [go_sem, ↓reduceIte, Nat.reduceLT, Nat.reduceEqDiff, Nat.reduceLeDiff, Nat.reduceAdd, Nat.reduceMul, Int.reduceLT, Int.reduceLE, Int.reduceToNat, BitVec.reduceOfInt, Nat.reduceBEq]; try rfl) (hGN _) (loadA_scalar agg24 rfl) ?_
      refine al_pureN 2 (by simp only [go_sem, ↓reduceIte, Nat.reduceLT, Nat.reduceEqDiff, Nat.reduceLeDiff, Nat.reduceAdd, Nat.reduceMul, Int.reduceLT, Int.reduceLE, Int.reduceToNat, BitVec.reduceOfInt, Nat.reduceBEq]; try rfl) ?_
      refine al_end [3, 60, 61, 62] ?_
      obtain ⟨r, hr⟩ : ∃ r, r = q ++ g.ls.map (·.1) := ⟨_, rfl⟩
      have hrl : r.length ≤ 500 := by rw [hr, List.length_append, List.length_map]; omega
      rw [← hr]
      refine awp_block (awp_loop ?_)
      refine ALoop.cast3 (aloop_ind (α := Nat) (fun a => a ≤ g.os.length) (fun a => g.os.length - a)
        (fun a => [(3, .slice (some ⟨N + 1, 0, none⟩) n n), (60, .slice ob g.os.length oc), (61, .int .i64 g.os.length), (62, .int .i64 a)]) (fun _ => M) (fun a => (σ.set N ⟨G, true, 1⟩).set (N + 1) ⟨nums (cntF (r ++ g.os.take a)) n, true, 1⟩) ?_ 0 (Nat.zero_le _)) rfl rfl (by simp)
      clear ih hlt hj hjm hb
      intro j hj ih
      by_cases hlt : j < g.os.length
      · have hb : decide ((j : Int) < (g.os.length : Int)) = true := by simpa using hlt
        refine awp_seq (awp_pures [3, 60, 61, 62, 63] (by simp only [go_sem, ↓reduceIte, Nat.reduceLT, Nat.reduceEqDiff, Nat.reduceLeDiff, Nat.reduceAdd, Nat.reduceMul, Int.reduceLT, Int.reduceLE, Int.reduceToNat, BitVec.reduceOfInt, Nat.reduceBEq, hb]; try rfl) ?_)
        refine awp_seq ?_
        refine awp_if rfl (fun _ => ?_) (fun h => by cases h)
        refine awp_skip ?_
        refine awp_seq (awp_block ?_)
        have hjj : 0 ≤ (j : Int) ∧ (j : Int) < (g.os.length : Int) := by omega
        obtain ⟨id, off, cap, b, e1, e2, e3, e4⟩ := slAt_int (ho.mono (hσp (nums (cntF (r ++ g.os.take j)) n))) hlt
        cases e1
        first | refine awp_seq (awp_lit ?_) | refine awp_lit ?_ | refine awp_seq (awp_seq (awp_lit ?_))
        refine al_pureN 1 (by simp only [go_sem, ↓reduceIte, Nat.reduceLT, Nat.reduceEqDiff, Nat.reduceLeDiff, Nat.reduceAdd, Nat.reduceMul, Int.reduceLT, Int.reduceLE, Int.reduceToNat, BitVec.reduceOfInt, Nat.reduceBEq, hjj]; try rfl) ?_
        refine al_load rfl (by simp only [go_sem, ↓reduceIte, Nat.reduceLT, Nat.reduceEqDiff, Nat.reduceLeDiff, Nat.reduceAdd, Nat.reduceMul, Int.reduceLT, Int.reduceLE, Int.reduceToNat, BitVec.reduceOfInt, Nat.reduceBEq, hjj]) rfl (by simp only [go_sem, ↓reduceIte, Nat.reduceLT, Nat.reduceEqDiff, Nat.reduceLeDiff, Nat.reduceAdd, Nat.reduceMul, Int.reduceLT, Int.reduceLE, Int.reduceToNat, BitVec.reduceOfInt, Nat.reduceBEq, hjj]; try rfl) e2 (loadA_scalar agg43 e3) ?_
        refine al_pureN 1 (by simp only [go_sem, ↓reduceIte, Nat.reduceLT, Nat.reduceEqDiff, Nat.reduceLeDiff, Nat.reduceAdd, Nat.reduceMul, Int.reduceLT, Int.reduceLE, Int.reduceToNat, BitVec.reduceOfInt, Nat.reduceBEq, hjj]; try rfl) ?_
        refine al_end [3, 10, 60, 61, 62] ?_
        obtain ⟨b1, b2⟩ := chkO_get hcho hlt
        obtain ⟨A, hAe⟩ : ∃ A, A = g.os[j] := ⟨_, rfl⟩
        have hsn : r ++ g.os.take (j + 1) = (r ++ g.os.take j) ++ [A] := by
          rw [take_snoc _ hlt, ← List.append_assoc]; simp [hAe]
        rw [← hAe] at b1 b2 ⊢
        obtain ⟨p, hp⟩ : ∃ p, p = r ++ g.os.take j := ⟨_, rfl⟩
        have hpl : p.length ≤ 600 := by rw [hp, List.length_append, List.length_take]; omega
        rw [← hp] at hsn ⊢
        have hA1 : 0 ≤ A / 2 ∧ A / 2 < (n : Int) := by omega
        have hA2 : (A / 2).toNat = A.toNat / 2 := by omega
        have qA := quo_two b1 (by omega)
        have gA : (nums (cntF p) n)[(A / 2).toNat]? = some (.int .i64 ((cntF p (A.toNat / 2) : Nat) : Int)) := by rw [hA2]; exact nums_get _ (by omega)
        have wA := bnd p (A.toNat / 2) (by omega)
        refine awp_lit ?_
        refine al_pureN 4 (by simp only [go_sem, ↓reduceIte, Nat.reduceLT, Nat.reduceEqDiff, Nat.reduceLeDiff, Nat.reduceAdd, Nat.reduceMul, Int.reduceLT, Int.reduceLE, Int.reduceToNat, BitVec.reduceOfInt, Nat.reduceBEq, qA, hA1, i64_add wA]; try rfl) ?_
        refine al_load rfl (by simp only [go_sem, ↓reduceIte, Nat.reduceLT, Nat.reduceEqDiff, Nat.reduceLeDiff, Nat.reduceAdd, Nat.reduceMul, Int.reduceLT, Int.reduceLE, Int.reduceToNat, BitVec.reduceOfInt, Nat.reduceBEq, qA, hA1, i64_add wA]) rfl (by simp only [go_sem, ↓reduceIte, Nat.reduceLT, Nat.reduceEqDiff, Nat.reduceLeDiff, Nat.reduceAdd, Nat.reduceMul, Int.reduceLT, Int.reduceLE, Int.reduceToNat, BitVec.reduceOfInt, Nat.reduceBEq, qA, hA1, i64_add wA]; try rfl) (AHeap.set_self _ _ _) (loadA_scalar agg3 gA) ?_
        refine al_pureN 2 (by simp only [go_sem, ↓reduceIte, Nat.reduceLT, Nat.reduceEqDiff, Nat.reduceLeDiff, Nat.reduceAdd, Nat.reduceMul, Int.reduceLT, Int.reduceLE, Int.reduceToNat, BitVec.reduceOfInt, Nat.reduceBEq, qA, hA1, i64_add wA]; try rfl) ?_
        refine al_store1 rfl (by simp only [go_sem, ↓reduceIte, Nat.reduceLT, Nat.reduceEqDiff, Nat.reduceLeDiff, Nat.reduceAdd, Nat.reduceMul, Int.reduceLT, Int.reduceLE, Int.reduceToNat, BitVec.reduceOfInt, Nat.reduceBEq]; try rfl) rfl (by simp only [go_sem, ↓reduceIte, Nat.reduceLT, Nat.reduceEqDiff, Nat.reduceLeDiff, Nat.reduceAdd, Nat.reduceMul, Int.reduceLT, Int.reduceLE, Int.reduceToNat, BitVec.reduceOfInt, Nat.reduceBEq]; try rfl) (by simp only [go_sem, ↓reduceIte, Nat.reduceLT, Nat.reduceEqDiff, Nat.reduceLeDiff, Nat.reduceAdd, Nat.reduceMul, Int.reduceLT, Int.reduceLE, Int.reduceToNat, BitVec.reduceOfInt, Nat.reduceBEq]; try rfl) (AHeap.set_self _ _ _) rfl size3 rfl rfl (by show (A / 2).toNat < (nums _ _).length; rw [nums_len]; omega) ?_
        refine al_end [3, 60, 61, 62] ?_
        have hadd2 : -9223372036854775808 ≤ (j : Int) + 1 ∧ (j : Int) + 1 ≤ 9223372036854775807 := by omega
        refine awp_pures [3, 60, 61, 62] (by simp only [go_sem, ↓reduceIte, Nat.reduceLT, Nat.reduceEqDiff, Nat.reduceLeDiff, Nat.reduceAdd, Nat.reduceMul, Int.reduceLT, Int.reduceLE, Int.reduceToNat, BitVec.reduceOfInt, Nat.reduceBEq, i64_add hadd2]; try rfl) ?_
        rw [AHeap.set_set]
        refine ALoop.cast3 (ih (j + 1) hlt (by omega)) rfl rfl ?_
        rw [hsn, ← nums_bump, hA2]
      · have hb : decide ((j : Int) < (g.os.length : Int)) = false := by simpa using hlt
        have hjm : j = g.os.length := by omega
        refine awp_seq (awp_pures [3, 60, 61, 62, 63] (by simp only [go_sem, ↓reduceIte, Nat.reduceLT, Nat.reduceEqDiff, Nat.reduceLeDiff, Nat.reduceAdd, Nat.reduceMul, Int.reduceLT, Int.reduceLE, Int.reduceToNat, BitVec.reduceOfInt, Nat.reduceBEq, hb]; try rfl) ?_)
        refine awp_seq ?_
        refine awp_if rfl (fun h => by cases h) (fun _ => ?_)
        refine awp_exit ?_
        simp only [Go.Abs.Seq, Go.Abs.Round, Go.Abs.InBlock, ↓reduceIte]
        refine awp_seq (awp_pures [2] (by simp only [go_sem, ↓reduceIte, Nat.reduceLT, Nat.reduceEqDiff, Nat.reduceLeDiff, Nat.reduceAdd, Nat.reduceMul, Int.reduceLT, Int.reduceLE, Int.reduceToNat, BitVec.reduceOfInt, Nat.reduceBEq]; try rfl) ?_)
        rw [hjm, List.take_length]
        have he : r ++ g.os = allLits g := by rw [hr, hq]; rfl
        rw [he]
        exact awp_ret ⟨_, rfl, .inr ⟨N + 1, n, by omega, rfl, Nat.le_refl _, AHeap.set_self _ _ _, by rw [nums_len, Nat.mul_one]⟩, hσp _, by omega⟩
end Go.Proofs.Ytfialjllclclkaa
