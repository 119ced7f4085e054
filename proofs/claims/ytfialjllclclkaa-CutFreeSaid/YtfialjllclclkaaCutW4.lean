/- The walk of the leaf sets. -/
import Derived.Test.YtfialjllclclkaaCutW3
set_option linter.unusedSimpArgs false
set_option linter.unusedVariables false
namespace Go.Proofs.Ytfialjllclclkaa
open Go.Abs Go.Cut
attribute [local go_sem] Try.underlying26 Try.underlying66 Try.underlying69 Try.underlying3 Try.underlying22 Try.underlying23 Try.underlying24 Try.underlying35 Try.underlying43 Try.underlying45 Try.underlying47 Try.underlying5 Try.underlying4 Try.underlying30 Try.underlying56 size26 size66 size69 size3 size22 size23 size24 size35 size43 size45 size47 size5 size4 size30 Nat.mul_one
theorem leafE_len {n node : Int} {l : List Int} (h : leafE n node l = 0) : l.length ≤ 4 := by
  unfold leafE at h
  split at h
  · cases h
  · split at h
    · cases h
    · omega
theorem leafSet_gives {g : AigD} {lb ab ob : Option Addr} {lc ac oc : Nat} {f node : Int} {l : List Int} {v : Value} {N : Nat} {σ : AHeap} (hv : SlAt σ v (ints l)) (h1 : -1000000 ≤ f) (h2 : f ≤ 1000000) (h3 : g.as.length ≤ 1000000) :
    Gives Try.prog 64 [graphV lb lc ab ac ob oc g f, .int .i64 node, v] N σ (.int .i64 (leafE (f + g.as.length) node l)) := by
  have hol : (ints l).length = l.length := by simp [ints]
  obtain ⟨sb, sc, rfl⟩ := hv.len
  rw [hol] at hv ⊢
  refine gives_of rfl (aok_fresh fun hN => aok_body (r := false) (n := 46) Try.func64 rfl rfl (by simp) ?_)
  have hadd : -9223372036854775808 ≤ f + (g.as.length : Int) ∧ f + (g.as.length : Int) ≤ 9223372036854775807 := by omega
  unfold graphV
  first | refine awp_seq (awp_lit ?_) | refine awp_lit ?_ | refine awp_seq (awp_seq (awp_lit ?_))
  refine al_box 1 rfl rfl rfl (by simp only [go_sem, ↓reduceIte, Nat.reduceLT, Nat.reduceEqDiff, Nat.reduceLeDiff, Nat.reduceAdd, Nat.reduceMul, Int.reduceLT, Int.reduceLE, Int.reduceToNat, BitVec.reduceOfInt, Nat.reduceBEq]; try rfl) ?_
  refine al_pureN 1 (by simp only [go_sem, ↓reduceIte, Nat.reduceLT, Nat.reduceEqDiff, Nat.reduceLeDiff, Nat.reduceAdd, Nat.reduceMul, Int.reduceLT, Int.reduceLE, Int.reduceToNat, BitVec.reduceOfInt, Nat.reduceBEq]; try rfl) ?_
  refine al_end [1, 2, 3] ?_
  first | refine awp_seq (awp_lit ?_) | refine awp_lit ?_ | refine awp_seq (awp_seq (awp_lit ?_))
  refine al_pureN 1 (by simp only [go_sem, ↓reduceIte, Nat.reduceLT, Nat.reduceEqDiff, Nat.reduceLeDiff, Nat.reduceAdd, Nat.reduceMul, Int.reduceLT, Int.reduceLE, Int.reduceToNat, BitVec.reduceOfInt, Nat.reduceBEq, i64_add hadd]; try rfl) ?_
  refine al_load rfl (by simp only [go_sem, ↓reduceIte, Nat.reduceLT, Nat.reduceEqDiff, Nat.reduceLeDiff, Nat.reduceAdd, Nat.reduceMul, Int.reduceLT, Int.reduceLE, Int.reduceToNat, BitVec.reduceOfInt, Nat.reduceBEq, i64_add hadd]) rfl (by simp only [go_sem, ↓reduceIte, Nat.reduceLT, Nat.reduceEqDiff, Nat.reduceLeDiff, Nat.reduceAdd, Nat.reduceMul, Int.reduceLT, Int.reduceLE, Int.reduceToNat, BitVec.reduceOfInt, Nat.reduceBEq, i64_add hadd]; try rfl) (by first | exact AHeap.set_self _ _ _ | (simp only [AHeap.set, ↓reduceIte, Nat.add_assoc, Nat.reduceAdd, Nat.add_left_cancel_iff, Nat.add_right_cancel_iff, Nat.left_eq_add, Nat.add_eq_left, Nat.add_eq_right, Nat.right_eq_add, Nat.reduceEqDiff, Nat.succ_ne_zero, i64_add hadd]; rfl) | assumption) (by first | exact loadA_scalar agg3 rfl | exact loadA_agg agg3 rfl | exact loadA_scalar agg3 (by assumption)) ?_
  refine al_pureN 2 (by simp only [go_sem, ↓reduceIte, Nat.reduceLT, Nat.reduceEqDiff, Nat.reduceLeDiff, Nat.reduceAdd, Nat.reduceMul, Int.reduceLT, Int.reduceLE, Int.reduceToNat, BitVec.reduceOfInt, Nat.reduceBEq, i64_add hadd]; try rfl) ?_
  refine al_load rfl (by simp only [go_sem, ↓reduceIte, Nat.reduceLT, Nat.reduceEqDiff, Nat.reduceLeDiff, Nat.reduceAdd, Nat.reduceMul, Int.reduceLT, Int.reduceLE, Int.reduceToNat, BitVec.reduceOfInt, Nat.reduceBEq, i64_add hadd]) rfl (by simp only [go_sem, ↓reduceIte, Nat.reduceLT, Nat.reduceEqDiff, Nat.reduceLeDiff, Nat.reduceAdd, Nat.reduceMul, Int.reduceLT, Int.reduceLE, Int.reduceToNat, BitVec.reduceOfInt, Nat.reduceBEq, i64_add hadd]; try rfl) (by first | exact AHeap.set_self _ _ _ | (simp only [AHeap.set, ↓reduceIte, Nat.add_assoc, Nat.reduceAdd, Nat.add_left_cancel_iff, Nat.add_right_cancel_iff, Nat.left_eq_add, Nat.add_eq_left, Nat.add_eq_right, Nat.right_eq_add, Nat.reduceEqDiff, Nat.succ_ne_zero, i64_add hadd]; rfl) | assumption) (by first | exact loadA_scalar agg23 rfl | exact loadA_agg agg23 rfl | exact loadA_scalar agg23 (by assumption)) ?_
  refine al_pureN 3 (by simp only [go_sem, ↓reduceIte, Nat.reduceLT, Nat.reduceEqDiff, Nat.reduceLeDiff, Nat.reduceAdd, Nat.reduceMul, Int.reduceLT, Int.reduceLE, Int.reduceToNat, BitVec.reduceOfInt, Nat.reduceBEq, i64_add hadd]; try rfl) ?_
  refine al_end [1, 2, 7] ?_
  have hle : σ.le (σ.set N ⟨spread (graphV lb lc ab ac ob oc g f), true, 1⟩) := le_new hN (Nat.le_refl _)
  refine awp_seq (awp_block ?_)
  by_cases h0 : node < 0 ∨ f + g.as.length ≤ node
  · have hE : leafE (f + g.as.length) node l = 1 := by simp [leafE, h0]
    by_cases h00 : node < 0
    · have hb : decide (node < 0) = true := by simpa using h00
      refine awp_seq (awp_pures [2, 7, 18] (by simp only [go_sem, ↓reduceIte, Nat.reduceLT, Nat.reduceEqDiff, Nat.reduceLeDiff, Nat.reduceAdd, Nat.reduceMul, Int.reduceLT, Int.reduceLE, Int.reduceToNat, BitVec.reduceOfInt, Nat.reduceBEq, hb]; try rfl) ?_)
      refine awp_if rfl (fun _ => ?_) (fun h => by cases h)
      refine awp_seq (awp_pures [6] (by simp only [go_sem, ↓reduceIte, Nat.reduceLT, Nat.reduceEqDiff, Nat.reduceLeDiff, Nat.reduceAdd, Nat.reduceMul, Int.reduceLT, Int.reduceLE, Int.reduceToNat, BitVec.reduceOfInt, Nat.reduceBEq]; try rfl) ?_)
      refine awp_ret ⟨_, rfl, ?_, hle⟩
      rw [hE]; rfl
    · have hb : decide (node < 0) = false := by simpa using h00
      have hb2 : decide (f + (g.as.length : Int) ≤ node) = true := by simp; omega
      refine awp_seq (awp_pures [2, 7, 18] (by simp only [go_sem, ↓reduceIte, Nat.reduceLT, Nat.reduceEqDiff, Nat.reduceLeDiff, Nat.reduceAdd, Nat.reduceMul, Int.reduceLT, Int.reduceLE, Int.reduceToNat, BitVec.reduceOfInt, Nat.reduceBEq, hb, hb2, ge_iff_le]; try rfl) ?_)
      refine awp_if rfl (fun _ => ?_) (fun h => by cases h)
      refine awp_seq (awp_pures [6] (by simp only [go_sem, ↓reduceIte, Nat.reduceLT, Nat.reduceEqDiff, Nat.reduceLeDiff, Nat.reduceAdd, Nat.reduceMul, Int.reduceLT, Int.reduceLE, Int.reduceToNat, BitVec.reduceOfInt, Nat.reduceBEq]; try rfl) ?_)
      refine awp_ret ⟨_, rfl, ?_, hle⟩
      rw [hE]; rfl
  · have hb : decide (node < 0) = false := by simp; omega
    have hb2 : decide (f + (g.as.length : Int) ≤ node) = false := by simp; omega
    refine awp_seq (awp_pures [2, 7, 18] (by simp only [go_sem, ↓reduceIte, Nat.reduceLT, Nat.reduceEqDiff, Nat.reduceLeDiff, Nat.reduceAdd, Nat.reduceMul, Int.reduceLT, Int.reduceLE, Int.reduceToNat, BitVec.reduceOfInt, Nat.reduceBEq, hb, hb2, ge_iff_le]; try rfl) ?_)
    refine awp_if rfl (fun h => by cases h) (fun _ => ?_)
    by_cases h4 : 4 < (l.length : Int)
    · have hc : decide (4 < (l.length : Int)) = true := by simpa using h4
      refine awp_seq (awp_pures [2, 7, 26] (by simp only [go_sem, ↓reduceIte, Nat.reduceLT, Nat.reduceEqDiff, Nat.reduceLeDiff, Nat.reduceAdd, Nat.reduceMul, Int.reduceLT, Int.reduceLE, Int.reduceToNat, BitVec.reduceOfInt, Nat.reduceBEq, hc, gt_iff_lt]; try rfl) ?_)
      refine awp_if rfl (fun _ => ?_) (fun h => by cases h)
      refine awp_seq (awp_pures [6] (by simp only [go_sem, ↓reduceIte, Nat.reduceLT, Nat.reduceEqDiff, Nat.reduceLeDiff, Nat.reduceAdd, Nat.reduceMul, Int.reduceLT, Int.reduceLE, Int.reduceToNat, BitVec.reduceOfInt, Nat.reduceBEq]; try rfl) ?_)
      refine awp_ret ⟨_, rfl, ?_, hle⟩
      simp [leafE, h0, h4]
    · have hc : decide (4 < (l.length : Int)) = false := by simpa using h4
      have hlen : l.length ≤ 1000000 := by omega
      have hE : leafE (f + g.as.length) node l = lfGo (f + g.as.length) 0 l := by simp [leafE, h0, h4]
      refine awp_seq (awp_pures [2, 7, 26] (by simp only [go_sem, ↓reduceIte, Nat.reduceLT, Nat.reduceEqDiff, Nat.reduceLeDiff, Nat.reduceAdd, Nat.reduceMul, Int.reduceLT, Int.reduceLE, Int.reduceToNat, BitVec.reduceOfInt, Nat.reduceBEq, hc, gt_iff_lt]; try rfl) ?_)
      refine awp_if rfl (fun h => by cases h) (fun _ => ?_)
      refine awp_skip ?_
      refine awp_seq (awp_pures [2, 7, 8] (by simp only [go_sem, ↓reduceIte, Nat.reduceLT, Nat.reduceEqDiff, Nat.reduceLeDiff, Nat.reduceAdd, Nat.reduceMul, Int.reduceLT, Int.reduceLE, Int.reduceToNat, BitVec.reduceOfInt, Nat.reduceBEq]; try rfl) ?_)
      refine awp_seq ?_
      refine awp_seq (awp_pures [7, 8, 30, 31, 32] (by simp only [go_sem, ↓reduceIte, Nat.reduceLT, Nat.reduceEqDiff, Nat.reduceLeDiff, Nat.reduceAdd, Nat.reduceMul, Int.reduceLT, Int.reduceLE, Int.reduceToNat, BitVec.reduceOfInt, Nat.reduceBEq]; try rfl) ?_)
      refine awp_block (awp_loop ?_)
      refine ALoop.cast3 (aloop_ind (α := Nat × Int) (fun a => a.1 ≤ l.length ∧ lfGo (f + g.as.length) 0 l = lfGo (f + g.as.length) a.2 (l.drop a.1)) (fun a => l.length - a.1)
        (fun a => [(7, .int .i64 (f + g.as.length)), (8, .int .i64 a.2), (30, .slice sb l.length sc), (31, .int .i64 l.length), (32, .int .i64 a.1)]) (fun _ => N + 1) (fun _ => σ.set N ⟨spread (graphV lb lc ab ac ob oc g f), true, 1⟩) ?_ (0, 0) ⟨Nat.zero_le _, rfl⟩) rfl rfl rfl
      rintro ⟨j, last⟩ ⟨hj, hpre⟩ ih
      dsimp only at hj hpre ih ⊢
      by_cases hlt : j < l.length
      · have hbb : decide ((j : Int) < (l.length : Int)) = true := by simpa using hlt
        refine awp_seq (awp_pures [7, 8, 30, 31, 32, 33] (by simp only [go_sem, ↓reduceIte, Nat.reduceLT, Nat.reduceEqDiff, Nat.reduceLeDiff, Nat.reduceAdd, Nat.reduceMul, Int.reduceLT, Int.reduceLE, Int.reduceToNat, BitVec.reduceOfInt, Nat.reduceBEq, hbb]; try rfl) ?_)
        refine awp_seq ?_
        refine awp_if rfl (fun _ => ?_) (fun h => by cases h)
        refine awp_skip ?_
        refine awp_seq (awp_block ?_)
        have hjj : 0 ≤ (j : Int) ∧ (j : Int) < (l.length : Int) := by omega
        obtain ⟨id, off, cap, b, e1, e2, e3, e4⟩ := slAt_int (hv.mono hle) hlt
        cases e1
        first | refine awp_seq (awp_lit ?_) | refine awp_lit ?_ | refine awp_seq (awp_seq (awp_lit ?_))
        refine al_pureN 1 (by simp only [go_sem, ↓reduceIte, Nat.reduceLT, Nat.reduceEqDiff, Nat.reduceLeDiff, Nat.reduceAdd, Nat.reduceMul, Int.reduceLT, Int.reduceLE, Int.reduceToNat, BitVec.reduceOfInt, Nat.reduceBEq, hjj]; try rfl) ?_
        refine al_load rfl (by simp only [go_sem, ↓reduceIte, Nat.reduceLT, Nat.reduceEqDiff, Nat.reduceLeDiff, Nat.reduceAdd, Nat.reduceMul, Int.reduceLT, Int.reduceLE, Int.reduceToNat, BitVec.reduceOfInt, Nat.reduceBEq, hjj]) rfl (by simp only [go_sem, ↓reduceIte, Nat.reduceLT, Nat.reduceEqDiff, Nat.reduceLeDiff, Nat.reduceAdd, Nat.reduceMul, Int.reduceLT, Int.reduceLE, Int.reduceToNat, BitVec.reduceOfInt, Nat.reduceBEq, hjj]; try rfl) e2 (loadA_scalar agg3 e3) ?_
        refine al_pureN 1 (by simp only [go_sem, ↓reduceIte, Nat.reduceLT, Nat.reduceEqDiff, Nat.reduceLeDiff, Nat.reduceAdd, Nat.reduceMul, Int.reduceLT, Int.reduceLE, Int.reduceToNat, BitVec.reduceOfInt, Nat.reduceBEq, hjj]; try rfl) ?_
        refine al_end [7, 8, 10, 30, 31, 32] ?_
        have hstep : lfGo (f + g.as.length) last (l.drop j) = if l[j] ≤ last ∨ f + g.as.length ≤ l[j] then 1 else lfGo (f + g.as.length) l[j] (l.drop (j + 1)) := by
          rw [List.drop_eq_getElem_cons hlt, lfGo]
        by_cases hA : l[j] ≤ last ∨ f + g.as.length ≤ l[j]
        · have hE2 : lfGo (f + g.as.length) 0 l = 1 := by rw [hpre, hstep, if_pos hA]
          by_cases hA0 : l[j] ≤ last
          · have hb3 : decide (l[j] ≤ last) = true := by simpa using hA0
            refine awp_seq ?_
            refine awp_seq (awp_pures [7, 10, 30, 31, 32, 43] (by simp only [go_sem, ↓reduceIte, Nat.reduceLT, Nat.reduceEqDiff, Nat.reduceLeDiff, Nat.reduceAdd, Nat.reduceMul, Int.reduceLT, Int.reduceLE, Int.reduceToNat, BitVec.reduceOfInt, Nat.reduceBEq, hb3]; try rfl) ?_)
            refine awp_if rfl (fun _ => ?_) (fun h => by cases h)
            refine awp_seq (awp_pures [6] (by simp only [go_sem, ↓reduceIte, Nat.reduceLT, Nat.reduceEqDiff, Nat.reduceLeDiff, Nat.reduceAdd, Nat.reduceMul, Int.reduceLT, Int.reduceLE, Int.reduceToNat, BitVec.reduceOfInt, Nat.reduceBEq]; try rfl) ?_)
            refine awp_ret ⟨_, rfl, ?_, hle⟩
            rw [hE, hE2]; rfl
          · have hb3 : decide (l[j] ≤ last) = false := by simpa using hA0
            have hb4 : decide (f + (g.as.length : Int) ≤ l[j]) = true := by simp; omega
            refine awp_seq ?_
            refine awp_seq (awp_pures [7, 10, 30, 31, 32, 43] (by simp only [go_sem, ↓reduceIte, Nat.reduceLT, Nat.reduceEqDiff, Nat.reduceLeDiff, Nat.reduceAdd, Nat.reduceMul, Int.reduceLT, Int.reduceLE, Int.reduceToNat, BitVec.reduceOfInt, Nat.reduceBEq, hb3, hb4, ge_iff_le]; try rfl) ?_)
            refine awp_if rfl (fun _ => ?_) (fun h => by cases h)
            refine awp_seq (awp_pures [6] (by simp only [go_sem, ↓reduceIte, Nat.reduceLT, Nat.reduceEqDiff, Nat.reduceLeDiff, Nat.reduceAdd, Nat.reduceMul, Int.reduceLT, Int.reduceLE, Int.reduceToNat, BitVec.reduceOfInt, Nat.reduceBEq]; try rfl) ?_)
            refine awp_ret ⟨_, rfl, ?_, hle⟩
            rw [hE, hE2]; rfl
        · have hb3 : decide (l[j] ≤ last) = false := by simp; omega
          have hb4 : decide (f + (g.as.length : Int) ≤ l[j]) = false := by simp; omega
          refine awp_seq ?_
          refine awp_seq (awp_pures [7, 10, 30, 31, 32, 43] (by simp only [go_sem, ↓reduceIte, Nat.reduceLT, Nat.reduceEqDiff, Nat.reduceLeDiff, Nat.reduceAdd, Nat.reduceMul, Int.reduceLT, Int.reduceLE, Int.reduceToNat, BitVec.reduceOfInt, Nat.reduceBEq, hb3, hb4, ge_iff_le]; try rfl) ?_)
          refine awp_if rfl (fun h => by cases h) (fun _ => ?_)
          refine awp_skip ?_
          refine awp_pures [7, 8, 30, 31, 32] (by simp only [go_sem, ↓reduceIte, Nat.reduceLT, Nat.reduceEqDiff, Nat.reduceLeDiff, Nat.reduceAdd, Nat.reduceMul, Int.reduceLT, Int.reduceLE, Int.reduceToNat, BitVec.reduceOfInt, Nat.reduceBEq]; try rfl) ?_
          have hadd1 : -9223372036854775808 ≤ (j : Int) + 1 ∧ (j : Int) + 1 ≤ 9223372036854775807 := by omega
          refine awp_pures [7, 8, 30, 31, 32] (by simp only [go_sem, ↓reduceIte, Nat.reduceLT, Nat.reduceEqDiff, Nat.reduceLeDiff, Nat.reduceAdd, Nat.reduceMul, Int.reduceLT, Int.reduceLE, Int.reduceToNat, BitVec.reduceOfInt, Nat.reduceBEq, i64_add hadd1]; try rfl) ?_
          refine ALoop.cast3 (ih (j + 1, l[j]) ⟨hlt, by rw [hpre, hstep, if_neg hA]⟩ (by dsimp only; omega)) rfl rfl rfl
      · have hbb : decide ((j : Int) < (l.length : Int)) = false := by simpa using hlt
        have hjm : j = l.length := by omega
        refine awp_seq (awp_pures [7, 8, 30, 31, 32, 33] (by simp only [go_sem, ↓reduceIte, Nat.reduceLT, Nat.reduceEqDiff, Nat.reduceLeDiff, Nat.reduceAdd, Nat.reduceMul, Int.reduceLT, Int.reduceLE, Int.reduceToNat, BitVec.reduceOfInt, Nat.reduceBEq, hbb]; try rfl) ?_)
        refine awp_seq ?_
        refine awp_if rfl (fun h => by cases h) (fun _ => ?_)
        refine awp_exit ?_
        simp only [Go.Abs.Seq, Go.Abs.Round, Go.Abs.InBlock, ↓reduceIte]
        refine awp_seq (awp_pures [6] (by simp only [go_sem, ↓reduceIte, Nat.reduceLT, Nat.reduceEqDiff, Nat.reduceLeDiff, Nat.reduceAdd, Nat.reduceMul, Int.reduceLT, Int.reduceLE, Int.reduceToNat, BitVec.reduceOfInt, Nat.reduceBEq]; try rfl) ?_)
        refine awp_ret ⟨_, rfl, ?_, hle⟩
        rw [hE, hpre, hjm]; simp [lfGo]
end Go.Proofs.Ytfialjllclclkaa
