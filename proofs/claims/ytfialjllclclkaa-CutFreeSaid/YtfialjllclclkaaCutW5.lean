/- The walk of Reverse. -/
import Derived.Test.YtfialjllclclkaaCutW4
set_option linter.unusedSimpArgs false
set_option linter.unusedVariables false
namespace Go.Proofs.Ytfialjllclclkaa
open Go.Abs Go.Cut
attribute [local go_sem] Try.underlying26 Try.underlying66 Try.underlying69 Try.underlying3 Try.underlying22 Try.underlying23 Try.underlying24 Try.underlying35 Try.underlying43 Try.underlying45 Try.underlying47 Try.underlying5 Try.underlying4 Try.underlying30 Try.underlying56 size26 size66 size69 size3 size22 size23 size24 size35 size43 size45 size47 size5 size4 size30 Nat.mul_one
/-- The first i and the last i exchanged. -/
def revI (l : List Int) (i : Nat) : List Int := (List.range l.length).map fun k => if k < i ∨ l.length - i ≤ k then l.getD (l.length - 1 - k) 0 else l.getD k 0
theorem revI_len (l : List Int) (i : Nat) : (revI l i).length = l.length := by simp [revI]
theorem revI_get (l : List Int) (i k : Nat) (hk : k < l.length) : (revI l i)[k]? = some (if k < i ∨ l.length - i ≤ k then l.getD (l.length - 1 - k) 0 else l.getD k 0) := by
  simp [revI, hk]
theorem revI_zero (l : List Int) : revI l 0 = l := by
  apply List.ext_getElem?
  intro k
  by_cases hk : k < l.length
  · rw [revI_get l 0 k hk, if_neg (by omega)]; simp [hk]
  · rw [List.getElem?_eq_none (by rw [revI_len]; omega), List.getElem?_eq_none (by omega)]
theorem revI_end (l : List Int) (i : Nat) (h : l.length - 1 - i ≤ i) : revI l i = l.reverse := by
  apply List.ext_getElem?
  intro k
  by_cases hk : k < l.length
  · rw [revI_get l i k hk, List.getElem?_reverse hk]
    by_cases hc : k < i ∨ l.length - i ≤ k
    · rw [if_pos hc]; simp [show l.length - 1 - k < l.length by omega]
    · rw [if_neg hc]
      have : l.length - 1 - k = k := by omega
      rw [this]; simp [hk]
  · rw [List.getElem?_eq_none (by rw [revI_len]; omega), List.getElem?_eq_none (by simp; omega)]
theorem revI_step (l : List Int) (i : Nat) (h : i < l.length - 1 - i) : ((revI l i).set i (l.getD (l.length - 1 - i) 0)).set (l.length - 1 - i) (l.getD i 0) = revI l (i + 1) := by
  apply List.ext_getElem?
  intro k
  by_cases hk : k < l.length
  · rw [revI_get l (i + 1) k hk]
    simp only [List.getElem?_set, List.length_set, revI_len]
    by_cases e1 : l.length - 1 - i = k
    · subst e1
      rw [if_pos rfl, if_pos (by omega), if_pos (by omega)]
      congr 2; omega
    · rw [if_neg e1]
      by_cases e2 : i = k
      · subst e2
        rw [if_pos rfl, if_pos (by omega), if_pos (by omega)]
      · rw [if_neg e2, revI_get l i k hk]
        by_cases hc : k < i ∨ l.length - i ≤ k
        · rw [if_pos hc, if_pos (by omega)]
        · rw [if_neg hc, if_neg (by omega)]
  · rw [List.getElem?_eq_none (by simp [revI_len]; omega), List.getElem?_eq_none (by rw [revI_len]; omega)]
theorem ints_flat (l : List Int) : (ints l).all flat = true := by simp [ints, flat, flat0]
theorem splice_ints {l : List Int} {i : Nat} {x : Int} (h : i < l.length) : splice (ints l) i [.int .i64 x] = ints (l.set i x) := by
  rw [splice_one (by simpa [ints] using h)]
  simp [ints, List.map_set]
theorem set_same {σ : AHeap} {i : Nat} {b : Blk} (h : σ i = some b) : σ.set i b = σ := by
  funext j
  unfold AHeap.set
  split
  · rename_i e; rw [e, h]
  · rfl
theorem Reverse_ok {l : List Int} {v : Value} {lo N : Nat} {σ : AHeap} (hv : OwnAt σ lo v (ints l) l.length 1) (hlen : l.length ≤ 1000000) :
    AOk Try.prog 48 [v] N σ fun r N1 σ1 => r = .tuple #[] ∧ N1 = N ∧ OwnAt σ1 lo v (ints l.reverse) l.length 1 ∧ ∀ τ : AHeap, τ.le σ → (∀ i b, τ i = some b → i < lo) → τ.le σ1 := by
  refine aok_fresh fun hN => aok_body (r := false) (n := 28) Try.func48 rfl rfl (by simp) ?_
  have hol : ∀ l : List Int, (ints l).length = l.length := fun l => by simp [ints]
  rcases hv with ⟨rfl, h2, h3⟩ | ⟨id, cap, h1, rfl, h3, h4, h5⟩
  · have hl0 : l = [] := List.eq_nil_of_length_eq_zero h2
    subst hl0
    have hz : intA .sub .i64 ((0 : Nat) : Int) 1 = some (.int .i64 (-1)) := rfl
    refine awp_seq (awp_pures [0, 2, 3] (by simp only [go_sem, ↓reduceIte, Nat.reduceLT, Nat.reduceEqDiff, Nat.reduceLeDiff, Nat.reduceAdd, Nat.reduceMul, Int.reduceLT, Int.reduceLE, Int.reduceToNat, BitVec.reduceOfInt, Nat.reduceBEq, hz]; try rfl) ?_)
    refine awp_block (awp_loop ?_)
    refine aloop_round ?_
    refine awp_seq ?_
    refine awp_seq (awp_pures [0, 2, 3, 9] (by simp only [go_sem, ↓reduceIte, Nat.reduceLT, Nat.reduceEqDiff, Nat.reduceLeDiff, Nat.reduceAdd, Nat.reduceMul, Int.reduceLT, Int.reduceLE, Int.reduceToNat, BitVec.reduceOfInt, Nat.reduceBEq]; try rfl) ?_)
    refine awp_if rfl (fun h => by cases h) (fun _ => ?_)
    refine awp_exit ?_
    simp only [Go.Abs.Seq, Go.Abs.Round, Go.Abs.InBlock, ↓reduceIte]
    exact ⟨_, rfl, rfl, rfl, .inl ⟨rfl, rfl, rfl⟩, fun τ h _ => h⟩
  · have hs0 : -9223372036854775808 ≤ (l.length : Int) - 1 ∧ (l.length : Int) - 1 ≤ 9223372036854775807 := by omega
    refine awp_seq (awp_pures [0, 2, 3] (by simp only [go_sem, ↓reduceIte, Nat.reduceLT, Nat.reduceEqDiff, Nat.reduceLeDiff, Nat.reduceAdd, Nat.reduceMul, Int.reduceLT, Int.reduceLE, Int.reduceToNat, BitVec.reduceOfInt, Nat.reduceBEq, i64_sub hs0]; try rfl) ?_)
    refine awp_block (awp_loop ?_)
    refine ALoop.cast3 (aloop_ind (α := Nat) (fun a => a ≤ l.length) (fun a => l.length - a)
      (fun a => [(0, .slice (some ⟨id, 0, none⟩) l.length cap), (2, .int .i64 a), (3, .int .i64 (l.length - 1 - a))]) (fun _ => N) (fun a => σ.set id ⟨ints (revI l a), true, 1⟩) ?_ 0 (Nat.zero_le _)) (by simp [Env.keep, Env.get]) rfl ?_
    · intro i hi ih
      by_cases hlt : (i : Int) < l.length - 1 - i
      · have hb : decide ((i : Int) < (l.length : Int) - 1 - (i : Int)) = true := by simpa using hlt
        refine awp_seq ?_
        refine awp_seq (awp_pures [0, 2, 3, 9] (by simp only [go_sem, ↓reduceIte, Nat.reduceLT, Nat.reduceEqDiff, Nat.reduceLeDiff, Nat.reduceAdd, Nat.reduceMul, Int.reduceLT, Int.reduceLE, Int.reduceToNat, BitVec.reduceOfInt, Nat.reduceBEq, hb]; try rfl) ?_)
        refine awp_if rfl (fun _ => ?_) (fun h => by cases h)
        refine awp_skip ?_
        refine awp_seq (awp_block ?_)
        have hi1 : 0 ≤ (i : Int) ∧ (i : Int) < (l.length : Int) := by omega
        obtain ⟨j, hj⟩ : ∃ j : Nat, j = l.length - 1 - i := ⟨_, rfl⟩
        have hjc : (l.length : Int) - 1 - (i : Int) = (j : Int) := by omega
        have hj1 : 0 ≤ (j : Int) ∧ (j : Int) < (l.length : Int) := by omega
        rw [hjc]
        have g1 : (ints (revI l i))[j]? = some (.int .i64 (l.getD j 0)) := by
          simp only [ints, List.getElem?_map, revI_get l i j (by omega)]
          rw [if_neg (by omega)]; rfl
        have g2 : (ints (revI l i))[i]? = some (.int .i64 (l.getD i 0)) := by
          simp only [ints, List.getElem?_map, revI_get l i i (by omega)]
          rw [if_neg (by omega)]; rfl
        have hsp : splice (ints (revI l i)) i (spread (.int .i64 (l.getD j 0))) = ints ((revI l i).set i (l.getD j 0)) := by
          exact splice_ints (by rw [revI_len]; omega)
        refine awp_wr [0, 2, 3] (id) [13, 15] (by kernel_rfl) fun hNq => ?_
        refine tw_pures 6 (by simp only [go_sem, ↓reduceIte, Nat.reduceLT, Nat.reduceEqDiff, Nat.reduceLeDiff, Nat.reduceAdd, Nat.reduceMul, Int.reduceLT, Int.reduceLE, Int.reduceToNat, BitVec.reduceOfInt, Nat.reduceBEq, hi1, hj1]; try rfl) ?_
        refine tw_pures 1 (by simp only [go_sem, ↓reduceIte, Nat.reduceLT, Nat.reduceEqDiff, Nat.reduceLeDiff, Nat.reduceAdd, Nat.reduceMul, Int.reduceLT, Int.reduceLE, Int.reduceToNat, BitVec.reduceOfInt, Nat.reduceBEq, hi1, hj1]; try rfl) ?_
        refine tw_loadw hNq rfl (by simp only [go_sem, ↓reduceIte, Nat.reduceLT, Nat.reduceEqDiff, Nat.reduceLeDiff, Nat.reduceAdd, Nat.reduceMul, Int.reduceLT, Int.reduceLE, Int.reduceToNat, BitVec.reduceOfInt, Nat.reduceBEq, hi1, hj1]; try rfl) rfl (by simp only [go_sem, ↓reduceIte, Nat.reduceLT, Nat.reduceEqDiff, Nat.reduceLeDiff, Nat.reduceAdd, Nat.reduceMul, Int.reduceLT, Int.reduceLE, Int.reduceToNat, BitVec.reduceOfInt, Nat.reduceBEq, hi1, hj1]; try rfl) (AHeap.set_self _ _ _) ⟨_, rfl⟩ (by kernel_rfl) (loadA_scalar agg3 g1) ?_
        refine tw_pures 3 (by simp only [go_sem, ↓reduceIte, Nat.reduceLT, Nat.reduceEqDiff, Nat.reduceLeDiff, Nat.reduceAdd, Nat.reduceMul, Int.reduceLT, Int.reduceLE, Int.reduceToNat, BitVec.reduceOfInt, Nat.reduceBEq, hi1, hj1]; try rfl) ?_
        refine tw_loadw hNq rfl (by simp only [go_sem, ↓reduceIte, Nat.reduceLT, Nat.reduceEqDiff, Nat.reduceLeDiff, Nat.reduceAdd, Nat.reduceMul, Int.reduceLT, Int.reduceLE, Int.reduceToNat, BitVec.reduceOfInt, Nat.reduceBEq, hi1, hj1]; try rfl) rfl (by simp only [go_sem, ↓reduceIte, Nat.reduceLT, Nat.reduceEqDiff, Nat.reduceLeDiff, Nat.reduceAdd, Nat.reduceMul, Int.reduceLT, Int.reduceLE, Int.reduceToNat, BitVec.reduceOfInt, Nat.reduceBEq, hi1, hj1]; try rfl) (AHeap.set_self _ _ _) ⟨_, rfl⟩ (by kernel_rfl) (loadA_scalar agg3 g2) ?_
        refine tw_pures 1 (by simp only [go_sem, ↓reduceIte, Nat.reduceLT, Nat.reduceEqDiff, Nat.reduceLeDiff, Nat.reduceAdd, Nat.reduceMul, Int.reduceLT, Int.reduceLE, Int.reduceToNat, BitVec.reduceOfInt, Nat.reduceBEq, hi1, hj1]; try rfl) ?_
        refine tw_store hNq rfl (by simp only [go_sem, ↓reduceIte, Nat.reduceLT, Nat.reduceEqDiff, Nat.reduceLeDiff, Nat.reduceAdd, Nat.reduceMul, Int.reduceLT, Int.reduceLE, Int.reduceToNat, BitVec.reduceOfInt, Nat.reduceBEq]; try rfl) rfl (by simp only [go_sem, ↓reduceIte, Nat.reduceLT, Nat.reduceEqDiff, Nat.reduceLeDiff, Nat.reduceAdd, Nat.reduceMul, Int.reduceLT, Int.reduceLE, Int.reduceToNat, BitVec.reduceOfInt, Nat.reduceBEq]; try rfl) (by simp only [go_sem, ↓reduceIte, Nat.reduceLT, Nat.reduceEqDiff, Nat.reduceLeDiff, Nat.reduceAdd, Nat.reduceMul, Int.reduceLT, Int.reduceLE, Int.reduceToNat, BitVec.reduceOfInt, Nat.reduceBEq]; try rfl) (AHeap.set_self _ _ _) ⟨_, rfl⟩ rfl (by exact size3.trans rfl) rfl (by show i + 1 ≤ (ints (revI l i)).length; rw [hol, revI_len]; omega) (by decide) (.of_flat rfl) (blk_flat (ints_flat _)) fun hNq => ?_
        refine tw_pures 1 (by simp only [go_sem, ↓reduceIte, Nat.reduceLT, Nat.reduceEqDiff, Nat.reduceLeDiff, Nat.reduceAdd, Nat.reduceMul, Int.reduceLT, Int.reduceLE, Int.reduceToNat, BitVec.reduceOfInt, Nat.reduceBEq, hi1, hj1]; try rfl) ?_
        refine tw_store hNq rfl (by simp only [go_sem, ↓reduceIte, Nat.reduceLT, Nat.reduceEqDiff, Nat.reduceLeDiff, Nat.reduceAdd, Nat.reduceMul, Int.reduceLT, Int.reduceLE, Int.reduceToNat, BitVec.reduceOfInt, Nat.reduceBEq]; try rfl) rfl (by simp only [go_sem, ↓reduceIte, Nat.reduceLT, Nat.reduceEqDiff, Nat.reduceLeDiff, Nat.reduceAdd, Nat.reduceMul, Int.reduceLT, Int.reduceLE, Int.reduceToNat, BitVec.reduceOfInt, Nat.reduceBEq]; try rfl) (by simp only [go_sem, ↓reduceIte, Nat.reduceLT, Nat.reduceEqDiff, Nat.reduceLeDiff, Nat.reduceAdd, Nat.reduceMul, Int.reduceLT, Int.reduceLE, Int.reduceToNat, BitVec.reduceOfInt, Nat.reduceBEq]; try rfl) (AHeap.set_self _ _ _) ⟨_, rfl⟩ rfl (by exact size3.trans rfl) rfl (by show j + 1 ≤ (splice (ints (revI l i)) i (spread (.int .i64 (l.getD j 0)))).length; rw [hsp, hol, List.length_set, revI_len]; omega) (by decide) (.of_flat rfl) (by show BlkBdd _ ⟨splice (ints (revI l i)) i (spread (.int .i64 (l.getD j 0))), true, .n 1⟩; rw [hsp]; exact blk_flat (ints_flat _)) fun hNq => ?_
        refine tw_end ?_
        have hsp2 : splice (splice (ints (revI l i)) i (spread (.int .i64 (l.getD j 0)))) j (spread (.int .i64 (l.getD i 0))) = ints (revI l (i + 1)) := by
          rw [hsp]
          show splice _ _ [_] = _
          rw [splice_ints (by rw [List.length_set, revI_len]; omega), ← revI_step l i (by omega), hj]
        have hadd1 : -9223372036854775808 ≤ (i : Int) + 1 ∧ (i : Int) + 1 ≤ 9223372036854775807 := by omega
        have hsub1 : -9223372036854775808 ≤ (j : Int) - 1 ∧ (j : Int) - 1 ≤ 9223372036854775807 := by omega
        refine awp_pures [0, 2, 3] (by simp only [go_sem, ↓reduceIte, Nat.reduceLT, Nat.reduceEqDiff, Nat.reduceLeDiff, Nat.reduceAdd, Nat.reduceMul, Int.reduceLT, Int.reduceLE, Int.reduceToNat, BitVec.reduceOfInt, Nat.reduceBEq, i64_add hadd1, i64_sub hsub1]; try rfl) ?_
        refine ALoop.cast3 (ih (i + 1) (by omega) (by omega)) ?_ rfl ?_
        · have he : (j : Int) - 1 = (l.length : Int) - 1 - ((i + 1 : Nat) : Int) := by omega
          rw [he]; rfl
        · rw [AHeap.set_set, AHeap.set_set]
          exact congrArg (fun c => σ.set id ⟨c, true, 1⟩) hsp2
      · have hb : decide ((i : Int) < (l.length : Int) - 1 - (i : Int)) = false := by simpa using hlt
        refine awp_seq ?_
        refine awp_seq (awp_pures [0, 2, 3, 9] (by simp only [go_sem, ↓reduceIte, Nat.reduceLT, Nat.reduceEqDiff, Nat.reduceLeDiff, Nat.reduceAdd, Nat.reduceMul, Int.reduceLT, Int.reduceLE, Int.reduceToNat, BitVec.reduceOfInt, Nat.reduceBEq, hb]; try rfl) ?_)
        refine awp_if rfl (fun h => by cases h) (fun _ => ?_)
        refine awp_exit ?_
        simp only [Go.Abs.Seq, Go.Abs.Round, Go.Abs.InBlock, ↓reduceIte]
        refine ⟨_, rfl, rfl, rfl, .inr ⟨id, cap, h1, rfl, h3, ?_, by rw [hol]; simp⟩, fun τ hτ hlt => ?_⟩
        · rw [AHeap.set_self, revI_end l i (by omega)]; rfl
        · exact AHeap.le_set hτ fun k b hb => by have := hlt k b hb; omega
    · rw [revI_zero]
      exact (set_same h4).symm
end Go.Proofs.Ytfialjllclclkaa
