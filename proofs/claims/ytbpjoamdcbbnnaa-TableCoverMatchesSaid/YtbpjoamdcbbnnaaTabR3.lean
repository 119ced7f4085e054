/- The walks of the reference's Same and Support; the walk of the law TableMatches. -/
import Derived.Test.YtbpjoamdcbbnnaaTabR2
set_option linter.unusedSimpArgs false
set_option linter.unusedVariables false
namespace Go.Proofs.Ytbpjoamdcbbnnaa
open Go.Abs Go.Tab
attribute [local go_sem] eqA Try.underlying22 Try.underlying3 Try.underlying77 Try.underlying52 Try.underlying23 Try.underlying25 Try.underlying5 Try.underlying4 Try.underlying36 Try.underlying39 Try.underlying41 Try.underlying72 Try.underlying49 Try.underlying26 size22 size3 size23 size5 size4 size39 Nat.mul_one bne_self_eq_false

theorem take_succ_eq {l1 l2 : List Int} {i : Nat} (h1 : i < l1.length) (h2 : i < l2.length) (h : l1.take i = l2.take i) : l1.take (i + 1) = l2.take (i + 1) ↔ l1[i] = l2[i] := by
  rw [List.take_add_one (l := l1), List.take_add_one (l := l2), List.getElem?_eq_getElem h1, List.getElem?_eq_getElem h2, h, List.append_cancel_left_eq]
  simp only [Option.toList_some, List.cons.injEq, and_true]
theorem ints_len (l : List Int) : (ints l).length = l.length := by simp [ints]
theorem Same_gives (l1 l2 : List Int) (hl : l1.length ≤ 1000000) (v1 v2 : Value) (N : Nat) (σ : AHeap) (hs1 : SlAt σ v1 (ints l1)) (hs2 : SlAt σ v2 (ints l2)) :
    Gives Try.prog 33 [v1, v2] N σ (.bool (decide (l1 = l2))) := by
  obtain ⟨b1, c1, hv1⟩ := hs1.len
  obtain ⟨b2, c2, hv2⟩ := hs2.len
  refine gives_of rfl (aok_body (n := 26) Try.func33 rfl rfl (by simp) ?_)
  subst hv1 hv2
  rw [ints_len] at hs1 hs2 ⊢
  rw [ints_len]
  refine awp_seq (awp_pures [0, 1] (by simp only [go_sem, ↓reduceIte, Nat.reduceLT, Nat.reduceEqDiff, Nat.reduceLeDiff, Nat.reduceAdd, Nat.reduceMul, Int.reduceLT, Int.reduceLE, Int.reduceToNat, BitVec.reduceOfInt, Nat.reduceBEq]; try rfl) ?_)
  refine awp_seq ?_
  by_cases hlen : l1.length = l2.length
  · have c0 : ((l1.length : Int) != (l2.length : Int)) = false := by rw [hlen]; simp
    refine awp_seq (awp_pures [0, 1, 10] (by simp only [go_sem, ↓reduceIte, Nat.reduceLT, Nat.reduceEqDiff, Nat.reduceLeDiff, Nat.reduceAdd, Nat.reduceMul, Int.reduceLT, Int.reduceLE, Int.reduceToNat, BitVec.reduceOfInt, Nat.reduceBEq, c0]; try rfl) ?_)
    refine awp_if rfl (fun h => by cases h) (fun _ => ?_)
    refine awp_skip ?_
    refine awp_seq ?_
    refine awp_seq (awp_pures [0, 1, 5] (by simp only [go_sem, ↓reduceIte, Nat.reduceLT, Nat.reduceEqDiff, Nat.reduceLeDiff, Nat.reduceAdd, Nat.reduceMul, Int.reduceLT, Int.reduceLE, Int.reduceToNat, BitVec.reduceOfInt, Nat.reduceBEq]; try rfl) ?_)
    refine awp_block (awp_loop ?_)
    refine ALoop.cast (aloop_ind (α := Nat) (fun i => i ≤ l1.length ∧ l1.take i = l2.take i) (fun i => l1.length - i)
      (fun i => [(0, .slice b1 l1.length c1), (1, .slice b2 l2.length c2), (5, .int .i64 i)]) (fun _ => N) (fun _ => σ) ?_ 0 ⟨by simp, by simp⟩) rfl
    rintro i ⟨hi, hpre⟩ ih
    by_cases hlt : i < l1.length
    · have hb : decide ((i : Int) < (l1.length : Int)) = true := by simpa using hlt
      have hj1 : -9223372036854775808 ≤ (i : Int) + 1 ∧ (i : Int) + 1 ≤ 9223372036854775807 := by omega
      have hlt2 : i < l2.length := by omega
      refine awp_seq ?_
      refine awp_seq (awp_pures [0, 1, 5, 14] (by simp only [go_sem, ↓reduceIte, Nat.reduceLT, Nat.reduceEqDiff, Nat.reduceLeDiff, Nat.reduceAdd, Nat.reduceMul, Int.reduceLT, Int.reduceLE, Int.reduceToNat, BitVec.reduceOfInt, Nat.reduceBEq, hb]; try rfl) ?_)
      refine awp_if rfl (fun _ => ?_) (fun h => by cases h)
      refine awp_skip ?_
      obtain ⟨id, off, cap, b, e1, e2, e3⟩ := hs1.at (j := i) (by rw [ints_len]; exact hlt)
      obtain ⟨id', off', cap', b', e1', e2', e3'⟩ := hs2.at (j := i) (by rw [ints_len]; exact hlt2)
      rw [ints_len] at e1 e1'
      cases e1
      cases e1'
      have hii : 0 ≤ (i : Int) ∧ (i : Int) < (l1.length : Int) := by omega
      have hii2 : 0 ≤ (i : Int) ∧ (i : Int) < (l2.length : Int) := by omega
      have e3 : b.cells[off + i]? = some (.int .i64 l1[i]) := by rw [e3]; simp [ints]
      have e3' : b'.cells[off' + i]? = some (.int .i64 l2[i]) := by rw [e3']; simp [ints]
      have hstep := take_succ_eq hlt hlt2 hpre
      refine awp_seq (awp_block ?_)
      refine awp_seq (awp_quiet [0, 1, 5, 25] (by kernel_rfl) (by kernel_rfl) ?_)
      refine aq_pureN 3 (by simp only [go_sem, ↓reduceIte, Nat.reduceLT, Nat.reduceEqDiff, Nat.reduceLeDiff, Nat.reduceAdd, Nat.reduceMul, Int.reduceLT, Int.reduceLE, Int.reduceToNat, BitVec.reduceOfInt, Nat.reduceBEq, hii]; try rfl) ?_
      refine aq_load rfl (by simp only [go_sem, ↓reduceIte, Nat.reduceLT, Nat.reduceEqDiff, Nat.reduceLeDiff, Nat.reduceAdd, Nat.reduceMul, Int.reduceLT, Int.reduceLE, Int.reduceToNat, BitVec.reduceOfInt, Nat.reduceBEq]; try rfl) rfl (by simp only [go_sem, ↓reduceIte, Nat.reduceLT, Nat.reduceEqDiff, Nat.reduceLeDiff, Nat.reduceAdd, Nat.reduceMul, Int.reduceLT, Int.reduceLE, Int.reduceToNat, BitVec.reduceOfInt, Nat.reduceBEq]; try rfl) e2 (loadA_scalar agg3 e3) ?_
      refine aq_pureN 3 (by simp only [go_sem, ↓reduceIte, Nat.reduceLT, Nat.reduceEqDiff, Nat.reduceLeDiff, Nat.reduceAdd, Nat.reduceMul, Int.reduceLT, Int.reduceLE, Int.reduceToNat, BitVec.reduceOfInt, Nat.reduceBEq, hii2]; try rfl) ?_
      refine aq_load rfl (by simp only [go_sem, ↓reduceIte, Nat.reduceLT, Nat.reduceEqDiff, Nat.reduceLeDiff, Nat.reduceAdd, Nat.reduceMul, Int.reduceLT, Int.reduceLE, Int.reduceToNat, BitVec.reduceOfInt, Nat.reduceBEq]; try rfl) rfl (by simp only [go_sem, ↓reduceIte, Nat.reduceLT, Nat.reduceEqDiff, Nat.reduceLeDiff, Nat.reduceAdd, Nat.reduceMul, Int.reduceLT, Int.reduceLE, Int.reduceToNat, BitVec.reduceOfInt, Nat.reduceBEq]; try rfl) e2' (loadA_scalar agg3 e3') ?_
      refine aq_pureN 1 (by simp only [go_sem, ↓reduceIte, Nat.reduceLT, Nat.reduceEqDiff, Nat.reduceLeDiff, Nat.reduceAdd, Nat.reduceMul, Int.reduceLT, Int.reduceLE, Int.reduceToNat, BitVec.reduceOfInt, Nat.reduceBEq]; try rfl) ?_
      refine aq_nil ?_
      by_cases he : l1[i] = l2[i]
      · have hne : (l1[i] != l2[i]) = false := by rw [he]; simp
        rw [hne]
        refine awp_if rfl (fun h => by cases h) (fun _ => ?_)
        refine awp_skip ?_
        refine awp_pures [0, 1, 5] (by simp only [go_sem, ↓reduceIte, Nat.reduceLT, Nat.reduceEqDiff, Nat.reduceLeDiff, Nat.reduceAdd, Nat.reduceMul, Int.reduceLT, Int.reduceLE, Int.reduceToNat, BitVec.reduceOfInt, Nat.reduceBEq, i64_add hj1]; try rfl) ?_
        refine (ih (i + 1) ⟨hlt, hstep.2 he⟩ (by omega)).cast (by first | (simp only [go_sem, ↓reduceIte, Nat.reduceLT, Nat.reduceEqDiff, Nat.reduceLeDiff, Nat.reduceAdd, Nat.reduceMul, Int.reduceLT, Int.reduceLE, Int.reduceToNat, BitVec.reduceOfInt, Nat.reduceBEq]; try rfl) | rfl)
      · have hne : (l1[i] != l2[i]) = true := by simpa using he
        rw [hne]
        refine awp_if rfl (fun _ => ?_) (fun h => by cases h)
        refine awp_seq (awp_pures [4] (by simp only [go_sem, ↓reduceIte, Nat.reduceLT, Nat.reduceEqDiff, Nat.reduceLeDiff, Nat.reduceAdd, Nat.reduceMul, Int.reduceLT, Int.reduceLE, Int.reduceToNat, BitVec.reduceOfInt, Nat.reduceBEq]; try rfl) ?_)
        have hd : l1 ≠ l2 := fun e => he (by subst e; rfl)
        exact awp_ret ⟨_, rfl, by rw [decide_eq_false hd]; rfl, AHeap.le_refl _⟩
    · have hb : decide ((i : Int) < (l1.length : Int)) = false := by simpa using hlt
      have hil : i = l1.length := by omega
      subst hil
      refine awp_seq ?_
      refine awp_seq (awp_pures [0, 1, 5, 14] (by simp only [go_sem, ↓reduceIte, Nat.reduceLT, Nat.reduceEqDiff, Nat.reduceLeDiff, Nat.reduceAdd, Nat.reduceMul, Int.reduceLT, Int.reduceLE, Int.reduceToNat, BitVec.reduceOfInt, Nat.reduceBEq, hb]; try rfl) ?_)
      refine awp_if rfl (fun h => by cases h) (fun _ => ?_)
      refine awp_exit ?_
      simp only [Go.Abs.Seq, Go.Abs.Round, Go.Abs.InBlock, ↓reduceIte]
      refine awp_seq (awp_pures [4] (by simp only [go_sem, ↓reduceIte, Nat.reduceLT, Nat.reduceEqDiff, Nat.reduceLeDiff, Nat.reduceAdd, Nat.reduceMul, Int.reduceLT, Int.reduceLE, Int.reduceToNat, BitVec.reduceOfInt, Nat.reduceBEq]; try rfl) ?_)
      have he : l1 = l2 := by rw [hlen, List.take_length, ← hlen, List.take_length] at hpre; exact hpre
      exact awp_ret ⟨_, rfl, by rw [decide_eq_true he]; rfl, AHeap.le_refl _⟩
  · have c0 : ((l1.length : Int) != (l2.length : Int)) = true := by simpa using (by omega : ¬ ((l1.length : Int) = (l2.length : Int)))
    refine awp_seq (awp_pures [0, 1, 10] (by simp only [go_sem, ↓reduceIte, Nat.reduceLT, Nat.reduceEqDiff, Nat.reduceLeDiff, Nat.reduceAdd, Nat.reduceMul, Int.reduceLT, Int.reduceLE, Int.reduceToNat, BitVec.reduceOfInt, Nat.reduceBEq, c0]; try rfl) ?_)
    refine awp_if rfl (fun _ => ?_) (fun h => by cases h)
    refine awp_seq (awp_pures [4] (by simp only [go_sem, ↓reduceIte, Nat.reduceLT, Nat.reduceEqDiff, Nat.reduceLeDiff, Nat.reduceAdd, Nat.reduceMul, Int.reduceLT, Int.reduceLE, Int.reduceToNat, BitVec.reduceOfInt, Nat.reduceBEq]; try rfl) ?_)
    have hd : l1 ≠ l2 := fun e => hlen (by rw [e])
    exact awp_ret ⟨_, rfl, by rw [decide_eq_false hd]; rfl, AHeap.le_refl _⟩

theorem supGo_len (t : BitVec 64) (n : Int) : ∀ d i, (supGo t n d i).length ≤ d
  | 0, _ => by simp [supGo]
  | d + 1, i => by
    have := supGo_len t n d (i + 1)
    simp only [supGo, List.length_append]
    split <;> simp <;> omega
theorem sup_len (t : BitVec 64) (n : Int) : (supportR t n).length ≤ 6 := Nat.le_trans (supGo_len t n _ _) (lim_le n)

theorem rSupport_ok (t : BitVec 64) (m : Int) (N : Nat) (σ : AHeap) :
    AOk Try.prog 43 [.int .u64 t.toNat, .int .i64 m] N σ fun v N1 σ1 => OwnAt σ1 N v (ints (supportR t m)) (supportR t m).length 1 ∧ σ.le σ1 := by
  refine aok_fresh fun hN => aok_body (n := 27) Try.func43 rfl rfl (by simp) ?_
  have hl6 := lim_le m
  refine awp_seq (awp_pures [0, 1] (by simp only [go_sem, ↓reduceIte, Nat.reduceLT, Nat.reduceEqDiff, Nat.reduceLeDiff, Nat.reduceAdd, Nat.reduceMul, Int.reduceLT, Int.reduceLE, Int.reduceToNat, BitVec.reduceOfInt, Nat.reduceBEq]; try rfl) ?_)
  refine awp_seq (awp_pures [0, 1, 5] (by simp only [go_sem, ↓reduceIte, Nat.reduceLT, Nat.reduceEqDiff, Nat.reduceLeDiff, Nat.reduceAdd, Nat.reduceMul, Int.reduceLT, Int.reduceLE, Int.reduceToNat, BitVec.reduceOfInt, Nat.reduceBEq]; try rfl) ?_)
  refine awp_seq ?_
  refine awp_seq (awp_pures [0, 1, 5, 6] (by simp only [go_sem, ↓reduceIte, Nat.reduceLT, Nat.reduceEqDiff, Nat.reduceLeDiff, Nat.reduceAdd, Nat.reduceMul, Int.reduceLT, Int.reduceLE, Int.reduceToNat, BitVec.reduceOfInt, Nat.reduceBEq]; try rfl) ?_)
  refine awp_block (awp_loop ?_)
  refine ALoop.cast3 (aloop_ind (α := Nat × List Int × Value × Nat × AHeap)
    (fun x => x.1 ≤ lim m ∧ supportR t m = x.2.1 ++ supGo t m (lim m - x.1) x.1 ∧ x.2.1.length ≤ x.1 ∧ N ≤ x.2.2.2.1 ∧ OwnAt x.2.2.2.2 N x.2.2.1 (ints x.2.1) x.2.1.length 1 ∧ σ.le x.2.2.2.2) (fun x => lim m - x.1)
    (fun x => [(0, .int .u64 t.toNat), (1, .int .i64 m), (5, x.2.2.1), (6, .int .i64 x.1)]) (fun x => x.2.2.2.1) (fun x => x.2.2.2.2) ?_
    (0, [], .slice none 0 0, N, σ) ⟨by simp, by simp [supportR], by simp, by simp, OwnAt.nil, AHeap.le_refl _⟩) rfl rfl rfl
  rintro ⟨j, l, sv, Nj, σj⟩ ⟨hj, hgo, hlj, hNj, hown, hle⟩ ih
  simp only at hj hgo hlj hNj hown hle ⊢
  by_cases hlt : j < lim m
  · have hb : decide ((j : Int) < (lim m : Int)) = true := by simpa using hlt
    have hj1 : -9223372036854775808 ≤ (j : Int) + 1 ∧ (j : Int) + 1 ≤ 9223372036854775807 := by omega
    rw [show lim m - j = (lim m - (j + 1)) + 1 from by omega, supGo] at hgo
    refine awp_seq ?_
    first | refine awp_seq (awp_lit ?_) | refine awp_lit ?_ | refine awp_seq (awp_seq (awp_lit ?_))
    refine al_pureN 2 (by simp only [go_sem, ↓reduceIte, Nat.reduceLT, Nat.reduceEqDiff, Nat.reduceLeDiff, Nat.reduceAdd, Nat.reduceMul, Int.reduceLT, Int.reduceLE, Int.reduceToNat, BitVec.reduceOfInt, Nat.reduceBEq, hb]; try rfl) ?_
    refine al_gives (vs := ?vs1) (v := ?v1) rfl ?ha1 ?hh1 (by kernel_rfl) rfl (by simp only [go_sem, ↓reduceIte, Nat.reduceLT, Nat.reduceEqDiff, Nat.reduceLeDiff, Nat.reduceAdd, Nat.reduceMul, Int.reduceLT, Int.reduceLE, Int.reduceToNat, BitVec.reduceOfInt, Nat.reduceBEq, hb]) ?kk1
    case ha1 => simp only [go_sem, ↓reduceIte, Nat.reduceLT, Nat.reduceEqDiff, Nat.reduceLeDiff, Nat.reduceAdd, Nat.reduceMul, Int.reduceLT, Int.reduceLE, Int.reduceToNat, BitVec.reduceOfInt, Nat.reduceBEq, hb]; try rfl
    case hh1 => exact vars_gives _ _ _
    refine al_pureN 1 (by simp only [go_sem, ↓reduceIte, Nat.reduceLT, Nat.reduceEqDiff, Nat.reduceLeDiff, Nat.reduceAdd, Nat.reduceMul, Int.reduceLT, Int.reduceLE, Int.reduceToNat, BitVec.reduceOfInt, Nat.reduceBEq, hb]; try rfl) ?_
    refine al_end [0, 1, 5, 6, 10] ?_
    refine awp_if rfl (fun _ => ?_) (fun h => by cases h)
    refine awp_skip ?_
    refine awp_seq (awp_block ?_)
    first | refine awp_seq (awp_lit ?_) | refine awp_lit ?_ | refine awp_seq (awp_seq (awp_lit ?_))
    refine al_pureN 3 (by simp only [go_sem, ↓reduceIte, Nat.reduceLT, Nat.reduceEqDiff, Nat.reduceLeDiff, Nat.reduceAdd, Nat.reduceMul, Int.reduceLT, Int.reduceLE, Int.reduceToNat, BitVec.reduceOfInt, Nat.reduceBEq]; try rfl) ?_
    refine al_gives (vs := ?vs2) (v := ?v2) rfl ?ha2 ?hh2 (by kernel_rfl) rfl (by simp only [go_sem, ↓reduceIte, Nat.reduceLT, Nat.reduceEqDiff, Nat.reduceLeDiff, Nat.reduceAdd, Nat.reduceMul, Int.reduceLT, Int.reduceLE, Int.reduceToNat, BitVec.reduceOfInt, Nat.reduceBEq]) ?kk2
    case ha2 => simp only [go_sem, ↓reduceIte, Nat.reduceLT, Nat.reduceEqDiff, Nat.reduceLeDiff, Nat.reduceAdd, Nat.reduceMul, Int.reduceLT, Int.reduceLE, Int.reduceToNat, BitVec.reduceOfInt, Nat.reduceBEq]; try rfl
    case hh2 => exact rCofactor_gives _ _ _ _ _ _
    refine al_pureN 3 (by simp only [go_sem, ↓reduceIte, Nat.reduceLT, Nat.reduceEqDiff, Nat.reduceLeDiff, Nat.reduceAdd, Nat.reduceMul, Int.reduceLT, Int.reduceLE, Int.reduceToNat, BitVec.reduceOfInt, Nat.reduceBEq]; try rfl) ?_
    refine al_gives (vs := ?vs3) (v := ?v3) rfl ?ha3 ?hh3 (by kernel_rfl) rfl (by simp only [go_sem, ↓reduceIte, Nat.reduceLT, Nat.reduceEqDiff, Nat.reduceLeDiff, Nat.reduceAdd, Nat.reduceMul, Int.reduceLT, Int.reduceLE, Int.reduceToNat, BitVec.reduceOfInt, Nat.reduceBEq]) ?kk3
    case ha3 => simp only [go_sem, ↓reduceIte, Nat.reduceLT, Nat.reduceEqDiff, Nat.reduceLeDiff, Nat.reduceAdd, Nat.reduceMul, Int.reduceLT, Int.reduceLE, Int.reduceToNat, BitVec.reduceOfInt, Nat.reduceBEq]; try rfl
    case hh3 => exact rCofactor_gives _ _ _ _ _ _
    refine al_pureN 1 (by simp only [go_sem, ↓reduceIte, Nat.reduceLT, Nat.reduceEqDiff, Nat.reduceLeDiff, Nat.reduceAdd, Nat.reduceMul, Int.reduceLT, Int.reduceLE, Int.reduceToNat, BitVec.reduceOfInt, Nat.reduceBEq]; try rfl) ?_
    refine al_end [0, 1, 5, 6, 21] ?_
    refine awp_if rfl (fun he => ?_) (fun he => ?_)
    · refine awp_lit ?_
      refine al_pureN 2 (by simp only [go_sem, ↓reduceIte, Nat.reduceLT, Nat.reduceEqDiff, Nat.reduceLeDiff, Nat.reduceAdd, Nat.reduceMul, Int.reduceLT, Int.reduceLE, Int.reduceToNat, BitVec.reduceOfInt, Nat.reduceBEq]; try rfl) ?_
      refine al_push rfl rfl rfl (by simp only [go_sem, ↓reduceIte, Nat.reduceLT, Nat.reduceEqDiff, Nat.reduceLeDiff, Nat.reduceAdd, Nat.reduceMul, Int.reduceLT, Int.reduceLE, Int.reduceToNat, BitVec.reduceOfInt, Nat.reduceBEq]; try rfl) (by simp only [go_sem, ↓reduceIte, Nat.reduceLT, Nat.reduceEqDiff, Nat.reduceLeDiff, Nat.reduceAdd, Nat.reduceMul, Int.reduceLT, Int.reduceLE, Int.reduceToNat, BitVec.reduceOfInt, Nat.reduceBEq]; try rfl) rfl rfl Try.underlying23 ty3 rfl rfl rfl (by simp only [go_sem, ↓reduceIte, Nat.reduceLT, Nat.reduceEqDiff, Nat.reduceLeDiff, Nat.reduceAdd, Nat.reduceMul, Int.reduceLT, Int.reduceLE, Int.reduceToNat, BitVec.reduceOfInt, Nat.reduceBEq]; try rfl) (by simp only [go_sem, ↓reduceIte, Nat.reduceLT, Nat.reduceEqDiff, Nat.reduceLeDiff, Nat.reduceAdd, Nat.reduceMul, Int.reduceLT, Int.reduceLE, Int.reduceToNat, BitVec.reduceOfInt, Nat.reduceBEq]; try rfl) rfl rfl hown (by omega) (by omega) (by omega) ?_
      intro N' σ' v' hN' hown' hkeep
      refine al_pureN 1 (by simp only [go_sem, ↓reduceIte, Nat.reduceLT, Nat.reduceEqDiff, Nat.reduceLeDiff, Nat.reduceAdd, Nat.reduceMul, Int.reduceLT, Int.reduceLE, Int.reduceToNat, BitVec.reduceOfInt, Nat.reduceBEq]; try rfl) ?_
      refine al_end [0, 1, 5, 6] ?_
      refine awp_pures [0, 1, 5, 6] (by simp only [go_sem, ↓reduceIte, Nat.reduceLT, Nat.reduceEqDiff, Nat.reduceLeDiff, Nat.reduceAdd, Nat.reduceMul, Int.reduceLT, Int.reduceLE, Int.reduceToNat, BitVec.reduceOfInt, Nat.reduceBEq, i64_add hj1]; try rfl) ?_
      refine (ih (j + 1, l ++ [(j : Int)], v', N', σ') ⟨hlt, by rw [hgo, depR, if_pos he]; simp, by simp; omega, by simp; omega, by simpa [ints] using hown', hkeep σ hle hN⟩ (by simp; omega)).cast (by first | (simp only [go_sem, ↓reduceIte, Nat.reduceLT, Nat.reduceEqDiff, Nat.reduceLeDiff, Nat.reduceAdd, Nat.reduceMul, Int.reduceLT, Int.reduceLE, Int.reduceToNat, BitVec.reduceOfInt, Nat.reduceBEq]; try rfl) | rfl)
    · refine awp_skip ?_
      refine awp_pures [0, 1, 5, 6] (by simp only [go_sem, ↓reduceIte, Nat.reduceLT, Nat.reduceEqDiff, Nat.reduceLeDiff, Nat.reduceAdd, Nat.reduceMul, Int.reduceLT, Int.reduceLE, Int.reduceToNat, BitVec.reduceOfInt, Nat.reduceBEq, i64_add hj1]; try rfl) ?_
      refine (ih (j + 1, l, sv, Nj, σj) ⟨hlt, by rw [hgo, depR, he]; simp, by simp; omega, hNj, hown, hle⟩ (by simp; omega)).cast (by first | (simp only [go_sem, ↓reduceIte, Nat.reduceLT, Nat.reduceEqDiff, Nat.reduceLeDiff, Nat.reduceAdd, Nat.reduceMul, Int.reduceLT, Int.reduceLE, Int.reduceToNat, BitVec.reduceOfInt, Nat.reduceBEq]; try rfl) | rfl)
  · have hb : decide ((j : Int) < (lim m : Int)) = false := by simpa using hlt
    have hjm : j = lim m := by omega
    refine awp_seq ?_
    first | refine awp_seq (awp_lit ?_) | refine awp_lit ?_ | refine awp_seq (awp_seq (awp_lit ?_))
    refine al_pureN 2 (by simp only [go_sem, ↓reduceIte, Nat.reduceLT, Nat.reduceEqDiff, Nat.reduceLeDiff, Nat.reduceAdd, Nat.reduceMul, Int.reduceLT, Int.reduceLE, Int.reduceToNat, BitVec.reduceOfInt, Nat.reduceBEq, hb]; try rfl) ?_
    refine al_gives (vs := ?vs4) (v := ?v4) rfl ?ha4 ?hh4 (by kernel_rfl) rfl (by simp only [go_sem, ↓reduceIte, Nat.reduceLT, Nat.reduceEqDiff, Nat.reduceLeDiff, Nat.reduceAdd, Nat.reduceMul, Int.reduceLT, Int.reduceLE, Int.reduceToNat, BitVec.reduceOfInt, Nat.reduceBEq, hb]) ?kk4
    case ha4 => simp only [go_sem, ↓reduceIte, Nat.reduceLT, Nat.reduceEqDiff, Nat.reduceLeDiff, Nat.reduceAdd, Nat.reduceMul, Int.reduceLT, Int.reduceLE, Int.reduceToNat, BitVec.reduceOfInt, Nat.reduceBEq, hb]; try rfl
    case hh4 => exact vars_gives _ _ _
    refine al_pureN 1 (by simp only [go_sem, ↓reduceIte, Nat.reduceLT, Nat.reduceEqDiff, Nat.reduceLeDiff, Nat.reduceAdd, Nat.reduceMul, Int.reduceLT, Int.reduceLE, Int.reduceToNat, BitVec.reduceOfInt, Nat.reduceBEq, hb]; try rfl) ?_
    refine al_end [0, 1, 5, 6, 10] ?_
    refine awp_if rfl (fun h => by cases h) (fun _ => ?_)
    refine awp_exit ?_
    simp only [Go.Abs.Seq, Go.Abs.Round, Go.Abs.InBlock, ↓reduceIte]
    refine awp_seq (awp_pures [4] (by simp only [go_sem, ↓reduceIte, Nat.reduceLT, Nat.reduceEqDiff, Nat.reduceLeDiff, Nat.reduceAdd, Nat.reduceMul, Int.reduceLT, Int.reduceLE, Int.reduceToNat, BitVec.reduceOfInt, Nat.reduceBEq]; try rfl) ?_)
    subst hjm
    rw [Nat.sub_self, supGo, List.append_nil] at hgo
    refine awp_ret ⟨_, rfl, ?_, hle⟩
    rw [hgo]; exact hown
theorem Matches_gives (t : BitVec 64) (n i k : Int) (val : Bool) (N : Nat) (σ : AHeap) : Gives Try.prog 10 [.int .u64 t.toNat, .int .i64 n, .int .i64 i, .int .i64 k, .bool val] N σ (.bool true) := by
  refine gives_of rfl (aok_fresh fun hN => aok_body (n := 93) Try.func10 rfl rfl (by simp) ?_)
  refine awp_seq (awp_pures [0, 1, 2, 3, 4] (by simp only [go_sem, ↓reduceIte, Nat.reduceLT, Nat.reduceEqDiff, Nat.reduceLeDiff, Nat.reduceAdd, Nat.reduceMul, Int.reduceLT, Int.reduceLE, Int.reduceToNat, BitVec.reduceOfInt, Nat.reduceBEq]; try rfl) ?_)
  refine awp_seq ?_
  first | refine awp_seq (awp_lit ?_) | refine awp_lit ?_ | refine awp_seq (awp_seq (awp_lit ?_))
  refine al_pureN 1 (by simp only [go_sem, ↓reduceIte, Nat.reduceLT, Nat.reduceEqDiff, Nat.reduceLeDiff, Nat.reduceAdd, Nat.reduceMul, Int.reduceLT, Int.reduceLE, Int.reduceToNat, BitVec.reduceOfInt, Nat.reduceBEq, eq_self]; try rfl) ?_
  refine al_gives (vs := ?vs5) (v := ?v5) rfl ?ha5 ?hh5 (by kernel_rfl) rfl (by simp only [go_sem, ↓reduceIte, Nat.reduceLT, Nat.reduceEqDiff, Nat.reduceLeDiff, Nat.reduceAdd, Nat.reduceMul, Int.reduceLT, Int.reduceLE, Int.reduceToNat, BitVec.reduceOfInt, Nat.reduceBEq, eq_self]) ?kk5
  case ha5 => simp only [go_sem, ↓reduceIte, Nat.reduceLT, Nat.reduceEqDiff, Nat.reduceLeDiff, Nat.reduceAdd, Nat.reduceMul, Int.reduceLT, Int.reduceLE, Int.reduceToNat, BitVec.reduceOfInt, Nat.reduceBEq, eq_self]; try rfl
  case hh5 => exact Mask_gives _ _ _
  refine al_pureN 1 (by simp only [go_sem, ↓reduceIte, Nat.reduceLT, Nat.reduceEqDiff, Nat.reduceLeDiff, Nat.reduceAdd, Nat.reduceMul, Int.reduceLT, Int.reduceLE, Int.reduceToNat, BitVec.reduceOfInt, Nat.reduceBEq, eq_self]; try rfl) ?_
  refine al_gives (vs := ?vs6) (v := ?v6) rfl ?ha6 ?hh6 (by kernel_rfl) rfl (by simp only [go_sem, ↓reduceIte, Nat.reduceLT, Nat.reduceEqDiff, Nat.reduceLeDiff, Nat.reduceAdd, Nat.reduceMul, Int.reduceLT, Int.reduceLE, Int.reduceToNat, BitVec.reduceOfInt, Nat.reduceBEq, eq_self]) ?kk6
  case ha6 => simp only [go_sem, ↓reduceIte, Nat.reduceLT, Nat.reduceEqDiff, Nat.reduceLeDiff, Nat.reduceAdd, Nat.reduceMul, Int.reduceLT, Int.reduceLE, Int.reduceToNat, BitVec.reduceOfInt, Nat.reduceBEq, eq_self]; try rfl
  case hh6 => exact rMask_gives _ _ _
  refine al_pureN 4 (by simp only [go_sem, ↓reduceIte, Nat.reduceLT, Nat.reduceEqDiff, Nat.reduceLeDiff, Nat.reduceAdd, Nat.reduceMul, Int.reduceLT, Int.reduceLE, Int.reduceToNat, BitVec.reduceOfInt, Nat.reduceBEq, eq_self]; try rfl) ?_
  refine al_gives (vs := ?vs7) (v := ?v7) rfl ?ha7 ?hh7 (by kernel_rfl) rfl (by simp only [go_sem, ↓reduceIte, Nat.reduceLT, Nat.reduceEqDiff, Nat.reduceLeDiff, Nat.reduceAdd, Nat.reduceMul, Int.reduceLT, Int.reduceLE, Int.reduceToNat, BitVec.reduceOfInt, Nat.reduceBEq, eq_self]) ?kk7
  case ha7 => simp only [go_sem, ↓reduceIte, Nat.reduceLT, Nat.reduceEqDiff, Nat.reduceLeDiff, Nat.reduceAdd, Nat.reduceMul, Int.reduceLT, Int.reduceLE, Int.reduceToNat, BitVec.reduceOfInt, Nat.reduceBEq, eq_self]; try rfl
  case hh7 => exact Valid_gives _ _ _ _
  refine al_pureN 2 (by simp only [go_sem, ↓reduceIte, Nat.reduceLT, Nat.reduceEqDiff, Nat.reduceLeDiff, Nat.reduceAdd, Nat.reduceMul, Int.reduceLT, Int.reduceLE, Int.reduceToNat, BitVec.reduceOfInt, Nat.reduceBEq, eq_self]; try rfl) ?_
  refine al_gives (vs := ?vs8) (v := ?v8) rfl ?ha8 ?hh8 (by kernel_rfl) rfl (by simp only [go_sem, ↓reduceIte, Nat.reduceLT, Nat.reduceEqDiff, Nat.reduceLeDiff, Nat.reduceAdd, Nat.reduceMul, Int.reduceLT, Int.reduceLE, Int.reduceToNat, BitVec.reduceOfInt, Nat.reduceBEq, eq_self]) ?kk8
  case ha8 => simp only [go_sem, ↓reduceIte, Nat.reduceLT, Nat.reduceEqDiff, Nat.reduceLeDiff, Nat.reduceAdd, Nat.reduceMul, Int.reduceLT, Int.reduceLE, Int.reduceToNat, BitVec.reduceOfInt, Nat.reduceBEq, eq_self]; try rfl
  case hh8 => exact rValid_gives _ _ _ _
  refine al_pureN 5 (by simp only [go_sem, ↓reduceIte, Nat.reduceLT, Nat.reduceEqDiff, Nat.reduceLeDiff, Nat.reduceAdd, Nat.reduceMul, Int.reduceLT, Int.reduceLE, Int.reduceToNat, BitVec.reduceOfInt, Nat.reduceBEq, eq_self]; try rfl) ?_
  refine al_gives (vs := ?vs9) (v := ?v9) rfl ?ha9 ?hh9 (by kernel_rfl) rfl (by simp only [go_sem, ↓reduceIte, Nat.reduceLT, Nat.reduceEqDiff, Nat.reduceLeDiff, Nat.reduceAdd, Nat.reduceMul, Int.reduceLT, Int.reduceLE, Int.reduceToNat, BitVec.reduceOfInt, Nat.reduceBEq, eq_self]) ?kk9
  case ha9 => simp only [go_sem, ↓reduceIte, Nat.reduceLT, Nat.reduceEqDiff, Nat.reduceLeDiff, Nat.reduceAdd, Nat.reduceMul, Int.reduceLT, Int.reduceLE, Int.reduceToNat, BitVec.reduceOfInt, Nat.reduceBEq, eq_self]; try rfl
  case hh9 => exact Var_gives _ _ _ _
  refine al_pureN 2 (by simp only [go_sem, ↓reduceIte, Nat.reduceLT, Nat.reduceEqDiff, Nat.reduceLeDiff, Nat.reduceAdd, Nat.reduceMul, Int.reduceLT, Int.reduceLE, Int.reduceToNat, BitVec.reduceOfInt, Nat.reduceBEq, eq_self]; try rfl) ?_
  refine al_gives (vs := ?vs10) (v := ?v10) rfl ?ha10 ?hh10 (by kernel_rfl) rfl (by simp only [go_sem, ↓reduceIte, Nat.reduceLT, Nat.reduceEqDiff, Nat.reduceLeDiff, Nat.reduceAdd, Nat.reduceMul, Int.reduceLT, Int.reduceLE, Int.reduceToNat, BitVec.reduceOfInt, Nat.reduceBEq, eq_self]) ?kk10
  case ha10 => simp only [go_sem, ↓reduceIte, Nat.reduceLT, Nat.reduceEqDiff, Nat.reduceLeDiff, Nat.reduceAdd, Nat.reduceMul, Int.reduceLT, Int.reduceLE, Int.reduceToNat, BitVec.reduceOfInt, Nat.reduceBEq, eq_self]; try rfl
  case hh10 => exact rVar_gives _ _ _ _
  refine al_pureN 5 (by simp only [go_sem, ↓reduceIte, Nat.reduceLT, Nat.reduceEqDiff, Nat.reduceLeDiff, Nat.reduceAdd, Nat.reduceMul, Int.reduceLT, Int.reduceLE, Int.reduceToNat, BitVec.reduceOfInt, Nat.reduceBEq, eq_self]; try rfl) ?_
  refine al_gives (vs := ?vs11) (v := ?v11) rfl ?ha11 ?hh11 (by kernel_rfl) rfl (by simp only [go_sem, ↓reduceIte, Nat.reduceLT, Nat.reduceEqDiff, Nat.reduceLeDiff, Nat.reduceAdd, Nat.reduceMul, Int.reduceLT, Int.reduceLE, Int.reduceToNat, BitVec.reduceOfInt, Nat.reduceBEq, eq_self]) ?kk11
  case ha11 => simp only [go_sem, ↓reduceIte, Nat.reduceLT, Nat.reduceEqDiff, Nat.reduceLeDiff, Nat.reduceAdd, Nat.reduceMul, Int.reduceLT, Int.reduceLE, Int.reduceToNat, BitVec.reduceOfInt, Nat.reduceBEq, eq_self]; try rfl
  case hh11 => exact Eval_gives _ _ _ _
  refine al_pureN 2 (by simp only [go_sem, ↓reduceIte, Nat.reduceLT, Nat.reduceEqDiff, Nat.reduceLeDiff, Nat.reduceAdd, Nat.reduceMul, Int.reduceLT, Int.reduceLE, Int.reduceToNat, BitVec.reduceOfInt, Nat.reduceBEq, eq_self]; try rfl) ?_
  refine al_gives (vs := ?vs12) (v := ?v12) rfl ?ha12 ?hh12 (by kernel_rfl) rfl (by simp only [go_sem, ↓reduceIte, Nat.reduceLT, Nat.reduceEqDiff, Nat.reduceLeDiff, Nat.reduceAdd, Nat.reduceMul, Int.reduceLT, Int.reduceLE, Int.reduceToNat, BitVec.reduceOfInt, Nat.reduceBEq, eq_self]) ?kk12
  case ha12 => simp only [go_sem, ↓reduceIte, Nat.reduceLT, Nat.reduceEqDiff, Nat.reduceLeDiff, Nat.reduceAdd, Nat.reduceMul, Int.reduceLT, Int.reduceLE, Int.reduceToNat, BitVec.reduceOfInt, Nat.reduceBEq, eq_self]; try rfl
  case hh12 => exact rEval_gives _ _ _ _
  refine al_pureN 5 (by simp only [go_sem, ↓reduceIte, Nat.reduceLT, Nat.reduceEqDiff, Nat.reduceLeDiff, Nat.reduceAdd, Nat.reduceMul, Int.reduceLT, Int.reduceLE, Int.reduceToNat, BitVec.reduceOfInt, Nat.reduceBEq, eq_self]; try rfl) ?_
  refine al_pureN 2 (by simp only [go_sem, ↓reduceIte, Nat.reduceLT, Nat.reduceEqDiff, Nat.reduceLeDiff, Nat.reduceAdd, Nat.reduceMul, Int.reduceLT, Int.reduceLE, Int.reduceToNat, BitVec.reduceOfInt, Nat.reduceBEq, eq_self]; try rfl) ?_
  refine al_gives (vs := ?vs13) (v := ?v13) rfl ?ha13 ?hh13 (by kernel_rfl) rfl (by simp only [go_sem, ↓reduceIte, Nat.reduceLT, Nat.reduceEqDiff, Nat.reduceLeDiff, Nat.reduceAdd, Nat.reduceMul, Int.reduceLT, Int.reduceLE, Int.reduceToNat, BitVec.reduceOfInt, Nat.reduceBEq, eq_self]) ?kk13
  case ha13 => simp only [go_sem, ↓reduceIte, Nat.reduceLT, Nat.reduceEqDiff, Nat.reduceLeDiff, Nat.reduceAdd, Nat.reduceMul, Int.reduceLT, Int.reduceLE, Int.reduceToNat, BitVec.reduceOfInt, Nat.reduceBEq, eq_self]; try rfl
  case hh13 => exact Cofactor_gives _ _ _ _ _ _
  refine al_pureN 4 (by simp only [go_sem, ↓reduceIte, Nat.reduceLT, Nat.reduceEqDiff, Nat.reduceLeDiff, Nat.reduceAdd, Nat.reduceMul, Int.reduceLT, Int.reduceLE, Int.reduceToNat, BitVec.reduceOfInt, Nat.reduceBEq, eq_self]; try rfl) ?_
  refine al_gives (vs := ?vs14) (v := ?v14) rfl ?ha14 ?hh14 (by kernel_rfl) rfl (by simp only [go_sem, ↓reduceIte, Nat.reduceLT, Nat.reduceEqDiff, Nat.reduceLeDiff, Nat.reduceAdd, Nat.reduceMul, Int.reduceLT, Int.reduceLE, Int.reduceToNat, BitVec.reduceOfInt, Nat.reduceBEq, eq_self]) ?kk14
  case ha14 => simp only [go_sem, ↓reduceIte, Nat.reduceLT, Nat.reduceEqDiff, Nat.reduceLeDiff, Nat.reduceAdd, Nat.reduceMul, Int.reduceLT, Int.reduceLE, Int.reduceToNat, BitVec.reduceOfInt, Nat.reduceBEq, eq_self]; try rfl
  case hh14 => exact rCofactor_gives _ _ _ _ _ _
  refine al_pureN 5 (by simp only [go_sem, ↓reduceIte, Nat.reduceLT, Nat.reduceEqDiff, Nat.reduceLeDiff, Nat.reduceAdd, Nat.reduceMul, Int.reduceLT, Int.reduceLE, Int.reduceToNat, BitVec.reduceOfInt, Nat.reduceBEq, eq_self]; try rfl) ?_
  refine al_pureN 1 (by simp only [go_sem, ↓reduceIte, Nat.reduceLT, Nat.reduceEqDiff, Nat.reduceLeDiff, Nat.reduceAdd, Nat.reduceMul, Int.reduceLT, Int.reduceLE, Int.reduceToNat, BitVec.reduceOfInt, Nat.reduceBEq, eq_self]; try rfl) ?_
  refine al_gives (vs := ?vs15) (v := ?v15) rfl ?ha15 ?hh15 (by kernel_rfl) rfl (by simp only [go_sem, ↓reduceIte, Nat.reduceLT, Nat.reduceEqDiff, Nat.reduceLeDiff, Nat.reduceAdd, Nat.reduceMul, Int.reduceLT, Int.reduceLE, Int.reduceToNat, BitVec.reduceOfInt, Nat.reduceBEq, eq_self]) ?kk15
  case ha15 => simp only [go_sem, ↓reduceIte, Nat.reduceLT, Nat.reduceEqDiff, Nat.reduceLeDiff, Nat.reduceAdd, Nat.reduceMul, Int.reduceLT, Int.reduceLE, Int.reduceToNat, BitVec.reduceOfInt, Nat.reduceBEq, eq_self]; try rfl
  case hh15 => exact Flip_gives _ _ _ _ _
  refine al_pureN 3 (by simp only [go_sem, ↓reduceIte, Nat.reduceLT, Nat.reduceEqDiff, Nat.reduceLeDiff, Nat.reduceAdd, Nat.reduceMul, Int.reduceLT, Int.reduceLE, Int.reduceToNat, BitVec.reduceOfInt, Nat.reduceBEq, eq_self]; try rfl) ?_
  refine al_gives (vs := ?vs16) (v := ?v16) rfl ?ha16 ?hh16 (by kernel_rfl) rfl (by simp only [go_sem, ↓reduceIte, Nat.reduceLT, Nat.reduceEqDiff, Nat.reduceLeDiff, Nat.reduceAdd, Nat.reduceMul, Int.reduceLT, Int.reduceLE, Int.reduceToNat, BitVec.reduceOfInt, Nat.reduceBEq, eq_self]) ?kk16
  case ha16 => simp only [go_sem, ↓reduceIte, Nat.reduceLT, Nat.reduceEqDiff, Nat.reduceLeDiff, Nat.reduceAdd, Nat.reduceMul, Int.reduceLT, Int.reduceLE, Int.reduceToNat, BitVec.reduceOfInt, Nat.reduceBEq, eq_self]; try rfl
  case hh16 => exact rFlip_gives _ _ _ _ _
  refine al_pureN 2 (by simp only [go_sem, ↓reduceIte, Nat.reduceLT, Nat.reduceEqDiff, Nat.reduceLeDiff, Nat.reduceAdd, Nat.reduceMul, Int.reduceLT, Int.reduceLE, Int.reduceToNat, BitVec.reduceOfInt, Nat.reduceBEq, eq_self]; try rfl) ?_
  refine al_end [0, 1, 69] ?_
  refine awp_if rfl (fun h => by cases h) (fun _ => ?_)
  refine awp_skip ?_
  refine awp_seq ?_
  refine awp_seq (awp_pures [0, 1, 11] (by simp only [go_sem, ↓reduceIte, Nat.reduceLT, Nat.reduceEqDiff, Nat.reduceLeDiff, Nat.reduceAdd, Nat.reduceMul, Int.reduceLT, Int.reduceLE, Int.reduceToNat, BitVec.reduceOfInt, Nat.reduceBEq]; try rfl) ?_)
  refine awp_block (awp_loop ?_)
  refine ALoop.cast3 (aloop_ind (α := Nat × Nat × AHeap) (fun x => x.1 ≤ 2 ∧ N ≤ x.2.1 ∧ σ.le x.2.2) (fun x => 2 - x.1)
    (fun x => [(0, .int .u64 t.toNat), (1, .int .i64 n), (11, .int .i64 x.1)]) (fun x => x.2.1) (fun x => x.2.2) ?_ (0, N, σ) ⟨by simp, by simp, AHeap.le_refl _⟩) rfl rfl rfl
  rintro ⟨r, Nr, σr⟩ ⟨hr, hNr, hle⟩ ih
  simp only at hr hNr hle ⊢
  by_cases hlt : r < 2
  · have hb : decide ((r : Int) < 2) = true := decide_eq_true (by omega)
    have hj1 : -9223372036854775808 ≤ (r : Int) + 1 ∧ (r : Int) + 1 ≤ 9223372036854775807 := by omega
    refine awp_seq ?_
    refine awp_seq (awp_pures [0, 1, 11, 71] (by simp only [go_sem, ↓reduceIte, Nat.reduceLT, Nat.reduceEqDiff, Nat.reduceLeDiff, Nat.reduceAdd, Nat.reduceMul, Int.reduceLT, Int.reduceLE, Int.reduceToNat, BitVec.reduceOfInt, Nat.reduceBEq, hb]; try rfl) ?_)
    refine awp_if rfl (fun _ => ?_) (fun h => by cases h)
    refine awp_skip ?_
    refine awp_seq (awp_block ?_)
    first | refine awp_seq (awp_lit ?_) | refine awp_lit ?_ | refine awp_seq (awp_seq (awp_lit ?_))
    refine al_pureN 2 (by simp only [go_sem, ↓reduceIte, Nat.reduceLT, Nat.reduceEqDiff, Nat.reduceLeDiff, Nat.reduceAdd, Nat.reduceMul, Int.reduceLT, Int.reduceLE, Int.reduceToNat, BitVec.reduceOfInt, Nat.reduceBEq]; try rfl) ?_
    refine al_fun ((Support_ok _ _ _ _).up) rfl (by simp only [go_sem, ↓reduceIte, Nat.reduceLT, Nat.reduceEqDiff, Nat.reduceLeDiff, Nat.reduceAdd, Nat.reduceMul, Int.reduceLT, Int.reduceLE, Int.reduceToNat, BitVec.reduceOfInt, Nat.reduceBEq]; try rfl) (by kernel_rfl) rfl (by simp only [go_sem, ↓reduceIte, Nat.reduceLT, Nat.reduceEqDiff, Nat.reduceLeDiff, Nat.reduceAdd, Nat.reduceMul, Int.reduceLT, Int.reduceLE, Int.reduceToNat, BitVec.reduceOfInt, Nat.reduceBEq]; try rfl) ?_
    rintro v1 N1 σ1 ⟨⟨hown, hle1⟩, hN01⟩
    refine al_pureN 1 (by simp only [go_sem, ↓reduceIte, Nat.reduceLT, Nat.reduceEqDiff, Nat.reduceLeDiff, Nat.reduceAdd, Nat.reduceMul, Int.reduceLT, Int.reduceLE, Int.reduceToNat, BitVec.reduceOfInt, Nat.reduceBEq]; try rfl) ?_
    refine al_end [0, 1, 11, 12] ?_
    refine awp_seq ?_
    first | refine awp_seq (awp_lit ?_) | refine awp_lit ?_ | refine awp_seq (awp_seq (awp_lit ?_))
    refine al_fresh fun hN1 => ?_
    refine al_pureN 3 (by simp only [go_sem, ↓reduceIte, Nat.reduceLT, Nat.reduceEqDiff, Nat.reduceLeDiff, Nat.reduceAdd, Nat.reduceMul, Int.reduceLT, Int.reduceLE, Int.reduceToNat, BitVec.reduceOfInt, Nat.reduceBEq]; try rfl) ?_
    refine al_fun ((rSupport_ok _ _ _ _).up) rfl (by simp only [go_sem, ↓reduceIte, Nat.reduceLT, Nat.reduceEqDiff, Nat.reduceLeDiff, Nat.reduceAdd, Nat.reduceMul, Int.reduceLT, Int.reduceLE, Int.reduceToNat, BitVec.reduceOfInt, Nat.reduceBEq]; try rfl) (by kernel_rfl) rfl (by simp only [go_sem, ↓reduceIte, Nat.reduceLT, Nat.reduceEqDiff, Nat.reduceLeDiff, Nat.reduceAdd, Nat.reduceMul, Int.reduceLT, Int.reduceLE, Int.reduceToNat, BitVec.reduceOfInt, Nat.reduceBEq]; try rfl) ?_
    rintro v2 N2 σ2 ⟨⟨hown2, hle2⟩, hN12⟩
    have hs1 := (hown.mono (fun i b _ hb => hle2 i b hb) (Nat.le_refl _)).slAt
    have hl20 : (supportR t n).length ≤ 1000000 := by have := sup_len t n; omega
    refine al_gives (vs := ?vs17) (v := ?v17) rfl ?ha17 ?hh17 (by kernel_rfl) rfl (by simp only [go_sem, ↓reduceIte, Nat.reduceLT, Nat.reduceEqDiff, Nat.reduceLeDiff, Nat.reduceAdd, Nat.reduceMul, Int.reduceLT, Int.reduceLE, Int.reduceToNat, BitVec.reduceOfInt, Nat.reduceBEq]) ?kk17
    case ha17 => simp only [go_sem, ↓reduceIte, Nat.reduceLT, Nat.reduceEqDiff, Nat.reduceLeDiff, Nat.reduceAdd, Nat.reduceMul, Int.reduceLT, Int.reduceLE, Int.reduceToNat, BitVec.reduceOfInt, Nat.reduceBEq]; try rfl
    case hh17 => exact Same_gives _ _ hl20 _ _ _ _ hs1 hown2.slAt
    refine al_pureN 1 (by simp only [go_sem, ↓reduceIte, Nat.reduceLT, Nat.reduceEqDiff, Nat.reduceLeDiff, Nat.reduceAdd, Nat.reduceMul, Int.reduceLT, Int.reduceLE, Int.reduceToNat, BitVec.reduceOfInt, Nat.reduceBEq, eq_self]; try rfl) ?_
    refine al_end [0, 1, 11, 12, 82] ?_
    refine awp_if rfl (fun h => by cases h) (fun _ => ?_)
    refine awp_skip ?_
    obtain ⟨len, hlen⟩ : ∃ len, len = (supportR t n).length := ⟨_, rfl⟩
    have hown1 : ∃ cells, OwnAt σ2 Nr v1 cells len 1 := ⟨_, by rw [hlen]; exact hown.mono (fun i b _ hb => hle2 i b hb) (Nat.le_refl _)⟩
    have hle12 := AHeap.le_trans hle (AHeap.le_trans hle1 hle2)
    have hl6 : len ≤ 6 := by rw [hlen]; exact sup_len t n
    obtain ⟨bb, cc, hv⟩ := hown1.choose_spec.lenV
    subst hv
    clear hown hown2 hs1 hlen
    have hNN : N ≤ N2 := by omega
    refine awp_seq (awp_pures [0, 1, 11, 12, 13] (by simp only [go_sem, ↓reduceIte, Nat.reduceLT, Nat.reduceEqDiff, Nat.reduceLeDiff, Nat.reduceAdd, Nat.reduceMul, Int.reduceLT, Int.reduceLE, Int.reduceToNat, BitVec.reduceOfInt, Nat.reduceBEq]; try rfl) ?_)
    refine awp_block (awp_loop ?_)
    refine ALoop.cast3 (aloop_ind (α := Nat × AHeap) (fun x => x.1 ≤ len ∧ σ.le x.2 ∧ ∃ cells, OwnAt x.2 Nr (.slice bb len cc) cells len 1) (fun x => len - x.1)
      (fun x => [(0, .int .u64 t.toNat), (1, .int .i64 n), (11, .int .i64 r), (12, .slice bb len cc), (13, .int .i64 x.1)]) (fun _ => N2) (fun x => x.2) ?_ (0, σ2) ⟨by simp, hle12, hown1⟩) rfl rfl rfl
    rintro ⟨j, τ⟩ ⟨hj, hlt', cells, hown⟩ ih2
    simp only at hj hlt' hown ⊢
    by_cases hjl : j < len
    · have hb2 : decide ((j : Int) < (len : Int)) = true := by simpa using hjl
      have hj2 : -9223372036854775808 ≤ (j : Int) + 1 ∧ (j : Int) + 1 ≤ 9223372036854775807 := by omega
      refine awp_seq ?_
      refine awp_seq (awp_pures [0, 1, 11, 12, 13, 86] (by simp only [go_sem, ↓reduceIte, Nat.reduceLT, Nat.reduceEqDiff, Nat.reduceLeDiff, Nat.reduceAdd, Nat.reduceMul, Int.reduceLT, Int.reduceLE, Int.reduceToNat, BitVec.reduceOfInt, Nat.reduceBEq, hb2]; try rfl) ?_)
      refine awp_if rfl (fun _ => ?_) (fun h => by cases h)
      refine awp_skip ?_
      rcases hown with ⟨_, h0, _⟩ | ⟨id, cap, hid, e, hcap, hσ, hcl⟩
      · omega
      · cases e
        have hjj : 0 ≤ (j : Int) ∧ (j : Int) < (len : Int) := by omega
        refine awp_seq (awp_block ?_)
        refine awp_lit ?_
        refine al_pureN 3 (by simp only [go_sem, ↓reduceIte, Nat.reduceLT, Nat.reduceEqDiff, Nat.reduceLeDiff, Nat.reduceAdd, Nat.reduceMul, Int.reduceLT, Int.reduceLE, Int.reduceToNat, BitVec.reduceOfInt, Nat.reduceBEq, hjj]; try rfl) ?_
        refine al_store1 rfl (by simp only [go_sem, ↓reduceIte, Nat.reduceLT, Nat.reduceEqDiff, Nat.reduceLeDiff, Nat.reduceAdd, Nat.reduceMul, Int.reduceLT, Int.reduceLE, Int.reduceToNat, BitVec.reduceOfInt, Nat.reduceBEq]; try rfl) rfl (by simp only [go_sem, ↓reduceIte, Nat.reduceLT, Nat.reduceEqDiff, Nat.reduceLeDiff, Nat.reduceAdd, Nat.reduceMul, Int.reduceLT, Int.reduceLE, Int.reduceToNat, BitVec.reduceOfInt, Nat.reduceBEq]; try rfl) (by simp only [go_sem, ↓reduceIte, Nat.reduceLT, Nat.reduceEqDiff, Nat.reduceLeDiff, Nat.reduceAdd, Nat.reduceMul, Int.reduceLT, Int.reduceLE, Int.reduceToNat, BitVec.reduceOfInt, Nat.reduceBEq]; try rfl) hσ rfl size3 rfl rfl (by simp; omega) ?_
        refine al_end [0, 1, 11, 12, 13] ?_
        refine awp_pures [0, 1, 11, 12, 13] (by simp only [go_sem, ↓reduceIte, Nat.reduceLT, Nat.reduceEqDiff, Nat.reduceLeDiff, Nat.reduceAdd, Nat.reduceMul, Int.reduceLT, Int.reduceLE, Int.reduceToNat, BitVec.reduceOfInt, Nat.reduceBEq, i64_add hj2]; try rfl) ?_
        refine ALoop.cast3 (ih2 (j + 1, τ.set id ⟨cells.set (0 + j) (.int .i64 (-9)), true, 1⟩) ⟨hjl, AHeap.le_set hlt' (fun i b hi => by have := hN i b hi; omega), cells.set (0 + j) (.int .i64 (-9)), .inr ⟨id, cc, hid, rfl, hcap, AHeap.set_self _ _ _, by simpa using hcl⟩⟩ (by simp; omega)) (by first | (simp only [go_sem]; try rfl) | rfl) rfl (by simp)
    · have hb2 : decide ((j : Int) < (len : Int)) = false := by simpa using hjl
      refine awp_seq ?_
      refine awp_seq (awp_pures [0, 1, 11, 12, 13, 86] (by simp only [go_sem, ↓reduceIte, Nat.reduceLT, Nat.reduceEqDiff, Nat.reduceLeDiff, Nat.reduceAdd, Nat.reduceMul, Int.reduceLT, Int.reduceLE, Int.reduceToNat, BitVec.reduceOfInt, Nat.reduceBEq, hb2]; try rfl) ?_)
      refine awp_if rfl (fun h => by cases h) (fun _ => ?_)
      refine awp_exit ?_
      simp only [Go.Abs.Seq, Go.Abs.Round, Go.Abs.InBlock, ↓reduceIte]
      refine awp_pures [0, 1, 11] (by simp only [go_sem, ↓reduceIte, Nat.reduceLT, Nat.reduceEqDiff, Nat.reduceLeDiff, Nat.reduceAdd, Nat.reduceMul, Int.reduceLT, Int.reduceLE, Int.reduceToNat, BitVec.reduceOfInt, Nat.reduceBEq, i64_add hj1]; try rfl) ?_
      refine (ih (r + 1, N2, τ) ⟨hlt, hNN, hlt'⟩ (by simp; omega)).cast (by first | (simp only [go_sem, ↓reduceIte, Nat.reduceLT, Nat.reduceEqDiff, Nat.reduceLeDiff, Nat.reduceAdd, Nat.reduceMul, Int.reduceLT, Int.reduceLE, Int.reduceToNat, BitVec.reduceOfInt, Nat.reduceBEq]; try rfl) | rfl)
  · have hb : decide ((r : Int) < 2) = false := decide_eq_false (by omega)
    refine awp_seq ?_
    refine awp_seq (awp_pures [0, 1, 11, 71] (by simp only [go_sem, ↓reduceIte, Nat.reduceLT, Nat.reduceEqDiff, Nat.reduceLeDiff, Nat.reduceAdd, Nat.reduceMul, Int.reduceLT, Int.reduceLE, Int.reduceToNat, BitVec.reduceOfInt, Nat.reduceBEq, hb]; try rfl) ?_)
    refine awp_if rfl (fun h => by cases h) (fun _ => ?_)
    refine awp_exit ?_
    simp only [Go.Abs.Seq, Go.Abs.Round, Go.Abs.InBlock, ↓reduceIte]
    first | refine awp_seq (awp_lit ?_) | refine awp_lit ?_ | refine awp_seq (awp_seq (awp_lit ?_))
    refine al_gives (vs := ?vs18) (v := ?v18) rfl ?ha18 ?hh18 (by kernel_rfl) rfl (by simp only [go_sem, ↓reduceIte, Nat.reduceLT, Nat.reduceEqDiff, Nat.reduceLeDiff, Nat.reduceAdd, Nat.reduceMul, Int.reduceLT, Int.reduceLE, Int.reduceToNat, BitVec.reduceOfInt, Nat.reduceBEq]) ?kk18
    case ha18 => simp only [go_sem, ↓reduceIte, Nat.reduceLT, Nat.reduceEqDiff, Nat.reduceLeDiff, Nat.reduceAdd, Nat.reduceMul, Int.reduceLT, Int.reduceLE, Int.reduceToNat, BitVec.reduceOfInt, Nat.reduceBEq]; try rfl
    case hh18 => exact awake_gives _ _
    refine al_pureN 1 (by simp only [go_sem, ↓reduceIte, Nat.reduceLT, Nat.reduceEqDiff, Nat.reduceLeDiff, Nat.reduceAdd, Nat.reduceMul, Int.reduceLT, Int.reduceLE, Int.reduceToNat, BitVec.reduceOfInt, Nat.reduceBEq]; try rfl) ?_
    refine al_end [10] ?_
    exact awp_ret ⟨_, rfl, rfl, hle⟩
end Go.Proofs.Ytbpjoamdcbbnnaa
