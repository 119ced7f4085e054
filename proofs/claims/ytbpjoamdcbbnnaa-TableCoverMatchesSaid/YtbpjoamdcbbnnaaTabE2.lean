/- The walk of the law TableInterval. -/
import Derived.Test.YtbpjoamdcbbnnaaTabE1
import Derived.Test.YtbpjoamdcbbnnaaTabLaw2
set_option linter.unusedSimpArgs false
set_option linter.unusedVariables false
namespace Go.Proofs.Ytbpjoamdcbbnnaa
open Go.Abs Go.Tab
attribute [local go_sem] eqA Try.underlying22 Try.underlying3 Try.underlying77 Try.underlying52 Try.underlying23 Try.underlying25 Try.underlying5 Try.underlying4 Try.underlying36 Try.underlying39 Try.underlying72 Try.underlying49 Try.underlying26 size22 size3 size23 size5 size4 size39 Nat.mul_one bne_self_eq_false

theorem ones_le (t : BitVec 64) : ∀ M, ones t M ≤ M
  | 0 => Nat.le_refl _
  | M + 1 => by
    have := ones_le t M
    simp only [ones]
    split <;> omega
theorem evT_nat (t : BitVec 64) (j : Nat) : evT t (j : Int) = t.getLsbD j := by simp [evT]
theorem isop_small8 {n : Nat} (hn : n ≤ 6) (L U : BitVec 64) : Small (isopG n n L U).1 := fun c hc => by
  have h := isopG_small n n L U c hc
  have := two_pow_le6 hn
  omega
theorem isop_len6 {n : Nat} (hn : n ≤ 6) (L U : BitVec 64) : (isopG n n L U).1.length ≤ 729 := by
  have h := isopG_len n n L U
  have := Nat.pow_le_pow_right (n := 3) (by omega) hn
  simp at this; omega

theorem Interval_gives (t u : BitVec 64) (a : Nat) (ha : a < 256) (N : Nat) (σ : AHeap) : Gives Try.prog 8 [.int .u64 t.toNat, .int .u64 u.toNat, .int .u8 a] N σ (.bool true) := by
  refine gives_of rfl (aok_body (n := 79) Try.func8 rfl rfl (by simp) ?_)
  refine awp_seq (awp_pures [0, 1, 2, 6] (by simp only [go_sem, ↓reduceIte, Nat.reduceLT, Nat.reduceEqDiff, Nat.reduceLeDiff, Nat.reduceAdd, Nat.reduceMul, Int.reduceLT, Int.reduceLE, Int.reduceToNat, BitVec.reduceOfInt, Nat.reduceBEq]; try rfl) ?_)
  refine awp_seq ?_
  first | refine awp_seq (awp_lit ?_) | refine awp_lit ?_ | refine awp_seq (awp_seq (awp_lit ?_))
  refine al_gives (vs := ?vs1) (v := ?v1) rfl ?ha1 ?hh1 (by kernel_rfl) rfl (by simp only [go_sem, ↓reduceIte, Nat.reduceLT, Nat.reduceEqDiff, Nat.reduceLeDiff, Nat.reduceAdd, Nat.reduceMul, Int.reduceLT, Int.reduceLE, Int.reduceToNat, BitVec.reduceOfInt, Nat.reduceBEq]) ?kk1
  case ha1 => simp only [go_sem, ↓reduceIte, Nat.reduceLT, Nat.reduceEqDiff, Nat.reduceLeDiff, Nat.reduceAdd, Nat.reduceMul, Int.reduceLT, Int.reduceLE, Int.reduceToNat, BitVec.reduceOfInt, Nat.reduceBEq]; try rfl
  case hh1 => exact awake_gives _ _
  refine al_pureN 1 (by simp only [go_sem, ↓reduceIte, Nat.reduceLT, Nat.reduceEqDiff, Nat.reduceLeDiff, Nat.reduceAdd, Nat.reduceMul, Int.reduceLT, Int.reduceLE, Int.reduceToNat, BitVec.reduceOfInt, Nat.reduceBEq]; try rfl) ?_
  refine al_end [0, 1, 2, 17] ?_
  refine awp_if rfl (fun h => by cases h) (fun _ => ?_)
  refine awp_skip ?_
  obtain ⟨n, hn⟩ : ∃ n, n = a % 7 := ⟨_, rfl⟩
  have hnn : n ≤ 6 := by have := Nat.mod_lt a (show 7 > 0 by omega); omega
  have hrem : intA .rem .u8 (a : Int) 7 = some (.int .u8 (n : Nat)) := by rw [rem_lit7, hn]
  have hw1 : IntKind.i64.wrap (n : Int) = (n : Int) := i64_wrap_nat (by omega)
  refine awp_seq (awp_pures [0, 1, 6, 7] (by simp only [go_sem, ↓reduceIte, Nat.reduceLT, Nat.reduceEqDiff, Nat.reduceLeDiff, Nat.reduceAdd, Nat.reduceMul, Int.reduceLT, Int.reduceLE, Int.reduceToNat, BitVec.reduceOfInt, Nat.reduceBEq, hrem, hw1]; try rfl) ?_)
  have hl := lim_of hnn
  first | refine awp_seq (awp_lit ?_) | refine awp_lit ?_ | refine awp_seq (awp_seq (awp_lit ?_))
  refine al_pureN 4 (by simp only [go_sem, ↓reduceIte, Nat.reduceLT, Nat.reduceEqDiff, Nat.reduceLeDiff, Nat.reduceAdd, Nat.reduceMul, Int.reduceLT, Int.reduceLE, Int.reduceToNat, BitVec.reduceOfInt, Nat.reduceBEq]; try rfl) ?_
  refine al_gives (vs := ?vs2) (v := ?v2) rfl ?ha2 ?hh2 (by kernel_rfl) rfl (by simp only [go_sem, ↓reduceIte, Nat.reduceLT, Nat.reduceEqDiff, Nat.reduceLeDiff, Nat.reduceAdd, Nat.reduceMul, Int.reduceLT, Int.reduceLE, Int.reduceToNat, BitVec.reduceOfInt, Nat.reduceBEq]) ?kk2
  case ha2 => simp only [go_sem, ↓reduceIte, Nat.reduceLT, Nat.reduceEqDiff, Nat.reduceLeDiff, Nat.reduceAdd, Nat.reduceMul, Int.reduceLT, Int.reduceLE, Int.reduceToNat, BitVec.reduceOfInt, Nat.reduceBEq]; try rfl
  case hh2 => exact Mask_gives _ _ _
  refine al_pureN 3 (by simp only [go_sem, ↓reduceIte, Nat.reduceLT, Nat.reduceEqDiff, Nat.reduceLeDiff, Nat.reduceAdd, Nat.reduceMul, Int.reduceLT, Int.reduceLE, Int.reduceToNat, BitVec.reduceOfInt, Nat.reduceBEq]; try rfl) ?_
  refine al_gives (vs := ?vs3) (v := ?v3) rfl ?ha3 ?hh3 (by kernel_rfl) rfl (by simp only [go_sem, ↓reduceIte, Nat.reduceLT, Nat.reduceEqDiff, Nat.reduceLeDiff, Nat.reduceAdd, Nat.reduceMul, Int.reduceLT, Int.reduceLE, Int.reduceToNat, BitVec.reduceOfInt, Nat.reduceBEq]) ?kk3
  case ha3 => simp only [go_sem, ↓reduceIte, Nat.reduceLT, Nat.reduceEqDiff, Nat.reduceLeDiff, Nat.reduceAdd, Nat.reduceMul, Int.reduceLT, Int.reduceLE, Int.reduceToNat, BitVec.reduceOfInt, Nat.reduceBEq]; try rfl
  case hh3 => exact Mask_gives _ _ _
  refine al_pureN 3 (by simp only [go_sem, ↓reduceIte, Nat.reduceLT, Nat.reduceEqDiff, Nat.reduceLeDiff, Nat.reduceAdd, Nat.reduceMul, Int.reduceLT, Int.reduceLE, Int.reduceToNat, BitVec.reduceOfInt, Nat.reduceBEq]; try rfl) ?_
  refine al_end [6, 7, 8, 9] ?_
  rw [hl]
  have hg : Go.Tab.Good n n ((t &&& u) &&& maskT n) (t &&& maskT n) := ⟨fun k hk => by
    rw [BitVec.getLsbD_and, BitVec.getLsbD_and, Bool.and_eq_true, Bool.and_eq_true] at hk
    rw [BitVec.getLsbD_and, Bool.and_eq_true]; exact ⟨hk.1.1, hk.2⟩, tab_and hnn t, fun i hi hin => by omega, fun i hi hin => by omega⟩
  generalize (t &&& u) &&& maskT n = L at hg ⊢
  generalize t &&& maskT n = U at hg ⊢
  have hIR : IsopR L U n = ((isopG n n L U).1, 0) := by
    rw [IsopR, if_pos ⟨validT_iff.2 ⟨n, rfl, hnn, hg.tabL⟩, validT_iff.2 ⟨n, rfl, hnn, hg.tab⟩, sub_iff.2 hg.sub⟩, Int.toNat_natCast]
  have hC := cover_isop hnn hg
  have hok := isopG_ok hnn n L U (Nat.le_refl _) hg
  have hones := isop_ones hnn hg
  have hsm := isop_small8 hnn L U
  have hlen := isop_len6 hnn L U
  have hIs := Isop_ok L U n N σ
  rw [hIR] at hIs
  generalize isopG n n L U = r at hIR hC hok hones hsm hlen hIs
  first | refine awp_seq (awp_lit ?_) | refine awp_lit ?_ | refine awp_seq (awp_seq (awp_lit ?_))
  refine al_pureN 3 (by simp only [go_sem, ↓reduceIte, Nat.reduceLT, Nat.reduceEqDiff, Nat.reduceLeDiff, Nat.reduceAdd, Nat.reduceMul, Int.reduceLT, Int.reduceLE, Int.reduceToNat, BitVec.reduceOfInt, Nat.reduceBEq]; try rfl) ?_
  refine al_fun (hIs) rfl (by simp only [go_sem, ↓reduceIte, Nat.reduceLT, Nat.reduceEqDiff, Nat.reduceLeDiff, Nat.reduceAdd, Nat.reduceMul, Int.reduceLT, Int.reduceLE, Int.reduceToNat, BitVec.reduceOfInt, Nat.reduceBEq]; try rfl) (by kernel_rfl) rfl (by simp only [go_sem, ↓reduceIte, Nat.reduceLT, Nat.reduceEqDiff, Nat.reduceLeDiff, Nat.reduceAdd, Nat.reduceMul, Int.reduceLT, Int.reduceLE, Int.reduceToNat, BitVec.reduceOfInt, Nat.reduceBEq]; try rfl) ?_
  rintro v1 N1 σ1 ⟨sv, rfl, hown, hN1, hle⟩
  have hrow := rows_own hown
  have hrl : (cubes r.1).length = r.1.length := by simp [cubes]
  obtain ⟨bb, cc, rfl⟩ := hrow.len
  rw [hrl] at hrow ⊢
  refine al_pureN 5 (by simp only [go_sem, ↓reduceIte, Nat.reduceLT, Nat.reduceEqDiff, Nat.reduceLeDiff, Nat.reduceAdd, Nat.reduceMul, Int.reduceLT, Int.reduceLE, Int.reduceToNat, BitVec.reduceOfInt, Nat.reduceBEq, tupC]; try rfl) ?_
  refine al_end [7, 8, 9, 10, 11] ?_
  have hcv := Cover_gives r.1 (by omega) hsm n _ N1 σ1 hrow
  rw [hC] at hcv
  first | refine awp_seq (awp_lit ?_) | refine awp_lit ?_ | refine awp_seq (awp_seq (awp_lit ?_))
  refine al_pureN 2 (by simp only [go_sem, ↓reduceIte, Nat.reduceLT, Nat.reduceEqDiff, Nat.reduceLeDiff, Nat.reduceAdd, Nat.reduceMul, Int.reduceLT, Int.reduceLE, Int.reduceToNat, BitVec.reduceOfInt, Nat.reduceBEq]; try rfl) ?_
  refine al_gives (vs := ?vs4) (v := ?v4) rfl ?ha4 ?hh4 (by kernel_rfl) rfl (by simp only [go_sem, ↓reduceIte, Nat.reduceLT, Nat.reduceEqDiff, Nat.reduceLeDiff, Nat.reduceAdd, Nat.reduceMul, Int.reduceLT, Int.reduceLE, Int.reduceToNat, BitVec.reduceOfInt, Nat.reduceBEq]) ?kk4
  case ha4 => simp only [go_sem, ↓reduceIte, Nat.reduceLT, Nat.reduceEqDiff, Nat.reduceLeDiff, Nat.reduceAdd, Nat.reduceMul, Int.reduceLT, Int.reduceLE, Int.reduceToNat, BitVec.reduceOfInt, Nat.reduceBEq]; try rfl
  case hh4 => exact hcv
  refine al_pureN 5 (by simp only [go_sem, ↓reduceIte, Nat.reduceLT, Nat.reduceEqDiff, Nat.reduceLeDiff, Nat.reduceAdd, Nat.reduceMul, Int.reduceLT, Int.reduceLE, Int.reduceToNat, BitVec.reduceOfInt, Nat.reduceBEq, tup2]; try rfl) ?_
  refine al_end [7, 8, 9, 10, 11, 12, 13] ?_
  refine awp_seq (awp_pures [7, 8, 9, 10, 11, 12, 13, 14] (by simp only [go_sem, ↓reduceIte, Nat.reduceLT, Nat.reduceEqDiff, Nat.reduceLeDiff, Nat.reduceAdd, Nat.reduceMul, Int.reduceLT, Int.reduceLE, Int.reduceToNat, BitVec.reduceOfInt, Nat.reduceBEq]; try rfl) ?_)
  refine awp_seq ?_
  refine awp_seq (awp_pures [7, 8, 9, 10, 11, 12, 13, 14, 15] (by simp only [go_sem, ↓reduceIte, Nat.reduceLT, Nat.reduceEqDiff, Nat.reduceLeDiff, Nat.reduceAdd, Nat.reduceMul, Int.reduceLT, Int.reduceLE, Int.reduceToNat, BitVec.reduceOfInt, Nat.reduceBEq]; try rfl) ?_)
  have h64 := two_pow_le6 hnn
  refine awp_block (awp_loop ?_)
  refine ALoop.cast3 (aloop_ind (α := Nat) (fun j => j ≤ 2 ^ n) (fun j => 2 ^ n - j)
    (fun j => [(7, .int .i64 n), (8, .int .u64 L.toNat), (9, .int .u64 U.toNat), (10, .slice bb r.1.length cc), (11, .int .i64 0), (12, .int .u64 r.2.toNat), (13, .int .i64 0), (14, .int .i64 (ones L j)), (15, .int .i64 j)]) (fun _ => N1) (fun _ => σ1) ?_ 0 (by simp)) rfl rfl rfl
  intro j hj ih
  by_cases hlt : j < 2 ^ n
  · have hb1 : decide ((j : Int) < (2 ^ n : Nat)) = true := decide_eq_true (Int.ofNat_lt.2 hlt)
    have hol := ones_le L j
    have hih := ih (j + 1) hlt (by omega)
    simp only [ones] at hih
    refine awp_seq ?_
    refine awp_seq (awp_pures [7, 8, 9, 10, 11, 12, 13, 14, 15, 47] (by simp only [go_sem, ↓reduceIte, Nat.reduceLT, Nat.reduceEqDiff, Nat.reduceLeDiff, Nat.reduceAdd, Nat.reduceMul, Int.reduceLT, Int.reduceLE, Int.reduceToNat, BitVec.reduceOfInt, Nat.reduceBEq, i64_shl_one (show n ≤ 62 by omega), hb1]; try rfl) ?_)
    refine awp_if rfl (fun _ => ?_) (fun h => by cases h)
    refine awp_skip ?_
    refine awp_seq (awp_block ?_)
    first | refine awp_seq (awp_lit ?_) | refine awp_lit ?_ | refine awp_seq (awp_seq (awp_lit ?_))
    refine al_pureN 2 (by simp only [go_sem, ↓reduceIte, Nat.reduceLT, Nat.reduceEqDiff, Nat.reduceLeDiff, Nat.reduceAdd, Nat.reduceMul, Int.reduceLT, Int.reduceLE, Int.reduceToNat, BitVec.reduceOfInt, Nat.reduceBEq]; try rfl) ?_
    refine al_gives (vs := ?vs5) (v := ?v5) rfl ?ha5 ?hh5 (by kernel_rfl) rfl (by simp only [go_sem, ↓reduceIte, Nat.reduceLT, Nat.reduceEqDiff, Nat.reduceLeDiff, Nat.reduceAdd, Nat.reduceMul, Int.reduceLT, Int.reduceLE, Int.reduceToNat, BitVec.reduceOfInt, Nat.reduceBEq]) ?kk5
    case ha5 => simp only [go_sem, ↓reduceIte, Nat.reduceLT, Nat.reduceEqDiff, Nat.reduceLeDiff, Nat.reduceAdd, Nat.reduceMul, Int.reduceLT, Int.reduceLE, Int.reduceToNat, BitVec.reduceOfInt, Nat.reduceBEq]; try rfl
    case hh5 => exact Eval_gives _ _ _ _
    rw [evT_nat]
    refine al_end [7, 8, 9, 10, 11, 12, 13, 14, 15, 52] ?_
    cases hev : L.getLsbD j with
    | true =>
      rw [hev] at hih
      refine awp_if rfl (fun _ => ?_) (fun h => by cases h)
      refine awp_pures [7, 8, 9, 10, 11, 12, 13, 14, 15] (by simp only [go_sem, ↓reduceIte, Nat.reduceLT, Nat.reduceEqDiff, Nat.reduceLeDiff, Nat.reduceAdd, Nat.reduceMul, Int.reduceLT, Int.reduceLE, Int.reduceToNat, BitVec.reduceOfInt, Nat.reduceBEq, i64_add (show -9223372036854775808 ≤ (ones L j : Int) + 1 ∧ (ones L j : Int) + 1 ≤ 9223372036854775807 by omega)]; try rfl) ?_
      refine awp_pures [7, 8, 9, 10, 11, 12, 13, 14, 15] (by simp only [go_sem, ↓reduceIte, Nat.reduceLT, Nat.reduceEqDiff, Nat.reduceLeDiff, Nat.reduceAdd, Nat.reduceMul, Int.reduceLT, Int.reduceLE, Int.reduceToNat, BitVec.reduceOfInt, Nat.reduceBEq, i64_add (show -9223372036854775808 ≤ (j : Int) + 1 ∧ (j : Int) + 1 ≤ 9223372036854775807 by omega)]; try rfl) ?_
      exact hih.cast (by simp only [go_sem, ↓reduceIte, Nat.reduceLT, Nat.reduceEqDiff, Nat.reduceLeDiff, Nat.reduceAdd, Nat.reduceMul, Int.reduceLT, Int.reduceLE, Int.reduceToNat, BitVec.reduceOfInt, Nat.reduceBEq]; try rfl)
    | false =>
      rw [hev] at hih
      refine awp_if rfl (fun h => by cases h) (fun _ => ?_)
      refine awp_skip ?_
      refine awp_pures [7, 8, 9, 10, 11, 12, 13, 14, 15] (by simp only [go_sem, ↓reduceIte, Nat.reduceLT, Nat.reduceEqDiff, Nat.reduceLeDiff, Nat.reduceAdd, Nat.reduceMul, Int.reduceLT, Int.reduceLE, Int.reduceToNat, BitVec.reduceOfInt, Nat.reduceBEq, i64_add (show -9223372036854775808 ≤ (j : Int) + 1 ∧ (j : Int) + 1 ≤ 9223372036854775807 by omega)]; try rfl) ?_
      exact hih.cast (by simp only [go_sem, ↓reduceIte, Nat.reduceLT, Nat.reduceEqDiff, Nat.reduceLeDiff, Nat.reduceAdd, Nat.reduceMul, Int.reduceLT, Int.reduceLE, Int.reduceToNat, BitVec.reduceOfInt, Nat.reduceBEq]; try rfl)
  · have hb1 : decide ((j : Int) < (2 ^ n : Nat)) = false := decide_eq_false fun h => hlt (Int.ofNat_lt.1 h)
    have hj2 : j = 2 ^ n := by omega
    refine awp_seq ?_
    refine awp_seq (awp_pures [7, 8, 9, 10, 11, 12, 13, 14, 15, 47] (by simp only [go_sem, ↓reduceIte, Nat.reduceLT, Nat.reduceEqDiff, Nat.reduceLeDiff, Nat.reduceAdd, Nat.reduceMul, Int.reduceLT, Int.reduceLE, Int.reduceToNat, BitVec.reduceOfInt, Nat.reduceBEq, i64_shl_one (show n ≤ 62 by omega), hb1]; try rfl) ?_)
    refine awp_if rfl (fun h => by cases h) (fun _ => ?_)
    refine awp_exit ?_
    simp only [Go.Abs.Seq, Go.Abs.Round, Go.Abs.InBlock, ↓reduceIte]
    subst hj2
    have c1 : decide (L &&& ~~~ r.2 = 0#64) = true := decide_eq_true (sub_iff.2 hok.low)
    have c2 : decide (r.2 &&& ~~~ U = 0#64) = true := decide_eq_true (sub_iff.2 hok.up)
    have c3 : decide ((r.1.length : Int) ≤ (ones L (2 ^ n) : Int)) = true := decide_eq_true (Int.ofNat_le.2 hones)
    first | refine awp_seq (awp_lit ?_) | refine awp_lit ?_ | refine awp_seq (awp_seq (awp_lit ?_))
    refine al_pureN 3 (by simp only [go_sem, ↓reduceIte, Nat.reduceLT, Nat.reduceEqDiff, Nat.reduceLeDiff, Nat.reduceAdd, Nat.reduceMul, Int.reduceLT, Int.reduceLE, Int.reduceToNat, BitVec.reduceOfInt, Nat.reduceBEq]; try rfl) ?_
    refine al_pureN 4 (by simp only [go_sem, ↓reduceIte, Nat.reduceLT, Nat.reduceEqDiff, Nat.reduceLeDiff, Nat.reduceAdd, Nat.reduceMul, Int.reduceLT, Int.reduceLE, Int.reduceToNat, BitVec.reduceOfInt, Nat.reduceBEq]; try rfl) ?_
    refine al_pureN 4 (by simp only [go_sem, ↓reduceIte, Nat.reduceLT, Nat.reduceEqDiff, Nat.reduceLeDiff, Nat.reduceAdd, Nat.reduceMul, Int.reduceLT, Int.reduceLE, Int.reduceToNat, BitVec.reduceOfInt, Nat.reduceBEq, c1]; try rfl) ?_
    refine al_pureN 2 (by simp only [go_sem, ↓reduceIte, Nat.reduceLT, Nat.reduceEqDiff, Nat.reduceLeDiff, Nat.reduceAdd, Nat.reduceMul, Int.reduceLT, Int.reduceLE, Int.reduceToNat, BitVec.reduceOfInt, Nat.reduceBEq]; try rfl) ?_
    refine al_pureN 4 (by simp only [go_sem, ↓reduceIte, Nat.reduceLT, Nat.reduceEqDiff, Nat.reduceLeDiff, Nat.reduceAdd, Nat.reduceMul, Int.reduceLT, Int.reduceLE, Int.reduceToNat, BitVec.reduceOfInt, Nat.reduceBEq, c2]; try rfl) ?_
    refine al_pureN 2 (by simp only [go_sem, ↓reduceIte, Nat.reduceLT, Nat.reduceEqDiff, Nat.reduceLeDiff, Nat.reduceAdd, Nat.reduceMul, Int.reduceLT, Int.reduceLE, Int.reduceToNat, BitVec.reduceOfInt, Nat.reduceBEq]; try rfl) ?_
    refine al_pureN 4 (by simp only [go_sem, ↓reduceIte, Nat.reduceLT, Nat.reduceEqDiff, Nat.reduceLeDiff, Nat.reduceAdd, Nat.reduceMul, Int.reduceLT, Int.reduceLE, Int.reduceToNat, BitVec.reduceOfInt, Nat.reduceBEq, c3]; try rfl) ?_
    refine al_pureN 2 (by simp only [go_sem, ↓reduceIte, Nat.reduceLT, Nat.reduceEqDiff, Nat.reduceLeDiff, Nat.reduceAdd, Nat.reduceMul, Int.reduceLT, Int.reduceLE, Int.reduceToNat, BitVec.reduceOfInt, Nat.reduceBEq]; try rfl) ?_
    refine al_end [6] ?_
    exact awp_ret ⟨_, rfl, rfl, hle⟩
end Go.Proofs.Ytbpjoamdcbbnnaa
