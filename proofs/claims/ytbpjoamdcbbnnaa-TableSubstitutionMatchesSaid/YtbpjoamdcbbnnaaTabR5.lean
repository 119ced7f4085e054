/- The walk of the reference's Compose. -/
import Derived.Test.YtbpjoamdcbbnnaaTabR4
import Derived.Test.YtbpjoamdcbbnnaaTabRef3
set_option linter.unusedSimpArgs false
set_option linter.unusedVariables false
namespace Go.Proofs.Ytbpjoamdcbbnnaa
open Go.Abs Go.Tab
attribute [local go_sem] eqA Try.underlying22 Try.underlying3 Try.underlying77 Try.underlying52 Try.underlying23 Try.underlying25 Try.underlying5 Try.underlying4 Try.underlying36 Try.underlying39 Try.underlying41 Try.underlying72 Try.underlying49 Try.underlying26 size22 size3 size23 size5 size4 size39 Nat.mul_one bne_self_eq_false Try.underlying33

theorem size49 : sizeA Try.prog 49 = some 1 := by kernel_rfl
theorem rCompose_gives (t : BitVec 64) (m : Int) (l : List (BitVec 64)) (hl : l.length ≤ 1000000) (q : Int) (sv : Value) (N : Nat) (σ : AHeap) (hs : SlAt σ sv (u64s l)) :
    Gives Try.prog 32 [.int .u64 t.toNat, .int .i64 m, sv, .int .i64 q] N σ (tup2 (ComposeR t m l q)) := by
  have hsl := u64s_len l
  obtain ⟨bb, cc, hv⟩ := hs.len
  refine gives_of rfl (aok_fresh fun hN => aok_body (n := 70) Try.func32 rfl rfl (by simp) ?_)
  subst hv
  rw [hsl] at hs ⊢
  refine awp_seq (awp_pures [0, 1, 2, 3] (by simp only [go_sem, ↓reduceIte, Nat.reduceLT, Nat.reduceEqDiff, Nat.reduceLeDiff, Nat.reduceAdd, Nat.reduceMul, Int.reduceLT, Int.reduceLE, Int.reduceToNat, BitVec.reduceOfInt, Nat.reduceBEq]; try rfl) ?_)
  refine awp_seq ?_
  cases hv : validT t m with
  | false =>
    first | refine awp_seq (awp_lit ?_) | refine awp_lit ?_ | refine awp_seq (awp_seq (awp_lit ?_))
    refine al_pureN 2 (by simp only [go_sem, ↓reduceIte, Nat.reduceLT, Nat.reduceEqDiff, Nat.reduceLeDiff, Nat.reduceAdd, Nat.reduceMul, Int.reduceLT, Int.reduceLE, Int.reduceToNat, BitVec.reduceOfInt, Nat.reduceBEq, hv]; try rfl) ?_
    refine al_gives (vs := ?vs1) (v := ?v1) rfl ?ha1 ?hh1 (by kernel_rfl) rfl (by simp only [go_sem, ↓reduceIte, Nat.reduceLT, Nat.reduceEqDiff, Nat.reduceLeDiff, Nat.reduceAdd, Nat.reduceMul, Int.reduceLT, Int.reduceLE, Int.reduceToNat, BitVec.reduceOfInt, Nat.reduceBEq, hv]) ?kk1
    case ha1 => simp only [go_sem, ↓reduceIte, Nat.reduceLT, Nat.reduceEqDiff, Nat.reduceLeDiff, Nat.reduceAdd, Nat.reduceMul, Int.reduceLT, Int.reduceLE, Int.reduceToNat, BitVec.reduceOfInt, Nat.reduceBEq, hv]; try rfl
    case hh1 => exact rValid_gives _ _ _ _
    refine al_pureN 1 (by simp only [go_sem, ↓reduceIte, Nat.reduceLT, Nat.reduceEqDiff, Nat.reduceLeDiff, Nat.reduceAdd, Nat.reduceMul, Int.reduceLT, Int.reduceLE, Int.reduceToNat, BitVec.reduceOfInt, Nat.reduceBEq, hv]; try rfl) ?_
    refine al_end [0, 1, 2, 3, 18] ?_
    refine awp_if rfl (fun _ => ?_) (fun h => by cases h)
    refine awp_seq (awp_pures [8, 9] (by simp only [go_sem, ↓reduceIte, Nat.reduceLT, Nat.reduceEqDiff, Nat.reduceLeDiff, Nat.reduceAdd, Nat.reduceMul, Int.reduceLT, Int.reduceLE, Int.reduceToNat, BitVec.reduceOfInt, Nat.reduceBEq]; try rfl) ?_)
    exact awp_ret ⟨_, rfl, by simp only [ComposeR, hv, if_true]; rfl, AHeap.le_refl _⟩
  | true =>
    obtain ⟨n, rfl, hn, ht⟩ := validT_iff.1 hv
    first | refine awp_seq (awp_lit ?_) | refine awp_lit ?_ | refine awp_seq (awp_seq (awp_lit ?_))
    refine al_pureN 2 (by simp only [go_sem, ↓reduceIte, Nat.reduceLT, Nat.reduceEqDiff, Nat.reduceLeDiff, Nat.reduceAdd, Nat.reduceMul, Int.reduceLT, Int.reduceLE, Int.reduceToNat, BitVec.reduceOfInt, Nat.reduceBEq, hv]; try rfl) ?_
    refine al_gives (vs := ?vs2) (v := ?v2) rfl ?ha2 ?hh2 (by kernel_rfl) rfl (by simp only [go_sem, ↓reduceIte, Nat.reduceLT, Nat.reduceEqDiff, Nat.reduceLeDiff, Nat.reduceAdd, Nat.reduceMul, Int.reduceLT, Int.reduceLE, Int.reduceToNat, BitVec.reduceOfInt, Nat.reduceBEq, hv]) ?kk2
    case ha2 => simp only [go_sem, ↓reduceIte, Nat.reduceLT, Nat.reduceEqDiff, Nat.reduceLeDiff, Nat.reduceAdd, Nat.reduceMul, Int.reduceLT, Int.reduceLE, Int.reduceToNat, BitVec.reduceOfInt, Nat.reduceBEq, hv]; try rfl
    case hh2 => exact rValid_gives _ _ _ _
    refine al_pureN 1 (by simp only [go_sem, ↓reduceIte, Nat.reduceLT, Nat.reduceEqDiff, Nat.reduceLeDiff, Nat.reduceAdd, Nat.reduceMul, Int.reduceLT, Int.reduceLE, Int.reduceToNat, BitVec.reduceOfInt, Nat.reduceBEq, hv]; try rfl) ?_
    refine al_end [0, 1, 2, 3, 18] ?_
    refine awp_if rfl (fun h => by cases h) (fun _ => ?_)
    refine awp_skip ?_
    refine awp_seq ?_
    by_cases hlen : l.length = n
    · subst hlen
      refine awp_seq (awp_pures [0, 1, 2, 3, 22] (by simp only [go_sem, ↓reduceIte, Nat.reduceLT, Nat.reduceEqDiff, Nat.reduceLeDiff, Nat.reduceAdd, Nat.reduceMul, Int.reduceLT, Int.reduceLE, Int.reduceToNat, BitVec.reduceOfInt, Nat.reduceBEq, bne_self_eq_false]; try rfl) ?_)
      refine awp_if rfl (fun h => by cases h) (fun _ => ?_)
      refine awp_skip ?_
      refine awp_seq ?_
      by_cases hq : validT 0#64 q = true
      · have hqr := (valid_zero q).1 hq
        obtain ⟨m, rfl⟩ : ∃ m : Nat, q = m := ⟨q.toNat, by omega⟩
        have hm : m ≤ 6 := by omega
        have c0 : decide ((m : Int) < 0) = false := decide_eq_false (by omega)
        have c1 : decide ((m : Int) > 6) = false := decide_eq_false (by omega)
        refine awp_seq (awp_pures [0, 1, 2, 3, 28] (by simp only [go_sem, ↓reduceIte, Nat.reduceLT, Nat.reduceEqDiff, Nat.reduceLeDiff, Nat.reduceAdd, Nat.reduceMul, Int.reduceLT, Int.reduceLE, Int.reduceToNat, BitVec.reduceOfInt, Nat.reduceBEq, c0, c1]; try rfl) ?_)
        refine awp_if rfl (fun h => by cases h) (fun _ => ?_)
        refine awp_skip ?_
        refine awp_seq ?_
        refine awp_seq (awp_pures [0, 1, 2, 3, 10] (by simp only [go_sem, ↓reduceIte, Nat.reduceLT, Nat.reduceEqDiff, Nat.reduceLeDiff, Nat.reduceAdd, Nat.reduceMul, Int.reduceLT, Int.reduceLE, Int.reduceToNat, BitVec.reduceOfInt, Nat.reduceBEq]; try rfl) ?_)
        refine awp_block (awp_loop ?_)
        refine ALoop.cast (aloop_ind (α := Nat) (fun i => i ≤ l.length ∧ ∀ x ∈ l.take i, validT x m = true) (fun i => l.length - i)
          (fun i => [(0, .int .u64 t.toNat), (1, .int .i64 l.length), (2, .slice bb l.length cc), (3, .int .i64 m), (10, .int .i64 i)]) (fun _ => N) (fun _ => σ) ?_ 0 ⟨by simp, by simp⟩) rfl
        rintro i ⟨hi, hpre⟩ ih
        by_cases hlt : i < l.length
        · have hb : decide ((i : Int) < (l.length : Int)) = true := by simpa using hlt
          have hj1 : -9223372036854775808 ≤ (i : Int) + 1 ∧ (i : Int) + 1 ≤ 9223372036854775807 := by omega
          have hii : 0 ≤ (i : Int) ∧ (i : Int) < (l.length : Int) := by omega
          obtain ⟨id, off, cap, b, e1, e2, e3⟩ := hs.at (j := i) (by rw [hsl]; exact hlt)
          rw [hsl] at e1
          cases e1
          have e3 : b.cells[off + i]? = some (.int .u64 (l[i]).toNat) := by rw [e3]; simp [u64s]
          have htake : ∀ x, x ∈ l.take (i + 1) ↔ x ∈ l.take i ∨ x = l[i] := fun x => by
            rw [List.take_add_one, List.getElem?_eq_getElem hlt, List.mem_append]; simp
          have hmem : l[i] ∈ l := List.getElem_mem hlt
          generalize l[i] = a at e3 htake hmem
          refine awp_seq ?_
          refine awp_seq (awp_pures [0, 1, 2, 3, 10, 31] (by simp only [go_sem, ↓reduceIte, Nat.reduceLT, Nat.reduceEqDiff, Nat.reduceLeDiff, Nat.reduceAdd, Nat.reduceMul, Int.reduceLT, Int.reduceLE, Int.reduceToNat, BitVec.reduceOfInt, Nat.reduceBEq, hb]; try rfl) ?_)
          refine awp_if rfl (fun _ => ?_) (fun h => by cases h)
          refine awp_skip ?_
          refine awp_seq (awp_block ?_)
          first | refine awp_seq (awp_lit ?_) | refine awp_lit ?_ | refine awp_seq (awp_seq (awp_lit ?_))
          refine al_pureN 3 (by simp only [go_sem, ↓reduceIte, Nat.reduceLT, Nat.reduceEqDiff, Nat.reduceLeDiff, Nat.reduceAdd, Nat.reduceMul, Int.reduceLT, Int.reduceLE, Int.reduceToNat, BitVec.reduceOfInt, Nat.reduceBEq, hii]; try rfl) ?_
          refine al_load rfl (by simp only [go_sem, ↓reduceIte, Nat.reduceLT, Nat.reduceEqDiff, Nat.reduceLeDiff, Nat.reduceAdd, Nat.reduceMul, Int.reduceLT, Int.reduceLE, Int.reduceToNat, BitVec.reduceOfInt, Nat.reduceBEq]) rfl (by simp only [go_sem, ↓reduceIte, Nat.reduceLT, Nat.reduceEqDiff, Nat.reduceLeDiff, Nat.reduceAdd, Nat.reduceMul, Int.reduceLT, Int.reduceLE, Int.reduceToNat, BitVec.reduceOfInt, Nat.reduceBEq]; try rfl) e2 (loadA_scalar agg22 e3) ?_
          refine al_pureN 1 (by simp only [go_sem, ↓reduceIte, Nat.reduceLT, Nat.reduceEqDiff, Nat.reduceLeDiff, Nat.reduceAdd, Nat.reduceMul, Int.reduceLT, Int.reduceLE, Int.reduceToNat, BitVec.reduceOfInt, Nat.reduceBEq]; try rfl) ?_
          refine al_gives (vs := ?vs3) (v := ?v3) rfl ?ha3 ?hh3 (by kernel_rfl) rfl (by simp only [go_sem, ↓reduceIte, Nat.reduceLT, Nat.reduceEqDiff, Nat.reduceLeDiff, Nat.reduceAdd, Nat.reduceMul, Int.reduceLT, Int.reduceLE, Int.reduceToNat, BitVec.reduceOfInt, Nat.reduceBEq]) ?kk3
          case ha3 => simp only [go_sem, ↓reduceIte, Nat.reduceLT, Nat.reduceEqDiff, Nat.reduceLeDiff, Nat.reduceAdd, Nat.reduceMul, Int.reduceLT, Int.reduceLE, Int.reduceToNat, BitVec.reduceOfInt, Nat.reduceBEq]; try rfl
          case hh3 => exact rValid_gives _ _ _ _
          refine al_pureN 1 (by simp only [go_sem, ↓reduceIte, Nat.reduceLT, Nat.reduceEqDiff, Nat.reduceLeDiff, Nat.reduceAdd, Nat.reduceMul, Int.reduceLT, Int.reduceLE, Int.reduceToNat, BitVec.reduceOfInt, Nat.reduceBEq]; try rfl) ?_
          refine al_end [0, 1, 2, 3, 10, 40] ?_
          cases ha : validT a m with
          | true =>
            refine awp_if rfl (fun h => by cases h) (fun _ => ?_)
            refine awp_skip ?_
            refine awp_pures [0, 1, 2, 3, 10] (by simp only [go_sem, ↓reduceIte, Nat.reduceLT, Nat.reduceEqDiff, Nat.reduceLeDiff, Nat.reduceAdd, Nat.reduceMul, Int.reduceLT, Int.reduceLE, Int.reduceToNat, BitVec.reduceOfInt, Nat.reduceBEq, i64_add hj1]; try rfl) ?_
            refine (ih (i + 1) ⟨hlt, fun x hx => ((htake x).1 hx).elim (hpre x) fun e => e ▸ ha⟩ (by omega)).cast (by first | (simp only [go_sem, ↓reduceIte, Nat.reduceLT, Nat.reduceEqDiff, Nat.reduceLeDiff, Nat.reduceAdd, Nat.reduceMul, Int.reduceLT, Int.reduceLE, Int.reduceToNat, BitVec.reduceOfInt, Nat.reduceBEq]; try rfl) | rfl)
          | false =>
            refine awp_if rfl (fun _ => ?_) (fun h => by cases h)
            refine awp_seq (awp_pures [8, 9] (by simp only [go_sem, ↓reduceIte, Nat.reduceLT, Nat.reduceEqDiff, Nat.reduceLeDiff, Nat.reduceAdd, Nat.reduceMul, Int.reduceLT, Int.reduceLE, Int.reduceToNat, BitVec.reduceOfInt, Nat.reduceBEq]; try rfl) ?_)
            refine awp_ret ⟨_, rfl, ?_, AHeap.le_refl _⟩
            have : (l.any fun x => !validT x m) = true := List.any_eq_true.2 ⟨a, hmem, by rw [ha]; rfl⟩
            simp only [ComposeR, hv, Bool.true_eq_false, if_false, ne_eq, not_true_eq_false, this, or_true, if_true]; rfl
        · have hb : decide ((i : Int) < (l.length : Int)) = false := by simpa using hlt
          have hil : i = l.length := by omega
          subst hil
          rw [List.take_length] at hpre
          have hany : (l.any fun x => !validT x m) = false := List.any_eq_false.2 fun x hx => by rw [hpre x hx]; simp
          have fin : ComposeR t (l.length : Nat) l (m : Nat) = (compGo t l (maskT m) (2 ^ l.length) 0 0#64, 0) := by
            simp only [ComposeR, hv, Bool.true_eq_false, if_false, ne_eq, not_true_eq_false, hq, hany, or_self, Int.toNat_natCast, lim_of hm]
            simp
          have h64 := two_pow_le6 hm
          have hw := u64_wrap_nat (show m < 18446744073709551616 by omega)
          refine awp_seq ?_
          refine awp_seq (awp_pures [0, 1, 2, 3, 10, 31] (by simp only [go_sem, ↓reduceIte, Nat.reduceLT, Nat.reduceEqDiff, Nat.reduceLeDiff, Nat.reduceAdd, Nat.reduceMul, Int.reduceLT, Int.reduceLE, Int.reduceToNat, BitVec.reduceOfInt, Nat.reduceBEq, hb]; try rfl) ?_)
          refine awp_if rfl (fun h => by cases h) (fun _ => ?_)
          refine awp_exit ?_
          simp only [Go.Abs.Seq, Go.Abs.Round, Go.Abs.InBlock, ↓reduceIte]
          refine awp_seq (awp_pures [0, 1, 2, 3, 11] (by simp only [go_sem, ↓reduceIte, Nat.reduceLT, Nat.reduceEqDiff, Nat.reduceLeDiff, Nat.reduceAdd, Nat.reduceMul, Int.reduceLT, Int.reduceLE, Int.reduceToNat, BitVec.reduceOfInt, Nat.reduceBEq]; try rfl) ?_)
          refine awp_seq ?_
          refine awp_seq (awp_pures [0, 1, 2, 3, 11, 12] (by simp only [go_sem, ↓reduceIte, Nat.reduceLT, Nat.reduceEqDiff, Nat.reduceLeDiff, Nat.reduceAdd, Nat.reduceMul, Int.reduceLT, Int.reduceLE, Int.reduceToNat, BitVec.reduceOfInt, Nat.reduceBEq]; try rfl) ?_)
          refine awp_block (awp_loop ?_)
          refine ALoop.cast3 (aloop_ind (α := Nat × Value × Nat × AHeap)
            (fun x => x.1 ≤ 2 ^ m ∧ N ≤ x.2.2.1 ∧ OwnAt x.2.2.2 N x.2.1 (bools ((List.range x.1).map fun k => t.getLsbD (compX k l l.length))) x.1 1 ∧ σ.le x.2.2.2) (fun x => 2 ^ m - x.1)
            (fun x => [(0, .int .u64 t.toNat), (1, .int .i64 l.length), (2, .slice bb l.length cc), (3, .int .i64 m), (11, x.2.1), (12, .int .i64 x.1)]) (fun x => x.2.2.1) (fun x => x.2.2.2) ?_
            (0, .slice none 0 0, N, σ) ⟨by simp, by simp, OwnAt.nil, AHeap.le_refl _⟩) rfl rfl rfl
          rintro ⟨k, av, Nk, σk⟩ ⟨hk, hNk, hown, hlek⟩ ih3
          simp only at hk hNk hown hlek ⊢
          by_cases hlt : k < 2 ^ m
          · have hb : decide ((k : Int) < ((2 ^ m : Nat) : Int)) = true := decide_eq_true (Int.ofNat_lt.2 hlt)
            have hj1 : -9223372036854775808 ≤ (k : Int) + 1 ∧ (k : Int) + 1 ≤ 9223372036854775807 := by omega
            refine awp_seq ?_
            refine awp_seq (awp_pures [0, 1, 2, 3, 11, 12, 45] (by simp only [go_sem, ↓reduceIte, Nat.reduceLT, Nat.reduceEqDiff, Nat.reduceLeDiff, Nat.reduceAdd, Nat.reduceMul, Int.reduceLT, Int.reduceLE, Int.reduceToNat, BitVec.reduceOfInt, Nat.reduceBEq, hw, i64_shl_one (show m ≤ 62 by omega), hb]; try rfl) ?_)
            refine awp_if rfl (fun _ => ?_) (fun h => by cases h)
            refine awp_skip ?_
            refine awp_seq (awp_block ?_)
            refine awp_seq (awp_pures [0, 1, 2, 3, 11, 12, 13] (by simp only [go_sem, ↓reduceIte, Nat.reduceLT, Nat.reduceEqDiff, Nat.reduceLeDiff, Nat.reduceAdd, Nat.reduceMul, Int.reduceLT, Int.reduceLE, Int.reduceToNat, BitVec.reduceOfInt, Nat.reduceBEq]; try rfl) ?_)
            refine awp_seq ?_
            refine awp_seq (awp_pures [0, 1, 2, 3, 11, 12, 13, 14] (by simp only [go_sem, ↓reduceIte, Nat.reduceLT, Nat.reduceEqDiff, Nat.reduceLeDiff, Nat.reduceAdd, Nat.reduceMul, Int.reduceLT, Int.reduceLE, Int.reduceToNat, BitVec.reduceOfInt, Nat.reduceBEq]; try rfl) ?_)
            refine awp_block (awp_loop ?_)
            refine ALoop.cast3 (aloop_ind (α := Nat) (fun i => i ≤ l.length) (fun i => l.length - i)
              (fun i => [(0, .int .u64 t.toNat), (1, .int .i64 l.length), (2, .slice bb l.length cc), (3, .int .i64 m), (11, av), (12, .int .i64 k), (13, .int .i64 (compX k l i)), (14, .int .i64 i)]) (fun _ => Nk) (fun _ => σk) ?_
              0 (by simp)) rfl rfl rfl
            intro i hi ih2
            by_cases hin : i < l.length
            · have hb2 : decide ((i : Int) < (l.length : Int)) = true := decide_eq_true (by omega)
              have hj2 : -9223372036854775808 ≤ (i : Int) + 1 ∧ (i : Int) + 1 ≤ 9223372036854775807 := by omega
              refine awp_seq ?_
              refine awp_seq (awp_pures [0, 1, 2, 3, 11, 12, 13, 14, 50] (by simp only [go_sem, ↓reduceIte, Nat.reduceLT, Nat.reduceEqDiff, Nat.reduceLeDiff, Nat.reduceAdd, Nat.reduceMul, Int.reduceLT, Int.reduceLE, Int.reduceToNat, BitVec.reduceOfInt, Nat.reduceBEq, hb2]; try rfl) ?_)
              refine awp_if rfl (fun _ => ?_) (fun h => by cases h)
              refine awp_skip ?_
              obtain ⟨id, off, cap, b, e1, e2, e3⟩ := (hs.mono hlek).at (j := i) (by rw [hsl]; exact hin)
              rw [hsl] at e1
              cases e1
              have e3 : b.cells[off + i]? = some (.int .u64 (l[i]).toNat) := by rw [e3]; simp [u64s]
              have hii : 0 ≤ (i : Int) ∧ (i : Int) < (l.length : Int) := by omega
              have hget : l.getD i 0#64 = l[i] := by rw [List.getD_eq_getElem?_getD, List.getElem?_eq_getElem hin]; rfl
              have hstep : compX k l (i + 1) = setb (compX k l i) i ((l[i]).getLsbD k) := by rw [compX, hget]
              generalize l[i] = a at e3 hstep
              have hrx : compX k l i ≤ 9223372036854775807 := by
                have h1 := compX_lt k l i
                have h2 : 2 ^ i ≤ 2 ^ 6 := Nat.pow_le_pow_right (by omega) (by omega)
                omega
              refine awp_seq (awp_block ?_)
              refine awp_lit ?_
              refine al_pureN 5 (by simp only [go_sem, ↓reduceIte, Nat.reduceLT, Nat.reduceEqDiff, Nat.reduceLeDiff, Nat.reduceAdd, Nat.reduceMul, Int.reduceLT, Int.reduceLE, Int.reduceToNat, BitVec.reduceOfInt, Nat.reduceBEq, hii]; try rfl) ?_
              refine al_load rfl (by simp only [go_sem, ↓reduceIte, Nat.reduceLT, Nat.reduceEqDiff, Nat.reduceLeDiff, Nat.reduceAdd, Nat.reduceMul, Int.reduceLT, Int.reduceLE, Int.reduceToNat, BitVec.reduceOfInt, Nat.reduceBEq]) rfl (by simp only [go_sem, ↓reduceIte, Nat.reduceLT, Nat.reduceEqDiff, Nat.reduceLeDiff, Nat.reduceAdd, Nat.reduceMul, Int.reduceLT, Int.reduceLE, Int.reduceToNat, BitVec.reduceOfInt, Nat.reduceBEq]; try rfl) e2 (loadA_scalar agg22 e3) ?_
              refine al_pureN 1 (by simp only [go_sem, ↓reduceIte, Nat.reduceLT, Nat.reduceEqDiff, Nat.reduceLeDiff, Nat.reduceAdd, Nat.reduceMul, Int.reduceLT, Int.reduceLE, Int.reduceToNat, BitVec.reduceOfInt, Nat.reduceBEq]; try rfl) ?_
              refine al_gives (vs := ?vs4) (v := ?v4) rfl ?ha4 ?hh4 (by kernel_rfl) rfl (by simp only [go_sem, ↓reduceIte, Nat.reduceLT, Nat.reduceEqDiff, Nat.reduceLeDiff, Nat.reduceAdd, Nat.reduceMul, Int.reduceLT, Int.reduceLE, Int.reduceToNat, BitVec.reduceOfInt, Nat.reduceBEq]) ?kk4
              case ha4 => simp only [go_sem, ↓reduceIte, Nat.reduceLT, Nat.reduceEqDiff, Nat.reduceLeDiff, Nat.reduceAdd, Nat.reduceMul, Int.reduceLT, Int.reduceLE, Int.reduceToNat, BitVec.reduceOfInt, Nat.reduceBEq]; try rfl
              case hh4 => exact rEval_gives _ _ _ _
              rw [evT_nat]
              refine al_gives (vs := ?vs5) (v := ?v5) rfl ?ha5 ?hh5 (by kernel_rfl) rfl (by simp only [go_sem, ↓reduceIte, Nat.reduceLT, Nat.reduceEqDiff, Nat.reduceLeDiff, Nat.reduceAdd, Nat.reduceMul, Int.reduceLT, Int.reduceLE, Int.reduceToNat, BitVec.reduceOfInt, Nat.reduceBEq]) ?kk5
              case ha5 => simp only [go_sem, ↓reduceIte, Nat.reduceLT, Nat.reduceEqDiff, Nat.reduceLeDiff, Nat.reduceAdd, Nat.reduceMul, Int.reduceLT, Int.reduceLE, Int.reduceToNat, BitVec.reduceOfInt, Nat.reduceBEq]; try rfl
              case hh5 => exact set_gives (compX k l i) i (a.getLsbD k) (by omega) (by omega) _ _
              refine al_pureN 1 (by simp only [go_sem, ↓reduceIte, Nat.reduceLT, Nat.reduceEqDiff, Nat.reduceLeDiff, Nat.reduceAdd, Nat.reduceMul, Int.reduceLT, Int.reduceLE, Int.reduceToNat, BitVec.reduceOfInt, Nat.reduceBEq]; try rfl) ?_
              refine al_end [0, 1, 2, 3, 11, 12, 13, 14] ?_
              rw [← hstep]
              refine awp_pures [0, 1, 2, 3, 11, 12, 13, 14] (by simp only [go_sem, ↓reduceIte, Nat.reduceLT, Nat.reduceEqDiff, Nat.reduceLeDiff, Nat.reduceAdd, Nat.reduceMul, Int.reduceLT, Int.reduceLE, Int.reduceToNat, BitVec.reduceOfInt, Nat.reduceBEq, i64_add hj2]; try rfl) ?_
              refine (ih2 (i + 1) (by omega) (by omega)).cast (by first | (simp only [go_sem, ↓reduceIte, Nat.reduceLT, Nat.reduceEqDiff, Nat.reduceLeDiff, Nat.reduceAdd, Nat.reduceMul, Int.reduceLT, Int.reduceLE, Int.reduceToNat, BitVec.reduceOfInt, Nat.reduceBEq]; try rfl) | rfl)
            · have hb2 : decide ((i : Int) < (l.length : Int)) = false := decide_eq_false (by omega)
              have hii : i = l.length := by omega
              subst hii
              refine awp_seq ?_
              refine awp_seq (awp_pures [0, 1, 2, 3, 11, 12, 13, 14, 50] (by simp only [go_sem, ↓reduceIte, Nat.reduceLT, Nat.reduceEqDiff, Nat.reduceLeDiff, Nat.reduceAdd, Nat.reduceMul, Int.reduceLT, Int.reduceLE, Int.reduceToNat, BitVec.reduceOfInt, Nat.reduceBEq, hb2]; try rfl) ?_)
              refine awp_if rfl (fun h => by cases h) (fun _ => ?_)
              refine awp_exit ?_
              simp only [Go.Abs.Seq, Go.Abs.Round, Go.Abs.InBlock, ↓reduceIte]
              refine awp_lit ?_
              refine al_pureN 3 (by simp only [go_sem, ↓reduceIte, Nat.reduceLT, Nat.reduceEqDiff, Nat.reduceLeDiff, Nat.reduceAdd, Nat.reduceMul, Int.reduceLT, Int.reduceLE, Int.reduceToNat, BitVec.reduceOfInt, Nat.reduceBEq]; try rfl) ?_
              refine al_gives (vs := ?vs6) (v := ?v6) rfl ?ha6 ?hh6 (by kernel_rfl) rfl (by simp only [go_sem, ↓reduceIte, Nat.reduceLT, Nat.reduceEqDiff, Nat.reduceLeDiff, Nat.reduceAdd, Nat.reduceMul, Int.reduceLT, Int.reduceLE, Int.reduceToNat, BitVec.reduceOfInt, Nat.reduceBEq]) ?kk6
              case ha6 => simp only [go_sem, ↓reduceIte, Nat.reduceLT, Nat.reduceEqDiff, Nat.reduceLeDiff, Nat.reduceAdd, Nat.reduceMul, Int.reduceLT, Int.reduceLE, Int.reduceToNat, BitVec.reduceOfInt, Nat.reduceBEq]; try rfl
              case hh6 => exact rEval_gives _ _ _ _
              rw [evT_nat]
              refine al_push rfl rfl rfl (by simp only [go_sem, ↓reduceIte, Nat.reduceLT, Nat.reduceEqDiff, Nat.reduceLeDiff, Nat.reduceAdd, Nat.reduceMul, Int.reduceLT, Int.reduceLE, Int.reduceToNat, BitVec.reduceOfInt, Nat.reduceBEq]; try rfl) (by simp only [go_sem, ↓reduceIte, Nat.reduceLT, Nat.reduceEqDiff, Nat.reduceLeDiff, Nat.reduceAdd, Nat.reduceMul, Int.reduceLT, Int.reduceLE, Int.reduceToNat, BitVec.reduceOfInt, Nat.reduceBEq]; try rfl) rfl rfl Try.underlying72 ty4 rfl rfl rfl (by simp only [go_sem, ↓reduceIte, Nat.reduceLT, Nat.reduceEqDiff, Nat.reduceLeDiff, Nat.reduceAdd, Nat.reduceMul, Int.reduceLT, Int.reduceLE, Int.reduceToNat, BitVec.reduceOfInt, Nat.reduceBEq]; try rfl) (by simp only [go_sem, ↓reduceIte, Nat.reduceLT, Nat.reduceEqDiff, Nat.reduceLeDiff, Nat.reduceAdd, Nat.reduceMul, Int.reduceLT, Int.reduceLE, Int.reduceToNat, BitVec.reduceOfInt, Nat.reduceBEq]; try rfl) rfl rfl hown (by omega) (by omega) (by omega) ?_
              intro N' σ' v' hN' hown' hkeep
              refine al_pureN 1 (by simp only [go_sem, ↓reduceIte, Nat.reduceLT, Nat.reduceEqDiff, Nat.reduceLeDiff, Nat.reduceAdd, Nat.reduceMul, Int.reduceLT, Int.reduceLE, Int.reduceToNat, BitVec.reduceOfInt, Nat.reduceBEq]; try rfl) ?_
              refine al_end [0, 1, 2, 3, 11, 12] ?_
              refine awp_pures [0, 1, 2, 3, 11, 12] (by simp only [go_sem, ↓reduceIte, Nat.reduceLT, Nat.reduceEqDiff, Nat.reduceLeDiff, Nat.reduceAdd, Nat.reduceMul, Int.reduceLT, Int.reduceLE, Int.reduceToNat, BitVec.reduceOfInt, Nat.reduceBEq, i64_add hj1]; try rfl) ?_
              refine ALoop.cast (ih3 (k + 1, v', N', σ') ⟨hlt, by simp; omega, by rw [range_bools (fun k => t.getLsbD (compX k l l.length))] at hown'; exact hown', hkeep σ hlek hN⟩ (by simp; omega)) (by first | (simp only [go_sem]; try rfl) | rfl)
          · have hb : decide ((k : Int) < ((2 ^ m : Nat) : Int)) = false := decide_eq_false fun h => hlt (Int.ofNat_lt.1 h)
            have hkl : k = 2 ^ m := by omega
            subst hkl
            refine awp_seq ?_
            refine awp_seq (awp_pures [0, 1, 2, 3, 11, 12, 45] (by simp only [go_sem, ↓reduceIte, Nat.reduceLT, Nat.reduceEqDiff, Nat.reduceLeDiff, Nat.reduceAdd, Nat.reduceMul, Int.reduceLT, Int.reduceLE, Int.reduceToNat, BitVec.reduceOfInt, Nat.reduceBEq, hw, i64_shl_one (show m ≤ 62 by omega), hb]; try rfl) ?_)
            refine awp_if rfl (fun h => by cases h) (fun _ => ?_)
            refine awp_exit ?_
            simp only [Go.Abs.Seq, Go.Abs.Round, Go.Abs.InBlock, ↓reduceIte]
            first | refine awp_seq (awp_lit ?_) | refine awp_lit ?_ | refine awp_seq (awp_seq (awp_lit ?_))
            refine al_pureN 1 (by simp only [go_sem, ↓reduceIte, Nat.reduceLT, Nat.reduceEqDiff, Nat.reduceLeDiff, Nat.reduceAdd, Nat.reduceMul, Int.reduceLT, Int.reduceLE, Int.reduceToNat, BitVec.reduceOfInt, Nat.reduceBEq]; try rfl) ?_
            refine al_gives (vs := ?vs7) (v := ?v7) rfl ?ha7 ?hh7 (by kernel_rfl) rfl (by simp only [go_sem, ↓reduceIte, Nat.reduceLT, Nat.reduceEqDiff, Nat.reduceLeDiff, Nat.reduceAdd, Nat.reduceMul, Int.reduceLT, Int.reduceLE, Int.reduceToNat, BitVec.reduceOfInt, Nat.reduceBEq]) ?kk7
            case ha7 => simp only [go_sem, ↓reduceIte, Nat.reduceLT, Nat.reduceEqDiff, Nat.reduceLeDiff, Nat.reduceAdd, Nat.reduceMul, Int.reduceLT, Int.reduceLE, Int.reduceToNat, BitVec.reduceOfInt, Nat.reduceBEq]; try rfl
            case hh7 => exact tabB_gives hm (fun k => t.getLsbD (compX k l l.length)) hown
            refine al_pureN 2 (by simp only [go_sem, ↓reduceIte, Nat.reduceLT, Nat.reduceEqDiff, Nat.reduceLeDiff, Nat.reduceAdd, Nat.reduceMul, Int.reduceLT, Int.reduceLE, Int.reduceToNat, BitVec.reduceOfInt, Nat.reduceBEq]; try rfl) ?_
            refine al_end [8, 9] ?_
            refine awp_ret ⟨_, rfl, ?_, hlek⟩
            rw [fin, comp_ref t hm rfl]
            rfl
      · have hq' : validT 0#64 q = false := by simpa using hq
        have hqr : ¬ (0 ≤ q ∧ q ≤ 6) := fun h => hq ((valid_zero q).2 h)
        have fin : ComposeR t (l.length : Nat) l q = (0#64, 1) := by
          simp only [ComposeR, hv, Bool.true_eq_false, if_false, ne_eq, not_true_eq_false, hq', true_or, if_true]
        by_cases h0 : q < 0
        · have c0 : decide (q < 0) = true := decide_eq_true h0
          refine awp_seq (awp_pures [0, 1, 2, 3, 28] (by simp only [go_sem, ↓reduceIte, Nat.reduceLT, Nat.reduceEqDiff, Nat.reduceLeDiff, Nat.reduceAdd, Nat.reduceMul, Int.reduceLT, Int.reduceLE, Int.reduceToNat, BitVec.reduceOfInt, Nat.reduceBEq, c0]; try rfl) ?_)
          refine awp_if rfl (fun _ => ?_) (fun h => by cases h)
          refine awp_seq (awp_pures [8, 9] (by simp only [go_sem, ↓reduceIte, Nat.reduceLT, Nat.reduceEqDiff, Nat.reduceLeDiff, Nat.reduceAdd, Nat.reduceMul, Int.reduceLT, Int.reduceLE, Int.reduceToNat, BitVec.reduceOfInt, Nat.reduceBEq]; try rfl) ?_)
          exact awp_ret ⟨_, rfl, by rw [fin]; rfl, AHeap.le_refl _⟩
        · have c0 : decide (q < 0) = false := decide_eq_false h0
          have c1 : decide (q > 6) = true := decide_eq_true (by omega)
          refine awp_seq (awp_pures [0, 1, 2, 3, 28] (by simp only [go_sem, ↓reduceIte, Nat.reduceLT, Nat.reduceEqDiff, Nat.reduceLeDiff, Nat.reduceAdd, Nat.reduceMul, Int.reduceLT, Int.reduceLE, Int.reduceToNat, BitVec.reduceOfInt, Nat.reduceBEq, c0, c1]; try rfl) ?_)
          refine awp_if rfl (fun _ => ?_) (fun h => by cases h)
          refine awp_seq (awp_pures [8, 9] (by simp only [go_sem, ↓reduceIte, Nat.reduceLT, Nat.reduceEqDiff, Nat.reduceLeDiff, Nat.reduceAdd, Nat.reduceMul, Int.reduceLT, Int.reduceLE, Int.reduceToNat, BitVec.reduceOfInt, Nat.reduceBEq]; try rfl) ?_)
          exact awp_ret ⟨_, rfl, by rw [fin]; rfl, AHeap.le_refl _⟩
    · have c0 : ((l.length : Int) != (n : Int)) = true := by simpa using (fun h => hlen (by exact_mod_cast h) : ¬ ((l.length : Int) = (n : Int)))
      refine awp_seq (awp_pures [0, 1, 2, 3, 22] (by simp only [go_sem, ↓reduceIte, Nat.reduceLT, Nat.reduceEqDiff, Nat.reduceLeDiff, Nat.reduceAdd, Nat.reduceMul, Int.reduceLT, Int.reduceLE, Int.reduceToNat, BitVec.reduceOfInt, Nat.reduceBEq, c0]; try rfl) ?_)
      refine awp_if rfl (fun _ => ?_) (fun h => by cases h)
      refine awp_seq (awp_pures [8, 9] (by simp only [go_sem, ↓reduceIte, Nat.reduceLT, Nat.reduceEqDiff, Nat.reduceLeDiff, Nat.reduceAdd, Nat.reduceMul, Int.reduceLT, Int.reduceLE, Int.reduceToNat, BitVec.reduceOfInt, Nat.reduceBEq]; try rfl) ?_)
      refine awp_ret ⟨_, rfl, ?_, AHeap.le_refl _⟩
      have : (l.length : Int) ≠ (n : Int) := fun h => hlen (by exact_mod_cast h)
      simp only [ComposeR, hv, Bool.true_eq_false, if_false, if_pos this]; rfl
end Go.Proofs.Ytbpjoamdcbbnnaa
