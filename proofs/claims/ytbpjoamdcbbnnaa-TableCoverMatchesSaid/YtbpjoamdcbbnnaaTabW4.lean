/- The walk of package table's isop. -/
import Derived.Test.YtbpjoamdcbbnnaaTabW3
import Derived.Test.YtbpjoamdcbbnnaaTabBits
set_option linter.unusedSimpArgs false
set_option linter.unusedVariables false
namespace Go.Proofs.Ytbpjoamdcbbnnaa
open Go.Abs Go.Tab
attribute [local go_sem] Try.underlying22 Try.underlying3 Try.underlying77 Try.underlying52 Try.underlying23 Try.underlying25 Try.underlying5 Try.underlying4 Try.underlying36 Try.underlying39 size22 size3 size23 size5 size4 size39 Nat.mul_one

theorem rows_own {σ : AHeap} {lo : Nat} {v : Value} {l : List (Nat × Nat)} (h : OwnAt σ lo v (cubes l).flatten l.length 2) : RowsAt σ 2 v (cubes l) :=
  h.rowsAt (fun r hr => by simp only [cubes, List.mem_map] at hr; obtain ⟨c, _, rfl⟩ := hr; rfl) (by simp [cubes])
theorem cubes_snoc (l : List (Nat × Nat)) (c : Nat × Nat) : (cubes (l ++ [c])).flatten = (cubes l).flatten ++ cubeV c := by simp [cubes]
def IsopQ (r : List (Nat × Nat) × BitVec 64) (N : Nat) (σ : AHeap) : Value → Nat → AHeap → Prop := fun v N1 σ1 =>
  ∃ sv, v = .tuple #[sv, .int .u64 r.2.toNat] ∧ OwnAt σ1 N sv (cubes r.1).flatten r.1.length 2 ∧ N ≤ N1 ∧ σ.le σ1

theorem isop_ok {n : Nat} (hn : n ≤ 6) (V : Nat) : ∀ (L U : BitVec 64) (N : Nat) (σ : AHeap), V ≤ n → Good n V L U →
    AOk Try.prog 57 [.int .u64 L.toNat, .int .u64 U.toNat, .int .i64 V, .int .i64 n] N σ (IsopQ (isopG n V L U) N σ) := by
  induction V using Nat.strongRecOn with | _ V rec_ => ?_
  intro L U N σ hV hg
  refine aok_fresh fun hN => aok_body (n := 152) Try.func57 rfl rfl (by simp) ?_
  refine awp_seq (awp_pures [0, 1, 2, 3, 8, 9] (by simp only [go_sem, ↓reduceIte, Nat.reduceLT, Nat.reduceEqDiff, Nat.reduceLeDiff, Nat.reduceAdd, Nat.reduceMul, Int.reduceLT, Int.reduceLE, Int.reduceToNat, BitVec.reduceOfInt, Nat.reduceBEq]; try rfl) ?_)
  by_cases hL : L = 0#64
  · refine awp_seq ?_
    subst hL
    refine awp_block ?_
    refine awp_seq (awp_pures [25] (by simp only [go_sem, ↓reduceIte, Nat.reduceLT, Nat.reduceEqDiff, Nat.reduceLeDiff, Nat.reduceAdd, Nat.reduceMul, Int.reduceLT, Int.reduceLE, Int.reduceToNat, BitVec.reduceOfInt, Nat.reduceBEq]; try rfl) ?_)
    refine awp_if rfl (fun _ => ?_) (fun h => by cases h)
    refine awp_seq (awp_pures [8, 9] (by simp only [go_sem, ↓reduceIte, Nat.reduceLT, Nat.reduceEqDiff, Nat.reduceLeDiff, Nat.reduceAdd, Nat.reduceMul, Int.reduceLT, Int.reduceLE, Int.reduceToNat, BitVec.reduceOfInt, Nat.reduceBEq]; try rfl) ?_)
    refine awp_ret ⟨_, rfl, ⟨.slice none 0 0, ?_, ?_, Nat.le_refl _, AHeap.le_refl _⟩⟩
    · cases V <;> simp [isopG]
    · cases V <;> simp [isopG, cubes] <;> exact OwnAt.nil
  · have hl := lim_of hn
    have hbL : decide (L = 0#64) = false := by simpa using hL
    by_cases hU : U = maskT n
    · have hbU : decide (U = maskT n) = true := by simpa using hU
      refine awp_seq ?_
      refine awp_block ?_
      refine awp_seq (awp_pures [0, 1, 2, 3, 25] (by simp only [go_sem, ↓reduceIte, Nat.reduceLT, Nat.reduceEqDiff, Nat.reduceLeDiff, Nat.reduceAdd, Nat.reduceMul, Int.reduceLT, Int.reduceLE, Int.reduceToNat, BitVec.reduceOfInt, Nat.reduceBEq, hbL]; try rfl) ?_)
      refine awp_if rfl (fun h => by cases h) (fun _ => ?_)
      first | refine awp_seq (awp_lit ?_) | refine awp_lit ?_ | refine awp_seq (awp_seq (awp_lit ?_))
      refine al_pureN 2 (by simp only [go_sem, ↓reduceIte, Nat.reduceLT, Nat.reduceEqDiff, Nat.reduceLeDiff, Nat.reduceAdd, Nat.reduceMul, Int.reduceLT, Int.reduceLE, Int.reduceToNat, BitVec.reduceOfInt, Nat.reduceBEq]; try rfl) ?_
      refine al_gives (vs := ?vs1) (v := ?v1) rfl ?ha1 ?hh1 (by kernel_rfl) rfl (by simp only [go_sem, ↓reduceIte, Nat.reduceLT, Nat.reduceEqDiff, Nat.reduceLeDiff, Nat.reduceAdd, Nat.reduceMul, Int.reduceLT, Int.reduceLE, Int.reduceToNat, BitVec.reduceOfInt, Nat.reduceBEq]) ?kk1
      case ha1 => simp only [go_sem, ↓reduceIte, Nat.reduceLT, Nat.reduceEqDiff, Nat.reduceLeDiff, Nat.reduceAdd, Nat.reduceMul, Int.reduceLT, Int.reduceLE, Int.reduceToNat, BitVec.reduceOfInt, Nat.reduceBEq]; try rfl
      case hh1 => exact Mask_gives _ _ _
      refine al_pureN 2 (by simp only [go_sem, ↓reduceIte, Nat.reduceLT, Nat.reduceEqDiff, Nat.reduceLeDiff, Nat.reduceAdd, Nat.reduceMul, Int.reduceLT, Int.reduceLE, Int.reduceToNat, BitVec.reduceOfInt, Nat.reduceBEq, hl, hbU]; try rfl) ?_
      refine al_end [1, 28] ?_
      refine awp_if rfl (fun _ => ?_) (fun h => by cases h)
      first | refine awp_seq (awp_lit ?_) | refine awp_lit ?_ | refine awp_seq (awp_seq (awp_lit ?_))
      refine al_build_struct rfl rfl (by decide) Try.underlying39 ty39 rfl (pl := [(0, 1), (1, 1)]) (by kernel_rfl) rfl rfl ?_
      refine al_fresh fun hNc => ?_
      refine al_buildSlice rfl (by simp only [go_sem, ↓reduceIte, Nat.reduceLT, Nat.reduceEqDiff, Nat.reduceLeDiff, Nat.reduceAdd, Nat.reduceMul, Int.reduceLT, Int.reduceLE, Int.reduceToNat, BitVec.reduceOfInt, Nat.reduceBEq]; try rfl) rfl Try.underlying36 ty39 (by decide) rfl (by decide) (by decide) (by simp only [go_sem, ↓reduceIte, Nat.reduceLT, Nat.reduceEqDiff, Nat.reduceLeDiff, Nat.reduceAdd, Nat.reduceMul, Int.reduceLT, Int.reduceLE, Int.reduceToNat, BitVec.reduceOfInt, Nat.reduceBEq]; try rfl) rfl (by simp [zerosA, splice, spread]) ?_
      refine al_pureN 3 (by simp only [go_sem, ↓reduceIte, Nat.reduceLT, Nat.reduceEqDiff, Nat.reduceLeDiff, Nat.reduceAdd, Nat.reduceMul, Int.reduceLT, Int.reduceLE, Int.reduceToNat, BitVec.reduceOfInt, Nat.reduceBEq]; try rfl) ?_
      refine al_end [8, 9] ?_
      have e : isopG n V L U = ([(0, 0)], U) := by
        cases V <;> simp [isopG, hL, hU]
      refine awp_ret ⟨_, rfl, ⟨.slice (some ⟨N, 0, none⟩) 1 1, by rw [e]; rfl, ?_, Nat.le_succ _, AHeap.le_set (AHeap.le_refl _) fun i b hb => Nat.ne_of_lt (hN i b hb)⟩⟩
      rw [e]
      exact .inr ⟨N, _, Nat.le_refl _, rfl, Nat.le_refl _, AHeap.set_self _ _ _, rfl⟩
    · have hbU : decide (U = maskT n) = false := by simpa using hU
      refine awp_seq ?_
      refine awp_block ?_
      refine awp_seq (awp_pures [0, 1, 2, 3, 25] (by simp only [go_sem, ↓reduceIte, Nat.reduceLT, Nat.reduceEqDiff, Nat.reduceLeDiff, Nat.reduceAdd, Nat.reduceMul, Int.reduceLT, Int.reduceLE, Int.reduceToNat, BitVec.reduceOfInt, Nat.reduceBEq, hbL]; try rfl) ?_)
      refine awp_if rfl (fun h => by cases h) (fun _ => ?_)
      first | refine awp_seq (awp_lit ?_) | refine awp_lit ?_ | refine awp_seq (awp_seq (awp_lit ?_))
      refine al_pureN 2 (by simp only [go_sem, ↓reduceIte, Nat.reduceLT, Nat.reduceEqDiff, Nat.reduceLeDiff, Nat.reduceAdd, Nat.reduceMul, Int.reduceLT, Int.reduceLE, Int.reduceToNat, BitVec.reduceOfInt, Nat.reduceBEq]; try rfl) ?_
      refine al_gives (vs := ?vs2) (v := ?v2) rfl ?ha2 ?hh2 (by kernel_rfl) rfl (by simp only [go_sem, ↓reduceIte, Nat.reduceLT, Nat.reduceEqDiff, Nat.reduceLeDiff, Nat.reduceAdd, Nat.reduceMul, Int.reduceLT, Int.reduceLE, Int.reduceToNat, BitVec.reduceOfInt, Nat.reduceBEq]) ?kk2
      case ha2 => simp only [go_sem, ↓reduceIte, Nat.reduceLT, Nat.reduceEqDiff, Nat.reduceLeDiff, Nat.reduceAdd, Nat.reduceMul, Int.reduceLT, Int.reduceLE, Int.reduceToNat, BitVec.reduceOfInt, Nat.reduceBEq]; try rfl
      case hh2 => exact Mask_gives _ _ _
      refine al_pureN 2 (by simp only [go_sem, ↓reduceIte, Nat.reduceLT, Nat.reduceEqDiff, Nat.reduceLeDiff, Nat.reduceAdd, Nat.reduceMul, Int.reduceLT, Int.reduceLE, Int.reduceToNat, BitVec.reduceOfInt, Nat.reduceBEq, hl, hbU]; try rfl) ?_
      refine al_end [0, 1, 2, 3, 28] ?_
      refine awp_if rfl (fun h => by cases h) (fun _ => ?_)
      refine awp_skip ?_
      cases V with
      | zero => exact absurd (hg.bottom hn hL) hU
      | succ V =>
      have hv1 : -9223372036854775808 ≤ ((V + 1 : Nat) : Int) - 1 ∧ ((V + 1 : Nat) : Int) - 1 ≤ 9223372036854775807 := by omega
      refine awp_seq (awp_pures [0, 1, 3, 10] (by simp only [go_sem, ↓reduceIte, Nat.reduceLT, Nat.reduceEqDiff, Nat.reduceLeDiff, Nat.reduceAdd, Nat.reduceMul, Int.reduceLT, Int.reduceLE, Int.reduceToNat, BitVec.reduceOfInt, Nat.reduceBEq, i64_sub hv1]; try rfl) ?_)
      rw [show ((V + 1 : Nat) : Int) - 1 = (V : Int) from by omega]
      refine awp_seq ?_
      refine awp_block (awp_loop ?_)
      refine ALoop.cast3 (aloop_ind (α := Nat) (fun j => j ≤ V ∧ isopG n (V + 1) L U = isopG n (j + 1) L U ∧ Good n (j + 1) L U) (fun j => j)
        (fun j => [(0, .int .u64 L.toNat), (1, .int .u64 U.toNat), (3, .int .i64 n), (10, .int .i64 j)]) (fun _ => N) (fun _ => σ) ?_ V ⟨Nat.le_refl _, rfl, hg⟩) rfl rfl rfl
      rintro j ⟨hj, hgo, hgj⟩ ih
      by_cases hd : depR L n j = false ∧ depR U n j = false
      · refine awp_seq ?_
        first | refine awp_seq (awp_lit ?_) | refine awp_lit ?_ | refine awp_seq (awp_seq (awp_lit ?_))
        refine al_pureN 3 (by simp only [go_sem, ↓reduceIte, Nat.reduceLT, Nat.reduceEqDiff, Nat.reduceLeDiff, Nat.reduceAdd, Nat.reduceMul, Int.reduceLT, Int.reduceLE, Int.reduceToNat, BitVec.reduceOfInt, Nat.reduceBEq]; try rfl) ?_
        refine al_gives (vs := ?vs3) (v := ?v3) rfl ?ha3 ?hh3 (by kernel_rfl) rfl (by simp only [go_sem, ↓reduceIte, Nat.reduceLT, Nat.reduceEqDiff, Nat.reduceLeDiff, Nat.reduceAdd, Nat.reduceMul, Int.reduceLT, Int.reduceLE, Int.reduceToNat, BitVec.reduceOfInt, Nat.reduceBEq]) ?kk3
        case ha3 => simp only [go_sem, ↓reduceIte, Nat.reduceLT, Nat.reduceEqDiff, Nat.reduceLeDiff, Nat.reduceAdd, Nat.reduceMul, Int.reduceLT, Int.reduceLE, Int.reduceToNat, BitVec.reduceOfInt, Nat.reduceBEq]; try rfl
        case hh3 => exact depends_gives _ _ _ _ _
        rw [hd.1]
        refine al_pureN 5 (by simp only [go_sem, ↓reduceIte, Nat.reduceLT, Nat.reduceEqDiff, Nat.reduceLeDiff, Nat.reduceAdd, Nat.reduceMul, Int.reduceLT, Int.reduceLE, Int.reduceToNat, BitVec.reduceOfInt, Nat.reduceBEq]; try rfl) ?_
        refine al_gives (vs := ?vs4) (v := ?v4) rfl ?ha4 ?hh4 (by kernel_rfl) rfl (by simp only [go_sem, ↓reduceIte, Nat.reduceLT, Nat.reduceEqDiff, Nat.reduceLeDiff, Nat.reduceAdd, Nat.reduceMul, Int.reduceLT, Int.reduceLE, Int.reduceToNat, BitVec.reduceOfInt, Nat.reduceBEq]) ?kk4
        case ha4 => simp only [go_sem, ↓reduceIte, Nat.reduceLT, Nat.reduceEqDiff, Nat.reduceLeDiff, Nat.reduceAdd, Nat.reduceMul, Int.reduceLT, Int.reduceLE, Int.reduceToNat, BitVec.reduceOfInt, Nat.reduceBEq]; try rfl
        case hh4 => exact depends_gives _ _ _ _ _
        rw [hd.2]
        refine al_pureN 2 (by simp only [go_sem, ↓reduceIte, Nat.reduceLT, Nat.reduceEqDiff, Nat.reduceLeDiff, Nat.reduceAdd, Nat.reduceMul, Int.reduceLT, Int.reduceLE, Int.reduceToNat, BitVec.reduceOfInt, Nat.reduceBEq]; try rfl) ?_
        refine al_end [0, 1, 3, 10, 49] ?_
        refine awp_if rfl (fun _ => ?_) (fun h => by cases h)
        refine awp_skip ?_
        have hdown := hgj.down hn (by omega) hd.1 hd.2
        refine awp_block ?_
        cases j with
        | zero => exact absurd (hdown.bottom hn hL) hU
        | succ j =>
        have hv2 : -9223372036854775808 ≤ ((j + 1 : Nat) : Int) - 1 ∧ ((j + 1 : Nat) : Int) - 1 ≤ 9223372036854775807 := by omega
        refine awp_pures [0, 1, 3, 10] (by simp only [go_sem, ↓reduceIte, Nat.reduceLT, Nat.reduceEqDiff, Nat.reduceLeDiff, Nat.reduceAdd, Nat.reduceMul, Int.reduceLT, Int.reduceLE, Int.reduceToNat, BitVec.reduceOfInt, Nat.reduceBEq, i64_sub hv2]; try rfl) ?_
        rw [show ((j + 1 : Nat) : Int) - 1 = (j : Int) from by omega]
        refine (ih (j) ⟨by omega, by rw [hgo, isopG_skip hL hU hd.1 hd.2], hdown⟩ (by simp)).cast (by first | (simp only [go_sem, ↓reduceIte, Nat.reduceLT, Nat.reduceEqDiff, Nat.reduceLeDiff, Nat.reduceAdd, Nat.reduceMul, Int.reduceLT, Int.reduceLE, Int.reduceToNat, BitVec.reduceOfInt, Nat.reduceBEq]; try rfl) | rfl)
      · refine awp_seq ?_
        have hif : (!depR L n j && !depR U n j) = false := by
          cases h1 : depR L n j <;> cases h2 : depR U n j <;> simp_all
        refine awp_mid [(0, .int .u64 L.toNat), (1, .int .u64 U.toNat), (3, .int .i64 n), (10, .int .i64 j), (49, .bool false)] N σ ?_ ?_
        · refine awp_lit ?_
          refine al_pureN 3 (by simp only [go_sem, ↓reduceIte, Nat.reduceLT, Nat.reduceEqDiff, Nat.reduceLeDiff, Nat.reduceAdd, Nat.reduceMul, Int.reduceLT, Int.reduceLE, Int.reduceToNat, BitVec.reduceOfInt, Nat.reduceBEq]; try rfl) ?_
          refine al_gives (vs := ?vs5) (v := ?v5) rfl ?ha5 ?hh5 (by kernel_rfl) rfl (by simp only [go_sem, ↓reduceIte, Nat.reduceLT, Nat.reduceEqDiff, Nat.reduceLeDiff, Nat.reduceAdd, Nat.reduceMul, Int.reduceLT, Int.reduceLE, Int.reduceToNat, BitVec.reduceOfInt, Nat.reduceBEq]) ?kk5
          case ha5 => simp only [go_sem, ↓reduceIte, Nat.reduceLT, Nat.reduceEqDiff, Nat.reduceLeDiff, Nat.reduceAdd, Nat.reduceMul, Int.reduceLT, Int.reduceLE, Int.reduceToNat, BitVec.reduceOfInt, Nat.reduceBEq]; try rfl
          case hh5 => exact depends_gives _ _ _ _ _
          cases h1 : depR L n j
          · have h2 : depR U n j = true := by cases h2 : depR U n j <;> simp_all
            refine al_pureN 5 (by simp only [go_sem, ↓reduceIte, Nat.reduceLT, Nat.reduceEqDiff, Nat.reduceLeDiff, Nat.reduceAdd, Nat.reduceMul, Int.reduceLT, Int.reduceLE, Int.reduceToNat, BitVec.reduceOfInt, Nat.reduceBEq]; try rfl) ?_
            refine al_gives (vs := ?vs6) (v := ?v6) rfl ?ha6 ?hh6 (by kernel_rfl) rfl (by simp only [go_sem, ↓reduceIte, Nat.reduceLT, Nat.reduceEqDiff, Nat.reduceLeDiff, Nat.reduceAdd, Nat.reduceMul, Int.reduceLT, Int.reduceLE, Int.reduceToNat, BitVec.reduceOfInt, Nat.reduceBEq]) ?kk6
            case ha6 => simp only [go_sem, ↓reduceIte, Nat.reduceLT, Nat.reduceEqDiff, Nat.reduceLeDiff, Nat.reduceAdd, Nat.reduceMul, Int.reduceLT, Int.reduceLE, Int.reduceToNat, BitVec.reduceOfInt, Nat.reduceBEq]; try rfl
            case hh6 => exact depends_gives _ _ _ _ _
            rw [h2]
            refine al_pureN 2 (by simp only [go_sem, ↓reduceIte, Nat.reduceLT, Nat.reduceEqDiff, Nat.reduceLeDiff, Nat.reduceAdd, Nat.reduceMul, Int.reduceLT, Int.reduceLE, Int.reduceToNat, BitVec.reduceOfInt, Nat.reduceBEq]; try rfl) ?_
            refine al_end [0, 1, 3, 10, 49] ?_
            exact meets [0, 1, 3, 10, 49] rfl (AHeap.le_refl _)
          · refine al_pureN 8 (by simp only [go_sem, ↓reduceIte, Nat.reduceLT, Nat.reduceEqDiff, Nat.reduceLeDiff, Nat.reduceAdd, Nat.reduceMul, Int.reduceLT, Int.reduceLE, Int.reduceToNat, BitVec.reduceOfInt, Nat.reduceBEq]; try rfl) ?_
            refine al_end [0, 1, 3, 10, 49] ?_
            exact meets [0, 1, 3, 10, 49] rfl (AHeap.le_refl _)
        · refine awp_if rfl (fun h => by cases h) (fun _ => ?_)
          refine awp_exit ?_
          simp only [Go.Abs.Seq, Go.Abs.Round, Go.Abs.InBlock, ↓reduceIte]
          have hjn : j < n := by omega
          have hG0 := hgj.half hn hjn false true
          have hG1 := hgj.half hn hjn true false
          have hI0 := isopG_ok hn j _ _ (by omega) hG0
          have hI1 := isopG_ok hn j _ _ (by omega) hG1
          have hGb := hgj.both hn hjn hI0 hI1
          replace hgo := hgo.trans (isopG_step hL hU hd)
          simp only at hgo
          first | refine awp_seq (awp_lit ?_) | refine awp_lit ?_ | refine awp_seq (awp_seq (awp_lit ?_))
          refine al_pureN 3 (by simp only [go_sem, ↓reduceIte, Nat.reduceLT, Nat.reduceEqDiff, Nat.reduceLeDiff, Nat.reduceAdd, Nat.reduceMul, Int.reduceLT, Int.reduceLE, Int.reduceToNat, BitVec.reduceOfInt, Nat.reduceBEq]; try rfl) ?_
          refine al_gives (vs := ?vs7) (v := ?v7) rfl ?ha7 ?hh7 (by kernel_rfl) rfl (by simp only [go_sem, ↓reduceIte, Nat.reduceLT, Nat.reduceEqDiff, Nat.reduceLeDiff, Nat.reduceAdd, Nat.reduceMul, Int.reduceLT, Int.reduceLE, Int.reduceToNat, BitVec.reduceOfInt, Nat.reduceBEq]) ?kk7
          case ha7 => simp only [go_sem, ↓reduceIte, Nat.reduceLT, Nat.reduceEqDiff, Nat.reduceLeDiff, Nat.reduceAdd, Nat.reduceMul, Int.reduceLT, Int.reduceLE, Int.reduceToNat, BitVec.reduceOfInt, Nat.reduceBEq]; try rfl
          case hh7 => exact Cofactor_gives _ _ _ _ _ _
          refine al_pureN 3 (by simp only [go_sem, ↓reduceIte, Nat.reduceLT, Nat.reduceEqDiff, Nat.reduceLeDiff, Nat.reduceAdd, Nat.reduceMul, Int.reduceLT, Int.reduceLE, Int.reduceToNat, BitVec.reduceOfInt, Nat.reduceBEq]; try rfl) ?_
          refine al_gives (vs := ?vs8) (v := ?v8) rfl ?ha8 ?hh8 (by kernel_rfl) rfl (by simp only [go_sem, ↓reduceIte, Nat.reduceLT, Nat.reduceEqDiff, Nat.reduceLeDiff, Nat.reduceAdd, Nat.reduceMul, Int.reduceLT, Int.reduceLE, Int.reduceToNat, BitVec.reduceOfInt, Nat.reduceBEq]) ?kk8
          case ha8 => simp only [go_sem, ↓reduceIte, Nat.reduceLT, Nat.reduceEqDiff, Nat.reduceLeDiff, Nat.reduceAdd, Nat.reduceMul, Int.reduceLT, Int.reduceLE, Int.reduceToNat, BitVec.reduceOfInt, Nat.reduceBEq]; try rfl
          case hh8 => exact Cofactor_gives _ _ _ _ _ _
          refine al_pureN 2 (by simp only [go_sem, ↓reduceIte, Nat.reduceLT, Nat.reduceEqDiff, Nat.reduceLeDiff, Nat.reduceAdd, Nat.reduceMul, Int.reduceLT, Int.reduceLE, Int.reduceToNat, BitVec.reduceOfInt, Nat.reduceBEq]; try rfl) ?_
          refine al_end [0, 1, 3, 10, 11, 12] ?_
          first | refine awp_seq (awp_lit ?_) | refine awp_lit ?_ | refine awp_seq (awp_seq (awp_lit ?_))
          refine al_pureN 3 (by simp only [go_sem, ↓reduceIte, Nat.reduceLT, Nat.reduceEqDiff, Nat.reduceLeDiff, Nat.reduceAdd, Nat.reduceMul, Int.reduceLT, Int.reduceLE, Int.reduceToNat, BitVec.reduceOfInt, Nat.reduceBEq]; try rfl) ?_
          refine al_gives (vs := ?vs9) (v := ?v9) rfl ?ha9 ?hh9 (by kernel_rfl) rfl (by simp only [go_sem, ↓reduceIte, Nat.reduceLT, Nat.reduceEqDiff, Nat.reduceLeDiff, Nat.reduceAdd, Nat.reduceMul, Int.reduceLT, Int.reduceLE, Int.reduceToNat, BitVec.reduceOfInt, Nat.reduceBEq]) ?kk9
          case ha9 => simp only [go_sem, ↓reduceIte, Nat.reduceLT, Nat.reduceEqDiff, Nat.reduceLeDiff, Nat.reduceAdd, Nat.reduceMul, Int.reduceLT, Int.reduceLE, Int.reduceToNat, BitVec.reduceOfInt, Nat.reduceBEq]; try rfl
          case hh9 => exact Cofactor_gives _ _ _ _ _ _
          refine al_pureN 3 (by simp only [go_sem, ↓reduceIte, Nat.reduceLT, Nat.reduceEqDiff, Nat.reduceLeDiff, Nat.reduceAdd, Nat.reduceMul, Int.reduceLT, Int.reduceLE, Int.reduceToNat, BitVec.reduceOfInt, Nat.reduceBEq]; try rfl) ?_
          refine al_gives (vs := ?vs10) (v := ?v10) rfl ?ha10 ?hh10 (by kernel_rfl) rfl (by simp only [go_sem, ↓reduceIte, Nat.reduceLT, Nat.reduceEqDiff, Nat.reduceLeDiff, Nat.reduceAdd, Nat.reduceMul, Int.reduceLT, Int.reduceLE, Int.reduceToNat, BitVec.reduceOfInt, Nat.reduceBEq]) ?kk10
          case ha10 => simp only [go_sem, ↓reduceIte, Nat.reduceLT, Nat.reduceEqDiff, Nat.reduceLeDiff, Nat.reduceAdd, Nat.reduceMul, Int.reduceLT, Int.reduceLE, Int.reduceToNat, BitVec.reduceOfInt, Nat.reduceBEq]; try rfl
          case hh10 => exact Cofactor_gives _ _ _ _ _ _
          refine al_pureN 2 (by simp only [go_sem, ↓reduceIte, Nat.reduceLT, Nat.reduceEqDiff, Nat.reduceLeDiff, Nat.reduceAdd, Nat.reduceMul, Int.reduceLT, Int.reduceLE, Int.reduceToNat, BitVec.reduceOfInt, Nat.reduceBEq]; try rfl) ?_
          refine al_end [3, 10, 11, 12, 13, 14] ?_
          have r0_ := rec_ j (by omega) _ _ N σ (by omega) hG0
          first | refine awp_seq (awp_lit ?_) | refine awp_lit ?_ | refine awp_seq (awp_seq (awp_lit ?_))
          refine al_pureN 6 (by simp only [go_sem, ↓reduceIte, Nat.reduceLT, Nat.reduceEqDiff, Nat.reduceLeDiff, Nat.reduceAdd, Nat.reduceMul, Int.reduceLT, Int.reduceLE, Int.reduceToNat, BitVec.reduceOfInt, Nat.reduceBEq]; try rfl) ?_
          refine al_fun (r0_) rfl (by simp only [go_sem, ↓reduceIte, Nat.reduceLT, Nat.reduceEqDiff, Nat.reduceLeDiff, Nat.reduceAdd, Nat.reduceMul, Int.reduceLT, Int.reduceLE, Int.reduceToNat, BitVec.reduceOfInt, Nat.reduceBEq]; try rfl) (by kernel_rfl) rfl (by simp only [go_sem, ↓reduceIte, Nat.reduceLT, Nat.reduceEqDiff, Nat.reduceLeDiff, Nat.reduceAdd, Nat.reduceMul, Int.reduceLT, Int.reduceLE, Int.reduceToNat, BitVec.reduceOfInt, Nat.reduceBEq]; try rfl) ?_
          rintro v0 N0 σ0 ⟨s0, rfl, ho0, hN0, hle0⟩
          refine al_pureN 5 (by simp only [go_sem, ↓reduceIte, Nat.reduceLT, Nat.reduceEqDiff, Nat.reduceLeDiff, Nat.reduceAdd, Nat.reduceMul, Int.reduceLT, Int.reduceLE, Int.reduceToNat, BitVec.reduceOfInt, Nat.reduceBEq]; try rfl) ?_
          refine al_end [3, 10, 11, 12, 13, 14, 15, 16] ?_
          have r1_ := rec_ j (by omega) _ _ N0 σ0 (by omega) hG1
          first | refine awp_seq (awp_lit ?_) | refine awp_lit ?_ | refine awp_seq (awp_seq (awp_lit ?_))
          refine al_pureN 6 (by simp only [go_sem, ↓reduceIte, Nat.reduceLT, Nat.reduceEqDiff, Nat.reduceLeDiff, Nat.reduceAdd, Nat.reduceMul, Int.reduceLT, Int.reduceLE, Int.reduceToNat, BitVec.reduceOfInt, Nat.reduceBEq]; try rfl) ?_
          refine al_fun (r1_) rfl (by simp only [go_sem, ↓reduceIte, Nat.reduceLT, Nat.reduceEqDiff, Nat.reduceLeDiff, Nat.reduceAdd, Nat.reduceMul, Int.reduceLT, Int.reduceLE, Int.reduceToNat, BitVec.reduceOfInt, Nat.reduceBEq]; try rfl) (by kernel_rfl) rfl (by simp only [go_sem, ↓reduceIte, Nat.reduceLT, Nat.reduceEqDiff, Nat.reduceLeDiff, Nat.reduceAdd, Nat.reduceMul, Int.reduceLT, Int.reduceLE, Int.reduceToNat, BitVec.reduceOfInt, Nat.reduceBEq]; try rfl) ?_
          rintro v1 N1 σ1 ⟨s1, rfl, ho1, hN1, hle1⟩
          refine al_pureN 5 (by simp only [go_sem, ↓reduceIte, Nat.reduceLT, Nat.reduceEqDiff, Nat.reduceLeDiff, Nat.reduceAdd, Nat.reduceMul, Int.reduceLT, Int.reduceLE, Int.reduceToNat, BitVec.reduceOfInt, Nat.reduceBEq]; try rfl) ?_
          refine al_end [3, 10, 11, 12, 13, 14, 15, 16, 17, 18] ?_
          have rb_ := rec_ j (by omega) _ _ N1 σ1 (by omega) hGb
          first | refine awp_seq (awp_lit ?_) | refine awp_lit ?_ | refine awp_seq (awp_seq (awp_lit ?_))
          refine al_fresh fun hF1 => ?_
          refine al_pureN 12 (by simp only [go_sem, ↓reduceIte, Nat.reduceLT, Nat.reduceEqDiff, Nat.reduceLeDiff, Nat.reduceAdd, Nat.reduceMul, Int.reduceLT, Int.reduceLE, Int.reduceToNat, BitVec.reduceOfInt, Nat.reduceBEq]; try rfl) ?_
          refine al_fun (rb_) rfl (by simp only [go_sem, ↓reduceIte, Nat.reduceLT, Nat.reduceEqDiff, Nat.reduceLeDiff, Nat.reduceAdd, Nat.reduceMul, Int.reduceLT, Int.reduceLE, Int.reduceToNat, BitVec.reduceOfInt, Nat.reduceBEq]; try rfl) (by kernel_rfl) rfl (by simp only [go_sem, ↓reduceIte, Nat.reduceLT, Nat.reduceEqDiff, Nat.reduceLeDiff, Nat.reduceAdd, Nat.reduceMul, Int.reduceLT, Int.reduceLE, Int.reduceToNat, BitVec.reduceOfInt, Nat.reduceBEq]; try rfl) ?_
          rintro vb Nb σb ⟨sb, rfl, hob, hNb, hleb⟩
          refine al_pureN 5 (by simp only [go_sem, ↓reduceIte, Nat.reduceLT, Nat.reduceEqDiff, Nat.reduceLeDiff, Nat.reduceAdd, Nat.reduceMul, Int.reduceLT, Int.reduceLE, Int.reduceToNat, BitVec.reduceOfInt, Nat.reduceBEq]; try rfl) ?_
          refine al_end [3, 10, 15, 16, 17, 18, 19, 20] ?_
          have hl0 := isopG_len n j (cofR L n j false &&& ~~~ cofR U n j true) (cofR U n j false)
          have hl1 := isopG_len n j (cofR L n j true &&& ~~~ cofR U n j false) (cofR U n j true)
          have hs0 := isopG_small n j (cofR L n j false &&& ~~~ cofR U n j true) (cofR U n j false)
          have hs1 := isopG_small n j (cofR L n j true &&& ~~~ cofR U n j false) (cofR U n j true)
          clear r0_ r1_ rb_ rec_ hI0 hI1 hG0 hG1 hGb
          generalize isopG n j (cofR L n j false &&& ~~~ cofR U n j true) (cofR U n j false) = r0 at *
          generalize isopG n j (cofR L n j true &&& ~~~ cofR U n j false) (cofR U n j true) = r1 at *
          have hlb := isopG_len n j ((cofR L n j false &&& ~~~ r0.2) ||| (cofR L n j true &&& ~~~ r1.2)) (cofR U n j false &&& cofR U n j true)
          generalize isopG n j ((cofR L n j false &&& ~~~ r0.2) ||| (cofR L n j true &&& ~~~ r1.2)) (cofR U n j false &&& cofR U n j true) = rb at *
          have h243 : 3 ^ j ≤ 243 := by
            have := Nat.pow_le_pow_right (n := 3) (by omega) (show j ≤ 5 by omega)
            simpa using this
          have h32 : 2 ^ j ≤ 32 := by
            have := Nat.pow_le_pow_right (n := 2) (by omega) (show j ≤ 5 by omega)
            simpa using this
          have hrow0 := rows_own (ho0.mono (fun i b _ hb => hle1 _ _ hb) (Nat.le_refl _))
          have hrow1 := rows_own ho1
          have hrl0 : (cubes r0.1).length = r0.1.length := by simp [cubes]
          have hrl1 : (cubes r1.1).length = r1.1.length := by simp [cubes]
          obtain ⟨b0, k0, e0⟩ := hrow0.len
          obtain ⟨b1, k1, e1⟩ := hrow1.len
          subst e0 e1
          rw [hrl0] at hrow0 ⊢
          rw [hrl1] at hrow1 ⊢
          refine awp_seq ?_
          refine awp_seq (awp_pures [3, 10, 16, 17, 18, 19, 20, 104, 105, 106] (by simp only [go_sem, ↓reduceIte, Nat.reduceLT, Nat.reduceEqDiff, Nat.reduceLeDiff, Nat.reduceAdd, Nat.reduceMul, Int.reduceLT, Int.reduceLE, Int.reduceToNat, BitVec.reduceOfInt, Nat.reduceBEq]; try rfl) ?_)
          refine awp_block (awp_loop ?_)
          refine ALoop.cast3 (aloop_ind (α := Nat × List (Nat × Nat) × Value × Nat × AHeap)
            (fun x => x.1 ≤ r0.1.length ∧ x.2.1 ++ (r0.1.drop x.1).map (fun c => (c.1, c.2 ||| 2 ^ j)) = rb.1 ++ r0.1.map (fun c => (c.1, c.2 ||| 2 ^ j)) ∧ x.2.1.length = rb.1.length + x.1 ∧ N1 ≤ x.2.2.2.1 ∧ OwnAt x.2.2.2.2 N1 x.2.2.1 (cubes x.2.1).flatten x.2.1.length 2 ∧ σ1.le x.2.2.2.2) (fun x => r0.1.length - x.1)
            (fun x => [(3, .int .i64 n), (10, .int .i64 j), (16, .int .u64 r0.2.toNat), (17, .slice b1 r1.1.length k1), (18, .int .u64 r1.2.toNat), (19, x.2.2.1), (20, .int .u64 rb.2.toNat), (104, .slice b0 r0.1.length k0), (105, .int .i64 r0.1.length), (106, .int .i64 x.1)]) (fun x => x.2.2.2.1) (fun x => x.2.2.2.2) ?_
            (0, rb.1, sb, Nb, σb) ⟨by simp, by simp, by simp, hNb, hob, hleb⟩) rfl rfl rfl
          rintro ⟨i, l, v, Nx, σx⟩ ⟨hi, hcl, hll, hNx, hown, hlex⟩ ih
          simp only at hi hcl hll hNx hown hlex
          by_cases hlt : i < r0.1.length
          · have hb : decide ((i : Int) < (r0.1.length : Int)) = true := by simpa using hlt
            refine awp_seq (awp_pures [3, 10, 16, 17, 18, 19, 20, 104, 105, 106, 107] (by simp only [go_sem, ↓reduceIte, Nat.reduceLT, Nat.reduceEqDiff, Nat.reduceLeDiff, Nat.reduceAdd, Nat.reduceMul, Int.reduceLT, Int.reduceLE, Int.reduceToNat, BitVec.reduceOfInt, Nat.reduceBEq, hb]; try rfl) ?_)
            refine awp_seq ?_
            refine awp_if rfl (fun _ => ?_) (fun h => by cases h)
            refine awp_skip ?_
            obtain ⟨id, off, cap, b, f1, f2, f3⟩ := (hrow0.mono hlex).at (j := i) (by rw [hrl0]; exact hlt)
            rw [hrl0] at f1
            cases f1
            have hii : 0 ≤ (i : Int) ∧ (i : Int) < (r0.1.length : Int) := by omega
            have f3 : cellsA b (off + i * 2) 2 = some (cubeV r0.1[i]) := by rw [f3]; simp [cubes]
            have hsc := hs0 r0.1[i] (List.getElem_mem hlt)
            rw [List.drop_eq_getElem_cons hlt, List.map_cons] at hcl
            generalize r0.1[i] = c at f3 hsc hcl
            obtain ⟨p, q⟩ := c
            obtain ⟨hp, hq⟩ := hsc
            try simp only at hp hq hcl
            have hp8 : p < 256 := by omega
            have hq8 : q < 256 := by omega
            have h28 : 2 ^ j < 256 := by omega
            have hqq : q ||| 2 ^ j < 256 := Nat.or_lt_two_pow (n := 8) hq8 h28
            refine awp_seq (awp_block ?_)
            first | refine awp_seq (awp_lit ?_) | refine awp_lit ?_ | refine awp_seq (awp_seq (awp_lit ?_))
            refine al_fresh fun hFx => ?_
            refine al_pureN 1 (by simp only [go_sem, ↓reduceIte, Nat.reduceLT, Nat.reduceEqDiff, Nat.reduceLeDiff, Nat.reduceAdd, Nat.reduceMul, Int.reduceLT, Int.reduceLE, Int.reduceToNat, BitVec.reduceOfInt, Nat.reduceBEq, hii]; try rfl) ?_
            refine al_load rfl (by simp only [go_sem, ↓reduceIte, Nat.reduceLT, Nat.reduceEqDiff, Nat.reduceLeDiff, Nat.reduceAdd, Nat.reduceMul, Int.reduceLT, Int.reduceLE, Int.reduceToNat, BitVec.reduceOfInt, Nat.reduceBEq]) rfl (by simp only [go_sem, ↓reduceIte, Nat.reduceLT, Nat.reduceEqDiff, Nat.reduceLeDiff, Nat.reduceAdd, Nat.reduceMul, Int.reduceLT, Int.reduceLE, Int.reduceToNat, BitVec.reduceOfInt, Nat.reduceBEq]; try rfl) f2 (loadA_agg agg39 f3) ?_
            refine al_alloc 1 rfl rfl rfl ty39 (by decide) ?_
            refine al_store rfl (by simp only [go_sem, ↓reduceIte, Nat.reduceLT, Nat.reduceEqDiff, Nat.reduceLeDiff, Nat.reduceAdd, Nat.reduceMul, Int.reduceLT, Int.reduceLE, Int.reduceToNat, BitVec.reduceOfInt, Nat.reduceBEq]; try rfl) rfl (by simp only [go_sem, ↓reduceIte, Nat.reduceLT, Nat.reduceEqDiff, Nat.reduceLeDiff, Nat.reduceAdd, Nat.reduceMul, Int.reduceLT, Int.reduceLE, Int.reduceToNat, BitVec.reduceOfInt, Nat.reduceBEq]; try rfl) (by simp only [go_sem, ↓reduceIte, Nat.reduceLT, Nat.reduceEqDiff, Nat.reduceLeDiff, Nat.reduceAdd, Nat.reduceMul, Int.reduceLT, Int.reduceLE, Int.reduceToNat, BitVec.reduceOfInt, Nat.reduceBEq]; try rfl) (AHeap.set_self _ _ _) rfl (by exact size39) rfl (by simp [spread, cubeV]) ?_
            refine al_forget (σ' := σx.set Nx ⟨cubeV (p, q), true, 1⟩) (fun i b' hi => ?_) ?_
            · unfold AHeap.set at hi ⊢
              split at hi
              · rename_i h; cases hi; rw [if_pos h]; rfl
              · rename_i h; rw [if_neg h, if_neg h]; exact hi
            have hfresh : ∀ i b', σx i = some b' → i ≠ Nx := fun i b' hi => Nat.ne_of_lt (hFx i b' hi)
            have hgeta : (σx.set Nx ⟨cubeV (p, q), true, 1⟩) Nx = some ⟨cubeV (p, q), true, 1⟩ := AHeap.set_self _ _ _
            have hgetc : (σx.set Nx ⟨cubeV (p, q ||| 2 ^ j), true, 1⟩) Nx = some ⟨cubeV (p, q ||| 2 ^ j), true, 1⟩ := AHeap.set_self _ _ _
            have hlec : σx.le (σx.set Nx ⟨cubeV (p, q ||| 2 ^ j), true, 1⟩) := AHeap.le_set (AHeap.le_refl _) hfresh
            have hca : (σx.set Nx ⟨cubeV (p, q ||| 2 ^ j), true, 1⟩).le ((σx.set Nx ⟨cubeV (p, q), true, 1⟩).set Nx ⟨cubeV (p, q ||| 2 ^ j), true, 1⟩) := fun i b' hi => by
              unfold AHeap.set at hi ⊢
              split at hi
              · rename_i h; rw [if_pos h]; exact hi
              · rename_i h; rw [if_neg h, if_neg h]; exact hi
            generalize σx.set Nx ⟨cubeV (p, q), true, 1⟩ = σa at hgeta hca ⊢
            generalize σx.set Nx ⟨cubeV (p, q ||| 2 ^ j), true, 1⟩ = σc at hgetc hlec hca ⊢
            refine al_end [3, 10, 16, 17, 18, 19, 20, 22, 104, 105, 106] ?_
            refine awp_seq (awp_draw [(3, .int .i64 n), (10, .int .i64 j), (16, .int .u64 r0.2.toNat), (17, .slice b1 r1.1.length k1), (18, .int .u64 r1.2.toNat), (19, v), (20, .int .u64 rb.2.toNat), (22, .pointer (some ⟨Nx, 0, none⟩)), (104, .slice (some ⟨id, off, none⟩) r0.1.length k0), (105, .int .i64 r0.1.length), (106, .int .i64 i)] [.pointer (some ⟨Nx, 1, none⟩), .int .u8 q, .int .i64 j, .int .u8 ((2 ^ j : Nat) : Int), .int .u8 ((q ||| 2 ^ j : Nat) : Int), .pointer (some ⟨Nx, 1, none⟩), undef] (fun S => if S 6 = true then σc else σa) (by kernel_rfl) (by kernel_rfl) (by kernel_rfl) (AHeap.le_refl _) (fun S S' h => by simp only [h 6 (by simp)]) ?ht11 (fun honce => (knows_env (x := 3) (v := .int .i64 n) (by kernel_rfl) rfl (knows_env (x := 10) (v := .int .i64 j) (by kernel_rfl) rfl (knows_env (x := 16) (v := .int .u64 r0.2.toNat) (by kernel_rfl) rfl (knows_env (x := 17) (v := .slice b1 r1.1.length k1) (by kernel_rfl) rfl (knows_env (x := 18) (v := .int .u64 r1.2.toNat) (by kernel_rfl) rfl (knows_env (x := 19) (v := v) (by kernel_rfl) rfl (knows_env (x := 20) (v := .int .u64 rb.2.toNat) (by kernel_rfl) rfl (knows_env (x := 22) (v := .pointer (some ⟨Nx, 0, none⟩)) (by kernel_rfl) rfl (knows_env (x := 104) (v := .slice (some ⟨id, off, none⟩) r0.1.length k0) (by kernel_rfl) rfl (knows_env (x := 105) (v := .int .i64 r0.1.length) (by kernel_rfl) rfl (knows_env (x := 106) (v := .int .i64 i) (by kernel_rfl) rfl knows_nil)))))))))))) ?hk11)
            case ht11 =>
              intro i o S ho hi hd hc honce
              have hlt : i < 7 := by simpa using (Array.getElem?_eq_some_iff.1 ho).1
              have key : i = 0 ∨ i = 1 ∨ i = 2 ∨ i = 3 ∨ i = 4 ∨ i = 5 ∨ i = 6 := by omega
              rcases key with rfl | rfl | rfl | rfl | rfl | rfl | rfl
              · simp only [List.getElem?_toArray, List.getElem?_cons_succ, List.getElem?_cons_zero, Option.some.injEq] at ho
                subst ho
                have f1 : S 1 = false := by cases h : S 1 with | false => rfl | true => (have h2 := hc 1 0 (of_decide_eq_true (by kernel_rfl)) h; rw [h2] at hi; cases hi)
                have f5 : S 5 = false := by cases h : S 5 with | false => rfl | true => (have h2 := hc 5 0 (of_decide_eq_true (by kernel_rfl)) h; rw [h2] at hi; cases hi)
                have f6 : S 6 = false := by cases h : S 6 with | false => rfl | true => (have h2 := hc 6 0 (of_decide_eq_true (by kernel_rfl)) h; rw [h2] at hi; cases hi)
                exact turn_pure (knows_env (x := 22) (v := .pointer (some ⟨Nx, 0, none⟩)) (by kernel_rfl) rfl knows_nil) rfl (by simp only [go_sem, ↓reduceIte, Nat.reduceLT, Nat.reduceEqDiff, Nat.reduceLeDiff, Nat.reduceAdd, Nat.reduceMul, Int.reduceLT, Int.reduceLE, Int.reduceToNat, BitVec.reduceOfInt, Nat.reduceBEq, u8_shl_one (show j ≤ 7 by omega), u8_or hq8 h28]; try rfl) (by simp only [go_sem, ↓reduceIte, Nat.reduceLT, Nat.reduceEqDiff, Nat.reduceLeDiff, Nat.reduceAdd, Nat.reduceMul, Int.reduceLT, Int.reduceLE, Int.reduceToNat, BitVec.reduceOfInt, Nat.reduceBEq, u8_shl_one (show j ≤ 7 by omega), u8_or hq8 h28]; try rfl) (by first | rfl | simp [upd])
              · simp only [List.getElem?_toArray, List.getElem?_cons_succ, List.getElem?_cons_zero, Option.some.injEq] at ho
                subst ho
                have f0 : S 0 = true := hd 0 (of_decide_eq_true (by kernel_rfl))
                have f4 : S 4 = false := by cases h : S 4 with | false => rfl | true => (have h2 := hc 4 1 (of_decide_eq_true (by kernel_rfl)) h; rw [h2] at hi; cases hi)
                have f5 : S 5 = false := by cases h : S 5 with | false => rfl | true => (have h2 := hc 5 1 (of_decide_eq_true (by kernel_rfl)) h; rw [h2] at hi; cases hi)
                have f6 : S 6 = false := by cases h : S 6 with | false => rfl | true => (have h2 := hc 6 1 (of_decide_eq_true (by kernel_rfl)) h; rw [h2] at hi; cases hi)
                exact turn_load (knows_done honce 0 (x := 110) (v := .pointer (some ⟨Nx, 1, none⟩)) (by kernel_rfl) (by simp) f0 rfl knows_nil) rfl (by simp only [go_sem, ↓reduceIte, Nat.reduceLT, Nat.reduceEqDiff, Nat.reduceLeDiff, Nat.reduceAdd, Nat.reduceMul, Int.reduceLT, Int.reduceLE, Int.reduceToNat, BitVec.reduceOfInt, Nat.reduceBEq, u8_shl_one (show j ≤ 7 by omega), u8_or hq8 h28]; try rfl) rfl (by simp only [go_sem, ↓reduceIte, Nat.reduceLT, Nat.reduceEqDiff, Nat.reduceLeDiff, Nat.reduceAdd, Nat.reduceMul, Int.reduceLT, Int.reduceLE, Int.reduceToNat, BitVec.reduceOfInt, Nat.reduceBEq, u8_shl_one (show j ≤ 7 by omega), u8_or hq8 h28]; try rfl) (show (if S 6 = true then σc else σa) Nx = some (Blk.mk (cubeV (p, q)) true 1) from by simp only [f6, Bool.false_eq_true, if_false]; exact hgeta) (loadA_scalar agg5 rfl) (by first | rfl | simp [upd])
              · simp only [List.getElem?_toArray, List.getElem?_cons_succ, List.getElem?_cons_zero, Option.some.injEq] at ho
                subst ho
                have f3 : S 3 = false := by cases h : S 3 with | false => rfl | true => (have h2 := hc 3 2 (of_decide_eq_true (by kernel_rfl)) h; rw [h2] at hi; cases hi)
                have f5 : S 5 = false := by cases h : S 5 with | false => rfl | true => (have h2 := hc 5 2 (of_decide_eq_true (by kernel_rfl)) h; rw [h2] at hi; cases hi)
                have f6 : S 6 = false := by cases h : S 6 with | false => rfl | true => (have h2 := hc 6 2 (of_decide_eq_true (by kernel_rfl)) h; rw [h2] at hi; cases hi)
                exact turn_pure (knows_env (x := 10) (v := .int .i64 j) (by kernel_rfl) rfl knows_nil) rfl (by simp only [go_sem, ↓reduceIte, Nat.reduceLT, Nat.reduceEqDiff, Nat.reduceLeDiff, Nat.reduceAdd, Nat.reduceMul, Int.reduceLT, Int.reduceLE, Int.reduceToNat, BitVec.reduceOfInt, Nat.reduceBEq, u8_shl_one (show j ≤ 7 by omega), u8_or hq8 h28]; try rfl) (by simp only [go_sem, ↓reduceIte, Nat.reduceLT, Nat.reduceEqDiff, Nat.reduceLeDiff, Nat.reduceAdd, Nat.reduceMul, Int.reduceLT, Int.reduceLE, Int.reduceToNat, BitVec.reduceOfInt, Nat.reduceBEq, u8_shl_one (show j ≤ 7 by omega), u8_or hq8 h28]; try rfl) (by first | rfl | simp [upd])
              · simp only [List.getElem?_toArray, List.getElem?_cons_succ, List.getElem?_cons_zero, Option.some.injEq] at ho
                subst ho
                have f2 : S 2 = true := hd 2 (of_decide_eq_true (by kernel_rfl))
                have f4 : S 4 = false := by cases h : S 4 with | false => rfl | true => (have h2 := hc 4 3 (of_decide_eq_true (by kernel_rfl)) h; rw [h2] at hi; cases hi)
                have f5 : S 5 = false := by cases h : S 5 with | false => rfl | true => (have h2 := hc 5 3 (of_decide_eq_true (by kernel_rfl)) h; rw [h2] at hi; cases hi)
                have f6 : S 6 = false := by cases h : S 6 with | false => rfl | true => (have h2 := hc 6 3 (of_decide_eq_true (by kernel_rfl)) h; rw [h2] at hi; cases hi)
                exact turn_pure (knows_done honce 2 (x := 112) (v := .int .i64 j) (by kernel_rfl) (by simp) f2 rfl knows_nil) rfl (by simp only [go_sem, ↓reduceIte, Nat.reduceLT, Nat.reduceEqDiff, Nat.reduceLeDiff, Nat.reduceAdd, Nat.reduceMul, Int.reduceLT, Int.reduceLE, Int.reduceToNat, BitVec.reduceOfInt, Nat.reduceBEq, u8_shl_one (show j ≤ 7 by omega), u8_or hq8 h28]; try rfl) (by simp only [go_sem, ↓reduceIte, Nat.reduceLT, Nat.reduceEqDiff, Nat.reduceLeDiff, Nat.reduceAdd, Nat.reduceMul, Int.reduceLT, Int.reduceLE, Int.reduceToNat, BitVec.reduceOfInt, Nat.reduceBEq, u8_shl_one (show j ≤ 7 by omega), u8_or hq8 h28]; try rfl) (by first | rfl | simp [upd])
              · simp only [List.getElem?_toArray, List.getElem?_cons_succ, List.getElem?_cons_zero, Option.some.injEq] at ho
                subst ho
                have f1 : S 1 = true := hd 1 (of_decide_eq_true (by kernel_rfl))
                have f3 : S 3 = true := hd 3 (of_decide_eq_true (by kernel_rfl))
                have f5 : S 5 = false := by cases h : S 5 with | false => rfl | true => (have h2 := hc 5 4 (of_decide_eq_true (by kernel_rfl)) h; rw [h2] at hi; cases hi)
                have f6 : S 6 = false := by cases h : S 6 with | false => rfl | true => (have h2 := hc 6 4 (of_decide_eq_true (by kernel_rfl)) h; rw [h2] at hi; cases hi)
                exact turn_pure (knows_done honce 3 (x := 113) (v := .int .u8 ((2 ^ j : Nat) : Int)) (by kernel_rfl) (by simp) f3 rfl (knows_done honce 1 (x := 111) (v := .int .u8 q) (by kernel_rfl) (by simp) f1 rfl knows_nil)) rfl (by simp only [go_sem, ↓reduceIte, Nat.reduceLT, Nat.reduceEqDiff, Nat.reduceLeDiff, Nat.reduceAdd, Nat.reduceMul, Int.reduceLT, Int.reduceLE, Int.reduceToNat, BitVec.reduceOfInt, Nat.reduceBEq, u8_shl_one (show j ≤ 7 by omega), u8_or hq8 h28]; try rfl) (by simp only [go_sem, ↓reduceIte, Nat.reduceLT, Nat.reduceEqDiff, Nat.reduceLeDiff, Nat.reduceAdd, Nat.reduceMul, Int.reduceLT, Int.reduceLE, Int.reduceToNat, BitVec.reduceOfInt, Nat.reduceBEq, u8_shl_one (show j ≤ 7 by omega), u8_or hq8 h28]; try rfl) (by first | rfl | simp [upd])
              · simp only [List.getElem?_toArray, List.getElem?_cons_succ, List.getElem?_cons_zero, Option.some.injEq] at ho
                subst ho
                have f0 : S 0 = true := hd 0 (of_decide_eq_true (by kernel_rfl))
                have f1 : S 1 = true := hd 1 (of_decide_eq_true (by kernel_rfl))
                have f2 : S 2 = true := hd 2 (of_decide_eq_true (by kernel_rfl))
                have f3 : S 3 = true := hd 3 (of_decide_eq_true (by kernel_rfl))
                have f4 : S 4 = true := hd 4 (of_decide_eq_true (by kernel_rfl))
                have f6 : S 6 = false := by cases h : S 6 with | false => rfl | true => (have h2 := hc 6 5 (of_decide_eq_true (by kernel_rfl)) h; rw [h2] at hi; cases hi)
                exact turn_pure (knows_env (x := 22) (v := .pointer (some ⟨Nx, 0, none⟩)) (by kernel_rfl) rfl knows_nil) rfl (by simp only [go_sem, ↓reduceIte, Nat.reduceLT, Nat.reduceEqDiff, Nat.reduceLeDiff, Nat.reduceAdd, Nat.reduceMul, Int.reduceLT, Int.reduceLE, Int.reduceToNat, BitVec.reduceOfInt, Nat.reduceBEq, u8_shl_one (show j ≤ 7 by omega), u8_or hq8 h28]; try rfl) (by simp only [go_sem, ↓reduceIte, Nat.reduceLT, Nat.reduceEqDiff, Nat.reduceLeDiff, Nat.reduceAdd, Nat.reduceMul, Int.reduceLT, Int.reduceLE, Int.reduceToNat, BitVec.reduceOfInt, Nat.reduceBEq, u8_shl_one (show j ≤ 7 by omega), u8_or hq8 h28]; try rfl) (by first | rfl | simp [upd])
              · simp only [List.getElem?_toArray, List.getElem?_cons_succ, List.getElem?_cons_zero, Option.some.injEq] at ho
                subst ho
                have f0 : S 0 = true := hd 0 (of_decide_eq_true (by kernel_rfl))
                have f1 : S 1 = true := hd 1 (of_decide_eq_true (by kernel_rfl))
                have f2 : S 2 = true := hd 2 (of_decide_eq_true (by kernel_rfl))
                have f3 : S 3 = true := hd 3 (of_decide_eq_true (by kernel_rfl))
                have f4 : S 4 = true := hd 4 (of_decide_eq_true (by kernel_rfl))
                have f5 : S 5 = true := hd 5 (of_decide_eq_true (by kernel_rfl))
                exact turn_store (v := (.int .u8 ((q ||| 2 ^ j : Nat) : Int))) (knows_done honce 4 (x := 114) (v := .int .u8 ((q ||| 2 ^ j : Nat) : Int)) (by kernel_rfl) (by simp) f4 rfl (knows_done honce 5 (x := 115) (v := .pointer (some ⟨Nx, 1, none⟩)) (by kernel_rfl) (by simp) f5 rfl knows_nil)) rfl (by simp only [go_sem, ↓reduceIte, Nat.reduceLT, Nat.reduceEqDiff, Nat.reduceLeDiff, Nat.reduceAdd, Nat.reduceMul, Int.reduceLT, Int.reduceLE, Int.reduceToNat, BitVec.reduceOfInt, Nat.reduceBEq, u8_shl_one (show j ≤ 7 by omega), u8_or hq8 h28]; try rfl) rfl (by simp only [go_sem, ↓reduceIte, Nat.reduceLT, Nat.reduceEqDiff, Nat.reduceLeDiff, Nat.reduceAdd, Nat.reduceMul, Int.reduceLT, Int.reduceLE, Int.reduceToNat, BitVec.reduceOfInt, Nat.reduceBEq, u8_shl_one (show j ≤ 7 by omega), u8_or hq8 h28]; try rfl) (by simp only [go_sem, ↓reduceIte, Nat.reduceLT, Nat.reduceEqDiff, Nat.reduceLeDiff, Nat.reduceAdd, Nat.reduceMul, Int.reduceLT, Int.reduceLE, Int.reduceToNat, BitVec.reduceOfInt, Nat.reduceBEq, u8_shl_one (show j ≤ 7 by omega), u8_or hq8 h28]; try rfl) (show (if S 6 = true then σc else σa) Nx = some (Blk.mk (cubeV (p, q)) true 1) from by simp only [hi, Bool.false_eq_true, if_false]; exact hgeta) rfl size5 rfl (by simp [spread, cubeV]) rfl (by simp only [upd, hi, if_true, Bool.false_eq_true, if_false]; exact hca)
            change AWp _ _ _ _ (Nx + 1 + 7) σc _
            refine awp_lit ?_
            refine al_pureN 1 (by simp only [go_sem, ↓reduceIte, Nat.reduceLT, Nat.reduceEqDiff, Nat.reduceLeDiff, Nat.reduceAdd, Nat.reduceMul, Int.reduceLT, Int.reduceLE, Int.reduceToNat, BitVec.reduceOfInt, Nat.reduceBEq]; try rfl) ?_
            refine al_load rfl (by simp only [go_sem, ↓reduceIte, Nat.reduceLT, Nat.reduceEqDiff, Nat.reduceLeDiff, Nat.reduceAdd, Nat.reduceMul, Int.reduceLT, Int.reduceLE, Int.reduceToNat, BitVec.reduceOfInt, Nat.reduceBEq]) rfl (by simp only [go_sem, ↓reduceIte, Nat.reduceLT, Nat.reduceEqDiff, Nat.reduceLeDiff, Nat.reduceAdd, Nat.reduceMul, Int.reduceLT, Int.reduceLE, Int.reduceToNat, BitVec.reduceOfInt, Nat.reduceBEq]; try rfl) hgetc (loadA_agg agg39 rfl) ?_
            refine al_fresh fun hFc => ?_
            refine al_buildSlice rfl (by simp only [go_sem, ↓reduceIte, Nat.reduceLT, Nat.reduceEqDiff, Nat.reduceLeDiff, Nat.reduceAdd, Nat.reduceMul, Int.reduceLT, Int.reduceLE, Int.reduceToNat, BitVec.reduceOfInt, Nat.reduceBEq]; try rfl) rfl Try.underlying36 ty39 (by decide) rfl (by decide) (by decide) (by simp only [go_sem, ↓reduceIte, Nat.reduceLT, Nat.reduceEqDiff, Nat.reduceLeDiff, Nat.reduceAdd, Nat.reduceMul, Int.reduceLT, Int.reduceLE, Int.reduceToNat, BitVec.reduceOfInt, Nat.reduceBEq]; try rfl) rfl (by simp [zerosA, splice, spread, cubeV]) ?_
            have hFc' : ∀ i b', σc i = some b' → i ≠ Nx + 1 + 7 := fun i b' hi => Nat.ne_of_lt (hFc i b' hi)
            refine al_append_own (m := 1) (news := cubeV (p, q ||| 2 ^ j)) rfl (by simp only [go_sem, ↓reduceIte, Nat.reduceLT, Nat.reduceEqDiff, Nat.reduceLeDiff, Nat.reduceAdd, Nat.reduceMul, Int.reduceLT, Int.reduceLE, Int.reduceToNat, BitVec.reduceOfInt, Nat.reduceBEq]; try rfl) rfl Try.underlying36 ty39 rfl (by simp only [go_sem, ↓reduceIte, Nat.reduceLT, Nat.reduceEqDiff, Nat.reduceLeDiff, Nat.reduceAdd, Nat.reduceMul, Int.reduceLT, Int.reduceLE, Int.reduceToNat, BitVec.reduceOfInt, Nat.reduceBEq]; try rfl) (by simp only [go_sem, ↓reduceIte, Nat.reduceLT, Nat.reduceEqDiff, Nat.reduceLeDiff, Nat.reduceAdd, Nat.reduceMul, Int.reduceLT, Int.reduceLE, Int.reduceToNat, BitVec.reduceOfInt, Nat.reduceBEq]; try rfl)
              (hown.mono (fun i b _ hb => by rw [AHeap.set_ne _ _ (hFc' i b (hlec _ _ hb))]; exact hlec _ _ hb) (Nat.le_refl _)) (by omega) rfl (by simp only [srcA]; rw [AHeap.set_self]; rfl) rfl rfl (by omega) (by omega) ?_
            intro N' σ' v' hN' hown' hkeep
            refine al_pureN 1 (by simp only [go_sem, ↓reduceIte, Nat.reduceLT, Nat.reduceEqDiff, Nat.reduceLeDiff, Nat.reduceAdd, Nat.reduceMul, Int.reduceLT, Int.reduceLE, Int.reduceToNat, BitVec.reduceOfInt, Nat.reduceBEq]; try rfl) ?_
            refine al_end [3, 10, 16, 17, 18, 19, 20, 104, 105, 106] ?_
            have hi1 : -9223372036854775808 ≤ (i : Int) + 1 ∧ (i : Int) + 1 ≤ 9223372036854775807 := by omega
            refine awp_pures [3, 10, 16, 17, 18, 19, 20, 104, 105, 106] (by simp only [go_sem, ↓reduceIte, Nat.reduceLT, Nat.reduceEqDiff, Nat.reduceLeDiff, Nat.reduceAdd, Nat.reduceMul, Int.reduceLT, Int.reduceLE, Int.reduceToNat, BitVec.reduceOfInt, Nat.reduceBEq, i64_add hi1]; try rfl) ?_
            refine (ih (i + 1, l ++ [(p, q ||| 2 ^ j)], v', N', σ') ⟨hlt, by rw [← hcl]; simp, by simp; omega, by simp; omega, by rw [cubes_snoc]; simpa using hown', hkeep σ1 (AHeap.le_set (AHeap.le_trans hlex hlec) fun i b hb => hFc' i b (hlec _ _ (hlex _ _ hb))) hF1⟩ (by simp; omega)).cast (by first | (simp only [go_sem, ↓reduceIte, Nat.reduceLT, Nat.reduceEqDiff, Nat.reduceLeDiff, Nat.reduceAdd, Nat.reduceMul, Int.reduceLT, Int.reduceLE, Int.reduceToNat, BitVec.reduceOfInt, Nat.reduceBEq]; try rfl) | rfl)
          · have hb : decide ((i : Int) < (r0.1.length : Int)) = false := by simpa using hlt
            have hil : i = r0.1.length := by omega
            refine awp_seq (awp_pures [3, 10, 16, 17, 18, 19, 20, 107] (by simp only [go_sem, ↓reduceIte, Nat.reduceLT, Nat.reduceEqDiff, Nat.reduceLeDiff, Nat.reduceAdd, Nat.reduceMul, Int.reduceLT, Int.reduceLE, Int.reduceToNat, BitVec.reduceOfInt, Nat.reduceBEq, hb]; try rfl) ?_)
            refine awp_seq ?_
            refine awp_if rfl (fun h => by cases h) (fun _ => ?_)
            refine awp_exit ?_
            simp only [Go.Abs.Seq, Go.Abs.Round, Go.Abs.InBlock, ↓reduceIte]
            subst hil
            rw [List.drop_length, List.map_nil, List.append_nil] at hcl
            have hll1 : l.length ≤ 486 := by omega
            clear ih
            have hcl1 := hcl
            have hll0 := hll
            have hNx1 := hNx
            refine awp_seq ?_
            refine awp_seq (awp_pures [10, 16, 18, 19, 20, 121, 122, 123] (by simp only [go_sem, ↓reduceIte, Nat.reduceLT, Nat.reduceEqDiff, Nat.reduceLeDiff, Nat.reduceAdd, Nat.reduceMul, Int.reduceLT, Int.reduceLE, Int.reduceToNat, BitVec.reduceOfInt, Nat.reduceBEq]; try rfl) ?_)
            refine awp_block (awp_loop ?_)
            refine ALoop.cast3 (aloop_ind (α := Nat × List (Nat × Nat) × Value × Nat × AHeap)
              (fun x => x.1 ≤ r1.1.length ∧ x.2.1 ++ (r1.1.drop x.1).map (fun c => (c.1 ||| 2 ^ j, c.2)) = l ++ r1.1.map (fun c => (c.1 ||| 2 ^ j, c.2)) ∧ x.2.1.length = l.length + x.1 ∧ N1 ≤ x.2.2.2.1 ∧ OwnAt x.2.2.2.2 N1 x.2.2.1 (cubes x.2.1).flatten x.2.1.length 2 ∧ σ1.le x.2.2.2.2) (fun x => r1.1.length - x.1)
              (fun x => [(10, .int .i64 j), (16, .int .u64 r0.2.toNat), (18, .int .u64 r1.2.toNat), (19, x.2.2.1), (20, .int .u64 rb.2.toNat), (121, .slice b1 r1.1.length k1), (122, .int .i64 r1.1.length), (123, .int .i64 x.1)]) (fun x => x.2.2.2.1) (fun x => x.2.2.2.2) ?_
              (0, l, v, Nx, σx) ⟨by simp, by simp, by simp, hNx, hown, hlex⟩) rfl rfl rfl
            rintro ⟨i, l, v, Nx, σx⟩ ⟨hi, hcl, hll, hNx, hown, hlex⟩ ih
            simp only at hi hcl hll hNx hown hlex
            by_cases hlt : i < r1.1.length
            · have hb : decide ((i : Int) < (r1.1.length : Int)) = true := by simpa using hlt
              refine awp_seq (awp_pures [10, 16, 18, 19, 20, 121, 122, 123, 124] (by simp only [go_sem, ↓reduceIte, Nat.reduceLT, Nat.reduceEqDiff, Nat.reduceLeDiff, Nat.reduceAdd, Nat.reduceMul, Int.reduceLT, Int.reduceLE, Int.reduceToNat, BitVec.reduceOfInt, Nat.reduceBEq, hb]; try rfl) ?_)
              refine awp_seq ?_
              refine awp_if rfl (fun _ => ?_) (fun h => by cases h)
              refine awp_skip ?_
              obtain ⟨id, off, cap, b, f1, f2, f3⟩ := (hrow1.mono hlex).at (j := i) (by rw [hrl1]; exact hlt)
              rw [hrl1] at f1
              cases f1
              have hii : 0 ≤ (i : Int) ∧ (i : Int) < (r1.1.length : Int) := by omega
              have f3 : cellsA b (off + i * 2) 2 = some (cubeV r1.1[i]) := by rw [f3]; simp [cubes]
              have hsc := hs1 r1.1[i] (List.getElem_mem hlt)
              rw [List.drop_eq_getElem_cons hlt, List.map_cons] at hcl
              generalize r1.1[i] = c at f3 hsc hcl
              obtain ⟨p, q⟩ := c
              obtain ⟨hp, hq⟩ := hsc
              try simp only at hp hq hcl
              have hp8 : p < 256 := by omega
              have hq8 : q < 256 := by omega
              have h28 : 2 ^ j < 256 := by omega
              have hqq : p ||| 2 ^ j < 256 := Nat.or_lt_two_pow (n := 8) hp8 h28
              refine awp_seq (awp_block ?_)
              first | refine awp_seq (awp_lit ?_) | refine awp_lit ?_ | refine awp_seq (awp_seq (awp_lit ?_))
              refine al_fresh fun hFx => ?_
              refine al_pureN 1 (by simp only [go_sem, ↓reduceIte, Nat.reduceLT, Nat.reduceEqDiff, Nat.reduceLeDiff, Nat.reduceAdd, Nat.reduceMul, Int.reduceLT, Int.reduceLE, Int.reduceToNat, BitVec.reduceOfInt, Nat.reduceBEq, hii]; try rfl) ?_
              refine al_load rfl (by simp only [go_sem, ↓reduceIte, Nat.reduceLT, Nat.reduceEqDiff, Nat.reduceLeDiff, Nat.reduceAdd, Nat.reduceMul, Int.reduceLT, Int.reduceLE, Int.reduceToNat, BitVec.reduceOfInt, Nat.reduceBEq]) rfl (by simp only [go_sem, ↓reduceIte, Nat.reduceLT, Nat.reduceEqDiff, Nat.reduceLeDiff, Nat.reduceAdd, Nat.reduceMul, Int.reduceLT, Int.reduceLE, Int.reduceToNat, BitVec.reduceOfInt, Nat.reduceBEq]; try rfl) f2 (loadA_agg agg39 f3) ?_
              refine al_alloc 1 rfl rfl rfl ty39 (by decide) ?_
              refine al_store rfl (by simp only [go_sem, ↓reduceIte, Nat.reduceLT, Nat.reduceEqDiff, Nat.reduceLeDiff, Nat.reduceAdd, Nat.reduceMul, Int.reduceLT, Int.reduceLE, Int.reduceToNat, BitVec.reduceOfInt, Nat.reduceBEq]; try rfl) rfl (by simp only [go_sem, ↓reduceIte, Nat.reduceLT, Nat.reduceEqDiff, Nat.reduceLeDiff, Nat.reduceAdd, Nat.reduceMul, Int.reduceLT, Int.reduceLE, Int.reduceToNat, BitVec.reduceOfInt, Nat.reduceBEq]; try rfl) (by simp only [go_sem, ↓reduceIte, Nat.reduceLT, Nat.reduceEqDiff, Nat.reduceLeDiff, Nat.reduceAdd, Nat.reduceMul, Int.reduceLT, Int.reduceLE, Int.reduceToNat, BitVec.reduceOfInt, Nat.reduceBEq]; try rfl) (AHeap.set_self _ _ _) rfl (by exact size39) rfl (by simp [spread, cubeV]) ?_
              refine al_forget (σ' := σx.set Nx ⟨cubeV (p, q), true, 1⟩) (fun i b' hi => ?_) ?_
              · unfold AHeap.set at hi ⊢
                split at hi
                · rename_i h; cases hi; rw [if_pos h]; rfl
                · rename_i h; rw [if_neg h, if_neg h]; exact hi
              have hfresh : ∀ i b', σx i = some b' → i ≠ Nx := fun i b' hi => Nat.ne_of_lt (hFx i b' hi)
              have hgeta : (σx.set Nx ⟨cubeV (p, q), true, 1⟩) Nx = some ⟨cubeV (p, q), true, 1⟩ := AHeap.set_self _ _ _
              have hgetc : (σx.set Nx ⟨cubeV (p ||| 2 ^ j, q), true, 1⟩) Nx = some ⟨cubeV (p ||| 2 ^ j, q), true, 1⟩ := AHeap.set_self _ _ _
              have hlec : σx.le (σx.set Nx ⟨cubeV (p ||| 2 ^ j, q), true, 1⟩) := AHeap.le_set (AHeap.le_refl _) hfresh
              have hca : (σx.set Nx ⟨cubeV (p ||| 2 ^ j, q), true, 1⟩).le ((σx.set Nx ⟨cubeV (p, q), true, 1⟩).set Nx ⟨cubeV (p ||| 2 ^ j, q), true, 1⟩) := fun i b' hi => by
                unfold AHeap.set at hi ⊢
                split at hi
                · rename_i h; rw [if_pos h]; exact hi
                · rename_i h; rw [if_neg h, if_neg h]; exact hi
              generalize σx.set Nx ⟨cubeV (p, q), true, 1⟩ = σa at hgeta hca ⊢
              generalize σx.set Nx ⟨cubeV (p ||| 2 ^ j, q), true, 1⟩ = σc at hgetc hlec hca ⊢
              refine al_end [10, 16, 18, 19, 20, 24, 121, 122, 123] ?_
              refine awp_seq (awp_draw [(10, .int .i64 j), (16, .int .u64 r0.2.toNat), (18, .int .u64 r1.2.toNat), (19, v), (20, .int .u64 rb.2.toNat), (24, .pointer (some ⟨Nx, 0, none⟩)), (121, .slice (some ⟨id, off, none⟩) r1.1.length k1), (122, .int .i64 r1.1.length), (123, .int .i64 i)] [.pointer (some ⟨Nx, 0, none⟩), .int .u8 p, .int .i64 j, .int .u8 ((2 ^ j : Nat) : Int), .int .u8 ((p ||| 2 ^ j : Nat) : Int), .pointer (some ⟨Nx, 0, none⟩), undef] (fun S => if S 6 = true then σc else σa) (by kernel_rfl) (by kernel_rfl) (by kernel_rfl) (AHeap.le_refl _) (fun S S' h => by simp only [h 6 (by simp)]) ?ht12 (fun honce => (knows_env (x := 10) (v := .int .i64 j) (by kernel_rfl) rfl (knows_env (x := 16) (v := .int .u64 r0.2.toNat) (by kernel_rfl) rfl (knows_env (x := 18) (v := .int .u64 r1.2.toNat) (by kernel_rfl) rfl (knows_env (x := 19) (v := v) (by kernel_rfl) rfl (knows_env (x := 20) (v := .int .u64 rb.2.toNat) (by kernel_rfl) rfl (knows_env (x := 24) (v := .pointer (some ⟨Nx, 0, none⟩)) (by kernel_rfl) rfl (knows_env (x := 121) (v := .slice (some ⟨id, off, none⟩) r1.1.length k1) (by kernel_rfl) rfl (knows_env (x := 122) (v := .int .i64 r1.1.length) (by kernel_rfl) rfl (knows_env (x := 123) (v := .int .i64 i) (by kernel_rfl) rfl knows_nil)))))))))) ?hk12)
              case ht12 =>
                intro i o S ho hi hd hc honce
                have hlt : i < 7 := by simpa using (Array.getElem?_eq_some_iff.1 ho).1
                have key : i = 0 ∨ i = 1 ∨ i = 2 ∨ i = 3 ∨ i = 4 ∨ i = 5 ∨ i = 6 := by omega
                rcases key with rfl | rfl | rfl | rfl | rfl | rfl | rfl
                · simp only [List.getElem?_toArray, List.getElem?_cons_succ, List.getElem?_cons_zero, Option.some.injEq] at ho
                  subst ho
                  have f1 : S 1 = false := by cases h : S 1 with | false => rfl | true => (have h2 := hc 1 0 (of_decide_eq_true (by kernel_rfl)) h; rw [h2] at hi; cases hi)
                  have f5 : S 5 = false := by cases h : S 5 with | false => rfl | true => (have h2 := hc 5 0 (of_decide_eq_true (by kernel_rfl)) h; rw [h2] at hi; cases hi)
                  have f6 : S 6 = false := by cases h : S 6 with | false => rfl | true => (have h2 := hc 6 0 (of_decide_eq_true (by kernel_rfl)) h; rw [h2] at hi; cases hi)
                  exact turn_pure (knows_env (x := 24) (v := .pointer (some ⟨Nx, 0, none⟩)) (by kernel_rfl) rfl knows_nil) rfl (by simp only [go_sem, ↓reduceIte, Nat.reduceLT, Nat.reduceEqDiff, Nat.reduceLeDiff, Nat.reduceAdd, Nat.reduceMul, Int.reduceLT, Int.reduceLE, Int.reduceToNat, BitVec.reduceOfInt, Nat.reduceBEq, u8_shl_one (show j ≤ 7 by omega), u8_or hp8 h28]; try rfl) (by simp only [go_sem, ↓reduceIte, Nat.reduceLT, Nat.reduceEqDiff, Nat.reduceLeDiff, Nat.reduceAdd, Nat.reduceMul, Int.reduceLT, Int.reduceLE, Int.reduceToNat, BitVec.reduceOfInt, Nat.reduceBEq, u8_shl_one (show j ≤ 7 by omega), u8_or hp8 h28]; try rfl) (by first | rfl | simp [upd])
                · simp only [List.getElem?_toArray, List.getElem?_cons_succ, List.getElem?_cons_zero, Option.some.injEq] at ho
                  subst ho
                  have f0 : S 0 = true := hd 0 (of_decide_eq_true (by kernel_rfl))
                  have f4 : S 4 = false := by cases h : S 4 with | false => rfl | true => (have h2 := hc 4 1 (of_decide_eq_true (by kernel_rfl)) h; rw [h2] at hi; cases hi)
                  have f5 : S 5 = false := by cases h : S 5 with | false => rfl | true => (have h2 := hc 5 1 (of_decide_eq_true (by kernel_rfl)) h; rw [h2] at hi; cases hi)
                  have f6 : S 6 = false := by cases h : S 6 with | false => rfl | true => (have h2 := hc 6 1 (of_decide_eq_true (by kernel_rfl)) h; rw [h2] at hi; cases hi)
                  exact turn_load (knows_done honce 0 (x := 127) (v := .pointer (some ⟨Nx, 0, none⟩)) (by kernel_rfl) (by simp) f0 rfl knows_nil) rfl (by simp only [go_sem, ↓reduceIte, Nat.reduceLT, Nat.reduceEqDiff, Nat.reduceLeDiff, Nat.reduceAdd, Nat.reduceMul, Int.reduceLT, Int.reduceLE, Int.reduceToNat, BitVec.reduceOfInt, Nat.reduceBEq, u8_shl_one (show j ≤ 7 by omega), u8_or hp8 h28]; try rfl) rfl (by simp only [go_sem, ↓reduceIte, Nat.reduceLT, Nat.reduceEqDiff, Nat.reduceLeDiff, Nat.reduceAdd, Nat.reduceMul, Int.reduceLT, Int.reduceLE, Int.reduceToNat, BitVec.reduceOfInt, Nat.reduceBEq, u8_shl_one (show j ≤ 7 by omega), u8_or hp8 h28]; try rfl) (show (if S 6 = true then σc else σa) Nx = some (Blk.mk (cubeV (p, q)) true 1) from by simp only [f6, Bool.false_eq_true, if_false]; exact hgeta) (loadA_scalar agg5 rfl) (by first | rfl | simp [upd])
                · simp only [List.getElem?_toArray, List.getElem?_cons_succ, List.getElem?_cons_zero, Option.some.injEq] at ho
                  subst ho
                  have f3 : S 3 = false := by cases h : S 3 with | false => rfl | true => (have h2 := hc 3 2 (of_decide_eq_true (by kernel_rfl)) h; rw [h2] at hi; cases hi)
                  have f5 : S 5 = false := by cases h : S 5 with | false => rfl | true => (have h2 := hc 5 2 (of_decide_eq_true (by kernel_rfl)) h; rw [h2] at hi; cases hi)
                  have f6 : S 6 = false := by cases h : S 6 with | false => rfl | true => (have h2 := hc 6 2 (of_decide_eq_true (by kernel_rfl)) h; rw [h2] at hi; cases hi)
                  exact turn_pure (knows_env (x := 10) (v := .int .i64 j) (by kernel_rfl) rfl knows_nil) rfl (by simp only [go_sem, ↓reduceIte, Nat.reduceLT, Nat.reduceEqDiff, Nat.reduceLeDiff, Nat.reduceAdd, Nat.reduceMul, Int.reduceLT, Int.reduceLE, Int.reduceToNat, BitVec.reduceOfInt, Nat.reduceBEq, u8_shl_one (show j ≤ 7 by omega), u8_or hp8 h28]; try rfl) (by simp only [go_sem, ↓reduceIte, Nat.reduceLT, Nat.reduceEqDiff, Nat.reduceLeDiff, Nat.reduceAdd, Nat.reduceMul, Int.reduceLT, Int.reduceLE, Int.reduceToNat, BitVec.reduceOfInt, Nat.reduceBEq, u8_shl_one (show j ≤ 7 by omega), u8_or hp8 h28]; try rfl) (by first | rfl | simp [upd])
                · simp only [List.getElem?_toArray, List.getElem?_cons_succ, List.getElem?_cons_zero, Option.some.injEq] at ho
                  subst ho
                  have f2 : S 2 = true := hd 2 (of_decide_eq_true (by kernel_rfl))
                  have f4 : S 4 = false := by cases h : S 4 with | false => rfl | true => (have h2 := hc 4 3 (of_decide_eq_true (by kernel_rfl)) h; rw [h2] at hi; cases hi)
                  have f5 : S 5 = false := by cases h : S 5 with | false => rfl | true => (have h2 := hc 5 3 (of_decide_eq_true (by kernel_rfl)) h; rw [h2] at hi; cases hi)
                  have f6 : S 6 = false := by cases h : S 6 with | false => rfl | true => (have h2 := hc 6 3 (of_decide_eq_true (by kernel_rfl)) h; rw [h2] at hi; cases hi)
                  exact turn_pure (knows_done honce 2 (x := 129) (v := .int .i64 j) (by kernel_rfl) (by simp) f2 rfl knows_nil) rfl (by simp only [go_sem, ↓reduceIte, Nat.reduceLT, Nat.reduceEqDiff, Nat.reduceLeDiff, Nat.reduceAdd, Nat.reduceMul, Int.reduceLT, Int.reduceLE, Int.reduceToNat, BitVec.reduceOfInt, Nat.reduceBEq, u8_shl_one (show j ≤ 7 by omega), u8_or hp8 h28]; try rfl) (by simp only [go_sem, ↓reduceIte, Nat.reduceLT, Nat.reduceEqDiff, Nat.reduceLeDiff, Nat.reduceAdd, Nat.reduceMul, Int.reduceLT, Int.reduceLE, Int.reduceToNat, BitVec.reduceOfInt, Nat.reduceBEq, u8_shl_one (show j ≤ 7 by omega), u8_or hp8 h28]; try rfl) (by first | rfl | simp [upd])
                · simp only [List.getElem?_toArray, List.getElem?_cons_succ, List.getElem?_cons_zero, Option.some.injEq] at ho
                  subst ho
                  have f1 : S 1 = true := hd 1 (of_decide_eq_true (by kernel_rfl))
                  have f3 : S 3 = true := hd 3 (of_decide_eq_true (by kernel_rfl))
                  have f5 : S 5 = false := by cases h : S 5 with | false => rfl | true => (have h2 := hc 5 4 (of_decide_eq_true (by kernel_rfl)) h; rw [h2] at hi; cases hi)
                  have f6 : S 6 = false := by cases h : S 6 with | false => rfl | true => (have h2 := hc 6 4 (of_decide_eq_true (by kernel_rfl)) h; rw [h2] at hi; cases hi)
                  exact turn_pure (knows_done honce 3 (x := 130) (v := .int .u8 ((2 ^ j : Nat) : Int)) (by kernel_rfl) (by simp) f3 rfl (knows_done honce 1 (x := 128) (v := .int .u8 p) (by kernel_rfl) (by simp) f1 rfl knows_nil)) rfl (by simp only [go_sem, ↓reduceIte, Nat.reduceLT, Nat.reduceEqDiff, Nat.reduceLeDiff, Nat.reduceAdd, Nat.reduceMul, Int.reduceLT, Int.reduceLE, Int.reduceToNat, BitVec.reduceOfInt, Nat.reduceBEq, u8_shl_one (show j ≤ 7 by omega), u8_or hp8 h28]; try rfl) (by simp only [go_sem, ↓reduceIte, Nat.reduceLT, Nat.reduceEqDiff, Nat.reduceLeDiff, Nat.reduceAdd, Nat.reduceMul, Int.reduceLT, Int.reduceLE, Int.reduceToNat, BitVec.reduceOfInt, Nat.reduceBEq, u8_shl_one (show j ≤ 7 by omega), u8_or hp8 h28]; try rfl) (by first | rfl | simp [upd])
                · simp only [List.getElem?_toArray, List.getElem?_cons_succ, List.getElem?_cons_zero, Option.some.injEq] at ho
                  subst ho
                  have f0 : S 0 = true := hd 0 (of_decide_eq_true (by kernel_rfl))
                  have f1 : S 1 = true := hd 1 (of_decide_eq_true (by kernel_rfl))
                  have f2 : S 2 = true := hd 2 (of_decide_eq_true (by kernel_rfl))
                  have f3 : S 3 = true := hd 3 (of_decide_eq_true (by kernel_rfl))
                  have f4 : S 4 = true := hd 4 (of_decide_eq_true (by kernel_rfl))
                  have f6 : S 6 = false := by cases h : S 6 with | false => rfl | true => (have h2 := hc 6 5 (of_decide_eq_true (by kernel_rfl)) h; rw [h2] at hi; cases hi)
                  exact turn_pure (knows_env (x := 24) (v := .pointer (some ⟨Nx, 0, none⟩)) (by kernel_rfl) rfl knows_nil) rfl (by simp only [go_sem, ↓reduceIte, Nat.reduceLT, Nat.reduceEqDiff, Nat.reduceLeDiff, Nat.reduceAdd, Nat.reduceMul, Int.reduceLT, Int.reduceLE, Int.reduceToNat, BitVec.reduceOfInt, Nat.reduceBEq, u8_shl_one (show j ≤ 7 by omega), u8_or hp8 h28]; try rfl) (by simp only [go_sem, ↓reduceIte, Nat.reduceLT, Nat.reduceEqDiff, Nat.reduceLeDiff, Nat.reduceAdd, Nat.reduceMul, Int.reduceLT, Int.reduceLE, Int.reduceToNat, BitVec.reduceOfInt, Nat.reduceBEq, u8_shl_one (show j ≤ 7 by omega), u8_or hp8 h28]; try rfl) (by first | rfl | simp [upd])
                · simp only [List.getElem?_toArray, List.getElem?_cons_succ, List.getElem?_cons_zero, Option.some.injEq] at ho
                  subst ho
                  have f0 : S 0 = true := hd 0 (of_decide_eq_true (by kernel_rfl))
                  have f1 : S 1 = true := hd 1 (of_decide_eq_true (by kernel_rfl))
                  have f2 : S 2 = true := hd 2 (of_decide_eq_true (by kernel_rfl))
                  have f3 : S 3 = true := hd 3 (of_decide_eq_true (by kernel_rfl))
                  have f4 : S 4 = true := hd 4 (of_decide_eq_true (by kernel_rfl))
                  have f5 : S 5 = true := hd 5 (of_decide_eq_true (by kernel_rfl))
                  exact turn_store (v := (.int .u8 ((p ||| 2 ^ j : Nat) : Int))) (knows_done honce 4 (x := 131) (v := .int .u8 ((p ||| 2 ^ j : Nat) : Int)) (by kernel_rfl) (by simp) f4 rfl (knows_done honce 5 (x := 132) (v := .pointer (some ⟨Nx, 0, none⟩)) (by kernel_rfl) (by simp) f5 rfl knows_nil)) rfl (by simp only [go_sem, ↓reduceIte, Nat.reduceLT, Nat.reduceEqDiff, Nat.reduceLeDiff, Nat.reduceAdd, Nat.reduceMul, Int.reduceLT, Int.reduceLE, Int.reduceToNat, BitVec.reduceOfInt, Nat.reduceBEq, u8_shl_one (show j ≤ 7 by omega), u8_or hp8 h28]; try rfl) rfl (by simp only [go_sem, ↓reduceIte, Nat.reduceLT, Nat.reduceEqDiff, Nat.reduceLeDiff, Nat.reduceAdd, Nat.reduceMul, Int.reduceLT, Int.reduceLE, Int.reduceToNat, BitVec.reduceOfInt, Nat.reduceBEq, u8_shl_one (show j ≤ 7 by omega), u8_or hp8 h28]; try rfl) (by simp only [go_sem, ↓reduceIte, Nat.reduceLT, Nat.reduceEqDiff, Nat.reduceLeDiff, Nat.reduceAdd, Nat.reduceMul, Int.reduceLT, Int.reduceLE, Int.reduceToNat, BitVec.reduceOfInt, Nat.reduceBEq, u8_shl_one (show j ≤ 7 by omega), u8_or hp8 h28]; try rfl) (show (if S 6 = true then σc else σa) Nx = some (Blk.mk (cubeV (p, q)) true 1) from by simp only [hi, Bool.false_eq_true, if_false]; exact hgeta) rfl size5 rfl (by simp [spread, cubeV]) rfl (by simp only [upd, hi, if_true, Bool.false_eq_true, if_false]; exact hca)
              change AWp _ _ _ _ (Nx + 1 + 7) σc _
              refine awp_lit ?_
              refine al_pureN 1 (by simp only [go_sem, ↓reduceIte, Nat.reduceLT, Nat.reduceEqDiff, Nat.reduceLeDiff, Nat.reduceAdd, Nat.reduceMul, Int.reduceLT, Int.reduceLE, Int.reduceToNat, BitVec.reduceOfInt, Nat.reduceBEq]; try rfl) ?_
              refine al_load rfl (by simp only [go_sem, ↓reduceIte, Nat.reduceLT, Nat.reduceEqDiff, Nat.reduceLeDiff, Nat.reduceAdd, Nat.reduceMul, Int.reduceLT, Int.reduceLE, Int.reduceToNat, BitVec.reduceOfInt, Nat.reduceBEq]) rfl (by simp only [go_sem, ↓reduceIte, Nat.reduceLT, Nat.reduceEqDiff, Nat.reduceLeDiff, Nat.reduceAdd, Nat.reduceMul, Int.reduceLT, Int.reduceLE, Int.reduceToNat, BitVec.reduceOfInt, Nat.reduceBEq]; try rfl) hgetc (loadA_agg agg39 rfl) ?_
              refine al_fresh fun hFc => ?_
              refine al_buildSlice rfl (by simp only [go_sem, ↓reduceIte, Nat.reduceLT, Nat.reduceEqDiff, Nat.reduceLeDiff, Nat.reduceAdd, Nat.reduceMul, Int.reduceLT, Int.reduceLE, Int.reduceToNat, BitVec.reduceOfInt, Nat.reduceBEq]; try rfl) rfl Try.underlying36 ty39 (by decide) rfl (by decide) (by decide) (by simp only [go_sem, ↓reduceIte, Nat.reduceLT, Nat.reduceEqDiff, Nat.reduceLeDiff, Nat.reduceAdd, Nat.reduceMul, Int.reduceLT, Int.reduceLE, Int.reduceToNat, BitVec.reduceOfInt, Nat.reduceBEq]; try rfl) rfl (by simp [zerosA, splice, spread, cubeV]) ?_
              have hFc' : ∀ i b', σc i = some b' → i ≠ Nx + 1 + 7 := fun i b' hi => Nat.ne_of_lt (hFc i b' hi)
              refine al_append_own (m := 1) (news := cubeV (p ||| 2 ^ j, q)) rfl (by simp only [go_sem, ↓reduceIte, Nat.reduceLT, Nat.reduceEqDiff, Nat.reduceLeDiff, Nat.reduceAdd, Nat.reduceMul, Int.reduceLT, Int.reduceLE, Int.reduceToNat, BitVec.reduceOfInt, Nat.reduceBEq]; try rfl) rfl Try.underlying36 ty39 rfl (by simp only [go_sem, ↓reduceIte, Nat.reduceLT, Nat.reduceEqDiff, Nat.reduceLeDiff, Nat.reduceAdd, Nat.reduceMul, Int.reduceLT, Int.reduceLE, Int.reduceToNat, BitVec.reduceOfInt, Nat.reduceBEq]; try rfl) (by simp only [go_sem, ↓reduceIte, Nat.reduceLT, Nat.reduceEqDiff, Nat.reduceLeDiff, Nat.reduceAdd, Nat.reduceMul, Int.reduceLT, Int.reduceLE, Int.reduceToNat, BitVec.reduceOfInt, Nat.reduceBEq]; try rfl)
                (hown.mono (fun i b _ hb => by rw [AHeap.set_ne _ _ (hFc' i b (hlec _ _ hb))]; exact hlec _ _ hb) (Nat.le_refl _)) (by omega) rfl (by simp only [srcA]; rw [AHeap.set_self]; rfl) rfl rfl (by omega) (by omega) ?_
              intro N' σ' v' hN' hown' hkeep
              refine al_pureN 1 (by simp only [go_sem, ↓reduceIte, Nat.reduceLT, Nat.reduceEqDiff, Nat.reduceLeDiff, Nat.reduceAdd, Nat.reduceMul, Int.reduceLT, Int.reduceLE, Int.reduceToNat, BitVec.reduceOfInt, Nat.reduceBEq]; try rfl) ?_
              refine al_end [10, 16, 18, 19, 20, 121, 122, 123] ?_
              have hi1 : -9223372036854775808 ≤ (i : Int) + 1 ∧ (i : Int) + 1 ≤ 9223372036854775807 := by omega
              refine awp_pures [10, 16, 18, 19, 20, 121, 122, 123] (by simp only [go_sem, ↓reduceIte, Nat.reduceLT, Nat.reduceEqDiff, Nat.reduceLeDiff, Nat.reduceAdd, Nat.reduceMul, Int.reduceLT, Int.reduceLE, Int.reduceToNat, BitVec.reduceOfInt, Nat.reduceBEq, i64_add hi1]; try rfl) ?_
              refine (ih (i + 1, l ++ [(p ||| 2 ^ j, q)], v', N', σ') ⟨hlt, by rw [← hcl]; simp, by simp; omega, by simp; omega, by rw [cubes_snoc]; simpa using hown', hkeep σ1 (AHeap.le_set (AHeap.le_trans hlex hlec) fun i b hb => hFc' i b (hlec _ _ (hlex _ _ hb))) hF1⟩ (by simp; omega)).cast (by first | (simp only [go_sem, ↓reduceIte, Nat.reduceLT, Nat.reduceEqDiff, Nat.reduceLeDiff, Nat.reduceAdd, Nat.reduceMul, Int.reduceLT, Int.reduceLE, Int.reduceToNat, BitVec.reduceOfInt, Nat.reduceBEq]; try rfl) | rfl)
            · have hb : decide ((i : Int) < (r1.1.length : Int)) = false := by simpa using hlt
              have hil : i = r1.1.length := by omega
              refine awp_seq (awp_pures [10, 16, 18, 19, 20, 124] (by simp only [go_sem, ↓reduceIte, Nat.reduceLT, Nat.reduceEqDiff, Nat.reduceLeDiff, Nat.reduceAdd, Nat.reduceMul, Int.reduceLT, Int.reduceLE, Int.reduceToNat, BitVec.reduceOfInt, Nat.reduceBEq, hb]; try rfl) ?_)
              refine awp_seq ?_
              refine awp_if rfl (fun h => by cases h) (fun _ => ?_)
              refine awp_exit ?_
              simp only [Go.Abs.Seq, Go.Abs.Round, Go.Abs.InBlock, ↓reduceIte]
              subst hil
              rw [List.drop_length, List.map_nil, List.append_nil] at hcl
              have hj6 : 0 ≤ (j : Int) ∧ (j : Int) < (6 : Nat) := by omega
              refine awp_seq (awp_quiet [8, 9] (by kernel_rfl) (by kernel_rfl) ?_)
              refine aq_pureN 3 (by simp only [go_sem, ↓reduceIte, Nat.reduceLT, Nat.reduceEqDiff, Nat.reduceLeDiff, Nat.reduceAdd, Nat.reduceMul, Int.reduceLT, Int.reduceLE, Int.reduceToNat, BitVec.reduceOfInt, Nat.reduceBEq]; try rfl) ?_
              refine aq_gives (vs := ?vs13) (v := ?v13) rfl ?ha13 ?hh13 ?hf13 (by kernel_rfl) rfl (by simp only [go_sem, ↓reduceIte, Nat.reduceLT, Nat.reduceEqDiff, Nat.reduceLeDiff, Nat.reduceAdd, Nat.reduceMul, Int.reduceLT, Int.reduceLE, Int.reduceToNat, BitVec.reduceOfInt, Nat.reduceBEq]) ?kk13
              case ha13 => simp only [go_sem, ↓reduceIte, Nat.reduceLT, Nat.reduceEqDiff, Nat.reduceLeDiff, Nat.reduceAdd, Nat.reduceMul, Int.reduceLT, Int.reduceLE, Int.reduceToNat, BitVec.reduceOfInt, Nat.reduceBEq]; try rfl
              case hh13 => exact variables_gives _ _
              case hf13 => rfl
              refine aq_pureN 5 (by simp only [go_sem, ↓reduceIte, Nat.reduceLT, Nat.reduceEqDiff, Nat.reduceLeDiff, Nat.reduceAdd, Nat.reduceMul, Int.reduceLT, Int.reduceLE, Int.reduceToNat, BitVec.reduceOfInt, Nat.reduceBEq, hj6, varsV_get j (by omega)]; try rfl) ?_
              refine aq_gives (vs := ?vs14) (v := ?v14) rfl ?ha14 ?hh14 ?hf14 (by kernel_rfl) rfl (by simp only [go_sem, ↓reduceIte, Nat.reduceLT, Nat.reduceEqDiff, Nat.reduceLeDiff, Nat.reduceAdd, Nat.reduceMul, Int.reduceLT, Int.reduceLE, Int.reduceToNat, BitVec.reduceOfInt, Nat.reduceBEq]) ?kk14
              case ha14 => simp only [go_sem, ↓reduceIte, Nat.reduceLT, Nat.reduceEqDiff, Nat.reduceLeDiff, Nat.reduceAdd, Nat.reduceMul, Int.reduceLT, Int.reduceLE, Int.reduceToNat, BitVec.reduceOfInt, Nat.reduceBEq]; try rfl
              case hh14 => exact variables_gives _ _
              case hf14 => rfl
              refine aq_pureN 6 (by simp only [go_sem, ↓reduceIte, Nat.reduceLT, Nat.reduceEqDiff, Nat.reduceLeDiff, Nat.reduceAdd, Nat.reduceMul, Int.reduceLT, Int.reduceLE, Int.reduceToNat, BitVec.reduceOfInt, Nat.reduceBEq, hj6, varsV_get j (by omega)]; try rfl) ?_
              refine aq_nil ?_
              refine awp_ret ⟨_, rfl, ⟨v, by rw [hgo]; rfl, ?_, by omega, AHeap.le_trans hle0 (AHeap.le_trans hle1 hlex)⟩⟩
              have e : (isopG n (V + 1) L U).1 = l := by rw [hgo]; simp only; rw [← hcl1, hcl]
              rw [e]
              exact hown.mono (fun _ _ _ h => h) (by omega)

def tupC (sv : Value) (e : Int) : Value := .tuple #[sv, .int .i64 e]
theorem Isop_ok (L U : BitVec 64) (m : Int) (N : Nat) (σ : AHeap) :
    AOk Try.prog 20 [.int .u64 L.toNat, .int .u64 U.toNat, .int .i64 m] N σ fun v N1 σ1 =>
      ∃ sv, v = tupC sv (IsopR L U m).2 ∧ OwnAt σ1 N sv (cubes (IsopR L U m).1).flatten (IsopR L U m).1.length 2 ∧ N ≤ N1 ∧ σ.le σ1 := by
  refine aok_body (n := 35) Try.func20 rfl rfl (by simp) ?_
  refine awp_seq (awp_pures [0, 1, 2, 6, 7] (by simp only [go_sem, ↓reduceIte, Nat.reduceLT, Nat.reduceEqDiff, Nat.reduceLeDiff, Nat.reduceAdd, Nat.reduceMul, Int.reduceLT, Int.reduceLE, Int.reduceToNat, BitVec.reduceOfInt, Nat.reduceBEq]; try rfl) ?_)
  by_cases hv : validT L m = true ∧ validT U m = true ∧ L &&& ~~~ U = 0#64
  · obtain ⟨h1, h2, h3⟩ := hv
    have hb : cmpA .neq ((L &&& ~~~ U).toNat : Int) 0 = some false := by rw [h3]; rfl
    refine awp_seq ?_
    first | refine awp_seq (awp_lit ?_) | refine awp_lit ?_ | refine awp_seq (awp_seq (awp_lit ?_))
    refine al_pureN 2 (by simp only [go_sem, ↓reduceIte, Nat.reduceLT, Nat.reduceEqDiff, Nat.reduceLeDiff, Nat.reduceAdd, Nat.reduceMul, Int.reduceLT, Int.reduceLE, Int.reduceToNat, BitVec.reduceOfInt, Nat.reduceBEq]; try rfl) ?_
    refine al_gives (vs := ?vs15) (v := ?v15) rfl ?ha15 ?hh15 (by kernel_rfl) rfl (by simp only [go_sem, ↓reduceIte, Nat.reduceLT, Nat.reduceEqDiff, Nat.reduceLeDiff, Nat.reduceAdd, Nat.reduceMul, Int.reduceLT, Int.reduceLE, Int.reduceToNat, BitVec.reduceOfInt, Nat.reduceBEq]) ?kk15
    case ha15 => simp only [go_sem, ↓reduceIte, Nat.reduceLT, Nat.reduceEqDiff, Nat.reduceLeDiff, Nat.reduceAdd, Nat.reduceMul, Int.reduceLT, Int.reduceLE, Int.reduceToNat, BitVec.reduceOfInt, Nat.reduceBEq]; try rfl
    case hh15 => exact Valid_gives _ _ _ _
    rw [h1]
    refine al_pureN 4 (by simp only [go_sem, ↓reduceIte, Nat.reduceLT, Nat.reduceEqDiff, Nat.reduceLeDiff, Nat.reduceAdd, Nat.reduceMul, Int.reduceLT, Int.reduceLE, Int.reduceToNat, BitVec.reduceOfInt, Nat.reduceBEq]; try rfl) ?_
    refine al_gives (vs := ?vs16) (v := ?v16) rfl ?ha16 ?hh16 (by kernel_rfl) rfl (by simp only [go_sem, ↓reduceIte, Nat.reduceLT, Nat.reduceEqDiff, Nat.reduceLeDiff, Nat.reduceAdd, Nat.reduceMul, Int.reduceLT, Int.reduceLE, Int.reduceToNat, BitVec.reduceOfInt, Nat.reduceBEq]) ?kk16
    case ha16 => simp only [go_sem, ↓reduceIte, Nat.reduceLT, Nat.reduceEqDiff, Nat.reduceLeDiff, Nat.reduceAdd, Nat.reduceMul, Int.reduceLT, Int.reduceLE, Int.reduceToNat, BitVec.reduceOfInt, Nat.reduceBEq]; try rfl
    case hh16 => exact Valid_gives _ _ _ _
    rw [h2]
    refine al_pureN 8 (by simp only [go_sem, ↓reduceIte, Nat.reduceLT, Nat.reduceEqDiff, Nat.reduceLeDiff, Nat.reduceAdd, Nat.reduceMul, Int.reduceLT, Int.reduceLE, Int.reduceToNat, BitVec.reduceOfInt, Nat.reduceBEq, hb]; try rfl) ?_
    refine al_end [0, 1, 2, 25] ?_
    refine awp_if rfl (fun h => by cases h) (fun _ => ?_)
    refine awp_skip ?_
    obtain ⟨n, rfl, hn, ht⟩ := validT_iff.1 h2
    have hg : Good n n L U := ⟨sub_iff.1 h3, ht, fun i hi hin => by omega, fun i hi hin => by omega⟩
    have e : IsopR L U n = ((isopG n n L U).1, 0) := by simp [IsopR, h1, h2, h3]
    first | refine awp_seq (awp_lit ?_) | refine awp_lit ?_ | refine awp_seq (awp_seq (awp_lit ?_))
    refine al_pureN 4 (by simp only [go_sem, ↓reduceIte, Nat.reduceLT, Nat.reduceEqDiff, Nat.reduceLeDiff, Nat.reduceAdd, Nat.reduceMul, Int.reduceLT, Int.reduceLE, Int.reduceToNat, BitVec.reduceOfInt, Nat.reduceBEq]; try rfl) ?_
    refine al_fun (isop_ok hn n L U N σ (Nat.le_refl _) hg) rfl (by simp only [go_sem, ↓reduceIte, Nat.reduceLT, Nat.reduceEqDiff, Nat.reduceLeDiff, Nat.reduceAdd, Nat.reduceMul, Int.reduceLT, Int.reduceLE, Int.reduceToNat, BitVec.reduceOfInt, Nat.reduceBEq]; try rfl) (by kernel_rfl) rfl (by simp only [go_sem, ↓reduceIte, Nat.reduceLT, Nat.reduceEqDiff, Nat.reduceLeDiff, Nat.reduceAdd, Nat.reduceMul, Int.reduceLT, Int.reduceLE, Int.reduceToNat, BitVec.reduceOfInt, Nat.reduceBEq]; try rfl) ?_
    rintro v N1 σ1 ⟨sv, rfl, hown, hN1, hle⟩
    refine al_pureN 5 (by simp only [go_sem, ↓reduceIte, Nat.reduceLT, Nat.reduceEqDiff, Nat.reduceLeDiff, Nat.reduceAdd, Nat.reduceMul, Int.reduceLT, Int.reduceLE, Int.reduceToNat, BitVec.reduceOfInt, Nat.reduceBEq]; try rfl) ?_
    refine al_end [8] ?_
    refine awp_seq (awp_pures [6, 7] (by simp only [go_sem, ↓reduceIte, Nat.reduceLT, Nat.reduceEqDiff, Nat.reduceLeDiff, Nat.reduceAdd, Nat.reduceMul, Int.reduceLT, Int.reduceLE, Int.reduceToNat, BitVec.reduceOfInt, Nat.reduceBEq]; try rfl) ?_)
    rw [e]
    exact awp_ret ⟨_, rfl, ⟨sv, rfl, hown, hN1, hle⟩⟩
  · have e : IsopR L U m = ([], 1) := by simp only [IsopR, if_neg hv]
    rw [e]
    refine awp_seq ?_
    refine awp_mid [(25, .bool true)] N σ ?_ ?_
    · refine awp_lit ?_
      refine al_pureN 2 (by simp only [go_sem, ↓reduceIte, Nat.reduceLT, Nat.reduceEqDiff, Nat.reduceLeDiff, Nat.reduceAdd, Nat.reduceMul, Int.reduceLT, Int.reduceLE, Int.reduceToNat, BitVec.reduceOfInt, Nat.reduceBEq]; try rfl) ?_
      refine al_gives (vs := ?vs17) (v := ?v17) rfl ?ha17 ?hh17 (by kernel_rfl) rfl (by simp only [go_sem, ↓reduceIte, Nat.reduceLT, Nat.reduceEqDiff, Nat.reduceLeDiff, Nat.reduceAdd, Nat.reduceMul, Int.reduceLT, Int.reduceLE, Int.reduceToNat, BitVec.reduceOfInt, Nat.reduceBEq]) ?kk17
      case ha17 => simp only [go_sem, ↓reduceIte, Nat.reduceLT, Nat.reduceEqDiff, Nat.reduceLeDiff, Nat.reduceAdd, Nat.reduceMul, Int.reduceLT, Int.reduceLE, Int.reduceToNat, BitVec.reduceOfInt, Nat.reduceBEq]; try rfl
      case hh17 => exact Valid_gives _ _ _ _
      cases h1 : validT L m
      · refine al_pureN 13 (by simp only [go_sem, ↓reduceIte, Nat.reduceLT, Nat.reduceEqDiff, Nat.reduceLeDiff, Nat.reduceAdd, Nat.reduceMul, Int.reduceLT, Int.reduceLE, Int.reduceToNat, BitVec.reduceOfInt, Nat.reduceBEq]; try rfl) ?_
        refine al_end [25] ?_
        exact meets [25] rfl (AHeap.le_refl _)
      · refine al_pureN 4 (by simp only [go_sem, ↓reduceIte, Nat.reduceLT, Nat.reduceEqDiff, Nat.reduceLeDiff, Nat.reduceAdd, Nat.reduceMul, Int.reduceLT, Int.reduceLE, Int.reduceToNat, BitVec.reduceOfInt, Nat.reduceBEq]; try rfl) ?_
        refine al_gives (vs := ?vs18) (v := ?v18) rfl ?ha18 ?hh18 (by kernel_rfl) rfl (by simp only [go_sem, ↓reduceIte, Nat.reduceLT, Nat.reduceEqDiff, Nat.reduceLeDiff, Nat.reduceAdd, Nat.reduceMul, Int.reduceLT, Int.reduceLE, Int.reduceToNat, BitVec.reduceOfInt, Nat.reduceBEq]) ?kk18
        case ha18 => simp only [go_sem, ↓reduceIte, Nat.reduceLT, Nat.reduceEqDiff, Nat.reduceLeDiff, Nat.reduceAdd, Nat.reduceMul, Int.reduceLT, Int.reduceLE, Int.reduceToNat, BitVec.reduceOfInt, Nat.reduceBEq]; try rfl
        case hh18 => exact Valid_gives _ _ _ _
        cases h2 : validT U m
        · refine al_pureN 8 (by simp only [go_sem, ↓reduceIte, Nat.reduceLT, Nat.reduceEqDiff, Nat.reduceLeDiff, Nat.reduceAdd, Nat.reduceMul, Int.reduceLT, Int.reduceLE, Int.reduceToNat, BitVec.reduceOfInt, Nat.reduceBEq]; try rfl) ?_
          refine al_end [25] ?_
          exact meets [25] rfl (AHeap.le_refl _)
        · have h3 : ¬ L &&& ~~~ U = 0#64 := fun h => hv ⟨h1, h2, h⟩
          have hb : cmpA .neq ((L &&& ~~~ U).toNat : Int) 0 = some true := by
            have : (((L &&& ~~~ U).toNat : Int) != 0) = true := by
              rw [bne_iff_ne]
              intro h
              exact h3 (BitVec.eq_of_toNat_eq (by simpa using h))
            exact congrArg some this
          refine al_pureN 8 (by simp only [go_sem, ↓reduceIte, Nat.reduceLT, Nat.reduceEqDiff, Nat.reduceLeDiff, Nat.reduceAdd, Nat.reduceMul, Int.reduceLT, Int.reduceLE, Int.reduceToNat, BitVec.reduceOfInt, Nat.reduceBEq, hb]; try rfl) ?_
          refine al_end [25] ?_
          exact meets [25] rfl (AHeap.le_refl _)
    · refine awp_if rfl (fun _ => ?_) (fun h => by cases h)
      refine awp_seq (awp_pures [6, 7] (by simp only [go_sem, ↓reduceIte, Nat.reduceLT, Nat.reduceEqDiff, Nat.reduceLeDiff, Nat.reduceAdd, Nat.reduceMul, Int.reduceLT, Int.reduceLE, Int.reduceToNat, BitVec.reduceOfInt, Nat.reduceBEq]; try rfl) ?_)
      exact awp_ret ⟨_, rfl, ⟨.slice none 0 0, rfl, OwnAt.nil, Nat.le_refl _, AHeap.le_refl _⟩⟩
end Go.Proofs.Ytbpjoamdcbbnnaa
