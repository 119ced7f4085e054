/- The walks of the reference's functions on single tables. -/
import Derived.Test.YtbpjoamdcbbnnaaTabE3
import Derived.Test.YtbpjoamdcbbnnaaTabRef
import Derived.Test.YtbpjoamdcbbnnaaAbPush
set_option linter.unusedSimpArgs false
set_option linter.unusedVariables false
namespace Go.Proofs.Ytbpjoamdcbbnnaa
open Go.Abs Go.Tab
attribute [local go_sem] eqA Try.underlying22 Try.underlying3 Try.underlying77 Try.underlying52 Try.underlying23 Try.underlying25 Try.underlying5 Try.underlying4 Try.underlying36 Try.underlying39 Try.underlying41 Try.underlying72 Try.underlying49 Try.underlying26 size22 size3 size23 size5 size4 size39 Nat.mul_one bne_self_eq_false

theorem u64_wrap_nat {a : Nat} (h : a < 18446744073709551616) : IntKind.u64.wrap (a : Int) = a := by rw [IntKind.wrap_u64]; omega
def bools (l : List Bool) : List Value := l.map .bool
theorem bools_len (l : List Bool) : (bools l).length = l.length := by simp [bools]
theorem two_pow_lim (m : Int) : 2 ^ lim m ≤ 64 := two_pow_le6 (lim_le m)

theorem vars_gives (m : Int) (N : Nat) (σ : AHeap) : Gives Try.prog 63 [.int .i64 m] N σ (.int .i64 (lim m : Nat)) := by
  refine gives_of rfl (aok_body (n := 6) Try.func63 rfl rfl (by simp) ?_)
  refine awp_seq (awp_pures [0] (by simp only [go_sem, ↓reduceIte, Nat.reduceLT, Nat.reduceEqDiff, Nat.reduceLeDiff, Nat.reduceAdd, Nat.reduceMul, Int.reduceLT, Int.reduceLE, Int.reduceToNat, BitVec.reduceOfInt, Nat.reduceBEq]; try rfl) ?_)
  refine awp_seq (awp_pures [2] (by simp only [go_sem, ↓reduceIte, Nat.reduceLT, Nat.reduceEqDiff, Nat.reduceLeDiff, Nat.reduceAdd, Nat.reduceMul, Int.reduceLT, Int.reduceLE, Int.reduceToNat, BitVec.reduceOfInt, Nat.reduceBEq]; try rfl) ?_)
  refine awp_ret ⟨_, rfl, ?_⟩
  simp [lim_if, AHeap.le_refl]

theorem Make_gives (l : List Bool) (hl : l.length ≤ 1000000) (sv : Value) (N : Nat) (σ : AHeap) (hs : SlAt σ sv (bools l)) : Gives Try.prog 53 [sv] N σ (.int .u64 (makeT l).toNat) := by
  have hsl := bools_len l
  obtain ⟨bb, cc, hv⟩ := hs.len
  refine gives_of rfl (aok_body (n := 21) Try.func53 rfl rfl (by simp) ?_)
  subst hv
  rw [hsl] at hs ⊢
  refine awp_seq (awp_pures [0] (by simp only [go_sem, ↓reduceIte, Nat.reduceLT, Nat.reduceEqDiff, Nat.reduceLeDiff, Nat.reduceAdd, Nat.reduceMul, Int.reduceLT, Int.reduceLE, Int.reduceToNat, BitVec.reduceOfInt, Nat.reduceBEq]; try rfl) ?_)
  refine awp_seq (awp_pures [0, 3] (by simp only [go_sem, ↓reduceIte, Nat.reduceLT, Nat.reduceEqDiff, Nat.reduceLeDiff, Nat.reduceAdd, Nat.reduceMul, Int.reduceLT, Int.reduceLE, Int.reduceToNat, BitVec.reduceOfInt, Nat.reduceBEq]; try rfl) ?_)
  refine awp_seq ?_
  refine awp_seq (awp_pures [0, 3, 4] (by simp only [go_sem, ↓reduceIte, Nat.reduceLT, Nat.reduceEqDiff, Nat.reduceLeDiff, Nat.reduceAdd, Nat.reduceMul, Int.reduceLT, Int.reduceLE, Int.reduceToNat, BitVec.reduceOfInt, Nat.reduceBEq]; try rfl) ?_)
  refine awp_block (awp_loop ?_)
  refine ALoop.cast (aloop_ind (α := Nat × BitVec 64) (fun x => x.1 ≤ l.length ∧ makeT l = makeGo (l.drop x.1) x.1 x.2) (fun x => l.length - x.1)
    (fun x => [(0, .slice bb l.length cc), (3, .int .u64 x.2.toNat), (4, .int .i64 x.1)]) (fun _ => N) (fun _ => σ) ?_ (0, 0#64) ⟨by simp, by simp [makeT]⟩) rfl
  rintro ⟨k, t⟩ ⟨hk, hgo⟩ ih
  simp only at hk hgo ⊢
  by_cases hlt : k < l.length
  · have hb : decide ((k : Int) < (l.length : Int)) = true := by simpa using hlt
    have hj1 : -9223372036854775808 ≤ (k : Int) + 1 ∧ (k : Int) + 1 ≤ 9223372036854775807 := by omega
    rw [List.drop_eq_getElem_cons hlt] at hgo
    simp only [makeGo] at hgo
    refine awp_seq ?_
    refine awp_seq (awp_pures [0, 3, 4, 8] (by simp only [go_sem, ↓reduceIte, Nat.reduceLT, Nat.reduceEqDiff, Nat.reduceLeDiff, Nat.reduceAdd, Nat.reduceMul, Int.reduceLT, Int.reduceLE, Int.reduceToNat, BitVec.reduceOfInt, Nat.reduceBEq, hb]; try rfl) ?_)
    refine awp_if rfl (fun _ => ?_) (fun h => by cases h)
    refine awp_skip ?_
    obtain ⟨id, off, cap, b, e1, e2, e3⟩ := hs.at (j := k) (by rw [hsl]; exact hlt)
    rw [hsl] at e1
    cases e1
    have hkk : 0 ≤ (k : Int) ∧ (k : Int) < (l.length : Int) := by omega
    have e3 : b.cells[off + k]? = some (.bool l[k]) := by rw [e3]; simp [bools]
    refine awp_seq (awp_block ?_)
    first | refine awp_seq (awp_lit ?_) | refine awp_lit ?_ | refine awp_seq (awp_seq (awp_lit ?_))
    refine al_pureN 3 (by simp only [go_sem, ↓reduceIte, Nat.reduceLT, Nat.reduceEqDiff, Nat.reduceLeDiff, Nat.reduceAdd, Nat.reduceMul, Int.reduceLT, Int.reduceLE, Int.reduceToNat, BitVec.reduceOfInt, Nat.reduceBEq, hkk]; try rfl) ?_
    refine al_load rfl (by simp only [go_sem, ↓reduceIte, Nat.reduceLT, Nat.reduceEqDiff, Nat.reduceLeDiff, Nat.reduceAdd, Nat.reduceMul, Int.reduceLT, Int.reduceLE, Int.reduceToNat, BitVec.reduceOfInt, Nat.reduceBEq]) rfl (by simp only [go_sem, ↓reduceIte, Nat.reduceLT, Nat.reduceEqDiff, Nat.reduceLeDiff, Nat.reduceAdd, Nat.reduceMul, Int.reduceLT, Int.reduceLE, Int.reduceToNat, BitVec.reduceOfInt, Nat.reduceBEq]; try rfl) e2 (loadA_scalar agg4 e3) ?_
    refine al_end [0, 3, 4, 14] ?_
    have hw := u64_wrap_nat (show k < 18446744073709551616 by omega)
    refine awp_if rfl (fun he => ?_) (fun he => ?_)
    · rw [he, if_pos rfl] at hgo
      refine awp_pures [0, 3, 4] (by simp only [go_sem, ↓reduceIte, Nat.reduceLT, Nat.reduceEqDiff, Nat.reduceLeDiff, Nat.reduceAdd, Nat.reduceMul, Int.reduceLT, Int.reduceLE, Int.reduceToNat, BitVec.reduceOfInt, Nat.reduceBEq, hw]; try rfl) ?_
      refine awp_pures [0, 3, 4] (by simp only [go_sem, ↓reduceIte, Nat.reduceLT, Nat.reduceEqDiff, Nat.reduceLeDiff, Nat.reduceAdd, Nat.reduceMul, Int.reduceLT, Int.reduceLE, Int.reduceToNat, BitVec.reduceOfInt, Nat.reduceBEq, i64_add hj1]; try rfl) ?_
      refine (ih (k + 1, t ||| (1#64 <<< k)) ⟨hlt, hgo⟩ (by simp; omega)).cast (by first | (simp only [go_sem, ↓reduceIte, Nat.reduceLT, Nat.reduceEqDiff, Nat.reduceLeDiff, Nat.reduceAdd, Nat.reduceMul, Int.reduceLT, Int.reduceLE, Int.reduceToNat, BitVec.reduceOfInt, Nat.reduceBEq]; try rfl) | rfl)
    · rw [he, if_neg (by simp)] at hgo
      refine awp_skip ?_
      refine awp_pures [0, 3, 4] (by simp only [go_sem, ↓reduceIte, Nat.reduceLT, Nat.reduceEqDiff, Nat.reduceLeDiff, Nat.reduceAdd, Nat.reduceMul, Int.reduceLT, Int.reduceLE, Int.reduceToNat, BitVec.reduceOfInt, Nat.reduceBEq, i64_add hj1]; try rfl) ?_
      refine (ih (k + 1, t) ⟨hlt, hgo⟩ (by simp; omega)).cast (by first | (simp only [go_sem, ↓reduceIte, Nat.reduceLT, Nat.reduceEqDiff, Nat.reduceLeDiff, Nat.reduceAdd, Nat.reduceMul, Int.reduceLT, Int.reduceLE, Int.reduceToNat, BitVec.reduceOfInt, Nat.reduceBEq]; try rfl) | rfl)
  · have hb : decide ((k : Int) < (l.length : Int)) = false := by simpa using hlt
    have hkl : k = l.length := by omega
    subst hkl
    rw [List.drop_length, makeGo] at hgo
    refine awp_seq ?_
    refine awp_seq (awp_pures [0, 3, 4, 8] (by simp only [go_sem, ↓reduceIte, Nat.reduceLT, Nat.reduceEqDiff, Nat.reduceLeDiff, Nat.reduceAdd, Nat.reduceMul, Int.reduceLT, Int.reduceLE, Int.reduceToNat, BitVec.reduceOfInt, Nat.reduceBEq, hb]; try rfl) ?_)
    refine awp_if rfl (fun h => by cases h) (fun _ => ?_)
    refine awp_exit ?_
    simp only [Go.Abs.Seq, Go.Abs.Round, Go.Abs.InBlock, ↓reduceIte]
    refine awp_seq (awp_pures [2] (by simp only [go_sem, ↓reduceIte, Nat.reduceLT, Nat.reduceEqDiff, Nat.reduceLeDiff, Nat.reduceAdd, Nat.reduceMul, Int.reduceLT, Int.reduceLE, Int.reduceToNat, BitVec.reduceOfInt, Nat.reduceBEq]; try rfl) ?_)
    exact awp_ret ⟨_, rfl, by rw [hgo]; rfl, AHeap.le_refl _⟩

theorem range_bools (f : Nat → Bool) (k : Nat) : bools ((List.range k).map f) ++ [.bool (f k)] = bools ((List.range (k + 1)).map f) := by
  simp [bools, List.range_succ]
theorem tabB_gives {m : Nat} (hm : m ≤ 6) (f : Nat → Bool) {sv : Value} {lo N : Nat} {σ : AHeap} (h : OwnAt σ lo sv (bools ((List.range (2 ^ m)).map f)) (2 ^ m) 1) : Gives Try.prog 53 [sv] N σ (.int .u64 (tabB m f).toNat) := by
  have := two_pow_le6 hm
  exact Make_gives _ (by simp; omega) sv N σ h.slAt

theorem rMask_gives (m : Int) (N : Nat) (σ : AHeap) : Gives Try.prog 34 [.int .i64 m] N σ (.int .u64 (maskT (lim m)).toNat) := by
  refine gives_of rfl (aok_fresh fun hN => aok_body (n := 18) Try.func34 rfl rfl (by simp) ?_)
  have h6 := lim_le m
  have h64 := two_pow_lim m
  refine awp_seq (awp_pures [0] (by simp only [go_sem, ↓reduceIte, Nat.reduceLT, Nat.reduceEqDiff, Nat.reduceLeDiff, Nat.reduceAdd, Nat.reduceMul, Int.reduceLT, Int.reduceLE, Int.reduceToNat, BitVec.reduceOfInt, Nat.reduceBEq]; try rfl) ?_)
  refine awp_seq (awp_pures [0, 3] (by simp only [go_sem, ↓reduceIte, Nat.reduceLT, Nat.reduceEqDiff, Nat.reduceLeDiff, Nat.reduceAdd, Nat.reduceMul, Int.reduceLT, Int.reduceLE, Int.reduceToNat, BitVec.reduceOfInt, Nat.reduceBEq]; try rfl) ?_)
  refine awp_seq ?_
  refine awp_seq (awp_pures [0, 3, 4] (by simp only [go_sem, ↓reduceIte, Nat.reduceLT, Nat.reduceEqDiff, Nat.reduceLeDiff, Nat.reduceAdd, Nat.reduceMul, Int.reduceLT, Int.reduceLE, Int.reduceToNat, BitVec.reduceOfInt, Nat.reduceBEq]; try rfl) ?_)
  refine awp_block (awp_loop ?_)
  refine ALoop.cast3 (aloop_ind (α := Nat × Value × Nat × AHeap)
    (fun x => x.1 ≤ 2 ^ lim m ∧ N ≤ x.2.2.1 ∧ OwnAt x.2.2.2 N x.2.1 (bools ((List.range x.1).map fun _ => true)) x.1 1 ∧ σ.le x.2.2.2) (fun x => 2 ^ lim m - x.1)
    (fun x => [(0, .int .i64 m), (3, x.2.1), (4, .int .i64 x.1)]) (fun x => x.2.2.1) (fun x => x.2.2.2) ?_
    (0, .slice none 0 0, N, σ) ⟨by simp, by simp, OwnAt.nil, AHeap.le_refl _⟩) rfl rfl rfl
  rintro ⟨k, sv, Nk, σk⟩ ⟨hk, hNk, hown, hle⟩ ih
  simp only at hk hNk hown hle ⊢
  have hw := u64_wrap_nat (show lim m < 18446744073709551616 by omega)
  by_cases hlt : k < 2 ^ lim m
  · have hb : decide ((k : Int) < ((2 ^ lim m : Nat) : Int)) = true := decide_eq_true (Int.ofNat_lt.2 hlt)
    have hj1 : -9223372036854775808 ≤ (k : Int) + 1 ∧ (k : Int) + 1 ≤ 9223372036854775807 := by omega
    refine awp_seq ?_
    first | refine awp_seq (awp_lit ?_) | refine awp_lit ?_ | refine awp_seq (awp_seq (awp_lit ?_))
    refine al_pureN 2 (by simp only [go_sem, ↓reduceIte, Nat.reduceLT, Nat.reduceEqDiff, Nat.reduceLeDiff, Nat.reduceAdd, Nat.reduceMul, Int.reduceLT, Int.reduceLE, Int.reduceToNat, BitVec.reduceOfInt, Nat.reduceBEq, hw, i64_shl_one (show lim m ≤ 62 by omega), hb]; try rfl) ?_
    refine al_gives (vs := ?vs1) (v := ?v1) rfl ?ha1 ?hh1 (by kernel_rfl) rfl (by simp only [go_sem, ↓reduceIte, Nat.reduceLT, Nat.reduceEqDiff, Nat.reduceLeDiff, Nat.reduceAdd, Nat.reduceMul, Int.reduceLT, Int.reduceLE, Int.reduceToNat, BitVec.reduceOfInt, Nat.reduceBEq, hw, i64_shl_one (show lim m ≤ 62 by omega), hb]) ?kk1
    case ha1 => simp only [go_sem, ↓reduceIte, Nat.reduceLT, Nat.reduceEqDiff, Nat.reduceLeDiff, Nat.reduceAdd, Nat.reduceMul, Int.reduceLT, Int.reduceLE, Int.reduceToNat, BitVec.reduceOfInt, Nat.reduceBEq, hw, i64_shl_one (show lim m ≤ 62 by omega), hb]; try rfl
    case hh1 => exact vars_gives _ _ _
    refine al_pureN 3 (by simp only [go_sem, ↓reduceIte, Nat.reduceLT, Nat.reduceEqDiff, Nat.reduceLeDiff, Nat.reduceAdd, Nat.reduceMul, Int.reduceLT, Int.reduceLE, Int.reduceToNat, BitVec.reduceOfInt, Nat.reduceBEq, hw, i64_shl_one (show lim m ≤ 62 by omega), hb]; try rfl) ?_
    refine al_end [0, 3, 4, 10] ?_
    refine awp_if rfl (fun _ => ?_) (fun h => by cases h)
    refine awp_skip ?_
    refine awp_seq (awp_block ?_)
    refine awp_lit ?_
    refine al_pureN 1 (by simp only [go_sem, ↓reduceIte, Nat.reduceLT, Nat.reduceEqDiff, Nat.reduceLeDiff, Nat.reduceAdd, Nat.reduceMul, Int.reduceLT, Int.reduceLE, Int.reduceToNat, BitVec.reduceOfInt, Nat.reduceBEq]; try rfl) ?_
    refine al_push rfl rfl rfl (by simp only [go_sem, ↓reduceIte, Nat.reduceLT, Nat.reduceEqDiff, Nat.reduceLeDiff, Nat.reduceAdd, Nat.reduceMul, Int.reduceLT, Int.reduceLE, Int.reduceToNat, BitVec.reduceOfInt, Nat.reduceBEq]; try rfl) (by simp only [go_sem, ↓reduceIte, Nat.reduceLT, Nat.reduceEqDiff, Nat.reduceLeDiff, Nat.reduceAdd, Nat.reduceMul, Int.reduceLT, Int.reduceLE, Int.reduceToNat, BitVec.reduceOfInt, Nat.reduceBEq]; try rfl) rfl rfl Try.underlying72 ty4 rfl rfl rfl (by simp only [go_sem, ↓reduceIte, Nat.reduceLT, Nat.reduceEqDiff, Nat.reduceLeDiff, Nat.reduceAdd, Nat.reduceMul, Int.reduceLT, Int.reduceLE, Int.reduceToNat, BitVec.reduceOfInt, Nat.reduceBEq]; try rfl) (by simp only [go_sem, ↓reduceIte, Nat.reduceLT, Nat.reduceEqDiff, Nat.reduceLeDiff, Nat.reduceAdd, Nat.reduceMul, Int.reduceLT, Int.reduceLE, Int.reduceToNat, BitVec.reduceOfInt, Nat.reduceBEq]; try rfl) rfl rfl hown (by omega) (by omega) (by omega) ?_
    intro N' σ' v' hN' hown' hkeep
    refine al_pureN 1 (by simp only [go_sem, ↓reduceIte, Nat.reduceLT, Nat.reduceEqDiff, Nat.reduceLeDiff, Nat.reduceAdd, Nat.reduceMul, Int.reduceLT, Int.reduceLE, Int.reduceToNat, BitVec.reduceOfInt, Nat.reduceBEq]; try rfl) ?_
    refine al_end [0, 3, 4] ?_
    refine awp_pures [0, 3, 4] (by simp only [go_sem, ↓reduceIte, Nat.reduceLT, Nat.reduceEqDiff, Nat.reduceLeDiff, Nat.reduceAdd, Nat.reduceMul, Int.reduceLT, Int.reduceLE, Int.reduceToNat, BitVec.reduceOfInt, Nat.reduceBEq, i64_add hj1]; try rfl) ?_
    refine (ih (k + 1, v', N', σ') ⟨hlt, by simp; omega, by rw [range_bools] at hown'; exact hown', hkeep σ hle hN⟩ (by simp; omega)).cast (by first | (simp only [go_sem, ↓reduceIte, Nat.reduceLT, Nat.reduceEqDiff, Nat.reduceLeDiff, Nat.reduceAdd, Nat.reduceMul, Int.reduceLT, Int.reduceLE, Int.reduceToNat, BitVec.reduceOfInt, Nat.reduceBEq]; try rfl) | rfl)
  · have hb : decide ((k : Int) < ((2 ^ lim m : Nat) : Int)) = false := decide_eq_false fun h => hlt (Int.ofNat_lt.1 h)
    have hkl : k = 2 ^ lim m := by omega
    subst hkl
    refine awp_seq ?_
    first | refine awp_seq (awp_lit ?_) | refine awp_lit ?_ | refine awp_seq (awp_seq (awp_lit ?_))
    refine al_pureN 2 (by simp only [go_sem, ↓reduceIte, Nat.reduceLT, Nat.reduceEqDiff, Nat.reduceLeDiff, Nat.reduceAdd, Nat.reduceMul, Int.reduceLT, Int.reduceLE, Int.reduceToNat, BitVec.reduceOfInt, Nat.reduceBEq, hw, i64_shl_one (show lim m ≤ 62 by omega), hb]; try rfl) ?_
    refine al_gives (vs := ?vs2) (v := ?v2) rfl ?ha2 ?hh2 (by kernel_rfl) rfl (by simp only [go_sem, ↓reduceIte, Nat.reduceLT, Nat.reduceEqDiff, Nat.reduceLeDiff, Nat.reduceAdd, Nat.reduceMul, Int.reduceLT, Int.reduceLE, Int.reduceToNat, BitVec.reduceOfInt, Nat.reduceBEq, hw, i64_shl_one (show lim m ≤ 62 by omega), hb]) ?kk2
    case ha2 => simp only [go_sem, ↓reduceIte, Nat.reduceLT, Nat.reduceEqDiff, Nat.reduceLeDiff, Nat.reduceAdd, Nat.reduceMul, Int.reduceLT, Int.reduceLE, Int.reduceToNat, BitVec.reduceOfInt, Nat.reduceBEq, hw, i64_shl_one (show lim m ≤ 62 by omega), hb]; try rfl
    case hh2 => exact vars_gives _ _ _
    refine al_pureN 3 (by simp only [go_sem, ↓reduceIte, Nat.reduceLT, Nat.reduceEqDiff, Nat.reduceLeDiff, Nat.reduceAdd, Nat.reduceMul, Int.reduceLT, Int.reduceLE, Int.reduceToNat, BitVec.reduceOfInt, Nat.reduceBEq, hw, i64_shl_one (show lim m ≤ 62 by omega), hb]; try rfl) ?_
    refine al_end [0, 3, 4, 10] ?_
    refine awp_if rfl (fun h => by cases h) (fun _ => ?_)
    refine awp_exit ?_
    simp only [Go.Abs.Seq, Go.Abs.Round, Go.Abs.InBlock, ↓reduceIte]
    first | refine awp_seq (awp_lit ?_) | refine awp_lit ?_ | refine awp_seq (awp_seq (awp_lit ?_))
    refine al_pureN 1 (by simp only [go_sem, ↓reduceIte, Nat.reduceLT, Nat.reduceEqDiff, Nat.reduceLeDiff, Nat.reduceAdd, Nat.reduceMul, Int.reduceLT, Int.reduceLE, Int.reduceToNat, BitVec.reduceOfInt, Nat.reduceBEq]; try rfl) ?_
    refine al_gives (vs := ?vs3) (v := ?v3) rfl ?ha3 ?hh3 (by kernel_rfl) rfl (by simp only [go_sem, ↓reduceIte, Nat.reduceLT, Nat.reduceEqDiff, Nat.reduceLeDiff, Nat.reduceAdd, Nat.reduceMul, Int.reduceLT, Int.reduceLE, Int.reduceToNat, BitVec.reduceOfInt, Nat.reduceBEq]) ?kk3
    case ha3 => simp only [go_sem, ↓reduceIte, Nat.reduceLT, Nat.reduceEqDiff, Nat.reduceLeDiff, Nat.reduceAdd, Nat.reduceMul, Int.reduceLT, Int.reduceLE, Int.reduceToNat, BitVec.reduceOfInt, Nat.reduceBEq]; try rfl
    case hh3 => exact tabB_gives h6 (fun _ => true) hown
    refine al_pureN 1 (by simp only [go_sem, ↓reduceIte, Nat.reduceLT, Nat.reduceEqDiff, Nat.reduceLeDiff, Nat.reduceAdd, Nat.reduceMul, Int.reduceLT, Int.reduceLE, Int.reduceToNat, BitVec.reduceOfInt, Nat.reduceBEq]; try rfl) ?_
    refine al_end [2] ?_
    exact awp_ret ⟨_, rfl, by rw [mask_ref h6]; rfl, hle⟩

theorem bit_gives (k i : Nat) (hk : k < 9223372036854775808) (hi : i < 9223372036854775808) (N : Nat) (σ : AHeap) : Gives Try.prog 52 [.int .i64 k, .int .i64 i] N σ (.bool (k.testBit i)) := by
  refine gives_of rfl (aok_body (n := 11) Try.func52 rfl rfl (by simp) ?_)
  have hw := u64_wrap_nat (show i < 18446744073709551616 by omega)
  have hs : k >>> i < 9223372036854775808 := Nat.lt_of_le_of_lt (by rw [Nat.shiftRight_eq_div_pow]; exact Nat.div_le_self _ _) hk
  refine awp_seq (awp_pures [0, 1] (by simp only [go_sem, ↓reduceIte, Nat.reduceLT, Nat.reduceEqDiff, Nat.reduceLeDiff, Nat.reduceAdd, Nat.reduceMul, Int.reduceLT, Int.reduceLE, Int.reduceToNat, BitVec.reduceOfInt, Nat.reduceBEq]; try rfl) ?_)
  refine awp_seq (awp_pures [4] (by simp only [go_sem, ↓reduceIte, Nat.reduceLT, Nat.reduceEqDiff, Nat.reduceLeDiff, Nat.reduceAdd, Nat.reduceMul, Int.reduceLT, Int.reduceLE, Int.reduceToNat, BitVec.reduceOfInt, Nat.reduceBEq, hw, i64_shr (show (0 : Int) ≤ (i : Int) by omega) hk, i64_and_one hs, testBit_mod]; try rfl) ?_)
  exact awp_ret ⟨_, rfl, rfl, AHeap.le_refl _⟩

theorem i64_andNot_pow {k i : Nat} (hk : k < 9223372036854775808) (hi : i ≤ 62) : intA .andNot .i64 (k : Int) ((2 ^ i : Nat) : Int) = some (.int .i64 ((setb k i false : Nat) : Int)) := by
  have hp : 2 ^ i < 9223372036854775808 := Nat.lt_of_le_of_lt (Nat.pow_le_pow_right (by omega) hi) (by decide)
  have h := bv_small hk; have h' := bv_small hp
  have e : (BitVec.ofInt 64 (k : Int) &&& ~~~ BitVec.ofInt 64 ((2 ^ i : Nat) : Int)).toNat = setb k i false := by
    apply Nat.eq_of_testBit_eq
    intro j
    rw [setb_testBit]
    show (BitVec.ofInt 64 (k : Int) &&& ~~~ BitVec.ofInt 64 ((2 ^ i : Nat) : Int)).getLsbD j = _
    rw [BitVec.getLsbD_and, BitVec.getLsbD_not, BitVec.getLsbD, BitVec.getLsbD, h, h']
    by_cases hj : j < 64
    · by_cases hji : j = i
      · subst hji; simp [Nat.testBit_two_pow_self]
      · rw [if_neg hji, Nat.testBit_two_pow_of_ne (fun e => hji e.symm)]; simp [hj]
    · have h0 : k.testBit j = false := Nat.testBit_lt_two_pow (Nat.lt_of_lt_of_le (show k < 2 ^ 63 by omega) (Nat.pow_le_pow_right (by omega) (by omega)))
      rw [if_neg (by omega), h0]; rfl
  show some (Value.int .i64 (IntKind.i64.wrap ((BitVec.ofInt 64 (k : Int) &&& ~~~ BitVec.ofInt 64 ((2 ^ i : Nat) : Int)).toNat : Int))) = _
  rw [e, i64_wrap_nat]
  exact Nat.lt_of_le_of_lt (show setb k i false ≤ k by rw [← e, BitVec.toNat_and, h]; exact Nat.and_le_left) hk

theorem set_gives (k i : Nat) (v : Bool) (hk : k < 9223372036854775808) (hi : i ≤ 62) (N : Nat) (σ : AHeap) : Gives Try.prog 51 [.int .i64 k, .int .i64 i, .bool v] N σ (.int .i64 (setb k i v : Nat)) := by
  refine gives_of rfl (aok_body (n := 18) Try.func51 rfl rfl (by simp) ?_)
  have hw := u64_wrap_nat (show i < 18446744073709551616 by omega)
  have hp : 2 ^ i < 9223372036854775808 := Nat.lt_of_le_of_lt (Nat.pow_le_pow_right (by omega) hi) (by decide)
  refine awp_seq (awp_pures [0, 1, 2] (by simp only [go_sem, ↓reduceIte, Nat.reduceLT, Nat.reduceEqDiff, Nat.reduceLeDiff, Nat.reduceAdd, Nat.reduceMul, Int.reduceLT, Int.reduceLE, Int.reduceToNat, BitVec.reduceOfInt, Nat.reduceBEq]; try rfl) ?_)
  refine awp_seq ?_
  refine awp_seq (awp_pures [0, 1, 7] (by simp only [go_sem, ↓reduceIte, Nat.reduceLT, Nat.reduceEqDiff, Nat.reduceLeDiff, Nat.reduceAdd, Nat.reduceMul, Int.reduceLT, Int.reduceLE, Int.reduceToNat, BitVec.reduceOfInt, Nat.reduceBEq]; try rfl) ?_)
  cases v with
  | true =>
    refine awp_if rfl (fun _ => ?_) (fun h => by cases h)
    refine awp_seq (awp_pures [6] (by simp only [go_sem, ↓reduceIte, Nat.reduceLT, Nat.reduceEqDiff, Nat.reduceLeDiff, Nat.reduceAdd, Nat.reduceMul, Int.reduceLT, Int.reduceLE, Int.reduceToNat, BitVec.reduceOfInt, Nat.reduceBEq, hw, i64_shl_one hi, i64_or hk hp]; try rfl) ?_)
    exact awp_ret ⟨_, rfl, rfl, AHeap.le_refl _⟩
  | false =>
    refine awp_if rfl (fun h => by cases h) (fun _ => ?_)
    refine awp_skip ?_
    refine awp_seq (awp_pures [6] (by simp only [go_sem, ↓reduceIte, Nat.reduceLT, Nat.reduceEqDiff, Nat.reduceLeDiff, Nat.reduceAdd, Nat.reduceMul, Int.reduceLT, Int.reduceLE, Int.reduceToNat, BitVec.reduceOfInt, Nat.reduceBEq, hw, i64_shl_one hi, i64_andNot_pow hk hi]; try rfl) ?_)
    exact awp_ret ⟨_, rfl, rfl, AHeap.le_refl _⟩

theorem rEval_gives (t : BitVec 64) (k : Int) (N : Nat) (σ : AHeap) : Gives Try.prog 37 [.int .u64 t.toNat, .int .i64 k] N σ (.bool (evT t k)) := by
  refine gives_of rfl (aok_body (n := 19) Try.func37 rfl rfl (by simp) ?_)
  refine awp_seq (awp_pures [0, 1] (by simp only [go_sem, ↓reduceIte, Nat.reduceLT, Nat.reduceEqDiff, Nat.reduceLeDiff, Nat.reduceAdd, Nat.reduceMul, Int.reduceLT, Int.reduceLE, Int.reduceToNat, BitVec.reduceOfInt, Nat.reduceBEq]; try rfl) ?_)
  by_cases h0 : 0 ≤ k
  · obtain ⟨j, rfl⟩ : ∃ j : Nat, k = j := ⟨k.toNat, by omega⟩
    have c0 : decide ((0 : Int) ≤ (j : Int)) = true := by simp
    by_cases h1 : (j : Int) < 64
    · have c1 : decide ((j : Int) < 64) = true := decide_eq_true h1
      have hw := u64_wrap_nat (show j < 18446744073709551616 by omega)
      first | refine awp_seq (awp_lit ?_) | refine awp_lit ?_ | refine awp_seq (awp_seq (awp_lit ?_))
      refine al_pureN 6 (by simp only [go_sem, ↓reduceIte, Nat.reduceLT, Nat.reduceEqDiff, Nat.reduceLeDiff, Nat.reduceAdd, Nat.reduceMul, Int.reduceLT, Int.reduceLE, Int.reduceToNat, BitVec.reduceOfInt, Nat.reduceBEq, c0, c1, hw, ge_iff_le]; try rfl) ?_
      refine al_pureN 4 (by simp only [go_sem, ↓reduceIte, Nat.reduceLT, Nat.reduceEqDiff, Nat.reduceLeDiff, Nat.reduceAdd, Nat.reduceMul, Int.reduceLT, Int.reduceLE, Int.reduceToNat, BitVec.reduceOfInt, Nat.reduceBEq, c0, c1, hw, ge_iff_le]; try rfl) ?_
      refine al_pureN 5 (by simp only [go_sem, ↓reduceIte, Nat.reduceLT, Nat.reduceEqDiff, Nat.reduceLeDiff, Nat.reduceAdd, Nat.reduceMul, Int.reduceLT, Int.reduceLE, Int.reduceToNat, BitVec.reduceOfInt, Nat.reduceBEq, c0, c1, hw, ge_iff_le]; try rfl) ?_
      refine al_end [4] ?_
      refine awp_ret ⟨_, rfl, ?_, AHeap.le_refl _⟩
      show Value.bool _ = _
      simp only [BitVec.reduceOfInt, bit_shr, evT, c0, Bool.true_and, Int.toNat_natCast]
    · have c1 : decide ((j : Int) < 64) = false := decide_eq_false h1
      first | refine awp_seq (awp_lit ?_) | refine awp_lit ?_ | refine awp_seq (awp_seq (awp_lit ?_))
      refine al_pureN 6 (by simp only [go_sem, ↓reduceIte, Nat.reduceLT, Nat.reduceEqDiff, Nat.reduceLeDiff, Nat.reduceAdd, Nat.reduceMul, Int.reduceLT, Int.reduceLE, Int.reduceToNat, BitVec.reduceOfInt, Nat.reduceBEq, c0, c1, ge_iff_le]; try rfl) ?_
      refine al_pureN 4 (by simp only [go_sem, ↓reduceIte, Nat.reduceLT, Nat.reduceEqDiff, Nat.reduceLeDiff, Nat.reduceAdd, Nat.reduceMul, Int.reduceLT, Int.reduceLE, Int.reduceToNat, BitVec.reduceOfInt, Nat.reduceBEq, c0, c1, ge_iff_le]; try rfl) ?_
      refine al_pureN 5 (by simp only [go_sem, ↓reduceIte, Nat.reduceLT, Nat.reduceEqDiff, Nat.reduceLeDiff, Nat.reduceAdd, Nat.reduceMul, Int.reduceLT, Int.reduceLE, Int.reduceToNat, BitVec.reduceOfInt, Nat.reduceBEq, c0, c1, ge_iff_le]; try rfl) ?_
      refine al_end [4] ?_
      refine awp_ret ⟨_, rfl, ?_, AHeap.le_refl _⟩
      show Value.bool _ = _
      simp only [evT, Int.toNat_natCast, BitVec.getLsbD_of_ge t j (by omega), Bool.and_false]
  · have c0 : decide (0 ≤ k) = false := by simpa using h0
    first | refine awp_seq (awp_lit ?_) | refine awp_lit ?_ | refine awp_seq (awp_seq (awp_lit ?_))
    refine al_pureN 6 (by simp only [go_sem, ↓reduceIte, Nat.reduceLT, Nat.reduceEqDiff, Nat.reduceLeDiff, Nat.reduceAdd, Nat.reduceMul, Int.reduceLT, Int.reduceLE, Int.reduceToNat, BitVec.reduceOfInt, Nat.reduceBEq, c0, ge_iff_le]; try rfl) ?_
    refine al_pureN 4 (by simp only [go_sem, ↓reduceIte, Nat.reduceLT, Nat.reduceEqDiff, Nat.reduceLeDiff, Nat.reduceAdd, Nat.reduceMul, Int.reduceLT, Int.reduceLE, Int.reduceToNat, BitVec.reduceOfInt, Nat.reduceBEq, c0, ge_iff_le]; try rfl) ?_
    refine al_pureN 5 (by simp only [go_sem, ↓reduceIte, Nat.reduceLT, Nat.reduceEqDiff, Nat.reduceLeDiff, Nat.reduceAdd, Nat.reduceMul, Int.reduceLT, Int.reduceLE, Int.reduceToNat, BitVec.reduceOfInt, Nat.reduceBEq, c0, ge_iff_le]; try rfl) ?_
    refine al_end [4] ?_
    refine awp_ret ⟨_, rfl, ?_, AHeap.le_refl _⟩
    show Value.bool _ = _
    simp [evT, h0]

theorem rValid_gives (t : BitVec 64) (m : Int) (N : Nat) (σ : AHeap) : Gives Try.prog 21 [.int .u64 t.toNat, .int .i64 m] N σ (.bool (validT t m)) := by
  refine gives_of rfl (aok_body (n := 20) Try.func21 rfl rfl (by simp) ?_)
  refine awp_seq (awp_pures [0, 1] (by simp only [go_sem, ↓reduceIte, Nat.reduceLT, Nat.reduceEqDiff, Nat.reduceLeDiff, Nat.reduceAdd, Nat.reduceMul, Int.reduceLT, Int.reduceLE, Int.reduceToNat, BitVec.reduceOfInt, Nat.reduceBEq]; try rfl) ?_)
  by_cases h0 : 0 ≤ m
  · have c0 : decide (0 ≤ m) = true := decide_eq_true h0
    by_cases h1 : m ≤ 6
    · have c1 : decide (m ≤ 6) = true := decide_eq_true h1
      first | refine awp_seq (awp_lit ?_) | refine awp_lit ?_ | refine awp_seq (awp_seq (awp_lit ?_))
      refine al_pureN 6 (by simp only [go_sem, ↓reduceIte, Nat.reduceLT, Nat.reduceEqDiff, Nat.reduceLeDiff, Nat.reduceAdd, Nat.reduceMul, Int.reduceLT, Int.reduceLE, Int.reduceToNat, BitVec.reduceOfInt, Nat.reduceBEq, c0, c1, ge_iff_le]; try rfl) ?_
      refine al_pureN 3 (by simp only [go_sem, ↓reduceIte, Nat.reduceLT, Nat.reduceEqDiff, Nat.reduceLeDiff, Nat.reduceAdd, Nat.reduceMul, Int.reduceLT, Int.reduceLE, Int.reduceToNat, BitVec.reduceOfInt, Nat.reduceBEq, c0, c1, ge_iff_le]; try rfl) ?_
      refine al_gives (vs := ?vs4) (v := ?v4) rfl ?ha4 ?hh4 (by kernel_rfl) rfl (by simp only [go_sem, ↓reduceIte, Nat.reduceLT, Nat.reduceEqDiff, Nat.reduceLeDiff, Nat.reduceAdd, Nat.reduceMul, Int.reduceLT, Int.reduceLE, Int.reduceToNat, BitVec.reduceOfInt, Nat.reduceBEq, c0, c1, ge_iff_le]) ?kk4
      case ha4 => simp only [go_sem, ↓reduceIte, Nat.reduceLT, Nat.reduceEqDiff, Nat.reduceLeDiff, Nat.reduceAdd, Nat.reduceMul, Int.reduceLT, Int.reduceLE, Int.reduceToNat, BitVec.reduceOfInt, Nat.reduceBEq, c0, c1, ge_iff_le]; try rfl
      case hh4 => exact rMask_gives _ _ _
      refine al_pureN 2 (by simp only [go_sem, ↓reduceIte, Nat.reduceLT, Nat.reduceEqDiff, Nat.reduceLeDiff, Nat.reduceAdd, Nat.reduceMul, Int.reduceLT, Int.reduceLE, Int.reduceToNat, BitVec.reduceOfInt, Nat.reduceBEq, c0, c1, ge_iff_le]; try rfl) ?_
      refine al_gives (vs := ?vs5) (v := ?v5) rfl ?ha5 ?hh5 (by kernel_rfl) rfl (by simp only [go_sem, ↓reduceIte, Nat.reduceLT, Nat.reduceEqDiff, Nat.reduceLeDiff, Nat.reduceAdd, Nat.reduceMul, Int.reduceLT, Int.reduceLE, Int.reduceToNat, BitVec.reduceOfInt, Nat.reduceBEq, c0, c1, ge_iff_le]) ?kk5
      case ha5 => simp only [go_sem, ↓reduceIte, Nat.reduceLT, Nat.reduceEqDiff, Nat.reduceLeDiff, Nat.reduceAdd, Nat.reduceMul, Int.reduceLT, Int.reduceLE, Int.reduceToNat, BitVec.reduceOfInt, Nat.reduceBEq, c0, c1, ge_iff_le]; try rfl
      case hh5 => exact rMask_gives _ _ _
      refine al_pureN 3 (by simp only [go_sem, ↓reduceIte, Nat.reduceLT, Nat.reduceEqDiff, Nat.reduceLeDiff, Nat.reduceAdd, Nat.reduceMul, Int.reduceLT, Int.reduceLE, Int.reduceToNat, BitVec.reduceOfInt, Nat.reduceBEq, c0, c1, ge_iff_le]; try rfl) ?_
      refine al_end [4] ?_
      refine awp_ret ⟨_, rfl, ?_, AHeap.le_refl _⟩
      rw [← valid_ref, c0, c1]; simp
    · have c1 : decide (m ≤ 6) = false := decide_eq_false h1
      first | refine awp_seq (awp_lit ?_) | refine awp_lit ?_ | refine awp_seq (awp_seq (awp_lit ?_))
      refine al_pureN 6 (by simp only [go_sem, ↓reduceIte, Nat.reduceLT, Nat.reduceEqDiff, Nat.reduceLeDiff, Nat.reduceAdd, Nat.reduceMul, Int.reduceLT, Int.reduceLE, Int.reduceToNat, BitVec.reduceOfInt, Nat.reduceBEq, c0, c1, ge_iff_le]; try rfl) ?_
      refine al_pureN 3 (by simp only [go_sem, ↓reduceIte, Nat.reduceLT, Nat.reduceEqDiff, Nat.reduceLeDiff, Nat.reduceAdd, Nat.reduceMul, Int.reduceLT, Int.reduceLE, Int.reduceToNat, BitVec.reduceOfInt, Nat.reduceBEq, c0, c1, ge_iff_le]; try rfl) ?_
      refine al_pureN 1 (by simp only [go_sem, ↓reduceIte, Nat.reduceLT, Nat.reduceEqDiff, Nat.reduceLeDiff, Nat.reduceAdd, Nat.reduceMul, Int.reduceLT, Int.reduceLE, Int.reduceToNat, BitVec.reduceOfInt, Nat.reduceBEq, c0, c1, ge_iff_le, undef]; try rfl) ?_
      refine al_pureN 2 (by simp only [go_sem, ↓reduceIte, Nat.reduceLT, Nat.reduceEqDiff, Nat.reduceLeDiff, Nat.reduceAdd, Nat.reduceMul, Int.reduceLT, Int.reduceLE, Int.reduceToNat, BitVec.reduceOfInt, Nat.reduceBEq, c0, c1, ge_iff_le]; try rfl) ?_
      refine al_pureN 1 (by simp only [go_sem, ↓reduceIte, Nat.reduceLT, Nat.reduceEqDiff, Nat.reduceLeDiff, Nat.reduceAdd, Nat.reduceMul, Int.reduceLT, Int.reduceLE, Int.reduceToNat, BitVec.reduceOfInt, Nat.reduceBEq, c0, c1, ge_iff_le, undef]; try rfl) ?_
      refine al_pureN 3 (by simp only [go_sem, ↓reduceIte, Nat.reduceLT, Nat.reduceEqDiff, Nat.reduceLeDiff, Nat.reduceAdd, Nat.reduceMul, Int.reduceLT, Int.reduceLE, Int.reduceToNat, BitVec.reduceOfInt, Nat.reduceBEq, c0, c1, ge_iff_le]; try rfl) ?_
      refine al_end [4] ?_
      refine awp_ret ⟨_, rfl, ?_, AHeap.le_refl _⟩
      rw [← valid_ref, c0, c1]; simp
  · have c0 : decide (0 ≤ m) = false := decide_eq_false h0
    first | refine awp_seq (awp_lit ?_) | refine awp_lit ?_ | refine awp_seq (awp_seq (awp_lit ?_))
    refine al_pureN 6 (by simp only [go_sem, ↓reduceIte, Nat.reduceLT, Nat.reduceEqDiff, Nat.reduceLeDiff, Nat.reduceAdd, Nat.reduceMul, Int.reduceLT, Int.reduceLE, Int.reduceToNat, BitVec.reduceOfInt, Nat.reduceBEq, c0, ge_iff_le]; try rfl) ?_
    refine al_pureN 3 (by simp only [go_sem, ↓reduceIte, Nat.reduceLT, Nat.reduceEqDiff, Nat.reduceLeDiff, Nat.reduceAdd, Nat.reduceMul, Int.reduceLT, Int.reduceLE, Int.reduceToNat, BitVec.reduceOfInt, Nat.reduceBEq, c0, ge_iff_le]; try rfl) ?_
    refine al_pureN 1 (by simp only [go_sem, ↓reduceIte, Nat.reduceLT, Nat.reduceEqDiff, Nat.reduceLeDiff, Nat.reduceAdd, Nat.reduceMul, Int.reduceLT, Int.reduceLE, Int.reduceToNat, BitVec.reduceOfInt, Nat.reduceBEq, c0, ge_iff_le, undef]; try rfl) ?_
    refine al_pureN 2 (by simp only [go_sem, ↓reduceIte, Nat.reduceLT, Nat.reduceEqDiff, Nat.reduceLeDiff, Nat.reduceAdd, Nat.reduceMul, Int.reduceLT, Int.reduceLE, Int.reduceToNat, BitVec.reduceOfInt, Nat.reduceBEq, c0, ge_iff_le]; try rfl) ?_
    refine al_pureN 1 (by simp only [go_sem, ↓reduceIte, Nat.reduceLT, Nat.reduceEqDiff, Nat.reduceLeDiff, Nat.reduceAdd, Nat.reduceMul, Int.reduceLT, Int.reduceLE, Int.reduceToNat, BitVec.reduceOfInt, Nat.reduceBEq, c0, ge_iff_le, undef]; try rfl) ?_
    refine al_pureN 3 (by simp only [go_sem, ↓reduceIte, Nat.reduceLT, Nat.reduceEqDiff, Nat.reduceLeDiff, Nat.reduceAdd, Nat.reduceMul, Int.reduceLT, Int.reduceLE, Int.reduceToNat, BitVec.reduceOfInt, Nat.reduceBEq, c0, ge_iff_le]; try rfl) ?_
    refine al_end [4] ?_
    refine awp_ret ⟨_, rfl, ?_, AHeap.le_refl _⟩
    rw [← valid_ref, c0]; simp

theorem rVar_gives (i m : Int) (N : Nat) (σ : AHeap) : Gives Try.prog 36 [.int .i64 i, .int .i64 m] N σ (.int .u64 (varR i m).toNat) := by
  refine gives_of rfl (aok_fresh fun hN => aok_body (n := 31) Try.func36 rfl rfl (by simp) ?_)
  have h6 := lim_le m
  have h64 := two_pow_lim m
  refine awp_seq (awp_pures [0, 1] (by simp only [go_sem, ↓reduceIte, Nat.reduceLT, Nat.reduceEqDiff, Nat.reduceLeDiff, Nat.reduceAdd, Nat.reduceMul, Int.reduceLT, Int.reduceLE, Int.reduceToNat, BitVec.reduceOfInt, Nat.reduceBEq]; try rfl) ?_)
  first | refine awp_seq (awp_lit ?_) | refine awp_lit ?_ | refine awp_seq (awp_seq (awp_lit ?_))
  refine al_pureN 1 (by simp only [go_sem, ↓reduceIte, Nat.reduceLT, Nat.reduceEqDiff, Nat.reduceLeDiff, Nat.reduceAdd, Nat.reduceMul, Int.reduceLT, Int.reduceLE, Int.reduceToNat, BitVec.reduceOfInt, Nat.reduceBEq]; try rfl) ?_
  refine al_gives (vs := ?vs6) (v := ?v6) rfl ?ha6 ?hh6 (by kernel_rfl) rfl (by simp only [go_sem, ↓reduceIte, Nat.reduceLT, Nat.reduceEqDiff, Nat.reduceLeDiff, Nat.reduceAdd, Nat.reduceMul, Int.reduceLT, Int.reduceLE, Int.reduceToNat, BitVec.reduceOfInt, Nat.reduceBEq]) ?kk6
  case ha6 => simp only [go_sem, ↓reduceIte, Nat.reduceLT, Nat.reduceEqDiff, Nat.reduceLeDiff, Nat.reduceAdd, Nat.reduceMul, Int.reduceLT, Int.reduceLE, Int.reduceToNat, BitVec.reduceOfInt, Nat.reduceBEq]; try rfl
  case hh6 => exact vars_gives _ _ _
  refine al_pureN 1 (by simp only [go_sem, ↓reduceIte, Nat.reduceLT, Nat.reduceEqDiff, Nat.reduceLeDiff, Nat.reduceAdd, Nat.reduceMul, Int.reduceLT, Int.reduceLE, Int.reduceToNat, BitVec.reduceOfInt, Nat.reduceBEq]; try rfl) ?_
  refine al_end [0, 1] ?_
  refine awp_seq ?_
  by_cases hi0 : i < 0 ∨ (lim m : Int) ≤ i
  · have hc : decide (i < 0) = true ∨ (decide (i < 0) = false ∧ decide ((lim m : Int) ≤ i) = true) := by
      by_cases h : i < 0
      · exact .inl (decide_eq_true h)
      · exact .inr ⟨decide_eq_false h, decide_eq_true (by omega)⟩
    rcases hc with c0 | ⟨c0, c1⟩
    · refine awp_seq (awp_pures [0, 1, 15] (by simp only [go_sem, ↓reduceIte, Nat.reduceLT, Nat.reduceEqDiff, Nat.reduceLeDiff, Nat.reduceAdd, Nat.reduceMul, Int.reduceLT, Int.reduceLE, Int.reduceToNat, BitVec.reduceOfInt, Nat.reduceBEq, c0, ge_iff_le]; try rfl) ?_)
      refine awp_if rfl (fun _ => ?_) (fun h => by cases h)
      refine awp_seq (awp_pures [4] (by simp only [go_sem, ↓reduceIte, Nat.reduceLT, Nat.reduceEqDiff, Nat.reduceLeDiff, Nat.reduceAdd, Nat.reduceMul, Int.reduceLT, Int.reduceLE, Int.reduceToNat, BitVec.reduceOfInt, Nat.reduceBEq]; try rfl) ?_)
      exact awp_ret ⟨_, rfl, by rw [varR, if_pos hi0]; rfl, AHeap.le_refl _⟩
    · refine awp_seq (awp_pures [0, 1, 15] (by simp only [go_sem, ↓reduceIte, Nat.reduceLT, Nat.reduceEqDiff, Nat.reduceLeDiff, Nat.reduceAdd, Nat.reduceMul, Int.reduceLT, Int.reduceLE, Int.reduceToNat, BitVec.reduceOfInt, Nat.reduceBEq, c0, c1, ge_iff_le]; try rfl) ?_)
      refine awp_if rfl (fun _ => ?_) (fun h => by cases h)
      refine awp_seq (awp_pures [4] (by simp only [go_sem, ↓reduceIte, Nat.reduceLT, Nat.reduceEqDiff, Nat.reduceLeDiff, Nat.reduceAdd, Nat.reduceMul, Int.reduceLT, Int.reduceLE, Int.reduceToNat, BitVec.reduceOfInt, Nat.reduceBEq]; try rfl) ?_)
      exact awp_ret ⟨_, rfl, by rw [varR, if_pos hi0]; rfl, AHeap.le_refl _⟩
  · have c0 : decide (i < 0) = false := decide_eq_false (by omega)
    have c1 : decide ((lim m : Int) ≤ i) = false := decide_eq_false (by omega)
    obtain ⟨j, rfl⟩ : ∃ j : Nat, i = j := ⟨i.toNat, by omega⟩
    have hj : j < lim m := by omega
    refine awp_seq (awp_pures [0, 1, 15] (by simp only [go_sem, ↓reduceIte, Nat.reduceLT, Nat.reduceEqDiff, Nat.reduceLeDiff, Nat.reduceAdd, Nat.reduceMul, Int.reduceLT, Int.reduceLE, Int.reduceToNat, BitVec.reduceOfInt, Nat.reduceBEq, c0, c1, ge_iff_le]; try rfl) ?_)
    refine awp_if rfl (fun h => by cases h) (fun _ => ?_)
    refine awp_skip ?_
    refine awp_seq (awp_pures [0, 1, 5] (by simp only [go_sem, ↓reduceIte, Nat.reduceLT, Nat.reduceEqDiff, Nat.reduceLeDiff, Nat.reduceAdd, Nat.reduceMul, Int.reduceLT, Int.reduceLE, Int.reduceToNat, BitVec.reduceOfInt, Nat.reduceBEq]; try rfl) ?_)
    refine awp_seq ?_
    refine awp_seq (awp_pures [0, 1, 5, 6] (by simp only [go_sem, ↓reduceIte, Nat.reduceLT, Nat.reduceEqDiff, Nat.reduceLeDiff, Nat.reduceAdd, Nat.reduceMul, Int.reduceLT, Int.reduceLE, Int.reduceToNat, BitVec.reduceOfInt, Nat.reduceBEq]; try rfl) ?_)
    refine awp_block (awp_loop ?_)
    refine ALoop.cast3 (aloop_ind (α := Nat × Value × Nat × AHeap)
      (fun x => x.1 ≤ 2 ^ lim m ∧ N ≤ x.2.2.1 ∧ OwnAt x.2.2.2 N x.2.1 (bools ((List.range x.1).map fun k => k.testBit j)) x.1 1 ∧ σ.le x.2.2.2) (fun x => 2 ^ lim m - x.1)
      (fun x => [(0, .int .i64 j), (1, .int .i64 (lim m : Nat)), (5, x.2.1), (6, .int .i64 x.1)]) (fun x => x.2.2.1) (fun x => x.2.2.2) ?_
      (0, .slice none 0 0, N, σ) ⟨by simp, by simp, OwnAt.nil, AHeap.le_refl _⟩) rfl rfl rfl
    rintro ⟨k, sv, Nk, σk⟩ ⟨hk, hNk, hown, hle⟩ ih
    simp only at hk hNk hown hle ⊢
    have hw := u64_wrap_nat (show lim m < 18446744073709551616 by omega)
    by_cases hlt : k < 2 ^ lim m
    · have hb : decide ((k : Int) < ((2 ^ lim m : Nat) : Int)) = true := decide_eq_true (Int.ofNat_lt.2 hlt)
      have hj1 : -9223372036854775808 ≤ (k : Int) + 1 ∧ (k : Int) + 1 ≤ 9223372036854775807 := by omega
      refine awp_seq ?_
      refine awp_seq (awp_pures [0, 1, 5, 6, 20] (by simp only [go_sem, ↓reduceIte, Nat.reduceLT, Nat.reduceEqDiff, Nat.reduceLeDiff, Nat.reduceAdd, Nat.reduceMul, Int.reduceLT, Int.reduceLE, Int.reduceToNat, BitVec.reduceOfInt, Nat.reduceBEq, hw, i64_shl_one (show lim m ≤ 62 by omega), hb]; try rfl) ?_)
      refine awp_if rfl (fun _ => ?_) (fun h => by cases h)
      refine awp_skip ?_
      refine awp_seq (awp_block ?_)
      refine awp_lit ?_
      refine al_pureN 3 (by simp only [go_sem, ↓reduceIte, Nat.reduceLT, Nat.reduceEqDiff, Nat.reduceLeDiff, Nat.reduceAdd, Nat.reduceMul, Int.reduceLT, Int.reduceLE, Int.reduceToNat, BitVec.reduceOfInt, Nat.reduceBEq]; try rfl) ?_
      refine al_gives (vs := ?vs7) (v := ?v7) rfl ?ha7 ?hh7 (by kernel_rfl) rfl (by simp only [go_sem, ↓reduceIte, Nat.reduceLT, Nat.reduceEqDiff, Nat.reduceLeDiff, Nat.reduceAdd, Nat.reduceMul, Int.reduceLT, Int.reduceLE, Int.reduceToNat, BitVec.reduceOfInt, Nat.reduceBEq]) ?kk7
      case ha7 => simp only [go_sem, ↓reduceIte, Nat.reduceLT, Nat.reduceEqDiff, Nat.reduceLeDiff, Nat.reduceAdd, Nat.reduceMul, Int.reduceLT, Int.reduceLE, Int.reduceToNat, BitVec.reduceOfInt, Nat.reduceBEq]; try rfl
      case hh7 => exact bit_gives k j (by omega) (by omega) _ _
      refine al_push rfl rfl rfl (by simp only [go_sem, ↓reduceIte, Nat.reduceLT, Nat.reduceEqDiff, Nat.reduceLeDiff, Nat.reduceAdd, Nat.reduceMul, Int.reduceLT, Int.reduceLE, Int.reduceToNat, BitVec.reduceOfInt, Nat.reduceBEq]; try rfl) (by simp only [go_sem, ↓reduceIte, Nat.reduceLT, Nat.reduceEqDiff, Nat.reduceLeDiff, Nat.reduceAdd, Nat.reduceMul, Int.reduceLT, Int.reduceLE, Int.reduceToNat, BitVec.reduceOfInt, Nat.reduceBEq]; try rfl) rfl rfl Try.underlying72 ty4 rfl rfl rfl (by simp only [go_sem, ↓reduceIte, Nat.reduceLT, Nat.reduceEqDiff, Nat.reduceLeDiff, Nat.reduceAdd, Nat.reduceMul, Int.reduceLT, Int.reduceLE, Int.reduceToNat, BitVec.reduceOfInt, Nat.reduceBEq]; try rfl) (by simp only [go_sem, ↓reduceIte, Nat.reduceLT, Nat.reduceEqDiff, Nat.reduceLeDiff, Nat.reduceAdd, Nat.reduceMul, Int.reduceLT, Int.reduceLE, Int.reduceToNat, BitVec.reduceOfInt, Nat.reduceBEq]; try rfl) rfl rfl hown (by omega) (by omega) (by omega) ?_
      intro N' σ' v' hN' hown' hkeep
      refine al_pureN 1 (by simp only [go_sem, ↓reduceIte, Nat.reduceLT, Nat.reduceEqDiff, Nat.reduceLeDiff, Nat.reduceAdd, Nat.reduceMul, Int.reduceLT, Int.reduceLE, Int.reduceToNat, BitVec.reduceOfInt, Nat.reduceBEq]; try rfl) ?_
      refine al_end [0, 1, 5, 6] ?_
      refine awp_pures [0, 1, 5, 6] (by simp only [go_sem, ↓reduceIte, Nat.reduceLT, Nat.reduceEqDiff, Nat.reduceLeDiff, Nat.reduceAdd, Nat.reduceMul, Int.reduceLT, Int.reduceLE, Int.reduceToNat, BitVec.reduceOfInt, Nat.reduceBEq, i64_add hj1]; try rfl) ?_
      refine (ih (k + 1, v', N', σ') ⟨hlt, by simp; omega, by rw [range_bools (fun k => k.testBit j)] at hown'; exact hown', hkeep σ hle hN⟩ (by simp; omega)).cast (by first | (simp only [go_sem, ↓reduceIte, Nat.reduceLT, Nat.reduceEqDiff, Nat.reduceLeDiff, Nat.reduceAdd, Nat.reduceMul, Int.reduceLT, Int.reduceLE, Int.reduceToNat, BitVec.reduceOfInt, Nat.reduceBEq]; try rfl) | rfl)
    · have hb : decide ((k : Int) < ((2 ^ lim m : Nat) : Int)) = false := decide_eq_false fun h => hlt (Int.ofNat_lt.1 h)
      have hkl : k = 2 ^ lim m := by omega
      subst hkl
      refine awp_seq ?_
      refine awp_seq (awp_pures [0, 1, 5, 6, 20] (by simp only [go_sem, ↓reduceIte, Nat.reduceLT, Nat.reduceEqDiff, Nat.reduceLeDiff, Nat.reduceAdd, Nat.reduceMul, Int.reduceLT, Int.reduceLE, Int.reduceToNat, BitVec.reduceOfInt, Nat.reduceBEq, hw, i64_shl_one (show lim m ≤ 62 by omega), hb]; try rfl) ?_)
      refine awp_if rfl (fun h => by cases h) (fun _ => ?_)
      refine awp_exit ?_
      simp only [Go.Abs.Seq, Go.Abs.Round, Go.Abs.InBlock, ↓reduceIte]
      first | refine awp_seq (awp_lit ?_) | refine awp_lit ?_ | refine awp_seq (awp_seq (awp_lit ?_))
      refine al_pureN 1 (by simp only [go_sem, ↓reduceIte, Nat.reduceLT, Nat.reduceEqDiff, Nat.reduceLeDiff, Nat.reduceAdd, Nat.reduceMul, Int.reduceLT, Int.reduceLE, Int.reduceToNat, BitVec.reduceOfInt, Nat.reduceBEq]; try rfl) ?_
      refine al_gives (vs := ?vs8) (v := ?v8) rfl ?ha8 ?hh8 (by kernel_rfl) rfl (by simp only [go_sem, ↓reduceIte, Nat.reduceLT, Nat.reduceEqDiff, Nat.reduceLeDiff, Nat.reduceAdd, Nat.reduceMul, Int.reduceLT, Int.reduceLE, Int.reduceToNat, BitVec.reduceOfInt, Nat.reduceBEq]) ?kk8
      case ha8 => simp only [go_sem, ↓reduceIte, Nat.reduceLT, Nat.reduceEqDiff, Nat.reduceLeDiff, Nat.reduceAdd, Nat.reduceMul, Int.reduceLT, Int.reduceLE, Int.reduceToNat, BitVec.reduceOfInt, Nat.reduceBEq]; try rfl
      case hh8 => exact tabB_gives h6 (fun k => k.testBit j) hown
      refine al_pureN 1 (by simp only [go_sem, ↓reduceIte, Nat.reduceLT, Nat.reduceEqDiff, Nat.reduceLeDiff, Nat.reduceAdd, Nat.reduceMul, Int.reduceLT, Int.reduceLE, Int.reduceToNat, BitVec.reduceOfInt, Nat.reduceBEq]; try rfl) ?_
      refine al_end [4] ?_
      exact awp_ret ⟨_, rfl, by rw [var_ref h6 hj, varR_lim]; rfl, hle⟩

theorem getLsbD_evT (t : BitVec 64) (k : Nat) : evT t (k : Int) = t.getLsbD k := evT_nat t k

theorem rCofactor_gives (t : BitVec 64) (m i : Int) (val : Bool) (N : Nat) (σ : AHeap) : Gives Try.prog 39 [.int .u64 t.toNat, .int .i64 m, .int .i64 i, .bool val] N σ (.int .u64 (cofR t m i val).toNat) := by
  refine gives_of rfl (aok_fresh fun hN => aok_body (n := 42) Try.func39 rfl rfl (by simp) ?_)
  have h6 := lim_le m
  have h64 := two_pow_lim m
  refine awp_seq (awp_pures [0, 1, 2, 3] (by simp only [go_sem, ↓reduceIte, Nat.reduceLT, Nat.reduceEqDiff, Nat.reduceLeDiff, Nat.reduceAdd, Nat.reduceMul, Int.reduceLT, Int.reduceLE, Int.reduceToNat, BitVec.reduceOfInt, Nat.reduceBEq]; try rfl) ?_)
  first | refine awp_seq (awp_lit ?_) | refine awp_lit ?_ | refine awp_seq (awp_seq (awp_lit ?_))
  refine al_pureN 1 (by simp only [go_sem, ↓reduceIte, Nat.reduceLT, Nat.reduceEqDiff, Nat.reduceLeDiff, Nat.reduceAdd, Nat.reduceMul, Int.reduceLT, Int.reduceLE, Int.reduceToNat, BitVec.reduceOfInt, Nat.reduceBEq]; try rfl) ?_
  refine al_gives (vs := ?vs9) (v := ?v9) rfl ?ha9 ?hh9 (by kernel_rfl) rfl (by simp only [go_sem, ↓reduceIte, Nat.reduceLT, Nat.reduceEqDiff, Nat.reduceLeDiff, Nat.reduceAdd, Nat.reduceMul, Int.reduceLT, Int.reduceLE, Int.reduceToNat, BitVec.reduceOfInt, Nat.reduceBEq]) ?kk9
  case ha9 => simp only [go_sem, ↓reduceIte, Nat.reduceLT, Nat.reduceEqDiff, Nat.reduceLeDiff, Nat.reduceAdd, Nat.reduceMul, Int.reduceLT, Int.reduceLE, Int.reduceToNat, BitVec.reduceOfInt, Nat.reduceBEq]; try rfl
  case hh9 => exact vars_gives _ _ _
  refine al_pureN 1 (by simp only [go_sem, ↓reduceIte, Nat.reduceLT, Nat.reduceEqDiff, Nat.reduceLeDiff, Nat.reduceAdd, Nat.reduceMul, Int.reduceLT, Int.reduceLE, Int.reduceToNat, BitVec.reduceOfInt, Nat.reduceBEq]; try rfl) ?_
  refine al_end [0, 1, 2, 3] ?_
  refine awp_seq ?_
  by_cases hi0 : i < 0 ∨ (lim m : Int) ≤ i
  · have hc : decide (i < 0) = true ∨ (decide (i < 0) = false ∧ decide ((lim m : Int) ≤ i) = true) := by
      by_cases h : i < 0
      · exact .inl (decide_eq_true h)
      · exact .inr ⟨decide_eq_false h, decide_eq_true (by omega)⟩
    rcases hc with c0 | ⟨c0, c1⟩
    · refine awp_seq (awp_pures [0, 1, 2, 3, 19] (by simp only [go_sem, ↓reduceIte, Nat.reduceLT, Nat.reduceEqDiff, Nat.reduceLeDiff, Nat.reduceAdd, Nat.reduceMul, Int.reduceLT, Int.reduceLE, Int.reduceToNat, BitVec.reduceOfInt, Nat.reduceBEq, c0, ge_iff_le]; try rfl) ?_)
      refine awp_if rfl (fun _ => ?_) (fun h => by cases h)
      first | refine awp_seq (awp_lit ?_) | refine awp_lit ?_ | refine awp_seq (awp_seq (awp_lit ?_))
      refine al_pureN 2 (by simp only [go_sem, ↓reduceIte, Nat.reduceLT, Nat.reduceEqDiff, Nat.reduceLeDiff, Nat.reduceAdd, Nat.reduceMul, Int.reduceLT, Int.reduceLE, Int.reduceToNat, BitVec.reduceOfInt, Nat.reduceBEq]; try rfl) ?_
      refine al_gives (vs := ?vs10) (v := ?v10) rfl ?ha10 ?hh10 (by kernel_rfl) rfl (by simp only [go_sem, ↓reduceIte, Nat.reduceLT, Nat.reduceEqDiff, Nat.reduceLeDiff, Nat.reduceAdd, Nat.reduceMul, Int.reduceLT, Int.reduceLE, Int.reduceToNat, BitVec.reduceOfInt, Nat.reduceBEq]) ?kk10
      case ha10 => simp only [go_sem, ↓reduceIte, Nat.reduceLT, Nat.reduceEqDiff, Nat.reduceLeDiff, Nat.reduceAdd, Nat.reduceMul, Int.reduceLT, Int.reduceLE, Int.reduceToNat, BitVec.reduceOfInt, Nat.reduceBEq]; try rfl
      case hh10 => exact rMask_gives _ _ _
      refine al_pureN 2 (by simp only [go_sem, ↓reduceIte, Nat.reduceLT, Nat.reduceEqDiff, Nat.reduceLeDiff, Nat.reduceAdd, Nat.reduceMul, Int.reduceLT, Int.reduceLE, Int.reduceToNat, BitVec.reduceOfInt, Nat.reduceBEq]; try rfl) ?_
      refine al_end [8] ?_
      exact awp_ret ⟨_, rfl, by simp only [cofR, if_pos hi0, lim_lim, ofInt_toNat]; rfl, AHeap.le_refl _⟩
    · refine awp_seq (awp_pures [0, 1, 2, 3, 19] (by simp only [go_sem, ↓reduceIte, Nat.reduceLT, Nat.reduceEqDiff, Nat.reduceLeDiff, Nat.reduceAdd, Nat.reduceMul, Int.reduceLT, Int.reduceLE, Int.reduceToNat, BitVec.reduceOfInt, Nat.reduceBEq, c0, c1, ge_iff_le]; try rfl) ?_)
      refine awp_if rfl (fun _ => ?_) (fun h => by cases h)
      first | refine awp_seq (awp_lit ?_) | refine awp_lit ?_ | refine awp_seq (awp_seq (awp_lit ?_))
      refine al_pureN 2 (by simp only [go_sem, ↓reduceIte, Nat.reduceLT, Nat.reduceEqDiff, Nat.reduceLeDiff, Nat.reduceAdd, Nat.reduceMul, Int.reduceLT, Int.reduceLE, Int.reduceToNat, BitVec.reduceOfInt, Nat.reduceBEq]; try rfl) ?_
      refine al_gives (vs := ?vs11) (v := ?v11) rfl ?ha11 ?hh11 (by kernel_rfl) rfl (by simp only [go_sem, ↓reduceIte, Nat.reduceLT, Nat.reduceEqDiff, Nat.reduceLeDiff, Nat.reduceAdd, Nat.reduceMul, Int.reduceLT, Int.reduceLE, Int.reduceToNat, BitVec.reduceOfInt, Nat.reduceBEq]) ?kk11
      case ha11 => simp only [go_sem, ↓reduceIte, Nat.reduceLT, Nat.reduceEqDiff, Nat.reduceLeDiff, Nat.reduceAdd, Nat.reduceMul, Int.reduceLT, Int.reduceLE, Int.reduceToNat, BitVec.reduceOfInt, Nat.reduceBEq]; try rfl
      case hh11 => exact rMask_gives _ _ _
      refine al_pureN 2 (by simp only [go_sem, ↓reduceIte, Nat.reduceLT, Nat.reduceEqDiff, Nat.reduceLeDiff, Nat.reduceAdd, Nat.reduceMul, Int.reduceLT, Int.reduceLE, Int.reduceToNat, BitVec.reduceOfInt, Nat.reduceBEq]; try rfl) ?_
      refine al_end [8] ?_
      exact awp_ret ⟨_, rfl, by simp only [cofR, if_pos hi0, lim_lim, ofInt_toNat]; rfl, AHeap.le_refl _⟩
  · have c0 : decide (i < 0) = false := decide_eq_false (by omega)
    have c1 : decide ((lim m : Int) ≤ i) = false := decide_eq_false (by omega)
    obtain ⟨j, rfl⟩ : ∃ j : Nat, i = j := ⟨i.toNat, by omega⟩
    have hj : j < lim m := by omega
    refine awp_seq (awp_pures [0, 1, 2, 3, 19] (by simp only [go_sem, ↓reduceIte, Nat.reduceLT, Nat.reduceEqDiff, Nat.reduceLeDiff, Nat.reduceAdd, Nat.reduceMul, Int.reduceLT, Int.reduceLE, Int.reduceToNat, BitVec.reduceOfInt, Nat.reduceBEq, c0, c1, ge_iff_le]; try rfl) ?_)
    refine awp_if rfl (fun h => by cases h) (fun _ => ?_)
    refine awp_skip ?_
    refine awp_seq (awp_pures [0, 1, 2, 3, 9] (by simp only [go_sem, ↓reduceIte, Nat.reduceLT, Nat.reduceEqDiff, Nat.reduceLeDiff, Nat.reduceAdd, Nat.reduceMul, Int.reduceLT, Int.reduceLE, Int.reduceToNat, BitVec.reduceOfInt, Nat.reduceBEq]; try rfl) ?_)
    refine awp_seq ?_
    refine awp_seq (awp_pures [0, 1, 2, 3, 9, 10] (by simp only [go_sem, ↓reduceIte, Nat.reduceLT, Nat.reduceEqDiff, Nat.reduceLeDiff, Nat.reduceAdd, Nat.reduceMul, Int.reduceLT, Int.reduceLE, Int.reduceToNat, BitVec.reduceOfInt, Nat.reduceBEq]; try rfl) ?_)
    refine awp_block (awp_loop ?_)
    refine ALoop.cast3 (aloop_ind (α := Nat × Value × Nat × AHeap)
      (fun x => x.1 ≤ 2 ^ lim m ∧ N ≤ x.2.2.1 ∧ OwnAt x.2.2.2 N x.2.1 (bools ((List.range x.1).map fun k => t.getLsbD (setb k j val))) x.1 1 ∧ σ.le x.2.2.2) (fun x => 2 ^ lim m - x.1)
      (fun x => [(0, .int .u64 t.toNat), (1, .int .i64 (lim m : Nat)), (2, .int .i64 j), (3, .bool val), (9, x.2.1), (10, .int .i64 x.1)]) (fun x => x.2.2.1) (fun x => x.2.2.2) ?_
      (0, .slice none 0 0, N, σ) ⟨by simp, by simp, OwnAt.nil, AHeap.le_refl _⟩) rfl rfl rfl
    rintro ⟨k, sv, Nk, σk⟩ ⟨hk, hNk, hown, hle⟩ ih
    simp only at hk hNk hown hle ⊢
    have hw := u64_wrap_nat (show lim m < 18446744073709551616 by omega)
    by_cases hlt : k < 2 ^ lim m
    · have hb : decide ((k : Int) < ((2 ^ lim m : Nat) : Int)) = true := decide_eq_true (Int.ofNat_lt.2 hlt)
      have hj1 : -9223372036854775808 ≤ (k : Int) + 1 ∧ (k : Int) + 1 ≤ 9223372036854775807 := by omega
      refine awp_seq ?_
      refine awp_seq (awp_pures [0, 1, 2, 3, 9, 10, 28] (by simp only [go_sem, ↓reduceIte, Nat.reduceLT, Nat.reduceEqDiff, Nat.reduceLeDiff, Nat.reduceAdd, Nat.reduceMul, Int.reduceLT, Int.reduceLE, Int.reduceToNat, BitVec.reduceOfInt, Nat.reduceBEq, hw, i64_shl_one (show lim m ≤ 62 by omega), hb]; try rfl) ?_)
      refine awp_if rfl (fun _ => ?_) (fun h => by cases h)
      refine awp_skip ?_
      refine awp_seq (awp_block ?_)
      refine awp_lit ?_
      have hset : setb k j val ≤ 9223372036854775807 := by
        have := setb_lt val hlt hj
        omega
      refine al_pureN 5 (by simp only [go_sem, ↓reduceIte, Nat.reduceLT, Nat.reduceEqDiff, Nat.reduceLeDiff, Nat.reduceAdd, Nat.reduceMul, Int.reduceLT, Int.reduceLE, Int.reduceToNat, BitVec.reduceOfInt, Nat.reduceBEq]; try rfl) ?_
      refine al_gives (vs := ?vs12) (v := ?v12) rfl ?ha12 ?hh12 (by kernel_rfl) rfl (by simp only [go_sem, ↓reduceIte, Nat.reduceLT, Nat.reduceEqDiff, Nat.reduceLeDiff, Nat.reduceAdd, Nat.reduceMul, Int.reduceLT, Int.reduceLE, Int.reduceToNat, BitVec.reduceOfInt, Nat.reduceBEq]) ?kk12
      case ha12 => simp only [go_sem, ↓reduceIte, Nat.reduceLT, Nat.reduceEqDiff, Nat.reduceLeDiff, Nat.reduceAdd, Nat.reduceMul, Int.reduceLT, Int.reduceLE, Int.reduceToNat, BitVec.reduceOfInt, Nat.reduceBEq]; try rfl
      case hh12 => exact set_gives k j val (by omega) (by omega) _ _
      refine al_gives (vs := ?vs13) (v := ?v13) rfl ?ha13 ?hh13 (by kernel_rfl) rfl (by simp only [go_sem, ↓reduceIte, Nat.reduceLT, Nat.reduceEqDiff, Nat.reduceLeDiff, Nat.reduceAdd, Nat.reduceMul, Int.reduceLT, Int.reduceLE, Int.reduceToNat, BitVec.reduceOfInt, Nat.reduceBEq]) ?kk13
      case ha13 => simp only [go_sem, ↓reduceIte, Nat.reduceLT, Nat.reduceEqDiff, Nat.reduceLeDiff, Nat.reduceAdd, Nat.reduceMul, Int.reduceLT, Int.reduceLE, Int.reduceToNat, BitVec.reduceOfInt, Nat.reduceBEq]; try rfl
      case hh13 => exact rEval_gives _ _ _ _
      rw [evT_nat]
      refine al_push rfl rfl rfl (by simp only [go_sem, ↓reduceIte, Nat.reduceLT, Nat.reduceEqDiff, Nat.reduceLeDiff, Nat.reduceAdd, Nat.reduceMul, Int.reduceLT, Int.reduceLE, Int.reduceToNat, BitVec.reduceOfInt, Nat.reduceBEq]; try rfl) (by simp only [go_sem, ↓reduceIte, Nat.reduceLT, Nat.reduceEqDiff, Nat.reduceLeDiff, Nat.reduceAdd, Nat.reduceMul, Int.reduceLT, Int.reduceLE, Int.reduceToNat, BitVec.reduceOfInt, Nat.reduceBEq]; try rfl) rfl rfl Try.underlying72 ty4 rfl rfl rfl (by simp only [go_sem, ↓reduceIte, Nat.reduceLT, Nat.reduceEqDiff, Nat.reduceLeDiff, Nat.reduceAdd, Nat.reduceMul, Int.reduceLT, Int.reduceLE, Int.reduceToNat, BitVec.reduceOfInt, Nat.reduceBEq]; try rfl) (by simp only [go_sem, ↓reduceIte, Nat.reduceLT, Nat.reduceEqDiff, Nat.reduceLeDiff, Nat.reduceAdd, Nat.reduceMul, Int.reduceLT, Int.reduceLE, Int.reduceToNat, BitVec.reduceOfInt, Nat.reduceBEq]; try rfl) rfl rfl hown (by omega) (by omega) (by omega) ?_
      intro N' σ' v' hN' hown' hkeep
      refine al_pureN 1 (by simp only [go_sem, ↓reduceIte, Nat.reduceLT, Nat.reduceEqDiff, Nat.reduceLeDiff, Nat.reduceAdd, Nat.reduceMul, Int.reduceLT, Int.reduceLE, Int.reduceToNat, BitVec.reduceOfInt, Nat.reduceBEq]; try rfl) ?_
      refine al_end [0, 1, 2, 3, 9, 10] ?_
      refine awp_pures [0, 1, 2, 3, 9, 10] (by simp only [go_sem, ↓reduceIte, Nat.reduceLT, Nat.reduceEqDiff, Nat.reduceLeDiff, Nat.reduceAdd, Nat.reduceMul, Int.reduceLT, Int.reduceLE, Int.reduceToNat, BitVec.reduceOfInt, Nat.reduceBEq, i64_add hj1]; try rfl) ?_
      refine (ih (k + 1, v', N', σ') ⟨hlt, by simp; omega, by rw [range_bools (fun k => t.getLsbD (setb k j val))] at hown'; exact hown', hkeep σ hle hN⟩ (by simp; omega)).cast (by first | (simp only [go_sem, ↓reduceIte, Nat.reduceLT, Nat.reduceEqDiff, Nat.reduceLeDiff, Nat.reduceAdd, Nat.reduceMul, Int.reduceLT, Int.reduceLE, Int.reduceToNat, BitVec.reduceOfInt, Nat.reduceBEq]; try rfl) | rfl)
    · have hb : decide ((k : Int) < ((2 ^ lim m : Nat) : Int)) = false := decide_eq_false fun h => hlt (Int.ofNat_lt.1 h)
      have hkl : k = 2 ^ lim m := by omega
      subst hkl
      refine awp_seq ?_
      refine awp_seq (awp_pures [0, 1, 2, 3, 9, 10, 28] (by simp only [go_sem, ↓reduceIte, Nat.reduceLT, Nat.reduceEqDiff, Nat.reduceLeDiff, Nat.reduceAdd, Nat.reduceMul, Int.reduceLT, Int.reduceLE, Int.reduceToNat, BitVec.reduceOfInt, Nat.reduceBEq, hw, i64_shl_one (show lim m ≤ 62 by omega), hb]; try rfl) ?_)
      refine awp_if rfl (fun h => by cases h) (fun _ => ?_)
      refine awp_exit ?_
      simp only [Go.Abs.Seq, Go.Abs.Round, Go.Abs.InBlock, ↓reduceIte]
      first | refine awp_seq (awp_lit ?_) | refine awp_lit ?_ | refine awp_seq (awp_seq (awp_lit ?_))
      refine al_pureN 1 (by simp only [go_sem, ↓reduceIte, Nat.reduceLT, Nat.reduceEqDiff, Nat.reduceLeDiff, Nat.reduceAdd, Nat.reduceMul, Int.reduceLT, Int.reduceLE, Int.reduceToNat, BitVec.reduceOfInt, Nat.reduceBEq]; try rfl) ?_
      refine al_gives (vs := ?vs14) (v := ?v14) rfl ?ha14 ?hh14 (by kernel_rfl) rfl (by simp only [go_sem, ↓reduceIte, Nat.reduceLT, Nat.reduceEqDiff, Nat.reduceLeDiff, Nat.reduceAdd, Nat.reduceMul, Int.reduceLT, Int.reduceLE, Int.reduceToNat, BitVec.reduceOfInt, Nat.reduceBEq]) ?kk14
      case ha14 => simp only [go_sem, ↓reduceIte, Nat.reduceLT, Nat.reduceEqDiff, Nat.reduceLeDiff, Nat.reduceAdd, Nat.reduceMul, Int.reduceLT, Int.reduceLE, Int.reduceToNat, BitVec.reduceOfInt, Nat.reduceBEq]; try rfl
      case hh14 => exact tabB_gives h6 (fun k => t.getLsbD (setb k j val)) hown
      refine al_pureN 1 (by simp only [go_sem, ↓reduceIte, Nat.reduceLT, Nat.reduceEqDiff, Nat.reduceLeDiff, Nat.reduceAdd, Nat.reduceMul, Int.reduceLT, Int.reduceLE, Int.reduceToNat, BitVec.reduceOfInt, Nat.reduceBEq]; try rfl) ?_
      refine al_end [8] ?_
      exact awp_ret ⟨_, rfl, by rw [cof_ref t val h6 hj, cofR_lim]; rfl, hle⟩

theorem rFlip_gives (t : BitVec 64) (m i : Int) (N : Nat) (σ : AHeap) : Gives Try.prog 41 [.int .u64 t.toNat, .int .i64 m, .int .i64 i] N σ (.int .u64 (flipR t m i).toNat) := by
  refine gives_of rfl (aok_fresh fun hN => aok_body (n := 43) Try.func41 rfl rfl (by simp) ?_)
  have h6 := lim_le m
  have h64 := two_pow_lim m
  refine awp_seq (awp_pures [0, 1, 2] (by simp only [go_sem, ↓reduceIte, Nat.reduceLT, Nat.reduceEqDiff, Nat.reduceLeDiff, Nat.reduceAdd, Nat.reduceMul, Int.reduceLT, Int.reduceLE, Int.reduceToNat, BitVec.reduceOfInt, Nat.reduceBEq]; try rfl) ?_)
  first | refine awp_seq (awp_lit ?_) | refine awp_lit ?_ | refine awp_seq (awp_seq (awp_lit ?_))
  refine al_pureN 1 (by simp only [go_sem, ↓reduceIte, Nat.reduceLT, Nat.reduceEqDiff, Nat.reduceLeDiff, Nat.reduceAdd, Nat.reduceMul, Int.reduceLT, Int.reduceLE, Int.reduceToNat, BitVec.reduceOfInt, Nat.reduceBEq]; try rfl) ?_
  refine al_gives (vs := ?vs15) (v := ?v15) rfl ?ha15 ?hh15 (by kernel_rfl) rfl (by simp only [go_sem, ↓reduceIte, Nat.reduceLT, Nat.reduceEqDiff, Nat.reduceLeDiff, Nat.reduceAdd, Nat.reduceMul, Int.reduceLT, Int.reduceLE, Int.reduceToNat, BitVec.reduceOfInt, Nat.reduceBEq]) ?kk15
  case ha15 => simp only [go_sem, ↓reduceIte, Nat.reduceLT, Nat.reduceEqDiff, Nat.reduceLeDiff, Nat.reduceAdd, Nat.reduceMul, Int.reduceLT, Int.reduceLE, Int.reduceToNat, BitVec.reduceOfInt, Nat.reduceBEq]; try rfl
  case hh15 => exact vars_gives _ _ _
  refine al_pureN 1 (by simp only [go_sem, ↓reduceIte, Nat.reduceLT, Nat.reduceEqDiff, Nat.reduceLeDiff, Nat.reduceAdd, Nat.reduceMul, Int.reduceLT, Int.reduceLE, Int.reduceToNat, BitVec.reduceOfInt, Nat.reduceBEq]; try rfl) ?_
  refine al_end [0, 1, 2] ?_
  refine awp_seq ?_
  by_cases hi0 : i < 0 ∨ (lim m : Int) ≤ i
  · have hc : decide (i < 0) = true ∨ (decide (i < 0) = false ∧ decide ((lim m : Int) ≤ i) = true) := by
      by_cases h : i < 0
      · exact .inl (decide_eq_true h)
      · exact .inr ⟨decide_eq_false h, decide_eq_true (by omega)⟩
    rcases hc with c0 | ⟨c0, c1⟩
    · refine awp_seq (awp_pures [0, 1, 2, 17] (by simp only [go_sem, ↓reduceIte, Nat.reduceLT, Nat.reduceEqDiff, Nat.reduceLeDiff, Nat.reduceAdd, Nat.reduceMul, Int.reduceLT, Int.reduceLE, Int.reduceToNat, BitVec.reduceOfInt, Nat.reduceBEq, c0, ge_iff_le]; try rfl) ?_)
      refine awp_if rfl (fun _ => ?_) (fun h => by cases h)
      first | refine awp_seq (awp_lit ?_) | refine awp_lit ?_ | refine awp_seq (awp_seq (awp_lit ?_))
      refine al_pureN 2 (by simp only [go_sem, ↓reduceIte, Nat.reduceLT, Nat.reduceEqDiff, Nat.reduceLeDiff, Nat.reduceAdd, Nat.reduceMul, Int.reduceLT, Int.reduceLE, Int.reduceToNat, BitVec.reduceOfInt, Nat.reduceBEq]; try rfl) ?_
      refine al_gives (vs := ?vs16) (v := ?v16) rfl ?ha16 ?hh16 (by kernel_rfl) rfl (by simp only [go_sem, ↓reduceIte, Nat.reduceLT, Nat.reduceEqDiff, Nat.reduceLeDiff, Nat.reduceAdd, Nat.reduceMul, Int.reduceLT, Int.reduceLE, Int.reduceToNat, BitVec.reduceOfInt, Nat.reduceBEq]) ?kk16
      case ha16 => simp only [go_sem, ↓reduceIte, Nat.reduceLT, Nat.reduceEqDiff, Nat.reduceLeDiff, Nat.reduceAdd, Nat.reduceMul, Int.reduceLT, Int.reduceLE, Int.reduceToNat, BitVec.reduceOfInt, Nat.reduceBEq]; try rfl
      case hh16 => exact rMask_gives _ _ _
      refine al_pureN 2 (by simp only [go_sem, ↓reduceIte, Nat.reduceLT, Nat.reduceEqDiff, Nat.reduceLeDiff, Nat.reduceAdd, Nat.reduceMul, Int.reduceLT, Int.reduceLE, Int.reduceToNat, BitVec.reduceOfInt, Nat.reduceBEq]; try rfl) ?_
      refine al_end [6] ?_
      exact awp_ret ⟨_, rfl, by simp only [flipR, if_pos hi0, lim_lim, ofInt_toNat]; rfl, AHeap.le_refl _⟩
    · refine awp_seq (awp_pures [0, 1, 2, 17] (by simp only [go_sem, ↓reduceIte, Nat.reduceLT, Nat.reduceEqDiff, Nat.reduceLeDiff, Nat.reduceAdd, Nat.reduceMul, Int.reduceLT, Int.reduceLE, Int.reduceToNat, BitVec.reduceOfInt, Nat.reduceBEq, c0, c1, ge_iff_le]; try rfl) ?_)
      refine awp_if rfl (fun _ => ?_) (fun h => by cases h)
      first | refine awp_seq (awp_lit ?_) | refine awp_lit ?_ | refine awp_seq (awp_seq (awp_lit ?_))
      refine al_pureN 2 (by simp only [go_sem, ↓reduceIte, Nat.reduceLT, Nat.reduceEqDiff, Nat.reduceLeDiff, Nat.reduceAdd, Nat.reduceMul, Int.reduceLT, Int.reduceLE, Int.reduceToNat, BitVec.reduceOfInt, Nat.reduceBEq]; try rfl) ?_
      refine al_gives (vs := ?vs17) (v := ?v17) rfl ?ha17 ?hh17 (by kernel_rfl) rfl (by simp only [go_sem, ↓reduceIte, Nat.reduceLT, Nat.reduceEqDiff, Nat.reduceLeDiff, Nat.reduceAdd, Nat.reduceMul, Int.reduceLT, Int.reduceLE, Int.reduceToNat, BitVec.reduceOfInt, Nat.reduceBEq]) ?kk17
      case ha17 => simp only [go_sem, ↓reduceIte, Nat.reduceLT, Nat.reduceEqDiff, Nat.reduceLeDiff, Nat.reduceAdd, Nat.reduceMul, Int.reduceLT, Int.reduceLE, Int.reduceToNat, BitVec.reduceOfInt, Nat.reduceBEq]; try rfl
      case hh17 => exact rMask_gives _ _ _
      refine al_pureN 2 (by simp only [go_sem, ↓reduceIte, Nat.reduceLT, Nat.reduceEqDiff, Nat.reduceLeDiff, Nat.reduceAdd, Nat.reduceMul, Int.reduceLT, Int.reduceLE, Int.reduceToNat, BitVec.reduceOfInt, Nat.reduceBEq]; try rfl) ?_
      refine al_end [6] ?_
      exact awp_ret ⟨_, rfl, by simp only [flipR, if_pos hi0, lim_lim, ofInt_toNat]; rfl, AHeap.le_refl _⟩
  · have c0 : decide (i < 0) = false := decide_eq_false (by omega)
    have c1 : decide ((lim m : Int) ≤ i) = false := decide_eq_false (by omega)
    obtain ⟨j, rfl⟩ : ∃ j : Nat, i = j := ⟨i.toNat, by omega⟩
    have hj : j < lim m := by omega
    refine awp_seq (awp_pures [0, 1, 2, 17] (by simp only [go_sem, ↓reduceIte, Nat.reduceLT, Nat.reduceEqDiff, Nat.reduceLeDiff, Nat.reduceAdd, Nat.reduceMul, Int.reduceLT, Int.reduceLE, Int.reduceToNat, BitVec.reduceOfInt, Nat.reduceBEq, c0, c1, ge_iff_le]; try rfl) ?_)
    refine awp_if rfl (fun h => by cases h) (fun _ => ?_)
    refine awp_skip ?_
    refine awp_seq (awp_pures [0, 1, 2, 7] (by simp only [go_sem, ↓reduceIte, Nat.reduceLT, Nat.reduceEqDiff, Nat.reduceLeDiff, Nat.reduceAdd, Nat.reduceMul, Int.reduceLT, Int.reduceLE, Int.reduceToNat, BitVec.reduceOfInt, Nat.reduceBEq]; try rfl) ?_)
    refine awp_seq ?_
    refine awp_seq (awp_pures [0, 1, 2, 7, 8] (by simp only [go_sem, ↓reduceIte, Nat.reduceLT, Nat.reduceEqDiff, Nat.reduceLeDiff, Nat.reduceAdd, Nat.reduceMul, Int.reduceLT, Int.reduceLE, Int.reduceToNat, BitVec.reduceOfInt, Nat.reduceBEq]; try rfl) ?_)
    refine awp_block (awp_loop ?_)
    refine ALoop.cast3 (aloop_ind (α := Nat × Value × Nat × AHeap)
      (fun x => x.1 ≤ 2 ^ lim m ∧ N ≤ x.2.2.1 ∧ OwnAt x.2.2.2 N x.2.1 (bools ((List.range x.1).map fun k => t.getLsbD (setb k j (!k.testBit j)))) x.1 1 ∧ σ.le x.2.2.2) (fun x => 2 ^ lim m - x.1)
      (fun x => [(0, .int .u64 t.toNat), (1, .int .i64 (lim m : Nat)), (2, .int .i64 j), (7, x.2.1), (8, .int .i64 x.1)]) (fun x => x.2.2.1) (fun x => x.2.2.2) ?_
      (0, .slice none 0 0, N, σ) ⟨by simp, by simp, OwnAt.nil, AHeap.le_refl _⟩) rfl rfl rfl
    rintro ⟨k, sv, Nk, σk⟩ ⟨hk, hNk, hown, hle⟩ ih
    simp only at hk hNk hown hle ⊢
    have hw := u64_wrap_nat (show lim m < 18446744073709551616 by omega)
    by_cases hlt : k < 2 ^ lim m
    · have hb : decide ((k : Int) < ((2 ^ lim m : Nat) : Int)) = true := decide_eq_true (Int.ofNat_lt.2 hlt)
      have hj1 : -9223372036854775808 ≤ (k : Int) + 1 ∧ (k : Int) + 1 ≤ 9223372036854775807 := by omega
      refine awp_seq ?_
      refine awp_seq (awp_pures [0, 1, 2, 7, 8, 26] (by simp only [go_sem, ↓reduceIte, Nat.reduceLT, Nat.reduceEqDiff, Nat.reduceLeDiff, Nat.reduceAdd, Nat.reduceMul, Int.reduceLT, Int.reduceLE, Int.reduceToNat, BitVec.reduceOfInt, Nat.reduceBEq, hw, i64_shl_one (show lim m ≤ 62 by omega), hb]; try rfl) ?_)
      refine awp_if rfl (fun _ => ?_) (fun h => by cases h)
      refine awp_skip ?_
      refine awp_seq (awp_block ?_)
      refine awp_lit ?_
      refine al_pureN 5 (by simp only [go_sem, ↓reduceIte, Nat.reduceLT, Nat.reduceEqDiff, Nat.reduceLeDiff, Nat.reduceAdd, Nat.reduceMul, Int.reduceLT, Int.reduceLE, Int.reduceToNat, BitVec.reduceOfInt, Nat.reduceBEq]; try rfl) ?_
      refine al_pureN 1 (by simp only [go_sem, ↓reduceIte, Nat.reduceLT, Nat.reduceEqDiff, Nat.reduceLeDiff, Nat.reduceAdd, Nat.reduceMul, Int.reduceLT, Int.reduceLE, Int.reduceToNat, BitVec.reduceOfInt, Nat.reduceBEq]; try rfl) ?_
      refine al_gives (vs := ?vs18) (v := ?v18) rfl ?ha18 ?hh18 (by kernel_rfl) rfl (by simp only [go_sem, ↓reduceIte, Nat.reduceLT, Nat.reduceEqDiff, Nat.reduceLeDiff, Nat.reduceAdd, Nat.reduceMul, Int.reduceLT, Int.reduceLE, Int.reduceToNat, BitVec.reduceOfInt, Nat.reduceBEq]) ?kk18
      case ha18 => simp only [go_sem, ↓reduceIte, Nat.reduceLT, Nat.reduceEqDiff, Nat.reduceLeDiff, Nat.reduceAdd, Nat.reduceMul, Int.reduceLT, Int.reduceLE, Int.reduceToNat, BitVec.reduceOfInt, Nat.reduceBEq]; try rfl
      case hh18 => exact bit_gives k j (by omega) (by omega) _ _
      refine al_pureN 1 (by simp only [go_sem, ↓reduceIte, Nat.reduceLT, Nat.reduceEqDiff, Nat.reduceLeDiff, Nat.reduceAdd, Nat.reduceMul, Int.reduceLT, Int.reduceLE, Int.reduceToNat, BitVec.reduceOfInt, Nat.reduceBEq]; try rfl) ?_
      have hset : setb k j (!k.testBit j) ≤ 9223372036854775807 := by
        have := setb_lt (!k.testBit j) hlt hj
        omega
      refine al_gives (vs := ?vs19) (v := ?v19) rfl ?ha19 ?hh19 (by kernel_rfl) rfl (by simp only [go_sem, ↓reduceIte, Nat.reduceLT, Nat.reduceEqDiff, Nat.reduceLeDiff, Nat.reduceAdd, Nat.reduceMul, Int.reduceLT, Int.reduceLE, Int.reduceToNat, BitVec.reduceOfInt, Nat.reduceBEq]) ?kk19
      case ha19 => simp only [go_sem, ↓reduceIte, Nat.reduceLT, Nat.reduceEqDiff, Nat.reduceLeDiff, Nat.reduceAdd, Nat.reduceMul, Int.reduceLT, Int.reduceLE, Int.reduceToNat, BitVec.reduceOfInt, Nat.reduceBEq]; try rfl
      case hh19 => exact set_gives k j (!k.testBit j) (by omega) (by omega) _ _
      refine al_gives (vs := ?vs20) (v := ?v20) rfl ?ha20 ?hh20 (by kernel_rfl) rfl (by simp only [go_sem, ↓reduceIte, Nat.reduceLT, Nat.reduceEqDiff, Nat.reduceLeDiff, Nat.reduceAdd, Nat.reduceMul, Int.reduceLT, Int.reduceLE, Int.reduceToNat, BitVec.reduceOfInt, Nat.reduceBEq]) ?kk20
      case ha20 => simp only [go_sem, ↓reduceIte, Nat.reduceLT, Nat.reduceEqDiff, Nat.reduceLeDiff, Nat.reduceAdd, Nat.reduceMul, Int.reduceLT, Int.reduceLE, Int.reduceToNat, BitVec.reduceOfInt, Nat.reduceBEq]; try rfl
      case hh20 => exact rEval_gives _ _ _ _
      rw [evT_nat]
      refine al_push rfl rfl rfl (by simp only [go_sem, ↓reduceIte, Nat.reduceLT, Nat.reduceEqDiff, Nat.reduceLeDiff, Nat.reduceAdd, Nat.reduceMul, Int.reduceLT, Int.reduceLE, Int.reduceToNat, BitVec.reduceOfInt, Nat.reduceBEq]; try rfl) (by simp only [go_sem, ↓reduceIte, Nat.reduceLT, Nat.reduceEqDiff, Nat.reduceLeDiff, Nat.reduceAdd, Nat.reduceMul, Int.reduceLT, Int.reduceLE, Int.reduceToNat, BitVec.reduceOfInt, Nat.reduceBEq]; try rfl) rfl rfl Try.underlying72 ty4 rfl rfl rfl (by simp only [go_sem, ↓reduceIte, Nat.reduceLT, Nat.reduceEqDiff, Nat.reduceLeDiff, Nat.reduceAdd, Nat.reduceMul, Int.reduceLT, Int.reduceLE, Int.reduceToNat, BitVec.reduceOfInt, Nat.reduceBEq]; try rfl) (by simp only [go_sem, ↓reduceIte, Nat.reduceLT, Nat.reduceEqDiff, Nat.reduceLeDiff, Nat.reduceAdd, Nat.reduceMul, Int.reduceLT, Int.reduceLE, Int.reduceToNat, BitVec.reduceOfInt, Nat.reduceBEq]; try rfl) rfl rfl hown (by omega) (by omega) (by omega) ?_
      intro N' σ' v' hN' hown' hkeep
      refine al_pureN 1 (by simp only [go_sem, ↓reduceIte, Nat.reduceLT, Nat.reduceEqDiff, Nat.reduceLeDiff, Nat.reduceAdd, Nat.reduceMul, Int.reduceLT, Int.reduceLE, Int.reduceToNat, BitVec.reduceOfInt, Nat.reduceBEq]; try rfl) ?_
      refine al_end [0, 1, 2, 7, 8] ?_
      refine awp_pures [0, 1, 2, 7, 8] (by simp only [go_sem, ↓reduceIte, Nat.reduceLT, Nat.reduceEqDiff, Nat.reduceLeDiff, Nat.reduceAdd, Nat.reduceMul, Int.reduceLT, Int.reduceLE, Int.reduceToNat, BitVec.reduceOfInt, Nat.reduceBEq, i64_add hj1]; try rfl) ?_
      refine (ih (k + 1, v', N', σ') ⟨hlt, by simp; omega, by rw [range_bools (fun k => t.getLsbD (setb k j (!k.testBit j)))] at hown'; exact hown', hkeep σ hle hN⟩ (by simp; omega)).cast (by first | (simp only [go_sem, ↓reduceIte, Nat.reduceLT, Nat.reduceEqDiff, Nat.reduceLeDiff, Nat.reduceAdd, Nat.reduceMul, Int.reduceLT, Int.reduceLE, Int.reduceToNat, BitVec.reduceOfInt, Nat.reduceBEq]; try rfl) | rfl)
    · have hb : decide ((k : Int) < ((2 ^ lim m : Nat) : Int)) = false := decide_eq_false fun h => hlt (Int.ofNat_lt.1 h)
      have hkl : k = 2 ^ lim m := by omega
      subst hkl
      refine awp_seq ?_
      refine awp_seq (awp_pures [0, 1, 2, 7, 8, 26] (by simp only [go_sem, ↓reduceIte, Nat.reduceLT, Nat.reduceEqDiff, Nat.reduceLeDiff, Nat.reduceAdd, Nat.reduceMul, Int.reduceLT, Int.reduceLE, Int.reduceToNat, BitVec.reduceOfInt, Nat.reduceBEq, hw, i64_shl_one (show lim m ≤ 62 by omega), hb]; try rfl) ?_)
      refine awp_if rfl (fun h => by cases h) (fun _ => ?_)
      refine awp_exit ?_
      simp only [Go.Abs.Seq, Go.Abs.Round, Go.Abs.InBlock, ↓reduceIte]
      first | refine awp_seq (awp_lit ?_) | refine awp_lit ?_ | refine awp_seq (awp_seq (awp_lit ?_))
      refine al_pureN 1 (by simp only [go_sem, ↓reduceIte, Nat.reduceLT, Nat.reduceEqDiff, Nat.reduceLeDiff, Nat.reduceAdd, Nat.reduceMul, Int.reduceLT, Int.reduceLE, Int.reduceToNat, BitVec.reduceOfInt, Nat.reduceBEq]; try rfl) ?_
      refine al_gives (vs := ?vs21) (v := ?v21) rfl ?ha21 ?hh21 (by kernel_rfl) rfl (by simp only [go_sem, ↓reduceIte, Nat.reduceLT, Nat.reduceEqDiff, Nat.reduceLeDiff, Nat.reduceAdd, Nat.reduceMul, Int.reduceLT, Int.reduceLE, Int.reduceToNat, BitVec.reduceOfInt, Nat.reduceBEq]) ?kk21
      case ha21 => simp only [go_sem, ↓reduceIte, Nat.reduceLT, Nat.reduceEqDiff, Nat.reduceLeDiff, Nat.reduceAdd, Nat.reduceMul, Int.reduceLT, Int.reduceLE, Int.reduceToNat, BitVec.reduceOfInt, Nat.reduceBEq]; try rfl
      case hh21 => exact tabB_gives h6 (fun k => t.getLsbD (setb k j (!k.testBit j))) hown
      refine al_pureN 1 (by simp only [go_sem, ↓reduceIte, Nat.reduceLT, Nat.reduceEqDiff, Nat.reduceLeDiff, Nat.reduceAdd, Nat.reduceMul, Int.reduceLT, Int.reduceLE, Int.reduceToNat, BitVec.reduceOfInt, Nat.reduceBEq]; try rfl) ?_
      refine al_end [6] ?_
      exact awp_ret ⟨_, rfl, by rw [flip_ref t h6 hj, flipR_lim]; rfl, hle⟩
end Go.Proofs.Ytbpjoamdcbbnnaa
