/- The walk of the law TableComposes. -/
import Derived.Test.YtbpjoamdcbbnnaaTabR5
set_option linter.unusedSimpArgs false
set_option linter.unusedVariables false
namespace Go.Proofs.Ytbpjoamdcbbnnaa
open Go.Abs Go.Tab
attribute [local go_sem] eqA Try.underlying22 Try.underlying3 Try.underlying77 Try.underlying52 Try.underlying23 Try.underlying25 Try.underlying5 Try.underlying4 Try.underlying36 Try.underlying39 Try.underlying41 Try.underlying72 Try.underlying49 Try.underlying26 size22 size3 size23 size5 size4 size39 Nat.mul_one bne_self_eq_false Try.underlying33

def argsB (A : List (BitVec 64)) (b a : Nat) : List (BitVec 64) := (List.range a).map fun i => A.getD i 0#64 &&& maskT b
def varsB (n a : Nat) : List (BitVec 64) := (List.range a).map fun (i : Nat) => varR (i : Int) (n : Int)
theorem argsB_succ (A : List (BitVec 64)) (b a : Nat) : u64s (argsB A b a) ++ [.int .u64 (A.getD a 0#64 &&& maskT b).toNat] = u64s (argsB A b (a + 1)) := by simp [argsB, u64s, List.range_succ]
theorem varsB_succ (n a : Nat) : u64s (varsB n a) ++ [.int .u64 (varR (a : Int) (n : Int)).toNat] = u64s (varsB n (a + 1)) := by simp [varsB, u64s, List.range_succ]
theorem argsB_get (A : List (BitVec 64)) (b : Nat) {a i : Nat} (h : i < a) : (argsB A b a).getD i 0#64 = A.getD i 0#64 &&& maskT b := by simp [argsB, h]
theorem varsB_get (n : Nat) {a i : Nat} (h : i < a) : (varsB n a).getD i 0#64 = varR (i : Int) (n : Int) := by simp [varsB, h]
theorem compX_congr (k : Nat) (l l' : List (BitVec 64)) : ∀ n, (∀ i, i < n → l.getD i 0#64 = l'.getD i 0#64) → compX k l n = compX k l' n
  | 0, _ => rfl
  | n + 1, h => by rw [compX, compX, compX_congr k l l' n fun i hi => h i (by omega), h n (by omega)]
theorem u64s_flat (l : List (BitVec 64)) : (u64s l).all flat = true := by simp [u64s, flat, flat0]
theorem comp_vars {t : BitVec 64} {n : Nat} (hn : n ≤ 6) (ht : Tab n t) : compGo t (varsB n n) (maskT n) (2 ^ n) 0 0#64 = t := by
  refine eq_of_bits (fun k hk => by rw [comp_bit t hn (by simp [varsB]), Bool.and_eq_true] at hk; simpa using hk.1) ht fun k hk => ?_
  rw [comp_bit t hn (by simp [varsB]), decide_eq_true hk, Bool.true_and]
  congr 1
  apply Nat.eq_of_testBit_eq
  intro i
  rw [compX_bit]
  by_cases hi : i < n
  · rw [varsB_get n hi, varR_bit hn hi, decide_eq_true hi, decide_eq_true hk]; rfl
  · rw [decide_eq_false hi, Nat.testBit_lt_two_pow (Nat.lt_of_lt_of_le hk (Nat.pow_le_pow_right (by omega) (by omega)))]; rfl
theorem validT_of {t : BitVec 64} {n : Nat} (hn : n ≤ 6) (ht : Tab n t) : validT t (n : Int) = true := validT_iff.2 ⟨n, rfl, hn, ht⟩
theorem comp_ok {t : BitVec 64} {n m : Nat} {l : List (BitVec 64)} (hn : n ≤ 6) (hm : m ≤ 6) (ht : Tab n t) (hl : l.length = n) (hv : ∀ x ∈ l, Tab m x) :
    ComposeR t (n : Int) l (m : Int) = (compGo t l (maskT m) (2 ^ n) 0 0#64, 0) := by
  have h1 := validT_of hn ht
  have h2 : validT 0#64 (m : Int) = true := validT_of hm fun k hk => by simp at hk
  have h3 : (l.any fun a => !validT a (m : Int)) = false := List.any_eq_false.2 fun x hx => by rw [validT_of hm (hv x hx)]; simp
  have h4 : (l.length : Int) = (n : Int) := by rw [hl]
  simp only [ComposeR, h1, Bool.true_eq_false, if_false, h4, ne_eq, not_true_eq_false, h2, h3, Bool.false_eq_true, or_self, Int.toNat_natCast, lim_of hm]

theorem Composes_gives (t : BitVec 64) (p q : Nat) (hp : p < 256) (hq : q < 256) (A : List (BitVec 64)) (hA : A.length = 6) (r : Nat) (hr : r < 256) (N : Nat) (σ : AHeap) :
    Gives Try.prog 6 [.int .u64 t.toNat, .int .u8 p, .int .u8 q, .agg (u64s A).toArray, .int .u8 r] N σ (.bool true) := by
  refine gives_of rfl (aok_fresh fun hN => aok_body (n := 105) Try.func6 rfl rfl (by simp) ?_)
  have hle : σ.le (σ.set N ⟨u64s A, true, 1⟩) := AHeap.le_set (AHeap.le_refl _) fun i b hb => Nat.ne_of_lt (hN i b hb)
  have hg : (σ.set N ⟨u64s A, true, 1⟩) N = some ⟨u64s A, true, 1⟩ := AHeap.set_self _ _ _
  have hlt1 : ∀ i b, (σ.set N ⟨u64s A, true, 1⟩) i = some b → i < N + 1 := fun i b hb => by
    unfold AHeap.set at hb
    split at hb
    · omega
    · have := hN i b hb; omega
  first | refine awp_seq (awp_lit ?_) | refine awp_lit ?_ | refine awp_seq (awp_seq (awp_lit ?_))
  refine al_box 1 rfl rfl rfl rfl ?_
  change AList _ _ _ _ _ _ (σ.set N ⟨u64s A, true, 1⟩) _
  generalize σ.set N ⟨u64s A, true, 1⟩ = σ1 at hle hg hlt1 ⊢
  refine al_pureN 1 (by simp only [go_sem, ↓reduceIte, Nat.reduceLT, Nat.reduceEqDiff, Nat.reduceLeDiff, Nat.reduceAdd, Nat.reduceMul, Int.reduceLT, Int.reduceLE, Int.reduceToNat, BitVec.reduceOfInt, Nat.reduceBEq]; try rfl) ?_
  refine al_end [0, 1, 2, 4, 8] ?_
  refine awp_seq ?_
  first | refine awp_seq (awp_lit ?_) | refine awp_lit ?_ | refine awp_seq (awp_seq (awp_lit ?_))
  refine al_gives (vs := ?vs1) (v := ?v1) rfl ?ha1 ?hh1 (by kernel_rfl) rfl (by simp only [go_sem, ↓reduceIte, Nat.reduceLT, Nat.reduceEqDiff, Nat.reduceLeDiff, Nat.reduceAdd, Nat.reduceMul, Int.reduceLT, Int.reduceLE, Int.reduceToNat, BitVec.reduceOfInt, Nat.reduceBEq]) ?kk1
  case ha1 => simp only [go_sem, ↓reduceIte, Nat.reduceLT, Nat.reduceEqDiff, Nat.reduceLeDiff, Nat.reduceAdd, Nat.reduceMul, Int.reduceLT, Int.reduceLE, Int.reduceToNat, BitVec.reduceOfInt, Nat.reduceBEq]; try rfl
  case hh1 => exact awake_gives _ _
  refine al_pureN 1 (by simp only [go_sem, ↓reduceIte, Nat.reduceLT, Nat.reduceEqDiff, Nat.reduceLeDiff, Nat.reduceAdd, Nat.reduceMul, Int.reduceLT, Int.reduceLE, Int.reduceToNat, BitVec.reduceOfInt, Nat.reduceBEq]; try rfl) ?_
  refine al_end [0, 1, 2, 4, 8, 23] ?_
  refine awp_if rfl (fun h => by cases h) (fun _ => ?_)
  refine awp_skip ?_
  obtain ⟨a, ha⟩ : ∃ a, a = p % 7 := ⟨_, rfl⟩
  obtain ⟨b, hb⟩ : ∃ b, b = q % 7 := ⟨_, rfl⟩
  have ha6 : a ≤ 6 := by have := Nat.mod_lt p (show 7 > 0 by omega); omega
  have hb6 : b ≤ 6 := by have := Nat.mod_lt q (show 7 > 0 by omega); omega
  have hra : intA .rem .u8 (p : Int) 7 = some (.int .u8 (a : Nat)) := by rw [rem_lit7, ha]
  have hrb : intA .rem .u8 (q : Int) 7 = some (.int .u8 (b : Nat)) := by rw [rem_lit7, hb]
  have hwa : IntKind.i64.wrap (a : Int) = (a : Int) := i64_wrap_nat (by omega)
  have hwb : IntKind.i64.wrap (b : Int) = (b : Int) := i64_wrap_nat (by omega)
  refine awp_seq (awp_pures [0, 4, 8, 11, 12] (by simp only [go_sem, ↓reduceIte, Nat.reduceLT, Nat.reduceEqDiff, Nat.reduceLeDiff, Nat.reduceAdd, Nat.reduceMul, Int.reduceLT, Int.reduceLE, Int.reduceToNat, BitVec.reduceOfInt, Nat.reduceBEq, hra, hrb, hwa, hwb]; try rfl) ?_)
  first | refine awp_seq (awp_lit ?_) | refine awp_lit ?_ | refine awp_seq (awp_seq (awp_lit ?_))
  refine al_pureN 2 (by simp only [go_sem, ↓reduceIte, Nat.reduceLT, Nat.reduceEqDiff, Nat.reduceLeDiff, Nat.reduceAdd, Nat.reduceMul, Int.reduceLT, Int.reduceLE, Int.reduceToNat, BitVec.reduceOfInt, Nat.reduceBEq]; try rfl) ?_
  refine al_gives (vs := ?vs2) (v := ?v2) rfl ?ha2 ?hh2 (by kernel_rfl) rfl (by simp only [go_sem, ↓reduceIte, Nat.reduceLT, Nat.reduceEqDiff, Nat.reduceLeDiff, Nat.reduceAdd, Nat.reduceMul, Int.reduceLT, Int.reduceLE, Int.reduceToNat, BitVec.reduceOfInt, Nat.reduceBEq]) ?kk2
  case ha2 => simp only [go_sem, ↓reduceIte, Nat.reduceLT, Nat.reduceEqDiff, Nat.reduceLeDiff, Nat.reduceAdd, Nat.reduceMul, Int.reduceLT, Int.reduceLE, Int.reduceToNat, BitVec.reduceOfInt, Nat.reduceBEq]; try rfl
  case hh2 => exact Mask_gives _ _ _
  refine al_pureN 2 (by simp only [go_sem, ↓reduceIte, Nat.reduceLT, Nat.reduceEqDiff, Nat.reduceLeDiff, Nat.reduceAdd, Nat.reduceMul, Int.reduceLT, Int.reduceLE, Int.reduceToNat, BitVec.reduceOfInt, Nat.reduceBEq]; try rfl) ?_
  refine al_end [0, 4, 8, 11, 12] ?_
  rw [lim_of ha6]
  have ht := tab_and ha6 t
  generalize t &&& maskT a = t at ht ⊢
  refine awp_seq (awp_pures [0, 4, 8, 11, 12, 13, 14] (by simp only [go_sem, ↓reduceIte, Nat.reduceLT, Nat.reduceEqDiff, Nat.reduceLeDiff, Nat.reduceAdd, Nat.reduceMul, Int.reduceLT, Int.reduceLE, Int.reduceToNat, BitVec.reduceOfInt, Nat.reduceBEq]; try rfl) ?_)
  have hw : IntKind.i64.wrap (r : Int) = (r : Int) := i64_wrap_nat (by omega)
  obtain ⟨c, hc⟩ : ∃ c, c = r % 2 ^ b := ⟨_, rfl⟩
  have hcb : c < 2 ^ b := by rw [hc]; exact Nat.mod_lt _ (Nat.two_pow_pos b)
  have h2b := two_pow_le6 hb6
  have h2a := two_pow_le6 ha6
  have hrc : intA .rem .i64 (r : Int) ((2 ^ b : Nat) : Int) = some (.int .i64 (c : Nat)) := by rw [rem_nat (Nat.two_pow_pos b), hc]
  refine awp_seq (awp_quiet [0, 8, 11, 12, 13, 14, 15, 16] (by kernel_rfl) (by kernel_rfl) ?_)
  refine aq_pureN 7 (by simp only [go_sem, ↓reduceIte, Nat.reduceLT, Nat.reduceEqDiff, Nat.reduceLeDiff, Nat.reduceAdd, Nat.reduceMul, Int.reduceLT, Int.reduceLE, Int.reduceToNat, BitVec.reduceOfInt, Nat.reduceBEq, hw, i64_shl_one (show b ≤ 62 by omega), hrc]; try rfl) ?_
  refine aq_nil ?_
  refine awp_seq ?_
  refine awp_seq (awp_pures [0, 8, 11, 12, 13, 14, 15, 16, 17] (by simp only [go_sem, ↓reduceIte, Nat.reduceLT, Nat.reduceEqDiff, Nat.reduceLeDiff, Nat.reduceAdd, Nat.reduceMul, Int.reduceLT, Int.reduceLE, Int.reduceToNat, BitVec.reduceOfInt, Nat.reduceBEq]; try rfl) ?_)
  refine awp_block (awp_loop ?_)
  refine ALoop.cast3 (aloop_ind (α := Nat × Value × Value × Nat × AHeap)
    (fun x => x.1 ≤ a ∧ N + 1 ≤ x.2.2.2.1 ∧ OwnAt x.2.2.2.2 (N + 1) x.2.1 (u64s (argsB A b x.1)) x.1 1 ∧ OwnAt x.2.2.2.2 (N + 1) x.2.2.1 (u64s (varsB a x.1)) x.1 1 ∧ (∀ j, rootOf x.2.1 j → ¬ rootOf x.2.2.1 j) ∧ σ1.le x.2.2.2.2) (fun x => a - x.1)
    (fun x => [(0, .int .u64 t.toNat), (8, .pointer (some ⟨N, 0, none⟩)), (11, .int .i64 a), (12, .int .i64 b), (13, x.2.1), (14, x.2.2.1), (15, .int .i64 (compX c (argsB A b a) x.1)), (16, .int .i64 c), (17, .int .i64 x.1)]) (fun x => x.2.2.2.1) (fun x => x.2.2.2.2) ?_
    (0, .slice none 0 0, .slice none 0 0, N + 1, σ1) ⟨by simp, by simp, OwnAt.nil, OwnAt.nil, (fun j ⟨_, _, _, h⟩ => by cases h), AHeap.le_refl _⟩) rfl rfl rfl
  rintro ⟨i, lv, ov, Nk, σk⟩ ⟨hi, hNk, hown1, hown2, hdis, hlek⟩ ih
  simp only at hi hNk hown1 hown2 hdis hlek ⊢
  by_cases hlt : i < a
  · have hbl : decide ((i : Int) < (a : Int)) = true := decide_eq_true (by omega)
    have hj1 : -9223372036854775808 ≤ (i : Int) + 1 ∧ (i : Int) + 1 ≤ 9223372036854775807 := by omega
    refine awp_seq ?_
    refine awp_seq (awp_pures [0, 8, 11, 12, 13, 14, 15, 16, 17, 41] (by simp only [go_sem, ↓reduceIte, Nat.reduceLT, Nat.reduceEqDiff, Nat.reduceLeDiff, Nat.reduceAdd, Nat.reduceMul, Int.reduceLT, Int.reduceLE, Int.reduceToNat, BitVec.reduceOfInt, Nat.reduceBEq, hbl]; try rfl) ?_)
    refine awp_if rfl (fun _ => ?_) (fun h => by cases h)
    refine awp_skip ?_
    refine awp_seq (awp_block ?_)
    refine awp_fresh fun hNσ => ?_
    have hroot1 : ∀ j, rootOf lv j → j < Nk ∧ (rootOf lv j ∨ rootOf ov j) := fun j hj => by
      obtain ⟨_, b, hb⟩ := rootOf_own hown1 hj
      exact ⟨hNσ j b hb, .inl hj⟩
    have hroot2 : ∀ j, rootOf ov j → j < Nk ∧ (rootOf lv j ∨ rootOf ov j) := fun j hj => by
      obtain ⟨_, b, hb⟩ := rootOf_own hown2 hj
      exact ⟨hNσ j b hb, .inr hj⟩
    have hNold : Old Nk (fun j => rootOf lv j ∨ rootOf ov j) N := ⟨by omega, fun hj => by
      rcases hj with hj | hj
      · have := (rootOf_own hown1 hj).1; omega
      · have := (rootOf_own hown2 hj).1; omega⟩
    have hgk := hlek _ _ hg
    have hii : 0 ≤ (i : Int) ∧ (i : Int) < (6 : Nat) := by omega
    have e3 : (u64s A)[0 + i]? = some (.int .u64 (A.getD i 0#64).toNat) := by
      rw [Nat.zero_add, List.getD_eq_getElem?_getD]
      have : i < A.length := by omega
      simp [u64s, this]
    refine awp_seq (awp_tbk [0, 8, 11, 12, 13, 14, 15, 16, 17] (fun j => rootOf lv j ∨ rootOf ov j) [8, 14] (fun k => Nk + cntN [7, 8, 13, 14] k) (by kernel_rfl) rfl ?_)
    refine tb_pures 3 0 (by simp only [go_sem, ↓reduceIte, Nat.reduceLT, Nat.reduceEqDiff, Nat.reduceLeDiff, Nat.reduceAdd, Nat.reduceMul, Int.reduceLT, Int.reduceLE, Int.reduceToNat, BitVec.reduceOfInt, Nat.reduceBEq, hii]; try rfl) (fun j hj => congrArg (Nk + ·) ((by decide : ∀ j, j < 3 → cntN [7, 8, 13, 14] (0 + j + 1) = cntN [7, 8, 13, 14] (0 + j)) j hj)) ?_
    refine tb_load (i := 3) rfl (by simp only [go_sem, ↓reduceIte, Nat.reduceLT, Nat.reduceEqDiff, Nat.reduceLeDiff, Nat.reduceAdd, Nat.reduceMul, Int.reduceLT, Int.reduceLE, Int.reduceToNat, BitVec.reduceOfInt, Nat.reduceBEq]) rfl (by simp only [go_sem, ↓reduceIte, Nat.reduceLT, Nat.reduceEqDiff, Nat.reduceLeDiff, Nat.reduceAdd, Nat.reduceMul, Int.reduceLT, Int.reduceLE, Int.reduceToNat, BitVec.reduceOfInt, Nat.reduceBEq]; try rfl) hgk hNold (loadA_scalar agg22 e3) rfl ?_
    refine tb_pures 1 4 (by simp only [go_sem, ↓reduceIte, Nat.reduceLT, Nat.reduceEqDiff, Nat.reduceLeDiff, Nat.reduceAdd, Nat.reduceMul, Int.reduceLT, Int.reduceLE, Int.reduceToNat, BitVec.reduceOfInt, Nat.reduceBEq]; try rfl) (fun j hj => congrArg (Nk + ·) ((by decide : ∀ j, j < 1 → cntN [7, 8, 13, 14] (4 + j + 1) = cntN [7, 8, 13, 14] (4 + j)) j hj)) ?_
    refine tb_gives (i := 5) rfl (by simp only [go_sem, ↓reduceIte, Nat.reduceLT, Nat.reduceEqDiff, Nat.reduceLeDiff, Nat.reduceAdd, Nat.reduceMul, Int.reduceLT, Int.reduceLE, Int.reduceToNat, BitVec.reduceOfInt, Nat.reduceBEq]; try rfl) (fun m => Mask_gives (b : Int) m _) (by kernel_rfl) rfl (by simp only [go_sem, ↓reduceIte, Nat.reduceLT, Nat.reduceEqDiff, Nat.reduceLeDiff, Nat.reduceAdd, Nat.reduceMul, Int.reduceLT, Int.reduceLE, Int.reduceToNat, BitVec.reduceOfInt, Nat.reduceBEq]) rfl ?_
    refine tb_pures 1 6 (by simp only [go_sem, ↓reduceIte, Nat.reduceLT, Nat.reduceEqDiff, Nat.reduceLeDiff, Nat.reduceAdd, Nat.reduceMul, Int.reduceLT, Int.reduceLE, Int.reduceToNat, BitVec.reduceOfInt, Nat.reduceBEq]; try rfl) (fun j hj => congrArg (Nk + ·) ((by decide : ∀ j, j < 1 → cntN [7, 8, 13, 14] (6 + j + 1) = cntN [7, 8, 13, 14] (6 + j)) j hj)) ?_
    rw [lim_of hb6]
    have hfresh : ∀ B i b, σk i = some b → (σk.set Nk B) i = some b := fun B i b hb => by rw [AHeap.set_ne _ _ (Nat.ne_of_lt (hNσ i b hb))]; exact hb
    refine xt_one (i := 7) (m := Nk) rfl rfl rfl (by simp only [go_sem, ↓reduceIte, Nat.reduceLT, Nat.reduceEqDiff, Nat.reduceLeDiff, Nat.reduceAdd, Nat.reduceMul, Int.reduceLT, Int.reduceLE, Int.reduceToNat, BitVec.reduceOfInt, Nat.reduceBEq]; try rfl) rfl Try.underlying49 ty22 rfl rfl (by simp only [go_sem, ↓reduceIte, Nat.reduceLT, Nat.reduceEqDiff, Nat.reduceLeDiff, Nat.reduceAdd, Nat.reduceMul, Int.reduceLT, Int.reduceLE, Int.reduceToNat, BitVec.reduceOfInt, Nat.reduceBEq]; try rfl) rfl (bdd_of1 rfl (.flat rfl)) ?_
    refine xt_push (i := 8) (m := (Nk+1)) (d := 7) (u := Nk) rfl rfl rfl (by simp only [go_sem, ↓reduceIte, Nat.reduceLT, Nat.reduceEqDiff, Nat.reduceLeDiff, Nat.reduceAdd, Nat.reduceMul, Int.reduceLT, Int.reduceLE, Int.reduceToNat, BitVec.reduceOfInt, Nat.reduceBEq]; try rfl) rfl Try.underlying49 ty22 rfl (by simp only [go_sem, ↓reduceIte, Nat.reduceLT, Nat.reduceEqDiff, Nat.reduceLeDiff, Nat.reduceAdd, Nat.reduceMul, Int.reduceLT, Int.reduceLE, Int.reduceToNat, BitVec.reduceOfInt, Nat.reduceBEq]; try rfl) (by simp only [go_sem, ↓reduceIte, Nat.reduceLT, Nat.reduceEqDiff, Nat.reduceLeDiff, Nat.reduceAdd, Nat.reduceMul, Int.reduceLT, Int.reduceLE, Int.reduceToNat, BitVec.reduceOfInt, Nat.reduceBEq]; try rfl) (AHeap.set_self _ _ _) (by decide) (by kernel_rfl) rfl rfl rfl (hown1.keep fun i b _ hb => hfresh _ i b hb) (by omega) hroot1 (by omega) (by decide) (by omega) (by omega) (by omega) (bdd_of2 rfl ((bdd_own hown1 hNσ).mono (Nat.le_succ _)) (.slice (Nat.lt_succ_self _))) (bdd_flats (u64s_flat _)) (.flat rfl) ?_
    intro v' σ' hv' hown' hkeep
    subst hv'
    have hownA := hown'
    have hkeepA := hkeep
    clear hown' hkeep
    refine tb_pures 3 9 (by simp only [go_sem, ↓reduceIte, Nat.reduceLT, Nat.reduceEqDiff, Nat.reduceLeDiff, Nat.reduceAdd, Nat.reduceMul, Int.reduceLT, Int.reduceLE, Int.reduceToNat, BitVec.reduceOfInt, Nat.reduceBEq]; try rfl) (fun j hj => congrArg (Nk + ·) ((by decide : ∀ j, j < 3 → cntN [7, 8, 13, 14] (9 + j + 1) = cntN [7, 8, 13, 14] (9 + j)) j hj)) ?_
    refine tb_gives (i := 12) rfl (by simp only [go_sem, ↓reduceIte, Nat.reduceLT, Nat.reduceEqDiff, Nat.reduceLeDiff, Nat.reduceAdd, Nat.reduceMul, Int.reduceLT, Int.reduceLE, Int.reduceToNat, BitVec.reduceOfInt, Nat.reduceBEq]; try rfl) (fun m => Var_gives (i : Int) (a : Int) m _) (by kernel_rfl) rfl (by simp only [go_sem, ↓reduceIte, Nat.reduceLT, Nat.reduceEqDiff, Nat.reduceLeDiff, Nat.reduceAdd, Nat.reduceMul, Int.reduceLT, Int.reduceLE, Int.reduceToNat, BitVec.reduceOfInt, Nat.reduceBEq]) rfl ?_
    refine xt_one (i := 13) (m := (Nk+2)) rfl rfl rfl (by simp only [go_sem, ↓reduceIte, Nat.reduceLT, Nat.reduceEqDiff, Nat.reduceLeDiff, Nat.reduceAdd, Nat.reduceMul, Int.reduceLT, Int.reduceLE, Int.reduceToNat, BitVec.reduceOfInt, Nat.reduceBEq]; try rfl) rfl Try.underlying49 ty22 rfl rfl (by simp only [go_sem, ↓reduceIte, Nat.reduceLT, Nat.reduceEqDiff, Nat.reduceLeDiff, Nat.reduceAdd, Nat.reduceMul, Int.reduceLT, Int.reduceLE, Int.reduceToNat, BitVec.reduceOfInt, Nat.reduceBEq]; try rfl) rfl (bdd_of1 rfl (.flat rfl)) ?_
    have hk2 : ∀ B j b, j < Nk → ¬ rootOf lv j → σk j = some b → (σ'.set (Nk + 2) B) j = some b := fun B j b hj hr hb => by
      rw [AHeap.set_ne _ _ (by omega), hkeepA j hr (by omega)]
      exact hfresh _ j b hb
    refine xt_push (i := 14) (m := (Nk+3)) (d := 13) (u := (Nk+2)) rfl rfl rfl (by simp only [go_sem, ↓reduceIte, Nat.reduceLT, Nat.reduceEqDiff, Nat.reduceLeDiff, Nat.reduceAdd, Nat.reduceMul, Int.reduceLT, Int.reduceLE, Int.reduceToNat, BitVec.reduceOfInt, Nat.reduceBEq]; try rfl) rfl Try.underlying49 ty22 rfl (by simp only [go_sem, ↓reduceIte, Nat.reduceLT, Nat.reduceEqDiff, Nat.reduceLeDiff, Nat.reduceAdd, Nat.reduceMul, Int.reduceLT, Int.reduceLE, Int.reduceToNat, BitVec.reduceOfInt, Nat.reduceBEq]; try rfl) (by simp only [go_sem, ↓reduceIte, Nat.reduceLT, Nat.reduceEqDiff, Nat.reduceLeDiff, Nat.reduceAdd, Nat.reduceMul, Int.reduceLT, Int.reduceLE, Int.reduceToNat, BitVec.reduceOfInt, Nat.reduceBEq]; try rfl) (AHeap.set_self _ _ _) (by decide) (by kernel_rfl) rfl rfl rfl (hown2.keep fun j b hj hb => hk2 _ j b (hroot2 j hj).1 (fun h => hdis j h hj) hb) (by omega) hroot2 (by omega) (by decide) (by omega) (by omega) (by omega) (bdd_of2 rfl ((bdd_own hown2 hNσ).mono (by omega)) (.slice (by omega))) (bdd_flats (u64s_flat _)) (.flat rfl) ?_
    intro v' σ' hv' hown' hkeep
    refine tb_pures 2 15 (by simp only [go_sem, ↓reduceIte, Nat.reduceLT, Nat.reduceEqDiff, Nat.reduceLeDiff, Nat.reduceAdd, Nat.reduceMul, Int.reduceLT, Int.reduceLE, Int.reduceToNat, BitVec.reduceOfInt, Nat.reduceBEq]; try rfl) (fun j hj => congrArg (Nk + ·) ((by decide : ∀ j, j < 2 → cntN [7, 8, 13, 14] (15 + j + 1) = cntN [7, 8, 13, 14] (15 + j)) j hj)) ?_
    refine tb_end ?_
    rw [argsB_succ] at hownA
    rw [varsB_succ] at hown'
    subst hv'
    have hrA : ∀ j, rootOf (.slice (some ⟨Nk + 1, 0, none⟩) (i + 1) (i + 1)) j → j = Nk + 1 := fun j ⟨_, _, _, h⟩ => by cases h; rfl
    have hrB : ∀ j, rootOf (.slice (some ⟨Nk + 3, 0, none⟩) (i + 1) (i + 1)) j → j = Nk + 3 := fun j ⟨_, _, _, h⟩ => by cases h; rfl
    have hnov : ¬ rootOf ov (Nk + 1) := fun h => by have := (hroot2 _ h).1; omega
    have hownA2 : OwnAt σ' (N + 1) (.slice (some ⟨Nk + 1, 0, none⟩) (i + 1) (i + 1)) (u64s (argsB A b (i + 1))) (i + 1) 1 := hownA.keep fun j b hj hb => by
      have := hrA j hj; subst this
      rw [hkeep _ hnov (by omega), AHeap.set_ne _ _ (by omega)]; exact hb
    have hle2 : σ1.le σ' := fun j b hj => by
      have hjN := hlt1 j b hj
      rw [hkeep j (fun h => by have := (rootOf_own hown2 h).1; omega) (by omega)]
      exact hk2 _ j b (by omega) (fun h => by have := (rootOf_own hown1 h).1; omega) (hlek j b hj)
    have hii2 : 0 ≤ (i : Int) ∧ (i : Int) < ((i + 1 : Nat) : Int) := by omega
    have e4 : (u64s (argsB A b (i + 1)))[0 + i]? = some (.int .u64 (A.getD i 0#64 &&& maskT b).toNat) := by
      simp [u64s, argsB]
    have hset : compX c (argsB A b a) (i + 1) = setb (compX c (argsB A b a) i) i ((A.getD i 0#64 &&& maskT b).getLsbD c) := by rw [compX, argsB_get A b hlt]
    have hxl := compX_lt c (argsB A b a) i
    have h2i : 2 ^ i ≤ 2 ^ 6 := Nat.pow_le_pow_right (by omega) (by omega)
    first | refine awp_seq (awp_lit ?_) | refine awp_lit ?_ | refine awp_seq (awp_seq (awp_lit ?_))
    refine al_pureN 3 (by simp only [go_sem, ↓reduceIte, Nat.reduceLT, Nat.reduceEqDiff, Nat.reduceLeDiff, Nat.reduceAdd, Nat.reduceMul, Int.reduceLT, Int.reduceLE, Int.reduceToNat, BitVec.reduceOfInt, Nat.reduceBEq, hii2]; try rfl) ?_
    refine al_load rfl (by simp only [go_sem, ↓reduceIte, Nat.reduceLT, Nat.reduceEqDiff, Nat.reduceLeDiff, Nat.reduceAdd, Nat.reduceMul, Int.reduceLT, Int.reduceLE, Int.reduceToNat, BitVec.reduceOfInt, Nat.reduceBEq]) rfl (by simp only [go_sem, ↓reduceIte, Nat.reduceLT, Nat.reduceEqDiff, Nat.reduceLeDiff, Nat.reduceAdd, Nat.reduceMul, Int.reduceLT, Int.reduceLE, Int.reduceToNat, BitVec.reduceOfInt, Nat.reduceBEq]; try rfl) hownA2.at (loadA_scalar agg22 e4) ?_
    refine al_pureN 1 (by simp only [go_sem, ↓reduceIte, Nat.reduceLT, Nat.reduceEqDiff, Nat.reduceLeDiff, Nat.reduceAdd, Nat.reduceMul, Int.reduceLT, Int.reduceLE, Int.reduceToNat, BitVec.reduceOfInt, Nat.reduceBEq]; try rfl) ?_
    refine al_gives (vs := ?vs3) (v := ?v3) rfl ?ha3 ?hh3 (by kernel_rfl) rfl (by simp only [go_sem, ↓reduceIte, Nat.reduceLT, Nat.reduceEqDiff, Nat.reduceLeDiff, Nat.reduceAdd, Nat.reduceMul, Int.reduceLT, Int.reduceLE, Int.reduceToNat, BitVec.reduceOfInt, Nat.reduceBEq]) ?kk3
    case ha3 => simp only [go_sem, ↓reduceIte, Nat.reduceLT, Nat.reduceEqDiff, Nat.reduceLeDiff, Nat.reduceAdd, Nat.reduceMul, Int.reduceLT, Int.reduceLE, Int.reduceToNat, BitVec.reduceOfInt, Nat.reduceBEq]; try rfl
    case hh3 => exact Eval_gives _ _ _ _
    rw [evT_nat]
    refine al_end [0, 8, 11, 12, 13, 14, 15, 16, 17, 64] ?_
    have back : ∀ j, rootOf (.slice (some ⟨Nk + 1, 0, none⟩) (i + 1) (i + 1)) j → ¬ rootOf (.slice (some ⟨Nk + 3, 0, none⟩) (i + 1) (i + 1)) j := fun j h1 h2 => by
      have := hrA j h1; have := hrB j h2; omega
    cases hbit : (A.getD i 0#64 &&& maskT b).getLsbD c with
    | true =>
      rw [hbit] at hset
      refine awp_if rfl (fun _ => ?_) (fun h => by cases h)
      refine awp_pures [0, 8, 11, 12, 13, 14, 15, 16, 17] (by simp only [go_sem, ↓reduceIte, Nat.reduceLT, Nat.reduceEqDiff, Nat.reduceLeDiff, Nat.reduceAdd, Nat.reduceMul, Int.reduceLT, Int.reduceLE, Int.reduceToNat, BitVec.reduceOfInt, Nat.reduceBEq, i64_shl_one (show i ≤ 62 by omega), i64_or (show compX c (argsB A b a) i < 9223372036854775808 by omega) (show 2 ^ i < 9223372036854775808 by omega)]; try rfl) ?_
      refine awp_pures [0, 8, 11, 12, 13, 14, 15, 16, 17] (by simp only [go_sem, ↓reduceIte, Nat.reduceLT, Nat.reduceEqDiff, Nat.reduceLeDiff, Nat.reduceAdd, Nat.reduceMul, Int.reduceLT, Int.reduceLE, Int.reduceToNat, BitVec.reduceOfInt, Nat.reduceBEq, i64_add hj1]; try rfl) ?_
      refine ALoop.cast3 (ih (i + 1, _, _, Nk + 4, σ') ⟨hlt, by simp; omega, hownA2, hown', back, hle2⟩ (by simp; omega)) (by rw [hset]; first | (simp only [go_sem]; try rfl) | rfl) rfl rfl
    | false =>
      rw [hbit, setb_self (Nat.testBit_lt_two_pow hxl)] at hset
      refine awp_if rfl (fun h => by cases h) (fun _ => ?_)
      refine awp_skip ?_
      refine awp_pures [0, 8, 11, 12, 13, 14, 15, 16, 17] (by simp only [go_sem, ↓reduceIte, Nat.reduceLT, Nat.reduceEqDiff, Nat.reduceLeDiff, Nat.reduceAdd, Nat.reduceMul, Int.reduceLT, Int.reduceLE, Int.reduceToNat, BitVec.reduceOfInt, Nat.reduceBEq, i64_add hj1]; try rfl) ?_
      refine ALoop.cast3 (ih (i + 1, _, _, Nk + 4, σ') ⟨hlt, by simp; omega, hownA2, hown', back, hle2⟩ (by simp; omega)) (by rw [hset]; first | (simp only [go_sem]; try rfl) | rfl) rfl rfl
  · have hbl : decide ((i : Int) < (a : Int)) = false := decide_eq_false (by omega)
    have hia : i = a := by omega
    subst hia
    refine awp_seq ?_
    refine awp_seq (awp_pures [0, 8, 11, 12, 13, 14, 15, 16, 17, 41] (by simp only [go_sem, ↓reduceIte, Nat.reduceLT, Nat.reduceEqDiff, Nat.reduceLeDiff, Nat.reduceAdd, Nat.reduceMul, Int.reduceLT, Int.reduceLE, Int.reduceToNat, BitVec.reduceOfInt, Nat.reduceBEq, hbl]; try rfl) ?_)
    refine awp_if rfl (fun h => by cases h) (fun _ => ?_)
    refine awp_exit ?_
    simp only [Go.Abs.Seq, Go.Abs.Round, Go.Abs.InBlock, ↓reduceIte]
    have hlA : (argsB A b i).length ≤ 1000000 := by simp [argsB]; omega
    have hlV : (varsB i i).length ≤ 1000000 := by simp [varsB]; omega
    have r1 := comp_ok ha6 hb6 ht (l := argsB A b i) (by simp [argsB]) fun x hx => by
      simp only [argsB, List.mem_map] at hx
      obtain ⟨j, _, rfl⟩ := hx
      exact tab_and hb6 _
    have r2 := comp_ok ha6 ha6 ht (l := varsB i i) (by simp [varsB]) fun x hx => by
      simp only [varsB, List.mem_map, List.mem_range] at hx
      obtain ⟨j, hj, rfl⟩ := hx
      exact tab_var ha6 hj
    rw [comp_vars ha6 ht] at r2
    first | refine awp_seq (awp_lit ?_) | refine awp_lit ?_ | refine awp_seq (awp_seq (awp_lit ?_))
    refine al_pureN 4 (by simp only [go_sem, ↓reduceIte, Nat.reduceLT, Nat.reduceEqDiff, Nat.reduceLeDiff, Nat.reduceAdd, Nat.reduceMul, Int.reduceLT, Int.reduceLE, Int.reduceToNat, BitVec.reduceOfInt, Nat.reduceBEq]; try rfl) ?_
    refine al_gives (vs := ?vs4) (v := ?v4) rfl ?ha4 ?hh4 (by kernel_rfl) rfl (by simp only [go_sem, ↓reduceIte, Nat.reduceLT, Nat.reduceEqDiff, Nat.reduceLeDiff, Nat.reduceAdd, Nat.reduceMul, Int.reduceLT, Int.reduceLE, Int.reduceToNat, BitVec.reduceOfInt, Nat.reduceBEq]) ?kk4
    case ha4 => simp only [go_sem, ↓reduceIte, Nat.reduceLT, Nat.reduceEqDiff, Nat.reduceLeDiff, Nat.reduceAdd, Nat.reduceMul, Int.reduceLT, Int.reduceLE, Int.reduceToNat, BitVec.reduceOfInt, Nat.reduceBEq]; try rfl
    case hh4 => exact Compose_gives t (i : Int) (argsB A b i) hlA (b : Int) _ _ _ hown1.slAt
    rw [r1]
    refine al_pureN 5 (by simp only [go_sem, ↓reduceIte, Nat.reduceLT, Nat.reduceEqDiff, Nat.reduceLeDiff, Nat.reduceAdd, Nat.reduceMul, Int.reduceLT, Int.reduceLE, Int.reduceToNat, BitVec.reduceOfInt, Nat.reduceBEq]; try rfl) ?_
    refine al_end [0, 11, 14, 15, 16, 18, 19] ?_
    first | refine awp_seq (awp_lit ?_) | refine awp_lit ?_ | refine awp_seq (awp_seq (awp_lit ?_))
    refine al_pureN 4 (by simp only [go_sem, ↓reduceIte, Nat.reduceLT, Nat.reduceEqDiff, Nat.reduceLeDiff, Nat.reduceAdd, Nat.reduceMul, Int.reduceLT, Int.reduceLE, Int.reduceToNat, BitVec.reduceOfInt, Nat.reduceBEq]; try rfl) ?_
    refine al_gives (vs := ?vs5) (v := ?v5) rfl ?ha5 ?hh5 (by kernel_rfl) rfl (by simp only [go_sem, ↓reduceIte, Nat.reduceLT, Nat.reduceEqDiff, Nat.reduceLeDiff, Nat.reduceAdd, Nat.reduceMul, Int.reduceLT, Int.reduceLE, Int.reduceToNat, BitVec.reduceOfInt, Nat.reduceBEq]) ?kk5
    case ha5 => simp only [go_sem, ↓reduceIte, Nat.reduceLT, Nat.reduceEqDiff, Nat.reduceLeDiff, Nat.reduceAdd, Nat.reduceMul, Int.reduceLT, Int.reduceLE, Int.reduceToNat, BitVec.reduceOfInt, Nat.reduceBEq]; try rfl
    case hh5 => exact Compose_gives t (i : Int) (varsB i i) hlV (i : Int) _ _ _ hown2.slAt
    rw [r2]
    refine al_pureN 5 (by simp only [go_sem, ↓reduceIte, Nat.reduceLT, Nat.reduceEqDiff, Nat.reduceLeDiff, Nat.reduceAdd, Nat.reduceMul, Int.reduceLT, Int.reduceLE, Int.reduceToNat, BitVec.reduceOfInt, Nat.reduceBEq]; try rfl) ?_
    refine al_end [0, 15, 16, 18, 19, 20, 21] ?_
    have hev : (compGo t (argsB A b i) (maskT b) (2 ^ i) 0 0#64).getLsbD c = t.getLsbD (compX c (argsB A b i) i) := by
      rw [comp_bit t hb6 (by simp [argsB]), decide_eq_true hcb, Bool.true_and]
    first | refine awp_seq (awp_lit ?_) | refine awp_lit ?_ | refine awp_seq (awp_seq (awp_lit ?_))
    refine al_pureN 4 (by simp only [go_sem, ↓reduceIte, Nat.reduceLT, Nat.reduceEqDiff, Nat.reduceLeDiff, Nat.reduceAdd, Nat.reduceMul, Int.reduceLT, Int.reduceLE, Int.reduceToNat, BitVec.reduceOfInt, Nat.reduceBEq]; try rfl) ?_
    refine al_pureN 4 (by simp only [go_sem, ↓reduceIte, Nat.reduceLT, Nat.reduceEqDiff, Nat.reduceLeDiff, Nat.reduceAdd, Nat.reduceMul, Int.reduceLT, Int.reduceLE, Int.reduceToNat, BitVec.reduceOfInt, Nat.reduceBEq, eq_self]; try rfl) ?_
    refine al_pureN 4 (by simp only [go_sem, ↓reduceIte, Nat.reduceLT, Nat.reduceEqDiff, Nat.reduceLeDiff, Nat.reduceAdd, Nat.reduceMul, Int.reduceLT, Int.reduceLE, Int.reduceToNat, BitVec.reduceOfInt, Nat.reduceBEq, eq_self]; try rfl) ?_
    refine al_pureN 2 (by simp only [go_sem, ↓reduceIte, Nat.reduceLT, Nat.reduceEqDiff, Nat.reduceLeDiff, Nat.reduceAdd, Nat.reduceMul, Int.reduceLT, Int.reduceLE, Int.reduceToNat, BitVec.reduceOfInt, Nat.reduceBEq]; try rfl) ?_
    refine al_gives (vs := ?vs6) (v := ?v6) rfl ?ha6 ?hh6 (by kernel_rfl) rfl (by simp only [go_sem, ↓reduceIte, Nat.reduceLT, Nat.reduceEqDiff, Nat.reduceLeDiff, Nat.reduceAdd, Nat.reduceMul, Int.reduceLT, Int.reduceLE, Int.reduceToNat, BitVec.reduceOfInt, Nat.reduceBEq]) ?kk6
    case ha6 => simp only [go_sem, ↓reduceIte, Nat.reduceLT, Nat.reduceEqDiff, Nat.reduceLeDiff, Nat.reduceAdd, Nat.reduceMul, Int.reduceLT, Int.reduceLE, Int.reduceToNat, BitVec.reduceOfInt, Nat.reduceBEq]; try rfl
    case hh6 => exact Eval_gives _ _ _ _
    refine al_pureN 2 (by simp only [go_sem, ↓reduceIte, Nat.reduceLT, Nat.reduceEqDiff, Nat.reduceLeDiff, Nat.reduceAdd, Nat.reduceMul, Int.reduceLT, Int.reduceLE, Int.reduceToNat, BitVec.reduceOfInt, Nat.reduceBEq]; try rfl) ?_
    refine al_gives (vs := ?vs7) (v := ?v7) rfl ?ha7 ?hh7 (by kernel_rfl) rfl (by simp only [go_sem, ↓reduceIte, Nat.reduceLT, Nat.reduceEqDiff, Nat.reduceLeDiff, Nat.reduceAdd, Nat.reduceMul, Int.reduceLT, Int.reduceLE, Int.reduceToNat, BitVec.reduceOfInt, Nat.reduceBEq]) ?kk7
    case ha7 => simp only [go_sem, ↓reduceIte, Nat.reduceLT, Nat.reduceEqDiff, Nat.reduceLeDiff, Nat.reduceAdd, Nat.reduceMul, Int.reduceLT, Int.reduceLE, Int.reduceToNat, BitVec.reduceOfInt, Nat.reduceBEq]; try rfl
    case hh7 => exact Eval_gives _ _ _ _
    rw [evT_nat, evT_nat, hev]
    refine al_pureN 3 (by simp only [go_sem, ↓reduceIte, Nat.reduceLT, Nat.reduceEqDiff, Nat.reduceLeDiff, Nat.reduceAdd, Nat.reduceMul, Int.reduceLT, Int.reduceLE, Int.reduceToNat, BitVec.reduceOfInt, Nat.reduceBEq, beq_self_eq_true]; try rfl) ?_
    refine al_end [10] ?_
    exact awp_ret ⟨_, rfl, rfl, AHeap.le_trans hle hlek⟩
end Go.Proofs.Ytbpjoamdcbbnnaa
