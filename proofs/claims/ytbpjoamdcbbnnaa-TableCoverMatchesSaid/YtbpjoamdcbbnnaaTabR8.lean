/- The walk of the reference's Irredundant (not finished). -/
import Derived.Test.YtbpjoamdcbbnnaaTabRef6
import Derived.Test.YtbpjoamdcbbnnaaAbTb2
set_option linter.unusedSimpArgs false
set_option linter.unusedVariables false
namespace Go.Proofs.Ytbpjoamdcbbnnaa
open Go.Abs Go.Tab
attribute [local go_sem] eqA Try.underlying22 Try.underlying3 Try.underlying77 Try.underlying52 Try.underlying23 Try.underlying25 Try.underlying5 Try.underlying4 Try.underlying36 Try.underlying37 Try.underlying39 Try.underlying41 Try.underlying72 Try.underlying49 Try.underlying26 size22 size3 size23 size5 size4 size39 size41 Nat.mul_one bne_self_eq_false
theorem ty41 : TyI Try.prog 41 (.agg #[.int .u8 0, .int .u8 0]) 2 2 := .of (by kernel_rfl)
theorem flat_len2 : ∀ l : List (Nat × Nat), ((cubes l).flatten).length = l.length * 2
  | [] => rfl
  | c :: l => by
    have := flat_len2 l
    rw [show (cubes (c :: l)).flatten = cubeV c ++ (cubes l).flatten from rfl, List.length_append, this]; simp [cubeV]; omega
theorem flat_take2 : ∀ (m : Nat) (l : List (Nat × Nat)), ((cubes l).flatten).take (m * 2) = (cubes (l.take m)).flatten
  | 0, l => by simp [cubes]
  | m + 1, [] => by simp [cubes]
  | m + 1, c :: l => by
    rw [show (cubes (c :: l)).flatten = .int .u8 c.1 :: .int .u8 c.2 :: (cubes l).flatten from rfl, show (m + 1) * 2 = m * 2 + 1 + 1 from by omega, List.take_succ_cons, List.take_succ_cons, flat_take2 m l]; rfl
theorem flat_drop2 : ∀ (m : Nat) (l : List (Nat × Nat)), ((cubes l).flatten).drop (m * 2) = (cubes (l.drop m)).flatten
  | 0, l => by simp
  | m + 1, [] => by simp [cubes]
  | m + 1, c :: l => by
    rw [show (cubes (c :: l)).flatten = .int .u8 c.1 :: .int .u8 c.2 :: (cubes l).flatten from rfl, show (m + 1) * 2 = m * 2 + 1 + 1 from by omega, List.drop_succ_cons, List.drop_succ_cons, flat_drop2 m l]; rfl
theorem flat_part {l : List (Nat × Nat)} {τ : AHeap} {zid a m c : Nat} (h : ∃ b', τ zid = some b' ∧ b'.cells = (cubes l).flatten) (hm : a + m ≤ l.length) : srcA τ 2 (.slice (some ⟨zid, 0 + a * 2, none⟩) m c) = some (cubes ((l.drop a).take m)).flatten := by
  obtain ⟨b', h1, h2⟩ := h
  simp only [srcA]
  by_cases h0 : m = 0
  · subst h0; simp [cubes]
  · rw [if_neg h0, h1, Option.bind_some, cellsA, h2, flat_len2, if_pos (by omega), Nat.zero_add, flat_drop2, flat_take2]
theorem flat_one2 (l : List (Nat × Nat)) : ((cubes l).flatten).all (·.oneCell') = true := by
  rw [List.all_eq_true]
  intro x hx
  simp only [cubes, List.mem_flatten, List.mem_map] at hx
  obtain ⟨r, ⟨c, _, rfl⟩, hx⟩ := hx
  simp [cubeV] at hx
  rcases hx with rfl | rfl <;> rfl
theorem flat_bdd2 (l : List (Nat × Nat)) (m : Nat) : ∀ x ∈ (cubes l).flatten, Bdd m x := by
  intro x hx
  simp only [cubes, List.mem_flatten, List.mem_map] at hx
  obtain ⟨r, ⟨c, _, rfl⟩, hx⟩ := hx
  simp [cubeV] at hx
  rcases hx with rfl | rfl <;> exact .flat rfl
theorem u8_andNot_pow {k i : Nat} (hk : k < 256) (hi : i ≤ 7) : intA .andNot .u8 (k : Int) ((2 ^ i : Nat) : Int) = some (.int .u8 ((setb k i false : Nat) : Int)) := by
  have hp : 2 ^ i < 256 := Nat.lt_of_le_of_lt (Nat.pow_le_pow_right (by omega) hi) (by decide)
  have h := bv8_small hk
  have h' := bv8_small hp
  have e : (BitVec.ofInt 8 (k : Int) &&& ~~~ BitVec.ofInt 8 ((2 ^ i : Nat) : Int)).toNat = setb k i false := by
    apply Nat.eq_of_testBit_eq
    intro j
    rw [setb_testBit]
    show (BitVec.ofInt 8 (k : Int) &&& ~~~ BitVec.ofInt 8 ((2 ^ i : Nat) : Int)).getLsbD j = _
    rw [BitVec.getLsbD_and, BitVec.getLsbD_not, BitVec.getLsbD, BitVec.getLsbD, h, h']
    by_cases hj : j < 8
    · by_cases hji : j = i
      · subst hji; simp [Nat.testBit_two_pow_self]
      · rw [if_neg hji, Nat.testBit_two_pow_of_ne (fun e => hji e.symm)]; simp [hj]
    · have h0 : k.testBit j = false := Nat.testBit_lt_two_pow (Nat.lt_of_lt_of_le (show k < 2 ^ 8 by omega) (Nat.pow_le_pow_right (by omega) (by omega)))
      rw [if_neg (by omega), h0]; rfl
  show some (Value.int .u8 (IntKind.u8.wrap ((BitVec.ofInt 8 (k : Int) &&& ~~~ BitVec.ofInt 8 ((2 ^ i : Nat) : Int)).toNat : Int))) = _
  rw [e, u8_wrap_nat]
  exact Nat.lt_of_le_of_lt (show setb k i false ≤ k by rw [← e, BitVec.toNat_and, h]; exact Nat.and_le_left) hk
theorem and_pow2 (x v : Nat) : x &&& 2 ^ v = if x.testBit v = true then 2 ^ v else 0 := Nat.eq_of_testBit_eq fun j => by
  rw [Nat.testBit_and, Nat.testBit_two_pow]
  by_cases e : v = j
  · subst e
    cases x.testBit v
    · simp
    · simp [Nat.testBit_two_pow_self]
  · rw [decide_eq_false e, Bool.and_false]
    split
    · rw [Nat.testBit_two_pow, decide_eq_false e]
    · simp
theorem Irr_gives {n : Nat} (hn : n ≤ 6) {L U : BitVec 64} (h : Go.Tab.Good n n L U) (z : Value) (lo N : Nat) (σ : AHeap) (hz : OwnAt σ lo z (cubes (isopG n n L U).1).flatten (isopG n n L U).1.length 2) :
    Gives Try.prog 22 [z, .int .u64 L.toNat, .int .u64 U.toNat, .int .i64 n] N σ (.bool true) := by
  have hok := isopG_ok hn n L U (Nat.le_refl _) h
  have hcov := cover_isop hn h
  have hlen := isop_len64 hn h
  have isopc := isop_cubes hn h
  have hirr := fun i hi => isop_irr hn h (i := i) hi
  have hpr := fun c hc v hv hb => isop_prime hn h (c := c) hc (v := v) hv hb
  have h64 := two_pow_le6 hn
  have hsm : Small (isopG n n L U).1 := fun c hc => by have := isop_cubes hn h c hc; omega
  have e1 : (((L &&& ~~~ (isopG n n L U).2).toNat : Int) != 0) = false := by rw [sub_iff.2 hok.low]; rfl
  have e2 : ((((isopG n n L U).2 &&& ~~~ U).toNat : Int) != 0) = false := by rw [sub_iff.2 hok.up]; rfl
  generalize (isopG n n L U).2 = t at hcov e1 e2
  generalize (isopG n n L U).1 = l at hz hcov hlen hirr hpr hsm isopc
  have hrow := rows_own hz
  have hsl : (cubes l).length = l.length := by simp [cubes]
  obtain ⟨bb, cc, rfl⟩ := hrow.len
  rw [hsl] at hz hrow
  refine gives_of rfl (aok_fresh fun hN => aok_body (n := 112) Try.func22 rfl rfl (by simp) ?_)
  rw [hsl]
  refine awp_seq (awp_pures [0, 1, 2, 3] (by simp only [go_sem, ↓reduceIte, Nat.reduceLT, Nat.reduceEqDiff, Nat.reduceLeDiff, Nat.reduceAdd, Nat.reduceMul, Int.reduceLT, Int.reduceLE, Int.reduceToNat, BitVec.reduceOfInt, Nat.reduceBEq]; try rfl) ?_)
  first | refine awp_seq (awp_lit ?_) | refine awp_lit ?_ | refine awp_seq (awp_seq (awp_lit ?_))
  refine al_pureN 2 (by simp only [go_sem, ↓reduceIte, Nat.reduceLT, Nat.reduceEqDiff, Nat.reduceLeDiff, Nat.reduceAdd, Nat.reduceMul, Int.reduceLT, Int.reduceLE, Int.reduceToNat, BitVec.reduceOfInt, Nat.reduceBEq]; try rfl) ?_
  refine al_gives (vs := ?vs1) (v := ?v1) rfl ?ha1 ?hh1 (by kernel_rfl) rfl (by simp only [go_sem, ↓reduceIte, Nat.reduceLT, Nat.reduceEqDiff, Nat.reduceLeDiff, Nat.reduceAdd, Nat.reduceMul, Int.reduceLT, Int.reduceLE, Int.reduceToNat, BitVec.reduceOfInt, Nat.reduceBEq]) ?kk1
  case ha1 => simp only [go_sem, ↓reduceIte, Nat.reduceLT, Nat.reduceEqDiff, Nat.reduceLeDiff, Nat.reduceAdd, Nat.reduceMul, Int.reduceLT, Int.reduceLE, Int.reduceToNat, BitVec.reduceOfInt, Nat.reduceBEq]; try rfl
  case hh1 => exact rCover_gives l (by omega) hsm n _ _ _ hrow
  rw [hcov]
  refine al_pureN 5 (by simp only [go_sem, ↓reduceIte, Nat.reduceLT, Nat.reduceEqDiff, Nat.reduceLeDiff, Nat.reduceAdd, Nat.reduceMul, Int.reduceLT, Int.reduceLE, Int.reduceToNat, BitVec.reduceOfInt, Nat.reduceBEq, tup2]; try rfl) ?_
  refine al_end [0, 1, 2, 3, 9, 10] ?_
  refine awp_seq ?_
  first | refine awp_seq (awp_lit ?_) | refine awp_lit ?_ | refine awp_seq (awp_seq (awp_lit ?_))
  refine al_pureN 4 (by simp only [go_sem, ↓reduceIte, Nat.reduceLT, Nat.reduceEqDiff, Nat.reduceLeDiff, Nat.reduceAdd, Nat.reduceMul, Int.reduceLT, Int.reduceLE, Int.reduceToNat, BitVec.reduceOfInt, Nat.reduceBEq, e1, e2]; try rfl) ?_
  refine al_pureN 2 (by simp only [go_sem, ↓reduceIte, Nat.reduceLT, Nat.reduceEqDiff, Nat.reduceLeDiff, Nat.reduceAdd, Nat.reduceMul, Int.reduceLT, Int.reduceLE, Int.reduceToNat, BitVec.reduceOfInt, Nat.reduceBEq, e1, e2]; try rfl) ?_
  refine al_pureN 3 (by simp only [go_sem, ↓reduceIte, Nat.reduceLT, Nat.reduceEqDiff, Nat.reduceLeDiff, Nat.reduceAdd, Nat.reduceMul, Int.reduceLT, Int.reduceLE, Int.reduceToNat, BitVec.reduceOfInt, Nat.reduceBEq, e1, e2]; try rfl) ?_
  refine al_pureN 2 (by simp only [go_sem, ↓reduceIte, Nat.reduceLT, Nat.reduceEqDiff, Nat.reduceLeDiff, Nat.reduceAdd, Nat.reduceMul, Int.reduceLT, Int.reduceLE, Int.reduceToNat, BitVec.reduceOfInt, Nat.reduceBEq, e1, e2]; try rfl) ?_
  refine al_pureN 3 (by simp only [go_sem, ↓reduceIte, Nat.reduceLT, Nat.reduceEqDiff, Nat.reduceLeDiff, Nat.reduceAdd, Nat.reduceMul, Int.reduceLT, Int.reduceLE, Int.reduceToNat, BitVec.reduceOfInt, Nat.reduceBEq, e1, e2]; try rfl) ?_
  refine al_end [0, 1, 2, 3, 38] ?_
  rw [e2]
  refine awp_if rfl (fun h => by cases h) (fun _ => ?_)
  refine awp_skip ?_
  refine awp_seq ?_
  refine awp_seq (awp_pures [0, 1, 2, 3, 11] (by simp only [go_sem, ↓reduceIte, Nat.reduceLT, Nat.reduceEqDiff, Nat.reduceLeDiff, Nat.reduceAdd, Nat.reduceMul, Int.reduceLT, Int.reduceLE, Int.reduceToNat, BitVec.reduceOfInt, Nat.reduceBEq]; try rfl) ?_)
  refine awp_block (awp_loop ?_)
  refine ALoop.cast3 (aloop_ind (α := Nat × Nat × AHeap) (fun x => x.1 ≤ l.length ∧ N ≤ x.2.1 ∧ σ.le x.2.2) (fun x => l.length - x.1)
    (fun x => [(0, .slice bb l.length cc), (1, .int .u64 L.toNat), (2, .int .u64 U.toNat), (3, .int .i64 n), (11, .int .i64 x.1)]) (fun x => x.2.1) (fun x => x.2.2) ?_ (0, N, σ) ⟨by simp, Nat.le_refl _, AHeap.le_refl _⟩) rfl rfl rfl
  rintro ⟨i, Nk, σk⟩ ⟨hi, hNk, hlek⟩ ih
  simp only at hi hNk hlek ⊢
  by_cases hlt : i < l.length
  · have hb : decide ((i : Int) < (l.length : Int)) = true := decide_eq_true (by omega)
    have hj1 : -9223372036854775808 ≤ (i : Int) + 1 ∧ (i : Int) + 1 ≤ 9223372036854775807 := by omega
    have hii : 0 ≤ (i : Int) ∧ (i : Int) < (l.length : Int) := by omega
    refine awp_seq ?_
    refine awp_seq (awp_pures [0, 1, 2, 3, 11, 42] (by simp only [go_sem, ↓reduceIte, Nat.reduceLT, Nat.reduceEqDiff, Nat.reduceLeDiff, Nat.reduceAdd, Nat.reduceMul, Int.reduceLT, Int.reduceLE, Int.reduceToNat, BitVec.reduceOfInt, Nat.reduceBEq, hb]; try rfl) ?_)
    refine awp_if rfl (fun _ => ?_) (fun h => by cases h)
    refine awp_skip ?_
    rcases hz with ⟨_, hz0, _⟩ | ⟨zid, cap, hz1, hz2, hz3, hz4, hz5⟩
    · omega
    cases hz2
    have hzk := hlek _ _ hz4
    have hzN : zid < Nk := Nat.lt_of_lt_of_le (hN _ _ hz4) hNk
    refine awp_seq (awp_block ?_)
    refine awp_fresh fun hNσ => ?_
    refine awp_seq (AWp.mono (K := fun ex E N' σ' => ex = .normal ∧ Nk ≤ N' ∧ ∃ v, E = [(0, .slice (some ⟨zid, 0, none⟩) l.length cc), (1, .int .u64 L.toNat), (2, .int .u64 U.toNat), (3, .int .i64 n), (11, .int .i64 i), (12, v)] ∧ OwnAt σ' Nk v (cubes (without l i)).flatten (without l i).length 2 ∧ σk.le σ') ?_ fun ex E N' σ' hK => ?_)
    · by_cases hi0 : 0 < i
      · by_cases hi1 : i + 1 < l.length
        · refine awp_tbk [0, 1, 2, 3, 11, 12] (fun _ => (fun _ => False)) [4,9] (fun k => Nk + cntN [0,4,9] k) (by kernel_rfl) rfl ?_
          refine xt_zero (m := Nk) (i := 0) rfl rfl rfl (by simp only [go_sem, ↓reduceIte, Nat.reduceLT, Nat.reduceEqDiff, Nat.reduceLeDiff, Nat.reduceAdd, Nat.reduceMul, Int.reduceLT, Int.reduceLE, Int.reduceToNat, BitVec.reduceOfInt, Nat.reduceBEq]; try rfl) rfl Try.underlying37 ty41 rfl rfl (by decide) (bdd_of0 rfl) ?_
          refine tb_pures 2 1 (by simp only [go_sem, ↓reduceIte, Nat.reduceLT, Nat.reduceEqDiff, Nat.reduceLeDiff, Nat.reduceAdd, Nat.reduceMul, Int.reduceLT, Int.reduceLE, Int.reduceToNat, BitVec.reduceOfInt, Nat.reduceBEq]; try rfl) (fun j hj => congrArg (Nk + ·) ((by decide : ∀ j, j < 2 → cntN [0,4,9] (1 + j + 1) = cntN [0,4,9] (1 + j)) j hj)) ?_
          refine tb_slice (i := 3) (a := 0) rfl (by simp only [go_sem, ↓reduceIte, Nat.reduceLT, Nat.reduceEqDiff, Nat.reduceLeDiff, Nat.reduceAdd, Nat.reduceMul, Int.reduceLT, Int.reduceLE, Int.reduceToNat, BitVec.reduceOfInt, Nat.reduceBEq]; try rfl) rfl Try.underlying37 ty41 (by simp only [go_sem, ↓reduceIte, Nat.reduceLT, Nat.reduceEqDiff, Nat.reduceLeDiff, Nat.reduceAdd, Nat.reduceMul, Int.reduceLT, Int.reduceLE, Int.reduceToNat, BitVec.reduceOfInt, Nat.reduceBEq]; try rfl) (by rw [AHeap.set_ne _ _ (by omega)]; exact hzk) rfl (Old.calm ⟨hzN, fun h => h⟩) rfl (h := i) (by simp only [boundA, go_sem]) (by omega) (by omega) rfl ?_
          have hlti : ((cubes (l.take i)).flatten).length = i * 2 := by rw [flat_len2, List.length_take, Nat.min_eq_left (by omega)]
          refine xt_append (d := 0) (r := Nk) (m := Nk + 1) (i := 4) (q := i) (news := (cubes (l.take i)).flatten) (olds := []) (c := 0) (lo := Nk) (ju := zid) rfl rfl rfl (by simp only [go_sem, ↓reduceIte, Nat.reduceLT, Nat.reduceEqDiff, Nat.reduceLeDiff, Nat.reduceAdd, Nat.reduceMul, Int.reduceLT, Int.reduceLE, Int.reduceToNat, BitVec.reduceOfInt, Nat.reduceBEq]; try rfl) rfl Try.underlying37 ty41 rfl (by simp only [go_sem, ↓reduceIte, Nat.reduceLT, Nat.reduceEqDiff, Nat.reduceLeDiff, Nat.reduceAdd, Nat.reduceMul, Int.reduceLT, Int.reduceLE, Int.reduceToNat, BitVec.reduceOfInt, Nat.reduceBEq]; try rfl) (by simp only [go_sem, ↓reduceIte, Nat.reduceLT, Nat.reduceEqDiff, Nat.reduceLeDiff, Nat.reduceAdd, Nat.reduceMul, Int.reduceLT, Int.reduceLE, Int.reduceToNat, BitVec.reduceOfInt, Nat.reduceBEq]; try rfl) (by rw [AHeap.set_ne _ _ (by omega)]; exact hzk) rfl hi0 (fun τ hτ => by have := flat_part (c := cc - 0) (a := 0) (m := i) hτ (by omega); simpa using this) hlti hzN (flat_one2 _) (.inr ⟨Nk, 0, Nat.le_refl _, rfl, Nat.le_refl _, AHeap.set_self _ _ _, rfl⟩) (by omega) (fun j hj => by obtain ⟨_, _, _, hj⟩ := hj; cases hj; rfl) (Nat.le_refl _) (by omega) (by decide) (by kernel_rfl) rfl rfl (by decide) (by omega) (by omega) (bdd_of2 rfl (.slice (by omega)) (.slice (by omega))) (fun x hx => by cases hx) (flat_bdd2 l _) ?_
          intro va σa hva howna hkeepa
          subst hva
          have hza : σa zid = some ⟨(cubes l).flatten, true, 2⟩ := by rw [hkeepa zid (by rintro ⟨_, _, _, hh⟩; cases hh; omega) (by omega), AHeap.set_ne _ _ (by omega)]; exact hzk
          rw [List.nil_append] at howna
          refine tb_pures 3 5 (by simp only [go_sem, ↓reduceIte, Nat.reduceLT, Nat.reduceEqDiff, Nat.reduceLeDiff, Nat.reduceAdd, Nat.reduceMul, Int.reduceLT, Int.reduceLE, Int.reduceToNat, BitVec.reduceOfInt, Nat.reduceBEq, i64_add hj1]; try rfl) (fun j hj => congrArg (Nk + ·) ((by decide : ∀ j, j < 3 → cntN [0,4,9] (5 + j + 1) = cntN [0,4,9] (5 + j)) j hj)) ?_
          refine tb_slice (i := 8) (a := i + 1) (h := l.length) rfl (by simp only [go_sem, ↓reduceIte, Nat.reduceLT, Nat.reduceEqDiff, Nat.reduceLeDiff, Nat.reduceAdd, Nat.reduceMul, Int.reduceLT, Int.reduceLE, Int.reduceToNat, BitVec.reduceOfInt, Nat.reduceBEq]; try rfl) rfl Try.underlying37 ty41 (by simp only [go_sem, ↓reduceIte, Nat.reduceLT, Nat.reduceEqDiff, Nat.reduceLeDiff, Nat.reduceAdd, Nat.reduceMul, Int.reduceLT, Int.reduceLE, Int.reduceToNat, BitVec.reduceOfInt, Nat.reduceBEq]; try rfl) hza rfl (Old.calm ⟨hzN, fun h => h⟩) (by simp only [boundA, go_sem]; simp; omega) rfl (by omega) hz3 rfl ?_
          refine xt_append (d := 4) (r := Nk + 1) (m := Nk + 2) (i := 9) (q := l.length - (i + 1)) (news := (cubes (l.drop (i + 1))).flatten) (c := 0 + i) (lo := Nk) (ju := zid) rfl rfl rfl (by simp only [go_sem, ↓reduceIte, Nat.reduceLT, Nat.reduceEqDiff, Nat.reduceLeDiff, Nat.reduceAdd, Nat.reduceMul, Int.reduceLT, Int.reduceLE, Int.reduceToNat, BitVec.reduceOfInt, Nat.reduceBEq]; try rfl) rfl Try.underlying37 ty41 rfl (by simp only [go_sem, ↓reduceIte, Nat.reduceLT, Nat.reduceEqDiff, Nat.reduceLeDiff, Nat.reduceAdd, Nat.reduceMul, Int.reduceLT, Int.reduceLE, Int.reduceToNat, BitVec.reduceOfInt, Nat.reduceBEq]; try rfl) (by simp only [go_sem, ↓reduceIte, Nat.reduceLT, Nat.reduceEqDiff, Nat.reduceLeDiff, Nat.reduceAdd, Nat.reduceMul, Int.reduceLT, Int.reduceLE, Int.reduceToNat, BitVec.reduceOfInt, Nat.reduceBEq]; try rfl) hza rfl (by omega) (fun τ hτ => by have := flat_part (c := cc - (i + 1)) (a := i + 1) (m := l.length - (i + 1)) hτ (by omega); rw [Nat.zero_add, List.take_of_length_le (by simp)] at this; exact this) (by rw [flat_len2, List.length_drop]) hzN (flat_one2 _) howna (by omega) (fun j hj => by obtain ⟨_, _, _, hj⟩ := hj; cases hj; rfl) (by omega) (by omega) (by decide) (by kernel_rfl) rfl rfl (by decide) (by omega) (by omega) (bdd_of2 rfl (.slice (by omega)) (.slice (by omega))) (flat_bdd2 _ _) (flat_bdd2 l _) ?_
          intro vb σb hvb hownb hkeepb
          refine tb_pures 1 10 (by simp only [go_sem, ↓reduceIte, Nat.reduceLT, Nat.reduceEqDiff, Nat.reduceLeDiff, Nat.reduceAdd, Nat.reduceMul, Int.reduceLT, Int.reduceLE, Int.reduceToNat, BitVec.reduceOfInt, Nat.reduceBEq]; try rfl) (fun j hj => congrArg (Nk + ·) ((by decide : ∀ j, j < 1 → cntN [0,4,9] (10 + j + 1) = cntN [0,4,9] (10 + j)) j hj)) ?_
          refine tb_end ?_
          refine ⟨rfl, by simp [cntN], vb, rfl, ?_, fun j b hj => ?_⟩
          · rw [show (cubes (without l i)).flatten = (cubes (l.take i)).flatten ++ (cubes (l.drop (i + 1))).flatten from by simp [without, cubes]]
            rw [show (without l i).length = 0 + i + (l.length - (i + 1)) from by simp [without]; omega]
            exact hownb
          · have := hNσ j b hj
            rw [hkeepb j (by rintro ⟨_, _, _, hh⟩; cases hh; omega) (by omega), hkeepa j (by rintro ⟨_, _, _, hh⟩; cases hh; omega) (by omega), AHeap.set_ne _ _ (by omega)]; exact hj
        · refine awp_tbk [0, 1, 2, 3, 11, 12] (fun _ => (fun _ => False)) [4,9] (fun k => Nk + cntN [0,4] k) (by kernel_rfl) rfl ?_
          refine xt_zero (m := Nk) (i := 0) rfl rfl rfl (by simp only [go_sem, ↓reduceIte, Nat.reduceLT, Nat.reduceEqDiff, Nat.reduceLeDiff, Nat.reduceAdd, Nat.reduceMul, Int.reduceLT, Int.reduceLE, Int.reduceToNat, BitVec.reduceOfInt, Nat.reduceBEq]; try rfl) rfl Try.underlying37 ty41 rfl rfl (by decide) (bdd_of0 rfl) ?_
          refine tb_pures 2 1 (by simp only [go_sem, ↓reduceIte, Nat.reduceLT, Nat.reduceEqDiff, Nat.reduceLeDiff, Nat.reduceAdd, Nat.reduceMul, Int.reduceLT, Int.reduceLE, Int.reduceToNat, BitVec.reduceOfInt, Nat.reduceBEq]; try rfl) (fun j hj => congrArg (Nk + ·) ((by decide : ∀ j, j < 2 → cntN [0,4] (1 + j + 1) = cntN [0,4] (1 + j)) j hj)) ?_
          refine tb_slice (i := 3) (a := 0) rfl (by simp only [go_sem, ↓reduceIte, Nat.reduceLT, Nat.reduceEqDiff, Nat.reduceLeDiff, Nat.reduceAdd, Nat.reduceMul, Int.reduceLT, Int.reduceLE, Int.reduceToNat, BitVec.reduceOfInt, Nat.reduceBEq]; try rfl) rfl Try.underlying37 ty41 (by simp only [go_sem, ↓reduceIte, Nat.reduceLT, Nat.reduceEqDiff, Nat.reduceLeDiff, Nat.reduceAdd, Nat.reduceMul, Int.reduceLT, Int.reduceLE, Int.reduceToNat, BitVec.reduceOfInt, Nat.reduceBEq]; try rfl) (by rw [AHeap.set_ne _ _ (by omega)]; exact hzk) rfl (Old.calm ⟨hzN, fun h => h⟩) rfl (h := i) (by simp only [boundA, go_sem]) (by omega) (by omega) rfl ?_
          have hlti : ((cubes (l.take i)).flatten).length = i * 2 := by rw [flat_len2, List.length_take, Nat.min_eq_left (by omega)]
          refine xt_append (d := 0) (r := Nk) (m := Nk + 1) (i := 4) (q := i) (news := (cubes (l.take i)).flatten) (olds := []) (c := 0) (lo := Nk) (ju := zid) rfl rfl rfl (by simp only [go_sem, ↓reduceIte, Nat.reduceLT, Nat.reduceEqDiff, Nat.reduceLeDiff, Nat.reduceAdd, Nat.reduceMul, Int.reduceLT, Int.reduceLE, Int.reduceToNat, BitVec.reduceOfInt, Nat.reduceBEq]; try rfl) rfl Try.underlying37 ty41 rfl (by simp only [go_sem, ↓reduceIte, Nat.reduceLT, Nat.reduceEqDiff, Nat.reduceLeDiff, Nat.reduceAdd, Nat.reduceMul, Int.reduceLT, Int.reduceLE, Int.reduceToNat, BitVec.reduceOfInt, Nat.reduceBEq]; try rfl) (by simp only [go_sem, ↓reduceIte, Nat.reduceLT, Nat.reduceEqDiff, Nat.reduceLeDiff, Nat.reduceAdd, Nat.reduceMul, Int.reduceLT, Int.reduceLE, Int.reduceToNat, BitVec.reduceOfInt, Nat.reduceBEq]; try rfl) (by rw [AHeap.set_ne _ _ (by omega)]; exact hzk) rfl hi0 (fun τ hτ => by have := flat_part (c := cc - 0) (a := 0) (m := i) hτ (by omega); simpa using this) hlti hzN (flat_one2 _) (.inr ⟨Nk, 0, Nat.le_refl _, rfl, Nat.le_refl _, AHeap.set_self _ _ _, rfl⟩) (by omega) (fun j hj => by obtain ⟨_, _, _, hj⟩ := hj; cases hj; rfl) (Nat.le_refl _) (by omega) (by decide) (by kernel_rfl) rfl rfl (by decide) (by omega) (by omega) (bdd_of2 rfl (.slice (by omega)) (.slice (by omega))) (fun x hx => by cases hx) (flat_bdd2 l _) ?_
          intro va σa hva howna hkeepa
          subst hva
          have hza : σa zid = some ⟨(cubes l).flatten, true, 2⟩ := by rw [hkeepa zid (by rintro ⟨_, _, _, hh⟩; cases hh; omega) (by omega), AHeap.set_ne _ _ (by omega)]; exact hzk
          rw [List.nil_append] at howna
          refine tb_pures 3 5 (by simp only [go_sem, ↓reduceIte, Nat.reduceLT, Nat.reduceEqDiff, Nat.reduceLeDiff, Nat.reduceAdd, Nat.reduceMul, Int.reduceLT, Int.reduceLE, Int.reduceToNat, BitVec.reduceOfInt, Nat.reduceBEq, i64_add hj1]; try rfl) (fun j hj => congrArg (Nk + ·) ((by decide : ∀ j, j < 3 → cntN [0,4] (5 + j + 1) = cntN [0,4] (5 + j)) j hj)) ?_
          refine tb_slice (i := 8) (a := i + 1) (h := l.length) rfl (by simp only [go_sem, ↓reduceIte, Nat.reduceLT, Nat.reduceEqDiff, Nat.reduceLeDiff, Nat.reduceAdd, Nat.reduceMul, Int.reduceLT, Int.reduceLE, Int.reduceToNat, BitVec.reduceOfInt, Nat.reduceBEq]; try rfl) rfl Try.underlying37 ty41 (by simp only [go_sem, ↓reduceIte, Nat.reduceLT, Nat.reduceEqDiff, Nat.reduceLeDiff, Nat.reduceAdd, Nat.reduceMul, Int.reduceLT, Int.reduceLE, Int.reduceToNat, BitVec.reduceOfInt, Nat.reduceBEq]; try rfl) hza rfl (Old.calm ⟨hzN, fun h => h⟩) (by simp only [boundA, go_sem]; simp; omega) rfl (by omega) hz3 rfl ?_
          refine tb_append_none (i := 9) rfl (by simp only [go_sem, ↓reduceIte, Nat.reduceLT, Nat.reduceEqDiff, Nat.reduceLeDiff, Nat.reduceAdd, Nat.reduceMul, Int.reduceLT, Int.reduceLE, Int.reduceToNat, BitVec.reduceOfInt, Nat.reduceBEq]; try rfl) rfl Try.underlying37 ty41 (by simp only [go_sem, ↓reduceIte, Nat.reduceLT, Nat.reduceEqDiff, Nat.reduceLeDiff, Nat.reduceAdd, Nat.reduceMul, Int.reduceLT, Int.reduceLE, Int.reduceToNat, BitVec.reduceOfInt, Nat.reduceBEq]; try rfl) rfl (by simp only [go_sem, ↓reduceIte, Nat.reduceLT, Nat.reduceEqDiff, Nat.reduceLeDiff, Nat.reduceAdd, Nat.reduceMul, Int.reduceLT, Int.reduceLE, Int.reduceToNat, BitVec.reduceOfInt, Nat.reduceBEq]; try rfl) (by simp only [lenA]; congr 1; omega) rfl ?_
          refine tb_pures 1 10 (by simp only [go_sem, ↓reduceIte, Nat.reduceLT, Nat.reduceEqDiff, Nat.reduceLeDiff, Nat.reduceAdd, Nat.reduceMul, Int.reduceLT, Int.reduceLE, Int.reduceToNat, BitVec.reduceOfInt, Nat.reduceBEq]; try rfl) (fun j hj => congrArg (Nk + ·) ((by decide : ∀ j, j < 1 → cntN [0,4] (10 + j + 1) = cntN [0,4] (10 + j)) j hj)) ?_
          refine tb_end ?_
          refine ⟨rfl, by simp [cntN], _, rfl, ?_, fun j b hj => ?_⟩
          · rw [show (cubes (without l i)).flatten = (cubes (l.take i)).flatten from by simp [without, cubes, List.drop_of_length_le (show l.length ≤ i + 1 by omega)]]
            rw [show (without l i).length = i from by simp [without]; omega]
            rw [Nat.zero_add] at howna
            exact howna
          · have := hNσ j b hj
            rw [hkeepa j (by rintro ⟨_, _, _, hh⟩; cases hh; omega) (by omega), AHeap.set_ne _ _ (by omega)]; exact hj
      · have hi00 : i = 0 := by omega
        subst hi00
        by_cases hi1 : 1 < l.length
        · refine awp_tbk [0, 1, 2, 3, 11, 12] (fun _ => (fun _ => False)) [4,9] (fun k => Nk + cntN [0,9] k) (by kernel_rfl) rfl ?_
          refine xt_zero (m := Nk) (i := 0) rfl rfl rfl (by simp only [go_sem, ↓reduceIte, Nat.reduceLT, Nat.reduceEqDiff, Nat.reduceLeDiff, Nat.reduceAdd, Nat.reduceMul, Int.reduceLT, Int.reduceLE, Int.reduceToNat, BitVec.reduceOfInt, Nat.reduceBEq]; try rfl) rfl Try.underlying37 ty41 rfl rfl (by decide) (bdd_of0 rfl) ?_
          refine tb_pures 2 1 (by simp only [go_sem, ↓reduceIte, Nat.reduceLT, Nat.reduceEqDiff, Nat.reduceLeDiff, Nat.reduceAdd, Nat.reduceMul, Int.reduceLT, Int.reduceLE, Int.reduceToNat, BitVec.reduceOfInt, Nat.reduceBEq]; try rfl) (fun j hj => congrArg (Nk + ·) ((by decide : ∀ j, j < 2 → cntN [0,9] (1 + j + 1) = cntN [0,9] (1 + j)) j hj)) ?_
          refine tb_slice (i := 3) (a := 0) rfl (by simp only [go_sem, ↓reduceIte, Nat.reduceLT, Nat.reduceEqDiff, Nat.reduceLeDiff, Nat.reduceAdd, Nat.reduceMul, Int.reduceLT, Int.reduceLE, Int.reduceToNat, BitVec.reduceOfInt, Nat.reduceBEq]; try rfl) rfl Try.underlying37 ty41 (by simp only [go_sem, ↓reduceIte, Nat.reduceLT, Nat.reduceEqDiff, Nat.reduceLeDiff, Nat.reduceAdd, Nat.reduceMul, Int.reduceLT, Int.reduceLE, Int.reduceToNat, BitVec.reduceOfInt, Nat.reduceBEq]; try rfl) (by rw [AHeap.set_ne _ _ (by omega)]; exact hzk) rfl (Old.calm ⟨hzN, fun h => h⟩) rfl (h := 0) (by simp only [boundA, go_sem] <;> rfl) (by omega) (by omega) rfl ?_
          refine tb_append_none (i := 4) rfl (by simp only [go_sem, ↓reduceIte, Nat.reduceLT, Nat.reduceEqDiff, Nat.reduceLeDiff, Nat.reduceAdd, Nat.reduceMul, Int.reduceLT, Int.reduceLE, Int.reduceToNat, BitVec.reduceOfInt, Nat.reduceBEq]; try rfl) rfl Try.underlying37 ty41 (by simp only [go_sem, ↓reduceIte, Nat.reduceLT, Nat.reduceEqDiff, Nat.reduceLeDiff, Nat.reduceAdd, Nat.reduceMul, Int.reduceLT, Int.reduceLE, Int.reduceToNat, BitVec.reduceOfInt, Nat.reduceBEq]; try rfl) rfl (by simp only [go_sem, ↓reduceIte, Nat.reduceLT, Nat.reduceEqDiff, Nat.reduceLeDiff, Nat.reduceAdd, Nat.reduceMul, Int.reduceLT, Int.reduceLE, Int.reduceToNat, BitVec.reduceOfInt, Nat.reduceBEq]; try rfl) rfl rfl ?_
          refine tb_pures 3 5 (by simp only [go_sem, ↓reduceIte, Nat.reduceLT, Nat.reduceEqDiff, Nat.reduceLeDiff, Nat.reduceAdd, Nat.reduceMul, Int.reduceLT, Int.reduceLE, Int.reduceToNat, BitVec.reduceOfInt, Nat.reduceBEq, i64_add hj1]; try rfl) (fun j hj => congrArg (Nk + ·) ((by decide : ∀ j, j < 3 → cntN [0,9] (5 + j + 1) = cntN [0,9] (5 + j)) j hj)) ?_
          refine tb_slice (i := 8) (a := 1) (h := l.length) rfl (by simp only [go_sem, ↓reduceIte, Nat.reduceLT, Nat.reduceEqDiff, Nat.reduceLeDiff, Nat.reduceAdd, Nat.reduceMul, Int.reduceLT, Int.reduceLE, Int.reduceToNat, BitVec.reduceOfInt, Nat.reduceBEq]; try rfl) rfl Try.underlying37 ty41 (by simp only [go_sem, ↓reduceIte, Nat.reduceLT, Nat.reduceEqDiff, Nat.reduceLeDiff, Nat.reduceAdd, Nat.reduceMul, Int.reduceLT, Int.reduceLE, Int.reduceToNat, BitVec.reduceOfInt, Nat.reduceBEq]; try rfl) (by rw [AHeap.set_ne _ _ (by omega)]; exact hzk) rfl (Old.calm ⟨hzN, fun h => h⟩) (by simp only [boundA, go_sem] <;> rfl) rfl (by omega) hz3 rfl ?_
          refine xt_append (d := 0) (r := Nk) (m := Nk + 1) (i := 9) (q := l.length - 1) (news := (cubes (l.drop 1)).flatten) (olds := []) (c := 0) (lo := Nk) (ju := zid) rfl rfl rfl (by simp only [go_sem, ↓reduceIte, Nat.reduceLT, Nat.reduceEqDiff, Nat.reduceLeDiff, Nat.reduceAdd, Nat.reduceMul, Int.reduceLT, Int.reduceLE, Int.reduceToNat, BitVec.reduceOfInt, Nat.reduceBEq]; try rfl) rfl Try.underlying37 ty41 rfl (by simp only [go_sem, ↓reduceIte, Nat.reduceLT, Nat.reduceEqDiff, Nat.reduceLeDiff, Nat.reduceAdd, Nat.reduceMul, Int.reduceLT, Int.reduceLE, Int.reduceToNat, BitVec.reduceOfInt, Nat.reduceBEq]; try rfl) (by simp only [go_sem, ↓reduceIte, Nat.reduceLT, Nat.reduceEqDiff, Nat.reduceLeDiff, Nat.reduceAdd, Nat.reduceMul, Int.reduceLT, Int.reduceLE, Int.reduceToNat, BitVec.reduceOfInt, Nat.reduceBEq]; try rfl) (by rw [AHeap.set_ne _ _ (by omega)]; exact hzk) rfl (by omega) (fun τ hτ => by have := flat_part (c := cc - 1) (a := 1) (m := l.length - 1) hτ (by omega); rw [Nat.zero_add, List.take_of_length_le (by simp)] at this; exact this) (by rw [flat_len2, List.length_drop]) hzN (flat_one2 _) (.inr ⟨Nk, 0, Nat.le_refl _, rfl, Nat.le_refl _, AHeap.set_self _ _ _, rfl⟩) (by omega) (fun j hj => by obtain ⟨_, _, _, hj⟩ := hj; cases hj; rfl) (Nat.le_refl _) (by omega) (by decide) (by kernel_rfl) rfl rfl (by decide) (by omega) (by omega) (bdd_of2 rfl (.slice (by omega)) (.slice (by omega))) (fun x hx => by cases hx) (flat_bdd2 l _) ?_
          intro vb σb hvb hownb hkeepb
          refine tb_pures 1 10 (by simp only [go_sem, ↓reduceIte, Nat.reduceLT, Nat.reduceEqDiff, Nat.reduceLeDiff, Nat.reduceAdd, Nat.reduceMul, Int.reduceLT, Int.reduceLE, Int.reduceToNat, BitVec.reduceOfInt, Nat.reduceBEq]; try rfl) (fun j hj => congrArg (Nk + ·) ((by decide : ∀ j, j < 1 → cntN [0,9] (10 + j + 1) = cntN [0,9] (10 + j)) j hj)) ?_
          refine tb_end ?_
          refine ⟨rfl, by simp [cntN], vb, rfl, ?_, fun j b hj => ?_⟩
          · rw [List.nil_append, Nat.zero_add] at hownb
            rw [show without l 0 = l.drop 1 from by simp [without], List.length_drop]
            exact hownb
          · have := hNσ j b hj
            rw [hkeepb j (by rintro ⟨_, _, _, hh⟩; cases hh; omega) (by omega), AHeap.set_ne _ _ (by omega)]; exact hj
        · refine awp_tbk [0, 1, 2, 3, 11, 12] (fun _ => (fun _ => False)) [4,9] (fun k => Nk + cntN [0] k) (by kernel_rfl) rfl ?_
          refine xt_zero (m := Nk) (i := 0) rfl rfl rfl (by simp only [go_sem, ↓reduceIte, Nat.reduceLT, Nat.reduceEqDiff, Nat.reduceLeDiff, Nat.reduceAdd, Nat.reduceMul, Int.reduceLT, Int.reduceLE, Int.reduceToNat, BitVec.reduceOfInt, Nat.reduceBEq]; try rfl) rfl Try.underlying37 ty41 rfl rfl (by decide) (bdd_of0 rfl) ?_
          refine tb_pures 2 1 (by simp only [go_sem, ↓reduceIte, Nat.reduceLT, Nat.reduceEqDiff, Nat.reduceLeDiff, Nat.reduceAdd, Nat.reduceMul, Int.reduceLT, Int.reduceLE, Int.reduceToNat, BitVec.reduceOfInt, Nat.reduceBEq]; try rfl) (fun j hj => congrArg (Nk + ·) ((by decide : ∀ j, j < 2 → cntN [0] (1 + j + 1) = cntN [0] (1 + j)) j hj)) ?_
          refine tb_slice (i := 3) (a := 0) rfl (by simp only [go_sem, ↓reduceIte, Nat.reduceLT, Nat.reduceEqDiff, Nat.reduceLeDiff, Nat.reduceAdd, Nat.reduceMul, Int.reduceLT, Int.reduceLE, Int.reduceToNat, BitVec.reduceOfInt, Nat.reduceBEq]; try rfl) rfl Try.underlying37 ty41 (by simp only [go_sem, ↓reduceIte, Nat.reduceLT, Nat.reduceEqDiff, Nat.reduceLeDiff, Nat.reduceAdd, Nat.reduceMul, Int.reduceLT, Int.reduceLE, Int.reduceToNat, BitVec.reduceOfInt, Nat.reduceBEq]; try rfl) (by rw [AHeap.set_ne _ _ (by omega)]; exact hzk) rfl (Old.calm ⟨hzN, fun h => h⟩) rfl (h := 0) (by simp only [boundA, go_sem] <;> rfl) (by omega) (by omega) rfl ?_
          refine tb_append_none (i := 4) rfl (by simp only [go_sem, ↓reduceIte, Nat.reduceLT, Nat.reduceEqDiff, Nat.reduceLeDiff, Nat.reduceAdd, Nat.reduceMul, Int.reduceLT, Int.reduceLE, Int.reduceToNat, BitVec.reduceOfInt, Nat.reduceBEq]; try rfl) rfl Try.underlying37 ty41 (by simp only [go_sem, ↓reduceIte, Nat.reduceLT, Nat.reduceEqDiff, Nat.reduceLeDiff, Nat.reduceAdd, Nat.reduceMul, Int.reduceLT, Int.reduceLE, Int.reduceToNat, BitVec.reduceOfInt, Nat.reduceBEq]; try rfl) rfl (by simp only [go_sem, ↓reduceIte, Nat.reduceLT, Nat.reduceEqDiff, Nat.reduceLeDiff, Nat.reduceAdd, Nat.reduceMul, Int.reduceLT, Int.reduceLE, Int.reduceToNat, BitVec.reduceOfInt, Nat.reduceBEq]; try rfl) rfl rfl ?_
          refine tb_pures 3 5 (by simp only [go_sem, ↓reduceIte, Nat.reduceLT, Nat.reduceEqDiff, Nat.reduceLeDiff, Nat.reduceAdd, Nat.reduceMul, Int.reduceLT, Int.reduceLE, Int.reduceToNat, BitVec.reduceOfInt, Nat.reduceBEq, i64_add hj1]; try rfl) (fun j hj => congrArg (Nk + ·) ((by decide : ∀ j, j < 3 → cntN [0] (5 + j + 1) = cntN [0] (5 + j)) j hj)) ?_
          refine tb_slice (i := 8) (a := 1) (h := l.length) rfl (by simp only [go_sem, ↓reduceIte, Nat.reduceLT, Nat.reduceEqDiff, Nat.reduceLeDiff, Nat.reduceAdd, Nat.reduceMul, Int.reduceLT, Int.reduceLE, Int.reduceToNat, BitVec.reduceOfInt, Nat.reduceBEq]; try rfl) rfl Try.underlying37 ty41 (by simp only [go_sem, ↓reduceIte, Nat.reduceLT, Nat.reduceEqDiff, Nat.reduceLeDiff, Nat.reduceAdd, Nat.reduceMul, Int.reduceLT, Int.reduceLE, Int.reduceToNat, BitVec.reduceOfInt, Nat.reduceBEq]; try rfl) (by rw [AHeap.set_ne _ _ (by omega)]; exact hzk) rfl (Old.calm ⟨hzN, fun h => h⟩) (by simp only [boundA, go_sem] <;> rfl) rfl (by omega) hz3 rfl ?_
          refine tb_append_none (i := 9) rfl (by simp only [go_sem, ↓reduceIte, Nat.reduceLT, Nat.reduceEqDiff, Nat.reduceLeDiff, Nat.reduceAdd, Nat.reduceMul, Int.reduceLT, Int.reduceLE, Int.reduceToNat, BitVec.reduceOfInt, Nat.reduceBEq]; try rfl) rfl Try.underlying37 ty41 (by simp only [go_sem, ↓reduceIte, Nat.reduceLT, Nat.reduceEqDiff, Nat.reduceLeDiff, Nat.reduceAdd, Nat.reduceMul, Int.reduceLT, Int.reduceLE, Int.reduceToNat, BitVec.reduceOfInt, Nat.reduceBEq]; try rfl) rfl (by simp only [go_sem, ↓reduceIte, Nat.reduceLT, Nat.reduceEqDiff, Nat.reduceLeDiff, Nat.reduceAdd, Nat.reduceMul, Int.reduceLT, Int.reduceLE, Int.reduceToNat, BitVec.reduceOfInt, Nat.reduceBEq]; try rfl) (by simp only [lenA]; congr 1; omega) rfl ?_
          refine tb_pures 1 10 (by simp only [go_sem, ↓reduceIte, Nat.reduceLT, Nat.reduceEqDiff, Nat.reduceLeDiff, Nat.reduceAdd, Nat.reduceMul, Int.reduceLT, Int.reduceLE, Int.reduceToNat, BitVec.reduceOfInt, Nat.reduceBEq]; try rfl) (fun j hj => congrArg (Nk + ·) ((by decide : ∀ j, j < 1 → cntN [0] (10 + j + 1) = cntN [0] (10 + j)) j hj)) ?_
          refine tb_end ?_
          refine ⟨rfl, by simp [cntN], _, rfl, ?_, fun j b hj => ?_⟩
          · rw [show without l 0 = [] from by simp [without, List.drop_of_length_le (show l.length ≤ 1 by omega)]]
            exact .inr ⟨Nk, 0, Nat.le_refl _, rfl, Nat.le_refl _, AHeap.set_self _ _ _, rfl⟩
          · have := hNσ j b hj
            rw [AHeap.set_ne _ _ (by omega)]; exact hj
    · obtain ⟨rfl, hN', v12, rfl, hw, hlew⟩ := hK
      change AWp _ _ _ _ _ _ _
      obtain ⟨u, hcu, hu0⟩ := hirr i hlt
      have hroww := rows_own hw
      have hwl : (cubes (without l i)).length = (without l i).length := by simp [cubes]
      have hsw : Small (without l i) := fun c hc => by
        obtain ⟨j, _, hj⟩ := mem_without hc
        exact hsm c (List.mem_of_getElem? hj)
      have hwlen : (without l i).length ≤ 1000000 := by simp [without]; omega
      obtain ⟨b12, c12, rfl⟩ := hroww.len
      rw [hwl] at hroww ⊢
      have hcz : decide (L &&& ~~~ u = 0#64) = false := decide_eq_false hu0
      have hleN : σ.le σ' := AHeap.le_trans hlek hlew
      first | refine awp_seq (awp_lit ?_) | refine awp_lit ?_ | refine awp_seq (awp_seq (awp_lit ?_))
      refine al_pureN 2 (by simp only [go_sem, ↓reduceIte, Nat.reduceLT, Nat.reduceEqDiff, Nat.reduceLeDiff, Nat.reduceAdd, Nat.reduceMul, Int.reduceLT, Int.reduceLE, Int.reduceToNat, BitVec.reduceOfInt, Nat.reduceBEq]; try rfl) ?_
      refine al_gives (vs := ?vs2) (v := ?v2) rfl ?ha2 ?hh2 (by kernel_rfl) rfl (by simp only [go_sem, ↓reduceIte, Nat.reduceLT, Nat.reduceEqDiff, Nat.reduceLeDiff, Nat.reduceAdd, Nat.reduceMul, Int.reduceLT, Int.reduceLE, Int.reduceToNat, BitVec.reduceOfInt, Nat.reduceBEq]) ?kk2
      case ha2 => simp only [go_sem, ↓reduceIte, Nat.reduceLT, Nat.reduceEqDiff, Nat.reduceLeDiff, Nat.reduceAdd, Nat.reduceMul, Int.reduceLT, Int.reduceLE, Int.reduceToNat, BitVec.reduceOfInt, Nat.reduceBEq]; try rfl
      case hh2 => exact rCover_gives (without l i) hwlen hsw n _ _ _ hroww
      rw [hcu]
      refine al_pureN 5 (by simp only [go_sem, ↓reduceIte, Nat.reduceLT, Nat.reduceEqDiff, Nat.reduceLeDiff, Nat.reduceAdd, Nat.reduceMul, Int.reduceLT, Int.reduceLE, Int.reduceToNat, BitVec.reduceOfInt, Nat.reduceBEq, tup2]; try rfl) ?_
      refine al_end [0, 1, 2, 3, 11, 13] ?_
      refine awp_seq ?_
      refine awp_seq (awp_pures [0, 1, 2, 3, 11, 64] (by simp only [go_sem, ↓reduceIte, Nat.reduceLT, Nat.reduceEqDiff, Nat.reduceLeDiff, Nat.reduceAdd, Nat.reduceMul, Int.reduceLT, Int.reduceLE, Int.reduceToNat, BitVec.reduceOfInt, Nat.reduceBEq, hcz]; try rfl) ?_)
      refine awp_if rfl (fun h => by cases h) (fun _ => ?_)
      refine awp_skip ?_
      refine awp_seq (awp_pures [0, 1, 2, 3, 11, 15] (by simp only [go_sem, ↓reduceIte, Nat.reduceLT, Nat.reduceEqDiff, Nat.reduceLeDiff, Nat.reduceAdd, Nat.reduceMul, Int.reduceLT, Int.reduceLE, Int.reduceToNat, BitVec.reduceOfInt, Nat.reduceBEq]; try rfl) ?_)
      have hci := isopc l[i] (List.getElem_mem hlt)
      have hpri := hpr l[i] (List.getElem_mem hlt)
      have hrk := hrow.at (j := i) (by rw [hsl]; exact hlt)
      obtain ⟨id', off', cap', b', q1, q2, q3⟩ := hrk
      rw [hsl] at q1
      cases q1
      have q3 : cellsA b' (0 + i * 2) 2 = some (cubeV l[i]) := by rw [q3]; simp [cubes]
      have q2 := hleN _ _ q2
      generalize l[i] = c at hci hpri q3
      obtain ⟨p, q⟩ := c
      simp only at hci hpri
      obtain ⟨hc0, hp, hq⟩ := hci
      obtain ⟨f1, f2⟩ := cells_two q3
      have hp8 : p < 256 := by omega
      have hq8 : q < 256 := by omega
      have hpq : p ||| q < 256 := Nat.or_lt_two_pow (n := 8) hp8 hq8
      refine awp_block (awp_loop ?_)
      refine ALoop.cast3 (aloop_ind (α := Nat × Nat × AHeap) (fun x => x.1 ≤ n ∧ N' ≤ x.2.1 ∧ σ'.le x.2.2) (fun x => n - x.1)
        (fun x => [(0, .slice (some ⟨zid, 0, none⟩) l.length cc), (1, .int .u64 L.toNat), (2, .int .u64 U.toNat), (3, .int .i64 n), (11, .int .i64 i), (15, .int .i64 x.1)]) (fun x => x.2.1) (fun x => x.2.2) ?_ (0, N', σ') ⟨by simp, Nat.le_refl _, AHeap.le_refl _⟩) rfl rfl rfl
      rintro ⟨v, Nv, σv⟩ ⟨hv, hNv, hlev⟩ ih2
      simp only at hv hNv hlev ⊢
      by_cases hvn : v < n
      · have hb2 : decide ((v : Int) < (n : Int)) = true := decide_eq_true (by omega)
        have hwv := u64_wrap_nat (show v < 18446744073709551616 by omega)
        have q2v := hlev _ _ q2
        have hpow : 2 ^ v < 256 := Nat.pow_lt_pow_right (m := v) (n := 8) (by omega) (by omega)
        refine awp_seq ?_
        refine awp_seq (awp_pures [0, 1, 2, 3, 11, 15, 67] (by simp only [go_sem, ↓reduceIte, Nat.reduceLT, Nat.reduceEqDiff, Nat.reduceLeDiff, Nat.reduceAdd, Nat.reduceMul, Int.reduceLT, Int.reduceLE, Int.reduceToNat, BitVec.reduceOfInt, Nat.reduceBEq, hb2]; try rfl) ?_)
        refine awp_if rfl (fun _ => ?_) (fun h => by cases h)
        refine awp_skip ?_
        refine awp_seq (awp_block ?_)
        refine awp_seq (awp_pures [0, 1, 2, 3, 11, 15, 16] (by simp only [go_sem, ↓reduceIte, Nat.reduceLT, Nat.reduceEqDiff, Nat.reduceLeDiff, Nat.reduceAdd, Nat.reduceMul, Int.reduceLT, Int.reduceLE, Int.reduceToNat, BitVec.reduceOfInt, Nat.reduceBEq, hwv, u8_shl_one (show v ≤ 7 by omega)]; try rfl) ?_)
        refine awp_seq ?_
        refine awp_seq (awp_quiet [0, 1, 2, 3, 11, 15, 16, 86] (by kernel_rfl) (by kernel_rfl) ?_)
        refine aq_pureN 4 (by simp only [go_sem, ↓reduceIte, Nat.reduceLT, Nat.reduceEqDiff, Nat.reduceLeDiff, Nat.reduceAdd, Nat.reduceMul, Int.reduceLT, Int.reduceLE, Int.reduceToNat, BitVec.reduceOfInt, Nat.reduceBEq, hii]; try rfl) ?_
        refine aq_load rfl (by simp only [go_sem, ↓reduceIte, Nat.reduceLT, Nat.reduceEqDiff, Nat.reduceLeDiff, Nat.reduceAdd, Nat.reduceMul, Int.reduceLT, Int.reduceLE, Int.reduceToNat, BitVec.reduceOfInt, Nat.reduceBEq]; try rfl) rfl (by simp only [go_sem, ↓reduceIte, Nat.reduceLT, Nat.reduceEqDiff, Nat.reduceLeDiff, Nat.reduceAdd, Nat.reduceMul, Int.reduceLT, Int.reduceLE, Int.reduceToNat, BitVec.reduceOfInt, Nat.reduceBEq]; try rfl) q2v (loadA_scalar agg5 f1) ?_
        refine aq_pureN 4 (by simp only [go_sem, ↓reduceIte, Nat.reduceLT, Nat.reduceEqDiff, Nat.reduceLeDiff, Nat.reduceAdd, Nat.reduceMul, Int.reduceLT, Int.reduceLE, Int.reduceToNat, BitVec.reduceOfInt, Nat.reduceBEq, hii]; try rfl) ?_
        refine aq_load rfl (by simp only [go_sem, ↓reduceIte, Nat.reduceLT, Nat.reduceEqDiff, Nat.reduceLeDiff, Nat.reduceAdd, Nat.reduceMul, Int.reduceLT, Int.reduceLE, Int.reduceToNat, BitVec.reduceOfInt, Nat.reduceBEq]; try rfl) rfl (by simp only [go_sem, ↓reduceIte, Nat.reduceLT, Nat.reduceEqDiff, Nat.reduceLeDiff, Nat.reduceAdd, Nat.reduceMul, Int.reduceLT, Int.reduceLE, Int.reduceToNat, BitVec.reduceOfInt, Nat.reduceBEq]; try rfl) q2v (loadA_scalar agg5 f2) ?_
        refine aq_pureN 4 (by simp only [go_sem, ↓reduceIte, Nat.reduceLT, Nat.reduceEqDiff, Nat.reduceLeDiff, Nat.reduceAdd, Nat.reduceMul, Int.reduceLT, Int.reduceLE, Int.reduceToNat, BitVec.reduceOfInt, Nat.reduceBEq, u8_or, hp8, hq8, u8_and, hpq, hpow]; try rfl) ?_
        refine aq_nil ?_
        have hj2 : -9223372036854775808 ≤ (v : Int) + 1 ∧ (v : Int) + 1 ≤ 9223372036854775807 := by omega
        cases hbit : (p ||| q).testBit v with
        | false =>
          have hz0 : ((((p ||| q) &&& 2 ^ v : Nat) : Int) == 0) = true := by rw [and_pow2, hbit]; simp
          rw [hz0]
          refine awp_if rfl (fun _ => ?_) (fun h => by cases h)
          refine awp_exit ?_
          simp only [Go.Abs.Seq, Go.Abs.Round, Go.Abs.InBlock, ↓reduceIte]
          refine awp_pures [0, 1, 2, 3, 11, 15] (by simp only [go_sem, ↓reduceIte, Nat.reduceLT, Nat.reduceEqDiff, Nat.reduceLeDiff, Nat.reduceAdd, Nat.reduceMul, Int.reduceLT, Int.reduceLE, Int.reduceToNat, BitVec.reduceOfInt, Nat.reduceBEq, i64_add hj2]; try rfl) ?_
          refine ALoop.cast (ih2 (v + 1, Nv, σv) ⟨hvn, hNv, hlev⟩ (by simp; omega)) (by first | (simp only [go_sem]; try rfl) | rfl)
        | true =>
          have hz0 : ((((p ||| q) &&& 2 ^ v : Nat) : Int) == 0) = false := by
            have hne : (2 ^ v : Nat) ≠ 0 := Nat.ne_of_gt (Nat.two_pow_pos v)
            rw [and_pow2, hbit, if_pos rfl]
            exact beq_eq_false_iff_ne.2 fun hh => hne (Int.ofNat.inj hh)
          rw [hz0]
          obtain ⟨w, hcw, hwu⟩ := hpri v hvn hbit
          refine awp_if rfl (fun h => by cases h) (fun _ => ?_)
          refine awp_skip ?_
          have hv7 : v ≤ 7 := by omega
          have hzNv : zid < Nv := Nat.lt_of_lt_of_le hzN (by omega)
          refine awp_fresh fun hNσ2 => ?_
          refine awp_seq (awp_tbk [0, 1, 2, 3, 11, 15, 16, 17, 18] (fun _ => (fun _ => False)) [17] (fun k => Nv + cntN [15] k) (by kernel_rfl) rfl ?_)
          refine tb_pures 4 0 (by simp only [go_sem, ↓reduceIte, Nat.reduceLT, Nat.reduceEqDiff, Nat.reduceLeDiff, Nat.reduceAdd, Nat.reduceMul, Int.reduceLT, Int.reduceLE, Int.reduceToNat, BitVec.reduceOfInt, Nat.reduceBEq, hii]; try rfl) (fun j hj => congrArg (Nv + ·) ((by decide : ∀ j, j < 4 → cntN [15] (0 + j + 1) = cntN [15] (0 + j)) j hj)) ?_
          refine tb_load (i := 4) rfl (by simp only [go_sem, ↓reduceIte, Nat.reduceLT, Nat.reduceEqDiff, Nat.reduceLeDiff, Nat.reduceAdd, Nat.reduceMul, Int.reduceLT, Int.reduceLE, Int.reduceToNat, BitVec.reduceOfInt, Nat.reduceBEq]) rfl (by simp only [go_sem, ↓reduceIte, Nat.reduceLT, Nat.reduceEqDiff, Nat.reduceLeDiff, Nat.reduceAdd, Nat.reduceMul, Int.reduceLT, Int.reduceLE, Int.reduceToNat, BitVec.reduceOfInt, Nat.reduceBEq]; try rfl) q2v (Old.calm ⟨hzNv, fun h => h⟩) (loadA_scalar agg5 f1) rfl ?_
          refine tb_pures 2 5 (by simp only [go_sem, ↓reduceIte, Nat.reduceLT, Nat.reduceEqDiff, Nat.reduceLeDiff, Nat.reduceAdd, Nat.reduceMul, Int.reduceLT, Int.reduceLE, Int.reduceToNat, BitVec.reduceOfInt, Nat.reduceBEq, u8_andNot_pow hp8 hv7]; try rfl) (fun j hj => congrArg (Nv + ·) ((by decide : ∀ j, j < 2 → cntN [15] (5 + j + 1) = cntN [15] (5 + j)) j hj)) ?_
          refine tb_pures 4 7 (by simp only [go_sem, ↓reduceIte, Nat.reduceLT, Nat.reduceEqDiff, Nat.reduceLeDiff, Nat.reduceAdd, Nat.reduceMul, Int.reduceLT, Int.reduceLE, Int.reduceToNat, BitVec.reduceOfInt, Nat.reduceBEq, hii]; try rfl) (fun j hj => congrArg (Nv + ·) ((by decide : ∀ j, j < 4 → cntN [15] (7 + j + 1) = cntN [15] (7 + j)) j hj)) ?_
          refine tb_load (i := 11) rfl (by simp only [go_sem, ↓reduceIte, Nat.reduceLT, Nat.reduceEqDiff, Nat.reduceLeDiff, Nat.reduceAdd, Nat.reduceMul, Int.reduceLT, Int.reduceLE, Int.reduceToNat, BitVec.reduceOfInt, Nat.reduceBEq]) rfl (by simp only [go_sem, ↓reduceIte, Nat.reduceLT, Nat.reduceEqDiff, Nat.reduceLeDiff, Nat.reduceAdd, Nat.reduceMul, Int.reduceLT, Int.reduceLE, Int.reduceToNat, BitVec.reduceOfInt, Nat.reduceBEq]; try rfl) q2v (Old.calm ⟨hzNv, fun h => h⟩) (loadA_scalar agg5 f2) rfl ?_
          refine tb_pures 2 12 (by simp only [go_sem, ↓reduceIte, Nat.reduceLT, Nat.reduceEqDiff, Nat.reduceLeDiff, Nat.reduceAdd, Nat.reduceMul, Int.reduceLT, Int.reduceLE, Int.reduceToNat, BitVec.reduceOfInt, Nat.reduceBEq, u8_andNot_pow hq8 hv7]; try rfl) (fun j hj => congrArg (Nv + ·) ((by decide : ∀ j, j < 2 → cntN [15] (12 + j + 1) = cntN [15] (12 + j)) j hj)) ?_
          refine tb_build (i := 14) (ps := [(0, .int .u8 (setb p v false : Nat)), (1, .int .u8 (setb q v false : Nat))]) (r := cubeV (setb p v false, setb q v false)) rfl (by simp only [go_sem, ↓reduceIte, Nat.reduceLT, Nat.reduceEqDiff, Nat.reduceLeDiff, Nat.reduceAdd, Nat.reduceMul, Int.reduceLT, Int.reduceLE, Int.reduceToNat, BitVec.reduceOfInt, Nat.reduceBEq]; try rfl) rfl Try.underlying41 ty41 rfl (pl := [(0, 1), (1, 1)]) (by kernel_rfl) rfl rfl rfl ?_
          refine xt_row (m := Nv) (i := 15) (ps := [(0, .agg (cubeV (setb p v false, setb q v false)).toArray)]) (r := cubeV (setb p v false, setb q v false)) rfl rfl rfl (by simp only [go_sem, ↓reduceIte, Nat.reduceLT, Nat.reduceEqDiff, Nat.reduceLeDiff, Nat.reduceAdd, Nat.reduceMul, Int.reduceLT, Int.reduceLE, Int.reduceToNat, BitVec.reduceOfInt, Nat.reduceBEq]; try rfl) rfl Try.underlying37 ty41 rfl rfl (by decide) (by decide) rfl rfl (Nat.le_refl 2) (bdd_of1 rfl (.of_flat rfl)) ?_
          refine tb_pures 1 16 (by simp only [go_sem, ↓reduceIte, Nat.reduceLT, Nat.reduceEqDiff, Nat.reduceLeDiff, Nat.reduceAdd, Nat.reduceMul, Int.reduceLT, Int.reduceLE, Int.reduceToNat, BitVec.reduceOfInt, Nat.reduceBEq]; try rfl) (fun j hj => congrArg (Nv + ·) ((by decide : ∀ j, j < 1 → cntN [15] (16 + j + 1) = cntN [15] (16 + j)) j hj)) ?_
          have hs1 : RowsAt (viewOf (fun j => j = Nv) (fun _ => False) (σv.set Nv ⟨cubeV (setb p v false, setb q v false), true, 2⟩)) 2 (.slice (some ⟨Nv, 0, none⟩) 1 1) (cubes [(setb p v false, setb q v false)]) := by
            obtain ⟨b', g1, g2, g3, _⟩ := viewOf_get (T := fun j => j = Nv) (W := fun _ => False) (σ := σv.set Nv ⟨cubeV (setb p v false, setb q v false), true, 2⟩) (j := Nv) rfl (AHeap.set_self _ _ _)
            refine .inr ⟨Nv, 0, 1, b', rfl, g1, fun j r hr => ?_⟩
            match j, hr with
            | 0, hr => simp [cubes] at hr; subst hr; simp only [cellsA, g2]; rfl
            | j + 1, hr => simp [cubes] at hr
          have hsm1 : Small [(setb p v false, setb q v false)] := fun c hc => by
            rw [List.mem_singleton.1 hc]
            exact ⟨setb_lt (n := 8) false hp8 (by omega), setb_lt (n := 8) false hq8 (by omega)⟩
          have hcall := rCover_gives [(setb p v false, setb q v false)] (by simp) hsm1 n _ (Nv + 1) _ hs1
          rw [hcw] at hcall
          refine xt_call (m := Nv + 1) (i := 17) (fun j => j = Nv) rfl rfl rfl (by simp only [go_sem, ↓reduceIte, Nat.reduceLT, Nat.reduceEqDiff, Nat.reduceLeDiff, Nat.reduceAdd, Nat.reduceMul, Int.reduceLT, Int.reduceLE, Int.reduceToNat, BitVec.reduceOfInt, Nat.reduceBEq]; try rfl) (fun j hj => see_made (d := 15) (by decide) (by kernel_rfl) (Nat.le_of_eq (hj ▸ rfl)) (hj ▸ Nat.lt_succ_self Nv)) (fun j b hj hb x hx => ?_) hcall (by kernel_rfl) rfl (by simp only [go_sem, ↓reduceIte, Nat.reduceLT, Nat.reduceEqDiff, Nat.reduceLeDiff, Nat.reduceAdd, Nat.reduceMul, Int.reduceLT, Int.reduceLE, Int.reduceToNat, BitVec.reduceOfInt, Nat.reduceBEq]; try rfl) (by decide) (bdd_of2 rfl (.slice (by omega)) (.of_flat rfl)) ?_
          · subst hj
            rw [AHeap.set_self] at hb; cases hb
            simp [cubeV] at hx
            rcases hx with rfl | rfl <;> exact .of_flat rfl
          refine tb_pures 5 18 (by simp only [go_sem, ↓reduceIte, Nat.reduceLT, Nat.reduceEqDiff, Nat.reduceLeDiff, Nat.reduceAdd, Nat.reduceMul, Int.reduceLT, Int.reduceLE, Int.reduceToNat, BitVec.reduceOfInt, Nat.reduceBEq, tup2]; try rfl) (fun j hj => congrArg (Nv + ·) ((by decide : ∀ j, j < 5 → cntN [15] (18 + j + 1) = cntN [15] (18 + j)) j hj)) ?_
          refine tb_end ?_
          have hcz2 : decide (w &&& ~~~ U = 0#64) = false := decide_eq_false hwu
          refine awp_seq (awp_pures [0, 1, 2, 3, 11, 15, 111] (by simp only [go_sem, ↓reduceIte, Nat.reduceLT, Nat.reduceEqDiff, Nat.reduceLeDiff, Nat.reduceAdd, Nat.reduceMul, Int.reduceLT, Int.reduceLE, Int.reduceToNat, BitVec.reduceOfInt, Nat.reduceBEq, hcz2]; try rfl) ?_)
          refine awp_if rfl (fun h => by cases h) (fun _ => ?_)
          refine awp_skip ?_
          refine awp_pures [0, 1, 2, 3, 11, 15] (by simp only [go_sem, ↓reduceIte, Nat.reduceLT, Nat.reduceEqDiff, Nat.reduceLeDiff, Nat.reduceAdd, Nat.reduceMul, Int.reduceLT, Int.reduceLE, Int.reduceToNat, BitVec.reduceOfInt, Nat.reduceBEq, i64_add hj2]; try rfl) ?_
          refine ALoop.cast (ih2 (v + 1, Nv + 1, _) ⟨hvn, by simp; omega, ?_⟩ (by simp; omega)) (by first | (simp only [go_sem]; try rfl) | rfl)
          exact AHeap.le_set hlev fun j b hb => Nat.ne_of_lt (hNσ2 j b (hlev j b hb))
      · have hb2 : decide ((v : Int) < (n : Int)) = false := decide_eq_false (by omega)
        refine awp_seq ?_
        refine awp_seq (awp_pures [0, 1, 2, 3, 11, 15, 67] (by simp only [go_sem, ↓reduceIte, Nat.reduceLT, Nat.reduceEqDiff, Nat.reduceLeDiff, Nat.reduceAdd, Nat.reduceMul, Int.reduceLT, Int.reduceLE, Int.reduceToNat, BitVec.reduceOfInt, Nat.reduceBEq, hb2]; try rfl) ?_)
        refine awp_if rfl (fun h => by cases h) (fun _ => ?_)
        refine awp_exit ?_
        simp only [Go.Abs.Seq, Go.Abs.Round, Go.Abs.InBlock, ↓reduceIte]
        refine awp_pures [0, 1, 2, 3, 11] (by simp only [go_sem, ↓reduceIte, Nat.reduceLT, Nat.reduceEqDiff, Nat.reduceLeDiff, Nat.reduceAdd, Nat.reduceMul, Int.reduceLT, Int.reduceLE, Int.reduceToNat, BitVec.reduceOfInt, Nat.reduceBEq, i64_add hj1]; try rfl) ?_
        refine ALoop.cast (ih (i + 1, Nv, σv) ⟨hlt, by simp; omega, AHeap.le_trans hleN hlev⟩ (by simp; omega)) (by first | (simp only [go_sem]; try rfl) | rfl)
  · have hb : decide ((i : Int) < (l.length : Int)) = false := decide_eq_false (by omega)
    refine awp_seq ?_
    refine awp_seq (awp_pures [0, 1, 2, 3, 11, 42] (by simp only [go_sem, ↓reduceIte, Nat.reduceLT, Nat.reduceEqDiff, Nat.reduceLeDiff, Nat.reduceAdd, Nat.reduceMul, Int.reduceLT, Int.reduceLE, Int.reduceToNat, BitVec.reduceOfInt, Nat.reduceBEq, hb]; try rfl) ?_)
    refine awp_if rfl (fun h => by cases h) (fun _ => ?_)
    refine awp_exit ?_
    simp only [Go.Abs.Seq, Go.Abs.Round, Go.Abs.InBlock, ↓reduceIte]
    refine awp_seq (awp_pures [8] (by simp only [go_sem, ↓reduceIte, Nat.reduceLT, Nat.reduceEqDiff, Nat.reduceLeDiff, Nat.reduceAdd, Nat.reduceMul, Int.reduceLT, Int.reduceLE, Int.reduceToNat, BitVec.reduceOfInt, Nat.reduceBEq]; try rfl) ?_)
    exact awp_ret ⟨_, rfl, rfl, hlek⟩
end Go.Proofs.Ytbpjoamdcbbnnaa
