/- The reference's Cover against the program's (plain), and the walks of the reference's Cubes and Cover. -/
import Derived.Test.YtbpjoamdcbbnnaaTabR3
import Derived.Test.YtbpjoamdcbbnnaaTabRef5
set_option linter.unusedSimpArgs false
set_option linter.unusedVariables false
namespace Go.Proofs.Ytbpjoamdcbbnnaa
open Go.Abs Go.Tab
attribute [local go_sem] eqA Try.underlying22 Try.underlying3 Try.underlying77 Try.underlying52 Try.underlying23 Try.underlying25 Try.underlying5 Try.underlying4 Try.underlying36 Try.underlying37 Try.underlying39 Try.underlying41 Try.underlying72 Try.underlying49 Try.underlying26 size22 size3 size23 size5 size4 size39 size41 Nat.mul_one bne_self_eq_false
theorem shr_zero' {f n : Nat} : f >>> n = 0 ↔ f < 2 ^ n := by
  rw [Nat.shiftRight_eq_div_pow, Nat.div_eq_zero_iff_lt (Nat.two_pow_pos n)]
theorem badCube_iff {n : Nat} {c : Nat × Nat} : badCube n c = false ↔ c.1 &&& c.2 = 0 ∧ c.1 ||| c.2 < 2 ^ n := by
  simp only [badCube, Bool.or_eq_false_iff, decide_eq_false_iff_not, Decidable.not_not, shr_zero']
theorem or_lt {a b n : Nat} (h : a ||| b < 2 ^ n) : a < 2 ^ n ∧ b < 2 ^ n :=
  ⟨Nat.lt_of_le_of_lt Nat.left_le_or h, Nat.lt_of_le_of_lt Nat.right_le_or h⟩
def cubesB (n : Nat) (l : List (Nat × Nat)) : Bool := l.all fun c => !badCube n c
theorem coverGo_bad (n : Nat) : ∀ (l : List (Nat × Nat)) (t : BitVec 64), cubesB n l = false → coverGo n l t = (0#64, 1)
  | [], t, h => by cases h
  | c :: l, t, h => by
    unfold coverGo
    cases hb : badCube n c with
    | true => rw [if_pos rfl]
    | false =>
      rw [if_neg (by simp)]
      refine coverGo_bad n l _ ?_
      simpa [cubesB, hb] using h
def anyB (l : List (Nat × Nat)) (k : Nat) : Bool := l.any fun c => holdsB c k
theorem coverR_ref (l : List (Nat × Nat)) (m : Int) : CoverR l m = if 0 ≤ m ∧ m ≤ 6 ∧ cubesB m.toNat l = true then (tabB m.toNat (anyB l), 0) else (0#64, 1) := by
  by_cases hm : m = (lim m : Int)
  · have h6 := lim_le m
    obtain ⟨n, rfl⟩ : ∃ n : Nat, m = n := ⟨lim m, hm⟩
    have hn : n ≤ 6 := by omega
    rw [CoverR, if_pos hm, Int.toNat_natCast]
    cases hc : cubesB n l with
    | false => rw [if_neg (by simp), coverGo_bad n l _ hc]
    | true =>
      rw [if_pos ⟨by omega, by omega, rfl⟩]
      have hok : ∀ c ∈ l, c.1 < 2 ^ n ∧ c.2 < 2 ^ n ∧ c.1 &&& c.2 = 0 := fun c hm => by
        have := List.all_eq_true.1 hc c hm
        have := badCube_iff.1 (by simpa using this)
        exact ⟨(or_lt this.2).1, (or_lt this.2).2, this.1⟩
      obtain ⟨g1, g2, g3⟩ := coverGo_ok hn l 0#64 hok (fun k hk => by simp at hk)
      refine Prod.ext ?_ g1
      refine eq_of_bits g2 (tab_tabB hn _) fun k hk => ?_
      rw [Bool.eq_iff_iff, g3 k hk, tabB_bit hn, decide_eq_true hk, Bool.true_and, anyB, List.any_eq_true]
      simp only [BitVec.getLsbD_zero, Bool.false_eq_true, false_or, holdsB_iff]
  · rw [CoverR, if_neg hm, if_neg]
    rintro ⟨h0, h6, _⟩
    apply hm
    obtain ⟨n, rfl⟩ : ∃ n : Nat, m = n := ⟨m.toNat, by omega⟩
    rw [lim_of (by omega)]

theorem cells_two {b : Blk} {o : Nat} {x y : Value} (h : cellsA b o 2 = some [x, y]) : b.cells[o]? = some x ∧ b.cells[o + 1]? = some y := by
  unfold cellsA at h
  split at h
  · simp only [Option.some.injEq] at h
    have h0 := congrArg (·[0]?) h
    have h1 := congrArg (·[1]?) h
    simp only [List.getElem?_take, List.getElem?_drop] at h0 h1
    exact ⟨by simpa using h0, by simpa using h1⟩
  · cases h
theorem Cubes_gives (l : List (Nat × Nat)) (hl : l.length ≤ 1000000) (hsm : Small l) {n : Nat} (hn : n ≤ 6) (sv : Value) (N : Nat) (σ : AHeap) (hs : RowsAt σ 2 sv (cubes l)) :
    Gives Try.prog 56 [sv, .int .i64 n] N σ (.bool (cubesB n l)) := by
  have hsl : (cubes l).length = l.length := by simp [cubes]
  obtain ⟨bb, cc, hv⟩ := hs.len
  refine gives_of rfl (aok_fresh fun hN => aok_body (n := 42) Try.func56 rfl rfl (by simp) ?_)
  subst hv
  rw [hsl] at hs ⊢
  have hw := u64_wrap_nat (show n < 18446744073709551616 by omega)
  have h64 := two_pow_le6 hn
  refine awp_seq (awp_pures [0, 1] (by simp only [go_sem, ↓reduceIte, Nat.reduceLT, Nat.reduceEqDiff, Nat.reduceLeDiff, Nat.reduceAdd, Nat.reduceMul, Int.reduceLT, Int.reduceLE, Int.reduceToNat, BitVec.reduceOfInt, Nat.reduceBEq]; try rfl) ?_)
  refine awp_seq ?_
  refine awp_seq (awp_pures [0, 1, 5] (by simp only [go_sem, ↓reduceIte, Nat.reduceLT, Nat.reduceEqDiff, Nat.reduceLeDiff, Nat.reduceAdd, Nat.reduceMul, Int.reduceLT, Int.reduceLE, Int.reduceToNat, BitVec.reduceOfInt, Nat.reduceBEq]; try rfl) ?_)
  refine awp_block (awp_loop ?_)
  refine ALoop.cast (aloop_ind (α := Nat) (fun i => i ≤ l.length ∧ ∀ c ∈ l.take i, badCube n c = false) (fun i => l.length - i)
    (fun i => [(0, .slice bb l.length cc), (1, .int .i64 n), (5, .int .i64 i)]) (fun _ => N) (fun _ => σ) ?_ 0 ⟨by simp, by simp⟩) rfl
  rintro i ⟨hi, hpre⟩ ih
  by_cases hlt : i < l.length
  · have hb : decide ((i : Int) < (l.length : Int)) = true := decide_eq_true (by omega)
    have hj1 : -9223372036854775808 ≤ (i : Int) + 1 ∧ (i : Int) + 1 ≤ 9223372036854775807 := by omega
    have hii : 0 ≤ (i : Int) ∧ (i : Int) < (l.length : Int) := by omega
    obtain ⟨id, off, cap, b, e1, e2, e3⟩ := hs.at (j := i) (by rw [hsl]; exact hlt)
    rw [hsl] at e1
    cases e1
    have e3 : cellsA b (off + i * 2) 2 = some (cubeV l[i]) := by rw [e3]; simp [cubes]
    have hcs := hsm l[i] (List.getElem_mem hlt)
    have htake : ∀ x, x ∈ l.take (i + 1) ↔ x ∈ l.take i ∨ x = l[i] := fun x => by
      rw [List.take_add_one, List.getElem?_eq_getElem hlt, List.mem_append]; simp
    have hmem : l[i] ∈ l := List.getElem_mem hlt
    generalize l[i] = c at e3 hcs htake hmem
    obtain ⟨p, q⟩ := c
    obtain ⟨hp, hq⟩ := hcs
    simp only at hp hq
    obtain ⟨f1, f2⟩ := cells_two e3
    have hpq : p ||| q < 256 := Nat.or_lt_two_pow (n := 8) hp hq
    have hwq := i64_wrap_nat (show p ||| q < 9223372036854775808 by omega)
    refine awp_seq ?_
    refine awp_seq (awp_pures [0, 1, 5, 9] (by simp only [go_sem, ↓reduceIte, Nat.reduceLT, Nat.reduceEqDiff, Nat.reduceLeDiff, Nat.reduceAdd, Nat.reduceMul, Int.reduceLT, Int.reduceLE, Int.reduceToNat, BitVec.reduceOfInt, Nat.reduceBEq, hb]; try rfl) ?_)
    refine awp_if rfl (fun _ => ?_) (fun h => by cases h)
    refine awp_skip ?_
    refine awp_seq (awp_block ?_)
    refine awp_seq (awp_quiet [0, 1, 5, 41] (by kernel_rfl) (by kernel_rfl) ?_)
    refine aq_pureN 4 (by simp only [go_sem, ↓reduceIte, Nat.reduceLT, Nat.reduceEqDiff, Nat.reduceLeDiff, Nat.reduceAdd, Nat.reduceMul, Int.reduceLT, Int.reduceLE, Int.reduceToNat, BitVec.reduceOfInt, Nat.reduceBEq, hii]; try rfl) ?_
    refine aq_load rfl (by simp only [go_sem, ↓reduceIte, Nat.reduceLT, Nat.reduceEqDiff, Nat.reduceLeDiff, Nat.reduceAdd, Nat.reduceMul, Int.reduceLT, Int.reduceLE, Int.reduceToNat, BitVec.reduceOfInt, Nat.reduceBEq]; try rfl) rfl (by simp only [go_sem, ↓reduceIte, Nat.reduceLT, Nat.reduceEqDiff, Nat.reduceLeDiff, Nat.reduceAdd, Nat.reduceMul, Int.reduceLT, Int.reduceLE, Int.reduceToNat, BitVec.reduceOfInt, Nat.reduceBEq]; try rfl) e2 (loadA_scalar agg5 f1) ?_
    refine aq_pureN 4 (by simp only [go_sem, ↓reduceIte, Nat.reduceLT, Nat.reduceEqDiff, Nat.reduceLeDiff, Nat.reduceAdd, Nat.reduceMul, Int.reduceLT, Int.reduceLE, Int.reduceToNat, BitVec.reduceOfInt, Nat.reduceBEq, hii]; try rfl) ?_
    refine aq_load rfl (by simp only [go_sem, ↓reduceIte, Nat.reduceLT, Nat.reduceEqDiff, Nat.reduceLeDiff, Nat.reduceAdd, Nat.reduceMul, Int.reduceLT, Int.reduceLE, Int.reduceToNat, BitVec.reduceOfInt, Nat.reduceBEq]; try rfl) rfl (by simp only [go_sem, ↓reduceIte, Nat.reduceLT, Nat.reduceEqDiff, Nat.reduceLeDiff, Nat.reduceAdd, Nat.reduceMul, Int.reduceLT, Int.reduceLE, Int.reduceToNat, BitVec.reduceOfInt, Nat.reduceBEq]; try rfl) e2 (loadA_scalar agg5 f2) ?_
    by_cases h1 : p &&& q = 0
    · have hb1 := bne_zero' h1
      refine aq_pureN 3 (by simp only [go_sem, ↓reduceIte, Nat.reduceLT, Nat.reduceEqDiff, Nat.reduceLeDiff, Nat.reduceAdd, Nat.reduceMul, Int.reduceLT, Int.reduceLE, Int.reduceToNat, BitVec.reduceOfInt, Nat.reduceBEq, u8_and, hp, hq, hb1]; try rfl) ?_
      refine aq_pureN 4 (by simp only [go_sem, ↓reduceIte, Nat.reduceLT, Nat.reduceEqDiff, Nat.reduceLeDiff, Nat.reduceAdd, Nat.reduceMul, Int.reduceLT, Int.reduceLE, Int.reduceToNat, BitVec.reduceOfInt, Nat.reduceBEq, hii]; try rfl) ?_
      refine aq_load rfl (by simp only [go_sem, ↓reduceIte, Nat.reduceLT, Nat.reduceEqDiff, Nat.reduceLeDiff, Nat.reduceAdd, Nat.reduceMul, Int.reduceLT, Int.reduceLE, Int.reduceToNat, BitVec.reduceOfInt, Nat.reduceBEq]; try rfl) rfl (by simp only [go_sem, ↓reduceIte, Nat.reduceLT, Nat.reduceEqDiff, Nat.reduceLeDiff, Nat.reduceAdd, Nat.reduceMul, Int.reduceLT, Int.reduceLE, Int.reduceToNat, BitVec.reduceOfInt, Nat.reduceBEq]; try rfl) e2 (loadA_scalar agg5 f1) ?_
      refine aq_pureN 4 (by simp only [go_sem, ↓reduceIte, Nat.reduceLT, Nat.reduceEqDiff, Nat.reduceLeDiff, Nat.reduceAdd, Nat.reduceMul, Int.reduceLT, Int.reduceLE, Int.reduceToNat, BitVec.reduceOfInt, Nat.reduceBEq, hii]; try rfl) ?_
      refine aq_load rfl (by simp only [go_sem, ↓reduceIte, Nat.reduceLT, Nat.reduceEqDiff, Nat.reduceLeDiff, Nat.reduceAdd, Nat.reduceMul, Int.reduceLT, Int.reduceLE, Int.reduceToNat, BitVec.reduceOfInt, Nat.reduceBEq]; try rfl) rfl (by simp only [go_sem, ↓reduceIte, Nat.reduceLT, Nat.reduceEqDiff, Nat.reduceLeDiff, Nat.reduceAdd, Nat.reduceMul, Int.reduceLT, Int.reduceLE, Int.reduceToNat, BitVec.reduceOfInt, Nat.reduceBEq]; try rfl) e2 (loadA_scalar agg5 f2) ?_
      by_cases h2 : p ||| q < 2 ^ n
      · have hb2 : decide (((p ||| q : Nat) : Int) ≥ ((2 ^ n : Nat) : Int)) = false := decide_eq_false (by omega)
        refine aq_pureN 5 (by simp only [go_sem, ↓reduceIte, Nat.reduceLT, Nat.reduceEqDiff, Nat.reduceLeDiff, Nat.reduceAdd, Nat.reduceMul, Int.reduceLT, Int.reduceLE, Int.reduceToNat, BitVec.reduceOfInt, Nat.reduceBEq, u8_or, hp, hq, hwq, hw, i64_shl_one (show n ≤ 62 by omega)]; try rfl) ?_
        refine aq_pureN 2 (by simp only [go_sem, ↓reduceIte, Nat.reduceLT, Nat.reduceEqDiff, Nat.reduceLeDiff, Nat.reduceAdd, Nat.reduceMul, Int.reduceLT, Int.reduceLE, Int.reduceToNat, BitVec.reduceOfInt, Nat.reduceBEq, hb2]; try rfl) ?_
        refine aq_nil ?_
        refine awp_if rfl (fun h => by cases h) (fun _ => ?_)
        refine awp_skip ?_
        refine awp_pures [0, 1, 5] (by simp only [go_sem, ↓reduceIte, Nat.reduceLT, Nat.reduceEqDiff, Nat.reduceLeDiff, Nat.reduceAdd, Nat.reduceMul, Int.reduceLT, Int.reduceLE, Int.reduceToNat, BitVec.reduceOfInt, Nat.reduceBEq, i64_add hj1]; try rfl) ?_
        refine (ih (i + 1) ⟨hlt, fun x hx => ((htake x).1 hx).elim (hpre x) fun e => e ▸ badCube_iff.2 ⟨h1, h2⟩⟩ (by omega)).cast (by first | (simp only [go_sem, ↓reduceIte, Nat.reduceLT, Nat.reduceEqDiff, Nat.reduceLeDiff, Nat.reduceAdd, Nat.reduceMul, Int.reduceLT, Int.reduceLE, Int.reduceToNat, BitVec.reduceOfInt, Nat.reduceBEq]; try rfl) | rfl)
      · have hb2 : decide (((p ||| q : Nat) : Int) ≥ ((2 ^ n : Nat) : Int)) = true := decide_eq_true (by omega)
        refine aq_pureN 5 (by simp only [go_sem, ↓reduceIte, Nat.reduceLT, Nat.reduceEqDiff, Nat.reduceLeDiff, Nat.reduceAdd, Nat.reduceMul, Int.reduceLT, Int.reduceLE, Int.reduceToNat, BitVec.reduceOfInt, Nat.reduceBEq, u8_or, hp, hq, hwq, hw, i64_shl_one (show n ≤ 62 by omega)]; try rfl) ?_
        refine aq_pureN 2 (by simp only [go_sem, ↓reduceIte, Nat.reduceLT, Nat.reduceEqDiff, Nat.reduceLeDiff, Nat.reduceAdd, Nat.reduceMul, Int.reduceLT, Int.reduceLE, Int.reduceToNat, BitVec.reduceOfInt, Nat.reduceBEq, hb2]; try rfl) ?_
        refine aq_nil ?_
        refine awp_if rfl (fun _ => ?_) (fun h => by cases h)
        refine awp_seq (awp_pures [4] (by simp only [go_sem, ↓reduceIte, Nat.reduceLT, Nat.reduceEqDiff, Nat.reduceLeDiff, Nat.reduceAdd, Nat.reduceMul, Int.reduceLT, Int.reduceLE, Int.reduceToNat, BitVec.reduceOfInt, Nat.reduceBEq]; try rfl) ?_)
        refine awp_ret ⟨_, rfl, ?_, AHeap.le_refl _⟩
        have : cubesB n l = false := by
          rw [cubesB, List.all_eq_false]
          refine ⟨_, hmem, ?_⟩
          cases hbc : badCube n (p, q) with
          | true => simp
          | false => exact absurd (badCube_iff.1 hbc).2 h2
        rw [this]; rfl
    · have hb1 := bne_zero h1
      refine aq_pureN 3 (by simp only [go_sem, ↓reduceIte, Nat.reduceLT, Nat.reduceEqDiff, Nat.reduceLeDiff, Nat.reduceAdd, Nat.reduceMul, Int.reduceLT, Int.reduceLE, Int.reduceToNat, BitVec.reduceOfInt, Nat.reduceBEq, u8_and, hp, hq, hb1]; try rfl) ?_
      refine aq_pureN 4 (by simp only [go_sem, ↓reduceIte, Nat.reduceLT, Nat.reduceEqDiff, Nat.reduceLeDiff, Nat.reduceAdd, Nat.reduceMul, Int.reduceLT, Int.reduceLE, Int.reduceToNat, BitVec.reduceOfInt, Nat.reduceBEq, undef]; try rfl) ?_
      refine aq_pureN 4 (by simp only [go_sem, ↓reduceIte, Nat.reduceLT, Nat.reduceEqDiff, Nat.reduceLeDiff, Nat.reduceAdd, Nat.reduceMul, Int.reduceLT, Int.reduceLE, Int.reduceToNat, BitVec.reduceOfInt, Nat.reduceBEq, undef]; try rfl) ?_
      refine aq_pureN 4 (by simp only [go_sem, ↓reduceIte, Nat.reduceLT, Nat.reduceEqDiff, Nat.reduceLeDiff, Nat.reduceAdd, Nat.reduceMul, Int.reduceLT, Int.reduceLE, Int.reduceToNat, BitVec.reduceOfInt, Nat.reduceBEq, undef]; try rfl) ?_
      refine aq_pureN 4 (by simp only [go_sem, ↓reduceIte, Nat.reduceLT, Nat.reduceEqDiff, Nat.reduceLeDiff, Nat.reduceAdd, Nat.reduceMul, Int.reduceLT, Int.reduceLE, Int.reduceToNat, BitVec.reduceOfInt, Nat.reduceBEq, undef]; try rfl) ?_
      refine aq_pureN 1 (by simp only [go_sem, ↓reduceIte, Nat.reduceLT, Nat.reduceEqDiff, Nat.reduceLeDiff, Nat.reduceAdd, Nat.reduceMul, Int.reduceLT, Int.reduceLE, Int.reduceToNat, BitVec.reduceOfInt, Nat.reduceBEq, undef]; try rfl) ?_
      refine aq_nil ?_
      refine awp_if rfl (fun _ => ?_) (fun h => by cases h)
      refine awp_seq (awp_pures [4] (by simp only [go_sem, ↓reduceIte, Nat.reduceLT, Nat.reduceEqDiff, Nat.reduceLeDiff, Nat.reduceAdd, Nat.reduceMul, Int.reduceLT, Int.reduceLE, Int.reduceToNat, BitVec.reduceOfInt, Nat.reduceBEq]; try rfl) ?_)
      refine awp_ret ⟨_, rfl, ?_, AHeap.le_refl _⟩
      have : cubesB n l = false := by
        rw [cubesB, List.all_eq_false]
        refine ⟨_, hmem, ?_⟩
        cases hbc : badCube n (p, q) with
        | true => simp
        | false => exact absurd (badCube_iff.1 hbc).1 h1
      rw [this]; rfl
  · have hb : decide ((i : Int) < (l.length : Int)) = false := decide_eq_false (by omega)
    have hil : i = l.length := by omega
    subst hil
    rw [List.take_length] at hpre
    refine awp_seq ?_
    refine awp_seq (awp_pures [0, 1, 5, 9] (by simp only [go_sem, ↓reduceIte, Nat.reduceLT, Nat.reduceEqDiff, Nat.reduceLeDiff, Nat.reduceAdd, Nat.reduceMul, Int.reduceLT, Int.reduceLE, Int.reduceToNat, BitVec.reduceOfInt, Nat.reduceBEq, hb]; try rfl) ?_)
    refine awp_if rfl (fun h => by cases h) (fun _ => ?_)
    refine awp_exit ?_
    simp only [Go.Abs.Seq, Go.Abs.Round, Go.Abs.InBlock, ↓reduceIte]
    refine awp_seq (awp_pures [4] (by simp only [go_sem, ↓reduceIte, Nat.reduceLT, Nat.reduceEqDiff, Nat.reduceLeDiff, Nat.reduceAdd, Nat.reduceMul, Int.reduceLT, Int.reduceLE, Int.reduceToNat, BitVec.reduceOfInt, Nat.reduceBEq]; try rfl) ?_)
    refine awp_ret ⟨_, rfl, ?_, AHeap.le_refl _⟩
    have : cubesB n l = true := List.all_eq_true.2 fun c hc => by rw [hpre c hc]; rfl
    rw [this]; rfl

theorem agg41 : aggA Try.prog 41 = some (some 2) := by kernel_rfl
theorem rCover_gives (l : List (Nat × Nat)) (hl : l.length ≤ 1000000) (hsm : Small l) (m : Int) (sv : Value) (N : Nat) (σ : AHeap) (hs : RowsAt σ 2 sv (cubes l)) :
    Gives Try.prog 19 [sv, .int .i64 m] N σ (tup2 (CoverR l m)) := by
  have hsl : (cubes l).length = l.length := by simp [cubes]
  obtain ⟨bb, cc, hv⟩ := hs.len
  refine gives_of rfl (aok_fresh fun hN => aok_body (n := 50) Try.func19 rfl rfl (by simp) ?_)
  subst hv
  rw [hsl] at hs ⊢
  rw [coverR_ref]
  refine awp_seq (awp_pures [0, 1] (by simp only [go_sem, ↓reduceIte, Nat.reduceLT, Nat.reduceEqDiff, Nat.reduceLeDiff, Nat.reduceAdd, Nat.reduceMul, Int.reduceLT, Int.reduceLE, Int.reduceToNat, BitVec.reduceOfInt, Nat.reduceBEq]; try rfl) ?_)
  refine awp_seq ?_
  by_cases h0 : m < 0
  · have c0 : decide (m < 0) = true := decide_eq_true h0
    first | refine awp_seq (awp_lit ?_) | refine awp_lit ?_ | refine awp_seq (awp_seq (awp_lit ?_))
    refine al_pureN 4 (by simp only [go_sem, ↓reduceIte, Nat.reduceLT, Nat.reduceEqDiff, Nat.reduceLeDiff, Nat.reduceAdd, Nat.reduceMul, Int.reduceLT, Int.reduceLE, Int.reduceToNat, BitVec.reduceOfInt, Nat.reduceBEq, c0, undef]; try rfl) ?_
    refine al_pureN 4 (by simp only [go_sem, ↓reduceIte, Nat.reduceLT, Nat.reduceEqDiff, Nat.reduceLeDiff, Nat.reduceAdd, Nat.reduceMul, Int.reduceLT, Int.reduceLE, Int.reduceToNat, BitVec.reduceOfInt, Nat.reduceBEq, c0, undef]; try rfl) ?_
    refine al_pureN 1 (by simp only [go_sem, ↓reduceIte, Nat.reduceLT, Nat.reduceEqDiff, Nat.reduceLeDiff, Nat.reduceAdd, Nat.reduceMul, Int.reduceLT, Int.reduceLE, Int.reduceToNat, BitVec.reduceOfInt, Nat.reduceBEq, c0, undef]; try rfl) ?_
    refine al_pureN 1 (by simp only [go_sem, ↓reduceIte, Nat.reduceLT, Nat.reduceEqDiff, Nat.reduceLeDiff, Nat.reduceAdd, Nat.reduceMul, Int.reduceLT, Int.reduceLE, Int.reduceToNat, BitVec.reduceOfInt, Nat.reduceBEq, c0, undef, undef]; try rfl) ?_
    refine al_pureN 2 (by simp only [go_sem, ↓reduceIte, Nat.reduceLT, Nat.reduceEqDiff, Nat.reduceLeDiff, Nat.reduceAdd, Nat.reduceMul, Int.reduceLT, Int.reduceLE, Int.reduceToNat, BitVec.reduceOfInt, Nat.reduceBEq, c0, undef]; try rfl) ?_
    refine al_end [0, 1, 21] ?_
    refine awp_if rfl (fun _ => ?_) (fun h => by cases h)
    refine awp_seq (awp_pures [4, 5] (by simp only [go_sem, ↓reduceIte, Nat.reduceLT, Nat.reduceEqDiff, Nat.reduceLeDiff, Nat.reduceAdd, Nat.reduceMul, Int.reduceLT, Int.reduceLE, Int.reduceToNat, BitVec.reduceOfInt, Nat.reduceBEq]; try rfl) ?_)
    exact awp_ret ⟨_, rfl, by rw [if_neg (fun h => by omega)]; rfl, AHeap.le_refl _⟩
  · have c0 : decide (m < 0) = false := decide_eq_false h0
    by_cases h6 : 6 < m
    · have c1 : decide (m > 6) = true := decide_eq_true h6
      first | refine awp_seq (awp_lit ?_) | refine awp_lit ?_ | refine awp_seq (awp_seq (awp_lit ?_))
      refine al_pureN 4 (by simp only [go_sem, ↓reduceIte, Nat.reduceLT, Nat.reduceEqDiff, Nat.reduceLeDiff, Nat.reduceAdd, Nat.reduceMul, Int.reduceLT, Int.reduceLE, Int.reduceToNat, BitVec.reduceOfInt, Nat.reduceBEq, c0, c1, undef]; try rfl) ?_
      refine al_pureN 4 (by simp only [go_sem, ↓reduceIte, Nat.reduceLT, Nat.reduceEqDiff, Nat.reduceLeDiff, Nat.reduceAdd, Nat.reduceMul, Int.reduceLT, Int.reduceLE, Int.reduceToNat, BitVec.reduceOfInt, Nat.reduceBEq, c0, c1, undef]; try rfl) ?_
      refine al_pureN 1 (by simp only [go_sem, ↓reduceIte, Nat.reduceLT, Nat.reduceEqDiff, Nat.reduceLeDiff, Nat.reduceAdd, Nat.reduceMul, Int.reduceLT, Int.reduceLE, Int.reduceToNat, BitVec.reduceOfInt, Nat.reduceBEq, c0, c1, undef]; try rfl) ?_
      refine al_pureN 1 (by simp only [go_sem, ↓reduceIte, Nat.reduceLT, Nat.reduceEqDiff, Nat.reduceLeDiff, Nat.reduceAdd, Nat.reduceMul, Int.reduceLT, Int.reduceLE, Int.reduceToNat, BitVec.reduceOfInt, Nat.reduceBEq, c0, c1, undef, undef]; try rfl) ?_
      refine al_pureN 2 (by simp only [go_sem, ↓reduceIte, Nat.reduceLT, Nat.reduceEqDiff, Nat.reduceLeDiff, Nat.reduceAdd, Nat.reduceMul, Int.reduceLT, Int.reduceLE, Int.reduceToNat, BitVec.reduceOfInt, Nat.reduceBEq, c0, c1, undef]; try rfl) ?_
      refine al_end [0, 1, 21] ?_
      refine awp_if rfl (fun _ => ?_) (fun h => by cases h)
      refine awp_seq (awp_pures [4, 5] (by simp only [go_sem, ↓reduceIte, Nat.reduceLT, Nat.reduceEqDiff, Nat.reduceLeDiff, Nat.reduceAdd, Nat.reduceMul, Int.reduceLT, Int.reduceLE, Int.reduceToNat, BitVec.reduceOfInt, Nat.reduceBEq]; try rfl) ?_)
      exact awp_ret ⟨_, rfl, by rw [if_neg (fun h => by omega)]; rfl, AHeap.le_refl _⟩
    · have c1 : decide (m > 6) = false := decide_eq_false h6
      obtain ⟨n, rfl⟩ : ∃ n : Nat, m = n := ⟨m.toNat, by omega⟩
      have hn : n ≤ 6 := by omega
      have h64 := two_pow_le6 hn
      have hw := u64_wrap_nat (show n < 18446744073709551616 by omega)
      cases hcb : cubesB n l with
      | false =>
        first | refine awp_seq (awp_lit ?_) | refine awp_lit ?_ | refine awp_seq (awp_seq (awp_lit ?_))
        refine al_pureN 4 (by simp only [go_sem, ↓reduceIte, Nat.reduceLT, Nat.reduceEqDiff, Nat.reduceLeDiff, Nat.reduceAdd, Nat.reduceMul, Int.reduceLT, Int.reduceLE, Int.reduceToNat, BitVec.reduceOfInt, Nat.reduceBEq, c0, c1, hcb]; try rfl) ?_
        refine al_pureN 4 (by simp only [go_sem, ↓reduceIte, Nat.reduceLT, Nat.reduceEqDiff, Nat.reduceLeDiff, Nat.reduceAdd, Nat.reduceMul, Int.reduceLT, Int.reduceLE, Int.reduceToNat, BitVec.reduceOfInt, Nat.reduceBEq, c0, c1, hcb]; try rfl) ?_
        refine al_pureN 1 (by simp only [go_sem, ↓reduceIte, Nat.reduceLT, Nat.reduceEqDiff, Nat.reduceLeDiff, Nat.reduceAdd, Nat.reduceMul, Int.reduceLT, Int.reduceLE, Int.reduceToNat, BitVec.reduceOfInt, Nat.reduceBEq, c0, c1, hcb]; try rfl) ?_
        refine al_gives (vs := ?vs1) (v := ?v1) rfl ?ha1 ?hh1 (by kernel_rfl) rfl (by simp only [go_sem, ↓reduceIte, Nat.reduceLT, Nat.reduceEqDiff, Nat.reduceLeDiff, Nat.reduceAdd, Nat.reduceMul, Int.reduceLT, Int.reduceLE, Int.reduceToNat, BitVec.reduceOfInt, Nat.reduceBEq, c0, c1, hcb]) ?kk1
        case ha1 => simp only [go_sem, ↓reduceIte, Nat.reduceLT, Nat.reduceEqDiff, Nat.reduceLeDiff, Nat.reduceAdd, Nat.reduceMul, Int.reduceLT, Int.reduceLE, Int.reduceToNat, BitVec.reduceOfInt, Nat.reduceBEq, c0, c1, hcb]; try rfl
        case hh1 => exact Cubes_gives l hl hsm hn _ _ _ hs
        refine al_pureN 2 (by simp only [go_sem, ↓reduceIte, Nat.reduceLT, Nat.reduceEqDiff, Nat.reduceLeDiff, Nat.reduceAdd, Nat.reduceMul, Int.reduceLT, Int.reduceLE, Int.reduceToNat, BitVec.reduceOfInt, Nat.reduceBEq, c0, c1, hcb]; try rfl) ?_
        refine al_end [0, 1, 21] ?_
        refine awp_if rfl (fun _ => ?_) (fun h => by cases h)
        refine awp_seq (awp_pures [4, 5] (by simp only [go_sem, ↓reduceIte, Nat.reduceLT, Nat.reduceEqDiff, Nat.reduceLeDiff, Nat.reduceAdd, Nat.reduceMul, Int.reduceLT, Int.reduceLE, Int.reduceToNat, BitVec.reduceOfInt, Nat.reduceBEq]; try rfl) ?_)
        exact awp_ret ⟨_, rfl, by rw [if_neg (fun h => by rw [Int.toNat_natCast, hcb] at h; cases h.2.2)]; rfl, AHeap.le_refl _⟩
      | true =>
        first | refine awp_seq (awp_lit ?_) | refine awp_lit ?_ | refine awp_seq (awp_seq (awp_lit ?_))
        refine al_pureN 4 (by simp only [go_sem, ↓reduceIte, Nat.reduceLT, Nat.reduceEqDiff, Nat.reduceLeDiff, Nat.reduceAdd, Nat.reduceMul, Int.reduceLT, Int.reduceLE, Int.reduceToNat, BitVec.reduceOfInt, Nat.reduceBEq, c0, c1, hcb]; try rfl) ?_
        refine al_pureN 4 (by simp only [go_sem, ↓reduceIte, Nat.reduceLT, Nat.reduceEqDiff, Nat.reduceLeDiff, Nat.reduceAdd, Nat.reduceMul, Int.reduceLT, Int.reduceLE, Int.reduceToNat, BitVec.reduceOfInt, Nat.reduceBEq, c0, c1, hcb]; try rfl) ?_
        refine al_pureN 1 (by simp only [go_sem, ↓reduceIte, Nat.reduceLT, Nat.reduceEqDiff, Nat.reduceLeDiff, Nat.reduceAdd, Nat.reduceMul, Int.reduceLT, Int.reduceLE, Int.reduceToNat, BitVec.reduceOfInt, Nat.reduceBEq, c0, c1, hcb]; try rfl) ?_
        refine al_gives (vs := ?vs2) (v := ?v2) rfl ?ha2 ?hh2 (by kernel_rfl) rfl (by simp only [go_sem, ↓reduceIte, Nat.reduceLT, Nat.reduceEqDiff, Nat.reduceLeDiff, Nat.reduceAdd, Nat.reduceMul, Int.reduceLT, Int.reduceLE, Int.reduceToNat, BitVec.reduceOfInt, Nat.reduceBEq, c0, c1, hcb]) ?kk2
        case ha2 => simp only [go_sem, ↓reduceIte, Nat.reduceLT, Nat.reduceEqDiff, Nat.reduceLeDiff, Nat.reduceAdd, Nat.reduceMul, Int.reduceLT, Int.reduceLE, Int.reduceToNat, BitVec.reduceOfInt, Nat.reduceBEq, c0, c1, hcb]; try rfl
        case hh2 => exact Cubes_gives l hl hsm hn _ _ _ hs
        refine al_pureN 2 (by simp only [go_sem, ↓reduceIte, Nat.reduceLT, Nat.reduceEqDiff, Nat.reduceLeDiff, Nat.reduceAdd, Nat.reduceMul, Int.reduceLT, Int.reduceLE, Int.reduceToNat, BitVec.reduceOfInt, Nat.reduceBEq, c0, c1, hcb]; try rfl) ?_
        refine al_end [0, 1, 21] ?_
        refine awp_if rfl (fun h => by cases h) (fun _ => ?_)
        refine awp_skip ?_
        rw [if_pos ⟨by omega, by omega, by rw [Int.toNat_natCast]; exact hcb⟩, Int.toNat_natCast]
        refine awp_seq (awp_pures [0, 1, 6] (by simp only [go_sem, ↓reduceIte, Nat.reduceLT, Nat.reduceEqDiff, Nat.reduceLeDiff, Nat.reduceAdd, Nat.reduceMul, Int.reduceLT, Int.reduceLE, Int.reduceToNat, BitVec.reduceOfInt, Nat.reduceBEq]; try rfl) ?_)
        refine awp_seq ?_
        refine awp_seq (awp_pures [0, 1, 6, 7] (by simp only [go_sem, ↓reduceIte, Nat.reduceLT, Nat.reduceEqDiff, Nat.reduceLeDiff, Nat.reduceAdd, Nat.reduceMul, Int.reduceLT, Int.reduceLE, Int.reduceToNat, BitVec.reduceOfInt, Nat.reduceBEq]; try rfl) ?_)
        refine awp_block (awp_loop ?_)
        refine ALoop.cast3 (aloop_ind (α := Nat × Value × Nat × AHeap)
          (fun x => x.1 ≤ 2 ^ n ∧ N ≤ x.2.2.1 ∧ OwnAt x.2.2.2 N x.2.1 (bools ((List.range x.1).map (anyB l))) x.1 1 ∧ σ.le x.2.2.2) (fun x => 2 ^ n - x.1)
          (fun x => [(0, .slice bb l.length cc), (1, .int .i64 n), (6, x.2.1), (7, .int .i64 x.1)]) (fun x => x.2.2.1) (fun x => x.2.2.2) ?_
          (0, .slice none 0 0, N, σ) ⟨by simp, by simp, OwnAt.nil, AHeap.le_refl _⟩) rfl rfl rfl
        rintro ⟨k, av, Nk, σk⟩ ⟨hk, hNk, hown, hlek⟩ ih
        simp only at hk hNk hown hlek ⊢
        by_cases hlt : k < 2 ^ n
        · have hb : decide ((k : Int) < ((2 ^ n : Nat) : Int)) = true := decide_eq_true (Int.ofNat_lt.2 hlt)
          have hj1 : -9223372036854775808 ≤ (k : Int) + 1 ∧ (k : Int) + 1 ≤ 9223372036854775807 := by omega
          refine awp_seq ?_
          refine awp_seq (awp_pures [0, 1, 6, 7, 26] (by simp only [go_sem, ↓reduceIte, Nat.reduceLT, Nat.reduceEqDiff, Nat.reduceLeDiff, Nat.reduceAdd, Nat.reduceMul, Int.reduceLT, Int.reduceLE, Int.reduceToNat, BitVec.reduceOfInt, Nat.reduceBEq, hw, i64_shl_one (show n ≤ 62 by omega), hb]; try rfl) ?_)
          refine awp_if rfl (fun _ => ?_) (fun h => by cases h)
          refine awp_skip ?_
          refine awp_seq (awp_block ?_)
          refine awp_seq (awp_pures [0, 1, 6, 7, 8] (by simp only [go_sem, ↓reduceIte, Nat.reduceLT, Nat.reduceEqDiff, Nat.reduceLeDiff, Nat.reduceAdd, Nat.reduceMul, Int.reduceLT, Int.reduceLE, Int.reduceToNat, BitVec.reduceOfInt, Nat.reduceBEq]; try rfl) ?_)
          refine awp_seq ?_
          refine awp_seq (awp_pures [0, 1, 6, 7, 8, 9] (by simp only [go_sem, ↓reduceIte, Nat.reduceLT, Nat.reduceEqDiff, Nat.reduceLeDiff, Nat.reduceAdd, Nat.reduceMul, Int.reduceLT, Int.reduceLE, Int.reduceToNat, BitVec.reduceOfInt, Nat.reduceBEq]; try rfl) ?_)
          refine awp_block (awp_loop ?_)
          refine ALoop.cast3 (aloop_ind (α := Nat) (fun i => i ≤ l.length) (fun i => l.length - i)
            (fun i => [(0, .slice bb l.length cc), (1, .int .i64 n), (6, av), (7, .int .i64 k), (8, .bool (anyB (l.take i) k)), (9, .int .i64 i)]) (fun _ => Nk) (fun _ => σk) ?_
            0 (by simp)) rfl rfl rfl
          intro i hi ih2
          by_cases hin : i < l.length
          · have hb2 : decide ((i : Int) < (l.length : Int)) = true := decide_eq_true (by omega)
            have hj2 : -9223372036854775808 ≤ (i : Int) + 1 ∧ (i : Int) + 1 ≤ 9223372036854775807 := by omega
            have hii : 0 ≤ (i : Int) ∧ (i : Int) < (l.length : Int) := by omega
            obtain ⟨id, off, cap, b, e1, e2, e3⟩ := (hs.mono hlek).at (j := i) (by rw [hsl]; exact hin)
            rw [hsl] at e1
            cases e1
            have e3 : cellsA b (off + i * 2) 2 = some (cubeV l[i]) := by rw [e3]; simp [cubes]
            have hcs := hsm l[i] (List.getElem_mem hin)
            have hstep : anyB (l.take (i + 1)) k = (anyB (l.take i) k || holdsB l[i] k) := by
              unfold anyB
              rw [List.take_add_one, List.getElem?_eq_getElem hin, List.any_append]
              simp
            generalize l[i] = c at e3 hcs hstep
            obtain ⟨p, q⟩ := c
            obtain ⟨hp, hq⟩ := hcs
            simp only at hp hq
            refine awp_seq ?_
            refine awp_seq (awp_pures [0, 1, 6, 7, 8, 9, 32] (by simp only [go_sem, ↓reduceIte, Nat.reduceLT, Nat.reduceEqDiff, Nat.reduceLeDiff, Nat.reduceAdd, Nat.reduceMul, Int.reduceLT, Int.reduceLE, Int.reduceToNat, BitVec.reduceOfInt, Nat.reduceBEq, hb2]; try rfl) ?_)
            refine awp_if rfl (fun _ => ?_) (fun h => by cases h)
            refine awp_skip ?_
            refine awp_seq (awp_block ?_)
            cases hy : anyB (l.take i) k with
            | true =>
              rw [hy, Bool.true_or] at hstep
              refine awp_lit ?_
              refine al_pureN 5 (by simp only [go_sem, ↓reduceIte, Nat.reduceLT, Nat.reduceEqDiff, Nat.reduceLeDiff, Nat.reduceAdd, Nat.reduceMul, Int.reduceLT, Int.reduceLE, Int.reduceToNat, BitVec.reduceOfInt, Nat.reduceBEq, undef]; try rfl) ?_
              refine al_pureN 5 (by simp only [go_sem, ↓reduceIte, Nat.reduceLT, Nat.reduceEqDiff, Nat.reduceLeDiff, Nat.reduceAdd, Nat.reduceMul, Int.reduceLT, Int.reduceLE, Int.reduceToNat, BitVec.reduceOfInt, Nat.reduceBEq, undef]; try rfl) ?_
              refine al_end [0, 1, 6, 7, 8, 9] ?_
              refine awp_pures [0, 1, 6, 7, 8, 9] (by simp only [go_sem, ↓reduceIte, Nat.reduceLT, Nat.reduceEqDiff, Nat.reduceLeDiff, Nat.reduceAdd, Nat.reduceMul, Int.reduceLT, Int.reduceLE, Int.reduceToNat, BitVec.reduceOfInt, Nat.reduceBEq, i64_add hj2]; try rfl) ?_
              have e := ih2 (i + 1) hin (by omega)
              rw [hstep] at e
              refine ALoop.cast e ?_
              first | (simp only [go_sem]; try rfl) | rfl
            | false =>
              rw [hy, Bool.false_or] at hstep
              refine awp_lit ?_
              refine al_pureN 5 (by simp only [go_sem, ↓reduceIte, Nat.reduceLT, Nat.reduceEqDiff, Nat.reduceLeDiff, Nat.reduceAdd, Nat.reduceMul, Int.reduceLT, Int.reduceLE, Int.reduceToNat, BitVec.reduceOfInt, Nat.reduceBEq, hii]; try rfl) ?_
              refine al_load rfl (by simp only [go_sem, ↓reduceIte, Nat.reduceLT, Nat.reduceEqDiff, Nat.reduceLeDiff, Nat.reduceAdd, Nat.reduceMul, Int.reduceLT, Int.reduceLE, Int.reduceToNat, BitVec.reduceOfInt, Nat.reduceBEq]) rfl (by simp only [go_sem, ↓reduceIte, Nat.reduceLT, Nat.reduceEqDiff, Nat.reduceLeDiff, Nat.reduceAdd, Nat.reduceMul, Int.reduceLT, Int.reduceLE, Int.reduceToNat, BitVec.reduceOfInt, Nat.reduceBEq]; try rfl) e2 (loadA_agg agg41 e3) ?_
              refine al_pureN 1 (by simp only [go_sem, ↓reduceIte, Nat.reduceLT, Nat.reduceEqDiff, Nat.reduceLeDiff, Nat.reduceAdd, Nat.reduceMul, Int.reduceLT, Int.reduceLE, Int.reduceToNat, BitVec.reduceOfInt, Nat.reduceBEq]; try rfl) ?_
              refine al_gives (vs := ?vs3) (v := ?v3) rfl ?ha3 ?hh3 (by kernel_rfl) rfl (by simp only [go_sem, ↓reduceIte, Nat.reduceLT, Nat.reduceEqDiff, Nat.reduceLeDiff, Nat.reduceAdd, Nat.reduceMul, Int.reduceLT, Int.reduceLE, Int.reduceToNat, BitVec.reduceOfInt, Nat.reduceBEq]) ?kk3
              case ha3 => simp only [go_sem, ↓reduceIte, Nat.reduceLT, Nat.reduceEqDiff, Nat.reduceLeDiff, Nat.reduceAdd, Nat.reduceMul, Int.reduceLT, Int.reduceLE, Int.reduceToNat, BitVec.reduceOfInt, Nat.reduceBEq]; try rfl
              case hh3 => exact Holds_gives p q k hp hq (by omega) _ _
              refine al_pureN 2 (by simp only [go_sem, ↓reduceIte, Nat.reduceLT, Nat.reduceEqDiff, Nat.reduceLeDiff, Nat.reduceAdd, Nat.reduceMul, Int.reduceLT, Int.reduceLE, Int.reduceToNat, BitVec.reduceOfInt, Nat.reduceBEq]; try rfl) ?_
              refine al_end [0, 1, 6, 7, 8, 9] ?_
              refine awp_pures [0, 1, 6, 7, 8, 9] (by simp only [go_sem, ↓reduceIte, Nat.reduceLT, Nat.reduceEqDiff, Nat.reduceLeDiff, Nat.reduceAdd, Nat.reduceMul, Int.reduceLT, Int.reduceLE, Int.reduceToNat, BitVec.reduceOfInt, Nat.reduceBEq, i64_add hj2]; try rfl) ?_
              have e := ih2 (i + 1) hin (by omega)
              rw [hstep] at e
              refine ALoop.cast e ?_
              first | (simp only [go_sem]; try rfl) | rfl
          · have hb2 : decide ((i : Int) < (l.length : Int)) = false := decide_eq_false (by omega)
            have hie : i = l.length := by omega
            subst hie
            refine awp_seq ?_
            refine awp_seq (awp_pures [0, 1, 6, 7, 8, 9, 32] (by simp only [go_sem, ↓reduceIte, Nat.reduceLT, Nat.reduceEqDiff, Nat.reduceLeDiff, Nat.reduceAdd, Nat.reduceMul, Int.reduceLT, Int.reduceLE, Int.reduceToNat, BitVec.reduceOfInt, Nat.reduceBEq, hb2]; try rfl) ?_)
            refine awp_if rfl (fun h => by cases h) (fun _ => ?_)
            refine awp_exit ?_
            simp only [Go.Abs.Seq, Go.Abs.Round, Go.Abs.InBlock, ↓reduceIte]
            rw [List.take_length]
            refine awp_lit ?_
            refine al_pureN 2 (by simp only [go_sem, ↓reduceIte, Nat.reduceLT, Nat.reduceEqDiff, Nat.reduceLeDiff, Nat.reduceAdd, Nat.reduceMul, Int.reduceLT, Int.reduceLE, Int.reduceToNat, BitVec.reduceOfInt, Nat.reduceBEq]; try rfl) ?_
            refine al_push rfl rfl rfl (by simp only [go_sem, ↓reduceIte, Nat.reduceLT, Nat.reduceEqDiff, Nat.reduceLeDiff, Nat.reduceAdd, Nat.reduceMul, Int.reduceLT, Int.reduceLE, Int.reduceToNat, BitVec.reduceOfInt, Nat.reduceBEq]; try rfl) (by simp only [go_sem, ↓reduceIte, Nat.reduceLT, Nat.reduceEqDiff, Nat.reduceLeDiff, Nat.reduceAdd, Nat.reduceMul, Int.reduceLT, Int.reduceLE, Int.reduceToNat, BitVec.reduceOfInt, Nat.reduceBEq]; try rfl) rfl rfl Try.underlying72 ty4 rfl rfl rfl (by simp only [go_sem, ↓reduceIte, Nat.reduceLT, Nat.reduceEqDiff, Nat.reduceLeDiff, Nat.reduceAdd, Nat.reduceMul, Int.reduceLT, Int.reduceLE, Int.reduceToNat, BitVec.reduceOfInt, Nat.reduceBEq]; try rfl) (by simp only [go_sem, ↓reduceIte, Nat.reduceLT, Nat.reduceEqDiff, Nat.reduceLeDiff, Nat.reduceAdd, Nat.reduceMul, Int.reduceLT, Int.reduceLE, Int.reduceToNat, BitVec.reduceOfInt, Nat.reduceBEq]; try rfl) rfl rfl hown (by omega) (by omega) (by omega) ?_
            intro N' σ' v' hN' hown' hkeep
            refine al_pureN 1 (by simp only [go_sem, ↓reduceIte, Nat.reduceLT, Nat.reduceEqDiff, Nat.reduceLeDiff, Nat.reduceAdd, Nat.reduceMul, Int.reduceLT, Int.reduceLE, Int.reduceToNat, BitVec.reduceOfInt, Nat.reduceBEq]; try rfl) ?_
            refine al_end [0, 1, 6, 7] ?_
            refine awp_pures [0, 1, 6, 7] (by simp only [go_sem, ↓reduceIte, Nat.reduceLT, Nat.reduceEqDiff, Nat.reduceLeDiff, Nat.reduceAdd, Nat.reduceMul, Int.reduceLT, Int.reduceLE, Int.reduceToNat, BitVec.reduceOfInt, Nat.reduceBEq, i64_add hj1]; try rfl) ?_
            refine ALoop.cast (ih (k + 1, v', N', σ') ⟨hlt, by simp; omega, by rw [range_bools (anyB l)] at hown'; exact hown', hkeep σ hlek hN⟩ (by simp; omega)) (by first | (simp only [go_sem]; try rfl) | rfl)
        · have hb : decide ((k : Int) < ((2 ^ n : Nat) : Int)) = false := decide_eq_false fun h => hlt (Int.ofNat_lt.1 h)
          have hke : k = 2 ^ n := by omega
          subst hke
          refine awp_seq ?_
          refine awp_seq (awp_pures [0, 1, 6, 7, 26] (by simp only [go_sem, ↓reduceIte, Nat.reduceLT, Nat.reduceEqDiff, Nat.reduceLeDiff, Nat.reduceAdd, Nat.reduceMul, Int.reduceLT, Int.reduceLE, Int.reduceToNat, BitVec.reduceOfInt, Nat.reduceBEq, hw, i64_shl_one (show n ≤ 62 by omega), hb]; try rfl) ?_)
          refine awp_if rfl (fun h => by cases h) (fun _ => ?_)
          refine awp_exit ?_
          simp only [Go.Abs.Seq, Go.Abs.Round, Go.Abs.InBlock, ↓reduceIte]
          first | refine awp_seq (awp_lit ?_) | refine awp_lit ?_ | refine awp_seq (awp_seq (awp_lit ?_))
          refine al_pureN 1 (by simp only [go_sem, ↓reduceIte, Nat.reduceLT, Nat.reduceEqDiff, Nat.reduceLeDiff, Nat.reduceAdd, Nat.reduceMul, Int.reduceLT, Int.reduceLE, Int.reduceToNat, BitVec.reduceOfInt, Nat.reduceBEq]; try rfl) ?_
          refine al_gives (vs := ?vs4) (v := ?v4) rfl ?ha4 ?hh4 (by kernel_rfl) rfl (by simp only [go_sem, ↓reduceIte, Nat.reduceLT, Nat.reduceEqDiff, Nat.reduceLeDiff, Nat.reduceAdd, Nat.reduceMul, Int.reduceLT, Int.reduceLE, Int.reduceToNat, BitVec.reduceOfInt, Nat.reduceBEq]) ?kk4
          case ha4 => simp only [go_sem, ↓reduceIte, Nat.reduceLT, Nat.reduceEqDiff, Nat.reduceLeDiff, Nat.reduceAdd, Nat.reduceMul, Int.reduceLT, Int.reduceLE, Int.reduceToNat, BitVec.reduceOfInt, Nat.reduceBEq]; try rfl
          case hh4 => exact tabB_gives hn (anyB l) hown
          refine al_pureN 2 (by simp only [go_sem, ↓reduceIte, Nat.reduceLT, Nat.reduceEqDiff, Nat.reduceLeDiff, Nat.reduceAdd, Nat.reduceMul, Int.reduceLT, Int.reduceLE, Int.reduceToNat, BitVec.reduceOfInt, Nat.reduceBEq]; try rfl) ?_
          refine al_end [4, 5] ?_
          exact awp_ret ⟨_, rfl, rfl, hlek⟩
end Go.Proofs.Ytbpjoamdcbbnnaa
