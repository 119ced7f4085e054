/- The walks of the reference's permutations and transformations. -/
import Derived.Test.YtbpjoamdcbbnnaaTabR3
import Derived.Test.YtbpjoamdcbbnnaaTabRef2
import Derived.Test.YtbpjoamdcbbnnaaAbTb
set_option linter.unusedSimpArgs false
set_option linter.unusedVariables false
namespace Go.Proofs.Ytbpjoamdcbbnnaa
open Go.Abs Go.Tab
attribute [local go_sem] eqA Try.underlying22 Try.underlying3 Try.underlying77 Try.underlying52 Try.underlying23 Try.underlying25 Try.underlying5 Try.underlying4 Try.underlying36 Try.underlying39 Try.underlying41 Try.underlying72 Try.underlying49 Try.underlying26 size22 size3 size23 size5 size4 size39 Nat.mul_one bne_self_eq_false Try.underlying33

theorem ty72b : sizeA Try.prog 4 = some 1 := size4
/-- What has been seen, as a row. -/
def seenV (n s : Nat) : List Value := bools ((List.range n).map fun j => s.testBit j)
theorem seenV_len (n s : Nat) : (seenV n s).length = n := by simp [seenV, bools]
theorem seenV_get {n s j : Nat} (h : j < n) : (seenV n s)[j]? = some (.bool (s.testBit j)) := by simp [seenV, bools, h]
theorem seenV_set {n s x : Nat} : (seenV n s).set x (.bool true) = seenV n (s ||| 2 ^ x) := by
  apply List.ext_getElem?
  intro j
  rw [List.getElem?_set]
  by_cases hj : j < n
  · rw [seenV_get hj, seenV_get hj, seenV_len, Nat.testBit_or]
    by_cases h : x = j
    · subst h; simp [hj, Nat.testBit_two_pow_self]
    · rw [if_neg h, Nat.testBit_two_pow_of_ne h]; simp
  · rw [List.getElem?_eq_none (by rw [seenV_len]; omega), List.getElem?_eq_none (by rw [seenV_len]; omega), seenV_len]
    split
    · rw [if_neg (by omega)]
    · rfl
theorem seenV_zero (n : Nat) : zerosA (spread (.bool false)) (n * 1) = seenV n 0 := by
  simp only [zerosA, spread, seenV, bools, Nat.mul_one, List.map_map]
  apply List.map_congr_left
  intro j _
  simp [Nat.mod_one]

theorem Order_gives' (l : List Int) (n : Int) (hl : (l.length : Int) = n → l.length ≤ 1000000) (sv : Value) (N : Nat) (σ : AHeap) (hs : SlAt σ sv (ints l)) :
    Gives Try.prog 65 [sv, .int .i64 n] N σ (.bool (permR l n)) := by
  obtain ⟨bb, cc, hv⟩ := hs.len
  refine gives_of rfl (aok_fresh fun hN => aok_body (n := 46) Try.func65 rfl rfl (by simp) ?_)
  subst hv
  rw [ints_len] at hs ⊢
  refine awp_seq (awp_pures [0, 1] (by simp only [go_sem, ↓reduceIte, Nat.reduceLT, Nat.reduceEqDiff, Nat.reduceLeDiff, Nat.reduceAdd, Nat.reduceMul, Int.reduceLT, Int.reduceLE, Int.reduceToNat, BitVec.reduceOfInt, Nat.reduceBEq]; try rfl) ?_)
  refine awp_seq ?_
  by_cases hlen : (l.length : Int) = n
  · subst hlen
    have hl := hl rfl
    refine awp_seq (awp_pures [0, 1, 10] (by simp only [go_sem, ↓reduceIte, Nat.reduceLT, Nat.reduceEqDiff, Nat.reduceLeDiff, Nat.reduceAdd, Nat.reduceMul, Int.reduceLT, Int.reduceLE, Int.reduceToNat, BitVec.reduceOfInt, Nat.reduceBEq, bne_self_eq_false]; try rfl) ?_)
    refine awp_if rfl (fun h => by cases h) (fun _ => ?_)
    refine awp_skip ?_
    first | refine awp_seq (awp_lit ?_) | refine awp_lit ?_ | refine awp_seq (awp_seq (awp_lit ?_))
    refine al_pureN 1 (by simp only [go_sem, ↓reduceIte, Nat.reduceLT, Nat.reduceEqDiff, Nat.reduceLeDiff, Nat.reduceAdd, Nat.reduceMul, Int.reduceLT, Int.reduceLE, Int.reduceToNat, BitVec.reduceOfInt, Nat.reduceBEq]; try rfl) ?_
    refine al_makeSlice (len := l.length) rfl (by simp only [go_sem, ↓reduceIte, Nat.reduceLT, Nat.reduceEqDiff, Nat.reduceLeDiff, Nat.reduceAdd, Nat.reduceMul, Int.reduceLT, Int.reduceLE, Int.reduceToNat, BitVec.reduceOfInt, Nat.reduceBEq]; try rfl) rfl Try.underlying72 ty4 (by decide) rfl (by decide) (by simp only [go_sem, ↓reduceIte, Nat.reduceLT, Nat.reduceEqDiff, Nat.reduceLeDiff, Nat.reduceAdd, Nat.reduceMul, Int.reduceLT, Int.reduceLE, Int.reduceToNat, BitVec.reduceOfInt, Nat.reduceBEq]; try rfl) (by simp only [go_sem, ↓reduceIte, Nat.reduceLT, Nat.reduceEqDiff, Nat.reduceLeDiff, Nat.reduceAdd, Nat.reduceMul, Int.reduceLT, Int.reduceLE, Int.reduceToNat, BitVec.reduceOfInt, Nat.reduceBEq]; try rfl) (by omega) (by omega) ?_
    rw [seenV_zero]
    refine al_pureN 1 (by simp only [go_sem, ↓reduceIte, Nat.reduceLT, Nat.reduceEqDiff, Nat.reduceLeDiff, Nat.reduceAdd, Nat.reduceMul, Int.reduceLT, Int.reduceLE, Int.reduceToNat, BitVec.reduceOfInt, Nat.reduceBEq]; try rfl) ?_
    refine al_end [0, 1, 5] ?_
    have hle0 : ∀ b, σ.le (σ.set N b) := fun b => AHeap.le_set (AHeap.le_refl _) fun i b hb => Nat.ne_of_lt (hN i b hb)
    refine awp_seq ?_
    refine awp_seq (awp_pures [0, 1, 5, 6] (by simp only [go_sem, ↓reduceIte, Nat.reduceLT, Nat.reduceEqDiff, Nat.reduceLeDiff, Nat.reduceAdd, Nat.reduceMul, Int.reduceLT, Int.reduceLE, Int.reduceToNat, BitVec.reduceOfInt, Nat.reduceBEq]; try rfl) ?_)
    refine awp_block (awp_loop ?_)
    refine ALoop.cast3 (aloop_ind (α := Nat × Nat) (fun x => x.1 ≤ l.length ∧ permGo l.length l 0 = permGo l.length (l.drop x.1) x.2) (fun x => l.length - x.1)
      (fun x => [(0, .slice bb l.length cc), (1, .int .i64 l.length), (5, .slice (some ⟨N, 0, none⟩) l.length l.length), (6, .int .i64 x.1)]) (fun _ => N + 1) (fun x => σ.set N ⟨seenV l.length x.2, true, 1⟩) ?_ (0, 0) ⟨by simp, by simp⟩) rfl rfl rfl
    rintro ⟨i, s⟩ ⟨hi, hgo⟩ ih
    simp only at hi hgo ⊢
    by_cases hlt : i < l.length
    · have hb : decide ((i : Int) < (l.length : Int)) = true := by simpa using hlt
      have hj1 : -9223372036854775808 ≤ (i : Int) + 1 ∧ (i : Int) + 1 ≤ 9223372036854775807 := by omega
      have hii : 0 ≤ (i : Int) ∧ (i : Int) < (l.length : Int) := by omega
      obtain ⟨id, off, cap, b, e1, e2, e3⟩ := (hs.mono (hle0 ⟨seenV l.length s, true, 1⟩)).at (j := i) (by rw [ints_len]; exact hlt)
      rw [ints_len] at e1
      cases e1
      have e3 : b.cells[off + i]? = some (.int .i64 l[i]) := by rw [e3]; simp [ints]
      rw [List.drop_eq_getElem_cons hlt] at hgo
      simp only [permGo] at hgo
      generalize l[i] = x at e3 hgo
      refine awp_seq ?_
      refine awp_seq (awp_pures [0, 1, 5, 6, 15] (by simp only [go_sem, ↓reduceIte, Nat.reduceLT, Nat.reduceEqDiff, Nat.reduceLeDiff, Nat.reduceAdd, Nat.reduceMul, Int.reduceLT, Int.reduceLE, Int.reduceToNat, BitVec.reduceOfInt, Nat.reduceBEq, hb]; try rfl) ?_)
      refine awp_if rfl (fun _ => ?_) (fun h => by cases h)
      refine awp_skip ?_
      refine awp_seq (awp_block ?_)
      refine awp_seq ?_
      first | refine awp_seq (awp_lit ?_) | refine awp_lit ?_ | refine awp_seq (awp_seq (awp_lit ?_))
      refine al_pureN 3 (by simp only [go_sem, ↓reduceIte, Nat.reduceLT, Nat.reduceEqDiff, Nat.reduceLeDiff, Nat.reduceAdd, Nat.reduceMul, Int.reduceLT, Int.reduceLE, Int.reduceToNat, BitVec.reduceOfInt, Nat.reduceBEq, hii]; try rfl) ?_
      refine al_load rfl (by simp only [go_sem, ↓reduceIte, Nat.reduceLT, Nat.reduceEqDiff, Nat.reduceLeDiff, Nat.reduceAdd, Nat.reduceMul, Int.reduceLT, Int.reduceLE, Int.reduceToNat, BitVec.reduceOfInt, Nat.reduceBEq]) rfl (by simp only [go_sem, ↓reduceIte, Nat.reduceLT, Nat.reduceEqDiff, Nat.reduceLeDiff, Nat.reduceAdd, Nat.reduceMul, Int.reduceLT, Int.reduceLE, Int.reduceToNat, BitVec.reduceOfInt, Nat.reduceBEq]; try rfl) e2 (loadA_scalar agg3 e3) ?_
      by_cases h0 : x < 0
      · have c0 : decide (x < 0) = true := decide_eq_true h0
        rw [if_pos (.inl h0)] at hgo
        refine al_pureN 4 (by simp only [go_sem, ↓reduceIte, Nat.reduceLT, Nat.reduceEqDiff, Nat.reduceLeDiff, Nat.reduceAdd, Nat.reduceMul, Int.reduceLT, Int.reduceLE, Int.reduceToNat, BitVec.reduceOfInt, Nat.reduceBEq, c0]; try rfl) ?_
        refine al_pureN 1 (by simp only [go_sem, ↓reduceIte, Nat.reduceLT, Nat.reduceEqDiff, Nat.reduceLeDiff, Nat.reduceAdd, Nat.reduceMul, Int.reduceLT, Int.reduceLE, Int.reduceToNat, BitVec.reduceOfInt, Nat.reduceBEq, c0]; try rfl) ?_
        refine al_pureN 1 (by simp only [go_sem, ↓reduceIte, Nat.reduceLT, Nat.reduceEqDiff, Nat.reduceLeDiff, Nat.reduceAdd, Nat.reduceMul, Int.reduceLT, Int.reduceLE, Int.reduceToNat, BitVec.reduceOfInt, Nat.reduceBEq, c0, undef]; try rfl) ?_
        refine al_pureN 4 (by simp only [go_sem, ↓reduceIte, Nat.reduceLT, Nat.reduceEqDiff, Nat.reduceLeDiff, Nat.reduceAdd, Nat.reduceMul, Int.reduceLT, Int.reduceLE, Int.reduceToNat, BitVec.reduceOfInt, Nat.reduceBEq, c0]; try rfl) ?_
        refine al_pureN 3 (by simp only [go_sem, ↓reduceIte, Nat.reduceLT, Nat.reduceEqDiff, Nat.reduceLeDiff, Nat.reduceAdd, Nat.reduceMul, Int.reduceLT, Int.reduceLE, Int.reduceToNat, BitVec.reduceOfInt, Nat.reduceBEq, c0]; try rfl) ?_
        refine al_pureN 1 (by simp only [go_sem, ↓reduceIte, Nat.reduceLT, Nat.reduceEqDiff, Nat.reduceLeDiff, Nat.reduceAdd, Nat.reduceMul, Int.reduceLT, Int.reduceLE, Int.reduceToNat, BitVec.reduceOfInt, Nat.reduceBEq, c0]; try rfl) ?_
        refine al_pureN 1 (by simp only [go_sem, ↓reduceIte, Nat.reduceLT, Nat.reduceEqDiff, Nat.reduceLeDiff, Nat.reduceAdd, Nat.reduceMul, Int.reduceLT, Int.reduceLE, Int.reduceToNat, BitVec.reduceOfInt, Nat.reduceBEq, c0, undef]; try rfl) ?_
        refine al_pureN 1 (by simp only [go_sem, ↓reduceIte, Nat.reduceLT, Nat.reduceEqDiff, Nat.reduceLeDiff, Nat.reduceAdd, Nat.reduceMul, Int.reduceLT, Int.reduceLE, Int.reduceToNat, BitVec.reduceOfInt, Nat.reduceBEq, c0]; try rfl) ?_
        refine al_pureN 1 (by simp only [go_sem, ↓reduceIte, Nat.reduceLT, Nat.reduceEqDiff, Nat.reduceLeDiff, Nat.reduceAdd, Nat.reduceMul, Int.reduceLT, Int.reduceLE, Int.reduceToNat, BitVec.reduceOfInt, Nat.reduceBEq, c0, undef]; try rfl) ?_
        refine al_pureN 1 (by simp only [go_sem, ↓reduceIte, Nat.reduceLT, Nat.reduceEqDiff, Nat.reduceLeDiff, Nat.reduceAdd, Nat.reduceMul, Int.reduceLT, Int.reduceLE, Int.reduceToNat, BitVec.reduceOfInt, Nat.reduceBEq, c0]; try rfl) ?_
        refine al_end [0, 1, 5, 6, 39] ?_
        refine awp_if rfl (fun _ => ?_) (fun h => by cases h)
        refine awp_seq (awp_pures [4] (by simp only [go_sem, ↓reduceIte, Nat.reduceLT, Nat.reduceEqDiff, Nat.reduceLeDiff, Nat.reduceAdd, Nat.reduceMul, Int.reduceLT, Int.reduceLE, Int.reduceToNat, BitVec.reduceOfInt, Nat.reduceBEq]; try rfl) ?_)
        exact awp_ret ⟨_, rfl, by rw [permR, hgo]; rfl, hle0 _⟩
      · have c0 : decide (x < 0) = false := decide_eq_false h0
        refine al_pureN 4 (by simp only [go_sem, ↓reduceIte, Nat.reduceLT, Nat.reduceEqDiff, Nat.reduceLeDiff, Nat.reduceAdd, Nat.reduceMul, Int.reduceLT, Int.reduceLE, Int.reduceToNat, BitVec.reduceOfInt, Nat.reduceBEq, c0, hii]; try rfl) ?_
        refine al_pureN 1 (by simp only [go_sem, ↓reduceIte, Nat.reduceLT, Nat.reduceEqDiff, Nat.reduceLeDiff, Nat.reduceAdd, Nat.reduceMul, Int.reduceLT, Int.reduceLE, Int.reduceToNat, BitVec.reduceOfInt, Nat.reduceBEq, c0, hii]; try rfl) ?_
        refine al_load rfl (by simp only [go_sem, ↓reduceIte, Nat.reduceLT, Nat.reduceEqDiff, Nat.reduceLeDiff, Nat.reduceAdd, Nat.reduceMul, Int.reduceLT, Int.reduceLE, Int.reduceToNat, BitVec.reduceOfInt, Nat.reduceBEq]) rfl (by simp only [go_sem, ↓reduceIte, Nat.reduceLT, Nat.reduceEqDiff, Nat.reduceLeDiff, Nat.reduceAdd, Nat.reduceMul, Int.reduceLT, Int.reduceLE, Int.reduceToNat, BitVec.reduceOfInt, Nat.reduceBEq]; try rfl) e2 (loadA_scalar agg3 e3) ?_
        by_cases h1 : (l.length : Int) ≤ x
        · have c1 : decide ((l.length : Int) ≤ x) = true := decide_eq_true h1
          rw [if_pos (.inr (.inl h1))] at hgo
          refine al_pureN 4 (by simp only [go_sem, ↓reduceIte, Nat.reduceLT, Nat.reduceEqDiff, Nat.reduceLeDiff, Nat.reduceAdd, Nat.reduceMul, Int.reduceLT, Int.reduceLE, Int.reduceToNat, BitVec.reduceOfInt, Nat.reduceBEq, c0, c1, ge_iff_le]; try rfl) ?_
          refine al_pureN 3 (by simp only [go_sem, ↓reduceIte, Nat.reduceLT, Nat.reduceEqDiff, Nat.reduceLeDiff, Nat.reduceAdd, Nat.reduceMul, Int.reduceLT, Int.reduceLE, Int.reduceToNat, BitVec.reduceOfInt, Nat.reduceBEq, c0, c1, ge_iff_le]; try rfl) ?_
          refine al_pureN 1 (by simp only [go_sem, ↓reduceIte, Nat.reduceLT, Nat.reduceEqDiff, Nat.reduceLeDiff, Nat.reduceAdd, Nat.reduceMul, Int.reduceLT, Int.reduceLE, Int.reduceToNat, BitVec.reduceOfInt, Nat.reduceBEq, c0, c1, ge_iff_le]; try rfl) ?_
          refine al_pureN 1 (by simp only [go_sem, ↓reduceIte, Nat.reduceLT, Nat.reduceEqDiff, Nat.reduceLeDiff, Nat.reduceAdd, Nat.reduceMul, Int.reduceLT, Int.reduceLE, Int.reduceToNat, BitVec.reduceOfInt, Nat.reduceBEq, c0, c1, ge_iff_le, undef]; try rfl) ?_
          refine al_pureN 1 (by simp only [go_sem, ↓reduceIte, Nat.reduceLT, Nat.reduceEqDiff, Nat.reduceLeDiff, Nat.reduceAdd, Nat.reduceMul, Int.reduceLT, Int.reduceLE, Int.reduceToNat, BitVec.reduceOfInt, Nat.reduceBEq, c0, c1, ge_iff_le]; try rfl) ?_
          refine al_pureN 1 (by simp only [go_sem, ↓reduceIte, Nat.reduceLT, Nat.reduceEqDiff, Nat.reduceLeDiff, Nat.reduceAdd, Nat.reduceMul, Int.reduceLT, Int.reduceLE, Int.reduceToNat, BitVec.reduceOfInt, Nat.reduceBEq, c0, c1, ge_iff_le, undef]; try rfl) ?_
          refine al_pureN 1 (by simp only [go_sem, ↓reduceIte, Nat.reduceLT, Nat.reduceEqDiff, Nat.reduceLeDiff, Nat.reduceAdd, Nat.reduceMul, Int.reduceLT, Int.reduceLE, Int.reduceToNat, BitVec.reduceOfInt, Nat.reduceBEq, c0, c1, ge_iff_le]; try rfl) ?_
          refine al_end [0, 1, 5, 6, 39] ?_
          refine awp_if rfl (fun _ => ?_) (fun h => by cases h)
          refine awp_seq (awp_pures [4] (by simp only [go_sem, ↓reduceIte, Nat.reduceLT, Nat.reduceEqDiff, Nat.reduceLeDiff, Nat.reduceAdd, Nat.reduceMul, Int.reduceLT, Int.reduceLE, Int.reduceToNat, BitVec.reduceOfInt, Nat.reduceBEq]; try rfl) ?_)
          exact awp_ret ⟨_, rfl, by rw [permR, hgo]; rfl, hle0 _⟩
        · have c1 : decide ((l.length : Int) ≤ x) = false := decide_eq_false h1
          obtain ⟨y, rfl⟩ : ∃ y : Nat, x = y := ⟨x.toNat, by omega⟩
          have hy : y < l.length := by omega
          have hyy : 0 ≤ (y : Int) ∧ (y : Int) < (l.length : Int) := by omega
          refine al_pureN 4 (by simp only [go_sem, ↓reduceIte, Nat.reduceLT, Nat.reduceEqDiff, Nat.reduceLeDiff, Nat.reduceAdd, Nat.reduceMul, Int.reduceLT, Int.reduceLE, Int.reduceToNat, BitVec.reduceOfInt, Nat.reduceBEq, c0, c1, ge_iff_le, hii]; try rfl) ?_
          refine al_pureN 3 (by simp only [go_sem, ↓reduceIte, Nat.reduceLT, Nat.reduceEqDiff, Nat.reduceLeDiff, Nat.reduceAdd, Nat.reduceMul, Int.reduceLT, Int.reduceLE, Int.reduceToNat, BitVec.reduceOfInt, Nat.reduceBEq, c0, c1, ge_iff_le, hii]; try rfl) ?_
          refine al_pureN 1 (by simp only [go_sem, ↓reduceIte, Nat.reduceLT, Nat.reduceEqDiff, Nat.reduceLeDiff, Nat.reduceAdd, Nat.reduceMul, Int.reduceLT, Int.reduceLE, Int.reduceToNat, BitVec.reduceOfInt, Nat.reduceBEq, c0, c1, ge_iff_le, hii]; try rfl) ?_
          refine al_load rfl (by simp only [go_sem, ↓reduceIte, Nat.reduceLT, Nat.reduceEqDiff, Nat.reduceLeDiff, Nat.reduceAdd, Nat.reduceMul, Int.reduceLT, Int.reduceLE, Int.reduceToNat, BitVec.reduceOfInt, Nat.reduceBEq]) rfl (by simp only [go_sem, ↓reduceIte, Nat.reduceLT, Nat.reduceEqDiff, Nat.reduceLeDiff, Nat.reduceAdd, Nat.reduceMul, Int.reduceLT, Int.reduceLE, Int.reduceToNat, BitVec.reduceOfInt, Nat.reduceBEq]; try rfl) e2 (loadA_scalar agg3 e3) ?_
          refine al_pureN 1 (by simp only [go_sem, ↓reduceIte, Nat.reduceLT, Nat.reduceEqDiff, Nat.reduceLeDiff, Nat.reduceAdd, Nat.reduceMul, Int.reduceLT, Int.reduceLE, Int.reduceToNat, BitVec.reduceOfInt, Nat.reduceBEq, hyy]; try rfl) ?_
          refine al_load rfl (by simp only [go_sem, ↓reduceIte, Nat.reduceLT, Nat.reduceEqDiff, Nat.reduceLeDiff, Nat.reduceAdd, Nat.reduceMul, Int.reduceLT, Int.reduceLE, Int.reduceToNat, BitVec.reduceOfInt, Nat.reduceBEq]) rfl (by simp only [go_sem, ↓reduceIte, Nat.reduceLT, Nat.reduceEqDiff, Nat.reduceLeDiff, Nat.reduceAdd, Nat.reduceMul, Int.reduceLT, Int.reduceLE, Int.reduceToNat, BitVec.reduceOfInt, Nat.reduceBEq]; try rfl) (AHeap.set_self _ _ _) (loadA_scalar agg4 (by simp only [Nat.zero_add, Int.toNat_natCast, Nat.mul_one]; exact seenV_get hy)) ?_
          refine al_pureN 1 (by simp only [go_sem, ↓reduceIte, Nat.reduceLT, Nat.reduceEqDiff, Nat.reduceLeDiff, Nat.reduceAdd, Nat.reduceMul, Int.reduceLT, Int.reduceLE, Int.reduceToNat, BitVec.reduceOfInt, Nat.reduceBEq]; try rfl) ?_
          refine al_end [0, 1, 5, 6, 39] ?_
          simp only [Int.toNat_natCast] at hgo
          cases hbit : s.testBit y with
          | true =>
            rw [if_pos (.inr (.inr hbit))] at hgo
            refine awp_if rfl (fun _ => ?_) (fun h => by cases h)
            refine awp_seq (awp_pures [4] (by simp only [go_sem, ↓reduceIte, Nat.reduceLT, Nat.reduceEqDiff, Nat.reduceLeDiff, Nat.reduceAdd, Nat.reduceMul, Int.reduceLT, Int.reduceLE, Int.reduceToNat, BitVec.reduceOfInt, Nat.reduceBEq]; try rfl) ?_)
            exact awp_ret ⟨_, rfl, by rw [permR, hgo]; rfl, hle0 _⟩
          | false =>
            rw [if_neg (by rw [hbit]; simp; omega)] at hgo
            refine awp_if rfl (fun h => by cases h) (fun _ => ?_)
            refine awp_skip ?_
            refine awp_lit ?_
            refine al_pureN 4 (by simp only [go_sem, ↓reduceIte, Nat.reduceLT, Nat.reduceEqDiff, Nat.reduceLeDiff, Nat.reduceAdd, Nat.reduceMul, Int.reduceLT, Int.reduceLE, Int.reduceToNat, BitVec.reduceOfInt, Nat.reduceBEq, hii]; try rfl) ?_
            refine al_load rfl (by simp only [go_sem, ↓reduceIte, Nat.reduceLT, Nat.reduceEqDiff, Nat.reduceLeDiff, Nat.reduceAdd, Nat.reduceMul, Int.reduceLT, Int.reduceLE, Int.reduceToNat, BitVec.reduceOfInt, Nat.reduceBEq]) rfl (by simp only [go_sem, ↓reduceIte, Nat.reduceLT, Nat.reduceEqDiff, Nat.reduceLeDiff, Nat.reduceAdd, Nat.reduceMul, Int.reduceLT, Int.reduceLE, Int.reduceToNat, BitVec.reduceOfInt, Nat.reduceBEq]; try rfl) e2 (loadA_scalar agg3 e3) ?_
            refine al_pureN 1 (by simp only [go_sem, ↓reduceIte, Nat.reduceLT, Nat.reduceEqDiff, Nat.reduceLeDiff, Nat.reduceAdd, Nat.reduceMul, Int.reduceLT, Int.reduceLE, Int.reduceToNat, BitVec.reduceOfInt, Nat.reduceBEq, hyy]; try rfl) ?_
            refine al_store1 rfl (by simp only [go_sem, ↓reduceIte, Nat.reduceLT, Nat.reduceEqDiff, Nat.reduceLeDiff, Nat.reduceAdd, Nat.reduceMul, Int.reduceLT, Int.reduceLE, Int.reduceToNat, BitVec.reduceOfInt, Nat.reduceBEq]; try rfl) rfl (by simp only [go_sem, ↓reduceIte, Nat.reduceLT, Nat.reduceEqDiff, Nat.reduceLeDiff, Nat.reduceAdd, Nat.reduceMul, Int.reduceLT, Int.reduceLE, Int.reduceToNat, BitVec.reduceOfInt, Nat.reduceBEq]; try rfl) (by simp only [go_sem, ↓reduceIte, Nat.reduceLT, Nat.reduceEqDiff, Nat.reduceLeDiff, Nat.reduceAdd, Nat.reduceMul, Int.reduceLT, Int.reduceLE, Int.reduceToNat, BitVec.reduceOfInt, Nat.reduceBEq]; try rfl) (AHeap.set_self _ _ _) rfl size4 rfl rfl (by simp only [Nat.zero_add, seenV_len]; simpa using hy) ?_
            refine al_end [0, 1, 5, 6] ?_
            refine awp_pures [0, 1, 5, 6] (by simp only [go_sem, ↓reduceIte, Nat.reduceLT, Nat.reduceEqDiff, Nat.reduceLeDiff, Nat.reduceAdd, Nat.reduceMul, Int.reduceLT, Int.reduceLE, Int.reduceToNat, BitVec.reduceOfInt, Nat.reduceBEq, i64_add hj1]; try rfl) ?_
            refine ALoop.cast3 (ih (i + 1, s ||| 2 ^ y) ⟨hlt, hgo⟩ (by simp; omega)) (by first | (simp only [go_sem]; try rfl) | rfl) rfl ?_
            simp only [set_set, Nat.zero_add, Int.toNat_natCast, Nat.mul_one, seenV_set]
    · have hb : decide ((i : Int) < (l.length : Int)) = false := by simpa using hlt
      have hil : i = l.length := by omega
      subst hil
      rw [List.drop_length, permGo] at hgo
      refine awp_seq ?_
      refine awp_seq (awp_pures [0, 1, 5, 6, 15] (by simp only [go_sem, ↓reduceIte, Nat.reduceLT, Nat.reduceEqDiff, Nat.reduceLeDiff, Nat.reduceAdd, Nat.reduceMul, Int.reduceLT, Int.reduceLE, Int.reduceToNat, BitVec.reduceOfInt, Nat.reduceBEq, hb]; try rfl) ?_)
      refine awp_if rfl (fun h => by cases h) (fun _ => ?_)
      refine awp_exit ?_
      simp only [Go.Abs.Seq, Go.Abs.Round, Go.Abs.InBlock, ↓reduceIte]
      refine awp_seq (awp_pures [4] (by simp only [go_sem, ↓reduceIte, Nat.reduceLT, Nat.reduceEqDiff, Nat.reduceLeDiff, Nat.reduceAdd, Nat.reduceMul, Int.reduceLT, Int.reduceLE, Int.reduceToNat, BitVec.reduceOfInt, Nat.reduceBEq]; try rfl) ?_)
      exact awp_ret ⟨_, rfl, by rw [permR, hgo]; simp, hle0 _⟩
  · have c0 : ((l.length : Int) != n) = true := by simpa using hlen
    refine awp_seq (awp_pures [0, 1, 10] (by simp only [go_sem, ↓reduceIte, Nat.reduceLT, Nat.reduceEqDiff, Nat.reduceLeDiff, Nat.reduceAdd, Nat.reduceMul, Int.reduceLT, Int.reduceLE, Int.reduceToNat, BitVec.reduceOfInt, Nat.reduceBEq, c0]; try rfl) ?_)
    refine awp_if rfl (fun _ => ?_) (fun h => by cases h)
    refine awp_seq (awp_pures [4] (by simp only [go_sem, ↓reduceIte, Nat.reduceLT, Nat.reduceEqDiff, Nat.reduceLeDiff, Nat.reduceAdd, Nat.reduceMul, Int.reduceLT, Int.reduceLE, Int.reduceToNat, BitVec.reduceOfInt, Nat.reduceBEq]; try rfl) ?_)
    exact awp_ret ⟨_, rfl, by rw [permR, decide_eq_false hlen, Bool.and_false]; rfl, AHeap.le_refl _⟩
theorem Order_gives (l : List Int) (hl : l.length ≤ 1000000) (n : Int) (sv : Value) (N : Nat) (σ : AHeap) (hs : SlAt σ sv (ints l)) : Gives Try.prog 65 [sv, .int .i64 n] N σ (.bool (permR l n)) := Order_gives' l n (fun _ => hl) sv N σ hs
theorem Transforms_gives' (l : List Int) (n : Nat) (hn : n ≤ 62) (hl : l.length = n → l.length ≤ 1000000) (f : Nat) (hf : f < 256) (neg : Bool) (sv : Value) (N : Nat) (σ : AHeap) (hs : SlAt σ sv (ints l)) :
    Gives Try.prog 44 [trV sv f neg, .int .i64 n] N σ (.bool (permR l n && decide (f < 2 ^ n))) := by
  refine gives_of rfl (aok_fresh fun hN => aok_body (n := 18) Try.func44 rfl rfl (by simp) ?_)
  have hle : σ.le (σ.set N ⟨[sv, .int .u8 f, .bool neg], true, 1⟩) := AHeap.le_set (AHeap.le_refl _) fun i b hb => Nat.ne_of_lt (hN i b hb)
  have hg : (σ.set N ⟨[sv, .int .u8 f, .bool neg], true, 1⟩) N = some ⟨[sv, .int .u8 f, .bool neg], true, 1⟩ := AHeap.set_self _ _ _
  have hw := u64_wrap_nat (show n < 18446744073709551616 by omega)
  have hwf := i64_wrap_nat (show f < 9223372036854775808 by omega)
  first | refine awp_seq (awp_lit ?_) | refine awp_lit ?_ | refine awp_seq (awp_seq (awp_lit ?_))
  refine al_box 1 rfl rfl rfl rfl ?_
  change AList _ _ _ _ _ _ (σ.set N ⟨[sv, .int .u8 f, .bool neg], true, 1⟩) _
  generalize σ.set N ⟨[sv, .int .u8 f, .bool neg], true, 1⟩ = σ1 at hle hg ⊢
  refine al_pureN 1 (by simp only [go_sem, ↓reduceIte, Nat.reduceLT, Nat.reduceEqDiff, Nat.reduceLeDiff, Nat.reduceAdd, Nat.reduceMul, Int.reduceLT, Int.reduceLE, Int.reduceToNat, BitVec.reduceOfInt, Nat.reduceBEq]; try rfl) ?_
  refine al_end [1, 2] ?_
  first | refine awp_seq (awp_lit ?_) | refine awp_lit ?_ | refine awp_seq (awp_seq (awp_lit ?_))
  refine al_pureN 1 (by simp only [go_sem, ↓reduceIte, Nat.reduceLT, Nat.reduceEqDiff, Nat.reduceLeDiff, Nat.reduceAdd, Nat.reduceMul, Int.reduceLT, Int.reduceLE, Int.reduceToNat, BitVec.reduceOfInt, Nat.reduceBEq]; try rfl) ?_
  refine al_load rfl (by simp only [go_sem, ↓reduceIte, Nat.reduceLT, Nat.reduceEqDiff, Nat.reduceLeDiff, Nat.reduceAdd, Nat.reduceMul, Int.reduceLT, Int.reduceLE, Int.reduceToNat, BitVec.reduceOfInt, Nat.reduceBEq]) rfl (by simp only [go_sem, ↓reduceIte, Nat.reduceLT, Nat.reduceEqDiff, Nat.reduceLeDiff, Nat.reduceAdd, Nat.reduceMul, Int.reduceLT, Int.reduceLE, Int.reduceToNat, BitVec.reduceOfInt, Nat.reduceBEq]; try rfl) hg (loadA_scalar agg23 rfl) ?_
  refine al_pureN 1 (by simp only [go_sem, ↓reduceIte, Nat.reduceLT, Nat.reduceEqDiff, Nat.reduceLeDiff, Nat.reduceAdd, Nat.reduceMul, Int.reduceLT, Int.reduceLE, Int.reduceToNat, BitVec.reduceOfInt, Nat.reduceBEq]; try rfl) ?_
  refine al_gives (vs := ?vs1) (v := ?v1) rfl ?ha1 ?hh1 (by kernel_rfl) rfl (by simp only [go_sem, ↓reduceIte, Nat.reduceLT, Nat.reduceEqDiff, Nat.reduceLeDiff, Nat.reduceAdd, Nat.reduceMul, Int.reduceLT, Int.reduceLE, Int.reduceToNat, BitVec.reduceOfInt, Nat.reduceBEq]) ?kk1
  case ha1 => simp only [go_sem, ↓reduceIte, Nat.reduceLT, Nat.reduceEqDiff, Nat.reduceLeDiff, Nat.reduceAdd, Nat.reduceMul, Int.reduceLT, Int.reduceLE, Int.reduceToNat, BitVec.reduceOfInt, Nat.reduceBEq]; try rfl
  case hh1 => exact Order_gives' l n (fun h => hl (by omega)) _ _ _ (hs.mono hle)
  cases hp : permR l n with
  | true =>
    refine al_pureN 2 (by simp only [go_sem, ↓reduceIte, Nat.reduceLT, Nat.reduceEqDiff, Nat.reduceLeDiff, Nat.reduceAdd, Nat.reduceMul, Int.reduceLT, Int.reduceLE, Int.reduceToNat, BitVec.reduceOfInt, Nat.reduceBEq]; try rfl) ?_
    refine al_load rfl (by simp only [go_sem, ↓reduceIte, Nat.reduceLT, Nat.reduceEqDiff, Nat.reduceLeDiff, Nat.reduceAdd, Nat.reduceMul, Int.reduceLT, Int.reduceLE, Int.reduceToNat, BitVec.reduceOfInt, Nat.reduceBEq]) rfl (by simp only [go_sem, ↓reduceIte, Nat.reduceLT, Nat.reduceEqDiff, Nat.reduceLeDiff, Nat.reduceAdd, Nat.reduceMul, Int.reduceLT, Int.reduceLE, Int.reduceToNat, BitVec.reduceOfInt, Nat.reduceBEq]; try rfl) hg (loadA_scalar agg5 rfl) ?_
    by_cases h : f < 2 ^ n
    · have hb : decide ((f : Int) < ((2 ^ n : Nat) : Int)) = true := decide_eq_true (Int.ofNat_lt.2 h)
      refine al_pureN 3 (by simp only [go_sem, ↓reduceIte, Nat.reduceLT, Nat.reduceEqDiff, Nat.reduceLeDiff, Nat.reduceAdd, Nat.reduceMul, Int.reduceLT, Int.reduceLE, Int.reduceToNat, BitVec.reduceOfInt, Nat.reduceBEq, hwf, hw, i64_shl_one hn, hb]; try rfl) ?_
      refine al_pureN 4 (by simp only [go_sem, ↓reduceIte, Nat.reduceLT, Nat.reduceEqDiff, Nat.reduceLeDiff, Nat.reduceAdd, Nat.reduceMul, Int.reduceLT, Int.reduceLE, Int.reduceToNat, BitVec.reduceOfInt, Nat.reduceBEq, hwf, hw, i64_shl_one hn, hb]; try rfl) ?_
      refine al_end [4] ?_
      exact awp_ret ⟨_, rfl, by rw [decide_eq_true h]; rfl, hle⟩
    · have hb : decide ((f : Int) < ((2 ^ n : Nat) : Int)) = false := decide_eq_false fun h2 => h (Int.ofNat_lt.1 h2)
      refine al_pureN 3 (by simp only [go_sem, ↓reduceIte, Nat.reduceLT, Nat.reduceEqDiff, Nat.reduceLeDiff, Nat.reduceAdd, Nat.reduceMul, Int.reduceLT, Int.reduceLE, Int.reduceToNat, BitVec.reduceOfInt, Nat.reduceBEq, hwf, hw, i64_shl_one hn, hb]; try rfl) ?_
      refine al_pureN 4 (by simp only [go_sem, ↓reduceIte, Nat.reduceLT, Nat.reduceEqDiff, Nat.reduceLeDiff, Nat.reduceAdd, Nat.reduceMul, Int.reduceLT, Int.reduceLE, Int.reduceToNat, BitVec.reduceOfInt, Nat.reduceBEq, hwf, hw, i64_shl_one hn, hb]; try rfl) ?_
      refine al_end [4] ?_
      exact awp_ret ⟨_, rfl, by rw [decide_eq_false h]; rfl, hle⟩
  | false =>
    refine al_pureN 2 (by simp only [go_sem, ↓reduceIte, Nat.reduceLT, Nat.reduceEqDiff, Nat.reduceLeDiff, Nat.reduceAdd, Nat.reduceMul, Int.reduceLT, Int.reduceLE, Int.reduceToNat, BitVec.reduceOfInt, Nat.reduceBEq]; try rfl) ?_
    refine al_pureN 1 (by simp only [go_sem, ↓reduceIte, Nat.reduceLT, Nat.reduceEqDiff, Nat.reduceLeDiff, Nat.reduceAdd, Nat.reduceMul, Int.reduceLT, Int.reduceLE, Int.reduceToNat, BitVec.reduceOfInt, Nat.reduceBEq, undef]; try rfl) ?_
    refine al_pureN 3 (by simp only [go_sem, ↓reduceIte, Nat.reduceLT, Nat.reduceEqDiff, Nat.reduceLeDiff, Nat.reduceAdd, Nat.reduceMul, Int.reduceLT, Int.reduceLE, Int.reduceToNat, BitVec.reduceOfInt, Nat.reduceBEq]; try rfl) ?_
    refine al_pureN 4 (by simp only [go_sem, ↓reduceIte, Nat.reduceLT, Nat.reduceEqDiff, Nat.reduceLeDiff, Nat.reduceAdd, Nat.reduceMul, Int.reduceLT, Int.reduceLE, Int.reduceToNat, BitVec.reduceOfInt, Nat.reduceBEq]; try rfl) ?_
    refine al_end [4] ?_
    exact awp_ret ⟨_, rfl, rfl, hle⟩

theorem Transforms_gives (l : List Int) (hl : l.length ≤ 1000000) (n : Nat) (hn : n ≤ 62) (f : Nat) (hf : f < 256) (neg : Bool) (sv : Value) (N : Nat) (σ : AHeap) (hs : SlAt σ sv (ints l)) :
    Gives Try.prog 44 [trV sv f neg, .int .i64 n] N σ (.bool (permR l n && decide (f < 2 ^ n))) := Transforms_gives' l n hn (fun _ => hl) f hf neg sv N σ hs
theorem agg33 : aggA Try.prog 33 = some (some 3) := by kernel_rfl
theorem applyR_ref (t : BitVec 64) (n : Int) (l : List Int) (f : Nat) (neg : Bool) (h : validT t n = true) : ApplyR t n l f neg = if (permR l n && decide (f < 2 ^ n.toNat)) = true then (applyV t n.toNat l f neg, 0) else (0#64, 1) := by
  unfold ApplyR
  simp only [h, true_and, shr_zero, Bool.and_eq_true, decide_eq_true_eq]

theorem rApply_gives (t : BitVec 64) (m : Int) (l : List Int) (hl : l.length ≤ 1000000) (f : Nat) (hf : f < 256) (neg : Bool) (sv : Value) (N : Nat) (σ : AHeap) (hs : SlAt σ sv (ints l)) :
    Gives Try.prog 17 [.int .u64 t.toNat, .int .i64 m, trV sv f neg] N σ (tup2 (ApplyR t m l f neg)) := by
  refine gives_of rfl (aok_fresh fun hN => aok_body (n := 61) Try.func17 rfl rfl (by simp) ?_)
  have hle : σ.le (σ.set N ⟨[sv, .int .u8 f, .bool neg], true, 1⟩) := AHeap.le_set (AHeap.le_refl _) fun i b hb => Nat.ne_of_lt (hN i b hb)
  have hg : (σ.set N ⟨[sv, .int .u8 f, .bool neg], true, 1⟩) N = some ⟨[sv, .int .u8 f, .bool neg], true, 1⟩ := AHeap.set_self _ _ _
  have hwf := i64_wrap_nat (show f < 9223372036854775808 by omega)
  first | refine awp_seq (awp_lit ?_) | refine awp_lit ?_ | refine awp_seq (awp_seq (awp_lit ?_))
  refine al_box 1 rfl rfl rfl rfl ?_
  change AList _ _ _ _ _ _ (σ.set N ⟨[sv, .int .u8 f, .bool neg], true, 1⟩) _
  have hlt1 : ∀ i b, (σ.set N ⟨[sv, .int .u8 f, .bool neg], true, 1⟩) i = some b → i < N + 1 := fun i b hb => by
    unfold AHeap.set at hb
    split at hb
    · omega
    · have := hN i b hb; omega
  generalize σ.set N ⟨[sv, .int .u8 f, .bool neg], true, 1⟩ = σ1 at hle hg hlt1 ⊢
  refine al_pureN 2 (by simp only [go_sem, ↓reduceIte, Nat.reduceLT, Nat.reduceEqDiff, Nat.reduceLeDiff, Nat.reduceAdd, Nat.reduceMul, Int.reduceLT, Int.reduceLE, Int.reduceToNat, BitVec.reduceOfInt, Nat.reduceBEq]; try rfl) ?_
  refine al_end [0, 1, 5] ?_
  refine awp_seq ?_
  first | refine awp_seq (awp_lit ?_) | refine awp_lit ?_ | refine awp_seq (awp_seq (awp_lit ?_))
  refine al_pureN 2 (by simp only [go_sem, ↓reduceIte, Nat.reduceLT, Nat.reduceEqDiff, Nat.reduceLeDiff, Nat.reduceAdd, Nat.reduceMul, Int.reduceLT, Int.reduceLE, Int.reduceToNat, BitVec.reduceOfInt, Nat.reduceBEq]; try rfl) ?_
  refine al_gives (vs := ?vs2) (v := ?v2) rfl ?ha2 ?hh2 (by kernel_rfl) rfl (by simp only [go_sem, ↓reduceIte, Nat.reduceLT, Nat.reduceEqDiff, Nat.reduceLeDiff, Nat.reduceAdd, Nat.reduceMul, Int.reduceLT, Int.reduceLE, Int.reduceToNat, BitVec.reduceOfInt, Nat.reduceBEq]) ?kk2
  case ha2 => simp only [go_sem, ↓reduceIte, Nat.reduceLT, Nat.reduceEqDiff, Nat.reduceLeDiff, Nat.reduceAdd, Nat.reduceMul, Int.reduceLT, Int.reduceLE, Int.reduceToNat, BitVec.reduceOfInt, Nat.reduceBEq]; try rfl
  case hh2 => exact rValid_gives _ _ _ _
  by_cases hv : validT t m = true
  · obtain ⟨n, rfl, hn, ht⟩ := validT_iff.1 hv
    rw [hv]
    refine al_pureN 2 (by simp only [go_sem, ↓reduceIte, Nat.reduceLT, Nat.reduceEqDiff, Nat.reduceLeDiff, Nat.reduceAdd, Nat.reduceMul, Int.reduceLT, Int.reduceLE, Int.reduceToNat, BitVec.reduceOfInt, Nat.reduceBEq]; try rfl) ?_
    refine al_load rfl (by simp only [go_sem, ↓reduceIte, Nat.reduceLT, Nat.reduceEqDiff, Nat.reduceLeDiff, Nat.reduceAdd, Nat.reduceMul, Int.reduceLT, Int.reduceLE, Int.reduceToNat, BitVec.reduceOfInt, Nat.reduceBEq]) rfl (by simp only [go_sem, ↓reduceIte, Nat.reduceLT, Nat.reduceEqDiff, Nat.reduceLeDiff, Nat.reduceAdd, Nat.reduceMul, Int.reduceLT, Int.reduceLE, Int.reduceToNat, BitVec.reduceOfInt, Nat.reduceBEq]; try rfl) hg (loadA_agg agg33 rfl) ?_
    refine al_pureN 1 (by simp only [go_sem, ↓reduceIte, Nat.reduceLT, Nat.reduceEqDiff, Nat.reduceLeDiff, Nat.reduceAdd, Nat.reduceMul, Int.reduceLT, Int.reduceLE, Int.reduceToNat, BitVec.reduceOfInt, Nat.reduceBEq]; try rfl) ?_
    refine al_gives (vs := ?vs3) (v := ?v3) rfl ?ha3 ?hh3 (by kernel_rfl) rfl (by simp only [go_sem, ↓reduceIte, Nat.reduceLT, Nat.reduceEqDiff, Nat.reduceLeDiff, Nat.reduceAdd, Nat.reduceMul, Int.reduceLT, Int.reduceLE, Int.reduceToNat, BitVec.reduceOfInt, Nat.reduceBEq]) ?kk3
    case ha3 => simp only [go_sem, ↓reduceIte, Nat.reduceLT, Nat.reduceEqDiff, Nat.reduceLeDiff, Nat.reduceAdd, Nat.reduceMul, Int.reduceLT, Int.reduceLE, Int.reduceToNat, BitVec.reduceOfInt, Nat.reduceBEq]; try rfl
    case hh3 => exact Transforms_gives l hl n (by omega) f hf neg _ _ _ (hs.mono hle)
    by_cases hp : (permR l n && decide (f < 2 ^ n)) = true
    · rw [hp]
      refine al_pureN 2 (by simp only [go_sem, ↓reduceIte, Nat.reduceLT, Nat.reduceEqDiff, Nat.reduceLeDiff, Nat.reduceAdd, Nat.reduceMul, Int.reduceLT, Int.reduceLE, Int.reduceToNat, BitVec.reduceOfInt, Nat.reduceBEq]; try rfl) ?_
      refine al_end [0, 1, 5, 21] ?_
      refine awp_if rfl (fun h => by cases h) (fun _ => ?_)
      refine awp_skip ?_
      rw [Bool.and_eq_true, decide_eq_true_eq] at hp
      have hln : l.length = n := by have := (permR_mem hp.1).1; omega
      have hpos := (permR_mem hp.1).2
      have h64 := two_pow_le6 hn
      have hw := u64_wrap_nat (show n < 18446744073709551616 by omega)
      obtain ⟨bb, cc, hsv⟩ := hs.len
      rw [ints_len] at hsv
      subst hsv
      refine awp_seq (awp_pures [0, 1, 5, 8] (by simp only [go_sem, ↓reduceIte, Nat.reduceLT, Nat.reduceEqDiff, Nat.reduceLeDiff, Nat.reduceAdd, Nat.reduceMul, Int.reduceLT, Int.reduceLE, Int.reduceToNat, BitVec.reduceOfInt, Nat.reduceBEq]; try rfl) ?_)
      refine awp_seq ?_
      refine awp_seq (awp_pures [0, 1, 5, 8, 9] (by simp only [go_sem, ↓reduceIte, Nat.reduceLT, Nat.reduceEqDiff, Nat.reduceLeDiff, Nat.reduceAdd, Nat.reduceMul, Int.reduceLT, Int.reduceLE, Int.reduceToNat, BitVec.reduceOfInt, Nat.reduceBEq]; try rfl) ?_)
      refine awp_block (awp_loop ?_)
      refine ALoop.cast3 (aloop_ind (α := Nat × Value × Nat × AHeap)
        (fun x => x.1 ≤ 2 ^ n ∧ N + 1 ≤ x.2.2.1 ∧ OwnAt x.2.2.2 (N + 1) x.2.1 (bools ((List.range x.1).map fun k => (t.getLsbD (refX k l f n) != neg))) x.1 1 ∧ σ1.le x.2.2.2) (fun x => 2 ^ n - x.1)
        (fun x => [(0, .int .u64 t.toNat), (1, .int .i64 n), (5, .pointer (some ⟨N, 0, none⟩)), (8, x.2.1), (9, .int .i64 x.1)]) (fun x => x.2.2.1) (fun x => x.2.2.2) ?_
        (0, .slice none 0 0, N + 1, σ1) ⟨by simp, by simp, OwnAt.nil, AHeap.le_refl _⟩) rfl rfl rfl
      rintro ⟨k, av, Nk, σk⟩ ⟨hk, hNk, hown, hlek⟩ ih
      simp only at hk hNk hown hlek ⊢
      by_cases hlt : k < 2 ^ n
      · have hb : decide ((k : Int) < ((2 ^ n : Nat) : Int)) = true := decide_eq_true (Int.ofNat_lt.2 hlt)
        have hj1 : -9223372036854775808 ≤ (k : Int) + 1 ∧ (k : Int) + 1 ≤ 9223372036854775807 := by omega
        refine awp_seq ?_
        refine awp_seq (awp_pures [0, 1, 5, 8, 9, 26] (by simp only [go_sem, ↓reduceIte, Nat.reduceLT, Nat.reduceEqDiff, Nat.reduceLeDiff, Nat.reduceAdd, Nat.reduceMul, Int.reduceLT, Int.reduceLE, Int.reduceToNat, BitVec.reduceOfInt, Nat.reduceBEq, hw, i64_shl_one (show n ≤ 62 by omega), hb]; try rfl) ?_)
        refine awp_if rfl (fun _ => ?_) (fun h => by cases h)
        refine awp_skip ?_
        refine awp_seq (awp_block ?_)
        refine awp_seq (awp_pures [0, 1, 5, 8, 9, 10] (by simp only [go_sem, ↓reduceIte, Nat.reduceLT, Nat.reduceEqDiff, Nat.reduceLeDiff, Nat.reduceAdd, Nat.reduceMul, Int.reduceLT, Int.reduceLE, Int.reduceToNat, BitVec.reduceOfInt, Nat.reduceBEq]; try rfl) ?_)
        refine awp_seq ?_
        refine awp_seq (awp_pures [0, 1, 5, 8, 9, 10, 11] (by simp only [go_sem, ↓reduceIte, Nat.reduceLT, Nat.reduceEqDiff, Nat.reduceLeDiff, Nat.reduceAdd, Nat.reduceMul, Int.reduceLT, Int.reduceLE, Int.reduceToNat, BitVec.reduceOfInt, Nat.reduceBEq]; try rfl) ?_)
        refine awp_block (awp_loop ?_)
        refine ALoop.cast3 (aloop_ind (α := Nat) (fun i => i ≤ n) (fun i => n - i)
          (fun i => [(0, .int .u64 t.toNat), (1, .int .i64 n), (5, .pointer (some ⟨N, 0, none⟩)), (8, av), (9, .int .i64 k), (10, .int .i64 (refX k l f i)), (11, .int .i64 i)]) (fun _ => Nk) (fun _ => σk) ?_
          0 (by simp)) rfl rfl rfl
        intro i hi ih2
        have hgk := hlek _ _ hg
        by_cases hin : i < n
        · have hb2 : decide ((i : Int) < (n : Int)) = true := decide_eq_true (by omega)
          have hj2 : -9223372036854775808 ≤ (i : Int) + 1 ∧ (i : Int) + 1 ≤ 9223372036854775807 := by omega
          refine awp_seq ?_
          refine awp_seq (awp_pures [0, 1, 5, 8, 9, 10, 11, 31] (by simp only [go_sem, ↓reduceIte, Nat.reduceLT, Nat.reduceEqDiff, Nat.reduceLeDiff, Nat.reduceAdd, Nat.reduceMul, Int.reduceLT, Int.reduceLE, Int.reduceToNat, BitVec.reduceOfInt, Nat.reduceBEq, hb2]; try rfl) ?_)
          refine awp_if rfl (fun _ => ?_) (fun h => by cases h)
          refine awp_skip ?_
          have hil : i < l.length := by omega
          obtain ⟨id, off, cap, b, e1, e2, e3⟩ := ((hs.mono hle).mono hlek).at (j := i) (by rw [ints_len]; exact hil)
          rw [ints_len] at e1
          cases e1
          have e3 : b.cells[off + i]? = some (.int .i64 l[i]) := by rw [e3]; simp [ints]
          have hii : 0 ≤ (i : Int) ∧ (i : Int) < (l.length : Int) := by omega
          have hget : l.getD i 0 = l[i] := by rw [List.getD_eq_getElem?_getD, List.getElem?_eq_getElem hil]; rfl
          have hp1 := hpos l[i] (List.getElem_mem hil)
          have hstep : refX k l f (i + 1) = setb (refX k l f i) i (k.testBit (l[i]).toNat != f.testBit i) := by rw [refX, hget]
          generalize l[i] = x at e3 hp1 hstep
          obtain ⟨y, rfl⟩ : ∃ y : Nat, x = y := ⟨x.toNat, by omega⟩
          rw [Int.toNat_natCast] at hstep
          have hrx : refX k l f i ≤ 9223372036854775807 := by
            have h1 := refX_lt k l f i
            have h2 : 2 ^ i ≤ 2 ^ 6 := Nat.pow_le_pow_right (by omega) (by omega)
            omega
          refine awp_seq (awp_block ?_)
          refine awp_quiet [0, 1, 5, 8, 9, 10, 11] (by kernel_rfl) (by kernel_rfl) ?_
          refine aq_pureN 4 (by simp only [go_sem, ↓reduceIte, Nat.reduceLT, Nat.reduceEqDiff, Nat.reduceLeDiff, Nat.reduceAdd, Nat.reduceMul, Int.reduceLT, Int.reduceLE, Int.reduceToNat, BitVec.reduceOfInt, Nat.reduceBEq]; try rfl) ?_
          refine aq_load rfl (by simp only [go_sem, ↓reduceIte, Nat.reduceLT, Nat.reduceEqDiff, Nat.reduceLeDiff, Nat.reduceAdd, Nat.reduceMul, Int.reduceLT, Int.reduceLE, Int.reduceToNat, BitVec.reduceOfInt, Nat.reduceBEq]; try rfl) rfl (by simp only [go_sem, ↓reduceIte, Nat.reduceLT, Nat.reduceEqDiff, Nat.reduceLeDiff, Nat.reduceAdd, Nat.reduceMul, Int.reduceLT, Int.reduceLE, Int.reduceToNat, BitVec.reduceOfInt, Nat.reduceBEq]; try rfl) hgk (loadA_scalar agg23 rfl) ?_
          refine aq_pureN 2 (by simp only [go_sem, ↓reduceIte, Nat.reduceLT, Nat.reduceEqDiff, Nat.reduceLeDiff, Nat.reduceAdd, Nat.reduceMul, Int.reduceLT, Int.reduceLE, Int.reduceToNat, BitVec.reduceOfInt, Nat.reduceBEq, hii]; try rfl) ?_
          refine aq_load rfl (by simp only [go_sem, ↓reduceIte, Nat.reduceLT, Nat.reduceEqDiff, Nat.reduceLeDiff, Nat.reduceAdd, Nat.reduceMul, Int.reduceLT, Int.reduceLE, Int.reduceToNat, BitVec.reduceOfInt, Nat.reduceBEq]; try rfl) rfl (by simp only [go_sem, ↓reduceIte, Nat.reduceLT, Nat.reduceEqDiff, Nat.reduceLeDiff, Nat.reduceAdd, Nat.reduceMul, Int.reduceLT, Int.reduceLE, Int.reduceToNat, BitVec.reduceOfInt, Nat.reduceBEq]; try rfl) e2 (loadA_scalar agg3 e3) ?_
          refine aq_gives (vs := ?vs4) (v := ?v4) rfl ?ha4 ?hh4 ?hf4 (by kernel_rfl) rfl (by simp only [go_sem, ↓reduceIte, Nat.reduceLT, Nat.reduceEqDiff, Nat.reduceLeDiff, Nat.reduceAdd, Nat.reduceMul, Int.reduceLT, Int.reduceLE, Int.reduceToNat, BitVec.reduceOfInt, Nat.reduceBEq]) ?kk4
          case ha4 => simp only [go_sem, ↓reduceIte, Nat.reduceLT, Nat.reduceEqDiff, Nat.reduceLeDiff, Nat.reduceAdd, Nat.reduceMul, Int.reduceLT, Int.reduceLE, Int.reduceToNat, BitVec.reduceOfInt, Nat.reduceBEq]; try rfl
          case hh4 => exact bit_gives k y (by omega) (by omega) _ _
          case hf4 => rfl
          refine aq_pureN 1 (by simp only [go_sem, ↓reduceIte, Nat.reduceLT, Nat.reduceEqDiff, Nat.reduceLeDiff, Nat.reduceAdd, Nat.reduceMul, Int.reduceLT, Int.reduceLE, Int.reduceToNat, BitVec.reduceOfInt, Nat.reduceBEq]; try rfl) ?_
          refine aq_load rfl (by simp only [go_sem, ↓reduceIte, Nat.reduceLT, Nat.reduceEqDiff, Nat.reduceLeDiff, Nat.reduceAdd, Nat.reduceMul, Int.reduceLT, Int.reduceLE, Int.reduceToNat, BitVec.reduceOfInt, Nat.reduceBEq]; try rfl) rfl (by simp only [go_sem, ↓reduceIte, Nat.reduceLT, Nat.reduceEqDiff, Nat.reduceLeDiff, Nat.reduceAdd, Nat.reduceMul, Int.reduceLT, Int.reduceLE, Int.reduceToNat, BitVec.reduceOfInt, Nat.reduceBEq]; try rfl) hgk (loadA_scalar agg5 rfl) ?_
          refine aq_pureN 2 (by simp only [go_sem, ↓reduceIte, Nat.reduceLT, Nat.reduceEqDiff, Nat.reduceLeDiff, Nat.reduceAdd, Nat.reduceMul, Int.reduceLT, Int.reduceLE, Int.reduceToNat, BitVec.reduceOfInt, Nat.reduceBEq, hwf]; try rfl) ?_
          refine aq_gives (vs := ?vs5) (v := ?v5) rfl ?ha5 ?hh5 ?hf5 (by kernel_rfl) rfl (by simp only [go_sem, ↓reduceIte, Nat.reduceLT, Nat.reduceEqDiff, Nat.reduceLeDiff, Nat.reduceAdd, Nat.reduceMul, Int.reduceLT, Int.reduceLE, Int.reduceToNat, BitVec.reduceOfInt, Nat.reduceBEq]) ?kk5
          case ha5 => simp only [go_sem, ↓reduceIte, Nat.reduceLT, Nat.reduceEqDiff, Nat.reduceLeDiff, Nat.reduceAdd, Nat.reduceMul, Int.reduceLT, Int.reduceLE, Int.reduceToNat, BitVec.reduceOfInt, Nat.reduceBEq]; try rfl
          case hh5 => exact bit_gives f i (by omega) (by omega) _ _
          case hf5 => rfl
          refine aq_pureN 1 (by simp only [go_sem, ↓reduceIte, Nat.reduceLT, Nat.reduceEqDiff, Nat.reduceLeDiff, Nat.reduceAdd, Nat.reduceMul, Int.reduceLT, Int.reduceLE, Int.reduceToNat, BitVec.reduceOfInt, Nat.reduceBEq]; try rfl) ?_
          refine aq_gives (vs := ?vs6) (v := ?v6) rfl ?ha6 ?hh6 ?hf6 (by kernel_rfl) rfl (by simp only [go_sem, ↓reduceIte, Nat.reduceLT, Nat.reduceEqDiff, Nat.reduceLeDiff, Nat.reduceAdd, Nat.reduceMul, Int.reduceLT, Int.reduceLE, Int.reduceToNat, BitVec.reduceOfInt, Nat.reduceBEq]) ?kk6
          case ha6 => simp only [go_sem, ↓reduceIte, Nat.reduceLT, Nat.reduceEqDiff, Nat.reduceLeDiff, Nat.reduceAdd, Nat.reduceMul, Int.reduceLT, Int.reduceLE, Int.reduceToNat, BitVec.reduceOfInt, Nat.reduceBEq]; try rfl
          case hh6 => exact set_gives (refX k l f i) i (k.testBit y != f.testBit i) (by omega) (by omega) _ _
          case hf6 => rfl
          refine aq_pureN 1 (by simp only [go_sem, ↓reduceIte, Nat.reduceLT, Nat.reduceEqDiff, Nat.reduceLeDiff, Nat.reduceAdd, Nat.reduceMul, Int.reduceLT, Int.reduceLE, Int.reduceToNat, BitVec.reduceOfInt, Nat.reduceBEq]; try rfl) ?_
          refine aq_nil ?_
          rw [← hstep]
          refine awp_pures [0, 1, 5, 8, 9, 10, 11] (by simp only [go_sem, ↓reduceIte, Nat.reduceLT, Nat.reduceEqDiff, Nat.reduceLeDiff, Nat.reduceAdd, Nat.reduceMul, Int.reduceLT, Int.reduceLE, Int.reduceToNat, BitVec.reduceOfInt, Nat.reduceBEq, i64_add hj2]; try rfl) ?_
          refine (ih2 (i + 1) (by omega) (by omega)).cast (by first | (simp only [go_sem, ↓reduceIte, Nat.reduceLT, Nat.reduceEqDiff, Nat.reduceLeDiff, Nat.reduceAdd, Nat.reduceMul, Int.reduceLT, Int.reduceLE, Int.reduceToNat, BitVec.reduceOfInt, Nat.reduceBEq]; try rfl) | rfl)
        · have hb2 : decide ((i : Int) < (n : Int)) = false := decide_eq_false (by omega)
          have hii : i = n := by omega
          subst hii
          refine awp_seq ?_
          refine awp_seq (awp_pures [0, 1, 5, 8, 9, 10, 11, 31] (by simp only [go_sem, ↓reduceIte, Nat.reduceLT, Nat.reduceEqDiff, Nat.reduceLeDiff, Nat.reduceAdd, Nat.reduceMul, Int.reduceLT, Int.reduceLE, Int.reduceToNat, BitVec.reduceOfInt, Nat.reduceBEq, hb2]; try rfl) ?_)
          refine awp_if rfl (fun h => by cases h) (fun _ => ?_)
          refine awp_exit ?_
          simp only [Go.Abs.Seq, Go.Abs.Round, Go.Abs.InBlock, ↓reduceIte]
          refine awp_fresh fun hNσ => ?_
          have hroot : ∀ j, rootOf av j → j < Nk ∧ rootOf av j := fun j hj => by
            obtain ⟨_, b, hb⟩ := rootOf_own hown hj
            exact ⟨hNσ j b hb, hj⟩
          have hNold : Old Nk (rootOf av) N := ⟨by omega, fun hj => by have := (rootOf_own hown hj).1; omega⟩
          refine awp_tbk [0, 1, 5, 8, 9] (fun _ => (rootOf av)) [8] (fun k => Nk + cntN [7, 8] k) (by kernel_rfl) rfl ?_
          refine tb_pures 3 0 (by simp only [go_sem, ↓reduceIte, Nat.reduceLT, Nat.reduceEqDiff, Nat.reduceLeDiff, Nat.reduceAdd, Nat.reduceMul, Int.reduceLT, Int.reduceLE, Int.reduceToNat, BitVec.reduceOfInt, Nat.reduceBEq]; try rfl) (fun j hj => congrArg (Nk + ·) ((by decide : ∀ j, j < 3 → cntN [7, 8] (0 + j + 1) = cntN [7, 8] (0 + j)) j hj)) ?_
          refine tb_gives (i := 3) rfl (by simp only [go_sem, ↓reduceIte, Nat.reduceLT, Nat.reduceEqDiff, Nat.reduceLeDiff, Nat.reduceAdd, Nat.reduceMul, Int.reduceLT, Int.reduceLE, Int.reduceToNat, BitVec.reduceOfInt, Nat.reduceBEq]; try rfl) (fun m => rEval_gives t (refX k l f i) m _) (by kernel_rfl) rfl (by simp only [go_sem, ↓reduceIte, Nat.reduceLT, Nat.reduceEqDiff, Nat.reduceLeDiff, Nat.reduceAdd, Nat.reduceMul, Int.reduceLT, Int.reduceLE, Int.reduceToNat, BitVec.reduceOfInt, Nat.reduceBEq]) rfl ?_
          refine tb_pures 1 4 (by simp only [go_sem, ↓reduceIte, Nat.reduceLT, Nat.reduceEqDiff, Nat.reduceLeDiff, Nat.reduceAdd, Nat.reduceMul, Int.reduceLT, Int.reduceLE, Int.reduceToNat, BitVec.reduceOfInt, Nat.reduceBEq]; try rfl) (fun j hj => congrArg (Nk + ·) ((by decide : ∀ j, j < 1 → cntN [7, 8] (4 + j + 1) = cntN [7, 8] (4 + j)) j hj)) ?_
          refine tb_load (i := 5) rfl (by simp only [go_sem, ↓reduceIte, Nat.reduceLT, Nat.reduceEqDiff, Nat.reduceLeDiff, Nat.reduceAdd, Nat.reduceMul, Int.reduceLT, Int.reduceLE, Int.reduceToNat, BitVec.reduceOfInt, Nat.reduceBEq]) rfl (by simp only [go_sem, ↓reduceIte, Nat.reduceLT, Nat.reduceEqDiff, Nat.reduceLeDiff, Nat.reduceAdd, Nat.reduceMul, Int.reduceLT, Int.reduceLE, Int.reduceToNat, BitVec.reduceOfInt, Nat.reduceBEq]; try rfl) hgk (Old.calm hNold) (loadA_scalar agg4 rfl) rfl ?_
          refine tb_pures 1 6 (by simp only [go_sem, ↓reduceIte, Nat.reduceLT, Nat.reduceEqDiff, Nat.reduceLeDiff, Nat.reduceAdd, Nat.reduceMul, Int.reduceLT, Int.reduceLE, Int.reduceToNat, BitVec.reduceOfInt, Nat.reduceBEq]; try rfl) (fun j hj => congrArg (Nk + ·) ((by decide : ∀ j, j < 1 → cntN [7, 8] (6 + j + 1) = cntN [7, 8] (6 + j)) j hj)) ?_
          rw [evT_nat]
          have hfresh : ∀ B i b, σk i = some b → (σk.set Nk B) i = some b := fun B i b hb => by rw [AHeap.set_ne _ _ (Nat.ne_of_lt (hNσ i b hb))]; exact hb
          refine xt_one (i := 7) (m := Nk) rfl rfl rfl (by simp only [go_sem, ↓reduceIte, Nat.reduceLT, Nat.reduceEqDiff, Nat.reduceLeDiff, Nat.reduceAdd, Nat.reduceMul, Int.reduceLT, Int.reduceLE, Int.reduceToNat, BitVec.reduceOfInt, Nat.reduceBEq]; try rfl) rfl Try.underlying72 ty4 rfl rfl (by simp only [go_sem, ↓reduceIte, Nat.reduceLT, Nat.reduceEqDiff, Nat.reduceLeDiff, Nat.reduceAdd, Nat.reduceMul, Int.reduceLT, Int.reduceLE, Int.reduceToNat, BitVec.reduceOfInt, Nat.reduceBEq]; try rfl) rfl (bdd_of1 rfl (.flat rfl)) ?_
          refine xt_push (i := 8) (m := (Nk+1)) (d := 7) (u := Nk) rfl rfl rfl (by simp only [go_sem, ↓reduceIte, Nat.reduceLT, Nat.reduceEqDiff, Nat.reduceLeDiff, Nat.reduceAdd, Nat.reduceMul, Int.reduceLT, Int.reduceLE, Int.reduceToNat, BitVec.reduceOfInt, Nat.reduceBEq]; try rfl) rfl Try.underlying72 ty4 rfl (by simp only [go_sem, ↓reduceIte, Nat.reduceLT, Nat.reduceEqDiff, Nat.reduceLeDiff, Nat.reduceAdd, Nat.reduceMul, Int.reduceLT, Int.reduceLE, Int.reduceToNat, BitVec.reduceOfInt, Nat.reduceBEq]; try rfl) (by simp only [go_sem, ↓reduceIte, Nat.reduceLT, Nat.reduceEqDiff, Nat.reduceLeDiff, Nat.reduceAdd, Nat.reduceMul, Int.reduceLT, Int.reduceLE, Int.reduceToNat, BitVec.reduceOfInt, Nat.reduceBEq]; try rfl) (AHeap.set_self _ _ _) (by decide) (by kernel_rfl) rfl rfl rfl (hown.mono (fun i b _ hb => hfresh _ i b hb) (Nat.le_refl _)) (by omega) hroot (by omega) (by decide) (by omega) (by omega) (by omega) (bdd_of2 rfl ((bdd_own hown hNσ).mono (Nat.le_succ _)) (.slice (Nat.lt_succ_self _))) (bdd_flats (by simp [bools, flat, flat0])) (.flat rfl) ?_
          intro v' σ' hv' hown' hkeep
          refine tb_pures 1 9 (by simp only [go_sem, ↓reduceIte, Nat.reduceLT, Nat.reduceEqDiff, Nat.reduceLeDiff, Nat.reduceAdd, Nat.reduceMul, Int.reduceLT, Int.reduceLE, Int.reduceToNat, BitVec.reduceOfInt, Nat.reduceBEq]; try rfl) (fun j hj => congrArg (Nk + ·) ((by decide : ∀ j, j < 1 → cntN [7, 8] (9 + j + 1) = cntN [7, 8] (9 + j)) j hj)) ?_
          refine tb_end ?_
          refine awp_pures [0, 1, 5, 8, 9] (by simp only [go_sem, ↓reduceIte, Nat.reduceLT, Nat.reduceEqDiff, Nat.reduceLeDiff, Nat.reduceAdd, Nat.reduceMul, Int.reduceLT, Int.reduceLE, Int.reduceToNat, BitVec.reduceOfInt, Nat.reduceBEq, i64_add hj1]; try rfl) ?_
          subst hv'
          refine ALoop.cast3 (ih (k + 1, _, Nk + 2, σ') ⟨hlt, by simp; omega, by rw [← range_bools (fun k => (t.getLsbD (refX k l f i) != neg))]; exact hown', fun j b hj => ?_⟩ (by simp; omega)) (by first | (simp only [go_sem]; try rfl) | rfl) rfl rfl
          have hjN := hlt1 j b hj
          show σ' j = some b
          rw [hkeep j (fun h => by have := (rootOf_own hown h).1; omega) (by omega)]
          exact hfresh _ j b (hlek j b hj)
      · have hb : decide ((k : Int) < ((2 ^ n : Nat) : Int)) = false := decide_eq_false fun h => hlt (Int.ofNat_lt.1 h)
        have hkl : k = 2 ^ n := by omega
        subst hkl
        refine awp_seq ?_
        refine awp_seq (awp_pures [0, 1, 5, 8, 9, 26] (by simp only [go_sem, ↓reduceIte, Nat.reduceLT, Nat.reduceEqDiff, Nat.reduceLeDiff, Nat.reduceAdd, Nat.reduceMul, Int.reduceLT, Int.reduceLE, Int.reduceToNat, BitVec.reduceOfInt, Nat.reduceBEq, hw, i64_shl_one (show n ≤ 62 by omega), hb]; try rfl) ?_)
        refine awp_if rfl (fun h => by cases h) (fun _ => ?_)
        refine awp_exit ?_
        simp only [Go.Abs.Seq, Go.Abs.Round, Go.Abs.InBlock, ↓reduceIte]
        first | refine awp_seq (awp_lit ?_) | refine awp_lit ?_ | refine awp_seq (awp_seq (awp_lit ?_))
        refine al_pureN 1 (by simp only [go_sem, ↓reduceIte, Nat.reduceLT, Nat.reduceEqDiff, Nat.reduceLeDiff, Nat.reduceAdd, Nat.reduceMul, Int.reduceLT, Int.reduceLE, Int.reduceToNat, BitVec.reduceOfInt, Nat.reduceBEq]; try rfl) ?_
        refine al_gives (vs := ?vs7) (v := ?v7) rfl ?ha7 ?hh7 (by kernel_rfl) rfl (by simp only [go_sem, ↓reduceIte, Nat.reduceLT, Nat.reduceEqDiff, Nat.reduceLeDiff, Nat.reduceAdd, Nat.reduceMul, Int.reduceLT, Int.reduceLE, Int.reduceToNat, BitVec.reduceOfInt, Nat.reduceBEq]) ?kk7
        case ha7 => simp only [go_sem, ↓reduceIte, Nat.reduceLT, Nat.reduceEqDiff, Nat.reduceLeDiff, Nat.reduceAdd, Nat.reduceMul, Int.reduceLT, Int.reduceLE, Int.reduceToNat, BitVec.reduceOfInt, Nat.reduceBEq]; try rfl
        case hh7 => exact tabB_gives hn (fun k => (t.getLsbD (refX k l f n) != neg)) hown
        refine al_pureN 2 (by simp only [go_sem, ↓reduceIte, Nat.reduceLT, Nat.reduceEqDiff, Nat.reduceLeDiff, Nat.reduceAdd, Nat.reduceMul, Int.reduceLT, Int.reduceLE, Int.reduceToNat, BitVec.reduceOfInt, Nat.reduceBEq]; try rfl) ?_
        refine al_end [6, 7] ?_
        refine awp_ret ⟨_, rfl, ?_, AHeap.le_trans hle hlek⟩
        rw [apply_ref hn ht hln hp.2 neg, applyR_ref _ _ _ _ _ hv, Int.toNat_natCast, if_pos (by rw [hp.1, decide_eq_true hp.2]; rfl)]
        rfl
    · rw [Bool.not_eq_true] at hp
      rw [hp]
      refine al_pureN 2 (by simp only [go_sem, ↓reduceIte, Nat.reduceLT, Nat.reduceEqDiff, Nat.reduceLeDiff, Nat.reduceAdd, Nat.reduceMul, Int.reduceLT, Int.reduceLE, Int.reduceToNat, BitVec.reduceOfInt, Nat.reduceBEq]; try rfl) ?_
      refine al_end [0, 1, 5, 21] ?_
      refine awp_if rfl (fun _ => ?_) (fun h => by cases h)
      refine awp_seq (awp_pures [6, 7] (by simp only [go_sem, ↓reduceIte, Nat.reduceLT, Nat.reduceEqDiff, Nat.reduceLeDiff, Nat.reduceAdd, Nat.reduceMul, Int.reduceLT, Int.reduceLE, Int.reduceToNat, BitVec.reduceOfInt, Nat.reduceBEq]; try rfl) ?_)
      refine awp_ret ⟨_, rfl, ?_, hle⟩
      rw [applyR_ref _ _ _ _ _ hv, Int.toNat_natCast, hp]
      rfl
  · rw [Bool.not_eq_true] at hv
    rw [hv]
    refine al_pureN 2 (by simp only [go_sem, ↓reduceIte, Nat.reduceLT, Nat.reduceEqDiff, Nat.reduceLeDiff, Nat.reduceAdd, Nat.reduceMul, Int.reduceLT, Int.reduceLE, Int.reduceToNat, BitVec.reduceOfInt, Nat.reduceBEq]; try rfl) ?_
    refine al_pureN 2 (by simp only [go_sem, ↓reduceIte, Nat.reduceLT, Nat.reduceEqDiff, Nat.reduceLeDiff, Nat.reduceAdd, Nat.reduceMul, Int.reduceLT, Int.reduceLE, Int.reduceToNat, BitVec.reduceOfInt, Nat.reduceBEq, undef]; try rfl) ?_
    refine al_pureN 3 (by simp only [go_sem, ↓reduceIte, Nat.reduceLT, Nat.reduceEqDiff, Nat.reduceLeDiff, Nat.reduceAdd, Nat.reduceMul, Int.reduceLT, Int.reduceLE, Int.reduceToNat, BitVec.reduceOfInt, Nat.reduceBEq]; try rfl) ?_
    refine al_end [0, 1, 5, 21] ?_
    refine awp_if rfl (fun _ => ?_) (fun h => by cases h)
    refine awp_seq (awp_pures [6, 7] (by simp only [go_sem, ↓reduceIte, Nat.reduceLT, Nat.reduceEqDiff, Nat.reduceLeDiff, Nat.reduceAdd, Nat.reduceMul, Int.reduceLT, Int.reduceLE, Int.reduceToNat, BitVec.reduceOfInt, Nat.reduceBEq]; try rfl) ?_)
    refine awp_ret ⟨_, rfl, ?_, hle⟩
    simp only [ApplyR, hv, Bool.false_eq_true, false_and, if_false]
    rfl
theorem permute_ref (t : BitVec 64) (m : Int) (l : List Int) : ApplyR t m l 0 false = PermuteR t m l := by
  unfold ApplyR PermuteR
  by_cases h : validT t m = true ∧ permR l m = true
  · rw [if_pos ⟨h.1, h.2, by simp⟩, if_pos h]
    have : ∀ d i t, flipGo m.toNat 0 d i t = t := by
      intro d
      induction d with
      | zero => intro _ _; rfl
      | succ d ih => intro i t; rw [flipGo, ih]; simp
    simp [applyV, this]
  · rw [if_neg (fun hh => h ⟨hh.1, hh.2.1⟩), if_neg h]
theorem ty33 : TyI Try.prog 33 (.agg #[.slice none 0 0, .int .u8 0, .bool false]) 3 32 := .of (by kernel_rfl)
theorem rPermute_gives (t : BitVec 64) (m : Int) (l : List Int) (hl : l.length ≤ 1000000) (sv : Value) (N : Nat) (σ : AHeap) (hs : SlAt σ sv (ints l)) :
    Gives Try.prog 30 [.int .u64 t.toNat, .int .i64 m, sv] N σ (tup2 (PermuteR t m l)) := by
  obtain ⟨bb, cc, hv⟩ := hs.len
  subst hv
  refine gives_of rfl (aok_fresh fun hN => aok_body (n := 15) Try.func30 rfl rfl (by simp) ?_)
  refine awp_seq (awp_pures [0, 1, 2] (by simp only [go_sem, ↓reduceIte, Nat.reduceLT, Nat.reduceEqDiff, Nat.reduceLeDiff, Nat.reduceAdd, Nat.reduceMul, Int.reduceLT, Int.reduceLE, Int.reduceToNat, BitVec.reduceOfInt, Nat.reduceBEq]; try rfl) ?_)
  first | refine awp_seq (awp_lit ?_) | refine awp_lit ?_ | refine awp_seq (awp_seq (awp_lit ?_))
  refine al_pureN 3 (by simp only [go_sem, ↓reduceIte, Nat.reduceLT, Nat.reduceEqDiff, Nat.reduceLeDiff, Nat.reduceAdd, Nat.reduceMul, Int.reduceLT, Int.reduceLE, Int.reduceToNat, BitVec.reduceOfInt, Nat.reduceBEq]; try rfl) ?_
  refine al_build_struct (ps := [(0, .slice bb (ints l).length cc)]) (r := [.slice bb (ints l).length cc, .int .u8 0, .bool false]) rfl (by simp only [go_sem, ↓reduceIte, Nat.reduceLT, Nat.reduceEqDiff, Nat.reduceLeDiff, Nat.reduceAdd, Nat.reduceMul, Int.reduceLT, Int.reduceLE, Int.reduceToNat, BitVec.reduceOfInt, Nat.reduceBEq]; try rfl) (by decide) Try.underlying33 ty33 rfl (pl := [(0, 1), (1, 1), (2, 1)]) (by kernel_rfl) rfl rfl ?_
  refine al_gives (vs := ?vs8) (v := ?v8) rfl ?ha8 ?hh8 (by kernel_rfl) rfl (by simp only [go_sem, ↓reduceIte, Nat.reduceLT, Nat.reduceEqDiff, Nat.reduceLeDiff, Nat.reduceAdd, Nat.reduceMul, Int.reduceLT, Int.reduceLE, Int.reduceToNat, BitVec.reduceOfInt, Nat.reduceBEq]) ?kk8
  case ha8 => simp only [go_sem, ↓reduceIte, Nat.reduceLT, Nat.reduceEqDiff, Nat.reduceLeDiff, Nat.reduceAdd, Nat.reduceMul, Int.reduceLT, Int.reduceLE, Int.reduceToNat, BitVec.reduceOfInt, Nat.reduceBEq]; try rfl
  case hh8 => exact rApply_gives t m l hl 0 (by decide) false (.slice bb (ints l).length cc) _ _ hs
  refine al_pureN 4 (by simp only [go_sem, ↓reduceIte, Nat.reduceLT, Nat.reduceEqDiff, Nat.reduceLeDiff, Nat.reduceAdd, Nat.reduceMul, Int.reduceLT, Int.reduceLE, Int.reduceToNat, BitVec.reduceOfInt, Nat.reduceBEq]; try rfl) ?_
  refine al_end [6, 7] ?_
  rw [permute_ref]
  exact awp_ret ⟨_, rfl, rfl, AHeap.le_refl _⟩
end Go.Proofs.Ytbpjoamdcbbnnaa
