/- The walk of the law TableCoverMatches. -/
import Derived.Test.YtbpjoamdcbbnnaaTabR8
import Derived.Test.YtbpjoamdcbbnnaaTabW9
set_option linter.unusedSimpArgs false
set_option linter.unusedVariables false
namespace Go.Proofs.Ytbpjoamdcbbnnaa
open Go.Abs Go.Tab
attribute [local go_sem] eqA Try.underlying22 Try.underlying3 Try.underlying77 Try.underlying52 Try.underlying23 Try.underlying25 Try.underlying5 Try.underlying4 Try.underlying35 Try.underlying36 Try.underlying37 Try.underlying39 Try.underlying40 Try.underlying41 Try.underlying72 Try.underlying49 Try.underlying26 size22 size3 size23 size5 size4 size39 size41 Nat.mul_one bne_self_eq_false tup2 tupC
theorem size26 : sizeA Try.prog 26 = some 1 := by kernel_rfl
attribute [local go_sem] size26
theorem size40 : sizeA Try.prog 40 = some 2 := by kernel_rfl
attribute [local go_sem] size40
theorem agg40 : aggA Try.prog 40 = some (some 2) := by kernel_rfl
theorem cubeV_one (c : Nat × Nat) : (cubeV c).all (·.oneCell') = true := rfl
theorem cubeV_flat (c : Nat × Nat) : ∀ x ∈ cubeV c, ∀ m, Bdd m x := fun x hx m => by
  simp [cubeV] at hx
  rcases hx with rfl | rfl <;> exact .flat rfl
theorem take_snoc {α : Type} (l : List α) {i : Nat} (h : i < l.length) : l.take (i + 1) = l.take i ++ [l[i]] := by
  rw [List.take_add_one, List.getElem?_eq_getElem h]; rfl

theorem CoverLaw_gives (l : List (Nat × Nat)) (hsm : Small l) (L U : BitVec 64) (n : Int) (sv : Value) (N : Nat) (σ : AHeap) (hs : RowsAt σ 2 sv (cubes l)) :
    Gives Try.prog 4 [sv, .int .u64 L.toNat, .int .u64 U.toNat, .int .i64 n] N σ (.bool true) := by
  have hsl : (cubes l).length = l.length := by simp [cubes]
  obtain ⟨bb, cc, rfl⟩ := hs.len
  rw [hsl] at hs ⊢
  refine gives_of rfl (aok_fresh fun hN => aok_body (n := 125) Try.func4 rfl rfl (by simp) ?_)
  refine awp_seq (awp_pures [0, 1, 2, 3] (by simp only [go_sem, ↓reduceIte, Nat.reduceLT, Nat.reduceEqDiff, Nat.reduceLeDiff, Nat.reduceAdd, Nat.reduceMul, Int.reduceLT, Int.reduceLE, Int.reduceToNat, BitVec.reduceOfInt, Nat.reduceBEq]; try rfl) ?_)
  refine awp_seq ?_
  by_cases h40 : (40 : Int) < l.length
  · have c0 : decide ((l.length : Int) > 40) = true := decide_eq_true h40
    refine awp_seq (awp_pures [0, 1, 2, 3, 22] (by simp only [go_sem, ↓reduceIte, Nat.reduceLT, Nat.reduceEqDiff, Nat.reduceLeDiff, Nat.reduceAdd, Nat.reduceMul, Int.reduceLT, Int.reduceLE, Int.reduceToNat, BitVec.reduceOfInt, Nat.reduceBEq, c0]; try rfl) ?_)
    refine awp_if rfl (fun _ => ?_) (fun h => by cases h)
    first | refine awp_seq (awp_lit ?_) | refine awp_lit ?_ | refine awp_seq (awp_seq (awp_lit ?_))
    refine al_gives (vs := ?vs1) (v := ?v1) rfl ?ha1 ?hh1 (by kernel_rfl) rfl (by simp only [go_sem, ↓reduceIte, Nat.reduceLT, Nat.reduceEqDiff, Nat.reduceLeDiff, Nat.reduceAdd, Nat.reduceMul, Int.reduceLT, Int.reduceLE, Int.reduceToNat, BitVec.reduceOfInt, Nat.reduceBEq]) ?kk1
    case ha1 => simp only [go_sem, ↓reduceIte, Nat.reduceLT, Nat.reduceEqDiff, Nat.reduceLeDiff, Nat.reduceAdd, Nat.reduceMul, Int.reduceLT, Int.reduceLE, Int.reduceToNat, BitVec.reduceOfInt, Nat.reduceBEq]; try rfl
    case hh1 => exact awake_gives _ _
    refine al_pureN 1 (by simp only [go_sem, ↓reduceIte, Nat.reduceLT, Nat.reduceEqDiff, Nat.reduceLeDiff, Nat.reduceAdd, Nat.reduceMul, Int.reduceLT, Int.reduceLE, Int.reduceToNat, BitVec.reduceOfInt, Nat.reduceBEq]; try rfl) ?_
    refine al_end [8] ?_
    exact awp_ret ⟨_, rfl, rfl, AHeap.le_refl _⟩
  have c0 : decide ((l.length : Int) > 40) = false := decide_eq_false h40
  have hl40 : l.length ≤ 40 := by omega
  refine awp_seq (awp_pures [0, 1, 2, 3, 22] (by simp only [go_sem, ↓reduceIte, Nat.reduceLT, Nat.reduceEqDiff, Nat.reduceLeDiff, Nat.reduceAdd, Nat.reduceMul, Int.reduceLT, Int.reduceLE, Int.reduceToNat, BitVec.reduceOfInt, Nat.reduceBEq, c0]; try rfl) ?_)
  refine awp_if rfl (fun h => by cases h) (fun _ => ?_)
  refine awp_skip ?_
  refine awp_seq (awp_pures [0, 1, 2, 3, 9] (by simp only [go_sem, ↓reduceIte, Nat.reduceLT, Nat.reduceEqDiff, Nat.reduceLeDiff, Nat.reduceAdd, Nat.reduceMul, Int.reduceLT, Int.reduceLE, Int.reduceToNat, BitVec.reduceOfInt, Nat.reduceBEq]; try rfl) ?_)
  refine awp_seq (awp_pures [0, 1, 2, 3, 9, 10] (by simp only [go_sem, ↓reduceIte, Nat.reduceLT, Nat.reduceEqDiff, Nat.reduceLeDiff, Nat.reduceAdd, Nat.reduceMul, Int.reduceLT, Int.reduceLE, Int.reduceToNat, BitVec.reduceOfInt, Nat.reduceBEq]; try rfl) ?_)
  refine awp_seq ?_
  refine awp_seq (awp_pures [0, 1, 2, 3, 9, 10, 11] (by simp only [go_sem, ↓reduceIte, Nat.reduceLT, Nat.reduceEqDiff, Nat.reduceLeDiff, Nat.reduceAdd, Nat.reduceMul, Int.reduceLT, Int.reduceLE, Int.reduceToNat, BitVec.reduceOfInt, Nat.reduceBEq]; try rfl) ?_)
  refine awp_block (awp_loop ?_)
  refine ALoop.cast3 (aloop_ind (α := Nat × Value × Value × Nat × AHeap)
    (fun x => x.1 ≤ l.length ∧ N ≤ x.2.2.2.1 ∧ OwnAt x.2.2.2.2 N x.2.1 (cubes (l.take x.1)).flatten x.1 2 ∧ OwnAt x.2.2.2.2 N x.2.2.1 (cubes (l.take x.1)).flatten x.1 2 ∧ (∀ j, rootOf x.2.1 j → ¬ rootOf x.2.2.1 j) ∧ σ.le x.2.2.2.2) (fun x => l.length - x.1)
    (fun x => [(0, .slice bb l.length cc), (1, .int .u64 L.toNat), (2, .int .u64 U.toNat), (3, .int .i64 n), (9, x.2.1), (10, x.2.2.1), (11, .int .i64 x.1)]) (fun x => x.2.2.2.1) (fun x => x.2.2.2.2) ?_
    (0, .slice none 0 0, .slice none 0 0, N, σ) ⟨by simp, by simp, OwnAt.nil, OwnAt.nil, (fun j ⟨_, _, _, h⟩ => by cases h), AHeap.le_refl _⟩) rfl rfl rfl
  rintro ⟨i, xv, yv, Nk, σk⟩ ⟨hi, hNk, hown1, hown2, hdis, hlek⟩ ih
  simp only at hi hNk hown1 hown2 hdis hlek ⊢
  by_cases hlt : i < l.length
  · have hb : decide ((i : Int) < (l.length : Int)) = true := decide_eq_true (by omega)
    have hj1 : -9223372036854775808 ≤ (i : Int) + 1 ∧ (i : Int) + 1 ≤ 9223372036854775807 := by omega
    have hii : 0 ≤ (i : Int) ∧ (i : Int) < (l.length : Int) := by omega
    refine awp_seq ?_
    refine awp_seq (awp_pures [0, 1, 2, 3, 9, 10, 11, 27] (by simp only [go_sem, ↓reduceIte, Nat.reduceLT, Nat.reduceEqDiff, Nat.reduceLeDiff, Nat.reduceAdd, Nat.reduceMul, Int.reduceLT, Int.reduceLE, Int.reduceToNat, BitVec.reduceOfInt, Nat.reduceBEq, hb]; try rfl) ?_)
    refine awp_if rfl (fun _ => ?_) (fun h => by cases h)
    refine awp_skip ?_
    obtain ⟨id, off, cap, b, q1, q2, q3⟩ := hs.at (j := i) (by rw [hsl]; exact hlt)
    rw [hsl] at q1
    cases q1
    have q3 : cellsA b (off + i * 2) 2 = some (cubeV l[i]) := by rw [q3]; simp [cubes]
    have hsn := take_snoc l hlt
    generalize l[i] = c at q3 hsn
    have q2k := hlek _ _ q2
    have hidN : id < N := hN _ _ q2
    refine awp_seq (awp_block ?_)
    refine awp_fresh fun hNσ => ?_
    have hroot1 : ∀ j, rootOf xv j → j < Nk ∧ (rootOf xv j ∨ rootOf yv j) := fun j hj => by
      obtain ⟨_, b, hb⟩ := rootOf_own hown1 hj
      exact ⟨hNσ j b hb, .inl hj⟩
    have hroot2 : ∀ j, rootOf yv j → j < Nk ∧ (rootOf xv j ∨ rootOf yv j) := fun j hj => by
      obtain ⟨_, b, hb⟩ := rootOf_own hown2 hj
      exact ⟨hNσ j b hb, .inr hj⟩
    have hidOld : Old Nk (fun j => rootOf xv j ∨ rootOf yv j) id := ⟨by omega, fun hj => by
      rcases hj with hj | hj
      · have := (rootOf_own hown1 hj).1; omega
      · have := (rootOf_own hown2 hj).1; omega⟩
    have hfresh : ∀ B i b, σk i = some b → (σk.set Nk B) i = some b := fun B i b hb => by rw [AHeap.set_ne _ _ (Nat.ne_of_lt (hNσ i b hb))]; exact hb
    refine awp_tbk [0, 1, 2, 3, 9, 10, 11] (fun _ => (fun j => rootOf xv j ∨ rootOf yv j)) [6, 13] (fun k => Nk + cntN [5, 6, 12, 13] k) (by kernel_rfl) rfl ?_
    refine tb_pures 4 0 (by simp only [go_sem, ↓reduceIte, Nat.reduceLT, Nat.reduceEqDiff, Nat.reduceLeDiff, Nat.reduceAdd, Nat.reduceMul, Int.reduceLT, Int.reduceLE, Int.reduceToNat, BitVec.reduceOfInt, Nat.reduceBEq, hii]; try rfl) (fun j hj => congrArg (Nk + ·) ((by decide : ∀ j, j < 4 → cntN [5, 6, 12, 13] (0 + j + 1) = cntN [5, 6, 12, 13] (0 + j)) j hj)) ?_
    refine tb_load (i := 4) rfl (by simp only [go_sem, ↓reduceIte, Nat.reduceLT, Nat.reduceEqDiff, Nat.reduceLeDiff, Nat.reduceAdd, Nat.reduceMul, Int.reduceLT, Int.reduceLE, Int.reduceToNat, BitVec.reduceOfInt, Nat.reduceBEq]) rfl (by simp only [go_sem, ↓reduceIte, Nat.reduceLT, Nat.reduceEqDiff, Nat.reduceLeDiff, Nat.reduceAdd, Nat.reduceMul, Int.reduceLT, Int.reduceLE, Int.reduceToNat, BitVec.reduceOfInt, Nat.reduceBEq]; try rfl) q2k (Old.calm hidOld) (loadA_agg agg40 q3) rfl ?_
    refine xt_row (m := Nk) (i := 5) (ps := [(0, .agg (cubeV c).toArray)]) (r := cubeV c) rfl rfl rfl (by simp only [go_sem, ↓reduceIte, Nat.reduceLT, Nat.reduceEqDiff, Nat.reduceLeDiff, Nat.reduceAdd, Nat.reduceMul, Int.reduceLT, Int.reduceLE, Int.reduceToNat, BitVec.reduceOfInt, Nat.reduceBEq]; try rfl) rfl Try.underlying36 ty39 rfl rfl (by decide) (by decide) rfl rfl (Nat.le_refl 2) (bdd_of1 rfl (.of_flat rfl)) ?_
    refine xt_pushS (m := Nk + 1) (i := 6) (d := 5) (u := Nk) rfl rfl rfl (by simp only [go_sem, ↓reduceIte, Nat.reduceLT, Nat.reduceEqDiff, Nat.reduceLeDiff, Nat.reduceAdd, Nat.reduceMul, Int.reduceLT, Int.reduceLE, Int.reduceToNat, BitVec.reduceOfInt, Nat.reduceBEq]; try rfl) rfl Try.underlying36 ty39 rfl (by simp only [go_sem, ↓reduceIte, Nat.reduceLT, Nat.reduceEqDiff, Nat.reduceLeDiff, Nat.reduceAdd, Nat.reduceMul, Int.reduceLT, Int.reduceLE, Int.reduceToNat, BitVec.reduceOfInt, Nat.reduceBEq]; try rfl) (by simp only [go_sem, ↓reduceIte, Nat.reduceLT, Nat.reduceEqDiff, Nat.reduceLeDiff, Nat.reduceAdd, Nat.reduceMul, Int.reduceLT, Int.reduceLE, Int.reduceToNat, BitVec.reduceOfInt, Nat.reduceBEq]; try rfl) (AHeap.set_self _ _ _) rfl (by decide) (by kernel_rfl) rfl rfl (cubeV_one c) (hown1.keep fun i b _ hb => hfresh _ i b hb) (by omega) hroot1 (by omega) (by decide) (by omega) (by omega) (by omega) (bdd_of2 rfl ((bdd_own hown1 hNσ).mono (Nat.le_succ _)) (.slice (Nat.lt_succ_self _))) (flat_bdd2 _ _) (fun x hx => cubeV_flat c x hx _) ?_
    intro va σa hva hownA hkeepA
    have q2a : σa id = some b := by
      rw [hkeepA id (fun h => hidOld.2 (.inl h)) (by omega)]
      exact hfresh _ _ _ q2k
    refine tb_pures 4 7 (by simp only [go_sem, ↓reduceIte, Nat.reduceLT, Nat.reduceEqDiff, Nat.reduceLeDiff, Nat.reduceAdd, Nat.reduceMul, Int.reduceLT, Int.reduceLE, Int.reduceToNat, BitVec.reduceOfInt, Nat.reduceBEq, hii]; try rfl) (fun j hj => congrArg (Nk + ·) ((by decide : ∀ j, j < 4 → cntN [5, 6, 12, 13] (7 + j + 1) = cntN [5, 6, 12, 13] (7 + j)) j hj)) ?_
    refine tb_load (i := 11) rfl (by simp only [go_sem, ↓reduceIte, Nat.reduceLT, Nat.reduceEqDiff, Nat.reduceLeDiff, Nat.reduceAdd, Nat.reduceMul, Int.reduceLT, Int.reduceLE, Int.reduceToNat, BitVec.reduceOfInt, Nat.reduceBEq]) rfl (by simp only [go_sem, ↓reduceIte, Nat.reduceLT, Nat.reduceEqDiff, Nat.reduceLeDiff, Nat.reduceAdd, Nat.reduceMul, Int.reduceLT, Int.reduceLE, Int.reduceToNat, BitVec.reduceOfInt, Nat.reduceBEq]; try rfl) q2a (Old.calm hidOld) (loadA_agg agg40 q3) rfl ?_
    refine xt_row (m := Nk + 2) (i := 12) (ps := [(0, .agg (cubeV c).toArray)]) (r := cubeV c) rfl rfl rfl (by simp only [go_sem, ↓reduceIte, Nat.reduceLT, Nat.reduceEqDiff, Nat.reduceLeDiff, Nat.reduceAdd, Nat.reduceMul, Int.reduceLT, Int.reduceLE, Int.reduceToNat, BitVec.reduceOfInt, Nat.reduceBEq]; try rfl) rfl Try.underlying37 ty41 rfl rfl (by decide) (by decide) rfl rfl (Nat.le_refl 2) (bdd_of1 rfl (.of_flat rfl)) ?_
    have hk2 : ∀ B j b, j < Nk → ¬ rootOf xv j → σk j = some b → (σa.set (Nk + 2) B) j = some b := fun B j b hj hr hb => by
      rw [AHeap.set_ne _ _ (by omega), hkeepA j hr (by omega)]
      exact hfresh _ j b hb
    refine xt_pushS (m := Nk + 3) (i := 13) (d := 12) (u := Nk + 2) rfl rfl rfl (by simp only [go_sem, ↓reduceIte, Nat.reduceLT, Nat.reduceEqDiff, Nat.reduceLeDiff, Nat.reduceAdd, Nat.reduceMul, Int.reduceLT, Int.reduceLE, Int.reduceToNat, BitVec.reduceOfInt, Nat.reduceBEq]; try rfl) rfl Try.underlying37 ty41 rfl (by simp only [go_sem, ↓reduceIte, Nat.reduceLT, Nat.reduceEqDiff, Nat.reduceLeDiff, Nat.reduceAdd, Nat.reduceMul, Int.reduceLT, Int.reduceLE, Int.reduceToNat, BitVec.reduceOfInt, Nat.reduceBEq]; try rfl) (by simp only [go_sem, ↓reduceIte, Nat.reduceLT, Nat.reduceEqDiff, Nat.reduceLeDiff, Nat.reduceAdd, Nat.reduceMul, Int.reduceLT, Int.reduceLE, Int.reduceToNat, BitVec.reduceOfInt, Nat.reduceBEq]; try rfl) (AHeap.set_self _ _ _) rfl (by decide) (by kernel_rfl) rfl rfl (cubeV_one c) (hown2.keep fun j b hj hb => hk2 _ j b (hroot2 j hj).1 (fun h => hdis j h hj) hb) (by omega) hroot2 (by omega) (by decide) (by omega) (by omega) (by omega) (bdd_of2 rfl ((bdd_own hown2 hNσ).mono (by omega)) (.slice (by omega))) (flat_bdd2 _ _) (fun x hx => cubeV_flat c x hx _) ?_
    intro vb σb hvb hownB hkeepB
    refine tb_pures 2 14 (by simp only [go_sem, ↓reduceIte, Nat.reduceLT, Nat.reduceEqDiff, Nat.reduceLeDiff, Nat.reduceAdd, Nat.reduceMul, Int.reduceLT, Int.reduceLE, Int.reduceToNat, BitVec.reduceOfInt, Nat.reduceBEq]; try rfl) (fun j hj => congrArg (Nk + ·) ((by decide : ∀ j, j < 2 → cntN [5, 6, 12, 13] (14 + j + 1) = cntN [5, 6, 12, 13] (14 + j)) j hj)) ?_
    refine tb_end ?_
    rw [← cubes_snoc, ← hsn] at hownA hownB
    subst hva hvb
    have hrA : ∀ j, rootOf (.slice (some ⟨Nk + 1, 0, none⟩) (i + 1) (i + 1)) j → j = Nk + 1 := fun j ⟨_, _, _, h⟩ => by cases h; rfl
    have hrB : ∀ j, rootOf (.slice (some ⟨Nk + 3, 0, none⟩) (i + 1) (i + 1)) j → j = Nk + 3 := fun j ⟨_, _, _, h⟩ => by cases h; rfl
    have hnov : ¬ rootOf yv (Nk + 1) := fun h => by have := (hroot2 _ h).1; omega
    have hownA2 : OwnAt σb N (.slice (some ⟨Nk + 1, 0, none⟩) (i + 1) (i + 1)) (cubes (l.take (i + 1))).flatten (i + 1) 2 := hownA.keep fun j b hj hb => by
      have := hrA j hj; subst this
      rw [hkeepB _ hnov (by omega), AHeap.set_ne _ _ (by omega)]; exact hb
    have hle2 : σ.le σb := fun j b hj => by
      have hjN := hN j b hj
      rw [hkeepB j (fun h => by have := (rootOf_own hown2 h).1; omega) (by omega)]
      exact hk2 _ j b (by omega) (fun h => by have := (rootOf_own hown1 h).1; omega) (hlek j b hj)
    refine awp_pures [0, 1, 2, 3, 9, 10, 11] (by simp only [go_sem, ↓reduceIte, Nat.reduceLT, Nat.reduceEqDiff, Nat.reduceLeDiff, Nat.reduceAdd, Nat.reduceMul, Int.reduceLT, Int.reduceLE, Int.reduceToNat, BitVec.reduceOfInt, Nat.reduceBEq, i64_add hj1]; try rfl) ?_
    refine ALoop.cast3 (ih (i + 1, _, _, Nk + 4, σb) ⟨hlt, by simp; omega, hownA2, hownB, fun j h1 h2 => by have := hrA j h1; have := hrB j h2; omega, hle2⟩ (by simp; omega)) (by first | (simp only [go_sem]; try rfl) | rfl) rfl rfl
  have hb : decide ((i : Int) < (l.length : Int)) = false := decide_eq_false (by omega)
  have hil : i = l.length := by omega
  subst hil
  rw [List.take_length] at hown1 hown2
  refine awp_seq ?_
  refine awp_seq (awp_pures [0, 1, 2, 3, 9, 10, 11, 27] (by simp only [go_sem, ↓reduceIte, Nat.reduceLT, Nat.reduceEqDiff, Nat.reduceLeDiff, Nat.reduceAdd, Nat.reduceMul, Int.reduceLT, Int.reduceLE, Int.reduceToNat, BitVec.reduceOfInt, Nat.reduceBEq, hb]; try rfl) ?_)
  refine awp_if rfl (fun h => by cases h) (fun _ => ?_)
  refine awp_exit ?_
  simp only [Go.Abs.Seq, Go.Abs.Round, Go.Abs.InBlock, ↓reduceIte]
  have hr1 := rows_own hown1
  have hr2 := rows_own hown2
  obtain ⟨b1, c1, rfl⟩ := hr1.len
  obtain ⟨b2, c2, rfl⟩ := hr2.len
  rw [hsl] at hr1 hr2 ⊢
  have hl6 : l.length ≤ 1000000 := by omega
  first | refine awp_seq (awp_lit ?_) | refine awp_lit ?_ | refine awp_seq (awp_seq (awp_lit ?_))
  refine al_pureN 2 (by simp only [go_sem, ↓reduceIte, Nat.reduceLT, Nat.reduceEqDiff, Nat.reduceLeDiff, Nat.reduceAdd, Nat.reduceMul, Int.reduceLT, Int.reduceLE, Int.reduceToNat, BitVec.reduceOfInt, Nat.reduceBEq]; try rfl) ?_
  refine al_gives (vs := ?vs2) (v := ?v2) rfl ?ha2 ?hh2 (by kernel_rfl) rfl (by simp only [go_sem, ↓reduceIte, Nat.reduceLT, Nat.reduceEqDiff, Nat.reduceLeDiff, Nat.reduceAdd, Nat.reduceMul, Int.reduceLT, Int.reduceLE, Int.reduceToNat, BitVec.reduceOfInt, Nat.reduceBEq]) ?kk2
  case ha2 => simp only [go_sem, ↓reduceIte, Nat.reduceLT, Nat.reduceEqDiff, Nat.reduceLeDiff, Nat.reduceAdd, Nat.reduceMul, Int.reduceLT, Int.reduceLE, Int.reduceToNat, BitVec.reduceOfInt, Nat.reduceBEq]; try rfl
  case hh2 => exact Cover_gives l hl6 hsm n _ _ _ hr1
  refine al_pureN 5 (by simp only [go_sem, ↓reduceIte, Nat.reduceLT, Nat.reduceEqDiff, Nat.reduceLeDiff, Nat.reduceAdd, Nat.reduceMul, Int.reduceLT, Int.reduceLE, Int.reduceToNat, BitVec.reduceOfInt, Nat.reduceBEq]; try rfl) ?_
  refine al_end [1, 2, 3, 10, 12, 13] ?_
  first | refine awp_seq (awp_lit ?_) | refine awp_lit ?_ | refine awp_seq (awp_seq (awp_lit ?_))
  refine al_pureN 2 (by simp only [go_sem, ↓reduceIte, Nat.reduceLT, Nat.reduceEqDiff, Nat.reduceLeDiff, Nat.reduceAdd, Nat.reduceMul, Int.reduceLT, Int.reduceLE, Int.reduceToNat, BitVec.reduceOfInt, Nat.reduceBEq]; try rfl) ?_
  refine al_gives (vs := ?vs3) (v := ?v3) rfl ?ha3 ?hh3 (by kernel_rfl) rfl (by simp only [go_sem, ↓reduceIte, Nat.reduceLT, Nat.reduceEqDiff, Nat.reduceLeDiff, Nat.reduceAdd, Nat.reduceMul, Int.reduceLT, Int.reduceLE, Int.reduceToNat, BitVec.reduceOfInt, Nat.reduceBEq]) ?kk3
  case ha3 => simp only [go_sem, ↓reduceIte, Nat.reduceLT, Nat.reduceEqDiff, Nat.reduceLeDiff, Nat.reduceAdd, Nat.reduceMul, Int.reduceLT, Int.reduceLE, Int.reduceToNat, BitVec.reduceOfInt, Nat.reduceBEq]; try rfl
  case hh3 => exact rCover_gives l hl6 hsm n _ _ _ hr2
  refine al_pureN 5 (by simp only [go_sem, ↓reduceIte, Nat.reduceLT, Nat.reduceEqDiff, Nat.reduceLeDiff, Nat.reduceAdd, Nat.reduceMul, Int.reduceLT, Int.reduceLE, Int.reduceToNat, BitVec.reduceOfInt, Nat.reduceBEq]; try rfl) ?_
  refine al_end [1, 2, 3, 12, 13, 14, 15] ?_
  refine awp_seq ?_
  refine awp_seq (awp_pures [1, 2, 3, 63] (by simp only [go_sem, ↓reduceIte, Nat.reduceLT, Nat.reduceEqDiff, Nat.reduceLeDiff, Nat.reduceAdd, Nat.reduceMul, Int.reduceLT, Int.reduceLE, Int.reduceToNat, BitVec.reduceOfInt, Nat.reduceBEq]; try rfl) ?_)
  refine awp_if rfl (fun h => by cases h) (fun _ => ?_)
  refine awp_skip ?_
  have hIs := Isop_ok L U n Nk σk
  first | refine awp_seq (awp_lit ?_) | refine awp_lit ?_ | refine awp_seq (awp_seq (awp_lit ?_))
  refine al_pureN 3 (by simp only [go_sem, ↓reduceIte, Nat.reduceLT, Nat.reduceEqDiff, Nat.reduceLeDiff, Nat.reduceAdd, Nat.reduceMul, Int.reduceLT, Int.reduceLE, Int.reduceToNat, BitVec.reduceOfInt, Nat.reduceBEq]; try rfl) ?_
  refine al_fun (hIs) rfl (by simp only [go_sem, ↓reduceIte, Nat.reduceLT, Nat.reduceEqDiff, Nat.reduceLeDiff, Nat.reduceAdd, Nat.reduceMul, Int.reduceLT, Int.reduceLE, Int.reduceToNat, BitVec.reduceOfInt, Nat.reduceBEq]; try rfl) (by kernel_rfl) rfl (by simp only [go_sem, ↓reduceIte, Nat.reduceLT, Nat.reduceEqDiff, Nat.reduceLeDiff, Nat.reduceAdd, Nat.reduceMul, Int.reduceLT, Int.reduceLE, Int.reduceToNat, BitVec.reduceOfInt, Nat.reduceBEq]; try rfl) ?_
  rintro v1 N1 σ1 ⟨zv, rfl, hown, hN1, hle1⟩
  refine al_pureN 5 (by simp only [go_sem, ↓reduceIte, Nat.reduceLT, Nat.reduceEqDiff, Nat.reduceLeDiff, Nat.reduceAdd, Nat.reduceMul, Int.reduceLT, Int.reduceLE, Int.reduceToNat, BitVec.reduceOfInt, Nat.reduceBEq]; try rfl) ?_
  refine al_end [1, 2, 3, 16, 17] ?_
  refine awp_seq ?_
  by_cases hgood : validT L n = true ∧ validT U n = true ∧ L &&& ~~~ U = 0#64
  · obtain ⟨hvL, hvU, hLU⟩ := hgood
    obtain ⟨m, rfl, hm6, htL⟩ := validT_iff.1 hvL
    obtain ⟨m', e', _, htU⟩ := validT_iff.1 hvU
    obtain rfl : m = m' := by omega
    clear e'
    have hg : Go.Tab.Good m m L U := ⟨sub_iff.1 hLU, htU, fun i hi hin => by omega, fun i hi hin => by omega⟩
    have hIR : IsopR L U m = ((isopG m m L U).1, 0) := by rw [IsopR, if_pos ⟨hvL, hvU, hLU⟩, Int.toNat_natCast]
    rw [hIR] at hown ⊢
    have hlen := isop_len64 hm6 hg
    have hirr := fun z lo N σ hz => Irr_gives hm6 hg z lo N σ hz
    generalize (isopG m m L U).1 = r at hown hlen hirr
    have hcz : (L &&& ~~~ U).toNat = 0 := by rw [hLU]; rfl
    first | refine awp_seq (awp_lit ?_) | refine awp_lit ?_ | refine awp_seq (awp_seq (awp_lit ?_))
    refine al_pureN 2 (by simp only [go_sem, ↓reduceIte, Nat.reduceLT, Nat.reduceEqDiff, Nat.reduceLeDiff, Nat.reduceAdd, Nat.reduceMul, Int.reduceLT, Int.reduceLE, Int.reduceToNat, BitVec.reduceOfInt, Nat.reduceBEq, hvL, hvU, hLU]; try rfl) ?_
    refine al_gives (vs := ?vs4) (v := ?v4) rfl ?ha4 ?hh4 (by kernel_rfl) rfl (by simp only [go_sem, ↓reduceIte, Nat.reduceLT, Nat.reduceEqDiff, Nat.reduceLeDiff, Nat.reduceAdd, Nat.reduceMul, Int.reduceLT, Int.reduceLE, Int.reduceToNat, BitVec.reduceOfInt, Nat.reduceBEq, hvL, hvU, hLU]) ?kk4
    case ha4 => simp only [go_sem, ↓reduceIte, Nat.reduceLT, Nat.reduceEqDiff, Nat.reduceLeDiff, Nat.reduceAdd, Nat.reduceMul, Int.reduceLT, Int.reduceLE, Int.reduceToNat, BitVec.reduceOfInt, Nat.reduceBEq, hvL, hvU, hLU]; try rfl
    case hh4 => exact rValid_gives _ _ _ _
    refine al_pureN 3 (by simp only [go_sem, ↓reduceIte, Nat.reduceLT, Nat.reduceEqDiff, Nat.reduceLeDiff, Nat.reduceAdd, Nat.reduceMul, Int.reduceLT, Int.reduceLE, Int.reduceToNat, BitVec.reduceOfInt, Nat.reduceBEq, hvL, hvU, hLU]; try rfl) ?_
    refine al_pureN 1 (by simp only [go_sem, ↓reduceIte, Nat.reduceLT, Nat.reduceEqDiff, Nat.reduceLeDiff, Nat.reduceAdd, Nat.reduceMul, Int.reduceLT, Int.reduceLE, Int.reduceToNat, BitVec.reduceOfInt, Nat.reduceBEq, hvL, hvU, hLU]; try rfl) ?_
    refine al_gives (vs := ?vs5) (v := ?v5) rfl ?ha5 ?hh5 (by kernel_rfl) rfl (by simp only [go_sem, ↓reduceIte, Nat.reduceLT, Nat.reduceEqDiff, Nat.reduceLeDiff, Nat.reduceAdd, Nat.reduceMul, Int.reduceLT, Int.reduceLE, Int.reduceToNat, BitVec.reduceOfInt, Nat.reduceBEq, hvL, hvU, hLU]) ?kk5
    case ha5 => simp only [go_sem, ↓reduceIte, Nat.reduceLT, Nat.reduceEqDiff, Nat.reduceLeDiff, Nat.reduceAdd, Nat.reduceMul, Int.reduceLT, Int.reduceLE, Int.reduceToNat, BitVec.reduceOfInt, Nat.reduceBEq, hvL, hvU, hLU]; try rfl
    case hh5 => exact rValid_gives _ _ _ _
    refine al_pureN 3 (by simp only [go_sem, ↓reduceIte, Nat.reduceLT, Nat.reduceEqDiff, Nat.reduceLeDiff, Nat.reduceAdd, Nat.reduceMul, Int.reduceLT, Int.reduceLE, Int.reduceToNat, BitVec.reduceOfInt, Nat.reduceBEq, hvL, hvU, hLU]; try rfl) ?_
    refine al_pureN 2 (by simp only [go_sem, ↓reduceIte, Nat.reduceLT, Nat.reduceEqDiff, Nat.reduceLeDiff, Nat.reduceAdd, Nat.reduceMul, Int.reduceLT, Int.reduceLE, Int.reduceToNat, BitVec.reduceOfInt, Nat.reduceBEq, hvL, hvU, hLU]; try rfl) ?_
    refine al_pureN 2 (by simp only [go_sem, ↓reduceIte, Nat.reduceLT, Nat.reduceEqDiff, Nat.reduceLeDiff, Nat.reduceAdd, Nat.reduceMul, Int.reduceLT, Int.reduceLE, Int.reduceToNat, BitVec.reduceOfInt, Nat.reduceBEq, hvL, hvU, hLU]; try rfl) ?_
    refine al_pureN 1 (by simp only [go_sem, ↓reduceIte, Nat.reduceLT, Nat.reduceEqDiff, Nat.reduceLeDiff, Nat.reduceAdd, Nat.reduceMul, Int.reduceLT, Int.reduceLE, Int.reduceToNat, BitVec.reduceOfInt, Nat.reduceBEq, hvL, hvU, hLU]; try rfl) ?_
    refine al_end [1, 2, 3, 16, 17, 86] ?_
    refine awp_if rfl (fun h => by cases h) (fun _ => ?_)
    refine awp_skip ?_
    have hrow := rows_own hown
    have hrl : (cubes r).length = r.length := by simp [cubes]
    obtain ⟨b3, c3, rfl⟩ := hrow.len
    rw [hrl] at hrow hown ⊢
    have c64 : decide ((r.length : Int) > 64) = false := decide_eq_false (by omega)
    refine awp_seq ?_
    refine awp_seq (awp_pures [1, 2, 3, 16, 17, 99] (by simp only [go_sem, ↓reduceIte, Nat.reduceLT, Nat.reduceEqDiff, Nat.reduceLeDiff, Nat.reduceAdd, Nat.reduceMul, Int.reduceLT, Int.reduceLE, Int.reduceToNat, BitVec.reduceOfInt, Nat.reduceBEq, c64]; try rfl) ?_)
    refine awp_if rfl (fun h => by cases h) (fun _ => ?_)
    refine awp_skip ?_
    refine awp_seq (awp_pures [1, 2, 3, 16, 17, 18] (by simp only [go_sem, ↓reduceIte, Nat.reduceLT, Nat.reduceEqDiff, Nat.reduceLeDiff, Nat.reduceAdd, Nat.reduceMul, Int.reduceLT, Int.reduceLE, Int.reduceToNat, BitVec.reduceOfInt, Nat.reduceBEq]; try rfl) ?_)
    refine awp_seq ?_
    refine awp_seq (awp_pures [1, 2, 3, 16, 17, 18, 19] (by simp only [go_sem, ↓reduceIte, Nat.reduceLT, Nat.reduceEqDiff, Nat.reduceLeDiff, Nat.reduceAdd, Nat.reduceMul, Int.reduceLT, Int.reduceLE, Int.reduceToNat, BitVec.reduceOfInt, Nat.reduceBEq]; try rfl) ?_)
    refine awp_fresh fun hN1 => ?_
    refine awp_block (awp_loop ?_)
    refine ALoop.cast3 (aloop_ind (α := Nat × Value × Nat × AHeap)
      (fun x => x.1 ≤ r.length ∧ N1 ≤ x.2.2.1 ∧ OwnAt x.2.2.2 N1 x.2.1 (cubes (r.take x.1)).flatten x.1 2 ∧ σ1.le x.2.2.2) (fun x => r.length - x.1)
      (fun x => [(1, .int .u64 L.toNat), (2, .int .u64 U.toNat), (3, .int .i64 m), (16, .slice b3 r.length c3), (17, .int .i64 0), (18, x.2.1), (19, .int .i64 x.1)]) (fun x => x.2.2.1) (fun x => x.2.2.2) ?_
      (0, .slice none 0 0, N1, σ1) ⟨by simp, by simp, OwnAt.nil, AHeap.le_refl _⟩) rfl rfl rfl
    rintro ⟨j, wv, Nj, σj⟩ ⟨hj, hNj, hownj, hlej⟩ ih
    simp only at hj hNj hownj hlej ⊢
    by_cases hlt : j < r.length
    · have hb : decide ((j : Int) < (r.length : Int)) = true := decide_eq_true (by omega)
      have hj1 : -9223372036854775808 ≤ (j : Int) + 1 ∧ (j : Int) + 1 ≤ 9223372036854775807 := by omega
      have hii : 0 ≤ (j : Int) ∧ (j : Int) < (r.length : Int) := by omega
      refine awp_seq ?_
      refine awp_seq (awp_pures [1, 2, 3, 16, 17, 18, 19, 103] (by simp only [go_sem, ↓reduceIte, Nat.reduceLT, Nat.reduceEqDiff, Nat.reduceLeDiff, Nat.reduceAdd, Nat.reduceMul, Int.reduceLT, Int.reduceLE, Int.reduceToNat, BitVec.reduceOfInt, Nat.reduceBEq, hb]; try rfl) ?_)
      refine awp_if rfl (fun _ => ?_) (fun h => by cases h)
      refine awp_skip ?_
      obtain ⟨id, off, cap, b, q1, q2, q3⟩ := hrow.at (j := j) (by rw [hrl]; exact hlt)
      rw [hrl] at q1
      cases q1
      have q3 : cellsA b (off + j * 2) 2 = some (cubeV r[j]) := by rw [q3]; simp [cubes]
      have hsn := take_snoc r hlt
      generalize r[j] = c at q3 hsn
      have q2k := hlej _ _ q2
      refine awp_seq (awp_block ?_)
      refine awp_fresh fun hNσ => ?_
      refine awp_lit ?_
      refine al_pureN 4 (by simp only [go_sem, ↓reduceIte, Nat.reduceLT, Nat.reduceEqDiff, Nat.reduceLeDiff, Nat.reduceAdd, Nat.reduceMul, Int.reduceLT, Int.reduceLE, Int.reduceToNat, BitVec.reduceOfInt, Nat.reduceBEq, hii]; try rfl) ?_
      refine al_load rfl (by simp only [go_sem, ↓reduceIte, Nat.reduceLT, Nat.reduceEqDiff, Nat.reduceLeDiff, Nat.reduceAdd, Nat.reduceMul, Int.reduceLT, Int.reduceLE, Int.reduceToNat, BitVec.reduceOfInt, Nat.reduceBEq]) rfl (by simp only [go_sem, ↓reduceIte, Nat.reduceLT, Nat.reduceEqDiff, Nat.reduceLeDiff, Nat.reduceAdd, Nat.reduceMul, Int.reduceLT, Int.reduceLE, Int.reduceToNat, BitVec.reduceOfInt, Nat.reduceBEq]; try rfl) q2k (loadA_agg agg39 q3) ?_
      refine al_buildSlice (ps := [(0, .agg (cubeV c).toArray)]) (r := cubeV c) rfl (by simp only [go_sem, ↓reduceIte, Nat.reduceLT, Nat.reduceEqDiff, Nat.reduceLeDiff, Nat.reduceAdd, Nat.reduceMul, Int.reduceLT, Int.reduceLE, Int.reduceToNat, BitVec.reduceOfInt, Nat.reduceBEq]; try rfl) rfl Try.underlying37 ty41 (by decide) rfl (by decide) (by decide) rfl rfl (Nat.le_refl 2) ?_
      refine al_append_own (m := 1) (news := cubeV c) rfl (by simp only [go_sem, ↓reduceIte, Nat.reduceLT, Nat.reduceEqDiff, Nat.reduceLeDiff, Nat.reduceAdd, Nat.reduceMul, Int.reduceLT, Int.reduceLE, Int.reduceToNat, BitVec.reduceOfInt, Nat.reduceBEq]; try rfl) rfl Try.underlying37 ty41 rfl (by simp only [go_sem, ↓reduceIte, Nat.reduceLT, Nat.reduceEqDiff, Nat.reduceLeDiff, Nat.reduceAdd, Nat.reduceMul, Int.reduceLT, Int.reduceLE, Int.reduceToNat, BitVec.reduceOfInt, Nat.reduceBEq]; try rfl) (by simp only [go_sem, ↓reduceIte, Nat.reduceLT, Nat.reduceEqDiff, Nat.reduceLeDiff, Nat.reduceAdd, Nat.reduceMul, Int.reduceLT, Int.reduceLE, Int.reduceToNat, BitVec.reduceOfInt, Nat.reduceBEq]; try rfl) (hownj.mono (fun i b _ hb => by rw [AHeap.set_ne _ _ (Nat.ne_of_lt (hNσ i b hb))]; exact hb) (Nat.le_refl _)) (by omega) rfl (by simp only [srcA]; rw [AHeap.set_self]; rfl) rfl (cubeV_one c) (by omega) (by omega) ?_
      intro N' σ' v' hN' hown' hkeep
      have hle' : σ1.le σ' := hkeep σ1 (AHeap.le_set hlej fun i b hb => Nat.ne_of_lt (by have := hN1 i b hb; omega)) hN1
      rw [← cubes_snoc, ← hsn] at hown'
      refine al_pureN 1 (by simp only [go_sem, ↓reduceIte, Nat.reduceLT, Nat.reduceEqDiff, Nat.reduceLeDiff, Nat.reduceAdd, Nat.reduceMul, Int.reduceLT, Int.reduceLE, Int.reduceToNat, BitVec.reduceOfInt, Nat.reduceBEq]; try rfl) ?_
      refine al_end [1, 2, 3, 16, 17, 18, 19] ?_
      refine awp_pures [1, 2, 3, 16, 17, 18, 19] (by simp only [go_sem, ↓reduceIte, Nat.reduceLT, Nat.reduceEqDiff, Nat.reduceLeDiff, Nat.reduceAdd, Nat.reduceMul, Int.reduceLT, Int.reduceLE, Int.reduceToNat, BitVec.reduceOfInt, Nat.reduceBEq, i64_add hj1]; try rfl) ?_
      refine ALoop.cast3 (ih (j + 1, v', N', σ') ⟨hlt, by simp; omega, hown', hle'⟩ (by simp; omega)) (by first | (simp only [go_sem]; try rfl) | rfl) rfl rfl
    have hb : decide ((j : Int) < (r.length : Int)) = false := decide_eq_false (by omega)
    have hil : j = r.length := by omega
    subst hil
    rw [List.take_length] at hownj
    refine awp_seq ?_
    refine awp_seq (awp_pures [1, 2, 3, 16, 17, 18, 19, 103] (by simp only [go_sem, ↓reduceIte, Nat.reduceLT, Nat.reduceEqDiff, Nat.reduceLeDiff, Nat.reduceAdd, Nat.reduceMul, Int.reduceLT, Int.reduceLE, Int.reduceToNat, BitVec.reduceOfInt, Nat.reduceBEq, hb]; try rfl) ?_)
    refine awp_if rfl (fun h => by cases h) (fun _ => ?_)
    refine awp_exit ?_
    simp only [Go.Abs.Seq, Go.Abs.Round, Go.Abs.InBlock, ↓reduceIte]
    first | refine awp_seq (awp_lit ?_) | refine awp_lit ?_ | refine awp_seq (awp_seq (awp_lit ?_))
    refine al_pureN 7 (by simp only [go_sem, ↓reduceIte, Nat.reduceLT, Nat.reduceEqDiff, Nat.reduceLeDiff, Nat.reduceAdd, Nat.reduceMul, Int.reduceLT, Int.reduceLE, Int.reduceToNat, BitVec.reduceOfInt, Nat.reduceBEq]; try rfl) ?_
    refine al_gives (vs := ?vs6) (v := ?v6) rfl ?ha6 ?hh6 (by kernel_rfl) rfl (by simp only [go_sem, ↓reduceIte, Nat.reduceLT, Nat.reduceEqDiff, Nat.reduceLeDiff, Nat.reduceAdd, Nat.reduceMul, Int.reduceLT, Int.reduceLE, Int.reduceToNat, BitVec.reduceOfInt, Nat.reduceBEq]) ?kk6
    case ha6 => simp only [go_sem, ↓reduceIte, Nat.reduceLT, Nat.reduceEqDiff, Nat.reduceLeDiff, Nat.reduceAdd, Nat.reduceMul, Int.reduceLT, Int.reduceLE, Int.reduceToNat, BitVec.reduceOfInt, Nat.reduceBEq]; try rfl
    case hh6 => exact hirr _ _ _ _ hownj
    refine al_pureN 2 (by simp only [go_sem, ↓reduceIte, Nat.reduceLT, Nat.reduceEqDiff, Nat.reduceLeDiff, Nat.reduceAdd, Nat.reduceMul, Int.reduceLT, Int.reduceLE, Int.reduceToNat, BitVec.reduceOfInt, Nat.reduceBEq]; try rfl) ?_
    refine al_gives (vs := ?vs7) (v := ?v7) rfl ?ha7 ?hh7 (by kernel_rfl) rfl (by simp only [go_sem, ↓reduceIte, Nat.reduceLT, Nat.reduceEqDiff, Nat.reduceLeDiff, Nat.reduceAdd, Nat.reduceMul, Int.reduceLT, Int.reduceLE, Int.reduceToNat, BitVec.reduceOfInt, Nat.reduceBEq]) ?kk7
    case ha7 => simp only [go_sem, ↓reduceIte, Nat.reduceLT, Nat.reduceEqDiff, Nat.reduceLeDiff, Nat.reduceAdd, Nat.reduceMul, Int.reduceLT, Int.reduceLE, Int.reduceToNat, BitVec.reduceOfInt, Nat.reduceBEq]; try rfl
    case hh7 => exact awake_gives _ _
    refine al_pureN 2 (by simp only [go_sem, ↓reduceIte, Nat.reduceLT, Nat.reduceEqDiff, Nat.reduceLeDiff, Nat.reduceAdd, Nat.reduceMul, Int.reduceLT, Int.reduceLE, Int.reduceToNat, BitVec.reduceOfInt, Nat.reduceBEq]; try rfl) ?_
    refine al_end [8] ?_
    exact awp_ret ⟨_, rfl, rfl, AHeap.le_trans (AHeap.le_trans hlek hle1) hlej⟩
  have hIR : IsopR L U n = ([], 1) := if_neg hgood
  rw [hIR] at hown ⊢
  obtain ⟨b3, c3, rfl⟩ := hown.lenV
  have hnil : (((([] : List (Nat × Nat)).length : Nat) : Int) == 0) = true := rfl
  cases hvL : validT L n with
  | false =>
    first | refine awp_seq (awp_lit ?_) | refine awp_lit ?_ | refine awp_seq (awp_seq (awp_lit ?_))
    refine al_pureN 2 (by simp only [go_sem, ↓reduceIte, Nat.reduceLT, Nat.reduceEqDiff, Nat.reduceLeDiff, Nat.reduceAdd, Nat.reduceMul, Int.reduceLT, Int.reduceLE, Int.reduceToNat, BitVec.reduceOfInt, Nat.reduceBEq, hvL]; try rfl) ?_
    refine al_gives (vs := ?vs8) (v := ?v8) rfl ?ha8 ?hh8 (by kernel_rfl) rfl (by simp only [go_sem, ↓reduceIte, Nat.reduceLT, Nat.reduceEqDiff, Nat.reduceLeDiff, Nat.reduceAdd, Nat.reduceMul, Int.reduceLT, Int.reduceLE, Int.reduceToNat, BitVec.reduceOfInt, Nat.reduceBEq, hvL]) ?kk8
    case ha8 => simp only [go_sem, ↓reduceIte, Nat.reduceLT, Nat.reduceEqDiff, Nat.reduceLeDiff, Nat.reduceAdd, Nat.reduceMul, Int.reduceLT, Int.reduceLE, Int.reduceToNat, BitVec.reduceOfInt, Nat.reduceBEq, hvL]; try rfl
    case hh8 => exact rValid_gives _ _ _ _
    refine al_pureN 3 (by simp only [go_sem, ↓reduceIte, Nat.reduceLT, Nat.reduceEqDiff, Nat.reduceLeDiff, Nat.reduceAdd, Nat.reduceMul, Int.reduceLT, Int.reduceLE, Int.reduceToNat, BitVec.reduceOfInt, Nat.reduceBEq, hvL]; try rfl) ?_
    refine al_pureN 1 (by simp only [go_sem, ↓reduceIte, Nat.reduceLT, Nat.reduceEqDiff, Nat.reduceLeDiff, Nat.reduceAdd, Nat.reduceMul, Int.reduceLT, Int.reduceLE, Int.reduceToNat, BitVec.reduceOfInt, Nat.reduceBEq, hvL]; try rfl) ?_
    refine al_pureN 1 (by simp only [go_sem, ↓reduceIte, Nat.reduceLT, Nat.reduceEqDiff, Nat.reduceLeDiff, Nat.reduceAdd, Nat.reduceMul, Int.reduceLT, Int.reduceLE, Int.reduceToNat, BitVec.reduceOfInt, Nat.reduceBEq, hvL, undef]; try rfl) ?_
    refine al_pureN 3 (by simp only [go_sem, ↓reduceIte, Nat.reduceLT, Nat.reduceEqDiff, Nat.reduceLeDiff, Nat.reduceAdd, Nat.reduceMul, Int.reduceLT, Int.reduceLE, Int.reduceToNat, BitVec.reduceOfInt, Nat.reduceBEq, hvL]; try rfl) ?_
    refine al_pureN 2 (by simp only [go_sem, ↓reduceIte, Nat.reduceLT, Nat.reduceEqDiff, Nat.reduceLeDiff, Nat.reduceAdd, Nat.reduceMul, Int.reduceLT, Int.reduceLE, Int.reduceToNat, BitVec.reduceOfInt, Nat.reduceBEq, hvL]; try rfl) ?_
    refine al_pureN 2 (by simp only [go_sem, ↓reduceIte, Nat.reduceLT, Nat.reduceEqDiff, Nat.reduceLeDiff, Nat.reduceAdd, Nat.reduceMul, Int.reduceLT, Int.reduceLE, Int.reduceToNat, BitVec.reduceOfInt, Nat.reduceBEq, hvL]; try rfl) ?_
    refine al_pureN 1 (by simp only [go_sem, ↓reduceIte, Nat.reduceLT, Nat.reduceEqDiff, Nat.reduceLeDiff, Nat.reduceAdd, Nat.reduceMul, Int.reduceLT, Int.reduceLE, Int.reduceToNat, BitVec.reduceOfInt, Nat.reduceBEq, hvL]; try rfl) ?_
    refine al_end [1, 2, 3, 16, 17, 86] ?_
    refine awp_if rfl (fun _ => ?_) (fun h => by cases h)
    first | refine awp_seq (awp_lit ?_) | refine awp_lit ?_ | refine awp_seq (awp_seq (awp_lit ?_))
    refine al_pureN 4 (by simp only [go_sem, ↓reduceIte, Nat.reduceLT, Nat.reduceEqDiff, Nat.reduceLeDiff, Nat.reduceAdd, Nat.reduceMul, Int.reduceLT, Int.reduceLE, Int.reduceToNat, BitVec.reduceOfInt, Nat.reduceBEq, hnil]; try rfl) ?_
    refine al_pureN 4 (by simp only [go_sem, ↓reduceIte, Nat.reduceLT, Nat.reduceEqDiff, Nat.reduceLeDiff, Nat.reduceAdd, Nat.reduceMul, Int.reduceLT, Int.reduceLE, Int.reduceToNat, BitVec.reduceOfInt, Nat.reduceBEq, hnil]; try rfl) ?_
    refine al_gives (vs := ?vs9) (v := ?v9) rfl ?ha9 ?hh9 (by kernel_rfl) rfl (by simp only [go_sem, ↓reduceIte, Nat.reduceLT, Nat.reduceEqDiff, Nat.reduceLeDiff, Nat.reduceAdd, Nat.reduceMul, Int.reduceLT, Int.reduceLE, Int.reduceToNat, BitVec.reduceOfInt, Nat.reduceBEq, hnil]) ?kk9
    case ha9 => simp only [go_sem, ↓reduceIte, Nat.reduceLT, Nat.reduceEqDiff, Nat.reduceLeDiff, Nat.reduceAdd, Nat.reduceMul, Int.reduceLT, Int.reduceLE, Int.reduceToNat, BitVec.reduceOfInt, Nat.reduceBEq, hnil]; try rfl
    case hh9 => exact awake_gives _ _
    refine al_pureN 2 (by simp only [go_sem, ↓reduceIte, Nat.reduceLT, Nat.reduceEqDiff, Nat.reduceLeDiff, Nat.reduceAdd, Nat.reduceMul, Int.reduceLT, Int.reduceLE, Int.reduceToNat, BitVec.reduceOfInt, Nat.reduceBEq, hnil]; try rfl) ?_
    refine al_end [8] ?_
    exact awp_ret ⟨_, rfl, rfl, AHeap.le_trans hlek hle1⟩
  | true =>
    cases hvU : validT U n with
    | false =>
      first | refine awp_seq (awp_lit ?_) | refine awp_lit ?_ | refine awp_seq (awp_seq (awp_lit ?_))
      refine al_pureN 2 (by simp only [go_sem, ↓reduceIte, Nat.reduceLT, Nat.reduceEqDiff, Nat.reduceLeDiff, Nat.reduceAdd, Nat.reduceMul, Int.reduceLT, Int.reduceLE, Int.reduceToNat, BitVec.reduceOfInt, Nat.reduceBEq, hvL, hvU]; try rfl) ?_
      refine al_gives (vs := ?vs10) (v := ?v10) rfl ?ha10 ?hh10 (by kernel_rfl) rfl (by simp only [go_sem, ↓reduceIte, Nat.reduceLT, Nat.reduceEqDiff, Nat.reduceLeDiff, Nat.reduceAdd, Nat.reduceMul, Int.reduceLT, Int.reduceLE, Int.reduceToNat, BitVec.reduceOfInt, Nat.reduceBEq, hvL, hvU]) ?kk10
      case ha10 => simp only [go_sem, ↓reduceIte, Nat.reduceLT, Nat.reduceEqDiff, Nat.reduceLeDiff, Nat.reduceAdd, Nat.reduceMul, Int.reduceLT, Int.reduceLE, Int.reduceToNat, BitVec.reduceOfInt, Nat.reduceBEq, hvL, hvU]; try rfl
      case hh10 => exact rValid_gives _ _ _ _
      refine al_pureN 3 (by simp only [go_sem, ↓reduceIte, Nat.reduceLT, Nat.reduceEqDiff, Nat.reduceLeDiff, Nat.reduceAdd, Nat.reduceMul, Int.reduceLT, Int.reduceLE, Int.reduceToNat, BitVec.reduceOfInt, Nat.reduceBEq, hvL, hvU]; try rfl) ?_
      refine al_pureN 1 (by simp only [go_sem, ↓reduceIte, Nat.reduceLT, Nat.reduceEqDiff, Nat.reduceLeDiff, Nat.reduceAdd, Nat.reduceMul, Int.reduceLT, Int.reduceLE, Int.reduceToNat, BitVec.reduceOfInt, Nat.reduceBEq, hvL, hvU]; try rfl) ?_
      refine al_gives (vs := ?vs11) (v := ?v11) rfl ?ha11 ?hh11 (by kernel_rfl) rfl (by simp only [go_sem, ↓reduceIte, Nat.reduceLT, Nat.reduceEqDiff, Nat.reduceLeDiff, Nat.reduceAdd, Nat.reduceMul, Int.reduceLT, Int.reduceLE, Int.reduceToNat, BitVec.reduceOfInt, Nat.reduceBEq, hvL, hvU]) ?kk11
      case ha11 => simp only [go_sem, ↓reduceIte, Nat.reduceLT, Nat.reduceEqDiff, Nat.reduceLeDiff, Nat.reduceAdd, Nat.reduceMul, Int.reduceLT, Int.reduceLE, Int.reduceToNat, BitVec.reduceOfInt, Nat.reduceBEq, hvL, hvU]; try rfl
      case hh11 => exact rValid_gives _ _ _ _
      refine al_pureN 3 (by simp only [go_sem, ↓reduceIte, Nat.reduceLT, Nat.reduceEqDiff, Nat.reduceLeDiff, Nat.reduceAdd, Nat.reduceMul, Int.reduceLT, Int.reduceLE, Int.reduceToNat, BitVec.reduceOfInt, Nat.reduceBEq, hvL, hvU]; try rfl) ?_
      refine al_pureN 2 (by simp only [go_sem, ↓reduceIte, Nat.reduceLT, Nat.reduceEqDiff, Nat.reduceLeDiff, Nat.reduceAdd, Nat.reduceMul, Int.reduceLT, Int.reduceLE, Int.reduceToNat, BitVec.reduceOfInt, Nat.reduceBEq, hvL, hvU]; try rfl) ?_
      refine al_pureN 2 (by simp only [go_sem, ↓reduceIte, Nat.reduceLT, Nat.reduceEqDiff, Nat.reduceLeDiff, Nat.reduceAdd, Nat.reduceMul, Int.reduceLT, Int.reduceLE, Int.reduceToNat, BitVec.reduceOfInt, Nat.reduceBEq, hvL, hvU]; try rfl) ?_
      refine al_pureN 1 (by simp only [go_sem, ↓reduceIte, Nat.reduceLT, Nat.reduceEqDiff, Nat.reduceLeDiff, Nat.reduceAdd, Nat.reduceMul, Int.reduceLT, Int.reduceLE, Int.reduceToNat, BitVec.reduceOfInt, Nat.reduceBEq, hvL, hvU]; try rfl) ?_
      refine al_end [1, 2, 3, 16, 17, 86] ?_
      refine awp_if rfl (fun _ => ?_) (fun h => by cases h)
      first | refine awp_seq (awp_lit ?_) | refine awp_lit ?_ | refine awp_seq (awp_seq (awp_lit ?_))
      refine al_pureN 4 (by simp only [go_sem, ↓reduceIte, Nat.reduceLT, Nat.reduceEqDiff, Nat.reduceLeDiff, Nat.reduceAdd, Nat.reduceMul, Int.reduceLT, Int.reduceLE, Int.reduceToNat, BitVec.reduceOfInt, Nat.reduceBEq, hnil]; try rfl) ?_
      refine al_pureN 4 (by simp only [go_sem, ↓reduceIte, Nat.reduceLT, Nat.reduceEqDiff, Nat.reduceLeDiff, Nat.reduceAdd, Nat.reduceMul, Int.reduceLT, Int.reduceLE, Int.reduceToNat, BitVec.reduceOfInt, Nat.reduceBEq, hnil]; try rfl) ?_
      refine al_gives (vs := ?vs12) (v := ?v12) rfl ?ha12 ?hh12 (by kernel_rfl) rfl (by simp only [go_sem, ↓reduceIte, Nat.reduceLT, Nat.reduceEqDiff, Nat.reduceLeDiff, Nat.reduceAdd, Nat.reduceMul, Int.reduceLT, Int.reduceLE, Int.reduceToNat, BitVec.reduceOfInt, Nat.reduceBEq, hnil]) ?kk12
      case ha12 => simp only [go_sem, ↓reduceIte, Nat.reduceLT, Nat.reduceEqDiff, Nat.reduceLeDiff, Nat.reduceAdd, Nat.reduceMul, Int.reduceLT, Int.reduceLE, Int.reduceToNat, BitVec.reduceOfInt, Nat.reduceBEq, hnil]; try rfl
      case hh12 => exact awake_gives _ _
      refine al_pureN 2 (by simp only [go_sem, ↓reduceIte, Nat.reduceLT, Nat.reduceEqDiff, Nat.reduceLeDiff, Nat.reduceAdd, Nat.reduceMul, Int.reduceLT, Int.reduceLE, Int.reduceToNat, BitVec.reduceOfInt, Nat.reduceBEq, hnil]; try rfl) ?_
      refine al_end [8] ?_
      exact awp_ret ⟨_, rfl, rfl, AHeap.le_trans hlek hle1⟩
    | true =>
      have hLU : (((L &&& ~~~ U).toNat : Int) != 0) = true := bne_iff_ne.2 fun h => hgood ⟨hvL, hvU, BitVec.eq_of_toNat_eq (by simpa using h)⟩
      first | refine awp_seq (awp_lit ?_) | refine awp_lit ?_ | refine awp_seq (awp_seq (awp_lit ?_))
      refine al_pureN 2 (by simp only [go_sem, ↓reduceIte, Nat.reduceLT, Nat.reduceEqDiff, Nat.reduceLeDiff, Nat.reduceAdd, Nat.reduceMul, Int.reduceLT, Int.reduceLE, Int.reduceToNat, BitVec.reduceOfInt, Nat.reduceBEq, hvL, hvU]; try rfl) ?_
      refine al_gives (vs := ?vs13) (v := ?v13) rfl ?ha13 ?hh13 (by kernel_rfl) rfl (by simp only [go_sem, ↓reduceIte, Nat.reduceLT, Nat.reduceEqDiff, Nat.reduceLeDiff, Nat.reduceAdd, Nat.reduceMul, Int.reduceLT, Int.reduceLE, Int.reduceToNat, BitVec.reduceOfInt, Nat.reduceBEq, hvL, hvU]) ?kk13
      case ha13 => simp only [go_sem, ↓reduceIte, Nat.reduceLT, Nat.reduceEqDiff, Nat.reduceLeDiff, Nat.reduceAdd, Nat.reduceMul, Int.reduceLT, Int.reduceLE, Int.reduceToNat, BitVec.reduceOfInt, Nat.reduceBEq, hvL, hvU]; try rfl
      case hh13 => exact rValid_gives _ _ _ _
      refine al_pureN 3 (by simp only [go_sem, ↓reduceIte, Nat.reduceLT, Nat.reduceEqDiff, Nat.reduceLeDiff, Nat.reduceAdd, Nat.reduceMul, Int.reduceLT, Int.reduceLE, Int.reduceToNat, BitVec.reduceOfInt, Nat.reduceBEq, hvL, hvU]; try rfl) ?_
      refine al_pureN 1 (by simp only [go_sem, ↓reduceIte, Nat.reduceLT, Nat.reduceEqDiff, Nat.reduceLeDiff, Nat.reduceAdd, Nat.reduceMul, Int.reduceLT, Int.reduceLE, Int.reduceToNat, BitVec.reduceOfInt, Nat.reduceBEq, hvL, hvU]; try rfl) ?_
      refine al_gives (vs := ?vs14) (v := ?v14) rfl ?ha14 ?hh14 (by kernel_rfl) rfl (by simp only [go_sem, ↓reduceIte, Nat.reduceLT, Nat.reduceEqDiff, Nat.reduceLeDiff, Nat.reduceAdd, Nat.reduceMul, Int.reduceLT, Int.reduceLE, Int.reduceToNat, BitVec.reduceOfInt, Nat.reduceBEq, hvL, hvU]) ?kk14
      case ha14 => simp only [go_sem, ↓reduceIte, Nat.reduceLT, Nat.reduceEqDiff, Nat.reduceLeDiff, Nat.reduceAdd, Nat.reduceMul, Int.reduceLT, Int.reduceLE, Int.reduceToNat, BitVec.reduceOfInt, Nat.reduceBEq, hvL, hvU]; try rfl
      case hh14 => exact rValid_gives _ _ _ _
      refine al_pureN 3 (by simp only [go_sem, ↓reduceIte, Nat.reduceLT, Nat.reduceEqDiff, Nat.reduceLeDiff, Nat.reduceAdd, Nat.reduceMul, Int.reduceLT, Int.reduceLE, Int.reduceToNat, BitVec.reduceOfInt, Nat.reduceBEq, hvL, hvU]; try rfl) ?_
      refine al_pureN 2 (by simp only [go_sem, ↓reduceIte, Nat.reduceLT, Nat.reduceEqDiff, Nat.reduceLeDiff, Nat.reduceAdd, Nat.reduceMul, Int.reduceLT, Int.reduceLE, Int.reduceToNat, BitVec.reduceOfInt, Nat.reduceBEq, hvL, hvU]; try rfl) ?_
      refine al_pureN 2 (by simp only [go_sem, ↓reduceIte, Nat.reduceLT, Nat.reduceEqDiff, Nat.reduceLeDiff, Nat.reduceAdd, Nat.reduceMul, Int.reduceLT, Int.reduceLE, Int.reduceToNat, BitVec.reduceOfInt, Nat.reduceBEq, hvL, hvU]; try rfl) ?_
      refine al_pureN 1 (by simp only [go_sem, ↓reduceIte, Nat.reduceLT, Nat.reduceEqDiff, Nat.reduceLeDiff, Nat.reduceAdd, Nat.reduceMul, Int.reduceLT, Int.reduceLE, Int.reduceToNat, BitVec.reduceOfInt, Nat.reduceBEq, hvL, hvU]; try rfl) ?_
      refine al_end [1, 2, 3, 16, 17, 86] ?_
      rw [hLU]
      refine awp_if rfl (fun _ => ?_) (fun h => by cases h)
      first | refine awp_seq (awp_lit ?_) | refine awp_lit ?_ | refine awp_seq (awp_seq (awp_lit ?_))
      refine al_pureN 4 (by simp only [go_sem, ↓reduceIte, Nat.reduceLT, Nat.reduceEqDiff, Nat.reduceLeDiff, Nat.reduceAdd, Nat.reduceMul, Int.reduceLT, Int.reduceLE, Int.reduceToNat, BitVec.reduceOfInt, Nat.reduceBEq, hnil]; try rfl) ?_
      refine al_pureN 4 (by simp only [go_sem, ↓reduceIte, Nat.reduceLT, Nat.reduceEqDiff, Nat.reduceLeDiff, Nat.reduceAdd, Nat.reduceMul, Int.reduceLT, Int.reduceLE, Int.reduceToNat, BitVec.reduceOfInt, Nat.reduceBEq, hnil]; try rfl) ?_
      refine al_gives (vs := ?vs15) (v := ?v15) rfl ?ha15 ?hh15 (by kernel_rfl) rfl (by simp only [go_sem, ↓reduceIte, Nat.reduceLT, Nat.reduceEqDiff, Nat.reduceLeDiff, Nat.reduceAdd, Nat.reduceMul, Int.reduceLT, Int.reduceLE, Int.reduceToNat, BitVec.reduceOfInt, Nat.reduceBEq, hnil]) ?kk15
      case ha15 => simp only [go_sem, ↓reduceIte, Nat.reduceLT, Nat.reduceEqDiff, Nat.reduceLeDiff, Nat.reduceAdd, Nat.reduceMul, Int.reduceLT, Int.reduceLE, Int.reduceToNat, BitVec.reduceOfInt, Nat.reduceBEq, hnil]; try rfl
      case hh15 => exact awake_gives _ _
      refine al_pureN 2 (by simp only [go_sem, ↓reduceIte, Nat.reduceLT, Nat.reduceEqDiff, Nat.reduceLeDiff, Nat.reduceAdd, Nat.reduceMul, Int.reduceLT, Int.reduceLE, Int.reduceToNat, BitVec.reduceOfInt, Nat.reduceBEq, hnil]; try rfl) ?_
      refine al_end [8] ?_
      exact awp_ret ⟨_, rfl, rfl, AHeap.le_trans hlek hle1⟩
end Go.Proofs.Ytbpjoamdcbbnnaa
