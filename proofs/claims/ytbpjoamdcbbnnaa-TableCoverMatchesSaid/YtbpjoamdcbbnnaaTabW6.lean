/- The walk of package table's Canon. -/
import Derived.Test.YtbpjoamdcbbnnaaTabW5
import Derived.Test.YtbpjoamdcbbnnaaTabCanR
set_option linter.unusedSimpArgs false
set_option linter.unusedVariables false
namespace Go.Proofs.Ytbpjoamdcbbnnaa
open Go.Abs Go.Tab
attribute [local go_sem] Try.underlying22 Try.underlying3 Try.underlying77 Try.underlying52 Try.underlying23 Try.underlying25 Try.underlying5 Try.underlying4 Try.underlying36 Try.underlying39 Try.underlying72 size22 size3 size23 size5 size4 size39 Nat.mul_one

theorem size22' : sizeA Try.prog 22 = some 1 := by kernel_rfl
theorem size25 : sizeA Try.prog 25 = some 3 := by kernel_rfl
theorem agg22 : aggA Try.prog 22 = some none := by kernel_rfl
theorem agg25 : aggA Try.prog 25 = some (some 3) := by kernel_rfl
theorem agg74 : aggA Try.prog 74 = some none := by kernel_rfl
theorem ty4 : TyI Try.prog 4 (.bool false) 1 1 := .of (by kernel_rfl)
theorem ty25 : TyI Try.prog 25 (.agg #[.slice none 0 0, .int .u8 0, .bool false]) 3 32 := .of (by kernel_rfl)

/-- The cells of Canon's results. -/
structure TrySt (M e : Nat) (σ0 σ : AHeap) (y : FoundT) : Prop where
  rep : σ (M + 1) = some ⟨[.int .u64 y.1.toNat], true, 1⟩
  tr : ∃ sv, σ (M + 2) = some ⟨[sv, .int .u8 y.2.2.1, .bool y.2.2.2], true, 1⟩ ∧ SlOff (fun i => i = M + 1 ∨ i = M + 2 ∨ i = e) σ sv (ints y.2.1)
  keep : ∀ i b, i ≠ M + 1 → i ≠ M + 2 → σ0 i = some b → σ i = some b

theorem TrySt.le {M e : Nat} {σ0 σ σ' : AHeap} {y : FoundT} (h : TrySt M e σ0 σ y) (hl : σ.le σ') : TrySt M e σ0 σ' y where
  rep := hl _ _ h.rep
  tr := by
    obtain ⟨sv, h1, h2⟩ := h.tr
    exact ⟨sv, hl _ _ h1, h2.mono fun i b hi hb => ⟨hb, hl _ _ hi⟩⟩
  keep := fun i b h1 h2 hi => hl _ _ (h.keep i b h1 h2 hi)
theorem TrySt.put {M e : Nat} {σ0 σ : AHeap} {y y' : FoundT} {sv : Value} (h : TrySt M e σ0 σ y) (hs : SlOff (fun i => i = M + 1 ∨ i = M + 2 ∨ i = e) σ sv (ints y'.2.1)) :
    TrySt M e σ0 ((σ.set (M + 1) ⟨[.int .u64 y'.1.toNat], true, 1⟩).set (M + 2) ⟨[sv, .int .u8 y'.2.2.1, .bool y'.2.2.2], true, 1⟩) y' where
  rep := by rw [AHeap.set_ne _ _ (by omega), AHeap.set_self]
  tr := ⟨sv, AHeap.set_self _ _ _, hs.mono fun i b hi hb => ⟨hb, by rw [AHeap.set_ne _ _ (fun e => hb (.inr (.inl e))), AHeap.set_ne _ _ (fun e => hb (.inl e))]; exact hi⟩⟩
  keep := fun i b h1 h2 hi => by rw [AHeap.set_ne _ _ h2, AHeap.set_ne _ _ h1]; exact h.keep i b h1 h2 hi

theorem try_ok {n : Nat} (hn : n ≤ 6) (f : Nat) (hf : f < 256) (w : BitVec 64) (l : List Int) (hl : Idx n l) (y : FoundT) (M e N : Nat) (σ : AHeap) (he1 : e ≠ M + 1) (he2 : e ≠ M + 2)
    (hrow : σ e = some ⟨ints l, true, 1⟩) (hM : σ M = some ⟨[.int .i64 n], true, 1⟩) (hst : TrySt M e σ σ y) :
    AOk Try.prog 46 [.int .u8 f, .int .u64 w.toNat, .slice (some ⟨e, 0, none⟩) n n, ptr M, ptr (M + 1), ptr (M + 2)] N σ (fun _ N' σ' => N ≤ N' ∧ TrySt M e σ σ' (tryR n f w y l)) := by
  have hll := hl.1
  have hsl : SlAt σ (.slice (some ⟨e, 0, none⟩) n n) (ints l) := .inr ⟨e, 0, n, _, by simp [ints, hll], hrow, fun j x hx => by simpa using hx⟩
  refine aok_fresh fun hN => aok_body (n := 37) Try.func46 rfl rfl (by simp) ?_
  first | refine awp_seq (awp_lit ?_) | refine awp_lit ?_ | refine awp_seq (awp_seq (awp_lit ?_))
  refine al_pureN 1 (by simp only [go_sem, ↓reduceIte, Nat.reduceLT, Nat.reduceEqDiff, Nat.reduceLeDiff, Nat.reduceAdd, Nat.reduceMul, Int.reduceLT, Int.reduceLE, Int.reduceToNat, BitVec.reduceOfInt, Nat.reduceBEq]; try rfl) ?_
  refine al_load rfl (by simp only [go_sem, ↓reduceIte, Nat.reduceLT, Nat.reduceEqDiff, Nat.reduceLeDiff, Nat.reduceAdd, Nat.reduceMul, Int.reduceLT, Int.reduceLE, Int.reduceToNat, BitVec.reduceOfInt, Nat.reduceBEq]) rfl (by simp only [go_sem, ↓reduceIte, Nat.reduceLT, Nat.reduceEqDiff, Nat.reduceLeDiff, Nat.reduceAdd, Nat.reduceMul, Int.reduceLT, Int.reduceLE, Int.reduceToNat, BitVec.reduceOfInt, Nat.reduceBEq]; try rfl) hM (loadA_scalar agg3 rfl) ?_
  refine al_pureN 1 (by simp only [go_sem, ↓reduceIte, Nat.reduceLT, Nat.reduceEqDiff, Nat.reduceLeDiff, Nat.reduceAdd, Nat.reduceMul, Int.reduceLT, Int.reduceLE, Int.reduceToNat, BitVec.reduceOfInt, Nat.reduceBEq]; try rfl) ?_
  refine al_gives (vs := ?vs1) (v := ?v1) rfl ?ha1 ?hh1 (by kernel_rfl) rfl (by simp only [go_sem, ↓reduceIte, Nat.reduceLT, Nat.reduceEqDiff, Nat.reduceLeDiff, Nat.reduceAdd, Nat.reduceMul, Int.reduceLT, Int.reduceLE, Int.reduceToNat, BitVec.reduceOfInt, Nat.reduceBEq]) ?kk1
  case ha1 => simp only [go_sem, ↓reduceIte, Nat.reduceLT, Nat.reduceEqDiff, Nat.reduceLeDiff, Nat.reduceAdd, Nat.reduceMul, Int.reduceLT, Int.reduceLE, Int.reduceToNat, BitVec.reduceOfInt, Nat.reduceBEq]; try rfl
  case hh1 => exact permute_gives w n hn l (by omega) (fun x hx => (hl.2 x hx).1) _ _ _ hsl
  refine al_pureN 1 (by simp only [go_sem, ↓reduceIte, Nat.reduceLT, Nat.reduceEqDiff, Nat.reduceLeDiff, Nat.reduceAdd, Nat.reduceMul, Int.reduceLT, Int.reduceLE, Int.reduceToNat, BitVec.reduceOfInt, Nat.reduceBEq]; try rfl) ?_
  refine al_end [0, 2, 3, 4, 5, 9] ?_
  first | refine awp_seq (awp_lit ?_) | refine awp_lit ?_ | refine awp_seq (awp_seq (awp_lit ?_))
  refine al_buildSlice rfl (by simp only [go_sem, ↓reduceIte, Nat.reduceLT, Nat.reduceEqDiff, Nat.reduceLeDiff, Nat.reduceAdd, Nat.reduceMul, Int.reduceLT, Int.reduceLE, Int.reduceToNat, BitVec.reduceOfInt, Nat.reduceBEq]; try rfl) rfl Try.underlying72 ty4 (by decide) rfl (by decide) (by decide) (by simp only [go_sem, ↓reduceIte, Nat.reduceLT, Nat.reduceEqDiff, Nat.reduceLeDiff, Nat.reduceAdd, Nat.reduceMul, Int.reduceLT, Int.reduceLE, Int.reduceToNat, BitVec.reduceOfInt, Nat.reduceBEq]; try rfl) rfl (by decide) ?_
  refine al_pureN 2 (by simp only [go_sem, ↓reduceIte, Nat.reduceLT, Nat.reduceEqDiff, Nat.reduceLeDiff, Nat.reduceAdd, Nat.reduceMul, Int.reduceLT, Int.reduceLE, Int.reduceToNat, BitVec.reduceOfInt, Nat.reduceBEq]; try rfl) ?_
  refine al_end [0, 2, 3, 4, 5, 9, 16, 17, 18] ?_
  have hfr : ∀ i b, σ i = some b → i ≠ N := fun i b hi => Nat.ne_of_lt (hN i b hi)
  have hM1 : M + 1 ≠ N := hfr _ _ hst.rep
  have hM2 : M + 2 ≠ N := by obtain ⟨sv, h, _⟩ := hst.tr; exact hfr _ _ h
  have hst0 : TrySt M e (σ.set N ⟨[.bool false, .bool true], true, 1⟩) (σ.set N ⟨[.bool false, .bool true], true, 1⟩) y := by
    refine ⟨by rw [AHeap.set_ne _ _ hM1]; exact hst.rep, ?_, fun i b _ _ h => h⟩
    obtain ⟨sv, h1, h2⟩ := hst.tr
    exact ⟨sv, by rw [AHeap.set_ne _ _ hM2]; exact h1, h2.mono fun i b hi hb => ⟨hb, by rw [AHeap.set_ne _ _ (hfr _ _ hi)]; exact hi⟩⟩
  refine awp_block (awp_loop ?_)
  refine ALoop.cast3 (aloop_ind (α := Nat × BitVec 64 × FoundT × Nat × AHeap)
    (fun x => x.1 ≤ 2 ∧ tryR n f w y l = tryAt n l f (2 - x.1) x.2.1 x.2.2.1 ∧ N ≤ x.2.2.2.1 ∧ TrySt M e (σ.set N ⟨[.bool false, .bool true], true, 1⟩) x.2.2.2.2 x.2.2.1) (fun x => 2 - x.1)
    (fun x => [(0, .int .u8 f), (2, .slice (some ⟨e, 0, none⟩) n n), (3, ptr M), (4, ptr (M + 1)), (5, ptr (M + 2)), (9, .int .u64 x.2.1.toNat), (16, .slice (some ⟨N, 0, none⟩) 2 2), (17, .int .i64 2), (18, .int .i64 x.1)]) (fun x => x.2.2.2.1) (fun x => x.2.2.2.2) ?_
    (0, permuteR w n l, y, N + 1, σ.set N ⟨[.bool false, .bool true], true, 1⟩) ⟨by simp, rfl, by simp, hst0⟩) rfl rfl rfl
  rintro ⟨j, u, z, Nx, σx⟩ ⟨hj, hgo, hNx, hsx⟩ ih
  simp only at hj hgo hNx hsx
  have hneN : e ≠ N := hfr _ _ hrow
  have hMN : M ≠ N := hfr _ _ hM
  have hrx : σx e = some ⟨ints l, true, 1⟩ := hsx.keep _ _ he1 he2 (by rw [AHeap.set_ne _ _ hneN]; exact hrow)
  have hMx : σx M = some ⟨[.int .i64 n], true, 1⟩ := hsx.keep _ _ (by omega) (by omega) (by rw [AHeap.set_ne _ _ hMN]; exact hM)
  have hNb : σx N = some ⟨[.bool false, .bool true], true, 1⟩ := hsx.keep _ _ (Ne.symm hM1) (Ne.symm hM2) (AHeap.set_self _ _ _)
  by_cases hlt : j < 2
  · have hb1 : decide ((j : Int) < 2) = true := by simp; omega
    refine awp_seq (awp_pures [0, 2, 3, 4, 5, 9, 16, 17, 18, 19] (by simp only [go_sem, ↓reduceIte, Nat.reduceLT, Nat.reduceEqDiff, Nat.reduceLeDiff, Nat.reduceAdd, Nat.reduceMul, Int.reduceLT, Int.reduceLE, Int.reduceToNat, BitVec.reduceOfInt, Nat.reduceBEq, hb1]; try rfl) ?_)
    refine awp_seq ?_
    refine awp_if rfl (fun _ => ?_) (fun h => by cases h)
    refine awp_skip ?_
    have hjj : 0 ≤ (j : Int) ∧ (j : Int) < (2 : Nat) := by omega
    have hbj : [Value.bool false, Value.bool true][j]? = some (.bool (decide (1 - j = 0))) := by
      have : j = 0 ∨ j = 1 := by omega
      rcases this with rfl | rfl <;> rfl
    have hgo : tryR n f w y l = tryAt n l f ((1 - j) + 1) u z := by rw [hgo]; congr 1; omega
    simp only [tryAt] at hgo
    generalize hbb : decide (1 - j = 0) = b at hgo hbj
    refine awp_seq (awp_block ?_)
    first | refine awp_seq (awp_lit ?_) | refine awp_lit ?_ | refine awp_seq (awp_seq (awp_lit ?_))
    refine al_pureN 1 (by simp only [go_sem, ↓reduceIte, Nat.reduceLT, Nat.reduceEqDiff, Nat.reduceLeDiff, Nat.reduceAdd, Nat.reduceMul, Int.reduceLT, Int.reduceLE, Int.reduceToNat, BitVec.reduceOfInt, Nat.reduceBEq, hjj]; try rfl) ?_
    refine al_load rfl (by simp only [go_sem, ↓reduceIte, Nat.reduceLT, Nat.reduceEqDiff, Nat.reduceLeDiff, Nat.reduceAdd, Nat.reduceMul, Int.reduceLT, Int.reduceLE, Int.reduceToNat, BitVec.reduceOfInt, Nat.reduceBEq]) rfl (by simp only [go_sem, ↓reduceIte, Nat.reduceLT, Nat.reduceEqDiff, Nat.reduceLeDiff, Nat.reduceAdd, Nat.reduceMul, Int.reduceLT, Int.reduceLE, Int.reduceToNat, BitVec.reduceOfInt, Nat.reduceBEq]; try rfl) hNb (loadA_scalar agg4 hbj) ?_
    refine al_pureN 1 (by simp only [go_sem, ↓reduceIte, Nat.reduceLT, Nat.reduceEqDiff, Nat.reduceLeDiff, Nat.reduceAdd, Nat.reduceMul, Int.reduceLT, Int.reduceLE, Int.reduceToNat, BitVec.reduceOfInt, Nat.reduceBEq]; try rfl) ?_
    refine al_end [0, 2, 3, 4, 5, 9, 11, 16, 17, 18] ?_
    refine awp_mid [(0, .int .u8 f), (2, .slice (some ⟨e, 0, none⟩) n n), (3, ptr M), (4, ptr (M + 1)), (5, ptr (M + 2)), (9, .int .u64 (if b = true then u ^^^ maskT (lim n) else u).toNat), (11, .bool b), (16, .slice (some ⟨N, 0, none⟩) 2 2), (17, .int .i64 2), (18, .int .i64 j)] Nx σx ?_ ?_
    · refine awp_seq (awp_pures [0, 2, 3, 4, 5, 9, 11, 16, 17, 18, 22] (by simp only [go_sem, ↓reduceIte, Nat.reduceLT, Nat.reduceEqDiff, Nat.reduceLeDiff, Nat.reduceAdd, Nat.reduceMul, Int.reduceLT, Int.reduceLE, Int.reduceToNat, BitVec.reduceOfInt, Nat.reduceBEq]; try rfl) ?_)
      cases b with
      | true =>
        refine awp_if rfl (fun _ => ?_) (fun h => by cases h)
        refine awp_lit ?_
        refine al_pureN 1 (by simp only [go_sem, ↓reduceIte, Nat.reduceLT, Nat.reduceEqDiff, Nat.reduceLeDiff, Nat.reduceAdd, Nat.reduceMul, Int.reduceLT, Int.reduceLE, Int.reduceToNat, BitVec.reduceOfInt, Nat.reduceBEq]; try rfl) ?_
        refine al_load rfl (by simp only [go_sem, ↓reduceIte, Nat.reduceLT, Nat.reduceEqDiff, Nat.reduceLeDiff, Nat.reduceAdd, Nat.reduceMul, Int.reduceLT, Int.reduceLE, Int.reduceToNat, BitVec.reduceOfInt, Nat.reduceBEq]) rfl (by simp only [go_sem, ↓reduceIte, Nat.reduceLT, Nat.reduceEqDiff, Nat.reduceLeDiff, Nat.reduceAdd, Nat.reduceMul, Int.reduceLT, Int.reduceLE, Int.reduceToNat, BitVec.reduceOfInt, Nat.reduceBEq]; try rfl) hMx (loadA_scalar agg3 rfl) ?_
        refine al_gives (vs := ?vs2) (v := ?v2) rfl ?ha2 ?hh2 (by kernel_rfl) rfl (by simp only [go_sem, ↓reduceIte, Nat.reduceLT, Nat.reduceEqDiff, Nat.reduceLeDiff, Nat.reduceAdd, Nat.reduceMul, Int.reduceLT, Int.reduceLE, Int.reduceToNat, BitVec.reduceOfInt, Nat.reduceBEq]) ?kk2
        case ha2 => simp only [go_sem, ↓reduceIte, Nat.reduceLT, Nat.reduceEqDiff, Nat.reduceLeDiff, Nat.reduceAdd, Nat.reduceMul, Int.reduceLT, Int.reduceLE, Int.reduceToNat, BitVec.reduceOfInt, Nat.reduceBEq]; try rfl
        case hh2 => exact Mask_gives _ _ _
        refine al_pureN 2 (by simp only [go_sem, ↓reduceIte, Nat.reduceLT, Nat.reduceEqDiff, Nat.reduceLeDiff, Nat.reduceAdd, Nat.reduceMul, Int.reduceLT, Int.reduceLE, Int.reduceToNat, BitVec.reduceOfInt, Nat.reduceBEq]; try rfl) ?_
        refine al_end [0, 2, 3, 4, 5, 9, 11, 16, 17, 18] ?_
        exact meets [0, 2, 3, 4, 5, 9, 11, 16, 17, 18] rfl (AHeap.le_refl _)
      | false =>
        refine awp_if rfl (fun h => by cases h) (fun _ => ?_)
        refine awp_skip ?_
        exact meets [0, 2, 3, 4, 5, 9, 11, 16, 17, 18] rfl (AHeap.le_refl _)
    generalize (if b = true then u ^^^ maskT (lim n) else u) = u1 at hgo ⊢
    have hlt8 : (u1 < z.1) ∨ ¬ (u1 < z.1) := Classical.em _
    rcases hlt8 with hlt8 | hlt8
    · have hb8 : decide (u1 < z.1) = true := by simpa using hlt8
      rw [if_pos hlt8] at hgo
      first | refine awp_seq (awp_lit ?_) | refine awp_lit ?_ | refine awp_seq (awp_seq (awp_lit ?_))
      refine al_pureN 1 (by simp only [go_sem, ↓reduceIte, Nat.reduceLT, Nat.reduceEqDiff, Nat.reduceLeDiff, Nat.reduceAdd, Nat.reduceMul, Int.reduceLT, Int.reduceLE, Int.reduceToNat, BitVec.reduceOfInt, Nat.reduceBEq]; try rfl) ?_
      refine al_load rfl (by simp only [go_sem, ↓reduceIte, Nat.reduceLT, Nat.reduceEqDiff, Nat.reduceLeDiff, Nat.reduceAdd, Nat.reduceMul, Int.reduceLT, Int.reduceLE, Int.reduceToNat, BitVec.reduceOfInt, Nat.reduceBEq]) rfl (by simp only [go_sem, ↓reduceIte, Nat.reduceLT, Nat.reduceEqDiff, Nat.reduceLeDiff, Nat.reduceAdd, Nat.reduceMul, Int.reduceLT, Int.reduceLE, Int.reduceToNat, BitVec.reduceOfInt, Nat.reduceBEq]; try rfl) hsx.rep (loadA_scalar agg22 rfl) ?_
      refine al_pureN 1 (by simp only [go_sem, ↓reduceIte, Nat.reduceLT, Nat.reduceEqDiff, Nat.reduceLeDiff, Nat.reduceAdd, Nat.reduceMul, Int.reduceLT, Int.reduceLE, Int.reduceToNat, BitVec.reduceOfInt, Nat.reduceBEq, u64_lss, hb8]; try rfl) ?_
      refine al_end [0, 2, 3, 4, 5, 9, 11, 16, 17, 18, 29] ?_
      refine awp_if rfl (fun _ => ?_) (fun h => by cases h)
      have hslx : SlAt σx (.slice (some ⟨e, 0, none⟩) n n) (ints l) := .inr ⟨e, 0, n, _, by simp [ints, hll], hrx, fun j x hx => by simpa using hx⟩
      first | refine awp_seq (awp_lit ?_) | refine awp_lit ?_ | refine awp_seq (awp_seq (awp_lit ?_))
      refine al_fresh fun hFx => ?_
      refine al_pureN 2 (by simp only [go_sem, ↓reduceIte, Nat.reduceLT, Nat.reduceEqDiff, Nat.reduceLeDiff, Nat.reduceAdd, Nat.reduceMul, Int.reduceLT, Int.reduceLE, Int.reduceToNat, BitVec.reduceOfInt, Nat.reduceBEq]; try rfl) ?_
      refine al_fun (Clone_ok l (by omega) _ Nx σx hslx) rfl (by simp only [go_sem, ↓reduceIte, Nat.reduceLT, Nat.reduceEqDiff, Nat.reduceLeDiff, Nat.reduceAdd, Nat.reduceMul, Int.reduceLT, Int.reduceLE, Int.reduceToNat, BitVec.reduceOfInt, Nat.reduceBEq]; try rfl) (by kernel_rfl) rfl (by simp only [go_sem, ↓reduceIte, Nat.reduceLT, Nat.reduceEqDiff, Nat.reduceLeDiff, Nat.reduceAdd, Nat.reduceMul, Int.reduceLT, Int.reduceLE, Int.reduceToNat, BitVec.reduceOfInt, Nat.reduceBEq]; try rfl) ?_
      rintro v N' σ' ⟨hv, hN', hle⟩
      obtain ⟨bb, cc, rfl⟩ := hv.slAt.len
      refine al_pureN 2 (by simp only [go_sem, ↓reduceIte, Nat.reduceLT, Nat.reduceEqDiff, Nat.reduceLeDiff, Nat.reduceAdd, Nat.reduceMul, Int.reduceLT, Int.reduceLE, Int.reduceToNat, BitVec.reduceOfInt, Nat.reduceBEq]; try rfl) ?_
      refine al_build_struct (ps := [(0, .slice bb (ints l).length cc), (1, .int .u8 f), (2, .bool b)]) rfl (by simp only [go_sem, ↓reduceIte, Nat.reduceLT, Nat.reduceEqDiff, Nat.reduceLeDiff, Nat.reduceAdd, Nat.reduceMul, Int.reduceLT, Int.reduceLE, Int.reduceToNat, BitVec.reduceOfInt, Nat.reduceBEq]; try rfl) (by decide) Try.underlying25 ty25 rfl (pl := [(0, 1), (1, 1), (2, 1)]) (by kernel_rfl) (by simp only [go_sem, ↓reduceIte, Nat.reduceLT, Nat.reduceEqDiff, Nat.reduceLeDiff, Nat.reduceAdd, Nat.reduceMul, Int.reduceLT, Int.reduceLE, Int.reduceToNat, BitVec.reduceOfInt, Nat.reduceBEq]; try rfl) rfl ?_
      have hs' := hsx.le hle
      refine al_store1 rfl (by simp only [go_sem, ↓reduceIte, Nat.reduceLT, Nat.reduceEqDiff, Nat.reduceLeDiff, Nat.reduceAdd, Nat.reduceMul, Int.reduceLT, Int.reduceLE, Int.reduceToNat, BitVec.reduceOfInt, Nat.reduceBEq]; try rfl) rfl (by simp only [go_sem, ↓reduceIte, Nat.reduceLT, Nat.reduceEqDiff, Nat.reduceLeDiff, Nat.reduceAdd, Nat.reduceMul, Int.reduceLT, Int.reduceLE, Int.reduceToNat, BitVec.reduceOfInt, Nat.reduceBEq]; try rfl) (by simp only [go_sem, ↓reduceIte, Nat.reduceLT, Nat.reduceEqDiff, Nat.reduceLeDiff, Nat.reduceAdd, Nat.reduceMul, Int.reduceLT, Int.reduceLE, Int.reduceToNat, BitVec.reduceOfInt, Nat.reduceBEq]; try rfl) hs'.rep rfl size22' rfl rfl (by exact Nat.one_pos) ?_
      obtain ⟨sv0, htr, _⟩ := hs'.tr
      refine al_store (v := .agg #[.slice bb (ints l).length cc, .int .u8 f, .bool b]) rfl (by simp only [go_sem, ↓reduceIte, Nat.reduceLT, Nat.reduceEqDiff, Nat.reduceLeDiff, Nat.reduceAdd, Nat.reduceMul, Int.reduceLT, Int.reduceLE, Int.reduceToNat, BitVec.reduceOfInt, Nat.reduceBEq]; try rfl) rfl (by simp only [go_sem, ↓reduceIte, Nat.reduceLT, Nat.reduceEqDiff, Nat.reduceLeDiff, Nat.reduceAdd, Nat.reduceMul, Int.reduceLT, Int.reduceLE, Int.reduceToNat, BitVec.reduceOfInt, Nat.reduceBEq]; try rfl) (by simp only [go_sem, ↓reduceIte, Nat.reduceLT, Nat.reduceEqDiff, Nat.reduceLeDiff, Nat.reduceAdd, Nat.reduceMul, Int.reduceLT, Int.reduceLE, Int.reduceToNat, BitVec.reduceOfInt, Nat.reduceBEq]; try rfl) (by rw [AHeap.set_ne _ _ (by omega)]; exact htr) rfl size25 rfl (by exact Nat.le_refl 3) ?_
      refine al_end [0, 2, 3, 4, 5, 9, 16, 17, 18] ?_
      refine awp_pures [0, 2, 3, 4, 5, 9, 16, 17, 18] (by simp only [go_sem, ↓reduceIte, Nat.reduceLT, Nat.reduceEqDiff, Nat.reduceLeDiff, Nat.reduceAdd, Nat.reduceMul, Int.reduceLT, Int.reduceLE, Int.reduceToNat, BitVec.reduceOfInt, Nat.reduceBEq, i64_add (show -9223372036854775808 ≤ (j : Int) + 1 ∧ (j : Int) + 1 ≤ 9223372036854775807 by omega)]; try rfl) ?_
      have hrepx := hFx _ _ hsx.rep
      have htrx : M + 2 < Nx := by obtain ⟨_, h, _⟩ := hsx.tr; exact hFx _ _ h
      have hex := hFx _ _ hrx
      refine (ih (j + 1, u1, (u1, l, f, b), N', (σ'.set (M + 1) ⟨[.int .u64 u1.toNat], true, 1⟩).set (M + 2) ⟨[.slice bb (ints l).length cc, .int .u8 f, .bool b], true, 1⟩) ⟨hlt, by rw [hgo]; congr 1; omega, by simp; omega, hs'.put (y' := (u1, l, f, b)) (hv.mono fun i b hi hb => ⟨by omega, hi⟩)⟩ (by simp; omega)).cast (by first | (simp only [go_sem, ↓reduceIte, Nat.reduceLT, Nat.reduceEqDiff, Nat.reduceLeDiff, Nat.reduceAdd, Nat.reduceMul, Int.reduceLT, Int.reduceLE, Int.reduceToNat, BitVec.reduceOfInt, Nat.reduceBEq]; try rfl) | rfl)
    · have hb8 : decide (u1 < z.1) = false := by simpa using hlt8
      rw [if_neg hlt8] at hgo
      first | refine awp_seq (awp_lit ?_) | refine awp_lit ?_ | refine awp_seq (awp_seq (awp_lit ?_))
      refine al_pureN 1 (by simp only [go_sem, ↓reduceIte, Nat.reduceLT, Nat.reduceEqDiff, Nat.reduceLeDiff, Nat.reduceAdd, Nat.reduceMul, Int.reduceLT, Int.reduceLE, Int.reduceToNat, BitVec.reduceOfInt, Nat.reduceBEq]; try rfl) ?_
      refine al_load rfl (by simp only [go_sem, ↓reduceIte, Nat.reduceLT, Nat.reduceEqDiff, Nat.reduceLeDiff, Nat.reduceAdd, Nat.reduceMul, Int.reduceLT, Int.reduceLE, Int.reduceToNat, BitVec.reduceOfInt, Nat.reduceBEq]) rfl (by simp only [go_sem, ↓reduceIte, Nat.reduceLT, Nat.reduceEqDiff, Nat.reduceLeDiff, Nat.reduceAdd, Nat.reduceMul, Int.reduceLT, Int.reduceLE, Int.reduceToNat, BitVec.reduceOfInt, Nat.reduceBEq]; try rfl) hsx.rep (loadA_scalar agg22 rfl) ?_
      refine al_pureN 1 (by simp only [go_sem, ↓reduceIte, Nat.reduceLT, Nat.reduceEqDiff, Nat.reduceLeDiff, Nat.reduceAdd, Nat.reduceMul, Int.reduceLT, Int.reduceLE, Int.reduceToNat, BitVec.reduceOfInt, Nat.reduceBEq, u64_lss, hb8]; try rfl) ?_
      refine al_end [0, 2, 3, 4, 5, 9, 11, 16, 17, 18, 29] ?_
      refine awp_if rfl (fun h => by cases h) (fun _ => ?_)
      refine awp_skip ?_
      refine awp_pures [0, 2, 3, 4, 5, 9, 16, 17, 18] (by simp only [go_sem, ↓reduceIte, Nat.reduceLT, Nat.reduceEqDiff, Nat.reduceLeDiff, Nat.reduceAdd, Nat.reduceMul, Int.reduceLT, Int.reduceLE, Int.reduceToNat, BitVec.reduceOfInt, Nat.reduceBEq, i64_add (show -9223372036854775808 ≤ (j : Int) + 1 ∧ (j : Int) + 1 ≤ 9223372036854775807 by omega)]; try rfl) ?_
      refine (ih (j + 1, u1, z, Nx, σx) ⟨hlt, by rw [hgo]; congr 1; omega, hNx, hsx⟩ (by simp; omega)).cast (by first | (simp only [go_sem, ↓reduceIte, Nat.reduceLT, Nat.reduceEqDiff, Nat.reduceLeDiff, Nat.reduceAdd, Nat.reduceMul, Int.reduceLT, Int.reduceLE, Int.reduceToNat, BitVec.reduceOfInt, Nat.reduceBEq]; try rfl) | rfl)
  · have hb1 : decide ((j : Int) < 2) = false := by simp; omega
    have hj2 : j = 2 := by omega
    refine awp_seq (awp_pures [0, 19] (by simp only [go_sem, ↓reduceIte, Nat.reduceLT, Nat.reduceEqDiff, Nat.reduceLeDiff, Nat.reduceAdd, Nat.reduceMul, Int.reduceLT, Int.reduceLE, Int.reduceToNat, BitVec.reduceOfInt, Nat.reduceBEq, hb1]; try rfl) ?_)
    refine awp_seq ?_
    refine awp_if rfl (fun h => by cases h) (fun _ => ?_)
    refine awp_exit ?_
    simp only [Go.Abs.Seq, Go.Abs.Round, Go.Abs.InBlock, ↓reduceIte]
    subst hj2
    rw [Nat.sub_self, tryAt] at hgo
    exact ⟨_, rfl, by omega, by rw [hgo]; exact ⟨hsx.rep, hsx.tr, fun i b h1 h2 hi => hsx.keep i b h1 h2 (by rw [AHeap.set_ne _ _ (hfr _ _ hi)]; exact hi)⟩⟩
end Go.Proofs.Ytbpjoamdcbbnnaa
