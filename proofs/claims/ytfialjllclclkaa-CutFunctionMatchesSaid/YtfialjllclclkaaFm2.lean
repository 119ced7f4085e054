/- Joined texts of the layer and of the walks. -/
import Derived.Test.YtfialjllclclkaaFmSteps
import Derived.Test.YtfialjllclclkaaProg
import Derived.Test.YtfialjllclclkaaFm1
import Derived.KernelRfl
import Derived.Test.YtfialjllclclkaaFmOwn
import Derived.Test.YtfialjllclclkaaFmQuiet2
import Derived.Test.YtfialjllclclkaaFmArgs2
import Derived.Test.YtfialjllclclkaaFmWr
import Derived.Test.YtfialjllclclkaaFmLoop
set_option linter.unusedSimpArgs false
set_option linter.unusedVariables false
namespace Go.Proofs.Ytfialjllclclkaa
open Go.Abs Go.Cut
theorem size3 : sizeA Try.prog 3 = some 1 := by kernel_rfl
theorem agg3 : aggA Try.prog 3 = some none := by kernel_rfl
theorem ty3 : TyI Try.prog 3 (.int .i64 0) 1 8 := .of (by kernel_rfl)
theorem size5 : sizeA Try.prog 5 = some 1 := by kernel_rfl
theorem agg5 : aggA Try.prog 5 = some none := by kernel_rfl
theorem size43 : sizeA Try.prog 43 = some 1 := by kernel_rfl
theorem agg43 : aggA Try.prog 43 = some none := by kernel_rfl
theorem ty43 : TyI Try.prog 43 (.int .i64 0) 1 8 := .of (by kernel_rfl)
theorem size4 : sizeA Try.prog 4 = some 1 := by kernel_rfl
theorem agg4 : aggA Try.prog 4 = some none := by kernel_rfl
theorem ty4 : TyI Try.prog 4 (.bool false) 1 1 := .of (by kernel_rfl)
theorem size37 : sizeA Try.prog 37 = some 1 := by kernel_rfl
theorem agg37 : aggA Try.prog 37 = some none := by kernel_rfl
theorem ty37 : TyI Try.prog 37 (.int .u64 0) 1 8 := .of (by kernel_rfl)
theorem size30 : sizeA Try.prog 30 = some 1 := by kernel_rfl
theorem size22 : sizeA Try.prog 22 = some 1 := by kernel_rfl
theorem agg22 : aggA Try.prog 22 = some none := by kernel_rfl
theorem size23 : sizeA Try.prog 23 = some 1 := by kernel_rfl
theorem agg23 : aggA Try.prog 23 = some none := by kernel_rfl
theorem size24 : sizeA Try.prog 24 = some 1 := by kernel_rfl
theorem agg24 : aggA Try.prog 24 = some none := by kernel_rfl
theorem size35 : sizeA Try.prog 35 = some 1 := by kernel_rfl
theorem agg35 : aggA Try.prog 35 = some none := by kernel_rfl
theorem ty35 : TyI Try.prog 35 (.slice none 0 0) 1 24 := .of (by kernel_rfl)
theorem size45 : sizeA Try.prog 45 = some 2 := by kernel_rfl
theorem agg45 : aggA Try.prog 45 = some (some 2) := by kernel_rfl
theorem ty45 : TyI Try.prog 45 (.agg #[.int .i64 0, .int .u8 0]) 2 16 := .of (by kernel_rfl)
theorem size47 : sizeA Try.prog 47 = some 2 := by kernel_rfl
theorem agg47 : aggA Try.prog 47 = some (some 2) := by kernel_rfl
theorem ty47 : TyI Try.prog 47 (.agg #[.int .i64 0, .int .i64 0]) 2 16 := .of (by kernel_rfl)
theorem size26 : sizeA Try.prog 26 = some 4 := by kernel_rfl
theorem agg26 : aggA Try.prog 26 = some (some 4) := by kernel_rfl
theorem size66 : sizeA Try.prog 66 = some 5 := by kernel_rfl
theorem agg66 : aggA Try.prog 66 = some (some 5) := by kernel_rfl
theorem ty66 : TyI Try.prog 66 (.agg #[.int .i64 0, .slice none 0 0, .slice none 0 0, .slice none 0 0, .int .i64 0]) 5 88 := .of (by kernel_rfl)
theorem size69 : sizeA Try.prog 69 = some 2 := by kernel_rfl
theorem agg69 : aggA Try.prog 69 = some (some 2) := by kernel_rfl
theorem ty69 : TyI Try.prog 69 (.agg #[.int .i64 0, .int .i64 0]) 2 16 := .of (by kernel_rfl)
end Go.Proofs.Ytfialjllclclkaa

set_option linter.unusedSimpArgs false
set_option linter.unusedVariables false
namespace Go.Proofs.Ytfialjllclclkaa
open Go.Abs Go.Cut
attribute [local go_sem] Try.underlying26 Try.underlying3 Try.underlying22 Try.underlying23 Try.underlying24 Try.underlying43 Try.underlying45 Try.underlying47 Try.underlying5 Try.underlying4 Try.underlying30 size26 size3 size22 size23 size24 size43 size45 size47 size5 size4 size30 Nat.mul_one
open Nat renaming reduceLT → xa, reduceEqDiff → xb, reduceLeDiff → xc, reduceAdd → xd, reduceMul → xe, reduceBEq → xj, add_assoc → ya, add_left_cancel_iff → yb, add_right_cancel_iff → yc, left_eq_add → yd, add_eq_left → ye, add_eq_right → yf, right_eq_add → yg, succ_ne_zero → yh
open Int renaming reduceLT → xf, reduceLE → xg, reduceToNat → xh
open BitVec renaming reduceOfInt → xi
theorem pairs_length (k0 k1 : IntKind) (l : List (Int × Int)) : (pairsV k0 k1 l).length = l.length := by simp [pairsV]
theorem first_gives {g : AigD} {v : Value} {N : Nat} {σ : AHeap} (hv : AigAt σ v g) (hf : Few g) (h1 : -1000000 ≤ g.inp) (h2 : g.inp ≤ 1000000) : Gives Try.prog 51 [v] N σ (.int .i64 (firstC g)) := by
  obtain ⟨lv, av, ov, rfl, hl, ha, ho⟩ := hv
  obtain ⟨lb, lc, rfl⟩ := hl.len
  have hls := hf.ls
  refine gives_of rfl (aok_fresh fun hN => aok_body (r := false) (n := 10) Try.func51 rfl rfl (by simp) ?_)
  have e1 : -9223372036854775808 ≤ 1 + g.inp ∧ 1 + g.inp ≤ 9223372036854775807 := by omega
  have e2 : -9223372036854775808 ≤ 1 + g.inp + ((pairsV .i64 .u8 g.ls).length : Int) ∧ 1 + g.inp + ((pairsV .i64 .u8 g.ls).length : Int) ≤ 9223372036854775807 := by rw [pairs_length]; omega
  first | refine awp_seq (awp_lit ?_) | refine awp_lit ?_ | refine awp_seq (awp_seq (awp_lit ?_))
  refine al_box 1 rfl rfl rfl (by simp only [go_sem, ↓reduceIte, xa, xb, xc, xd, xe, xf, xg, xh, xi, xj]; try rfl) ?_
  refine al_pureN 1 (by simp only [go_sem, ↓reduceIte, xa, xb, xc, xd, xe, xf, xg, xh, xi, xj]; try rfl) ?_
  refine al_end [1] ?_
  first | refine awp_seq (awp_lit ?_) | refine awp_lit ?_ | refine awp_seq (awp_seq (awp_lit ?_))
  refine al_pureN 1 (by simp only [go_sem, ↓reduceIte, xa, xb, xc, xd, xe, xf, xg, xh, xi, xj, i64_add e1, i64_add e2]; try rfl) ?_
  refine al_load rfl (by simp only [go_sem, ↓reduceIte, xa, xb, xc, xd, xe, xf, xg, xh, xi, xj, i64_add e1, i64_add e2]) rfl (by simp only [go_sem, ↓reduceIte, xa, xb, xc, xd, xe, xf, xg, xh, xi, xj, i64_add e1, i64_add e2]; try rfl) (by first | exact AHeap.set_self _ _ _ | (simp only [AHeap.set, ↓reduceIte, ya, xd, yb, yc, yd, ye, yf, yg, xb, yh, i64_add e1, i64_add e2]; rfl) | assumption) (by first | exact loadA_scalar agg3 rfl | exact loadA_agg agg3 rfl | exact loadA_scalar agg3 (by assumption)) ?_
  refine al_pureN 2 (by simp only [go_sem, ↓reduceIte, xa, xb, xc, xd, xe, xf, xg, xh, xi, xj, i64_add e1, i64_add e2]; try rfl) ?_
  refine al_load rfl (by simp only [go_sem, ↓reduceIte, xa, xb, xc, xd, xe, xf, xg, xh, xi, xj, i64_add e1, i64_add e2]) rfl (by simp only [go_sem, ↓reduceIte, xa, xb, xc, xd, xe, xf, xg, xh, xi, xj, i64_add e1, i64_add e2]; try rfl) (by first | exact AHeap.set_self _ _ _ | (simp only [AHeap.set, ↓reduceIte, ya, xd, yb, yc, yd, ye, yf, yg, xb, yh, i64_add e1, i64_add e2]; rfl) | assumption) (by first | exact loadA_scalar agg22 rfl | exact loadA_agg agg22 rfl | exact loadA_scalar agg22 (by assumption)) ?_
  refine al_pureN 3 (by simp only [go_sem, ↓reduceIte, xa, xb, xc, xd, xe, xf, xg, xh, xi, xj, i64_add e1, i64_add e2]; try rfl) ?_
  refine al_end [2] ?_
  refine awp_ret ⟨_, rfl, ?_, AHeap.le_set (AHeap.le_refl _) fun i b hb => Nat.ne_of_lt (hN i b hb)⟩
  rw [pairs_length]; rfl
theorem AigAt.qv {σ : AHeap} {N : Nat} (hN : ∀ i b, σ i = some b → i < N) {v : Value} {g : AigD} (h : AigAt σ v g) : AigAt (qv N σ) v g := by
  obtain ⟨lv, av, ov, h1, h2, h3, h4⟩ := h
  exact ⟨lv, av, ov, h1, h2.qv hN, h3.qv hN, h4.qv hN⟩
theorem size_gives {g : AigD} {v : Value} {N : Nat} {σ : AHeap} (hv : AigAt σ v g) (hf : Few g) (h1 : -1000000 ≤ g.inp) (h2 : g.inp ≤ 1000000) : Gives Try.prog 49 [v] N σ (.int .i64 (sizeC g)) := by
  have hv0 := hv
  obtain ⟨lv, av, ov, rfl, hl, ha, ho⟩ := hv
  obtain ⟨ab, ac, rfl⟩ := ha.len
  have hls := hf.ls
  have has := hf.as
  refine gives_of rfl (aok_fresh fun hN => aok_body (r := false) (n := 9) Try.func49 rfl rfl (by simp) ?_)
  have e1 : -9223372036854775808 ≤ firstC g + ((pairsV .i64 .i64 g.as).length : Int) ∧ firstC g + ((pairsV .i64 .i64 g.as).length : Int) ≤ 9223372036854775807 := by rw [pairs_length]; unfold firstC; omega
  first | refine awp_seq (awp_lit ?_) | refine awp_lit ?_ | refine awp_seq (awp_seq (awp_lit ?_))
  refine al_box 1 rfl rfl rfl (by simp only [go_sem, ↓reduceIte, xa, xb, xc, xd, xe, xf, xg, xh, xi, xj]; try rfl) ?_
  refine al_pureN 1 (by simp only [go_sem, ↓reduceIte, xa, xb, xc, xd, xe, xf, xg, xh, xi, xj]; try rfl) ?_
  refine al_end [1] ?_
  have hle : σ.le (σ.set N ⟨spread (.agg #[.int .i64 g.inp, lv, .slice ab (pairsV .i64 .i64 g.as).length ac, ov]), true, 1⟩) := AHeap.le_set (AHeap.le_refl _) fun i b hb => Nat.ne_of_lt (hN i b hb)
  refine awp_seq (awp_quiet [2] (by kernel_rfl) fun hNq => ?_)
  refine tq_load hNq rfl (by simp only [go_sem, ↓reduceIte, xa, xb, xc, xd, xe, xf, xg, xh, xi, xj, i64_add e1]; try rfl) rfl (by simp only [go_sem, ↓reduceIte, xa, xb, xc, xd, xe, xf, xg, xh, xi, xj, i64_add e1]; try rfl) (by first | exact AHeap.set_self _ _ _ | (simp only [AHeap.set, ↓reduceIte, ya, xd, yb, yc, yd, ye, yf, yg, xb, yh, i64_add e1]; rfl) | assumption) ⟨_, rfl⟩ (by first | exact loadA_scalar agg26 rfl | exact loadA_agg agg26 rfl | exact loadA_scalar agg26 (by assumption)) ?_
  refine tq_gives rfl (by simp only [go_sem, ↓reduceIte, xa, xb, xc, xd, xe, xf, xg, xh, xi, xj, i64_add e1]; try rfl) (fun m => first_gives (AigAt.qv hNq (hv0.mono hle)) hf h1 h2) (by kernel_rfl) rfl (by simp only [go_sem, ↓reduceIte, xa, xb, xc, xd, xe, xf, xg, xh, xi, xj, i64_add e1]) ?_
  refine tq_pures 1 (by simp only [go_sem, ↓reduceIte, xa, xb, xc, xd, xe, xf, xg, xh, xi, xj, i64_add e1]; try rfl) ?_
  refine tq_load hNq rfl (by simp only [go_sem, ↓reduceIte, xa, xb, xc, xd, xe, xf, xg, xh, xi, xj, i64_add e1]; try rfl) rfl (by simp only [go_sem, ↓reduceIte, xa, xb, xc, xd, xe, xf, xg, xh, xi, xj, i64_add e1]; try rfl) (by first | exact AHeap.set_self _ _ _ | (simp only [AHeap.set, ↓reduceIte, ya, xd, yb, yc, yd, ye, yf, yg, xb, yh, i64_add e1]; rfl) | assumption) ⟨_, rfl⟩ (by first | exact loadA_scalar agg23 rfl | exact loadA_agg agg23 rfl | exact loadA_scalar agg23 (by assumption)) ?_
  refine tq_pures 3 (by simp only [go_sem, ↓reduceIte, xa, xb, xc, xd, xe, xf, xg, xh, xi, xj, i64_add e1]; try rfl) ?_
  refine tq_end ?_
  refine awp_ret ⟨_, rfl, ?_, hle⟩
  rw [pairs_length]; rfl
theorem within_gives (x n : Int) (h1 : -1000000 ≤ n) (h2 : n ≤ 1000000) (N : Nat) (σ : AHeap) : Gives Try.prog 50 [.int .i64 x, .int .i64 n] N σ (.bool (inR x n)) := by
  refine gives_of rfl (aok_body (r := false) (n := 13) Try.func50 rfl rfl (by simp) ?_)
  have e1 : intA .mul .i64 2 n = some (.int .i64 (2 * n)) := by simp only [intA]; rw [IntWalk.i64_in _ (by omega)]
  refine awp_seq (awp_pures [0, 1] (by simp only [go_sem, ↓reduceIte, xa, xb, xc, xd, xe, xf, xg, xh, xi, xj]; try rfl) ?_)
  by_cases h0 : 0 ≤ x
  · have hb : decide (0 ≤ x) = true := by simpa using h0
    refine awp_seq (awp_pures [4] (by simp only [go_sem, ↓reduceIte, xa, xb, xc, xd, xe, xf, xg, xh, xi, xj, hb, ge_iff_le, e1]; try rfl) ?_)
    refine awp_ret ⟨_, rfl, ?_, AHeap.le_refl _⟩
    simp [inR, h0]
  · have hb : decide (0 ≤ x) = false := by simpa using h0
    refine awp_seq (awp_pures [4] (by simp only [go_sem, ↓reduceIte, xa, xb, xc, xd, xe, xf, xg, xh, xi, xj, hb, ge_iff_le, e1]; try rfl) ?_)
    refine awp_ret ⟨_, rfl, ?_, AHeap.le_refl _⟩
    simp [inR, h0]
end Go.Proofs.Ytfialjllclclkaa

set_option linter.unusedSimpArgs false
set_option linter.unusedVariables false
namespace Go.Proofs.Ytfialjllclclkaa
open Go.Abs Go.Cut
attribute [local go_sem] Try.underlying26 Try.underlying3 Try.underlying22 Try.underlying23 Try.underlying24 Try.underlying43 Try.underlying45 Try.underlying47 Try.underlying5 Try.underlying4 Try.underlying30 size26 size3 size22 size23 size24 size43 size45 size47 size5 size4 size30 Nat.mul_one
open Nat renaming reduceLT → xa, reduceEqDiff → xb, reduceLeDiff → xc, reduceAdd → xd, reduceMul → xe, reduceBEq → xj, add_assoc → ya, add_left_cancel_iff → yb, add_right_cancel_iff → yc, left_eq_add → yd, add_eq_left → ye, add_eq_right → yf, right_eq_add → yg, succ_ne_zero → yh
open Int renaming reduceLT → xf, reduceLE → xg, reduceToNat → xh
open BitVec renaming reduceOfInt → xi
theorem u8_gtr (x y : Int) : intA .gtr .u8 x y = some (.bool (decide (x > y))) := rfl
theorem rowsAt_pair {σ : AHeap} {k0 k1 : IntKind} {v : Value} {l : List (Int × Int)} (h : RowsAt σ 2 v (pairsV k0 k1 l)) {j : Nat} (hj : j < l.length) :
    ∃ id off cap b, v = .slice (some ⟨id, off, none⟩) l.length cap ∧ σ id = some b ∧ cellsA b (off + j * 2) 2 = some [.int k0 l[j].1, .int k1 l[j].2] ∧ b.esz = .n 2 := by
  obtain ⟨id, off, cap, b, h1, h2, h3, h4⟩ := h.at (j := j) (by rw [pairs_length]; exact hj)
  rw [pairs_length] at h1
  exact ⟨id, off, cap, b, h1, h2, by simpa [pairsV, pairV] using h3, h4⟩
theorem slAt_int {σ : AHeap} {v : Value} {l : List Int} (h : SlAt σ v (ints l)) {j : Nat} (hj : j < l.length) :
    ∃ id off cap b, v = .slice (some ⟨id, off, none⟩) l.length cap ∧ σ id = some b ∧ b.cells[off + j]? = some (.int .i64 l[j]) ∧ b.esz = .n 1 := by
  obtain ⟨id, off, cap, b, h1, h2, h3, h4⟩ := h.at (j := j) (by simpa [ints] using hj)
  exact ⟨id, off, cap, b, by simpa [ints] using h1, h2, by simpa [ints] using h3, h4⟩
theorem Check_gives {g : AigD} {v : Value} {N : Nat} {σ : AHeap} (hv : AigAt σ v g) (hf : Few g) : Gives Try.prog 29 [v] N σ (.int .i64 (chkE g)) := by
  have hv0 := hv
  obtain ⟨lb, lc, ab, ac, ob, oc, rfl, hl, ha, ho⟩ := hv.opn
  have hls := hf.ls
  have has := hf.as
  have hos := hf.os
  refine gives_of rfl (aok_fresh fun hN => aok_body (r := false) (n := 91) Try.func29 rfl rfl (by simp) ?_)
  first | refine awp_seq (awp_lit ?_) | refine awp_lit ?_ | refine awp_seq (awp_seq (awp_lit ?_))
  refine al_box 1 rfl rfl rfl (by simp only [go_sem, ↓reduceIte, xa, xb, xc, xd, xe, xf, xg, xh, xi, xj]; try rfl) ?_
  refine al_pureN 1 (by simp only [go_sem, ↓reduceIte, xa, xb, xc, xd, xe, xf, xg, xh, xi, xj]; try rfl) ?_
  refine al_end [1] ?_
  have hle : σ.le (σ.set N ⟨spread (.agg #[.int .i64 g.inp, .slice lb g.ls.length lc, .slice ab g.as.length ac, .slice ob g.os.length oc]), true, 1⟩) := AHeap.le_set (AHeap.le_refl _) fun i b hb => Nat.ne_of_lt (hN i b hb)
  refine awp_seq (awp_block ?_)
  by_cases h0 : g.inp < 0
  · have hb : decide (g.inp < 0) = true := by simpa using h0
    first | refine awp_seq (awp_lit ?_) | refine awp_lit ?_ | refine awp_seq (awp_seq (awp_lit ?_))
    refine al_pureN 1 (by simp only [go_sem, ↓reduceIte, xa, xb, xc, xd, xe, xf, xg, xh, xi, xj, hb]; try rfl) ?_
    refine al_load rfl (by simp only [go_sem, ↓reduceIte, xa, xb, xc, xd, xe, xf, xg, xh, xi, xj, hb]) rfl (by simp only [go_sem, ↓reduceIte, xa, xb, xc, xd, xe, xf, xg, xh, xi, xj, hb]; try rfl) (by first | exact AHeap.set_self _ _ _ | (simp only [AHeap.set, ↓reduceIte, ya, xd, yb, yc, yd, ye, yf, yg, xb, yh, hb]; rfl) | assumption) (by first | exact loadA_scalar agg3 rfl | exact loadA_agg agg3 rfl | exact loadA_scalar agg3 (by assumption)) ?_
    refine al_pureN 2 (by simp only [go_sem, ↓reduceIte, xa, xb, xc, xd, xe, xf, xg, xh, xi, xj, hb]; try rfl) ?_
    refine al_end [1, 11] ?_
    refine awp_if rfl (fun _ => ?_) (fun h => by cases h)
    refine awp_seq (awp_pures [2] (by simp only [go_sem, ↓reduceIte, xa, xb, xc, xd, xe, xf, xg, xh, xi, xj]; try rfl) ?_)
    refine awp_ret ⟨_, rfl, ?_, hle⟩
    simp [chkE, h0]
  · have hb : decide (g.inp < 0) = false := by simpa using h0
    first | refine awp_seq (awp_lit ?_) | refine awp_lit ?_ | refine awp_seq (awp_seq (awp_lit ?_))
    refine al_pureN 1 (by simp only [go_sem, ↓reduceIte, xa, xb, xc, xd, xe, xf, xg, xh, xi, xj, hb]; try rfl) ?_
    refine al_load rfl (by simp only [go_sem, ↓reduceIte, xa, xb, xc, xd, xe, xf, xg, xh, xi, xj, hb]) rfl (by simp only [go_sem, ↓reduceIte, xa, xb, xc, xd, xe, xf, xg, xh, xi, xj, hb]; try rfl) (by first | exact AHeap.set_self _ _ _ | (simp only [AHeap.set, ↓reduceIte, ya, xd, yb, yc, yd, ye, yf, yg, xb, yh, hb]; rfl) | assumption) (by first | exact loadA_scalar agg3 rfl | exact loadA_agg agg3 rfl | exact loadA_scalar agg3 (by assumption)) ?_
    refine al_pureN 2 (by simp only [go_sem, ↓reduceIte, xa, xb, xc, xd, xe, xf, xg, xh, xi, xj, hb]; try rfl) ?_
    refine al_end [1, 11] ?_
    refine awp_if rfl (fun h => by cases h) (fun _ => ?_)
    by_cases h1 : 4096 < g.inp
    · have hc : decide (4096 < g.inp) = true := by simpa using h1
      first | refine awp_seq (awp_lit ?_) | refine awp_lit ?_ | refine awp_seq (awp_seq (awp_lit ?_))
      refine al_pureN 1 (by simp only [go_sem, ↓reduceIte, xa, xb, xc, xd, xe, xf, xg, xh, xi, xj, hc, gt_iff_lt]; try rfl) ?_
      refine al_load rfl (by simp only [go_sem, ↓reduceIte, xa, xb, xc, xd, xe, xf, xg, xh, xi, xj, hc, gt_iff_lt]) rfl (by simp only [go_sem, ↓reduceIte, xa, xb, xc, xd, xe, xf, xg, xh, xi, xj, hc, gt_iff_lt]; try rfl) (by first | exact AHeap.set_self _ _ _ | (simp only [AHeap.set, ↓reduceIte, ya, xd, yb, yc, yd, ye, yf, yg, xb, yh, hc, gt_iff_lt]; rfl) | assumption) (by first | exact loadA_scalar agg3 rfl | exact loadA_agg agg3 rfl | exact loadA_scalar agg3 (by assumption)) ?_
      refine al_pureN 2 (by simp only [go_sem, ↓reduceIte, xa, xb, xc, xd, xe, xf, xg, xh, xi, xj, hc, gt_iff_lt]; try rfl) ?_
      refine al_pureN 1 (by simp only [go_sem, ↓reduceIte, xa, xb, xc, xd, xe, xf, xg, xh, xi, xj, hc, gt_iff_lt, undef]; try rfl) ?_
      refine al_pureN 1 (by simp only [go_sem, ↓reduceIte, xa, xb, xc, xd, xe, xf, xg, xh, xi, xj, hc, gt_iff_lt, undef]; try rfl) ?_
      refine al_pureN 4 (by simp only [go_sem, ↓reduceIte, xa, xb, xc, xd, xe, xf, xg, xh, xi, xj, hc, gt_iff_lt]; try rfl) ?_
      refine al_pureN 1 (by simp only [go_sem, ↓reduceIte, xa, xb, xc, xd, xe, xf, xg, xh, xi, xj, hc, gt_iff_lt, undef]; try rfl) ?_
      refine al_pureN 4 (by simp only [go_sem, ↓reduceIte, xa, xb, xc, xd, xe, xf, xg, xh, xi, xj, hc, gt_iff_lt]; try rfl) ?_
      refine al_end [1, 15] ?_
      refine awp_if rfl (fun _ => ?_) (fun h => by cases h)
      refine awp_seq (awp_pures [2] (by simp only [go_sem, ↓reduceIte, xa, xb, xc, xd, xe, xf, xg, xh, xi, xj]; try rfl) ?_)
      refine awp_ret ⟨_, rfl, ?_, hle⟩
      simp [chkE, h0, h1]
    · have hc : decide (4096 < g.inp) = false := by simpa using h1
      have hi1 : -1000000 ≤ g.inp := by omega
      have hi2 : g.inp ≤ 1000000 := by omega
      by_cases h2 : 4096 < sizeC g
      · have hd : decide (4096 < sizeC g) = true := by simpa using h2
        first | refine awp_seq (awp_lit ?_) | refine awp_lit ?_ | refine awp_seq (awp_seq (awp_lit ?_))
        refine al_pureN 1 (by simp only [go_sem, ↓reduceIte, xa, xb, xc, xd, xe, xf, xg, xh, xi, xj, hc, hd, gt_iff_lt]; try rfl) ?_
        refine al_load rfl (by simp only [go_sem, ↓reduceIte, xa, xb, xc, xd, xe, xf, xg, xh, xi, xj, hc, hd, gt_iff_lt]) rfl (by simp only [go_sem, ↓reduceIte, xa, xb, xc, xd, xe, xf, xg, xh, xi, xj, hc, hd, gt_iff_lt]; try rfl) (by first | exact AHeap.set_self _ _ _ | (simp only [AHeap.set, ↓reduceIte, ya, xd, yb, yc, yd, ye, yf, yg, xb, yh, hc, hd, gt_iff_lt]; rfl) | assumption) (by first | exact loadA_scalar agg3 rfl | exact loadA_agg agg3 rfl | exact loadA_scalar agg3 (by assumption)) ?_
        refine al_pureN 2 (by simp only [go_sem, ↓reduceIte, xa, xb, xc, xd, xe, xf, xg, xh, xi, xj, hc, hd, gt_iff_lt]; try rfl) ?_
        refine al_load rfl (by simp only [go_sem, ↓reduceIte, xa, xb, xc, xd, xe, xf, xg, xh, xi, xj, hc, hd, gt_iff_lt]) rfl (by simp only [go_sem, ↓reduceIte, xa, xb, xc, xd, xe, xf, xg, xh, xi, xj, hc, hd, gt_iff_lt]; try rfl) (by first | exact AHeap.set_self _ _ _ | (simp only [AHeap.set, ↓reduceIte, ya, xd, yb, yc, yd, ye, yf, yg, xb, yh, hc, hd, gt_iff_lt]; rfl) | assumption) (by first | exact loadA_scalar agg26 rfl | exact loadA_agg agg26 rfl | exact loadA_scalar agg26 (by assumption)) ?_
        refine al_gives (vs := ?vs1) (v := ?v1) rfl ?ha1 ?hh1 (by kernel_rfl) rfl (by simp only [go_sem, ↓reduceIte, xa, xb, xc, xd, xe, xf, xg, xh, xi, xj, hc, hd, gt_iff_lt]) ?kk1
        case ha1 => simp only [go_sem, ↓reduceIte, xa, xb, xc, xd, xe, xf, xg, xh, xi, xj, hc, hd, gt_iff_lt]; try rfl
        case hh1 => exact size_gives (hv0.mono hle) hf hi1 hi2
        refine al_pureN 4 (by simp only [go_sem, ↓reduceIte, xa, xb, xc, xd, xe, xf, xg, xh, xi, xj, hc, hd, gt_iff_lt]; try rfl) ?_
        refine al_pureN 1 (by simp only [go_sem, ↓reduceIte, xa, xb, xc, xd, xe, xf, xg, xh, xi, xj, hc, hd, gt_iff_lt, undef]; try rfl) ?_
        refine al_pureN 4 (by simp only [go_sem, ↓reduceIte, xa, xb, xc, xd, xe, xf, xg, xh, xi, xj, hc, hd, gt_iff_lt]; try rfl) ?_
        refine al_end [1, 15] ?_
        refine awp_if rfl (fun _ => ?_) (fun h => by cases h)
        refine awp_seq (awp_pures [2] (by simp only [go_sem, ↓reduceIte, xa, xb, xc, xd, xe, xf, xg, xh, xi, xj]; try rfl) ?_)
        refine awp_ret ⟨_, rfl, ?_, hle⟩
        simp [chkE, h0, h2]
      · have hd : decide (4096 < sizeC g) = false := by simpa using h2
        have he : decide (4096 < (g.os.length : Int)) = false := by simp; omega
        first | refine awp_seq (awp_lit ?_) | refine awp_lit ?_ | refine awp_seq (awp_seq (awp_lit ?_))
        refine al_pureN 1 (by simp only [go_sem, ↓reduceIte, xa, xb, xc, xd, xe, xf, xg, xh, xi, xj, hc, hd, he, gt_iff_lt]; try rfl) ?_
        refine al_load rfl (by simp only [go_sem, ↓reduceIte, xa, xb, xc, xd, xe, xf, xg, xh, xi, xj, hc, hd, he, gt_iff_lt]) rfl (by simp only [go_sem, ↓reduceIte, xa, xb, xc, xd, xe, xf, xg, xh, xi, xj, hc, hd, he, gt_iff_lt]; try rfl) (by first | exact AHeap.set_self _ _ _ | (simp only [AHeap.set, ↓reduceIte, ya, xd, yb, yc, yd, ye, yf, yg, xb, yh, hc, hd, he, gt_iff_lt]; rfl) | assumption) (by first | exact loadA_scalar agg3 rfl | exact loadA_agg agg3 rfl | exact loadA_scalar agg3 (by assumption)) ?_
        refine al_pureN 2 (by simp only [go_sem, ↓reduceIte, xa, xb, xc, xd, xe, xf, xg, xh, xi, xj, hc, hd, he, gt_iff_lt]; try rfl) ?_
        refine al_load rfl (by simp only [go_sem, ↓reduceIte, xa, xb, xc, xd, xe, xf, xg, xh, xi, xj, hc, hd, he, gt_iff_lt]) rfl (by simp only [go_sem, ↓reduceIte, xa, xb, xc, xd, xe, xf, xg, xh, xi, xj, hc, hd, he, gt_iff_lt]; try rfl) (by first | exact AHeap.set_self _ _ _ | (simp only [AHeap.set, ↓reduceIte, ya, xd, yb, yc, yd, ye, yf, yg, xb, yh, hc, hd, he, gt_iff_lt]; rfl) | assumption) (by first | exact loadA_scalar agg26 rfl | exact loadA_agg agg26 rfl | exact loadA_scalar agg26 (by assumption)) ?_
        refine al_gives (vs := ?vs2) (v := ?v2) rfl ?ha2 ?hh2 (by kernel_rfl) rfl (by simp only [go_sem, ↓reduceIte, xa, xb, xc, xd, xe, xf, xg, xh, xi, xj, hc, hd, he, gt_iff_lt]) ?kk2
        case ha2 => simp only [go_sem, ↓reduceIte, xa, xb, xc, xd, xe, xf, xg, xh, xi, xj, hc, hd, he, gt_iff_lt]; try rfl
        case hh2 => exact size_gives (hv0.mono hle) hf hi1 hi2
        refine al_pureN 4 (by simp only [go_sem, ↓reduceIte, xa, xb, xc, xd, xe, xf, xg, xh, xi, xj, hc, hd, he, gt_iff_lt]; try rfl) ?_
        refine al_load rfl (by simp only [go_sem, ↓reduceIte, xa, xb, xc, xd, xe, xf, xg, xh, xi, xj, hc, hd, he, gt_iff_lt]) rfl (by simp only [go_sem, ↓reduceIte, xa, xb, xc, xd, xe, xf, xg, xh, xi, xj, hc, hd, he, gt_iff_lt]; try rfl) (by first | exact AHeap.set_self _ _ _ | (simp only [AHeap.set, ↓reduceIte, ya, xd, yb, yc, yd, ye, yf, yg, xb, yh, hc, hd, he, gt_iff_lt]; rfl) | assumption) (by first | exact loadA_scalar agg24 rfl | exact loadA_agg agg24 rfl | exact loadA_scalar agg24 (by assumption)) ?_
        refine al_pureN 4 (by simp only [go_sem, ↓reduceIte, xa, xb, xc, xd, xe, xf, xg, xh, xi, xj, hc, hd, he, gt_iff_lt]; try rfl) ?_
        refine al_end [1, 15] ?_
        refine awp_if rfl (fun h => by cases h) (fun _ => ?_)
        refine awp_skip ?_
        have hchk : chkE g = if (chkA (firstC g) g.as && (chkL (sizeC g) g.ls && chkO (sizeC g) g.os)) = true then 0 else 1 := by
          simp only [chkE, if_neg h0]
          rw [if_neg (by omega)]
        rw [hchk]
        refine awp_seq (awp_pures [1, 3] (by simp only [go_sem, ↓reduceIte, xa, xb, xc, xd, xe, xf, xg, xh, xi, xj]; try rfl) ?_)
        refine awp_seq ?_
        first | refine awp_seq (awp_lit ?_) | refine awp_lit ?_ | refine awp_seq (awp_seq (awp_lit ?_))
        refine al_pureN 1 (by simp only [go_sem, ↓reduceIte, xa, xb, xc, xd, xe, xf, xg, xh, xi, xj]; try rfl) ?_
        refine al_load rfl (by simp only [go_sem, ↓reduceIte, xa, xb, xc, xd, xe, xf, xg, xh, xi, xj]) rfl (by simp only [go_sem, ↓reduceIte, xa, xb, xc, xd, xe, xf, xg, xh, xi, xj]; try rfl) (by first | exact AHeap.set_self _ _ _ | (simp only [AHeap.set, ↓reduceIte, ya, xd, yb, yc, yd, ye, yf, yg, xb, yh]; rfl) | assumption) (by first | exact loadA_scalar agg23 rfl | exact loadA_agg agg23 rfl | exact loadA_scalar agg23 (by assumption)) ?_
        refine al_pureN 2 (by simp only [go_sem, ↓reduceIte, xa, xb, xc, xd, xe, xf, xg, xh, xi, xj]; try rfl) ?_
        refine al_end [1, 3, 31, 32, 33] ?_
        refine awp_block (awp_loop ?_)
        refine ALoop.cast3 (aloop_ind (α := Nat × Nat) (fun a => a.1 ≤ g.as.length ∧ N + 1 ≤ a.2 ∧ chkA (firstC g) g.as = chkA (firstC g + a.1) (g.as.drop a.1)) (fun a => g.as.length - a.1)
          (fun a => [(1, .pointer (some ⟨N, 0, none⟩)), (3, .func (.func 50) #[] #[]), (31, .slice ab g.as.length ac), (32, .int .i64 g.as.length), (33, .int .i64 a.1)]) (fun a => a.2) (fun _ => σ.set N ⟨spread (.agg #[.int .i64 g.inp, .slice lb g.ls.length lc, .slice ab g.as.length ac, .slice ob g.os.length oc]), true, 1⟩) ?_ (0, N + 1) ⟨Nat.zero_le _, Nat.le_refl _, by simp⟩) rfl rfl rfl
        rintro ⟨j, M⟩ ⟨hj, hM, hpre⟩ ih
        dsimp only at hj hM hpre ih ⊢
        by_cases hlt : j < g.as.length
        · have hbb : decide ((j : Int) < (g.as.length : Int)) = true := by simpa using hlt
          refine awp_seq (awp_pures [1, 3, 31, 32, 33, 34] (by simp only [go_sem, ↓reduceIte, xa, xb, xc, xd, xe, xf, xg, xh, xi, xj, hbb]; try rfl) ?_)
          refine awp_seq ?_
          refine awp_if rfl (fun _ => ?_) (fun h => by cases h)
          refine awp_skip ?_
          refine awp_seq (awp_block ?_)
          have hjj : 0 ≤ (j : Int) ∧ (j : Int) < (g.as.length : Int) := by omega
          obtain ⟨id, off, cap, b, e1, e2, e3, e4⟩ := rowsAt_pair (ha.mono hle) hlt
          cases e1
          first | refine awp_seq (awp_lit ?_) | refine awp_lit ?_ | refine awp_seq (awp_seq (awp_lit ?_))
          refine al_pureN 2 (by simp only [go_sem, ↓reduceIte, xa, xb, xc, xd, xe, xf, xg, xh, xi, xj, hjj]; try rfl) ?_
          refine al_load rfl (by simp only [go_sem, ↓reduceIte, xa, xb, xc, xd, xe, xf, xg, xh, xi, xj, hjj]) rfl (by simp only [go_sem, ↓reduceIte, xa, xb, xc, xd, xe, xf, xg, xh, xi, xj, hjj]; try rfl) e2 (loadA_agg agg47 e3) ?_
          refine al_alloc 1 rfl rfl rfl ty47 (by decide) ?_
          refine al_pureN 1 (by simp only [go_sem, ↓reduceIte, xa, xb, xc, xd, xe, xf, xg, xh, xi, xj, hjj]; try rfl) ?_
          refine al_store rfl (by simp only [go_sem, ↓reduceIte, xa, xb, xc, xd, xe, xf, xg, xh, xi, xj, hjj]) rfl (by simp only [go_sem, ↓reduceIte, xa, xb, xc, xd, xe, xf, xg, xh, xi, xj, hjj]; try rfl) (by simp only [go_sem, ↓reduceIte, xa, xb, xc, xd, xe, xf, xg, xh, xi, xj, hjj]; try rfl) (by first | exact AHeap.set_self _ _ _ | (simp only [AHeap.set, ↓reduceIte, ya, xd, yb, yc, yd, ye, yf, yg, xb, yh, hjj]; rfl) | assumption) rfl (by exact size47.trans rfl) (by rfl) (by exact Nat.le_of_ble_eq_true rfl) ?_
          refine al_end [1, 3, 4, 5, 31, 32, 33] ?_
          have hNM : ¬ N = M := by omega
          rw [AHeap.set_set]
          have hadd : -9223372036854775808 ≤ firstC g + (j : Int) ∧ firstC g + (j : Int) ≤ 9223372036854775807 := by unfold firstC; omega
          first | refine awp_seq (awp_lit ?_) | refine awp_lit ?_ | refine awp_seq (awp_seq (awp_lit ?_))
          refine al_load rfl (by simp only [go_sem, ↓reduceIte, xa, xb, xc, xd, xe, xf, xg, xh, xi, xj, hNM, i64_add hadd]) rfl (by simp only [go_sem, ↓reduceIte, xa, xb, xc, xd, xe, xf, xg, xh, xi, xj, hNM, i64_add hadd]; try rfl) (by first | exact AHeap.set_self _ _ _ | (simp only [AHeap.set, ↓reduceIte, ya, xd, yb, yc, yd, ye, yf, yg, xb, yh, hNM, i64_add hadd]; rfl) | assumption) (by first | exact loadA_scalar agg26 rfl | exact loadA_agg agg26 rfl | exact loadA_scalar agg26 (by assumption)) ?_
          refine al_gives (vs := ?vs3) (v := ?v3) rfl ?ha3 ?hh3 (by kernel_rfl) rfl (by simp only [go_sem, ↓reduceIte, xa, xb, xc, xd, xe, xf, xg, xh, xi, xj, hNM, i64_add hadd]) ?kk3
          case ha3 => simp only [go_sem, ↓reduceIte, xa, xb, xc, xd, xe, xf, xg, xh, xi, xj, hNM, i64_add hadd]; try rfl
          case hh3 => exact first_gives (hv0.mono (hle.trans (le_new (dom_set hN) hM))) hf hi1 hi2
          refine al_pureN 3 (by simp only [go_sem, ↓reduceIte, xa, xb, xc, xd, xe, xf, xg, xh, xi, xj, hNM, i64_add hadd]; try rfl) ?_
          refine al_end [1, 3, 5, 6, 31, 32, 33] ?_
          have hn1 : -1000000 ≤ firstC g + (j : Int) := by unfold firstC; omega
          have hn2 : firstC g + (j : Int) ≤ 1000000 := by unfold firstC; omega
          have hstep : chkA (firstC g + j) (g.as.drop j) = ((inR g.as[j].1 (firstC g + j) && inR g.as[j].2 (firstC g + j)) && chkA (firstC g + (j + 1 : Nat)) (g.as.drop (j + 1))) := by
            rw [List.drop_eq_getElem_cons hlt, chkA]; congr 2; omega
          cases hA : inR g.as[j].1 (firstC g + j) with
          | false =>
            first | refine awp_seq (awp_lit ?_) | refine awp_lit ?_ | refine awp_seq (awp_seq (awp_lit ?_))
            refine al_pureN 2 (by simp only [go_sem, ↓reduceIte, xa, xb, xc, xd, xe, xf, xg, xh, xi, xj, hA]; try rfl) ?_
            refine al_load rfl (by simp only [go_sem, ↓reduceIte, xa, xb, xc, xd, xe, xf, xg, xh, xi, xj, hA]) rfl (by simp only [go_sem, ↓reduceIte, xa, xb, xc, xd, xe, xf, xg, xh, xi, xj, hA]; try rfl) (by first | exact AHeap.set_self _ _ _ | (simp only [AHeap.set, ↓reduceIte, ya, xd, yb, yc, yd, ye, yf, yg, xb, yh, hA]; rfl) | assumption) (by first | exact loadA_scalar agg43 rfl | exact loadA_agg agg43 rfl | exact loadA_scalar agg43 (by assumption)) ?_
            refine al_pureN 1 (by simp only [go_sem, ↓reduceIte, xa, xb, xc, xd, xe, xf, xg, xh, xi, xj, hA]; try rfl) ?_
            refine al_givesC rfl (by simp only [go_sem, ↓reduceIte, xa, xb, xc, xd, xe, xf, xg, xh, xi, xj]; try rfl) (by simp only [go_sem, ↓reduceIte, xa, xb, xc, xd, xe, xf, xg, xh, xi, xj]; try rfl) (within_gives _ _ hn1 hn2 _ _) (by kernel_rfl) rfl (by simp only [go_sem, ↓reduceIte, xa, xb, xc, xd, xe, xf, xg, xh, xi, xj]) ?_
            refine al_pureN 4 (by simp only [go_sem, ↓reduceIte, xa, xb, xc, xd, xe, xf, xg, xh, xi, xj, hA]; try rfl) ?_
            refine al_pureN 1 (by simp only [go_sem, ↓reduceIte, xa, xb, xc, xd, xe, xf, xg, xh, xi, xj, hA, undef]; try rfl) ?_
            refine al_pureN 1 (by simp only [go_sem, ↓reduceIte, xa, xb, xc, xd, xe, xf, xg, xh, xi, xj, hA]; try rfl) ?_
            refine al_pureN 1 (by simp only [go_sem, ↓reduceIte, xa, xb, xc, xd, xe, xf, xg, xh, xi, xj, hA, undef]; try rfl) ?_
            refine al_pureN 2 (by simp only [go_sem, ↓reduceIte, xa, xb, xc, xd, xe, xf, xg, xh, xi, xj, hA]; try rfl) ?_
            refine al_end [1, 3, 31, 32, 33, 55] ?_
            refine awp_if rfl (fun _ => ?_) (fun h => by cases h)
            refine awp_seq (awp_pures [2] (by simp only [go_sem, ↓reduceIte, xa, xb, xc, xd, xe, xf, xg, xh, xi, xj]; try rfl) ?_)
            refine awp_ret ⟨_, rfl, ?_, hle.trans (le_new (dom_set hN) hM)⟩
            simp [hpre, hstep, hA]
          | true =>
            cases hB : inR g.as[j].2 (firstC g + j) with
            | false =>
              first | refine awp_seq (awp_lit ?_) | refine awp_lit ?_ | refine awp_seq (awp_seq (awp_lit ?_))
              refine al_pureN 2 (by simp only [go_sem, ↓reduceIte, xa, xb, xc, xd, xe, xf, xg, xh, xi, xj, hA, hB]; try rfl) ?_
              refine al_load rfl (by simp only [go_sem, ↓reduceIte, xa, xb, xc, xd, xe, xf, xg, xh, xi, xj, hA, hB]) rfl (by simp only [go_sem, ↓reduceIte, xa, xb, xc, xd, xe, xf, xg, xh, xi, xj, hA, hB]; try rfl) (by first | exact AHeap.set_self _ _ _ | (simp only [AHeap.set, ↓reduceIte, ya, xd, yb, yc, yd, ye, yf, yg, xb, yh, hA, hB]; rfl) | assumption) (by first | exact loadA_scalar agg43 rfl | exact loadA_agg agg43 rfl | exact loadA_scalar agg43 (by assumption)) ?_
              refine al_pureN 1 (by simp only [go_sem, ↓reduceIte, xa, xb, xc, xd, xe, xf, xg, xh, xi, xj, hA, hB]; try rfl) ?_
              refine al_givesC rfl (by simp only [go_sem, ↓reduceIte, xa, xb, xc, xd, xe, xf, xg, xh, xi, xj]; try rfl) (by simp only [go_sem, ↓reduceIte, xa, xb, xc, xd, xe, xf, xg, xh, xi, xj]; try rfl) (within_gives _ _ hn1 hn2 _ _) (by kernel_rfl) rfl (by simp only [go_sem, ↓reduceIte, xa, xb, xc, xd, xe, xf, xg, xh, xi, xj]) ?_
              refine al_pureN 4 (by simp only [go_sem, ↓reduceIte, xa, xb, xc, xd, xe, xf, xg, xh, xi, xj, hA, hB]; try rfl) ?_
              refine al_load rfl (by simp only [go_sem, ↓reduceIte, xa, xb, xc, xd, xe, xf, xg, xh, xi, xj, hA, hB]) rfl (by simp only [go_sem, ↓reduceIte, xa, xb, xc, xd, xe, xf, xg, xh, xi, xj, hA, hB]; try rfl) (by first | exact AHeap.set_self _ _ _ | (simp only [AHeap.set, ↓reduceIte, ya, xd, yb, yc, yd, ye, yf, yg, xb, yh, hA, hB]; rfl) | assumption) (by first | exact loadA_scalar agg43 rfl | exact loadA_agg agg43 rfl | exact loadA_scalar agg43 (by assumption)) ?_
              refine al_pureN 1 (by simp only [go_sem, ↓reduceIte, xa, xb, xc, xd, xe, xf, xg, xh, xi, xj, hA, hB]; try rfl) ?_
              refine al_givesC rfl (by simp only [go_sem, ↓reduceIte, xa, xb, xc, xd, xe, xf, xg, xh, xi, xj]; try rfl) (by simp only [go_sem, ↓reduceIte, xa, xb, xc, xd, xe, xf, xg, xh, xi, xj]; try rfl) (within_gives _ _ hn1 hn2 _ _) (by kernel_rfl) rfl (by simp only [go_sem, ↓reduceIte, xa, xb, xc, xd, xe, xf, xg, xh, xi, xj]) ?_
              refine al_pureN 2 (by simp only [go_sem, ↓reduceIte, xa, xb, xc, xd, xe, xf, xg, xh, xi, xj, hA, hB]; try rfl) ?_
              refine al_end [1, 3, 31, 32, 33, 55] ?_
              refine awp_if rfl (fun _ => ?_) (fun h => by cases h)
              refine awp_seq (awp_pures [2] (by simp only [go_sem, ↓reduceIte, xa, xb, xc, xd, xe, xf, xg, xh, xi, xj]; try rfl) ?_)
              refine awp_ret ⟨_, rfl, ?_, hle.trans (le_new (dom_set hN) hM)⟩
              simp [hpre, hstep, hB]
            | true =>
              first | refine awp_seq (awp_lit ?_) | refine awp_lit ?_ | refine awp_seq (awp_seq (awp_lit ?_))
              refine al_pureN 2 (by simp only [go_sem, ↓reduceIte, xa, xb, xc, xd, xe, xf, xg, xh, xi, xj, hA, hB]; try rfl) ?_
              refine al_load rfl (by simp only [go_sem, ↓reduceIte, xa, xb, xc, xd, xe, xf, xg, xh, xi, xj, hA, hB]) rfl (by simp only [go_sem, ↓reduceIte, xa, xb, xc, xd, xe, xf, xg, xh, xi, xj, hA, hB]; try rfl) (by first | exact AHeap.set_self _ _ _ | (simp only [AHeap.set, ↓reduceIte, ya, xd, yb, yc, yd, ye, yf, yg, xb, yh, hA, hB]; rfl) | assumption) (by first | exact loadA_scalar agg43 rfl | exact loadA_agg agg43 rfl | exact loadA_scalar agg43 (by assumption)) ?_
              refine al_pureN 1 (by simp only [go_sem, ↓reduceIte, xa, xb, xc, xd, xe, xf, xg, xh, xi, xj, hA, hB]; try rfl) ?_
              refine al_givesC rfl (by simp only [go_sem, ↓reduceIte, xa, xb, xc, xd, xe, xf, xg, xh, xi, xj]; try rfl) (by simp only [go_sem, ↓reduceIte, xa, xb, xc, xd, xe, xf, xg, xh, xi, xj]; try rfl) (within_gives _ _ hn1 hn2 _ _) (by kernel_rfl) rfl (by simp only [go_sem, ↓reduceIte, xa, xb, xc, xd, xe, xf, xg, xh, xi, xj]) ?_
              refine al_pureN 4 (by simp only [go_sem, ↓reduceIte, xa, xb, xc, xd, xe, xf, xg, xh, xi, xj, hA, hB]; try rfl) ?_
              refine al_load rfl (by simp only [go_sem, ↓reduceIte, xa, xb, xc, xd, xe, xf, xg, xh, xi, xj, hA, hB]) rfl (by simp only [go_sem, ↓reduceIte, xa, xb, xc, xd, xe, xf, xg, xh, xi, xj, hA, hB]; try rfl) (by first | exact AHeap.set_self _ _ _ | (simp only [AHeap.set, ↓reduceIte, ya, xd, yb, yc, yd, ye, yf, yg, xb, yh, hA, hB]; rfl) | assumption) (by first | exact loadA_scalar agg43 rfl | exact loadA_agg agg43 rfl | exact loadA_scalar agg43 (by assumption)) ?_
              refine al_pureN 1 (by simp only [go_sem, ↓reduceIte, xa, xb, xc, xd, xe, xf, xg, xh, xi, xj, hA, hB]; try rfl) ?_
              refine al_givesC rfl (by simp only [go_sem, ↓reduceIte, xa, xb, xc, xd, xe, xf, xg, xh, xi, xj]; try rfl) (by simp only [go_sem, ↓reduceIte, xa, xb, xc, xd, xe, xf, xg, xh, xi, xj]; try rfl) (within_gives _ _ hn1 hn2 _ _) (by kernel_rfl) rfl (by simp only [go_sem, ↓reduceIte, xa, xb, xc, xd, xe, xf, xg, xh, xi, xj]) ?_
              refine al_pureN 2 (by simp only [go_sem, ↓reduceIte, xa, xb, xc, xd, xe, xf, xg, xh, xi, xj, hA, hB]; try rfl) ?_
              refine al_end [1, 3, 31, 32, 33, 55] ?_
              refine awp_if rfl (fun h => by cases h) (fun _ => ?_)
              refine awp_skip ?_
              have hadd1 : -9223372036854775808 ≤ (j : Int) + 1 ∧ (j : Int) + 1 ≤ 9223372036854775807 := by omega
              refine awp_pures [1, 3, 31, 32, 33] (by simp only [go_sem, ↓reduceIte, xa, xb, xc, xd, xe, xf, xg, xh, xi, xj, i64_add hadd1]; try rfl) ?_
              refine ALoop.cast3 ((ih (j + 1, M + 1) ⟨hlt, by omega, by rw [hpre, hstep, hA, hB]; rfl⟩ (by dsimp only; omega)).forget (fun _ _ h => h) (le_new (dom_set hN) hM)) rfl rfl rfl
        · have hbb : decide ((j : Int) < (g.as.length : Int)) = false := by simpa using hlt
          have hjm : j = g.as.length := by omega
          refine awp_seq (awp_pures [1, 3, 31, 32, 33, 34] (by simp only [go_sem, ↓reduceIte, xa, xb, xc, xd, xe, xf, xg, xh, xi, xj, hbb]; try rfl) ?_)
          refine awp_seq ?_
          refine awp_if rfl (fun h => by cases h) (fun _ => ?_)
          refine awp_exit ?_
          simp only [Go.Abs.Seq, Go.Abs.Round, Go.Abs.InBlock, ↓reduceIte]
          have hAll : chkA (firstC g) g.as = true := by rw [hpre, hjm]; simp [chkA]
          rw [hAll]
          refine awp_seq ?_
          first | refine awp_seq (awp_lit ?_) | refine awp_lit ?_ | refine awp_seq (awp_seq (awp_lit ?_))
          refine al_pureN 1 (by simp only [go_sem, ↓reduceIte, xa, xb, xc, xd, xe, xf, xg, xh, xi, xj]; try rfl) ?_
          refine al_load rfl (by simp only [go_sem, ↓reduceIte, xa, xb, xc, xd, xe, xf, xg, xh, xi, xj]) rfl (by simp only [go_sem, ↓reduceIte, xa, xb, xc, xd, xe, xf, xg, xh, xi, xj]; try rfl) (by first | exact AHeap.set_self _ _ _ | (simp only [AHeap.set, ↓reduceIte, ya, xd, yb, yc, yd, ye, yf, yg, xb, yh]; rfl) | assumption) (by first | exact loadA_scalar agg22 rfl | exact loadA_agg agg22 rfl | exact loadA_scalar agg22 (by assumption)) ?_
          refine al_pureN 2 (by simp only [go_sem, ↓reduceIte, xa, xb, xc, xd, xe, xf, xg, xh, xi, xj]; try rfl) ?_
          refine al_end [1, 3, 58, 59, 60] ?_
          refine awp_block (awp_loop ?_)
          refine ALoop.cast3 (aloop_ind (α := Nat × Nat) (fun a => a.1 ≤ g.ls.length ∧ N + 1 ≤ a.2 ∧ chkL (sizeC g) g.ls = chkL (sizeC g) (g.ls.drop a.1)) (fun a => g.ls.length - a.1)
            (fun a => [(1, .pointer (some ⟨N, 0, none⟩)), (3, .func (.func 50) #[] #[]), (58, .slice lb g.ls.length lc), (59, .int .i64 g.ls.length), (60, .int .i64 a.1)]) (fun a => a.2) (fun _ => σ.set N ⟨spread (.agg #[.int .i64 g.inp, .slice lb g.ls.length lc, .slice ab g.as.length ac, .slice ob g.os.length oc]), true, 1⟩) ?_ (0, M) ⟨Nat.zero_le _, hM, by simp⟩) rfl rfl rfl
          have hs1 : -1000000 ≤ sizeC g := by unfold sizeC firstC; omega
          have hs2 : sizeC g ≤ 1000000 := by omega
          clear hpre ih hbb hM
          rintro ⟨j, M⟩ ⟨hj, hM, hpre⟩ ih
          dsimp only at hj hM hpre ih ⊢
          by_cases hlt : j < g.ls.length
          · have hbb : decide ((j : Int) < (g.ls.length : Int)) = true := by simpa using hlt
            refine awp_seq (awp_pures [1, 3, 58, 59, 60, 61] (by simp only [go_sem, ↓reduceIte, xa, xb, xc, xd, xe, xf, xg, xh, xi, xj, hbb]; try rfl) ?_)
            refine awp_seq ?_
            refine awp_if rfl (fun _ => ?_) (fun h => by cases h)
            refine awp_skip ?_
            refine awp_seq (awp_block ?_)
            have hjj : 0 ≤ (j : Int) ∧ (j : Int) < (g.ls.length : Int) := by omega
            obtain ⟨id, off, cap, b, e1, e2, e3, e4⟩ := rowsAt_pair (hl.mono hle) hlt
            cases e1
            first | refine awp_seq (awp_lit ?_) | refine awp_lit ?_ | refine awp_seq (awp_seq (awp_lit ?_))
            refine al_pureN 1 (by simp only [go_sem, ↓reduceIte, xa, xb, xc, xd, xe, xf, xg, xh, xi, xj, hjj]; try rfl) ?_
            refine al_load rfl (by simp only [go_sem, ↓reduceIte, xa, xb, xc, xd, xe, xf, xg, xh, xi, xj, hjj]) rfl (by simp only [go_sem, ↓reduceIte, xa, xb, xc, xd, xe, xf, xg, xh, xi, xj, hjj]; try rfl) e2 (loadA_agg agg45 e3) ?_
            refine al_alloc 1 rfl rfl rfl ty45 (by decide) ?_
            refine al_store rfl (by simp only [go_sem, ↓reduceIte, xa, xb, xc, xd, xe, xf, xg, xh, xi, xj, hjj]) rfl (by simp only [go_sem, ↓reduceIte, xa, xb, xc, xd, xe, xf, xg, xh, xi, xj, hjj]; try rfl) (by simp only [go_sem, ↓reduceIte, xa, xb, xc, xd, xe, xf, xg, xh, xi, xj, hjj]; try rfl) (by first | exact AHeap.set_self _ _ _ | (simp only [AHeap.set, ↓reduceIte, ya, xd, yb, yc, yd, ye, yf, yg, xb, yh, hjj]; rfl) | assumption) rfl (by exact size45.trans rfl) (by rfl) (by exact Nat.le_of_ble_eq_true rfl) ?_
            refine al_end [1, 3, 8, 58, 59, 60] ?_
            have hNM : ¬ N = M := by omega
            rw [AHeap.set_set]
            have hstep : chkL (sizeC g) (g.ls.drop j) = ((inR g.ls[j].1 (sizeC g) && decide (g.ls[j].2 ≤ 1)) && chkL (sizeC g) (g.ls.drop (j + 1))) := by
              rw [List.drop_eq_getElem_cons hlt, chkL, List.all_cons]; rfl
            cases hA : inR g.ls[j].1 (sizeC g) with
            | false =>
              refine awp_seq (awp_quiet [1, 3, 58, 59, 60, 75] (by kernel_rfl) fun hNq => ?_)
              refine tq_pures 2 (by simp only [go_sem, ↓reduceIte, xa, xb, xc, xd, xe, xf, xg, xh, xi, xj, hA, hNM]; try rfl) ?_
              refine tq_load hNq rfl (by simp only [go_sem, ↓reduceIte, xa, xb, xc, xd, xe, xf, xg, xh, xi, xj, hA, hNM]; try rfl) rfl (by simp only [go_sem, ↓reduceIte, xa, xb, xc, xd, xe, xf, xg, xh, xi, xj, hA, hNM]; try rfl) (by first | exact AHeap.set_self _ _ _ | (simp only [AHeap.set, ↓reduceIte, ya, xd, yb, yc, yd, ye, yf, yg, xb, yh, hA, hNM]; rfl) | assumption) ⟨_, rfl⟩ (by first | exact loadA_scalar agg43 rfl | exact loadA_agg agg43 rfl | exact loadA_scalar agg43 (by assumption)) ?_
              refine tq_load hNq rfl (by simp only [go_sem, ↓reduceIte, xa, xb, xc, xd, xe, xf, xg, xh, xi, xj, hA, hNM]; try rfl) rfl (by simp only [go_sem, ↓reduceIte, xa, xb, xc, xd, xe, xf, xg, xh, xi, xj, hA, hNM]; try rfl) (by first | exact AHeap.set_self _ _ _ | (simp only [AHeap.set, ↓reduceIte, ya, xd, yb, yc, yd, ye, yf, yg, xb, yh, hA, hNM]; rfl) | assumption) ⟨_, rfl⟩ (by first | exact loadA_scalar agg26 rfl | exact loadA_agg agg26 rfl | exact loadA_scalar agg26 (by assumption)) ?_
              refine tq_gives rfl (by simp only [go_sem, ↓reduceIte, xa, xb, xc, xd, xe, xf, xg, xh, xi, xj, hA, hNM]; try rfl) (fun m => size_gives (AigAt.qv hNq (hv0.mono (hle.trans (le_new (dom_set hN) hM)))) hf hi1 hi2) (by kernel_rfl) rfl (by simp only [go_sem, ↓reduceIte, xa, xb, xc, xd, xe, xf, xg, xh, xi, xj, hA, hNM]) ?_
              refine tq_givesC rfl (by simp only [go_sem, ↓reduceIte, xa, xb, xc, xd, xe, xf, xg, xh, xi, xj]; try rfl) (by simp only [go_sem, ↓reduceIte, xa, xb, xc, xd, xe, xf, xg, xh, xi, xj]; try rfl) (fun m => within_gives _ _ hs1 hs2 _ _) (by kernel_rfl) rfl (by simp only [go_sem, ↓reduceIte, xa, xb, xc, xd, xe, xf, xg, xh, xi, xj]) ?_
              refine tq_pures 3 (by simp only [go_sem, ↓reduceIte, xa, xb, xc, xd, xe, xf, xg, xh, xi, xj, hA, hNM]; try rfl) ?_
              refine tq_pures 1 (by simp only [go_sem, ↓reduceIte, xa, xb, xc, xd, xe, xf, xg, xh, xi, xj, hA, hNM, undef]; try rfl) ?_
              refine tq_pures 2 (by simp only [go_sem, ↓reduceIte, xa, xb, xc, xd, xe, xf, xg, xh, xi, xj, hA, hNM]; try rfl) ?_
              refine tq_end ?_
              refine awp_if rfl (fun _ => ?_) (fun h => by cases h)
              refine awp_seq (awp_pures [2] (by simp only [go_sem, ↓reduceIte, xa, xb, xc, xd, xe, xf, xg, xh, xi, xj]; try rfl) ?_)
              refine awp_ret ⟨_, rfl, ?_, hle.trans (le_new (dom_set hN) hM)⟩
              simp [hpre, hstep, hA]
            | true =>
              by_cases hB : g.ls[j].2 ≤ 1
              · have hB' : decide (1 < g.ls[j].2) = false := by simp; omega
                refine awp_seq (awp_quiet [1, 3, 58, 59, 60, 75] (by kernel_rfl) fun hNq => ?_)
                refine tq_pures 2 (by simp only [go_sem, ↓reduceIte, xa, xb, xc, xd, xe, xf, xg, xh, xi, xj, hA, hNM, u8_gtr, gt_iff_lt, hB']; try rfl) ?_
                refine tq_load hNq rfl (by simp only [go_sem, ↓reduceIte, xa, xb, xc, xd, xe, xf, xg, xh, xi, xj, hA, hNM, u8_gtr, gt_iff_lt, hB']; try rfl) rfl (by simp only [go_sem, ↓reduceIte, xa, xb, xc, xd, xe, xf, xg, xh, xi, xj, hA, hNM, u8_gtr, gt_iff_lt, hB']; try rfl) (by first | exact AHeap.set_self _ _ _ | (simp only [AHeap.set, ↓reduceIte, ya, xd, yb, yc, yd, ye, yf, yg, xb, yh, hA, hNM, u8_gtr, gt_iff_lt, hB']; rfl) | assumption) ⟨_, rfl⟩ (by first | exact loadA_scalar agg43 rfl | exact loadA_agg agg43 rfl | exact loadA_scalar agg43 (by assumption)) ?_
                refine tq_load hNq rfl (by simp only [go_sem, ↓reduceIte, xa, xb, xc, xd, xe, xf, xg, xh, xi, xj, hA, hNM, u8_gtr, gt_iff_lt, hB']; try rfl) rfl (by simp only [go_sem, ↓reduceIte, xa, xb, xc, xd, xe, xf, xg, xh, xi, xj, hA, hNM, u8_gtr, gt_iff_lt, hB']; try rfl) (by first | exact AHeap.set_self _ _ _ | (simp only [AHeap.set, ↓reduceIte, ya, xd, yb, yc, yd, ye, yf, yg, xb, yh, hA, hNM, u8_gtr, gt_iff_lt, hB']; rfl) | assumption) ⟨_, rfl⟩ (by first | exact loadA_scalar agg26 rfl | exact loadA_agg agg26 rfl | exact loadA_scalar agg26 (by assumption)) ?_
                refine tq_gives rfl (by simp only [go_sem, ↓reduceIte, xa, xb, xc, xd, xe, xf, xg, xh, xi, xj, hA, hNM, u8_gtr, gt_iff_lt, hB']; try rfl) (fun m => size_gives (AigAt.qv hNq (hv0.mono (hle.trans (le_new (dom_set hN) hM)))) hf hi1 hi2) (by kernel_rfl) rfl (by simp only [go_sem, ↓reduceIte, xa, xb, xc, xd, xe, xf, xg, xh, xi, xj, hA, hNM, u8_gtr, gt_iff_lt, hB']) ?_
                refine tq_givesC rfl (by simp only [go_sem, ↓reduceIte, xa, xb, xc, xd, xe, xf, xg, xh, xi, xj]; try rfl) (by simp only [go_sem, ↓reduceIte, xa, xb, xc, xd, xe, xf, xg, xh, xi, xj]; try rfl) (fun m => within_gives _ _ hs1 hs2 _ _) (by kernel_rfl) rfl (by simp only [go_sem, ↓reduceIte, xa, xb, xc, xd, xe, xf, xg, xh, xi, xj]) ?_
                refine tq_pures 3 (by simp only [go_sem, ↓reduceIte, xa, xb, xc, xd, xe, xf, xg, xh, xi, xj, hA, hNM, u8_gtr, gt_iff_lt, hB']; try rfl) ?_
                refine tq_load hNq rfl (by simp only [go_sem, ↓reduceIte, xa, xb, xc, xd, xe, xf, xg, xh, xi, xj, hA, hNM, u8_gtr, gt_iff_lt, hB']; try rfl) rfl (by simp only [go_sem, ↓reduceIte, xa, xb, xc, xd, xe, xf, xg, xh, xi, xj, hA, hNM, u8_gtr, gt_iff_lt, hB']; try rfl) (by first | exact AHeap.set_self _ _ _ | (simp only [AHeap.set, ↓reduceIte, ya, xd, yb, yc, yd, ye, yf, yg, xb, yh, hA, hNM, u8_gtr, gt_iff_lt, hB']; rfl) | assumption) ⟨_, rfl⟩ (by first | exact loadA_scalar agg5 rfl | exact loadA_agg agg5 rfl | exact loadA_scalar agg5 (by assumption)) ?_
                refine tq_pures 2 (by simp only [go_sem, ↓reduceIte, xa, xb, xc, xd, xe, xf, xg, xh, xi, xj, hA, hNM, u8_gtr, gt_iff_lt, hB']; try rfl) ?_
                refine tq_end ?_
                refine awp_if rfl (fun h => by cases h) (fun _ => ?_)
                refine awp_skip ?_
                have hadd1 : -9223372036854775808 ≤ (j : Int) + 1 ∧ (j : Int) + 1 ≤ 9223372036854775807 := by omega
                refine awp_pures [1, 3, 58, 59, 60] (by simp only [go_sem, ↓reduceIte, xa, xb, xc, xd, xe, xf, xg, xh, xi, xj, i64_add hadd1]; try rfl) ?_
                refine ALoop.cast3 ((ih (j + 1, M + 1) ⟨hlt, by omega, by rw [hpre, hstep, hA]; simp [hB]⟩ (by dsimp only; omega)).forget (fun _ _ h => h) (le_new (dom_set hN) hM)) rfl rfl rfl
              · have hB' : decide (1 < g.ls[j].2) = true := by simp; omega
                refine awp_seq (awp_quiet [1, 3, 58, 59, 60, 75] (by kernel_rfl) fun hNq => ?_)
                refine tq_pures 2 (by simp only [go_sem, ↓reduceIte, xa, xb, xc, xd, xe, xf, xg, xh, xi, xj, hA, hNM, u8_gtr, gt_iff_lt, hB']; try rfl) ?_
                refine tq_load hNq rfl (by simp only [go_sem, ↓reduceIte, xa, xb, xc, xd, xe, xf, xg, xh, xi, xj, hA, hNM, u8_gtr, gt_iff_lt, hB']; try rfl) rfl (by simp only [go_sem, ↓reduceIte, xa, xb, xc, xd, xe, xf, xg, xh, xi, xj, hA, hNM, u8_gtr, gt_iff_lt, hB']; try rfl) (by first | exact AHeap.set_self _ _ _ | (simp only [AHeap.set, ↓reduceIte, ya, xd, yb, yc, yd, ye, yf, yg, xb, yh, hA, hNM, u8_gtr, gt_iff_lt, hB']; rfl) | assumption) ⟨_, rfl⟩ (by first | exact loadA_scalar agg43 rfl | exact loadA_agg agg43 rfl | exact loadA_scalar agg43 (by assumption)) ?_
                refine tq_load hNq rfl (by simp only [go_sem, ↓reduceIte, xa, xb, xc, xd, xe, xf, xg, xh, xi, xj, hA, hNM, u8_gtr, gt_iff_lt, hB']; try rfl) rfl (by simp only [go_sem, ↓reduceIte, xa, xb, xc, xd, xe, xf, xg, xh, xi, xj, hA, hNM, u8_gtr, gt_iff_lt, hB']; try rfl) (by first | exact AHeap.set_self _ _ _ | (simp only [AHeap.set, ↓reduceIte, ya, xd, yb, yc, yd, ye, yf, yg, xb, yh, hA, hNM, u8_gtr, gt_iff_lt, hB']; rfl) | assumption) ⟨_, rfl⟩ (by first | exact loadA_scalar agg26 rfl | exact loadA_agg agg26 rfl | exact loadA_scalar agg26 (by assumption)) ?_
                refine tq_gives rfl (by simp only [go_sem, ↓reduceIte, xa, xb, xc, xd, xe, xf, xg, xh, xi, xj, hA, hNM, u8_gtr, gt_iff_lt, hB']; try rfl) (fun m => size_gives (AigAt.qv hNq (hv0.mono (hle.trans (le_new (dom_set hN) hM)))) hf hi1 hi2) (by kernel_rfl) rfl (by simp only [go_sem, ↓reduceIte, xa, xb, xc, xd, xe, xf, xg, xh, xi, xj, hA, hNM, u8_gtr, gt_iff_lt, hB']) ?_
                refine tq_givesC rfl (by simp only [go_sem, ↓reduceIte, xa, xb, xc, xd, xe, xf, xg, xh, xi, xj]; try rfl) (by simp only [go_sem, ↓reduceIte, xa, xb, xc, xd, xe, xf, xg, xh, xi, xj]; try rfl) (fun m => within_gives _ _ hs1 hs2 _ _) (by kernel_rfl) rfl (by simp only [go_sem, ↓reduceIte, xa, xb, xc, xd, xe, xf, xg, xh, xi, xj]) ?_
                refine tq_pures 3 (by simp only [go_sem, ↓reduceIte, xa, xb, xc, xd, xe, xf, xg, xh, xi, xj, hA, hNM, u8_gtr, gt_iff_lt, hB']; try rfl) ?_
                refine tq_load hNq rfl (by simp only [go_sem, ↓reduceIte, xa, xb, xc, xd, xe, xf, xg, xh, xi, xj, hA, hNM, u8_gtr, gt_iff_lt, hB']; try rfl) rfl (by simp only [go_sem, ↓reduceIte, xa, xb, xc, xd, xe, xf, xg, xh, xi, xj, hA, hNM, u8_gtr, gt_iff_lt, hB']; try rfl) (by first | exact AHeap.set_self _ _ _ | (simp only [AHeap.set, ↓reduceIte, ya, xd, yb, yc, yd, ye, yf, yg, xb, yh, hA, hNM, u8_gtr, gt_iff_lt, hB']; rfl) | assumption) ⟨_, rfl⟩ (by first | exact loadA_scalar agg5 rfl | exact loadA_agg agg5 rfl | exact loadA_scalar agg5 (by assumption)) ?_
                refine tq_pures 2 (by simp only [go_sem, ↓reduceIte, xa, xb, xc, xd, xe, xf, xg, xh, xi, xj, hA, hNM, u8_gtr, gt_iff_lt, hB']; try rfl) ?_
                refine tq_end ?_
                refine awp_if rfl (fun _ => ?_) (fun h => by cases h)
                refine awp_seq (awp_pures [2] (by simp only [go_sem, ↓reduceIte, xa, xb, xc, xd, xe, xf, xg, xh, xi, xj]; try rfl) ?_)
                refine awp_ret ⟨_, rfl, ?_, hle.trans (le_new (dom_set hN) hM)⟩
                simp [hpre, hstep, hB]
          · have hbb : decide ((j : Int) < (g.ls.length : Int)) = false := by simpa using hlt
            have hjm : j = g.ls.length := by omega
            refine awp_seq (awp_pures [1, 3, 58, 59, 60, 61] (by simp only [go_sem, ↓reduceIte, xa, xb, xc, xd, xe, xf, xg, xh, xi, xj, hbb]; try rfl) ?_)
            refine awp_seq ?_
            refine awp_if rfl (fun h => by cases h) (fun _ => ?_)
            refine awp_exit ?_
            simp only [Go.Abs.Seq, Go.Abs.Round, Go.Abs.InBlock, ↓reduceIte]
            have hAllL : chkL (sizeC g) g.ls = true := by rw [hpre, hjm]; simp [chkL]
            rw [hAllL]
            refine awp_seq ?_
            first | refine awp_seq (awp_lit ?_) | refine awp_lit ?_ | refine awp_seq (awp_seq (awp_lit ?_))
            refine al_pureN 1 (by simp only [go_sem, ↓reduceIte, xa, xb, xc, xd, xe, xf, xg, xh, xi, xj]; try rfl) ?_
            refine al_load rfl (by simp only [go_sem, ↓reduceIte, xa, xb, xc, xd, xe, xf, xg, xh, xi, xj]) rfl (by simp only [go_sem, ↓reduceIte, xa, xb, xc, xd, xe, xf, xg, xh, xi, xj]; try rfl) (by first | exact AHeap.set_self _ _ _ | (simp only [AHeap.set, ↓reduceIte, ya, xd, yb, yc, yd, ye, yf, yg, xb, yh]; rfl) | assumption) (by first | exact loadA_scalar agg24 rfl | exact loadA_agg agg24 rfl | exact loadA_scalar agg24 (by assumption)) ?_
            refine al_pureN 2 (by simp only [go_sem, ↓reduceIte, xa, xb, xc, xd, xe, xf, xg, xh, xi, xj]; try rfl) ?_
            refine al_end [1, 3, 78, 79, 80] ?_
            refine awp_block (awp_loop ?_)
            refine ALoop.cast3 (aloop_ind (α := Nat) (fun a => a ≤ g.os.length ∧ chkO (sizeC g) g.os = chkO (sizeC g) (g.os.drop a)) (fun a => g.os.length - a)
              (fun a => [(1, .pointer (some ⟨N, 0, none⟩)), (3, .func (.func 50) #[] #[]), (78, .slice ob g.os.length oc), (79, .int .i64 g.os.length), (80, .int .i64 a)]) (fun _ => M) (fun _ => σ.set N ⟨spread (.agg #[.int .i64 g.inp, .slice lb g.ls.length lc, .slice ab g.as.length ac, .slice ob g.os.length oc]), true, 1⟩) ?_ 0 ⟨Nat.zero_le _, by simp⟩) rfl rfl rfl
            clear hpre ih hbb
            rintro j ⟨hj, hpre⟩ ih
            by_cases hlt : j < g.os.length
            · have hbb : decide ((j : Int) < (g.os.length : Int)) = true := by simpa using hlt
              refine awp_seq (awp_pures [1, 3, 78, 79, 80, 81] (by simp only [go_sem, ↓reduceIte, xa, xb, xc, xd, xe, xf, xg, xh, xi, xj, hbb]; try rfl) ?_)
              refine awp_seq ?_
              refine awp_if rfl (fun _ => ?_) (fun h => by cases h)
              refine awp_skip ?_
              refine awp_seq (awp_block ?_)
              have hjj : 0 ≤ (j : Int) ∧ (j : Int) < (g.os.length : Int) := by omega
              obtain ⟨id, off, cap, b, e1, e2, e3, e4⟩ := slAt_int (ho.mono hle) hlt
              cases e1
              first | refine awp_seq (awp_lit ?_) | refine awp_lit ?_ | refine awp_seq (awp_seq (awp_lit ?_))
              refine al_pureN 1 (by simp only [go_sem, ↓reduceIte, xa, xb, xc, xd, xe, xf, xg, xh, xi, xj, hjj]; try rfl) ?_
              refine al_load rfl (by simp only [go_sem, ↓reduceIte, xa, xb, xc, xd, xe, xf, xg, xh, xi, xj, hjj]) rfl (by simp only [go_sem, ↓reduceIte, xa, xb, xc, xd, xe, xf, xg, xh, xi, xj, hjj]; try rfl) e2 (loadA_scalar agg43 e3) ?_
              refine al_pureN 1 (by simp only [go_sem, ↓reduceIte, xa, xb, xc, xd, xe, xf, xg, xh, xi, xj, hjj]; try rfl) ?_
              refine al_end [1, 3, 10, 78, 79, 80] ?_
              have hstep : chkO (sizeC g) (g.os.drop j) = (inR g.os[j] (sizeC g) && chkO (sizeC g) (g.os.drop (j + 1))) := by
                rw [List.drop_eq_getElem_cons hlt, chkO, List.all_cons]; rfl
              cases hA : inR g.os[j] (sizeC g) with
              | false =>
                first | refine awp_seq (awp_lit ?_) | refine awp_lit ?_ | refine awp_seq (awp_seq (awp_lit ?_))
                refine al_pureN 2 (by simp only [go_sem, ↓reduceIte, xa, xb, xc, xd, xe, xf, xg, xh, xi, xj, hA]; try rfl) ?_
                refine al_load rfl (by simp only [go_sem, ↓reduceIte, xa, xb, xc, xd, xe, xf, xg, xh, xi, xj, hA]) rfl (by simp only [go_sem, ↓reduceIte, xa, xb, xc, xd, xe, xf, xg, xh, xi, xj, hA]; try rfl) (by first | exact AHeap.set_self _ _ _ | (simp only [AHeap.set, ↓reduceIte, ya, xd, yb, yc, yd, ye, yf, yg, xb, yh, hA]; rfl) | assumption) (by first | exact loadA_scalar agg26 rfl | exact loadA_agg agg26 rfl | exact loadA_scalar agg26 (by assumption)) ?_
                refine al_gives (vs := ?vs4) (v := ?v4) rfl ?ha4 ?hh4 (by kernel_rfl) rfl (by simp only [go_sem, ↓reduceIte, xa, xb, xc, xd, xe, xf, xg, xh, xi, xj, hA]) ?kk4
                case ha4 => simp only [go_sem, ↓reduceIte, xa, xb, xc, xd, xe, xf, xg, xh, xi, xj, hA]; try rfl
                case hh4 => exact size_gives (hv0.mono hle) hf hi1 hi2
                refine al_givesC rfl (by simp only [go_sem, ↓reduceIte, xa, xb, xc, xd, xe, xf, xg, xh, xi, xj]; try rfl) (by simp only [go_sem, ↓reduceIte, xa, xb, xc, xd, xe, xf, xg, xh, xi, xj]; try rfl) (within_gives _ _ hs1 hs2 _ _) (by kernel_rfl) rfl (by simp only [go_sem, ↓reduceIte, xa, xb, xc, xd, xe, xf, xg, xh, xi, xj]) ?_
                refine al_pureN 1 (by simp only [go_sem, ↓reduceIte, xa, xb, xc, xd, xe, xf, xg, xh, xi, xj, hA]; try rfl) ?_
                refine al_end [1, 3, 78, 79, 80, 89] ?_
                refine awp_if rfl (fun _ => ?_) (fun h => by cases h)
                refine awp_seq (awp_pures [2] (by simp only [go_sem, ↓reduceIte, xa, xb, xc, xd, xe, xf, xg, xh, xi, xj]; try rfl) ?_)
                refine awp_ret ⟨_, rfl, ?_, hle⟩
                simp [hpre, hstep, hA]
              | true =>
                first | refine awp_seq (awp_lit ?_) | refine awp_lit ?_ | refine awp_seq (awp_seq (awp_lit ?_))
                refine al_pureN 2 (by simp only [go_sem, ↓reduceIte, xa, xb, xc, xd, xe, xf, xg, xh, xi, xj, hA]; try rfl) ?_
                refine al_load rfl (by simp only [go_sem, ↓reduceIte, xa, xb, xc, xd, xe, xf, xg, xh, xi, xj, hA]) rfl (by simp only [go_sem, ↓reduceIte, xa, xb, xc, xd, xe, xf, xg, xh, xi, xj, hA]; try rfl) (by first | exact AHeap.set_self _ _ _ | (simp only [AHeap.set, ↓reduceIte, ya, xd, yb, yc, yd, ye, yf, yg, xb, yh, hA]; rfl) | assumption) (by first | exact loadA_scalar agg26 rfl | exact loadA_agg agg26 rfl | exact loadA_scalar agg26 (by assumption)) ?_
                refine al_gives (vs := ?vs5) (v := ?v5) rfl ?ha5 ?hh5 (by kernel_rfl) rfl (by simp only [go_sem, ↓reduceIte, xa, xb, xc, xd, xe, xf, xg, xh, xi, xj, hA]) ?kk5
                case ha5 => simp only [go_sem, ↓reduceIte, xa, xb, xc, xd, xe, xf, xg, xh, xi, xj, hA]; try rfl
                case hh5 => exact size_gives (hv0.mono hle) hf hi1 hi2
                refine al_givesC rfl (by simp only [go_sem, ↓reduceIte, xa, xb, xc, xd, xe, xf, xg, xh, xi, xj]; try rfl) (by simp only [go_sem, ↓reduceIte, xa, xb, xc, xd, xe, xf, xg, xh, xi, xj]; try rfl) (within_gives _ _ hs1 hs2 _ _) (by kernel_rfl) rfl (by simp only [go_sem, ↓reduceIte, xa, xb, xc, xd, xe, xf, xg, xh, xi, xj]) ?_
                refine al_pureN 1 (by simp only [go_sem, ↓reduceIte, xa, xb, xc, xd, xe, xf, xg, xh, xi, xj, hA]; try rfl) ?_
                refine al_end [1, 3, 78, 79, 80, 89] ?_
                refine awp_if rfl (fun h => by cases h) (fun _ => ?_)
                refine awp_skip ?_
                have hadd1 : -9223372036854775808 ≤ (j : Int) + 1 ∧ (j : Int) + 1 ≤ 9223372036854775807 := by omega
                refine awp_pures [1, 3, 78, 79, 80] (by simp only [go_sem, ↓reduceIte, xa, xb, xc, xd, xe, xf, xg, xh, xi, xj, i64_add hadd1]; try rfl) ?_
                refine ALoop.cast3 (ih (j + 1) ⟨hlt, by rw [hpre, hstep, hA]; rfl⟩ (by omega)) rfl rfl rfl
            · have hbb : decide ((j : Int) < (g.os.length : Int)) = false := by simpa using hlt
              have hjm : j = g.os.length := by omega
              refine awp_seq (awp_pures [1, 3, 78, 79, 80, 81] (by simp only [go_sem, ↓reduceIte, xa, xb, xc, xd, xe, xf, xg, xh, xi, xj, hbb]; try rfl) ?_)
              refine awp_seq ?_
              refine awp_if rfl (fun h => by cases h) (fun _ => ?_)
              refine awp_exit ?_
              simp only [Go.Abs.Seq, Go.Abs.Round, Go.Abs.InBlock, ↓reduceIte]
              refine awp_seq (awp_pures [2] (by simp only [go_sem, ↓reduceIte, xa, xb, xc, xd, xe, xf, xg, xh, xi, xj]; try rfl) ?_)
              refine awp_ret ⟨_, rfl, ?_, hle⟩
              have hAllO : chkO (sizeC g) g.os = true := by rw [hpre, hjm]; simp [chkO]
              simp [hAllO]
end Go.Proofs.Ytfialjllclclkaa

set_option linter.unusedSimpArgs false
set_option linter.unusedVariables false
namespace Go.Proofs.Ytfialjllclclkaa
open Go.Abs Go.Cut
attribute [local go_sem] Try.underlying26 Try.underlying66 Try.underlying69 Try.underlying3 Try.underlying22 Try.underlying23 Try.underlying24 Try.underlying35 Try.underlying43 Try.underlying45 Try.underlying47 Try.underlying5 Try.underlying4 Try.underlying30 size26 size66 size69 size3 size22 size23 size24 size35 size43 size45 size47 size5 size4 size30 Nat.mul_one
open Nat renaming reduceLT → xa, reduceEqDiff → xb, reduceLeDiff → xc, reduceAdd → xd, reduceMul → xe, reduceBEq → xj, add_assoc → ya, add_left_cancel_iff → yb, add_right_cancel_iff → yc, left_eq_add → yd, add_eq_left → ye, add_eq_right → yf, right_eq_add → yg, succ_ne_zero → yh
open Int renaming reduceLT → xf, reduceLE → xg, reduceToNat → xh
open BitVec renaming reduceOfInt → xi
theorem add_any (a b : Int) : intA .add .i64 a b = some (.int .i64 (IntKind.i64.wrap (a + b))) := rfl
theorem slBdd {σ : AHeap} {N : Nat} (hN : ∀ i b, σ i = some b → i < N) {sz : Nat} {v : Value} {rows : List (List Value)} (h : RowsAt σ sz v rows) : Bdd N v := by
  rcases h with ⟨rfl, _⟩ | ⟨id, off, cap, b, rfl, h2, _⟩
  · exact .flat rfl
  · exact .slice (hN _ _ h2)
theorem slBdd1 {σ : AHeap} {N : Nat} (hN : ∀ i b, σ i = some b → i < N) {v : Value} {vs : List Value} (h : SlAt σ v vs) : Bdd N v := by
  rcases h with ⟨rfl, _⟩ | ⟨id, off, cap, b, rfl, h2, _⟩
  · exact .flat rfl
  · exact .slice (hN _ _ h2)
theorem bdd_list {N : Nat} {l : List Value} (h : ∀ x ∈ l, Bdd N x) : Bdd N (.agg l.toArray) := .agg fun i v hv => h v (List.mem_of_getElem? (by simpa using hv))
theorem blk_flat {N : Nat} {l : List Value} (h : l.all flat = true) {k : Nat} {own : Bool} : BlkBdd N ⟨l, own, .n k⟩ := ⟨fun x hx => .of_flat (List.all_eq_true.1 h x hx), .row N k⟩
theorem open_ok {g : AigD} {lb ab ob : Option Addr} {lc ac oc : Nat} {N : Nat} {σ : AHeap} (hf : Few g) (hl : RowsAt σ 2 (.slice lb g.ls.length lc) (pairsV .i64 .u8 g.ls)) (ha : RowsAt σ 2 (.slice ab g.as.length ac) (pairsV .i64 .i64 g.as)) (ho : SlAt σ (.slice ob g.os.length oc) (ints g.os)) :
    AOk Try.prog 38 [.agg #[.int .i64 g.inp, .slice lb g.ls.length lc, .slice ab g.as.length ac, .slice ob g.os.length oc]] N σ fun r N1 σ1 => r = .tuple #[graphV lb lc ab ac ob oc g (openF g), .int .i64 (chkE g)] ∧ N ≤ N1 ∧ σ.le σ1 := by
  refine aok_fresh fun hN => aok_body (r := false) (n := 15) Try.func38 rfl rfl (by simp) ?_
  first | refine awp_seq (awp_lit ?_) | refine awp_lit ?_ | refine awp_seq (awp_seq (awp_lit ?_))
  refine al_box 1 rfl rfl rfl (by simp only [go_sem, ↓reduceIte, xa, xb, xc, xd, xe, xf, xg, xh, xi, xj]; try rfl) ?_
  refine al_alloc 1 rfl rfl rfl ty66 (by decide) ?_
  refine al_pureN 1 (by simp only [go_sem, ↓reduceIte, xa, xb, xc, xd, xe, xf, xg, xh, xi, xj]; try rfl) ?_
  refine al_end [1, 2] ?_
  have hN1 := dom_set (b := ⟨spread (.agg #[.int .i64 g.inp, .slice lb g.ls.length lc, .slice ab g.as.length ac, .slice ob g.os.length oc]), true, 1⟩) hN
  have hle : σ.le ((σ.set N ⟨spread (.agg #[.int .i64 g.inp, .slice lb g.ls.length lc, .slice ab g.as.length ac, .slice ob g.os.length oc]), true, 1⟩).set (N + 1) ⟨spread (.agg #[.int .i64 0, .slice none 0 0, .slice none 0 0, .slice none 0 0, .int .i64 0]), true, 1⟩) := (le_new hN (Nat.le_refl _)).trans (le_new hN1 (Nat.le_refl _))
  have hw : ∀ b, σ (N + 1) ≠ some b := fun b hb => by have := hN _ _ hb; omega
  have hat : AigAt (wv (N + 1 + 1) (N + 1) ((σ.set N ⟨spread (.agg #[.int .i64 g.inp, .slice lb g.ls.length lc, .slice ab g.as.length ac, .slice ob g.os.length oc]), true, 1⟩).set (N + 1) ⟨spread (.agg #[.int .i64 0, .slice none 0 0, .slice none 0 0, .slice none 0 0, .int .i64 0]), true, 1⟩)) (.agg #[.int .i64 g.inp, .slice lb g.ls.length lc, .slice ab g.as.length ac, .slice ob g.os.length oc]) g :=
    ⟨_, _, _, rfl, hl.wv (dom_set hN1) hle hw, ha.wv (dom_set hN1) hle hw, ho.wv (dom_set hN1) hle hw⟩
  have hb1 := (slBdd hN hl).mono (show N ≤ N + 1 + 1 by omega)
  have hb2 := (slBdd hN ha).mono (show N ≤ N + 1 + 1 by omega)
  have hb3 := (slBdd1 hN ho).mono (show N ≤ N + 1 + 1 by omega)
  have hbV : Bdd (N + 1 + 1) (graphV lb lc ab ac ob oc g (openF g)) := bdd_list (l := [.int .i64 g.inp, .slice lb g.ls.length lc, .slice ab g.as.length ac, .slice ob g.os.length oc, .int .i64 (openF g)]) (by
    intro x hx
    simp only [List.mem_cons, List.not_mem_nil, or_false] at hx
    rcases hx with rfl | rfl | rfl | rfl | rfl
    · exact .of_flat rfl
    · exact hb1
    · exact hb2
    · exact hb3
    · exact .of_flat rfl)
  refine awp_seq (awp_wr [2, 3] (N + 1) [11] (by kernel_rfl) fun hNq => ?_)
  refine tw_load hNq rfl (by simp only [go_sem, ↓reduceIte, xa, xb, xc, xd, xe, xf, xg, xh, xi, xj, add_any]; try rfl) rfl (by simp only [go_sem, ↓reduceIte, xa, xb, xc, xd, xe, xf, xg, xh, xi, xj, add_any]; try rfl) (by first | exact AHeap.set_self _ _ _ | (simp only [AHeap.set, ↓reduceIte, ya, xd, yb, yc, yd, ye, yf, yg, xb, yh, add_any]; rfl) | assumption) ⟨_, rfl⟩ (by omega) (by first | exact loadA_scalar agg26 rfl | exact loadA_agg agg26 rfl | exact loadA_scalar agg26 (by assumption)) ?_
  refine tw_pures 1 (by simp only [go_sem, ↓reduceIte, xa, xb, xc, xd, xe, xf, xg, xh, xi, xj, add_any]; try rfl) ?_
  refine tw_load hNq rfl (by simp only [go_sem, ↓reduceIte, xa, xb, xc, xd, xe, xf, xg, xh, xi, xj, add_any]; try rfl) rfl (by simp only [go_sem, ↓reduceIte, xa, xb, xc, xd, xe, xf, xg, xh, xi, xj, add_any]; try rfl) (by first | exact AHeap.set_self _ _ _ | (simp only [AHeap.set, ↓reduceIte, ya, xd, yb, yc, yd, ye, yf, yg, xb, yh, add_any]; rfl) | assumption) ⟨_, rfl⟩ (by omega) (by first | exact loadA_scalar agg3 rfl | exact loadA_agg agg3 rfl | exact loadA_scalar agg3 (by assumption)) ?_
  refine tw_pures 2 (by simp only [go_sem, ↓reduceIte, xa, xb, xc, xd, xe, xf, xg, xh, xi, xj, add_any]; try rfl) ?_
  refine tw_load hNq rfl (by simp only [go_sem, ↓reduceIte, xa, xb, xc, xd, xe, xf, xg, xh, xi, xj, add_any]; try rfl) rfl (by simp only [go_sem, ↓reduceIte, xa, xb, xc, xd, xe, xf, xg, xh, xi, xj, add_any]; try rfl) (by first | exact AHeap.set_self _ _ _ | (simp only [AHeap.set, ↓reduceIte, ya, xd, yb, yc, yd, ye, yf, yg, xb, yh, add_any]; rfl) | assumption) ⟨_, rfl⟩ (by omega) (by first | exact loadA_scalar agg22 rfl | exact loadA_agg agg22 rfl | exact loadA_scalar agg22 (by assumption)) ?_
  refine tw_pures 2 (by simp only [go_sem, ↓reduceIte, xa, xb, xc, xd, xe, xf, xg, xh, xi, xj, add_any]; try rfl) ?_
  refine tw_build rfl (by simp only [go_sem, ↓reduceIte, xa, xb, xc, xd, xe, xf, xg, xh, xi, xj, add_any]; try rfl) rfl Try.underlying66 ty66 (by decide) (pl := [(0, 4), (4, 1)]) (by kernel_rfl) (by simp only [go_sem, ↓reduceIte, xa, xb, xc, xd, xe, xf, xg, xh, xi, xj, add_any]; try rfl) (by first | rfl | simp only [go_sem, ↓reduceIte, xa, xb, xc, xd, xe, xf, xg, xh, xi, xj, add_any]) ?_
  refine tw_load hNq rfl (by simp only [go_sem, ↓reduceIte, xa, xb, xc, xd, xe, xf, xg, xh, xi, xj, add_any]; try rfl) rfl (by simp only [go_sem, ↓reduceIte, xa, xb, xc, xd, xe, xf, xg, xh, xi, xj, add_any]; try rfl) (by first | exact AHeap.set_self _ _ _ | (simp only [AHeap.set, ↓reduceIte, ya, xd, yb, yc, yd, ye, yf, yg, xb, yh, add_any]; rfl) | assumption) ⟨_, rfl⟩ (by omega) (by first | exact loadA_scalar agg26 rfl | exact loadA_agg agg26 rfl | exact loadA_scalar agg26 (by assumption)) ?_
  refine tw_gives rfl (by simp only [go_sem, ↓reduceIte, xa, xb, xc, xd, xe, xf, xg, xh, xi, xj, add_any]; try rfl) (by simp only [go_sem, ↓reduceIte, xa, xb, xc, xd, xe, xf, xg, xh, xi, xj, add_any]; try rfl) (fun m => Check_gives hat hf) (by kernel_rfl) rfl (by simp only [go_sem, ↓reduceIte, xa, xb, xc, xd, xe, xf, xg, xh, xi, xj, add_any]) ?_
  refine tw_store hNq rfl (by simp only [go_sem, ↓reduceIte, xa, xb, xc, xd, xe, xf, xg, xh, xi, xj, add_any]; try rfl) rfl (by simp only [go_sem, ↓reduceIte, xa, xb, xc, xd, xe, xf, xg, xh, xi, xj, add_any]; try rfl) (by simp only [go_sem, ↓reduceIte, xa, xb, xc, xd, xe, xf, xg, xh, xi, xj, add_any]; try rfl) (by first | exact AHeap.set_self _ _ _ | (simp only [AHeap.set, ↓reduceIte, ya, xd, yb, yc, yd, ye, yf, yg, xb, yh, add_any]; rfl) | assumption) ⟨_, rfl⟩ rfl (by exact size66.trans rfl) (by rfl) (by exact Nat.le_of_ble_eq_true rfl) (by decide) hbV (blk_flat (by decide)) fun hNq => ?_
  refine tw_pures 1 (by simp only [go_sem, ↓reduceIte, xa, xb, xc, xd, xe, xf, xg, xh, xi, xj, add_any]; try rfl) ?_
  refine tw_end ?_
  refine awp_ret ⟨_, res_ct rfl rfl (AHeap.set_self _ _ _) (loadA_agg agg66 rfl) rfl, rfl, by omega, ?_⟩
  rw [AHeap.set_set]
  exact (le_new hN (Nat.le_refl _)).trans (le_new hN1 (Nat.le_refl _))
theorem operands_gives {g : AigD} {lb ab ob : Option Addr} {lc ac oc j : Nat} {f x : Int} {N : Nat} {σ : AHeap} (ha : RowsAt σ 2 (.slice ab g.as.length ac) (pairsV .i64 .i64 g.as)) (hj : j < g.as.length) (hx : x - f = j) (hlen : g.as.length ≤ 1000000) :
    Gives Try.prog 39 [graphV lb lc ab ac ob oc g f, .int .i64 x] N σ (.agg #[.int .i64 g.as[j].1, .int .i64 g.as[j].2]) := by
  refine gives_of rfl (aok_fresh fun hN => aok_body (r := false) (n := 20) Try.func39 rfl rfl (by simp) ?_)
  have hs : -9223372036854775808 ≤ x - f ∧ x - f ≤ 9223372036854775807 := by omega
  have hjj : 0 ≤ (j : Int) ∧ (j : Int) < (g.as.length : Int) := by omega
  unfold graphV
  first | refine awp_seq (awp_lit ?_) | refine awp_lit ?_ | refine awp_seq (awp_seq (awp_lit ?_))
  refine al_box 1 rfl rfl rfl (by simp only [go_sem, ↓reduceIte, xa, xb, xc, xd, xe, xf, xg, xh, xi, xj]; try rfl) ?_
  refine al_alloc 1 rfl rfl rfl ty69 (by decide) ?_
  refine al_end [1, 2, 4] ?_
  have hN1 := dom_set (b := ⟨spread (graphV lb lc ab ac ob oc g f), true, 1⟩) hN
  have hN2 := dom_set (b := ⟨spread (.agg #[.int .i64 0, .int .i64 0]), true, 1⟩) hN1
  have hle : σ.le ((σ.set N ⟨spread (graphV lb lc ab ac ob oc g f), true, 1⟩).set (N + 1) ⟨spread (.agg #[.int .i64 0, .int .i64 0]), true, 1⟩) := (le_new hN (Nat.le_refl _)).trans (le_new hN1 (Nat.le_refl _))
  obtain ⟨id, off, cap, b, e1, e2, e3, e4⟩ := rowsAt_pair (ha.mono hle) hj
  cases e1
  unfold graphV at hN1 hN2 hle e2
  first | refine awp_seq (awp_lit ?_) | refine awp_lit ?_ | refine awp_seq (awp_seq (awp_lit ?_))
  refine al_pureN 2 (by simp only [go_sem, ↓reduceIte, xa, xb, xc, xd, xe, xf, xg, xh, xi, xj, i64_sub hs, hx, hjj]; try rfl) ?_
  refine al_load rfl (by simp only [go_sem, ↓reduceIte, xa, xb, xc, xd, xe, xf, xg, xh, xi, xj, i64_sub hs, hx, hjj]) rfl (by simp only [go_sem, ↓reduceIte, xa, xb, xc, xd, xe, xf, xg, xh, xi, xj, i64_sub hs, hx, hjj]; try rfl) (by first | exact AHeap.set_self _ _ _ | (simp only [AHeap.set, ↓reduceIte, ya, xd, yb, yc, yd, ye, yf, yg, xb, yh, i64_sub hs, hx, hjj]; rfl) | assumption) (by first | exact loadA_scalar agg23 rfl | exact loadA_agg agg23 rfl | exact loadA_scalar agg23 (by assumption)) ?_
  refine al_pureN 2 (by simp only [go_sem, ↓reduceIte, xa, xb, xc, xd, xe, xf, xg, xh, xi, xj, i64_sub hs, hx, hjj]; try rfl) ?_
  refine al_load rfl (by simp only [go_sem, ↓reduceIte, xa, xb, xc, xd, xe, xf, xg, xh, xi, xj, i64_sub hs, hx, hjj]) rfl (by simp only [go_sem, ↓reduceIte, xa, xb, xc, xd, xe, xf, xg, xh, xi, xj, i64_sub hs, hx, hjj]; try rfl) (by first | exact AHeap.set_self _ _ _ | (simp only [AHeap.set, ↓reduceIte, ya, xd, yb, yc, yd, ye, yf, yg, xb, yh, i64_sub hs, hx, hjj]; rfl) | assumption) (by first | exact loadA_scalar agg3 rfl | exact loadA_agg agg3 rfl | exact loadA_scalar agg3 (by assumption)) ?_
  refine al_pureN 2 (by simp only [go_sem, ↓reduceIte, xa, xb, xc, xd, xe, xf, xg, xh, xi, xj, i64_sub hs, hx, hjj]; try rfl) ?_
  refine al_load rfl (by simp only [go_sem, ↓reduceIte, xa, xb, xc, xd, xe, xf, xg, xh, xi, xj, i64_sub hs, hx, hjj]) rfl (by simp only [go_sem, ↓reduceIte, xa, xb, xc, xd, xe, xf, xg, xh, xi, xj, i64_sub hs, hx, hjj]; try rfl) e2 (loadA_agg agg47 e3) ?_
  refine al_alloc 1 rfl rfl rfl ty47 (by decide) ?_
  refine al_store rfl (by simp only [go_sem, ↓reduceIte, xa, xb, xc, xd, xe, xf, xg, xh, xi, xj, i64_sub hs, hx, hjj]) rfl (by simp only [go_sem, ↓reduceIte, xa, xb, xc, xd, xe, xf, xg, xh, xi, xj, i64_sub hs, hx, hjj]; try rfl) (by simp only [go_sem, ↓reduceIte, xa, xb, xc, xd, xe, xf, xg, xh, xi, xj, i64_sub hs, hx, hjj]; try rfl) (by first | exact AHeap.set_self _ _ _ | (simp only [AHeap.set, ↓reduceIte, ya, xd, yb, yc, yd, ye, yf, yg, xb, yh, i64_sub hs, hx, hjj]; rfl) | assumption) rfl (by exact size47.trans rfl) (by rfl) (by exact Nat.le_of_ble_eq_true rfl) ?_
  refine al_end [4, 5] ?_
  rw [AHeap.set_set]
  first | refine awp_seq (awp_lit ?_) | refine awp_lit ?_ | refine awp_seq (awp_seq (awp_lit ?_))
  refine al_pureN 1 (by simp only [go_sem, ↓reduceIte, xa, xb, xc, xd, xe, xf, xg, xh, xi, xj]; try rfl) ?_
  refine al_load rfl (by simp only [go_sem, ↓reduceIte, xa, xb, xc, xd, xe, xf, xg, xh, xi, xj]) rfl (by simp only [go_sem, ↓reduceIte, xa, xb, xc, xd, xe, xf, xg, xh, xi, xj]; try rfl) (by first | exact AHeap.set_self _ _ _ | (simp only [AHeap.set, ↓reduceIte, ya, xd, yb, yc, yd, ye, yf, yg, xb, yh]; rfl) | assumption) (by first | exact loadA_scalar agg43 rfl | exact loadA_agg agg43 rfl | exact loadA_scalar agg43 (by assumption)) ?_
  refine al_pureN 1 (by simp only [go_sem, ↓reduceIte, xa, xb, xc, xd, xe, xf, xg, xh, xi, xj]; try rfl) ?_
  refine al_load rfl (by simp only [go_sem, ↓reduceIte, xa, xb, xc, xd, xe, xf, xg, xh, xi, xj]) rfl (by simp only [go_sem, ↓reduceIte, xa, xb, xc, xd, xe, xf, xg, xh, xi, xj]; try rfl) (by first | exact AHeap.set_self _ _ _ | (simp only [AHeap.set, ↓reduceIte, ya, xd, yb, yc, yd, ye, yf, yg, xb, yh]; rfl) | assumption) (by first | exact loadA_scalar agg43 rfl | exact loadA_agg agg43 rfl | exact loadA_scalar agg43 (by assumption)) ?_
  refine al_build_array rfl (by simp only [go_sem, ↓reduceIte, xa, xb, xc, xd, xe, xf, xg, xh, xi, xj]; try rfl) rfl Try.underlying69 ty69 (by decide) ty43 (by simp only [go_sem, ↓reduceIte, xa, xb, xc, xd, xe, xf, xg, xh, xi, xj]; try rfl) rfl ?_
  refine al_store rfl (by simp only [go_sem, ↓reduceIte, xa, xb, xc, xd, xe, xf, xg, xh, xi, xj]) rfl (by simp only [go_sem, ↓reduceIte, xa, xb, xc, xd, xe, xf, xg, xh, xi, xj]; try rfl) (by simp only [go_sem, ↓reduceIte, xa, xb, xc, xd, xe, xf, xg, xh, xi, xj]; try rfl) (by first | exact AHeap.set_self _ _ _ | (simp only [AHeap.set, ↓reduceIte, ya, xd, yb, yc, yd, ye, yf, yg, xb, yh]; rfl) | assumption) rfl (by exact size69.trans rfl) (by rfl) (by exact Nat.le_of_ble_eq_true rfl) ?_
  refine al_end [4] ?_
  refine awp_ret ⟨_, res_c rfl rfl (AHeap.set_self _ _ _) (loadA_agg agg69 rfl), rfl, (by (repeat refine AHeap.le_set ?_ fun i b hb => (by have := hN i b hb; omega)); exact AHeap.le_refl _)⟩
def idxOf (l : List Int) (x : Int) : Nat → Int
  | i => match l with
    | [] => -1
    | y :: l => if x = y then i else idxOf l x (i + 1)
theorem Index_gives {l : List Int} {v : Value} {x : Int} {N : Nat} {σ : AHeap} (hv : SlAt σ v (ints l)) (hlen : l.length ≤ 1000000) : Gives Try.prog 77 [v, .int .i64 x] N σ (.int .i64 (idxOf l x 0)) := by
  have hv0 := hv
  have hol : (ints l).length = l.length := by simp [ints]
  obtain ⟨sb, sc, rfl⟩ := hv.len
  rw [hol] at hv hv0 ⊢
  refine gives_of rfl (aok_fresh fun hN => aok_body (r := false) (n := 19) Try.func77 rfl rfl (by simp) ?_)
  refine awp_seq (awp_pures [0, 1] (by simp only [go_sem, ↓reduceIte, xa, xb, xc, xd, xe, xf, xg, xh, xi, xj]; try rfl) ?_)
  refine awp_seq ?_
  refine awp_seq (awp_pures [0, 1, 7, 8] (by simp only [go_sem, ↓reduceIte, xa, xb, xc, xd, xe, xf, xg, xh, xi, xj]; try rfl) ?_)
  refine awp_block (awp_loop ?_)
  refine ALoop.cast3 (aloop_ind (α := Nat) (fun a => a ≤ l.length ∧ idxOf l x 0 = idxOf (l.drop a) x a) (fun a => l.length - a)
    (fun a => [(0, .slice sb l.length sc), (1, .int .i64 x), (7, .int .i64 l.length), (8, .int .i64 a)]) (fun _ => N) (fun _ => σ) ?_ 0 ⟨Nat.zero_le _, rfl⟩) rfl rfl rfl
  rintro j ⟨hj, hpre⟩ ih
  by_cases hlt : j < l.length
  · have hb : decide ((j : Int) < (l.length : Int)) = true := by simpa using hlt
    refine awp_seq (awp_pures [0, 1, 7, 8, 9] (by simp only [go_sem, ↓reduceIte, xa, xb, xc, xd, xe, xf, xg, xh, xi, xj, hb]; try rfl) ?_)
    refine awp_seq ?_
    refine awp_if rfl (fun _ => ?_) (fun h => by cases h)
    refine awp_skip ?_
    refine awp_seq (awp_block ?_)
    refine awp_seq (awp_pures [0, 1, 5, 7, 8] (by simp only [go_sem, ↓reduceIte, xa, xb, xc, xd, xe, xf, xg, xh, xi, xj]; try rfl) ?_)
    have hjj : 0 ≤ (j : Int) ∧ (j : Int) < (l.length : Int) := by omega
    obtain ⟨id, off, cap, b, e1, e2, e3, e4⟩ := slAt_int hv hlt
    cases e1
    have hstep : idxOf (l.drop j) x j = if x = l[j] then (j : Int) else idxOf (l.drop (j + 1)) x (j + 1) := by
      rw [List.drop_eq_getElem_cons hlt, idxOf]
    by_cases he : x = l[j]
    · have he' : (x == l[j]) = true := by simpa using he
      first | refine awp_seq (awp_lit ?_) | refine awp_lit ?_ | refine awp_seq (awp_seq (awp_lit ?_))
      refine al_pureN 4 (by simp only [go_sem, ↓reduceIte, xa, xb, xc, xd, xe, xf, xg, xh, xi, xj, hjj, he']; try rfl) ?_
      refine al_load rfl (by simp only [go_sem, ↓reduceIte, xa, xb, xc, xd, xe, xf, xg, xh, xi, xj, hjj, he']) rfl (by simp only [go_sem, ↓reduceIte, xa, xb, xc, xd, xe, xf, xg, xh, xi, xj, hjj, he']; try rfl) e2 (loadA_scalar agg3 e3) ?_
      refine al_pureN 1 (by simp only [go_sem, ↓reduceIte, xa, xb, xc, xd, xe, xf, xg, xh, xi, xj, hjj, he']; try rfl) ?_
      refine al_end [0, 1, 5, 7, 8, 16] ?_
      refine awp_if rfl (fun _ => ?_) (fun h => by cases h)
      refine awp_seq (awp_pures [4] (by simp only [go_sem, ↓reduceIte, xa, xb, xc, xd, xe, xf, xg, xh, xi, xj]; try rfl) ?_)
      refine awp_ret ⟨_, rfl, ?_, AHeap.le_refl _⟩
      rw [hpre, hstep, if_pos he]; rfl
    · have he' : (x == l[j]) = false := by simpa using he
      first | refine awp_seq (awp_lit ?_) | refine awp_lit ?_ | refine awp_seq (awp_seq (awp_lit ?_))
      refine al_pureN 4 (by simp only [go_sem, ↓reduceIte, xa, xb, xc, xd, xe, xf, xg, xh, xi, xj, hjj, he']; try rfl) ?_
      refine al_load rfl (by simp only [go_sem, ↓reduceIte, xa, xb, xc, xd, xe, xf, xg, xh, xi, xj, hjj, he']) rfl (by simp only [go_sem, ↓reduceIte, xa, xb, xc, xd, xe, xf, xg, xh, xi, xj, hjj, he']; try rfl) e2 (loadA_scalar agg3 e3) ?_
      refine al_pureN 1 (by simp only [go_sem, ↓reduceIte, xa, xb, xc, xd, xe, xf, xg, xh, xi, xj, hjj, he']; try rfl) ?_
      refine al_end [0, 1, 5, 7, 8, 16] ?_
      refine awp_if rfl (fun h => by cases h) (fun _ => ?_)
      refine awp_skip ?_
      have hadd1 : -9223372036854775808 ≤ (j : Int) + 1 ∧ (j : Int) + 1 ≤ 9223372036854775807 := by omega
      refine awp_pures [0, 1, 7, 8] (by simp only [go_sem, ↓reduceIte, xa, xb, xc, xd, xe, xf, xg, xh, xi, xj, i64_add hadd1]; try rfl) ?_
      refine ALoop.cast3 (ih (j + 1) ⟨hlt, by rw [hpre, hstep, if_neg he]⟩ (by omega)) rfl rfl rfl
  · have hb : decide ((j : Int) < (l.length : Int)) = false := by simpa using hlt
    have hjm : j = l.length := by omega
    refine awp_seq (awp_pures [0, 1, 7, 8, 9] (by simp only [go_sem, ↓reduceIte, xa, xb, xc, xd, xe, xf, xg, xh, xi, xj, hb]; try rfl) ?_)
    refine awp_seq ?_
    refine awp_if rfl (fun h => by cases h) (fun _ => ?_)
    refine awp_exit ?_
    simp only [Go.Abs.Seq, Go.Abs.Round, Go.Abs.InBlock, ↓reduceIte]
    refine awp_seq (awp_pures [4] (by simp only [go_sem, ↓reduceIte, xa, xb, xc, xd, xe, xf, xg, xh, xi, xj]; try rfl) ?_)
    refine awp_ret ⟨_, rfl, ?_, AHeap.le_refl _⟩
    rw [hpre, hjm]; simp [idxOf]
theorem idxOf_iff (x : Int) : ∀ (l : List Int) (i : Nat), (0 ≤ idxOf l x i ↔ x ∈ l)
  | [], i => by simp [idxOf]
  | y :: l, i => by
    unfold idxOf
    by_cases h : x = y
    · simp [h]
    · simp only [if_neg h, List.mem_cons, h, false_or]
      exact idxOf_iff x l (i + 1)
theorem Contains_gives {l : List Int} {v : Value} {x : Int} {N : Nat} {σ : AHeap} (hv : SlAt σ v (ints l)) (hlen : l.length ≤ 1000000) : Gives Try.prog 65 [v, .int .i64 x] N σ (.bool (decide (x ∈ l))) := by
  have hol : (ints l).length = l.length := by simp [ints]
  obtain ⟨sb, sc, rfl⟩ := hv.len
  refine gives_of rfl (aok_fresh fun hN => aok_body (r := false) (n := 9) Try.func65 rfl rfl (by simp) ?_)
  have hd : decide (0 ≤ idxOf l x 0) = decide (x ∈ l) := by
    rw [decide_eq_decide]; exact idxOf_iff x l 0
  refine awp_seq (awp_pures [0, 1] (by simp only [go_sem, ↓reduceIte, xa, xb, xc, xd, xe, xf, xg, xh, xi, xj]; try rfl) ?_)
  first | refine awp_seq (awp_lit ?_) | refine awp_lit ?_ | refine awp_seq (awp_seq (awp_lit ?_))
  refine al_pureN 2 (by simp only [go_sem, ↓reduceIte, xa, xb, xc, xd, xe, xf, xg, xh, xi, xj, ge_iff_le, hd]; try rfl) ?_
  refine al_gives (vs := ?vs1) (v := ?v1) rfl ?ha1 ?hh1 (by kernel_rfl) rfl (by simp only [go_sem, ↓reduceIte, xa, xb, xc, xd, xe, xf, xg, xh, xi, xj, ge_iff_le, hd]) ?kk1
  case ha1 => simp only [go_sem, ↓reduceIte, xa, xb, xc, xd, xe, xf, xg, xh, xi, xj, ge_iff_le, hd]; try rfl
  case hh1 => exact Index_gives hv hlen
  refine al_pureN 2 (by simp only [go_sem, ↓reduceIte, xa, xb, xc, xd, xe, xf, xg, xh, xi, xj, ge_iff_le, hd]; try rfl) ?_
  refine al_end [4] ?_
  refine awp_ret ⟨_, rfl, rfl, AHeap.le_refl _⟩
end Go.Proofs.Ytfialjllclclkaa

set_option linter.unusedSimpArgs false
set_option linter.unusedVariables false
namespace Go.Proofs.Ytfialjllclclkaa
open Go.Abs Go.Cut
attribute [local go_sem] Try.underlying26 Try.underlying66 Try.underlying69 Try.underlying3 Try.underlying22 Try.underlying23 Try.underlying24 Try.underlying35 Try.underlying43 Try.underlying45 Try.underlying47 Try.underlying5 Try.underlying4 Try.underlying30 Try.underlying56 size26 size66 size69 size3 size22 size23 size24 size35 size43 size45 size47 size5 size4 size30 Nat.mul_one
open Nat renaming reduceLT → xa, reduceEqDiff → xb, reduceLeDiff → xc, reduceAdd → xd, reduceMul → xe, reduceBEq → xj, add_assoc → ya, add_left_cancel_iff → yb, add_right_cancel_iff → yc, left_eq_add → yd, add_eq_left → ye, add_eq_right → yf, right_eq_add → yg, succ_ne_zero → yh
open Int renaming reduceLT → xf, reduceLE → xg, reduceToNat → xh
open BitVec renaming reduceOfInt → xi
theorem leafE_len {n node : Int} {l : List Int} (h : leafE n node l = 0) : l.length ≤ 4 := by
  unfold leafE at h
  split at h
  · cases h
  · split at h
    · cases h
    · omega
theorem leafSet_gives {g : AigD} {lb ab ob : Option Addr} {lc ac oc : Nat} {f node : Int} {l : List Int} {v : Value} {N : Nat} {σ : AHeap} (hv : SlAt σ v (ints l)) (h1 : -1000000 ≤ f) (h2 : f ≤ 1000000) (h3 : g.as.length ≤ 1000000) :
    Gives Try.prog 64 [graphV lb lc ab ac ob oc g f, .int .i64 node, v] N σ (.int .i64 (leafE (f + g.as.length) node l)) := by
  have hol : (ints l).length = l.length := by simp [ints]
  obtain ⟨sb, sc, rfl⟩ := hv.len
  rw [hol] at hv ⊢
  refine gives_of rfl (aok_fresh fun hN => aok_body (r := false) (n := 46) Try.func64 rfl rfl (by simp) ?_)
  have hadd : -9223372036854775808 ≤ f + (g.as.length : Int) ∧ f + (g.as.length : Int) ≤ 9223372036854775807 := by omega
  unfold graphV
  first | refine awp_seq (awp_lit ?_) | refine awp_lit ?_ | refine awp_seq (awp_seq (awp_lit ?_))
  refine al_box 1 rfl rfl rfl (by simp only [go_sem, ↓reduceIte, xa, xb, xc, xd, xe, xf, xg, xh, xi, xj]; try rfl) ?_
  refine al_pureN 1 (by simp only [go_sem, ↓reduceIte, xa, xb, xc, xd, xe, xf, xg, xh, xi, xj]; try rfl) ?_
  refine al_end [1, 2, 3] ?_
  first | refine awp_seq (awp_lit ?_) | refine awp_lit ?_ | refine awp_seq (awp_seq (awp_lit ?_))
  refine al_pureN 1 (by simp only [go_sem, ↓reduceIte, xa, xb, xc, xd, xe, xf, xg, xh, xi, xj, i64_add hadd]; try rfl) ?_
  refine al_load rfl (by simp only [go_sem, ↓reduceIte, xa, xb, xc, xd, xe, xf, xg, xh, xi, xj, i64_add hadd]) rfl (by simp only [go_sem, ↓reduceIte, xa, xb, xc, xd, xe, xf, xg, xh, xi, xj, i64_add hadd]; try rfl) (by first | exact AHeap.set_self _ _ _ | (simp only [AHeap.set, ↓reduceIte, ya, xd, yb, yc, yd, ye, yf, yg, xb, yh, i64_add hadd]; rfl) | assumption) (by first | exact loadA_scalar agg3 rfl | exact loadA_agg agg3 rfl | exact loadA_scalar agg3 (by assumption)) ?_
  refine al_pureN 2 (by simp only [go_sem, ↓reduceIte, xa, xb, xc, xd, xe, xf, xg, xh, xi, xj, i64_add hadd]; try rfl) ?_
  refine al_load rfl (by simp only [go_sem, ↓reduceIte, xa, xb, xc, xd, xe, xf, xg, xh, xi, xj, i64_add hadd]) rfl (by simp only [go_sem, ↓reduceIte, xa, xb, xc, xd, xe, xf, xg, xh, xi, xj, i64_add hadd]; try rfl) (by first | exact AHeap.set_self _ _ _ | (simp only [AHeap.set, ↓reduceIte, ya, xd, yb, yc, yd, ye, yf, yg, xb, yh, i64_add hadd]; rfl) | assumption) (by first | exact loadA_scalar agg23 rfl | exact loadA_agg agg23 rfl | exact loadA_scalar agg23 (by assumption)) ?_
  refine al_pureN 3 (by simp only [go_sem, ↓reduceIte, xa, xb, xc, xd, xe, xf, xg, xh, xi, xj, i64_add hadd]; try rfl) ?_
  refine al_end [1, 2, 7] ?_
  have hle : σ.le (σ.set N ⟨spread (graphV lb lc ab ac ob oc g f), true, 1⟩) := le_new hN (Nat.le_refl _)
  refine awp_seq (awp_block ?_)
  by_cases h0 : node < 0 ∨ f + g.as.length ≤ node
  · have hE : leafE (f + g.as.length) node l = 1 := by simp [leafE, h0]
    by_cases h00 : node < 0
    · have hb : decide (node < 0) = true := by simpa using h00
      refine awp_seq (awp_pures [2, 7, 18] (by simp only [go_sem, ↓reduceIte, xa, xb, xc, xd, xe, xf, xg, xh, xi, xj, hb]; try rfl) ?_)
      refine awp_if rfl (fun _ => ?_) (fun h => by cases h)
      refine awp_seq (awp_pures [6] (by simp only [go_sem, ↓reduceIte, xa, xb, xc, xd, xe, xf, xg, xh, xi, xj]; try rfl) ?_)
      refine awp_ret ⟨_, rfl, ?_, hle⟩
      rw [hE]; rfl
    · have hb : decide (node < 0) = false := by simpa using h00
      have hb2 : decide (f + (g.as.length : Int) ≤ node) = true := by simp; omega
      refine awp_seq (awp_pures [2, 7, 18] (by simp only [go_sem, ↓reduceIte, xa, xb, xc, xd, xe, xf, xg, xh, xi, xj, hb, hb2, ge_iff_le]; try rfl) ?_)
      refine awp_if rfl (fun _ => ?_) (fun h => by cases h)
      refine awp_seq (awp_pures [6] (by simp only [go_sem, ↓reduceIte, xa, xb, xc, xd, xe, xf, xg, xh, xi, xj]; try rfl) ?_)
      refine awp_ret ⟨_, rfl, ?_, hle⟩
      rw [hE]; rfl
  · have hb : decide (node < 0) = false := by simp; omega
    have hb2 : decide (f + (g.as.length : Int) ≤ node) = false := by simp; omega
    refine awp_seq (awp_pures [2, 7, 18] (by simp only [go_sem, ↓reduceIte, xa, xb, xc, xd, xe, xf, xg, xh, xi, xj, hb, hb2, ge_iff_le]; try rfl) ?_)
    refine awp_if rfl (fun h => by cases h) (fun _ => ?_)
    by_cases h4 : 4 < (l.length : Int)
    · have hc : decide (4 < (l.length : Int)) = true := by simpa using h4
      refine awp_seq (awp_pures [2, 7, 26] (by simp only [go_sem, ↓reduceIte, xa, xb, xc, xd, xe, xf, xg, xh, xi, xj, hc, gt_iff_lt]; try rfl) ?_)
      refine awp_if rfl (fun _ => ?_) (fun h => by cases h)
      refine awp_seq (awp_pures [6] (by simp only [go_sem, ↓reduceIte, xa, xb, xc, xd, xe, xf, xg, xh, xi, xj]; try rfl) ?_)
      refine awp_ret ⟨_, rfl, ?_, hle⟩
      simp [leafE, h0, h4]
    · have hc : decide (4 < (l.length : Int)) = false := by simpa using h4
      have hlen : l.length ≤ 1000000 := by omega
      have hE : leafE (f + g.as.length) node l = lfGo (f + g.as.length) 0 l := by simp [leafE, h0, h4]
      refine awp_seq (awp_pures [2, 7, 26] (by simp only [go_sem, ↓reduceIte, xa, xb, xc, xd, xe, xf, xg, xh, xi, xj, hc, gt_iff_lt]; try rfl) ?_)
      refine awp_if rfl (fun h => by cases h) (fun _ => ?_)
      refine awp_skip ?_
      refine awp_seq (awp_pures [2, 7, 8] (by simp only [go_sem, ↓reduceIte, xa, xb, xc, xd, xe, xf, xg, xh, xi, xj]; try rfl) ?_)
      refine awp_seq ?_
      refine awp_seq (awp_pures [7, 8, 30, 31, 32] (by simp only [go_sem, ↓reduceIte, xa, xb, xc, xd, xe, xf, xg, xh, xi, xj]; try rfl) ?_)
      refine awp_block (awp_loop ?_)
      refine ALoop.cast3 (aloop_ind (α := Nat × Int) (fun a => a.1 ≤ l.length ∧ lfGo (f + g.as.length) 0 l = lfGo (f + g.as.length) a.2 (l.drop a.1)) (fun a => l.length - a.1)
        (fun a => [(7, .int .i64 (f + g.as.length)), (8, .int .i64 a.2), (30, .slice sb l.length sc), (31, .int .i64 l.length), (32, .int .i64 a.1)]) (fun _ => N + 1) (fun _ => σ.set N ⟨spread (graphV lb lc ab ac ob oc g f), true, 1⟩) ?_ (0, 0) ⟨Nat.zero_le _, rfl⟩) rfl rfl rfl
      rintro ⟨j, last⟩ ⟨hj, hpre⟩ ih
      dsimp only at hj hpre ih ⊢
      by_cases hlt : j < l.length
      · have hbb : decide ((j : Int) < (l.length : Int)) = true := by simpa using hlt
        refine awp_seq (awp_pures [7, 8, 30, 31, 32, 33] (by simp only [go_sem, ↓reduceIte, xa, xb, xc, xd, xe, xf, xg, xh, xi, xj, hbb]; try rfl) ?_)
        refine awp_seq ?_
        refine awp_if rfl (fun _ => ?_) (fun h => by cases h)
        refine awp_skip ?_
        refine awp_seq (awp_block ?_)
        have hjj : 0 ≤ (j : Int) ∧ (j : Int) < (l.length : Int) := by omega
        obtain ⟨id, off, cap, b, e1, e2, e3, e4⟩ := slAt_int (hv.mono hle) hlt
        cases e1
        first | refine awp_seq (awp_lit ?_) | refine awp_lit ?_ | refine awp_seq (awp_seq (awp_lit ?_))
        refine al_pureN 1 (by simp only [go_sem, ↓reduceIte, xa, xb, xc, xd, xe, xf, xg, xh, xi, xj, hjj]; try rfl) ?_
        refine al_load rfl (by simp only [go_sem, ↓reduceIte, xa, xb, xc, xd, xe, xf, xg, xh, xi, xj, hjj]) rfl (by simp only [go_sem, ↓reduceIte, xa, xb, xc, xd, xe, xf, xg, xh, xi, xj, hjj]; try rfl) e2 (loadA_scalar agg3 e3) ?_
        refine al_pureN 1 (by simp only [go_sem, ↓reduceIte, xa, xb, xc, xd, xe, xf, xg, xh, xi, xj, hjj]; try rfl) ?_
        refine al_end [7, 8, 10, 30, 31, 32] ?_
        have hstep : lfGo (f + g.as.length) last (l.drop j) = if l[j] ≤ last ∨ f + g.as.length ≤ l[j] then 1 else lfGo (f + g.as.length) l[j] (l.drop (j + 1)) := by
          rw [List.drop_eq_getElem_cons hlt, lfGo]
        by_cases hA : l[j] ≤ last ∨ f + g.as.length ≤ l[j]
        · have hE2 : lfGo (f + g.as.length) 0 l = 1 := by rw [hpre, hstep, if_pos hA]
          by_cases hA0 : l[j] ≤ last
          · have hb3 : decide (l[j] ≤ last) = true := by simpa using hA0
            refine awp_seq ?_
            refine awp_seq (awp_pures [7, 10, 30, 31, 32, 43] (by simp only [go_sem, ↓reduceIte, xa, xb, xc, xd, xe, xf, xg, xh, xi, xj, hb3]; try rfl) ?_)
            refine awp_if rfl (fun _ => ?_) (fun h => by cases h)
            refine awp_seq (awp_pures [6] (by simp only [go_sem, ↓reduceIte, xa, xb, xc, xd, xe, xf, xg, xh, xi, xj]; try rfl) ?_)
            refine awp_ret ⟨_, rfl, ?_, hle⟩
            rw [hE, hE2]; rfl
          · have hb3 : decide (l[j] ≤ last) = false := by simpa using hA0
            have hb4 : decide (f + (g.as.length : Int) ≤ l[j]) = true := by simp; omega
            refine awp_seq ?_
            refine awp_seq (awp_pures [7, 10, 30, 31, 32, 43] (by simp only [go_sem, ↓reduceIte, xa, xb, xc, xd, xe, xf, xg, xh, xi, xj, hb3, hb4, ge_iff_le]; try rfl) ?_)
            refine awp_if rfl (fun _ => ?_) (fun h => by cases h)
            refine awp_seq (awp_pures [6] (by simp only [go_sem, ↓reduceIte, xa, xb, xc, xd, xe, xf, xg, xh, xi, xj]; try rfl) ?_)
            refine awp_ret ⟨_, rfl, ?_, hle⟩
            rw [hE, hE2]; rfl
        · have hb3 : decide (l[j] ≤ last) = false := by simp; omega
          have hb4 : decide (f + (g.as.length : Int) ≤ l[j]) = false := by simp; omega
          refine awp_seq ?_
          refine awp_seq (awp_pures [7, 10, 30, 31, 32, 43] (by simp only [go_sem, ↓reduceIte, xa, xb, xc, xd, xe, xf, xg, xh, xi, xj, hb3, hb4, ge_iff_le]; try rfl) ?_)
          refine awp_if rfl (fun h => by cases h) (fun _ => ?_)
          refine awp_skip ?_
          refine awp_pures [7, 8, 30, 31, 32] (by simp only [go_sem, ↓reduceIte, xa, xb, xc, xd, xe, xf, xg, xh, xi, xj]; try rfl) ?_
          have hadd1 : -9223372036854775808 ≤ (j : Int) + 1 ∧ (j : Int) + 1 ≤ 9223372036854775807 := by omega
          refine awp_pures [7, 8, 30, 31, 32] (by simp only [go_sem, ↓reduceIte, xa, xb, xc, xd, xe, xf, xg, xh, xi, xj, i64_add hadd1]; try rfl) ?_
          refine ALoop.cast3 (ih (j + 1, l[j]) ⟨hlt, by rw [hpre, hstep, if_neg hA]⟩ (by dsimp only; omega)) rfl rfl rfl
      · have hbb : decide ((j : Int) < (l.length : Int)) = false := by simpa using hlt
        have hjm : j = l.length := by omega
        refine awp_seq (awp_pures [7, 8, 30, 31, 32, 33] (by simp only [go_sem, ↓reduceIte, xa, xb, xc, xd, xe, xf, xg, xh, xi, xj, hbb]; try rfl) ?_)
        refine awp_seq ?_
        refine awp_if rfl (fun h => by cases h) (fun _ => ?_)
        refine awp_exit ?_
        simp only [Go.Abs.Seq, Go.Abs.Round, Go.Abs.InBlock, ↓reduceIte]
        refine awp_seq (awp_pures [6] (by simp only [go_sem, ↓reduceIte, xa, xb, xc, xd, xe, xf, xg, xh, xi, xj]; try rfl) ?_)
        refine awp_ret ⟨_, rfl, ?_, hle⟩
        rw [hE, hpre, hjm]; simp [lfGo]
end Go.Proofs.Ytfialjllclclkaa

set_option linter.unusedSimpArgs false
set_option linter.unusedVariables false
namespace Go.Proofs.Ytfialjllclclkaa
open Go.Abs Go.Cut
attribute [local go_sem] Try.underlying26 Try.underlying66 Try.underlying69 Try.underlying3 Try.underlying22 Try.underlying23 Try.underlying24 Try.underlying35 Try.underlying43 Try.underlying45 Try.underlying47 Try.underlying5 Try.underlying4 Try.underlying30 Try.underlying56 size26 size66 size69 size3 size22 size23 size24 size35 size43 size45 size47 size5 size4 size30 Nat.mul_one
open Nat renaming reduceLT → xa, reduceEqDiff → xb, reduceLeDiff → xc, reduceAdd → xd, reduceMul → xe, reduceBEq → xj, add_assoc → ya, add_left_cancel_iff → yb, add_right_cancel_iff → yc, left_eq_add → yd, add_eq_left → ye, add_eq_right → yf, right_eq_add → yg, succ_ne_zero → yh
open Int renaming reduceLT → xf, reduceLE → xg, reduceToNat → xh
open BitVec renaming reduceOfInt → xi
def revI (l : List Int) (i : Nat) : List Int := (List.range l.length).map fun k => if k < i ∨ l.length - i ≤ k then l.getD (l.length - 1 - k) 0 else l.getD k 0
theorem revI_len (l : List Int) (i : Nat) : (revI l i).length = l.length := by simp [revI]
theorem revI_get (l : List Int) (i k : Nat) (hk : k < l.length) : (revI l i)[k]? = some (if k < i ∨ l.length - i ≤ k then l.getD (l.length - 1 - k) 0 else l.getD k 0) := by
  simp [revI, hk]
theorem revI_zero (l : List Int) : revI l 0 = l := by
  apply List.ext_getElem?
  intro k
  by_cases hk : k < l.length
  · rw [revI_get l 0 k hk, if_neg (by omega)]; simp [hk]
  · rw [List.getElem?_eq_none (by rw [revI_len]; omega), List.getElem?_eq_none (by omega)]
theorem revI_end (l : List Int) (i : Nat) (h : l.length - 1 - i ≤ i) : revI l i = l.reverse := by
  apply List.ext_getElem?
  intro k
  by_cases hk : k < l.length
  · rw [revI_get l i k hk, List.getElem?_reverse hk]
    by_cases hc : k < i ∨ l.length - i ≤ k
    · rw [if_pos hc]; simp [show l.length - 1 - k < l.length by omega]
    · rw [if_neg hc]
      have : l.length - 1 - k = k := by omega
      rw [this]; simp [hk]
  · rw [List.getElem?_eq_none (by rw [revI_len]; omega), List.getElem?_eq_none (by simp; omega)]
theorem revI_step (l : List Int) (i : Nat) (h : i < l.length - 1 - i) : ((revI l i).set i (l.getD (l.length - 1 - i) 0)).set (l.length - 1 - i) (l.getD i 0) = revI l (i + 1) := by
  apply List.ext_getElem?
  intro k
  by_cases hk : k < l.length
  · rw [revI_get l (i + 1) k hk]
    simp only [List.getElem?_set, List.length_set, revI_len]
    by_cases e1 : l.length - 1 - i = k
    · subst e1
      rw [if_pos rfl, if_pos (by omega), if_pos (by omega)]
      congr 2; omega
    · rw [if_neg e1]
      by_cases e2 : i = k
      · subst e2
        rw [if_pos rfl, if_pos (by omega), if_pos (by omega)]
      · rw [if_neg e2, revI_get l i k hk]
        by_cases hc : k < i ∨ l.length - i ≤ k
        · rw [if_pos hc, if_pos (by omega)]
        · rw [if_neg hc, if_neg (by omega)]
  · rw [List.getElem?_eq_none (by simp [revI_len]; omega), List.getElem?_eq_none (by rw [revI_len]; omega)]
theorem ints_flat (l : List Int) : (ints l).all flat = true := by simp [ints, flat, flat0]
theorem splice_ints {l : List Int} {i : Nat} {x : Int} (h : i < l.length) : splice (ints l) i [.int .i64 x] = ints (l.set i x) := by
  rw [splice_one (by simpa [ints] using h)]
  simp [ints, List.map_set]
theorem set_same {σ : AHeap} {i : Nat} {b : Blk} (h : σ i = some b) : σ.set i b = σ := by
  funext j
  unfold AHeap.set
  split
  · rename_i e; rw [e, h]
  · rfl
theorem Reverse_ok {l : List Int} {v : Value} {lo N : Nat} {σ : AHeap} (hv : OwnAt σ lo v (ints l) l.length 1) (hlen : l.length ≤ 1000000) :
    AOk Try.prog 48 [v] N σ fun r N1 σ1 => r = .tuple #[] ∧ N1 = N ∧ OwnAt σ1 lo v (ints l.reverse) l.length 1 ∧ ∀ τ : AHeap, τ.le σ → (∀ i b, τ i = some b → i < lo) → τ.le σ1 := by
  refine aok_fresh fun hN => aok_body (r := false) (n := 28) Try.func48 rfl rfl (by simp) ?_
  have hol : ∀ l : List Int, (ints l).length = l.length := fun l => by simp [ints]
  rcases hv with ⟨rfl, h2, h3⟩ | ⟨id, cap, h1, rfl, h3, h4, h5⟩
  · have hl0 : l = [] := List.eq_nil_of_length_eq_zero h2
    subst hl0
    have hz : intA .sub .i64 ((0 : Nat) : Int) 1 = some (.int .i64 (-1)) := rfl
    refine awp_seq (awp_pures [0, 2, 3] (by simp only [go_sem, ↓reduceIte, xa, xb, xc, xd, xe, xf, xg, xh, xi, xj, hz]; try rfl) ?_)
    refine awp_block (awp_loop ?_)
    refine aloop_round ?_
    refine awp_seq ?_
    refine awp_seq (awp_pures [0, 2, 3, 9] (by simp only [go_sem, ↓reduceIte, xa, xb, xc, xd, xe, xf, xg, xh, xi, xj]; try rfl) ?_)
    refine awp_if rfl (fun h => by cases h) (fun _ => ?_)
    refine awp_exit ?_
    simp only [Go.Abs.Seq, Go.Abs.Round, Go.Abs.InBlock, ↓reduceIte]
    exact ⟨_, rfl, rfl, rfl, .inl ⟨rfl, rfl, rfl⟩, fun τ h _ => h⟩
  · have hs0 : -9223372036854775808 ≤ (l.length : Int) - 1 ∧ (l.length : Int) - 1 ≤ 9223372036854775807 := by omega
    refine awp_seq (awp_pures [0, 2, 3] (by simp only [go_sem, ↓reduceIte, xa, xb, xc, xd, xe, xf, xg, xh, xi, xj, i64_sub hs0]; try rfl) ?_)
    refine awp_block (awp_loop ?_)
    refine ALoop.cast3 (aloop_ind (α := Nat) (fun a => a ≤ l.length) (fun a => l.length - a)
      (fun a => [(0, .slice (some ⟨id, 0, none⟩) l.length cap), (2, .int .i64 a), (3, .int .i64 (l.length - 1 - a))]) (fun _ => N) (fun a => σ.set id ⟨ints (revI l a), true, 1⟩) ?_ 0 (Nat.zero_le _)) (by simp [Env.keep, Env.get]) rfl ?_
    · intro i hi ih
      by_cases hlt : (i : Int) < l.length - 1 - i
      · have hb : decide ((i : Int) < (l.length : Int) - 1 - (i : Int)) = true := by simpa using hlt
        refine awp_seq ?_
        refine awp_seq (awp_pures [0, 2, 3, 9] (by simp only [go_sem, ↓reduceIte, xa, xb, xc, xd, xe, xf, xg, xh, xi, xj, hb]; try rfl) ?_)
        refine awp_if rfl (fun _ => ?_) (fun h => by cases h)
        refine awp_skip ?_
        refine awp_seq (awp_block ?_)
        have hi1 : 0 ≤ (i : Int) ∧ (i : Int) < (l.length : Int) := by omega
        obtain ⟨j, hj⟩ : ∃ j : Nat, j = l.length - 1 - i := ⟨_, rfl⟩
        have hjc : (l.length : Int) - 1 - (i : Int) = (j : Int) := by omega
        have hj1 : 0 ≤ (j : Int) ∧ (j : Int) < (l.length : Int) := by omega
        rw [hjc]
        have g1 : (ints (revI l i))[j]? = some (.int .i64 (l.getD j 0)) := by
          simp only [ints, List.getElem?_map, revI_get l i j (by omega)]
          rw [if_neg (by omega)]; rfl
        have g2 : (ints (revI l i))[i]? = some (.int .i64 (l.getD i 0)) := by
          simp only [ints, List.getElem?_map, revI_get l i i (by omega)]
          rw [if_neg (by omega)]; rfl
        have hsp : splice (ints (revI l i)) i (spread (.int .i64 (l.getD j 0))) = ints ((revI l i).set i (l.getD j 0)) := by
          exact splice_ints (by rw [revI_len]; omega)
        refine awp_wr [0, 2, 3] (id) [13, 15] (by kernel_rfl) fun hNq => ?_
        refine tw_pures 6 (by simp only [go_sem, ↓reduceIte, xa, xb, xc, xd, xe, xf, xg, xh, xi, xj, hi1, hj1]; try rfl) ?_
        refine tw_pures 1 (by simp only [go_sem, ↓reduceIte, xa, xb, xc, xd, xe, xf, xg, xh, xi, xj, hi1, hj1]; try rfl) ?_
        refine tw_loadw hNq rfl (by simp only [go_sem, ↓reduceIte, xa, xb, xc, xd, xe, xf, xg, xh, xi, xj, hi1, hj1]; try rfl) rfl (by simp only [go_sem, ↓reduceIte, xa, xb, xc, xd, xe, xf, xg, xh, xi, xj, hi1, hj1]; try rfl) (AHeap.set_self _ _ _) ⟨_, rfl⟩ (by kernel_rfl) (loadA_scalar agg3 g1) ?_
        refine tw_pures 3 (by simp only [go_sem, ↓reduceIte, xa, xb, xc, xd, xe, xf, xg, xh, xi, xj, hi1, hj1]; try rfl) ?_
        refine tw_loadw hNq rfl (by simp only [go_sem, ↓reduceIte, xa, xb, xc, xd, xe, xf, xg, xh, xi, xj, hi1, hj1]; try rfl) rfl (by simp only [go_sem, ↓reduceIte, xa, xb, xc, xd, xe, xf, xg, xh, xi, xj, hi1, hj1]; try rfl) (AHeap.set_self _ _ _) ⟨_, rfl⟩ (by kernel_rfl) (loadA_scalar agg3 g2) ?_
        refine tw_pures 1 (by simp only [go_sem, ↓reduceIte, xa, xb, xc, xd, xe, xf, xg, xh, xi, xj, hi1, hj1]; try rfl) ?_
        refine tw_store hNq rfl (by simp only [go_sem, ↓reduceIte, xa, xb, xc, xd, xe, xf, xg, xh, xi, xj, hi1, hj1]; try rfl) rfl (by simp only [go_sem, ↓reduceIte, xa, xb, xc, xd, xe, xf, xg, xh, xi, xj, hi1, hj1]; try rfl) (by simp only [go_sem, ↓reduceIte, xa, xb, xc, xd, xe, xf, xg, xh, xi, xj, hi1, hj1]; try rfl) (AHeap.set_self _ _ _) ⟨_, rfl⟩ rfl (by exact size3.trans rfl) rfl (by show i + 1 ≤ (ints (revI l i)).length; rw [hol, revI_len]; omega) (by decide) (.of_flat rfl) (blk_flat (ints_flat _)) fun hNq => ?_
        refine tw_pures 1 (by simp only [go_sem, ↓reduceIte, xa, xb, xc, xd, xe, xf, xg, xh, xi, xj, hi1, hj1]; try rfl) ?_
        refine tw_store hNq rfl (by simp only [go_sem, ↓reduceIte, xa, xb, xc, xd, xe, xf, xg, xh, xi, xj, hi1, hj1]; try rfl) rfl (by simp only [go_sem, ↓reduceIte, xa, xb, xc, xd, xe, xf, xg, xh, xi, xj, hi1, hj1]; try rfl) (by simp only [go_sem, ↓reduceIte, xa, xb, xc, xd, xe, xf, xg, xh, xi, xj, hi1, hj1]; try rfl) (AHeap.set_self _ _ _) ⟨_, rfl⟩ rfl (by exact size3.trans rfl) rfl (by show j + 1 ≤ (splice (ints (revI l i)) i (spread (.int .i64 (l.getD j 0)))).length; rw [hsp, hol, List.length_set, revI_len]; omega) (by decide) (.of_flat rfl) (by show BlkBdd _ ⟨splice (ints (revI l i)) i (spread (.int .i64 (l.getD j 0))), true, .n 1⟩; rw [hsp]; exact blk_flat (ints_flat _)) fun hNq => ?_
        refine tw_end ?_
        have hsp2 : splice (splice (ints (revI l i)) i (spread (.int .i64 (l.getD j 0)))) j (spread (.int .i64 (l.getD i 0))) = ints (revI l (i + 1)) := by
          rw [hsp]
          show splice _ _ [_] = _
          rw [splice_ints (by rw [List.length_set, revI_len]; omega), ← revI_step l i (by omega), hj]
        have hadd1 : -9223372036854775808 ≤ (i : Int) + 1 ∧ (i : Int) + 1 ≤ 9223372036854775807 := by omega
        have hsub1 : -9223372036854775808 ≤ (j : Int) - 1 ∧ (j : Int) - 1 ≤ 9223372036854775807 := by omega
        refine awp_pures [0, 2, 3] (by simp only [go_sem, ↓reduceIte, xa, xb, xc, xd, xe, xf, xg, xh, xi, xj, i64_add hadd1, i64_sub hsub1]; try rfl) ?_
        refine ALoop.cast3 (ih (i + 1) (by omega) (by omega)) ?_ rfl ?_
        · have he : (j : Int) - 1 = (l.length : Int) - 1 - ((i + 1 : Nat) : Int) := by omega
          rw [he]; rfl
        · rw [AHeap.set_set, AHeap.set_set]
          exact congrArg (fun c => σ.set id ⟨c, true, 1⟩) hsp2
      · have hb : decide ((i : Int) < (l.length : Int) - 1 - (i : Int)) = false := by simpa using hlt
        refine awp_seq ?_
        refine awp_seq (awp_pures [0, 2, 3, 9] (by simp only [go_sem, ↓reduceIte, xa, xb, xc, xd, xe, xf, xg, xh, xi, xj, hb]; try rfl) ?_)
        refine awp_if rfl (fun h => by cases h) (fun _ => ?_)
        refine awp_exit ?_
        simp only [Go.Abs.Seq, Go.Abs.Round, Go.Abs.InBlock, ↓reduceIte]
        refine ⟨_, rfl, rfl, rfl, .inr ⟨id, cap, h1, rfl, h3, ?_, by rw [hol]; simp⟩, fun τ hτ hlt => ?_⟩
        · rw [AHeap.set_self, revI_end l i (by omega)]; rfl
        · exact AHeap.le_set hτ fun k b hb => by have := hlt k b hb; omega
    · rw [revI_zero]
      exact (set_same h4).symm
end Go.Proofs.Ytfialjllclclkaa

set_option linter.unusedSimpArgs false
set_option linter.unusedVariables false
namespace Go.Proofs.Ytfialjllclclkaa
open Go.Abs Go.Cut
attribute [local go_sem] Try.underlying26 Try.underlying66 Try.underlying69 Try.underlying3 Try.underlying22 Try.underlying23 Try.underlying24 Try.underlying35 Try.underlying43 Try.underlying45 Try.underlying47 Try.underlying5 Try.underlying4 Try.underlying30 Try.underlying56 size26 size66 size69 size3 size22 size23 size24 size35 size43 size45 size47 size5 size4 size30 Nat.mul_one
open Nat renaming reduceLT → xa, reduceEqDiff → xb, reduceLeDiff → xc, reduceAdd → xd, reduceMul → xe, reduceBEq → xj, add_assoc → ya, add_left_cancel_iff → yb, add_right_cancel_iff → yc, left_eq_add → yd, add_eq_left → ye, add_eq_right → yf, right_eq_add → yg, succ_ne_zero → yh
open Int renaming reduceLT → xf, reduceLE → xg, reduceToNat → xh
open BitVec renaming reduceOfInt → xi
theorem quo_two {a : Int} (h : 0 ≤ a) (h2 : a ≤ 1000000000) : intA .quo .i64 a 2 = some (.int .i64 (a / 2)) := by
  simp only [intA]
  rw [if_neg (by decide), Int.tdiv_eq_ediv_of_nonneg h, IntWalk.i64_in _ (by omega)]
theorem splice_bools {u : Nat → Bool} {n k : Nat} (h : k < n) : splice (bools u n) k [.bool true] = bools (fun j => u j || j == k) n := by
  rw [splice_one (by rw [bools_len]; exact h), bools_set]
theorem set_mono {σ τ : AHeap} (h : σ.le τ) (i : Nat) (b : Blk) : (σ.set i b).le (τ.set i b) := fun j b' hb => by
  unfold AHeap.set at hb ⊢
  split at hb
  · rename_i e; rw [if_pos e]; exact hb
  · rename_i e; rw [if_neg e]; exact h _ _ hb
structure ConeSt where
  v : Nat
  u : Nat → Bool
  out : List Int
  M : Nat
  τ : AHeap
  sv : Value
theorem cone_ok {g : AigD} {lb ab ob : Option Addr} {lc ac oc f : Nat} {node : Int} {lv : Value} {l : List Int} {N : Nat} {σ : AHeap} (ha : RowsAt σ 2 (.slice ab g.as.length ac) (pairsV .i64 .i64 g.as)) (hl : SlAt σ lv (ints l))
    (hf : f ≤ 400000) (has : g.as.length ≤ 400000) (hchk : chkA f g.as = true) :
    AOk Try.prog 43 [graphV lb lc ab ac ob oc g f, .int .i64 node, lv] N σ fun r N1 σ1 => ∃ sv, r = .tuple #[sv, .int .i64 (coneE f g.as l node).2] ∧ OwnAt σ1 N sv (ints (coneE f g.as l node).1) (coneE f g.as l node).1.length 1 ∧ σ.le σ1 ∧ N ≤ N1 := by
  have hol : ∀ l : List Int, (ints l).length = l.length := fun l => by simp [ints]
  have hl0 := hl
  obtain ⟨sb, sc, rfl⟩ := hl.len
  rw [hol] at hl hl0 ⊢
  refine aok_fresh fun hN => aok_body (r := false) (n := 65) Try.func43 rfl rfl (by simp) ?_
  unfold graphV
  first | refine awp_seq (awp_lit ?_) | refine awp_lit ?_ | refine awp_seq (awp_seq (awp_lit ?_))
  refine al_box 1 rfl rfl rfl (by simp only [go_sem, ↓reduceIte, xa, xb, xc, xd, xe, xf, xg, xh, xi, xj]; try rfl) ?_
  refine al_pureN 2 (by simp only [go_sem, ↓reduceIte, xa, xb, xc, xd, xe, xf, xg, xh, xi, xj]; try rfl) ?_
  refine al_end [1, 2, 3, 6] ?_
  have hle : σ.le (σ.set N ⟨spread (graphV lb lc ab ac ob oc g f), true, 1⟩) := le_new hN (Nat.le_refl _)
  refine awp_seq ?_
  first | refine awp_seq (awp_lit ?_) | refine awp_lit ?_ | refine awp_seq (awp_seq (awp_lit ?_))
  refine al_load rfl (by simp only [go_sem, ↓reduceIte, xa, xb, xc, xd, xe, xf, xg, xh, xi, xj]) rfl (by simp only [go_sem, ↓reduceIte, xa, xb, xc, xd, xe, xf, xg, xh, xi, xj]; try rfl) (by first | exact AHeap.set_self _ _ _ | (simp only [AHeap.set, ↓reduceIte, ya, xd, yb, yc, yd, ye, yf, yg, xb, yh]; rfl) | assumption) (by first | exact loadA_scalar agg66 rfl | exact loadA_agg agg66 rfl | exact loadA_scalar agg66 (by assumption)) ?_
  refine al_pureN 2 (by simp only [go_sem, ↓reduceIte, xa, xb, xc, xd, xe, xf, xg, xh, xi, xj]; try rfl) ?_
  refine al_gives (vs := ?vs1) (v := ?v1) rfl ?ha1 ?hh1 (by kernel_rfl) rfl (by simp only [go_sem, ↓reduceIte, xa, xb, xc, xd, xe, xf, xg, xh, xi, xj]) ?kk1
  case ha1 => simp only [go_sem, ↓reduceIte, xa, xb, xc, xd, xe, xf, xg, xh, xi, xj]; try rfl
  case hh1 => exact leafSet_gives (g := g) (f := (f : Int)) (hl.mono hle) (by omega) (by omega) (by omega)
  refine al_pureN 1 (by simp only [go_sem, ↓reduceIte, xa, xb, xc, xd, xe, xf, xg, xh, xi, xj]; try rfl) ?_
  refine al_end [1, 2, 3, 6, 8] ?_
  by_cases hE : leafE ((f : Int) + g.as.length) node l = 0
  · have hlen : l.length ≤ 1000000 := Nat.le_trans (leafE_len hE) (by decide)
    have hb : (leafE ((f : Int) + (g.as.length : Int)) node l != 0) = false := by simpa using hE
    refine awp_seq (awp_pures [1, 2, 3, 6, 8, 18] (by simp only [go_sem, ↓reduceIte, xa, xb, xc, xd, xe, xf, xg, xh, xi, xj, hb]; try rfl) ?_)
    refine awp_if rfl (fun h => by cases h) (fun _ => ?_)
    refine awp_skip ?_
    obtain ⟨m, rfl⟩ : ∃ m : Nat, node = m := by
      refine ⟨node.toNat, ?_⟩
      unfold leafE at hE
      split at hE
      · cases hE
      · omega
    have hm : m < f + g.as.length := by
      unfold leafE at hE
      split at hE
      · cases hE
      · omega
    have hadd : -9223372036854775808 ≤ (m : Int) + 1 ∧ (m : Int) + 1 ≤ 9223372036854775807 := by omega
    first | refine awp_seq (awp_lit ?_) | refine awp_lit ?_ | refine awp_seq (awp_seq (awp_lit ?_))
    refine al_pureN 2 (by simp only [go_sem, ↓reduceIte, xa, xb, xc, xd, xe, xf, xg, xh, xi, xj, i64_add hadd]; try rfl) ?_
    refine al_makeSlice (len := m + 1) rfl (by simp only [go_sem, ↓reduceIte, xa, xb, xc, xd, xe, xf, xg, xh, xi, xj, i64_add hadd]; try rfl) rfl Try.underlying56 ty4 (by decide) rfl (by decide) (by simp only [go_sem, ↓reduceIte, xa, xb, xc, xd, xe, xf, xg, xh, xi, xj, i64_add hadd]; try rfl) (by simp only [go_sem, ↓reduceIte, xa, xb, xc, xd, xe, xf, xg, xh, xi, xj, i64_add hadd]; try rfl) (by omega) (by omega) ?_
    refine al_pureN 1 (by simp only [go_sem, ↓reduceIte, xa, xb, xc, xd, xe, xf, xg, xh, xi, xj, i64_add hadd]; try rfl) ?_
    refine al_end [1, 2, 3, 6, 9] ?_
    rw [bools_zero]
    have hm1 : 0 ≤ (m : Int) ∧ (m : Int) < ((m + 1 : Nat) : Int) := by omega
    first | refine awp_seq (awp_lit ?_) | refine awp_lit ?_ | refine awp_seq (awp_seq (awp_lit ?_))
    refine al_pureN 3 (by simp only [go_sem, ↓reduceIte, xa, xb, xc, xd, xe, xf, xg, xh, xi, xj, hm1]; try rfl) ?_
    refine al_store1 rfl (by simp only [go_sem, ↓reduceIte, xa, xb, xc, xd, xe, xf, xg, xh, xi, xj, hm1]; try rfl) rfl (by simp only [go_sem, ↓reduceIte, xa, xb, xc, xd, xe, xf, xg, xh, xi, xj, hm1]; try rfl) (by simp only [go_sem, ↓reduceIte, xa, xb, xc, xd, xe, xf, xg, xh, xi, xj, hm1]; try rfl) (AHeap.set_self _ _ _) rfl size4 rfl rfl (by show m < (bools _ _).length; rw [bools_len]; omega) ?_
    refine al_end [1, 2, 3, 6, 9] ?_
    rw [AHeap.set_set]
    have hcs : (bools (fun _ => false) (m + 1)).set m (.bool true) = bools (fun k => k == m) (m + 1) := by
      rw [bools_set]; congr 1
    have hce : coneE f g.as l (m : Int) = coneR f g.as l m := by simp [coneE, hE]
    rw [hce]
    show Abs.Seq _ _ _ _ _ _ _ _ (AHeap.set _ (N + 1) ⟨(bools (fun _ => false) (m + 1)).set m (.bool true), true, .n 1⟩)
    rw [hcs]
    refine awp_seq ?_
    refine awp_seq (awp_pures [2, 3, 6, 9, 10] (by simp only [go_sem, ↓reduceIte, xa, xb, xc, xd, xe, xf, xg, xh, xi, xj]; try rfl) ?_)
    refine awp_block (awp_loop ?_)
    refine ALoop.cast3 (aloop_ind (α := ConeSt) (fun a => a.v ≤ m ∧ N + 2 ≤ a.M ∧ a.τ (N + 1) = some ⟨bools a.u (m + 1), true, 1⟩ ∧ OwnAt a.τ (N + 2) a.sv (ints a.out) a.out.length 1 ∧ (σ.set N ⟨spread (graphV lb lc ab ac ob oc g f), true, 1⟩).le a.τ ∧ a.out.length + a.v ≤ m ∧
        coneL f g.as l m (fun k => k == m) [] = coneL f g.as l a.v a.u a.out) (fun a => a.v)
      (fun a => [(2, .slice sb l.length sc), (3, .pointer (some ⟨N, 0, none⟩)), (6, a.sv), (9, .slice (some ⟨N + 1, 0, none⟩) (m + 1) (m + 1)), (10, .int .i64 a.v)]) (fun a => a.M) (fun a => a.τ) ?_
      ⟨m, fun k => k == m, [], N + 2, _, .slice none 0 0⟩ ⟨Nat.le_refl _, Nat.le_refl _, AHeap.set_self _ _ _, .nil, le_new (dom_set hN) (Nat.le_refl _), by simp, rfl⟩) rfl rfl rfl
    rintro ⟨v, u, out, M, τ, sv⟩ ⟨hv, hM, hU, hout, hτ, hol2, hpre⟩ ih
    dsimp only at hv hM hU hout hτ hol2 hpre ih ⊢
    have hστ : σ.le τ := hle.trans hτ
    have hG : τ N = some ⟨spread (graphV lb lc ab ac ob oc g f), true, 1⟩ := hτ _ _ (AHeap.set_self _ _ _)
    cases v with
    | zero =>
      refine awp_seq ?_
      refine awp_seq (awp_pures [2, 3, 6, 9, 10, 28] (by simp only [go_sem, ↓reduceIte, xa, xb, xc, xd, xe, xf, xg, xh, xi, xj]; try rfl) ?_)
      refine awp_if rfl (fun h => by cases h) (fun _ => ?_)
      refine awp_exit ?_
      simp only [Go.Abs.Seq, Go.Abs.Round, Go.Abs.InBlock, ↓reduceIte]
      first | refine awp_seq (awp_lit ?_) | refine awp_lit ?_ | refine awp_seq (awp_seq (awp_lit ?_))
      refine al_pureN 1 (by simp only [go_sem, ↓reduceIte, xa, xb, xc, xd, xe, xf, xg, xh, xi, xj]; try rfl) ?_
      refine al_fun (Reverse_ok hout (by omega)) rfl (by simp only [go_sem, ↓reduceIte, xa, xb, xc, xd, xe, xf, xg, xh, xi, xj]; try rfl) (by kernel_rfl) rfl (by simp only [go_sem, ↓reduceIte, xa, xb, xc, xd, xe, xf, xg, xh, xi, xj]; try rfl) ?_
      rintro r N1 σ1 ⟨rfl, rfl, ho1, hk1⟩
      refine al_end [6] ?_
      refine awp_seq (awp_pures [6, 7] (by simp only [go_sem, ↓reduceIte, xa, xb, xc, xd, xe, xf, xg, xh, xi, xj]; try rfl) ?_)
      have hR : coneR f g.as l m = (out.reverse, 0) := by unfold coneR; rw [hpre, coneL]
      rw [hR]
      refine awp_ret ⟨_, res_tt rfl rfl rfl, sv, rfl, ?_, hk1 σ hστ (fun i b hb => by have := hN i b hb; omega), by omega⟩
      rw [List.length_reverse]
      exact ho1.mono (fun i b _ h => h) (by omega)
    | succ v =>
      have hb7 : decide (((v + 1 : Nat) : Int) > 0) = true := by simp
      refine awp_seq ?_
      refine awp_seq (awp_pures [2, 3, 6, 9, 10, 28] (by simp only [go_sem, ↓reduceIte, xa, xb, xc, xd, xe, xf, xg, xh, xi, xj, hb7]; try rfl) ?_)
      refine awp_if rfl (fun _ => ?_) (fun h => by cases h)
      refine awp_skip ?_
      refine awp_seq (awp_block ?_)
      refine awp_seq (awp_block ?_)
      have hidx : 0 ≤ ((v + 1 : Nat) : Int) ∧ ((v + 1 : Nat) : Int) < ((m + 1 : Nat) : Int) := by omega
      have hg := bools_get u (show v + 1 < m + 1 by omega)
      have hsub : -9223372036854775808 ≤ ((v + 1 : Nat) : Int) - 1 ∧ ((v + 1 : Nat) : Int) - 1 ≤ 9223372036854775807 := by omega
      have hv1 : ((v + 1 : Nat) : Int) - 1 = (v : Int) := by omega
      by_cases hskip : u (v + 1) = false ∨ ((v + 1 : Nat) : Int) ∈ l
      · have hstep : coneL f g.as l (v + 1) u out = coneL f g.as l v u out := by rw [coneL, if_pos hskip]
        by_cases hu : u (v + 1) = false
        · first | refine awp_seq (awp_lit ?_) | refine awp_lit ?_ | refine awp_seq (awp_seq (awp_lit ?_))
          refine al_pureN 3 (by simp only [go_sem, ↓reduceIte, xa, xb, xc, xd, xe, xf, xg, xh, xi, xj, hidx, hu]; try rfl) ?_
          refine al_load rfl (by simp only [go_sem, ↓reduceIte, xa, xb, xc, xd, xe, xf, xg, xh, xi, xj, hidx, hu]) rfl (by simp only [go_sem, ↓reduceIte, xa, xb, xc, xd, xe, xf, xg, xh, xi, xj, hidx, hu]; try rfl) hU (loadA_scalar agg4 hg) ?_
          refine al_pureN 4 (by simp only [go_sem, ↓reduceIte, xa, xb, xc, xd, xe, xf, xg, xh, xi, xj, hidx, hu]; try rfl) ?_
          refine al_pureN 1 (by simp only [go_sem, ↓reduceIte, xa, xb, xc, xd, xe, xf, xg, xh, xi, xj, hidx, hu, undef]; try rfl) ?_
          refine al_pureN 2 (by simp only [go_sem, ↓reduceIte, xa, xb, xc, xd, xe, xf, xg, xh, xi, xj, hidx, hu]; try rfl) ?_
          refine al_end [2, 3, 6, 9, 10, 31] ?_
          refine awp_if rfl (fun _ => ?_) (fun h => by cases h)
          refine awp_exit ?_
          simp only [Go.Abs.Seq, Go.Abs.Round, Go.Abs.InBlock, ↓reduceIte]
          refine awp_pures [2, 3, 6, 9, 10] (by simp only [go_sem, ↓reduceIte, xa, xb, xc, xd, xe, xf, xg, xh, xi, xj, i64_sub hsub, hv1]; try rfl) ?_
          refine ALoop.cast3 (ih ⟨v, u, out, M, τ, sv⟩ ⟨by dsimp only; omega, hM, hU, hout, hτ, by dsimp only; omega, by rw [hpre, hstep]⟩ (by dsimp only; omega)) rfl rfl rfl
        · have hu1 : u (v + 1) = true := by simpa using hu
          have hmem : decide (((v + 1 : Nat) : Int) ∈ l) = true := by simpa [hu1] using hskip
          first | refine awp_seq (awp_lit ?_) | refine awp_lit ?_ | refine awp_seq (awp_seq (awp_lit ?_))
          refine al_pureN 3 (by simp only [go_sem, ↓reduceIte, xa, xb, xc, xd, xe, xf, xg, xh, xi, xj, hidx, hu1, hmem]; try rfl) ?_
          refine al_load rfl (by simp only [go_sem, ↓reduceIte, xa, xb, xc, xd, xe, xf, xg, xh, xi, xj, hidx, hu1, hmem]) rfl (by simp only [go_sem, ↓reduceIte, xa, xb, xc, xd, xe, xf, xg, xh, xi, xj, hidx, hu1, hmem]; try rfl) hU (loadA_scalar agg4 hg) ?_
          refine al_pureN 4 (by simp only [go_sem, ↓reduceIte, xa, xb, xc, xd, xe, xf, xg, xh, xi, xj, hidx, hu1, hmem]; try rfl) ?_
          refine al_gives (vs := ?vs2) (v := ?v2) rfl ?ha2 ?hh2 (by kernel_rfl) rfl (by simp only [go_sem, ↓reduceIte, xa, xb, xc, xd, xe, xf, xg, xh, xi, xj, hidx, hu1, hmem]) ?kk2
          case ha2 => simp only [go_sem, ↓reduceIte, xa, xb, xc, xd, xe, xf, xg, xh, xi, xj, hidx, hu1, hmem]; try rfl
          case hh2 => exact Contains_gives (hl.mono hστ) hlen
          refine al_pureN 2 (by simp only [go_sem, ↓reduceIte, xa, xb, xc, xd, xe, xf, xg, xh, xi, xj, hidx, hu1, hmem]; try rfl) ?_
          refine al_end [2, 3, 6, 9, 10, 31] ?_
          refine awp_if rfl (fun _ => ?_) (fun h => by cases h)
          refine awp_exit ?_
          simp only [Go.Abs.Seq, Go.Abs.Round, Go.Abs.InBlock, ↓reduceIte]
          refine awp_pures [2, 3, 6, 9, 10] (by simp only [go_sem, ↓reduceIte, xa, xb, xc, xd, xe, xf, xg, xh, xi, xj, i64_sub hsub, hv1]; try rfl) ?_
          refine ALoop.cast3 (ih ⟨v, u, out, M, τ, sv⟩ ⟨by dsimp only; omega, hM, hU, hout, hτ, by dsimp only; omega, by rw [hpre, hstep]⟩ (by dsimp only; omega)) rfl rfl rfl
      · have hu1 : u (v + 1) = true := by
          cases h : u (v + 1) with
          | true => rfl
          | false => exact absurd (.inl h) hskip
        have hmem : decide (((v + 1 : Nat) : Int) ∈ l) = false := by simpa using fun h => hskip (.inr h)
        first | refine awp_seq (awp_lit ?_) | refine awp_lit ?_ | refine awp_seq (awp_seq (awp_lit ?_))
        refine al_pureN 3 (by simp only [go_sem, ↓reduceIte, xa, xb, xc, xd, xe, xf, xg, xh, xi, xj, hidx, hu1, hmem]; try rfl) ?_
        refine al_load rfl (by simp only [go_sem, ↓reduceIte, xa, xb, xc, xd, xe, xf, xg, xh, xi, xj, hidx, hu1, hmem]) rfl (by simp only [go_sem, ↓reduceIte, xa, xb, xc, xd, xe, xf, xg, xh, xi, xj, hidx, hu1, hmem]; try rfl) hU (loadA_scalar agg4 hg) ?_
        refine al_pureN 4 (by simp only [go_sem, ↓reduceIte, xa, xb, xc, xd, xe, xf, xg, xh, xi, xj, hidx, hu1, hmem]; try rfl) ?_
        refine al_gives (vs := ?vs3) (v := ?v3) rfl ?ha3 ?hh3 (by kernel_rfl) rfl (by simp only [go_sem, ↓reduceIte, xa, xb, xc, xd, xe, xf, xg, xh, xi, xj, hidx, hu1, hmem]) ?kk3
        case ha3 => simp only [go_sem, ↓reduceIte, xa, xb, xc, xd, xe, xf, xg, xh, xi, xj, hidx, hu1, hmem]; try rfl
        case hh3 => exact Contains_gives (hl.mono hστ) hlen
        refine al_pureN 2 (by simp only [go_sem, ↓reduceIte, xa, xb, xc, xd, xe, xf, xg, xh, xi, xj, hidx, hu1, hmem]; try rfl) ?_
        refine al_end [2, 3, 6, 9, 10, 31] ?_
        refine awp_if rfl (fun h => by cases h) (fun _ => ?_)
        by_cases hvf : v + 1 < f
        · have hb8 : decide (((v + 1 : Nat) : Int) < (f : Int)) = true := by simp; omega
          first | refine awp_seq (awp_lit ?_) | refine awp_lit ?_ | refine awp_seq (awp_seq (awp_lit ?_))
          refine al_pureN 2 (by simp only [go_sem, ↓reduceIte, xa, xb, xc, xd, xe, xf, xg, xh, xi, xj, hb8]; try rfl) ?_
          refine al_load rfl (by simp only [go_sem, ↓reduceIte, xa, xb, xc, xd, xe, xf, xg, xh, xi, xj, hb8]) rfl (by simp only [go_sem, ↓reduceIte, xa, xb, xc, xd, xe, xf, xg, xh, xi, xj, hb8]; try rfl) hG (loadA_scalar agg3 rfl) ?_
          refine al_pureN 2 (by simp only [go_sem, ↓reduceIte, xa, xb, xc, xd, xe, xf, xg, xh, xi, xj, hb8]; try rfl) ?_
          refine al_end [2, 3, 6, 9, 10, 42] ?_
          refine awp_if rfl (fun _ => ?_) (fun h => by cases h)
          refine awp_seq (awp_pures [6, 7] (by simp only [go_sem, ↓reduceIte, xa, xb, xc, xd, xe, xf, xg, xh, xi, xj]; try rfl) ?_)
          have hR : coneR f g.as l m = ([], 8) := by unfold coneR; rw [hpre, coneL, if_neg hskip, if_pos hvf]
          rw [hR]
          exact awp_ret ⟨_, res_tt rfl rfl rfl, .slice none 0 0, rfl, .nil, hστ, by omega⟩
        · have hb8 : decide (((v + 1 : Nat) : Int) < (f : Int)) = false := by simp; omega
          first | refine awp_seq (awp_lit ?_) | refine awp_lit ?_ | refine awp_seq (awp_seq (awp_lit ?_))
          refine al_pureN 2 (by simp only [go_sem, ↓reduceIte, xa, xb, xc, xd, xe, xf, xg, xh, xi, xj, hb8]; try rfl) ?_
          refine al_load rfl (by simp only [go_sem, ↓reduceIte, xa, xb, xc, xd, xe, xf, xg, xh, xi, xj, hb8]) rfl (by simp only [go_sem, ↓reduceIte, xa, xb, xc, xd, xe, xf, xg, xh, xi, xj, hb8]; try rfl) hG (loadA_scalar agg3 rfl) ?_
          refine al_pureN 2 (by simp only [go_sem, ↓reduceIte, xa, xb, xc, xd, xe, xf, xg, xh, xi, xj, hb8]; try rfl) ?_
          refine al_end [2, 3, 6, 9, 10, 42] ?_
          refine awp_if rfl (fun h => by cases h) (fun _ => ?_)
          refine awp_skip ?_
          obtain ⟨j, hj⟩ : ∃ j, j = v + 1 - f := ⟨_, rfl⟩
          have hjl : j < g.as.length := by omega
          have hjx : ((v + 1 : Nat) : Int) - (f : Int) = (j : Int) := by omega
          have ha3 := ha.mono hστ
          obtain ⟨b1, b2, b3, b4⟩ := chkA_get hchk hjl
          have hgd : g.as.getD (v + 1 - f) (0, 0) = g.as[j] := by rw [← hj]; simp [List.getD, hjl]
          have hstep : coneL f g.as l (v + 1) u out = coneL f g.as l v (fun k => u k || (k == g.as[j].1.toNat / 2 || k == g.as[j].2.toNat / 2)) (out ++ [((v + 1 : Nat) : Int)]) := by
            rw [coneL, if_neg hskip, if_neg hvf, hgd]
          refine awp_seq ?_
          first | refine awp_seq (awp_lit ?_) | refine awp_lit ?_ | refine awp_seq (awp_seq (awp_lit ?_))
          refine al_load rfl (by simp only [go_sem, ↓reduceIte, xa, xb, xc, xd, xe, xf, xg, xh, xi, xj]) rfl (by simp only [go_sem, ↓reduceIte, xa, xb, xc, xd, xe, xf, xg, xh, xi, xj]; try rfl) hG (loadA_agg agg66 rfl) ?_
          refine al_pureN 1 (by simp only [go_sem, ↓reduceIte, xa, xb, xc, xd, xe, xf, xg, xh, xi, xj]; try rfl) ?_
          refine al_gives (vs := ?vs4) (v := ?v4) rfl ?ha4 ?hh4 (by kernel_rfl) rfl (by simp only [go_sem, ↓reduceIte, xa, xb, xc, xd, xe, xf, xg, xh, xi, xj]) ?kk4
          case ha4 => simp only [go_sem, ↓reduceIte, xa, xb, xc, xd, xe, xf, xg, xh, xi, xj]; try rfl
          case hh4 => exact operands_gives ha3 hjl hjx (by omega)
          refine al_pureN 1 (by simp only [go_sem, ↓reduceIte, xa, xb, xc, xd, xe, xf, xg, xh, xi, xj]; try rfl) ?_
          refine al_end [2, 3, 6, 9, 10, 49, 50] ?_
          obtain ⟨A, hAe⟩ : ∃ A, A = g.as[j].1 := ⟨_, rfl⟩
          obtain ⟨B, hBe⟩ : ∃ B, B = g.as[j].2 := ⟨_, rfl⟩
          rw [← hAe] at b1 b2 hstep ⊢
          rw [← hBe] at b3 b4 hstep ⊢
          have hA1 : 0 ≤ A / 2 ∧ A / 2 < ((m + 1 : Nat) : Int) := by omega
          have hB1 : 0 ≤ B / 2 ∧ B / 2 < ((m + 1 : Nat) : Int) := by omega
          have hA2 : (A / 2).toNat = A.toNat / 2 := by omega
          have hB2 : (B / 2).toNat = B.toNat / 2 := by omega
          have hA3 : A.toNat / 2 < m + 1 := by omega
          have hB3 : B.toNat / 2 < m + 1 := by omega
          have qA := quo_two b1 (by omega)
          have qB := quo_two b3 (by omega)
          have a01 : intA .add .i64 0 1 = some (.int .i64 1) := rfl
          have a11 : intA .add .i64 1 1 = some (.int .i64 2) := rfl
          refine awp_block (awp_loop ?_)
          refine aloop_round ?_
          refine awp_seq (awp_pures [2, 3, 6, 9, 10, 49, 50, 51] (by simp only [go_sem, ↓reduceIte, xa, xb, xc, xd, xe, xf, xg, xh, xi, xj]; try rfl) ?_)
          refine awp_seq ?_
          refine awp_if rfl (fun _ => ?_) (fun h => by cases h)
          refine awp_skip ?_
          refine awp_seq (awp_block ?_)
          refine awp_seq (awp_pures [2, 3, 6, 9, 10, 12, 49, 50] (by simp only [go_sem, ↓reduceIte, xa, xb, xc, xd, xe, xf, xg, xh, xi, xj]; try rfl) ?_)
          refine awp_lit ?_
          refine al_pureN 4 (by simp only [go_sem, ↓reduceIte, xa, xb, xc, xd, xe, xf, xg, xh, xi, xj, qA, hA1]; try rfl) ?_
          refine al_store1 rfl (by simp only [go_sem, ↓reduceIte, xa, xb, xc, xd, xe, xf, xg, xh, xi, xj, qA, hA1]; try rfl) rfl (by simp only [go_sem, ↓reduceIte, xa, xb, xc, xd, xe, xf, xg, xh, xi, xj, qA, hA1]; try rfl) (by simp only [go_sem, ↓reduceIte, xa, xb, xc, xd, xe, xf, xg, xh, xi, xj, qA, hA1]; try rfl) hU rfl size4 rfl rfl (by show (A / 2).toNat < (bools _ _).length; rw [bools_len]; omega) ?_
          refine al_end [2, 3, 6, 9, 10, 49, 50] ?_
          refine awp_pures [2, 3, 6, 9, 10, 49, 50] (by simp only [go_sem, ↓reduceIte, xa, xb, xc, xd, xe, xf, xg, xh, xi, xj, a01]; try rfl) ?_
          show ALoop _ _ _ _ _ _ (AHeap.set τ (N + 1) ⟨(bools u (m + 1)).set (A / 2).toNat (.bool true), true, .n 1⟩) _
          rw [bools_set, hA2]
          refine aloop_round ?_
          refine awp_seq (awp_pures [2, 3, 6, 9, 10, 49, 50, 51] (by simp only [go_sem, ↓reduceIte, xa, xb, xc, xd, xe, xf, xg, xh, xi, xj]; try rfl) ?_)
          refine awp_seq ?_
          refine awp_if rfl (fun _ => ?_) (fun h => by cases h)
          refine awp_skip ?_
          refine awp_seq (awp_block ?_)
          refine awp_seq (awp_pures [2, 3, 6, 9, 10, 12, 49, 50] (by simp only [go_sem, ↓reduceIte, xa, xb, xc, xd, xe, xf, xg, xh, xi, xj]; try rfl) ?_)
          refine awp_lit ?_
          refine al_pureN 4 (by simp only [go_sem, ↓reduceIte, xa, xb, xc, xd, xe, xf, xg, xh, xi, xj, qB, hB1]; try rfl) ?_
          refine al_store1 rfl (by simp only [go_sem, ↓reduceIte, xa, xb, xc, xd, xe, xf, xg, xh, xi, xj, qB, hB1]; try rfl) rfl (by simp only [go_sem, ↓reduceIte, xa, xb, xc, xd, xe, xf, xg, xh, xi, xj, qB, hB1]; try rfl) (by simp only [go_sem, ↓reduceIte, xa, xb, xc, xd, xe, xf, xg, xh, xi, xj, qB, hB1]; try rfl) (AHeap.set_self _ _ _) rfl size4 rfl rfl (by show (B / 2).toNat < (bools _ _).length; rw [bools_len]; omega) ?_
          refine al_end [2, 3, 6, 9, 10, 49, 50] ?_
          refine awp_pures [2, 3, 6, 9, 10, 49, 50] (by simp only [go_sem, ↓reduceIte, xa, xb, xc, xd, xe, xf, xg, xh, xi, xj, a11]; try rfl) ?_
          show ALoop _ _ _ _ _ _ (AHeap.set (AHeap.set τ (N + 1) ⟨bools (fun k => u k || k == A.toNat / 2) (m + 1), true, .n 1⟩) (N + 1) ⟨(bools (fun k => u k || k == A.toNat / 2) (m + 1)).set (B / 2).toNat (.bool true), true, .n 1⟩) _
          rw [bools_set, hB2, AHeap.set_set]
          refine aloop_round ?_
          refine awp_seq (awp_pures [2, 3, 6, 9, 10, 49, 50, 51] (by simp only [go_sem, ↓reduceIte, xa, xb, xc, xd, xe, xf, xg, xh, xi, xj]; try rfl) ?_)
          refine awp_seq ?_
          refine awp_if rfl (fun h => by cases h) (fun _ => ?_)
          refine awp_exit ?_
          simp only [Go.Abs.Seq, Go.Abs.Round, Go.Abs.InBlock, ↓reduceIte]
          have hout2 : OwnAt (τ.set (N + 1) ⟨bools (fun k => (u k || k == A.toNat / 2) || k == B.toNat / 2) (m + 1), true, .n 1⟩) (N + 2) sv (ints out) out.length 1 :=
            hout.mono (fun i b hi hb => by rw [AHeap.set_ne _ _ (by omega)]; exact hb) (Nat.le_refl _)
          have hfun : (fun k => (u k || k == A.toNat / 2) || k == B.toNat / 2) = fun k => u k || (k == A.toNat / 2 || k == B.toNat / 2) := by funext k; rw [Bool.or_assoc]
          refine awp_lit ?_
          refine al_pureN 2 (by simp only [go_sem, ↓reduceIte, xa, xb, xc, xd, xe, xf, xg, xh, xi, xj]; try rfl) ?_
          refine al_push rfl rfl rfl (by simp only [go_sem, ↓reduceIte, xa, xb, xc, xd, xe, xf, xg, xh, xi, xj]; try rfl) (by simp only [go_sem, ↓reduceIte, xa, xb, xc, xd, xe, xf, xg, xh, xi, xj]; try rfl) rfl rfl Try.underlying35 ty3 rfl rfl rfl (by simp only [go_sem, ↓reduceIte, xa, xb, xc, xd, xe, xf, xg, xh, xi, xj]; try rfl) (by simp only [go_sem, ↓reduceIte, xa, xb, xc, xd, xe, xf, xg, xh, xi, xj]; try rfl) rfl rfl hout2 (by omega) (by omega) (by omega) ?_
          intro N' σ' v' hN' hown' hkeep
          refine al_pureN 1 (by simp only [go_sem, ↓reduceIte, xa, xb, xc, xd, xe, xf, xg, xh, xi, xj]; try rfl) ?_
          refine al_end [2, 3, 6, 9, 10] ?_
          refine awp_pures [2, 3, 6, 9, 10] (by simp only [go_sem, ↓reduceIte, xa, xb, xc, xd, xe, xf, xg, xh, xi, xj, i64_sub hsub, hv1]; try rfl) ?_
          have hints : ints out ++ [.int .i64 ((v + 1 : Nat) : Int)] = ints (out ++ [((v + 1 : Nat) : Int)]) := by simp [ints]
          rw [hints] at hown'
          have hk2 := hkeep _ (set_mono hτ (N + 1) ⟨bools (fun k => (u k || k == A.toNat / 2) || k == B.toNat / 2) (m + 1), true, .n 1⟩) (dom_set (dom_set hN))
          refine ALoop.cast3 (ih ⟨v, _, out ++ [((v + 1 : Nat) : Int)], N', σ', v'⟩ ⟨by dsimp only; omega, by dsimp only; omega, ?_, by simpa using hown', ?_, by simp; omega, by rw [hpre, hstep]⟩ (by dsimp only; omega)) rfl rfl rfl
          · rw [← hfun]; exact hk2 _ _ (AHeap.set_self _ _ _)
          · exact (le_new (dom_set hN) (Nat.le_refl _)).trans hk2
  · have hb : (leafE ((f : Int) + (g.as.length : Int)) node l != 0) = true := by simpa using hE
    refine awp_seq (awp_pures [1, 2, 3, 6, 8, 18] (by simp only [go_sem, ↓reduceIte, xa, xb, xc, xd, xe, xf, xg, xh, xi, xj, hb]; try rfl) ?_)
    refine awp_if rfl (fun _ => ?_) (fun h => by cases h)
    refine awp_seq (awp_pures [6, 7] (by simp only [go_sem, ↓reduceIte, xa, xb, xc, xd, xe, xf, xg, xh, xi, xj]; try rfl) ?_)
    refine awp_ret ⟨_, res_tt rfl rfl rfl, .slice none 0 0, ?_, ?_, hle, by omega⟩
    · simp [coneE, hE]
    · simp [coneE, hE]
      exact .nil
end Go.Proofs.Ytfialjllclclkaa

set_option linter.unusedSimpArgs false
set_option linter.unusedVariables false
namespace Go.Proofs.Ytfialjllclclkaa
open Go.Abs Go.Cut
attribute [local go_sem] Try.underlying26 Try.underlying66 Try.underlying69 Try.underlying3 Try.underlying22 Try.underlying23 Try.underlying24 Try.underlying35 Try.underlying43 Try.underlying45 Try.underlying47 Try.underlying5 Try.underlying4 Try.underlying30 Try.underlying56 size26 size66 size69 size3 size22 size23 size24 size35 size43 size45 size47 size5 size4 size30 Nat.mul_one
open Nat renaming reduceLT → xa, reduceEqDiff → xb, reduceLeDiff → xc, reduceAdd → xd, reduceMul → xe, reduceBEq → xj, add_assoc → ya, add_left_cancel_iff → yb, add_right_cancel_iff → yc, left_eq_add → yd, add_eq_left → ye, add_eq_right → yf, right_eq_add → yg, succ_ne_zero → yh
open Int renaming reduceLT → xf, reduceLE → xg, reduceToNat → xh
open BitVec renaming reduceOfInt → xi
theorem Cone_ok {g : AigD} {v lv : Value} {node : Int} {l : List Int} {N : Nat} {σ : AHeap} (hf : Few g) (hv : AigAt σ v g) (hl : SlAt σ lv (ints l)) :
    AOk Try.prog 20 [v, .int .i64 node, lv] N σ fun r N1 σ1 => ∃ sv, r = .tuple #[sv, .int .i64 (ConeR g l node).2] ∧ OwnAt σ1 N sv (ints (ConeR g l node).1) (ConeR g l node).1.length 1 ∧ σ.le σ1 ∧ N ≤ N1 := by
  obtain ⟨lb, lc, ab, ac, ob, oc, rfl, hls, has, hos⟩ := hv.opn
  have hf1 := hf.as
  have hf2 := hf.ls
  refine aok_fresh fun hN => aok_body (r := false) (n := 24) Try.func20 rfl rfl (by simp) ?_
  first | refine awp_seq (awp_lit ?_) | refine awp_lit ?_ | refine awp_seq (awp_seq (awp_lit ?_))
  refine al_box 1 rfl rfl rfl (by simp only [go_sem, ↓reduceIte, xa, xb, xc, xd, xe, xf, xg, xh, xi, xj]; try rfl) ?_
  refine al_pureN 2 (by simp only [go_sem, ↓reduceIte, xa, xb, xc, xd, xe, xf, xg, xh, xi, xj]; try rfl) ?_
  refine al_end [1, 2, 3] ?_
  have hle : σ.le (σ.set N ⟨spread (.agg #[.int .i64 g.inp, .slice lb g.ls.length lc, .slice ab g.as.length ac, .slice ob g.os.length oc]), true, 1⟩) := le_new hN (Nat.le_refl _)
  first | refine awp_seq (awp_lit ?_) | refine awp_lit ?_ | refine awp_seq (awp_seq (awp_lit ?_))
  refine al_load rfl (by simp only [go_sem, ↓reduceIte, xa, xb, xc, xd, xe, xf, xg, xh, xi, xj]) rfl (by simp only [go_sem, ↓reduceIte, xa, xb, xc, xd, xe, xf, xg, xh, xi, xj]; try rfl) (by first | exact AHeap.set_self _ _ _ | (simp only [AHeap.set, ↓reduceIte, ya, xd, yb, yc, yd, ye, yf, yg, xb, yh]; rfl) | assumption) (by first | exact loadA_scalar agg26 rfl | exact loadA_agg agg26 rfl | exact loadA_scalar agg26 (by assumption)) ?_
  refine al_fun (open_ok hf (hls.mono hle) (has.mono hle) (hos.mono hle)) rfl (by simp only [go_sem, ↓reduceIte, xa, xb, xc, xd, xe, xf, xg, xh, xi, xj]; try rfl) (by kernel_rfl) rfl (by simp only [go_sem, ↓reduceIte, xa, xb, xc, xd, xe, xf, xg, xh, xi, xj]; try rfl) ?_
  rintro r N1 σ1 ⟨rfl, hN1, hle1⟩
  refine al_fresh fun hNs => ?_
  have hσ1 : σ.le σ1 := hle.trans hle1
  refine al_pureN 3 (by simp only [go_sem, ↓reduceIte, xa, xb, xc, xd, xe, xf, xg, xh, xi, xj]; try rfl) ?_
  refine al_alloc 1 rfl rfl rfl ty66 (by decide) ?_
  refine al_store rfl (by simp only [go_sem, ↓reduceIte, xa, xb, xc, xd, xe, xf, xg, xh, xi, xj]) rfl (by simp only [go_sem, ↓reduceIte, xa, xb, xc, xd, xe, xf, xg, xh, xi, xj]; try rfl) (by simp only [go_sem, ↓reduceIte, xa, xb, xc, xd, xe, xf, xg, xh, xi, xj]; try rfl) (by first | exact AHeap.set_self _ _ _ | (simp only [AHeap.set, ↓reduceIte, ya, xd, yb, yc, yd, ye, yf, yg, xb, yh]; rfl) | assumption) rfl (by exact size66.trans rfl) (by rfl) (by exact Nat.le_of_ble_eq_true rfl) ?_
  refine al_pureN 1 (by simp only [go_sem, ↓reduceIte, xa, xb, xc, xd, xe, xf, xg, xh, xi, xj]; try rfl) ?_
  refine al_end [1, 2, 8, 9] ?_
  rw [AHeap.set_set]
  have hle2 : σ1.le (σ1.set N1 ⟨spread (graphV lb lc ab ac ob oc g (openF g)), true, 1⟩) := le_new hNs (Nat.le_refl _)
  by_cases hc : chkE g = 0
  · have hV := valid_of hc
    have hb : (chkE g != 0) = false := by simp [hc]
    have hinp := hV.inp
    have hsz := hV.size
    unfold sizeC firstC at hsz
    have hF : openF g = (((firstC g).toNat : Nat) : Int) := by rw [openF_valid hV hf, Int.toNat_of_nonneg (by unfold firstC; omega)]
    rw [hF]
    refine awp_seq ?_
    refine awp_seq (awp_pures [1, 2, 8, 9, 16] (by simp only [go_sem, ↓reduceIte, xa, xb, xc, xd, xe, xf, xg, xh, xi, xj, hb]; try rfl) ?_)
    refine awp_if rfl (fun h => by cases h) (fun _ => ?_)
    refine awp_skip ?_
    first | refine awp_seq (awp_lit ?_) | refine awp_lit ?_ | refine awp_seq (awp_seq (awp_lit ?_))
    refine al_load rfl (by simp only [go_sem, ↓reduceIte, xa, xb, xc, xd, xe, xf, xg, xh, xi, xj]) rfl (by simp only [go_sem, ↓reduceIte, xa, xb, xc, xd, xe, xf, xg, xh, xi, xj]; try rfl) (by first | exact AHeap.set_self _ _ _ | (simp only [AHeap.set, ↓reduceIte, ya, xd, yb, yc, yd, ye, yf, yg, xb, yh]; rfl) | assumption) (by first | exact loadA_scalar agg66 rfl | exact loadA_agg agg66 rfl | exact loadA_scalar agg66 (by assumption)) ?_
    refine al_pureN 2 (by simp only [go_sem, ↓reduceIte, xa, xb, xc, xd, xe, xf, xg, xh, xi, xj]; try rfl) ?_
    refine al_fun (cone_ok (g := g) (f := (firstC g).toNat) (has.mono (hσ1.trans (le_new hNs (Nat.le_refl _)))) (hl.mono (hσ1.trans (le_new hNs (Nat.le_refl _)))) (by unfold firstC; omega) (by omega) (by rw [← hF, openF_valid hV hf]; exact hV.ands)) rfl (by simp only [go_sem, ↓reduceIte, xa, xb, xc, xd, xe, xf, xg, xh, xi, xj]; try rfl) (by kernel_rfl) rfl (by simp only [go_sem, ↓reduceIte, xa, xb, xc, xd, xe, xf, xg, xh, xi, xj]; try rfl) ?_
    rintro r N2 σ2 ⟨sv, rfl, hsv, hle3, hN2⟩
    refine al_pureN 4 (by simp only [go_sem, ↓reduceIte, xa, xb, xc, xd, xe, xf, xg, xh, xi, xj]; try rfl) ?_
    refine al_end [6, 7] ?_
    have hR : ConeR g l node = coneE (firstC g).toNat g.as l node := by simp [ConeR, hc]
    rw [hR]
    exact awp_ret ⟨_, res_tt rfl rfl rfl, sv, rfl, hsv.mono (fun _ _ _ h => h) (by omega), (hσ1.trans (le_new hNs (Nat.le_refl _))).trans hle3, by omega⟩
  · have hb : (chkE g != 0) = true := by simpa using hc
    have hR : ConeR g l node = ([], chkE g) := by simp [ConeR, hc]
    rw [hR]
    refine awp_seq ?_
    refine awp_seq (awp_pures [1, 2, 8, 9, 16] (by simp only [go_sem, ↓reduceIte, xa, xb, xc, xd, xe, xf, xg, xh, xi, xj, hb]; try rfl) ?_)
    refine awp_if rfl (fun _ => ?_) (fun h => by cases h)
    refine awp_seq (awp_pures [6, 7] (by simp only [go_sem, ↓reduceIte, xa, xb, xc, xd, xe, xf, xg, xh, xi, xj]; try rfl) ?_)
    exact awp_ret ⟨_, res_tt rfl rfl rfl, .slice none 0 0, rfl, .nil, hσ1.trans hle2, by omega⟩
end Go.Proofs.Ytfialjllclclkaa

set_option linter.unusedSimpArgs false
set_option linter.unusedVariables false
namespace Go.Proofs.Ytfialjllclclkaa
open Go.Abs Go.Cut
attribute [local go_sem] Try.underlying26 Try.underlying66 Try.underlying69 Try.underlying3 Try.underlying22 Try.underlying23 Try.underlying24 Try.underlying35 Try.underlying43 Try.underlying45 Try.underlying47 Try.underlying5 Try.underlying4 Try.underlying30 Try.underlying56 size26 size66 size69 size3 size22 size23 size24 size35 size43 size45 size47 size5 size4 size30 Nat.mul_one
open Nat renaming reduceLT → xa, reduceEqDiff → xb, reduceLeDiff → xc, reduceAdd → xd, reduceMul → xe, reduceBEq → xj, add_assoc → ya, add_left_cancel_iff → yb, add_right_cancel_iff → yc, left_eq_add → yd, add_eq_left → ye, add_eq_right → yf, right_eq_add → yg, succ_ne_zero → yh
open Int renaming reduceLT → xf, reduceLE → xg, reduceToNat → xh
open BitVec renaming reduceOfInt → xi
theorem uses_ok {g : AigD} {lb ab ob : Option Addr} {lc ac oc f : Nat} {N : Nat} {σ : AHeap} (hl : RowsAt σ 2 (.slice lb g.ls.length lc) (pairsV .i64 .u8 g.ls)) (ha : RowsAt σ 2 (.slice ab g.as.length ac) (pairsV .i64 .i64 g.as)) (ho : SlAt σ (.slice ob g.os.length oc) (ints g.os))
    (hf : f ≤ 400000) (hfew : Few g) (hchk : chkA f g.as = true) (hchl : chkL ((f : Int) + g.as.length) g.ls = true) (hcho : chkO ((f : Int) + g.as.length) g.os = true) :
    AOk Try.prog 46 [graphV lb lc ab ac ob oc g f] N σ fun r N1 σ1 => OwnAt σ1 N r (nums (cntF (allLits g)) (f + g.as.length)) (f + g.as.length) 1 ∧ σ.le σ1 ∧ N ≤ N1 := by
  have hla := hfew.as
  have hll := hfew.ls
  have hlo := hfew.os
  obtain ⟨n, hn⟩ : ∃ n, n = f + g.as.length := ⟨_, rfl⟩
  have hnI : (f : Int) + (g.as.length : Int) = ((n : Nat) : Int) := by omega
  rw [hnI] at hchl hcho
  rw [← hn]
  refine aok_fresh fun hN => aok_body (r := false) (n := 75) Try.func46 rfl rfl (by simp) ?_
  have hadd : -9223372036854775808 ≤ (f : Int) + (g.as.length : Int) ∧ (f : Int) + (g.as.length : Int) ≤ 9223372036854775807 := by omega
  unfold graphV
  first | refine awp_seq (awp_lit ?_) | refine awp_lit ?_ | refine awp_seq (awp_seq (awp_lit ?_))
  refine al_box 1 rfl rfl rfl (by simp only [go_sem, ↓reduceIte, xa, xb, xc, xd, xe, xf, xg, xh, xi, xj]; try rfl) ?_
  refine al_pureN 1 (by simp only [go_sem, ↓reduceIte, xa, xb, xc, xd, xe, xf, xg, xh, xi, xj]; try rfl) ?_
  refine al_end [1] ?_
  obtain ⟨G, hG⟩ : ∃ G, G = spread (graphV lb lc ab ac ob oc g f) := ⟨_, rfl⟩
  first | refine awp_seq (awp_lit ?_) | refine awp_lit ?_ | refine awp_seq (awp_seq (awp_lit ?_))
  refine al_pureN 1 (by simp only [go_sem, ↓reduceIte, xa, xb, xc, xd, xe, xf, xg, xh, xi, xj, i64_add hadd, hnI]; try rfl) ?_
  refine al_load rfl (by simp only [go_sem, ↓reduceIte, xa, xb, xc, xd, xe, xf, xg, xh, xi, xj, i64_add hadd, hnI]) rfl (by simp only [go_sem, ↓reduceIte, xa, xb, xc, xd, xe, xf, xg, xh, xi, xj, i64_add hadd, hnI]; try rfl) (by first | exact AHeap.set_self _ _ _ | (simp only [AHeap.set, ↓reduceIte, ya, xd, yb, yc, yd, ye, yf, yg, xb, yh, i64_add hadd, hnI]; rfl) | assumption) (by first | exact loadA_scalar agg3 rfl | exact loadA_agg agg3 rfl | exact loadA_scalar agg3 (by assumption)) ?_
  refine al_pureN 2 (by simp only [go_sem, ↓reduceIte, xa, xb, xc, xd, xe, xf, xg, xh, xi, xj, i64_add hadd, hnI]; try rfl) ?_
  refine al_load rfl (by simp only [go_sem, ↓reduceIte, xa, xb, xc, xd, xe, xf, xg, xh, xi, xj, i64_add hadd, hnI]) rfl (by simp only [go_sem, ↓reduceIte, xa, xb, xc, xd, xe, xf, xg, xh, xi, xj, i64_add hadd, hnI]; try rfl) (by first | exact AHeap.set_self _ _ _ | (simp only [AHeap.set, ↓reduceIte, ya, xd, yb, yc, yd, ye, yf, yg, xb, yh, i64_add hadd, hnI]; rfl) | assumption) (by first | exact loadA_scalar agg23 rfl | exact loadA_agg agg23 rfl | exact loadA_scalar agg23 (by assumption)) ?_
  refine al_pureN 2 (by simp only [go_sem, ↓reduceIte, xa, xb, xc, xd, xe, xf, xg, xh, xi, xj, i64_add hadd, hnI]; try rfl) ?_
  refine al_makeSlice (len := n) rfl (by simp only [go_sem, ↓reduceIte, xa, xb, xc, xd, xe, xf, xg, xh, xi, xj, i64_add hadd, hnI]; try rfl) rfl Try.underlying35 ty3 (by decide) rfl (by decide) (by simp only [go_sem, ↓reduceIte, xa, xb, xc, xd, xe, xf, xg, xh, xi, xj, i64_add hadd, hnI]; try rfl) (by simp only [go_sem, ↓reduceIte, xa, xb, xc, xd, xe, xf, xg, xh, xi, xj, i64_add hadd, hnI]; try rfl) (by omega) (by omega) ?_
  refine al_pureN 1 (by simp only [go_sem, ↓reduceIte, xa, xb, xc, xd, xe, xf, xg, xh, xi, xj, i64_add hadd, hnI]; try rfl) ?_
  refine al_end [1, 3] ?_
  rw [nums_zero]
  show Abs.Seq _ _ _ _ _ _ _ _ ((σ.set N ⟨spread (graphV lb lc ab ac ob oc g f), true, 1⟩).set (N + 1) _)
  rw [← hG]
  have hNN : ¬ N = N + 1 := by omega
  have hσp : ∀ c, σ.le ((σ.set N ⟨G, true, 1⟩).set (N + 1) ⟨c, true, 1⟩) := fun c => (le_new hN (Nat.le_refl _)).trans (le_new (dom_set hN) (Nat.le_refl _))
  have hGN : ∀ c, ((σ.set N ⟨G, true, 1⟩).set (N + 1) ⟨c, true, 1⟩) N = some ⟨spread (graphV lb lc ab ac ob oc g f), true, 1⟩ := fun c => by
    rw [AHeap.set_ne _ _ hNN, AHeap.set_self, hG]
  refine awp_seq ?_
  first | refine awp_seq (awp_lit ?_) | refine awp_lit ?_ | refine awp_seq (awp_seq (awp_lit ?_))
  refine al_pureN 1 (by simp only [go_sem, ↓reduceIte, xa, xb, xc, xd, xe, xf, xg, xh, xi, xj]; try rfl) ?_
  refine al_load rfl (by simp only [go_sem, ↓reduceIte, xa, xb, xc, xd, xe, xf, xg, xh, xi, xj]) rfl (by simp only [go_sem, ↓reduceIte, xa, xb, xc, xd, xe, xf, xg, xh, xi, xj]; try rfl) (hGN _) (loadA_scalar agg3 rfl) ?_
  refine al_pureN 1 (by simp only [go_sem, ↓reduceIte, xa, xb, xc, xd, xe, xf, xg, xh, xi, xj]; try rfl) ?_
  refine al_end [1, 3, 4] ?_
  have a01 : intA .add .i64 0 1 = some (.int .i64 1) := rfl
  have a11 : intA .add .i64 1 1 = some (.int .i64 2) := rfl
  have bnd : ∀ (p : List Int) (k : Nat), p.length ≤ 1000 → -9223372036854775808 ≤ ((cntF p k : Nat) : Int) + 1 ∧ ((cntF p k : Nat) : Int) + 1 ≤ 9223372036854775807 := fun p k hp => by
    have := cntF_le p k; omega
  refine awp_block (awp_loop ?_)
  refine ALoop.cast3 (aloop_ind (α := Nat) (fun a => a ≤ g.as.length) (fun a => g.as.length - a)
    (fun a => [(1, .pointer (some ⟨N, 0, none⟩)), (3, .slice (some ⟨N + 1, 0, none⟩) n n), (4, .int .i64 ((f + a : Nat) : Int))]) (fun _ => N + 2) (fun a => (σ.set N ⟨G, true, 1⟩).set (N + 1) ⟨nums (cntF (andLits (g.as.take a))) n, true, 1⟩) ?_ 0 (Nat.zero_le _)) rfl rfl rfl
  intro j hj ih
  by_cases hlt : j < g.as.length
  · have hb : decide (((f + j : Nat) : Int) < (n : Int)) = true := by simp; omega
    refine awp_seq ?_
    refine awp_seq (awp_pures [1, 3, 4, 24] (by simp only [go_sem, ↓reduceIte, xa, xb, xc, xd, xe, xf, xg, xh, xi, xj, hb]; try rfl) ?_)
    refine awp_if rfl (fun _ => ?_) (fun h => by cases h)
    refine awp_skip ?_
    refine awp_seq (awp_block ?_)
    have hjx : ((f + j : Nat) : Int) - (f : Int) = (j : Int) := by omega
    have hσp := hσp (nums (cntF (andLits (g.as.take j))) n)
    obtain ⟨b1, b2, b3, b4⟩ := chkA_get hchk hlt
    first | refine awp_seq (awp_lit ?_) | refine awp_lit ?_ | refine awp_seq (awp_seq (awp_lit ?_))
    refine al_load rfl (by simp only [go_sem, ↓reduceIte, xa, xb, xc, xd, xe, xf, xg, xh, xi, xj]) rfl (by simp only [go_sem, ↓reduceIte, xa, xb, xc, xd, xe, xf, xg, xh, xi, xj]; try rfl) (hGN _) (loadA_agg agg66 rfl) ?_
    refine al_pureN 1 (by simp only [go_sem, ↓reduceIte, xa, xb, xc, xd, xe, xf, xg, xh, xi, xj]; try rfl) ?_
    refine al_gives (vs := ?vs1) (v := ?v1) rfl ?ha1 ?hh1 (by kernel_rfl) rfl (by simp only [go_sem, ↓reduceIte, xa, xb, xc, xd, xe, xf, xg, xh, xi, xj]) ?kk1
    case ha1 => simp only [go_sem, ↓reduceIte, xa, xb, xc, xd, xe, xf, xg, xh, xi, xj]; try rfl
    case hh1 => exact operands_gives (ha.mono hσp) hlt hjx (by omega)
    refine al_pureN 1 (by simp only [go_sem, ↓reduceIte, xa, xb, xc, xd, xe, xf, xg, xh, xi, xj]; try rfl) ?_
    refine al_end [1, 3, 4, 29, 30] ?_
    obtain ⟨A, hAe⟩ : ∃ A, A = g.as[j].1 := ⟨_, rfl⟩
    obtain ⟨B, hBe⟩ : ∃ B, B = g.as[j].2 := ⟨_, rfl⟩
    have hsn : andLits (g.as.take (j + 1)) = (andLits (g.as.take j) ++ [A]) ++ [B] := by
      rw [take_snoc _ hlt, andLits, List.flatMap_append]
      simp [andLits, hAe, hBe]
    rw [← hAe] at b1 b2 ⊢
    rw [← hBe] at b3 b4 ⊢
    obtain ⟨p, hp⟩ : ∃ p, p = andLits (g.as.take j) := ⟨_, rfl⟩
    have hpl : p.length ≤ 400 := by rw [hp, andLits_len, List.length_take]; omega
    rw [← hp] at hsn ⊢
    have hA1 : 0 ≤ A / 2 ∧ A / 2 < (n : Int) := by omega
    have hB1 : 0 ≤ B / 2 ∧ B / 2 < (n : Int) := by omega
    have hA2 : (A / 2).toNat = A.toNat / 2 := by omega
    have hB2 : (B / 2).toNat = B.toNat / 2 := by omega
    have qA := quo_two b1 (by omega)
    have qB := quo_two b3 (by omega)
    have gA : (nums (cntF p) n)[(A / 2).toNat]? = some (.int .i64 ((cntF p (A.toNat / 2) : Nat) : Int)) := by rw [hA2]; exact nums_get _ (by omega)
    have gB : (nums (cntF (p ++ [A])) n)[(B / 2).toNat]? = some (.int .i64 ((cntF (p ++ [A]) (B.toNat / 2) : Nat) : Int)) := by rw [hB2]; exact nums_get _ (by omega)
    have wA := bnd p (A.toNat / 2) (by omega)
    have wB := bnd (p ++ [A]) (B.toNat / 2) (by simp; omega)
    refine awp_block (awp_loop ?_)
    refine aloop_round ?_
    refine awp_seq (awp_pures [1, 3, 4, 29, 30, 31] (by simp only [go_sem, ↓reduceIte, xa, xb, xc, xd, xe, xf, xg, xh, xi, xj]; try rfl) ?_)
    refine awp_seq ?_
    refine awp_if rfl (fun _ => ?_) (fun h => by cases h)
    refine awp_skip ?_
    refine awp_seq (awp_block ?_)
    refine awp_seq (awp_pures [1, 3, 4, 6, 29, 30] (by simp only [go_sem, ↓reduceIte, xa, xb, xc, xd, xe, xf, xg, xh, xi, xj]; try rfl) ?_)
    refine awp_lit ?_
    refine al_pureN 4 (by simp only [go_sem, ↓reduceIte, xa, xb, xc, xd, xe, xf, xg, xh, xi, xj, qA, hA1, i64_add wA]; try rfl) ?_
    refine al_load rfl (by simp only [go_sem, ↓reduceIte, xa, xb, xc, xd, xe, xf, xg, xh, xi, xj, qA, hA1, i64_add wA]) rfl (by simp only [go_sem, ↓reduceIte, xa, xb, xc, xd, xe, xf, xg, xh, xi, xj, qA, hA1, i64_add wA]; try rfl) (AHeap.set_self _ _ _) (loadA_scalar agg3 gA) ?_
    refine al_pureN 2 (by simp only [go_sem, ↓reduceIte, xa, xb, xc, xd, xe, xf, xg, xh, xi, xj, qA, hA1, i64_add wA]; try rfl) ?_
    refine al_store1 rfl (by simp only [go_sem, ↓reduceIte, xa, xb, xc, xd, xe, xf, xg, xh, xi, xj, qA, hA1, i64_add wA]; try rfl) rfl (by simp only [go_sem, ↓reduceIte, xa, xb, xc, xd, xe, xf, xg, xh, xi, xj, qA, hA1, i64_add wA]; try rfl) (by simp only [go_sem, ↓reduceIte, xa, xb, xc, xd, xe, xf, xg, xh, xi, xj, qA, hA1, i64_add wA]; try rfl) (AHeap.set_self _ _ _) rfl size3 rfl rfl (by show (A / 2).toNat < (nums _ _).length; rw [nums_len]; omega) ?_
    refine al_end [1, 3, 4, 29, 30] ?_
    refine awp_pures [1, 3, 4, 29, 30] (by simp only [go_sem, ↓reduceIte, xa, xb, xc, xd, xe, xf, xg, xh, xi, xj, a01]; try rfl) ?_
    rw [AHeap.set_set]
    show ALoop _ _ _ _ _ _ (AHeap.set (AHeap.set σ N ⟨G, true, 1⟩) (N + 1) ⟨(nums (cntF p) n).set (A / 2).toNat (.int .i64 (((cntF p (A.toNat / 2) : Nat) : Int) + 1)), true, .n 1⟩) _
    rw [hA2, nums_bump]
    refine aloop_round ?_
    refine awp_seq (awp_pures [1, 3, 4, 29, 30, 31] (by simp only [go_sem, ↓reduceIte, xa, xb, xc, xd, xe, xf, xg, xh, xi, xj]; try rfl) ?_)
    refine awp_seq ?_
    refine awp_if rfl (fun _ => ?_) (fun h => by cases h)
    refine awp_skip ?_
    refine awp_seq (awp_block ?_)
    refine awp_seq (awp_pures [1, 3, 4, 6, 29, 30] (by simp only [go_sem, ↓reduceIte, xa, xb, xc, xd, xe, xf, xg, xh, xi, xj]; try rfl) ?_)
    refine awp_lit ?_
    refine al_pureN 4 (by simp only [go_sem, ↓reduceIte, xa, xb, xc, xd, xe, xf, xg, xh, xi, xj, qB, hB1, i64_add wB]; try rfl) ?_
    refine al_load rfl (by simp only [go_sem, ↓reduceIte, xa, xb, xc, xd, xe, xf, xg, xh, xi, xj, qB, hB1, i64_add wB]) rfl (by simp only [go_sem, ↓reduceIte, xa, xb, xc, xd, xe, xf, xg, xh, xi, xj, qB, hB1, i64_add wB]; try rfl) (AHeap.set_self _ _ _) (loadA_scalar agg3 gB) ?_
    refine al_pureN 2 (by simp only [go_sem, ↓reduceIte, xa, xb, xc, xd, xe, xf, xg, xh, xi, xj, qB, hB1, i64_add wB]; try rfl) ?_
    refine al_store1 rfl (by simp only [go_sem, ↓reduceIte, xa, xb, xc, xd, xe, xf, xg, xh, xi, xj, qB, hB1, i64_add wB]; try rfl) rfl (by simp only [go_sem, ↓reduceIte, xa, xb, xc, xd, xe, xf, xg, xh, xi, xj, qB, hB1, i64_add wB]; try rfl) (by simp only [go_sem, ↓reduceIte, xa, xb, xc, xd, xe, xf, xg, xh, xi, xj, qB, hB1, i64_add wB]; try rfl) (AHeap.set_self _ _ _) rfl size3 rfl rfl (by show (B / 2).toNat < (nums _ _).length; rw [nums_len]; omega) ?_
    refine al_end [1, 3, 4, 29, 30] ?_
    refine awp_pures [1, 3, 4, 29, 30] (by simp only [go_sem, ↓reduceIte, xa, xb, xc, xd, xe, xf, xg, xh, xi, xj, a11]; try rfl) ?_
    rw [AHeap.set_set]
    show ALoop _ _ _ _ _ _ (AHeap.set (AHeap.set σ N ⟨G, true, 1⟩) (N + 1) ⟨(nums (cntF (p ++ [A])) n).set (B / 2).toNat (.int .i64 (((cntF (p ++ [A]) (B.toNat / 2) : Nat) : Int) + 1)), true, .n 1⟩) _
    rw [hB2, nums_bump, ← hsn]
    refine aloop_round ?_
    refine awp_seq (awp_pures [1, 3, 4, 29, 30, 31] (by simp only [go_sem, ↓reduceIte, xa, xb, xc, xd, xe, xf, xg, xh, xi, xj]; try rfl) ?_)
    refine awp_seq ?_
    refine awp_if rfl (fun h => by cases h) (fun _ => ?_)
    refine awp_exit ?_
    simp only [Go.Abs.Seq, Go.Abs.Round, Go.Abs.InBlock, ↓reduceIte]
    have hadd2 : -9223372036854775808 ≤ ((f + j : Nat) : Int) + 1 ∧ ((f + j : Nat) : Int) + 1 ≤ 9223372036854775807 := by omega
    refine awp_pures [1, 3, 4] (by simp only [go_sem, ↓reduceIte, xa, xb, xc, xd, xe, xf, xg, xh, xi, xj, i64_add hadd2]; try rfl) ?_
    exact ALoop.cast3 (ih (j + 1) hlt (by omega)) rfl rfl rfl
  · have hb : decide (((f + j : Nat) : Int) < (n : Int)) = false := by simp; omega
    have hjm : j = g.as.length := by omega
    refine awp_seq ?_
    refine awp_seq (awp_pures [1, 3, 4, 24] (by simp only [go_sem, ↓reduceIte, xa, xb, xc, xd, xe, xf, xg, xh, xi, xj, hb]; try rfl) ?_)
    refine awp_if rfl (fun h => by cases h) (fun _ => ?_)
    refine awp_exit ?_
    simp only [Go.Abs.Seq, Go.Abs.Round, Go.Abs.InBlock, ↓reduceIte]
    rw [hjm, List.take_length]
    refine awp_seq ?_
    first | refine awp_seq (awp_lit ?_) | refine awp_lit ?_ | refine awp_seq (awp_seq (awp_lit ?_))
    refine al_pureN 2 (by simp only [go_sem, ↓reduceIte, xa, xb, xc, xd, xe, xf, xg, xh, xi, xj]; try rfl) ?_
    refine al_load rfl (by simp only [go_sem, ↓reduceIte, xa, xb, xc, xd, xe, xf, xg, xh, xi, xj]) rfl (by simp only [go_sem, ↓reduceIte, xa, xb, xc, xd, xe, xf, xg, xh, xi, xj]; try rfl) (hGN _) (loadA_scalar agg22 rfl) ?_
    refine al_pureN 2 (by simp only [go_sem, ↓reduceIte, xa, xb, xc, xd, xe, xf, xg, xh, xi, xj]; try rfl) ?_
    refine al_end [1, 3, 43, 44, 45] ?_
    obtain ⟨q, hq⟩ : ∃ q, q = andLits g.as := ⟨_, rfl⟩
    have hql : q.length ≤ 400 := by rw [hq, andLits_len]; omega
    rw [← hq]
    refine awp_block (awp_loop ?_)
    refine ALoop.cast3 (aloop_ind (α := Nat × Nat) (fun a => a.1 ≤ g.ls.length ∧ N + 2 ≤ a.2) (fun a => g.ls.length - a.1)
      (fun a => [(1, .pointer (some ⟨N, 0, none⟩)), (3, .slice (some ⟨N + 1, 0, none⟩) n n), (43, .slice lb g.ls.length lc), (44, .int .i64 g.ls.length), (45, .int .i64 a.1)]) (fun a => a.2) (fun a => (σ.set N ⟨G, true, 1⟩).set (N + 1) ⟨nums (cntF (q ++ (g.ls.take a.1).map (·.1))) n, true, 1⟩) ?_ (0, N + 2) ⟨Nat.zero_le _, Nat.le_refl _⟩) rfl rfl (by simp)
    clear ih hlt hj hjm hb
    rintro ⟨j, M⟩ ⟨hj, hM⟩ ih
    dsimp only at hj hM ih ⊢
    by_cases hlt : j < g.ls.length
    · have hb : decide ((j : Int) < (g.ls.length : Int)) = true := by simpa using hlt
      refine awp_seq (awp_pures [1, 3, 43, 44, 45, 46] (by simp only [go_sem, ↓reduceIte, xa, xb, xc, xd, xe, xf, xg, xh, xi, xj, hb]; try rfl) ?_)
      refine awp_seq ?_
      refine awp_if rfl (fun _ => ?_) (fun h => by cases h)
      refine awp_skip ?_
      refine awp_seq (awp_block ?_)
      have hjj : 0 ≤ (j : Int) ∧ (j : Int) < (g.ls.length : Int) := by omega
      obtain ⟨id, off, cap, b, e1, e2, e3, e4⟩ := rowsAt_pair (hl.mono (hσp (nums (cntF (q ++ (g.ls.take j).map (·.1))) n))) hlt
      cases e1
      first | refine awp_seq (awp_lit ?_) | refine awp_lit ?_ | refine awp_seq (awp_seq (awp_lit ?_))
      refine al_pureN 1 (by simp only [go_sem, ↓reduceIte, xa, xb, xc, xd, xe, xf, xg, xh, xi, xj, hjj]; try rfl) ?_
      refine al_load rfl (by simp only [go_sem, ↓reduceIte, xa, xb, xc, xd, xe, xf, xg, xh, xi, xj, hjj]) rfl (by simp only [go_sem, ↓reduceIte, xa, xb, xc, xd, xe, xf, xg, xh, xi, xj, hjj]; try rfl) e2 (loadA_agg agg45 e3) ?_
      refine al_alloc 1 rfl rfl rfl ty45 (by decide) ?_
      refine al_store rfl (by simp only [go_sem, ↓reduceIte, xa, xb, xc, xd, xe, xf, xg, xh, xi, xj, hjj]) rfl (by simp only [go_sem, ↓reduceIte, xa, xb, xc, xd, xe, xf, xg, xh, xi, xj, hjj]; try rfl) (by simp only [go_sem, ↓reduceIte, xa, xb, xc, xd, xe, xf, xg, xh, xi, xj, hjj]; try rfl) (by first | exact AHeap.set_self _ _ _ | (simp only [AHeap.set, ↓reduceIte, ya, xd, yb, yc, yd, ye, yf, yg, xb, yh, hjj]; rfl) | assumption) rfl (by exact size45.trans rfl) (by rfl) (by exact Nat.le_of_ble_eq_true rfl) ?_
      refine al_end [1, 3, 8, 43, 44, 45] ?_
      rw [AHeap.set_set]
      obtain ⟨b1, b2⟩ := chkL_get hchl hlt
      obtain ⟨A, hAe⟩ : ∃ A, A = g.ls[j].1 := ⟨_, rfl⟩
      have hsn : q ++ (g.ls.take (j + 1)).map (·.1) = (q ++ (g.ls.take j).map (·.1)) ++ [A] := by
        rw [take_snoc _ hlt, List.map_append, ← List.append_assoc]; simp [hAe]
      rw [← hAe] at b1 b2 ⊢
      obtain ⟨p, hp⟩ : ∃ p, p = q ++ (g.ls.take j).map (·.1) := ⟨_, rfl⟩
      have hpl : p.length ≤ 500 := by rw [hp, List.length_append, List.length_map, List.length_take]; omega
      rw [← hp] at hsn ⊢
      have hA1 : 0 ≤ A / 2 ∧ A / 2 < (n : Int) := by omega
      have hA2 : (A / 2).toNat = A.toNat / 2 := by omega
      have qA := quo_two b1 (by omega)
      have gA : (nums (cntF p) n)[(A / 2).toNat]? = some (.int .i64 ((cntF p (A.toNat / 2) : Nat) : Int)) := by rw [hA2]; exact nums_get _ (by omega)
      have wA := bnd p (A.toNat / 2) (by omega)
      have hM1 : ¬ N + 1 = M := by omega
      have hU : ∀ X, (((σ.set N ⟨G, true, 1⟩).set (N + 1) ⟨nums (cntF p) n, true, 1⟩).set M X) (N + 1) = some ⟨nums (cntF p) n, true, 1⟩ := fun X => by
        rw [AHeap.set_ne _ _ hM1, AHeap.set_self]
      refine awp_lit ?_
      refine al_pureN 2 (by simp only [go_sem, ↓reduceIte, xa, xb, xc, xd, xe, xf, xg, xh, xi, xj, qA, hA1, i64_add wA]; try rfl) ?_
      refine al_load rfl (by simp only [go_sem, ↓reduceIte, xa, xb, xc, xd, xe, xf, xg, xh, xi, xj, qA, hA1, i64_add wA]) rfl (by simp only [go_sem, ↓reduceIte, xa, xb, xc, xd, xe, xf, xg, xh, xi, xj, qA, hA1, i64_add wA]; try rfl) (by first | exact AHeap.set_self _ _ _ | (simp only [AHeap.set, ↓reduceIte, ya, xd, yb, yc, yd, ye, yf, yg, xb, yh, qA, hA1, i64_add wA]; rfl) | assumption) (by first | exact loadA_scalar agg43 rfl | exact loadA_agg agg43 rfl | exact loadA_scalar agg43 (by assumption)) ?_
      refine al_pureN 2 (by simp only [go_sem, ↓reduceIte, xa, xb, xc, xd, xe, xf, xg, xh, xi, xj, qA, hA1, i64_add wA]; try rfl) ?_
      refine al_load rfl (by simp only [go_sem, ↓reduceIte, xa, xb, xc, xd, xe, xf, xg, xh, xi, xj, qA, hA1, i64_add wA]) rfl (by simp only [go_sem, ↓reduceIte, xa, xb, xc, xd, xe, xf, xg, xh, xi, xj, qA, hA1, i64_add wA]; try rfl) (hU _) (loadA_scalar agg3 gA) ?_
      refine al_pureN 2 (by simp only [go_sem, ↓reduceIte, xa, xb, xc, xd, xe, xf, xg, xh, xi, xj, qA, hA1, i64_add wA]; try rfl) ?_
      refine al_store1 rfl (by simp only [go_sem, ↓reduceIte, xa, xb, xc, xd, xe, xf, xg, xh, xi, xj, qA, hA1, i64_add wA]; try rfl) rfl (by simp only [go_sem, ↓reduceIte, xa, xb, xc, xd, xe, xf, xg, xh, xi, xj, qA, hA1, i64_add wA]; try rfl) (by simp only [go_sem, ↓reduceIte, xa, xb, xc, xd, xe, xf, xg, xh, xi, xj, qA, hA1, i64_add wA]; try rfl) (hU _) rfl size3 rfl rfl (by show (A / 2).toNat < (nums _ _).length; rw [nums_len]; omega) ?_
      refine al_end [1, 3, 43, 44, 45] ?_
      have hadd2 : -9223372036854775808 ≤ (j : Int) + 1 ∧ (j : Int) + 1 ≤ 9223372036854775807 := by omega
      refine awp_pures [1, 3, 43, 44, 45] (by simp only [go_sem, ↓reduceIte, xa, xb, xc, xd, xe, xf, xg, xh, xi, xj, i64_add hadd2]; try rfl) ?_
      refine ALoop.cast3 ((ih (j + 1, M + 1) ⟨hlt, by omega⟩ (by dsimp only; omega)).forget (fun _ _ h => h) ?_) rfl rfl rfl
      dsimp only
      rw [hsn, ← nums_bump, hA2]
      exact set_mono ((le_new (dom_set hN) (Nat.le_refl _)).trans (le_new (dom_set (dom_set hN)) hM)) _ _
    · have hb : decide ((j : Int) < (g.ls.length : Int)) = false := by simpa using hlt
      have hjm : j = g.ls.length := by omega
      refine awp_seq (awp_pures [1, 3, 43, 44, 45, 46] (by simp only [go_sem, ↓reduceIte, xa, xb, xc, xd, xe, xf, xg, xh, xi, xj, hb]; try rfl) ?_)
      refine awp_seq ?_
      refine awp_if rfl (fun h => by cases h) (fun _ => ?_)
      refine awp_exit ?_
      simp only [Go.Abs.Seq, Go.Abs.Round, Go.Abs.InBlock, ↓reduceIte]
      rw [hjm, List.take_length]
      refine awp_seq ?_
      first | refine awp_seq (awp_lit ?_) | refine awp_lit ?_ | refine awp_seq (awp_seq (awp_lit ?_))
      refine al_pureN 2 (by simp only [go_sem, ↓reduceIte, xa, xb, xc, xd, xe, xf, xg, xh, xi, xj]; try rfl) ?_
      refine al_load rfl (by simp only [go_sem, ↓reduceIte, xa, xb, xc, xd, xe, xf, xg, xh, xi, xj]) rfl (by simp only [go_sem, ↓reduceIte, xa, xb, xc, xd, xe, xf, xg, xh, xi, xj]; try rfl) (hGN _) (loadA_scalar agg24 rfl) ?_
      refine al_pureN 2 (by simp only [go_sem, ↓reduceIte, xa, xb, xc, xd, xe, xf, xg, xh, xi, xj]; try rfl) ?_
      refine al_end [3, 60, 61, 62] ?_
      obtain ⟨r, hr⟩ : ∃ r, r = q ++ g.ls.map (·.1) := ⟨_, rfl⟩
      have hrl : r.length ≤ 500 := by rw [hr, List.length_append, List.length_map]; omega
      rw [← hr]
      refine awp_block (awp_loop ?_)
      refine ALoop.cast3 (aloop_ind (α := Nat) (fun a => a ≤ g.os.length) (fun a => g.os.length - a)
        (fun a => [(3, .slice (some ⟨N + 1, 0, none⟩) n n), (60, .slice ob g.os.length oc), (61, .int .i64 g.os.length), (62, .int .i64 a)]) (fun _ => M) (fun a => (σ.set N ⟨G, true, 1⟩).set (N + 1) ⟨nums (cntF (r ++ g.os.take a)) n, true, 1⟩) ?_ 0 (Nat.zero_le _)) rfl rfl (by simp)
      clear ih hlt hj hjm hb
      intro j hj ih
      by_cases hlt : j < g.os.length
      · have hb : decide ((j : Int) < (g.os.length : Int)) = true := by simpa using hlt
        refine awp_seq (awp_pures [3, 60, 61, 62, 63] (by simp only [go_sem, ↓reduceIte, xa, xb, xc, xd, xe, xf, xg, xh, xi, xj, hb]; try rfl) ?_)
        refine awp_seq ?_
        refine awp_if rfl (fun _ => ?_) (fun h => by cases h)
        refine awp_skip ?_
        refine awp_seq (awp_block ?_)
        have hjj : 0 ≤ (j : Int) ∧ (j : Int) < (g.os.length : Int) := by omega
        obtain ⟨id, off, cap, b, e1, e2, e3, e4⟩ := slAt_int (ho.mono (hσp (nums (cntF (r ++ g.os.take j)) n))) hlt
        cases e1
        first | refine awp_seq (awp_lit ?_) | refine awp_lit ?_ | refine awp_seq (awp_seq (awp_lit ?_))
        refine al_pureN 1 (by simp only [go_sem, ↓reduceIte, xa, xb, xc, xd, xe, xf, xg, xh, xi, xj, hjj]; try rfl) ?_
        refine al_load rfl (by simp only [go_sem, ↓reduceIte, xa, xb, xc, xd, xe, xf, xg, xh, xi, xj, hjj]) rfl (by simp only [go_sem, ↓reduceIte, xa, xb, xc, xd, xe, xf, xg, xh, xi, xj, hjj]; try rfl) e2 (loadA_scalar agg43 e3) ?_
        refine al_pureN 1 (by simp only [go_sem, ↓reduceIte, xa, xb, xc, xd, xe, xf, xg, xh, xi, xj, hjj]; try rfl) ?_
        refine al_end [3, 10, 60, 61, 62] ?_
        obtain ⟨b1, b2⟩ := chkO_get hcho hlt
        obtain ⟨A, hAe⟩ : ∃ A, A = g.os[j] := ⟨_, rfl⟩
        have hsn : r ++ g.os.take (j + 1) = (r ++ g.os.take j) ++ [A] := by
          rw [take_snoc _ hlt, ← List.append_assoc]; simp [hAe]
        rw [← hAe] at b1 b2 ⊢
        obtain ⟨p, hp⟩ : ∃ p, p = r ++ g.os.take j := ⟨_, rfl⟩
        have hpl : p.length ≤ 600 := by rw [hp, List.length_append, List.length_take]; omega
        rw [← hp] at hsn ⊢
        have hA1 : 0 ≤ A / 2 ∧ A / 2 < (n : Int) := by omega
        have hA2 : (A / 2).toNat = A.toNat / 2 := by omega
        have qA := quo_two b1 (by omega)
        have gA : (nums (cntF p) n)[(A / 2).toNat]? = some (.int .i64 ((cntF p (A.toNat / 2) : Nat) : Int)) := by rw [hA2]; exact nums_get _ (by omega)
        have wA := bnd p (A.toNat / 2) (by omega)
        refine awp_lit ?_
        refine al_pureN 4 (by simp only [go_sem, ↓reduceIte, xa, xb, xc, xd, xe, xf, xg, xh, xi, xj, qA, hA1, i64_add wA]; try rfl) ?_
        refine al_load rfl (by simp only [go_sem, ↓reduceIte, xa, xb, xc, xd, xe, xf, xg, xh, xi, xj, qA, hA1, i64_add wA]) rfl (by simp only [go_sem, ↓reduceIte, xa, xb, xc, xd, xe, xf, xg, xh, xi, xj, qA, hA1, i64_add wA]; try rfl) (AHeap.set_self _ _ _) (loadA_scalar agg3 gA) ?_
        refine al_pureN 2 (by simp only [go_sem, ↓reduceIte, xa, xb, xc, xd, xe, xf, xg, xh, xi, xj, qA, hA1, i64_add wA]; try rfl) ?_
        refine al_store1 rfl (by simp only [go_sem, ↓reduceIte, xa, xb, xc, xd, xe, xf, xg, xh, xi, xj, qA, hA1, i64_add wA]; try rfl) rfl (by simp only [go_sem, ↓reduceIte, xa, xb, xc, xd, xe, xf, xg, xh, xi, xj, qA, hA1, i64_add wA]; try rfl) (by simp only [go_sem, ↓reduceIte, xa, xb, xc, xd, xe, xf, xg, xh, xi, xj, qA, hA1, i64_add wA]; try rfl) (AHeap.set_self _ _ _) rfl size3 rfl rfl (by show (A / 2).toNat < (nums _ _).length; rw [nums_len]; omega) ?_
        refine al_end [3, 60, 61, 62] ?_
        have hadd2 : -9223372036854775808 ≤ (j : Int) + 1 ∧ (j : Int) + 1 ≤ 9223372036854775807 := by omega
        refine awp_pures [3, 60, 61, 62] (by simp only [go_sem, ↓reduceIte, xa, xb, xc, xd, xe, xf, xg, xh, xi, xj, i64_add hadd2]; try rfl) ?_
        rw [AHeap.set_set]
        refine ALoop.cast3 (ih (j + 1) hlt (by omega)) rfl rfl ?_
        rw [hsn, ← nums_bump, hA2]
      · have hb : decide ((j : Int) < (g.os.length : Int)) = false := by simpa using hlt
        have hjm : j = g.os.length := by omega
        refine awp_seq (awp_pures [3, 60, 61, 62, 63] (by simp only [go_sem, ↓reduceIte, xa, xb, xc, xd, xe, xf, xg, xh, xi, xj, hb]; try rfl) ?_)
        refine awp_seq ?_
        refine awp_if rfl (fun h => by cases h) (fun _ => ?_)
        refine awp_exit ?_
        simp only [Go.Abs.Seq, Go.Abs.Round, Go.Abs.InBlock, ↓reduceIte]
        refine awp_seq (awp_pures [2] (by simp only [go_sem, ↓reduceIte, xa, xb, xc, xd, xe, xf, xg, xh, xi, xj]; try rfl) ?_)
        rw [hjm, List.take_length]
        have he : r ++ g.os = allLits g := by rw [hr, hq]; rfl
        rw [he]
        exact awp_ret ⟨_, rfl, .inr ⟨N + 1, n, by omega, rfl, Nat.le_refl _, AHeap.set_self _ _ _, by rw [nums_len, Nat.mul_one]⟩, hσp _, by omega⟩
end Go.Proofs.Ytfialjllclclkaa

set_option linter.unusedSimpArgs false
set_option linter.unusedVariables false
namespace Go.Proofs.Ytfialjllclclkaa
open Go.Abs Go.Cut
attribute [local go_sem] Try.underlying3 Try.underlying35 size3 size35 Nat.mul_one
open Nat renaming reduceLT → xa, reduceEqDiff → xb, reduceLeDiff → xc, reduceAdd → xd, reduceMul → xe, reduceBEq → xj, add_assoc → ya, add_left_cancel_iff → yb, add_right_cancel_iff → yc, left_eq_add → yd, add_eq_left → ye, add_eq_right → yf, right_eq_add → yg, succ_ne_zero → yh
open Int renaming reduceLT → xf, reduceLE → xg, reduceToNat → xh
open BitVec renaming reduceOfInt → xi
theorem roundQ_mono {i : Nat} {info : LInfo} {K K' : Value → Nat → AHeap → Prop} {ex : Exit} {env : Env} {N : Nat} {σ : AHeap} (h : RoundQ i info K ex env N σ) (hk : ∀ v N σ, K v N σ → K' v N σ) : RoundQ i info K' ex env N σ := by
  cases ex <;> first | exact hk _ _ _ h | exact h
theorem back_ok {l : List Int} {sb : Option Addr} {sc bx i : Nat} {info : LInfo} (Inv : Nat → Nat → AHeap → Prop) (hlen : l.length ≤ 1000000)
    (hI : ∀ j N σ, Inv j N σ → σ i = some ⟨[], true, .loop info .ready⟩ ∧ σ bx = some ⟨[.slice sb l.length sc], true, .n 1⟩ ∧ SlAt σ (.slice sb l.length sc) (ints l))
    (hp : info.params.size = 2) (hpn : ∀ p ∈ info.params.toList, p < info.n)
    (step : ∀ (j : Nat) (x : Int) (_ : l[j]? = some x) (N : Nat) (σ : AHeap), Inv (j + 1) N σ → AWp true Try.prog info.n info.assign (putParams info.params.toList [.int .i64 j, .int .i64 x] info.env) N (σ.del i)
      (fun ex env1 N1 σ1 => ex = .normal ∧ AWp true Try.prog info.n info.body env1 N1 σ1 (RoundQ i info (fun v N' σ' => v = .bool true ∧ Inv j N' σ'))))
    {N : Nat} {σ : AHeap} (h0 : Inv l.length N σ) :
    AOk Try.prog 67 [.func (.yield i) #[] #[], .pointer (some ⟨bx, 0, none⟩)] N σ (fun _ N' σ' => Inv 0 N' σ') := by
  refine aok_body (r := false) (n := 19) Try.func67 rfl rfl (by simp) ?_
  obtain ⟨_, hb, _⟩ := hI _ _ _ h0
  have hs0 : -9223372036854775808 ≤ (l.length : Int) - 1 ∧ (l.length : Int) - 1 ≤ 9223372036854775807 := by omega
  first | refine awp_seq (awp_lit ?_) | refine awp_lit ?_ | refine awp_seq (awp_seq (awp_lit ?_))
  refine al_load rfl (by simp only [go_sem, ↓reduceIte, xa, xb, xc, xd, xe, xf, xg, xh, xi, xj, i64_sub hs0]) rfl (by simp only [go_sem, ↓reduceIte, xa, xb, xc, xd, xe, xf, xg, xh, xi, xj, i64_sub hs0]; try rfl) hb (loadA_scalar agg35 rfl) ?_
  refine al_pureN 3 (by simp only [go_sem, ↓reduceIte, xa, xb, xc, xd, xe, xf, xg, xh, xi, xj, i64_sub hs0]; try rfl) ?_
  refine al_end [0, 1, 3] ?_
  refine awp_block (awp_loop ?_)
  refine ALoop.cast3 (aloop_ind (α := Nat × Nat × AHeap) (fun a => a.1 ≤ l.length ∧ Inv a.1 a.2.1 a.2.2) (fun a => a.1)
    (fun a => [(0, .func (.yield i) #[] #[]), (1, .pointer (some ⟨bx, 0, none⟩)), (3, .int .i64 ((a.1 : Int) - 1))]) (fun a => a.2.1) (fun a => a.2.2) ?_ (l.length, N, σ) ⟨Nat.le_refl _, h0⟩) rfl rfl rfl
  rintro ⟨j, M, τ⟩ ⟨hj, hInv⟩ ih
  dsimp only at hj hInv ih ⊢
  cases j with
  | zero =>
    refine awp_seq ?_
    refine awp_seq (awp_pures [0, 1, 3, 8] (by simp only [go_sem, ↓reduceIte, xa, xb, xc, xd, xe, xf, xg, xh, xi, xj]; try rfl) ?_)
    refine awp_if rfl (fun h => by cases h) (fun _ => ?_)
    refine awp_exit ?_
    simp only [Go.Abs.Seq, Go.Abs.Round, Go.Abs.InBlock, ↓reduceIte]
    exact ⟨_, rfl, hInv⟩
  | succ j =>
    have hj1 : ((j + 1 : Nat) : Int) - 1 = (j : Int) := by omega
    rw [hj1]
    have hge : decide ((j : Int) ≥ 0) = true := by simp
    refine awp_seq ?_
    refine awp_seq (awp_pures [0, 1, 3, 8] (by simp only [go_sem, ↓reduceIte, xa, xb, xc, xd, xe, xf, xg, xh, xi, xj, hge]; try rfl) ?_)
    refine awp_if rfl (fun _ => ?_) (fun h => by cases h)
    refine awp_skip ?_
    refine awp_seq (awp_block ?_)
    obtain ⟨hrec, hb, hs⟩ := hI _ _ _ hInv
    have hjj : 0 ≤ (j : Int) ∧ (j : Int) < (l.length : Int) := by omega
    obtain ⟨id, off, cap, b, e1, e2, e3, e4⟩ := slAt_int hs hj
    cases e1
    refine awp_seq ?_
    first | refine awp_seq (awp_lit ?_) | refine awp_lit ?_ | refine awp_seq (awp_seq (awp_lit ?_))
    refine al_pureN 2 (by simp only [go_sem, ↓reduceIte, xa, xb, xc, xd, xe, xf, xg, xh, xi, xj, hjj]; try rfl) ?_
    refine al_load rfl (by simp only [go_sem, ↓reduceIte, xa, xb, xc, xd, xe, xf, xg, xh, xi, xj, hjj]) rfl (by simp only [go_sem, ↓reduceIte, xa, xb, xc, xd, xe, xf, xg, xh, xi, xj, hjj]; try rfl) hb (loadA_scalar agg35 rfl) ?_
    refine al_pureN 2 (by simp only [go_sem, ↓reduceIte, xa, xb, xc, xd, xe, xf, xg, xh, xi, xj, hjj]; try rfl) ?_
    refine al_load rfl (by simp only [go_sem, ↓reduceIte, xa, xb, xc, xd, xe, xf, xg, xh, xi, xj, hjj]) rfl (by simp only [go_sem, ↓reduceIte, xa, xb, xc, xd, xe, xf, xg, xh, xi, xj, hjj]; try rfl) e2 (loadA_scalar agg3 e3) ?_
    refine al_step (by simp only [go_sem]; try rfl) (dstOk_spec rfl) (step_yield (vs := [.int .i64 j, .int .i64 l[j]]) rfl rfl rfl hrec (by simp [hp]) hpn ?_)
    refine (step j l[j] (List.getElem?_eq_getElem hj) _ _ hInv).mono fun ex env1 N1 σ1 h => ⟨h.1, h.2.mono fun ex2 env2 N2 σ2 h2 => roundQ_mono h2 fun v3 N3 σ3 h3 => ?_⟩
    obtain ⟨rfl, h4⟩ := h3
    refine al_pureN 1 (by simp only [go_sem, ↓reduceIte, xa, xb, xc, xd, xe, xf, xg, xh, xi, xj]; try rfl) ?_
    refine al_end [0, 1, 3, 18] ?_
    refine awp_if rfl (fun h => by cases h) (fun _ => ?_)
    refine awp_skip ?_
    have hs1 : -9223372036854775808 ≤ (j : Int) - 1 ∧ (j : Int) - 1 ≤ 9223372036854775807 := by omega
    refine awp_pures [0, 1, 3] (by simp only [go_sem, ↓reduceIte, xa, xb, xc, xd, xe, xf, xg, xh, xi, xj, i64_sub hs1]; try rfl) ?_
    exact ALoop.cast3 (ih (j, N3, σ3) ⟨by dsimp only; omega, h4⟩ (by dsimp only; omega)) rfl rfl rfl
theorem Backward_ok {sv : Value} {N : Nat} {σ : AHeap} (hb : spread sv = [sv]) :
    AOk Try.prog 47 [sv] N σ fun r N1 σ1 => r = .func (.func 67) #[] #[.pointer (some ⟨N, 0, none⟩)] ∧ N1 = N + 1 ∧ σ1 = σ.set N ⟨[sv], true, .n 1⟩ := by
  refine aok_body (r := false) (n := 4) Try.func47 rfl rfl (by simp) ?_
  first | refine awp_seq (awp_lit ?_) | refine awp_lit ?_ | refine awp_seq (awp_seq (awp_lit ?_))
  refine al_box 1 rfl rfl rfl (by simp only [go_sem, ↓reduceIte, xa, xb, xc, xd, xe, xf, xg, xh, xi, xj]; try rfl) ?_
  refine al_pureN 1 (by simp only [go_sem, ↓reduceIte, xa, xb, xc, xd, xe, xf, xg, xh, xi, xj]; try rfl) ?_
  refine al_end [1] ?_
  refine awp_seq (awp_pures [2] (by simp only [go_sem, ↓reduceIte, xa, xb, xc, xd, xe, xf, xg, xh, xi, xj]; try rfl) ?_)
  exact awp_ret ⟨_, rfl, rfl, rfl, by rw [hb]⟩
end Go.Proofs.Ytfialjllclclkaa

set_option linter.unusedSimpArgs false
set_option linter.unusedVariables false
namespace Go.Proofs.Ytfialjllclclkaa
open Go.Abs Go.Cut
attribute [local go_sem] Try.underlying26 Try.underlying66 Try.underlying69 Try.underlying3 Try.underlying22 Try.underlying23 Try.underlying24 Try.underlying35 Try.underlying43 Try.underlying45 Try.underlying47 Try.underlying5 Try.underlying4 Try.underlying30 Try.underlying56 size26 size66 size69 size3 size22 size23 size24 size35 size43 size45 size47 size5 size4 size30 Nat.mul_one
open Nat renaming reduceLT → xa, reduceEqDiff → xb, reduceLeDiff → xc, reduceAdd → xd, reduceMul → xe, reduceBEq → xj, add_assoc → ya, add_left_cancel_iff → yb, add_right_cancel_iff → yc, left_eq_add → yd, add_eq_left → ye, add_eq_right → yf, right_eq_add → yg, succ_ne_zero → yh
open Int renaming reduceLT → xf, reduceLE → xg, reduceToNat → xh
open BitVec renaming reduceOfInt → xi
theorem own_spread {σ : AHeap} {lo len sz : Nat} {v : Value} {cells : List Value} (h : OwnAt σ lo v cells len sz) : spread v = [v] := by
  obtain ⟨b, c, rfl⟩ := h.lenV
  rfl
theorem own_one {σ : AHeap} {lo len sz : Nat} {v : Value} {cells : List Value} (h : OwnAt σ lo v cells len sz) : v.oneCell' = true := by
  obtain ⟨b, c, rfl⟩ := h.lenV
  rfl
theorem Free_ok {g : AigD} {v lv : Value} {node : Int} {l : List Int} {N : Nat} {σ : AHeap} (hf : Few g) (hv : AigAt σ v g) (hl : SlAt σ lv (ints l)) :
    AOk Try.prog 21 [v, .int .i64 node, lv] N σ fun r N1 σ1 => ∃ sv, r = .tuple #[sv, .int .i64 (FreeR g l node).2] ∧ OwnAt σ1 N sv (ints (FreeR g l node).1) (FreeR g l node).1.length 1 ∧ σ.le σ1 ∧ N ≤ N1 := by
  obtain ⟨lb, lc, ab, ac, ob, oc, rfl, hls, has, hos⟩ := hv.opn
  have hf1 := hf.as
  have hf2 := hf.ls
  refine aok_fresh fun hN => aok_body (r := false) (n := 68) Try.func21 rfl rfl (by simp) ?_
  first | refine awp_seq (awp_lit ?_) | refine awp_lit ?_ | refine awp_seq (awp_seq (awp_lit ?_))
  refine al_box 1 rfl rfl rfl (by simp only [go_sem, ↓reduceIte, xa, xb, xc, xd, xe, xf, xg, xh, xi, xj]; try rfl) ?_
  refine al_alloc 1 rfl rfl rfl ty35 (by decide) ?_
  refine al_pureN 1 (by simp only [go_sem, ↓reduceIte, xa, xb, xc, xd, xe, xf, xg, xh, xi, xj]; try rfl) ?_
  refine al_end [1, 2, 3, 6, 41] ?_
  obtain ⟨σa, hσa⟩ : ∃ σa, σa = ((σ.set N ⟨spread (.agg #[.int .i64 g.inp, .slice lb g.ls.length lc, .slice ab g.as.length ac, .slice ob g.os.length oc]), true, .n 1⟩).set (N + 1) ⟨spread (.slice none 0 0), true, .n 1⟩) := ⟨_, rfl⟩
  have hle : σ.le σa := by rw [hσa]; exact (le_new hN (Nat.le_refl _)).trans (le_new (dom_set hN) (Nat.le_refl _))
  have hPa : σa N = some ⟨spread (.agg #[.int .i64 g.inp, .slice lb g.ls.length lc, .slice ab g.as.length ac, .slice ob g.os.length oc]), true, .n 1⟩ := by
    rw [hσa, AHeap.set_ne _ _ (by omega), AHeap.set_self]
  have hOa : σa (N + 1) = some ⟨[.slice none 0 0], true, .n 1⟩ := by rw [hσa, AHeap.set_self]; rfl
  rw [← hσa]
  first | refine awp_seq (awp_lit ?_) | refine awp_lit ?_ | refine awp_seq (awp_seq (awp_lit ?_))
  refine al_load rfl (by simp only [go_sem, ↓reduceIte, xa, xb, xc, xd, xe, xf, xg, xh, xi, xj]) rfl (by simp only [go_sem, ↓reduceIte, xa, xb, xc, xd, xe, xf, xg, xh, xi, xj]; try rfl) hPa (loadA_agg agg26 rfl) ?_
  refine al_fun (open_ok hf (hls.mono hle) (has.mono hle) (hos.mono hle)) rfl (by simp only [go_sem, ↓reduceIte, xa, xb, xc, xd, xe, xf, xg, xh, xi, xj]; try rfl) (by kernel_rfl) rfl (by simp only [go_sem, ↓reduceIte, xa, xb, xc, xd, xe, xf, xg, xh, xi, xj]; try rfl) ?_
  rintro r N1 σ1 ⟨rfl, hN1, hle1⟩
  refine al_fresh fun hNs => ?_
  have hσ1 : σ.le σ1 := hle.trans hle1
  refine al_pureN 3 (by simp only [go_sem, ↓reduceIte, xa, xb, xc, xd, xe, xf, xg, xh, xi, xj]; try rfl) ?_
  refine al_alloc 1 rfl rfl rfl ty66 (by decide) ?_
  refine al_store rfl (by simp only [go_sem, ↓reduceIte, xa, xb, xc, xd, xe, xf, xg, xh, xi, xj]) rfl (by simp only [go_sem, ↓reduceIte, xa, xb, xc, xd, xe, xf, xg, xh, xi, xj]; try rfl) (by simp only [go_sem, ↓reduceIte, xa, xb, xc, xd, xe, xf, xg, xh, xi, xj]; try rfl) (by first | exact AHeap.set_self _ _ _ | (simp only [AHeap.set, ↓reduceIte, ya, xd, yb, yc, yd, ye, yf, yg, xb, yh]; rfl) | assumption) rfl (by exact size66.trans rfl) (by rfl) (by exact Nat.le_of_ble_eq_true rfl) ?_
  refine al_pureN 1 (by simp only [go_sem, ↓reduceIte, xa, xb, xc, xd, xe, xf, xg, xh, xi, xj]; try rfl) ?_
  refine al_end [1, 2, 6, 7, 8] ?_
  rw [AHeap.set_set]
  show Abs.Seq _ _ _ _ _ _ _ _ (σ1.set N1 ⟨spread (graphV lb lc ab ac ob oc g (openF g)), true, .n 1⟩)
  have hle2 : σ1.le (σ1.set N1 ⟨spread (graphV lb lc ab ac ob oc g (openF g)), true, .n 1⟩) := le_new hNs (Nat.le_refl _)
  have hNs2 := dom_set (b := ⟨spread (graphV lb lc ab ac ob oc g (openF g)), true, .n 1⟩) hNs
  have hO1 : σ1 (N + 1) = some ⟨[.slice none 0 0], true, .n 1⟩ := hle1 _ _ hOa
  have hstay : ∀ {τ : AHeap} (x : Value), σa.le τ → σ.le (τ.set (N + 1) ⟨[x], true, .n 1⟩) := fun x h i b hb => by
    have := hN i b hb
    rw [AHeap.set_ne _ _ (by omega)]; exact h _ _ (hle _ _ hb)
  by_cases hc : chkE g = 0
  · have hV := valid_of hc
    have hb : (chkE g != 0) = false := by simp [hc]
    have hinp := hV.inp
    have hsz := hV.size
    unfold sizeC firstC at hsz
    have hF : openF g = (((firstC g).toNat : Nat) : Int) := by rw [openF_valid hV hf, Int.toNat_of_nonneg (by unfold firstC; omega)]
    rw [hF]
    rw [hF] at hle2 hNs2
    obtain ⟨f, hfd⟩ : ∃ f, f = (firstC g).toNat := ⟨_, rfl⟩
    have hfle : f ≤ 400000 := by rw [hfd]; unfold firstC; omega
    have hchk : chkA f g.as = true := by have := hV.ands; rw [← openF_valid hV hf, hF, ← hfd] at this; exact this
    have hfs : sizeC g = (f : Int) + g.as.length := by unfold sizeC; rw [← openF_valid hV hf, hF, ← hfd]
    have hchl := hV.latches
    have hcho := hV.outs
    rw [hfs] at hchl hcho
    rw [← hfd] at hle2 hNs2 ⊢
    obtain ⟨σ2, hσ2⟩ : ∃ σ2, σ2 = σ1.set N1 ⟨spread (graphV lb lc ab ac ob oc g f), true, .n 1⟩ := ⟨_, rfl⟩
    have hG2 : σ2 N1 = some ⟨spread (graphV lb lc ab ac ob oc g f), true, .n 1⟩ := by rw [hσ2, AHeap.set_self]
    rw [← hσ2] at hle2 hNs2 ⊢
    have hσ2' : σ.le σ2 := hσ1.trans hle2
    have hR : ConeR g l node = coneE f g.as l node := by simp [ConeR, hc, hfd]
    refine awp_seq ?_
    refine awp_seq (awp_pures [1, 2, 6, 7, 8, 21, 41] (by simp only [go_sem, ↓reduceIte, xa, xb, xc, xd, xe, xf, xg, xh, xi, xj, hb]; try rfl) ?_)
    refine awp_if rfl (fun h => by cases h) (fun _ => ?_)
    refine awp_skip ?_
    first | refine awp_seq (awp_lit ?_) | refine awp_lit ?_ | refine awp_seq (awp_seq (awp_lit ?_))
    refine al_load rfl (by simp only [go_sem, ↓reduceIte, xa, xb, xc, xd, xe, xf, xg, xh, xi, xj]) rfl (by simp only [go_sem, ↓reduceIte, xa, xb, xc, xd, xe, xf, xg, xh, xi, xj]; try rfl) hG2 (loadA_agg agg66 rfl) ?_
    refine al_pureN 2 (by simp only [go_sem, ↓reduceIte, xa, xb, xc, xd, xe, xf, xg, xh, xi, xj]; try rfl) ?_
    refine al_fun (cone_ok (g := g) (f := f) (has.mono hσ2') (hl.mono hσ2') hfle (by omega) hchk) rfl (by simp only [go_sem, ↓reduceIte, xa, xb, xc, xd, xe, xf, xg, xh, xi, xj]; try rfl) (by kernel_rfl) rfl (by simp only [go_sem, ↓reduceIte, xa, xb, xc, xd, xe, xf, xg, xh, xi, xj]; try rfl) ?_
    rintro r N2 σ3 ⟨sv, rfl, hsv, hle3, hN2⟩
    refine al_pureN 5 (by simp only [go_sem, ↓reduceIte, xa, xb, xc, xd, xe, xf, xg, xh, xi, xj]; try rfl) ?_
    refine al_end [1, 6, 7, 8, 9] ?_
    have hO3 : σ3 (N + 1) = some ⟨[.slice none 0 0], true, .n 1⟩ := hle3 _ _ (hle2 _ _ hO1)
    by_cases hce : (coneE f g.as l node).2 = 0
    · have hb : ((coneE f g.as l node).2 != 0) = false := by simp [hce]
      refine awp_seq ?_
      refine awp_seq (awp_pures [1, 6, 7, 8, 9, 31, 41] (by simp only [go_sem, ↓reduceIte, xa, xb, xc, xd, xe, xf, xg, xh, xi, xj, hb]; try rfl) ?_)
      refine awp_if rfl (fun h => by cases h) (fun _ => ?_)
      refine awp_skip ?_
      obtain ⟨hn0, hn1⟩ := coneE_node hce
      obtain ⟨cl, hcl⟩ : ∃ cl, cl = (coneE f g.as l node).1 := ⟨_, rfl⟩
      have hcm := coneE_mem f g.as l node
      have hRF : FreeR g l node = ((freeS f g.as (useF g node.toNat) cl).2.reverse, 0) := by unfold FreeR; rw [hR, if_pos hce, ← hfd, ← hcl]
      rw [← hcl] at hcm hsv
      obtain ⟨hcm, hcn⟩ := hcm
      rw [hRF]
      obtain ⟨m, rfl⟩ : ∃ m : Nat, node = m := ⟨node.toNat, by omega⟩
      rw [Int.toNat_natCast]
      obtain ⟨n, hn⟩ : ∃ n, n = f + g.as.length := ⟨_, rfl⟩
      have hmn : 0 ≤ (m : Int) ∧ (m : Int) < (n : Int) := by omega
      have hG3 : σ3 N1 = some ⟨spread (graphV lb lc ab ac ob oc g f), true, .n 1⟩ := hle3 _ _ hG2
      have hσ3' : σ.le σ3 := hσ2'.trans hle3
      first | refine awp_seq (awp_lit ?_) | refine awp_lit ?_ | refine awp_seq (awp_seq (awp_lit ?_))
      refine al_fresh fun hN3 => ?_
      refine al_load rfl (by simp only [go_sem, ↓reduceIte, xa, xb, xc, xd, xe, xf, xg, xh, xi, xj]) rfl (by simp only [go_sem, ↓reduceIte, xa, xb, xc, xd, xe, xf, xg, xh, xi, xj]; try rfl) hG3 (loadA_agg agg66 rfl) ?_
      refine al_fun (uses_ok (f := f) (hls.mono hσ3') (has.mono hσ3') (hos.mono hσ3') hfle hf hchk hchl hcho) rfl (by simp only [go_sem, ↓reduceIte, xa, xb, xc, xd, xe, xf, xg, xh, xi, xj]; try rfl) (by kernel_rfl) rfl (by simp only [go_sem, ↓reduceIte, xa, xb, xc, xd, xe, xf, xg, xh, xi, xj]; try rfl) ?_
      rintro r N4 σ4 ⟨hr, hle4, hN4⟩
      rw [← hn] at hr
      refine al_fresh fun hN4' => ?_
      rcases hr with ⟨_, h2, _⟩ | ⟨U, cap, hU1, rfl, hU3, hU4, hU5⟩
      · omega
      refine al_alloc 1 rfl rfl rfl ty35 (by decide) ?_
      refine al_store1 rfl (by simp only [go_sem, ↓reduceIte, xa, xb, xc, xd, xe, xf, xg, xh, xi, xj]; try rfl) rfl (by simp only [go_sem, ↓reduceIte, xa, xb, xc, xd, xe, xf, xg, xh, xi, xj]; try rfl) (by simp only [go_sem, ↓reduceIte, xa, xb, xc, xd, xe, xf, xg, xh, xi, xj]; try rfl) (AHeap.set_self _ _ _) rfl size35 rfl rfl (by decide) ?_
      refine al_end [1, 6, 8, 9, 10] ?_
      rw [AHeap.set_set]
      have hUN : U ≠ N4 := by have := hN4' _ _ hU4; omega
      have hU : (σ4.set N4 ⟨[.slice (some ⟨U, 0, none⟩) n cap], true, .n 1⟩) U = some ⟨nums (cntF (allLits g)) n, true, .n 1⟩ := by rw [AHeap.set_ne _ _ hUN]; exact hU4
      show Abs.Seq _ _ _ _ _ _ _ _ (σ4.set N4 ⟨[.slice (some ⟨U, 0, none⟩) n cap], true, .n 1⟩)
      first | refine awp_seq (awp_lit ?_) | refine awp_lit ?_ | refine awp_seq (awp_seq (awp_lit ?_))
      refine al_load rfl (by simp only [go_sem, ↓reduceIte, xa, xb, xc, xd, xe, xf, xg, xh, xi, xj, hmn]) rfl (by simp only [go_sem, ↓reduceIte, xa, xb, xc, xd, xe, xf, xg, xh, xi, xj, hmn]; try rfl) (AHeap.set_self _ _ _) (loadA_scalar agg35 rfl) ?_
      refine al_pureN 2 (by simp only [go_sem, ↓reduceIte, xa, xb, xc, xd, xe, xf, xg, xh, xi, xj, hmn]; try rfl) ?_
      refine al_store1 rfl (by simp only [go_sem, ↓reduceIte, xa, xb, xc, xd, xe, xf, xg, xh, xi, xj, hmn]; try rfl) rfl (by simp only [go_sem, ↓reduceIte, xa, xb, xc, xd, xe, xf, xg, xh, xi, xj, hmn]; try rfl) (by simp only [go_sem, ↓reduceIte, xa, xb, xc, xd, xe, xf, xg, xh, xi, xj, hmn]; try rfl) hU rfl size3 rfl rfl (by show m < (nums _ _).length; rw [nums_len]; omega) ?_
      refine al_end [6, 8, 9, 10, 41] ?_
      show Abs.Seq _ _ _ _ _ _ _ _ (AHeap.set (σ4.set N4 ⟨[.slice (some ⟨U, 0, none⟩) n cap], true, .n 1⟩) U ⟨(nums (cntF (allLits g)) n).set m (.int .i64 0), true, .n 1⟩)
      rw [nums_put]
      obtain ⟨base, hbase⟩ : ∃ base, base = useF g m := ⟨_, rfl⟩
      show Abs.Seq _ _ _ _ _ _ _ _ (AHeap.set (σ4.set N4 ⟨[.slice (some ⟨U, 0, none⟩) n cap], true, .n 1⟩) U ⟨intsF (useF g m) n, true, .n 1⟩)
      rw [← hbase]
      have hcol : (ints cl).length = cl.length := by simp [ints]
      have hcs : SlAt σ3 sv (ints cl) := hsv.slAt
      obtain ⟨cb, cc, rfl⟩ := hsv.lenV
      have hspr : spread (.slice cb cl.length cc) = [.slice cb cl.length cc] := rfl
      first | refine awp_seq (awp_lit ?_) | refine awp_lit ?_ | refine awp_seq (awp_seq (awp_lit ?_))
      refine al_pureN 1 (by simp only [go_sem, ↓reduceIte, xa, xb, xc, xd, xe, xf, xg, xh, xi, xj]; try rfl) ?_
      refine al_fun (Backward_ok hspr) rfl (by simp only [go_sem, ↓reduceIte, xa, xb, xc, xd, xe, xf, xg, xh, xi, xj]; try rfl) (by kernel_rfl) rfl (by simp only [go_sem, ↓reduceIte, xa, xb, xc, xd, xe, xf, xg, xh, xi, xj]; try rfl) ?_
      rintro r N5 σ5 ⟨rfl, rfl, rfl⟩
      refine al_end [6, 8, 10, 39] ?_
      have hO4 : σ4 (N + 1) = some ⟨[.slice none 0 0], true, .n 1⟩ := hle4 _ _ hO3
      have hON4 : N + 1 < N4 := hN4' _ _ hO4
      have hG4 : σ4 N1 = some ⟨spread (graphV lb lc ab ac ob oc g f), true, .n 1⟩ := hle4 _ _ hG3
      have hGN4 : N1 < N4 := hN4' _ _ hG4
      have hUN4 : U < N4 := hN4' _ _ hU4
      obtain ⟨σb, hσb⟩ : ∃ σb, σb = ((σ4.set N4 ⟨[.slice (some ⟨U, 0, none⟩) n cap], true, .n 1⟩).set U ⟨intsF base n, true, .n 1⟩).set (N4 + 1) ⟨[.slice cb cl.length cc], true, .n 1⟩ := ⟨_, rfl⟩
      rw [← hσb]
      obtain ⟨σ0, hσ0⟩ : ∃ σ0, σ0 = (σb.del U).del (N + 1) := ⟨_, rfl⟩
      obtain ⟨B, hB⟩ : ∃ B, B = N4 + 1 + 1 := ⟨_, rfl⟩
      have hb0 : ∀ j, j ≠ U → j ≠ N + 1 → σ0 j = σb j := fun j h1 h2 => by rw [hσ0]; simp [AHeap.del, h1, h2]
      have hdel : ∀ (τ : AHeap) {i j : Nat}, j ≠ i → τ.del i j = τ j := fun τ i j h => by simp [AHeap.del, h]
      have hdb : ∀ i b, σb i = some b → i < B := by
        intro i b h
        rw [hσb] at h
        by_cases e1 : i = N4 + 1
        · omega
        rw [AHeap.set_ne _ _ e1] at h
        by_cases e2 : i = U
        · omega
        rw [AHeap.set_ne _ _ e2] at h
        by_cases e3 : i = N4
        · omega
        rw [AHeap.set_ne _ _ e3] at h
        have := hN4' _ _ h
        omega
      have hd0 : ∀ i b, σ0 i = some b → i < B := fun i b h => by
        rw [hσ0] at h
        exact hdb i b (AHeap.del_le _ _ _ _ (AHeap.del_le _ _ _ _ h))
      have h03 : (σ3.del (N + 1)).le σ0 := fun j b h => by
        have hj : j ≠ N + 1 := fun e => by simp [AHeap.del, e] at h
        have h3 : σ3 j = some b := by simpa [AHeap.del, hj] using h
        have := hN3 _ _ h3
        rw [hb0 _ (by omega) hj, hσb, AHeap.set_ne _ _ (by omega), AHeap.set_ne _ _ (by omega), AHeap.set_ne _ _ (by omega)]
        exact hle4 _ _ h3
      have h0C : σ0 (N4 + 1) = some ⟨[.slice cb cl.length cc], true, .n 1⟩ := by rw [hb0 _ (by omega) (by omega), hσb, AHeap.set_self]
      have h0U : σ0 N4 = some ⟨[.slice (some ⟨U, 0, none⟩) n cap], true, .n 1⟩ := by rw [hb0 _ (by omega) (by omega), hσb, AHeap.set_ne _ _ (by omega), AHeap.set_ne _ _ (by omega), AHeap.set_self]
      have h0G : σ0 N1 = some ⟨spread (graphV lb lc ab ac ob oc g f), true, .n 1⟩ := h03 _ _ (by rw [hdel _ (by omega)]; exact hG3)
      have h0σ : σ.le σ0 := fun i b hb => h03 _ _ (by rw [hdel _ (by have := hN i b hb; omega)]; exact hσ3' _ _ hb)
      have h0S : SlAt σ0 (.slice cb cl.length cc) (ints cl) := (hsv.mono (fun i b hi hb => h03 _ _ (by rw [hdel _ (by omega)]; exact hb)) (Nat.le_refl _)).slAt
      have hbU : σb U = some ⟨intsF base n, true, .n 1⟩ := by rw [hσb, AHeap.set_ne _ _ (by omega), AHeap.set_self]
      have hbO : σb (N + 1) = some ⟨[.slice none 0 0], true, .n 1⟩ := by rw [hσb, AHeap.set_ne _ _ (by omega), AHeap.set_ne _ _ (by omega), AHeap.set_ne _ _ (by omega)]; exact hO4
      have hb0' : σ0.le σb := fun i b h => by
        rw [hσ0] at h
        exact AHeap.del_le _ _ _ _ (AHeap.del_le _ _ _ _ h)
      rw [← hB]
      refine awp_block ?_
      refine awp_rangeFunc (g := 67) (xs := #[]) (cs := #[.pointer (some ⟨N4 + 1, 0, none⟩)]) rfl (by kernel_rfl) ?_
      refine AOk.mono (back_ok (bx := N4 + 1) (sb := cb) (sc := cc) (l := cl) (i := B) (info := ⟨68, _, _, _, _⟩) (fun j M τ => B + 1 ≤ M ∧ τ B = some ⟨[], true, .loop ⟨68, _, _, _, _⟩ .ready⟩ ∧ σ0.le τ ∧ τ U = some ⟨intsF (leftF base (freeS f g.as base (cl.drop j)).1) n, true, .n 1⟩ ∧
        ∃ ov, τ (N + 1) = some ⟨[ov], true, .n 1⟩ ∧ OwnAt τ (B + 1) ov (ints (freeS f g.as base (cl.drop j)).2) (freeS f g.as base (cl.drop j)).2.length 1) (by omega) (fun j M τ h => ⟨h.2.1, h.2.2.1 _ _ h0C, h0S.mono h.2.2.1⟩) rfl (by intro p hp; show p < 68; simp at hp; rcases hp with rfl | rfl <;> decide) ?_
        ⟨Nat.le_refl _, AHeap.set_self _ _ _, ?_, ?_, .slice none 0 0, ?_, ?_⟩) ?_
      · intro j x hx M τ hI
        obtain ⟨hM, hrec, hτ, hτU, ov, hτO, hov⟩ := hI
        obtain ⟨ρ, hρ⟩ : ∃ ρ, ρ = τ.del B := ⟨_, rfl⟩
        have hρn : ∀ {i}, i ≠ B → ρ i = τ i := fun h => by rw [hρ]; exact hdel _ h
        have hρ0 : σ0.le ρ := fun i b hb => by rw [hρn (by have := hd0 _ _ hb; omega)]; exact hτ _ _ hb
        have hρU := (hρn (i := U) (by omega)).trans hτU
        have hρO := (hρn (i := N + 1) (by omega)).trans hτO
        have hρv := hov.mono (σ' := ρ) (fun i b hi hb => by rw [hρn (by omega)]; exact hb) (Nat.le_refl _)
        have hστ : σ.le ρ := h0σ.trans hρ0
        have hstep := freeS_cons f g.as base cl hx
        obtain ⟨hjl0, hxe⟩ := List.getElem?_eq_some_iff.1 hx
        obtain ⟨hx1, hx2⟩ := hcm x (hxe ▸ List.getElem_mem hjl0)
        obtain ⟨w, rfl⟩ : ∃ w : Nat, x = w := ⟨x.toNat, by omega⟩
        have hfl := freeS_len f g.as base (cl.drop (j + 1))
        rw [List.length_drop] at hfl
        obtain ⟨rm, hrm⟩ : ∃ rm, rm = (freeS f g.as base (cl.drop (j + 1))).1 := ⟨_, rfl⟩
        obtain ⟨out, hout⟩ : ∃ out, out = (freeS f g.as base (cl.drop (j + 1))).2 := ⟨_, rfl⟩
        have hrml : rm.length ≤ 400 := by rw [hrm]; omega
        have houtl : out.length ≤ 200 := by rw [hout]; omega
        have hbb : ∀ k, 0 ≤ base k ∧ base k ≤ 600 := fun k => by
          rw [hbase]; unfold useF
          have := cntF_le (allLits g) k
          have h2 : (allLits g).length ≤ 600 := by
            have := hf.os
            simp only [allLits, List.length_append, andLits_len, List.length_map]; omega
          split <;> omega
        have hlb : ∀ (p : List Int) k, p.length ≤ 402 → -402 ≤ leftF base p k ∧ leftF base p k ≤ 600 := fun p k hp => by
          have := hbb k
          have := cntF_le p k
          unfold leftF; omega
        rw [← hrm] at hρU
        rw [← hout] at hρv
        have hstep2 : freeS f g.as base (cl.drop j) = if 0 < leftF base rm w then (rm, out) else ((rm ++ [(g.as.getD (w - f) (0, 0)).1]) ++ [(g.as.getD (w - f) (0, 0)).2], out ++ [(w : Int)]) := by
          have hro : freeS f g.as base (cl.drop (j + 1)) = (rm, out) := by rw [hrm, hout]
          rw [hstep, hro]; rfl
        rw [← hρ]
        show AWp true Try.prog 68 (.region 10 _ _) ((41, .int .i64 w) :: (40, .int .i64 j) :: _) M ρ _
        refine awp_pures [6, 8, 10, 12] (by simp only [go_sem, ↓reduceIte, xa, xb, xc, xd, xe, xf, xg, xh, xi, xj]; try rfl) ?_
        refine ⟨rfl, ?_⟩
        refine awp_block ?_
        have hww : 0 ≤ (w : Int) ∧ (w : Int) < (n : Int) := by omega
        have hgw : (intsF (leftF base rm) n)[w]? = some (.int .i64 (leftF base rm w)) := intsF_get _ (by omega)
        by_cases hgo : 0 < leftF base rm w
        · have hb : decide (leftF base rm w > 0) = true := by simpa using hgo
          refine awp_seq ?_
          first | refine awp_seq (awp_lit ?_) | refine awp_lit ?_ | refine awp_seq (awp_seq (awp_lit ?_))
          refine al_load rfl (by simp only [go_sem, ↓reduceIte, xa, xb, xc, xd, xe, xf, xg, xh, xi, xj, hww, hb]) rfl (by simp only [go_sem, ↓reduceIte, xa, xb, xc, xd, xe, xf, xg, xh, xi, xj, hww, hb]; try rfl) (hρ0 _ _ h0U) (loadA_scalar agg35 rfl) ?_
          refine al_pureN 2 (by simp only [go_sem, ↓reduceIte, xa, xb, xc, xd, xe, xf, xg, xh, xi, xj, hww, hb]; try rfl) ?_
          refine al_load rfl (by simp only [go_sem, ↓reduceIte, xa, xb, xc, xd, xe, xf, xg, xh, xi, xj, hww, hb]) rfl (by simp only [go_sem, ↓reduceIte, xa, xb, xc, xd, xe, xf, xg, xh, xi, xj, hww, hb]; try rfl) hρU (loadA_scalar agg3 hgw) ?_
          refine al_pureN 1 (by simp only [go_sem, ↓reduceIte, xa, xb, xc, xd, xe, xf, xg, xh, xi, xj, hww, hb]; try rfl) ?_
          refine al_end [6, 8, 10, 12, 46] ?_
          refine awp_if rfl (fun _ => ?_) (fun h => by cases h)
          refine awp_exit ?_
          simp only [Go.Abs.Seq, Go.Abs.Round, Go.Abs.InBlock, ↓reduceIte]
          rw [if_pos hgo] at hstep2
          refine ⟨rfl, hM, AHeap.set_self _ _ _, fun i b hb => ?_, ?_, ov, ?_, ?_⟩
          · rw [AHeap.set_ne _ _ (by have := hd0 _ _ hb; omega)]; exact hρ0 _ _ hb
          · rw [hstep2, AHeap.set_ne _ _ (by omega)]; exact hρU
          · rw [AHeap.set_ne _ _ (by omega)]; exact hρO
          · rw [hstep2]; exact hρv.mono (fun i b hi hb => by rw [AHeap.set_ne _ _ (by omega)]; exact hb) (Nat.le_refl _)
        · have hb : decide (leftF base rm w > 0) = false := by simpa using hgo
          refine awp_seq ?_
          first | refine awp_seq (awp_lit ?_) | refine awp_lit ?_ | refine awp_seq (awp_seq (awp_lit ?_))
          refine al_load rfl (by simp only [go_sem, ↓reduceIte, xa, xb, xc, xd, xe, xf, xg, xh, xi, xj, hww, hb]) rfl (by simp only [go_sem, ↓reduceIte, xa, xb, xc, xd, xe, xf, xg, xh, xi, xj, hww, hb]; try rfl) (hρ0 _ _ h0U) (loadA_scalar agg35 rfl) ?_
          refine al_pureN 2 (by simp only [go_sem, ↓reduceIte, xa, xb, xc, xd, xe, xf, xg, xh, xi, xj, hww, hb]; try rfl) ?_
          refine al_load rfl (by simp only [go_sem, ↓reduceIte, xa, xb, xc, xd, xe, xf, xg, xh, xi, xj, hww, hb]) rfl (by simp only [go_sem, ↓reduceIte, xa, xb, xc, xd, xe, xf, xg, xh, xi, xj, hww, hb]; try rfl) hρU (loadA_scalar agg3 hgw) ?_
          refine al_pureN 1 (by simp only [go_sem, ↓reduceIte, xa, xb, xc, xd, xe, xf, xg, xh, xi, xj, hww, hb]; try rfl) ?_
          refine al_end [6, 8, 10, 12, 46] ?_
          refine awp_if rfl (fun h => by cases h) (fun _ => ?_)
          refine awp_skip ?_
          rw [if_neg hgo] at hstep2
          obtain ⟨q, hq⟩ : ∃ q, q = w - f := ⟨_, rfl⟩
          have hjl : q < g.as.length := by omega
          have hjx : (w : Int) - (f : Int) = (q : Int) := by omega
          obtain ⟨b1, b2, b3, b4⟩ := chkA_get hchk hjl
          have hgd : g.as.getD (w - f) (0, 0) = g.as[q] := by rw [← hq]; simp [List.getD, hjl]
          rw [hgd] at hstep2
          refine awp_seq ?_
          first | refine awp_seq (awp_lit ?_) | refine awp_lit ?_ | refine awp_seq (awp_seq (awp_lit ?_))
          refine al_load rfl (by simp only [go_sem, ↓reduceIte, xa, xb, xc, xd, xe, xf, xg, xh, xi, xj]) rfl (by simp only [go_sem, ↓reduceIte, xa, xb, xc, xd, xe, xf, xg, xh, xi, xj]; try rfl) (hρ0 _ _ h0G) (loadA_agg agg66 rfl) ?_
          refine al_pureN 1 (by simp only [go_sem, ↓reduceIte, xa, xb, xc, xd, xe, xf, xg, xh, xi, xj]; try rfl) ?_
          refine al_gives (vs := ?vs1) (v := ?v1) rfl ?ha1 ?hh1 (by kernel_rfl) rfl (by simp only [go_sem, ↓reduceIte, xa, xb, xc, xd, xe, xf, xg, xh, xi, xj]) ?kk1
          case ha1 => simp only [go_sem, ↓reduceIte, xa, xb, xc, xd, xe, xf, xg, xh, xi, xj]; try rfl
          case hh1 => exact operands_gives (has.mono hστ) hjl hjx (by omega)
          refine al_pureN 1 (by simp only [go_sem, ↓reduceIte, xa, xb, xc, xd, xe, xf, xg, xh, xi, xj]; try rfl) ?_
          refine al_end [6, 10, 12, 49, 50] ?_
          obtain ⟨A1, hAe⟩ : ∃ A1, A1 = g.as[q].1 := ⟨_, rfl⟩
          obtain ⟨A2, hBe⟩ : ∃ A2, A2 = g.as[q].2 := ⟨_, rfl⟩
          rw [← hAe] at b1 b2 hstep2 ⊢
          rw [← hBe] at b3 b4 hstep2 ⊢
          have hA1 : 0 ≤ A1 / 2 ∧ A1 / 2 < (n : Int) := by omega
          have hB1 : 0 ≤ A2 / 2 ∧ A2 / 2 < (n : Int) := by omega
          have hA2 : (A1 / 2).toNat = A1.toNat / 2 := by omega
          have hB2 : (A2 / 2).toNat = A2.toNat / 2 := by omega
          have qA := quo_two b1 (by omega)
          have qB := quo_two b3 (by omega)
          have a01 : intA .add .i64 0 1 = some (.int .i64 1) := rfl
          have a11 : intA .add .i64 1 1 = some (.int .i64 2) := rfl
          have gA : (intsF (leftF base rm) n)[(A1 / 2).toNat]? = some (.int .i64 (leftF base rm (A1.toNat / 2))) := by rw [hA2]; exact intsF_get _ (by omega)
          have gB : (intsF (leftF base (rm ++ [A1])) n)[(A2 / 2).toNat]? = some (.int .i64 (leftF base (rm ++ [A1]) (A2.toNat / 2))) := by rw [hB2]; exact intsF_get _ (by omega)
          have wA : -9223372036854775808 ≤ leftF base rm (A1.toNat / 2) - 1 ∧ leftF base rm (A1.toNat / 2) - 1 ≤ 9223372036854775807 := by have := hlb rm (A1.toNat / 2) (by omega); omega
          have wB : -9223372036854775808 ≤ leftF base (rm ++ [A1]) (A2.toNat / 2) - 1 ∧ leftF base (rm ++ [A1]) (A2.toNat / 2) - 1 ≤ 9223372036854775807 := by have := hlb (rm ++ [A1]) (A2.toNat / 2) (by simp; omega); omega
          refine awp_block (awp_loop ?_)
          refine aloop_round ?_
          refine awp_seq (awp_pures [6, 10, 12, 49, 50, 51] (by simp only [go_sem, ↓reduceIte, xa, xb, xc, xd, xe, xf, xg, xh, xi, xj]; try rfl) ?_)
          refine awp_seq ?_
          refine awp_if rfl (fun _ => ?_) (fun h => by cases h)
          refine awp_skip ?_
          refine awp_seq (awp_block ?_)
          refine awp_seq (awp_pures [6, 10, 12, 14, 49, 50] (by simp only [go_sem, ↓reduceIte, xa, xb, xc, xd, xe, xf, xg, xh, xi, xj]; try rfl) ?_)
          refine awp_lit ?_
          refine al_load rfl (by simp only [go_sem, ↓reduceIte, xa, xb, xc, xd, xe, xf, xg, xh, xi, xj, qA, hA1, i64_sub wA]) rfl (by simp only [go_sem, ↓reduceIte, xa, xb, xc, xd, xe, xf, xg, xh, xi, xj, qA, hA1, i64_sub wA]; try rfl) (hρ0 _ _ h0U) (loadA_scalar agg35 rfl) ?_
          refine al_pureN 3 (by simp only [go_sem, ↓reduceIte, xa, xb, xc, xd, xe, xf, xg, xh, xi, xj, qA, hA1, i64_sub wA]; try rfl) ?_
          refine al_load rfl (by simp only [go_sem, ↓reduceIte, xa, xb, xc, xd, xe, xf, xg, xh, xi, xj, qA, hA1, i64_sub wA]) rfl (by simp only [go_sem, ↓reduceIte, xa, xb, xc, xd, xe, xf, xg, xh, xi, xj, qA, hA1, i64_sub wA]; try rfl) hρU (loadA_scalar agg3 gA) ?_
          refine al_pureN 2 (by simp only [go_sem, ↓reduceIte, xa, xb, xc, xd, xe, xf, xg, xh, xi, xj, qA, hA1, i64_sub wA]; try rfl) ?_
          refine al_store1 rfl (by simp only [go_sem, ↓reduceIte, xa, xb, xc, xd, xe, xf, xg, xh, xi, xj, qA, hA1, i64_sub wA]; try rfl) rfl (by simp only [go_sem, ↓reduceIte, xa, xb, xc, xd, xe, xf, xg, xh, xi, xj, qA, hA1, i64_sub wA]; try rfl) (by simp only [go_sem, ↓reduceIte, xa, xb, xc, xd, xe, xf, xg, xh, xi, xj, qA, hA1, i64_sub wA]; try rfl) hρU rfl size3 rfl rfl (by show (A1 / 2).toNat < (intsF _ _).length; rw [intsF_len]; omega) ?_
          refine al_end [6, 10, 12, 49, 50] ?_
          refine awp_pures [6, 10, 12, 49, 50] (by simp only [go_sem, ↓reduceIte, xa, xb, xc, xd, xe, xf, xg, xh, xi, xj, a01]; try rfl) ?_
          show ALoop _ _ _ _ _ _ (AHeap.set ρ U ⟨(intsF (leftF base rm) n).set (A1 / 2).toNat (.int .i64 (leftF base rm (A1.toNat / 2) - 1)), true, .n 1⟩) _
          rw [hA2, left_drop]
          have hU4' : ∀ X, (ρ.set U X) N4 = some ⟨[.slice (some ⟨U, 0, none⟩) n cap], true, .n 1⟩ := fun X => by rw [AHeap.set_ne _ _ (by omega)]; exact hρ0 _ _ h0U
          refine aloop_round ?_
          refine awp_seq (awp_pures [6, 10, 12, 49, 50, 51] (by simp only [go_sem, ↓reduceIte, xa, xb, xc, xd, xe, xf, xg, xh, xi, xj]; try rfl) ?_)
          refine awp_seq ?_
          refine awp_if rfl (fun _ => ?_) (fun h => by cases h)
          refine awp_skip ?_
          refine awp_seq (awp_block ?_)
          refine awp_seq (awp_pures [6, 10, 12, 14, 49, 50] (by simp only [go_sem, ↓reduceIte, xa, xb, xc, xd, xe, xf, xg, xh, xi, xj]; try rfl) ?_)
          refine awp_lit ?_
          refine al_load rfl (by simp only [go_sem, ↓reduceIte, xa, xb, xc, xd, xe, xf, xg, xh, xi, xj, qB, hB1, i64_sub wB]) rfl (by simp only [go_sem, ↓reduceIte, xa, xb, xc, xd, xe, xf, xg, xh, xi, xj, qB, hB1, i64_sub wB]; try rfl) (hU4' _) (loadA_scalar agg35 rfl) ?_
          refine al_pureN 3 (by simp only [go_sem, ↓reduceIte, xa, xb, xc, xd, xe, xf, xg, xh, xi, xj, qB, hB1, i64_sub wB]; try rfl) ?_
          refine al_load rfl (by simp only [go_sem, ↓reduceIte, xa, xb, xc, xd, xe, xf, xg, xh, xi, xj, qB, hB1, i64_sub wB]) rfl (by simp only [go_sem, ↓reduceIte, xa, xb, xc, xd, xe, xf, xg, xh, xi, xj, qB, hB1, i64_sub wB]; try rfl) (AHeap.set_self _ _ _) (loadA_scalar agg3 gB) ?_
          refine al_pureN 2 (by simp only [go_sem, ↓reduceIte, xa, xb, xc, xd, xe, xf, xg, xh, xi, xj, qB, hB1, i64_sub wB]; try rfl) ?_
          refine al_store1 rfl (by simp only [go_sem, ↓reduceIte, xa, xb, xc, xd, xe, xf, xg, xh, xi, xj, qB, hB1, i64_sub wB]; try rfl) rfl (by simp only [go_sem, ↓reduceIte, xa, xb, xc, xd, xe, xf, xg, xh, xi, xj, qB, hB1, i64_sub wB]; try rfl) (by simp only [go_sem, ↓reduceIte, xa, xb, xc, xd, xe, xf, xg, xh, xi, xj, qB, hB1, i64_sub wB]; try rfl) (AHeap.set_self _ _ _) rfl size3 rfl rfl (by show (A2 / 2).toNat < (intsF _ _).length; rw [intsF_len]; omega) ?_
          refine al_end [6, 10, 12, 49, 50] ?_
          refine awp_pures [6, 10, 12, 49, 50] (by simp only [go_sem, ↓reduceIte, xa, xb, xc, xd, xe, xf, xg, xh, xi, xj, a11]; try rfl) ?_
          rw [AHeap.set_set]
          show ALoop _ _ _ _ _ _ (AHeap.set ρ U ⟨(intsF (leftF base (rm ++ [A1])) n).set (A2 / 2).toNat (.int .i64 (leftF base (rm ++ [A1]) (A2.toNat / 2) - 1)), true, .n 1⟩) _
          rw [hB2, left_drop]
          refine aloop_round ?_
          refine awp_seq (awp_pures [6, 10, 12, 49, 50, 51] (by simp only [go_sem, ↓reduceIte, xa, xb, xc, xd, xe, xf, xg, xh, xi, xj]; try rfl) ?_)
          refine awp_seq ?_
          refine awp_if rfl (fun h => by cases h) (fun _ => ?_)
          refine awp_exit ?_
          simp only [Go.Abs.Seq, Go.Abs.Round, Go.Abs.InBlock, ↓reduceIte]
          obtain ⟨X, hX⟩ : ∃ X : Blk, X = ⟨intsF (leftF base (rm ++ [A1] ++ [A2])) n, true, .n 1⟩ := ⟨_, rfl⟩
          rw [← hX]
          have hO2 : (ρ.set U X) (N + 1) = some ⟨[ov], true, .n 1⟩ := by rw [AHeap.set_ne _ _ (by omega)]; exact hρO
          have hv2 : OwnAt (ρ.set U X) (B + 1) ov (ints out) out.length 1 := hρv.mono (fun i b hi hb => by rw [AHeap.set_ne _ _ (by omega)]; exact hb) (Nat.le_refl _)
          obtain ⟨T, hT⟩ : ∃ T : AHeap, T = (σ0.set U X).set (N + 1) ⟨[ov], true, .n 1⟩ := ⟨_, rfl⟩
          have hTle : T.le (ρ.set U X) := by
            intro i b h
            rw [hT] at h
            by_cases e1 : i = N + 1
            · subst e1; rw [AHeap.set_self] at h; cases h; exact hO2
            rw [AHeap.set_ne _ _ e1] at h
            exact set_mono hρ0 U X _ _ h
          have hTd : ∀ i b, T i = some b → i < B + 1 := by
            intro i b h
            rw [hT] at h
            by_cases e1 : i = N + 1
            · omega
            rw [AHeap.set_ne _ _ e1] at h
            by_cases e2 : i = U
            · omega
            rw [AHeap.set_ne _ _ e2] at h
            have := hd0 _ _ h
            omega
          have hTO : T (N + 1) = some ⟨[ov], true, .n 1⟩ := by rw [hT, AHeap.set_self]
          have hTU : T U = some X := by rw [hT, AHeap.set_ne _ _ (by omega), AHeap.set_self]
          refine awp_lit ?_
          refine al_load rfl (by simp only [go_sem, ↓reduceIte, xa, xb, xc, xd, xe, xf, xg, xh, xi, xj]) rfl (by simp only [go_sem, ↓reduceIte, xa, xb, xc, xd, xe, xf, xg, xh, xi, xj]; try rfl) hO2 (loadA_scalar agg35 rfl) ?_
          refine al_pureN 1 (by simp only [go_sem, ↓reduceIte, xa, xb, xc, xd, xe, xf, xg, xh, xi, xj]; try rfl) ?_
          refine al_push rfl rfl rfl (by simp only [go_sem, ↓reduceIte, xa, xb, xc, xd, xe, xf, xg, xh, xi, xj]; try rfl) (by simp only [go_sem, ↓reduceIte, xa, xb, xc, xd, xe, xf, xg, xh, xi, xj]; try rfl) rfl rfl Try.underlying35 ty3 rfl rfl rfl (by simp only [go_sem, ↓reduceIte, xa, xb, xc, xd, xe, xf, xg, xh, xi, xj]; try rfl) (by simp only [go_sem, ↓reduceIte, xa, xb, xc, xd, xe, xf, xg, xh, xi, xj]; try rfl) rfl rfl hv2 (by omega) (by omega) (by omega) ?_
          intro N' σ' v' hN' hown' hkeep
          refine al_store1 rfl (by simp only [go_sem, ↓reduceIte, xa, xb, xc, xd, xe, xf, xg, xh, xi, xj]; try rfl) rfl (by simp only [go_sem, ↓reduceIte, xa, xb, xc, xd, xe, xf, xg, xh, xi, xj]; try rfl) (by simp only [go_sem, ↓reduceIte, xa, xb, xc, xd, xe, xf, xg, xh, xi, xj]; try rfl) (hkeep T hTle hTd _ _ hTO) rfl size35 (own_spread hown') (own_one hown') (by show 0 < 1; decide) ?_
          refine al_end [6] ?_
          have hints : ints out ++ [.int .i64 (w : Int)] = ints (out ++ [(w : Int)]) := by simp [ints]
          rw [hints] at hown'
          have hk := hkeep T hTle hTd
          refine ⟨rfl, by omega, AHeap.set_self _ _ _, fun i b hb => ?_, ?_, v', ?_, ?_⟩
          · have h1 := hd0 _ _ hb
            have h2 : i ≠ U ∧ i ≠ N + 1 := by
              constructor <;> rintro rfl <;> rw [hσ0] at hb <;> simp [AHeap.del] at hb
            rw [AHeap.set_ne _ _ (by omega), AHeap.set_ne _ _ h2.2]
            exact hk _ _ (by rw [hT, AHeap.set_ne _ _ h2.2, AHeap.set_ne _ _ h2.1]; exact hb)
          · rw [hstep2, AHeap.set_ne _ _ (by omega), AHeap.set_ne _ _ (by omega), ← hX]; exact hk _ _ hTU
          · rw [AHeap.set_ne _ _ (by omega), AHeap.set_self]; rfl
          · rw [hstep2]
            simpa using hown'.mono (fun i b hi hb => by rw [AHeap.set_ne _ _ (by omega), AHeap.set_ne _ _ (by omega)]; exact hb) (Nat.le_refl _)
      · exact fun i b h => by rw [AHeap.set_ne _ _ (by have := hd0 _ _ h; omega)]; exact hb0' _ _ h
      · rw [AHeap.set_ne _ _ (by omega), hbU, List.drop_length]
        have : leftF base [] = base := by funext k; simp [leftF, cntF]
        show some _ = some (⟨intsF (leftF base []) n, true, .n 1⟩ : Blk)
        rw [this]
      · rw [AHeap.set_ne _ _ (by omega)]; exact hbO
      · rw [List.drop_length]; exact .nil
      · rintro v N6 σ6 ⟨hM, hrec, hτ, hτU, ov, hτO, hov⟩
        refine ⟨_, _, hrec, ?_⟩
        obtain ⟨ρ, hρ⟩ : ∃ ρ, ρ = σ6.del B := ⟨_, rfl⟩
        have hρn : ∀ {i}, i ≠ B → ρ i = σ6 i := fun h => by rw [hρ]; exact hdel _ h
        have hρO := (hρn (i := N + 1) (by omega)).trans hτO
        have hστ : σ.le ρ := fun i b hb => by
          have h2 := h0σ _ _ hb
          rw [hρn (by have := hd0 _ _ h2; omega)]; exact hτ _ _ h2
        have hρv := hov.mono (σ' := ρ) (fun i b hi hb => by rw [hρn (by omega)]; exact hb) (Nat.le_refl _)
        have hfl := freeS_len f g.as base cl
        rw [List.drop_zero] at hρv
        rw [← hρ]
        show Abs.Seq false Try.prog 68 _ _ .normal _ _ _
        obtain ⟨out, hout⟩ : ∃ out, out = (freeS f g.as base cl).2 := ⟨_, rfl⟩
        rw [← hout] at hρv hfl ⊢
        first | refine awp_seq (awp_lit ?_) | refine awp_lit ?_ | refine awp_seq (awp_seq (awp_lit ?_))
        refine al_load rfl (by simp only [go_sem, ↓reduceIte, xa, xb, xc, xd, xe, xf, xg, xh, xi, xj]) rfl (by simp only [go_sem, ↓reduceIte, xa, xb, xc, xd, xe, xf, xg, xh, xi, xj]; try rfl) hρO (loadA_scalar agg35 rfl) ?_
        refine al_fun (Reverse_ok hρv (by omega)) rfl (by simp only [go_sem, ↓reduceIte, xa, xb, xc, xd, xe, xf, xg, xh, xi, xj]; try rfl) (by kernel_rfl) rfl (by simp only [go_sem, ↓reduceIte, xa, xb, xc, xd, xe, xf, xg, xh, xi, xj]; try rfl) ?_
        rintro r N7 σ7 ⟨rfl, rfl, ho7, hk7⟩
        refine al_end [6] ?_
        obtain ⟨T, hT⟩ : ∃ T : AHeap, T = (fun i => if i < N + 2 then ρ i else none) := ⟨_, rfl⟩
        have hTle : T.le ρ := fun i b h => by
          rw [hT] at h
          dsimp only at h
          split at h
          · exact h
          · cases h
        have hTd : ∀ i b, T i = some b → i < B + 1 := fun i b h => by
          rw [hT] at h
          dsimp only at h
          split at h
          · omega
          · cases h
        have hT7 := hk7 T hTle hTd
        have hO7 : σ7 (N + 1) = some ⟨[ov], true, .n 1⟩ := hT7 _ _ (by rw [hT]; simpa using hρO)
        have hσ7 : σ.le σ7 := fun i b hb => hT7 _ _ (by
          have := hN i b hb
          rw [hT]
          dsimp only
          rw [if_pos (by omega)]; exact hστ _ _ hb)
        first | refine awp_seq (awp_lit ?_) | refine awp_lit ?_ | refine awp_seq (awp_seq (awp_lit ?_))
        refine al_load rfl (by simp only [go_sem, ↓reduceIte, xa, xb, xc, xd, xe, xf, xg, xh, xi, xj]) rfl (by simp only [go_sem, ↓reduceIte, xa, xb, xc, xd, xe, xf, xg, xh, xi, xj]; try rfl) hO7 (loadA_scalar agg35 rfl) ?_
        refine al_store1 rfl (by simp only [go_sem, ↓reduceIte, xa, xb, xc, xd, xe, xf, xg, xh, xi, xj]; try rfl) rfl (by simp only [go_sem, ↓reduceIte, xa, xb, xc, xd, xe, xf, xg, xh, xi, xj]; try rfl) (by simp only [go_sem, ↓reduceIte, xa, xb, xc, xd, xe, xf, xg, xh, xi, xj]; try rfl) hO7 rfl size35 (own_spread ho7) (own_one ho7) (by show 0 < 1; decide) ?_
        refine al_pureN 1 (by simp only [go_sem, ↓reduceIte, xa, xb, xc, xd, xe, xf, xg, xh, xi, xj]; try rfl) ?_
        refine al_end [6, 7] ?_
        refine awp_ret ⟨_, res_ct rfl rfl (AHeap.set_self _ _ _) (loadA_scalar agg35 rfl) rfl, ov, rfl, ?_, fun i b hb => by rw [AHeap.set_ne _ _ (by have := hN i b hb; omega)]; exact hσ7 _ _ hb, by omega⟩
        rw [List.length_reverse]
        exact ho7.mono (fun i b hi hb => by rw [AHeap.set_ne _ _ (by omega)]; exact hb) (by omega)
    · have hb : ((coneE f g.as l node).2 != 0) = true := by simp [hce]
      have hRF : FreeR g l node = ([], (coneE f g.as l node).2) := by unfold FreeR; rw [hR, if_neg hce]
      rw [hRF]
      refine awp_seq ?_
      refine awp_seq (awp_pures [1, 6, 7, 8, 9, 31, 41] (by simp only [go_sem, ↓reduceIte, xa, xb, xc, xd, xe, xf, xg, xh, xi, xj, hb]; try rfl) ?_)
      refine awp_if rfl (fun _ => ?_) (fun h => by cases h)
      first | refine awp_seq (awp_lit ?_) | refine awp_lit ?_ | refine awp_seq (awp_seq (awp_lit ?_))
      refine al_pureN 1 (by simp only [go_sem, ↓reduceIte, xa, xb, xc, xd, xe, xf, xg, xh, xi, xj]; try rfl) ?_
      refine al_store1 rfl (by simp only [go_sem, ↓reduceIte, xa, xb, xc, xd, xe, xf, xg, xh, xi, xj]; try rfl) rfl (by simp only [go_sem, ↓reduceIte, xa, xb, xc, xd, xe, xf, xg, xh, xi, xj]; try rfl) (by simp only [go_sem, ↓reduceIte, xa, xb, xc, xd, xe, xf, xg, xh, xi, xj]; try rfl) hO3 rfl size35 rfl rfl (by decide) ?_
      refine al_pureN 1 (by simp only [go_sem, ↓reduceIte, xa, xb, xc, xd, xe, xf, xg, xh, xi, xj]; try rfl) ?_
      refine al_end [6, 7] ?_
      exact awp_ret ⟨_, res_ct rfl rfl (AHeap.set_self _ _ _) (loadA_scalar agg35 rfl) rfl, .slice none 0 0, rfl, .nil, hstay _ (hle1.trans (hle2.trans hle3)), by omega⟩
  · have hb : (chkE g != 0) = true := by simpa using hc
    have hR : FreeR g l node = ([], chkE g) := by simp [FreeR, ConeR, hc]
    rw [hR]
    have hO2 : (σ1.set N1 ⟨spread (graphV lb lc ab ac ob oc g (openF g)), true, .n 1⟩) (N + 1) = some ⟨[.slice none 0 0], true, .n 1⟩ := hle2 _ _ hO1
    refine awp_seq ?_
    refine awp_seq (awp_pures [1, 2, 6, 7, 8, 21, 41] (by simp only [go_sem, ↓reduceIte, xa, xb, xc, xd, xe, xf, xg, xh, xi, xj, hb]; try rfl) ?_)
    refine awp_if rfl (fun _ => ?_) (fun h => by cases h)
    first | refine awp_seq (awp_lit ?_) | refine awp_lit ?_ | refine awp_seq (awp_seq (awp_lit ?_))
    refine al_pureN 1 (by simp only [go_sem, ↓reduceIte, xa, xb, xc, xd, xe, xf, xg, xh, xi, xj]; try rfl) ?_
    refine al_store1 rfl (by simp only [go_sem, ↓reduceIte, xa, xb, xc, xd, xe, xf, xg, xh, xi, xj]; try rfl) rfl (by simp only [go_sem, ↓reduceIte, xa, xb, xc, xd, xe, xf, xg, xh, xi, xj]; try rfl) (by simp only [go_sem, ↓reduceIte, xa, xb, xc, xd, xe, xf, xg, xh, xi, xj]; try rfl) hO2 rfl size35 rfl rfl (by decide) ?_
    refine al_pureN 1 (by simp only [go_sem, ↓reduceIte, xa, xb, xc, xd, xe, xf, xg, xh, xi, xj]; try rfl) ?_
    refine al_end [6, 7] ?_
    exact awp_ret ⟨_, res_ct rfl rfl (AHeap.set_self _ _ _) (loadA_scalar agg35 rfl) rfl, .slice none 0 0, rfl, .nil, hstay _ (hle1.trans hle2), by omega⟩
end Go.Proofs.Ytfialjllclclkaa

