/- Joined texts of the layer and of the walks. -/
import Derived.Test.YtfialjllclclkaaFm2
import Derived.Test.YtfialjllclclkaaFmAuto
import Derived.Test.YtfialjllclclkaaFm1
import Derived.Test.YtfialjllclclkaaFmMk
set_option linter.unusedSimpArgs false
set_option linter.unusedVariables false
namespace Go.Proofs.Ytfialjllclclkaa
open Go.Abs Go.Cut
attribute [local go_sem] Try.underlying26 Try.underlying3 Try.underlying22 Try.underlying23 Try.underlying24 Try.underlying35 Try.underlying43 Try.underlying45 Try.underlying47 Try.underlying5 Try.underlying4 Try.underlying30 size26 size35 size3 size22 size23 size24 size43 size45 size47 size5 size4 size30 Nat.mul_one
open Nat renaming reduceLT → xa, reduceEqDiff → xb, reduceLeDiff → xc, reduceAdd → xd, reduceMul → xe, reduceBEq → xj, add_assoc → ya, add_left_cancel_iff → yb, add_right_cancel_iff → yc, left_eq_add → yd, add_eq_left → ye, add_eq_right → yf, right_eq_add → yg, succ_ne_zero → yh
open Int renaming reduceLT → xf, reduceLE → xg, reduceToNat → xh
open BitVec renaming reduceOfInt → xi
theorem Has_gives {l : List Int} {v : Value} {x : Int} {N : Nat} {σ : AHeap} (hv : SlAt σ v (ints l)) (hlen : l.length ≤ 1000000) : Gives Try.prog 28 [v, .int .i64 x] N σ (.bool (decide (x ∈ l))) := by
  have hol : (ints l).length = l.length := by simp [ints]
  obtain ⟨sb, sc, rfl⟩ := hv.len
  rw [hol] at hv ⊢
  refine gives_of rfl (aok_fresh fun hN => aok_body (r := false) (n := 18) Try.func28 rfl rfl (by simp) ?_)
  refine awp_seq (awp_pures [0, 1] (by simp only [go_sem, ↓reduceIte, xa, xb, xc, xd, xe, xf, xg, xh, xi, xj]; try rfl) ?_)
  refine awp_seq ?_
  refine awp_seq (awp_pures [0, 1, 5] (by simp only [go_sem, ↓reduceIte, xa, xb, xc, xd, xe, xf, xg, xh, xi, xj]; try rfl) ?_)
  refine awp_block (awp_loop ?_)
  refine ALoop.cast3 (aloop_ind (α := Nat) (fun a => a ≤ l.length ∧ (x ∈ l ↔ x ∈ l.drop a)) (fun a => l.length - a)
    (fun a => [(0, .slice sb l.length sc), (1, .int .i64 x), (5, .int .i64 a)]) (fun _ => N) (fun _ => σ) ?_ 0 ⟨Nat.zero_le _, Iff.rfl⟩) rfl rfl rfl
  rintro j ⟨hj, hpre⟩ ih
  by_cases hlt : j < l.length
  · have hb : decide ((j : Int) < (l.length : Int)) = true := by simpa using hlt
    refine awp_seq ?_
    refine awp_seq (awp_pures [0, 1, 5, 9] (by simp only [go_sem, ↓reduceIte, xa, xb, xc, xd, xe, xf, xg, xh, xi, xj, hb]; try rfl) ?_)
    refine awp_if rfl (fun _ => ?_) (fun h => by cases h)
    refine awp_skip ?_
    refine awp_seq (awp_block ?_)
    have hjj : 0 ≤ (j : Int) ∧ (j : Int) < (l.length : Int) := by omega
    obtain ⟨id, off, cap, b, e1, e2, e3, e4⟩ := slAt_int hv hlt
    cases e1
    by_cases he : l[j] = x
    · have he' : (l[j] == x) = true := by simpa using he
      have hm : decide (x ∈ l) = true := by simp only [decide_eq_true_eq]; rw [← he]; exact List.getElem_mem hlt
      rw [hm]
      refine awp_seq ?_
      first | refine awp_seq (awp_lit ?_) | refine awp_lit ?_ | refine awp_seq (awp_seq (awp_lit ?_))
      refine al_pureN 3 (by simp only [go_sem, ↓reduceIte, xa, xb, xc, xd, xe, xf, xg, xh, xi, xj, hjj, he']; try rfl) ?_
      refine al_load rfl (by simp only [go_sem, ↓reduceIte, xa, xb, xc, xd, xe, xf, xg, xh, xi, xj, hjj, he']) rfl (by simp only [go_sem, ↓reduceIte, xa, xb, xc, xd, xe, xf, xg, xh, xi, xj, hjj, he']; try rfl) e2 (loadA_scalar agg3 e3) ?_
      refine al_pureN 2 (by simp only [go_sem, ↓reduceIte, xa, xb, xc, xd, xe, xf, xg, xh, xi, xj, hjj, he']; try rfl) ?_
      refine al_end [0, 1, 5, 17] ?_
      refine awp_if rfl (fun _ => ?_) (fun h => by cases h)
      refine awp_seq (awp_pures [4] (by simp only [go_sem, ↓reduceIte, xa, xb, xc, xd, xe, xf, xg, xh, xi, xj]; try rfl) ?_)
      exact awp_ret ⟨_, rfl, rfl, AHeap.le_refl _⟩
    · have he' : (l[j] == x) = false := by simpa using he
      refine awp_seq ?_
      first | refine awp_seq (awp_lit ?_) | refine awp_lit ?_ | refine awp_seq (awp_seq (awp_lit ?_))
      refine al_pureN 3 (by simp only [go_sem, ↓reduceIte, xa, xb, xc, xd, xe, xf, xg, xh, xi, xj, hjj, he']; try rfl) ?_
      refine al_load rfl (by simp only [go_sem, ↓reduceIte, xa, xb, xc, xd, xe, xf, xg, xh, xi, xj, hjj, he']) rfl (by simp only [go_sem, ↓reduceIte, xa, xb, xc, xd, xe, xf, xg, xh, xi, xj, hjj, he']; try rfl) e2 (loadA_scalar agg3 e3) ?_
      refine al_pureN 2 (by simp only [go_sem, ↓reduceIte, xa, xb, xc, xd, xe, xf, xg, xh, xi, xj, hjj, he']; try rfl) ?_
      refine al_end [0, 1, 5, 17] ?_
      refine awp_if rfl (fun h => by cases h) (fun _ => ?_)
      refine awp_skip ?_
      have hadd1 : -9223372036854775808 ≤ (j : Int) + 1 ∧ (j : Int) + 1 ≤ 9223372036854775807 := by omega
      refine awp_pures [0, 1, 5] (by simp only [go_sem, ↓reduceIte, xa, xb, xc, xd, xe, xf, xg, xh, xi, xj, i64_add hadd1]; try rfl) ?_
      refine ALoop.cast3 (ih (j + 1) ⟨hlt, ?_⟩ (by omega)) rfl rfl rfl
      rw [hpre, List.drop_eq_getElem_cons hlt, List.mem_cons]
      exact ⟨fun h => h.resolve_left fun h => he h.symm, .inr⟩
  · have hb : decide ((j : Int) < (l.length : Int)) = false := by simpa using hlt
    have hjm : j = l.length := by omega
    have hm : decide (x ∈ l) = false := by simp [hpre, hjm]
    rw [hm]
    refine awp_seq ?_
    refine awp_seq (awp_pures [0, 1, 5, 9] (by simp only [go_sem, ↓reduceIte, xa, xb, xc, xd, xe, xf, xg, xh, xi, xj, hb]; try rfl) ?_)
    refine awp_if rfl (fun h => by cases h) (fun _ => ?_)
    refine awp_exit ?_
    simp only [Go.Abs.Seq, Go.Abs.Round, Go.Abs.InBlock, ↓reduceIte]
    refine awp_seq (awp_pures [4] (by simp only [go_sem, ↓reduceIte, xa, xb, xc, xd, xe, xf, xg, xh, xi, xj]; try rfl) ?_)
    exact awp_ret ⟨_, rfl, rfl, AHeap.le_refl _⟩
theorem nodes_gives {g : AigD} {v : Value} {N : Nat} {σ : AHeap} (hv : AigAt σ v g) (hf : Few g) (h1 : -1000000 ≤ g.inp) (h2 : g.inp ≤ 1000000) : Gives Try.prog 34 [v] N σ (.int .i64 (sizeC g)) := by
  obtain ⟨lb, lc, ab, ac, ob, oc, rfl, hls, has, hos⟩ := hv.opn
  have hf1 := hf.as
  have hf2 := hf.ls
  refine gives_of rfl (aok_fresh fun hN => aok_body (r := false) (n := 14) Try.func34 rfl rfl (by simp) ?_)
  have e1 : -9223372036854775808 ≤ 1 + g.inp ∧ 1 + g.inp ≤ 9223372036854775807 := by omega
  have e2 : -9223372036854775808 ≤ 1 + g.inp + (g.ls.length : Int) ∧ 1 + g.inp + (g.ls.length : Int) ≤ 9223372036854775807 := by omega
  have e3 : -9223372036854775808 ≤ 1 + g.inp + (g.ls.length : Int) + (g.as.length : Int) ∧ 1 + g.inp + (g.ls.length : Int) + (g.as.length : Int) ≤ 9223372036854775807 := by omega
  first | refine awp_seq (awp_lit ?_) | refine awp_lit ?_ | refine awp_seq (awp_seq (awp_lit ?_))
  refine al_box 1 rfl rfl rfl (by simp only [go_sem, ↓reduceIte, xa, xb, xc, xd, xe, xf, xg, xh, xi, xj]; try rfl) ?_
  refine al_pureN 1 (by simp only [go_sem, ↓reduceIte, xa, xb, xc, xd, xe, xf, xg, xh, xi, xj]; try rfl) ?_
  refine al_end [1] ?_
  first | refine awp_seq (awp_lit ?_) | refine awp_lit ?_ | refine awp_seq (awp_seq (awp_lit ?_))
  refine al_pureN 1 (by simp only [go_sem, ↓reduceIte, xa, xb, xc, xd, xe, xf, xg, xh, xi, xj, i64_add e1, i64_add e2, i64_add e3]; try rfl) ?_
  refine al_load rfl (by simp only [go_sem, ↓reduceIte, xa, xb, xc, xd, xe, xf, xg, xh, xi, xj, i64_add e1, i64_add e2, i64_add e3]) rfl (by simp only [go_sem, ↓reduceIte, xa, xb, xc, xd, xe, xf, xg, xh, xi, xj, i64_add e1, i64_add e2, i64_add e3]; try rfl) (by first | exact AHeap.set_self _ _ _ | (simp only [AHeap.set, ↓reduceIte, ya, xd, yb, yc, yd, ye, yf, yg, xb, yh, i64_add e1, i64_add e2, i64_add e3]; rfl) | assumption) (by first | exact loadA_scalar agg3 rfl | exact loadA_agg agg3 rfl | exact loadA_scalar agg3 (by assumption)) ?_
  refine al_pureN 2 (by simp only [go_sem, ↓reduceIte, xa, xb, xc, xd, xe, xf, xg, xh, xi, xj, i64_add e1, i64_add e2, i64_add e3]; try rfl) ?_
  refine al_load rfl (by simp only [go_sem, ↓reduceIte, xa, xb, xc, xd, xe, xf, xg, xh, xi, xj, i64_add e1, i64_add e2, i64_add e3]) rfl (by simp only [go_sem, ↓reduceIte, xa, xb, xc, xd, xe, xf, xg, xh, xi, xj, i64_add e1, i64_add e2, i64_add e3]; try rfl) (by first | exact AHeap.set_self _ _ _ | (simp only [AHeap.set, ↓reduceIte, ya, xd, yb, yc, yd, ye, yf, yg, xb, yh, i64_add e1, i64_add e2, i64_add e3]; rfl) | assumption) (by first | exact loadA_scalar agg22 rfl | exact loadA_agg agg22 rfl | exact loadA_scalar agg22 (by assumption)) ?_
  refine al_pureN 3 (by simp only [go_sem, ↓reduceIte, xa, xb, xc, xd, xe, xf, xg, xh, xi, xj, i64_add e1, i64_add e2, i64_add e3]; try rfl) ?_
  refine al_load rfl (by simp only [go_sem, ↓reduceIte, xa, xb, xc, xd, xe, xf, xg, xh, xi, xj, i64_add e1, i64_add e2, i64_add e3]) rfl (by simp only [go_sem, ↓reduceIte, xa, xb, xc, xd, xe, xf, xg, xh, xi, xj, i64_add e1, i64_add e2, i64_add e3]; try rfl) (by first | exact AHeap.set_self _ _ _ | (simp only [AHeap.set, ↓reduceIte, ya, xd, yb, yc, yd, ye, yf, yg, xb, yh, i64_add e1, i64_add e2, i64_add e3]; rfl) | assumption) (by first | exact loadA_scalar agg23 rfl | exact loadA_agg agg23 rfl | exact loadA_scalar agg23 (by assumption)) ?_
  refine al_pureN 3 (by simp only [go_sem, ↓reduceIte, xa, xb, xc, xd, xe, xf, xg, xh, xi, xj, i64_add e1, i64_add e2, i64_add e3]; try rfl) ?_
  refine al_end [2] ?_
  exact awp_ret ⟨_, rfl, rfl, (by (repeat refine AHeap.le_set ?_ fun i b hb => (by have := hN i b hb; omega)); exact AHeap.le_refl _)⟩
def longB (g : AigD) : Bool := decide (64 < g.inp ∧ g.inp < 5000) || decide (64 < g.ls.length) || decide (200 < g.as.length) || decide (64 < g.os.length)
theorem few_of {g : AigD} (h : longB g = false) : Few g ∧ (g.inp ≤ 64 ∨ 5000 ≤ g.inp) := by
  simp only [longB, Bool.or_eq_false_iff, decide_eq_false_iff_not] at h
  exact ⟨⟨by omega, by omega, by omega⟩, by omega⟩
theorem Long_gives {g : AigD} {v : Value} {N : Nat} {σ : AHeap} (hv : AigAt σ v g) : Gives Try.prog 11 [v] N σ (.bool (longB g)) := by
  obtain ⟨lb, lc, ab, ac, ob, oc, rfl, hls, has, hos⟩ := hv.opn
  refine gives_of rfl (aok_fresh fun hN => aok_body (r := false) (n := 29) Try.func11 rfl rfl (by simp) ?_)
  first | refine awp_seq (awp_lit ?_) | refine awp_lit ?_ | refine awp_seq (awp_seq (awp_lit ?_))
  refine al_box 1 rfl rfl rfl (by simp only [go_sem, ↓reduceIte, xa, xb, xc, xd, xe, xf, xg, xh, xi, xj]; try rfl) ?_
  refine al_pureN 1 (by simp only [go_sem, ↓reduceIte, xa, xb, xc, xd, xe, xf, xg, xh, xi, xj]; try rfl) ?_
  refine al_end [1] ?_
  by_cases c0 : 64 < g.inp
  · have d0 : decide (g.inp > 64) = true := by simp; omega
    by_cases c1 : g.inp < 5000
    · have d1 : decide (g.inp < 5000) = true := by simpa using c1
      have hv : longB g = true := by simp [longB]; omega
      rw [hv]
      first | refine awp_seq (awp_lit ?_) | refine awp_lit ?_ | refine awp_seq (awp_seq (awp_lit ?_))
      refine al_pureN 1 (by simp only [go_sem, ↓reduceIte, xa, xb, xc, xd, xe, xf, xg, xh, xi, xj, d0, d1]; try rfl) ?_
      refine al_load rfl (by simp only [go_sem, ↓reduceIte, xa, xb, xc, xd, xe, xf, xg, xh, xi, xj, d0, d1]) rfl (by simp only [go_sem, ↓reduceIte, xa, xb, xc, xd, xe, xf, xg, xh, xi, xj, d0, d1]; try rfl) (by first | exact AHeap.set_self _ _ _ | (simp only [AHeap.set, ↓reduceIte, ya, xd, yb, yc, yd, ye, yf, yg, xb, yh, d0, d1]; rfl) | assumption) (by first | exact loadA_scalar agg3 rfl | exact loadA_agg agg3 rfl | exact loadA_scalar agg3 (by assumption)) ?_
      refine al_pureN 3 (by simp only [go_sem, ↓reduceIte, xa, xb, xc, xd, xe, xf, xg, xh, xi, xj, d0, d1]; try rfl) ?_
      refine al_load rfl (by simp only [go_sem, ↓reduceIte, xa, xb, xc, xd, xe, xf, xg, xh, xi, xj, d0, d1]) rfl (by simp only [go_sem, ↓reduceIte, xa, xb, xc, xd, xe, xf, xg, xh, xi, xj, d0, d1]; try rfl) (by first | exact AHeap.set_self _ _ _ | (simp only [AHeap.set, ↓reduceIte, ya, xd, yb, yc, yd, ye, yf, yg, xb, yh, d0, d1]; rfl) | assumption) (by first | exact loadA_scalar agg3 rfl | exact loadA_agg agg3 rfl | exact loadA_scalar agg3 (by assumption)) ?_
      refine al_pureN 4 (by simp only [go_sem, ↓reduceIte, xa, xb, xc, xd, xe, xf, xg, xh, xi, xj, d0, d1]; try rfl) ?_
      refine al_pureN 1 (by simp only [go_sem, ↓reduceIte, xa, xb, xc, xd, xe, xf, xg, xh, xi, xj, d0, d1, undef]; try rfl) ?_
      refine al_pureN 4 (by simp only [go_sem, ↓reduceIte, xa, xb, xc, xd, xe, xf, xg, xh, xi, xj, d0, d1]; try rfl) ?_
      refine al_pureN 1 (by simp only [go_sem, ↓reduceIte, xa, xb, xc, xd, xe, xf, xg, xh, xi, xj, d0, d1]; try rfl) ?_
      refine al_pureN 1 (by simp only [go_sem, ↓reduceIte, xa, xb, xc, xd, xe, xf, xg, xh, xi, xj, d0, d1, undef]; try rfl) ?_
      refine al_pureN 4 (by simp only [go_sem, ↓reduceIte, xa, xb, xc, xd, xe, xf, xg, xh, xi, xj, d0, d1]; try rfl) ?_
      refine al_pureN 1 (by simp only [go_sem, ↓reduceIte, xa, xb, xc, xd, xe, xf, xg, xh, xi, xj, d0, d1]; try rfl) ?_
      refine al_pureN 1 (by simp only [go_sem, ↓reduceIte, xa, xb, xc, xd, xe, xf, xg, xh, xi, xj, d0, d1, undef]; try rfl) ?_
      refine al_pureN 4 (by simp only [go_sem, ↓reduceIte, xa, xb, xc, xd, xe, xf, xg, xh, xi, xj, d0, d1]; try rfl) ?_
      refine al_end [2] ?_
      exact awp_ret ⟨_, rfl, rfl, (by (repeat refine AHeap.le_set ?_ fun i b hb => (by have := hN i b hb; omega)); exact AHeap.le_refl _)⟩
    have d1 : decide (g.inp < 5000) = false := by simpa using c1
    by_cases c2 : 64 < g.ls.length
    · have d2 : decide ((g.ls.length : Int) > 64) = true := by simp; omega
      have hv : longB g = true := by simp [longB]; omega
      rw [hv]
      first | refine awp_seq (awp_lit ?_) | refine awp_lit ?_ | refine awp_seq (awp_seq (awp_lit ?_))
      refine al_pureN 1 (by simp only [go_sem, ↓reduceIte, xa, xb, xc, xd, xe, xf, xg, xh, xi, xj, d0, d1, d2]; try rfl) ?_
      refine al_load rfl (by simp only [go_sem, ↓reduceIte, xa, xb, xc, xd, xe, xf, xg, xh, xi, xj, d0, d1, d2]) rfl (by simp only [go_sem, ↓reduceIte, xa, xb, xc, xd, xe, xf, xg, xh, xi, xj, d0, d1, d2]; try rfl) (by first | exact AHeap.set_self _ _ _ | (simp only [AHeap.set, ↓reduceIte, ya, xd, yb, yc, yd, ye, yf, yg, xb, yh, d0, d1, d2]; rfl) | assumption) (by first | exact loadA_scalar agg3 rfl | exact loadA_agg agg3 rfl | exact loadA_scalar agg3 (by assumption)) ?_
      refine al_pureN 3 (by simp only [go_sem, ↓reduceIte, xa, xb, xc, xd, xe, xf, xg, xh, xi, xj, d0, d1, d2]; try rfl) ?_
      refine al_load rfl (by simp only [go_sem, ↓reduceIte, xa, xb, xc, xd, xe, xf, xg, xh, xi, xj, d0, d1, d2]) rfl (by simp only [go_sem, ↓reduceIte, xa, xb, xc, xd, xe, xf, xg, xh, xi, xj, d0, d1, d2]; try rfl) (by first | exact AHeap.set_self _ _ _ | (simp only [AHeap.set, ↓reduceIte, ya, xd, yb, yc, yd, ye, yf, yg, xb, yh, d0, d1, d2]; rfl) | assumption) (by first | exact loadA_scalar agg3 rfl | exact loadA_agg agg3 rfl | exact loadA_scalar agg3 (by assumption)) ?_
      refine al_pureN 4 (by simp only [go_sem, ↓reduceIte, xa, xb, xc, xd, xe, xf, xg, xh, xi, xj, d0, d1, d2]; try rfl) ?_
      refine al_load rfl (by simp only [go_sem, ↓reduceIte, xa, xb, xc, xd, xe, xf, xg, xh, xi, xj, d0, d1, d2]) rfl (by simp only [go_sem, ↓reduceIte, xa, xb, xc, xd, xe, xf, xg, xh, xi, xj, d0, d1, d2]; try rfl) (by first | exact AHeap.set_self _ _ _ | (simp only [AHeap.set, ↓reduceIte, ya, xd, yb, yc, yd, ye, yf, yg, xb, yh, d0, d1, d2]; rfl) | assumption) (by first | exact loadA_scalar agg22 rfl | exact loadA_agg agg22 rfl | exact loadA_scalar agg22 (by assumption)) ?_
      refine al_pureN 4 (by simp only [go_sem, ↓reduceIte, xa, xb, xc, xd, xe, xf, xg, xh, xi, xj, d0, d1, d2]; try rfl) ?_
      refine al_pureN 1 (by simp only [go_sem, ↓reduceIte, xa, xb, xc, xd, xe, xf, xg, xh, xi, xj, d0, d1, d2]; try rfl) ?_
      refine al_pureN 1 (by simp only [go_sem, ↓reduceIte, xa, xb, xc, xd, xe, xf, xg, xh, xi, xj, d0, d1, d2, undef]; try rfl) ?_
      refine al_pureN 4 (by simp only [go_sem, ↓reduceIte, xa, xb, xc, xd, xe, xf, xg, xh, xi, xj, d0, d1, d2]; try rfl) ?_
      refine al_pureN 1 (by simp only [go_sem, ↓reduceIte, xa, xb, xc, xd, xe, xf, xg, xh, xi, xj, d0, d1, d2]; try rfl) ?_
      refine al_pureN 1 (by simp only [go_sem, ↓reduceIte, xa, xb, xc, xd, xe, xf, xg, xh, xi, xj, d0, d1, d2, undef]; try rfl) ?_
      refine al_pureN 4 (by simp only [go_sem, ↓reduceIte, xa, xb, xc, xd, xe, xf, xg, xh, xi, xj, d0, d1, d2]; try rfl) ?_
      refine al_end [2] ?_
      exact awp_ret ⟨_, rfl, rfl, (by (repeat refine AHeap.le_set ?_ fun i b hb => (by have := hN i b hb; omega)); exact AHeap.le_refl _)⟩
    have d2 : decide ((g.ls.length : Int) > 64) = false := by simp; omega
    by_cases c3 : 200 < g.as.length
    · have d3 : decide ((g.as.length : Int) > 200) = true := by simp; omega
      have hv : longB g = true := by simp [longB]; omega
      rw [hv]
      first | refine awp_seq (awp_lit ?_) | refine awp_lit ?_ | refine awp_seq (awp_seq (awp_lit ?_))
      refine al_pureN 1 (by simp only [go_sem, ↓reduceIte, xa, xb, xc, xd, xe, xf, xg, xh, xi, xj, d0, d1, d2, d3]; try rfl) ?_
      refine al_load rfl (by simp only [go_sem, ↓reduceIte, xa, xb, xc, xd, xe, xf, xg, xh, xi, xj, d0, d1, d2, d3]) rfl (by simp only [go_sem, ↓reduceIte, xa, xb, xc, xd, xe, xf, xg, xh, xi, xj, d0, d1, d2, d3]; try rfl) (by first | exact AHeap.set_self _ _ _ | (simp only [AHeap.set, ↓reduceIte, ya, xd, yb, yc, yd, ye, yf, yg, xb, yh, d0, d1, d2, d3]; rfl) | assumption) (by first | exact loadA_scalar agg3 rfl | exact loadA_agg agg3 rfl | exact loadA_scalar agg3 (by assumption)) ?_
      refine al_pureN 3 (by simp only [go_sem, ↓reduceIte, xa, xb, xc, xd, xe, xf, xg, xh, xi, xj, d0, d1, d2, d3]; try rfl) ?_
      refine al_load rfl (by simp only [go_sem, ↓reduceIte, xa, xb, xc, xd, xe, xf, xg, xh, xi, xj, d0, d1, d2, d3]) rfl (by simp only [go_sem, ↓reduceIte, xa, xb, xc, xd, xe, xf, xg, xh, xi, xj, d0, d1, d2, d3]; try rfl) (by first | exact AHeap.set_self _ _ _ | (simp only [AHeap.set, ↓reduceIte, ya, xd, yb, yc, yd, ye, yf, yg, xb, yh, d0, d1, d2, d3]; rfl) | assumption) (by first | exact loadA_scalar agg3 rfl | exact loadA_agg agg3 rfl | exact loadA_scalar agg3 (by assumption)) ?_
      refine al_pureN 4 (by simp only [go_sem, ↓reduceIte, xa, xb, xc, xd, xe, xf, xg, xh, xi, xj, d0, d1, d2, d3]; try rfl) ?_
      refine al_load rfl (by simp only [go_sem, ↓reduceIte, xa, xb, xc, xd, xe, xf, xg, xh, xi, xj, d0, d1, d2, d3]) rfl (by simp only [go_sem, ↓reduceIte, xa, xb, xc, xd, xe, xf, xg, xh, xi, xj, d0, d1, d2, d3]; try rfl) (by first | exact AHeap.set_self _ _ _ | (simp only [AHeap.set, ↓reduceIte, ya, xd, yb, yc, yd, ye, yf, yg, xb, yh, d0, d1, d2, d3]; rfl) | assumption) (by first | exact loadA_scalar agg22 rfl | exact loadA_agg agg22 rfl | exact loadA_scalar agg22 (by assumption)) ?_
      refine al_pureN 4 (by simp only [go_sem, ↓reduceIte, xa, xb, xc, xd, xe, xf, xg, xh, xi, xj, d0, d1, d2, d3]; try rfl) ?_
      refine al_pureN 1 (by simp only [go_sem, ↓reduceIte, xa, xb, xc, xd, xe, xf, xg, xh, xi, xj, d0, d1, d2, d3]; try rfl) ?_
      refine al_load rfl (by simp only [go_sem, ↓reduceIte, xa, xb, xc, xd, xe, xf, xg, xh, xi, xj, d0, d1, d2, d3]) rfl (by simp only [go_sem, ↓reduceIte, xa, xb, xc, xd, xe, xf, xg, xh, xi, xj, d0, d1, d2, d3]; try rfl) (by first | exact AHeap.set_self _ _ _ | (simp only [AHeap.set, ↓reduceIte, ya, xd, yb, yc, yd, ye, yf, yg, xb, yh, d0, d1, d2, d3]; rfl) | assumption) (by first | exact loadA_scalar agg23 rfl | exact loadA_agg agg23 rfl | exact loadA_scalar agg23 (by assumption)) ?_
      refine al_pureN 4 (by simp only [go_sem, ↓reduceIte, xa, xb, xc, xd, xe, xf, xg, xh, xi, xj, d0, d1, d2, d3]; try rfl) ?_
      refine al_pureN 1 (by simp only [go_sem, ↓reduceIte, xa, xb, xc, xd, xe, xf, xg, xh, xi, xj, d0, d1, d2, d3]; try rfl) ?_
      refine al_pureN 1 (by simp only [go_sem, ↓reduceIte, xa, xb, xc, xd, xe, xf, xg, xh, xi, xj, d0, d1, d2, d3, undef]; try rfl) ?_
      refine al_pureN 4 (by simp only [go_sem, ↓reduceIte, xa, xb, xc, xd, xe, xf, xg, xh, xi, xj, d0, d1, d2, d3]; try rfl) ?_
      refine al_end [2] ?_
      exact awp_ret ⟨_, rfl, rfl, (by (repeat refine AHeap.le_set ?_ fun i b hb => (by have := hN i b hb; omega)); exact AHeap.le_refl _)⟩
    have d3 : decide ((g.as.length : Int) > 200) = false := by simp; omega
    by_cases c4 : 64 < g.os.length
    · have d4 : decide ((g.os.length : Int) > 64) = true := by simp; omega
      have hv : longB g = true := by simp [longB]; omega
      rw [hv]
      first | refine awp_seq (awp_lit ?_) | refine awp_lit ?_ | refine awp_seq (awp_seq (awp_lit ?_))
      refine al_pureN 1 (by simp only [go_sem, ↓reduceIte, xa, xb, xc, xd, xe, xf, xg, xh, xi, xj, d0, d1, d2, d3, d4]; try rfl) ?_
      refine al_load rfl (by simp only [go_sem, ↓reduceIte, xa, xb, xc, xd, xe, xf, xg, xh, xi, xj, d0, d1, d2, d3, d4]) rfl (by simp only [go_sem, ↓reduceIte, xa, xb, xc, xd, xe, xf, xg, xh, xi, xj, d0, d1, d2, d3, d4]; try rfl) (by first | exact AHeap.set_self _ _ _ | (simp only [AHeap.set, ↓reduceIte, ya, xd, yb, yc, yd, ye, yf, yg, xb, yh, d0, d1, d2, d3, d4]; rfl) | assumption) (by first | exact loadA_scalar agg3 rfl | exact loadA_agg agg3 rfl | exact loadA_scalar agg3 (by assumption)) ?_
      refine al_pureN 3 (by simp only [go_sem, ↓reduceIte, xa, xb, xc, xd, xe, xf, xg, xh, xi, xj, d0, d1, d2, d3, d4]; try rfl) ?_
      refine al_load rfl (by simp only [go_sem, ↓reduceIte, xa, xb, xc, xd, xe, xf, xg, xh, xi, xj, d0, d1, d2, d3, d4]) rfl (by simp only [go_sem, ↓reduceIte, xa, xb, xc, xd, xe, xf, xg, xh, xi, xj, d0, d1, d2, d3, d4]; try rfl) (by first | exact AHeap.set_self _ _ _ | (simp only [AHeap.set, ↓reduceIte, ya, xd, yb, yc, yd, ye, yf, yg, xb, yh, d0, d1, d2, d3, d4]; rfl) | assumption) (by first | exact loadA_scalar agg3 rfl | exact loadA_agg agg3 rfl | exact loadA_scalar agg3 (by assumption)) ?_
      refine al_pureN 4 (by simp only [go_sem, ↓reduceIte, xa, xb, xc, xd, xe, xf, xg, xh, xi, xj, d0, d1, d2, d3, d4]; try rfl) ?_
      refine al_load rfl (by simp only [go_sem, ↓reduceIte, xa, xb, xc, xd, xe, xf, xg, xh, xi, xj, d0, d1, d2, d3, d4]) rfl (by simp only [go_sem, ↓reduceIte, xa, xb, xc, xd, xe, xf, xg, xh, xi, xj, d0, d1, d2, d3, d4]; try rfl) (by first | exact AHeap.set_self _ _ _ | (simp only [AHeap.set, ↓reduceIte, ya, xd, yb, yc, yd, ye, yf, yg, xb, yh, d0, d1, d2, d3, d4]; rfl) | assumption) (by first | exact loadA_scalar agg22 rfl | exact loadA_agg agg22 rfl | exact loadA_scalar agg22 (by assumption)) ?_
      refine al_pureN 4 (by simp only [go_sem, ↓reduceIte, xa, xb, xc, xd, xe, xf, xg, xh, xi, xj, d0, d1, d2, d3, d4]; try rfl) ?_
      refine al_pureN 1 (by simp only [go_sem, ↓reduceIte, xa, xb, xc, xd, xe, xf, xg, xh, xi, xj, d0, d1, d2, d3, d4]; try rfl) ?_
      refine al_load rfl (by simp only [go_sem, ↓reduceIte, xa, xb, xc, xd, xe, xf, xg, xh, xi, xj, d0, d1, d2, d3, d4]) rfl (by simp only [go_sem, ↓reduceIte, xa, xb, xc, xd, xe, xf, xg, xh, xi, xj, d0, d1, d2, d3, d4]; try rfl) (by first | exact AHeap.set_self _ _ _ | (simp only [AHeap.set, ↓reduceIte, ya, xd, yb, yc, yd, ye, yf, yg, xb, yh, d0, d1, d2, d3, d4]; rfl) | assumption) (by first | exact loadA_scalar agg23 rfl | exact loadA_agg agg23 rfl | exact loadA_scalar agg23 (by assumption)) ?_
      refine al_pureN 4 (by simp only [go_sem, ↓reduceIte, xa, xb, xc, xd, xe, xf, xg, xh, xi, xj, d0, d1, d2, d3, d4]; try rfl) ?_
      refine al_pureN 1 (by simp only [go_sem, ↓reduceIte, xa, xb, xc, xd, xe, xf, xg, xh, xi, xj, d0, d1, d2, d3, d4]; try rfl) ?_
      refine al_load rfl (by simp only [go_sem, ↓reduceIte, xa, xb, xc, xd, xe, xf, xg, xh, xi, xj, d0, d1, d2, d3, d4]) rfl (by simp only [go_sem, ↓reduceIte, xa, xb, xc, xd, xe, xf, xg, xh, xi, xj, d0, d1, d2, d3, d4]; try rfl) (by first | exact AHeap.set_self _ _ _ | (simp only [AHeap.set, ↓reduceIte, ya, xd, yb, yc, yd, ye, yf, yg, xb, yh, d0, d1, d2, d3, d4]; rfl) | assumption) (by first | exact loadA_scalar agg24 rfl | exact loadA_agg agg24 rfl | exact loadA_scalar agg24 (by assumption)) ?_
      refine al_pureN 4 (by simp only [go_sem, ↓reduceIte, xa, xb, xc, xd, xe, xf, xg, xh, xi, xj, d0, d1, d2, d3, d4]; try rfl) ?_
      refine al_end [2] ?_
      exact awp_ret ⟨_, rfl, rfl, (by (repeat refine AHeap.le_set ?_ fun i b hb => (by have := hN i b hb; omega)); exact AHeap.le_refl _)⟩
    have d4 : decide ((g.os.length : Int) > 64) = false := by simp; omega
    have hv : longB g = false := by simp [longB]; omega
    rw [hv]
    first | refine awp_seq (awp_lit ?_) | refine awp_lit ?_ | refine awp_seq (awp_seq (awp_lit ?_))
    refine al_pureN 1 (by simp only [go_sem, ↓reduceIte, xa, xb, xc, xd, xe, xf, xg, xh, xi, xj, d0, d1, d2, d3, d4]; try rfl) ?_
    refine al_load rfl (by simp only [go_sem, ↓reduceIte, xa, xb, xc, xd, xe, xf, xg, xh, xi, xj, d0, d1, d2, d3, d4]) rfl (by simp only [go_sem, ↓reduceIte, xa, xb, xc, xd, xe, xf, xg, xh, xi, xj, d0, d1, d2, d3, d4]; try rfl) (by first | exact AHeap.set_self _ _ _ | (simp only [AHeap.set, ↓reduceIte, ya, xd, yb, yc, yd, ye, yf, yg, xb, yh, d0, d1, d2, d3, d4]; rfl) | assumption) (by first | exact loadA_scalar agg3 rfl | exact loadA_agg agg3 rfl | exact loadA_scalar agg3 (by assumption)) ?_
    refine al_pureN 3 (by simp only [go_sem, ↓reduceIte, xa, xb, xc, xd, xe, xf, xg, xh, xi, xj, d0, d1, d2, d3, d4]; try rfl) ?_
    refine al_load rfl (by simp only [go_sem, ↓reduceIte, xa, xb, xc, xd, xe, xf, xg, xh, xi, xj, d0, d1, d2, d3, d4]) rfl (by simp only [go_sem, ↓reduceIte, xa, xb, xc, xd, xe, xf, xg, xh, xi, xj, d0, d1, d2, d3, d4]; try rfl) (by first | exact AHeap.set_self _ _ _ | (simp only [AHeap.set, ↓reduceIte, ya, xd, yb, yc, yd, ye, yf, yg, xb, yh, d0, d1, d2, d3, d4]; rfl) | assumption) (by first | exact loadA_scalar agg3 rfl | exact loadA_agg agg3 rfl | exact loadA_scalar agg3 (by assumption)) ?_
    refine al_pureN 4 (by simp only [go_sem, ↓reduceIte, xa, xb, xc, xd, xe, xf, xg, xh, xi, xj, d0, d1, d2, d3, d4]; try rfl) ?_
    refine al_load rfl (by simp only [go_sem, ↓reduceIte, xa, xb, xc, xd, xe, xf, xg, xh, xi, xj, d0, d1, d2, d3, d4]) rfl (by simp only [go_sem, ↓reduceIte, xa, xb, xc, xd, xe, xf, xg, xh, xi, xj, d0, d1, d2, d3, d4]; try rfl) (by first | exact AHeap.set_self _ _ _ | (simp only [AHeap.set, ↓reduceIte, ya, xd, yb, yc, yd, ye, yf, yg, xb, yh, d0, d1, d2, d3, d4]; rfl) | assumption) (by first | exact loadA_scalar agg22 rfl | exact loadA_agg agg22 rfl | exact loadA_scalar agg22 (by assumption)) ?_
    refine al_pureN 4 (by simp only [go_sem, ↓reduceIte, xa, xb, xc, xd, xe, xf, xg, xh, xi, xj, d0, d1, d2, d3, d4]; try rfl) ?_
    refine al_pureN 1 (by simp only [go_sem, ↓reduceIte, xa, xb, xc, xd, xe, xf, xg, xh, xi, xj, d0, d1, d2, d3, d4]; try rfl) ?_
    refine al_load rfl (by simp only [go_sem, ↓reduceIte, xa, xb, xc, xd, xe, xf, xg, xh, xi, xj, d0, d1, d2, d3, d4]) rfl (by simp only [go_sem, ↓reduceIte, xa, xb, xc, xd, xe, xf, xg, xh, xi, xj, d0, d1, d2, d3, d4]; try rfl) (by first | exact AHeap.set_self _ _ _ | (simp only [AHeap.set, ↓reduceIte, ya, xd, yb, yc, yd, ye, yf, yg, xb, yh, d0, d1, d2, d3, d4]; rfl) | assumption) (by first | exact loadA_scalar agg23 rfl | exact loadA_agg agg23 rfl | exact loadA_scalar agg23 (by assumption)) ?_
    refine al_pureN 4 (by simp only [go_sem, ↓reduceIte, xa, xb, xc, xd, xe, xf, xg, xh, xi, xj, d0, d1, d2, d3, d4]; try rfl) ?_
    refine al_pureN 1 (by simp only [go_sem, ↓reduceIte, xa, xb, xc, xd, xe, xf, xg, xh, xi, xj, d0, d1, d2, d3, d4]; try rfl) ?_
    refine al_load rfl (by simp only [go_sem, ↓reduceIte, xa, xb, xc, xd, xe, xf, xg, xh, xi, xj, d0, d1, d2, d3, d4]) rfl (by simp only [go_sem, ↓reduceIte, xa, xb, xc, xd, xe, xf, xg, xh, xi, xj, d0, d1, d2, d3, d4]; try rfl) (by first | exact AHeap.set_self _ _ _ | (simp only [AHeap.set, ↓reduceIte, ya, xd, yb, yc, yd, ye, yf, yg, xb, yh, d0, d1, d2, d3, d4]; rfl) | assumption) (by first | exact loadA_scalar agg24 rfl | exact loadA_agg agg24 rfl | exact loadA_scalar agg24 (by assumption)) ?_
    refine al_pureN 4 (by simp only [go_sem, ↓reduceIte, xa, xb, xc, xd, xe, xf, xg, xh, xi, xj, d0, d1, d2, d3, d4]; try rfl) ?_
    refine al_end [2] ?_
    exact awp_ret ⟨_, rfl, rfl, (by (repeat refine AHeap.le_set ?_ fun i b hb => (by have := hN i b hb; omega)); exact AHeap.le_refl _)⟩
  have d0 : decide (g.inp > 64) = false := by simp; omega
  by_cases c2 : 64 < g.ls.length
  · have d2 : decide ((g.ls.length : Int) > 64) = true := by simp; omega
    have hv : longB g = true := by simp [longB]; omega
    rw [hv]
    first | refine awp_seq (awp_lit ?_) | refine awp_lit ?_ | refine awp_seq (awp_seq (awp_lit ?_))
    refine al_pureN 1 (by simp only [go_sem, ↓reduceIte, xa, xb, xc, xd, xe, xf, xg, xh, xi, xj, d0, d2]; try rfl) ?_
    refine al_load rfl (by simp only [go_sem, ↓reduceIte, xa, xb, xc, xd, xe, xf, xg, xh, xi, xj, d0, d2]) rfl (by simp only [go_sem, ↓reduceIte, xa, xb, xc, xd, xe, xf, xg, xh, xi, xj, d0, d2]; try rfl) (by first | exact AHeap.set_self _ _ _ | (simp only [AHeap.set, ↓reduceIte, ya, xd, yb, yc, yd, ye, yf, yg, xb, yh, d0, d2]; rfl) | assumption) (by first | exact loadA_scalar agg3 rfl | exact loadA_agg agg3 rfl | exact loadA_scalar agg3 (by assumption)) ?_
    refine al_pureN 2 (by simp only [go_sem, ↓reduceIte, xa, xb, xc, xd, xe, xf, xg, xh, xi, xj, d0, d2]; try rfl) ?_
    refine al_pureN 1 (by simp only [go_sem, ↓reduceIte, xa, xb, xc, xd, xe, xf, xg, xh, xi, xj, d0, d2]; try rfl) ?_
    refine al_pureN 1 (by simp only [go_sem, ↓reduceIte, xa, xb, xc, xd, xe, xf, xg, xh, xi, xj, d0, d2, undef]; try rfl) ?_
    refine al_pureN 2 (by simp only [go_sem, ↓reduceIte, xa, xb, xc, xd, xe, xf, xg, xh, xi, xj, d0, d2]; try rfl) ?_
    refine al_pureN 2 (by simp only [go_sem, ↓reduceIte, xa, xb, xc, xd, xe, xf, xg, xh, xi, xj, d0, d2]; try rfl) ?_
    refine al_load rfl (by simp only [go_sem, ↓reduceIte, xa, xb, xc, xd, xe, xf, xg, xh, xi, xj, d0, d2]) rfl (by simp only [go_sem, ↓reduceIte, xa, xb, xc, xd, xe, xf, xg, xh, xi, xj, d0, d2]; try rfl) (by first | exact AHeap.set_self _ _ _ | (simp only [AHeap.set, ↓reduceIte, ya, xd, yb, yc, yd, ye, yf, yg, xb, yh, d0, d2]; rfl) | assumption) (by first | exact loadA_scalar agg22 rfl | exact loadA_agg agg22 rfl | exact loadA_scalar agg22 (by assumption)) ?_
    refine al_pureN 1 (by simp only [go_sem, ↓reduceIte, xa, xb, xc, xd, xe, xf, xg, xh, xi, xj, d0, d2]; try rfl) ?_
    refine al_pureN 2 (by simp only [go_sem, ↓reduceIte, xa, xb, xc, xd, xe, xf, xg, xh, xi, xj, d0, d2]; try rfl) ?_
    refine al_pureN 2 (by simp only [go_sem, ↓reduceIte, xa, xb, xc, xd, xe, xf, xg, xh, xi, xj, d0, d2]; try rfl) ?_
    refine al_pureN 1 (by simp only [go_sem, ↓reduceIte, xa, xb, xc, xd, xe, xf, xg, xh, xi, xj, d0, d2, undef]; try rfl) ?_
    refine al_pureN 1 (by simp only [go_sem, ↓reduceIte, xa, xb, xc, xd, xe, xf, xg, xh, xi, xj, d0, d2]; try rfl) ?_
    refine al_pureN 2 (by simp only [go_sem, ↓reduceIte, xa, xb, xc, xd, xe, xf, xg, xh, xi, xj, d0, d2]; try rfl) ?_
    refine al_pureN 2 (by simp only [go_sem, ↓reduceIte, xa, xb, xc, xd, xe, xf, xg, xh, xi, xj, d0, d2]; try rfl) ?_
    refine al_pureN 1 (by simp only [go_sem, ↓reduceIte, xa, xb, xc, xd, xe, xf, xg, xh, xi, xj, d0, d2, undef]; try rfl) ?_
    refine al_pureN 1 (by simp only [go_sem, ↓reduceIte, xa, xb, xc, xd, xe, xf, xg, xh, xi, xj, d0, d2]; try rfl) ?_
    refine al_pureN 2 (by simp only [go_sem, ↓reduceIte, xa, xb, xc, xd, xe, xf, xg, xh, xi, xj, d0, d2]; try rfl) ?_
    refine al_pureN 1 (by simp only [go_sem, ↓reduceIte, xa, xb, xc, xd, xe, xf, xg, xh, xi, xj, d0, d2]; try rfl) ?_
    refine al_end [2] ?_
    exact awp_ret ⟨_, rfl, rfl, (by (repeat refine AHeap.le_set ?_ fun i b hb => (by have := hN i b hb; omega)); exact AHeap.le_refl _)⟩
  have d2 : decide ((g.ls.length : Int) > 64) = false := by simp; omega
  by_cases c3 : 200 < g.as.length
  · have d3 : decide ((g.as.length : Int) > 200) = true := by simp; omega
    have hv : longB g = true := by simp [longB]; omega
    rw [hv]
    first | refine awp_seq (awp_lit ?_) | refine awp_lit ?_ | refine awp_seq (awp_seq (awp_lit ?_))
    refine al_pureN 1 (by simp only [go_sem, ↓reduceIte, xa, xb, xc, xd, xe, xf, xg, xh, xi, xj, d0, d2, d3]; try rfl) ?_
    refine al_load rfl (by simp only [go_sem, ↓reduceIte, xa, xb, xc, xd, xe, xf, xg, xh, xi, xj, d0, d2, d3]) rfl (by simp only [go_sem, ↓reduceIte, xa, xb, xc, xd, xe, xf, xg, xh, xi, xj, d0, d2, d3]; try rfl) (by first | exact AHeap.set_self _ _ _ | (simp only [AHeap.set, ↓reduceIte, ya, xd, yb, yc, yd, ye, yf, yg, xb, yh, d0, d2, d3]; rfl) | assumption) (by first | exact loadA_scalar agg3 rfl | exact loadA_agg agg3 rfl | exact loadA_scalar agg3 (by assumption)) ?_
    refine al_pureN 2 (by simp only [go_sem, ↓reduceIte, xa, xb, xc, xd, xe, xf, xg, xh, xi, xj, d0, d2, d3]; try rfl) ?_
    refine al_pureN 1 (by simp only [go_sem, ↓reduceIte, xa, xb, xc, xd, xe, xf, xg, xh, xi, xj, d0, d2, d3]; try rfl) ?_
    refine al_pureN 1 (by simp only [go_sem, ↓reduceIte, xa, xb, xc, xd, xe, xf, xg, xh, xi, xj, d0, d2, d3, undef]; try rfl) ?_
    refine al_pureN 2 (by simp only [go_sem, ↓reduceIte, xa, xb, xc, xd, xe, xf, xg, xh, xi, xj, d0, d2, d3]; try rfl) ?_
    refine al_pureN 2 (by simp only [go_sem, ↓reduceIte, xa, xb, xc, xd, xe, xf, xg, xh, xi, xj, d0, d2, d3]; try rfl) ?_
    refine al_load rfl (by simp only [go_sem, ↓reduceIte, xa, xb, xc, xd, xe, xf, xg, xh, xi, xj, d0, d2, d3]) rfl (by simp only [go_sem, ↓reduceIte, xa, xb, xc, xd, xe, xf, xg, xh, xi, xj, d0, d2, d3]; try rfl) (by first | exact AHeap.set_self _ _ _ | (simp only [AHeap.set, ↓reduceIte, ya, xd, yb, yc, yd, ye, yf, yg, xb, yh, d0, d2, d3]; rfl) | assumption) (by first | exact loadA_scalar agg22 rfl | exact loadA_agg agg22 rfl | exact loadA_scalar agg22 (by assumption)) ?_
    refine al_pureN 1 (by simp only [go_sem, ↓reduceIte, xa, xb, xc, xd, xe, xf, xg, xh, xi, xj, d0, d2, d3]; try rfl) ?_
    refine al_pureN 2 (by simp only [go_sem, ↓reduceIte, xa, xb, xc, xd, xe, xf, xg, xh, xi, xj, d0, d2, d3]; try rfl) ?_
    refine al_pureN 2 (by simp only [go_sem, ↓reduceIte, xa, xb, xc, xd, xe, xf, xg, xh, xi, xj, d0, d2, d3]; try rfl) ?_
    refine al_load rfl (by simp only [go_sem, ↓reduceIte, xa, xb, xc, xd, xe, xf, xg, xh, xi, xj, d0, d2, d3]) rfl (by simp only [go_sem, ↓reduceIte, xa, xb, xc, xd, xe, xf, xg, xh, xi, xj, d0, d2, d3]; try rfl) (by first | exact AHeap.set_self _ _ _ | (simp only [AHeap.set, ↓reduceIte, ya, xd, yb, yc, yd, ye, yf, yg, xb, yh, d0, d2, d3]; rfl) | assumption) (by first | exact loadA_scalar agg23 rfl | exact loadA_agg agg23 rfl | exact loadA_scalar agg23 (by assumption)) ?_
    refine al_pureN 1 (by simp only [go_sem, ↓reduceIte, xa, xb, xc, xd, xe, xf, xg, xh, xi, xj, d0, d2, d3]; try rfl) ?_
    refine al_pureN 2 (by simp only [go_sem, ↓reduceIte, xa, xb, xc, xd, xe, xf, xg, xh, xi, xj, d0, d2, d3]; try rfl) ?_
    refine al_pureN 2 (by simp only [go_sem, ↓reduceIte, xa, xb, xc, xd, xe, xf, xg, xh, xi, xj, d0, d2, d3]; try rfl) ?_
    refine al_pureN 1 (by simp only [go_sem, ↓reduceIte, xa, xb, xc, xd, xe, xf, xg, xh, xi, xj, d0, d2, d3, undef]; try rfl) ?_
    refine al_pureN 1 (by simp only [go_sem, ↓reduceIte, xa, xb, xc, xd, xe, xf, xg, xh, xi, xj, d0, d2, d3]; try rfl) ?_
    refine al_pureN 2 (by simp only [go_sem, ↓reduceIte, xa, xb, xc, xd, xe, xf, xg, xh, xi, xj, d0, d2, d3]; try rfl) ?_
    refine al_pureN 1 (by simp only [go_sem, ↓reduceIte, xa, xb, xc, xd, xe, xf, xg, xh, xi, xj, d0, d2, d3]; try rfl) ?_
    refine al_end [2] ?_
    exact awp_ret ⟨_, rfl, rfl, (by (repeat refine AHeap.le_set ?_ fun i b hb => (by have := hN i b hb; omega)); exact AHeap.le_refl _)⟩
  have d3 : decide ((g.as.length : Int) > 200) = false := by simp; omega
  by_cases c4 : 64 < g.os.length
  · have d4 : decide ((g.os.length : Int) > 64) = true := by simp; omega
    have hv : longB g = true := by simp [longB]; omega
    rw [hv]
    first | refine awp_seq (awp_lit ?_) | refine awp_lit ?_ | refine awp_seq (awp_seq (awp_lit ?_))
    refine al_pureN 1 (by simp only [go_sem, ↓reduceIte, xa, xb, xc, xd, xe, xf, xg, xh, xi, xj, d0, d2, d3, d4]; try rfl) ?_
    refine al_load rfl (by simp only [go_sem, ↓reduceIte, xa, xb, xc, xd, xe, xf, xg, xh, xi, xj, d0, d2, d3, d4]) rfl (by simp only [go_sem, ↓reduceIte, xa, xb, xc, xd, xe, xf, xg, xh, xi, xj, d0, d2, d3, d4]; try rfl) (by first | exact AHeap.set_self _ _ _ | (simp only [AHeap.set, ↓reduceIte, ya, xd, yb, yc, yd, ye, yf, yg, xb, yh, d0, d2, d3, d4]; rfl) | assumption) (by first | exact loadA_scalar agg3 rfl | exact loadA_agg agg3 rfl | exact loadA_scalar agg3 (by assumption)) ?_
    refine al_pureN 2 (by simp only [go_sem, ↓reduceIte, xa, xb, xc, xd, xe, xf, xg, xh, xi, xj, d0, d2, d3, d4]; try rfl) ?_
    refine al_pureN 1 (by simp only [go_sem, ↓reduceIte, xa, xb, xc, xd, xe, xf, xg, xh, xi, xj, d0, d2, d3, d4]; try rfl) ?_
    refine al_pureN 1 (by simp only [go_sem, ↓reduceIte, xa, xb, xc, xd, xe, xf, xg, xh, xi, xj, d0, d2, d3, d4, undef]; try rfl) ?_
    refine al_pureN 2 (by simp only [go_sem, ↓reduceIte, xa, xb, xc, xd, xe, xf, xg, xh, xi, xj, d0, d2, d3, d4]; try rfl) ?_
    refine al_pureN 2 (by simp only [go_sem, ↓reduceIte, xa, xb, xc, xd, xe, xf, xg, xh, xi, xj, d0, d2, d3, d4]; try rfl) ?_
    refine al_load rfl (by simp only [go_sem, ↓reduceIte, xa, xb, xc, xd, xe, xf, xg, xh, xi, xj, d0, d2, d3, d4]) rfl (by simp only [go_sem, ↓reduceIte, xa, xb, xc, xd, xe, xf, xg, xh, xi, xj, d0, d2, d3, d4]; try rfl) (by first | exact AHeap.set_self _ _ _ | (simp only [AHeap.set, ↓reduceIte, ya, xd, yb, yc, yd, ye, yf, yg, xb, yh, d0, d2, d3, d4]; rfl) | assumption) (by first | exact loadA_scalar agg22 rfl | exact loadA_agg agg22 rfl | exact loadA_scalar agg22 (by assumption)) ?_
    refine al_pureN 1 (by simp only [go_sem, ↓reduceIte, xa, xb, xc, xd, xe, xf, xg, xh, xi, xj, d0, d2, d3, d4]; try rfl) ?_
    refine al_pureN 2 (by simp only [go_sem, ↓reduceIte, xa, xb, xc, xd, xe, xf, xg, xh, xi, xj, d0, d2, d3, d4]; try rfl) ?_
    refine al_pureN 2 (by simp only [go_sem, ↓reduceIte, xa, xb, xc, xd, xe, xf, xg, xh, xi, xj, d0, d2, d3, d4]; try rfl) ?_
    refine al_load rfl (by simp only [go_sem, ↓reduceIte, xa, xb, xc, xd, xe, xf, xg, xh, xi, xj, d0, d2, d3, d4]) rfl (by simp only [go_sem, ↓reduceIte, xa, xb, xc, xd, xe, xf, xg, xh, xi, xj, d0, d2, d3, d4]; try rfl) (by first | exact AHeap.set_self _ _ _ | (simp only [AHeap.set, ↓reduceIte, ya, xd, yb, yc, yd, ye, yf, yg, xb, yh, d0, d2, d3, d4]; rfl) | assumption) (by first | exact loadA_scalar agg23 rfl | exact loadA_agg agg23 rfl | exact loadA_scalar agg23 (by assumption)) ?_
    refine al_pureN 1 (by simp only [go_sem, ↓reduceIte, xa, xb, xc, xd, xe, xf, xg, xh, xi, xj, d0, d2, d3, d4]; try rfl) ?_
    refine al_pureN 2 (by simp only [go_sem, ↓reduceIte, xa, xb, xc, xd, xe, xf, xg, xh, xi, xj, d0, d2, d3, d4]; try rfl) ?_
    refine al_pureN 2 (by simp only [go_sem, ↓reduceIte, xa, xb, xc, xd, xe, xf, xg, xh, xi, xj, d0, d2, d3, d4]; try rfl) ?_
    refine al_load rfl (by simp only [go_sem, ↓reduceIte, xa, xb, xc, xd, xe, xf, xg, xh, xi, xj, d0, d2, d3, d4]) rfl (by simp only [go_sem, ↓reduceIte, xa, xb, xc, xd, xe, xf, xg, xh, xi, xj, d0, d2, d3, d4]; try rfl) (by first | exact AHeap.set_self _ _ _ | (simp only [AHeap.set, ↓reduceIte, ya, xd, yb, yc, yd, ye, yf, yg, xb, yh, d0, d2, d3, d4]; rfl) | assumption) (by first | exact loadA_scalar agg24 rfl | exact loadA_agg agg24 rfl | exact loadA_scalar agg24 (by assumption)) ?_
    refine al_pureN 1 (by simp only [go_sem, ↓reduceIte, xa, xb, xc, xd, xe, xf, xg, xh, xi, xj, d0, d2, d3, d4]; try rfl) ?_
    refine al_pureN 2 (by simp only [go_sem, ↓reduceIte, xa, xb, xc, xd, xe, xf, xg, xh, xi, xj, d0, d2, d3, d4]; try rfl) ?_
    refine al_pureN 1 (by simp only [go_sem, ↓reduceIte, xa, xb, xc, xd, xe, xf, xg, xh, xi, xj, d0, d2, d3, d4]; try rfl) ?_
    refine al_end [2] ?_
    exact awp_ret ⟨_, rfl, rfl, (by (repeat refine AHeap.le_set ?_ fun i b hb => (by have := hN i b hb; omega)); exact AHeap.le_refl _)⟩
  have d4 : decide ((g.os.length : Int) > 64) = false := by simp; omega
  have hv : longB g = false := by simp [longB]; omega
  rw [hv]
  first | refine awp_seq (awp_lit ?_) | refine awp_lit ?_ | refine awp_seq (awp_seq (awp_lit ?_))
  refine al_pureN 1 (by simp only [go_sem, ↓reduceIte, xa, xb, xc, xd, xe, xf, xg, xh, xi, xj, d0, d2, d3, d4]; try rfl) ?_
  refine al_load rfl (by simp only [go_sem, ↓reduceIte, xa, xb, xc, xd, xe, xf, xg, xh, xi, xj, d0, d2, d3, d4]) rfl (by simp only [go_sem, ↓reduceIte, xa, xb, xc, xd, xe, xf, xg, xh, xi, xj, d0, d2, d3, d4]; try rfl) (by first | exact AHeap.set_self _ _ _ | (simp only [AHeap.set, ↓reduceIte, ya, xd, yb, yc, yd, ye, yf, yg, xb, yh, d0, d2, d3, d4]; rfl) | assumption) (by first | exact loadA_scalar agg3 rfl | exact loadA_agg agg3 rfl | exact loadA_scalar agg3 (by assumption)) ?_
  refine al_pureN 2 (by simp only [go_sem, ↓reduceIte, xa, xb, xc, xd, xe, xf, xg, xh, xi, xj, d0, d2, d3, d4]; try rfl) ?_
  refine al_pureN 1 (by simp only [go_sem, ↓reduceIte, xa, xb, xc, xd, xe, xf, xg, xh, xi, xj, d0, d2, d3, d4]; try rfl) ?_
  refine al_pureN 1 (by simp only [go_sem, ↓reduceIte, xa, xb, xc, xd, xe, xf, xg, xh, xi, xj, d0, d2, d3, d4, undef]; try rfl) ?_
  refine al_pureN 2 (by simp only [go_sem, ↓reduceIte, xa, xb, xc, xd, xe, xf, xg, xh, xi, xj, d0, d2, d3, d4]; try rfl) ?_
  refine al_pureN 2 (by simp only [go_sem, ↓reduceIte, xa, xb, xc, xd, xe, xf, xg, xh, xi, xj, d0, d2, d3, d4]; try rfl) ?_
  refine al_load rfl (by simp only [go_sem, ↓reduceIte, xa, xb, xc, xd, xe, xf, xg, xh, xi, xj, d0, d2, d3, d4]) rfl (by simp only [go_sem, ↓reduceIte, xa, xb, xc, xd, xe, xf, xg, xh, xi, xj, d0, d2, d3, d4]; try rfl) (by first | exact AHeap.set_self _ _ _ | (simp only [AHeap.set, ↓reduceIte, ya, xd, yb, yc, yd, ye, yf, yg, xb, yh, d0, d2, d3, d4]; rfl) | assumption) (by first | exact loadA_scalar agg22 rfl | exact loadA_agg agg22 rfl | exact loadA_scalar agg22 (by assumption)) ?_
  refine al_pureN 1 (by simp only [go_sem, ↓reduceIte, xa, xb, xc, xd, xe, xf, xg, xh, xi, xj, d0, d2, d3, d4]; try rfl) ?_
  refine al_pureN 2 (by simp only [go_sem, ↓reduceIte, xa, xb, xc, xd, xe, xf, xg, xh, xi, xj, d0, d2, d3, d4]; try rfl) ?_
  refine al_pureN 2 (by simp only [go_sem, ↓reduceIte, xa, xb, xc, xd, xe, xf, xg, xh, xi, xj, d0, d2, d3, d4]; try rfl) ?_
  refine al_load rfl (by simp only [go_sem, ↓reduceIte, xa, xb, xc, xd, xe, xf, xg, xh, xi, xj, d0, d2, d3, d4]) rfl (by simp only [go_sem, ↓reduceIte, xa, xb, xc, xd, xe, xf, xg, xh, xi, xj, d0, d2, d3, d4]; try rfl) (by first | exact AHeap.set_self _ _ _ | (simp only [AHeap.set, ↓reduceIte, ya, xd, yb, yc, yd, ye, yf, yg, xb, yh, d0, d2, d3, d4]; rfl) | assumption) (by first | exact loadA_scalar agg23 rfl | exact loadA_agg agg23 rfl | exact loadA_scalar agg23 (by assumption)) ?_
  refine al_pureN 1 (by simp only [go_sem, ↓reduceIte, xa, xb, xc, xd, xe, xf, xg, xh, xi, xj, d0, d2, d3, d4]; try rfl) ?_
  refine al_pureN 2 (by simp only [go_sem, ↓reduceIte, xa, xb, xc, xd, xe, xf, xg, xh, xi, xj, d0, d2, d3, d4]; try rfl) ?_
  refine al_pureN 2 (by simp only [go_sem, ↓reduceIte, xa, xb, xc, xd, xe, xf, xg, xh, xi, xj, d0, d2, d3, d4]; try rfl) ?_
  refine al_load rfl (by simp only [go_sem, ↓reduceIte, xa, xb, xc, xd, xe, xf, xg, xh, xi, xj, d0, d2, d3, d4]) rfl (by simp only [go_sem, ↓reduceIte, xa, xb, xc, xd, xe, xf, xg, xh, xi, xj, d0, d2, d3, d4]; try rfl) (by first | exact AHeap.set_self _ _ _ | (simp only [AHeap.set, ↓reduceIte, ya, xd, yb, yc, yd, ye, yf, yg, xb, yh, d0, d2, d3, d4]; rfl) | assumption) (by first | exact loadA_scalar agg24 rfl | exact loadA_agg agg24 rfl | exact loadA_scalar agg24 (by assumption)) ?_
  refine al_pureN 1 (by simp only [go_sem, ↓reduceIte, xa, xb, xc, xd, xe, xf, xg, xh, xi, xj, d0, d2, d3, d4]; try rfl) ?_
  refine al_pureN 2 (by simp only [go_sem, ↓reduceIte, xa, xb, xc, xd, xe, xf, xg, xh, xi, xj, d0, d2, d3, d4]; try rfl) ?_
  refine al_pureN 1 (by simp only [go_sem, ↓reduceIte, xa, xb, xc, xd, xe, xf, xg, xh, xi, xj, d0, d2, d3, d4]; try rfl) ?_
  refine al_end [2] ?_
  exact awp_ret ⟨_, rfl, rfl, (by (repeat refine AHeap.le_set ?_ fun i b hb => (by have := hN i b hb; omega)); exact AHeap.le_refl _)⟩
end Go.Proofs.Ytfialjllclclkaa

set_option linter.unusedSimpArgs false
set_option linter.unusedVariables false
namespace Go.Proofs.Ytfialjllclclkaa
open Go.Abs Go.Cut
attribute [local go_sem] Try.underlying26 Try.underlying66 Try.underlying69 Try.underlying3 Try.underlying22 Try.underlying23 Try.underlying24 Try.underlying35 Try.underlying43 Try.underlying45 Try.underlying47 Try.underlying5 Try.underlying4 Try.underlying30 Try.underlying56 size26 size66 size69 size3 size22 size23 size24 size35 size43 size45 size47 size5 size4 size30 Nat.mul_one
open Nat renaming reduceLT → xa, reduceEqDiff → xb, reduceLeDiff → xc, reduceAdd → xd, reduceMul → xe, reduceBEq → xj, add_assoc → ya, add_left_cancel_iff → yb, add_right_cancel_iff → yc, left_eq_add → yd, add_eq_left → ye, add_eq_right → yf, right_eq_add → yg, succ_ne_zero → yh
open Int renaming reduceLT → xf, reduceLE → xg, reduceToNat → xh
open BitVec renaming reduceOfInt → xi
theorem Uses_ok {g : AigD} {v : Value} {n N : Nat} {σ : AHeap} (hv : AigAt σ v g) (hfew : Few g) (hV : Valid g) (hn : sizeC g = (n : Int)) :
    AOk Try.prog 27 [v] N σ fun r N1 σ1 => OwnAt σ1 N r (nums (cntF (allLits g)) n) n 1 ∧ σ.le σ1 ∧ N ≤ N1 := by
  have hv0 := hv
  obtain ⟨lb, lc, ab, ac, ob, oc, rfl, hl, ha, ho⟩ := hv.opn
  have hla := hfew.as
  have hll := hfew.ls
  have hlo := hfew.os
  have hinp := hV.inp
  have hsz := hV.size
  have hchk := hV.ands
  have hchl := hV.latches
  have hcho := hV.outs
  rw [hn] at hchl hcho hsz
  have hfn : firstC g + g.as.length = n := hn
  have hff : 1 + g.inp + g.ls.length = firstC g := rfl
  refine aok_fresh fun hN => aok_body (r := false) (n := 69) Try.func27 rfl rfl (by simp) ?_
  first | refine awp_seq (awp_lit ?_) | refine awp_lit ?_ | refine awp_seq (awp_seq (awp_lit ?_))
  refine al_box 1 rfl rfl rfl (by simp only [go_sem, ↓reduceIte, xa, xb, xc, xd, xe, xf, xg, xh, xi, xj]; try rfl) ?_
  refine al_pureN 1 (by simp only [go_sem, ↓reduceIte, xa, xb, xc, xd, xe, xf, xg, xh, xi, xj]; try rfl) ?_
  refine al_end [1] ?_
  obtain ⟨G, hG⟩ : ∃ G, G = spread (.agg #[.int .i64 g.inp, .slice lb g.ls.length lc, .slice ab g.as.length ac, .slice ob g.os.length oc]) := ⟨_, rfl⟩
  first | refine awp_seq (awp_lit ?_) | refine awp_lit ?_ | refine awp_seq (awp_seq (awp_lit ?_))
  refine al_load rfl (by simp only [go_sem, ↓reduceIte, xa, xb, xc, xd, xe, xf, xg, xh, xi, xj]) rfl (by simp only [go_sem, ↓reduceIte, xa, xb, xc, xd, xe, xf, xg, xh, xi, xj]; try rfl) (by first | exact AHeap.set_self _ _ _ | (simp only [AHeap.set, ↓reduceIte, ya, xd, yb, yc, yd, ye, yf, yg, xb, yh]; rfl) | assumption) (by first | exact loadA_scalar agg26 rfl | exact loadA_agg agg26 rfl | exact loadA_scalar agg26 (by assumption)) ?_
  refine al_gives (vs := ?vs1) (v := ?v1) rfl ?ha1 ?hh1 (by kernel_rfl) rfl (by simp only [go_sem, ↓reduceIte, xa, xb, xc, xd, xe, xf, xg, xh, xi, xj]) ?kk1
  case ha1 => simp only [go_sem, ↓reduceIte, xa, xb, xc, xd, xe, xf, xg, xh, xi, xj]; try rfl
  case hh1 => exact (hn ▸ nodes_gives (hv0.mono (le_new hN (Nat.le_refl _))) hfew (by omega) (by omega) : Gives Try.prog 34 _ _ _ (.int .i64 (n : Int)))
  refine al_makeSlice (len := n) rfl (by simp only [go_sem, ↓reduceIte, xa, xb, xc, xd, xe, xf, xg, xh, xi, xj]; try rfl) rfl Try.underlying35 ty3 (by decide) rfl (by decide) (by simp only [go_sem, ↓reduceIte, xa, xb, xc, xd, xe, xf, xg, xh, xi, xj]; try rfl) (by simp only [go_sem, ↓reduceIte, xa, xb, xc, xd, xe, xf, xg, xh, xi, xj]; try rfl) (by omega) (by omega) ?_
  refine al_pureN 1 (by simp only [go_sem, ↓reduceIte, xa, xb, xc, xd, xe, xf, xg, xh, xi, xj]; try rfl) ?_
  refine al_end [1, 3] ?_
  rw [nums_zero]
  show Abs.Seq _ _ _ _ _ _ _ _ ((σ.set N ⟨spread (.agg #[.int .i64 g.inp, .slice lb g.ls.length lc, .slice ab g.as.length ac, .slice ob g.os.length oc]), true, 1⟩).set (N + 1) _)
  rw [← hG]
  have hNN : ¬ N = N + 1 := by omega
  have hσp : ∀ c, σ.le ((σ.set N ⟨G, true, 1⟩).set (N + 1) ⟨c, true, 1⟩) := fun c => (le_new hN (Nat.le_refl _)).trans (le_new (dom_set hN) (Nat.le_refl _))
  have hGN : ∀ c, ((σ.set N ⟨G, true, 1⟩).set (N + 1) ⟨c, true, 1⟩) N = some ⟨spread (.agg #[.int .i64 g.inp, .slice lb g.ls.length lc, .slice ab g.as.length ac, .slice ob g.os.length oc]), true, 1⟩ := fun c => by
    rw [AHeap.set_ne _ _ hNN, AHeap.set_self, hG]
  refine awp_seq ?_
  first | refine awp_seq (awp_lit ?_) | refine awp_lit ?_ | refine awp_seq (awp_seq (awp_lit ?_))
  refine al_pureN 1 (by simp only [go_sem, ↓reduceIte, xa, xb, xc, xd, xe, xf, xg, xh, xi, xj]; try rfl) ?_
  refine al_load rfl (by simp only [go_sem, ↓reduceIte, xa, xb, xc, xd, xe, xf, xg, xh, xi, xj]) rfl (by simp only [go_sem, ↓reduceIte, xa, xb, xc, xd, xe, xf, xg, xh, xi, xj]; try rfl) (hGN _) (loadA_scalar agg23 rfl) ?_
  refine al_pureN 2 (by simp only [go_sem, ↓reduceIte, xa, xb, xc, xd, xe, xf, xg, xh, xi, xj]; try rfl) ?_
  refine al_end [1, 3, 14, 15, 16] ?_
  have bnd : ∀ (p : List Int) (k : Nat), p.length ≤ 1000 → -9223372036854775808 ≤ ((cntF p k : Nat) : Int) + 1 ∧ ((cntF p k : Nat) : Int) + 1 ≤ 9223372036854775807 := fun p k hp => by
    have := cntF_le p k; omega
  refine awp_block (awp_loop ?_)
  refine ALoop.cast3 (aloop_ind (α := Nat × Nat) (fun a => a.1 ≤ g.as.length ∧ N + 2 ≤ a.2) (fun a => g.as.length - a.1)
    (fun a => [(1, .pointer (some ⟨N, 0, none⟩)), (3, .slice (some ⟨N + 1, 0, none⟩) n n), (14, .slice ab g.as.length ac), (15, .int .i64 g.as.length), (16, .int .i64 a.1)]) (fun a => a.2) (fun a => (σ.set N ⟨G, true, 1⟩).set (N + 1) ⟨nums (cntF (andLits (g.as.take a.1))) n, true, 1⟩) ?_ (0, N + 2) ⟨Nat.zero_le _, Nat.le_refl _⟩) rfl rfl rfl
  rintro ⟨j, M⟩ ⟨hj, hM⟩ ih
  dsimp only at hj hM ih ⊢
  by_cases hlt : j < g.as.length
  · have hb : decide ((j : Int) < (g.as.length : Int)) = true := by simpa using hlt
    refine awp_seq (awp_pures [1, 3, 14, 15, 16, 17] (by simp only [go_sem, ↓reduceIte, xa, xb, xc, xd, xe, xf, xg, xh, xi, xj, hb]; try rfl) ?_)
    refine awp_seq ?_
    refine awp_if rfl (fun _ => ?_) (fun h => by cases h)
    refine awp_skip ?_
    refine awp_seq (awp_block ?_)
    have hjj : 0 ≤ (j : Int) ∧ (j : Int) < (g.as.length : Int) := by omega
    obtain ⟨b1, b2, b3, b4⟩ := chkA_get hchk hlt
    obtain ⟨id, off, cap, b, e1, e2, e3, e4⟩ := rowsAt_pair (ha.mono (hσp (nums (cntF (andLits (g.as.take j))) n))) hlt
    cases e1
    first | refine awp_seq (awp_lit ?_) | refine awp_lit ?_ | refine awp_seq (awp_seq (awp_lit ?_))
    refine al_pureN 1 (by simp only [go_sem, ↓reduceIte, xa, xb, xc, xd, xe, xf, xg, xh, xi, xj, hjj]; try rfl) ?_
    refine al_load rfl (by simp only [go_sem, ↓reduceIte, xa, xb, xc, xd, xe, xf, xg, xh, xi, xj, hjj]) rfl (by simp only [go_sem, ↓reduceIte, xa, xb, xc, xd, xe, xf, xg, xh, xi, xj, hjj]; try rfl) e2 (loadA_agg agg47 e3) ?_
    refine al_alloc 1 rfl rfl rfl ty47 (by decide) ?_
    refine al_store rfl (by simp only [go_sem, ↓reduceIte, xa, xb, xc, xd, xe, xf, xg, xh, xi, xj, hjj]) rfl (by simp only [go_sem, ↓reduceIte, xa, xb, xc, xd, xe, xf, xg, xh, xi, xj, hjj]; try rfl) (by simp only [go_sem, ↓reduceIte, xa, xb, xc, xd, xe, xf, xg, xh, xi, xj, hjj]; try rfl) (by first | exact AHeap.set_self _ _ _ | (simp only [AHeap.set, ↓reduceIte, ya, xd, yb, yc, yd, ye, yf, yg, xb, yh, hjj]; rfl) | assumption) rfl (by exact size47.trans rfl) (by rfl) (by exact Nat.le_of_ble_eq_true rfl) ?_
    refine al_end [1, 3, 5, 14, 15, 16] ?_
    rw [AHeap.set_set]
    obtain ⟨A, hAe⟩ : ∃ A, A = g.as[j].1 := ⟨_, rfl⟩
    obtain ⟨B, hBe⟩ : ∃ B, B = g.as[j].2 := ⟨_, rfl⟩
    have hsn : andLits (g.as.take (j + 1)) = (andLits (g.as.take j) ++ [A]) ++ [B] := by
      rw [take_snoc _ hlt, andLits, List.flatMap_append]
      simp [andLits, hAe, hBe]
    rw [← hAe] at b1 b2 ⊢
    rw [← hBe] at b3 b4 ⊢
    obtain ⟨p, hp⟩ : ∃ p, p = andLits (g.as.take j) := ⟨_, rfl⟩
    have hpl : p.length ≤ 400 := by rw [hp, andLits_len, List.length_take]; omega
    rw [← hp] at hsn ⊢
    have hA1 : 0 ≤ A / 2 ∧ A / 2 < (n : Int) := by omega
    have hB1 : 0 ≤ B / 2 ∧ B / 2 < (n : Int) := by omega
    have hA2 : (A / 2).toNat = A.toNat / 2 := by omega
    have hB2 : (B / 2).toNat = B.toNat / 2 := by omega
    have qA := quo_two b1 (by omega)
    have qB := quo_two b3 (by omega)
    have gA : (nums (cntF p) n)[(A / 2).toNat]? = some (.int .i64 ((cntF p (A.toNat / 2) : Nat) : Int)) := by rw [hA2]; exact nums_get _ (by omega)
    have gB : (nums (cntF (p ++ [A])) n)[(B / 2).toNat]? = some (.int .i64 ((cntF (p ++ [A]) (B.toNat / 2) : Nat) : Int)) := by rw [hB2]; exact nums_get _ (by omega)
    have wA := bnd p (A.toNat / 2) (by omega)
    have wB := bnd (p ++ [A]) (B.toNat / 2) (by simp; omega)
    have hM1 : ¬ N + 1 = M := by omega
    obtain ⟨Y, hY⟩ : ∃ Y : Blk, Y = ⟨[.int .i64 A, .int .i64 B], true, .n 1⟩ := ⟨_, rfl⟩
    show Abs.Seq _ _ _ _ _ _ _ _ (((σ.set N ⟨G, true, 1⟩).set (N + 1) ⟨nums (cntF p) n, true, 1⟩).set M ⟨[.int .i64 A, .int .i64 B], true, .n 1⟩)
    rw [← hY]
    obtain ⟨τ, hτ⟩ : ∃ τ, τ = ((σ.set N ⟨G, true, 1⟩).set (N + 1) ⟨nums (cntF p) n, true, 1⟩).set M Y := ⟨_, rfl⟩
    have hU : τ (N + 1) = some ⟨nums (cntF p) n, true, .n 1⟩ := by rw [hτ, AHeap.set_ne _ _ hM1, AHeap.set_self]; rfl
    have hYM : τ M = some ⟨[.int .i64 A, .int .i64 B], true, .n 1⟩ := by rw [hτ, AHeap.set_self, hY]
    have hYM2 : ∀ X, (τ.set (N + 1) X) M = some ⟨[.int .i64 A, .int .i64 B], true, .n 1⟩ := fun X => by rw [AHeap.set_ne _ _ (by omega)]; exact hYM
    have hτle : (σ.set N ⟨G, true, 1⟩).le τ := by rw [hτ]; exact (le_new (dom_set hN) (Nat.le_refl _)).trans (le_new (dom_set (dom_set hN)) hM)
    rw [← hτ]
    first | refine awp_seq (awp_lit ?_) | refine awp_lit ?_ | refine awp_seq (awp_seq (awp_lit ?_))
    refine al_pureN 2 (by simp only [go_sem, ↓reduceIte, xa, xb, xc, xd, xe, xf, xg, xh, xi, xj, qA, hA1, i64_add wA]; try rfl) ?_
    refine al_load rfl (by simp only [go_sem, ↓reduceIte, xa, xb, xc, xd, xe, xf, xg, xh, xi, xj, qA, hA1, i64_add wA]) rfl (by simp only [go_sem, ↓reduceIte, xa, xb, xc, xd, xe, xf, xg, xh, xi, xj, qA, hA1, i64_add wA]; try rfl) hYM (loadA_scalar agg43 rfl) ?_
    refine al_pureN 2 (by simp only [go_sem, ↓reduceIte, xa, xb, xc, xd, xe, xf, xg, xh, xi, xj, qA, hA1, i64_add wA]; try rfl) ?_
    refine al_load rfl (by simp only [go_sem, ↓reduceIte, xa, xb, xc, xd, xe, xf, xg, xh, xi, xj, qA, hA1, i64_add wA]) rfl (by simp only [go_sem, ↓reduceIte, xa, xb, xc, xd, xe, xf, xg, xh, xi, xj, qA, hA1, i64_add wA]; try rfl) hU (loadA_scalar agg3 gA) ?_
    refine al_pureN 2 (by simp only [go_sem, ↓reduceIte, xa, xb, xc, xd, xe, xf, xg, xh, xi, xj, qA, hA1, i64_add wA]; try rfl) ?_
    refine al_store1 rfl (by simp only [go_sem, ↓reduceIte, xa, xb, xc, xd, xe, xf, xg, xh, xi, xj, qA, hA1, i64_add wA]; try rfl) rfl (by simp only [go_sem, ↓reduceIte, xa, xb, xc, xd, xe, xf, xg, xh, xi, xj, qA, hA1, i64_add wA]; try rfl) (by simp only [go_sem, ↓reduceIte, xa, xb, xc, xd, xe, xf, xg, xh, xi, xj, qA, hA1, i64_add wA]; try rfl) hU rfl size3 rfl rfl (by show (A / 2).toNat < (nums _ _).length; rw [nums_len]; omega) ?_
    refine al_end [1, 3, 5, 14, 15, 16] ?_
    show Abs.Seq _ _ _ _ _ _ _ _ (AHeap.set τ (N + 1) ⟨(nums (cntF p) n).set (A / 2).toNat (.int .i64 (((cntF p (A.toNat / 2) : Nat) : Int) + 1)), true, .n 1⟩)
    rw [hA2, nums_bump]
    refine awp_lit ?_
    refine al_pureN 2 (by simp only [go_sem, ↓reduceIte, xa, xb, xc, xd, xe, xf, xg, xh, xi, xj, qB, hB1, i64_add wB]; try rfl) ?_
    refine al_load rfl (by simp only [go_sem, ↓reduceIte, xa, xb, xc, xd, xe, xf, xg, xh, xi, xj, qB, hB1, i64_add wB]) rfl (by simp only [go_sem, ↓reduceIte, xa, xb, xc, xd, xe, xf, xg, xh, xi, xj, qB, hB1, i64_add wB]; try rfl) (hYM2 _) (loadA_scalar agg43 rfl) ?_
    refine al_pureN 2 (by simp only [go_sem, ↓reduceIte, xa, xb, xc, xd, xe, xf, xg, xh, xi, xj, qB, hB1, i64_add wB]; try rfl) ?_
    refine al_load rfl (by simp only [go_sem, ↓reduceIte, xa, xb, xc, xd, xe, xf, xg, xh, xi, xj, qB, hB1, i64_add wB]) rfl (by simp only [go_sem, ↓reduceIte, xa, xb, xc, xd, xe, xf, xg, xh, xi, xj, qB, hB1, i64_add wB]; try rfl) (AHeap.set_self _ _ _) (loadA_scalar agg3 gB) ?_
    refine al_pureN 2 (by simp only [go_sem, ↓reduceIte, xa, xb, xc, xd, xe, xf, xg, xh, xi, xj, qB, hB1, i64_add wB]; try rfl) ?_
    refine al_store1 rfl (by simp only [go_sem, ↓reduceIte, xa, xb, xc, xd, xe, xf, xg, xh, xi, xj, qB, hB1, i64_add wB]; try rfl) rfl (by simp only [go_sem, ↓reduceIte, xa, xb, xc, xd, xe, xf, xg, xh, xi, xj, qB, hB1, i64_add wB]; try rfl) (by simp only [go_sem, ↓reduceIte, xa, xb, xc, xd, xe, xf, xg, xh, xi, xj, qB, hB1, i64_add wB]; try rfl) (AHeap.set_self _ _ _) rfl size3 rfl rfl (by show (B / 2).toNat < (nums _ _).length; rw [nums_len]; omega) ?_
    refine al_end [1, 3, 14, 15, 16] ?_
    have hadd2 : -9223372036854775808 ≤ (j : Int) + 1 ∧ (j : Int) + 1 ≤ 9223372036854775807 := by omega
    refine awp_pures [1, 3, 14, 15, 16] (by simp only [go_sem, ↓reduceIte, xa, xb, xc, xd, xe, xf, xg, xh, xi, xj, i64_add hadd2]; try rfl) ?_
    rw [AHeap.set_set]
    refine ALoop.cast3 ((ih (j + 1, M + 1) ⟨hlt, by dsimp only; omega⟩ (by dsimp only; omega)).forget (fun _ _ h => h) ?_) rfl rfl rfl
    dsimp only
    rw [hsn, ← nums_bump, hB2]
    exact set_mono hτle _ _
  · have hb : decide ((j : Int) < (g.as.length : Int)) = false := by simpa using hlt
    have hjm : j = g.as.length := by omega
    refine awp_seq (awp_pures [1, 3, 14, 15, 16, 17] (by simp only [go_sem, ↓reduceIte, xa, xb, xc, xd, xe, xf, xg, xh, xi, xj, hb]; try rfl) ?_)
    refine awp_seq ?_
    refine awp_if rfl (fun h => by cases h) (fun _ => ?_)
    refine awp_exit ?_
    simp only [Go.Abs.Seq, Go.Abs.Round, Go.Abs.InBlock, ↓reduceIte]
    rw [hjm, List.take_length]
    refine awp_seq ?_
    first | refine awp_seq (awp_lit ?_) | refine awp_lit ?_ | refine awp_seq (awp_seq (awp_lit ?_))
    refine al_pureN 1 (by simp only [go_sem, ↓reduceIte, xa, xb, xc, xd, xe, xf, xg, xh, xi, xj]; try rfl) ?_
    refine al_load rfl (by simp only [go_sem, ↓reduceIte, xa, xb, xc, xd, xe, xf, xg, xh, xi, xj]) rfl (by simp only [go_sem, ↓reduceIte, xa, xb, xc, xd, xe, xf, xg, xh, xi, xj]; try rfl) (hGN _) (loadA_scalar agg22 rfl) ?_
    refine al_pureN 2 (by simp only [go_sem, ↓reduceIte, xa, xb, xc, xd, xe, xf, xg, xh, xi, xj]; try rfl) ?_
    refine al_end [1, 3, 38, 39, 40] ?_
    obtain ⟨q, hq⟩ : ∃ q, q = andLits g.as := ⟨_, rfl⟩
    have hql : q.length ≤ 400 := by rw [hq, andLits_len]; omega
    rw [← hq]
    refine awp_block (awp_loop ?_)
    refine ALoop.cast3 (aloop_ind (α := Nat × Nat) (fun a => a.1 ≤ g.ls.length ∧ N + 2 ≤ a.2) (fun a => g.ls.length - a.1)
      (fun a => [(1, .pointer (some ⟨N, 0, none⟩)), (3, .slice (some ⟨N + 1, 0, none⟩) n n), (38, .slice lb g.ls.length lc), (39, .int .i64 g.ls.length), (40, .int .i64 a.1)]) (fun a => a.2) (fun a => (σ.set N ⟨G, true, 1⟩).set (N + 1) ⟨nums (cntF (q ++ (g.ls.take a.1).map (·.1))) n, true, 1⟩) ?_ (0, M) ⟨Nat.zero_le _, hM⟩) rfl rfl (by simp)
    clear ih hlt hj hjm hb hM
    rintro ⟨j, M⟩ ⟨hj, hM⟩ ih
    dsimp only at hj hM ih ⊢
    by_cases hlt : j < g.ls.length
    · have hb : decide ((j : Int) < (g.ls.length : Int)) = true := by simpa using hlt
      refine awp_seq (awp_pures [1, 3, 38, 39, 40, 41] (by simp only [go_sem, ↓reduceIte, xa, xb, xc, xd, xe, xf, xg, xh, xi, xj, hb]; try rfl) ?_)
      refine awp_seq ?_
      refine awp_if rfl (fun _ => ?_) (fun h => by cases h)
      refine awp_skip ?_
      refine awp_seq (awp_block ?_)
      have hjj : 0 ≤ (j : Int) ∧ (j : Int) < (g.ls.length : Int) := by omega
      obtain ⟨id, off, cap, b, e1, e2, e3, e4⟩ := rowsAt_pair (hl.mono (hσp (nums (cntF (q ++ (g.ls.take j).map (·.1))) n))) hlt
      cases e1
      first | refine awp_seq (awp_lit ?_) | refine awp_lit ?_ | refine awp_seq (awp_seq (awp_lit ?_))
      refine al_pureN 1 (by simp only [go_sem, ↓reduceIte, xa, xb, xc, xd, xe, xf, xg, xh, xi, xj, hjj]; try rfl) ?_
      refine al_load rfl (by simp only [go_sem, ↓reduceIte, xa, xb, xc, xd, xe, xf, xg, xh, xi, xj, hjj]) rfl (by simp only [go_sem, ↓reduceIte, xa, xb, xc, xd, xe, xf, xg, xh, xi, xj, hjj]; try rfl) e2 (loadA_agg agg45 e3) ?_
      refine al_alloc 1 rfl rfl rfl ty45 (by decide) ?_
      refine al_store rfl (by simp only [go_sem, ↓reduceIte, xa, xb, xc, xd, xe, xf, xg, xh, xi, xj, hjj]) rfl (by simp only [go_sem, ↓reduceIte, xa, xb, xc, xd, xe, xf, xg, xh, xi, xj, hjj]; try rfl) (by simp only [go_sem, ↓reduceIte, xa, xb, xc, xd, xe, xf, xg, xh, xi, xj, hjj]; try rfl) (by first | exact AHeap.set_self _ _ _ | (simp only [AHeap.set, ↓reduceIte, ya, xd, yb, yc, yd, ye, yf, yg, xb, yh, hjj]; rfl) | assumption) rfl (by exact size45.trans rfl) (by rfl) (by exact Nat.le_of_ble_eq_true rfl) ?_
      refine al_end [1, 3, 7, 38, 39, 40] ?_
      rw [AHeap.set_set]
      obtain ⟨b1, b2⟩ := chkL_get hchl hlt
      obtain ⟨A, hAe⟩ : ∃ A, A = g.ls[j].1 := ⟨_, rfl⟩
      have hsn : q ++ (g.ls.take (j + 1)).map (·.1) = (q ++ (g.ls.take j).map (·.1)) ++ [A] := by
        rw [take_snoc _ hlt, List.map_append, ← List.append_assoc]; simp [hAe]
      rw [← hAe] at b1 b2 ⊢
      obtain ⟨p, hp⟩ : ∃ p, p = q ++ (g.ls.take j).map (·.1) := ⟨_, rfl⟩
      have hpl : p.length ≤ 500 := by rw [hp, List.length_append, List.length_map, List.length_take]; omega
      rw [← hp] at hsn ⊢
      have hA1 : 0 ≤ A / 2 ∧ A / 2 < (n : Int) := by omega
      have hA2 : (A / 2).toNat = A.toNat / 2 := by omega
      have qA := quo_two b1 (by omega)
      have gA : (nums (cntF p) n)[(A / 2).toNat]? = some (.int .i64 ((cntF p (A.toNat / 2) : Nat) : Int)) := by rw [hA2]; exact nums_get _ (by omega)
      have wA := bnd p (A.toNat / 2) (by omega)
      have hM1 : ¬ N + 1 = M := by omega
      have hU : ∀ X, (((σ.set N ⟨G, true, 1⟩).set (N + 1) ⟨nums (cntF p) n, true, 1⟩).set M X) (N + 1) = some ⟨nums (cntF p) n, true, 1⟩ := fun X => by
        rw [AHeap.set_ne _ _ hM1, AHeap.set_self]
      refine awp_lit ?_
      refine al_pureN 2 (by simp only [go_sem, ↓reduceIte, xa, xb, xc, xd, xe, xf, xg, xh, xi, xj, qA, hA1, i64_add wA]; try rfl) ?_
      refine al_load rfl (by simp only [go_sem, ↓reduceIte, xa, xb, xc, xd, xe, xf, xg, xh, xi, xj, qA, hA1, i64_add wA]) rfl (by simp only [go_sem, ↓reduceIte, xa, xb, xc, xd, xe, xf, xg, xh, xi, xj, qA, hA1, i64_add wA]; try rfl) (by first | exact AHeap.set_self _ _ _ | (simp only [AHeap.set, ↓reduceIte, ya, xd, yb, yc, yd, ye, yf, yg, xb, yh, qA, hA1, i64_add wA]; rfl) | assumption) (by first | exact loadA_scalar agg43 rfl | exact loadA_agg agg43 rfl | exact loadA_scalar agg43 (by assumption)) ?_
      refine al_pureN 2 (by simp only [go_sem, ↓reduceIte, xa, xb, xc, xd, xe, xf, xg, xh, xi, xj, qA, hA1, i64_add wA]; try rfl) ?_
      refine al_load rfl (by simp only [go_sem, ↓reduceIte, xa, xb, xc, xd, xe, xf, xg, xh, xi, xj, qA, hA1, i64_add wA]) rfl (by simp only [go_sem, ↓reduceIte, xa, xb, xc, xd, xe, xf, xg, xh, xi, xj, qA, hA1, i64_add wA]; try rfl) (hU _) (loadA_scalar agg3 gA) ?_
      refine al_pureN 2 (by simp only [go_sem, ↓reduceIte, xa, xb, xc, xd, xe, xf, xg, xh, xi, xj, qA, hA1, i64_add wA]; try rfl) ?_
      refine al_store1 rfl (by simp only [go_sem, ↓reduceIte, xa, xb, xc, xd, xe, xf, xg, xh, xi, xj, qA, hA1, i64_add wA]; try rfl) rfl (by simp only [go_sem, ↓reduceIte, xa, xb, xc, xd, xe, xf, xg, xh, xi, xj, qA, hA1, i64_add wA]; try rfl) (by simp only [go_sem, ↓reduceIte, xa, xb, xc, xd, xe, xf, xg, xh, xi, xj, qA, hA1, i64_add wA]; try rfl) (hU _) rfl size3 rfl rfl (by show (A / 2).toNat < (nums _ _).length; rw [nums_len]; omega) ?_
      refine al_end [1, 3, 38, 39, 40] ?_
      have hadd2 : -9223372036854775808 ≤ (j : Int) + 1 ∧ (j : Int) + 1 ≤ 9223372036854775807 := by omega
      refine awp_pures [1, 3, 38, 39, 40] (by simp only [go_sem, ↓reduceIte, xa, xb, xc, xd, xe, xf, xg, xh, xi, xj, i64_add hadd2]; try rfl) ?_
      refine ALoop.cast3 ((ih (j + 1, M + 1) ⟨hlt, by omega⟩ (by dsimp only; omega)).forget (fun _ _ h => h) ?_) rfl rfl rfl
      dsimp only
      rw [hsn, ← nums_bump, hA2]
      exact set_mono ((le_new (dom_set hN) (Nat.le_refl _)).trans (le_new (dom_set (dom_set hN)) hM)) _ _
    · have hb : decide ((j : Int) < (g.ls.length : Int)) = false := by simpa using hlt
      have hjm : j = g.ls.length := by omega
      refine awp_seq (awp_pures [1, 3, 38, 39, 40, 41] (by simp only [go_sem, ↓reduceIte, xa, xb, xc, xd, xe, xf, xg, xh, xi, xj, hb]; try rfl) ?_)
      refine awp_seq ?_
      refine awp_if rfl (fun h => by cases h) (fun _ => ?_)
      refine awp_exit ?_
      simp only [Go.Abs.Seq, Go.Abs.Round, Go.Abs.InBlock, ↓reduceIte]
      rw [hjm, List.take_length]
      refine awp_seq ?_
      first | refine awp_seq (awp_lit ?_) | refine awp_lit ?_ | refine awp_seq (awp_seq (awp_lit ?_))
      refine al_pureN 1 (by simp only [go_sem, ↓reduceIte, xa, xb, xc, xd, xe, xf, xg, xh, xi, xj]; try rfl) ?_
      refine al_load rfl (by simp only [go_sem, ↓reduceIte, xa, xb, xc, xd, xe, xf, xg, xh, xi, xj]) rfl (by simp only [go_sem, ↓reduceIte, xa, xb, xc, xd, xe, xf, xg, xh, xi, xj]; try rfl) (hGN _) (loadA_scalar agg24 rfl) ?_
      refine al_pureN 2 (by simp only [go_sem, ↓reduceIte, xa, xb, xc, xd, xe, xf, xg, xh, xi, xj]; try rfl) ?_
      refine al_end [3, 54, 55, 56] ?_
      obtain ⟨r, hr⟩ : ∃ r, r = q ++ g.ls.map (·.1) := ⟨_, rfl⟩
      have hrl : r.length ≤ 500 := by rw [hr, List.length_append, List.length_map]; omega
      rw [← hr]
      refine awp_block (awp_loop ?_)
      refine ALoop.cast3 (aloop_ind (α := Nat) (fun a => a ≤ g.os.length) (fun a => g.os.length - a)
        (fun a => [(3, .slice (some ⟨N + 1, 0, none⟩) n n), (54, .slice ob g.os.length oc), (55, .int .i64 g.os.length), (56, .int .i64 a)]) (fun _ => M) (fun a => (σ.set N ⟨G, true, 1⟩).set (N + 1) ⟨nums (cntF (r ++ g.os.take a)) n, true, 1⟩) ?_ 0 (Nat.zero_le _)) rfl rfl (by simp)
      clear ih hlt hj hjm hb
      intro j hj ih
      by_cases hlt : j < g.os.length
      · have hb : decide ((j : Int) < (g.os.length : Int)) = true := by simpa using hlt
        refine awp_seq (awp_pures [3, 54, 55, 56, 57] (by simp only [go_sem, ↓reduceIte, xa, xb, xc, xd, xe, xf, xg, xh, xi, xj, hb]; try rfl) ?_)
        refine awp_seq ?_
        refine awp_if rfl (fun _ => ?_) (fun h => by cases h)
        refine awp_skip ?_
        refine awp_seq (awp_block ?_)
        have hjj : 0 ≤ (j : Int) ∧ (j : Int) < (g.os.length : Int) := by omega
        obtain ⟨id, off, cap, b, e1, e2, e3, e4⟩ := slAt_int (ho.mono (hσp (nums (cntF (r ++ g.os.take j)) n))) hlt
        cases e1
        first | refine awp_seq (awp_lit ?_) | refine awp_lit ?_ | refine awp_seq (awp_seq (awp_lit ?_))
        refine al_pureN 1 (by simp only [go_sem, ↓reduceIte, xa, xb, xc, xd, xe, xf, xg, xh, xi, xj, hjj]; try rfl) ?_
        refine al_load rfl (by simp only [go_sem, ↓reduceIte, xa, xb, xc, xd, xe, xf, xg, xh, xi, xj, hjj]) rfl (by simp only [go_sem, ↓reduceIte, xa, xb, xc, xd, xe, xf, xg, xh, xi, xj, hjj]; try rfl) e2 (loadA_scalar agg43 e3) ?_
        refine al_pureN 1 (by simp only [go_sem, ↓reduceIte, xa, xb, xc, xd, xe, xf, xg, xh, xi, xj, hjj]; try rfl) ?_
        refine al_end [3, 9, 54, 55, 56] ?_
        obtain ⟨b1, b2⟩ := chkO_get hcho hlt
        obtain ⟨A, hAe⟩ : ∃ A, A = g.os[j] := ⟨_, rfl⟩
        have hsn : r ++ g.os.take (j + 1) = (r ++ g.os.take j) ++ [A] := by
          rw [take_snoc _ hlt, ← List.append_assoc]; simp [hAe]
        rw [← hAe] at b1 b2 ⊢
        obtain ⟨p, hp⟩ : ∃ p, p = r ++ g.os.take j := ⟨_, rfl⟩
        have hpl : p.length ≤ 600 := by rw [hp, List.length_append, List.length_take]; omega
        rw [← hp] at hsn ⊢
        have hA1 : 0 ≤ A / 2 ∧ A / 2 < (n : Int) := by omega
        have hA2 : (A / 2).toNat = A.toNat / 2 := by omega
        have qA := quo_two b1 (by omega)
        have gA : (nums (cntF p) n)[(A / 2).toNat]? = some (.int .i64 ((cntF p (A.toNat / 2) : Nat) : Int)) := by rw [hA2]; exact nums_get _ (by omega)
        have wA := bnd p (A.toNat / 2) (by omega)
        refine awp_lit ?_
        refine al_pureN 4 (by simp only [go_sem, ↓reduceIte, xa, xb, xc, xd, xe, xf, xg, xh, xi, xj, qA, hA1, i64_add wA]; try rfl) ?_
        refine al_load rfl (by simp only [go_sem, ↓reduceIte, xa, xb, xc, xd, xe, xf, xg, xh, xi, xj, qA, hA1, i64_add wA]) rfl (by simp only [go_sem, ↓reduceIte, xa, xb, xc, xd, xe, xf, xg, xh, xi, xj, qA, hA1, i64_add wA]; try rfl) (AHeap.set_self _ _ _) (loadA_scalar agg3 gA) ?_
        refine al_pureN 2 (by simp only [go_sem, ↓reduceIte, xa, xb, xc, xd, xe, xf, xg, xh, xi, xj, qA, hA1, i64_add wA]; try rfl) ?_
        refine al_store1 rfl (by simp only [go_sem, ↓reduceIte, xa, xb, xc, xd, xe, xf, xg, xh, xi, xj, qA, hA1, i64_add wA]; try rfl) rfl (by simp only [go_sem, ↓reduceIte, xa, xb, xc, xd, xe, xf, xg, xh, xi, xj, qA, hA1, i64_add wA]; try rfl) (by simp only [go_sem, ↓reduceIte, xa, xb, xc, xd, xe, xf, xg, xh, xi, xj, qA, hA1, i64_add wA]; try rfl) (AHeap.set_self _ _ _) rfl size3 rfl rfl (by show (A / 2).toNat < (nums _ _).length; rw [nums_len]; omega) ?_
        refine al_end [3, 54, 55, 56] ?_
        have hadd2 : -9223372036854775808 ≤ (j : Int) + 1 ∧ (j : Int) + 1 ≤ 9223372036854775807 := by omega
        refine awp_pures [3, 54, 55, 56] (by simp only [go_sem, ↓reduceIte, xa, xb, xc, xd, xe, xf, xg, xh, xi, xj, i64_add hadd2]; try rfl) ?_
        rw [AHeap.set_set]
        refine ALoop.cast3 (ih (j + 1) hlt (by omega)) rfl rfl ?_
        rw [hsn, ← nums_bump, hA2]
      · have hb : decide ((j : Int) < (g.os.length : Int)) = false := by simpa using hlt
        have hjm : j = g.os.length := by omega
        refine awp_seq (awp_pures [3, 54, 55, 56, 57] (by simp only [go_sem, ↓reduceIte, xa, xb, xc, xd, xe, xf, xg, xh, xi, xj, hb]; try rfl) ?_)
        refine awp_seq ?_
        refine awp_if rfl (fun h => by cases h) (fun _ => ?_)
        refine awp_exit ?_
        simp only [Go.Abs.Seq, Go.Abs.Round, Go.Abs.InBlock, ↓reduceIte]
        refine awp_seq (awp_pures [2] (by simp only [go_sem, ↓reduceIte, xa, xb, xc, xd, xe, xf, xg, xh, xi, xj]; try rfl) ?_)
        rw [hjm, List.take_length]
        have he : r ++ g.os = allLits g := by rw [hr, hq]; rfl
        rw [he]
        exact awp_ret ⟨_, rfl, .inr ⟨N + 1, n, by omega, rfl, Nat.le_refl _, AHeap.set_self _ _ _, by rw [nums_len, Nat.mul_one]⟩, hσp _, by omega⟩
end Go.Proofs.Ytfialjllclclkaa

set_option linter.unusedSimpArgs false
set_option linter.unusedVariables false
namespace Go.Proofs.Ytfialjllclclkaa
open Go.Abs Go.Cut
attribute [local go_sem] Try.underlying26 Try.underlying3 Try.underlying22 Try.underlying23 Try.underlying24 Try.underlying35 Try.underlying43 Try.underlying45 Try.underlying47 Try.underlying5 Try.underlying4 Try.underlying30 size26 size3 size22 size23 size24 size35 size43 size45 size47 size5 size4 size30 Nat.mul_one
open Nat renaming reduceLT → xa, reduceEqDiff → xb, reduceLeDiff → xc, reduceAdd → xd, reduceMul → xe, reduceBEq → xj, add_assoc → ya, add_left_cancel_iff → yb, add_right_cancel_iff → yc, left_eq_add → yd, add_eq_left → ye, add_eq_right → yf, right_eq_add → yg, succ_ne_zero → yh
open Int renaming reduceLT → xf, reduceLE → xg, reduceToNat → xh
open BitVec renaming reduceOfInt → xi
theorem cells_two {b : Blk} {off : Nat} {x y : Value} (h : cellsA b off 2 = some [x, y]) : b.cells[off]? = some x ∧ b.cells[off + 1]? = some y := by
  unfold cellsA at h
  split at h
  · have h := Option.some.inj h
    have h0 := congrArg (fun l : List Value => l[0]?) h
    have h1 := congrArg (fun l : List Value => l[1]?) h
    simp [List.getElem?_take, List.getElem?_drop] at h0 h1
    exact ⟨h0, h1⟩
  · cases h
end Go.Proofs.Ytfialjllclclkaa

set_option maxHeartbeats 4000000
set_option linter.unusedSimpArgs false
set_option linter.unusedVariables false
namespace Go.Proofs.Ytfialjllclclkaa
open Go.Abs Go.Cut
attribute [local go_sem] Try.underlying26 Try.underlying3 Try.underlying22 Try.underlying23 Try.underlying24 Try.underlying35 Try.underlying43 Try.underlying45 Try.underlying47 Try.underlying5 Try.underlying4 Try.underlying30 size26 size3 size22 size23 size24 size35 size43 size45 size47 size5 size4 size30 Nat.mul_one u8_gtr gt_iff_lt ge_iff_le au_add au_sub au_quo au_rem au_lt au_nl au_le au_ne au_bt au_bf au_nt au_nf au_tf au_ft au_wu au_wi undef
open Nat renaming reduceLT → xa, reduceEqDiff → xb, reduceLeDiff → xc, reduceAdd → xd, reduceMul → xe, reduceBEq → xj, add_assoc → ya, add_left_cancel_iff → yb, add_right_cancel_iff → yc, left_eq_add → yd, add_eq_left → ye, add_eq_right → yf, right_eq_add → yg, succ_ne_zero → yh
open Int renaming reduceLT → xf, reduceLE → xg, reduceToNat → xh
open BitVec renaming reduceOfInt → xi
theorem chkA_drop {n : Int} : ∀ {l : List (Int × Int)} {j : Nat}, j < l.length → (chkA (n + j) (l.drop j) = true ↔ inR (l.getD j (0, 0)).1 (n + j) = true ∧ inR (l.getD j (0, 0)).2 (n + j) = true ∧ chkA (n + ((j + 1 : Nat) : Int)) (l.drop (j + 1)) = true) := by
  intro l j h
  rw [List.drop_eq_getElem_cons h, chkA, Bool.and_eq_true, Bool.and_eq_true, and_assoc, List.getD_eq_getElem?_getD, List.getElem?_eq_getElem h, show n + ((j + 1 : Nat) : Int) = n + j + 1 by omega]
  exact Iff.rfl
theorem chkL_drop {n : Int} {l : List (Int × Int)} {j : Nat} (h : j < l.length) : chkL n (l.drop j) = true ↔ (inR l[j].1 n = true ∧ l[j].2 ≤ 1) ∧ chkL n (l.drop (j + 1)) = true := by
  rw [List.drop_eq_getElem_cons h, chkL, List.all_cons, Bool.and_eq_true, Bool.and_eq_true, decide_eq_true_eq]
  exact Iff.rfl
theorem chkO_drop {n : Int} {l : List Int} {j : Nat} (h : j < l.length) : chkO n (l.drop j) = true ↔ inR l[j] n = true ∧ chkO n (l.drop (j + 1)) = true := by
  rw [List.drop_eq_getElem_cons h, chkO, List.all_cons, Bool.and_eq_true]
  exact Iff.rfl
theorem inR_iff {x n : Int} : inR x n = true ↔ 0 ≤ x ∧ x < 2 * n := by unfold inR; rw [Bool.and_eq_true, decide_eq_true_eq, decide_eq_true_eq]
theorem mul2 {x : Int} (h1 : 0 ≤ x) (h2 : x ≤ 1000000) : intA .mul .i64 2 x = some (.int .i64 (2 * x)) := by simp only [intA]; rw [IntWalk.i64_in _ (by omega)]
attribute [local go_sem] mul2
theorem rCheckG_ok {g : AigD} {v : Value} {N : Nat} {σ : AHeap} (hv : AigAt σ v g) (hfew : Few g) :
    AOk Try.prog 26 [v] N σ fun r N1 σ1 => r = .int .i64 (chkE g) ∧ σ.le σ1 ∧ N ≤ N1 := by
  have hv0 := hv
  obtain ⟨lb, lc, ab, ac, ob, oc, rfl, hl, ha, ho⟩ := hv.opn
  have hla := hfew.as
  have hll := hfew.ls
  have hlo := hfew.os
  have hfn : firstC g + g.as.length = sizeC g := rfl
  have hff : 1 + g.inp + g.ls.length = firstC g := rfl
  refine aok_fresh fun hN => aok_body (r := false) (n := 138) Try.func26 rfl rfl (by simp) ?_
  first | refine awp_seq (awp_lit ?_) | refine awp_lit ?_ | refine awp_seq (awp_seq (awp_lit ?_))
  refine al_boxA hN rfl rfl rfl (by simp (disch := omega) only [go_sem, ↓reduceIte, xa, xb, xc, xd, xe, xf, xg, xh, xi, xj]; try rfl) (fun σ1 hτ hG hd1 _ => ?_)
  refine al_pureN 1 (by simp (disch := omega) only [go_sem, ↓reduceIte, xa, xb, xc, xd, xe, xf, xg, xh, xi, xj]; try rfl) ?_
  refine al_end [1] ?_
  by_cases hi0 : g.inp < 0
  · refine awp_seq ?_
    first | refine awp_seq (awp_lit ?_) | refine awp_lit ?_ | refine awp_seq (awp_seq (awp_lit ?_))
    refine al_pureN 1 (by simp (disch := omega) only [go_sem, ↓reduceIte, xa, xb, xc, xd, xe, xf, xg, xh, xi, xj]; try rfl) ?_
    refine al_load rfl (by simp (disch := omega) only [go_sem, ↓reduceIte, xa, xb, xc, xd, xe, xf, xg, xh, xi, xj]) rfl (by simp (disch := omega) only [go_sem, ↓reduceIte, xa, xb, xc, xd, xe, xf, xg, xh, xi, xj]; try rfl) (by first | exact AHeap.set_self _ _ _ | (simp only [AHeap.set, ↓reduceIte, ya, xd, yb, yc, yd, ye, yf, yg, xb, yh]; rfl) | assumption) (by first | exact loadA_scalar agg3 rfl | exact loadA_agg agg3 rfl | exact loadA_scalar agg3 (by assumption)) ?_
    refine al_pureN 1 (by simp (disch := omega) only [go_sem, ↓reduceIte, xa, xb, xc, xd, xe, xf, xg, xh, xi, xj]; try rfl) ?_
    refine al_end [1, 11] ?_
    refine awp_if rfl (fun _ => ?_) (fun h => by cases h)
    refine awp_seq (awp_pures [2] (by simp (disch := omega) only [go_sem, ↓reduceIte, xa, xb, xc, xd, xe, xf, xg, xh, xi, xj]; try rfl) ?_)
    exact awp_ret ⟨_, rfl, by simp [chkE, hi0], hτ, by omega⟩
  refine awp_seq ?_
  first | refine awp_seq (awp_lit ?_) | refine awp_lit ?_ | refine awp_seq (awp_seq (awp_lit ?_))
  refine al_pureN 1 (by simp (disch := omega) only [go_sem, ↓reduceIte, xa, xb, xc, xd, xe, xf, xg, xh, xi, xj]; try rfl) ?_
  refine al_load rfl (by simp (disch := omega) only [go_sem, ↓reduceIte, xa, xb, xc, xd, xe, xf, xg, xh, xi, xj]) rfl (by simp (disch := omega) only [go_sem, ↓reduceIte, xa, xb, xc, xd, xe, xf, xg, xh, xi, xj]; try rfl) (by first | exact AHeap.set_self _ _ _ | (simp only [AHeap.set, ↓reduceIte, ya, xd, yb, yc, yd, ye, yf, yg, xb, yh]; rfl) | assumption) (by first | exact loadA_scalar agg3 rfl | exact loadA_agg agg3 rfl | exact loadA_scalar agg3 (by assumption)) ?_
  refine al_pureN 1 (by simp (disch := omega) only [go_sem, ↓reduceIte, xa, xb, xc, xd, xe, xf, xg, xh, xi, xj]; try rfl) ?_
  refine al_end [1, 11] ?_
  refine awp_if rfl (fun h => by cases h) (fun _ => ?_)
  refine awp_skip ?_
  by_cases hbig : 4096 < g.inp ∨ 4096 < sizeC g ∨ 4096 < (g.os.length : Int)
  · have hE : chkE g = 5 := by unfold chkE; rw [if_neg hi0, if_pos hbig]
    rw [hE]
    have hc : 4096 < g.inp ∨ (¬ 4096 < g.inp ∧ 4096 < sizeC g) := by omega
    rcases hc with hc | ⟨hc, hc2⟩
    · refine awp_seq ?_
      first | refine awp_seq (awp_lit ?_) | refine awp_lit ?_ | refine awp_seq (awp_seq (awp_lit ?_))
      refine al_pureN 1 (by simp (disch := omega) only [go_sem, ↓reduceIte, xa, xb, xc, xd, xe, xf, xg, xh, xi, xj]; try rfl) ?_
      refine al_load rfl (by simp (disch := omega) only [go_sem, ↓reduceIte, xa, xb, xc, xd, xe, xf, xg, xh, xi, xj]) rfl (by simp (disch := omega) only [go_sem, ↓reduceIte, xa, xb, xc, xd, xe, xf, xg, xh, xi, xj]; try rfl) (by first | exact AHeap.set_self _ _ _ | (simp only [AHeap.set, ↓reduceIte, ya, xd, yb, yc, yd, ye, yf, yg, xb, yh]; rfl) | assumption) (by first | exact loadA_scalar agg3 rfl | exact loadA_agg agg3 rfl | exact loadA_scalar agg3 (by assumption)) ?_
      refine al_pureN 3 (by simp (disch := omega) only [go_sem, ↓reduceIte, xa, xb, xc, xd, xe, xf, xg, xh, xi, xj]; try rfl) ?_
      first | (refine al_skipB ?_ rfl ?_; focus (simp (disch := omega) only [go_sem, ↓reduceIte, xa, xb, xc, xd, xe, xf, xg, xh, xi, xj]; done)) | refine al_load rfl (by simp (disch := omega) only [go_sem, ↓reduceIte, xa, xb, xc, xd, xe, xf, xg, xh, xi, xj]) rfl (by simp (disch := omega) only [go_sem, ↓reduceIte, xa, xb, xc, xd, xe, xf, xg, xh, xi, xj]; try rfl) (by first | exact AHeap.set_self _ _ _ | (simp only [AHeap.set, ↓reduceIte, ya, xd, yb, yc, yd, ye, yf, yg, xb, yh]; rfl) | assumption) (by first | exact loadA_scalar agg22 rfl | exact loadA_agg agg22 rfl | exact loadA_scalar agg22 (by assumption)) ?_
      refine al_pureN 4 (by simp (disch := omega) only [go_sem, ↓reduceIte, xa, xb, xc, xd, xe, xf, xg, xh, xi, xj]; try rfl) ?_
      refine al_pureN 1 (by simp (disch := omega) only [go_sem, ↓reduceIte, xa, xb, xc, xd, xe, xf, xg, xh, xi, xj]; try rfl) ?_
      first | (refine al_skipB ?_ rfl ?_; focus (simp (disch := omega) only [go_sem, ↓reduceIte, xa, xb, xc, xd, xe, xf, xg, xh, xi, xj]; done)) | refine al_load rfl (by simp (disch := omega) only [go_sem, ↓reduceIte, xa, xb, xc, xd, xe, xf, xg, xh, xi, xj]) rfl (by simp (disch := omega) only [go_sem, ↓reduceIte, xa, xb, xc, xd, xe, xf, xg, xh, xi, xj]; try rfl) (by first | exact AHeap.set_self _ _ _ | (simp only [AHeap.set, ↓reduceIte, ya, xd, yb, yc, yd, ye, yf, yg, xb, yh]; rfl) | assumption) (by first | exact loadA_scalar agg23 rfl | exact loadA_agg agg23 rfl | exact loadA_scalar agg23 (by assumption)) ?_
      refine al_pureN 4 (by simp (disch := omega) only [go_sem, ↓reduceIte, xa, xb, xc, xd, xe, xf, xg, xh, xi, xj]; try rfl) ?_
      first | (refine al_skipB ?_ rfl ?_; focus (simp (disch := omega) only [go_sem, ↓reduceIte, xa, xb, xc, xd, xe, xf, xg, xh, xi, xj]; done)) | refine al_load rfl (by simp (disch := omega) only [go_sem, ↓reduceIte, xa, xb, xc, xd, xe, xf, xg, xh, xi, xj]) rfl (by simp (disch := omega) only [go_sem, ↓reduceIte, xa, xb, xc, xd, xe, xf, xg, xh, xi, xj]; try rfl) (by first | exact AHeap.set_self _ _ _ | (simp only [AHeap.set, ↓reduceIte, ya, xd, yb, yc, yd, ye, yf, yg, xb, yh]; rfl) | assumption) (by first | exact loadA_scalar agg26 rfl | exact loadA_agg agg26 rfl | exact loadA_scalar agg26 (by assumption)) ?_
      first | (refine al_skipB ?_ rfl ?_; focus (simp (disch := omega) only [go_sem, ↓reduceIte, xa, xb, xc, xd, xe, xf, xg, xh, xi, xj]; done)) | refine al_givesC rfl (by simp (disch := omega) only [go_sem, ↓reduceIte, xa, xb, xc, xd, xe, xf, xg, xh, xi, xj]; try rfl) (by simp (disch := omega) only [go_sem, ↓reduceIte, xa, xb, xc, xd, xe, xf, xg, xh, xi, xj]; try rfl) (nodes_gives (hv0.mono hτ) hfew (by omega) (by omega)) (by kernel_rfl) rfl (by simp (disch := omega) only [go_sem, ↓reduceIte, xa, xb, xc, xd, xe, xf, xg, xh, xi, xj]) ?_
      refine al_pureN 4 (by simp (disch := omega) only [go_sem, ↓reduceIte, xa, xb, xc, xd, xe, xf, xg, xh, xi, xj]; try rfl) ?_
      first | (refine al_skipB ?_ rfl ?_; focus (simp (disch := omega) only [go_sem, ↓reduceIte, xa, xb, xc, xd, xe, xf, xg, xh, xi, xj]; done)) | refine al_load rfl (by simp (disch := omega) only [go_sem, ↓reduceIte, xa, xb, xc, xd, xe, xf, xg, xh, xi, xj]) rfl (by simp (disch := omega) only [go_sem, ↓reduceIte, xa, xb, xc, xd, xe, xf, xg, xh, xi, xj]; try rfl) (by first | exact AHeap.set_self _ _ _ | (simp only [AHeap.set, ↓reduceIte, ya, xd, yb, yc, yd, ye, yf, yg, xb, yh]; rfl) | assumption) (by first | exact loadA_scalar agg24 rfl | exact loadA_agg agg24 rfl | exact loadA_scalar agg24 (by assumption)) ?_
      refine al_pureN 3 (by simp (disch := omega) only [go_sem, ↓reduceIte, xa, xb, xc, xd, xe, xf, xg, xh, xi, xj]; try rfl) ?_
      refine al_end [1, 37] ?_
      refine awp_if rfl (fun _ => ?_) (fun h => by cases h)
      refine awp_seq (awp_pures [2] (by simp (disch := omega) only [go_sem, ↓reduceIte, xa, xb, xc, xd, xe, xf, xg, xh, xi, xj]; try rfl) ?_)
      exact awp_ret ⟨_, rfl, rfl, hτ, by omega⟩
    · refine awp_seq ?_
      first | refine awp_seq (awp_lit ?_) | refine awp_lit ?_ | refine awp_seq (awp_seq (awp_lit ?_))
      refine al_pureN 1 (by simp (disch := omega) only [go_sem, ↓reduceIte, xa, xb, xc, xd, xe, xf, xg, xh, xi, xj]; try rfl) ?_
      refine al_load rfl (by simp (disch := omega) only [go_sem, ↓reduceIte, xa, xb, xc, xd, xe, xf, xg, xh, xi, xj]) rfl (by simp (disch := omega) only [go_sem, ↓reduceIte, xa, xb, xc, xd, xe, xf, xg, xh, xi, xj]; try rfl) (by first | exact AHeap.set_self _ _ _ | (simp only [AHeap.set, ↓reduceIte, ya, xd, yb, yc, yd, ye, yf, yg, xb, yh]; rfl) | assumption) (by first | exact loadA_scalar agg3 rfl | exact loadA_agg agg3 rfl | exact loadA_scalar agg3 (by assumption)) ?_
      refine al_pureN 3 (by simp (disch := omega) only [go_sem, ↓reduceIte, xa, xb, xc, xd, xe, xf, xg, xh, xi, xj]; try rfl) ?_
      first | (refine al_skipB ?_ rfl ?_; focus (simp (disch := omega) only [go_sem, ↓reduceIte, xa, xb, xc, xd, xe, xf, xg, xh, xi, xj]; done)) | refine al_load rfl (by simp (disch := omega) only [go_sem, ↓reduceIte, xa, xb, xc, xd, xe, xf, xg, xh, xi, xj]) rfl (by simp (disch := omega) only [go_sem, ↓reduceIte, xa, xb, xc, xd, xe, xf, xg, xh, xi, xj]; try rfl) (by first | exact AHeap.set_self _ _ _ | (simp only [AHeap.set, ↓reduceIte, ya, xd, yb, yc, yd, ye, yf, yg, xb, yh]; rfl) | assumption) (by first | exact loadA_scalar agg22 rfl | exact loadA_agg agg22 rfl | exact loadA_scalar agg22 (by assumption)) ?_
      refine al_pureN 4 (by simp (disch := omega) only [go_sem, ↓reduceIte, xa, xb, xc, xd, xe, xf, xg, xh, xi, xj]; try rfl) ?_
      refine al_pureN 1 (by simp (disch := omega) only [go_sem, ↓reduceIte, xa, xb, xc, xd, xe, xf, xg, xh, xi, xj]; try rfl) ?_
      first | (refine al_skipB ?_ rfl ?_; focus (simp (disch := omega) only [go_sem, ↓reduceIte, xa, xb, xc, xd, xe, xf, xg, xh, xi, xj]; done)) | refine al_load rfl (by simp (disch := omega) only [go_sem, ↓reduceIte, xa, xb, xc, xd, xe, xf, xg, xh, xi, xj]) rfl (by simp (disch := omega) only [go_sem, ↓reduceIte, xa, xb, xc, xd, xe, xf, xg, xh, xi, xj]; try rfl) (by first | exact AHeap.set_self _ _ _ | (simp only [AHeap.set, ↓reduceIte, ya, xd, yb, yc, yd, ye, yf, yg, xb, yh]; rfl) | assumption) (by first | exact loadA_scalar agg23 rfl | exact loadA_agg agg23 rfl | exact loadA_scalar agg23 (by assumption)) ?_
      refine al_pureN 4 (by simp (disch := omega) only [go_sem, ↓reduceIte, xa, xb, xc, xd, xe, xf, xg, xh, xi, xj]; try rfl) ?_
      first | (refine al_skipB ?_ rfl ?_; focus (simp (disch := omega) only [go_sem, ↓reduceIte, xa, xb, xc, xd, xe, xf, xg, xh, xi, xj]; done)) | refine al_load rfl (by simp (disch := omega) only [go_sem, ↓reduceIte, xa, xb, xc, xd, xe, xf, xg, xh, xi, xj]) rfl (by simp (disch := omega) only [go_sem, ↓reduceIte, xa, xb, xc, xd, xe, xf, xg, xh, xi, xj]; try rfl) (by first | exact AHeap.set_self _ _ _ | (simp only [AHeap.set, ↓reduceIte, ya, xd, yb, yc, yd, ye, yf, yg, xb, yh]; rfl) | assumption) (by first | exact loadA_scalar agg26 rfl | exact loadA_agg agg26 rfl | exact loadA_scalar agg26 (by assumption)) ?_
      first | (refine al_skipB ?_ rfl ?_; focus (simp (disch := omega) only [go_sem, ↓reduceIte, xa, xb, xc, xd, xe, xf, xg, xh, xi, xj]; done)) | refine al_givesC rfl (by simp (disch := omega) only [go_sem, ↓reduceIte, xa, xb, xc, xd, xe, xf, xg, xh, xi, xj]; try rfl) (by simp (disch := omega) only [go_sem, ↓reduceIte, xa, xb, xc, xd, xe, xf, xg, xh, xi, xj]; try rfl) (nodes_gives (hv0.mono hτ) hfew (by omega) (by omega)) (by kernel_rfl) rfl (by simp (disch := omega) only [go_sem, ↓reduceIte, xa, xb, xc, xd, xe, xf, xg, xh, xi, xj]) ?_
      refine al_pureN 4 (by simp (disch := omega) only [go_sem, ↓reduceIte, xa, xb, xc, xd, xe, xf, xg, xh, xi, xj]; try rfl) ?_
      first | (refine al_skipB ?_ rfl ?_; focus (simp (disch := omega) only [go_sem, ↓reduceIte, xa, xb, xc, xd, xe, xf, xg, xh, xi, xj]; done)) | refine al_load rfl (by simp (disch := omega) only [go_sem, ↓reduceIte, xa, xb, xc, xd, xe, xf, xg, xh, xi, xj]) rfl (by simp (disch := omega) only [go_sem, ↓reduceIte, xa, xb, xc, xd, xe, xf, xg, xh, xi, xj]; try rfl) (by first | exact AHeap.set_self _ _ _ | (simp only [AHeap.set, ↓reduceIte, ya, xd, yb, yc, yd, ye, yf, yg, xb, yh]; rfl) | assumption) (by first | exact loadA_scalar agg24 rfl | exact loadA_agg agg24 rfl | exact loadA_scalar agg24 (by assumption)) ?_
      refine al_pureN 3 (by simp (disch := omega) only [go_sem, ↓reduceIte, xa, xb, xc, xd, xe, xf, xg, xh, xi, xj]; try rfl) ?_
      refine al_end [1, 37] ?_
      refine awp_if rfl (fun _ => ?_) (fun h => by cases h)
      refine awp_seq (awp_pures [2] (by simp (disch := omega) only [go_sem, ↓reduceIte, xa, xb, xc, xd, xe, xf, xg, xh, xi, xj]; try rfl) ?_)
      exact awp_ret ⟨_, rfl, rfl, hτ, by omega⟩
  refine awp_seq ?_
  first | refine awp_seq (awp_lit ?_) | refine awp_lit ?_ | refine awp_seq (awp_seq (awp_lit ?_))
  refine al_pureN 1 (by simp (disch := omega) only [go_sem, ↓reduceIte, xa, xb, xc, xd, xe, xf, xg, xh, xi, xj]; try rfl) ?_
  refine al_load rfl (by simp (disch := omega) only [go_sem, ↓reduceIte, xa, xb, xc, xd, xe, xf, xg, xh, xi, xj]) rfl (by simp (disch := omega) only [go_sem, ↓reduceIte, xa, xb, xc, xd, xe, xf, xg, xh, xi, xj]; try rfl) (by first | exact AHeap.set_self _ _ _ | (simp only [AHeap.set, ↓reduceIte, ya, xd, yb, yc, yd, ye, yf, yg, xb, yh]; rfl) | assumption) (by first | exact loadA_scalar agg3 rfl | exact loadA_agg agg3 rfl | exact loadA_scalar agg3 (by assumption)) ?_
  refine al_pureN 3 (by simp (disch := omega) only [go_sem, ↓reduceIte, xa, xb, xc, xd, xe, xf, xg, xh, xi, xj]; try rfl) ?_
  first | (refine al_skipB ?_ rfl ?_; focus (simp (disch := omega) only [go_sem, ↓reduceIte, xa, xb, xc, xd, xe, xf, xg, xh, xi, xj]; done)) | refine al_load rfl (by simp (disch := omega) only [go_sem, ↓reduceIte, xa, xb, xc, xd, xe, xf, xg, xh, xi, xj]) rfl (by simp (disch := omega) only [go_sem, ↓reduceIte, xa, xb, xc, xd, xe, xf, xg, xh, xi, xj]; try rfl) (by first | exact AHeap.set_self _ _ _ | (simp only [AHeap.set, ↓reduceIte, ya, xd, yb, yc, yd, ye, yf, yg, xb, yh]; rfl) | assumption) (by first | exact loadA_scalar agg22 rfl | exact loadA_agg agg22 rfl | exact loadA_scalar agg22 (by assumption)) ?_
  refine al_pureN 4 (by simp (disch := omega) only [go_sem, ↓reduceIte, xa, xb, xc, xd, xe, xf, xg, xh, xi, xj]; try rfl) ?_
  refine al_pureN 1 (by simp (disch := omega) only [go_sem, ↓reduceIte, xa, xb, xc, xd, xe, xf, xg, xh, xi, xj]; try rfl) ?_
  first | (refine al_skipB ?_ rfl ?_; focus (simp (disch := omega) only [go_sem, ↓reduceIte, xa, xb, xc, xd, xe, xf, xg, xh, xi, xj]; done)) | refine al_load rfl (by simp (disch := omega) only [go_sem, ↓reduceIte, xa, xb, xc, xd, xe, xf, xg, xh, xi, xj]) rfl (by simp (disch := omega) only [go_sem, ↓reduceIte, xa, xb, xc, xd, xe, xf, xg, xh, xi, xj]; try rfl) (by first | exact AHeap.set_self _ _ _ | (simp only [AHeap.set, ↓reduceIte, ya, xd, yb, yc, yd, ye, yf, yg, xb, yh]; rfl) | assumption) (by first | exact loadA_scalar agg23 rfl | exact loadA_agg agg23 rfl | exact loadA_scalar agg23 (by assumption)) ?_
  refine al_pureN 4 (by simp (disch := omega) only [go_sem, ↓reduceIte, xa, xb, xc, xd, xe, xf, xg, xh, xi, xj]; try rfl) ?_
  first | (refine al_skipB ?_ rfl ?_; focus (simp (disch := omega) only [go_sem, ↓reduceIte, xa, xb, xc, xd, xe, xf, xg, xh, xi, xj]; done)) | refine al_load rfl (by simp (disch := omega) only [go_sem, ↓reduceIte, xa, xb, xc, xd, xe, xf, xg, xh, xi, xj]) rfl (by simp (disch := omega) only [go_sem, ↓reduceIte, xa, xb, xc, xd, xe, xf, xg, xh, xi, xj]; try rfl) (by first | exact AHeap.set_self _ _ _ | (simp only [AHeap.set, ↓reduceIte, ya, xd, yb, yc, yd, ye, yf, yg, xb, yh]; rfl) | assumption) (by first | exact loadA_scalar agg26 rfl | exact loadA_agg agg26 rfl | exact loadA_scalar agg26 (by assumption)) ?_
  first | (refine al_skipB ?_ rfl ?_; focus (simp (disch := omega) only [go_sem, ↓reduceIte, xa, xb, xc, xd, xe, xf, xg, xh, xi, xj]; done)) | refine al_givesC rfl (by simp (disch := omega) only [go_sem, ↓reduceIte, xa, xb, xc, xd, xe, xf, xg, xh, xi, xj]; try rfl) (by simp (disch := omega) only [go_sem, ↓reduceIte, xa, xb, xc, xd, xe, xf, xg, xh, xi, xj]; try rfl) (nodes_gives (hv0.mono hτ) hfew (by omega) (by omega)) (by kernel_rfl) rfl (by simp (disch := omega) only [go_sem, ↓reduceIte, xa, xb, xc, xd, xe, xf, xg, xh, xi, xj]) ?_
  refine al_pureN 4 (by simp (disch := omega) only [go_sem, ↓reduceIte, xa, xb, xc, xd, xe, xf, xg, xh, xi, xj]; try rfl) ?_
  first | (refine al_skipB ?_ rfl ?_; focus (simp (disch := omega) only [go_sem, ↓reduceIte, xa, xb, xc, xd, xe, xf, xg, xh, xi, xj]; done)) | refine al_load rfl (by simp (disch := omega) only [go_sem, ↓reduceIte, xa, xb, xc, xd, xe, xf, xg, xh, xi, xj]) rfl (by simp (disch := omega) only [go_sem, ↓reduceIte, xa, xb, xc, xd, xe, xf, xg, xh, xi, xj]; try rfl) (by first | exact AHeap.set_self _ _ _ | (simp only [AHeap.set, ↓reduceIte, ya, xd, yb, yc, yd, ye, yf, yg, xb, yh]; rfl) | assumption) (by first | exact loadA_scalar agg24 rfl | exact loadA_agg agg24 rfl | exact loadA_scalar agg24 (by assumption)) ?_
  refine al_pureN 3 (by simp (disch := omega) only [go_sem, ↓reduceIte, xa, xb, xc, xd, xe, xf, xg, xh, xi, xj]; try rfl) ?_
  refine al_end [1, 37] ?_
  refine awp_if rfl (fun h => by cases h) (fun _ => ?_)
  refine awp_skip ?_
  have hE0 : chkE g = if (chkA (firstC g) g.as && (chkL (sizeC g) g.ls && chkO (sizeC g) g.os)) = true then 0 else 1 := by unfold chkE; rw [if_neg hi0, if_neg hbig]
  have hbad : ∀ {P : Prop}, ¬ (chkA (firstC g) g.as = true ∧ chkL (sizeC g) g.ls = true ∧ chkO (sizeC g) g.os = true) → chkE g = 1 := fun h => by
    rw [hE0, if_neg]
    rw [Bool.and_eq_true, Bool.and_eq_true]; exact h
  refine awp_seq ?_
  refine awp_seq (awp_pures [1, 3] (by simp (disch := omega) only [go_sem, ↓reduceIte, xa, xb, xc, xd, xe, xf, xg, xh, xi, xj]; try rfl) ?_)
  refine awp_block (awp_loop ?_)
  refine ALoop.cast3 (aloop_ind (α := Nat × Nat) (fun a => a.1 ≤ g.as.length ∧ N + 1 ≤ a.2 ∧ (chkA (firstC g) g.as = true ↔ chkA (firstC g + a.1) (g.as.drop a.1) = true)) (fun a => g.as.length - a.1)
    (fun a => [(1, .pointer (some ⟨N, 0, none⟩)), (3, .int .i64 a.1)]) (fun a => a.2) (fun _ => σ1) ?_ (0, N + 1) ⟨Nat.zero_le _, Nat.le_refl _, by simp⟩) rfl rfl rfl
  rintro ⟨j, M⟩ ⟨hj, hM, hpre⟩ ih
  dsimp only at hj hM ih hpre ⊢
  by_cases hlt : j < g.as.length
  · refine awp_seq ?_
    first | refine awp_seq (awp_lit ?_) | refine awp_lit ?_ | refine awp_seq (awp_seq (awp_lit ?_))
    refine al_pureN 2 (by simp (disch := omega) only [go_sem, ↓reduceIte, xa, xb, xc, xd, xe, xf, xg, xh, xi, xj]; try rfl) ?_
    refine al_load rfl (by simp (disch := omega) only [go_sem, ↓reduceIte, xa, xb, xc, xd, xe, xf, xg, xh, xi, xj]) rfl (by simp (disch := omega) only [go_sem, ↓reduceIte, xa, xb, xc, xd, xe, xf, xg, xh, xi, xj]; try rfl) (by first | exact AHeap.set_self _ _ _ | (simp only [AHeap.set, ↓reduceIte, ya, xd, yb, yc, yd, ye, yf, yg, xb, yh]; rfl) | assumption) (by first | exact loadA_scalar agg23 rfl | exact loadA_agg agg23 rfl | exact loadA_scalar agg23 (by assumption)) ?_
    refine al_pureN 2 (by simp (disch := omega) only [go_sem, ↓reduceIte, xa, xb, xc, xd, xe, xf, xg, xh, xi, xj]; try rfl) ?_
    refine al_end [1, 3, 42] ?_
    refine awp_if rfl (fun _ => ?_) (fun h => by cases h)
    refine awp_skip ?_
    refine awp_seq (awp_block ?_)
    first | refine awp_seq (awp_lit ?_) | refine awp_lit ?_ | refine awp_seq (awp_seq (awp_lit ?_))
    refine al_pureN 1 (by simp (disch := omega) only [go_sem, ↓reduceIte, xa, xb, xc, xd, xe, xf, xg, xh, xi, xj]; try rfl) ?_
    refine al_load rfl (by simp (disch := omega) only [go_sem, ↓reduceIte, xa, xb, xc, xd, xe, xf, xg, xh, xi, xj]) rfl (by simp (disch := omega) only [go_sem, ↓reduceIte, xa, xb, xc, xd, xe, xf, xg, xh, xi, xj]; try rfl) (by first | exact AHeap.set_self _ _ _ | (simp only [AHeap.set, ↓reduceIte, ya, xd, yb, yc, yd, ye, yf, yg, xb, yh]; rfl) | assumption) (by first | exact loadA_scalar agg3 rfl | exact loadA_agg agg3 rfl | exact loadA_scalar agg3 (by assumption)) ?_
    refine al_pureN 2 (by simp (disch := omega) only [go_sem, ↓reduceIte, xa, xb, xc, xd, xe, xf, xg, xh, xi, xj]; try rfl) ?_
    refine al_load rfl (by simp (disch := omega) only [go_sem, ↓reduceIte, xa, xb, xc, xd, xe, xf, xg, xh, xi, xj]) rfl (by simp (disch := omega) only [go_sem, ↓reduceIte, xa, xb, xc, xd, xe, xf, xg, xh, xi, xj]; try rfl) (by first | exact AHeap.set_self _ _ _ | (simp only [AHeap.set, ↓reduceIte, ya, xd, yb, yc, yd, ye, yf, yg, xb, yh]; rfl) | assumption) (by first | exact loadA_scalar agg22 rfl | exact loadA_agg agg22 rfl | exact loadA_scalar agg22 (by assumption)) ?_
    refine al_pureN 6 (by simp (disch := omega) only [go_sem, ↓reduceIte, xa, xb, xc, xd, xe, xf, xg, xh, xi, xj]; try rfl) ?_
    refine al_end [1, 3, 4] ?_
    obtain ⟨id, off, cap, b, e1, e2, e3, e4⟩ := rowsAt_pair (ha.mono hτ) hlt
    cases e1
    first | refine awp_seq (awp_lit ?_) | refine awp_lit ?_ | refine awp_seq (awp_seq (awp_lit ?_))
    refine al_pureN 1 (by simp (disch := omega) only [go_sem, ↓reduceIte, xa, xb, xc, xd, xe, xf, xg, xh, xi, xj]; try rfl) ?_
    refine al_load rfl (by simp (disch := omega) only [go_sem, ↓reduceIte, xa, xb, xc, xd, xe, xf, xg, xh, xi, xj]) rfl (by simp (disch := omega) only [go_sem, ↓reduceIte, xa, xb, xc, xd, xe, xf, xg, xh, xi, xj]; try rfl) (by first | exact AHeap.set_self _ _ _ | (simp only [AHeap.set, ↓reduceIte, ya, xd, yb, yc, yd, ye, yf, yg, xb, yh]; rfl) | assumption) (by first | exact loadA_scalar agg23 rfl | exact loadA_agg agg23 rfl | exact loadA_scalar agg23 (by assumption)) ?_
    refine al_pureN 2 (by simp (disch := omega) only [go_sem, ↓reduceIte, xa, xb, xc, xd, xe, xf, xg, xh, xi, xj]; try rfl) ?_
    refine al_load rfl (by simp (disch := omega) only [go_sem, ↓reduceIte, xa, xb, xc, xd, xe, xf, xg, xh, xi, xj]) rfl (by simp (disch := omega) only [go_sem, ↓reduceIte, xa, xb, xc, xd, xe, xf, xg, xh, xi, xj]; try rfl) e2 (loadA_agg agg47 e3) ?_
    refine al_allocA (dom_up hd1 hM) rfl rfl rfl ty47 (by decide) (fun τ hle hX hdM hτe => ?_)
    refine al_store rfl (by simp (disch := omega) only [go_sem, ↓reduceIte, xa, xb, xc, xd, xe, xf, xg, xh, xi, xj]; try rfl) rfl (by simp (disch := omega) only [go_sem, ↓reduceIte, xa, xb, xc, xd, xe, xf, xg, xh, xi, xj]; try rfl) (by simp (disch := omega) only [go_sem, ↓reduceIte, xa, xb, xc, xd, xe, xf, xg, xh, xi, xj]; try rfl) hX rfl (by exact size47.trans rfl) (by rfl) (by exact Nat.le_of_ble_eq_true rfl) ?_
    refine al_end [1, 3, 4, 5] ?_
    rw [hτe, AHeap.set_set]
    have hle' := le_new (b := ⟨[.int .i64 g.as[j].1, .int .i64 g.as[j].2], true, .n 1⟩) (dom_up hd1 hM) (Nat.le_refl _)
    show Abs.Seq _ _ _ _ _ _ _ _ (σ1.set M ⟨[.int .i64 g.as[j].1, .int .i64 g.as[j].2], true, .n 1⟩)
    have hX' : (σ1.set M ⟨[.int .i64 g.as[j].1, .int .i64 g.as[j].2], true, .n 1⟩) M = some ⟨[.int .i64 g.as[j].1, .int .i64 g.as[j].2], true, .n 1⟩ := AHeap.set_self _ _ _
    have hdrop := chkA_drop (n := firstC g) hlt
    rw [List.getD_eq_getElem?_getD, List.getElem?_eq_getElem hlt, Option.getD_some, inR_iff, inR_iff] at hdrop
    obtain ⟨σ2, hσ2⟩ : ∃ σ2, σ2 = (σ1.set M ⟨[.int .i64 g.as[j].1, .int .i64 g.as[j].2], true, .n 1⟩) := ⟨_, rfl⟩
    rw [← hσ2] at hle' hX' ⊢
    obtain ⟨A, hAe⟩ : ∃ A, A = g.as[j].1 := ⟨_, rfl⟩
    obtain ⟨B, hBe⟩ : ∃ B, B = g.as[j].2 := ⟨_, rfl⟩
    rw [← hAe, ← hBe] at hX' hdrop
    have hσ2' := hτ.trans hle'
    by_cases hok : (0 ≤ A ∧ A < 2 * (firstC g + j)) ∧ (0 ≤ B ∧ B < 2 * (firstC g + j))
    · refine awp_seq ?_
      first | refine awp_seq (awp_lit ?_) | refine awp_lit ?_ | refine awp_seq (awp_seq (awp_lit ?_))
      refine al_pureN 1 (by simp (disch := omega) only [go_sem, ↓reduceIte, xa, xb, xc, xd, xe, xf, xg, xh, xi, xj]; try rfl) ?_
      refine al_load rfl (by simp (disch := omega) only [go_sem, ↓reduceIte, xa, xb, xc, xd, xe, xf, xg, xh, xi, xj]) rfl (by simp (disch := omega) only [go_sem, ↓reduceIte, xa, xb, xc, xd, xe, xf, xg, xh, xi, xj]; try rfl) (by first | exact AHeap.set_self _ _ _ | (simp only [AHeap.set, ↓reduceIte, ya, xd, yb, yc, yd, ye, yf, yg, xb, yh]; rfl) | assumption) (by first | exact loadA_scalar agg43 rfl | exact loadA_agg agg43 rfl | exact loadA_scalar agg43 (by assumption)) ?_
      refine al_pureN 3 (by simp (disch := omega) only [go_sem, ↓reduceIte, xa, xb, xc, xd, xe, xf, xg, xh, xi, xj]; try rfl) ?_
      first | (refine al_skipB ?_ rfl ?_; focus (simp (disch := omega) only [go_sem, ↓reduceIte, xa, xb, xc, xd, xe, xf, xg, xh, xi, xj]; done)) | refine al_load rfl (by simp (disch := omega) only [go_sem, ↓reduceIte, xa, xb, xc, xd, xe, xf, xg, xh, xi, xj]) rfl (by simp (disch := omega) only [go_sem, ↓reduceIte, xa, xb, xc, xd, xe, xf, xg, xh, xi, xj]; try rfl) (by first | exact AHeap.set_self _ _ _ | (simp only [AHeap.set, ↓reduceIte, ya, xd, yb, yc, yd, ye, yf, yg, xb, yh]; rfl) | assumption) (by first | exact loadA_scalar agg43 rfl | exact loadA_agg agg43 rfl | exact loadA_scalar agg43 (by assumption)) ?_
      refine al_pureN 4 (by simp (disch := omega) only [go_sem, ↓reduceIte, xa, xb, xc, xd, xe, xf, xg, xh, xi, xj]; try rfl) ?_
      refine al_pureN 1 (by simp (disch := omega) only [go_sem, ↓reduceIte, xa, xb, xc, xd, xe, xf, xg, xh, xi, xj]; try rfl) ?_
      first | (refine al_skipB ?_ rfl ?_; focus (simp (disch := omega) only [go_sem, ↓reduceIte, xa, xb, xc, xd, xe, xf, xg, xh, xi, xj]; done)) | refine al_load rfl (by simp (disch := omega) only [go_sem, ↓reduceIte, xa, xb, xc, xd, xe, xf, xg, xh, xi, xj]) rfl (by simp (disch := omega) only [go_sem, ↓reduceIte, xa, xb, xc, xd, xe, xf, xg, xh, xi, xj]; try rfl) (by first | exact AHeap.set_self _ _ _ | (simp only [AHeap.set, ↓reduceIte, ya, xd, yb, yc, yd, ye, yf, yg, xb, yh]; rfl) | assumption) (by first | exact loadA_scalar agg43 rfl | exact loadA_agg agg43 rfl | exact loadA_scalar agg43 (by assumption)) ?_
      refine al_pureN 4 (by simp (disch := omega) only [go_sem, ↓reduceIte, xa, xb, xc, xd, xe, xf, xg, xh, xi, xj]; try rfl) ?_
      first | (refine al_skipB ?_ rfl ?_; focus (simp (disch := omega) only [go_sem, ↓reduceIte, xa, xb, xc, xd, xe, xf, xg, xh, xi, xj]; done)) | refine al_load rfl (by simp (disch := omega) only [go_sem, ↓reduceIte, xa, xb, xc, xd, xe, xf, xg, xh, xi, xj]) rfl (by simp (disch := omega) only [go_sem, ↓reduceIte, xa, xb, xc, xd, xe, xf, xg, xh, xi, xj]; try rfl) (by first | exact AHeap.set_self _ _ _ | (simp only [AHeap.set, ↓reduceIte, ya, xd, yb, yc, yd, ye, yf, yg, xb, yh]; rfl) | assumption) (by first | exact loadA_scalar agg43 rfl | exact loadA_agg agg43 rfl | exact loadA_scalar agg43 (by assumption)) ?_
      refine al_pureN 3 (by simp (disch := omega) only [go_sem, ↓reduceIte, xa, xb, xc, xd, xe, xf, xg, xh, xi, xj]; try rfl) ?_
      refine al_end [1, 3, 79] ?_
      refine awp_if rfl (fun h => by cases h) (fun _ => ?_)
      refine awp_skip ?_
      refine awp_pures [1, 3] (by simp (disch := omega) only [go_sem, ↓reduceIte, xa, xb, xc, xd, xe, xf, xg, xh, xi, xj]; try rfl) ?_
      exact ALoop.cast3 ((ih (j + 1, M + 1) ⟨hlt, by omega, hpre.trans (hdrop.trans ⟨fun h => h.2.2, fun h => ⟨hok.1, hok.2, h⟩⟩)⟩ (by dsimp only; omega)).forget (fun _ _ h => h) hle') rfl rfl rfl
    · have hE1 := hbad (P := True) fun h => hok ⟨((hdrop.1 (hpre.1 h.1)).1), ((hdrop.1 (hpre.1 h.1)).2.1)⟩
      rw [hE1]
      have hc : A < 0 ∨ (¬ A < 0 ∧ 2 * (firstC g + j) ≤ A) ∨ (0 ≤ A ∧ A < 2 * (firstC g + j) ∧ B < 0) ∨ (0 ≤ A ∧ A < 2 * (firstC g + j) ∧ 0 ≤ B ∧ 2 * (firstC g + j) ≤ B) := by omega
      rcases hc with hc | ⟨hc, hc2⟩ | ⟨hc, hc2, hc3⟩ | ⟨hc, hc2, hc3, hc4⟩
      all_goals
        refine awp_seq ?_
        first | refine awp_seq (awp_lit ?_) | refine awp_lit ?_ | refine awp_seq (awp_seq (awp_lit ?_))
        refine al_pureN 1 (by simp (disch := omega) only [go_sem, ↓reduceIte, xa, xb, xc, xd, xe, xf, xg, xh, xi, xj]; try rfl) ?_
        refine al_load rfl (by simp (disch := omega) only [go_sem, ↓reduceIte, xa, xb, xc, xd, xe, xf, xg, xh, xi, xj]) rfl (by simp (disch := omega) only [go_sem, ↓reduceIte, xa, xb, xc, xd, xe, xf, xg, xh, xi, xj]; try rfl) (by first | exact AHeap.set_self _ _ _ | (simp only [AHeap.set, ↓reduceIte, ya, xd, yb, yc, yd, ye, yf, yg, xb, yh]; rfl) | assumption) (by first | exact loadA_scalar agg43 rfl | exact loadA_agg agg43 rfl | exact loadA_scalar agg43 (by assumption)) ?_
        refine al_pureN 3 (by simp (disch := omega) only [go_sem, ↓reduceIte, xa, xb, xc, xd, xe, xf, xg, xh, xi, xj]; try rfl) ?_
        first | (refine al_skipB ?_ rfl ?_; focus (simp (disch := omega) only [go_sem, ↓reduceIte, xa, xb, xc, xd, xe, xf, xg, xh, xi, xj]; done)) | refine al_load rfl (by simp (disch := omega) only [go_sem, ↓reduceIte, xa, xb, xc, xd, xe, xf, xg, xh, xi, xj]) rfl (by simp (disch := omega) only [go_sem, ↓reduceIte, xa, xb, xc, xd, xe, xf, xg, xh, xi, xj]; try rfl) (by first | exact AHeap.set_self _ _ _ | (simp only [AHeap.set, ↓reduceIte, ya, xd, yb, yc, yd, ye, yf, yg, xb, yh]; rfl) | assumption) (by first | exact loadA_scalar agg43 rfl | exact loadA_agg agg43 rfl | exact loadA_scalar agg43 (by assumption)) ?_
        refine al_pureN 4 (by simp (disch := omega) only [go_sem, ↓reduceIte, xa, xb, xc, xd, xe, xf, xg, xh, xi, xj]; try rfl) ?_
        refine al_pureN 1 (by simp (disch := omega) only [go_sem, ↓reduceIte, xa, xb, xc, xd, xe, xf, xg, xh, xi, xj]; try rfl) ?_
        first | (refine al_skipB ?_ rfl ?_; focus (simp (disch := omega) only [go_sem, ↓reduceIte, xa, xb, xc, xd, xe, xf, xg, xh, xi, xj]; done)) | refine al_load rfl (by simp (disch := omega) only [go_sem, ↓reduceIte, xa, xb, xc, xd, xe, xf, xg, xh, xi, xj]) rfl (by simp (disch := omega) only [go_sem, ↓reduceIte, xa, xb, xc, xd, xe, xf, xg, xh, xi, xj]; try rfl) (by first | exact AHeap.set_self _ _ _ | (simp only [AHeap.set, ↓reduceIte, ya, xd, yb, yc, yd, ye, yf, yg, xb, yh]; rfl) | assumption) (by first | exact loadA_scalar agg43 rfl | exact loadA_agg agg43 rfl | exact loadA_scalar agg43 (by assumption)) ?_
        refine al_pureN 4 (by simp (disch := omega) only [go_sem, ↓reduceIte, xa, xb, xc, xd, xe, xf, xg, xh, xi, xj]; try rfl) ?_
        first | (refine al_skipB ?_ rfl ?_; focus (simp (disch := omega) only [go_sem, ↓reduceIte, xa, xb, xc, xd, xe, xf, xg, xh, xi, xj]; done)) | refine al_load rfl (by simp (disch := omega) only [go_sem, ↓reduceIte, xa, xb, xc, xd, xe, xf, xg, xh, xi, xj]) rfl (by simp (disch := omega) only [go_sem, ↓reduceIte, xa, xb, xc, xd, xe, xf, xg, xh, xi, xj]; try rfl) (by first | exact AHeap.set_self _ _ _ | (simp only [AHeap.set, ↓reduceIte, ya, xd, yb, yc, yd, ye, yf, yg, xb, yh]; rfl) | assumption) (by first | exact loadA_scalar agg43 rfl | exact loadA_agg agg43 rfl | exact loadA_scalar agg43 (by assumption)) ?_
        refine al_pureN 3 (by simp (disch := omega) only [go_sem, ↓reduceIte, xa, xb, xc, xd, xe, xf, xg, xh, xi, xj]; try rfl) ?_
        refine al_end [1, 3, 79] ?_
        refine awp_if rfl (fun _ => ?_) (fun h => by cases h)
        refine awp_seq (awp_pures [2] (by simp (disch := omega) only [go_sem, ↓reduceIte, xa, xb, xc, xd, xe, xf, xg, xh, xi, xj]; try rfl) ?_)
        exact awp_ret ⟨_, rfl, rfl, hσ2', by omega⟩
  · have hjm : j = g.as.length := by omega
    have hA1 : chkA (firstC g) g.as = true := hpre.2 (by rw [hjm, List.drop_length]; rfl)
    refine awp_seq ?_
    first | refine awp_seq (awp_lit ?_) | refine awp_lit ?_ | refine awp_seq (awp_seq (awp_lit ?_))
    refine al_pureN 2 (by simp (disch := omega) only [go_sem, ↓reduceIte, xa, xb, xc, xd, xe, xf, xg, xh, xi, xj]; try rfl) ?_
    refine al_load rfl (by simp (disch := omega) only [go_sem, ↓reduceIte, xa, xb, xc, xd, xe, xf, xg, xh, xi, xj]) rfl (by simp (disch := omega) only [go_sem, ↓reduceIte, xa, xb, xc, xd, xe, xf, xg, xh, xi, xj]; try rfl) (by first | exact AHeap.set_self _ _ _ | (simp only [AHeap.set, ↓reduceIte, ya, xd, yb, yc, yd, ye, yf, yg, xb, yh]; rfl) | assumption) (by first | exact loadA_scalar agg23 rfl | exact loadA_agg agg23 rfl | exact loadA_scalar agg23 (by assumption)) ?_
    refine al_pureN 2 (by simp (disch := omega) only [go_sem, ↓reduceIte, xa, xb, xc, xd, xe, xf, xg, xh, xi, xj]; try rfl) ?_
    refine al_end [1, 3, 42] ?_
    refine awp_if rfl (fun h => by cases h) (fun _ => ?_)
    refine awp_exit ?_
    simp only [Go.Abs.Seq, Go.Abs.Round, Go.Abs.InBlock, ↓reduceIte]
    first | refine awp_seq (awp_lit ?_) | refine awp_lit ?_ | refine awp_seq (awp_seq (awp_lit ?_))
    refine al_load rfl (by simp (disch := omega) only [go_sem, ↓reduceIte, xa, xb, xc, xd, xe, xf, xg, xh, xi, xj]) rfl (by simp (disch := omega) only [go_sem, ↓reduceIte, xa, xb, xc, xd, xe, xf, xg, xh, xi, xj]; try rfl) (by first | exact AHeap.set_self _ _ _ | (simp only [AHeap.set, ↓reduceIte, ya, xd, yb, yc, yd, ye, yf, yg, xb, yh]; rfl) | assumption) (by first | exact loadA_scalar agg26 rfl | exact loadA_agg agg26 rfl | exact loadA_scalar agg26 (by assumption)) ?_
    refine al_gives (vs := ?vs1) (v := ?v1) rfl ?ha1 ?hh1 (by kernel_rfl) rfl (by simp (disch := omega) only [go_sem, ↓reduceIte, xa, xb, xc, xd, xe, xf, xg, xh, xi, xj]) ?kk1
    case ha1 => simp (disch := omega) only [go_sem, ↓reduceIte, xa, xb, xc, xd, xe, xf, xg, xh, xi, xj]; try rfl
    case hh1 => exact nodes_gives (hv0.mono hτ) hfew (by omega) (by omega)
    refine al_pureN 2 (by simp (disch := omega) only [go_sem, ↓reduceIte, xa, xb, xc, xd, xe, xf, xg, xh, xi, xj]; try rfl) ?_
    refine al_end [1, 6] ?_
    refine awp_seq ?_
    refine awp_seq (awp_pures [1, 6, 7] (by simp (disch := omega) only [go_sem, ↓reduceIte, xa, xb, xc, xd, xe, xf, xg, xh, xi, xj]; try rfl) ?_)
    refine awp_block (awp_loop ?_)
    refine ALoop.cast3 (aloop_ind (α := Nat) (fun a => a ≤ g.ls.length ∧ (chkL (sizeC g) g.ls = true ↔ chkL (sizeC g) (g.ls.drop a) = true)) (fun a => g.ls.length - a)
      (fun a => [(1, .pointer (some ⟨N, 0, none⟩)), (6, .int .i64 (2 * sizeC g)), (7, .int .i64 a)]) (fun a => M) (fun _ => σ1) ?_ 0 ⟨Nat.zero_le _, by simp⟩) rfl rfl rfl
    clear ih hj hjm hlt hpre
    rintro j ⟨hj, hpre⟩ ih
    by_cases hlt : j < g.ls.length
    · refine awp_seq ?_
      first | refine awp_seq (awp_lit ?_) | refine awp_lit ?_ | refine awp_seq (awp_seq (awp_lit ?_))
      refine al_pureN 2 (by simp (disch := omega) only [go_sem, ↓reduceIte, xa, xb, xc, xd, xe, xf, xg, xh, xi, xj]; try rfl) ?_
      refine al_load rfl (by simp (disch := omega) only [go_sem, ↓reduceIte, xa, xb, xc, xd, xe, xf, xg, xh, xi, xj]) rfl (by simp (disch := omega) only [go_sem, ↓reduceIte, xa, xb, xc, xd, xe, xf, xg, xh, xi, xj]; try rfl) (by first | exact AHeap.set_self _ _ _ | (simp only [AHeap.set, ↓reduceIte, ya, xd, yb, yc, yd, ye, yf, yg, xb, yh]; rfl) | assumption) (by first | exact loadA_scalar agg22 rfl | exact loadA_agg agg22 rfl | exact loadA_scalar agg22 (by assumption)) ?_
      refine al_pureN 2 (by simp (disch := omega) only [go_sem, ↓reduceIte, xa, xb, xc, xd, xe, xf, xg, xh, xi, xj]; try rfl) ?_
      refine al_end [1, 6, 7, 87] ?_
      refine awp_if rfl (fun _ => ?_) (fun h => by cases h)
      refine awp_skip ?_
      refine awp_seq (awp_block ?_)
      obtain ⟨id, off, cap, b, e1, e2, e3, e4⟩ := rowsAt_pair (hl.mono hτ) hlt
      cases e1
      obtain ⟨c1, c2⟩ := cells_two e3
      have hdrop := chkL_drop (n := sizeC g) hlt
      rw [inR_iff] at hdrop
      obtain ⟨A, hAe⟩ : ∃ A, A = g.ls[j].1 := ⟨_, rfl⟩
      obtain ⟨B, hBe⟩ : ∃ B, B = g.ls[j].2 := ⟨_, rfl⟩
      rw [← hAe, ← hBe] at hdrop
      rw [← hAe] at c1
      rw [← hBe] at c2
      by_cases hok : (0 ≤ A ∧ A < 2 * sizeC g) ∧ B ≤ 1
      · refine awp_seq ?_
        first | refine awp_seq (awp_lit ?_) | refine awp_lit ?_ | refine awp_seq (awp_seq (awp_lit ?_))
        refine al_pureN 1 (by simp (disch := omega) only [go_sem, ↓reduceIte, xa, xb, xc, xd, xe, xf, xg, xh, xi, xj]; try rfl) ?_
        refine al_load rfl (by simp (disch := omega) only [go_sem, ↓reduceIte, xa, xb, xc, xd, xe, xf, xg, xh, xi, xj]) rfl (by simp (disch := omega) only [go_sem, ↓reduceIte, xa, xb, xc, xd, xe, xf, xg, xh, xi, xj]; try rfl) (by first | exact AHeap.set_self _ _ _ | (simp only [AHeap.set, ↓reduceIte, ya, xd, yb, yc, yd, ye, yf, yg, xb, yh]; rfl) | assumption) (by first | exact loadA_scalar agg22 rfl | exact loadA_agg agg22 rfl | exact loadA_scalar agg22 (by assumption)) ?_
        refine al_pureN 3 (by simp (disch := omega) only [go_sem, ↓reduceIte, xa, xb, xc, xd, xe, xf, xg, xh, xi, xj]; try rfl) ?_
        refine al_load rfl (by simp (disch := omega) only [go_sem, ↓reduceIte, xa, xb, xc, xd, xe, xf, xg, xh, xi, xj]) rfl (by simp (disch := omega) only [go_sem, ↓reduceIte, xa, xb, xc, xd, xe, xf, xg, xh, xi, xj]; try rfl) e2 (loadA_scalar agg43 c1) ?_
        refine al_pureN 3 (by simp (disch := omega) only [go_sem, ↓reduceIte, xa, xb, xc, xd, xe, xf, xg, xh, xi, xj]; try rfl) ?_
        first | (refine al_skipB ?_ rfl ?_; focus (simp (disch := omega) only [go_sem, ↓reduceIte, xa, xb, xc, xd, xe, xf, xg, xh, xi, xj]; done)) | refine al_load rfl (by simp (disch := omega) only [go_sem, ↓reduceIte, xa, xb, xc, xd, xe, xf, xg, xh, xi, xj]) rfl (by simp (disch := omega) only [go_sem, ↓reduceIte, xa, xb, xc, xd, xe, xf, xg, xh, xi, xj]; try rfl) (by first | exact AHeap.set_self _ _ _ | (simp only [AHeap.set, ↓reduceIte, ya, xd, yb, yc, yd, ye, yf, yg, xb, yh]; rfl) | assumption) (by first | exact loadA_scalar agg22 rfl | exact loadA_agg agg22 rfl | exact loadA_scalar agg22 (by assumption)) ?_
        refine al_pureN 3 (by simp (disch := omega) only [go_sem, ↓reduceIte, xa, xb, xc, xd, xe, xf, xg, xh, xi, xj]; try rfl) ?_
        first | (refine al_skipB ?_ rfl ?_; focus (simp (disch := omega) only [go_sem, ↓reduceIte, xa, xb, xc, xd, xe, xf, xg, xh, xi, xj]; done)) | refine al_load rfl (by simp (disch := omega) only [go_sem, ↓reduceIte, xa, xb, xc, xd, xe, xf, xg, xh, xi, xj]) rfl (by simp (disch := omega) only [go_sem, ↓reduceIte, xa, xb, xc, xd, xe, xf, xg, xh, xi, xj]; try rfl) e2 (loadA_scalar agg43 c1) ?_
        refine al_pureN 4 (by simp (disch := omega) only [go_sem, ↓reduceIte, xa, xb, xc, xd, xe, xf, xg, xh, xi, xj]; try rfl) ?_
        refine al_pureN 1 (by simp (disch := omega) only [go_sem, ↓reduceIte, xa, xb, xc, xd, xe, xf, xg, xh, xi, xj]; try rfl) ?_
        first | (refine al_skipB ?_ rfl ?_; focus (simp (disch := omega) only [go_sem, ↓reduceIte, xa, xb, xc, xd, xe, xf, xg, xh, xi, xj]; done)) | refine al_load rfl (by simp (disch := omega) only [go_sem, ↓reduceIte, xa, xb, xc, xd, xe, xf, xg, xh, xi, xj]) rfl (by simp (disch := omega) only [go_sem, ↓reduceIte, xa, xb, xc, xd, xe, xf, xg, xh, xi, xj]; try rfl) (by first | exact AHeap.set_self _ _ _ | (simp only [AHeap.set, ↓reduceIte, ya, xd, yb, yc, yd, ye, yf, yg, xb, yh]; rfl) | assumption) (by first | exact loadA_scalar agg22 rfl | exact loadA_agg agg22 rfl | exact loadA_scalar agg22 (by assumption)) ?_
        refine al_pureN 3 (by simp (disch := omega) only [go_sem, ↓reduceIte, xa, xb, xc, xd, xe, xf, xg, xh, xi, xj]; try rfl) ?_
        first | (refine al_skipB ?_ rfl ?_; focus (simp (disch := omega) only [go_sem, ↓reduceIte, xa, xb, xc, xd, xe, xf, xg, xh, xi, xj]; done)) | refine al_load rfl (by simp (disch := omega) only [go_sem, ↓reduceIte, xa, xb, xc, xd, xe, xf, xg, xh, xi, xj]) rfl (by simp (disch := omega) only [go_sem, ↓reduceIte, xa, xb, xc, xd, xe, xf, xg, xh, xi, xj]; try rfl) e2 (loadA_scalar agg5 c2) ?_
        refine al_pureN 2 (by simp (disch := omega) only [go_sem, ↓reduceIte, xa, xb, xc, xd, xe, xf, xg, xh, xi, xj]; try rfl) ?_
        refine al_end [1, 6, 7, 115] ?_
        refine awp_if rfl (fun h => by cases h) (fun _ => ?_)
        refine awp_skip ?_
        refine awp_pures [1, 6, 7] (by simp (disch := omega) only [go_sem, ↓reduceIte, xa, xb, xc, xd, xe, xf, xg, xh, xi, xj]; try rfl) ?_
        exact ALoop.cast3 (ih (j + 1) ⟨hlt, hpre.trans (hdrop.trans ⟨fun h => h.2, fun h => ⟨hok, h⟩⟩)⟩ (by omega)) rfl rfl rfl
      · have hE1 := hbad (P := True) fun h => hok (hdrop.1 (hpre.1 h.2.1)).1
        rw [hE1]
        have hc : A < 0 ∨ (¬ A < 0 ∧ 2 * sizeC g ≤ A) ∨ (0 ≤ A ∧ A < 2 * sizeC g ∧ 1 < B) := by omega
        rcases hc with hc | ⟨hc, hc2⟩ | ⟨hc, hc2, hc3⟩
        all_goals
          refine awp_seq ?_
          first | refine awp_seq (awp_lit ?_) | refine awp_lit ?_ | refine awp_seq (awp_seq (awp_lit ?_))
          refine al_pureN 1 (by simp (disch := omega) only [go_sem, ↓reduceIte, xa, xb, xc, xd, xe, xf, xg, xh, xi, xj]; try rfl) ?_
          refine al_load rfl (by simp (disch := omega) only [go_sem, ↓reduceIte, xa, xb, xc, xd, xe, xf, xg, xh, xi, xj]) rfl (by simp (disch := omega) only [go_sem, ↓reduceIte, xa, xb, xc, xd, xe, xf, xg, xh, xi, xj]; try rfl) (by first | exact AHeap.set_self _ _ _ | (simp only [AHeap.set, ↓reduceIte, ya, xd, yb, yc, yd, ye, yf, yg, xb, yh]; rfl) | assumption) (by first | exact loadA_scalar agg22 rfl | exact loadA_agg agg22 rfl | exact loadA_scalar agg22 (by assumption)) ?_
          refine al_pureN 3 (by simp (disch := omega) only [go_sem, ↓reduceIte, xa, xb, xc, xd, xe, xf, xg, xh, xi, xj]; try rfl) ?_
          refine al_load rfl (by simp (disch := omega) only [go_sem, ↓reduceIte, xa, xb, xc, xd, xe, xf, xg, xh, xi, xj]) rfl (by simp (disch := omega) only [go_sem, ↓reduceIte, xa, xb, xc, xd, xe, xf, xg, xh, xi, xj]; try rfl) e2 (loadA_scalar agg43 c1) ?_
          refine al_pureN 3 (by simp (disch := omega) only [go_sem, ↓reduceIte, xa, xb, xc, xd, xe, xf, xg, xh, xi, xj]; try rfl) ?_
          first | (refine al_skipB ?_ rfl ?_; focus (simp (disch := omega) only [go_sem, ↓reduceIte, xa, xb, xc, xd, xe, xf, xg, xh, xi, xj]; done)) | refine al_load rfl (by simp (disch := omega) only [go_sem, ↓reduceIte, xa, xb, xc, xd, xe, xf, xg, xh, xi, xj]) rfl (by simp (disch := omega) only [go_sem, ↓reduceIte, xa, xb, xc, xd, xe, xf, xg, xh, xi, xj]; try rfl) (by first | exact AHeap.set_self _ _ _ | (simp only [AHeap.set, ↓reduceIte, ya, xd, yb, yc, yd, ye, yf, yg, xb, yh]; rfl) | assumption) (by first | exact loadA_scalar agg22 rfl | exact loadA_agg agg22 rfl | exact loadA_scalar agg22 (by assumption)) ?_
          refine al_pureN 3 (by simp (disch := omega) only [go_sem, ↓reduceIte, xa, xb, xc, xd, xe, xf, xg, xh, xi, xj]; try rfl) ?_
          first | (refine al_skipB ?_ rfl ?_; focus (simp (disch := omega) only [go_sem, ↓reduceIte, xa, xb, xc, xd, xe, xf, xg, xh, xi, xj]; done)) | refine al_load rfl (by simp (disch := omega) only [go_sem, ↓reduceIte, xa, xb, xc, xd, xe, xf, xg, xh, xi, xj]) rfl (by simp (disch := omega) only [go_sem, ↓reduceIte, xa, xb, xc, xd, xe, xf, xg, xh, xi, xj]; try rfl) e2 (loadA_scalar agg43 c1) ?_
          refine al_pureN 4 (by simp (disch := omega) only [go_sem, ↓reduceIte, xa, xb, xc, xd, xe, xf, xg, xh, xi, xj]; try rfl) ?_
          refine al_pureN 1 (by simp (disch := omega) only [go_sem, ↓reduceIte, xa, xb, xc, xd, xe, xf, xg, xh, xi, xj]; try rfl) ?_
          first | (refine al_skipB ?_ rfl ?_; focus (simp (disch := omega) only [go_sem, ↓reduceIte, xa, xb, xc, xd, xe, xf, xg, xh, xi, xj]; done)) | refine al_load rfl (by simp (disch := omega) only [go_sem, ↓reduceIte, xa, xb, xc, xd, xe, xf, xg, xh, xi, xj]) rfl (by simp (disch := omega) only [go_sem, ↓reduceIte, xa, xb, xc, xd, xe, xf, xg, xh, xi, xj]; try rfl) (by first | exact AHeap.set_self _ _ _ | (simp only [AHeap.set, ↓reduceIte, ya, xd, yb, yc, yd, ye, yf, yg, xb, yh]; rfl) | assumption) (by first | exact loadA_scalar agg22 rfl | exact loadA_agg agg22 rfl | exact loadA_scalar agg22 (by assumption)) ?_
          refine al_pureN 3 (by simp (disch := omega) only [go_sem, ↓reduceIte, xa, xb, xc, xd, xe, xf, xg, xh, xi, xj]; try rfl) ?_
          first | (refine al_skipB ?_ rfl ?_; focus (simp (disch := omega) only [go_sem, ↓reduceIte, xa, xb, xc, xd, xe, xf, xg, xh, xi, xj]; done)) | refine al_load rfl (by simp (disch := omega) only [go_sem, ↓reduceIte, xa, xb, xc, xd, xe, xf, xg, xh, xi, xj]) rfl (by simp (disch := omega) only [go_sem, ↓reduceIte, xa, xb, xc, xd, xe, xf, xg, xh, xi, xj]; try rfl) e2 (loadA_scalar agg5 c2) ?_
          refine al_pureN 2 (by simp (disch := omega) only [go_sem, ↓reduceIte, xa, xb, xc, xd, xe, xf, xg, xh, xi, xj]; try rfl) ?_
          refine al_end [1, 6, 7, 115] ?_
          refine awp_if rfl (fun _ => ?_) (fun h => by cases h)
          refine awp_seq (awp_pures [2] (by simp (disch := omega) only [go_sem, ↓reduceIte, xa, xb, xc, xd, xe, xf, xg, xh, xi, xj]; try rfl) ?_)
          exact awp_ret ⟨_, rfl, rfl, hτ, by omega⟩
    · have hjm : j = g.ls.length := by omega
      have hL1 : chkL (sizeC g) g.ls = true := hpre.2 (by rw [hjm, List.drop_length]; rfl)
      refine awp_seq ?_
      first | refine awp_seq (awp_lit ?_) | refine awp_lit ?_ | refine awp_seq (awp_seq (awp_lit ?_))
      refine al_pureN 2 (by simp (disch := omega) only [go_sem, ↓reduceIte, xa, xb, xc, xd, xe, xf, xg, xh, xi, xj]; try rfl) ?_
      refine al_load rfl (by simp (disch := omega) only [go_sem, ↓reduceIte, xa, xb, xc, xd, xe, xf, xg, xh, xi, xj]) rfl (by simp (disch := omega) only [go_sem, ↓reduceIte, xa, xb, xc, xd, xe, xf, xg, xh, xi, xj]; try rfl) (by first | exact AHeap.set_self _ _ _ | (simp only [AHeap.set, ↓reduceIte, ya, xd, yb, yc, yd, ye, yf, yg, xb, yh]; rfl) | assumption) (by first | exact loadA_scalar agg22 rfl | exact loadA_agg agg22 rfl | exact loadA_scalar agg22 (by assumption)) ?_
      refine al_pureN 2 (by simp (disch := omega) only [go_sem, ↓reduceIte, xa, xb, xc, xd, xe, xf, xg, xh, xi, xj]; try rfl) ?_
      refine al_end [1, 6, 7, 87] ?_
      refine awp_if rfl (fun h => by cases h) (fun _ => ?_)
      refine awp_exit ?_
      simp only [Go.Abs.Seq, Go.Abs.Round, Go.Abs.InBlock, ↓reduceIte]
      refine awp_seq ?_
      refine awp_seq (awp_pures [1, 6, 8] (by simp (disch := omega) only [go_sem, ↓reduceIte, xa, xb, xc, xd, xe, xf, xg, xh, xi, xj]; try rfl) ?_)
      refine awp_block (awp_loop ?_)
      refine ALoop.cast3 (aloop_ind (α := Nat) (fun a => a ≤ g.os.length ∧ (chkO (sizeC g) g.os = true ↔ chkO (sizeC g) (g.os.drop a) = true)) (fun a => g.os.length - a)
        (fun a => [(1, .pointer (some ⟨N, 0, none⟩)), (6, .int .i64 (2 * sizeC g)), (8, .int .i64 a)]) (fun a => M) (fun _ => σ1) ?_ 0 ⟨Nat.zero_le _, by simp⟩) rfl rfl rfl
      clear ih hj hjm hlt hpre
      rintro j ⟨hj, hpre⟩ ih
      by_cases hlt : j < g.os.length
      · refine awp_seq ?_
        first | refine awp_seq (awp_lit ?_) | refine awp_lit ?_ | refine awp_seq (awp_seq (awp_lit ?_))
        refine al_pureN 2 (by simp (disch := omega) only [go_sem, ↓reduceIte, xa, xb, xc, xd, xe, xf, xg, xh, xi, xj]; try rfl) ?_
        refine al_load rfl (by simp (disch := omega) only [go_sem, ↓reduceIte, xa, xb, xc, xd, xe, xf, xg, xh, xi, xj]) rfl (by simp (disch := omega) only [go_sem, ↓reduceIte, xa, xb, xc, xd, xe, xf, xg, xh, xi, xj]; try rfl) (by first | exact AHeap.set_self _ _ _ | (simp only [AHeap.set, ↓reduceIte, ya, xd, yb, yc, yd, ye, yf, yg, xb, yh]; rfl) | assumption) (by first | exact loadA_scalar agg24 rfl | exact loadA_agg agg24 rfl | exact loadA_scalar agg24 (by assumption)) ?_
        refine al_pureN 2 (by simp (disch := omega) only [go_sem, ↓reduceIte, xa, xb, xc, xd, xe, xf, xg, xh, xi, xj]; try rfl) ?_
        refine al_end [1, 6, 8, 120] ?_
        refine awp_if rfl (fun _ => ?_) (fun h => by cases h)
        refine awp_skip ?_
        refine awp_seq (awp_block ?_)
        obtain ⟨id, off, cap, b, e1, e2, e3, e4⟩ := slAt_int (ho.mono hτ) hlt
        cases e1
        have hdrop := chkO_drop (n := sizeC g) hlt
        rw [inR_iff] at hdrop
        obtain ⟨A, hAe⟩ : ∃ A, A = g.os[j] := ⟨_, rfl⟩
        rw [← hAe] at hdrop e3
        by_cases hok : 0 ≤ A ∧ A < 2 * sizeC g
        · refine awp_seq ?_
          first | refine awp_seq (awp_lit ?_) | refine awp_lit ?_ | refine awp_seq (awp_seq (awp_lit ?_))
          refine al_pureN 1 (by simp (disch := omega) only [go_sem, ↓reduceIte, xa, xb, xc, xd, xe, xf, xg, xh, xi, xj]; try rfl) ?_
          refine al_load rfl (by simp (disch := omega) only [go_sem, ↓reduceIte, xa, xb, xc, xd, xe, xf, xg, xh, xi, xj]) rfl (by simp (disch := omega) only [go_sem, ↓reduceIte, xa, xb, xc, xd, xe, xf, xg, xh, xi, xj]; try rfl) (by first | exact AHeap.set_self _ _ _ | (simp only [AHeap.set, ↓reduceIte, ya, xd, yb, yc, yd, ye, yf, yg, xb, yh]; rfl) | assumption) (by first | exact loadA_scalar agg24 rfl | exact loadA_agg agg24 rfl | exact loadA_scalar agg24 (by assumption)) ?_
          refine al_pureN 2 (by simp (disch := omega) only [go_sem, ↓reduceIte, xa, xb, xc, xd, xe, xf, xg, xh, xi, xj]; try rfl) ?_
          refine al_load rfl (by simp (disch := omega) only [go_sem, ↓reduceIte, xa, xb, xc, xd, xe, xf, xg, xh, xi, xj]) rfl (by simp (disch := omega) only [go_sem, ↓reduceIte, xa, xb, xc, xd, xe, xf, xg, xh, xi, xj]; try rfl) e2 (loadA_scalar agg43 e3) ?_
          refine al_pureN 3 (by simp (disch := omega) only [go_sem, ↓reduceIte, xa, xb, xc, xd, xe, xf, xg, xh, xi, xj]; try rfl) ?_
          first | (refine al_skipB ?_ rfl ?_; focus (simp (disch := omega) only [go_sem, ↓reduceIte, xa, xb, xc, xd, xe, xf, xg, xh, xi, xj]; done)) | refine al_load rfl (by simp (disch := omega) only [go_sem, ↓reduceIte, xa, xb, xc, xd, xe, xf, xg, xh, xi, xj]) rfl (by simp (disch := omega) only [go_sem, ↓reduceIte, xa, xb, xc, xd, xe, xf, xg, xh, xi, xj]; try rfl) (by first | exact AHeap.set_self _ _ _ | (simp only [AHeap.set, ↓reduceIte, ya, xd, yb, yc, yd, ye, yf, yg, xb, yh]; rfl) | assumption) (by first | exact loadA_scalar agg24 rfl | exact loadA_agg agg24 rfl | exact loadA_scalar agg24 (by assumption)) ?_
          refine al_pureN 2 (by simp (disch := omega) only [go_sem, ↓reduceIte, xa, xb, xc, xd, xe, xf, xg, xh, xi, xj]; try rfl) ?_
          first | (refine al_skipB ?_ rfl ?_; focus (simp (disch := omega) only [go_sem, ↓reduceIte, xa, xb, xc, xd, xe, xf, xg, xh, xi, xj]; done)) | refine al_load rfl (by simp (disch := omega) only [go_sem, ↓reduceIte, xa, xb, xc, xd, xe, xf, xg, xh, xi, xj]) rfl (by simp (disch := omega) only [go_sem, ↓reduceIte, xa, xb, xc, xd, xe, xf, xg, xh, xi, xj]; try rfl) e2 (loadA_scalar agg43 e3) ?_
          refine al_pureN 3 (by simp (disch := omega) only [go_sem, ↓reduceIte, xa, xb, xc, xd, xe, xf, xg, xh, xi, xj]; try rfl) ?_
          refine al_end [1, 6, 8, 137] ?_
          refine awp_if rfl (fun h => by cases h) (fun _ => ?_)
          refine awp_skip ?_
          refine awp_pures [1, 6, 8] (by simp (disch := omega) only [go_sem, ↓reduceIte, xa, xb, xc, xd, xe, xf, xg, xh, xi, xj]; try rfl) ?_
          exact ALoop.cast3 (ih (j + 1) ⟨hlt, hpre.trans (hdrop.trans ⟨fun h => h.2, fun h => ⟨hok, h⟩⟩)⟩ (by omega)) rfl rfl rfl
        · have hE1 := hbad (P := True) fun h => hok (hdrop.1 (hpre.1 h.2.2)).1
          rw [hE1]
          have hc : A < 0 ∨ (¬ A < 0 ∧ 2 * sizeC g ≤ A) := by omega
          rcases hc with hc | ⟨hc, hc2⟩
          all_goals
            refine awp_seq ?_
            first | refine awp_seq (awp_lit ?_) | refine awp_lit ?_ | refine awp_seq (awp_seq (awp_lit ?_))
            refine al_pureN 1 (by simp (disch := omega) only [go_sem, ↓reduceIte, xa, xb, xc, xd, xe, xf, xg, xh, xi, xj]; try rfl) ?_
            refine al_load rfl (by simp (disch := omega) only [go_sem, ↓reduceIte, xa, xb, xc, xd, xe, xf, xg, xh, xi, xj]) rfl (by simp (disch := omega) only [go_sem, ↓reduceIte, xa, xb, xc, xd, xe, xf, xg, xh, xi, xj]; try rfl) (by first | exact AHeap.set_self _ _ _ | (simp only [AHeap.set, ↓reduceIte, ya, xd, yb, yc, yd, ye, yf, yg, xb, yh]; rfl) | assumption) (by first | exact loadA_scalar agg24 rfl | exact loadA_agg agg24 rfl | exact loadA_scalar agg24 (by assumption)) ?_
            refine al_pureN 2 (by simp (disch := omega) only [go_sem, ↓reduceIte, xa, xb, xc, xd, xe, xf, xg, xh, xi, xj]; try rfl) ?_
            refine al_load rfl (by simp (disch := omega) only [go_sem, ↓reduceIte, xa, xb, xc, xd, xe, xf, xg, xh, xi, xj]) rfl (by simp (disch := omega) only [go_sem, ↓reduceIte, xa, xb, xc, xd, xe, xf, xg, xh, xi, xj]; try rfl) e2 (loadA_scalar agg43 e3) ?_
            refine al_pureN 3 (by simp (disch := omega) only [go_sem, ↓reduceIte, xa, xb, xc, xd, xe, xf, xg, xh, xi, xj]; try rfl) ?_
            first | (refine al_skipB ?_ rfl ?_; focus (simp (disch := omega) only [go_sem, ↓reduceIte, xa, xb, xc, xd, xe, xf, xg, xh, xi, xj]; done)) | refine al_load rfl (by simp (disch := omega) only [go_sem, ↓reduceIte, xa, xb, xc, xd, xe, xf, xg, xh, xi, xj]) rfl (by simp (disch := omega) only [go_sem, ↓reduceIte, xa, xb, xc, xd, xe, xf, xg, xh, xi, xj]; try rfl) (by first | exact AHeap.set_self _ _ _ | (simp only [AHeap.set, ↓reduceIte, ya, xd, yb, yc, yd, ye, yf, yg, xb, yh]; rfl) | assumption) (by first | exact loadA_scalar agg24 rfl | exact loadA_agg agg24 rfl | exact loadA_scalar agg24 (by assumption)) ?_
            refine al_pureN 2 (by simp (disch := omega) only [go_sem, ↓reduceIte, xa, xb, xc, xd, xe, xf, xg, xh, xi, xj]; try rfl) ?_
            first | (refine al_skipB ?_ rfl ?_; focus (simp (disch := omega) only [go_sem, ↓reduceIte, xa, xb, xc, xd, xe, xf, xg, xh, xi, xj]; done)) | refine al_load rfl (by simp (disch := omega) only [go_sem, ↓reduceIte, xa, xb, xc, xd, xe, xf, xg, xh, xi, xj]) rfl (by simp (disch := omega) only [go_sem, ↓reduceIte, xa, xb, xc, xd, xe, xf, xg, xh, xi, xj]; try rfl) e2 (loadA_scalar agg43 e3) ?_
            refine al_pureN 3 (by simp (disch := omega) only [go_sem, ↓reduceIte, xa, xb, xc, xd, xe, xf, xg, xh, xi, xj]; try rfl) ?_
            refine al_end [1, 6, 8, 137] ?_
            refine awp_if rfl (fun _ => ?_) (fun h => by cases h)
            refine awp_seq (awp_pures [2] (by simp (disch := omega) only [go_sem, ↓reduceIte, xa, xb, xc, xd, xe, xf, xg, xh, xi, xj]; try rfl) ?_)
            exact awp_ret ⟨_, rfl, rfl, hτ, by omega⟩
      · have hjm : j = g.os.length := by omega
        have hO1 : chkO (sizeC g) g.os = true := hpre.2 (by rw [hjm, List.drop_length]; rfl)
        refine awp_seq ?_
        first | refine awp_seq (awp_lit ?_) | refine awp_lit ?_ | refine awp_seq (awp_seq (awp_lit ?_))
        refine al_pureN 2 (by simp (disch := omega) only [go_sem, ↓reduceIte, xa, xb, xc, xd, xe, xf, xg, xh, xi, xj]; try rfl) ?_
        refine al_load rfl (by simp (disch := omega) only [go_sem, ↓reduceIte, xa, xb, xc, xd, xe, xf, xg, xh, xi, xj]) rfl (by simp (disch := omega) only [go_sem, ↓reduceIte, xa, xb, xc, xd, xe, xf, xg, xh, xi, xj]; try rfl) (by first | exact AHeap.set_self _ _ _ | (simp only [AHeap.set, ↓reduceIte, ya, xd, yb, yc, yd, ye, yf, yg, xb, yh]; rfl) | assumption) (by first | exact loadA_scalar agg24 rfl | exact loadA_agg agg24 rfl | exact loadA_scalar agg24 (by assumption)) ?_
        refine al_pureN 2 (by simp (disch := omega) only [go_sem, ↓reduceIte, xa, xb, xc, xd, xe, xf, xg, xh, xi, xj]; try rfl) ?_
        refine al_end [1, 6, 8, 120] ?_
        refine awp_if rfl (fun h => by cases h) (fun _ => ?_)
        refine awp_exit ?_
        simp only [Go.Abs.Seq, Go.Abs.Round, Go.Abs.InBlock, ↓reduceIte]
        refine awp_seq (awp_pures [2] (by simp (disch := omega) only [go_sem, ↓reduceIte, xa, xb, xc, xd, xe, xf, xg, xh, xi, xj]; try rfl) ?_)
        refine awp_ret ⟨_, rfl, ?_, hτ, by omega⟩
        rw [hE0, hA1, hL1, hO1]; rfl
end Go.Proofs.Ytfialjllclclkaa

set_option maxHeartbeats 4000000
set_option linter.unusedSimpArgs false
set_option linter.unusedVariables false
namespace Go.Proofs.Ytfialjllclclkaa
open Go.Abs Go.Cut
attribute [local go_sem] Try.underlying26 Try.underlying3 Try.underlying22 Try.underlying23 Try.underlying24 Try.underlying35 Try.underlying43 Try.underlying45 Try.underlying47 Try.underlying5 Try.underlying4 Try.underlying30 Try.underlying56 size26 size3 size22 size23 size24 size35 size43 size45 size47 size5 size4 size30 Nat.mul_one gt_iff_lt ge_iff_le au_add au_sub au_quo au_rem au_lt au_nl au_le au_ne au_bt au_bf au_nt au_nf au_tf au_ft au_wu au_wi undef
open Nat renaming reduceLT → xa, reduceEqDiff → xb, reduceLeDiff → xc, reduceAdd → xd, reduceMul → xe, reduceBEq → xj, add_assoc → ya, add_left_cancel_iff → yb, add_right_cancel_iff → yc, left_eq_add → yd, add_eq_left → ye, add_eq_right → yf, right_eq_add → yg, succ_ne_zero → yh
open Int renaming reduceLT → xf, reduceLE → xg, reduceToNat → xh
open BitVec renaming reduceOfInt → xi
theorem rfirst_gives {g : AigD} {v : Value} {N : Nat} {σ : AHeap} (hv : AigAt σ v g) (hf : Few g) (h1 : -1000000 ≤ g.inp) (h2 : g.inp ≤ 1000000) : Gives Try.prog 35 [v] N σ (.int .i64 (firstC g)) := by
  obtain ⟨lb, lc, ab, ac, ob, oc, rfl, hls, has, hos⟩ := hv.opn
  have hf2 := hf.ls
  refine gives_of rfl (aok_fresh fun hN => aok_body (r := false) (n := 10) Try.func35 rfl rfl (by simp) ?_)
  first | refine awp_seq (awp_lit ?_) | refine awp_lit ?_ | refine awp_seq (awp_seq (awp_lit ?_))
  refine al_box 1 rfl rfl rfl (by simp (disch := omega) only [go_sem, ↓reduceIte, xa, xb, xc, xd, xe, xf, xg, xh, xi, xj]; try rfl) ?_
  refine al_pureN 1 (by simp (disch := omega) only [go_sem, ↓reduceIte, xa, xb, xc, xd, xe, xf, xg, xh, xi, xj]; try rfl) ?_
  refine al_end [1] ?_
  first | refine awp_seq (awp_lit ?_) | refine awp_lit ?_ | refine awp_seq (awp_seq (awp_lit ?_))
  refine al_pureN 1 (by simp (disch := omega) only [go_sem, ↓reduceIte, xa, xb, xc, xd, xe, xf, xg, xh, xi, xj]; try rfl) ?_
  refine al_load rfl (by simp (disch := omega) only [go_sem, ↓reduceIte, xa, xb, xc, xd, xe, xf, xg, xh, xi, xj]) rfl (by simp (disch := omega) only [go_sem, ↓reduceIte, xa, xb, xc, xd, xe, xf, xg, xh, xi, xj]; try rfl) (by first | exact AHeap.set_self _ _ _ | (simp only [AHeap.set, ↓reduceIte, ya, xd, yb, yc, yd, ye, yf, yg, xb, yh]; rfl) | assumption) (by first | exact loadA_scalar agg3 rfl | exact loadA_agg agg3 rfl | exact loadA_scalar agg3 (by assumption)) ?_
  refine al_pureN 2 (by simp (disch := omega) only [go_sem, ↓reduceIte, xa, xb, xc, xd, xe, xf, xg, xh, xi, xj]; try rfl) ?_
  refine al_load rfl (by simp (disch := omega) only [go_sem, ↓reduceIte, xa, xb, xc, xd, xe, xf, xg, xh, xi, xj]) rfl (by simp (disch := omega) only [go_sem, ↓reduceIte, xa, xb, xc, xd, xe, xf, xg, xh, xi, xj]; try rfl) (by first | exact AHeap.set_self _ _ _ | (simp only [AHeap.set, ↓reduceIte, ya, xd, yb, yc, yd, ye, yf, yg, xb, yh]; rfl) | assumption) (by first | exact loadA_scalar agg22 rfl | exact loadA_agg agg22 rfl | exact loadA_scalar agg22 (by assumption)) ?_
  refine al_pureN 3 (by simp (disch := omega) only [go_sem, ↓reduceIte, xa, xb, xc, xd, xe, xf, xg, xh, xi, xj]; try rfl) ?_
  refine al_end [2] ?_
  exact awp_ret ⟨_, rfl, rfl, le_new hN (Nat.le_refl _)⟩
theorem lfGo_drop {n last : Int} {l : List Int} {j : Nat} (h : j < l.length) : lfGo n last (l.drop j) = if l[j] ≤ last ∨ n ≤ l[j] then 1 else lfGo n l[j] (l.drop (j + 1)) := by
  rw [List.drop_eq_getElem_cons h, lfGo]
theorem lfGo_end {n last : Int} {l : List Int} : lfGo n last (l.drop l.length) = 0 := by rw [List.drop_length, lfGo]
theorem rLeaf_ok {g : AigD} {v lv : Value} {node : Int} {l : List Int} {N : Nat} {σ : AHeap} (hv : AigAt σ v g) (hl : SlAt σ lv (ints l)) (hfew : Few g) :
    AOk Try.prog 42 [v, .int .i64 node, lv] N σ fun r N1 σ1 => r = .int .i64 (if chkE g = 0 then leafE (sizeC g) node l else chkE g) ∧ σ.le σ1 ∧ N ≤ N1 := by
  have hv0 := hv
  have hol : (ints l).length = l.length := by simp [ints]
  obtain ⟨lb, lc, ab, ac, ob, oc, rfl, hls, has, hos⟩ := hv.opn
  obtain ⟨sb, sc, rfl⟩ := hl.len
  rw [hol] at hl ⊢
  refine aok_fresh fun hN => aok_body (r := false) (n := 61) Try.func42 rfl rfl (by simp) ?_
  first | refine awp_seq (awp_lit ?_) | refine awp_lit ?_ | refine awp_seq (awp_seq (awp_lit ?_))
  refine al_boxA hN rfl rfl rfl (by simp (disch := omega) only [go_sem, ↓reduceIte, xa, xb, xc, xd, xe, xf, xg, xh, xi, xj]; try rfl) (fun σ1 hτ hG hd1 _ => ?_)
  refine al_pureN 1 (by simp (disch := omega) only [go_sem, ↓reduceIte, xa, xb, xc, xd, xe, xf, xg, xh, xi, xj]; try rfl) ?_
  refine al_end [1, 2, 3] ?_
  first | refine awp_seq (awp_lit ?_) | refine awp_lit ?_ | refine awp_seq (awp_seq (awp_lit ?_))
  refine al_load rfl (by simp (disch := omega) only [go_sem, ↓reduceIte, xa, xb, xc, xd, xe, xf, xg, xh, xi, xj]) rfl (by simp (disch := omega) only [go_sem, ↓reduceIte, xa, xb, xc, xd, xe, xf, xg, xh, xi, xj]; try rfl) (by first | exact AHeap.set_self _ _ _ | (simp only [AHeap.set, ↓reduceIte, ya, xd, yb, yc, yd, ye, yf, yg, xb, yh]; rfl) | assumption) (by first | exact loadA_scalar agg26 rfl | exact loadA_agg agg26 rfl | exact loadA_scalar agg26 (by assumption)) ?_
  refine al_fun (rCheckG_ok (hv0.mono hτ) hfew) rfl (by simp (disch := omega) only [go_sem, ↓reduceIte, xa, xb, xc, xd, xe, xf, xg, xh, xi, xj]; try rfl) (by kernel_rfl) rfl (by simp (disch := omega) only [go_sem, ↓reduceIte, xa, xb, xc, xd, xe, xf, xg, xh, xi, xj]; try rfl) ?_
  rintro r N2 σ2 ⟨rfl, hle2, hN2⟩
  refine al_pureN 1 (by simp (disch := omega) only [go_sem, ↓reduceIte, xa, xb, xc, xd, xe, xf, xg, xh, xi, xj]; try rfl) ?_
  refine al_end [1, 2, 3, 7] ?_
  have hσ2 := hτ.trans hle2
  have hG2 := hle2 _ _ hG
  by_cases hc : chkE g = 0
  · have hV := valid_of hc
    have hinp := hV.inp
    have hsz := hV.size
    unfold sizeC firstC at hsz
    rw [if_pos hc]
    refine awp_seq ?_
    refine awp_seq (awp_pures [1, 2, 3, 7, 12] (by simp (disch := omega) only [go_sem, ↓reduceIte, xa, xb, xc, xd, xe, xf, xg, xh, xi, xj]; try rfl) ?_)
    refine awp_if rfl (fun h => by cases h) (fun _ => ?_)
    refine awp_skip ?_
    by_cases hn : node < 0 ∨ sizeC g ≤ node
    · have hE : leafE (sizeC g) node l = 1 := by unfold leafE; rw [if_pos hn]
      rw [hE]
      have hc2 : node < 0 ∨ (¬ node < 0 ∧ sizeC g ≤ node) := by omega
      rcases hc2 with hc2 | ⟨hc2, hc3⟩
      all_goals
        refine awp_seq ?_
        first | refine awp_seq (awp_lit ?_) | refine awp_lit ?_ | refine awp_seq (awp_seq (awp_lit ?_))
        refine al_pureN 4 (by simp (disch := omega) only [go_sem, ↓reduceIte, xa, xb, xc, xd, xe, xf, xg, xh, xi, xj]; try rfl) ?_
        first | (refine al_skipB ?_ rfl ?_; focus (simp (disch := omega) only [go_sem, ↓reduceIte, xa, xb, xc, xd, xe, xf, xg, xh, xi, xj]; done)) | refine al_load rfl (by simp (disch := omega) only [go_sem, ↓reduceIte, xa, xb, xc, xd, xe, xf, xg, xh, xi, xj]) rfl (by simp (disch := omega) only [go_sem, ↓reduceIte, xa, xb, xc, xd, xe, xf, xg, xh, xi, xj]; try rfl) (by first | exact AHeap.set_self _ _ _ | (simp only [AHeap.set, ↓reduceIte, ya, xd, yb, yc, yd, ye, yf, yg, xb, yh]; rfl) | assumption) (by first | exact loadA_scalar agg26 rfl | exact loadA_agg agg26 rfl | exact loadA_scalar agg26 (by assumption)) ?_
        first | (refine al_skipB ?_ rfl ?_; focus (simp (disch := omega) only [go_sem, ↓reduceIte, xa, xb, xc, xd, xe, xf, xg, xh, xi, xj]; done)) | refine al_givesC rfl (by simp (disch := omega) only [go_sem, ↓reduceIte, xa, xb, xc, xd, xe, xf, xg, xh, xi, xj]; try rfl) (by simp (disch := omega) only [go_sem, ↓reduceIte, xa, xb, xc, xd, xe, xf, xg, xh, xi, xj]; try rfl) (nodes_gives (hv0.mono hσ2) hfew (by omega) (by omega)) (by kernel_rfl) rfl (by simp (disch := omega) only [go_sem, ↓reduceIte, xa, xb, xc, xd, xe, xf, xg, xh, xi, xj]) ?_
        refine al_pureN 2 (by simp (disch := omega) only [go_sem, ↓reduceIte, xa, xb, xc, xd, xe, xf, xg, xh, xi, xj]; try rfl) ?_
        refine al_end [2, 3, 21] ?_
        refine awp_if rfl (fun _ => ?_) (fun h => by cases h)
        refine awp_seq (awp_pures [6] (by simp (disch := omega) only [go_sem, ↓reduceIte, xa, xb, xc, xd, xe, xf, xg, xh, xi, xj]; try rfl) ?_)
        exact awp_ret ⟨_, rfl, rfl, hσ2, by omega⟩
    refine awp_seq ?_
    first | refine awp_seq (awp_lit ?_) | refine awp_lit ?_ | refine awp_seq (awp_seq (awp_lit ?_))
    refine al_pureN 4 (by simp (disch := omega) only [go_sem, ↓reduceIte, xa, xb, xc, xd, xe, xf, xg, xh, xi, xj]; try rfl) ?_
    first | (refine al_skipB ?_ rfl ?_; focus (simp (disch := omega) only [go_sem, ↓reduceIte, xa, xb, xc, xd, xe, xf, xg, xh, xi, xj]; done)) | refine al_load rfl (by simp (disch := omega) only [go_sem, ↓reduceIte, xa, xb, xc, xd, xe, xf, xg, xh, xi, xj]) rfl (by simp (disch := omega) only [go_sem, ↓reduceIte, xa, xb, xc, xd, xe, xf, xg, xh, xi, xj]; try rfl) (by first | exact AHeap.set_self _ _ _ | (simp only [AHeap.set, ↓reduceIte, ya, xd, yb, yc, yd, ye, yf, yg, xb, yh]; rfl) | assumption) (by first | exact loadA_scalar agg26 rfl | exact loadA_agg agg26 rfl | exact loadA_scalar agg26 (by assumption)) ?_
    first | (refine al_skipB ?_ rfl ?_; focus (simp (disch := omega) only [go_sem, ↓reduceIte, xa, xb, xc, xd, xe, xf, xg, xh, xi, xj]; done)) | refine al_givesC rfl (by simp (disch := omega) only [go_sem, ↓reduceIte, xa, xb, xc, xd, xe, xf, xg, xh, xi, xj]; try rfl) (by simp (disch := omega) only [go_sem, ↓reduceIte, xa, xb, xc, xd, xe, xf, xg, xh, xi, xj]; try rfl) (nodes_gives (hv0.mono hσ2) hfew (by omega) (by omega)) (by kernel_rfl) rfl (by simp (disch := omega) only [go_sem, ↓reduceIte, xa, xb, xc, xd, xe, xf, xg, xh, xi, xj]) ?_
    refine al_pureN 2 (by simp (disch := omega) only [go_sem, ↓reduceIte, xa, xb, xc, xd, xe, xf, xg, xh, xi, xj]; try rfl) ?_
    refine al_end [2, 3, 21] ?_
    refine awp_if rfl (fun h => by cases h) (fun _ => ?_)
    refine awp_skip ?_
    by_cases h4 : 4 < (l.length : Int)
    · have hE : leafE (sizeC g) node l = 5 := by unfold leafE; rw [if_neg hn, if_pos h4]
      rw [hE]
      refine awp_seq ?_
      refine awp_seq (awp_pures [2, 3, 24] (by simp (disch := omega) only [go_sem, ↓reduceIte, xa, xb, xc, xd, xe, xf, xg, xh, xi, xj]; try rfl) ?_)
      refine awp_if rfl (fun _ => ?_) (fun h => by cases h)
      refine awp_seq (awp_pures [6] (by simp (disch := omega) only [go_sem, ↓reduceIte, xa, xb, xc, xd, xe, xf, xg, xh, xi, xj]; try rfl) ?_)
      exact awp_ret ⟨_, rfl, rfl, hσ2, by omega⟩
    have hE : leafE (sizeC g) node l = lfGo (sizeC g) 0 l := by unfold leafE; rw [if_neg hn, if_neg h4]
    rw [hE]
    refine awp_seq ?_
    refine awp_seq (awp_pures [2, 3, 24] (by simp (disch := omega) only [go_sem, ↓reduceIte, xa, xb, xc, xd, xe, xf, xg, xh, xi, xj]; try rfl) ?_)
    refine awp_if rfl (fun h => by cases h) (fun _ => ?_)
    refine awp_skip ?_
    refine awp_seq ?_
    refine awp_seq (awp_pures [2, 3, 8] (by simp (disch := omega) only [go_sem, ↓reduceIte, xa, xb, xc, xd, xe, xf, xg, xh, xi, xj]; try rfl) ?_)
    refine awp_block (awp_loop ?_)
    refine ALoop.cast3 (aloop_ind (α := Nat) (fun a => a ≤ l.length ∧ lfGo (sizeC g) 0 l = lfGo (sizeC g) (if a = 0 then 0 else l.getD (a - 1) 0) (l.drop a) ∧ (a ≠ 0 → 1 ≤ l.getD (a - 1) 0)) (fun a => l.length - a)
      (fun a => [(2, .slice sb l.length sc), (3, .pointer (some ⟨N, 0, none⟩)), (8, .int .i64 a)]) (fun _ => N2) (fun _ => σ2) ?_ 0 ⟨Nat.zero_le _, rfl, fun h => absurd rfl h⟩) rfl rfl rfl
    rintro j ⟨hj, hpre, hpos⟩ ih
    by_cases hlt : j < l.length
    · refine awp_seq ?_
      refine awp_seq (awp_pures [2, 3, 8, 28] (by simp (disch := omega) only [go_sem, ↓reduceIte, xa, xb, xc, xd, xe, xf, xg, xh, xi, xj]; try rfl) ?_)
      refine awp_if rfl (fun _ => ?_) (fun h => by cases h)
      refine awp_skip ?_
      refine awp_seq (awp_block ?_)
      obtain ⟨id, off, cap, b, e1, e2, e3, e4⟩ := slAt_int (hl.mono hσ2) hlt
      cases e1
      have hgj : l.getD j 0 = l[j] := by rw [List.getD_eq_getElem?_getD, List.getElem?_eq_getElem hlt]; rfl
      rw [lfGo_drop hlt] at hpre
      obtain ⟨x, hx⟩ : ∃ x, x = l[j] := ⟨_, rfl⟩
      rw [← hx] at hpre e3 hgj
      cases j with
      | zero =>
        rw [if_pos rfl] at hpre
        by_cases hok : 1 ≤ x ∧ x < sizeC g
        · rw [if_neg (by omega)] at hpre
          refine awp_seq (awp_quiet [2, 3, 8, 60] (by kernel_rfl) fun hNq => ?_)
          refine tq_pures 3 (by simp (disch := omega) only [go_sem, ↓reduceIte, xa, xb, xc, xd, xe, xf, xg, xh, xi, xj]; try rfl) ?_
          refine tq_load hNq rfl (by simp (disch := omega) only [go_sem, ↓reduceIte, xa, xb, xc, xd, xe, xf, xg, xh, xi, xj]; try rfl) rfl (by simp (disch := omega) only [go_sem, ↓reduceIte, xa, xb, xc, xd, xe, xf, xg, xh, xi, xj]; try rfl) e2 (⟨_, e4⟩) (loadA_scalar agg3 e3) ?_
          refine tq_pures 4 (by simp (disch := omega) only [go_sem, ↓reduceIte, xa, xb, xc, xd, xe, xf, xg, xh, xi, xj]; try rfl) ?_
          refine tq_pures 1 (by simp (disch := omega) only [go_sem, ↓reduceIte, xa, xb, xc, xd, xe, xf, xg, xh, xi, xj]; try rfl) ?_
          first | (refine tq_skipB ?_ rfl ?_; focus (simp (disch := omega) only [go_sem, ↓reduceIte, xa, xb, xc, xd, xe, xf, xg, xh, xi, xj]; done)) | refine tq_load hNq rfl (by simp (disch := omega) only [go_sem, ↓reduceIte, xa, xb, xc, xd, xe, xf, xg, xh, xi, xj]; try rfl) rfl (by simp (disch := omega) only [go_sem, ↓reduceIte, xa, xb, xc, xd, xe, xf, xg, xh, xi, xj]; try rfl) e2 (⟨_, e4⟩) (loadA_scalar agg3 e3) ?_
          first | (refine tq_skipB ?_ rfl ?_; focus (simp (disch := omega) only [go_sem, ↓reduceIte, xa, xb, xc, xd, xe, xf, xg, xh, xi, xj]; done)) | refine tq_load hNq rfl (by simp (disch := omega) only [go_sem, ↓reduceIte, xa, xb, xc, xd, xe, xf, xg, xh, xi, xj]; try rfl) rfl (by simp (disch := omega) only [go_sem, ↓reduceIte, xa, xb, xc, xd, xe, xf, xg, xh, xi, xj]; try rfl) (by first | exact AHeap.set_self _ _ _ | (simp only [AHeap.set, ↓reduceIte, ya, xd, yb, yc, yd, ye, yf, yg, xb, yh]; rfl) | assumption) ⟨_, rfl⟩ (by first | exact loadA_scalar agg26 rfl | exact loadA_agg agg26 rfl | exact loadA_scalar agg26 (by assumption)) ?_
          first | (refine tq_skipB ?_ rfl ?_; focus (simp (disch := omega) only [go_sem, ↓reduceIte, xa, xb, xc, xd, xe, xf, xg, xh, xi, xj]; done)) | refine tq_givesC rfl (by simp (disch := omega) only [go_sem, ↓reduceIte, xa, xb, xc, xd, xe, xf, xg, xh, xi, xj]; try rfl) (by simp (disch := omega) only [go_sem, ↓reduceIte, xa, xb, xc, xd, xe, xf, xg, xh, xi, xj]; try rfl) (fun m => nodes_gives (AigAt.qv hNq (hv0.mono hσ2)) hfew (by omega) (by omega)) (by kernel_rfl) rfl (by simp (disch := omega) only [go_sem, ↓reduceIte, xa, xb, xc, xd, xe, xf, xg, xh, xi, xj]) ?_
          refine tq_pures 4 (by simp (disch := omega) only [go_sem, ↓reduceIte, xa, xb, xc, xd, xe, xf, xg, xh, xi, xj]; try rfl) ?_
          refine tq_pures 3 (by simp (disch := omega) only [go_sem, ↓reduceIte, xa, xb, xc, xd, xe, xf, xg, xh, xi, xj]; try rfl) ?_
          refine tq_pures 2 (by simp (disch := omega) only [go_sem, ↓reduceIte, xa, xb, xc, xd, xe, xf, xg, xh, xi, xj]; try rfl) ?_
          first | (refine tq_skipB ?_ rfl ?_; focus (simp (disch := omega) only [go_sem, ↓reduceIte, xa, xb, xc, xd, xe, xf, xg, xh, xi, xj]; done)) | refine tq_load hNq rfl (by simp (disch := omega) only [go_sem, ↓reduceIte, xa, xb, xc, xd, xe, xf, xg, xh, xi, xj]; try rfl) rfl (by simp (disch := omega) only [go_sem, ↓reduceIte, xa, xb, xc, xd, xe, xf, xg, xh, xi, xj]; try rfl) e2 (⟨_, e4⟩) (loadA_scalar agg3 e3) ?_
          refine tq_pures 3 (by simp (disch := omega) only [go_sem, ↓reduceIte, xa, xb, xc, xd, xe, xf, xg, xh, xi, xj]; try rfl) ?_
          refine tq_pures 1 (by simp (disch := omega) only [go_sem, ↓reduceIte, xa, xb, xc, xd, xe, xf, xg, xh, xi, xj]; try rfl) ?_
          first | (refine tq_skipB ?_ rfl ?_; focus (simp (disch := omega) only [go_sem, ↓reduceIte, xa, xb, xc, xd, xe, xf, xg, xh, xi, xj]; done)) | refine tq_load hNq rfl (by simp (disch := omega) only [go_sem, ↓reduceIte, xa, xb, xc, xd, xe, xf, xg, xh, xi, xj]; try rfl) rfl (by simp (disch := omega) only [go_sem, ↓reduceIte, xa, xb, xc, xd, xe, xf, xg, xh, xi, xj]; try rfl) e2 (⟨_, e4⟩) (loadA_scalar agg3 e3) ?_
          refine tq_pures 3 (by simp (disch := omega) only [go_sem, ↓reduceIte, xa, xb, xc, xd, xe, xf, xg, xh, xi, xj]; try rfl) ?_
          refine tq_end ?_
          refine awp_if rfl (fun h => by cases h) (fun _ => ?_)
          refine awp_skip ?_
          refine awp_pures [2, 3, 8] (by simp (disch := omega) only [go_sem, ↓reduceIte, xa, xb, xc, xd, xe, xf, xg, xh, xi, xj]; try rfl) ?_
          refine ALoop.cast3 (ih 1 ⟨hlt, ?_, fun _ => ?_⟩ (by omega)) rfl rfl rfl
          · rw [if_neg (by omega), show 1 - 1 = 0 from rfl, hgj]; exact hpre
          · rw [show 1 - 1 = 0 from rfl, hgj]; exact hok.1
        · rw [if_pos (by omega)] at hpre
          rw [hpre]
          have hc2 : x < 1 ∨ (1 ≤ x ∧ sizeC g ≤ x) := by omega
          rcases hc2 with hc2 | ⟨hc2, hc3⟩
          all_goals
            refine awp_seq (awp_quiet [2, 3, 8, 60] (by kernel_rfl) fun hNq => ?_)
            refine tq_pures 3 (by simp (disch := omega) only [go_sem, ↓reduceIte, xa, xb, xc, xd, xe, xf, xg, xh, xi, xj]; try rfl) ?_
            refine tq_load hNq rfl (by simp (disch := omega) only [go_sem, ↓reduceIte, xa, xb, xc, xd, xe, xf, xg, xh, xi, xj]; try rfl) rfl (by simp (disch := omega) only [go_sem, ↓reduceIte, xa, xb, xc, xd, xe, xf, xg, xh, xi, xj]; try rfl) e2 (⟨_, e4⟩) (loadA_scalar agg3 e3) ?_
            refine tq_pures 4 (by simp (disch := omega) only [go_sem, ↓reduceIte, xa, xb, xc, xd, xe, xf, xg, xh, xi, xj]; try rfl) ?_
            refine tq_pures 1 (by simp (disch := omega) only [go_sem, ↓reduceIte, xa, xb, xc, xd, xe, xf, xg, xh, xi, xj]; try rfl) ?_
            first | (refine tq_skipB ?_ rfl ?_; focus (simp (disch := omega) only [go_sem, ↓reduceIte, xa, xb, xc, xd, xe, xf, xg, xh, xi, xj]; done)) | refine tq_load hNq rfl (by simp (disch := omega) only [go_sem, ↓reduceIte, xa, xb, xc, xd, xe, xf, xg, xh, xi, xj]; try rfl) rfl (by simp (disch := omega) only [go_sem, ↓reduceIte, xa, xb, xc, xd, xe, xf, xg, xh, xi, xj]; try rfl) e2 (⟨_, e4⟩) (loadA_scalar agg3 e3) ?_
            first | (refine tq_skipB ?_ rfl ?_; focus (simp (disch := omega) only [go_sem, ↓reduceIte, xa, xb, xc, xd, xe, xf, xg, xh, xi, xj]; done)) | refine tq_load hNq rfl (by simp (disch := omega) only [go_sem, ↓reduceIte, xa, xb, xc, xd, xe, xf, xg, xh, xi, xj]; try rfl) rfl (by simp (disch := omega) only [go_sem, ↓reduceIte, xa, xb, xc, xd, xe, xf, xg, xh, xi, xj]; try rfl) (by first | exact AHeap.set_self _ _ _ | (simp only [AHeap.set, ↓reduceIte, ya, xd, yb, yc, yd, ye, yf, yg, xb, yh]; rfl) | assumption) ⟨_, rfl⟩ (by first | exact loadA_scalar agg26 rfl | exact loadA_agg agg26 rfl | exact loadA_scalar agg26 (by assumption)) ?_
            first | (refine tq_skipB ?_ rfl ?_; focus (simp (disch := omega) only [go_sem, ↓reduceIte, xa, xb, xc, xd, xe, xf, xg, xh, xi, xj]; done)) | refine tq_givesC rfl (by simp (disch := omega) only [go_sem, ↓reduceIte, xa, xb, xc, xd, xe, xf, xg, xh, xi, xj]; try rfl) (by simp (disch := omega) only [go_sem, ↓reduceIte, xa, xb, xc, xd, xe, xf, xg, xh, xi, xj]; try rfl) (fun m => nodes_gives (AigAt.qv hNq (hv0.mono hσ2)) hfew (by omega) (by omega)) (by kernel_rfl) rfl (by simp (disch := omega) only [go_sem, ↓reduceIte, xa, xb, xc, xd, xe, xf, xg, xh, xi, xj]) ?_
            refine tq_pures 4 (by simp (disch := omega) only [go_sem, ↓reduceIte, xa, xb, xc, xd, xe, xf, xg, xh, xi, xj]; try rfl) ?_
            refine tq_pures 3 (by simp (disch := omega) only [go_sem, ↓reduceIte, xa, xb, xc, xd, xe, xf, xg, xh, xi, xj]; try rfl) ?_
            refine tq_pures 2 (by simp (disch := omega) only [go_sem, ↓reduceIte, xa, xb, xc, xd, xe, xf, xg, xh, xi, xj]; try rfl) ?_
            first | (refine tq_skipB ?_ rfl ?_; focus (simp (disch := omega) only [go_sem, ↓reduceIte, xa, xb, xc, xd, xe, xf, xg, xh, xi, xj]; done)) | refine tq_load hNq rfl (by simp (disch := omega) only [go_sem, ↓reduceIte, xa, xb, xc, xd, xe, xf, xg, xh, xi, xj]; try rfl) rfl (by simp (disch := omega) only [go_sem, ↓reduceIte, xa, xb, xc, xd, xe, xf, xg, xh, xi, xj]; try rfl) e2 (⟨_, e4⟩) (loadA_scalar agg3 e3) ?_
            refine tq_pures 3 (by simp (disch := omega) only [go_sem, ↓reduceIte, xa, xb, xc, xd, xe, xf, xg, xh, xi, xj]; try rfl) ?_
            refine tq_pures 1 (by simp (disch := omega) only [go_sem, ↓reduceIte, xa, xb, xc, xd, xe, xf, xg, xh, xi, xj]; try rfl) ?_
            first | (refine tq_skipB ?_ rfl ?_; focus (simp (disch := omega) only [go_sem, ↓reduceIte, xa, xb, xc, xd, xe, xf, xg, xh, xi, xj]; done)) | refine tq_load hNq rfl (by simp (disch := omega) only [go_sem, ↓reduceIte, xa, xb, xc, xd, xe, xf, xg, xh, xi, xj]; try rfl) rfl (by simp (disch := omega) only [go_sem, ↓reduceIte, xa, xb, xc, xd, xe, xf, xg, xh, xi, xj]; try rfl) e2 (⟨_, e4⟩) (loadA_scalar agg3 e3) ?_
            refine tq_pures 3 (by simp (disch := omega) only [go_sem, ↓reduceIte, xa, xb, xc, xd, xe, xf, xg, xh, xi, xj]; try rfl) ?_
            refine tq_end ?_
            refine awp_if rfl (fun _ => ?_) (fun h => by cases h)
            refine awp_seq (awp_pures [6] (by simp (disch := omega) only [go_sem, ↓reduceIte, xa, xb, xc, xd, xe, xf, xg, xh, xi, xj]; try rfl) ?_)
            exact awp_ret ⟨_, rfl, rfl, hσ2, by omega⟩
      | succ k =>
        obtain ⟨id', off', cap', b', f1, f2, f3, f4⟩ := slAt_int (hl.mono hσ2) (show k < l.length by omega)
        cases f1
        obtain ⟨y, hy⟩ : ∃ y, y = l[k] := ⟨_, rfl⟩
        have hgk : l.getD k 0 = y := by rw [List.getD_eq_getElem?_getD, List.getElem?_eq_getElem (by omega), hy]; rfl
        rw [← hy] at f3
        have hpos : 1 ≤ y := hgk ▸ hpos (by omega)
        have hq : (if k + 1 = 0 then 0 else l.getD (k + 1 - 1) 0) = y := by rw [if_neg (by omega)]; exact hgk
        rw [hq] at hpre
        have hk : ((k + 1 : Nat) : Int) - 1 = (k : Int) := by omega
        by_cases hok : x < sizeC g ∧ y < x
        · rw [if_neg (by omega)] at hpre
          refine awp_seq (awp_quiet [2, 3, 8, 60] (by kernel_rfl) fun hNq => ?_)
          refine tq_pures 3 (by simp (disch := omega) only [go_sem, ↓reduceIte, xa, xb, xc, xd, xe, xf, xg, xh, xi, xj, hk]; try rfl) ?_
          refine tq_load hNq rfl (by simp (disch := omega) only [go_sem, ↓reduceIte, xa, xb, xc, xd, xe, xf, xg, xh, xi, xj, hk]; try rfl) rfl (by simp (disch := omega) only [go_sem, ↓reduceIte, xa, xb, xc, xd, xe, xf, xg, xh, xi, xj, hk]; try rfl) e2 (⟨_, e4⟩) (loadA_scalar agg3 e3) ?_
          refine tq_pures 4 (by simp (disch := omega) only [go_sem, ↓reduceIte, xa, xb, xc, xd, xe, xf, xg, xh, xi, xj, hk]; try rfl) ?_
          refine tq_pures 1 (by simp (disch := omega) only [go_sem, ↓reduceIte, xa, xb, xc, xd, xe, xf, xg, xh, xi, xj, hk]; try rfl) ?_
          first | (refine tq_skipB ?_ rfl ?_; focus (simp (disch := omega) only [go_sem, ↓reduceIte, xa, xb, xc, xd, xe, xf, xg, xh, xi, xj, hk]; done)) | refine tq_load hNq rfl (by simp (disch := omega) only [go_sem, ↓reduceIte, xa, xb, xc, xd, xe, xf, xg, xh, xi, xj, hk]; try rfl) rfl (by simp (disch := omega) only [go_sem, ↓reduceIte, xa, xb, xc, xd, xe, xf, xg, xh, xi, xj, hk]; try rfl) e2 (⟨_, e4⟩) (loadA_scalar agg3 e3) ?_
          first | (refine tq_skipB ?_ rfl ?_; focus (simp (disch := omega) only [go_sem, ↓reduceIte, xa, xb, xc, xd, xe, xf, xg, xh, xi, xj, hk]; done)) | refine tq_load hNq rfl (by simp (disch := omega) only [go_sem, ↓reduceIte, xa, xb, xc, xd, xe, xf, xg, xh, xi, xj, hk]; try rfl) rfl (by simp (disch := omega) only [go_sem, ↓reduceIte, xa, xb, xc, xd, xe, xf, xg, xh, xi, xj, hk]; try rfl) (by first | exact AHeap.set_self _ _ _ | (simp only [AHeap.set, ↓reduceIte, ya, xd, yb, yc, yd, ye, yf, yg, xb, yh, hk]; rfl) | assumption) ⟨_, rfl⟩ (by first | exact loadA_scalar agg26 rfl | exact loadA_agg agg26 rfl | exact loadA_scalar agg26 (by assumption)) ?_
          first | (refine tq_skipB ?_ rfl ?_; focus (simp (disch := omega) only [go_sem, ↓reduceIte, xa, xb, xc, xd, xe, xf, xg, xh, xi, xj, hk]; done)) | refine tq_givesC rfl (by simp (disch := omega) only [go_sem, ↓reduceIte, xa, xb, xc, xd, xe, xf, xg, xh, xi, xj, hk]; try rfl) (by simp (disch := omega) only [go_sem, ↓reduceIte, xa, xb, xc, xd, xe, xf, xg, xh, xi, xj, hk]; try rfl) (fun m => nodes_gives (AigAt.qv hNq (hv0.mono hσ2)) hfew (by omega) (by omega)) (by kernel_rfl) rfl (by simp (disch := omega) only [go_sem, ↓reduceIte, xa, xb, xc, xd, xe, xf, xg, xh, xi, xj, hk]) ?_
          refine tq_pures 4 (by simp (disch := omega) only [go_sem, ↓reduceIte, xa, xb, xc, xd, xe, xf, xg, xh, xi, xj, hk]; try rfl) ?_
          refine tq_pures 3 (by simp (disch := omega) only [go_sem, ↓reduceIte, xa, xb, xc, xd, xe, xf, xg, xh, xi, xj, hk]; try rfl) ?_
          refine tq_pures 2 (by simp (disch := omega) only [go_sem, ↓reduceIte, xa, xb, xc, xd, xe, xf, xg, xh, xi, xj, hk]; try rfl) ?_
          first | (refine tq_skipB ?_ rfl ?_; focus (simp (disch := omega) only [go_sem, ↓reduceIte, xa, xb, xc, xd, xe, xf, xg, xh, xi, xj, hk]; done)) | refine tq_load hNq rfl (by simp (disch := omega) only [go_sem, ↓reduceIte, xa, xb, xc, xd, xe, xf, xg, xh, xi, xj, hk]; try rfl) rfl (by simp (disch := omega) only [go_sem, ↓reduceIte, xa, xb, xc, xd, xe, xf, xg, xh, xi, xj, hk]; try rfl) e2 (⟨_, e4⟩) (loadA_scalar agg3 e3) ?_
          refine tq_pures 3 (by simp (disch := omega) only [go_sem, ↓reduceIte, xa, xb, xc, xd, xe, xf, xg, xh, xi, xj, hk]; try rfl) ?_
          refine tq_pures 1 (by simp (disch := omega) only [go_sem, ↓reduceIte, xa, xb, xc, xd, xe, xf, xg, xh, xi, xj, hk]; try rfl) ?_
          first | (refine tq_skipB ?_ rfl ?_; focus (simp (disch := omega) only [go_sem, ↓reduceIte, xa, xb, xc, xd, xe, xf, xg, xh, xi, xj, hk]; done)) | refine tq_load hNq rfl (by simp (disch := omega) only [go_sem, ↓reduceIte, xa, xb, xc, xd, xe, xf, xg, xh, xi, xj, hk]; try rfl) rfl (by simp (disch := omega) only [go_sem, ↓reduceIte, xa, xb, xc, xd, xe, xf, xg, xh, xi, xj, hk]; try rfl) f2 (⟨_, f4⟩) (loadA_scalar agg3 f3) ?_
          refine tq_pures 3 (by simp (disch := omega) only [go_sem, ↓reduceIte, xa, xb, xc, xd, xe, xf, xg, xh, xi, xj, hk]; try rfl) ?_
          refine tq_end ?_
          refine awp_if rfl (fun h => by cases h) (fun _ => ?_)
          refine awp_skip ?_
          refine awp_pures [2, 3, 8] (by simp (disch := omega) only [go_sem, ↓reduceIte, xa, xb, xc, xd, xe, xf, xg, xh, xi, xj]; try rfl) ?_
          refine ALoop.cast3 (ih (k + 2) ⟨by omega, ?_, fun _ => ?_⟩ (by omega)) rfl rfl rfl
          · rw [if_neg (by omega), show k + 2 - 1 = k + 1 from rfl, hgj]; exact hpre
          · rw [show k + 2 - 1 = k + 1 from rfl, hgj]; omega
        · rw [if_pos (by omega)] at hpre
          rw [hpre]
          have hc2 : x < 1 ∨ (1 ≤ x ∧ sizeC g ≤ x) ∨ (1 ≤ x ∧ x < sizeC g ∧ x ≤ y) := by omega
          rcases hc2 with hc2 | ⟨hc2, hc3⟩ | ⟨hc2, hc3, hc4⟩
          all_goals
            refine awp_seq (awp_quiet [2, 3, 8, 60] (by kernel_rfl) fun hNq => ?_)
            refine tq_pures 3 (by simp (disch := omega) only [go_sem, ↓reduceIte, xa, xb, xc, xd, xe, xf, xg, xh, xi, xj, hk]; try rfl) ?_
            refine tq_load hNq rfl (by simp (disch := omega) only [go_sem, ↓reduceIte, xa, xb, xc, xd, xe, xf, xg, xh, xi, xj, hk]; try rfl) rfl (by simp (disch := omega) only [go_sem, ↓reduceIte, xa, xb, xc, xd, xe, xf, xg, xh, xi, xj, hk]; try rfl) e2 (⟨_, e4⟩) (loadA_scalar agg3 e3) ?_
            refine tq_pures 4 (by simp (disch := omega) only [go_sem, ↓reduceIte, xa, xb, xc, xd, xe, xf, xg, xh, xi, xj, hk]; try rfl) ?_
            refine tq_pures 1 (by simp (disch := omega) only [go_sem, ↓reduceIte, xa, xb, xc, xd, xe, xf, xg, xh, xi, xj, hk]; try rfl) ?_
            first | (refine tq_skipB ?_ rfl ?_; focus (simp (disch := omega) only [go_sem, ↓reduceIte, xa, xb, xc, xd, xe, xf, xg, xh, xi, xj, hk]; done)) | refine tq_load hNq rfl (by simp (disch := omega) only [go_sem, ↓reduceIte, xa, xb, xc, xd, xe, xf, xg, xh, xi, xj, hk]; try rfl) rfl (by simp (disch := omega) only [go_sem, ↓reduceIte, xa, xb, xc, xd, xe, xf, xg, xh, xi, xj, hk]; try rfl) e2 (⟨_, e4⟩) (loadA_scalar agg3 e3) ?_
            first | (refine tq_skipB ?_ rfl ?_; focus (simp (disch := omega) only [go_sem, ↓reduceIte, xa, xb, xc, xd, xe, xf, xg, xh, xi, xj, hk]; done)) | refine tq_load hNq rfl (by simp (disch := omega) only [go_sem, ↓reduceIte, xa, xb, xc, xd, xe, xf, xg, xh, xi, xj, hk]; try rfl) rfl (by simp (disch := omega) only [go_sem, ↓reduceIte, xa, xb, xc, xd, xe, xf, xg, xh, xi, xj, hk]; try rfl) (by first | exact AHeap.set_self _ _ _ | (simp only [AHeap.set, ↓reduceIte, ya, xd, yb, yc, yd, ye, yf, yg, xb, yh, hk]; rfl) | assumption) ⟨_, rfl⟩ (by first | exact loadA_scalar agg26 rfl | exact loadA_agg agg26 rfl | exact loadA_scalar agg26 (by assumption)) ?_
            first | (refine tq_skipB ?_ rfl ?_; focus (simp (disch := omega) only [go_sem, ↓reduceIte, xa, xb, xc, xd, xe, xf, xg, xh, xi, xj, hk]; done)) | refine tq_givesC rfl (by simp (disch := omega) only [go_sem, ↓reduceIte, xa, xb, xc, xd, xe, xf, xg, xh, xi, xj, hk]; try rfl) (by simp (disch := omega) only [go_sem, ↓reduceIte, xa, xb, xc, xd, xe, xf, xg, xh, xi, xj, hk]; try rfl) (fun m => nodes_gives (AigAt.qv hNq (hv0.mono hσ2)) hfew (by omega) (by omega)) (by kernel_rfl) rfl (by simp (disch := omega) only [go_sem, ↓reduceIte, xa, xb, xc, xd, xe, xf, xg, xh, xi, xj, hk]) ?_
            refine tq_pures 4 (by simp (disch := omega) only [go_sem, ↓reduceIte, xa, xb, xc, xd, xe, xf, xg, xh, xi, xj, hk]; try rfl) ?_
            refine tq_pures 3 (by simp (disch := omega) only [go_sem, ↓reduceIte, xa, xb, xc, xd, xe, xf, xg, xh, xi, xj, hk]; try rfl) ?_
            refine tq_pures 2 (by simp (disch := omega) only [go_sem, ↓reduceIte, xa, xb, xc, xd, xe, xf, xg, xh, xi, xj, hk]; try rfl) ?_
            first | (refine tq_skipB ?_ rfl ?_; focus (simp (disch := omega) only [go_sem, ↓reduceIte, xa, xb, xc, xd, xe, xf, xg, xh, xi, xj, hk]; done)) | refine tq_load hNq rfl (by simp (disch := omega) only [go_sem, ↓reduceIte, xa, xb, xc, xd, xe, xf, xg, xh, xi, xj, hk]; try rfl) rfl (by simp (disch := omega) only [go_sem, ↓reduceIte, xa, xb, xc, xd, xe, xf, xg, xh, xi, xj, hk]; try rfl) e2 (⟨_, e4⟩) (loadA_scalar agg3 e3) ?_
            refine tq_pures 3 (by simp (disch := omega) only [go_sem, ↓reduceIte, xa, xb, xc, xd, xe, xf, xg, xh, xi, xj, hk]; try rfl) ?_
            refine tq_pures 1 (by simp (disch := omega) only [go_sem, ↓reduceIte, xa, xb, xc, xd, xe, xf, xg, xh, xi, xj, hk]; try rfl) ?_
            first | (refine tq_skipB ?_ rfl ?_; focus (simp (disch := omega) only [go_sem, ↓reduceIte, xa, xb, xc, xd, xe, xf, xg, xh, xi, xj, hk]; done)) | refine tq_load hNq rfl (by simp (disch := omega) only [go_sem, ↓reduceIte, xa, xb, xc, xd, xe, xf, xg, xh, xi, xj, hk]; try rfl) rfl (by simp (disch := omega) only [go_sem, ↓reduceIte, xa, xb, xc, xd, xe, xf, xg, xh, xi, xj, hk]; try rfl) f2 (⟨_, f4⟩) (loadA_scalar agg3 f3) ?_
            refine tq_pures 3 (by simp (disch := omega) only [go_sem, ↓reduceIte, xa, xb, xc, xd, xe, xf, xg, xh, xi, xj, hk]; try rfl) ?_
            refine tq_end ?_
            refine awp_if rfl (fun _ => ?_) (fun h => by cases h)
            refine awp_seq (awp_pures [6] (by simp (disch := omega) only [go_sem, ↓reduceIte, xa, xb, xc, xd, xe, xf, xg, xh, xi, xj]; try rfl) ?_)
            exact awp_ret ⟨_, rfl, rfl, hσ2, by omega⟩
    · have hjm : j = l.length := by omega
      rw [hpre, hjm, lfGo_end]
      refine awp_seq ?_
      refine awp_seq (awp_pures [2, 3, 8, 28] (by simp (disch := omega) only [go_sem, ↓reduceIte, xa, xb, xc, xd, xe, xf, xg, xh, xi, xj]; try rfl) ?_)
      refine awp_if rfl (fun h => by cases h) (fun _ => ?_)
      refine awp_exit ?_
      simp only [Go.Abs.Seq, Go.Abs.Round, Go.Abs.InBlock, ↓reduceIte]
      refine awp_seq (awp_pures [6] (by simp (disch := omega) only [go_sem, ↓reduceIte, xa, xb, xc, xd, xe, xf, xg, xh, xi, xj]; try rfl) ?_)
      exact awp_ret ⟨_, rfl, rfl, hσ2, by omega⟩
  · rw [if_neg hc]
    refine awp_seq ?_
    refine awp_seq (awp_pures [1, 2, 3, 7, 12] (by simp (disch := omega) only [go_sem, ↓reduceIte, xa, xb, xc, xd, xe, xf, xg, xh, xi, xj]; try rfl) ?_)
    refine awp_if rfl (fun _ => ?_) (fun h => by cases h)
    refine awp_seq (awp_pures [6] (by simp (disch := omega) only [go_sem, ↓reduceIte, xa, xb, xc, xd, xe, xf, xg, xh, xi, xj]; try rfl) ?_)
    exact awp_ret ⟨_, rfl, rfl, hσ2, by omega⟩
end Go.Proofs.Ytfialjllclclkaa

set_option maxHeartbeats 4000000
set_option linter.unusedSimpArgs false
set_option linter.unusedVariables false
namespace Go.Proofs.Ytfialjllclclkaa
open Go.Abs Go.Cut
attribute [local go_sem] Try.underlying26 Try.underlying3 Try.underlying22 Try.underlying23 Try.underlying24 Try.underlying35 Try.underlying43 Try.underlying45 Try.underlying47 Try.underlying5 Try.underlying4 Try.underlying30 Try.underlying56 size26 size3 size22 size23 size24 size35 size43 size45 size47 size5 size4 size30 Nat.mul_one gt_iff_lt ge_iff_le au_add au_sub au_quo au_rem au_lt au_nl au_le au_ne au_bt au_bf au_nt au_nf au_tf au_ft au_wu au_wi undef
open Nat renaming reduceLT → xa, reduceEqDiff → xb, reduceLeDiff → xc, reduceAdd → xd, reduceMul → xe, reduceBEq → xj, add_assoc → ya, add_left_cancel_iff → yb, add_right_cancel_iff → yc, left_eq_add → yd, add_eq_left → ye, add_eq_right → yf, right_eq_add → yg, succ_ne_zero → yh
open Int renaming reduceLT → xf, reduceLE → xg, reduceToNat → xh
open BitVec renaming reduceOfInt → xi
theorem AigAt.mv {σ0 σ : AHeap} {N : Nat} {v : Value} {g : AigD} (h : AigAt σ0 v g) (hN : ∀ i b, σ0 i = some b → i < N) (hle : σ0.le σ) : AigAt (mv N σ) v g := by
  obtain ⟨lv, av, ov, h1, h2, h3, h4⟩ := h
  exact ⟨lv, av, ov, h1, h2.mv hN hle, h3.mv hN hle, h4.mv hN hle⟩
theorem coneR_err {g : AigD} {l : List Int} {node : Int} (h : (if chkE g = 0 then leafE (sizeC g) node l else chkE g) ≠ 0) : ConeR g l node = ([], if chkE g = 0 then leafE (sizeC g) node l else chkE g) := by
  unfold ConeR
  by_cases hc : chkE g = 0
  · rw [if_pos hc] at h ⊢
    have hV := valid_of hc
    have hinp := hV.inp
    have hs : (((firstC g).toNat : Nat) : Int) + g.as.length = sizeC g := by unfold sizeC; rw [Int.toNat_of_nonneg (by unfold firstC; omega)]
    rw [if_pos hc]
    unfold coneE
    rw [hs, if_neg h]
  · rw [if_neg hc, if_neg hc]
theorem rCone_ok {g : AigD} {v lv : Value} {node : Int} {l : List Int} {N : Nat} {σ : AHeap} (hv : AigAt σ v g) (hl : SlAt σ lv (ints l)) (hfew : Few g) :
    AOk Try.prog 17 [v, .int .i64 node, lv] N σ fun r N1 σ1 => ∃ sv, r = .tuple #[sv, .int .i64 (ConeR g l node).2] ∧ OwnAt σ1 N sv (ints (ConeR g l node).1) (ConeR g l node).1.length 1 ∧ σ.le σ1 ∧ N ≤ N1 := by
  have hv0 := hv
  have hl0 := hl
  have hol : ∀ l : List Int, (ints l).length = l.length := fun l => by simp [ints]
  obtain ⟨lb, lc, ab, ac, ob, oc, rfl, hls, has, hos⟩ := hv.opn
  obtain ⟨sb, sc, rfl⟩ := hl.len
  rw [hol] at hl hl0 ⊢
  refine aok_fresh fun hN => aok_body (r := false) (n := 68) Try.func17 rfl rfl (by simp) ?_
  first | refine awp_seq (awp_lit ?_) | refine awp_lit ?_ | refine awp_seq (awp_seq (awp_lit ?_))
  refine al_boxA hN rfl rfl rfl (by simp (disch := omega) only [go_sem, ↓reduceIte, xa, xb, xc, xd, xe, xf, xg, xh, xi, xj]; try rfl) (fun σ1 hτ hG hd1 _ => ?_)
  refine al_pureN 2 (by simp (disch := omega) only [go_sem, ↓reduceIte, xa, xb, xc, xd, xe, xf, xg, xh, xi, xj]; try rfl) ?_
  refine al_end [1, 2, 3] ?_
  first | refine awp_seq (awp_lit ?_) | refine awp_lit ?_ | refine awp_seq (awp_seq (awp_lit ?_))
  refine al_load rfl (by simp (disch := omega) only [go_sem, ↓reduceIte, xa, xb, xc, xd, xe, xf, xg, xh, xi, xj]) rfl (by simp (disch := omega) only [go_sem, ↓reduceIte, xa, xb, xc, xd, xe, xf, xg, xh, xi, xj]; try rfl) (by first | exact AHeap.set_self _ _ _ | (simp only [AHeap.set, ↓reduceIte, ya, xd, yb, yc, yd, ye, yf, yg, xb, yh]; rfl) | assumption) (by first | exact loadA_scalar agg26 rfl | exact loadA_agg agg26 rfl | exact loadA_scalar agg26 (by assumption)) ?_
  refine al_pureN 2 (by simp (disch := omega) only [go_sem, ↓reduceIte, xa, xb, xc, xd, xe, xf, xg, xh, xi, xj]; try rfl) ?_
  refine al_fun (rLeaf_ok (hv0.mono hτ) (hl0.mono hτ) hfew) rfl (by simp (disch := omega) only [go_sem, ↓reduceIte, xa, xb, xc, xd, xe, xf, xg, xh, xi, xj]; try rfl) (by kernel_rfl) rfl (by simp (disch := omega) only [go_sem, ↓reduceIte, xa, xb, xc, xd, xe, xf, xg, xh, xi, xj]; try rfl) ?_
  rintro r N2 σ2 ⟨rfl, hle2, hN2⟩
  refine al_fresh fun hd2 => ?_
  refine al_pureN 1 (by simp (disch := omega) only [go_sem, ↓reduceIte, xa, xb, xc, xd, xe, xf, xg, xh, xi, xj]; try rfl) ?_
  refine al_end [1, 2, 3, 8] ?_
  have hσ2 := hτ.trans hle2
  have hG2 := hle2 _ _ hG
  by_cases he : (if chkE g = 0 then leafE (sizeC g) node l else chkE g) = 0
  · have hc : chkE g = 0 := by
      by_cases hc : chkE g = 0
      · exact hc
      · rw [if_neg hc] at he; exact absurd he hc
    rw [he]
    rw [if_pos hc] at he
    have hV := valid_of hc
    have hinp := hV.inp
    have hsz := hV.size
    obtain ⟨f, hfd⟩ : ∃ f, f = (firstC g).toNat := ⟨_, rfl⟩
    have hF : firstC g = (f : Int) := by unfold firstC at hfd ⊢; omega
    have hf1 : 1 ≤ f := by unfold firstC at hF; omega
    have hnn : sizeC g = ((f + g.as.length : Nat) : Int) := by unfold sizeC; rw [hF]; omega
    have hchk : chkA f g.as = true := by have := hV.ands; rwa [hF] at this
    obtain ⟨n, hn⟩ : ∃ n, n = f + g.as.length := ⟨_, rfl⟩
    rw [← hn] at hnn
    have hinpB : g.inp ≤ 4096 := by unfold sizeC firstC at hsz; omega
    have hn4 : n ≤ 4096 := by omega
    obtain ⟨hnode, hnode2⟩ := leafE_node he
    obtain ⟨m, rfl⟩ : ∃ m : Nat, node = m := ⟨node.toNat, by omega⟩
    have hmn : m < n := by omega
    have hlen : l.length ≤ 1000000 := Nat.le_trans (leafE_len he) (by decide)
    have hR : ConeR g l m = coneR f g.as l m := by
      unfold ConeR coneE
      rw [if_pos hc, ← hfd, if_pos (by rw [← hF]; exact he), Int.toNat_natCast]
    rw [hR]
    refine awp_seq ?_
    refine awp_seq (awp_pures [1, 2, 3, 8, 18] (by simp (disch := omega) only [go_sem, ↓reduceIte, xa, xb, xc, xd, xe, xf, xg, xh, xi, xj]; try rfl) ?_)
    refine awp_if rfl (fun h => by cases h) (fun _ => ?_)
    refine awp_skip ?_
    first | refine awp_seq (awp_lit ?_) | refine awp_lit ?_ | refine awp_seq (awp_seq (awp_lit ?_))
    refine al_load rfl (by simp (disch := omega) only [go_sem, ↓reduceIte, xa, xb, xc, xd, xe, xf, xg, xh, xi, xj, hnn]) rfl (by simp (disch := omega) only [go_sem, ↓reduceIte, xa, xb, xc, xd, xe, xf, xg, xh, xi, xj, hnn]; try rfl) (by first | exact AHeap.set_self _ _ _ | (simp only [AHeap.set, ↓reduceIte, ya, xd, yb, yc, yd, ye, yf, yg, xb, yh, hnn]; rfl) | assumption) (by first | exact loadA_scalar agg26 rfl | exact loadA_agg agg26 rfl | exact loadA_scalar agg26 (by assumption)) ?_
    refine al_gives (vs := ?vs1) (v := ?v1) rfl ?ha1 ?hh1 (by kernel_rfl) rfl (by simp (disch := omega) only [go_sem, ↓reduceIte, xa, xb, xc, xd, xe, xf, xg, xh, xi, xj, hnn]) ?kk1
    case ha1 => simp (disch := omega) only [go_sem, ↓reduceIte, xa, xb, xc, xd, xe, xf, xg, xh, xi, xj, hnn]; try rfl
    case hh1 => exact nodes_gives (hv0.mono hσ2) hfew (by omega) (by omega)
    refine al_makeSlice (len := n) rfl (by simp (disch := omega) only [go_sem, ↓reduceIte, xa, xb, xc, xd, xe, xf, xg, xh, xi, xj, hnn]; try rfl) rfl Try.underlying56 ty4 (by decide) rfl (by decide) (by simp (disch := omega) only [go_sem, ↓reduceIte, xa, xb, xc, xd, xe, xf, xg, xh, xi, xj, hnn]; try rfl) (by simp (disch := omega) only [go_sem, ↓reduceIte, xa, xb, xc, xd, xe, xf, xg, xh, xi, xj, hnn]; try rfl) (by omega) (by omega) ?_
    refine al_pureN 1 (by simp (disch := omega) only [go_sem, ↓reduceIte, xa, xb, xc, xd, xe, xf, xg, xh, xi, xj, hnn]; try rfl) ?_
    refine al_end [1, 2, 3, 9] ?_
    rw [bools_zero]
    first | refine awp_seq (awp_lit ?_) | refine awp_lit ?_ | refine awp_seq (awp_seq (awp_lit ?_))
    refine al_pureN 3 (by simp (disch := omega) only [go_sem, ↓reduceIte, xa, xb, xc, xd, xe, xf, xg, xh, xi, xj]; try rfl) ?_
    refine al_store1 rfl (by simp (disch := omega) only [go_sem, ↓reduceIte, xa, xb, xc, xd, xe, xf, xg, xh, xi, xj]; try rfl) rfl (by simp (disch := omega) only [go_sem, ↓reduceIte, xa, xb, xc, xd, xe, xf, xg, xh, xi, xj]; try rfl) (by simp (disch := omega) only [go_sem, ↓reduceIte, xa, xb, xc, xd, xe, xf, xg, xh, xi, xj]; try rfl) (AHeap.set_self _ _ _) rfl size4 rfl rfl (by show m < (bools _ _).length; rw [bools_len]; omega) ?_
    refine al_end [1, 2, 3, 9] ?_
    rw [AHeap.set_set]
    have hcs : (bools (fun _ => false) n).set m (.bool true) = bools (fun k => k == m) n := by
      rw [bools_set]; congr 1
    show Abs.Seq _ _ _ _ _ _ _ _ (AHeap.set _ N2 ⟨(bools (fun _ => false) n).set m (.bool true), true, .n 1⟩)
    rw [hcs]
    refine awp_seq (awp_pures [1, 2, 3, 9, 10] (by simp (disch := omega) only [go_sem, ↓reduceIte, xa, xb, xc, xd, xe, xf, xg, xh, xi, xj]; try rfl) ?_)
    refine awp_seq ?_
    refine awp_seq (awp_pures [2, 3, 9, 10, 11] (by simp (disch := omega) only [go_sem, ↓reduceIte, xa, xb, xc, xd, xe, xf, xg, xh, xi, xj]; try rfl) ?_)
    refine awp_block (awp_loop ?_)
    refine ALoop.cast3 (aloop_ind (α := ConeSt) (fun a => a.v ≤ m ∧ N2 + 1 ≤ a.M ∧ a.τ N2 = some ⟨bools a.u n, true, 1⟩ ∧ OwnAt a.τ (N2 + 1) a.sv (ints a.out.reverse) a.out.length 1 ∧ σ2.le a.τ ∧ (∀ i b, a.τ i = some b → i < a.M) ∧ a.out.length + a.v ≤ m ∧
        coneL f g.as l m (fun k => k == m) [] = coneL f g.as l a.v a.u a.out) (fun a => a.v)
      (fun a => [(2, .slice sb l.length sc), (3, .pointer (some ⟨N, 0, none⟩)), (9, .slice (some ⟨N2, 0, none⟩) n n), (10, a.sv), (11, .int .i64 a.v)]) (fun a => a.M) (fun a => a.τ) ?_
      ⟨m, fun k => k == m, [], N2 + 1, _, .slice none 0 0⟩ ⟨Nat.le_refl _, Nat.le_refl _, AHeap.set_self _ _ _, .nil, le_new hd2 (Nat.le_refl _), dom_set hd2, by simp, rfl⟩) rfl rfl rfl
    rintro ⟨v, u, out, M, τ, sv⟩ ⟨hv, hM, hU, hout, hτ2, hdM, hol2, hpre⟩ ih
    dsimp only at hv hM hU hout hτ2 hdM hol2 hpre ih ⊢
    have hστ := hσ2.trans hτ2
    have hG3 := hτ2 _ _ hG2
    have hNN2 : N < N2 := by omega
    cases v with
    | zero =>
      refine awp_seq ?_
      refine awp_seq (awp_pures [2, 3, 9, 10, 11, 28] (by simp (disch := omega) only [go_sem, ↓reduceIte, xa, xb, xc, xd, xe, xf, xg, xh, xi, xj]; try rfl) ?_)
      refine awp_if rfl (fun h => by cases h) (fun _ => ?_)
      refine awp_exit ?_
      simp only [Go.Abs.Seq, Go.Abs.Round, Go.Abs.InBlock, ↓reduceIte]
      refine awp_seq (awp_pures [6, 7] (by simp (disch := omega) only [go_sem, ↓reduceIte, xa, xb, xc, xd, xe, xf, xg, xh, xi, xj]; try rfl) ?_)
      have hRR : coneR f g.as l m = (out.reverse, 0) := by unfold coneR; rw [hpre, coneL]
      rw [hRR]
      exact awp_ret ⟨_, res_tt rfl rfl rfl, sv, rfl, by rw [List.length_reverse]; exact hout.mono (fun _ _ _ h => h) (by omega), hστ, by omega⟩
    | succ v =>
      refine awp_seq ?_
      refine awp_seq (awp_pures [2, 3, 9, 10, 11, 28] (by simp (disch := omega) only [go_sem, ↓reduceIte, xa, xb, xc, xd, xe, xf, xg, xh, xi, xj]; try rfl) ?_)
      refine awp_if rfl (fun _ => ?_) (fun h => by cases h)
      refine awp_skip ?_
      refine awp_seq (awp_block ?_)
      have hg := bools_get u (show v + 1 < n by omega)
      by_cases hskip : u (v + 1) = false ∨ ((v + 1 : Nat) : Int) ∈ l
      · have hstep : coneL f g.as l (v + 1) u out = coneL f g.as l v u out := by rw [coneL, if_pos hskip]
        have hv1 : ((v + 1 : Nat) : Int) - 1 = (v : Int) := by omega
        have hc2 : u (v + 1) = false ∨ (u (v + 1) = true ∧ ((v + 1 : Nat) : Int) ∈ l) := by
          cases hu : u (v + 1) with
          | false => exact .inl rfl
          | true => exact .inr ⟨rfl, by simpa [hu] using hskip⟩
        rcases hc2 with hu | ⟨hu, hm⟩
        · refine awp_seq ?_
          first | refine awp_seq (awp_lit ?_) | refine awp_lit ?_ | refine awp_seq (awp_seq (awp_lit ?_))
          refine al_pureN 3 (by simp (disch := omega) only [go_sem, ↓reduceIte, xa, xb, xc, xd, xe, xf, xg, xh, xi, xj, hu]; try rfl) ?_
          refine al_load rfl (by simp (disch := omega) only [go_sem, ↓reduceIte, xa, xb, xc, xd, xe, xf, xg, xh, xi, xj, hu]) rfl (by simp (disch := omega) only [go_sem, ↓reduceIte, xa, xb, xc, xd, xe, xf, xg, xh, xi, xj, hu]; try rfl) hU (loadA_scalar agg4 hg) ?_
          refine al_pureN 4 (by simp (disch := omega) only [go_sem, ↓reduceIte, xa, xb, xc, xd, xe, xf, xg, xh, xi, xj, hu]; try rfl) ?_
          first | (refine al_skipB ?_ rfl ?_; focus (simp (disch := omega) only [go_sem, ↓reduceIte, xa, xb, xc, xd, xe, xf, xg, xh, xi, xj, hu]; done)) | refine al_givesC rfl (by simp (disch := omega) only [go_sem, ↓reduceIte, xa, xb, xc, xd, xe, xf, xg, xh, xi, xj, hu]; try rfl) (by simp (disch := omega) only [go_sem, ↓reduceIte, xa, xb, xc, xd, xe, xf, xg, xh, xi, xj, hu]; try rfl) (Has_gives (hl.mono hστ) hlen) (by kernel_rfl) rfl (by simp (disch := omega) only [go_sem, ↓reduceIte, xa, xb, xc, xd, xe, xf, xg, xh, xi, xj, hu]) ?_
          refine al_pureN 1 (by simp (disch := omega) only [go_sem, ↓reduceIte, xa, xb, xc, xd, xe, xf, xg, xh, xi, xj, hu]; try rfl) ?_
          refine al_end [2, 3, 9, 10, 11, 40] ?_
          refine awp_if rfl (fun _ => ?_) (fun h => by cases h)
          refine awp_exit ?_
          simp only [Go.Abs.Seq, Go.Abs.Round, Go.Abs.InBlock, ↓reduceIte]
          refine awp_pures [2, 3, 9, 10, 11] (by simp (disch := omega) only [go_sem, ↓reduceIte, xa, xb, xc, xd, xe, xf, xg, xh, xi, xj, hv1]; try rfl) ?_
          exact ALoop.cast3 (ih ⟨v, u, out, M, τ, sv⟩ ⟨by dsimp only; omega, hM, hU, hout, hτ2, hdM, by dsimp only; omega, by rw [hpre, hstep]⟩ (by dsimp only; omega)) rfl rfl rfl
        · have hm' : decide (((v + 1 : Nat) : Int) ∈ l) = true := by simpa using hm
          refine awp_seq ?_
          first | refine awp_seq (awp_lit ?_) | refine awp_lit ?_ | refine awp_seq (awp_seq (awp_lit ?_))
          refine al_pureN 3 (by simp (disch := omega) only [go_sem, ↓reduceIte, xa, xb, xc, xd, xe, xf, xg, xh, xi, xj, hu, hm']; try rfl) ?_
          refine al_load rfl (by simp (disch := omega) only [go_sem, ↓reduceIte, xa, xb, xc, xd, xe, xf, xg, xh, xi, xj, hu, hm']) rfl (by simp (disch := omega) only [go_sem, ↓reduceIte, xa, xb, xc, xd, xe, xf, xg, xh, xi, xj, hu, hm']; try rfl) hU (loadA_scalar agg4 hg) ?_
          refine al_pureN 4 (by simp (disch := omega) only [go_sem, ↓reduceIte, xa, xb, xc, xd, xe, xf, xg, xh, xi, xj, hu, hm']; try rfl) ?_
          first | (refine al_skipB ?_ rfl ?_; focus (simp (disch := omega) only [go_sem, ↓reduceIte, xa, xb, xc, xd, xe, xf, xg, xh, xi, xj, hu, hm']; done)) | refine al_givesC rfl (by simp (disch := omega) only [go_sem, ↓reduceIte, xa, xb, xc, xd, xe, xf, xg, xh, xi, xj, hu, hm']; try rfl) (by simp (disch := omega) only [go_sem, ↓reduceIte, xa, xb, xc, xd, xe, xf, xg, xh, xi, xj, hu, hm']; try rfl) (Has_gives (hl.mono hστ) hlen) (by kernel_rfl) rfl (by simp (disch := omega) only [go_sem, ↓reduceIte, xa, xb, xc, xd, xe, xf, xg, xh, xi, xj, hu, hm']) ?_
          refine al_pureN 1 (by simp (disch := omega) only [go_sem, ↓reduceIte, xa, xb, xc, xd, xe, xf, xg, xh, xi, xj, hu, hm']; try rfl) ?_
          refine al_end [2, 3, 9, 10, 11, 40] ?_
          refine awp_if rfl (fun _ => ?_) (fun h => by cases h)
          refine awp_exit ?_
          simp only [Go.Abs.Seq, Go.Abs.Round, Go.Abs.InBlock, ↓reduceIte]
          refine awp_pures [2, 3, 9, 10, 11] (by simp (disch := omega) only [go_sem, ↓reduceIte, xa, xb, xc, xd, xe, xf, xg, xh, xi, xj, hv1]; try rfl) ?_
          exact ALoop.cast3 (ih ⟨v, u, out, M, τ, sv⟩ ⟨by dsimp only; omega, hM, hU, hout, hτ2, hdM, by dsimp only; omega, by rw [hpre, hstep]⟩ (by dsimp only; omega)) rfl rfl rfl
      · have hu : u (v + 1) = true := by
          cases h : u (v + 1) with
          | true => rfl
          | false => exact absurd (.inl h) hskip
        have hm' : decide (((v + 1 : Nat) : Int) ∈ l) = false := by simpa using fun h => hskip (.inr h)
        have hv1 : ((v + 1 : Nat) : Int) - 1 = (v : Int) := by omega
        refine awp_seq ?_
        first | refine awp_seq (awp_lit ?_) | refine awp_lit ?_ | refine awp_seq (awp_seq (awp_lit ?_))
        refine al_pureN 3 (by simp (disch := omega) only [go_sem, ↓reduceIte, xa, xb, xc, xd, xe, xf, xg, xh, xi, xj, hu, hm']; try rfl) ?_
        refine al_load rfl (by simp (disch := omega) only [go_sem, ↓reduceIte, xa, xb, xc, xd, xe, xf, xg, xh, xi, xj, hu, hm']) rfl (by simp (disch := omega) only [go_sem, ↓reduceIte, xa, xb, xc, xd, xe, xf, xg, xh, xi, xj, hu, hm']; try rfl) hU (loadA_scalar agg4 hg) ?_
        refine al_pureN 4 (by simp (disch := omega) only [go_sem, ↓reduceIte, xa, xb, xc, xd, xe, xf, xg, xh, xi, xj, hu, hm']; try rfl) ?_
        first | (refine al_skipB ?_ rfl ?_; focus (simp (disch := omega) only [go_sem, ↓reduceIte, xa, xb, xc, xd, xe, xf, xg, xh, xi, xj, hu, hm']; done)) | refine al_givesC rfl (by simp (disch := omega) only [go_sem, ↓reduceIte, xa, xb, xc, xd, xe, xf, xg, xh, xi, xj, hu, hm']; try rfl) (by simp (disch := omega) only [go_sem, ↓reduceIte, xa, xb, xc, xd, xe, xf, xg, xh, xi, xj, hu, hm']; try rfl) (Has_gives (hl.mono hστ) hlen) (by kernel_rfl) rfl (by simp (disch := omega) only [go_sem, ↓reduceIte, xa, xb, xc, xd, xe, xf, xg, xh, xi, xj, hu, hm']) ?_
        refine al_pureN 1 (by simp (disch := omega) only [go_sem, ↓reduceIte, xa, xb, xc, xd, xe, xf, xg, xh, xi, xj, hu, hm']; try rfl) ?_
        refine al_end [2, 3, 9, 10, 11, 40] ?_
        refine awp_if rfl (fun h => by cases h) (fun _ => ?_)
        refine awp_skip ?_
        by_cases hvf : v + 1 < f
        · refine awp_seq ?_
          first | refine awp_seq (awp_lit ?_) | refine awp_lit ?_ | refine awp_seq (awp_seq (awp_lit ?_))
          refine al_pureN 1 (by simp (disch := omega) only [go_sem, ↓reduceIte, xa, xb, xc, xd, xe, xf, xg, xh, xi, xj, hF]; try rfl) ?_
          refine al_load rfl (by simp (disch := omega) only [go_sem, ↓reduceIte, xa, xb, xc, xd, xe, xf, xg, xh, xi, xj, hF]) rfl (by simp (disch := omega) only [go_sem, ↓reduceIte, xa, xb, xc, xd, xe, xf, xg, xh, xi, xj, hF]; try rfl) (by first | exact AHeap.set_self _ _ _ | (simp only [AHeap.set, ↓reduceIte, ya, xd, yb, yc, yd, ye, yf, yg, xb, yh, hF]; rfl) | assumption) (by first | exact loadA_scalar agg26 rfl | exact loadA_agg agg26 rfl | exact loadA_scalar agg26 (by assumption)) ?_
          refine al_gives (vs := ?vs2) (v := ?v2) rfl ?ha2 ?hh2 (by kernel_rfl) rfl (by simp (disch := omega) only [go_sem, ↓reduceIte, xa, xb, xc, xd, xe, xf, xg, xh, xi, xj, hF]) ?kk2
          case ha2 => simp (disch := omega) only [go_sem, ↓reduceIte, xa, xb, xc, xd, xe, xf, xg, xh, xi, xj, hF]; try rfl
          case hh2 => exact rfirst_gives (hv0.mono hστ) hfew (by omega) (by omega)
          refine al_pureN 1 (by simp (disch := omega) only [go_sem, ↓reduceIte, xa, xb, xc, xd, xe, xf, xg, xh, xi, xj, hF]; try rfl) ?_
          refine al_end [2, 3, 9, 10, 11, 44] ?_
          refine awp_if rfl (fun _ => ?_) (fun h => by cases h)
          refine awp_seq (awp_pures [6, 7] (by simp (disch := omega) only [go_sem, ↓reduceIte, xa, xb, xc, xd, xe, xf, xg, xh, xi, xj]; try rfl) ?_)
          have hRR : coneR f g.as l m = ([], 8) := by unfold coneR; rw [hpre, coneL, if_neg hskip, if_pos hvf]
          rw [hRR]
          exact awp_ret ⟨_, res_tt rfl rfl rfl, .slice none 0 0, rfl, .nil, hστ, by omega⟩
        · refine awp_seq ?_
          first | refine awp_seq (awp_lit ?_) | refine awp_lit ?_ | refine awp_seq (awp_seq (awp_lit ?_))
          refine al_pureN 1 (by simp (disch := omega) only [go_sem, ↓reduceIte, xa, xb, xc, xd, xe, xf, xg, xh, xi, xj, hF]; try rfl) ?_
          refine al_load rfl (by simp (disch := omega) only [go_sem, ↓reduceIte, xa, xb, xc, xd, xe, xf, xg, xh, xi, xj, hF]) rfl (by simp (disch := omega) only [go_sem, ↓reduceIte, xa, xb, xc, xd, xe, xf, xg, xh, xi, xj, hF]; try rfl) (by first | exact AHeap.set_self _ _ _ | (simp only [AHeap.set, ↓reduceIte, ya, xd, yb, yc, yd, ye, yf, yg, xb, yh, hF]; rfl) | assumption) (by first | exact loadA_scalar agg26 rfl | exact loadA_agg agg26 rfl | exact loadA_scalar agg26 (by assumption)) ?_
          refine al_gives (vs := ?vs3) (v := ?v3) rfl ?ha3 ?hh3 (by kernel_rfl) rfl (by simp (disch := omega) only [go_sem, ↓reduceIte, xa, xb, xc, xd, xe, xf, xg, xh, xi, xj, hF]) ?kk3
          case ha3 => simp (disch := omega) only [go_sem, ↓reduceIte, xa, xb, xc, xd, xe, xf, xg, xh, xi, xj, hF]; try rfl
          case hh3 => exact rfirst_gives (hv0.mono hστ) hfew (by omega) (by omega)
          refine al_pureN 1 (by simp (disch := omega) only [go_sem, ↓reduceIte, xa, xb, xc, xd, xe, xf, xg, xh, xi, xj, hF]; try rfl) ?_
          refine al_end [2, 3, 9, 10, 11, 44] ?_
          refine awp_if rfl (fun h => by cases h) (fun _ => ?_)
          refine awp_skip ?_
          obtain ⟨j, hj⟩ : ∃ j, j = v + 1 - f := ⟨_, rfl⟩
          have hjl : j < g.as.length := by omega
          have hjx : ((v + 1 : Nat) : Int) - (f : Int) = (j : Int) := by omega
          obtain ⟨b1, b2, b3, b4⟩ := chkA_get hchk hjl
          have hgd : g.as.getD (v + 1 - f) (0, 0) = g.as[j] := by rw [← hj]; simp [List.getD, hjl]
          have hstep : coneL f g.as l (v + 1) u out = coneL f g.as l v (fun k => u k || (k == g.as[j].1.toNat / 2 || k == g.as[j].2.toNat / 2)) (out ++ [((v + 1 : Nat) : Int)]) := by
            rw [coneL, if_neg hskip, if_neg hvf, hgd]
          obtain ⟨id, off, cap, b, e1, e2, e3, e4⟩ := rowsAt_pair (has.mono hστ) hjl
          cases e1
          refine awp_seq (awp_mk [2, 3, 9, 10, 11, 12] [8] [9] [] (by kernel_rfl) fun hNm => ?_)
          refine mk_pures 1 (by simp (disch := omega) only [go_sem, ↓reduceIte, xa, xb, xc, xd, xe, xf, xg, xh, xi, xj, hF, hjx]; try rfl) (by kernel_rfl) ?_
          refine mk_load rfl (by simp (disch := omega) only [go_sem, ↓reduceIte, xa, xb, xc, xd, xe, xf, xg, xh, xi, xj, hF, hjx]) rfl rfl (by simp (disch := omega) only [go_sem, ↓reduceIte, xa, xb, xc, xd, xe, xf, xg, xh, xi, xj, hF, hjx]; try rfl) (by first | exact AHeap.set_self _ _ _ | (simp only [AHeap.set, ↓reduceIte, ya, xd, yb, yc, yd, ye, yf, yg, xb, yh, hF, hjx]; rfl) | assumption) (by first | exact loadA_scalar agg23 rfl | exact loadA_agg agg23 rfl | exact loadA_scalar agg23 (by assumption)) ⟨_, rfl⟩ (by first | exact calm0 (by omega) | exact calm0 (hNm _ _ (by assumption)) | exact calm1 (by omega) (by omega) | exact calm2 (by omega) (by omega) (by omega) | exact calmA (by omega) (by kernel_rfl)) ?_
          refine mk_pures 1 (by simp (disch := omega) only [go_sem, ↓reduceIte, xa, xb, xc, xd, xe, xf, xg, xh, xi, xj, hF, hjx]; try rfl) (by kernel_rfl) ?_
          refine mk_load rfl (by simp (disch := omega) only [go_sem, ↓reduceIte, xa, xb, xc, xd, xe, xf, xg, xh, xi, xj, hF, hjx]) rfl rfl (by simp (disch := omega) only [go_sem, ↓reduceIte, xa, xb, xc, xd, xe, xf, xg, xh, xi, xj, hF, hjx]; try rfl) (by first | exact AHeap.set_self _ _ _ | (simp only [AHeap.set, ↓reduceIte, ya, xd, yb, yc, yd, ye, yf, yg, xb, yh, hF, hjx]; rfl) | assumption) (by first | exact loadA_scalar agg26 rfl | exact loadA_agg agg26 rfl | exact loadA_scalar agg26 (by assumption)) ⟨_, rfl⟩ (by first | exact calm0 (by omega) | exact calm0 (hNm _ _ (by assumption)) | exact calm1 (by omega) (by omega) | exact calm2 (by omega) (by omega) (by omega) | exact calmA (by omega) (by kernel_rfl)) ?_
          refine mk_gives (fun j => j < M) rfl (by simp (disch := omega) only [go_sem, ↓reduceIte, xa, xb, xc, xd, xe, xf, xg, xh, xi, xj, hF, hjx]; try rfl) (by simp (disch := omega) only [go_sem, ↓reduceIte, xa, xb, xc, xd, xe, xf, xg, xh, xi, xj, hF, hjx]; try rfl) (fun _ h => calm0 h) (fun m => rfirst_gives (AigAt.mv (hv0.mono hστ) hdM (AHeap.le_refl _)) hfew (by omega) (by omega)) (by kernel_rfl) rfl (by simp (disch := omega) only [go_sem, ↓reduceIte, xa, xb, xc, xd, xe, xf, xg, xh, xi, xj, hF, hjx]) rfl ?_
          refine mk_pures 2 (by simp (disch := omega) only [go_sem, ↓reduceIte, xa, xb, xc, xd, xe, xf, xg, xh, xi, xj, hF, hjx]; try rfl) (by kernel_rfl) ?_
          refine mk_load rfl (by simp (disch := omega) only [go_sem, ↓reduceIte, xa, xb, xc, xd, xe, xf, xg, xh, xi, xj, hF, hjx]) rfl rfl (by simp (disch := omega) only [go_sem, ↓reduceIte, xa, xb, xc, xd, xe, xf, xg, xh, xi, xj, hF, hjx]; try rfl) e2 (loadA_agg agg47 e3) ⟨_, e4⟩ (by first | exact calm0 (by omega) | exact calm0 (hNm _ _ (by assumption)) | exact calm1 (by omega) (by omega) | exact calm2 (by omega) (by omega) (by omega) | exact calmA (by omega) (by kernel_rfl)) ?_
          refine mk_alloc 1 (m := (M)) rfl rfl rfl rfl rfl ty47 (by decide) rfl ?_
          refine mk_storeN (d := 8) (w := (M)) (m := (M + 1)) rfl rfl (by simp (disch := omega) only [go_sem, ↓reduceIte, xa, xb, xc, xd, xe, xf, xg, xh, xi, xj, hF, hjx]) rfl (by simp (disch := omega) only [go_sem, ↓reduceIte, xa, xb, xc, xd, xe, xf, xg, xh, xi, xj, hF, hjx]; try rfl) (by simp (disch := omega) only [go_sem, ↓reduceIte, xa, xb, xc, xd, xe, xf, xg, xh, xi, xj, hF, hjx]; try rfl) (by first | exact AHeap.set_self _ _ _ | (simp only [AHeap.set, ↓reduceIte, ya, xd, yb, yc, yd, ye, yf, yg, xb, yh, hF, hjx]; rfl) | assumption) ⟨_, rfl⟩ rfl (by exact size47.trans rfl) (by rfl) (by exact Nat.le_of_ble_eq_true rfl) (by decide) rfl (of_decide_eq_true (by kernel_rfl)) (by kernel_rfl) rfl rfl (by omega) (.of_flat rfl) (by first | exact blk_flat (by decide) | exact blk_flat rfl) ?_
          refine mk_end ?_
          rw [AHeap.set_set]
          show Abs.Seq _ _ _ _ _ _ _ (M + 1) (τ.set M ⟨[.int .i64 g.as[j].1, .int .i64 g.as[j].2], true, .n 1⟩)
          obtain ⟨A, hAe⟩ : ∃ A, A = g.as[j].1 := ⟨_, rfl⟩
          obtain ⟨B, hBe⟩ : ∃ B, B = g.as[j].2 := ⟨_, rfl⟩
          rw [← hAe] at b1 b2 hstep ⊢
          rw [← hBe] at b3 b4 hstep ⊢
          have hle1 := le_new (b := ⟨[.int .i64 A, .int .i64 B], true, .n 1⟩) hdM (Nat.le_refl _)
          have hdM1 := dom_set (b := ⟨[.int .i64 A, .int .i64 B], true, .n 1⟩) hdM
          obtain ⟨τ1, hτ1⟩ : ∃ τ1, τ1 = τ.set M ⟨[.int .i64 A, .int .i64 B], true, .n 1⟩ := ⟨_, rfl⟩
          have hX : τ1 M = some ⟨[.int .i64 A, .int .i64 B], true, .n 1⟩ := by rw [hτ1, AHeap.set_self]
          rw [← hτ1] at hle1 hdM1 ⊢
          have hU1 := hle1 _ _ hU
          have hA2 : (A / 2).toNat = A.toNat / 2 := by omega
          have hB2 : (B / 2).toNat = B.toNat / 2 := by omega
          have hsp1 : splice (bools u n) (A / 2).toNat (spread (.bool true)) = bools (fun k => u k || k == A.toNat / 2) n := by rw [hA2]; exact splice_bools (by omega)
          have hsp2 : splice (bools (fun k => u k || k == A.toNat / 2) n) (B / 2).toNat (spread (.bool true)) = bools (fun k => u k || (k == A.toNat / 2 || k == B.toNat / 2)) n := by
            rw [hB2]
            refine (splice_bools (by omega)).trans ?_
            congr 1; funext k; rw [Bool.or_assoc]
          refine awp_seq (awp_wr [2, 3, 9, 10, 11] (N2) [9, 11] (by kernel_rfl) fun hNq => ?_)
          refine tw_pures 2 (by simp (disch := omega) only [go_sem, ↓reduceIte, xa, xb, xc, xd, xe, xf, xg, xh, xi, xj]; try rfl) ?_
          refine tw_load hNq rfl (by simp (disch := omega) only [go_sem, ↓reduceIte, xa, xb, xc, xd, xe, xf, xg, xh, xi, xj]; try rfl) rfl (by simp (disch := omega) only [go_sem, ↓reduceIte, xa, xb, xc, xd, xe, xf, xg, xh, xi, xj]; try rfl) (by first | exact AHeap.set_self _ _ _ | (simp only [AHeap.set, ↓reduceIte, ya, xd, yb, yc, yd, ye, yf, yg, xb, yh]; rfl) | assumption) ⟨_, rfl⟩ (by omega) (by first | exact loadA_scalar agg43 rfl | exact loadA_agg agg43 rfl | exact loadA_scalar agg43 (by assumption)) ?_
          refine tw_pures 3 (by simp (disch := omega) only [go_sem, ↓reduceIte, xa, xb, xc, xd, xe, xf, xg, xh, xi, xj]; try rfl) ?_
          refine tw_load hNq rfl (by simp (disch := omega) only [go_sem, ↓reduceIte, xa, xb, xc, xd, xe, xf, xg, xh, xi, xj]; try rfl) rfl (by simp (disch := omega) only [go_sem, ↓reduceIte, xa, xb, xc, xd, xe, xf, xg, xh, xi, xj]; try rfl) (by first | exact AHeap.set_self _ _ _ | (simp only [AHeap.set, ↓reduceIte, ya, xd, yb, yc, yd, ye, yf, yg, xb, yh]; rfl) | assumption) ⟨_, rfl⟩ (by omega) (by first | exact loadA_scalar agg43 rfl | exact loadA_agg agg43 rfl | exact loadA_scalar agg43 (by assumption)) ?_
          refine tw_pures 2 (by simp (disch := omega) only [go_sem, ↓reduceIte, xa, xb, xc, xd, xe, xf, xg, xh, xi, xj]; try rfl) ?_
          refine tw_store hNq rfl (by simp (disch := omega) only [go_sem, ↓reduceIte, xa, xb, xc, xd, xe, xf, xg, xh, xi, xj]; try rfl) rfl (by simp (disch := omega) only [go_sem, ↓reduceIte, xa, xb, xc, xd, xe, xf, xg, xh, xi, xj]; try rfl) (by simp (disch := omega) only [go_sem, ↓reduceIte, xa, xb, xc, xd, xe, xf, xg, xh, xi, xj]; try rfl) hU1 ⟨_, rfl⟩ rfl (by exact size4.trans rfl) rfl (by show (A / 2).toNat + 1 ≤ (bools _ _).length; rw [bools_len]; omega) (by decide) (.of_flat rfl) (blk_flat (bools_flat _ _)) fun hNq => ?_
          refine tw_pures 1 (by simp (disch := omega) only [go_sem, ↓reduceIte, xa, xb, xc, xd, xe, xf, xg, xh, xi, xj]; try rfl) ?_
          refine tw_store hNq rfl (by simp (disch := omega) only [go_sem, ↓reduceIte, xa, xb, xc, xd, xe, xf, xg, xh, xi, xj]; try rfl) rfl (by simp (disch := omega) only [go_sem, ↓reduceIte, xa, xb, xc, xd, xe, xf, xg, xh, xi, xj]; try rfl) (by simp (disch := omega) only [go_sem, ↓reduceIte, xa, xb, xc, xd, xe, xf, xg, xh, xi, xj]; try rfl) (AHeap.set_self _ _ _) ⟨_, rfl⟩ rfl (by exact size4.trans rfl) rfl (by show (B / 2).toNat + 1 ≤ (splice (bools _ _) _ _).length; rw [hsp1, bools_len]; omega) (by decide) (.of_flat rfl) (by show BlkBdd _ ⟨splice (bools u n) (A / 2).toNat (spread (.bool true)), true, .n 1⟩; rw [hsp1]; exact blk_flat (bools_flat _ _)) fun hNq => ?_
          refine tw_end ?_
          rw [AHeap.set_set]
          show Abs.Seq _ _ _ _ _ _ _ _ (τ1.set N2 ⟨splice (splice (bools u n) (A / 2).toNat (spread (.bool true))) (B / 2).toNat (spread (.bool true)), true, .n 1⟩)
          rw [hsp1, hsp2]
          obtain ⟨τ2, hτe⟩ : ∃ τ2, τ2 = τ1.set N2 ⟨bools (fun k => u k || (k == A.toNat / 2 || k == B.toNat / 2)) n, true, .n 1⟩ := ⟨_, rfl⟩
          have hU2 : τ2 N2 = some ⟨bools (fun k => u k || (k == A.toNat / 2 || k == B.toNat / 2)) n, true, .n 1⟩ := by rw [hτe, AHeap.set_self]
          have hoth : ∀ i, i ≠ N2 → τ2 i = τ1 i := fun i hi => by rw [hτe, AHeap.set_ne _ _ hi]
          have hdM2 : ∀ i b, τ2 i = some b → i < M + 1 := fun i b hb => by
            by_cases hi : i = N2
            · omega
            · rw [hoth i hi] at hb; exact hdM1 i b hb
          rw [← hτe]
          have hol3 : (ints out.reverse).length = out.length := by rw [hol, List.length_reverse]
          obtain ⟨qb, qc, rfl⟩ := hout.lenV
          have hnl : (ints out.reverse).length = out.length * 1 := by omega
          have hout2 : OwnAt τ2 (N2 + 1) (.slice qb out.length qc) (ints out.reverse) out.length 1 := hout.mono (fun i b hi hb => by rw [hoth i (by omega)]; exact hle1 _ _ hb) (Nat.le_refl _)
          refine awp_lit ?_
          refine al_pureN 1 (by simp (disch := omega) only [go_sem, ↓reduceIte, xa, xb, xc, xd, xe, xf, xg, xh, xi, xj]; try rfl) ?_
          refine al_oneA hdM2 rfl rfl rfl Try.underlying35 ty3 rfl rfl (by simp (disch := omega) only [go_sem, ↓reduceIte, xa, xb, xc, xd, xe, xf, xg, xh, xi, xj]; try rfl) rfl (fun τ3 hle3 hO3 hdM3 => ?_)
          refine al_pureN 1 (by simp (disch := omega) only [go_sem, ↓reduceIte, xa, xb, xc, xd, xe, xf, xg, xh, xi, xj]; try rfl) ?_
          refine al_append_own (lo := M + 1) rfl (by simp (disch := omega) only [go_sem, ↓reduceIte, xa, xb, xc, xd, xe, xf, xg, xh, xi, xj]; try rfl) rfl Try.underlying35 ty3 rfl (by simp (disch := omega) only [go_sem, ↓reduceIte, xa, xb, xc, xd, xe, xf, xg, xh, xi, xj]; try rfl) (by simp (disch := omega) only [go_sem, ↓reduceIte, xa, xb, xc, xd, xe, xf, xg, xh, xi, xj]; try rfl) hO3 (by omega) rfl (hout2.mono (fun i b _ hb => hle3 _ _ hb) (Nat.le_refl _)).slAt.src hnl (by simp [ints, Value.oneCell']) (by omega) (by omega) (fun N' τ4 v' hN' hown' hkeep => al_fresh fun hdN' => ?_)
          refine al_pureN 1 (by simp (disch := omega) only [go_sem, ↓reduceIte, xa, xb, xc, xd, xe, xf, xg, xh, xi, xj]; try rfl) ?_
          refine al_end [2, 3, 9, 10, 11] ?_
          refine awp_pures [2, 3, 9, 10, 11] (by simp (disch := omega) only [go_sem, ↓reduceIte, xa, xb, xc, xd, xe, xf, xg, xh, xi, xj, hv1]; try rfl) ?_
          have hk4 := hkeep τ2 hle3 hdM2
          have hlist : [.int .i64 ((v + 1 : Nat) : Int)] ++ ints out.reverse = ints (out ++ [((v + 1 : Nat) : Int)]).reverse := by simp [ints]
          rw [hlist] at hown'
          have hol4 : 1 + out.length = (out ++ [((v + 1 : Nat) : Int)]).length := by simp; omega
          rw [hol4] at hown'
          refine ALoop.cast3 (ih ⟨v, _, out ++ [((v + 1 : Nat) : Int)], N', τ4, v'⟩ ⟨by dsimp only; omega, by dsimp only; omega, hk4 _ _ hU2, hown'.mono (fun _ _ _ h => h) (by omega), ?_, hdN', by simp; omega, hpre.trans hstep⟩ (by dsimp only; omega)) rfl rfl rfl
          intro i b hb
          refine hk4 _ _ ?_
          rw [hoth i (by have := hd2 i b hb; omega)]
          exact hle1 _ _ (hτ2 _ _ hb)
  · rw [coneR_err he]
    refine awp_seq ?_
    refine awp_seq (awp_pures [1, 2, 3, 8, 18] (by simp (disch := omega) only [go_sem, ↓reduceIte, xa, xb, xc, xd, xe, xf, xg, xh, xi, xj]; try rfl) ?_)
    refine awp_if rfl (fun _ => ?_) (fun h => by cases h)
    refine awp_seq (awp_pures [6, 7] (by simp (disch := omega) only [go_sem, ↓reduceIte, xa, xb, xc, xd, xe, xf, xg, xh, xi, xj]; try rfl) ?_)
    exact awp_ret ⟨_, res_tt rfl rfl rfl, .slice none 0 0, rfl, .nil, hσ2, by omega⟩
end Go.Proofs.Ytfialjllclclkaa

set_option maxHeartbeats 4000000
set_option linter.unusedSimpArgs false
set_option linter.unusedVariables false
namespace Go.Proofs.Ytfialjllclclkaa
open Go.Abs Go.Cut Go.Tab
attribute [local go_sem] Try.underlying3 Try.underlying37 Try.underlying98 Try.underlying43 size37 size3 Nat.mul_one au_add au_sub au_quo au_rem au_lt au_nl au_le au_ne au_bt au_bf au_nt au_nf au_tf au_ft au_wu au_wi undef
open Nat renaming reduceLT → xa, reduceEqDiff → xb, reduceLeDiff → xc, reduceAdd → xd, reduceMul → xe, reduceBEq → xj, add_assoc → ya, add_left_cancel_iff → yb, add_right_cancel_iff → yc, left_eq_add → yd, add_eq_left → ye, add_eq_right → yf, right_eq_add → yg, succ_ne_zero → yh
open Int renaming reduceLT → xf, reduceLE → xg, reduceToNat → xh
open BitVec renaming reduceOfInt → xi
theorem limited_gives (m : Int) (N : Nat) (σ : AHeap) : Gives Try.prog 53 [.int .i64 m] N σ (.int .i64 (lim m : Nat)) := by
  refine gives_of rfl (aok_body (r := false) (n := 6) Try.func53 rfl rfl (by simp) ?_)
  refine awp_seq (awp_pures [0] (by simp (disch := omega) only [go_sem, ↓reduceIte, xa, xb, xc, xd, xe, xf, xg, xh, xi, xj]; try rfl) ?_)
  refine awp_seq (awp_pures [2] (by simp only [go_sem, ↓reduceIte, Nat.reduceLT, Nat.reduceEqDiff, Nat.reduceLeDiff, Nat.reduceAdd, Int.reduceLT, Int.reduceLE]; try rfl) ?_)
  refine awp_ret ⟨_, rfl, ?_⟩
  simp [lim_if, AHeap.le_refl]
theorem Mask_gives (m : Int) (N : Nat) (σ : AHeap) : Gives Try.prog 45 [.int .i64 m] N σ (.int .u64 (maskT (lim m)).toNat) := by
  have hl := lim_le m
  refine gives_of rfl (aok_body (r := false) (n := 8) Try.func45 rfl rfl (by simp) ?_)
  refine awp_seq (awp_pures [0] (by simp (disch := omega) only [go_sem, ↓reduceIte, xa, xb, xc, xd, xe, xf, xg, xh, xi, xj]; try rfl) ?_)
  first | refine awp_seq (awp_lit ?_) | refine awp_lit ?_ | refine awp_seq (awp_seq (awp_lit ?_))
  refine al_pureN 1 (by simp (disch := omega) only [go_sem, ↓reduceIte, xa, xb, xc, xd, xe, xf, xg, xh, xi, xj]; try rfl) ?_
  refine al_gives (vs := ?vs1) (v := ?v1) rfl ?ha1 ?hh1 (by kernel_rfl) rfl (by simp (disch := omega) only [go_sem, ↓reduceIte, xa, xb, xc, xd, xe, xf, xg, xh, xi, xj]) ?kk1
  case ha1 => simp (disch := omega) only [go_sem, ↓reduceIte, xa, xb, xc, xd, xe, xf, xg, xh, xi, xj]; try rfl
  case hh1 => exact limited_gives _ _ _
  refine al_pureN 4 (by simp (disch := omega) only [go_sem, ↓reduceIte, xa, xb, xc, xd, xe, xf, xg, xh, xi, xj]; try rfl) ?_
  refine al_end [2] ?_
  refine awp_ret ⟨_, rfl, ?_⟩
  have := mask_shr _ (lim_le m)
  simp at this
  simp [this, AHeap.le_refl]
theorem ty98 : TyI Try.prog 98 (.agg #[.int .u64 0, .int .u64 0, .int .u64 0, .int .u64 0, .int .u64 0, .int .u64 0]) 6 48 := .of (by kernel_rfl)
theorem size98 : sizeA Try.prog 98 = some 6 := by kernel_rfl
theorem agg98 : aggA Try.prog 98 = some (some 6) := by kernel_rfl
def varsV : Array Value := #[.int .u64 12297829382473034410, .int .u64 14757395258967641292, .int .u64 17361641481138401520, .int .u64 18374966859414961920, .int .u64 18446462603027742720, .int .u64 18446744069414584320]
theorem varsV_get : ∀ i : Nat, i < 6 → varsV[i]? = some (.int .u64 (varT i).toNat)
  | 0, _ | 1, _ | 2, _ | 3, _ | 4, _ | 5, _ => rfl
  | i + 6, h => by omega
theorem variables_gives (N : Nat) (σ : AHeap) : Gives Try.prog 66 [] N σ (.agg varsV) := by
  refine gives_of (by decide) (aok_fresh fun hN => aok_body (r := false) (n := 2) Try.func66 rfl rfl (by simp) ?_)
  first | refine awp_seq (awp_lit ?_) | refine awp_lit ?_ | refine awp_seq (awp_seq (awp_lit ?_))
  refine al_alloc 1 rfl rfl rfl ty98 (by decide) ?_
  refine al_end [0] ?_
  first | refine awp_seq (awp_lit ?_) | refine awp_lit ?_ | refine awp_seq (awp_seq (awp_lit ?_))
  refine al_build_array rfl rfl rfl Try.underlying98 ty98 (by decide) ty37 rfl rfl ?_
  refine al_store rfl (by simp (disch := omega) only [go_sem, ↓reduceIte, xa, xb, xc, xd, xe, xf, xg, xh, xi, xj]) rfl (by simp (disch := omega) only [go_sem, ↓reduceIte, xa, xb, xc, xd, xe, xf, xg, xh, xi, xj]; try rfl) (by simp (disch := omega) only [go_sem, ↓reduceIte, xa, xb, xc, xd, xe, xf, xg, xh, xi, xj]; try rfl) (by first | exact AHeap.set_self _ _ _ | (simp only [AHeap.set, ↓reduceIte, ya, xd, yb, yc, yd, ye, yf, yg, xb, yh]; rfl) | assumption) rfl (by exact size98.trans rfl) (by rfl) (by exact Nat.le_of_ble_eq_true rfl) ?_
  refine al_end [0] ?_
  refine awp_ret ⟨_, res_c rfl rfl (AHeap.set_self _ _ _) (loadA_agg agg98 rfl), rfl, (by (repeat refine AHeap.le_set ?_ fun i b hb => (by have := hN i b hb; omega)); exact AHeap.le_refl _)⟩
theorem Var_gives (i m : Int) (N : Nat) (σ : AHeap) : Gives Try.prog 44 [.int .i64 i, .int .i64 m] N σ (.int .u64 (varR i m).toNat) := by
  have hl := lim_le m
  refine gives_of rfl (aok_body (r := false) (n := 19) Try.func44 rfl rfl (by simp) ?_)
  refine awp_seq (awp_pures [0, 1] (by simp (disch := omega) only [go_sem, ↓reduceIte, xa, xb, xc, xd, xe, xf, xg, xh, xi, xj]; try rfl) ?_)
  by_cases h0 : i < 0
  · refine awp_seq ?_
    first | refine awp_seq (awp_lit ?_) | refine awp_lit ?_ | refine awp_seq (awp_seq (awp_lit ?_))
    refine al_pureN 4 (by simp (disch := omega) only [go_sem, ↓reduceIte, xa, xb, xc, xd, xe, xf, xg, xh, xi, xj]; try rfl) ?_
    refine al_pureN 1 (by simp (disch := omega) only [go_sem, ↓reduceIte, xa, xb, xc, xd, xe, xf, xg, xh, xi, xj]; try rfl) ?_
    refine al_pureN 1 (by simp (disch := omega) only [go_sem, ↓reduceIte, xa, xb, xc, xd, xe, xf, xg, xh, xi, xj, undef]; try rfl) ?_
    refine al_pureN 2 (by simp (disch := omega) only [go_sem, ↓reduceIte, xa, xb, xc, xd, xe, xf, xg, xh, xi, xj]; try rfl) ?_
    refine al_end [0, 1, 12] ?_
    refine awp_if rfl (fun _ => ?_) (fun h => by cases h)
    refine awp_seq (awp_pures [4] (by simp (disch := omega) only [go_sem, ↓reduceIte, xa, xb, xc, xd, xe, xf, xg, xh, xi, xj]; try rfl) ?_)
    refine awp_ret ⟨_, rfl, ?_, AHeap.le_refl _⟩
    simp [varR, h0]
  · by_cases h1 : (lim m : Int) ≤ i
    · refine awp_seq ?_
      first | refine awp_seq (awp_lit ?_) | refine awp_lit ?_ | refine awp_seq (awp_seq (awp_lit ?_))
      refine al_pureN 4 (by simp (disch := omega) only [go_sem, ↓reduceIte, xa, xb, xc, xd, xe, xf, xg, xh, xi, xj]; try rfl) ?_
      refine al_pureN 1 (by simp (disch := omega) only [go_sem, ↓reduceIte, xa, xb, xc, xd, xe, xf, xg, xh, xi, xj]; try rfl) ?_
      first | (refine al_skipB ?_ rfl ?_; focus (simp (disch := omega) only [go_sem, ↓reduceIte, xa, xb, xc, xd, xe, xf, xg, xh, xi, xj]; done)) | refine al_givesC rfl (by simp (disch := omega) only [go_sem, ↓reduceIte, xa, xb, xc, xd, xe, xf, xg, xh, xi, xj]; try rfl) (by simp (disch := omega) only [go_sem, ↓reduceIte, xa, xb, xc, xd, xe, xf, xg, xh, xi, xj]; try rfl) (limited_gives _ _ _) (by kernel_rfl) rfl (by simp (disch := omega) only [go_sem, ↓reduceIte, xa, xb, xc, xd, xe, xf, xg, xh, xi, xj]) ?_
      refine al_pureN 2 (by simp (disch := omega) only [go_sem, ↓reduceIte, xa, xb, xc, xd, xe, xf, xg, xh, xi, xj]; try rfl) ?_
      refine al_end [0, 1, 12] ?_
      refine awp_if rfl (fun _ => ?_) (fun h => by cases h)
      refine awp_seq (awp_pures [4] (by simp (disch := omega) only [go_sem, ↓reduceIte, xa, xb, xc, xd, xe, xf, xg, xh, xi, xj]; try rfl) ?_)
      refine awp_ret ⟨_, rfl, ?_, AHeap.le_refl _⟩
      simp [varR, h1]
    · refine awp_seq ?_
      first | refine awp_seq (awp_lit ?_) | refine awp_lit ?_ | refine awp_seq (awp_seq (awp_lit ?_))
      refine al_pureN 4 (by simp (disch := omega) only [go_sem, ↓reduceIte, xa, xb, xc, xd, xe, xf, xg, xh, xi, xj]; try rfl) ?_
      refine al_pureN 1 (by simp (disch := omega) only [go_sem, ↓reduceIte, xa, xb, xc, xd, xe, xf, xg, xh, xi, xj]; try rfl) ?_
      first | (refine al_skipB ?_ rfl ?_; focus (simp (disch := omega) only [go_sem, ↓reduceIte, xa, xb, xc, xd, xe, xf, xg, xh, xi, xj]; done)) | refine al_givesC rfl (by simp (disch := omega) only [go_sem, ↓reduceIte, xa, xb, xc, xd, xe, xf, xg, xh, xi, xj]; try rfl) (by simp (disch := omega) only [go_sem, ↓reduceIte, xa, xb, xc, xd, xe, xf, xg, xh, xi, xj]; try rfl) (limited_gives _ _ _) (by kernel_rfl) rfl (by simp (disch := omega) only [go_sem, ↓reduceIte, xa, xb, xc, xd, xe, xf, xg, xh, xi, xj]) ?_
      refine al_pureN 2 (by simp (disch := omega) only [go_sem, ↓reduceIte, xa, xb, xc, xd, xe, xf, xg, xh, xi, xj]; try rfl) ?_
      refine al_end [0, 1, 12] ?_
      refine awp_if rfl (fun h => by cases h) (fun _ => ?_)
      refine awp_skip ?_
      obtain ⟨j, rfl⟩ : ∃ j : Nat, i = j := ⟨i.toNat, by omega⟩
      refine awp_seq (awp_quiet [4] (by kernel_rfl) fun hNq => ?_)
      refine tq_gives rfl (by simp (disch := omega) only [go_sem, ↓reduceIte, xa, xb, xc, xd, xe, xf, xg, xh, xi, xj, varsV_get j (by omega)]; try rfl) (fun m => variables_gives _ _) (by kernel_rfl) rfl (by simp (disch := omega) only [go_sem, ↓reduceIte, xa, xb, xc, xd, xe, xf, xg, xh, xi, xj, varsV_get j (by omega)]) ?_
      refine tq_pures 3 (by simp (disch := omega) only [go_sem, ↓reduceIte, xa, xb, xc, xd, xe, xf, xg, xh, xi, xj, varsV_get j (by omega)]; try rfl) ?_
      refine tq_gives rfl (by simp (disch := omega) only [go_sem, ↓reduceIte, xa, xb, xc, xd, xe, xf, xg, xh, xi, xj, varsV_get j (by omega)]; try rfl) (fun m => Mask_gives _ _ _) (by kernel_rfl) rfl (by simp (disch := omega) only [go_sem, ↓reduceIte, xa, xb, xc, xd, xe, xf, xg, xh, xi, xj, varsV_get j (by omega)]) ?_
      refine tq_pures 2 (by simp (disch := omega) only [go_sem, ↓reduceIte, xa, xb, xc, xd, xe, xf, xg, xh, xi, xj, varsV_get j (by omega)]; try rfl) ?_
      refine tq_end ?_
      refine awp_ret ⟨_, rfl, ?_, AHeap.le_refl _⟩
      have : ¬ ((j : Int) < 0 ∨ (lim m : Int) ≤ j) := by omega
      simp only [varR, this, if_false, Int.toNat_natCast]; rfl
end Go.Proofs.Ytfialjllclclkaa

