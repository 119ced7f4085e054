/- The walk of the cone. -/
import Derived.Test.YtfialjllclclkaaCutW5
set_option linter.unusedSimpArgs false
set_option linter.unusedVariables false
namespace Go.Proofs.Ytfialjllclclkaa
open Go.Abs Go.Cut
attribute [local go_sem] Try.underlying26 Try.underlying66 Try.underlying69 Try.underlying3 Try.underlying22 Try.underlying23 Try.underlying24 Try.underlying35 Try.underlying43 Try.underlying45 Try.underlying47 Try.underlying5 Try.underlying4 Try.underlying30 Try.underlying56 size26 size66 size69 size3 size22 size23 size24 size35 size43 size45 size47 size5 size4 size30 Nat.mul_one
theorem quo_two {a : Int} (h : 0 ≤ a) (h2 : a ≤ 1000000000) : intA .quo .i64 a 2 = some (.int .i64 (a / 2)) := by
  simp only [intA]
  rw [if_neg (by decide), Int.tdiv_eq_ediv_of_nonneg h, IntWalk.i64_in _ (by omega)]
theorem splice_bools {u : Nat → Bool} {n k : Nat} (h : k < n) : splice (bools u n) k [.bool true] = bools (fun j => u j || j == k) n := by
  rw [splice_one (by rw [bools_len]; exact h), bools_set]
theorem set_mono {σ τ : AHeap} (h : σ.le τ) (i : Nat) (b : Blk) : (σ.set i b).le (τ.set i b) := fun j b' hb => by
  unfold AHeap.set at hb ⊢
  split at hb
  · rename_i e; rw [if_pos e]; exact hb
  · rename_i e; rw [if_neg e]; exact h _ _ hb
structure ConeSt where
  v : Nat
  u : Nat → Bool
  out : List Int
  M : Nat
  τ : AHeap
  sv : Value
theorem cone_ok {g : AigD} {lb ab ob : Option Addr} {lc ac oc f : Nat} {node : Int} {lv : Value} {l : List Int} {N : Nat} {σ : AHeap} (ha : RowsAt σ 2 (.slice ab g.as.length ac) (pairsV .i64 .i64 g.as)) (hl : SlAt σ lv (ints l))
    (hf : f ≤ 400000) (has : g.as.length ≤ 400000) (hchk : chkA f g.as = true) :
    AOk Try.prog 43 [graphV lb lc ab ac ob oc g f, .int .i64 node, lv] N σ fun r N1 σ1 => ∃ sv, r = .tuple #[sv, .int .i64 (coneE f g.as l node).2] ∧ OwnAt σ1 N sv (ints (coneE f g.as l node).1) (coneE f g.as l node).1.length 1 ∧ σ.le σ1 ∧ N ≤ N1 := by
  have hol : ∀ l : List Int, (ints l).length = l.length := fun l => by simp [ints]
  have hl0 := hl
  obtain ⟨sb, sc, rfl⟩ := hl.len
  rw [hol] at hl hl0 ⊢
  refine aok_fresh fun hN => aok_body (r := false) (n := 65) Try.func43 rfl rfl (by simp) ?_
  unfold graphV
  first | refine awp_seq (awp_lit ?_) | refine awp_lit ?_ | refine awp_seq (awp_seq (awp_lit ?_))
  refine al_box 1 rfl rfl rfl (by simp only [go_sem, ↓reduceIte, Nat.reduceLT, Nat.reduceEqDiff, Nat.reduceLeDiff, Nat.reduceAdd, Nat.reduceMul, Int.reduceLT, Int.reduceLE, Int.reduceToNat, BitVec.reduceOfInt, Nat.reduceBEq]; try rfl) ?_
  refine al_pureN 2 (by simp only [go_sem, ↓reduceIte, Nat.reduceLT, Nat.reduceEqDiff, Nat.reduceLeDiff, Nat.reduceAdd, Nat.reduceMul, Int.reduceLT, Int.reduceLE, Int.reduceToNat, BitVec.reduceOfInt, Nat.reduceBEq]; try rfl) ?_
  refine al_end [1, 2, 3, 6] ?_
  have hle : σ.le (σ.set N ⟨spread (graphV lb lc ab ac ob oc g f), true, 1⟩) := le_new hN (Nat.le_refl _)
  refine awp_seq ?_
  first | refine awp_seq (awp_lit ?_) | refine awp_lit ?_ | refine awp_seq (awp_seq (awp_lit ?_))
  refine al_load rfl (by simp only [go_sem, ↓reduceIte, Nat.reduceLT, Nat.reduceEqDiff, Nat.reduceLeDiff, Nat.reduceAdd, Nat.reduceMul, Int.reduceLT, Int.reduceLE, Int.reduceToNat, BitVec.reduceOfInt, Nat.reduceBEq]) rfl (by simp only [go_sem, ↓reduceIte, Nat.reduceLT, Nat.reduceEqDiff, Nat.reduceLeDiff, Nat.reduceAdd, Nat.reduceMul, Int.reduceLT, Int.reduceLE, Int.reduceToNat, BitVec.reduceOfInt, Nat.reduceBEq]; try rfl) (by first | exact AHeap.set_self _ _ _ | (simp only [AHeap.set, ↓reduceIte, Nat.add_assoc, Nat.reduceAdd, Nat.add_left_cancel_iff, Nat.add_right_cancel_iff, Nat.left_eq_add, Nat.add_eq_left, Nat.add_eq_right, Nat.right_eq_add, Nat.reduceEqDiff, Nat.succ_ne_zero]; rfl) | assumption) (by first | exact loadA_scalar agg66 rfl | exact loadA_agg agg66 rfl | exact loadA_scalar agg66 (by assumption)) ?_
  refine al_pureN 2 (by simp only [go_sem, ↓reduceIte, Nat.reduceLT, Nat.reduceEqDiff, Nat.reduceLeDiff, Nat.reduceAdd, Nat.reduceMul, Int.reduceLT, Int.reduceLE, Int.reduceToNat, BitVec.reduceOfInt, Nat.reduceBEq]; try rfl) ?_
  refine al_gives (vs := ?vs1) (v := ?v1) rfl ?ha1 ?hh1 (by kernel_rfl) rfl (by simp only [go_sem, ↓reduceIte, Nat.reduceLT, Nat.reduceEqDiff, Nat.reduceLeDiff, Nat.reduceAdd, Nat.reduceMul, Int.reduceLT, Int.reduceLE, Int.reduceToNat, BitVec.reduceOfInt, Nat.reduceBEq]) ?kk1
  case ha1 => simp only [go_sem, ↓reduceIte, Nat.reduceLT, Nat.reduceEqDiff, Nat.reduceLeDiff, Nat.reduceAdd, Nat.reduceMul, Int.reduceLT, Int.reduceLE, Int.reduceToNat, BitVec.reduceOfInt, Nat.reduceBEq]; try rfl
  case hh1 => exact leafSet_gives (g := g) (f := (f : Int)) (hl.mono hle) (by omega) (by omega) (by omega)
  refine al_pureN 1 (by simp only [go_sem, ↓reduceIte, Nat.reduceLT, Nat.reduceEqDiff, Nat.reduceLeDiff, Nat.reduceAdd, Nat.reduceMul, Int.reduceLT, Int.reduceLE, Int.reduceToNat, BitVec.reduceOfInt, Nat.reduceBEq]; try rfl) ?_
  refine al_end [1, 2, 3, 6, 8] ?_
  by_cases hE : leafE ((f : Int) + g.as.length) node l = 0
  · have hlen : l.length ≤ 1000000 := Nat.le_trans (leafE_len hE) (by decide)
    have hb : (leafE ((f : Int) + (g.as.length : Int)) node l != 0) = false := by simpa using hE
    refine awp_seq (awp_pures [1, 2, 3, 6, 8, 18] (by simp only [go_sem, ↓reduceIte, Nat.reduceLT, Nat.reduceEqDiff, Nat.reduceLeDiff, Nat.reduceAdd, Nat.reduceMul, Int.reduceLT, Int.reduceLE, Int.reduceToNat, BitVec.reduceOfInt, Nat.reduceBEq, hb]; try rfl) ?_)
    refine awp_if rfl (fun h => by cases h) (fun _ => ?_)
    refine awp_skip ?_
    obtain ⟨m, rfl⟩ : ∃ m : Nat, node = m := by
      refine ⟨node.toNat, ?_⟩
      unfold leafE at hE
      split at hE
      · cases hE
      · omega
    have hm : m < f + g.as.length := by
      unfold leafE at hE
      split at hE
      · cases hE
      · omega
    have hadd : -9223372036854775808 ≤ (m : Int) + 1 ∧ (m : Int) + 1 ≤ 9223372036854775807 := by omega
    first | refine awp_seq (awp_lit ?_) | refine awp_lit ?_ | refine awp_seq (awp_seq (awp_lit ?_))
    refine al_pureN 2 (by simp only [go_sem, ↓reduceIte, Nat.reduceLT, Nat.reduceEqDiff, Nat.reduceLeDiff, Nat.reduceAdd, Nat.reduceMul, Int.reduceLT, Int.reduceLE, Int.reduceToNat, BitVec.reduceOfInt, Nat.reduceBEq, i64_add hadd]; try rfl) ?_
    refine al_makeSlice (len := m + 1) rfl (by simp only [go_sem, ↓reduceIte, Nat.reduceLT, Nat.reduceEqDiff, Nat.reduceLeDiff, Nat.reduceAdd, Nat.reduceMul, Int.reduceLT, Int.reduceLE, Int.reduceToNat, BitVec.reduceOfInt, Nat.reduceBEq]; try rfl) rfl Try.underlying56 ty4 (by decide) rfl (by decide) (by simp only [go_sem, ↓reduceIte, Nat.reduceLT, Nat.reduceEqDiff, Nat.reduceLeDiff, Nat.reduceAdd, Nat.reduceMul, Int.reduceLT, Int.reduceLE, Int.reduceToNat, BitVec.reduceOfInt, Nat.reduceBEq]; try rfl) (by simp only [go_sem, ↓reduceIte, Nat.reduceLT, Nat.reduceEqDiff, Nat.reduceLeDiff, Nat.reduceAdd, Nat.reduceMul, Int.reduceLT, Int.reduceLE, Int.reduceToNat, BitVec.reduceOfInt, Nat.reduceBEq]; try rfl) (by omega) (by omega) ?_
    refine al_pureN 1 (by simp only [go_sem, ↓reduceIte, Nat.reduceLT, Nat.reduceEqDiff, Nat.reduceLeDiff, Nat.reduceAdd, Nat.reduceMul, Int.reduceLT, Int.reduceLE, Int.reduceToNat, BitVec.reduceOfInt, Nat.reduceBEq, i64_add hadd]; try rfl) ?_
    refine al_end [1, 2, 3, 6, 9] ?_
    rw [bools_zero]
    have hm1 : 0 ≤ (m : Int) ∧ (m : Int) < ((m + 1 : Nat) : Int) := by omega
    first | refine awp_seq (awp_lit ?_) | refine awp_lit ?_ | refine awp_seq (awp_seq (awp_lit ?_))
    refine al_pureN 3 (by simp only [go_sem, ↓reduceIte, Nat.reduceLT, Nat.reduceEqDiff, Nat.reduceLeDiff, Nat.reduceAdd, Nat.reduceMul, Int.reduceLT, Int.reduceLE, Int.reduceToNat, BitVec.reduceOfInt, Nat.reduceBEq, hm1]; try rfl) ?_
    refine al_store1 rfl (by simp only [go_sem, ↓reduceIte, Nat.reduceLT, Nat.reduceEqDiff, Nat.reduceLeDiff, Nat.reduceAdd, Nat.reduceMul, Int.reduceLT, Int.reduceLE, Int.reduceToNat, BitVec.reduceOfInt, Nat.reduceBEq]; try rfl) rfl (by simp only [go_sem, ↓reduceIte, Nat.reduceLT, Nat.reduceEqDiff, Nat.reduceLeDiff, Nat.reduceAdd, Nat.reduceMul, Int.reduceLT, Int.reduceLE, Int.reduceToNat, BitVec.reduceOfInt, Nat.reduceBEq]; try rfl) (by simp only [go_sem, ↓reduceIte, Nat.reduceLT, Nat.reduceEqDiff, Nat.reduceLeDiff, Nat.reduceAdd, Nat.reduceMul, Int.reduceLT, Int.reduceLE, Int.reduceToNat, BitVec.reduceOfInt, Nat.reduceBEq]; try rfl) (AHeap.set_self _ _ _) rfl size4 rfl rfl (by show m < (bools _ _).length; rw [bools_len]; omega) ?_
    refine al_end [1, 2, 3, 6, 9] ?_
    rw [AHeap.set_set]
    have hcs : (bools (fun _ => false) (m + 1)).set m (.bool true) = bools (fun k => k == m) (m + 1) := by
      rw [bools_set]; congr 1
    have hce : coneE f g.as l (m : Int) = coneR f g.as l m := by simp [coneE, hE]
    rw [hce]
    show Abs.Seq _ _ _ _ _ _ _ _ (AHeap.set _ (N + 1) ⟨(bools (fun _ => false) (m + 1)).set m (.bool true), true, .n 1⟩)
    rw [hcs]
    refine awp_seq ?_
    refine awp_seq (awp_pures [2, 3, 6, 9, 10] (by simp only [go_sem, ↓reduceIte, Nat.reduceLT, Nat.reduceEqDiff, Nat.reduceLeDiff, Nat.reduceAdd, Nat.reduceMul, Int.reduceLT, Int.reduceLE, Int.reduceToNat, BitVec.reduceOfInt, Nat.reduceBEq]; try rfl) ?_)
    refine awp_block (awp_loop ?_)
    refine ALoop.cast3 (aloop_ind (α := ConeSt) (fun a => a.v ≤ m ∧ N + 2 ≤ a.M ∧ a.τ (N + 1) = some ⟨bools a.u (m + 1), true, 1⟩ ∧ OwnAt a.τ (N + 2) a.sv (ints a.out) a.out.length 1 ∧ (σ.set N ⟨spread (graphV lb lc ab ac ob oc g f), true, 1⟩).le a.τ ∧ a.out.length + a.v ≤ m ∧
        coneL f g.as l m (fun k => k == m) [] = coneL f g.as l a.v a.u a.out) (fun a => a.v)
      (fun a => [(2, .slice sb l.length sc), (3, .pointer (some ⟨N, 0, none⟩)), (6, a.sv), (9, .slice (some ⟨N + 1, 0, none⟩) (m + 1) (m + 1)), (10, .int .i64 a.v)]) (fun a => a.M) (fun a => a.τ) ?_
      ⟨m, fun k => k == m, [], N + 2, _, .slice none 0 0⟩ ⟨Nat.le_refl _, Nat.le_refl _, AHeap.set_self _ _ _, .nil, le_new (dom_set hN) (Nat.le_refl _), by simp, rfl⟩) rfl rfl rfl
    rintro ⟨v, u, out, M, τ, sv⟩ ⟨hv, hM, hU, hout, hτ, hol2, hpre⟩ ih
    dsimp only at hv hM hU hout hτ hol2 hpre ih ⊢
    have hστ : σ.le τ := hle.trans hτ
    have hG : τ N = some ⟨spread (graphV lb lc ab ac ob oc g f), true, 1⟩ := hτ _ _ (AHeap.set_self _ _ _)
    cases v with
    | zero =>
      refine awp_seq ?_
      refine awp_seq (awp_pures [2, 3, 6, 9, 10, 28] (by simp only [go_sem, ↓reduceIte, Nat.reduceLT, Nat.reduceEqDiff, Nat.reduceLeDiff, Nat.reduceAdd, Nat.reduceMul, Int.reduceLT, Int.reduceLE, Int.reduceToNat, BitVec.reduceOfInt, Nat.reduceBEq]; try rfl) ?_)
      refine awp_if rfl (fun h => by cases h) (fun _ => ?_)
      refine awp_exit ?_
      simp only [Go.Abs.Seq, Go.Abs.Round, Go.Abs.InBlock, ↓reduceIte]
      first | refine awp_seq (awp_lit ?_) | refine awp_lit ?_ | refine awp_seq (awp_seq (awp_lit ?_))
      refine al_pureN 1 (by simp only [go_sem, ↓reduceIte, Nat.reduceLT, Nat.reduceEqDiff, Nat.reduceLeDiff, Nat.reduceAdd, Nat.reduceMul, Int.reduceLT, Int.reduceLE, Int.reduceToNat, BitVec.reduceOfInt, Nat.reduceBEq]; try rfl) ?_
      refine al_fun (Reverse_ok hout (by omega)) rfl (by simp only [go_sem, ↓reduceIte, Nat.reduceLT, Nat.reduceEqDiff, Nat.reduceLeDiff, Nat.reduceAdd, Nat.reduceMul, Int.reduceLT, Int.reduceLE, Int.reduceToNat, BitVec.reduceOfInt, Nat.reduceBEq]; try rfl) (by kernel_rfl) rfl (by simp only [go_sem, ↓reduceIte, Nat.reduceLT, Nat.reduceEqDiff, Nat.reduceLeDiff, Nat.reduceAdd, Nat.reduceMul, Int.reduceLT, Int.reduceLE, Int.reduceToNat, BitVec.reduceOfInt, Nat.reduceBEq]; try rfl) ?_
      rintro r N1 σ1 ⟨rfl, rfl, ho1, hk1⟩
      refine al_end [6] ?_
      refine awp_seq (awp_pures [6, 7] (by simp only [go_sem, ↓reduceIte, Nat.reduceLT, Nat.reduceEqDiff, Nat.reduceLeDiff, Nat.reduceAdd, Nat.reduceMul, Int.reduceLT, Int.reduceLE, Int.reduceToNat, BitVec.reduceOfInt, Nat.reduceBEq]; try rfl) ?_)
      have hR : coneR f g.as l m = (out.reverse, 0) := by unfold coneR; rw [hpre, coneL]
      rw [hR]
      refine awp_ret ⟨_, res_tt rfl rfl rfl, sv, rfl, ?_, hk1 σ hστ (fun i b hb => by have := hN i b hb; omega), by omega⟩
      rw [List.length_reverse]
      exact ho1.mono (fun i b _ h => h) (by omega)
    | succ v =>
      have hb7 : decide (((v + 1 : Nat) : Int) > 0) = true := by simp
      refine awp_seq ?_
      refine awp_seq (awp_pures [2, 3, 6, 9, 10, 28] (by simp only [go_sem, ↓reduceIte, Nat.reduceLT, Nat.reduceEqDiff, Nat.reduceLeDiff, Nat.reduceAdd, Nat.reduceMul, Int.reduceLT, Int.reduceLE, Int.reduceToNat, BitVec.reduceOfInt, Nat.reduceBEq, hb7]; try rfl) ?_)
      refine awp_if rfl (fun _ => ?_) (fun h => by cases h)
      refine awp_skip ?_
      refine awp_seq (awp_block ?_)
      refine awp_seq (awp_block ?_)
      have hidx : 0 ≤ ((v + 1 : Nat) : Int) ∧ ((v + 1 : Nat) : Int) < ((m + 1 : Nat) : Int) := by omega
      have hg := bools_get u (show v + 1 < m + 1 by omega)
      have hsub : -9223372036854775808 ≤ ((v + 1 : Nat) : Int) - 1 ∧ ((v + 1 : Nat) : Int) - 1 ≤ 9223372036854775807 := by omega
      have hv1 : ((v + 1 : Nat) : Int) - 1 = (v : Int) := by omega
      by_cases hskip : u (v + 1) = false ∨ ((v + 1 : Nat) : Int) ∈ l
      · have hstep : coneL f g.as l (v + 1) u out = coneL f g.as l v u out := by rw [coneL, if_pos hskip]
        by_cases hu : u (v + 1) = false
        · first | refine awp_seq (awp_lit ?_) | refine awp_lit ?_ | refine awp_seq (awp_seq (awp_lit ?_))
          refine al_pureN 3 (by simp only [go_sem, ↓reduceIte, Nat.reduceLT, Nat.reduceEqDiff, Nat.reduceLeDiff, Nat.reduceAdd, Nat.reduceMul, Int.reduceLT, Int.reduceLE, Int.reduceToNat, BitVec.reduceOfInt, Nat.reduceBEq, hidx, hu]; try rfl) ?_
          refine al_load rfl (by simp only [go_sem, ↓reduceIte, Nat.reduceLT, Nat.reduceEqDiff, Nat.reduceLeDiff, Nat.reduceAdd, Nat.reduceMul, Int.reduceLT, Int.reduceLE, Int.reduceToNat, BitVec.reduceOfInt, Nat.reduceBEq, hidx, hu]) rfl (by simp only [go_sem, ↓reduceIte, Nat.reduceLT, Nat.reduceEqDiff, Nat.reduceLeDiff, Nat.reduceAdd, Nat.reduceMul, Int.reduceLT, Int.reduceLE, Int.reduceToNat, BitVec.reduceOfInt, Nat.reduceBEq, hidx, hu]; try rfl) hU (loadA_scalar agg4 hg) ?_
          refine al_pureN 4 (by simp only [go_sem, ↓reduceIte, Nat.reduceLT, Nat.reduceEqDiff, Nat.reduceLeDiff, Nat.reduceAdd, Nat.reduceMul, Int.reduceLT, Int.reduceLE, Int.reduceToNat, BitVec.reduceOfInt, Nat.reduceBEq, hidx, hu]; try rfl) ?_
          refine al_pureN 1 (by simp only [go_sem, ↓reduceIte, Nat.reduceLT, Nat.reduceEqDiff, Nat.reduceLeDiff, Nat.reduceAdd, Nat.reduceMul, Int.reduceLT, Int.reduceLE, Int.reduceToNat, BitVec.reduceOfInt, Nat.reduceBEq, hidx, hu, undef]; try rfl) ?_
          refine al_pureN 2 (by simp only [go_sem, ↓reduceIte, Nat.reduceLT, Nat.reduceEqDiff, Nat.reduceLeDiff, Nat.reduceAdd, Nat.reduceMul, Int.reduceLT, Int.reduceLE, Int.reduceToNat, BitVec.reduceOfInt, Nat.reduceBEq, hidx, hu]; try rfl) ?_
          refine al_end [2, 3, 6, 9, 10, 31] ?_
          refine awp_if rfl (fun _ => ?_) (fun h => by cases h)
          refine awp_exit ?_
          simp only [Go.Abs.Seq, Go.Abs.Round, Go.Abs.InBlock, ↓reduceIte]
          refine awp_pures [2, 3, 6, 9, 10] (by simp only [go_sem, ↓reduceIte, Nat.reduceLT, Nat.reduceEqDiff, Nat.reduceLeDiff, Nat.reduceAdd, Nat.reduceMul, Int.reduceLT, Int.reduceLE, Int.reduceToNat, BitVec.reduceOfInt, Nat.reduceBEq, i64_sub hsub, hv1]; try rfl) ?_
          refine ALoop.cast3 (ih ⟨v, u, out, M, τ, sv⟩ ⟨by dsimp only; omega, hM, hU, hout, hτ, by dsimp only; omega, by rw [hpre, hstep]⟩ (by dsimp only; omega)) rfl rfl rfl
        · have hu1 : u (v + 1) = true := by simpa using hu
          have hmem : decide (((v + 1 : Nat) : Int) ∈ l) = true := by simpa [hu1] using hskip
          first | refine awp_seq (awp_lit ?_) | refine awp_lit ?_ | refine awp_seq (awp_seq (awp_lit ?_))
          refine al_pureN 3 (by simp only [go_sem, ↓reduceIte, Nat.reduceLT, Nat.reduceEqDiff, Nat.reduceLeDiff, Nat.reduceAdd, Nat.reduceMul, Int.reduceLT, Int.reduceLE, Int.reduceToNat, BitVec.reduceOfInt, Nat.reduceBEq, hidx, hu1, hmem]; try rfl) ?_
          refine al_load rfl (by simp only [go_sem, ↓reduceIte, Nat.reduceLT, Nat.reduceEqDiff, Nat.reduceLeDiff, Nat.reduceAdd, Nat.reduceMul, Int.reduceLT, Int.reduceLE, Int.reduceToNat, BitVec.reduceOfInt, Nat.reduceBEq, hidx, hu1, hmem]) rfl (by simp only [go_sem, ↓reduceIte, Nat.reduceLT, Nat.reduceEqDiff, Nat.reduceLeDiff, Nat.reduceAdd, Nat.reduceMul, Int.reduceLT, Int.reduceLE, Int.reduceToNat, BitVec.reduceOfInt, Nat.reduceBEq, hidx, hu1, hmem]; try rfl) hU (loadA_scalar agg4 hg) ?_
          refine al_pureN 4 (by simp only [go_sem, ↓reduceIte, Nat.reduceLT, Nat.reduceEqDiff, Nat.reduceLeDiff, Nat.reduceAdd, Nat.reduceMul, Int.reduceLT, Int.reduceLE, Int.reduceToNat, BitVec.reduceOfInt, Nat.reduceBEq, hidx, hu1, hmem]; try rfl) ?_
          refine al_gives (vs := ?vs2) (v := ?v2) rfl ?ha2 ?hh2 (by kernel_rfl) rfl (by simp only [go_sem, ↓reduceIte, Nat.reduceLT, Nat.reduceEqDiff, Nat.reduceLeDiff, Nat.reduceAdd, Nat.reduceMul, Int.reduceLT, Int.reduceLE, Int.reduceToNat, BitVec.reduceOfInt, Nat.reduceBEq, hidx, hu1, hmem]) ?kk2
          case ha2 => simp only [go_sem, ↓reduceIte, Nat.reduceLT, Nat.reduceEqDiff, Nat.reduceLeDiff, Nat.reduceAdd, Nat.reduceMul, Int.reduceLT, Int.reduceLE, Int.reduceToNat, BitVec.reduceOfInt, Nat.reduceBEq, hidx, hu1, hmem]; try rfl
          case hh2 => exact Contains_gives (hl.mono hστ) hlen
          refine al_pureN 2 (by simp only [go_sem, ↓reduceIte, Nat.reduceLT, Nat.reduceEqDiff, Nat.reduceLeDiff, Nat.reduceAdd, Nat.reduceMul, Int.reduceLT, Int.reduceLE, Int.reduceToNat, BitVec.reduceOfInt, Nat.reduceBEq, hidx, hu1, hmem]; try rfl) ?_
          refine al_end [2, 3, 6, 9, 10, 31] ?_
          refine awp_if rfl (fun _ => ?_) (fun h => by cases h)
          refine awp_exit ?_
          simp only [Go.Abs.Seq, Go.Abs.Round, Go.Abs.InBlock, ↓reduceIte]
          refine awp_pures [2, 3, 6, 9, 10] (by simp only [go_sem, ↓reduceIte, Nat.reduceLT, Nat.reduceEqDiff, Nat.reduceLeDiff, Nat.reduceAdd, Nat.reduceMul, Int.reduceLT, Int.reduceLE, Int.reduceToNat, BitVec.reduceOfInt, Nat.reduceBEq, i64_sub hsub, hv1]; try rfl) ?_
          refine ALoop.cast3 (ih ⟨v, u, out, M, τ, sv⟩ ⟨by dsimp only; omega, hM, hU, hout, hτ, by dsimp only; omega, by rw [hpre, hstep]⟩ (by dsimp only; omega)) rfl rfl rfl
      · have hu1 : u (v + 1) = true := by
          cases h : u (v + 1) with
          | true => rfl
          | false => exact absurd (.inl h) hskip
        have hmem : decide (((v + 1 : Nat) : Int) ∈ l) = false := by simpa using fun h => hskip (.inr h)
        first | refine awp_seq (awp_lit ?_) | refine awp_lit ?_ | refine awp_seq (awp_seq (awp_lit ?_))
        refine al_pureN 3 (by simp only [go_sem, ↓reduceIte, Nat.reduceLT, Nat.reduceEqDiff, Nat.reduceLeDiff, Nat.reduceAdd, Nat.reduceMul, Int.reduceLT, Int.reduceLE, Int.reduceToNat, BitVec.reduceOfInt, Nat.reduceBEq, hidx, hu1, hmem]; try rfl) ?_
        refine al_load rfl (by simp only [go_sem, ↓reduceIte, Nat.reduceLT, Nat.reduceEqDiff, Nat.reduceLeDiff, Nat.reduceAdd, Nat.reduceMul, Int.reduceLT, Int.reduceLE, Int.reduceToNat, BitVec.reduceOfInt, Nat.reduceBEq, hidx, hu1, hmem]) rfl (by simp only [go_sem, ↓reduceIte, Nat.reduceLT, Nat.reduceEqDiff, Nat.reduceLeDiff, Nat.reduceAdd, Nat.reduceMul, Int.reduceLT, Int.reduceLE, Int.reduceToNat, BitVec.reduceOfInt, Nat.reduceBEq, hidx, hu1, hmem]; try rfl) hU (loadA_scalar agg4 hg) ?_
        refine al_pureN 4 (by simp only [go_sem, ↓reduceIte, Nat.reduceLT, Nat.reduceEqDiff, Nat.reduceLeDiff, Nat.reduceAdd, Nat.reduceMul, Int.reduceLT, Int.reduceLE, Int.reduceToNat, BitVec.reduceOfInt, Nat.reduceBEq, hidx, hu1, hmem]; try rfl) ?_
        refine al_gives (vs := ?vs3) (v := ?v3) rfl ?ha3 ?hh3 (by kernel_rfl) rfl (by simp only [go_sem, ↓reduceIte, Nat.reduceLT, Nat.reduceEqDiff, Nat.reduceLeDiff, Nat.reduceAdd, Nat.reduceMul, Int.reduceLT, Int.reduceLE, Int.reduceToNat, BitVec.reduceOfInt, Nat.reduceBEq, hidx, hu1, hmem]) ?kk3
        case ha3 => simp only [go_sem, ↓reduceIte, Nat.reduceLT, Nat.reduceEqDiff, Nat.reduceLeDiff, Nat.reduceAdd, Nat.reduceMul, Int.reduceLT, Int.reduceLE, Int.reduceToNat, BitVec.reduceOfInt, Nat.reduceBEq, hidx, hu1, hmem]; try rfl
        case hh3 => exact Contains_gives (hl.mono hστ) hlen
        refine al_pureN 2 (by simp only [go_sem, ↓reduceIte, Nat.reduceLT, Nat.reduceEqDiff, Nat.reduceLeDiff, Nat.reduceAdd, Nat.reduceMul, Int.reduceLT, Int.reduceLE, Int.reduceToNat, BitVec.reduceOfInt, Nat.reduceBEq, hidx, hu1, hmem]; try rfl) ?_
        refine al_end [2, 3, 6, 9, 10, 31] ?_
        refine awp_if rfl (fun h => by cases h) (fun _ => ?_)
        by_cases hvf : v + 1 < f
        · have hb8 : decide (((v + 1 : Nat) : Int) < (f : Int)) = true := by simp; omega
          first | refine awp_seq (awp_lit ?_) | refine awp_lit ?_ | refine awp_seq (awp_seq (awp_lit ?_))
          refine al_pureN 2 (by simp only [go_sem, ↓reduceIte, Nat.reduceLT, Nat.reduceEqDiff, Nat.reduceLeDiff, Nat.reduceAdd, Nat.reduceMul, Int.reduceLT, Int.reduceLE, Int.reduceToNat, BitVec.reduceOfInt, Nat.reduceBEq, hb8]; try rfl) ?_
          refine al_load rfl (by simp only [go_sem, ↓reduceIte, Nat.reduceLT, Nat.reduceEqDiff, Nat.reduceLeDiff, Nat.reduceAdd, Nat.reduceMul, Int.reduceLT, Int.reduceLE, Int.reduceToNat, BitVec.reduceOfInt, Nat.reduceBEq, hb8]) rfl (by simp only [go_sem, ↓reduceIte, Nat.reduceLT, Nat.reduceEqDiff, Nat.reduceLeDiff, Nat.reduceAdd, Nat.reduceMul, Int.reduceLT, Int.reduceLE, Int.reduceToNat, BitVec.reduceOfInt, Nat.reduceBEq, hb8]; try rfl) hG (loadA_scalar agg3 rfl) ?_
          refine al_pureN 2 (by simp only [go_sem, ↓reduceIte, Nat.reduceLT, Nat.reduceEqDiff, Nat.reduceLeDiff, Nat.reduceAdd, Nat.reduceMul, Int.reduceLT, Int.reduceLE, Int.reduceToNat, BitVec.reduceOfInt, Nat.reduceBEq, hb8]; try rfl) ?_
          refine al_end [2, 3, 6, 9, 10, 42] ?_
          refine awp_if rfl (fun _ => ?_) (fun h => by cases h)
          refine awp_seq (awp_pures [6, 7] (by simp only [go_sem, ↓reduceIte, Nat.reduceLT, Nat.reduceEqDiff, Nat.reduceLeDiff, Nat.reduceAdd, Nat.reduceMul, Int.reduceLT, Int.reduceLE, Int.reduceToNat, BitVec.reduceOfInt, Nat.reduceBEq]; try rfl) ?_)
          have hR : coneR f g.as l m = ([], 8) := by unfold coneR; rw [hpre, coneL, if_neg hskip, if_pos hvf]
          rw [hR]
          exact awp_ret ⟨_, res_tt rfl rfl rfl, .slice none 0 0, rfl, .nil, hστ, by omega⟩
        · have hb8 : decide (((v + 1 : Nat) : Int) < (f : Int)) = false := by simp; omega
          first | refine awp_seq (awp_lit ?_) | refine awp_lit ?_ | refine awp_seq (awp_seq (awp_lit ?_))
          refine al_pureN 2 (by simp only [go_sem, ↓reduceIte, Nat.reduceLT, Nat.reduceEqDiff, Nat.reduceLeDiff, Nat.reduceAdd, Nat.reduceMul, Int.reduceLT, Int.reduceLE, Int.reduceToNat, BitVec.reduceOfInt, Nat.reduceBEq, hb8]; try rfl) ?_
          refine al_load rfl (by simp only [go_sem, ↓reduceIte, Nat.reduceLT, Nat.reduceEqDiff, Nat.reduceLeDiff, Nat.reduceAdd, Nat.reduceMul, Int.reduceLT, Int.reduceLE, Int.reduceToNat, BitVec.reduceOfInt, Nat.reduceBEq, hb8]) rfl (by simp only [go_sem, ↓reduceIte, Nat.reduceLT, Nat.reduceEqDiff, Nat.reduceLeDiff, Nat.reduceAdd, Nat.reduceMul, Int.reduceLT, Int.reduceLE, Int.reduceToNat, BitVec.reduceOfInt, Nat.reduceBEq, hb8]; try rfl) hG (loadA_scalar agg3 rfl) ?_
          refine al_pureN 2 (by simp only [go_sem, ↓reduceIte, Nat.reduceLT, Nat.reduceEqDiff, Nat.reduceLeDiff, Nat.reduceAdd, Nat.reduceMul, Int.reduceLT, Int.reduceLE, Int.reduceToNat, BitVec.reduceOfInt, Nat.reduceBEq, hb8]; try rfl) ?_
          refine al_end [2, 3, 6, 9, 10, 42] ?_
          refine awp_if rfl (fun h => by cases h) (fun _ => ?_)
          refine awp_skip ?_
          obtain ⟨j, hj⟩ : ∃ j, j = v + 1 - f := ⟨_, rfl⟩
          have hjl : j < g.as.length := by omega
          have hjx : ((v + 1 : Nat) : Int) - (f : Int) = (j : Int) := by omega
          have ha3 := ha.mono hστ
          obtain ⟨b1, b2, b3, b4⟩ := chkA_get hchk hjl
          have hgd : g.as.getD (v + 1 - f) (0, 0) = g.as[j] := by rw [← hj]; simp [List.getD, hjl]
          have hstep : coneL f g.as l (v + 1) u out = coneL f g.as l v (fun k => u k || (k == g.as[j].1.toNat / 2 || k == g.as[j].2.toNat / 2)) (out ++ [((v + 1 : Nat) : Int)]) := by
            rw [coneL, if_neg hskip, if_neg hvf, hgd]
          refine awp_seq ?_
          first | refine awp_seq (awp_lit ?_) | refine awp_lit ?_ | refine awp_seq (awp_seq (awp_lit ?_))
          refine al_load rfl (by simp only [go_sem, ↓reduceIte, Nat.reduceLT, Nat.reduceEqDiff, Nat.reduceLeDiff, Nat.reduceAdd, Nat.reduceMul, Int.reduceLT, Int.reduceLE, Int.reduceToNat, BitVec.reduceOfInt, Nat.reduceBEq]) rfl (by simp only [go_sem, ↓reduceIte, Nat.reduceLT, Nat.reduceEqDiff, Nat.reduceLeDiff, Nat.reduceAdd, Nat.reduceMul, Int.reduceLT, Int.reduceLE, Int.reduceToNat, BitVec.reduceOfInt, Nat.reduceBEq]; try rfl) hG (loadA_agg agg66 rfl) ?_
          refine al_pureN 1 (by simp only [go_sem, ↓reduceIte, Nat.reduceLT, Nat.reduceEqDiff, Nat.reduceLeDiff, Nat.reduceAdd, Nat.reduceMul, Int.reduceLT, Int.reduceLE, Int.reduceToNat, BitVec.reduceOfInt, Nat.reduceBEq]; try rfl) ?_
          refine al_gives (vs := ?vs4) (v := ?v4) rfl ?ha4 ?hh4 (by kernel_rfl) rfl (by simp only [go_sem, ↓reduceIte, Nat.reduceLT, Nat.reduceEqDiff, Nat.reduceLeDiff, Nat.reduceAdd, Nat.reduceMul, Int.reduceLT, Int.reduceLE, Int.reduceToNat, BitVec.reduceOfInt, Nat.reduceBEq]) ?kk4
          case ha4 => simp only [go_sem, ↓reduceIte, Nat.reduceLT, Nat.reduceEqDiff, Nat.reduceLeDiff, Nat.reduceAdd, Nat.reduceMul, Int.reduceLT, Int.reduceLE, Int.reduceToNat, BitVec.reduceOfInt, Nat.reduceBEq]; try rfl
          case hh4 => exact operands_gives ha3 hjl hjx (by omega)
          refine al_pureN 1 (by simp only [go_sem, ↓reduceIte, Nat.reduceLT, Nat.reduceEqDiff, Nat.reduceLeDiff, Nat.reduceAdd, Nat.reduceMul, Int.reduceLT, Int.reduceLE, Int.reduceToNat, BitVec.reduceOfInt, Nat.reduceBEq]; try rfl) ?_
          refine al_end [2, 3, 6, 9, 10, 49, 50] ?_
          obtain ⟨A, hAe⟩ : ∃ A, A = g.as[j].1 := ⟨_, rfl⟩
          obtain ⟨B, hBe⟩ : ∃ B, B = g.as[j].2 := ⟨_, rfl⟩
          rw [← hAe] at b1 b2 hstep ⊢
          rw [← hBe] at b3 b4 hstep ⊢
          have hA1 : 0 ≤ A / 2 ∧ A / 2 < ((m + 1 : Nat) : Int) := by omega
          have hB1 : 0 ≤ B / 2 ∧ B / 2 < ((m + 1 : Nat) : Int) := by omega
          have hA2 : (A / 2).toNat = A.toNat / 2 := by omega
          have hB2 : (B / 2).toNat = B.toNat / 2 := by omega
          have hA3 : A.toNat / 2 < m + 1 := by omega
          have hB3 : B.toNat / 2 < m + 1 := by omega
          have qA := quo_two b1 (by omega)
          have qB := quo_two b3 (by omega)
          have a01 : intA .add .i64 0 1 = some (.int .i64 1) := rfl
          have a11 : intA .add .i64 1 1 = some (.int .i64 2) := rfl
          refine awp_block (awp_loop ?_)
          refine aloop_round ?_
          refine awp_seq (awp_pures [2, 3, 6, 9, 10, 49, 50, 51] (by simp only [go_sem, ↓reduceIte, Nat.reduceLT, Nat.reduceEqDiff, Nat.reduceLeDiff, Nat.reduceAdd, Nat.reduceMul, Int.reduceLT, Int.reduceLE, Int.reduceToNat, BitVec.reduceOfInt, Nat.reduceBEq]; try rfl) ?_)
          refine awp_seq ?_
          refine awp_if rfl (fun _ => ?_) (fun h => by cases h)
          refine awp_skip ?_
          refine awp_seq (awp_block ?_)
          refine awp_seq (awp_pures [2, 3, 6, 9, 10, 12, 49, 50] (by simp only [go_sem, ↓reduceIte, Nat.reduceLT, Nat.reduceEqDiff, Nat.reduceLeDiff, Nat.reduceAdd, Nat.reduceMul, Int.reduceLT, Int.reduceLE, Int.reduceToNat, BitVec.reduceOfInt, Nat.reduceBEq]; try rfl) ?_)
          refine awp_lit ?_
          refine al_pureN 4 (by simp only [go_sem, ↓reduceIte, Nat.reduceLT, Nat.reduceEqDiff, Nat.reduceLeDiff, Nat.reduceAdd, Nat.reduceMul, Int.reduceLT, Int.reduceLE, Int.reduceToNat, BitVec.reduceOfInt, Nat.reduceBEq, qA, hA1]; try rfl) ?_
          refine al_store1 rfl (by simp only [go_sem, ↓reduceIte, Nat.reduceLT, Nat.reduceEqDiff, Nat.reduceLeDiff, Nat.reduceAdd, Nat.reduceMul, Int.reduceLT, Int.reduceLE, Int.reduceToNat, BitVec.reduceOfInt, Nat.reduceBEq]; try rfl) rfl (by simp only [go_sem, ↓reduceIte, Nat.reduceLT, Nat.reduceEqDiff, Nat.reduceLeDiff, Nat.reduceAdd, Nat.reduceMul, Int.reduceLT, Int.reduceLE, Int.reduceToNat, BitVec.reduceOfInt, Nat.reduceBEq]; try rfl) (by simp only [go_sem, ↓reduceIte, Nat.reduceLT, Nat.reduceEqDiff, Nat.reduceLeDiff, Nat.reduceAdd, Nat.reduceMul, Int.reduceLT, Int.reduceLE, Int.reduceToNat, BitVec.reduceOfInt, Nat.reduceBEq]; try rfl) hU rfl size4 rfl rfl (by show (A / 2).toNat < (bools _ _).length; rw [bools_len]; omega) ?_
          refine al_end [2, 3, 6, 9, 10, 49, 50] ?_
          refine awp_pures [2, 3, 6, 9, 10, 49, 50] (by simp only [go_sem, ↓reduceIte, Nat.reduceLT, Nat.reduceEqDiff, Nat.reduceLeDiff, Nat.reduceAdd, Nat.reduceMul, Int.reduceLT, Int.reduceLE, Int.reduceToNat, BitVec.reduceOfInt, Nat.reduceBEq, a01]; try rfl) ?_
          show ALoop _ _ _ _ _ _ (AHeap.set τ (N + 1) ⟨(bools u (m + 1)).set (A / 2).toNat (.bool true), true, .n 1⟩) _
          rw [bools_set, hA2]
          refine aloop_round ?_
          refine awp_seq (awp_pures [2, 3, 6, 9, 10, 49, 50, 51] (by simp only [go_sem, ↓reduceIte, Nat.reduceLT, Nat.reduceEqDiff, Nat.reduceLeDiff, Nat.reduceAdd, Nat.reduceMul, Int.reduceLT, Int.reduceLE, Int.reduceToNat, BitVec.reduceOfInt, Nat.reduceBEq]; try rfl) ?_)
          refine awp_seq ?_
          refine awp_if rfl (fun _ => ?_) (fun h => by cases h)
          refine awp_skip ?_
          refine awp_seq (awp_block ?_)
          refine awp_seq (awp_pures [2, 3, 6, 9, 10, 12, 49, 50] (by simp only [go_sem, ↓reduceIte, Nat.reduceLT, Nat.reduceEqDiff, Nat.reduceLeDiff, Nat.reduceAdd, Nat.reduceMul, Int.reduceLT, Int.reduceLE, Int.reduceToNat, BitVec.reduceOfInt, Nat.reduceBEq]; try rfl) ?_)
          refine awp_lit ?_
          refine al_pureN 4 (by simp only [go_sem, ↓reduceIte, Nat.reduceLT, Nat.reduceEqDiff, Nat.reduceLeDiff, Nat.reduceAdd, Nat.reduceMul, Int.reduceLT, Int.reduceLE, Int.reduceToNat, BitVec.reduceOfInt, Nat.reduceBEq, qB, hB1]; try rfl) ?_
          refine al_store1 rfl (by simp only [go_sem, ↓reduceIte, Nat.reduceLT, Nat.reduceEqDiff, Nat.reduceLeDiff, Nat.reduceAdd, Nat.reduceMul, Int.reduceLT, Int.reduceLE, Int.reduceToNat, BitVec.reduceOfInt, Nat.reduceBEq]; try rfl) rfl (by simp only [go_sem, ↓reduceIte, Nat.reduceLT, Nat.reduceEqDiff, Nat.reduceLeDiff, Nat.reduceAdd, Nat.reduceMul, Int.reduceLT, Int.reduceLE, Int.reduceToNat, BitVec.reduceOfInt, Nat.reduceBEq]; try rfl) (by simp only [go_sem, ↓reduceIte, Nat.reduceLT, Nat.reduceEqDiff, Nat.reduceLeDiff, Nat.reduceAdd, Nat.reduceMul, Int.reduceLT, Int.reduceLE, Int.reduceToNat, BitVec.reduceOfInt, Nat.reduceBEq]; try rfl) (AHeap.set_self _ _ _) rfl size4 rfl rfl (by show (B / 2).toNat < (bools _ _).length; rw [bools_len]; omega) ?_
          refine al_end [2, 3, 6, 9, 10, 49, 50] ?_
          refine awp_pures [2, 3, 6, 9, 10, 49, 50] (by simp only [go_sem, ↓reduceIte, Nat.reduceLT, Nat.reduceEqDiff, Nat.reduceLeDiff, Nat.reduceAdd, Nat.reduceMul, Int.reduceLT, Int.reduceLE, Int.reduceToNat, BitVec.reduceOfInt, Nat.reduceBEq, a11]; try rfl) ?_
          show ALoop _ _ _ _ _ _ (AHeap.set (AHeap.set τ (N + 1) ⟨bools (fun k => u k || k == A.toNat / 2) (m + 1), true, .n 1⟩) (N + 1) ⟨(bools (fun k => u k || k == A.toNat / 2) (m + 1)).set (B / 2).toNat (.bool true), true, .n 1⟩) _
          rw [bools_set, hB2, AHeap.set_set]
          refine aloop_round ?_
          refine awp_seq (awp_pures [2, 3, 6, 9, 10, 49, 50, 51] (by simp only [go_sem, ↓reduceIte, Nat.reduceLT, Nat.reduceEqDiff, Nat.reduceLeDiff, Nat.reduceAdd, Nat.reduceMul, Int.reduceLT, Int.reduceLE, Int.reduceToNat, BitVec.reduceOfInt, Nat.reduceBEq]; try rfl) ?_)
          refine awp_seq ?_
          refine awp_if rfl (fun h => by cases h) (fun _ => ?_)
          refine awp_exit ?_
          simp only [Go.Abs.Seq, Go.Abs.Round, Go.Abs.InBlock, ↓reduceIte]
          have hout2 : OwnAt (τ.set (N + 1) ⟨bools (fun k => (u k || k == A.toNat / 2) || k == B.toNat / 2) (m + 1), true, .n 1⟩) (N + 2) sv (ints out) out.length 1 :=
            hout.mono (fun i b hi hb => by rw [AHeap.set_ne _ _ (by omega)]; exact hb) (Nat.le_refl _)
          have hfun : (fun k => (u k || k == A.toNat / 2) || k == B.toNat / 2) = fun k => u k || (k == A.toNat / 2 || k == B.toNat / 2) := by funext k; rw [Bool.or_assoc]
          refine awp_lit ?_
          refine al_pureN 2 (by simp only [go_sem, ↓reduceIte, Nat.reduceLT, Nat.reduceEqDiff, Nat.reduceLeDiff, Nat.reduceAdd, Nat.reduceMul, Int.reduceLT, Int.reduceLE, Int.reduceToNat, BitVec.reduceOfInt, Nat.reduceBEq]; try rfl) ?_
          refine al_push rfl rfl rfl (by simp only [go_sem, ↓reduceIte, Nat.reduceLT, Nat.reduceEqDiff, Nat.reduceLeDiff, Nat.reduceAdd, Nat.reduceMul, Int.reduceLT, Int.reduceLE, Int.reduceToNat, BitVec.reduceOfInt, Nat.reduceBEq]; try rfl) (by simp only [go_sem, ↓reduceIte, Nat.reduceLT, Nat.reduceEqDiff, Nat.reduceLeDiff, Nat.reduceAdd, Nat.reduceMul, Int.reduceLT, Int.reduceLE, Int.reduceToNat, BitVec.reduceOfInt, Nat.reduceBEq]; try rfl) rfl rfl Try.underlying35 ty3 rfl rfl rfl (by simp only [go_sem, ↓reduceIte, Nat.reduceLT, Nat.reduceEqDiff, Nat.reduceLeDiff, Nat.reduceAdd, Nat.reduceMul, Int.reduceLT, Int.reduceLE, Int.reduceToNat, BitVec.reduceOfInt, Nat.reduceBEq]; try rfl) (by simp only [go_sem, ↓reduceIte, Nat.reduceLT, Nat.reduceEqDiff, Nat.reduceLeDiff, Nat.reduceAdd, Nat.reduceMul, Int.reduceLT, Int.reduceLE, Int.reduceToNat, BitVec.reduceOfInt, Nat.reduceBEq]; try rfl) rfl rfl hout2 (by omega) (by omega) (by omega) ?_
          intro N' σ' v' hN' hown' hkeep
          refine al_pureN 1 (by simp only [go_sem, ↓reduceIte, Nat.reduceLT, Nat.reduceEqDiff, Nat.reduceLeDiff, Nat.reduceAdd, Nat.reduceMul, Int.reduceLT, Int.reduceLE, Int.reduceToNat, BitVec.reduceOfInt, Nat.reduceBEq]; try rfl) ?_
          refine al_end [2, 3, 6, 9, 10] ?_
          refine awp_pures [2, 3, 6, 9, 10] (by simp only [go_sem, ↓reduceIte, Nat.reduceLT, Nat.reduceEqDiff, Nat.reduceLeDiff, Nat.reduceAdd, Nat.reduceMul, Int.reduceLT, Int.reduceLE, Int.reduceToNat, BitVec.reduceOfInt, Nat.reduceBEq, i64_sub hsub, hv1]; try rfl) ?_
          have hints : ints out ++ [.int .i64 ((v + 1 : Nat) : Int)] = ints (out ++ [((v + 1 : Nat) : Int)]) := by simp [ints]
          rw [hints] at hown'
          have hk2 := hkeep _ (set_mono hτ (N + 1) ⟨bools (fun k => (u k || k == A.toNat / 2) || k == B.toNat / 2) (m + 1), true, .n 1⟩) (dom_set (dom_set hN))
          refine ALoop.cast3 (ih ⟨v, _, out ++ [((v + 1 : Nat) : Int)], N', σ', v'⟩ ⟨by dsimp only; omega, by dsimp only; omega, ?_, by simpa using hown', ?_, by simp; omega, by rw [hpre, hstep]⟩ (by dsimp only; omega)) rfl rfl rfl
          · rw [← hfun]; exact hk2 _ _ (AHeap.set_self _ _ _)
          · exact (le_new (dom_set hN) (Nat.le_refl _)).trans hk2
  · have hb : (leafE ((f : Int) + (g.as.length : Int)) node l != 0) = true := by simpa using hE
    refine awp_seq (awp_pures [1, 2, 3, 6, 8, 18] (by simp only [go_sem, ↓reduceIte, Nat.reduceLT, Nat.reduceEqDiff, Nat.reduceLeDiff, Nat.reduceAdd, Nat.reduceMul, Int.reduceLT, Int.reduceLE, Int.reduceToNat, BitVec.reduceOfInt, Nat.reduceBEq, hb]; try rfl) ?_)
    refine awp_if rfl (fun _ => ?_) (fun h => by cases h)
    refine awp_seq (awp_pures [6, 7] (by simp only [go_sem, ↓reduceIte, Nat.reduceLT, Nat.reduceEqDiff, Nat.reduceLeDiff, Nat.reduceAdd, Nat.reduceMul, Int.reduceLT, Int.reduceLE, Int.reduceToNat, BitVec.reduceOfInt, Nat.reduceBEq]; try rfl) ?_)
    refine awp_ret ⟨_, res_tt rfl rfl rfl, .slice none 0 0, ?_, ?_, hle, by omega⟩
    · simp [coneE, hE]
    · simp [coneE, hE]
      exact .nil
end Go.Proofs.Ytfialjllclclkaa
