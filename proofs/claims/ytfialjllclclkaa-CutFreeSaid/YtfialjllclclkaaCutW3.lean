/- The walks of the cuts' graphs. -/
import Derived.Test.YtfialjllclclkaaCutW2
import Derived.Test.YtfialjllclclkaaAbWr
set_option linter.unusedSimpArgs false
set_option linter.unusedVariables false
namespace Go.Proofs.Ytfialjllclclkaa
open Go.Abs Go.Cut
attribute [local go_sem] Try.underlying26 Try.underlying66 Try.underlying69 Try.underlying3 Try.underlying22 Try.underlying23 Try.underlying24 Try.underlying35 Try.underlying43 Try.underlying45 Try.underlying47 Try.underlying5 Try.underlying4 Try.underlying30 size26 size66 size69 size3 size22 size23 size24 size35 size43 size45 size47 size5 size4 size30 Nat.mul_one
theorem add_any (a b : Int) : intA .add .i64 a b = some (.int .i64 (IntKind.i64.wrap (a + b))) := rfl
theorem slBdd {σ : AHeap} {N : Nat} (hN : ∀ i b, σ i = some b → i < N) {sz : Nat} {v : Value} {rows : List (List Value)} (h : RowsAt σ sz v rows) : Bdd N v := by
  rcases h with ⟨rfl, _⟩ | ⟨id, off, cap, b, rfl, h2, _⟩
  · exact .flat rfl
  · exact .slice (hN _ _ h2)
theorem slBdd1 {σ : AHeap} {N : Nat} (hN : ∀ i b, σ i = some b → i < N) {v : Value} {vs : List Value} (h : SlAt σ v vs) : Bdd N v := by
  rcases h with ⟨rfl, _⟩ | ⟨id, off, cap, b, rfl, h2, _⟩
  · exact .flat rfl
  · exact .slice (hN _ _ h2)
theorem bdd_list {N : Nat} {l : List Value} (h : ∀ x ∈ l, Bdd N x) : Bdd N (.agg l.toArray) := .agg fun i v hv => h v (List.mem_of_getElem? (by simpa using hv))
theorem blk_flat {N : Nat} {l : List Value} (h : l.all flat = true) {k : Nat} {own : Bool} : BlkBdd N ⟨l, own, .n k⟩ := ⟨fun x hx => .of_flat (List.all_eq_true.1 h x hx), .row N k⟩
theorem open_ok {g : AigD} {lb ab ob : Option Addr} {lc ac oc : Nat} {N : Nat} {σ : AHeap} (hf : Few g) (hl : RowsAt σ 2 (.slice lb g.ls.length lc) (pairsV .i64 .u8 g.ls)) (ha : RowsAt σ 2 (.slice ab g.as.length ac) (pairsV .i64 .i64 g.as)) (ho : SlAt σ (.slice ob g.os.length oc) (ints g.os)) :
    AOk Try.prog 38 [.agg #[.int .i64 g.inp, .slice lb g.ls.length lc, .slice ab g.as.length ac, .slice ob g.os.length oc]] N σ fun r N1 σ1 => r = .tuple #[graphV lb lc ab ac ob oc g (openF g), .int .i64 (chkE g)] ∧ N ≤ N1 ∧ σ.le σ1 := by
  refine aok_fresh fun hN => aok_body (r := false) (n := 15) Try.func38 rfl rfl (by simp) ?_
  first | refine awp_seq (awp_lit ?_) | refine awp_lit ?_ | refine awp_seq (awp_seq (awp_lit ?_))
  refine al_box 1 rfl rfl rfl (by simp only [go_sem, ↓reduceIte, Nat.reduceLT, Nat.reduceEqDiff, Nat.reduceLeDiff, Nat.reduceAdd, Nat.reduceMul, Int.reduceLT, Int.reduceLE, Int.reduceToNat, BitVec.reduceOfInt, Nat.reduceBEq]; try rfl) ?_
  refine al_alloc 1 rfl rfl rfl ty66 (by decide) ?_
  refine al_pureN 1 (by simp only [go_sem, ↓reduceIte, Nat.reduceLT, Nat.reduceEqDiff, Nat.reduceLeDiff, Nat.reduceAdd, Nat.reduceMul, Int.reduceLT, Int.reduceLE, Int.reduceToNat, BitVec.reduceOfInt, Nat.reduceBEq]; try rfl) ?_
  refine al_end [1, 2] ?_
  have hN1 := dom_set (b := ⟨spread (.agg #[.int .i64 g.inp, .slice lb g.ls.length lc, .slice ab g.as.length ac, .slice ob g.os.length oc]), true, 1⟩) hN
  have hle : σ.le ((σ.set N ⟨spread (.agg #[.int .i64 g.inp, .slice lb g.ls.length lc, .slice ab g.as.length ac, .slice ob g.os.length oc]), true, 1⟩).set (N + 1) ⟨spread (.agg #[.int .i64 0, .slice none 0 0, .slice none 0 0, .slice none 0 0, .int .i64 0]), true, 1⟩) := (le_new hN (Nat.le_refl _)).trans (le_new hN1 (Nat.le_refl _))
  have hw : ∀ b, σ (N + 1) ≠ some b := fun b hb => by have := hN _ _ hb; omega
  have hat : AigAt (wv (N + 1 + 1) (N + 1) ((σ.set N ⟨spread (.agg #[.int .i64 g.inp, .slice lb g.ls.length lc, .slice ab g.as.length ac, .slice ob g.os.length oc]), true, 1⟩).set (N + 1) ⟨spread (.agg #[.int .i64 0, .slice none 0 0, .slice none 0 0, .slice none 0 0, .int .i64 0]), true, 1⟩)) (.agg #[.int .i64 g.inp, .slice lb g.ls.length lc, .slice ab g.as.length ac, .slice ob g.os.length oc]) g :=
    ⟨_, _, _, rfl, hl.wv (dom_set hN1) hle hw, ha.wv (dom_set hN1) hle hw, ho.wv (dom_set hN1) hle hw⟩
  have hb1 := (slBdd hN hl).mono (show N ≤ N + 1 + 1 by omega)
  have hb2 := (slBdd hN ha).mono (show N ≤ N + 1 + 1 by omega)
  have hb3 := (slBdd1 hN ho).mono (show N ≤ N + 1 + 1 by omega)
  have hbV : Bdd (N + 1 + 1) (graphV lb lc ab ac ob oc g (openF g)) := bdd_list (l := [.int .i64 g.inp, .slice lb g.ls.length lc, .slice ab g.as.length ac, .slice ob g.os.length oc, .int .i64 (openF g)]) (by
    intro x hx
    simp only [List.mem_cons, List.not_mem_nil, or_false] at hx
    rcases hx with rfl | rfl | rfl | rfl | rfl
    · exact .of_flat rfl
    · exact hb1
    · exact hb2
    · exact hb3
    · exact .of_flat rfl)
  refine awp_seq (awp_wr [2, 3] (N + 1) [11] (by kernel_rfl) fun hNq => ?_)
  refine tw_load hNq rfl (by simp only [go_sem, ↓reduceIte, Nat.reduceLT, Nat.reduceEqDiff, Nat.reduceLeDiff, Nat.reduceAdd, Nat.reduceMul, Int.reduceLT, Int.reduceLE, Int.reduceToNat, BitVec.reduceOfInt, Nat.reduceBEq, add_any]; try rfl) rfl (by simp only [go_sem, ↓reduceIte, Nat.reduceLT, Nat.reduceEqDiff, Nat.reduceLeDiff, Nat.reduceAdd, Nat.reduceMul, Int.reduceLT, Int.reduceLE, Int.reduceToNat, BitVec.reduceOfInt, Nat.reduceBEq, add_any]; try rfl) (by first | exact AHeap.set_self _ _ _ | (simp only [AHeap.set, ↓reduceIte, Nat.add_assoc, Nat.reduceAdd, Nat.add_left_cancel_iff, Nat.add_right_cancel_iff, Nat.left_eq_add, Nat.add_eq_left, Nat.add_eq_right, Nat.right_eq_add, Nat.reduceEqDiff, Nat.succ_ne_zero, add_any]; rfl) | assumption) ⟨_, rfl⟩ (by omega) (by first | exact loadA_scalar agg26 rfl | exact loadA_agg agg26 rfl | exact loadA_scalar agg26 (by assumption)) ?_
  refine tw_pures 1 (by simp only [go_sem, ↓reduceIte, Nat.reduceLT, Nat.reduceEqDiff, Nat.reduceLeDiff, Nat.reduceAdd, Nat.reduceMul, Int.reduceLT, Int.reduceLE, Int.reduceToNat, BitVec.reduceOfInt, Nat.reduceBEq, add_any]; try rfl) ?_
  refine tw_load hNq rfl (by simp only [go_sem, ↓reduceIte, Nat.reduceLT, Nat.reduceEqDiff, Nat.reduceLeDiff, Nat.reduceAdd, Nat.reduceMul, Int.reduceLT, Int.reduceLE, Int.reduceToNat, BitVec.reduceOfInt, Nat.reduceBEq, add_any]; try rfl) rfl (by simp only [go_sem, ↓reduceIte, Nat.reduceLT, Nat.reduceEqDiff, Nat.reduceLeDiff, Nat.reduceAdd, Nat.reduceMul, Int.reduceLT, Int.reduceLE, Int.reduceToNat, BitVec.reduceOfInt, Nat.reduceBEq, add_any]; try rfl) (by first | exact AHeap.set_self _ _ _ | (simp only [AHeap.set, ↓reduceIte, Nat.add_assoc, Nat.reduceAdd, Nat.add_left_cancel_iff, Nat.add_right_cancel_iff, Nat.left_eq_add, Nat.add_eq_left, Nat.add_eq_right, Nat.right_eq_add, Nat.reduceEqDiff, Nat.succ_ne_zero, add_any]; rfl) | assumption) ⟨_, rfl⟩ (by omega) (by first | exact loadA_scalar agg3 rfl | exact loadA_agg agg3 rfl | exact loadA_scalar agg3 (by assumption)) ?_
  refine tw_pures 2 (by simp only [go_sem, ↓reduceIte, Nat.reduceLT, Nat.reduceEqDiff, Nat.reduceLeDiff, Nat.reduceAdd, Nat.reduceMul, Int.reduceLT, Int.reduceLE, Int.reduceToNat, BitVec.reduceOfInt, Nat.reduceBEq, add_any]; try rfl) ?_
  refine tw_load hNq rfl (by simp only [go_sem, ↓reduceIte, Nat.reduceLT, Nat.reduceEqDiff, Nat.reduceLeDiff, Nat.reduceAdd, Nat.reduceMul, Int.reduceLT, Int.reduceLE, Int.reduceToNat, BitVec.reduceOfInt, Nat.reduceBEq, add_any]; try rfl) rfl (by simp only [go_sem, ↓reduceIte, Nat.reduceLT, Nat.reduceEqDiff, Nat.reduceLeDiff, Nat.reduceAdd, Nat.reduceMul, Int.reduceLT, Int.reduceLE, Int.reduceToNat, BitVec.reduceOfInt, Nat.reduceBEq, add_any]; try rfl) (by first | exact AHeap.set_self _ _ _ | (simp only [AHeap.set, ↓reduceIte, Nat.add_assoc, Nat.reduceAdd, Nat.add_left_cancel_iff, Nat.add_right_cancel_iff, Nat.left_eq_add, Nat.add_eq_left, Nat.add_eq_right, Nat.right_eq_add, Nat.reduceEqDiff, Nat.succ_ne_zero, add_any]; rfl) | assumption) ⟨_, rfl⟩ (by omega) (by first | exact loadA_scalar agg22 rfl | exact loadA_agg agg22 rfl | exact loadA_scalar agg22 (by assumption)) ?_
  refine tw_pures 2 (by simp only [go_sem, ↓reduceIte, Nat.reduceLT, Nat.reduceEqDiff, Nat.reduceLeDiff, Nat.reduceAdd, Nat.reduceMul, Int.reduceLT, Int.reduceLE, Int.reduceToNat, BitVec.reduceOfInt, Nat.reduceBEq, add_any]; try rfl) ?_
  refine tw_build rfl (by simp only [go_sem, ↓reduceIte, Nat.reduceLT, Nat.reduceEqDiff, Nat.reduceLeDiff, Nat.reduceAdd, Nat.reduceMul, Int.reduceLT, Int.reduceLE, Int.reduceToNat, BitVec.reduceOfInt, Nat.reduceBEq, add_any]; try rfl) rfl Try.underlying66 ty66 (by decide) (pl := [(0, 4), (4, 1)]) (by kernel_rfl) (by simp only [go_sem, ↓reduceIte, Nat.reduceLT, Nat.reduceEqDiff, Nat.reduceLeDiff, Nat.reduceAdd, Nat.reduceMul, Int.reduceLT, Int.reduceLE, Int.reduceToNat, BitVec.reduceOfInt, Nat.reduceBEq, add_any]; try rfl) (by first | rfl | simp only [go_sem, ↓reduceIte, Nat.reduceLT, Nat.reduceEqDiff, Nat.reduceLeDiff, Nat.reduceAdd, Nat.reduceMul, Int.reduceLT, Int.reduceLE, Int.reduceToNat, BitVec.reduceOfInt, Nat.reduceBEq, add_any]) ?_
  refine tw_load hNq rfl (by simp only [go_sem, ↓reduceIte, Nat.reduceLT, Nat.reduceEqDiff, Nat.reduceLeDiff, Nat.reduceAdd, Nat.reduceMul, Int.reduceLT, Int.reduceLE, Int.reduceToNat, BitVec.reduceOfInt, Nat.reduceBEq, add_any]; try rfl) rfl (by simp only [go_sem, ↓reduceIte, Nat.reduceLT, Nat.reduceEqDiff, Nat.reduceLeDiff, Nat.reduceAdd, Nat.reduceMul, Int.reduceLT, Int.reduceLE, Int.reduceToNat, BitVec.reduceOfInt, Nat.reduceBEq, add_any]; try rfl) (by first | exact AHeap.set_self _ _ _ | (simp only [AHeap.set, ↓reduceIte, Nat.add_assoc, Nat.reduceAdd, Nat.add_left_cancel_iff, Nat.add_right_cancel_iff, Nat.left_eq_add, Nat.add_eq_left, Nat.add_eq_right, Nat.right_eq_add, Nat.reduceEqDiff, Nat.succ_ne_zero, add_any]; rfl) | assumption) ⟨_, rfl⟩ (by omega) (by first | exact loadA_scalar agg26 rfl | exact loadA_agg agg26 rfl | exact loadA_scalar agg26 (by assumption)) ?_
  refine tw_gives rfl (by simp only [go_sem, ↓reduceIte, Nat.reduceLT, Nat.reduceEqDiff, Nat.reduceLeDiff, Nat.reduceAdd, Nat.reduceMul, Int.reduceLT, Int.reduceLE, Int.reduceToNat, BitVec.reduceOfInt, Nat.reduceBEq, add_any]; try rfl) (by simp only [go_sem, ↓reduceIte, Nat.reduceLT, Nat.reduceEqDiff, Nat.reduceLeDiff, Nat.reduceAdd, Nat.reduceMul, Int.reduceLT, Int.reduceLE, Int.reduceToNat, BitVec.reduceOfInt, Nat.reduceBEq, add_any]; try rfl) (fun m => Check_gives hat hf) (by kernel_rfl) rfl (by simp only [go_sem, ↓reduceIte, Nat.reduceLT, Nat.reduceEqDiff, Nat.reduceLeDiff, Nat.reduceAdd, Nat.reduceMul, Int.reduceLT, Int.reduceLE, Int.reduceToNat, BitVec.reduceOfInt, Nat.reduceBEq, add_any]) ?_
  refine tw_store hNq rfl (by simp only [go_sem, ↓reduceIte, Nat.reduceLT, Nat.reduceEqDiff, Nat.reduceLeDiff, Nat.reduceAdd, Nat.reduceMul, Int.reduceLT, Int.reduceLE, Int.reduceToNat, BitVec.reduceOfInt, Nat.reduceBEq, add_any]; try rfl) rfl (by simp only [go_sem, ↓reduceIte, Nat.reduceLT, Nat.reduceEqDiff, Nat.reduceLeDiff, Nat.reduceAdd, Nat.reduceMul, Int.reduceLT, Int.reduceLE, Int.reduceToNat, BitVec.reduceOfInt, Nat.reduceBEq, add_any]; try rfl) (by simp only [go_sem, ↓reduceIte, Nat.reduceLT, Nat.reduceEqDiff, Nat.reduceLeDiff, Nat.reduceAdd, Nat.reduceMul, Int.reduceLT, Int.reduceLE, Int.reduceToNat, BitVec.reduceOfInt, Nat.reduceBEq, add_any]; try rfl) (by first | exact AHeap.set_self _ _ _ | (simp only [AHeap.set, ↓reduceIte, Nat.add_assoc, Nat.reduceAdd, Nat.add_left_cancel_iff, Nat.add_right_cancel_iff, Nat.left_eq_add, Nat.add_eq_left, Nat.add_eq_right, Nat.right_eq_add, Nat.reduceEqDiff, Nat.succ_ne_zero, add_any]; rfl) | assumption) ⟨_, rfl⟩ rfl (by exact size66.trans rfl) (by rfl) (by exact Nat.le_of_ble_eq_true rfl) (by decide) hbV (blk_flat (by decide)) fun hNq => ?_
  refine tw_pures 1 (by simp only [go_sem, ↓reduceIte, Nat.reduceLT, Nat.reduceEqDiff, Nat.reduceLeDiff, Nat.reduceAdd, Nat.reduceMul, Int.reduceLT, Int.reduceLE, Int.reduceToNat, BitVec.reduceOfInt, Nat.reduceBEq, add_any]; try rfl) ?_
  refine tw_end ?_
  refine awp_ret ⟨_, res_ct rfl rfl (AHeap.set_self _ _ _) (loadA_agg agg66 rfl) rfl, rfl, by omega, ?_⟩
  rw [AHeap.set_set]
  exact (le_new hN (Nat.le_refl _)).trans (le_new hN1 (Nat.le_refl _))
theorem operands_gives {g : AigD} {lb ab ob : Option Addr} {lc ac oc j : Nat} {f x : Int} {N : Nat} {σ : AHeap} (ha : RowsAt σ 2 (.slice ab g.as.length ac) (pairsV .i64 .i64 g.as)) (hj : j < g.as.length) (hx : x - f = j) (hlen : g.as.length ≤ 1000000) :
    Gives Try.prog 39 [graphV lb lc ab ac ob oc g f, .int .i64 x] N σ (.agg #[.int .i64 g.as[j].1, .int .i64 g.as[j].2]) := by
  refine gives_of rfl (aok_fresh fun hN => aok_body (r := false) (n := 20) Try.func39 rfl rfl (by simp) ?_)
  have hs : -9223372036854775808 ≤ x - f ∧ x - f ≤ 9223372036854775807 := by omega
  have hjj : 0 ≤ (j : Int) ∧ (j : Int) < (g.as.length : Int) := by omega
  unfold graphV
  first | refine awp_seq (awp_lit ?_) | refine awp_lit ?_ | refine awp_seq (awp_seq (awp_lit ?_))
  refine al_box 1 rfl rfl rfl (by simp only [go_sem, ↓reduceIte, Nat.reduceLT, Nat.reduceEqDiff, Nat.reduceLeDiff, Nat.reduceAdd, Nat.reduceMul, Int.reduceLT, Int.reduceLE, Int.reduceToNat, BitVec.reduceOfInt, Nat.reduceBEq]; try rfl) ?_
  refine al_alloc 1 rfl rfl rfl ty69 (by decide) ?_
  refine al_end [1, 2, 4] ?_
  have hN1 := dom_set (b := ⟨spread (graphV lb lc ab ac ob oc g f), true, 1⟩) hN
  have hN2 := dom_set (b := ⟨spread (.agg #[.int .i64 0, .int .i64 0]), true, 1⟩) hN1
  have hle : σ.le ((σ.set N ⟨spread (graphV lb lc ab ac ob oc g f), true, 1⟩).set (N + 1) ⟨spread (.agg #[.int .i64 0, .int .i64 0]), true, 1⟩) := (le_new hN (Nat.le_refl _)).trans (le_new hN1 (Nat.le_refl _))
  obtain ⟨id, off, cap, b, e1, e2, e3, e4⟩ := rowsAt_pair (ha.mono hle) hj
  cases e1
  unfold graphV at hN1 hN2 hle e2
  first | refine awp_seq (awp_lit ?_) | refine awp_lit ?_ | refine awp_seq (awp_seq (awp_lit ?_))
  refine al_pureN 2 (by simp only [go_sem, ↓reduceIte, Nat.reduceLT, Nat.reduceEqDiff, Nat.reduceLeDiff, Nat.reduceAdd, Nat.reduceMul, Int.reduceLT, Int.reduceLE, Int.reduceToNat, BitVec.reduceOfInt, Nat.reduceBEq, i64_sub hs, hx, hjj]; try rfl) ?_
  refine al_load rfl (by simp only [go_sem, ↓reduceIte, Nat.reduceLT, Nat.reduceEqDiff, Nat.reduceLeDiff, Nat.reduceAdd, Nat.reduceMul, Int.reduceLT, Int.reduceLE, Int.reduceToNat, BitVec.reduceOfInt, Nat.reduceBEq, i64_sub hs, hx, hjj]) rfl (by simp only [go_sem, ↓reduceIte, Nat.reduceLT, Nat.reduceEqDiff, Nat.reduceLeDiff, Nat.reduceAdd, Nat.reduceMul, Int.reduceLT, Int.reduceLE, Int.reduceToNat, BitVec.reduceOfInt, Nat.reduceBEq, i64_sub hs, hx, hjj]; try rfl) (by first | exact AHeap.set_self _ _ _ | (simp only [AHeap.set, ↓reduceIte, Nat.add_assoc, Nat.reduceAdd, Nat.add_left_cancel_iff, Nat.add_right_cancel_iff, Nat.left_eq_add, Nat.add_eq_left, Nat.add_eq_right, Nat.right_eq_add, Nat.reduceEqDiff, Nat.succ_ne_zero, i64_sub hs, hx, hjj]; rfl) | assumption) (by first | exact loadA_scalar agg23 rfl | exact loadA_agg agg23 rfl | exact loadA_scalar agg23 (by assumption)) ?_
  refine al_pureN 2 (by simp only [go_sem, ↓reduceIte, Nat.reduceLT, Nat.reduceEqDiff, Nat.reduceLeDiff, Nat.reduceAdd, Nat.reduceMul, Int.reduceLT, Int.reduceLE, Int.reduceToNat, BitVec.reduceOfInt, Nat.reduceBEq, i64_sub hs, hx, hjj]; try rfl) ?_
  refine al_load rfl (by simp only [go_sem, ↓reduceIte, Nat.reduceLT, Nat.reduceEqDiff, Nat.reduceLeDiff, Nat.reduceAdd, Nat.reduceMul, Int.reduceLT, Int.reduceLE, Int.reduceToNat, BitVec.reduceOfInt, Nat.reduceBEq, i64_sub hs, hx, hjj]) rfl (by simp only [go_sem, ↓reduceIte, Nat.reduceLT, Nat.reduceEqDiff, Nat.reduceLeDiff, Nat.reduceAdd, Nat.reduceMul, Int.reduceLT, Int.reduceLE, Int.reduceToNat, BitVec.reduceOfInt, Nat.reduceBEq, i64_sub hs, hx, hjj]; try rfl) (by first | exact AHeap.set_self _ _ _ | (simp only [AHeap.set, ↓reduceIte, Nat.add_assoc, Nat.reduceAdd, Nat.add_left_cancel_iff, Nat.add_right_cancel_iff, Nat.left_eq_add, Nat.add_eq_left, Nat.add_eq_right, Nat.right_eq_add, Nat.reduceEqDiff, Nat.succ_ne_zero, i64_sub hs, hx, hjj]; rfl) | assumption) (by first | exact loadA_scalar agg3 rfl | exact loadA_agg agg3 rfl | exact loadA_scalar agg3 (by assumption)) ?_
  refine al_pureN 2 (by simp only [go_sem, ↓reduceIte, Nat.reduceLT, Nat.reduceEqDiff, Nat.reduceLeDiff, Nat.reduceAdd, Nat.reduceMul, Int.reduceLT, Int.reduceLE, Int.reduceToNat, BitVec.reduceOfInt, Nat.reduceBEq, i64_sub hs, hx, hjj]; try rfl) ?_
  refine al_load rfl (by simp only [go_sem, ↓reduceIte, Nat.reduceLT, Nat.reduceEqDiff, Nat.reduceLeDiff, Nat.reduceAdd, Nat.reduceMul, Int.reduceLT, Int.reduceLE, Int.reduceToNat, BitVec.reduceOfInt, Nat.reduceBEq, i64_sub hs, hx, hjj]) rfl (by simp only [go_sem, ↓reduceIte, Nat.reduceLT, Nat.reduceEqDiff, Nat.reduceLeDiff, Nat.reduceAdd, Nat.reduceMul, Int.reduceLT, Int.reduceLE, Int.reduceToNat, BitVec.reduceOfInt, Nat.reduceBEq, i64_sub hs, hx, hjj]; try rfl) e2 (loadA_agg agg47 e3) ?_
  refine al_alloc 1 rfl rfl rfl ty47 (by decide) ?_
  refine al_store rfl (by simp only [go_sem, ↓reduceIte, Nat.reduceLT, Nat.reduceEqDiff, Nat.reduceLeDiff, Nat.reduceAdd, Nat.reduceMul, Int.reduceLT, Int.reduceLE, Int.reduceToNat, BitVec.reduceOfInt, Nat.reduceBEq, i64_sub hs, hx, hjj]) rfl (by simp only [go_sem, ↓reduceIte, Nat.reduceLT, Nat.reduceEqDiff, Nat.reduceLeDiff, Nat.reduceAdd, Nat.reduceMul, Int.reduceLT, Int.reduceLE, Int.reduceToNat, BitVec.reduceOfInt, Nat.reduceBEq, i64_sub hs, hx, hjj]; try rfl) (by simp only [go_sem, ↓reduceIte, Nat.reduceLT, Nat.reduceEqDiff, Nat.reduceLeDiff, Nat.reduceAdd, Nat.reduceMul, Int.reduceLT, Int.reduceLE, Int.reduceToNat, BitVec.reduceOfInt, Nat.reduceBEq, i64_sub hs, hx, hjj]; try rfl) (by first | exact AHeap.set_self _ _ _ | (simp only [AHeap.set, ↓reduceIte, Nat.add_assoc, Nat.reduceAdd, Nat.add_left_cancel_iff, Nat.add_right_cancel_iff, Nat.left_eq_add, Nat.add_eq_left, Nat.add_eq_right, Nat.right_eq_add, Nat.reduceEqDiff, Nat.succ_ne_zero, i64_sub hs, hx, hjj]; rfl) | assumption) rfl (by exact size47.trans rfl) (by rfl) (by exact Nat.le_of_ble_eq_true rfl) ?_
  refine al_end [4, 5] ?_
  rw [AHeap.set_set]
  first | refine awp_seq (awp_lit ?_) | refine awp_lit ?_ | refine awp_seq (awp_seq (awp_lit ?_))
  refine al_pureN 1 (by simp only [go_sem, ↓reduceIte, Nat.reduceLT, Nat.reduceEqDiff, Nat.reduceLeDiff, Nat.reduceAdd, Nat.reduceMul, Int.reduceLT, Int.reduceLE, Int.reduceToNat, BitVec.reduceOfInt, Nat.reduceBEq]; try rfl) ?_
  refine al_load rfl (by simp only [go_sem, ↓reduceIte, Nat.reduceLT, Nat.reduceEqDiff, Nat.reduceLeDiff, Nat.reduceAdd, Nat.reduceMul, Int.reduceLT, Int.reduceLE, Int.reduceToNat, BitVec.reduceOfInt, Nat.reduceBEq]) rfl (by simp only [go_sem, ↓reduceIte, Nat.reduceLT, Nat.reduceEqDiff, Nat.reduceLeDiff, Nat.reduceAdd, Nat.reduceMul, Int.reduceLT, Int.reduceLE, Int.reduceToNat, BitVec.reduceOfInt, Nat.reduceBEq]; try rfl) (by first | exact AHeap.set_self _ _ _ | (simp only [AHeap.set, ↓reduceIte, Nat.add_assoc, Nat.reduceAdd, Nat.add_left_cancel_iff, Nat.add_right_cancel_iff, Nat.left_eq_add, Nat.add_eq_left, Nat.add_eq_right, Nat.right_eq_add, Nat.reduceEqDiff, Nat.succ_ne_zero]; rfl) | assumption) (by first | exact loadA_scalar agg43 rfl | exact loadA_agg agg43 rfl | exact loadA_scalar agg43 (by assumption)) ?_
  refine al_pureN 1 (by simp only [go_sem, ↓reduceIte, Nat.reduceLT, Nat.reduceEqDiff, Nat.reduceLeDiff, Nat.reduceAdd, Nat.reduceMul, Int.reduceLT, Int.reduceLE, Int.reduceToNat, BitVec.reduceOfInt, Nat.reduceBEq]; try rfl) ?_
  refine al_load rfl (by simp only [go_sem, ↓reduceIte, Nat.reduceLT, Nat.reduceEqDiff, Nat.reduceLeDiff, Nat.reduceAdd, Nat.reduceMul, Int.reduceLT, Int.reduceLE, Int.reduceToNat, BitVec.reduceOfInt, Nat.reduceBEq]) rfl (by simp only [go_sem, ↓reduceIte, Nat.reduceLT, Nat.reduceEqDiff, Nat.reduceLeDiff, Nat.reduceAdd, Nat.reduceMul, Int.reduceLT, Int.reduceLE, Int.reduceToNat, BitVec.reduceOfInt, Nat.reduceBEq]; try rfl) (by first | exact AHeap.set_self _ _ _ | (simp only [AHeap.set, ↓reduceIte, Nat.add_assoc, Nat.reduceAdd, Nat.add_left_cancel_iff, Nat.add_right_cancel_iff, Nat.left_eq_add, Nat.add_eq_left, Nat.add_eq_right, Nat.right_eq_add, Nat.reduceEqDiff, Nat.succ_ne_zero]; rfl) | assumption) (by first | exact loadA_scalar agg43 rfl | exact loadA_agg agg43 rfl | exact loadA_scalar agg43 (by assumption)) ?_
  refine al_build_array rfl (by simp only [go_sem, ↓reduceIte, Nat.reduceLT, Nat.reduceEqDiff, Nat.reduceLeDiff, Nat.reduceAdd, Nat.reduceMul, Int.reduceLT, Int.reduceLE, Int.reduceToNat, BitVec.reduceOfInt, Nat.reduceBEq]; try rfl) rfl Try.underlying69 ty69 (by decide) ty43 (by simp only [go_sem, ↓reduceIte, Nat.reduceLT, Nat.reduceEqDiff, Nat.reduceLeDiff, Nat.reduceAdd, Nat.reduceMul, Int.reduceLT, Int.reduceLE, Int.reduceToNat, BitVec.reduceOfInt, Nat.reduceBEq]; try rfl) rfl ?_
  refine al_store rfl (by simp only [go_sem, ↓reduceIte, Nat.reduceLT, Nat.reduceEqDiff, Nat.reduceLeDiff, Nat.reduceAdd, Nat.reduceMul, Int.reduceLT, Int.reduceLE, Int.reduceToNat, BitVec.reduceOfInt, Nat.reduceBEq]) rfl (by simp only [go_sem, ↓reduceIte, Nat.reduceLT, Nat.reduceEqDiff, Nat.reduceLeDiff, Nat.reduceAdd, Nat.reduceMul, Int.reduceLT, Int.reduceLE, Int.reduceToNat, BitVec.reduceOfInt, Nat.reduceBEq]; try rfl) (by simp only [go_sem, ↓reduceIte, Nat.reduceLT, Nat.reduceEqDiff, Nat.reduceLeDiff, Nat.reduceAdd, Nat.reduceMul, Int.reduceLT, Int.reduceLE, Int.reduceToNat, BitVec.reduceOfInt, Nat.reduceBEq]; try rfl) (by first | exact AHeap.set_self _ _ _ | (simp only [AHeap.set, ↓reduceIte, Nat.add_assoc, Nat.reduceAdd, Nat.add_left_cancel_iff, Nat.add_right_cancel_iff, Nat.left_eq_add, Nat.add_eq_left, Nat.add_eq_right, Nat.right_eq_add, Nat.reduceEqDiff, Nat.succ_ne_zero]; rfl) | assumption) rfl (by exact size69.trans rfl) (by rfl) (by exact Nat.le_of_ble_eq_true rfl) ?_
  refine al_end [4] ?_
  refine awp_ret ⟨_, res_c rfl rfl (AHeap.set_self _ _ _) (loadA_agg agg69 rfl), rfl, (by (repeat refine AHeap.le_set ?_ fun i b hb => (by have := hN i b hb; omega)); exact AHeap.le_refl _)⟩
/-- The first place of a number. -/
def idxOf (l : List Int) (x : Int) : Nat → Int
  | i => match l with
    | [] => -1
    | y :: l => if x = y then i else idxOf l x (i + 1)
theorem Index_gives {l : List Int} {v : Value} {x : Int} {N : Nat} {σ : AHeap} (hv : SlAt σ v (ints l)) (hlen : l.length ≤ 1000000) : Gives Try.prog 77 [v, .int .i64 x] N σ (.int .i64 (idxOf l x 0)) := by
  have hv0 := hv
  have hol : (ints l).length = l.length := by simp [ints]
  obtain ⟨sb, sc, rfl⟩ := hv.len
  rw [hol] at hv hv0 ⊢
  refine gives_of rfl (aok_fresh fun hN => aok_body (r := false) (n := 19) Try.func77 rfl rfl (by simp) ?_)
  refine awp_seq (awp_pures [0, 1] (by simp only [go_sem, ↓reduceIte, Nat.reduceLT, Nat.reduceEqDiff, Nat.reduceLeDiff, Nat.reduceAdd, Nat.reduceMul, Int.reduceLT, Int.reduceLE, Int.reduceToNat, BitVec.reduceOfInt, Nat.reduceBEq]; try rfl) ?_)
  refine awp_seq ?_
  refine awp_seq (awp_pures [0, 1, 7, 8] (by simp only [go_sem, ↓reduceIte, Nat.reduceLT, Nat.reduceEqDiff, Nat.reduceLeDiff, Nat.reduceAdd, Nat.reduceMul, Int.reduceLT, Int.reduceLE, Int.reduceToNat, BitVec.reduceOfInt, Nat.reduceBEq]; try rfl) ?_)
  refine awp_block (awp_loop ?_)
  refine ALoop.cast3 (aloop_ind (α := Nat) (fun a => a ≤ l.length ∧ idxOf l x 0 = idxOf (l.drop a) x a) (fun a => l.length - a)
    (fun a => [(0, .slice sb l.length sc), (1, .int .i64 x), (7, .int .i64 l.length), (8, .int .i64 a)]) (fun _ => N) (fun _ => σ) ?_ 0 ⟨Nat.zero_le _, rfl⟩) rfl rfl rfl
  rintro j ⟨hj, hpre⟩ ih
  by_cases hlt : j < l.length
  · have hb : decide ((j : Int) < (l.length : Int)) = true := by simpa using hlt
    refine awp_seq (awp_pures [0, 1, 7, 8, 9] (by simp only [go_sem, ↓reduceIte, Nat.reduceLT, Nat.reduceEqDiff, Nat.reduceLeDiff, Nat.reduceAdd, Nat.reduceMul, Int.reduceLT, Int.reduceLE, Int.reduceToNat, BitVec.reduceOfInt, Nat.reduceBEq, hb]; try rfl) ?_)
    refine awp_seq ?_
    refine awp_if rfl (fun _ => ?_) (fun h => by cases h)
    refine awp_skip ?_
    refine awp_seq (awp_block ?_)
    refine awp_seq (awp_pures [0, 1, 5, 7, 8] (by simp only [go_sem, ↓reduceIte, Nat.reduceLT, Nat.reduceEqDiff, Nat.reduceLeDiff, Nat.reduceAdd, Nat.reduceMul, Int.reduceLT, Int.reduceLE, Int.reduceToNat, BitVec.reduceOfInt, Nat.reduceBEq]; try rfl) ?_)
    have hjj : 0 ≤ (j : Int) ∧ (j : Int) < (l.length : Int) := by omega
    obtain ⟨id, off, cap, b, e1, e2, e3, e4⟩ := slAt_int hv hlt
    cases e1
    have hstep : idxOf (l.drop j) x j = if x = l[j] then (j : Int) else idxOf (l.drop (j + 1)) x (j + 1) := by
      rw [List.drop_eq_getElem_cons hlt, idxOf]
    by_cases he : x = l[j]
    · have he' : (x == l[j]) = true := by simpa using he
      first | refine awp_seq (awp_lit ?_) | refine awp_lit ?_ | refine awp_seq (awp_seq (awp_lit ?_))
      refine al_pureN 4 (by simp only [go_sem, ↓reduceIte, Nat.reduceLT, Nat.reduceEqDiff, Nat.reduceLeDiff, Nat.reduceAdd, Nat.reduceMul, Int.reduceLT, Int.reduceLE, Int.reduceToNat, BitVec.reduceOfInt, Nat.reduceBEq, hjj, he']; try rfl) ?_
      refine al_load rfl (by simp only [go_sem, ↓reduceIte, Nat.reduceLT, Nat.reduceEqDiff, Nat.reduceLeDiff, Nat.reduceAdd, Nat.reduceMul, Int.reduceLT, Int.reduceLE, Int.reduceToNat, BitVec.reduceOfInt, Nat.reduceBEq, hjj, he']) rfl (by simp only [go_sem, ↓reduceIte, Nat.reduceLT, Nat.reduceEqDiff, Nat.reduceLeDiff, Nat.reduceAdd, Nat.reduceMul, Int.reduceLT, Int.reduceLE, Int.reduceToNat, BitVec.reduceOfInt, Nat.reduceBEq, hjj, he']; try rfl) e2 (loadA_scalar agg3 e3) ?_
      refine al_pureN 1 (by simp only [go_sem, ↓reduceIte, Nat.reduceLT, Nat.reduceEqDiff, Nat.reduceLeDiff, Nat.reduceAdd, Nat.reduceMul, Int.reduceLT, Int.reduceLE, Int.reduceToNat, BitVec.reduceOfInt, Nat.reduceBEq, hjj, he']; try rfl) ?_
      refine al_end [0, 1, 5, 7, 8, 16] ?_
      refine awp_if rfl (fun _ => ?_) (fun h => by cases h)
      refine awp_seq (awp_pures [4] (by simp only [go_sem, ↓reduceIte, Nat.reduceLT, Nat.reduceEqDiff, Nat.reduceLeDiff, Nat.reduceAdd, Nat.reduceMul, Int.reduceLT, Int.reduceLE, Int.reduceToNat, BitVec.reduceOfInt, Nat.reduceBEq]; try rfl) ?_)
      refine awp_ret ⟨_, rfl, ?_, AHeap.le_refl _⟩
      rw [hpre, hstep, if_pos he]; rfl
    · have he' : (x == l[j]) = false := by simpa using he
      first | refine awp_seq (awp_lit ?_) | refine awp_lit ?_ | refine awp_seq (awp_seq (awp_lit ?_))
      refine al_pureN 4 (by simp only [go_sem, ↓reduceIte, Nat.reduceLT, Nat.reduceEqDiff, Nat.reduceLeDiff, Nat.reduceAdd, Nat.reduceMul, Int.reduceLT, Int.reduceLE, Int.reduceToNat, BitVec.reduceOfInt, Nat.reduceBEq, hjj, he']; try rfl) ?_
      refine al_load rfl (by simp only [go_sem, ↓reduceIte, Nat.reduceLT, Nat.reduceEqDiff, Nat.reduceLeDiff, Nat.reduceAdd, Nat.reduceMul, Int.reduceLT, Int.reduceLE, Int.reduceToNat, BitVec.reduceOfInt, Nat.reduceBEq, hjj, he']) rfl (by simp only [go_sem, ↓reduceIte, Nat.reduceLT, Nat.reduceEqDiff, Nat.reduceLeDiff, Nat.reduceAdd, Nat.reduceMul, Int.reduceLT, Int.reduceLE, Int.reduceToNat, BitVec.reduceOfInt, Nat.reduceBEq, hjj, he']; try rfl) e2 (loadA_scalar agg3 e3) ?_
      refine al_pureN 1 (by simp only [go_sem, ↓reduceIte, Nat.reduceLT, Nat.reduceEqDiff, Nat.reduceLeDiff, Nat.reduceAdd, Nat.reduceMul, Int.reduceLT, Int.reduceLE, Int.reduceToNat, BitVec.reduceOfInt, Nat.reduceBEq, hjj, he']; try rfl) ?_
      refine al_end [0, 1, 5, 7, 8, 16] ?_
      refine awp_if rfl (fun h => by cases h) (fun _ => ?_)
      refine awp_skip ?_
      have hadd1 : -9223372036854775808 ≤ (j : Int) + 1 ∧ (j : Int) + 1 ≤ 9223372036854775807 := by omega
      refine awp_pures [0, 1, 7, 8] (by simp only [go_sem, ↓reduceIte, Nat.reduceLT, Nat.reduceEqDiff, Nat.reduceLeDiff, Nat.reduceAdd, Nat.reduceMul, Int.reduceLT, Int.reduceLE, Int.reduceToNat, BitVec.reduceOfInt, Nat.reduceBEq, i64_add hadd1]; try rfl) ?_
      refine ALoop.cast3 (ih (j + 1) ⟨hlt, by rw [hpre, hstep, if_neg he]⟩ (by omega)) rfl rfl rfl
  · have hb : decide ((j : Int) < (l.length : Int)) = false := by simpa using hlt
    have hjm : j = l.length := by omega
    refine awp_seq (awp_pures [0, 1, 7, 8, 9] (by simp only [go_sem, ↓reduceIte, Nat.reduceLT, Nat.reduceEqDiff, Nat.reduceLeDiff, Nat.reduceAdd, Nat.reduceMul, Int.reduceLT, Int.reduceLE, Int.reduceToNat, BitVec.reduceOfInt, Nat.reduceBEq, hb]; try rfl) ?_)
    refine awp_seq ?_
    refine awp_if rfl (fun h => by cases h) (fun _ => ?_)
    refine awp_exit ?_
    simp only [Go.Abs.Seq, Go.Abs.Round, Go.Abs.InBlock, ↓reduceIte]
    refine awp_seq (awp_pures [4] (by simp only [go_sem, ↓reduceIte, Nat.reduceLT, Nat.reduceEqDiff, Nat.reduceLeDiff, Nat.reduceAdd, Nat.reduceMul, Int.reduceLT, Int.reduceLE, Int.reduceToNat, BitVec.reduceOfInt, Nat.reduceBEq]; try rfl) ?_)
    refine awp_ret ⟨_, rfl, ?_, AHeap.le_refl _⟩
    rw [hpre, hjm]; simp [idxOf]
theorem idxOf_iff (x : Int) : ∀ (l : List Int) (i : Nat), (0 ≤ idxOf l x i ↔ x ∈ l)
  | [], i => by simp [idxOf]
  | y :: l, i => by
    unfold idxOf
    by_cases h : x = y
    · simp [h]
    · simp only [if_neg h, List.mem_cons, h, false_or]
      exact idxOf_iff x l (i + 1)
theorem Contains_gives {l : List Int} {v : Value} {x : Int} {N : Nat} {σ : AHeap} (hv : SlAt σ v (ints l)) (hlen : l.length ≤ 1000000) : Gives Try.prog 65 [v, .int .i64 x] N σ (.bool (decide (x ∈ l))) := by
  have hol : (ints l).length = l.length := by simp [ints]
  obtain ⟨sb, sc, rfl⟩ := hv.len
  refine gives_of rfl (aok_fresh fun hN => aok_body (r := false) (n := 9) Try.func65 rfl rfl (by simp) ?_)
  have hd : decide (0 ≤ idxOf l x 0) = decide (x ∈ l) := by
    rw [decide_eq_decide]; exact idxOf_iff x l 0
  refine awp_seq (awp_pures [0, 1] (by simp only [go_sem, ↓reduceIte, Nat.reduceLT, Nat.reduceEqDiff, Nat.reduceLeDiff, Nat.reduceAdd, Nat.reduceMul, Int.reduceLT, Int.reduceLE, Int.reduceToNat, BitVec.reduceOfInt, Nat.reduceBEq]; try rfl) ?_)
  first | refine awp_seq (awp_lit ?_) | refine awp_lit ?_ | refine awp_seq (awp_seq (awp_lit ?_))
  refine al_pureN 2 (by simp only [go_sem, ↓reduceIte, Nat.reduceLT, Nat.reduceEqDiff, Nat.reduceLeDiff, Nat.reduceAdd, Nat.reduceMul, Int.reduceLT, Int.reduceLE, Int.reduceToNat, BitVec.reduceOfInt, Nat.reduceBEq, ge_iff_le, hd]; try rfl) ?_
  refine al_gives (vs := ?vs1) (v := ?v1) rfl ?ha1 ?hh1 (by kernel_rfl) rfl (by simp only [go_sem, ↓reduceIte, Nat.reduceLT, Nat.reduceEqDiff, Nat.reduceLeDiff, Nat.reduceAdd, Nat.reduceMul, Int.reduceLT, Int.reduceLE, Int.reduceToNat, BitVec.reduceOfInt, Nat.reduceBEq, ge_iff_le, hd]) ?kk1
  case ha1 => simp only [go_sem, ↓reduceIte, Nat.reduceLT, Nat.reduceEqDiff, Nat.reduceLeDiff, Nat.reduceAdd, Nat.reduceMul, Int.reduceLT, Int.reduceLE, Int.reduceToNat, BitVec.reduceOfInt, Nat.reduceBEq, ge_iff_le, hd]; try rfl
  case hh1 => exact Index_gives hv hlen
  refine al_pureN 2 (by simp only [go_sem, ↓reduceIte, Nat.reduceLT, Nat.reduceEqDiff, Nat.reduceLeDiff, Nat.reduceAdd, Nat.reduceMul, Int.reduceLT, Int.reduceLE, Int.reduceToNat, BitVec.reduceOfInt, Nat.reduceBEq, ge_iff_le, hd]; try rfl) ?_
  refine al_end [4] ?_
  refine awp_ret ⟨_, rfl, rfl, AHeap.le_refl _⟩
end Go.Proofs.Ytfialjllclclkaa
