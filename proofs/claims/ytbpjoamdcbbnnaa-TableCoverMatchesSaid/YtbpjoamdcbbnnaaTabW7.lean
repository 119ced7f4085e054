/- The walk of package table's Canon, joined. -/
import Derived.Test.YtbpjoamdcbbnnaaTabW6
import Derived.Test.YtbpjoamdcbbnnaaAbTurns
set_option linter.unusedSimpArgs false
set_option linter.unusedVariables false
namespace Go.Proofs.Ytbpjoamdcbbnnaa
open Go.Abs Go.Tab
attribute [local go_sem] Try.underlying22 Try.underlying3 Try.underlying77 Try.underlying52 Try.underlying23 Try.underlying25 Try.underlying5 Try.underlying4 Try.underlying36 Try.underlying39 Try.underlying72 size22 size3 size23 size5 size4 size39 Nat.mul_one

abbrev clo46 (M : Nat) : Value := .func (.func 46) #[] #[ptr M, ptr (M + 1), ptr (M + 2)]
theorem size74 : sizeA Try.prog 74 = some 1 := by kernel_rfl
theorem ty22' : TyI Try.prog 22 (.int .u64 0) 1 8 := .of (by kernel_rfl)
theorem ty74 : TyI Try.prog 74 .nilFunc 1 8 := .of (by kernel_rfl)

structure CanInv (M e c8 c9 n f : Nat) (w : BitVec 64) (σB : AHeap) (y : FoundT) (σ : AHeap) : Prop where
  n : σ M = some ⟨[.int .i64 n], true, 1⟩
  st : TrySt M e σ σ y
  clo : σ (M + 4) = some ⟨[clo46 M], true, 1⟩
  f : σ c8 = some ⟨[.int .i64 f], true, 1⟩
  w : σ c9 = some ⟨[.int .u64 w.toNat], true, 1⟩
  base : σB.le σ

theorem TrySt.set {M e i : Nat} {σ : AHeap} {y : FoundT} {blk : Blk} (h : TrySt M e σ σ y) (h1 : M + 1 ≠ i) (h2 : M + 2 ≠ i) (h3 : i = e ∨ ∀ b, σ i ≠ some b) : TrySt M e (σ.set i blk) (σ.set i blk) y where
  rep := by rw [AHeap.set_ne _ _ h1]; exact h.rep
  tr := by
    obtain ⟨sv, g1, g2⟩ := h.tr
    refine ⟨sv, by rw [AHeap.set_ne _ _ h2]; exact g1, g2.mono fun j b hj hb => ⟨hb, ?_⟩⟩
    rw [AHeap.set_ne _ _ (fun e' => ?_)]
    · exact hj
    · subst e'
      rcases h3 with h3 | h3
      · exact hb (.inr (.inr h3))
      · exact h3 b hj
  keep := fun i b _ _ h => h

theorem visit_ok {n : Nat} (hn : n ≤ 6) (f : Nat) (hf : f < 256) (w : BitVec 64) (σB : AHeap) {M c8 c9 ia ib ic id ie : Nat} (h8 : M + 4 < c8) (h9 : M + 4 < c9)
    (ha : c8 < ia ∧ c9 < ia) (hb : c8 < ib ∧ c9 < ib) (hc : c8 < ic ∧ c9 < ic) (hd : c8 < id ∧ c9 < id) (he : c8 < ie ∧ c9 < ie) (hB : ∀ i b, σB i = some b → i < M) :
    Visit n ia ib ic id ie 50 #[] #[ptr (M + 4), ptr c8, ptr c9] (CanInv M ie c8 c9 n f w σB) (tryR n f w) where
  call := by kernel_rfl
  stab := fun y σ blk h => ⟨by rw [AHeap.set_ne _ _ (by omega)]; exact h.n, h.st.set (by omega) (by omega) (.inl rfl), by rw [AHeap.set_ne _ _ (by omega)]; exact h.clo,
    by rw [AHeap.set_ne _ _ (by omega)]; exact h.f, by rw [AHeap.set_ne _ _ (by omega)]; exact h.w, fun i b hi => by have := hB i b hi; rw [AHeap.set_ne _ _ (by omega)]; exact h.base i b hi⟩
  visit := fun y l N σ h hC hx => by
    refine aok_body (n := 11) Try.func50 rfl rfl (by simp) ?_
    first | refine awp_seq (awp_lit ?_) | refine awp_lit ?_ | refine awp_seq (awp_seq (awp_lit ?_))
    refine al_load rfl (by simp only [go_sem, ↓reduceIte, Nat.reduceLT, Nat.reduceEqDiff, Nat.reduceLeDiff, Nat.reduceAdd, Nat.reduceMul, Int.reduceLT, Int.reduceLE, Int.reduceToNat, BitVec.reduceOfInt, Nat.reduceBEq]) rfl (by simp only [go_sem, ↓reduceIte, Nat.reduceLT, Nat.reduceEqDiff, Nat.reduceLeDiff, Nat.reduceAdd, Nat.reduceMul, Int.reduceLT, Int.reduceLE, Int.reduceToNat, BitVec.reduceOfInt, Nat.reduceBEq]; try rfl) h.clo (loadA_scalar agg74 rfl) ?_
    refine al_load rfl (by simp only [go_sem, ↓reduceIte, Nat.reduceLT, Nat.reduceEqDiff, Nat.reduceLeDiff, Nat.reduceAdd, Nat.reduceMul, Int.reduceLT, Int.reduceLE, Int.reduceToNat, BitVec.reduceOfInt, Nat.reduceBEq]) rfl (by simp only [go_sem, ↓reduceIte, Nat.reduceLT, Nat.reduceEqDiff, Nat.reduceLeDiff, Nat.reduceAdd, Nat.reduceMul, Int.reduceLT, Int.reduceLE, Int.reduceToNat, BitVec.reduceOfInt, Nat.reduceBEq]; try rfl) h.f (loadA_scalar agg3 rfl) ?_
    refine al_pureN 1 (by simp only [go_sem, ↓reduceIte, Nat.reduceLT, Nat.reduceEqDiff, Nat.reduceLeDiff, Nat.reduceAdd, Nat.reduceMul, Int.reduceLT, Int.reduceLE, Int.reduceToNat, BitVec.reduceOfInt, Nat.reduceBEq, u8_wrap_nat hf]; try rfl) ?_
    refine al_load rfl (by simp only [go_sem, ↓reduceIte, Nat.reduceLT, Nat.reduceEqDiff, Nat.reduceLeDiff, Nat.reduceAdd, Nat.reduceMul, Int.reduceLT, Int.reduceLE, Int.reduceToNat, BitVec.reduceOfInt, Nat.reduceBEq]) rfl (by simp only [go_sem, ↓reduceIte, Nat.reduceLT, Nat.reduceEqDiff, Nat.reduceLeDiff, Nat.reduceAdd, Nat.reduceMul, Int.reduceLT, Int.reduceLE, Int.reduceToNat, BitVec.reduceOfInt, Nat.reduceBEq]; try rfl) h.w (loadA_scalar agg22 rfl) ?_
    refine al_pureN 1 (by simp only [go_sem, ↓reduceIte, Nat.reduceLT, Nat.reduceEqDiff, Nat.reduceLeDiff, Nat.reduceAdd, Nat.reduceMul, Int.reduceLT, Int.reduceLE, Int.reduceToNat, BitVec.reduceOfInt, Nat.reduceBEq]; try rfl) ?_
    refine al_clo (vs := [.int .u8 f, .int .u64 w.toNat, .slice (some ⟨ie, 0, none⟩) n n]) (try_ok hn f hf w l hx y M ie N σ (by omega) (by omega) hC.e h.n h.st) rfl (by simp only [go_sem, ↓reduceIte, Nat.reduceLT, Nat.reduceEqDiff, Nat.reduceLeDiff, Nat.reduceAdd, Nat.reduceMul, Int.reduceLT, Int.reduceLE, Int.reduceToNat, BitVec.reduceOfInt, Nat.reduceBEq]; try rfl) (by simp only [go_sem, ↓reduceIte, Nat.reduceLT, Nat.reduceEqDiff, Nat.reduceLeDiff, Nat.reduceAdd, Nat.reduceMul, Int.reduceLT, Int.reduceLE, Int.reduceToNat, BitVec.reduceOfInt, Nat.reduceBEq]; try rfl) (by kernel_rfl) rfl (by simp only [go_sem, ↓reduceIte, Nat.reduceLT, Nat.reduceEqDiff, Nat.reduceLeDiff, Nat.reduceAdd, Nat.reduceMul, Int.reduceLT, Int.reduceLE, Int.reduceToNat, BitVec.reduceOfInt, Nat.reduceBEq]; try rfl) ?_
    rintro v N' σ' ⟨hN', hst⟩
    refine al_end [] ?_
    have k := fun i b (h1 : i ≠ M + 1) (h2 : i ≠ M + 2) => hst.keep i b h1 h2
    refine ⟨_, rfl, hN', ⟨k _ _ (by omega) (by omega) h.n, ⟨hst.rep, hst.tr, fun i b _ _ h => h⟩, k _ _ (by omega) (by omega) h.clo, k _ _ (by omega) (by omega) h.f, k _ _ (by omega) (by omega) h.w, fun i b hi => by
      have := hB i b hi
      exact k _ _ (by omega) (by omega) (h.base i b hi)⟩, ⟨k _ _ (by omega) (by omega) hC.a, k _ _ (by omega) (by omega) hC.b, k _ _ (by omega) (by omega) hC.c, k _ _ (by omega) (by omega) hC.d, k _ _ (by omega) (by omega) hC.e⟩⟩

theorem set_comm (σ : AHeap) {i j : Nat} (h : i ≠ j) (b b' : Blk) : (σ.set i b).set j b' = (σ.set j b').set i b := by
  funext k; unfold AHeap.set
  by_cases h1 : k = i
  · subst h1; simp [h]
  · simp [h1]
theorem le_same {σ : AHeap} {k : Nat} {b : Blk} (h : σ k = some b) : σ.le (σ.set k b) := fun i b' hi => by
  unfold AHeap.set
  split
  · rename_i e; subst e; rw [h] at hi; exact hi
  · exact hi
theorem ints_flat (l : List Int) : (ints l).all flat = true := by simp [ints, flat, flat0]
structure CanBase (M n : Nat) (σB : AHeap) (y : FoundT) (σ : AHeap) : Prop where
  n : σ M = some ⟨[.int .i64 n], true, 1⟩
  st : TrySt M (M + 1) σ σ y
  clo : σ (M + 4) = some ⟨[clo46 M], true, 1⟩
  base : σB.le σ
theorem CanBase.lt {M n : Nat} {σB σ : AHeap} {y : FoundT} (h : CanBase M n σB y σ) {σ' : AHeap} (hl : σ.le σ') : CanBase M n σB y σ' where
  n := hl _ _ h.n
  st := ⟨hl _ _ h.st.rep, by obtain ⟨sv, h1, h2⟩ := h.st.tr; exact ⟨sv, hl _ _ h1, h2.mono fun i b hi hb => ⟨hb, hl _ _ hi⟩⟩, fun i b _ _ h => h⟩
  clo := hl _ _ h.clo
  base := AHeap.le_trans h.base hl
theorem CanBase.inv {M n e c8 c9 f : Nat} {w : BitVec 64} {σB σ σ' : AHeap} {y : FoundT} (h : CanBase M n σB y σ) (hl : σ.le σ') (h8 : σ' c8 = some ⟨[.int .i64 f], true, 1⟩) (h9 : σ' c9 = some ⟨[.int .u64 w.toNat], true, 1⟩)
    (he : ∀ i b, σ i = some b → i ≠ e) : CanInv M e c8 c9 n f w σB y σ' where
  n := hl _ _ h.n
  st := ⟨hl _ _ h.st.rep, by obtain ⟨sv, h1, h2⟩ := h.st.tr; exact ⟨sv, hl _ _ h1, h2.mono fun i b hi hb => ⟨fun hb' => by rcases hb' with h' | h' | h'; exact hb (.inl h'); exact hb (.inr (.inl h')); exact he i b hi h', hl _ _ hi⟩⟩, fun i b _ _ h => h⟩
  clo := hl _ _ h.clo
  f := h8
  w := h9
  base := AHeap.le_trans h.base hl
theorem CanInv.out {M n e c8 c9 f : Nat} {w : BitVec 64} {σB σ : AHeap} {y : FoundT} (h : CanInv M e c8 c9 n f w σB y σ) : CanBase M n σB y σ where
  n := h.n
  st := ⟨h.st.rep, by obtain ⟨sv, h1, h2⟩ := h.st.tr; exact ⟨sv, h1, h2.mono fun i b hi hb => ⟨fun hb' => by rcases hb' with h' | h' | h'; exact hb (.inl h'); exact hb (.inr (.inl h')); exact hb (.inl h'), hi⟩⟩, fun i b _ _ h => h⟩
  clo := h.clo
  base := h.base

theorem canon_res {env : Env} {σ : AHeap} {M : Nat} {rep sv a b : Value} {e : Int} (h4 : env.get 4 = some (ptr (M + 1))) (h5 : env.get 5 = some (ptr (M + 2))) (h6 : env.get 6 = some (.int .i64 e))
    (hr : σ (M + 1) = some ⟨[rep], true, 1⟩) (ht : σ (M + 2) = some ⟨[sv, a, b], true, 1⟩) : resA Try.prog Try.f14 env σ = some (.tuple #[rep, .agg #[sv, a, b], .int .i64 e]) := by
  have l1 : loadA Try.prog 22 ⟨[rep], true, 1⟩ 0 = some rep := loadA_scalar agg22 rfl
  have l2 : loadA Try.prog 25 ⟨[sv, a, b], true, 1⟩ 0 = some (.agg #[sv, a, b]) := loadA_agg agg25 rfl
  show Option.map _ (List.mapM _ [_, _, _]) = _
  simp only [List.mapM_cons, List.mapM_nil, resOneA, h4, h5, h6, Option.bind_some, hr, ht, l1, l2]
  rfl
def canV (sv : Value) (r : FoundT × Int) : Value := .tuple #[.int .u64 r.1.1.toNat, .agg #[sv, .int .u8 r.1.2.2.1, .bool r.1.2.2.2], .int .i64 r.2]
theorem Canon_ok (t : BitVec 64) (m : Int) (N : Nat) (σ : AHeap) :
    AOk Try.prog 14 [.int .u64 t.toNat, .int .i64 m] N σ fun v N' σ' => ∃ sv, v = canV sv (CanonR t m) ∧ SlAt σ' sv (ints (CanonR t m).1.2.1) ∧ N ≤ N' ∧ σ.le σ' := by
  refine aok_fresh fun hN => aok_body (n := 47) Try.func14 rfl rfl (by simp) ?_
  first | refine awp_seq (awp_lit ?_) | refine awp_lit ?_ | refine awp_seq (awp_seq (awp_lit ?_))
  refine al_box 1 rfl rfl rfl rfl ?_
  refine al_alloc 1 rfl rfl rfl ty22' (by decide) ?_
  refine al_alloc 1 rfl rfl rfl ty25 (by decide) ?_
  refine al_pureN 1 (by simp only [go_sem, ↓reduceIte, Nat.reduceLT, Nat.reduceEqDiff, Nat.reduceLeDiff, Nat.reduceAdd, Nat.reduceMul, Int.reduceLT, Int.reduceLE, Int.reduceToNat, BitVec.reduceOfInt, Nat.reduceBEq]; try rfl) ?_
  refine al_end [0, 3, 4, 5, 6] ?_
  change AWp _ _ _ _ (N + 3) (((σ.set N ⟨[.int .i64 m], true, 1⟩).set (N + 1) ⟨[.int .u64 0], true, 1⟩).set (N + 2) ⟨[.slice none 0 0, .int .u8 0, .bool false], true, 1⟩) _
  have hle : ∀ b0 b1 b2, σ.le (((σ.set N b0).set (N + 1) b1).set (N + 2) b2) := fun b0 b1 b2 => AHeap.le_set (AHeap.le_set (AHeap.le_set (AHeap.le_refl _) fun i b hb => Nat.ne_of_lt (hN i b hb)) fun i b hb => by have := hN i b hb; omega) fun i b hb => by have := hN i b hb; omega
  have g0 : ∀ b0 b1 b2, (((σ.set N b0).set (N + 1) b1).set (N + 2) b2) N = some b0 := fun b0 b1 b2 => by rw [AHeap.set_ne _ _ (by omega), AHeap.set_ne _ _ (by omega), AHeap.set_self]
  have g1 : ∀ b0 b1 b2, (((σ.set N b0).set (N + 1) b1).set (N + 2) b2) (N + 1) = some b1 := fun b0 b1 b2 => by rw [AHeap.set_ne _ _ (by omega), AHeap.set_self]
  have g2 : ∀ b0 b1 b2, (((σ.set N b0).set (N + 1) b1).set (N + 2) b2) (N + 2) = some b2 := fun b0 b1 b2 => AHeap.set_self _ _ _
  by_cases herr : 4 < m ∨ validT t m = false
  · have hR : CanonR t m = ((0#64, [], 0, false), 1) := by simp only [CanonR, if_pos herr]
    rw [hR]
    refine awp_seq ?_
    refine awp_mid [(4, ptr (N + 1)), (5, ptr (N + 2)), (18, .bool true)] (N + 3) (((σ.set N ⟨[.int .i64 m], true, 1⟩).set (N + 1) ⟨[.int .u64 0], true, 1⟩).set (N + 2) ⟨[.slice none 0 0, .int .u8 0, .bool false], true, 1⟩) ?_ ?_
    · refine awp_lit ?_
      refine al_load rfl (by simp only [go_sem, ↓reduceIte, Nat.reduceLT, Nat.reduceEqDiff, Nat.reduceLeDiff, Nat.reduceAdd, Nat.reduceMul, Int.reduceLT, Int.reduceLE, Int.reduceToNat, BitVec.reduceOfInt, Nat.reduceBEq]) rfl (by simp only [go_sem, ↓reduceIte, Nat.reduceLT, Nat.reduceEqDiff, Nat.reduceLeDiff, Nat.reduceAdd, Nat.reduceMul, Int.reduceLT, Int.reduceLE, Int.reduceToNat, BitVec.reduceOfInt, Nat.reduceBEq]; try rfl) (g0 _ _ _) (loadA_scalar agg3 rfl) ?_
      by_cases h4 : 4 < m
      · have hb : decide (m > 4) = true := by simpa using h4
        refine al_pureN 7 (by simp only [go_sem, ↓reduceIte, Nat.reduceLT, Nat.reduceEqDiff, Nat.reduceLeDiff, Nat.reduceAdd, Nat.reduceMul, Int.reduceLT, Int.reduceLE, Int.reduceToNat, BitVec.reduceOfInt, Nat.reduceBEq, hb]; try rfl) ?_
        refine al_end [4, 5, 18] ?_
        exact meets [4, 5, 18] rfl (AHeap.le_refl _)
      · have hb : decide (m > 4) = false := by simpa using h4
        have hv : validT t m = false := by rcases herr with h | h; exact absurd h h4; exact h
        refine al_pureN 3 (by simp only [go_sem, ↓reduceIte, Nat.reduceLT, Nat.reduceEqDiff, Nat.reduceLeDiff, Nat.reduceAdd, Nat.reduceMul, Int.reduceLT, Int.reduceLE, Int.reduceToNat, BitVec.reduceOfInt, Nat.reduceBEq, hb]; try rfl) ?_
        refine al_load rfl (by simp only [go_sem, ↓reduceIte, Nat.reduceLT, Nat.reduceEqDiff, Nat.reduceLeDiff, Nat.reduceAdd, Nat.reduceMul, Int.reduceLT, Int.reduceLE, Int.reduceToNat, BitVec.reduceOfInt, Nat.reduceBEq]) rfl (by simp only [go_sem, ↓reduceIte, Nat.reduceLT, Nat.reduceEqDiff, Nat.reduceLeDiff, Nat.reduceAdd, Nat.reduceMul, Int.reduceLT, Int.reduceLE, Int.reduceToNat, BitVec.reduceOfInt, Nat.reduceBEq]; try rfl) (g0 _ _ _) (loadA_scalar agg3 rfl) ?_
        refine al_gives (vs := ?vs1) (v := ?v1) rfl ?ha1 ?hh1 (by kernel_rfl) rfl (by simp only [go_sem, ↓reduceIte, Nat.reduceLT, Nat.reduceEqDiff, Nat.reduceLeDiff, Nat.reduceAdd, Nat.reduceMul, Int.reduceLT, Int.reduceLE, Int.reduceToNat, BitVec.reduceOfInt, Nat.reduceBEq, hb]) ?kk1
        case ha1 => simp only [go_sem, ↓reduceIte, Nat.reduceLT, Nat.reduceEqDiff, Nat.reduceLeDiff, Nat.reduceAdd, Nat.reduceMul, Int.reduceLT, Int.reduceLE, Int.reduceToNat, BitVec.reduceOfInt, Nat.reduceBEq, hb]; try rfl
        case hh1 => exact Valid_gives _ _ _ _
        rw [hv]
        refine al_pureN 2 (by simp only [go_sem, ↓reduceIte, Nat.reduceLT, Nat.reduceEqDiff, Nat.reduceLeDiff, Nat.reduceAdd, Nat.reduceMul, Int.reduceLT, Int.reduceLE, Int.reduceToNat, BitVec.reduceOfInt, Nat.reduceBEq]; try rfl) ?_
        refine al_end [4, 5, 18] ?_
        exact meets [4, 5, 18] rfl (AHeap.le_refl _)
    · refine awp_if rfl (fun _ => ?_) (fun h => by cases h)
      first | refine awp_seq (awp_lit ?_) | refine awp_lit ?_ | refine awp_seq (awp_seq (awp_lit ?_))
      refine al_build_struct (ps := []) (r := [.slice none 0 0, .int .u8 0, .bool false]) rfl (by simp only [go_sem, ↓reduceIte, Nat.reduceLT, Nat.reduceEqDiff, Nat.reduceLeDiff, Nat.reduceAdd, Nat.reduceMul, Int.reduceLT, Int.reduceLE, Int.reduceToNat, BitVec.reduceOfInt, Nat.reduceBEq]; try rfl) (by decide) Try.underlying25 ty25 rfl (pl := [(0, 1), (1, 1), (2, 1)]) (by kernel_rfl) rfl rfl ?_
      refine al_store1 rfl (by simp only [go_sem, ↓reduceIte, Nat.reduceLT, Nat.reduceEqDiff, Nat.reduceLeDiff, Nat.reduceAdd, Nat.reduceMul, Int.reduceLT, Int.reduceLE, Int.reduceToNat, BitVec.reduceOfInt, Nat.reduceBEq]; try rfl) rfl (by simp only [go_sem, ↓reduceIte, Nat.reduceLT, Nat.reduceEqDiff, Nat.reduceLeDiff, Nat.reduceAdd, Nat.reduceMul, Int.reduceLT, Int.reduceLE, Int.reduceToNat, BitVec.reduceOfInt, Nat.reduceBEq]; try rfl) (by simp only [go_sem, ↓reduceIte, Nat.reduceLT, Nat.reduceEqDiff, Nat.reduceLeDiff, Nat.reduceAdd, Nat.reduceMul, Int.reduceLT, Int.reduceLE, Int.reduceToNat, BitVec.reduceOfInt, Nat.reduceBEq]; try rfl) (g1 _ _ _) rfl size22' rfl rfl (by exact Nat.one_pos) ?_
      refine al_store (v := .agg #[.slice none 0 0, .int .u8 0, .bool false]) rfl (by simp only [go_sem, ↓reduceIte, Nat.reduceLT, Nat.reduceEqDiff, Nat.reduceLeDiff, Nat.reduceAdd, Nat.reduceMul, Int.reduceLT, Int.reduceLE, Int.reduceToNat, BitVec.reduceOfInt, Nat.reduceBEq]; try rfl) rfl (by simp only [go_sem, ↓reduceIte, Nat.reduceLT, Nat.reduceEqDiff, Nat.reduceLeDiff, Nat.reduceAdd, Nat.reduceMul, Int.reduceLT, Int.reduceLE, Int.reduceToNat, BitVec.reduceOfInt, Nat.reduceBEq]; try rfl) (by simp only [go_sem, ↓reduceIte, Nat.reduceLT, Nat.reduceEqDiff, Nat.reduceLeDiff, Nat.reduceAdd, Nat.reduceMul, Int.reduceLT, Int.reduceLE, Int.reduceToNat, BitVec.reduceOfInt, Nat.reduceBEq]; try rfl) (by rw [AHeap.set_ne _ _ (by omega)]; exact g2 _ _ _) rfl size25 rfl (by exact Nat.le_refl 3) ?_
      refine al_pureN 1 (by simp only [go_sem, ↓reduceIte, Nat.reduceLT, Nat.reduceEqDiff, Nat.reduceLeDiff, Nat.reduceAdd, Nat.reduceMul, Int.reduceLT, Int.reduceLE, Int.reduceToNat, BitVec.reduceOfInt, Nat.reduceBEq]; try rfl) ?_
      refine al_end [4, 5, 6] ?_
      refine awp_ret ⟨_, canon_res rfl rfl rfl (by rw [AHeap.set_ne _ _ (by omega), AHeap.set_self]; rfl) (AHeap.set_self _ _ _), .slice none 0 0, rfl, .inl ⟨rfl, rfl⟩, by omega, ?_⟩
      refine AHeap.le_set (AHeap.le_set (hle _ _ _) fun i b hb => by have := hN i b hb; omega) fun i b hb => by have := hN i b hb; omega
  · have h4 : ¬ 4 < m := fun h => herr (.inl h)
    have hv : validT t m = true := by cases h : validT t m with | true => rfl | false => exact absurd (.inr h) herr
    obtain ⟨n, rfl, hn6, ht⟩ := validT_iff.1 hv
    have hn : n ≤ 4 := by omega
    have hR : CanonR t n = (canonGo t n (2 ^ n) 0 (t, idL n, 0, false), 0) := by simp only [CanonR, if_neg herr, Int.toNat_natCast]
    have hb : decide ((n : Int) > 4) = false := by simpa using h4
    refine awp_seq ?_
    first | refine awp_seq (awp_lit ?_) | refine awp_lit ?_ | refine awp_seq (awp_seq (awp_lit ?_))
    refine al_load rfl (by simp only [go_sem, ↓reduceIte, Nat.reduceLT, Nat.reduceEqDiff, Nat.reduceLeDiff, Nat.reduceAdd, Nat.reduceMul, Int.reduceLT, Int.reduceLE, Int.reduceToNat, BitVec.reduceOfInt, Nat.reduceBEq]) rfl (by simp only [go_sem, ↓reduceIte, Nat.reduceLT, Nat.reduceEqDiff, Nat.reduceLeDiff, Nat.reduceAdd, Nat.reduceMul, Int.reduceLT, Int.reduceLE, Int.reduceToNat, BitVec.reduceOfInt, Nat.reduceBEq]; try rfl) (g0 _ _ _) (loadA_scalar agg3 rfl) ?_
    refine al_pureN 3 (by simp only [go_sem, ↓reduceIte, Nat.reduceLT, Nat.reduceEqDiff, Nat.reduceLeDiff, Nat.reduceAdd, Nat.reduceMul, Int.reduceLT, Int.reduceLE, Int.reduceToNat, BitVec.reduceOfInt, Nat.reduceBEq, hb]; try rfl) ?_
    refine al_load rfl (by simp only [go_sem, ↓reduceIte, Nat.reduceLT, Nat.reduceEqDiff, Nat.reduceLeDiff, Nat.reduceAdd, Nat.reduceMul, Int.reduceLT, Int.reduceLE, Int.reduceToNat, BitVec.reduceOfInt, Nat.reduceBEq]) rfl (by simp only [go_sem, ↓reduceIte, Nat.reduceLT, Nat.reduceEqDiff, Nat.reduceLeDiff, Nat.reduceAdd, Nat.reduceMul, Int.reduceLT, Int.reduceLE, Int.reduceToNat, BitVec.reduceOfInt, Nat.reduceBEq]; try rfl) (g0 _ _ _) (loadA_scalar agg3 rfl) ?_
    refine al_gives (vs := ?vs2) (v := ?v2) rfl ?ha2 ?hh2 (by kernel_rfl) rfl (by simp only [go_sem, ↓reduceIte, Nat.reduceLT, Nat.reduceEqDiff, Nat.reduceLeDiff, Nat.reduceAdd, Nat.reduceMul, Int.reduceLT, Int.reduceLE, Int.reduceToNat, BitVec.reduceOfInt, Nat.reduceBEq, hb]) ?kk2
    case ha2 => simp only [go_sem, ↓reduceIte, Nat.reduceLT, Nat.reduceEqDiff, Nat.reduceLeDiff, Nat.reduceAdd, Nat.reduceMul, Int.reduceLT, Int.reduceLE, Int.reduceToNat, BitVec.reduceOfInt, Nat.reduceBEq, hb]; try rfl
    case hh2 => exact Valid_gives _ _ _ _
    rw [hv]
    refine al_pureN 2 (by simp only [go_sem, ↓reduceIte, Nat.reduceLT, Nat.reduceEqDiff, Nat.reduceLeDiff, Nat.reduceAdd, Nat.reduceMul, Int.reduceLT, Int.reduceLE, Int.reduceToNat, BitVec.reduceOfInt, Nat.reduceBEq]; try rfl) ?_
    refine al_end [0, 3, 4, 5, 18] ?_
    refine awp_if rfl (fun h => by cases h) (fun _ => ?_)
    refine awp_skip ?_
    first | refine awp_seq (awp_lit ?_) | refine awp_lit ?_ | refine awp_seq (awp_seq (awp_lit ?_))
    refine al_pureN 1 (by simp only [go_sem, ↓reduceIte, Nat.reduceLT, Nat.reduceEqDiff, Nat.reduceLeDiff, Nat.reduceAdd, Nat.reduceMul, Int.reduceLT, Int.reduceLE, Int.reduceToNat, BitVec.reduceOfInt, Nat.reduceBEq]; try rfl) ?_
    refine al_load rfl (by simp only [go_sem, ↓reduceIte, Nat.reduceLT, Nat.reduceEqDiff, Nat.reduceLeDiff, Nat.reduceAdd, Nat.reduceMul, Int.reduceLT, Int.reduceLE, Int.reduceToNat, BitVec.reduceOfInt, Nat.reduceBEq]) rfl (by simp only [go_sem, ↓reduceIte, Nat.reduceLT, Nat.reduceEqDiff, Nat.reduceLeDiff, Nat.reduceAdd, Nat.reduceMul, Int.reduceLT, Int.reduceLE, Int.reduceToNat, BitVec.reduceOfInt, Nat.reduceBEq]; try rfl) (g0 _ _ _) (loadA_scalar agg3 rfl) ?_
    refine al_fun (first_ok n (by omega) _ _) rfl (by simp only [go_sem, ↓reduceIte, Nat.reduceLT, Nat.reduceEqDiff, Nat.reduceLeDiff, Nat.reduceAdd, Nat.reduceMul, Int.reduceLT, Int.reduceLE, Int.reduceToNat, BitVec.reduceOfInt, Nat.reduceBEq]; try rfl) (by kernel_rfl) rfl (by simp only [go_sem, ↓reduceIte, Nat.reduceLT, Nat.reduceEqDiff, Nat.reduceLeDiff, Nat.reduceAdd, Nat.reduceMul, Int.reduceLT, Int.reduceLE, Int.reduceToNat, BitVec.reduceOfInt, Nat.reduceBEq]; try rfl) ?_
    rintro v N' σ' ⟨rfl, rfl, rfl⟩
    refine al_build_struct (ps := [(0, .slice (some ⟨N + 3, 0, none⟩) n n)]) (r := [.slice (some ⟨N + 3, 0, none⟩) n n, .int .u8 0, .bool false]) rfl (by simp only [go_sem, ↓reduceIte, Nat.reduceLT, Nat.reduceEqDiff, Nat.reduceLeDiff, Nat.reduceAdd, Nat.reduceMul, Int.reduceLT, Int.reduceLE, Int.reduceToNat, BitVec.reduceOfInt, Nat.reduceBEq]; try rfl) (by decide) Try.underlying25 ty25 rfl (pl := [(0, 1), (1, 1), (2, 1)]) (by kernel_rfl) (by simp only [go_sem, ↓reduceIte, Nat.reduceLT, Nat.reduceEqDiff, Nat.reduceLeDiff, Nat.reduceAdd, Nat.reduceMul, Int.reduceLT, Int.reduceLE, Int.reduceToNat, BitVec.reduceOfInt, Nat.reduceBEq]; try rfl) rfl ?_
    refine al_store1 rfl (by simp only [go_sem, ↓reduceIte, Nat.reduceLT, Nat.reduceEqDiff, Nat.reduceLeDiff, Nat.reduceAdd, Nat.reduceMul, Int.reduceLT, Int.reduceLE, Int.reduceToNat, BitVec.reduceOfInt, Nat.reduceBEq]; try rfl) rfl (by simp only [go_sem, ↓reduceIte, Nat.reduceLT, Nat.reduceEqDiff, Nat.reduceLeDiff, Nat.reduceAdd, Nat.reduceMul, Int.reduceLT, Int.reduceLE, Int.reduceToNat, BitVec.reduceOfInt, Nat.reduceBEq]; try rfl) (by simp only [go_sem, ↓reduceIte, Nat.reduceLT, Nat.reduceEqDiff, Nat.reduceLeDiff, Nat.reduceAdd, Nat.reduceMul, Int.reduceLT, Int.reduceLE, Int.reduceToNat, BitVec.reduceOfInt, Nat.reduceBEq]; try rfl) (by rw [AHeap.set_ne _ _ (by omega)]; exact g1 _ _ _) rfl size22' rfl rfl (by exact Nat.one_pos) ?_
    refine al_store (v := .agg #[.slice (some ⟨N + 3, 0, none⟩) n n, .int .u8 0, .bool false]) rfl (by simp only [go_sem, ↓reduceIte, Nat.reduceLT, Nat.reduceEqDiff, Nat.reduceLeDiff, Nat.reduceAdd, Nat.reduceMul, Int.reduceLT, Int.reduceLE, Int.reduceToNat, BitVec.reduceOfInt, Nat.reduceBEq]; try rfl) rfl (by simp only [go_sem, ↓reduceIte, Nat.reduceLT, Nat.reduceEqDiff, Nat.reduceLeDiff, Nat.reduceAdd, Nat.reduceMul, Int.reduceLT, Int.reduceLE, Int.reduceToNat, BitVec.reduceOfInt, Nat.reduceBEq]; try rfl) (by simp only [go_sem, ↓reduceIte, Nat.reduceLT, Nat.reduceEqDiff, Nat.reduceLeDiff, Nat.reduceAdd, Nat.reduceMul, Int.reduceLT, Int.reduceLE, Int.reduceToNat, BitVec.reduceOfInt, Nat.reduceBEq]; try rfl) (by rw [AHeap.set_ne _ _ (by omega), AHeap.set_ne _ _ (by omega)]; exact g2 _ _ _) rfl size25 rfl (by exact Nat.le_refl 3) ?_
    refine al_end [0, 3, 4, 5] ?_
    change AWp _ _ _ _ (N + 4) ((((((σ.set N ⟨[.int .i64 n], true, 1⟩).set (N + 1) ⟨[.int .u64 0], true, 1⟩).set (N + 2) ⟨[.slice none 0 0, .int .u8 0, .bool false], true, 1⟩).set (N + 3) ⟨ints (idL n), true, 1⟩).set (N + 1) ⟨[.int .u64 t.toNat], true, 1⟩).set (N + 2) ⟨[.slice (some ⟨N + 3, 0, none⟩) n n, .int .u8 0, .bool false], true, 1⟩) _
    have hc0 : CanBase N n σ (t, idL n, 0, false) (((((((σ.set N ⟨[.int .i64 n], true, 1⟩).set (N + 1) ⟨[.int .u64 0], true, 1⟩).set (N + 2) ⟨[.slice none 0 0, .int .u8 0, .bool false], true, 1⟩).set (N + 3) ⟨ints (idL n), true, 1⟩).set (N + 1) ⟨[.int .u64 t.toNat], true, 1⟩).set (N + 2) ⟨[.slice (some ⟨N + 3, 0, none⟩) n n, .int .u8 0, .bool false], true, 1⟩).set (N + 4) ⟨[clo46 N], true, 1⟩) := by
      refine ⟨?_, ⟨?_, ⟨.slice (some ⟨N + 3, 0, none⟩) n n, ?_, .inr ⟨N + 3, 0, n, ⟨ints (idL n), true, 1⟩, by simp, by simp [ints, idL], ?_, fun j x hx => by simpa using hx⟩⟩, fun i b _ _ h => h⟩, ?_, ?_⟩
      · simp [AHeap.set]
      · simp [AHeap.set]
      · simp [AHeap.set]
      · simp [AHeap.set]
      · simp [AHeap.set]
      · intro i b hi
        have := hN i b hi
        simp only [AHeap.set]
        rw [if_neg (by omega), if_neg (by omega), if_neg (by omega), if_neg (by omega), if_neg (by omega), if_neg (by omega), if_neg (by omega)]
        exact hi
    have hnn : ((((((σ.set N ⟨[.int .i64 n], true, 1⟩).set (N + 1) ⟨[.int .u64 0], true, 1⟩).set (N + 2) ⟨[.slice none 0 0, .int .u8 0, .bool false], true, 1⟩).set (N + 3) ⟨ints (idL n), true, 1⟩).set (N + 1) ⟨[.int .u64 t.toNat], true, 1⟩).set (N + 2) ⟨[.slice (some ⟨N + 3, 0, none⟩) n n, .int .u8 0, .bool false], true, 1⟩) N = some ⟨[.int .i64 n], true, 1⟩ := by simp [AHeap.set]
    generalize (((((σ.set N ⟨[.int .i64 n], true, 1⟩).set (N + 1) ⟨[.int .u64 0], true, 1⟩).set (N + 2) ⟨[.slice none 0 0, .int .u8 0, .bool false], true, 1⟩).set (N + 3) ⟨ints (idL n), true, 1⟩).set (N + 1) ⟨[.int .u64 t.toNat], true, 1⟩).set (N + 2) ⟨[.slice (some ⟨N + 3, 0, none⟩) n n, .int .u8 0, .bool false], true, 1⟩ = σ4 at hc0 hnn ⊢
    first | refine awp_seq (awp_lit ?_) | refine awp_lit ?_ | refine awp_seq (awp_seq (awp_lit ?_))
    refine al_pureN 1 (by simp only [go_sem, ↓reduceIte, Nat.reduceLT, Nat.reduceEqDiff, Nat.reduceLeDiff, Nat.reduceAdd, Nat.reduceMul, Int.reduceLT, Int.reduceLE, Int.reduceToNat, BitVec.reduceOfInt, Nat.reduceBEq]; try rfl) ?_
    refine al_alloc 1 rfl rfl rfl ty74 (by decide) ?_
    refine al_store1 rfl (by simp only [go_sem, ↓reduceIte, Nat.reduceLT, Nat.reduceEqDiff, Nat.reduceLeDiff, Nat.reduceAdd, Nat.reduceMul, Int.reduceLT, Int.reduceLE, Int.reduceToNat, BitVec.reduceOfInt, Nat.reduceBEq]; try rfl) rfl (by simp only [go_sem, ↓reduceIte, Nat.reduceLT, Nat.reduceEqDiff, Nat.reduceLeDiff, Nat.reduceAdd, Nat.reduceMul, Int.reduceLT, Int.reduceLE, Int.reduceToNat, BitVec.reduceOfInt, Nat.reduceBEq]; try rfl) (by simp only [go_sem, ↓reduceIte, Nat.reduceLT, Nat.reduceEqDiff, Nat.reduceLeDiff, Nat.reduceAdd, Nat.reduceMul, Int.reduceLT, Int.reduceLE, Int.reduceToNat, BitVec.reduceOfInt, Nat.reduceBEq]; try rfl) (AHeap.set_self _ _ _) rfl size74 rfl rfl (by exact Nat.one_pos) ?_
    rw [set_set]
    refine al_end [0, 3, 4, 5, 7] ?_
    change AWp _ _ _ _ (N + 5) (σ4.set (N + 4) ⟨[clo46 N], true, 1⟩) _
    generalize σ4.set (N + 4) ⟨[clo46 N], true, 1⟩ = σ5 at hc0 ⊢
    refine awp_seq ?_
    first | refine awp_seq (awp_lit ?_) | refine awp_lit ?_ | refine awp_seq (awp_seq (awp_lit ?_))
    refine al_load rfl (by simp only [go_sem, ↓reduceIte, Nat.reduceLT, Nat.reduceEqDiff, Nat.reduceLeDiff, Nat.reduceAdd, Nat.reduceMul, Int.reduceLT, Int.reduceLE, Int.reduceToNat, BitVec.reduceOfInt, Nat.reduceBEq]) rfl (by simp only [go_sem, ↓reduceIte, Nat.reduceLT, Nat.reduceEqDiff, Nat.reduceLeDiff, Nat.reduceAdd, Nat.reduceMul, Int.reduceLT, Int.reduceLE, Int.reduceToNat, BitVec.reduceOfInt, Nat.reduceBEq]; try rfl) hc0.n (loadA_scalar agg3 rfl) ?_
    refine al_pureN 2 (by simp only [go_sem, ↓reduceIte, Nat.reduceLT, Nat.reduceEqDiff, Nat.reduceLeDiff, Nat.reduceAdd, Nat.reduceMul, Int.reduceLT, Int.reduceLE, Int.reduceToNat, BitVec.reduceOfInt, Nat.reduceBEq, i64_shl_one (show n ≤ 62 by omega)]; try rfl) ?_
    refine al_end [0, 3, 4, 5, 7, 26, 27] ?_
    have h16 : 2 ^ n ≤ 16 := by
      have := Nat.pow_le_pow_right (n := 2) (by omega) hn
      simpa using this
    refine awp_block (awp_loop ?_)
    refine ALoop.cast3 (aloop_ind (α := Nat × FoundT × Nat × AHeap)
      (fun x => x.1 ≤ 2 ^ n ∧ canonGo t n (2 ^ n) 0 (t, idL n, 0, false) = canonGo t n (2 ^ n - x.1) x.1 x.2.1 ∧ N + 5 ≤ x.2.2.1 ∧ CanBase N n σ x.2.1 x.2.2.2) (fun x => 2 ^ n - x.1)
      (fun x => [(0, .int .u64 t.toNat), (3, ptr N), (4, ptr (N + 1)), (5, ptr (N + 2)), (7, ptr (N + 4)), (26, .int .i64 (2 ^ n : Nat)), (27, .int .i64 x.1)]) (fun x => x.2.2.1) (fun x => x.2.2.2) ?_
      (0, (t, idL n, 0, false), N + 5, σ5) ⟨by simp, rfl, by simp, hc0⟩) rfl rfl rfl
    rintro ⟨j, y, Nx, σx⟩ ⟨hj, hgo, hNx, hcx⟩ ih
    simp only at hj hgo hNx hcx
    by_cases hlt : j < 2 ^ n
    · have hb1 : decide ((j : Int) < (2 ^ n : Nat)) = true := decide_eq_true (Int.ofNat_lt.2 hlt)
      refine awp_seq (awp_pures [0, 3, 4, 5, 7, 26, 27, 28] (by simp only [go_sem, ↓reduceIte, Nat.reduceLT, Nat.reduceEqDiff, Nat.reduceLeDiff, Nat.reduceAdd, Nat.reduceMul, Int.reduceLT, Int.reduceLE, Int.reduceToNat, BitVec.reduceOfInt, Nat.reduceBEq, hb1]; try rfl) ?_)
      refine awp_seq ?_
      refine awp_if rfl (fun _ => ?_) (fun h => by cases h)
      refine awp_skip ?_
      refine awp_seq (awp_block ?_)
      have hj16 : j < 256 := by omega
      first | refine awp_seq (awp_lit ?_) | refine awp_lit ?_ | refine awp_seq (awp_seq (awp_lit ?_))
      refine al_fresh fun hFx => ?_
      refine al_pureN 1 (by simp only [go_sem, ↓reduceIte, Nat.reduceLT, Nat.reduceEqDiff, Nat.reduceLeDiff, Nat.reduceAdd, Nat.reduceMul, Int.reduceLT, Int.reduceLE, Int.reduceToNat, BitVec.reduceOfInt, Nat.reduceBEq]; try rfl) ?_
      refine al_alloc 1 rfl rfl rfl ty3 (by decide) ?_
      refine al_store1 rfl (by simp only [go_sem, ↓reduceIte, Nat.reduceLT, Nat.reduceEqDiff, Nat.reduceLeDiff, Nat.reduceAdd, Nat.reduceMul, Int.reduceLT, Int.reduceLE, Int.reduceToNat, BitVec.reduceOfInt, Nat.reduceBEq]; try rfl) rfl (by simp only [go_sem, ↓reduceIte, Nat.reduceLT, Nat.reduceEqDiff, Nat.reduceLeDiff, Nat.reduceAdd, Nat.reduceMul, Int.reduceLT, Int.reduceLE, Int.reduceToNat, BitVec.reduceOfInt, Nat.reduceBEq]; try rfl) (by simp only [go_sem, ↓reduceIte, Nat.reduceLT, Nat.reduceEqDiff, Nat.reduceLeDiff, Nat.reduceAdd, Nat.reduceMul, Int.reduceLT, Int.reduceLE, Int.reduceToNat, BitVec.reduceOfInt, Nat.reduceBEq]; try rfl) (AHeap.set_self _ _ _) rfl size3 rfl rfl (by exact Nat.one_pos) ?_
      rw [set_set]
      refine al_end [0, 3, 4, 5, 7, 8, 26, 27] ?_
      change AWp _ _ _ _ (Nx + 1) (σx.set Nx ⟨[.int .i64 j], true, 1⟩) _
      have hle1 : σx.le (σx.set Nx ⟨[.int .i64 j], true, 1⟩) := AHeap.le_set (AHeap.le_refl _) fun i b hb => Nat.ne_of_lt (hFx i b hb)
      have h8 : (σx.set Nx ⟨[.int .i64 j], true, 1⟩) Nx = some ⟨[.int .i64 j], true, 1⟩ := AHeap.set_self _ _ _
      have hF1 : ∀ i b, (σx.set Nx ⟨[.int .i64 j], true, 1⟩) i = some b → i < Nx + 1 := fun i b hi => by
        unfold AHeap.set at hi
        split at hi
        · omega
        · exact Nat.lt_succ_of_lt (hFx i b hi)
      have hM1 := hle1 _ _ hcx.n
      generalize σx.set Nx ⟨[.int .i64 j], true, 1⟩ = σ1 at hle1 h8 hF1 hM1 ⊢
      have hap := Apply_gives t n (idL n) (by simp [idL]; omega) j hj16 false (.slice (some ⟨Nx + 1 + 3, 0, none⟩) n n)
      generalize hap0 : ApplyR t n (idL n) j false = ap at hap
      have hst1 : ∀ S : Nat → Bool, ∀ i b, σ1 i = some b → (if S 12 = true then (if S 3 = true then σ1.set (Nx + 1 + 3) ⟨ints (idL n), true, 1⟩ else σ1).set (Nx + 1 + 11) ⟨[.int .u64 ap.1.toNat], true, 1⟩ else if S 11 = true then (if S 3 = true then σ1.set (Nx + 1 + 3) ⟨ints (idL n), true, 1⟩ else σ1).set (Nx + 1 + 11) ⟨[.int .u64 0], true, 1⟩ else (if S 3 = true then σ1.set (Nx + 1 + 3) ⟨ints (idL n), true, 1⟩ else σ1)) i = some b := fun S i b hi => by
        have := hF1 i b hi
        have hA : (if S 3 = true then σ1.set (Nx + 1 + 3) ⟨ints (idL n), true, 1⟩ else σ1) i = some b := by
          split
          · rw [AHeap.set_ne _ _ (by omega)]; exact hi
          · exact hi
        split
        · rw [AHeap.set_ne _ _ (by omega)]; exact hA
        · split
          · rw [AHeap.set_ne _ _ (by omega)]; exact hA
          · exact hA
      have hlt14 : ∀ S : Nat → Bool, ∀ i b, (if S 12 = true then (if S 3 = true then σ1.set (Nx + 1 + 3) ⟨ints (idL n), true, 1⟩ else σ1).set (Nx + 1 + 11) ⟨[.int .u64 ap.1.toNat], true, 1⟩ else if S 11 = true then (if S 3 = true then σ1.set (Nx + 1 + 3) ⟨ints (idL n), true, 1⟩ else σ1).set (Nx + 1 + 11) ⟨[.int .u64 0], true, 1⟩ else (if S 3 = true then σ1.set (Nx + 1 + 3) ⟨ints (idL n), true, 1⟩ else σ1)) i = some b → i < Nx + 1 + 14 := fun S i b hi => by
        have hA : ∀ i b, (if S 3 = true then σ1.set (Nx + 1 + 3) ⟨ints (idL n), true, 1⟩ else σ1) i = some b → i < Nx + 1 + 14 := fun i b hi => by
          split at hi
          · unfold AHeap.set at hi
            split at hi
            · omega
            · have := hF1 i b hi; omega
          · have := hF1 i b hi; omega
        split at hi
        · unfold AHeap.set at hi
          split at hi
          · omega
          · exact hA i b hi
        · split at hi
          · unfold AHeap.set at hi
            split at hi
            · omega
            · exact hA i b hi
          · exact hA i b hi
      have hrowS : ∀ S : Nat → Bool, S 3 = true → SlAt (if S 12 = true then (if S 3 = true then σ1.set (Nx + 1 + 3) ⟨ints (idL n), true, 1⟩ else σ1).set (Nx + 1 + 11) ⟨[.int .u64 ap.1.toNat], true, 1⟩ else if S 11 = true then (if S 3 = true then σ1.set (Nx + 1 + 3) ⟨ints (idL n), true, 1⟩ else σ1).set (Nx + 1 + 11) ⟨[.int .u64 0], true, 1⟩ else (if S 3 = true then σ1.set (Nx + 1 + 3) ⟨ints (idL n), true, 1⟩ else σ1)) (.slice (some ⟨Nx + 1 + 3, 0, none⟩) n n) (ints (idL n)) := fun S h3 => by
        refine .inr ⟨Nx + 1 + 3, 0, n, ⟨ints (idL n), true, 1⟩, by simp [ints, idL], ?_, fun j x hx => by simpa using hx⟩
        simp only [h3, if_true]
        split
        · rw [AHeap.set_ne _ _ (by omega), AHeap.set_self]
        · split
          · rw [AHeap.set_ne _ _ (by omega), AHeap.set_self]
          · rw [AHeap.set_self]
      refine awp_seq (awp_draw [(0, .int .u64 t.toNat), (3, ptr N), (4, ptr (N + 1)), (5, ptr (N + 2)), (7, ptr (N + 4)), (8, ptr Nx), (9, ptr (Nx + 1 + 11)), (26, .int .i64 (2 ^ n : Nat)), (27, .int .i64 j)] [.int .u64 t.toNat, .int .i64 n, .int .i64 n, .slice (some ⟨Nx + 1 + 3, 0, none⟩) n n, .int .i64 j, .int .u8 j, .agg #[.slice (some ⟨Nx + 1 + 3, 0, none⟩) n n, .int .u8 j, .bool false], tup2 ap, tup2 ap, .int .u64 ap.1.toNat, .int .i64 ap.2, ptr (Nx + 1 + 11), undef, .int .i64 ap.2] (fun S => if S 12 = true then (if S 3 = true then σ1.set (Nx + 1 + 3) ⟨ints (idL n), true, 1⟩ else σ1).set (Nx + 1 + 11) ⟨[.int .u64 ap.1.toNat], true, 1⟩ else if S 11 = true then (if S 3 = true then σ1.set (Nx + 1 + 3) ⟨ints (idL n), true, 1⟩ else σ1).set (Nx + 1 + 11) ⟨[.int .u64 0], true, 1⟩ else (if S 3 = true then σ1.set (Nx + 1 + 3) ⟨ints (idL n), true, 1⟩ else σ1)) (by kernel_rfl) (by kernel_rfl) (by kernel_rfl) (AHeap.le_refl _) (fun S S' h => by simp only [h 3 (by simp), h 11 (by simp), h 12 (by simp)]) ?ht3 (fun honce => (knows_env (x := 0) (v := .int .u64 t.toNat) (by kernel_rfl) rfl (knows_env (x := 3) (v := ptr N) (by kernel_rfl) rfl (knows_env (x := 4) (v := ptr (N + 1)) (by kernel_rfl) rfl (knows_env (x := 5) (v := ptr (N + 2)) (by kernel_rfl) rfl (knows_env (x := 7) (v := ptr (N + 4)) (by kernel_rfl) rfl (knows_env (x := 8) (v := ptr Nx) (by kernel_rfl) rfl (knows_done honce 11 (x := 9) (v := ptr (Nx + 1 + 11)) (by kernel_rfl) (by simp) rfl rfl (knows_env (x := 26) (v := .int .i64 (2 ^ n : Nat)) (by kernel_rfl) rfl (knows_env (x := 27) (v := .int .i64 j) (by kernel_rfl) rfl knows_nil)))))))))) ?hk3)
      case ht3 =>
        intro i o S ho hi hd hc honce
        have hlt : i < 14 := by simpa using (Array.getElem?_eq_some_iff.1 ho).1
        have key : i = 0 ∨ i = 1 ∨ i = 2 ∨ i = 3 ∨ i = 4 ∨ i = 5 ∨ i = 6 ∨ i = 7 ∨ i = 8 ∨ i = 9 ∨ i = 10 ∨ i = 11 ∨ i = 12 ∨ i = 13 := by omega
        rcases key with rfl | rfl | rfl | rfl | rfl | rfl | rfl | rfl | rfl | rfl | rfl | rfl | rfl | rfl
        · simp only [List.getElem?_toArray, List.getElem?_cons_succ, List.getElem?_cons_zero, Option.some.injEq] at ho
          subst ho
          have f7 : S 7 = false := by cases h : S 7 with | false => rfl | true => (have h2 := hc 7 0 (of_decide_eq_true (by kernel_rfl)) h; rw [h2] at hi; cases hi)
          have f12 : S 12 = false := by cases h : S 12 with | false => rfl | true => (have h2 := hc 12 0 (of_decide_eq_true (by kernel_rfl)) h; rw [h2] at hi; cases hi)
          have f13 : S 13 = false := by cases h : S 13 with | false => rfl | true => (have h2 := hc 13 0 (of_decide_eq_true (by kernel_rfl)) h; rw [h2] at hi; cases hi)
          exact turn_pure (knows_env (x := 0) (v := .int .u64 t.toNat) (by kernel_rfl) rfl knows_nil) rfl (by simp only [go_sem, ↓reduceIte, Nat.reduceLT, Nat.reduceEqDiff, Nat.reduceLeDiff, Nat.reduceAdd, Nat.reduceMul, Int.reduceLT, Int.reduceLE, Int.reduceToNat, BitVec.reduceOfInt, Nat.reduceBEq, u8_wrap_nat hj16]; try rfl) (by simp only [go_sem, ↓reduceIte, Nat.reduceLT, Nat.reduceEqDiff, Nat.reduceLeDiff, Nat.reduceAdd, Nat.reduceMul, Int.reduceLT, Int.reduceLE, Int.reduceToNat, BitVec.reduceOfInt, Nat.reduceBEq, u8_wrap_nat hj16]; try rfl) (by first | rfl | simp [upd])
        · simp only [List.getElem?_toArray, List.getElem?_cons_succ, List.getElem?_cons_zero, Option.some.injEq] at ho
          subst ho
          have f7 : S 7 = false := by cases h : S 7 with | false => rfl | true => (have h2 := hc 7 1 (of_decide_eq_true (by kernel_rfl)) h; rw [h2] at hi; cases hi)
          have f12 : S 12 = false := by cases h : S 12 with | false => rfl | true => (have h2 := hc 12 1 (of_decide_eq_true (by kernel_rfl)) h; rw [h2] at hi; cases hi)
          have f13 : S 13 = false := by cases h : S 13 with | false => rfl | true => (have h2 := hc 13 1 (of_decide_eq_true (by kernel_rfl)) h; rw [h2] at hi; cases hi)
          exact turn_load (knows_env (x := 3) (v := ptr N) (by kernel_rfl) rfl knows_nil) rfl (by simp only [go_sem, ↓reduceIte, Nat.reduceLT, Nat.reduceEqDiff, Nat.reduceLeDiff, Nat.reduceAdd, Nat.reduceMul, Int.reduceLT, Int.reduceLE, Int.reduceToNat, BitVec.reduceOfInt, Nat.reduceBEq, u8_wrap_nat hj16]; try rfl) rfl (by simp only [go_sem, ↓reduceIte, Nat.reduceLT, Nat.reduceEqDiff, Nat.reduceLeDiff, Nat.reduceAdd, Nat.reduceMul, Int.reduceLT, Int.reduceLE, Int.reduceToNat, BitVec.reduceOfInt, Nat.reduceBEq, u8_wrap_nat hj16]; try rfl) (hst1 S _ _ hM1) (loadA_scalar agg3 rfl) (by first | rfl | simp [upd])
        · simp only [List.getElem?_toArray, List.getElem?_cons_succ, List.getElem?_cons_zero, Option.some.injEq] at ho
          subst ho
          have f3 : S 3 = false := by cases h : S 3 with | false => rfl | true => (have h2 := hc 3 2 (of_decide_eq_true (by kernel_rfl)) h; rw [h2] at hi; cases hi)
          have f12 : S 12 = false := by cases h : S 12 with | false => rfl | true => (have h2 := hc 12 2 (of_decide_eq_true (by kernel_rfl)) h; rw [h2] at hi; cases hi)
          have f13 : S 13 = false := by cases h : S 13 with | false => rfl | true => (have h2 := hc 13 2 (of_decide_eq_true (by kernel_rfl)) h; rw [h2] at hi; cases hi)
          exact turn_load (knows_env (x := 3) (v := ptr N) (by kernel_rfl) rfl knows_nil) rfl (by simp only [go_sem, ↓reduceIte, Nat.reduceLT, Nat.reduceEqDiff, Nat.reduceLeDiff, Nat.reduceAdd, Nat.reduceMul, Int.reduceLT, Int.reduceLE, Int.reduceToNat, BitVec.reduceOfInt, Nat.reduceBEq, u8_wrap_nat hj16]; try rfl) rfl (by simp only [go_sem, ↓reduceIte, Nat.reduceLT, Nat.reduceEqDiff, Nat.reduceLeDiff, Nat.reduceAdd, Nat.reduceMul, Int.reduceLT, Int.reduceLE, Int.reduceToNat, BitVec.reduceOfInt, Nat.reduceBEq, u8_wrap_nat hj16]; try rfl) (hst1 S _ _ hM1) (loadA_scalar agg3 rfl) (by first | rfl | simp [upd])
        · simp only [List.getElem?_toArray, List.getElem?_cons_succ, List.getElem?_cons_zero, Option.some.injEq] at ho
          subst ho
          have f2 : S 2 = true := hd 2 (of_decide_eq_true (by kernel_rfl))
          have f6 : S 6 = false := by cases h : S 6 with | false => rfl | true => (have h2 := hc 6 3 (of_decide_eq_true (by kernel_rfl)) h; rw [h2] at hi; cases hi)
          have f7 : S 7 = false := by cases h : S 7 with | false => rfl | true => (have h2 := hc 7 3 (of_decide_eq_true (by kernel_rfl)) h; rw [h2] at hi; cases hi)
          have f12 : S 12 = false := by cases h : S 12 with | false => rfl | true => (have h2 := hc 12 3 (of_decide_eq_true (by kernel_rfl)) h; rw [h2] at hi; cases hi)
          have f13 : S 13 = false := by cases h : S 13 with | false => rfl | true => (have h2 := hc 13 3 (of_decide_eq_true (by kernel_rfl)) h; rw [h2] at hi; cases hi)
          exact turn_row (knows_done honce 2 (x := 33) (v := .int .i64 n) (by kernel_rfl) (by simp) f2 rfl knows_nil) rfl (by simp only [go_sem, ↓reduceIte, Nat.reduceLT, Nat.reduceEqDiff, Nat.reduceLeDiff, Nat.reduceAdd, Nat.reduceMul, Int.reduceLT, Int.reduceLE, Int.reduceToNat, BitVec.reduceOfInt, Nat.reduceBEq, u8_wrap_nat hj16]; try rfl) rfl (by simp only [go_sem, ↓reduceIte, Nat.reduceLT, Nat.reduceEqDiff, Nat.reduceLeDiff, Nat.reduceAdd, Nat.reduceMul, Int.reduceLT, Int.reduceLE, Int.reduceToNat, BitVec.reduceOfInt, Nat.reduceBEq, u8_wrap_nat hj16]; try rfl) (by kernel_rfl) (first_ok n (by omega) _ _) (ints_flat _) rfl (hlt14 S) (by simp only [upd, hi, f12, if_true, Bool.false_eq_true, if_false, Nat.reduceEqDiff]; split; exact (set_comm _ (by omega) _ _).symm; rfl)
        · simp only [List.getElem?_toArray, List.getElem?_cons_succ, List.getElem?_cons_zero, Option.some.injEq] at ho
          subst ho
          have f5 : S 5 = false := by cases h : S 5 with | false => rfl | true => (have h2 := hc 5 4 (of_decide_eq_true (by kernel_rfl)) h; rw [h2] at hi; cases hi)
          have f12 : S 12 = false := by cases h : S 12 with | false => rfl | true => (have h2 := hc 12 4 (of_decide_eq_true (by kernel_rfl)) h; rw [h2] at hi; cases hi)
          have f13 : S 13 = false := by cases h : S 13 with | false => rfl | true => (have h2 := hc 13 4 (of_decide_eq_true (by kernel_rfl)) h; rw [h2] at hi; cases hi)
          exact turn_load (knows_env (x := 8) (v := ptr Nx) (by kernel_rfl) rfl knows_nil) rfl (by simp only [go_sem, ↓reduceIte, Nat.reduceLT, Nat.reduceEqDiff, Nat.reduceLeDiff, Nat.reduceAdd, Nat.reduceMul, Int.reduceLT, Int.reduceLE, Int.reduceToNat, BitVec.reduceOfInt, Nat.reduceBEq, u8_wrap_nat hj16]; try rfl) rfl (by simp only [go_sem, ↓reduceIte, Nat.reduceLT, Nat.reduceEqDiff, Nat.reduceLeDiff, Nat.reduceAdd, Nat.reduceMul, Int.reduceLT, Int.reduceLE, Int.reduceToNat, BitVec.reduceOfInt, Nat.reduceBEq, u8_wrap_nat hj16]; try rfl) (hst1 S _ _ h8) (loadA_scalar agg3 rfl) (by first | rfl | simp [upd])
        · simp only [List.getElem?_toArray, List.getElem?_cons_succ, List.getElem?_cons_zero, Option.some.injEq] at ho
          subst ho
          have f4 : S 4 = true := hd 4 (of_decide_eq_true (by kernel_rfl))
          have f6 : S 6 = false := by cases h : S 6 with | false => rfl | true => (have h2 := hc 6 5 (of_decide_eq_true (by kernel_rfl)) h; rw [h2] at hi; cases hi)
          have f12 : S 12 = false := by cases h : S 12 with | false => rfl | true => (have h2 := hc 12 5 (of_decide_eq_true (by kernel_rfl)) h; rw [h2] at hi; cases hi)
          have f13 : S 13 = false := by cases h : S 13 with | false => rfl | true => (have h2 := hc 13 5 (of_decide_eq_true (by kernel_rfl)) h; rw [h2] at hi; cases hi)
          exact turn_pure (knows_done honce 4 (x := 35) (v := .int .i64 j) (by kernel_rfl) (by simp) f4 rfl knows_nil) rfl (by simp only [go_sem, ↓reduceIte, Nat.reduceLT, Nat.reduceEqDiff, Nat.reduceLeDiff, Nat.reduceAdd, Nat.reduceMul, Int.reduceLT, Int.reduceLE, Int.reduceToNat, BitVec.reduceOfInt, Nat.reduceBEq, u8_wrap_nat hj16]; try rfl) (by simp only [go_sem, ↓reduceIte, Nat.reduceLT, Nat.reduceEqDiff, Nat.reduceLeDiff, Nat.reduceAdd, Nat.reduceMul, Int.reduceLT, Int.reduceLE, Int.reduceToNat, BitVec.reduceOfInt, Nat.reduceBEq, u8_wrap_nat hj16]; try rfl) (by first | rfl | simp [upd])
        · simp only [List.getElem?_toArray, List.getElem?_cons_succ, List.getElem?_cons_zero, Option.some.injEq] at ho
          subst ho
          have f3 : S 3 = true := hd 3 (of_decide_eq_true (by kernel_rfl))
          have f5 : S 5 = true := hd 5 (of_decide_eq_true (by kernel_rfl))
          have f7 : S 7 = false := by cases h : S 7 with | false => rfl | true => (have h2 := hc 7 6 (of_decide_eq_true (by kernel_rfl)) h; rw [h2] at hi; cases hi)
          have f12 : S 12 = false := by cases h : S 12 with | false => rfl | true => (have h2 := hc 12 6 (of_decide_eq_true (by kernel_rfl)) h; rw [h2] at hi; cases hi)
          have f13 : S 13 = false := by cases h : S 13 with | false => rfl | true => (have h2 := hc 13 6 (of_decide_eq_true (by kernel_rfl)) h; rw [h2] at hi; cases hi)
          exact turn_build_struct (ps := [(0, .slice (some ⟨Nx + 1 + 3, 0, none⟩) n n), (1, .int .u8 j)]) (r := [.slice (some ⟨Nx + 1 + 3, 0, none⟩) n n, .int .u8 j, .bool false]) (knows_done honce 5 (x := 36) (v := .int .u8 j) (by kernel_rfl) (by simp) f5 rfl (knows_done honce 3 (x := 34) (v := .slice (some ⟨Nx + 1 + 3, 0, none⟩) n n) (by kernel_rfl) (by simp) f3 rfl knows_nil)) rfl (by simp only [go_sem, ↓reduceIte, Nat.reduceLT, Nat.reduceEqDiff, Nat.reduceLeDiff, Nat.reduceAdd, Nat.reduceMul, Int.reduceLT, Int.reduceLE, Int.reduceToNat, BitVec.reduceOfInt, Nat.reduceBEq, u8_wrap_nat hj16]; try rfl) rfl Try.underlying25 ty25 rfl (pl := [(0, 1), (1, 1), (2, 1)]) (by kernel_rfl) (by simp only [go_sem, ↓reduceIte, Nat.reduceLT, Nat.reduceEqDiff, Nat.reduceLeDiff, Nat.reduceAdd, Nat.reduceMul, Int.reduceLT, Int.reduceLE, Int.reduceToNat, BitVec.reduceOfInt, Nat.reduceBEq, u8_wrap_nat hj16]; try rfl) rfl rfl (by first | rfl | simp [upd])
        · simp only [List.getElem?_toArray, List.getElem?_cons_succ, List.getElem?_cons_zero, Option.some.injEq] at ho
          subst ho
          have f0 : S 0 = true := hd 0 (of_decide_eq_true (by kernel_rfl))
          have f1 : S 1 = true := hd 1 (of_decide_eq_true (by kernel_rfl))
          have f3 : S 3 = true := hd 3 (of_decide_eq_true (by kernel_rfl))
          have f6 : S 6 = true := hd 6 (of_decide_eq_true (by kernel_rfl))
          have f8 : S 8 = false := by cases h : S 8 with | false => rfl | true => (have h2 := hc 8 7 (of_decide_eq_true (by kernel_rfl)) h; rw [h2] at hi; cases hi)
          have f12 : S 12 = false := by cases h : S 12 with | false => rfl | true => (have h2 := hc 12 7 (of_decide_eq_true (by kernel_rfl)) h; rw [h2] at hi; cases hi)
          have f13 : S 13 = false := by cases h : S 13 with | false => rfl | true => (have h2 := hc 13 7 (of_decide_eq_true (by kernel_rfl)) h; rw [h2] at hi; cases hi)
          exact turn_gives (knows_done honce 6 (x := 37) (v := .agg #[.slice (some ⟨Nx + 1 + 3, 0, none⟩) n n, .int .u8 j, .bool false]) (by kernel_rfl) (by simp) f6 rfl (knows_done honce 1 (x := 32) (v := .int .i64 n) (by kernel_rfl) (by simp) f1 rfl (knows_done honce 0 (x := 31) (v := .int .u64 t.toNat) (by kernel_rfl) (by simp) f0 rfl knows_nil))) rfl (by simp only [go_sem, ↓reduceIte, Nat.reduceLT, Nat.reduceEqDiff, Nat.reduceLeDiff, Nat.reduceAdd, Nat.reduceMul, Int.reduceLT, Int.reduceLE, Int.reduceToNat, BitVec.reduceOfInt, Nat.reduceBEq, u8_wrap_nat hj16]; try rfl) rfl (by simp only [go_sem, ↓reduceIte, Nat.reduceLT, Nat.reduceEqDiff, Nat.reduceLeDiff, Nat.reduceAdd, Nat.reduceMul, Int.reduceLT, Int.reduceLE, Int.reduceToNat, BitVec.reduceOfInt, Nat.reduceBEq, u8_wrap_nat hj16]; try rfl) (hap _ _ (hrowS S f3)) (by kernel_rfl) (by first | rfl | simp [upd])
        · simp only [List.getElem?_toArray, List.getElem?_cons_succ, List.getElem?_cons_zero, Option.some.injEq] at ho
          subst ho
          have f7 : S 7 = true := hd 7 (of_decide_eq_true (by kernel_rfl))
          have f9 : S 9 = false := by cases h : S 9 with | false => rfl | true => (have h2 := hc 9 8 (of_decide_eq_true (by kernel_rfl)) h; rw [h2] at hi; cases hi)
          have f10 : S 10 = false := by cases h : S 10 with | false => rfl | true => (have h2 := hc 10 8 (of_decide_eq_true (by kernel_rfl)) h; rw [h2] at hi; cases hi)
          have f12 : S 12 = false := by cases h : S 12 with | false => rfl | true => (have h2 := hc 12 8 (of_decide_eq_true (by kernel_rfl)) h; rw [h2] at hi; cases hi)
          have f13 : S 13 = false := by cases h : S 13 with | false => rfl | true => (have h2 := hc 13 8 (of_decide_eq_true (by kernel_rfl)) h; rw [h2] at hi; cases hi)
          exact turn_pure (knows_done honce 7 (x := 38) (v := tup2 ap) (by kernel_rfl) (by simp) f7 rfl knows_nil) rfl (by simp only [go_sem, ↓reduceIte, Nat.reduceLT, Nat.reduceEqDiff, Nat.reduceLeDiff, Nat.reduceAdd, Nat.reduceMul, Int.reduceLT, Int.reduceLE, Int.reduceToNat, BitVec.reduceOfInt, Nat.reduceBEq, u8_wrap_nat hj16]; try rfl) (by simp only [go_sem, ↓reduceIte, Nat.reduceLT, Nat.reduceEqDiff, Nat.reduceLeDiff, Nat.reduceAdd, Nat.reduceMul, Int.reduceLT, Int.reduceLE, Int.reduceToNat, BitVec.reduceOfInt, Nat.reduceBEq, u8_wrap_nat hj16]; try rfl) (by first | rfl | simp [upd])
        · simp only [List.getElem?_toArray, List.getElem?_cons_succ, List.getElem?_cons_zero, Option.some.injEq] at ho
          subst ho
          have f8 : S 8 = true := hd 8 (of_decide_eq_true (by kernel_rfl))
          have f12 : S 12 = false := by cases h : S 12 with | false => rfl | true => (have h2 := hc 12 9 (of_decide_eq_true (by kernel_rfl)) h; rw [h2] at hi; cases hi)
          have f13 : S 13 = false := by cases h : S 13 with | false => rfl | true => (have h2 := hc 13 9 (of_decide_eq_true (by kernel_rfl)) h; rw [h2] at hi; cases hi)
          exact turn_pure (knows_done honce 8 (x := 30) (v := tup2 ap) (by kernel_rfl) (by simp) f8 rfl knows_nil) rfl (by simp only [go_sem, ↓reduceIte, Nat.reduceLT, Nat.reduceEqDiff, Nat.reduceLeDiff, Nat.reduceAdd, Nat.reduceMul, Int.reduceLT, Int.reduceLE, Int.reduceToNat, BitVec.reduceOfInt, Nat.reduceBEq, u8_wrap_nat hj16]; try rfl) (by simp only [go_sem, ↓reduceIte, Nat.reduceLT, Nat.reduceEqDiff, Nat.reduceLeDiff, Nat.reduceAdd, Nat.reduceMul, Int.reduceLT, Int.reduceLE, Int.reduceToNat, BitVec.reduceOfInt, Nat.reduceBEq, u8_wrap_nat hj16]; try rfl) (by first | rfl | simp [upd])
        · simp only [List.getElem?_toArray, List.getElem?_cons_succ, List.getElem?_cons_zero, Option.some.injEq] at ho
          subst ho
          have f8 : S 8 = true := hd 8 (of_decide_eq_true (by kernel_rfl))
          have f13 : S 13 = false := by cases h : S 13 with | false => rfl | true => (have h2 := hc 13 10 (of_decide_eq_true (by kernel_rfl)) h; rw [h2] at hi; cases hi)
          exact turn_pure (knows_done honce 8 (x := 30) (v := tup2 ap) (by kernel_rfl) (by simp) f8 rfl knows_nil) rfl (by simp only [go_sem, ↓reduceIte, Nat.reduceLT, Nat.reduceEqDiff, Nat.reduceLeDiff, Nat.reduceAdd, Nat.reduceMul, Int.reduceLT, Int.reduceLE, Int.reduceToNat, BitVec.reduceOfInt, Nat.reduceBEq, u8_wrap_nat hj16]; try rfl) (by simp only [go_sem, ↓reduceIte, Nat.reduceLT, Nat.reduceEqDiff, Nat.reduceLeDiff, Nat.reduceAdd, Nat.reduceMul, Int.reduceLT, Int.reduceLE, Int.reduceToNat, BitVec.reduceOfInt, Nat.reduceBEq, u8_wrap_nat hj16]; try rfl) (by first | rfl | simp [upd])
        · simp only [List.getElem?_toArray, List.getElem?_cons_succ, List.getElem?_cons_zero, Option.some.injEq] at ho
          subst ho
          have f12 : S 12 = false := by cases h : S 12 with | false => rfl | true => (have h2 := hc 12 11 (of_decide_eq_true (by kernel_rfl)) h; rw [h2] at hi; cases hi)
          have f13 : S 13 = false := by cases h : S 13 with | false => rfl | true => (have h2 := hc 13 11 (of_decide_eq_true (by kernel_rfl)) h; rw [h2] at hi; cases hi)
          exact turn_alloc 1 knows_nil rfl (by simp only [go_sem, ↓reduceIte, Nat.reduceLT, Nat.reduceEqDiff, Nat.reduceLeDiff, Nat.reduceAdd, Nat.reduceMul, Int.reduceLT, Int.reduceLE, Int.reduceToNat, BitVec.reduceOfInt, Nat.reduceBEq, u8_wrap_nat hj16]; try rfl) rfl ty22' (by decide) rfl (hlt14 S) (by simp only [upd, hi, f12, if_true, Bool.false_eq_true, if_false, Nat.reduceEqDiff]; rfl)
        · simp only [List.getElem?_toArray, List.getElem?_cons_succ, List.getElem?_cons_zero, Option.some.injEq] at ho
          subst ho
          have f0 : S 0 = true := hd 0 (of_decide_eq_true (by kernel_rfl))
          have f1 : S 1 = true := hd 1 (of_decide_eq_true (by kernel_rfl))
          have f2 : S 2 = true := hd 2 (of_decide_eq_true (by kernel_rfl))
          have f3 : S 3 = true := hd 3 (of_decide_eq_true (by kernel_rfl))
          have f4 : S 4 = true := hd 4 (of_decide_eq_true (by kernel_rfl))
          have f5 : S 5 = true := hd 5 (of_decide_eq_true (by kernel_rfl))
          have f6 : S 6 = true := hd 6 (of_decide_eq_true (by kernel_rfl))
          have f7 : S 7 = true := hd 7 (of_decide_eq_true (by kernel_rfl))
          have f8 : S 8 = true := hd 8 (of_decide_eq_true (by kernel_rfl))
          have f9 : S 9 = true := hd 9 (of_decide_eq_true (by kernel_rfl))
          have f11 : S 11 = true := hd 11 (of_decide_eq_true (by kernel_rfl))
          have f13 : S 13 = false := by cases h : S 13 with | false => rfl | true => (have h2 := hc 13 12 (of_decide_eq_true (by kernel_rfl)) h; rw [h2] at hi; cases hi)
          exact turn_store (v := (.int .u64 ap.1.toNat)) (knows_done honce 9 (x := 39) (v := .int .u64 ap.1.toNat) (by kernel_rfl) (by simp) f9 rfl (knows_done honce 11 (x := 9) (v := ptr (Nx + 1 + 11)) (by kernel_rfl) (by simp) f11 rfl knows_nil)) rfl (by simp only [go_sem, ↓reduceIte, Nat.reduceLT, Nat.reduceEqDiff, Nat.reduceLeDiff, Nat.reduceAdd, Nat.reduceMul, Int.reduceLT, Int.reduceLE, Int.reduceToNat, BitVec.reduceOfInt, Nat.reduceBEq, u8_wrap_nat hj16]; try rfl) rfl (by simp only [go_sem, ↓reduceIte, Nat.reduceLT, Nat.reduceEqDiff, Nat.reduceLeDiff, Nat.reduceAdd, Nat.reduceMul, Int.reduceLT, Int.reduceLE, Int.reduceToNat, BitVec.reduceOfInt, Nat.reduceBEq, u8_wrap_nat hj16]; try rfl) (by simp only [go_sem, ↓reduceIte, Nat.reduceLT, Nat.reduceEqDiff, Nat.reduceLeDiff, Nat.reduceAdd, Nat.reduceMul, Int.reduceLT, Int.reduceLE, Int.reduceToNat, BitVec.reduceOfInt, Nat.reduceBEq, u8_wrap_nat hj16]; try rfl) (by simp only [hi, f11, if_true, Bool.false_eq_true, if_false]; exact AHeap.set_self _ _ _) rfl size22' rfl (by exact Nat.le_refl 1) rfl (by simp only [upd, hi, f11, if_true, Bool.false_eq_true, if_false, Nat.reduceEqDiff, set_set]; exact AHeap.le_refl _)
        · simp only [List.getElem?_toArray, List.getElem?_cons_succ, List.getElem?_cons_zero, Option.some.injEq] at ho
          subst ho
          have f0 : S 0 = true := hd 0 (of_decide_eq_true (by kernel_rfl))
          have f1 : S 1 = true := hd 1 (of_decide_eq_true (by kernel_rfl))
          have f2 : S 2 = true := hd 2 (of_decide_eq_true (by kernel_rfl))
          have f3 : S 3 = true := hd 3 (of_decide_eq_true (by kernel_rfl))
          have f4 : S 4 = true := hd 4 (of_decide_eq_true (by kernel_rfl))
          have f5 : S 5 = true := hd 5 (of_decide_eq_true (by kernel_rfl))
          have f6 : S 6 = true := hd 6 (of_decide_eq_true (by kernel_rfl))
          have f7 : S 7 = true := hd 7 (of_decide_eq_true (by kernel_rfl))
          have f8 : S 8 = true := hd 8 (of_decide_eq_true (by kernel_rfl))
          have f9 : S 9 = true := hd 9 (of_decide_eq_true (by kernel_rfl))
          have f10 : S 10 = true := hd 10 (of_decide_eq_true (by kernel_rfl))
          have f11 : S 11 = true := hd 11 (of_decide_eq_true (by kernel_rfl))
          have f12 : S 12 = true := hd 12 (of_decide_eq_true (by kernel_rfl))
          exact turn_pure (knows_done honce 10 (x := 40) (v := .int .i64 ap.2) (by kernel_rfl) (by simp) f10 rfl knows_nil) rfl (by simp only [go_sem, ↓reduceIte, Nat.reduceLT, Nat.reduceEqDiff, Nat.reduceLeDiff, Nat.reduceAdd, Nat.reduceMul, Int.reduceLT, Int.reduceLE, Int.reduceToNat, BitVec.reduceOfInt, Nat.reduceBEq, u8_wrap_nat hj16]; try rfl) (by simp only [go_sem, ↓reduceIte, Nat.reduceLT, Nat.reduceEqDiff, Nat.reduceLeDiff, Nat.reduceAdd, Nat.reduceMul, Int.reduceLT, Int.reduceLE, Int.reduceToNat, BitVec.reduceOfInt, Nat.reduceBEq, u8_wrap_nat hj16]; try rfl) (by first | rfl | simp [upd])
      change AWp _ _ _ _ (Nx + 15) ((σ1.set (Nx + 4) ⟨ints (idL n), true, 1⟩).set (Nx + 12) ⟨[.int .u64 ap.1.toNat], true, 1⟩) _
      have hle2 : σ1.le ((σ1.set (Nx + 4) ⟨ints (idL n), true, 1⟩).set (Nx + 12) ⟨[.int .u64 ap.1.toNat], true, 1⟩) := AHeap.le_set (AHeap.le_set (AHeap.le_refl _) fun i b hi => by have := hF1 i b hi; omega) fun i b hi => by have := hF1 i b hi; omega
      have h9 : ((σ1.set (Nx + 4) ⟨ints (idL n), true, 1⟩).set (Nx + 12) ⟨[.int .u64 ap.1.toNat], true, 1⟩) (Nx + 12) = some ⟨[.int .u64 ap.1.toNat], true, 1⟩ := AHeap.set_self _ _ _
      have hlt2 : ∀ i b, ((σ1.set (Nx + 4) ⟨ints (idL n), true, 1⟩).set (Nx + 12) ⟨[.int .u64 ap.1.toNat], true, 1⟩) i = some b → i < Nx + 15 := fun i b hi => by
        unfold AHeap.set at hi
        split at hi
        · omega
        · split at hi
          · omega
          · have := hF1 i b hi; omega
      generalize (σ1.set (Nx + 4) ⟨ints (idL n), true, 1⟩).set (Nx + 12) ⟨[.int .u64 ap.1.toNat], true, 1⟩ = σ2 at hle2 h9 hlt2 ⊢
      have h82 := hle2 _ _ h8
      have hc2 := (hcx.lt hle1).lt hle2
      have hNx8 := hFx _ _ hcx.clo
      have hvis := visit_ok (n := n) (by omega) j hj16 ap.1 σ (M := N) (c8 := Nx) (c9 := Nx + 12) (ia := Nx + 15) (ib := Nx + 15 + 1) (ic := Nx + 15 + 3) (id := Nx + 15 + 4) (ie := Nx + 15 + 2) (by omega) (by omega) (by omega) (by omega) (by omega) (by omega) (by omega) hN
      have hord := orders_ok (n := n) (by omega) y (Nx + 15) σ2 hvis (fun b0 b1 b2 b3 b4 => hc2.inv (AHeap.le_set (AHeap.le_set (AHeap.le_set (AHeap.le_set (AHeap.le_set (AHeap.le_refl _) fun i b hi => by have := hlt2 i b hi; omega) fun i b hi => by have := hlt2 i b hi; omega) fun i b hi => by have := hlt2 i b hi; omega) fun i b hi => by have := hlt2 i b hi; omega) fun i b hi => by have := hlt2 i b hi; omega)
        (by simp only [AHeap.set]; rw [if_neg (by omega), if_neg (by omega), if_neg (by omega), if_neg (by omega), if_neg (by omega)]; exact h82)
        (by simp only [AHeap.set]; rw [if_neg (by omega), if_neg (by omega), if_neg (by omega), if_neg (by omega), if_neg (by omega)]; exact h9)
        (fun i b hi => by have := hlt2 i b hi; omega))
      first | refine awp_seq (awp_lit ?_) | refine awp_lit ?_ | refine awp_seq (awp_seq (awp_lit ?_))
      refine al_load rfl (by simp only [go_sem, ↓reduceIte, Nat.reduceLT, Nat.reduceEqDiff, Nat.reduceLeDiff, Nat.reduceAdd, Nat.reduceMul, Int.reduceLT, Int.reduceLE, Int.reduceToNat, BitVec.reduceOfInt, Nat.reduceBEq]) rfl (by simp only [go_sem, ↓reduceIte, Nat.reduceLT, Nat.reduceEqDiff, Nat.reduceLeDiff, Nat.reduceAdd, Nat.reduceMul, Int.reduceLT, Int.reduceLE, Int.reduceToNat, BitVec.reduceOfInt, Nat.reduceBEq]; try rfl) hc2.n (loadA_scalar agg3 rfl) ?_
      refine al_pureN 1 (by simp only [go_sem, ↓reduceIte, Nat.reduceLT, Nat.reduceEqDiff, Nat.reduceLeDiff, Nat.reduceAdd, Nat.reduceMul, Int.reduceLT, Int.reduceLE, Int.reduceToNat, BitVec.reduceOfInt, Nat.reduceBEq]; try rfl) ?_
      refine al_fun (hord) rfl (by simp only [go_sem, ↓reduceIte, Nat.reduceLT, Nat.reduceEqDiff, Nat.reduceLeDiff, Nat.reduceAdd, Nat.reduceMul, Int.reduceLT, Int.reduceLE, Int.reduceToNat, BitVec.reduceOfInt, Nat.reduceBEq]; try rfl) (by kernel_rfl) rfl (by simp only [go_sem, ↓reduceIte, Nat.reduceLT, Nat.reduceEqDiff, Nat.reduceLeDiff, Nat.reduceAdd, Nat.reduceMul, Int.reduceLT, Int.reduceLE, Int.reduceToNat, BitVec.reduceOfInt, Nat.reduceBEq]; try rfl) ?_
      rintro v N' σ' ⟨hN', hI'⟩
      refine al_end [0, 3, 4, 5, 7, 26, 27] ?_
      refine awp_pures [0, 3, 4, 5, 7, 26, 27] (by simp only [go_sem, ↓reduceIte, Nat.reduceLT, Nat.reduceEqDiff, Nat.reduceLeDiff, Nat.reduceAdd, Nat.reduceMul, Int.reduceLT, Int.reduceLE, Int.reduceToNat, BitVec.reduceOfInt, Nat.reduceBEq, i64_add (show -9223372036854775808 ≤ (j : Int) + 1 ∧ (j : Int) + 1 ≤ 9223372036854775807 by omega)]; try rfl) ?_
      refine (ih (j + 1, (perms n n (idL n)).foldl (tryR n j ap.1) y, N', σ') ⟨hlt, by rw [hgo, show 2 ^ n - j = (2 ^ n - (j + 1)) + 1 from by omega, canonGo, hap0], by simp; omega, hI'.out⟩ (by simp; omega)).cast (by first | (simp only [go_sem, ↓reduceIte, Nat.reduceLT, Nat.reduceEqDiff, Nat.reduceLeDiff, Nat.reduceAdd, Nat.reduceMul, Int.reduceLT, Int.reduceLE, Int.reduceToNat, BitVec.reduceOfInt, Nat.reduceBEq]; try rfl) | rfl)
    · have hb1 : decide ((j : Int) < (2 ^ n : Nat)) = false := decide_eq_false fun h => hlt (Int.ofNat_lt.1 h)
      refine awp_seq (awp_pures [4, 5, 28] (by simp only [go_sem, ↓reduceIte, Nat.reduceLT, Nat.reduceEqDiff, Nat.reduceLeDiff, Nat.reduceAdd, Nat.reduceMul, Int.reduceLT, Int.reduceLE, Int.reduceToNat, BitVec.reduceOfInt, Nat.reduceBEq, hb1]; try rfl) ?_)
      refine awp_seq ?_
      refine awp_if rfl (fun h => by cases h) (fun _ => ?_)
      refine awp_exit ?_
      simp only [Go.Abs.Seq, Go.Abs.Round, Go.Abs.InBlock, ↓reduceIte]
      have hj2 : j = 2 ^ n := by omega
      subst hj2
      rw [Nat.sub_self, canonGo] at hgo
      obtain ⟨sv, htr, hsv⟩ := hcx.st.tr
      obtain ⟨bb, cc, rfl⟩ := hsv.slAt.len
      have hrp := hcx.st.rep
      refine awp_seq (awp_draw [(4, ptr (N + 1)), (5, ptr (N + 2)), (6, .int .i64 0)] [.int .u64 y.1.toNat, .agg #[.slice bb (ints y.2.1).length cc, .int .u8 y.2.2.1, .bool y.2.2.2], undef, undef, .int .i64 0] (fun _ => σx) (by kernel_rfl) (by kernel_rfl) (by kernel_rfl) (AHeap.le_refl _) (fun S S' h => by rfl) ?ht4 (fun honce => (knows_env (x := 4) (v := ptr (N + 1)) (by kernel_rfl) rfl (knows_env (x := 5) (v := ptr (N + 2)) (by kernel_rfl) rfl (knows_done honce 4 (x := 6) (v := .int .i64 0) (by kernel_rfl) (by simp) rfl rfl knows_nil)))) ?hk4)
      case ht4 =>
        intro i o S ho hi hd hc honce
        have hlt : i < 5 := by simpa using (Array.getElem?_eq_some_iff.1 ho).1
        have key : i = 0 ∨ i = 1 ∨ i = 2 ∨ i = 3 ∨ i = 4 := by omega
        rcases key with rfl | rfl | rfl | rfl | rfl
        · simp only [List.getElem?_toArray, List.getElem?_cons_succ, List.getElem?_cons_zero, Option.some.injEq] at ho
          subst ho
          have f2 : S 2 = false := by cases h : S 2 with | false => rfl | true => (have h2 := hc 2 0 (of_decide_eq_true (by kernel_rfl)) h; rw [h2] at hi; cases hi)
          have f3 : S 3 = false := by cases h : S 3 with | false => rfl | true => (have h2 := hc 3 0 (of_decide_eq_true (by kernel_rfl)) h; rw [h2] at hi; cases hi)
          have f4 : S 4 = false := by cases h : S 4 with | false => rfl | true => (have h2 := hc 4 0 (of_decide_eq_true (by kernel_rfl)) h; rw [h2] at hi; cases hi)
          exact turn_load (knows_env (x := 4) (v := ptr (N + 1)) (by kernel_rfl) rfl knows_nil) rfl (by simp only [go_sem, ↓reduceIte, Nat.reduceLT, Nat.reduceEqDiff, Nat.reduceLeDiff, Nat.reduceAdd, Nat.reduceMul, Int.reduceLT, Int.reduceLE, Int.reduceToNat, BitVec.reduceOfInt, Nat.reduceBEq]; try rfl) rfl (by simp only [go_sem, ↓reduceIte, Nat.reduceLT, Nat.reduceEqDiff, Nat.reduceLeDiff, Nat.reduceAdd, Nat.reduceMul, Int.reduceLT, Int.reduceLE, Int.reduceToNat, BitVec.reduceOfInt, Nat.reduceBEq]; try rfl) hrp (loadA_scalar agg22 rfl) (by first | rfl | simp [upd])
        · simp only [List.getElem?_toArray, List.getElem?_cons_succ, List.getElem?_cons_zero, Option.some.injEq] at ho
          subst ho
          have f3 : S 3 = false := by cases h : S 3 with | false => rfl | true => (have h2 := hc 3 1 (of_decide_eq_true (by kernel_rfl)) h; rw [h2] at hi; cases hi)
          have f4 : S 4 = false := by cases h : S 4 with | false => rfl | true => (have h2 := hc 4 1 (of_decide_eq_true (by kernel_rfl)) h; rw [h2] at hi; cases hi)
          exact turn_load (knows_env (x := 5) (v := ptr (N + 2)) (by kernel_rfl) rfl knows_nil) rfl (by simp only [go_sem, ↓reduceIte, Nat.reduceLT, Nat.reduceEqDiff, Nat.reduceLeDiff, Nat.reduceAdd, Nat.reduceMul, Int.reduceLT, Int.reduceLE, Int.reduceToNat, BitVec.reduceOfInt, Nat.reduceBEq]; try rfl) rfl (by simp only [go_sem, ↓reduceIte, Nat.reduceLT, Nat.reduceEqDiff, Nat.reduceLeDiff, Nat.reduceAdd, Nat.reduceMul, Int.reduceLT, Int.reduceLE, Int.reduceToNat, BitVec.reduceOfInt, Nat.reduceBEq]; try rfl) htr (loadA_agg agg25 rfl) (by first | rfl | simp [upd])
        · simp only [List.getElem?_toArray, List.getElem?_cons_succ, List.getElem?_cons_zero, Option.some.injEq] at ho
          subst ho
          have f0 : S 0 = true := hd 0 (of_decide_eq_true (by kernel_rfl))
          have f3 : S 3 = false := by cases h : S 3 with | false => rfl | true => (have h2 := hc 3 2 (of_decide_eq_true (by kernel_rfl)) h; rw [h2] at hi; cases hi)
          have f4 : S 4 = false := by cases h : S 4 with | false => rfl | true => (have h2 := hc 4 2 (of_decide_eq_true (by kernel_rfl)) h; rw [h2] at hi; cases hi)
          exact turn_store (v := (.int .u64 y.1.toNat)) (knows_done honce 0 (x := 45) (v := .int .u64 y.1.toNat) (by kernel_rfl) (by simp) f0 rfl (knows_env (x := 4) (v := ptr (N + 1)) (by kernel_rfl) rfl knows_nil)) rfl (by simp only [go_sem, ↓reduceIte, Nat.reduceLT, Nat.reduceEqDiff, Nat.reduceLeDiff, Nat.reduceAdd, Nat.reduceMul, Int.reduceLT, Int.reduceLE, Int.reduceToNat, BitVec.reduceOfInt, Nat.reduceBEq]; try rfl) rfl (by simp only [go_sem, ↓reduceIte, Nat.reduceLT, Nat.reduceEqDiff, Nat.reduceLeDiff, Nat.reduceAdd, Nat.reduceMul, Int.reduceLT, Int.reduceLE, Int.reduceToNat, BitVec.reduceOfInt, Nat.reduceBEq]; try rfl) (by simp only [go_sem, ↓reduceIte, Nat.reduceLT, Nat.reduceEqDiff, Nat.reduceLeDiff, Nat.reduceAdd, Nat.reduceMul, Int.reduceLT, Int.reduceLE, Int.reduceToNat, BitVec.reduceOfInt, Nat.reduceBEq]; try rfl) hrp rfl size22' rfl (by exact Nat.le_refl 1) rfl (by exact le_same hrp)
        · simp only [List.getElem?_toArray, List.getElem?_cons_succ, List.getElem?_cons_zero, Option.some.injEq] at ho
          subst ho
          have f0 : S 0 = true := hd 0 (of_decide_eq_true (by kernel_rfl))
          have f1 : S 1 = true := hd 1 (of_decide_eq_true (by kernel_rfl))
          have f2 : S 2 = true := hd 2 (of_decide_eq_true (by kernel_rfl))
          have f4 : S 4 = false := by cases h : S 4 with | false => rfl | true => (have h2 := hc 4 3 (of_decide_eq_true (by kernel_rfl)) h; rw [h2] at hi; cases hi)
          exact turn_store (v := (.agg #[.slice bb (ints y.2.1).length cc, .int .u8 y.2.2.1, .bool y.2.2.2])) (knows_done honce 1 (x := 46) (v := .agg #[.slice bb (ints y.2.1).length cc, .int .u8 y.2.2.1, .bool y.2.2.2]) (by kernel_rfl) (by simp) f1 rfl (knows_env (x := 5) (v := ptr (N + 2)) (by kernel_rfl) rfl knows_nil)) rfl (by simp only [go_sem, ↓reduceIte, Nat.reduceLT, Nat.reduceEqDiff, Nat.reduceLeDiff, Nat.reduceAdd, Nat.reduceMul, Int.reduceLT, Int.reduceLE, Int.reduceToNat, BitVec.reduceOfInt, Nat.reduceBEq]; try rfl) rfl (by simp only [go_sem, ↓reduceIte, Nat.reduceLT, Nat.reduceEqDiff, Nat.reduceLeDiff, Nat.reduceAdd, Nat.reduceMul, Int.reduceLT, Int.reduceLE, Int.reduceToNat, BitVec.reduceOfInt, Nat.reduceBEq]; try rfl) (by simp only [go_sem, ↓reduceIte, Nat.reduceLT, Nat.reduceEqDiff, Nat.reduceLeDiff, Nat.reduceAdd, Nat.reduceMul, Int.reduceLT, Int.reduceLE, Int.reduceToNat, BitVec.reduceOfInt, Nat.reduceBEq]; try rfl) htr rfl size25 rfl (by exact Nat.le_refl 3) rfl (by exact le_same htr)
        · simp only [List.getElem?_toArray, List.getElem?_cons_succ, List.getElem?_cons_zero, Option.some.injEq] at ho
          subst ho
          have f0 : S 0 = true := hd 0 (of_decide_eq_true (by kernel_rfl))
          have f1 : S 1 = true := hd 1 (of_decide_eq_true (by kernel_rfl))
          have f2 : S 2 = true := hd 2 (of_decide_eq_true (by kernel_rfl))
          have f3 : S 3 = true := hd 3 (of_decide_eq_true (by kernel_rfl))
          exact turn_pure knows_nil rfl (by simp only [go_sem, ↓reduceIte, Nat.reduceLT, Nat.reduceEqDiff, Nat.reduceLeDiff, Nat.reduceAdd, Nat.reduceMul, Int.reduceLT, Int.reduceLE, Int.reduceToNat, BitVec.reduceOfInt, Nat.reduceBEq]; try rfl) (by simp only [go_sem, ↓reduceIte, Nat.reduceLT, Nat.reduceEqDiff, Nat.reduceLeDiff, Nat.reduceAdd, Nat.reduceMul, Int.reduceLT, Int.reduceLE, Int.reduceToNat, BitVec.reduceOfInt, Nat.reduceBEq]; try rfl) (by first | rfl | simp [upd])
      refine awp_ret ⟨_, canon_res rfl rfl rfl hrp htr, .slice bb (ints y.2.1).length cc, ?_, ?_, ?_, hcx.base⟩
      · rw [hR, hgo]; rfl
      · rw [hR, hgo]; exact hsv.slAt
      · simp; omega
end Go.Proofs.Ytbpjoamdcbbnnaa
