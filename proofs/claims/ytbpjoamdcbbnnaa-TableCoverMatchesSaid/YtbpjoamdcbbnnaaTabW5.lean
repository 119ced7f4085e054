/- The walk of package table's orders: every permutation is visited. -/
import Derived.Test.YtbpjoamdcbbnnaaTabW4
set_option linter.unusedSimpArgs false
set_option linter.unusedVariables false
namespace Go.Proofs.Ytbpjoamdcbbnnaa
open Go.Abs Go.Tab
attribute [local go_sem] Try.underlying22 Try.underlying3 Try.underlying77 Try.underlying52 Try.underlying23 Try.underlying25 Try.underlying5 Try.underlying4 Try.underlying36 Try.underlying39 size22 size3 size23 size5 size4 size39 Nat.mul_one

theorem agg76 : aggA Try.prog 76 = some none := by kernel_rfl
theorem agg92 : aggA Try.prog 92 = some none := by kernel_rfl
theorem size76 : sizeA Try.prog 76 = some 1 := by kernel_rfl
theorem size92 : sizeA Try.prog 92 = some 1 := by kernel_rfl
theorem ty23 : TyI Try.prog 23 (.slice none 0 0) 1 24 := .of (by kernel_rfl)
theorem ty92 : TyI Try.prog 92 .nilFunc 1 8 := .of (by kernel_rfl)

abbrev ptr (i : Nat) : Value := .pointer (some ⟨i, 0, none⟩)
/-- The cells of orders and the row that it permutes. -/
structure Cells (σ : AHeap) (n ia ib ic id ie : Nat) (vf : Value) (l : List Int) : Prop where
  a : σ ia = some ⟨[.int .i64 n], true, 1⟩
  b : σ ib = some ⟨[vf], true, 1⟩
  c : σ ic = some ⟨[.slice (some ⟨ie, 0, none⟩) n n], true, 1⟩
  d : σ id = some ⟨[.func (.func 66) #[] #[ptr ia, ptr ib, ptr ic, ptr id]], true, 1⟩
  e : σ ie = some ⟨ints l, true, 1⟩
theorem Cells.row {σ : AHeap} {n ia ib ic id ie : Nat} {vf : Value} {l l' : List Int} (h : Cells σ n ia ib ic id ie vf l) (ha : ia ≠ ie) (hb : ib ≠ ie) (hc : ic ≠ ie) (hd : id ≠ ie) :
    Cells (σ.set ie ⟨ints l', true, 1⟩) n ia ib ic id ie vf l' :=
  ⟨by rw [AHeap.set_ne _ _ ha]; exact h.a, by rw [AHeap.set_ne _ _ hb]; exact h.b, by rw [AHeap.set_ne _ _ hc]; exact h.c, by rw [AHeap.set_ne _ _ hd]; exact h.d, AHeap.set_self _ _ _⟩
theorem set_set (σ : AHeap) (k : Nat) (b b' : Blk) : (σ.set k b).set k b' = σ.set k b' := by
  funext i; unfold AHeap.set; split <;> rfl

/-- What is called with every order. -/
structure Visit {α : Type} (n ia ib ic id ie : Nat) (g : FuncId) (xs cs : Array Value) (Inv : α → AHeap → Prop) (step : α → List Int → α) : Prop where
  call : callableB Try.prog g = true
  stab : ∀ x σ blk, Inv x σ → Inv x (σ.set ie blk)
  visit : ∀ x l N σ, Inv x σ → Cells σ n ia ib ic id ie (.func (.func g) xs cs) l → Idx n l → AOk Try.prog g (xs.toList ++ [.slice (some ⟨ie, 0, none⟩) n n] ++ cs.toList) N σ
    (fun _ N' σ' => N ≤ N' ∧ Inv (step x l) σ' ∧ Cells σ' n ia ib ic id ie (.func (.func g) xs cs) l)

theorem al_clo {P : Program} {n : Nat} {env : Env} {N : Nat} {σ : AHeap} {ops : Array Oper} {l : List Oper} {o : Oper} {K : Env → Nat → AHeap → Prop} {f : Operand} {args : Array Operand} {argTypes : Array TypeId} {g : FuncId} {xs cs : Array Value} {vs : List Value} {Q : Value → Nat → AHeap → Prop} (h : AOk P g (xs.toList ++ vs ++ cs.toList) N σ Q)
    (ho : o.op = .call { callee := .value f, args, argTypes }) (hf : env.eval f = some (.func (.func g) xs cs)) (ha : args.toList.mapM env.eval = some vs) (hc : callableB P g = true) (hd : dstOk n o.dst = true) (hw : wantedA ops env o = some true)
    (k : ∀ v N' σ', Q v N' σ' → AList P n ops l (env.put o.dst v) N' σ' K) : AList P n ops (o :: l) env N σ K :=
  al_call hd hw ho hf ha hc (h.mono k)

theorem ints_get {l : List Int} {i : Nat} (h : i < l.length) : (ints l)[i]? = some (.int .i64 (l.getD i 0)) := by
  simp [ints, h, List.getD_eq_getElem?_getD]
theorem ints_splice {l : List Int} {i : Nat} (v : Int) (h : i < l.length) : splice (ints l) i [.int .i64 v] = ints (l.set i v) := by
  rw [splice_one (by simpa [ints] using h)]; simp [ints, List.map_set]

theorem swap_ok {α : Type} {n ia ib ic id ie : Nat} {g : FuncId} {xs cs : Array Value} {Inv : α → AHeap → Prop} {step : α → List Int → α} (hn : n ≤ 1000) (hv : Visit n ia ib ic id ie g xs cs Inv step)
    (ha : ia ≠ ie) (hb : ib ≠ ie) (hc : ic ≠ ie) (hd : id ≠ ie) : ∀ (d k : Nat), k + d = n → ∀ (l : List Int) (x : α) (N : Nat) (σ : AHeap), Inv x σ → Cells σ n ia ib ic id ie (.func (.func g) xs cs) l → Idx n l →
    AOk Try.prog 66 [.int .i64 k, ptr ia, ptr ib, ptr ic, ptr id] N σ (fun _ N' σ' => N ≤ N' ∧ Inv ((perms n d l).foldl step x) σ' ∧ Cells σ' n ia ib ic id ie (.func (.func g) xs cs) l)
  | 0, k, hk, l, x, N, σ, hI, hC, hx => by
    refine aok_body (n := 51) Try.func66 rfl rfl (by simp) ?_
    have hkn : k = n := by omega
    subst hkn
    refine awp_seq ?_
    first | refine awp_seq (awp_lit ?_) | refine awp_lit ?_ | refine awp_seq (awp_seq (awp_lit ?_))
    refine al_pureN 1 (by simp only [go_sem, ↓reduceIte, Nat.reduceLT, Nat.reduceEqDiff, Nat.reduceLeDiff, Nat.reduceAdd, Nat.reduceMul, Int.reduceLT, Int.reduceLE, Int.reduceToNat, BitVec.reduceOfInt, Nat.reduceBEq]; try rfl) ?_
    refine al_load rfl (by simp only [go_sem, ↓reduceIte, Nat.reduceLT, Nat.reduceEqDiff, Nat.reduceLeDiff, Nat.reduceAdd, Nat.reduceMul, Int.reduceLT, Int.reduceLE, Int.reduceToNat, BitVec.reduceOfInt, Nat.reduceBEq]) rfl (by simp only [go_sem, ↓reduceIte, Nat.reduceLT, Nat.reduceEqDiff, Nat.reduceLeDiff, Nat.reduceAdd, Nat.reduceMul, Int.reduceLT, Int.reduceLE, Int.reduceToNat, BitVec.reduceOfInt, Nat.reduceBEq]; try rfl) hC.a (loadA_scalar agg3 rfl) ?_
    refine al_pureN 1 (by simp only [go_sem, ↓reduceIte, Nat.reduceLT, Nat.reduceEqDiff, Nat.reduceLeDiff, Nat.reduceAdd, Nat.reduceMul, Int.reduceLT, Int.reduceLE, Int.reduceToNat, BitVec.reduceOfInt, Nat.reduceBEq]; try rfl) ?_
    refine al_end [0, 1, 2, 3, 4, 9] ?_
    refine awp_if rfl (fun _ => ?_) (fun h => by cases h)
    first | refine awp_seq (awp_lit ?_) | refine awp_lit ?_ | refine awp_seq (awp_seq (awp_lit ?_))
    refine al_load rfl (by simp only [go_sem, ↓reduceIte, Nat.reduceLT, Nat.reduceEqDiff, Nat.reduceLeDiff, Nat.reduceAdd, Nat.reduceMul, Int.reduceLT, Int.reduceLE, Int.reduceToNat, BitVec.reduceOfInt, Nat.reduceBEq]) rfl (by simp only [go_sem, ↓reduceIte, Nat.reduceLT, Nat.reduceEqDiff, Nat.reduceLeDiff, Nat.reduceAdd, Nat.reduceMul, Int.reduceLT, Int.reduceLE, Int.reduceToNat, BitVec.reduceOfInt, Nat.reduceBEq]; try rfl) hC.b (loadA_scalar agg76 rfl) ?_
    refine al_load rfl (by simp only [go_sem, ↓reduceIte, Nat.reduceLT, Nat.reduceEqDiff, Nat.reduceLeDiff, Nat.reduceAdd, Nat.reduceMul, Int.reduceLT, Int.reduceLE, Int.reduceToNat, BitVec.reduceOfInt, Nat.reduceBEq]) rfl (by simp only [go_sem, ↓reduceIte, Nat.reduceLT, Nat.reduceEqDiff, Nat.reduceLeDiff, Nat.reduceAdd, Nat.reduceMul, Int.reduceLT, Int.reduceLE, Int.reduceToNat, BitVec.reduceOfInt, Nat.reduceBEq]; try rfl) hC.c (loadA_scalar agg23 rfl) ?_
    refine al_clo (hv.visit x l N σ hI hC hx) rfl (by simp only [go_sem, ↓reduceIte, Nat.reduceLT, Nat.reduceEqDiff, Nat.reduceLeDiff, Nat.reduceAdd, Nat.reduceMul, Int.reduceLT, Int.reduceLE, Int.reduceToNat, BitVec.reduceOfInt, Nat.reduceBEq]; try rfl) (by simp only [go_sem, ↓reduceIte, Nat.reduceLT, Nat.reduceEqDiff, Nat.reduceLeDiff, Nat.reduceAdd, Nat.reduceMul, Int.reduceLT, Int.reduceLE, Int.reduceToNat, BitVec.reduceOfInt, Nat.reduceBEq]; try rfl) hv.call rfl (by simp only [go_sem, ↓reduceIte, Nat.reduceLT, Nat.reduceEqDiff, Nat.reduceLeDiff, Nat.reduceAdd, Nat.reduceMul, Int.reduceLT, Int.reduceLE, Int.reduceToNat, BitVec.reduceOfInt, Nat.reduceBEq]; try rfl) ?_
    rintro v N' σ' ⟨hN', hI', hC'⟩
    refine al_end [] ?_
    exact awp_ret ⟨_, rfl, hN', hI', hC'⟩
  | d + 1, k, hk, l, x, N, σ, hI, hC, hx => by
    refine aok_body (n := 51) Try.func66 rfl rfl (by simp) ?_
    have hkn : ((k : Int) == (n : Int)) = false := by simp; omega
    refine awp_seq ?_
    first | refine awp_seq (awp_lit ?_) | refine awp_lit ?_ | refine awp_seq (awp_seq (awp_lit ?_))
    refine al_pureN 1 (by simp only [go_sem, ↓reduceIte, Nat.reduceLT, Nat.reduceEqDiff, Nat.reduceLeDiff, Nat.reduceAdd, Nat.reduceMul, Int.reduceLT, Int.reduceLE, Int.reduceToNat, BitVec.reduceOfInt, Nat.reduceBEq]; try rfl) ?_
    refine al_load rfl (by simp only [go_sem, ↓reduceIte, Nat.reduceLT, Nat.reduceEqDiff, Nat.reduceLeDiff, Nat.reduceAdd, Nat.reduceMul, Int.reduceLT, Int.reduceLE, Int.reduceToNat, BitVec.reduceOfInt, Nat.reduceBEq]) rfl (by simp only [go_sem, ↓reduceIte, Nat.reduceLT, Nat.reduceEqDiff, Nat.reduceLeDiff, Nat.reduceAdd, Nat.reduceMul, Int.reduceLT, Int.reduceLE, Int.reduceToNat, BitVec.reduceOfInt, Nat.reduceBEq]; try rfl) hC.a (loadA_scalar agg3 rfl) ?_
    refine al_pureN 1 (by simp only [go_sem, ↓reduceIte, Nat.reduceLT, Nat.reduceEqDiff, Nat.reduceLeDiff, Nat.reduceAdd, Nat.reduceMul, Int.reduceLT, Int.reduceLE, Int.reduceToNat, BitVec.reduceOfInt, Nat.reduceBEq, hkn]; try rfl) ?_
    refine al_end [0, 1, 2, 3, 4, 9] ?_
    refine awp_if rfl (fun h => by cases h) (fun _ => ?_)
    refine awp_skip ?_
    refine awp_seq (awp_pures [0, 1, 2, 3, 4, 6] (by simp only [go_sem, ↓reduceIte, Nat.reduceLT, Nat.reduceEqDiff, Nat.reduceLeDiff, Nat.reduceAdd, Nat.reduceMul, Int.reduceLT, Int.reduceLE, Int.reduceToNat, BitVec.reduceOfInt, Nat.reduceBEq]; try rfl) ?_)
    refine awp_block (awp_loop ?_)
    refine ALoop.cast3 (aloop_ind (α := Nat × α × Nat × AHeap)
      (fun y => k ≤ y.1 ∧ y.1 ≤ n ∧ (perms n (d + 1) l).foldl step x = ((List.range' y.1 (n - y.1)).flatMap fun i => perms n d (swapI l k i)).foldl step y.2.1 ∧ N ≤ y.2.2.1 ∧ Inv y.2.1 y.2.2.2 ∧ Cells y.2.2.2 n ia ib ic id ie (.func (.func g) xs cs) l) (fun y => n - y.1)
      (fun y => [(0, .int .i64 k), (1, ptr ia), (2, ptr ib), (3, ptr ic), (4, ptr id), (6, .int .i64 y.1)]) (fun y => y.2.2.1) (fun y => y.2.2.2) ?_
      (k, x, N, σ) ⟨Nat.le_refl _, by simp; omega, by simp only [perms]; rw [show n - (d + 1) = k from by omega, show n - k = d + 1 from by omega], Nat.le_refl _, hI, hC⟩) rfl rfl rfl
    rintro ⟨i, x', Nx, σx⟩ ⟨hki, hin, hgo, hNx, hIx, hCx⟩ ih
    simp only at hki hin hgo hNx hIx hCx
    by_cases hlt : i < n
    · have hb1 : decide ((i : Int) < (n : Int)) = true := by simpa using hlt
      refine awp_seq ?_
      first | refine awp_seq (awp_lit ?_) | refine awp_lit ?_ | refine awp_seq (awp_seq (awp_lit ?_))
      refine al_pureN 1 (by simp only [go_sem, ↓reduceIte, Nat.reduceLT, Nat.reduceEqDiff, Nat.reduceLeDiff, Nat.reduceAdd, Nat.reduceMul, Int.reduceLT, Int.reduceLE, Int.reduceToNat, BitVec.reduceOfInt, Nat.reduceBEq]; try rfl) ?_
      refine al_load rfl (by simp only [go_sem, ↓reduceIte, Nat.reduceLT, Nat.reduceEqDiff, Nat.reduceLeDiff, Nat.reduceAdd, Nat.reduceMul, Int.reduceLT, Int.reduceLE, Int.reduceToNat, BitVec.reduceOfInt, Nat.reduceBEq]) rfl (by simp only [go_sem, ↓reduceIte, Nat.reduceLT, Nat.reduceEqDiff, Nat.reduceLeDiff, Nat.reduceAdd, Nat.reduceMul, Int.reduceLT, Int.reduceLE, Int.reduceToNat, BitVec.reduceOfInt, Nat.reduceBEq]; try rfl) hCx.a (loadA_scalar agg3 rfl) ?_
      refine al_pureN 1 (by simp only [go_sem, ↓reduceIte, Nat.reduceLT, Nat.reduceEqDiff, Nat.reduceLeDiff, Nat.reduceAdd, Nat.reduceMul, Int.reduceLT, Int.reduceLE, Int.reduceToNat, BitVec.reduceOfInt, Nat.reduceBEq, hb1]; try rfl) ?_
      refine al_end [0, 1, 2, 3, 4, 6, 16] ?_
      refine awp_if rfl (fun _ => ?_) (fun h => by cases h)
      refine awp_skip ?_
      refine awp_seq (awp_block ?_)
      have hll := hx.1
      have hkk : 0 ≤ (k : Int) ∧ (k : Int) < (n : Int) := by omega
      have hii : 0 ≤ (i : Int) ∧ (i : Int) < (n : Int) := by omega
      have hdr5 : ∀ S : Nat → Bool, (if S 15 = true then σx.set ie ⟨ints (swapI l k i), true, 1⟩ else if S 13 = true then σx.set ie ⟨ints (l.set k (l.getD i 0)), true, 1⟩ else σx) ic = some ⟨[.slice (some ⟨ie, 0, none⟩) n n], true, 1⟩ := fun S => by
        split
        · rw [AHeap.set_ne _ _ hc]; exact hCx.c
        · split
          · rw [AHeap.set_ne _ _ hc]; exact hCx.c
          · exact hCx.c
      have row5 : ∀ S : Nat → Bool, S 13 = false → S 15 = false → (if S 15 = true then σx.set ie ⟨ints (swapI l k i), true, 1⟩ else if S 13 = true then σx.set ie ⟨ints (l.set k (l.getD i 0)), true, 1⟩ else σx) ie = some ⟨ints l, true, 1⟩ := fun S h1 h2 => by
        rw [if_neg (by rw [h2]; simp), if_neg (by rw [h1]; simp)]; exact hCx.e
      have row15 : ∀ S : Nat → Bool, S 13 = true → S 15 = false → (if S 15 = true then σx.set ie ⟨ints (swapI l k i), true, 1⟩ else if S 13 = true then σx.set ie ⟨ints (l.set k (l.getD i 0)), true, 1⟩ else σx) ie = some ⟨ints (l.set k (l.getD i 0)), true, 1⟩ := fun S h1 h2 => by
        rw [if_neg (by rw [h2]; simp), if_pos h1]; exact AHeap.set_self _ _ _
      refine awp_seq (awp_draw [(0, .int .i64 k), (1, ptr ia), (2, ptr ib), (3, ptr ic), (4, ptr id), (6, .int .i64 i)] [.slice (some ⟨ie, 0, none⟩) n n, .int .i64 k, .slice (some ⟨ie, 0, none⟩) n n, .int .i64 i, .slice (some ⟨ie, 0, none⟩) n n, .int .i64 i, .pointer (some ⟨ie, i, none⟩), .int .i64 (l.getD i 0), .slice (some ⟨ie, 0, none⟩) n n, .int .i64 k, .pointer (some ⟨ie, k, none⟩), .int .i64 (l.getD k 0), .pointer (some ⟨ie, k, none⟩), undef, .pointer (some ⟨ie, i, none⟩), undef] (fun S => if S 15 = true then σx.set ie ⟨ints (swapI l k i), true, 1⟩ else if S 13 = true then σx.set ie ⟨ints (l.set k (l.getD i 0)), true, 1⟩ else σx) (by kernel_rfl) (by kernel_rfl) (by kernel_rfl) (AHeap.le_refl _) (fun S S' h => by simp only [h 13 (by simp), h 15 (by simp)]) ?ht1 (fun honce => (knows_env (x := 0) (v := .int .i64 k) (by kernel_rfl) rfl (knows_env (x := 1) (v := ptr ia) (by kernel_rfl) rfl (knows_env (x := 2) (v := ptr ib) (by kernel_rfl) rfl (knows_env (x := 3) (v := ptr ic) (by kernel_rfl) rfl (knows_env (x := 4) (v := ptr id) (by kernel_rfl) rfl (knows_env (x := 6) (v := .int .i64 i) (by kernel_rfl) rfl knows_nil))))))) ?hk1)
      case ht1 =>
        intro i o S ho hi hd hc honce
        have hlt : i < 16 := by simpa using (Array.getElem?_eq_some_iff.1 ho).1
        have key : i = 0 ∨ i = 1 ∨ i = 2 ∨ i = 3 ∨ i = 4 ∨ i = 5 ∨ i = 6 ∨ i = 7 ∨ i = 8 ∨ i = 9 ∨ i = 10 ∨ i = 11 ∨ i = 12 ∨ i = 13 ∨ i = 14 ∨ i = 15 := by omega
        rcases key with rfl | rfl | rfl | rfl | rfl | rfl | rfl | rfl | rfl | rfl | rfl | rfl | rfl | rfl | rfl | rfl
        · simp only [List.getElem?_toArray, List.getElem?_cons_succ, List.getElem?_cons_zero, Option.some.injEq] at ho
          subst ho
          have f12 : S 12 = false := by cases h : S 12 with | false => rfl | true => (have h2 := hc 12 0 (of_decide_eq_true (by kernel_rfl)) h; rw [h2] at hi; cases hi)
          have f13 : S 13 = false := by cases h : S 13 with | false => rfl | true => (have h2 := hc 13 0 (of_decide_eq_true (by kernel_rfl)) h; rw [h2] at hi; cases hi)
          have f14 : S 14 = false := by cases h : S 14 with | false => rfl | true => (have h2 := hc 14 0 (of_decide_eq_true (by kernel_rfl)) h; rw [h2] at hi; cases hi)
          have f15 : S 15 = false := by cases h : S 15 with | false => rfl | true => (have h2 := hc 15 0 (of_decide_eq_true (by kernel_rfl)) h; rw [h2] at hi; cases hi)
          exact turn_load (knows_env (x := 3) (v := ptr ic) (by kernel_rfl) rfl knows_nil) rfl (by simp only [go_sem, ↓reduceIte, Nat.reduceLT, Nat.reduceEqDiff, Nat.reduceLeDiff, Nat.reduceAdd, Nat.reduceMul, Int.reduceLT, Int.reduceLE, Int.reduceToNat, BitVec.reduceOfInt, Nat.reduceBEq, hkk, hii]; try rfl) rfl (by simp only [go_sem, ↓reduceIte, Nat.reduceLT, Nat.reduceEqDiff, Nat.reduceLeDiff, Nat.reduceAdd, Nat.reduceMul, Int.reduceLT, Int.reduceLE, Int.reduceToNat, BitVec.reduceOfInt, Nat.reduceBEq, hkk, hii]; try rfl) (hdr5 S) (loadA_scalar agg23 rfl) (by first | rfl | simp [upd])
        · simp only [List.getElem?_toArray, List.getElem?_cons_succ, List.getElem?_cons_zero, Option.some.injEq] at ho
          subst ho
          have f12 : S 12 = false := by cases h : S 12 with | false => rfl | true => (have h2 := hc 12 1 (of_decide_eq_true (by kernel_rfl)) h; rw [h2] at hi; cases hi)
          have f13 : S 13 = false := by cases h : S 13 with | false => rfl | true => (have h2 := hc 13 1 (of_decide_eq_true (by kernel_rfl)) h; rw [h2] at hi; cases hi)
          have f14 : S 14 = false := by cases h : S 14 with | false => rfl | true => (have h2 := hc 14 1 (of_decide_eq_true (by kernel_rfl)) h; rw [h2] at hi; cases hi)
          have f15 : S 15 = false := by cases h : S 15 with | false => rfl | true => (have h2 := hc 15 1 (of_decide_eq_true (by kernel_rfl)) h; rw [h2] at hi; cases hi)
          exact turn_pure (knows_env (x := 0) (v := .int .i64 k) (by kernel_rfl) rfl knows_nil) rfl (by simp only [go_sem, ↓reduceIte, Nat.reduceLT, Nat.reduceEqDiff, Nat.reduceLeDiff, Nat.reduceAdd, Nat.reduceMul, Int.reduceLT, Int.reduceLE, Int.reduceToNat, BitVec.reduceOfInt, Nat.reduceBEq, hkk, hii]; try rfl) (by simp only [go_sem, ↓reduceIte, Nat.reduceLT, Nat.reduceEqDiff, Nat.reduceLeDiff, Nat.reduceAdd, Nat.reduceMul, Int.reduceLT, Int.reduceLE, Int.reduceToNat, BitVec.reduceOfInt, Nat.reduceBEq, hkk, hii]; try rfl) (by first | rfl | simp [upd])
        · simp only [List.getElem?_toArray, List.getElem?_cons_succ, List.getElem?_cons_zero, Option.some.injEq] at ho
          subst ho
          have f14 : S 14 = false := by cases h : S 14 with | false => rfl | true => (have h2 := hc 14 2 (of_decide_eq_true (by kernel_rfl)) h; rw [h2] at hi; cases hi)
          have f15 : S 15 = false := by cases h : S 15 with | false => rfl | true => (have h2 := hc 15 2 (of_decide_eq_true (by kernel_rfl)) h; rw [h2] at hi; cases hi)
          exact turn_load (knows_env (x := 3) (v := ptr ic) (by kernel_rfl) rfl knows_nil) rfl (by simp only [go_sem, ↓reduceIte, Nat.reduceLT, Nat.reduceEqDiff, Nat.reduceLeDiff, Nat.reduceAdd, Nat.reduceMul, Int.reduceLT, Int.reduceLE, Int.reduceToNat, BitVec.reduceOfInt, Nat.reduceBEq, hkk, hii]; try rfl) rfl (by simp only [go_sem, ↓reduceIte, Nat.reduceLT, Nat.reduceEqDiff, Nat.reduceLeDiff, Nat.reduceAdd, Nat.reduceMul, Int.reduceLT, Int.reduceLE, Int.reduceToNat, BitVec.reduceOfInt, Nat.reduceBEq, hkk, hii]; try rfl) (hdr5 S) (loadA_scalar agg23 rfl) (by first | rfl | simp [upd])
        · simp only [List.getElem?_toArray, List.getElem?_cons_succ, List.getElem?_cons_zero, Option.some.injEq] at ho
          subst ho
          have f14 : S 14 = false := by cases h : S 14 with | false => rfl | true => (have h2 := hc 14 3 (of_decide_eq_true (by kernel_rfl)) h; rw [h2] at hi; cases hi)
          have f15 : S 15 = false := by cases h : S 15 with | false => rfl | true => (have h2 := hc 15 3 (of_decide_eq_true (by kernel_rfl)) h; rw [h2] at hi; cases hi)
          exact turn_pure (knows_env (x := 6) (v := .int .i64 i) (by kernel_rfl) rfl knows_nil) rfl (by simp only [go_sem, ↓reduceIte, Nat.reduceLT, Nat.reduceEqDiff, Nat.reduceLeDiff, Nat.reduceAdd, Nat.reduceMul, Int.reduceLT, Int.reduceLE, Int.reduceToNat, BitVec.reduceOfInt, Nat.reduceBEq, hkk, hii]; try rfl) (by simp only [go_sem, ↓reduceIte, Nat.reduceLT, Nat.reduceEqDiff, Nat.reduceLeDiff, Nat.reduceAdd, Nat.reduceMul, Int.reduceLT, Int.reduceLE, Int.reduceToNat, BitVec.reduceOfInt, Nat.reduceBEq, hkk, hii]; try rfl) (by first | rfl | simp [upd])
        · simp only [List.getElem?_toArray, List.getElem?_cons_succ, List.getElem?_cons_zero, Option.some.injEq] at ho
          subst ho
          have f6 : S 6 = false := by cases h : S 6 with | false => rfl | true => (have h2 := hc 6 4 (of_decide_eq_true (by kernel_rfl)) h; rw [h2] at hi; cases hi)
          have f12 : S 12 = false := by cases h : S 12 with | false => rfl | true => (have h2 := hc 12 4 (of_decide_eq_true (by kernel_rfl)) h; rw [h2] at hi; cases hi)
          have f13 : S 13 = false := by cases h : S 13 with | false => rfl | true => (have h2 := hc 13 4 (of_decide_eq_true (by kernel_rfl)) h; rw [h2] at hi; cases hi)
          have f14 : S 14 = false := by cases h : S 14 with | false => rfl | true => (have h2 := hc 14 4 (of_decide_eq_true (by kernel_rfl)) h; rw [h2] at hi; cases hi)
          have f15 : S 15 = false := by cases h : S 15 with | false => rfl | true => (have h2 := hc 15 4 (of_decide_eq_true (by kernel_rfl)) h; rw [h2] at hi; cases hi)
          exact turn_load (knows_env (x := 3) (v := ptr ic) (by kernel_rfl) rfl knows_nil) rfl (by simp only [go_sem, ↓reduceIte, Nat.reduceLT, Nat.reduceEqDiff, Nat.reduceLeDiff, Nat.reduceAdd, Nat.reduceMul, Int.reduceLT, Int.reduceLE, Int.reduceToNat, BitVec.reduceOfInt, Nat.reduceBEq, hkk, hii]; try rfl) rfl (by simp only [go_sem, ↓reduceIte, Nat.reduceLT, Nat.reduceEqDiff, Nat.reduceLeDiff, Nat.reduceAdd, Nat.reduceMul, Int.reduceLT, Int.reduceLE, Int.reduceToNat, BitVec.reduceOfInt, Nat.reduceBEq, hkk, hii]; try rfl) (hdr5 S) (loadA_scalar agg23 rfl) (by first | rfl | simp [upd])
        · simp only [List.getElem?_toArray, List.getElem?_cons_succ, List.getElem?_cons_zero, Option.some.injEq] at ho
          subst ho
          have f6 : S 6 = false := by cases h : S 6 with | false => rfl | true => (have h2 := hc 6 5 (of_decide_eq_true (by kernel_rfl)) h; rw [h2] at hi; cases hi)
          have f12 : S 12 = false := by cases h : S 12 with | false => rfl | true => (have h2 := hc 12 5 (of_decide_eq_true (by kernel_rfl)) h; rw [h2] at hi; cases hi)
          have f13 : S 13 = false := by cases h : S 13 with | false => rfl | true => (have h2 := hc 13 5 (of_decide_eq_true (by kernel_rfl)) h; rw [h2] at hi; cases hi)
          have f14 : S 14 = false := by cases h : S 14 with | false => rfl | true => (have h2 := hc 14 5 (of_decide_eq_true (by kernel_rfl)) h; rw [h2] at hi; cases hi)
          have f15 : S 15 = false := by cases h : S 15 with | false => rfl | true => (have h2 := hc 15 5 (of_decide_eq_true (by kernel_rfl)) h; rw [h2] at hi; cases hi)
          exact turn_pure (knows_env (x := 6) (v := .int .i64 i) (by kernel_rfl) rfl knows_nil) rfl (by simp only [go_sem, ↓reduceIte, Nat.reduceLT, Nat.reduceEqDiff, Nat.reduceLeDiff, Nat.reduceAdd, Nat.reduceMul, Int.reduceLT, Int.reduceLE, Int.reduceToNat, BitVec.reduceOfInt, Nat.reduceBEq, hkk, hii]; try rfl) (by simp only [go_sem, ↓reduceIte, Nat.reduceLT, Nat.reduceEqDiff, Nat.reduceLeDiff, Nat.reduceAdd, Nat.reduceMul, Int.reduceLT, Int.reduceLE, Int.reduceToNat, BitVec.reduceOfInt, Nat.reduceBEq, hkk, hii]; try rfl) (by first | rfl | simp [upd])
        · simp only [List.getElem?_toArray, List.getElem?_cons_succ, List.getElem?_cons_zero, Option.some.injEq] at ho
          subst ho
          have f4 : S 4 = true := hd 4 (of_decide_eq_true (by kernel_rfl))
          have f5 : S 5 = true := hd 5 (of_decide_eq_true (by kernel_rfl))
          have f7 : S 7 = false := by cases h : S 7 with | false => rfl | true => (have h2 := hc 7 6 (of_decide_eq_true (by kernel_rfl)) h; rw [h2] at hi; cases hi)
          have f12 : S 12 = false := by cases h : S 12 with | false => rfl | true => (have h2 := hc 12 6 (of_decide_eq_true (by kernel_rfl)) h; rw [h2] at hi; cases hi)
          have f13 : S 13 = false := by cases h : S 13 with | false => rfl | true => (have h2 := hc 13 6 (of_decide_eq_true (by kernel_rfl)) h; rw [h2] at hi; cases hi)
          have f14 : S 14 = false := by cases h : S 14 with | false => rfl | true => (have h2 := hc 14 6 (of_decide_eq_true (by kernel_rfl)) h; rw [h2] at hi; cases hi)
          have f15 : S 15 = false := by cases h : S 15 with | false => rfl | true => (have h2 := hc 15 6 (of_decide_eq_true (by kernel_rfl)) h; rw [h2] at hi; cases hi)
          exact turn_pure (knows_done honce 5 (x := 24) (v := .int .i64 i) (by kernel_rfl) (by simp) f5 rfl (knows_done honce 4 (x := 23) (v := .slice (some ⟨ie, 0, none⟩) n n) (by kernel_rfl) (by simp) f4 rfl knows_nil)) rfl (by simp only [go_sem, ↓reduceIte, Nat.reduceLT, Nat.reduceEqDiff, Nat.reduceLeDiff, Nat.reduceAdd, Nat.reduceMul, Int.reduceLT, Int.reduceLE, Int.reduceToNat, BitVec.reduceOfInt, Nat.reduceBEq, hkk, hii]; try rfl) (by simp only [go_sem, ↓reduceIte, Nat.reduceLT, Nat.reduceEqDiff, Nat.reduceLeDiff, Nat.reduceAdd, Nat.reduceMul, Int.reduceLT, Int.reduceLE, Int.reduceToNat, BitVec.reduceOfInt, Nat.reduceBEq, hkk, hii]; try rfl) (by first | rfl | simp [upd])
        · simp only [List.getElem?_toArray, List.getElem?_cons_succ, List.getElem?_cons_zero, Option.some.injEq] at ho
          subst ho
          have f6 : S 6 = true := hd 6 (of_decide_eq_true (by kernel_rfl))
          have f12 : S 12 = false := by cases h : S 12 with | false => rfl | true => (have h2 := hc 12 7 (of_decide_eq_true (by kernel_rfl)) h; rw [h2] at hi; cases hi)
          have f13 : S 13 = false := by cases h : S 13 with | false => rfl | true => (have h2 := hc 13 7 (of_decide_eq_true (by kernel_rfl)) h; rw [h2] at hi; cases hi)
          have f14 : S 14 = false := by cases h : S 14 with | false => rfl | true => (have h2 := hc 14 7 (of_decide_eq_true (by kernel_rfl)) h; rw [h2] at hi; cases hi)
          have f15 : S 15 = false := by cases h : S 15 with | false => rfl | true => (have h2 := hc 15 7 (of_decide_eq_true (by kernel_rfl)) h; rw [h2] at hi; cases hi)
          exact turn_load (knows_done honce 6 (x := 25) (v := .pointer (some ⟨ie, i, none⟩)) (by kernel_rfl) (by simp) f6 rfl knows_nil) rfl (by simp only [go_sem, ↓reduceIte, Nat.reduceLT, Nat.reduceEqDiff, Nat.reduceLeDiff, Nat.reduceAdd, Nat.reduceMul, Int.reduceLT, Int.reduceLE, Int.reduceToNat, BitVec.reduceOfInt, Nat.reduceBEq, hkk, hii]; try rfl) rfl (by simp only [go_sem, ↓reduceIte, Nat.reduceLT, Nat.reduceEqDiff, Nat.reduceLeDiff, Nat.reduceAdd, Nat.reduceMul, Int.reduceLT, Int.reduceLE, Int.reduceToNat, BitVec.reduceOfInt, Nat.reduceBEq, hkk, hii]; try rfl) (row5 S f13 f15) (loadA_scalar agg3 (ints_get (by omega))) (by first | rfl | simp [upd])
        · simp only [List.getElem?_toArray, List.getElem?_cons_succ, List.getElem?_cons_zero, Option.some.injEq] at ho
          subst ho
          have f10 : S 10 = false := by cases h : S 10 with | false => rfl | true => (have h2 := hc 10 8 (of_decide_eq_true (by kernel_rfl)) h; rw [h2] at hi; cases hi)
          have f14 : S 14 = false := by cases h : S 14 with | false => rfl | true => (have h2 := hc 14 8 (of_decide_eq_true (by kernel_rfl)) h; rw [h2] at hi; cases hi)
          have f15 : S 15 = false := by cases h : S 15 with | false => rfl | true => (have h2 := hc 15 8 (of_decide_eq_true (by kernel_rfl)) h; rw [h2] at hi; cases hi)
          exact turn_load (knows_env (x := 3) (v := ptr ic) (by kernel_rfl) rfl knows_nil) rfl (by simp only [go_sem, ↓reduceIte, Nat.reduceLT, Nat.reduceEqDiff, Nat.reduceLeDiff, Nat.reduceAdd, Nat.reduceMul, Int.reduceLT, Int.reduceLE, Int.reduceToNat, BitVec.reduceOfInt, Nat.reduceBEq, hkk, hii]; try rfl) rfl (by simp only [go_sem, ↓reduceIte, Nat.reduceLT, Nat.reduceEqDiff, Nat.reduceLeDiff, Nat.reduceAdd, Nat.reduceMul, Int.reduceLT, Int.reduceLE, Int.reduceToNat, BitVec.reduceOfInt, Nat.reduceBEq, hkk, hii]; try rfl) (hdr5 S) (loadA_scalar agg23 rfl) (by first | rfl | simp [upd])
        · simp only [List.getElem?_toArray, List.getElem?_cons_succ, List.getElem?_cons_zero, Option.some.injEq] at ho
          subst ho
          have f10 : S 10 = false := by cases h : S 10 with | false => rfl | true => (have h2 := hc 10 9 (of_decide_eq_true (by kernel_rfl)) h; rw [h2] at hi; cases hi)
          have f14 : S 14 = false := by cases h : S 14 with | false => rfl | true => (have h2 := hc 14 9 (of_decide_eq_true (by kernel_rfl)) h; rw [h2] at hi; cases hi)
          have f15 : S 15 = false := by cases h : S 15 with | false => rfl | true => (have h2 := hc 15 9 (of_decide_eq_true (by kernel_rfl)) h; rw [h2] at hi; cases hi)
          exact turn_pure (knows_env (x := 0) (v := .int .i64 k) (by kernel_rfl) rfl knows_nil) rfl (by simp only [go_sem, ↓reduceIte, Nat.reduceLT, Nat.reduceEqDiff, Nat.reduceLeDiff, Nat.reduceAdd, Nat.reduceMul, Int.reduceLT, Int.reduceLE, Int.reduceToNat, BitVec.reduceOfInt, Nat.reduceBEq, hkk, hii]; try rfl) (by simp only [go_sem, ↓reduceIte, Nat.reduceLT, Nat.reduceEqDiff, Nat.reduceLeDiff, Nat.reduceAdd, Nat.reduceMul, Int.reduceLT, Int.reduceLE, Int.reduceToNat, BitVec.reduceOfInt, Nat.reduceBEq, hkk, hii]; try rfl) (by first | rfl | simp [upd])
        · simp only [List.getElem?_toArray, List.getElem?_cons_succ, List.getElem?_cons_zero, Option.some.injEq] at ho
          subst ho
          have f8 : S 8 = true := hd 8 (of_decide_eq_true (by kernel_rfl))
          have f9 : S 9 = true := hd 9 (of_decide_eq_true (by kernel_rfl))
          have f11 : S 11 = false := by cases h : S 11 with | false => rfl | true => (have h2 := hc 11 10 (of_decide_eq_true (by kernel_rfl)) h; rw [h2] at hi; cases hi)
          have f14 : S 14 = false := by cases h : S 14 with | false => rfl | true => (have h2 := hc 14 10 (of_decide_eq_true (by kernel_rfl)) h; rw [h2] at hi; cases hi)
          have f15 : S 15 = false := by cases h : S 15 with | false => rfl | true => (have h2 := hc 15 10 (of_decide_eq_true (by kernel_rfl)) h; rw [h2] at hi; cases hi)
          exact turn_pure (knows_done honce 9 (x := 28) (v := .int .i64 k) (by kernel_rfl) (by simp) f9 rfl (knows_done honce 8 (x := 27) (v := .slice (some ⟨ie, 0, none⟩) n n) (by kernel_rfl) (by simp) f8 rfl knows_nil)) rfl (by simp only [go_sem, ↓reduceIte, Nat.reduceLT, Nat.reduceEqDiff, Nat.reduceLeDiff, Nat.reduceAdd, Nat.reduceMul, Int.reduceLT, Int.reduceLE, Int.reduceToNat, BitVec.reduceOfInt, Nat.reduceBEq, hkk, hii]; try rfl) (by simp only [go_sem, ↓reduceIte, Nat.reduceLT, Nat.reduceEqDiff, Nat.reduceLeDiff, Nat.reduceAdd, Nat.reduceMul, Int.reduceLT, Int.reduceLE, Int.reduceToNat, BitVec.reduceOfInt, Nat.reduceBEq, hkk, hii]; try rfl) (by first | rfl | simp [upd])
        · simp only [List.getElem?_toArray, List.getElem?_cons_succ, List.getElem?_cons_zero, Option.some.injEq] at ho
          subst ho
          have f10 : S 10 = true := hd 10 (of_decide_eq_true (by kernel_rfl))
          have f12 : S 12 = false := by cases h : S 12 with | false => rfl | true => (have h2 := hc 12 11 (of_decide_eq_true (by kernel_rfl)) h; rw [h2] at hi; cases hi)
          have f13 : S 13 = false := by cases h : S 13 with | false => rfl | true => (have h2 := hc 13 11 (of_decide_eq_true (by kernel_rfl)) h; rw [h2] at hi; cases hi)
          have f14 : S 14 = false := by cases h : S 14 with | false => rfl | true => (have h2 := hc 14 11 (of_decide_eq_true (by kernel_rfl)) h; rw [h2] at hi; cases hi)
          have f15 : S 15 = false := by cases h : S 15 with | false => rfl | true => (have h2 := hc 15 11 (of_decide_eq_true (by kernel_rfl)) h; rw [h2] at hi; cases hi)
          exact turn_load (knows_done honce 10 (x := 29) (v := .pointer (some ⟨ie, k, none⟩)) (by kernel_rfl) (by simp) f10 rfl knows_nil) rfl (by simp only [go_sem, ↓reduceIte, Nat.reduceLT, Nat.reduceEqDiff, Nat.reduceLeDiff, Nat.reduceAdd, Nat.reduceMul, Int.reduceLT, Int.reduceLE, Int.reduceToNat, BitVec.reduceOfInt, Nat.reduceBEq, hkk, hii]; try rfl) rfl (by simp only [go_sem, ↓reduceIte, Nat.reduceLT, Nat.reduceEqDiff, Nat.reduceLeDiff, Nat.reduceAdd, Nat.reduceMul, Int.reduceLT, Int.reduceLE, Int.reduceToNat, BitVec.reduceOfInt, Nat.reduceBEq, hkk, hii]; try rfl) (row5 S f13 f15) (loadA_scalar agg3 (ints_get (by omega))) (by first | rfl | simp [upd])
        · simp only [List.getElem?_toArray, List.getElem?_cons_succ, List.getElem?_cons_zero, Option.some.injEq] at ho
          subst ho
          have f0 : S 0 = true := hd 0 (of_decide_eq_true (by kernel_rfl))
          have f1 : S 1 = true := hd 1 (of_decide_eq_true (by kernel_rfl))
          have f4 : S 4 = true := hd 4 (of_decide_eq_true (by kernel_rfl))
          have f5 : S 5 = true := hd 5 (of_decide_eq_true (by kernel_rfl))
          have f6 : S 6 = true := hd 6 (of_decide_eq_true (by kernel_rfl))
          have f7 : S 7 = true := hd 7 (of_decide_eq_true (by kernel_rfl))
          have f11 : S 11 = true := hd 11 (of_decide_eq_true (by kernel_rfl))
          have f13 : S 13 = false := by cases h : S 13 with | false => rfl | true => (have h2 := hc 13 12 (of_decide_eq_true (by kernel_rfl)) h; rw [h2] at hi; cases hi)
          have f14 : S 14 = false := by cases h : S 14 with | false => rfl | true => (have h2 := hc 14 12 (of_decide_eq_true (by kernel_rfl)) h; rw [h2] at hi; cases hi)
          have f15 : S 15 = false := by cases h : S 15 with | false => rfl | true => (have h2 := hc 15 12 (of_decide_eq_true (by kernel_rfl)) h; rw [h2] at hi; cases hi)
          exact turn_pure (knows_done honce 1 (x := 20) (v := .int .i64 k) (by kernel_rfl) (by simp) f1 rfl (knows_done honce 0 (x := 19) (v := .slice (some ⟨ie, 0, none⟩) n n) (by kernel_rfl) (by simp) f0 rfl knows_nil)) rfl (by simp only [go_sem, ↓reduceIte, Nat.reduceLT, Nat.reduceEqDiff, Nat.reduceLeDiff, Nat.reduceAdd, Nat.reduceMul, Int.reduceLT, Int.reduceLE, Int.reduceToNat, BitVec.reduceOfInt, Nat.reduceBEq, hkk, hii]; try rfl) (by simp only [go_sem, ↓reduceIte, Nat.reduceLT, Nat.reduceEqDiff, Nat.reduceLeDiff, Nat.reduceAdd, Nat.reduceMul, Int.reduceLT, Int.reduceLE, Int.reduceToNat, BitVec.reduceOfInt, Nat.reduceBEq, hkk, hii]; try rfl) (by first | rfl | simp [upd])
        · simp only [List.getElem?_toArray, List.getElem?_cons_succ, List.getElem?_cons_zero, Option.some.injEq] at ho
          subst ho
          have f0 : S 0 = true := hd 0 (of_decide_eq_true (by kernel_rfl))
          have f1 : S 1 = true := hd 1 (of_decide_eq_true (by kernel_rfl))
          have f4 : S 4 = true := hd 4 (of_decide_eq_true (by kernel_rfl))
          have f5 : S 5 = true := hd 5 (of_decide_eq_true (by kernel_rfl))
          have f6 : S 6 = true := hd 6 (of_decide_eq_true (by kernel_rfl))
          have f7 : S 7 = true := hd 7 (of_decide_eq_true (by kernel_rfl))
          have f11 : S 11 = true := hd 11 (of_decide_eq_true (by kernel_rfl))
          have f12 : S 12 = true := hd 12 (of_decide_eq_true (by kernel_rfl))
          have f14 : S 14 = false := by cases h : S 14 with | false => rfl | true => (have h2 := hc 14 13 (of_decide_eq_true (by kernel_rfl)) h; rw [h2] at hi; cases hi)
          have f15 : S 15 = false := by cases h : S 15 with | false => rfl | true => (have h2 := hc 15 13 (of_decide_eq_true (by kernel_rfl)) h; rw [h2] at hi; cases hi)
          exact turn_store (v := (.int .i64 (l.getD i 0))) (knows_done honce 7 (x := 26) (v := .int .i64 (l.getD i 0)) (by kernel_rfl) (by simp) f7 rfl (knows_done honce 12 (x := 31) (v := .pointer (some ⟨ie, k, none⟩)) (by kernel_rfl) (by simp) f12 rfl knows_nil)) rfl (by simp only [go_sem, ↓reduceIte, Nat.reduceLT, Nat.reduceEqDiff, Nat.reduceLeDiff, Nat.reduceAdd, Nat.reduceMul, Int.reduceLT, Int.reduceLE, Int.reduceToNat, BitVec.reduceOfInt, Nat.reduceBEq, hkk, hii]; try rfl) rfl (by simp only [go_sem, ↓reduceIte, Nat.reduceLT, Nat.reduceEqDiff, Nat.reduceLeDiff, Nat.reduceAdd, Nat.reduceMul, Int.reduceLT, Int.reduceLE, Int.reduceToNat, BitVec.reduceOfInt, Nat.reduceBEq, hkk, hii]; try rfl) (by simp only [go_sem, ↓reduceIte, Nat.reduceLT, Nat.reduceEqDiff, Nat.reduceLeDiff, Nat.reduceAdd, Nat.reduceMul, Int.reduceLT, Int.reduceLE, Int.reduceToNat, BitVec.reduceOfInt, Nat.reduceBEq, hkk, hii]; try rfl) (row5 S hi f15) rfl size3 rfl (by simp [spread, ints]; omega) rfl (by simp only [upd, hi, f15, if_true, Bool.false_eq_true, if_false, Nat.reduceEqDiff]; rw [show spread (Value.int .i64 (l.getD i 0)) = [.int .i64 (l.getD i 0)] from rfl, ints_splice _ (by omega)]; exact AHeap.le_refl _)
        · simp only [List.getElem?_toArray, List.getElem?_cons_succ, List.getElem?_cons_zero, Option.some.injEq] at ho
          subst ho
          have f0 : S 0 = true := hd 0 (of_decide_eq_true (by kernel_rfl))
          have f1 : S 1 = true := hd 1 (of_decide_eq_true (by kernel_rfl))
          have f2 : S 2 = true := hd 2 (of_decide_eq_true (by kernel_rfl))
          have f3 : S 3 = true := hd 3 (of_decide_eq_true (by kernel_rfl))
          have f4 : S 4 = true := hd 4 (of_decide_eq_true (by kernel_rfl))
          have f5 : S 5 = true := hd 5 (of_decide_eq_true (by kernel_rfl))
          have f6 : S 6 = true := hd 6 (of_decide_eq_true (by kernel_rfl))
          have f7 : S 7 = true := hd 7 (of_decide_eq_true (by kernel_rfl))
          have f8 : S 8 = true := hd 8 (of_decide_eq_true (by kernel_rfl))
          have f9 : S 9 = true := hd 9 (of_decide_eq_true (by kernel_rfl))
          have f10 : S 10 = true := hd 10 (of_decide_eq_true (by kernel_rfl))
          have f11 : S 11 = true := hd 11 (of_decide_eq_true (by kernel_rfl))
          have f12 : S 12 = true := hd 12 (of_decide_eq_true (by kernel_rfl))
          have f13 : S 13 = true := hd 13 (of_decide_eq_true (by kernel_rfl))
          have f15 : S 15 = false := by cases h : S 15 with | false => rfl | true => (have h2 := hc 15 14 (of_decide_eq_true (by kernel_rfl)) h; rw [h2] at hi; cases hi)
          exact turn_pure (knows_done honce 3 (x := 22) (v := .int .i64 i) (by kernel_rfl) (by simp) f3 rfl (knows_done honce 2 (x := 21) (v := .slice (some ⟨ie, 0, none⟩) n n) (by kernel_rfl) (by simp) f2 rfl knows_nil)) rfl (by simp only [go_sem, ↓reduceIte, Nat.reduceLT, Nat.reduceEqDiff, Nat.reduceLeDiff, Nat.reduceAdd, Nat.reduceMul, Int.reduceLT, Int.reduceLE, Int.reduceToNat, BitVec.reduceOfInt, Nat.reduceBEq, hkk, hii]; try rfl) (by simp only [go_sem, ↓reduceIte, Nat.reduceLT, Nat.reduceEqDiff, Nat.reduceLeDiff, Nat.reduceAdd, Nat.reduceMul, Int.reduceLT, Int.reduceLE, Int.reduceToNat, BitVec.reduceOfInt, Nat.reduceBEq, hkk, hii]; try rfl) (by first | rfl | simp [upd])
        · simp only [List.getElem?_toArray, List.getElem?_cons_succ, List.getElem?_cons_zero, Option.some.injEq] at ho
          subst ho
          have f0 : S 0 = true := hd 0 (of_decide_eq_true (by kernel_rfl))
          have f1 : S 1 = true := hd 1 (of_decide_eq_true (by kernel_rfl))
          have f2 : S 2 = true := hd 2 (of_decide_eq_true (by kernel_rfl))
          have f3 : S 3 = true := hd 3 (of_decide_eq_true (by kernel_rfl))
          have f4 : S 4 = true := hd 4 (of_decide_eq_true (by kernel_rfl))
          have f5 : S 5 = true := hd 5 (of_decide_eq_true (by kernel_rfl))
          have f6 : S 6 = true := hd 6 (of_decide_eq_true (by kernel_rfl))
          have f7 : S 7 = true := hd 7 (of_decide_eq_true (by kernel_rfl))
          have f8 : S 8 = true := hd 8 (of_decide_eq_true (by kernel_rfl))
          have f9 : S 9 = true := hd 9 (of_decide_eq_true (by kernel_rfl))
          have f10 : S 10 = true := hd 10 (of_decide_eq_true (by kernel_rfl))
          have f11 : S 11 = true := hd 11 (of_decide_eq_true (by kernel_rfl))
          have f12 : S 12 = true := hd 12 (of_decide_eq_true (by kernel_rfl))
          have f13 : S 13 = true := hd 13 (of_decide_eq_true (by kernel_rfl))
          have f14 : S 14 = true := hd 14 (of_decide_eq_true (by kernel_rfl))
          exact turn_store (v := (.int .i64 (l.getD k 0))) (knows_done honce 11 (x := 30) (v := .int .i64 (l.getD k 0)) (by kernel_rfl) (by simp) f11 rfl (knows_done honce 14 (x := 32) (v := .pointer (some ⟨ie, i, none⟩)) (by kernel_rfl) (by simp) f14 rfl knows_nil)) rfl (by simp only [go_sem, ↓reduceIte, Nat.reduceLT, Nat.reduceEqDiff, Nat.reduceLeDiff, Nat.reduceAdd, Nat.reduceMul, Int.reduceLT, Int.reduceLE, Int.reduceToNat, BitVec.reduceOfInt, Nat.reduceBEq, hkk, hii]; try rfl) rfl (by simp only [go_sem, ↓reduceIte, Nat.reduceLT, Nat.reduceEqDiff, Nat.reduceLeDiff, Nat.reduceAdd, Nat.reduceMul, Int.reduceLT, Int.reduceLE, Int.reduceToNat, BitVec.reduceOfInt, Nat.reduceBEq, hkk, hii]; try rfl) (by simp only [go_sem, ↓reduceIte, Nat.reduceLT, Nat.reduceEqDiff, Nat.reduceLeDiff, Nat.reduceAdd, Nat.reduceMul, Int.reduceLT, Int.reduceLE, Int.reduceToNat, BitVec.reduceOfInt, Nat.reduceBEq, hkk, hii]; try rfl) (row15 S f13 hi) rfl size3 rfl (by simp [spread, ints]; omega) rfl (by simp only [upd, hi, f13, if_true, Bool.false_eq_true, if_false, Nat.reduceEqDiff, set_set]; rw [show spread (Value.int .i64 (l.getD k 0)) = [.int .i64 (l.getD k 0)] from rfl, ints_splice _ (by simp; omega)]; exact AHeap.le_refl _)
      change AWp _ _ _ _ (Nx + 16) (σx.set ie ⟨ints (swapI l k i), true, 1⟩) _
      have hsl : (swapI l k i).length = n := by rw [swapI_length]; exact hll
      first | refine awp_seq (awp_lit ?_) | refine awp_lit ?_ | refine awp_seq (awp_seq (awp_lit ?_))
      refine al_load rfl (by simp only [go_sem, ↓reduceIte, Nat.reduceLT, Nat.reduceEqDiff, Nat.reduceLeDiff, Nat.reduceAdd, Nat.reduceMul, Int.reduceLT, Int.reduceLE, Int.reduceToNat, BitVec.reduceOfInt, Nat.reduceBEq]) rfl (by simp only [go_sem, ↓reduceIte, Nat.reduceLT, Nat.reduceEqDiff, Nat.reduceLeDiff, Nat.reduceAdd, Nat.reduceMul, Int.reduceLT, Int.reduceLE, Int.reduceToNat, BitVec.reduceOfInt, Nat.reduceBEq]; try rfl) (hCx.row ha hb hc hd (l' := swapI l k i)).d (loadA_scalar agg92 rfl) ?_
      refine al_pureN 2 (by simp only [go_sem, ↓reduceIte, Nat.reduceLT, Nat.reduceEqDiff, Nat.reduceLeDiff, Nat.reduceAdd, Nat.reduceMul, Int.reduceLT, Int.reduceLE, Int.reduceToNat, BitVec.reduceOfInt, Nat.reduceBEq, i64_add (show -9223372036854775808 ≤ (k : Int) + 1 ∧ (k : Int) + 1 ≤ 9223372036854775807 by omega)]; try rfl) ?_
      have hrec := swap_ok hn hv ha hb hc hd d (k + 1) (by omega) (swapI l k i) x' (Nx + 16) _ (hv.stab _ _ _ hIx) (hCx.row ha hb hc hd (l' := swapI l k i)) (hx.swap (by omega) hlt)
      refine al_clo (vs := [.int .i64 (k + 1 : Nat)]) hrec rfl (by simp only [go_sem, ↓reduceIte, Nat.reduceLT, Nat.reduceEqDiff, Nat.reduceLeDiff, Nat.reduceAdd, Nat.reduceMul, Int.reduceLT, Int.reduceLE, Int.reduceToNat, BitVec.reduceOfInt, Nat.reduceBEq]; try rfl) (by simp only [go_sem, ↓reduceIte, Nat.reduceLT, Nat.reduceEqDiff, Nat.reduceLeDiff, Nat.reduceAdd, Nat.reduceMul, Int.reduceLT, Int.reduceLE, Int.reduceToNat, BitVec.reduceOfInt, Nat.reduceBEq]; try rfl) (by kernel_rfl) rfl (by simp only [go_sem, ↓reduceIte, Nat.reduceLT, Nat.reduceEqDiff, Nat.reduceLeDiff, Nat.reduceAdd, Nat.reduceMul, Int.reduceLT, Int.reduceLE, Int.reduceToNat, BitVec.reduceOfInt, Nat.reduceBEq]; try rfl) ?_
      rintro v N' σ' ⟨hN', hI', hC'⟩
      refine al_end [0, 1, 2, 3, 4, 6] ?_
      have hdr7 : ∀ S : Nat → Bool, (if S 15 = true then σ'.set ie ⟨ints (swapI (swapI l k i) k i), true, 1⟩ else if S 13 = true then σ'.set ie ⟨ints ((swapI l k i).set k ((swapI l k i).getD i 0)), true, 1⟩ else σ') ic = some ⟨[.slice (some ⟨ie, 0, none⟩) n n], true, 1⟩ := fun S => by
        split
        · rw [AHeap.set_ne _ _ hc]; exact hC'.c
        · split
          · rw [AHeap.set_ne _ _ hc]; exact hC'.c
          · exact hC'.c
      have row7 : ∀ S : Nat → Bool, S 13 = false → S 15 = false → (if S 15 = true then σ'.set ie ⟨ints (swapI (swapI l k i) k i), true, 1⟩ else if S 13 = true then σ'.set ie ⟨ints ((swapI l k i).set k ((swapI l k i).getD i 0)), true, 1⟩ else σ') ie = some ⟨ints (swapI l k i), true, 1⟩ := fun S h1 h2 => by
        rw [if_neg (by rw [h2]; simp), if_neg (by rw [h1]; simp)]; exact hC'.e
      have row17 : ∀ S : Nat → Bool, S 13 = true → S 15 = false → (if S 15 = true then σ'.set ie ⟨ints (swapI (swapI l k i) k i), true, 1⟩ else if S 13 = true then σ'.set ie ⟨ints ((swapI l k i).set k ((swapI l k i).getD i 0)), true, 1⟩ else σ') ie = some ⟨ints ((swapI l k i).set k ((swapI l k i).getD i 0)), true, 1⟩ := fun S h1 h2 => by
        rw [if_neg (by rw [h2]; simp), if_pos h1]; exact AHeap.set_self _ _ _
      refine awp_draw [(0, .int .i64 k), (1, ptr ia), (2, ptr ib), (3, ptr ic), (4, ptr id), (6, .int .i64 i)] [.slice (some ⟨ie, 0, none⟩) n n, .int .i64 k, .slice (some ⟨ie, 0, none⟩) n n, .int .i64 i, .slice (some ⟨ie, 0, none⟩) n n, .int .i64 i, .pointer (some ⟨ie, i, none⟩), .int .i64 ((swapI l k i).getD i 0), .slice (some ⟨ie, 0, none⟩) n n, .int .i64 k, .pointer (some ⟨ie, k, none⟩), .int .i64 ((swapI l k i).getD k 0), .pointer (some ⟨ie, k, none⟩), undef, .pointer (some ⟨ie, i, none⟩), undef] (fun S => if S 15 = true then σ'.set ie ⟨ints (swapI (swapI l k i) k i), true, 1⟩ else if S 13 = true then σ'.set ie ⟨ints ((swapI l k i).set k ((swapI l k i).getD i 0)), true, 1⟩ else σ') (by kernel_rfl) (by kernel_rfl) (by kernel_rfl) (AHeap.le_refl _) (fun S S' h => by simp only [h 13 (by simp), h 15 (by simp)]) ?ht2 (fun honce => (knows_env (x := 0) (v := .int .i64 k) (by kernel_rfl) rfl (knows_env (x := 1) (v := ptr ia) (by kernel_rfl) rfl (knows_env (x := 2) (v := ptr ib) (by kernel_rfl) rfl (knows_env (x := 3) (v := ptr ic) (by kernel_rfl) rfl (knows_env (x := 4) (v := ptr id) (by kernel_rfl) rfl (knows_env (x := 6) (v := .int .i64 i) (by kernel_rfl) rfl knows_nil))))))) ?hk2
      case ht2 =>
        intro i o S ho hi hd hc honce
        have hlt : i < 16 := by simpa using (Array.getElem?_eq_some_iff.1 ho).1
        have key : i = 0 ∨ i = 1 ∨ i = 2 ∨ i = 3 ∨ i = 4 ∨ i = 5 ∨ i = 6 ∨ i = 7 ∨ i = 8 ∨ i = 9 ∨ i = 10 ∨ i = 11 ∨ i = 12 ∨ i = 13 ∨ i = 14 ∨ i = 15 := by omega
        rcases key with rfl | rfl | rfl | rfl | rfl | rfl | rfl | rfl | rfl | rfl | rfl | rfl | rfl | rfl | rfl | rfl
        · simp only [List.getElem?_toArray, List.getElem?_cons_succ, List.getElem?_cons_zero, Option.some.injEq] at ho
          subst ho
          have f12 : S 12 = false := by cases h : S 12 with | false => rfl | true => (have h2 := hc 12 0 (of_decide_eq_true (by kernel_rfl)) h; rw [h2] at hi; cases hi)
          have f13 : S 13 = false := by cases h : S 13 with | false => rfl | true => (have h2 := hc 13 0 (of_decide_eq_true (by kernel_rfl)) h; rw [h2] at hi; cases hi)
          have f14 : S 14 = false := by cases h : S 14 with | false => rfl | true => (have h2 := hc 14 0 (of_decide_eq_true (by kernel_rfl)) h; rw [h2] at hi; cases hi)
          have f15 : S 15 = false := by cases h : S 15 with | false => rfl | true => (have h2 := hc 15 0 (of_decide_eq_true (by kernel_rfl)) h; rw [h2] at hi; cases hi)
          exact turn_load (knows_env (x := 3) (v := ptr ic) (by kernel_rfl) rfl knows_nil) rfl (by simp only [go_sem, ↓reduceIte, Nat.reduceLT, Nat.reduceEqDiff, Nat.reduceLeDiff, Nat.reduceAdd, Nat.reduceMul, Int.reduceLT, Int.reduceLE, Int.reduceToNat, BitVec.reduceOfInt, Nat.reduceBEq, hkk, hii]; try rfl) rfl (by simp only [go_sem, ↓reduceIte, Nat.reduceLT, Nat.reduceEqDiff, Nat.reduceLeDiff, Nat.reduceAdd, Nat.reduceMul, Int.reduceLT, Int.reduceLE, Int.reduceToNat, BitVec.reduceOfInt, Nat.reduceBEq, hkk, hii]; try rfl) (hdr7 S) (loadA_scalar agg23 rfl) (by first | rfl | simp [upd])
        · simp only [List.getElem?_toArray, List.getElem?_cons_succ, List.getElem?_cons_zero, Option.some.injEq] at ho
          subst ho
          have f12 : S 12 = false := by cases h : S 12 with | false => rfl | true => (have h2 := hc 12 1 (of_decide_eq_true (by kernel_rfl)) h; rw [h2] at hi; cases hi)
          have f13 : S 13 = false := by cases h : S 13 with | false => rfl | true => (have h2 := hc 13 1 (of_decide_eq_true (by kernel_rfl)) h; rw [h2] at hi; cases hi)
          have f14 : S 14 = false := by cases h : S 14 with | false => rfl | true => (have h2 := hc 14 1 (of_decide_eq_true (by kernel_rfl)) h; rw [h2] at hi; cases hi)
          have f15 : S 15 = false := by cases h : S 15 with | false => rfl | true => (have h2 := hc 15 1 (of_decide_eq_true (by kernel_rfl)) h; rw [h2] at hi; cases hi)
          exact turn_pure (knows_env (x := 0) (v := .int .i64 k) (by kernel_rfl) rfl knows_nil) rfl (by simp only [go_sem, ↓reduceIte, Nat.reduceLT, Nat.reduceEqDiff, Nat.reduceLeDiff, Nat.reduceAdd, Nat.reduceMul, Int.reduceLT, Int.reduceLE, Int.reduceToNat, BitVec.reduceOfInt, Nat.reduceBEq, hkk, hii]; try rfl) (by simp only [go_sem, ↓reduceIte, Nat.reduceLT, Nat.reduceEqDiff, Nat.reduceLeDiff, Nat.reduceAdd, Nat.reduceMul, Int.reduceLT, Int.reduceLE, Int.reduceToNat, BitVec.reduceOfInt, Nat.reduceBEq, hkk, hii]; try rfl) (by first | rfl | simp [upd])
        · simp only [List.getElem?_toArray, List.getElem?_cons_succ, List.getElem?_cons_zero, Option.some.injEq] at ho
          subst ho
          have f14 : S 14 = false := by cases h : S 14 with | false => rfl | true => (have h2 := hc 14 2 (of_decide_eq_true (by kernel_rfl)) h; rw [h2] at hi; cases hi)
          have f15 : S 15 = false := by cases h : S 15 with | false => rfl | true => (have h2 := hc 15 2 (of_decide_eq_true (by kernel_rfl)) h; rw [h2] at hi; cases hi)
          exact turn_load (knows_env (x := 3) (v := ptr ic) (by kernel_rfl) rfl knows_nil) rfl (by simp only [go_sem, ↓reduceIte, Nat.reduceLT, Nat.reduceEqDiff, Nat.reduceLeDiff, Nat.reduceAdd, Nat.reduceMul, Int.reduceLT, Int.reduceLE, Int.reduceToNat, BitVec.reduceOfInt, Nat.reduceBEq, hkk, hii]; try rfl) rfl (by simp only [go_sem, ↓reduceIte, Nat.reduceLT, Nat.reduceEqDiff, Nat.reduceLeDiff, Nat.reduceAdd, Nat.reduceMul, Int.reduceLT, Int.reduceLE, Int.reduceToNat, BitVec.reduceOfInt, Nat.reduceBEq, hkk, hii]; try rfl) (hdr7 S) (loadA_scalar agg23 rfl) (by first | rfl | simp [upd])
        · simp only [List.getElem?_toArray, List.getElem?_cons_succ, List.getElem?_cons_zero, Option.some.injEq] at ho
          subst ho
          have f14 : S 14 = false := by cases h : S 14 with | false => rfl | true => (have h2 := hc 14 3 (of_decide_eq_true (by kernel_rfl)) h; rw [h2] at hi; cases hi)
          have f15 : S 15 = false := by cases h : S 15 with | false => rfl | true => (have h2 := hc 15 3 (of_decide_eq_true (by kernel_rfl)) h; rw [h2] at hi; cases hi)
          exact turn_pure (knows_env (x := 6) (v := .int .i64 i) (by kernel_rfl) rfl knows_nil) rfl (by simp only [go_sem, ↓reduceIte, Nat.reduceLT, Nat.reduceEqDiff, Nat.reduceLeDiff, Nat.reduceAdd, Nat.reduceMul, Int.reduceLT, Int.reduceLE, Int.reduceToNat, BitVec.reduceOfInt, Nat.reduceBEq, hkk, hii]; try rfl) (by simp only [go_sem, ↓reduceIte, Nat.reduceLT, Nat.reduceEqDiff, Nat.reduceLeDiff, Nat.reduceAdd, Nat.reduceMul, Int.reduceLT, Int.reduceLE, Int.reduceToNat, BitVec.reduceOfInt, Nat.reduceBEq, hkk, hii]; try rfl) (by first | rfl | simp [upd])
        · simp only [List.getElem?_toArray, List.getElem?_cons_succ, List.getElem?_cons_zero, Option.some.injEq] at ho
          subst ho
          have f6 : S 6 = false := by cases h : S 6 with | false => rfl | true => (have h2 := hc 6 4 (of_decide_eq_true (by kernel_rfl)) h; rw [h2] at hi; cases hi)
          have f12 : S 12 = false := by cases h : S 12 with | false => rfl | true => (have h2 := hc 12 4 (of_decide_eq_true (by kernel_rfl)) h; rw [h2] at hi; cases hi)
          have f13 : S 13 = false := by cases h : S 13 with | false => rfl | true => (have h2 := hc 13 4 (of_decide_eq_true (by kernel_rfl)) h; rw [h2] at hi; cases hi)
          have f14 : S 14 = false := by cases h : S 14 with | false => rfl | true => (have h2 := hc 14 4 (of_decide_eq_true (by kernel_rfl)) h; rw [h2] at hi; cases hi)
          have f15 : S 15 = false := by cases h : S 15 with | false => rfl | true => (have h2 := hc 15 4 (of_decide_eq_true (by kernel_rfl)) h; rw [h2] at hi; cases hi)
          exact turn_load (knows_env (x := 3) (v := ptr ic) (by kernel_rfl) rfl knows_nil) rfl (by simp only [go_sem, ↓reduceIte, Nat.reduceLT, Nat.reduceEqDiff, Nat.reduceLeDiff, Nat.reduceAdd, Nat.reduceMul, Int.reduceLT, Int.reduceLE, Int.reduceToNat, BitVec.reduceOfInt, Nat.reduceBEq, hkk, hii]; try rfl) rfl (by simp only [go_sem, ↓reduceIte, Nat.reduceLT, Nat.reduceEqDiff, Nat.reduceLeDiff, Nat.reduceAdd, Nat.reduceMul, Int.reduceLT, Int.reduceLE, Int.reduceToNat, BitVec.reduceOfInt, Nat.reduceBEq, hkk, hii]; try rfl) (hdr7 S) (loadA_scalar agg23 rfl) (by first | rfl | simp [upd])
        · simp only [List.getElem?_toArray, List.getElem?_cons_succ, List.getElem?_cons_zero, Option.some.injEq] at ho
          subst ho
          have f6 : S 6 = false := by cases h : S 6 with | false => rfl | true => (have h2 := hc 6 5 (of_decide_eq_true (by kernel_rfl)) h; rw [h2] at hi; cases hi)
          have f12 : S 12 = false := by cases h : S 12 with | false => rfl | true => (have h2 := hc 12 5 (of_decide_eq_true (by kernel_rfl)) h; rw [h2] at hi; cases hi)
          have f13 : S 13 = false := by cases h : S 13 with | false => rfl | true => (have h2 := hc 13 5 (of_decide_eq_true (by kernel_rfl)) h; rw [h2] at hi; cases hi)
          have f14 : S 14 = false := by cases h : S 14 with | false => rfl | true => (have h2 := hc 14 5 (of_decide_eq_true (by kernel_rfl)) h; rw [h2] at hi; cases hi)
          have f15 : S 15 = false := by cases h : S 15 with | false => rfl | true => (have h2 := hc 15 5 (of_decide_eq_true (by kernel_rfl)) h; rw [h2] at hi; cases hi)
          exact turn_pure (knows_env (x := 6) (v := .int .i64 i) (by kernel_rfl) rfl knows_nil) rfl (by simp only [go_sem, ↓reduceIte, Nat.reduceLT, Nat.reduceEqDiff, Nat.reduceLeDiff, Nat.reduceAdd, Nat.reduceMul, Int.reduceLT, Int.reduceLE, Int.reduceToNat, BitVec.reduceOfInt, Nat.reduceBEq, hkk, hii]; try rfl) (by simp only [go_sem, ↓reduceIte, Nat.reduceLT, Nat.reduceEqDiff, Nat.reduceLeDiff, Nat.reduceAdd, Nat.reduceMul, Int.reduceLT, Int.reduceLE, Int.reduceToNat, BitVec.reduceOfInt, Nat.reduceBEq, hkk, hii]; try rfl) (by first | rfl | simp [upd])
        · simp only [List.getElem?_toArray, List.getElem?_cons_succ, List.getElem?_cons_zero, Option.some.injEq] at ho
          subst ho
          have f4 : S 4 = true := hd 4 (of_decide_eq_true (by kernel_rfl))
          have f5 : S 5 = true := hd 5 (of_decide_eq_true (by kernel_rfl))
          have f7 : S 7 = false := by cases h : S 7 with | false => rfl | true => (have h2 := hc 7 6 (of_decide_eq_true (by kernel_rfl)) h; rw [h2] at hi; cases hi)
          have f12 : S 12 = false := by cases h : S 12 with | false => rfl | true => (have h2 := hc 12 6 (of_decide_eq_true (by kernel_rfl)) h; rw [h2] at hi; cases hi)
          have f13 : S 13 = false := by cases h : S 13 with | false => rfl | true => (have h2 := hc 13 6 (of_decide_eq_true (by kernel_rfl)) h; rw [h2] at hi; cases hi)
          have f14 : S 14 = false := by cases h : S 14 with | false => rfl | true => (have h2 := hc 14 6 (of_decide_eq_true (by kernel_rfl)) h; rw [h2] at hi; cases hi)
          have f15 : S 15 = false := by cases h : S 15 with | false => rfl | true => (have h2 := hc 15 6 (of_decide_eq_true (by kernel_rfl)) h; rw [h2] at hi; cases hi)
          exact turn_pure (knows_done honce 5 (x := 42) (v := .int .i64 i) (by kernel_rfl) (by simp) f5 rfl (knows_done honce 4 (x := 41) (v := .slice (some ⟨ie, 0, none⟩) n n) (by kernel_rfl) (by simp) f4 rfl knows_nil)) rfl (by simp only [go_sem, ↓reduceIte, Nat.reduceLT, Nat.reduceEqDiff, Nat.reduceLeDiff, Nat.reduceAdd, Nat.reduceMul, Int.reduceLT, Int.reduceLE, Int.reduceToNat, BitVec.reduceOfInt, Nat.reduceBEq, hkk, hii]; try rfl) (by simp only [go_sem, ↓reduceIte, Nat.reduceLT, Nat.reduceEqDiff, Nat.reduceLeDiff, Nat.reduceAdd, Nat.reduceMul, Int.reduceLT, Int.reduceLE, Int.reduceToNat, BitVec.reduceOfInt, Nat.reduceBEq, hkk, hii]; try rfl) (by first | rfl | simp [upd])
        · simp only [List.getElem?_toArray, List.getElem?_cons_succ, List.getElem?_cons_zero, Option.some.injEq] at ho
          subst ho
          have f6 : S 6 = true := hd 6 (of_decide_eq_true (by kernel_rfl))
          have f12 : S 12 = false := by cases h : S 12 with | false => rfl | true => (have h2 := hc 12 7 (of_decide_eq_true (by kernel_rfl)) h; rw [h2] at hi; cases hi)
          have f13 : S 13 = false := by cases h : S 13 with | false => rfl | true => (have h2 := hc 13 7 (of_decide_eq_true (by kernel_rfl)) h; rw [h2] at hi; cases hi)
          have f14 : S 14 = false := by cases h : S 14 with | false => rfl | true => (have h2 := hc 14 7 (of_decide_eq_true (by kernel_rfl)) h; rw [h2] at hi; cases hi)
          have f15 : S 15 = false := by cases h : S 15 with | false => rfl | true => (have h2 := hc 15 7 (of_decide_eq_true (by kernel_rfl)) h; rw [h2] at hi; cases hi)
          exact turn_load (knows_done honce 6 (x := 43) (v := .pointer (some ⟨ie, i, none⟩)) (by kernel_rfl) (by simp) f6 rfl knows_nil) rfl (by simp only [go_sem, ↓reduceIte, Nat.reduceLT, Nat.reduceEqDiff, Nat.reduceLeDiff, Nat.reduceAdd, Nat.reduceMul, Int.reduceLT, Int.reduceLE, Int.reduceToNat, BitVec.reduceOfInt, Nat.reduceBEq, hkk, hii]; try rfl) rfl (by simp only [go_sem, ↓reduceIte, Nat.reduceLT, Nat.reduceEqDiff, Nat.reduceLeDiff, Nat.reduceAdd, Nat.reduceMul, Int.reduceLT, Int.reduceLE, Int.reduceToNat, BitVec.reduceOfInt, Nat.reduceBEq, hkk, hii]; try rfl) (row7 S f13 f15) (loadA_scalar agg3 (ints_get (by omega))) (by first | rfl | simp [upd])
        · simp only [List.getElem?_toArray, List.getElem?_cons_succ, List.getElem?_cons_zero, Option.some.injEq] at ho
          subst ho
          have f10 : S 10 = false := by cases h : S 10 with | false => rfl | true => (have h2 := hc 10 8 (of_decide_eq_true (by kernel_rfl)) h; rw [h2] at hi; cases hi)
          have f14 : S 14 = false := by cases h : S 14 with | false => rfl | true => (have h2 := hc 14 8 (of_decide_eq_true (by kernel_rfl)) h; rw [h2] at hi; cases hi)
          have f15 : S 15 = false := by cases h : S 15 with | false => rfl | true => (have h2 := hc 15 8 (of_decide_eq_true (by kernel_rfl)) h; rw [h2] at hi; cases hi)
          exact turn_load (knows_env (x := 3) (v := ptr ic) (by kernel_rfl) rfl knows_nil) rfl (by simp only [go_sem, ↓reduceIte, Nat.reduceLT, Nat.reduceEqDiff, Nat.reduceLeDiff, Nat.reduceAdd, Nat.reduceMul, Int.reduceLT, Int.reduceLE, Int.reduceToNat, BitVec.reduceOfInt, Nat.reduceBEq, hkk, hii]; try rfl) rfl (by simp only [go_sem, ↓reduceIte, Nat.reduceLT, Nat.reduceEqDiff, Nat.reduceLeDiff, Nat.reduceAdd, Nat.reduceMul, Int.reduceLT, Int.reduceLE, Int.reduceToNat, BitVec.reduceOfInt, Nat.reduceBEq, hkk, hii]; try rfl) (hdr7 S) (loadA_scalar agg23 rfl) (by first | rfl | simp [upd])
        · simp only [List.getElem?_toArray, List.getElem?_cons_succ, List.getElem?_cons_zero, Option.some.injEq] at ho
          subst ho
          have f10 : S 10 = false := by cases h : S 10 with | false => rfl | true => (have h2 := hc 10 9 (of_decide_eq_true (by kernel_rfl)) h; rw [h2] at hi; cases hi)
          have f14 : S 14 = false := by cases h : S 14 with | false => rfl | true => (have h2 := hc 14 9 (of_decide_eq_true (by kernel_rfl)) h; rw [h2] at hi; cases hi)
          have f15 : S 15 = false := by cases h : S 15 with | false => rfl | true => (have h2 := hc 15 9 (of_decide_eq_true (by kernel_rfl)) h; rw [h2] at hi; cases hi)
          exact turn_pure (knows_env (x := 0) (v := .int .i64 k) (by kernel_rfl) rfl knows_nil) rfl (by simp only [go_sem, ↓reduceIte, Nat.reduceLT, Nat.reduceEqDiff, Nat.reduceLeDiff, Nat.reduceAdd, Nat.reduceMul, Int.reduceLT, Int.reduceLE, Int.reduceToNat, BitVec.reduceOfInt, Nat.reduceBEq, hkk, hii]; try rfl) (by simp only [go_sem, ↓reduceIte, Nat.reduceLT, Nat.reduceEqDiff, Nat.reduceLeDiff, Nat.reduceAdd, Nat.reduceMul, Int.reduceLT, Int.reduceLE, Int.reduceToNat, BitVec.reduceOfInt, Nat.reduceBEq, hkk, hii]; try rfl) (by first | rfl | simp [upd])
        · simp only [List.getElem?_toArray, List.getElem?_cons_succ, List.getElem?_cons_zero, Option.some.injEq] at ho
          subst ho
          have f8 : S 8 = true := hd 8 (of_decide_eq_true (by kernel_rfl))
          have f9 : S 9 = true := hd 9 (of_decide_eq_true (by kernel_rfl))
          have f11 : S 11 = false := by cases h : S 11 with | false => rfl | true => (have h2 := hc 11 10 (of_decide_eq_true (by kernel_rfl)) h; rw [h2] at hi; cases hi)
          have f14 : S 14 = false := by cases h : S 14 with | false => rfl | true => (have h2 := hc 14 10 (of_decide_eq_true (by kernel_rfl)) h; rw [h2] at hi; cases hi)
          have f15 : S 15 = false := by cases h : S 15 with | false => rfl | true => (have h2 := hc 15 10 (of_decide_eq_true (by kernel_rfl)) h; rw [h2] at hi; cases hi)
          exact turn_pure (knows_done honce 9 (x := 46) (v := .int .i64 k) (by kernel_rfl) (by simp) f9 rfl (knows_done honce 8 (x := 45) (v := .slice (some ⟨ie, 0, none⟩) n n) (by kernel_rfl) (by simp) f8 rfl knows_nil)) rfl (by simp only [go_sem, ↓reduceIte, Nat.reduceLT, Nat.reduceEqDiff, Nat.reduceLeDiff, Nat.reduceAdd, Nat.reduceMul, Int.reduceLT, Int.reduceLE, Int.reduceToNat, BitVec.reduceOfInt, Nat.reduceBEq, hkk, hii]; try rfl) (by simp only [go_sem, ↓reduceIte, Nat.reduceLT, Nat.reduceEqDiff, Nat.reduceLeDiff, Nat.reduceAdd, Nat.reduceMul, Int.reduceLT, Int.reduceLE, Int.reduceToNat, BitVec.reduceOfInt, Nat.reduceBEq, hkk, hii]; try rfl) (by first | rfl | simp [upd])
        · simp only [List.getElem?_toArray, List.getElem?_cons_succ, List.getElem?_cons_zero, Option.some.injEq] at ho
          subst ho
          have f10 : S 10 = true := hd 10 (of_decide_eq_true (by kernel_rfl))
          have f12 : S 12 = false := by cases h : S 12 with | false => rfl | true => (have h2 := hc 12 11 (of_decide_eq_true (by kernel_rfl)) h; rw [h2] at hi; cases hi)
          have f13 : S 13 = false := by cases h : S 13 with | false => rfl | true => (have h2 := hc 13 11 (of_decide_eq_true (by kernel_rfl)) h; rw [h2] at hi; cases hi)
          have f14 : S 14 = false := by cases h : S 14 with | false => rfl | true => (have h2 := hc 14 11 (of_decide_eq_true (by kernel_rfl)) h; rw [h2] at hi; cases hi)
          have f15 : S 15 = false := by cases h : S 15 with | false => rfl | true => (have h2 := hc 15 11 (of_decide_eq_true (by kernel_rfl)) h; rw [h2] at hi; cases hi)
          exact turn_load (knows_done honce 10 (x := 47) (v := .pointer (some ⟨ie, k, none⟩)) (by kernel_rfl) (by simp) f10 rfl knows_nil) rfl (by simp only [go_sem, ↓reduceIte, Nat.reduceLT, Nat.reduceEqDiff, Nat.reduceLeDiff, Nat.reduceAdd, Nat.reduceMul, Int.reduceLT, Int.reduceLE, Int.reduceToNat, BitVec.reduceOfInt, Nat.reduceBEq, hkk, hii]; try rfl) rfl (by simp only [go_sem, ↓reduceIte, Nat.reduceLT, Nat.reduceEqDiff, Nat.reduceLeDiff, Nat.reduceAdd, Nat.reduceMul, Int.reduceLT, Int.reduceLE, Int.reduceToNat, BitVec.reduceOfInt, Nat.reduceBEq, hkk, hii]; try rfl) (row7 S f13 f15) (loadA_scalar agg3 (ints_get (by omega))) (by first | rfl | simp [upd])
        · simp only [List.getElem?_toArray, List.getElem?_cons_succ, List.getElem?_cons_zero, Option.some.injEq] at ho
          subst ho
          have f0 : S 0 = true := hd 0 (of_decide_eq_true (by kernel_rfl))
          have f1 : S 1 = true := hd 1 (of_decide_eq_true (by kernel_rfl))
          have f4 : S 4 = true := hd 4 (of_decide_eq_true (by kernel_rfl))
          have f5 : S 5 = true := hd 5 (of_decide_eq_true (by kernel_rfl))
          have f6 : S 6 = true := hd 6 (of_decide_eq_true (by kernel_rfl))
          have f7 : S 7 = true := hd 7 (of_decide_eq_true (by kernel_rfl))
          have f11 : S 11 = true := hd 11 (of_decide_eq_true (by kernel_rfl))
          have f13 : S 13 = false := by cases h : S 13 with | false => rfl | true => (have h2 := hc 13 12 (of_decide_eq_true (by kernel_rfl)) h; rw [h2] at hi; cases hi)
          have f14 : S 14 = false := by cases h : S 14 with | false => rfl | true => (have h2 := hc 14 12 (of_decide_eq_true (by kernel_rfl)) h; rw [h2] at hi; cases hi)
          have f15 : S 15 = false := by cases h : S 15 with | false => rfl | true => (have h2 := hc 15 12 (of_decide_eq_true (by kernel_rfl)) h; rw [h2] at hi; cases hi)
          exact turn_pure (knows_done honce 1 (x := 38) (v := .int .i64 k) (by kernel_rfl) (by simp) f1 rfl (knows_done honce 0 (x := 37) (v := .slice (some ⟨ie, 0, none⟩) n n) (by kernel_rfl) (by simp) f0 rfl knows_nil)) rfl (by simp only [go_sem, ↓reduceIte, Nat.reduceLT, Nat.reduceEqDiff, Nat.reduceLeDiff, Nat.reduceAdd, Nat.reduceMul, Int.reduceLT, Int.reduceLE, Int.reduceToNat, BitVec.reduceOfInt, Nat.reduceBEq, hkk, hii]; try rfl) (by simp only [go_sem, ↓reduceIte, Nat.reduceLT, Nat.reduceEqDiff, Nat.reduceLeDiff, Nat.reduceAdd, Nat.reduceMul, Int.reduceLT, Int.reduceLE, Int.reduceToNat, BitVec.reduceOfInt, Nat.reduceBEq, hkk, hii]; try rfl) (by first | rfl | simp [upd])
        · simp only [List.getElem?_toArray, List.getElem?_cons_succ, List.getElem?_cons_zero, Option.some.injEq] at ho
          subst ho
          have f0 : S 0 = true := hd 0 (of_decide_eq_true (by kernel_rfl))
          have f1 : S 1 = true := hd 1 (of_decide_eq_true (by kernel_rfl))
          have f4 : S 4 = true := hd 4 (of_decide_eq_true (by kernel_rfl))
          have f5 : S 5 = true := hd 5 (of_decide_eq_true (by kernel_rfl))
          have f6 : S 6 = true := hd 6 (of_decide_eq_true (by kernel_rfl))
          have f7 : S 7 = true := hd 7 (of_decide_eq_true (by kernel_rfl))
          have f11 : S 11 = true := hd 11 (of_decide_eq_true (by kernel_rfl))
          have f12 : S 12 = true := hd 12 (of_decide_eq_true (by kernel_rfl))
          have f14 : S 14 = false := by cases h : S 14 with | false => rfl | true => (have h2 := hc 14 13 (of_decide_eq_true (by kernel_rfl)) h; rw [h2] at hi; cases hi)
          have f15 : S 15 = false := by cases h : S 15 with | false => rfl | true => (have h2 := hc 15 13 (of_decide_eq_true (by kernel_rfl)) h; rw [h2] at hi; cases hi)
          exact turn_store (v := (.int .i64 ((swapI l k i).getD i 0))) (knows_done honce 7 (x := 44) (v := .int .i64 ((swapI l k i).getD i 0)) (by kernel_rfl) (by simp) f7 rfl (knows_done honce 12 (x := 49) (v := .pointer (some ⟨ie, k, none⟩)) (by kernel_rfl) (by simp) f12 rfl knows_nil)) rfl (by simp only [go_sem, ↓reduceIte, Nat.reduceLT, Nat.reduceEqDiff, Nat.reduceLeDiff, Nat.reduceAdd, Nat.reduceMul, Int.reduceLT, Int.reduceLE, Int.reduceToNat, BitVec.reduceOfInt, Nat.reduceBEq, hkk, hii]; try rfl) rfl (by simp only [go_sem, ↓reduceIte, Nat.reduceLT, Nat.reduceEqDiff, Nat.reduceLeDiff, Nat.reduceAdd, Nat.reduceMul, Int.reduceLT, Int.reduceLE, Int.reduceToNat, BitVec.reduceOfInt, Nat.reduceBEq, hkk, hii]; try rfl) (by simp only [go_sem, ↓reduceIte, Nat.reduceLT, Nat.reduceEqDiff, Nat.reduceLeDiff, Nat.reduceAdd, Nat.reduceMul, Int.reduceLT, Int.reduceLE, Int.reduceToNat, BitVec.reduceOfInt, Nat.reduceBEq, hkk, hii]; try rfl) (row7 S hi f15) rfl size3 rfl (by simp [spread, ints]; omega) rfl (by simp only [upd, hi, f15, if_true, Bool.false_eq_true, if_false, Nat.reduceEqDiff]; rw [show spread (Value.int .i64 ((swapI l k i).getD i 0)) = [.int .i64 ((swapI l k i).getD i 0)] from rfl, ints_splice _ (by omega)]; exact AHeap.le_refl _)
        · simp only [List.getElem?_toArray, List.getElem?_cons_succ, List.getElem?_cons_zero, Option.some.injEq] at ho
          subst ho
          have f0 : S 0 = true := hd 0 (of_decide_eq_true (by kernel_rfl))
          have f1 : S 1 = true := hd 1 (of_decide_eq_true (by kernel_rfl))
          have f2 : S 2 = true := hd 2 (of_decide_eq_true (by kernel_rfl))
          have f3 : S 3 = true := hd 3 (of_decide_eq_true (by kernel_rfl))
          have f4 : S 4 = true := hd 4 (of_decide_eq_true (by kernel_rfl))
          have f5 : S 5 = true := hd 5 (of_decide_eq_true (by kernel_rfl))
          have f6 : S 6 = true := hd 6 (of_decide_eq_true (by kernel_rfl))
          have f7 : S 7 = true := hd 7 (of_decide_eq_true (by kernel_rfl))
          have f8 : S 8 = true := hd 8 (of_decide_eq_true (by kernel_rfl))
          have f9 : S 9 = true := hd 9 (of_decide_eq_true (by kernel_rfl))
          have f10 : S 10 = true := hd 10 (of_decide_eq_true (by kernel_rfl))
          have f11 : S 11 = true := hd 11 (of_decide_eq_true (by kernel_rfl))
          have f12 : S 12 = true := hd 12 (of_decide_eq_true (by kernel_rfl))
          have f13 : S 13 = true := hd 13 (of_decide_eq_true (by kernel_rfl))
          have f15 : S 15 = false := by cases h : S 15 with | false => rfl | true => (have h2 := hc 15 14 (of_decide_eq_true (by kernel_rfl)) h; rw [h2] at hi; cases hi)
          exact turn_pure (knows_done honce 3 (x := 40) (v := .int .i64 i) (by kernel_rfl) (by simp) f3 rfl (knows_done honce 2 (x := 39) (v := .slice (some ⟨ie, 0, none⟩) n n) (by kernel_rfl) (by simp) f2 rfl knows_nil)) rfl (by simp only [go_sem, ↓reduceIte, Nat.reduceLT, Nat.reduceEqDiff, Nat.reduceLeDiff, Nat.reduceAdd, Nat.reduceMul, Int.reduceLT, Int.reduceLE, Int.reduceToNat, BitVec.reduceOfInt, Nat.reduceBEq, hkk, hii]; try rfl) (by simp only [go_sem, ↓reduceIte, Nat.reduceLT, Nat.reduceEqDiff, Nat.reduceLeDiff, Nat.reduceAdd, Nat.reduceMul, Int.reduceLT, Int.reduceLE, Int.reduceToNat, BitVec.reduceOfInt, Nat.reduceBEq, hkk, hii]; try rfl) (by first | rfl | simp [upd])
        · simp only [List.getElem?_toArray, List.getElem?_cons_succ, List.getElem?_cons_zero, Option.some.injEq] at ho
          subst ho
          have f0 : S 0 = true := hd 0 (of_decide_eq_true (by kernel_rfl))
          have f1 : S 1 = true := hd 1 (of_decide_eq_true (by kernel_rfl))
          have f2 : S 2 = true := hd 2 (of_decide_eq_true (by kernel_rfl))
          have f3 : S 3 = true := hd 3 (of_decide_eq_true (by kernel_rfl))
          have f4 : S 4 = true := hd 4 (of_decide_eq_true (by kernel_rfl))
          have f5 : S 5 = true := hd 5 (of_decide_eq_true (by kernel_rfl))
          have f6 : S 6 = true := hd 6 (of_decide_eq_true (by kernel_rfl))
          have f7 : S 7 = true := hd 7 (of_decide_eq_true (by kernel_rfl))
          have f8 : S 8 = true := hd 8 (of_decide_eq_true (by kernel_rfl))
          have f9 : S 9 = true := hd 9 (of_decide_eq_true (by kernel_rfl))
          have f10 : S 10 = true := hd 10 (of_decide_eq_true (by kernel_rfl))
          have f11 : S 11 = true := hd 11 (of_decide_eq_true (by kernel_rfl))
          have f12 : S 12 = true := hd 12 (of_decide_eq_true (by kernel_rfl))
          have f13 : S 13 = true := hd 13 (of_decide_eq_true (by kernel_rfl))
          have f14 : S 14 = true := hd 14 (of_decide_eq_true (by kernel_rfl))
          exact turn_store (v := (.int .i64 ((swapI l k i).getD k 0))) (knows_done honce 11 (x := 48) (v := .int .i64 ((swapI l k i).getD k 0)) (by kernel_rfl) (by simp) f11 rfl (knows_done honce 14 (x := 50) (v := .pointer (some ⟨ie, i, none⟩)) (by kernel_rfl) (by simp) f14 rfl knows_nil)) rfl (by simp only [go_sem, ↓reduceIte, Nat.reduceLT, Nat.reduceEqDiff, Nat.reduceLeDiff, Nat.reduceAdd, Nat.reduceMul, Int.reduceLT, Int.reduceLE, Int.reduceToNat, BitVec.reduceOfInt, Nat.reduceBEq, hkk, hii]; try rfl) rfl (by simp only [go_sem, ↓reduceIte, Nat.reduceLT, Nat.reduceEqDiff, Nat.reduceLeDiff, Nat.reduceAdd, Nat.reduceMul, Int.reduceLT, Int.reduceLE, Int.reduceToNat, BitVec.reduceOfInt, Nat.reduceBEq, hkk, hii]; try rfl) (by simp only [go_sem, ↓reduceIte, Nat.reduceLT, Nat.reduceEqDiff, Nat.reduceLeDiff, Nat.reduceAdd, Nat.reduceMul, Int.reduceLT, Int.reduceLE, Int.reduceToNat, BitVec.reduceOfInt, Nat.reduceBEq, hkk, hii]; try rfl) (row17 S f13 hi) rfl size3 rfl (by simp [spread, ints]; omega) rfl (by simp only [upd, hi, f13, if_true, Bool.false_eq_true, if_false, Nat.reduceEqDiff, set_set]; rw [show spread (Value.int .i64 ((swapI l k i).getD k 0)) = [.int .i64 ((swapI l k i).getD k 0)] from rfl, ints_splice _ (by simp; omega)]; exact AHeap.le_refl _)
      rw [swapI_swapI l k i (by omega) (by omega)]
      change AWp _ _ _ _ (N' + 16) (σ'.set ie ⟨ints l, true, 1⟩) _
      refine awp_pures [0, 1, 2, 3, 4, 6] (by simp only [go_sem, ↓reduceIte, Nat.reduceLT, Nat.reduceEqDiff, Nat.reduceLeDiff, Nat.reduceAdd, Nat.reduceMul, Int.reduceLT, Int.reduceLE, Int.reduceToNat, BitVec.reduceOfInt, Nat.reduceBEq, i64_add (show -9223372036854775808 ≤ (i : Int) + 1 ∧ (i : Int) + 1 ≤ 9223372036854775807 by omega)]; try rfl) ?_
      refine (ih (i + 1, (perms n d (swapI l k i)).foldl step x', N' + 16, σ'.set ie ⟨ints l, true, 1⟩) ⟨by simp; omega, hlt, by rw [hgo, show n - i = (n - (i + 1)) + 1 from by omega, List.range'_succ, List.flatMap_cons, List.foldl_append], by simp; omega, hv.stab _ _ _ hI', hC'.row ha hb hc hd⟩ (by simp; omega)).cast (by first | (simp only [go_sem, ↓reduceIte, Nat.reduceLT, Nat.reduceEqDiff, Nat.reduceLeDiff, Nat.reduceAdd, Nat.reduceMul, Int.reduceLT, Int.reduceLE, Int.reduceToNat, BitVec.reduceOfInt, Nat.reduceBEq]; try rfl) | rfl)
    · have hb1 : decide ((i : Int) < (n : Int)) = false := by simpa using hlt
      refine awp_seq ?_
      first | refine awp_seq (awp_lit ?_) | refine awp_lit ?_ | refine awp_seq (awp_seq (awp_lit ?_))
      refine al_pureN 1 (by simp only [go_sem, ↓reduceIte, Nat.reduceLT, Nat.reduceEqDiff, Nat.reduceLeDiff, Nat.reduceAdd, Nat.reduceMul, Int.reduceLT, Int.reduceLE, Int.reduceToNat, BitVec.reduceOfInt, Nat.reduceBEq]; try rfl) ?_
      refine al_load rfl (by simp only [go_sem, ↓reduceIte, Nat.reduceLT, Nat.reduceEqDiff, Nat.reduceLeDiff, Nat.reduceAdd, Nat.reduceMul, Int.reduceLT, Int.reduceLE, Int.reduceToNat, BitVec.reduceOfInt, Nat.reduceBEq]) rfl (by simp only [go_sem, ↓reduceIte, Nat.reduceLT, Nat.reduceEqDiff, Nat.reduceLeDiff, Nat.reduceAdd, Nat.reduceMul, Int.reduceLT, Int.reduceLE, Int.reduceToNat, BitVec.reduceOfInt, Nat.reduceBEq]; try rfl) hCx.a (loadA_scalar agg3 rfl) ?_
      refine al_pureN 1 (by simp only [go_sem, ↓reduceIte, Nat.reduceLT, Nat.reduceEqDiff, Nat.reduceLeDiff, Nat.reduceAdd, Nat.reduceMul, Int.reduceLT, Int.reduceLE, Int.reduceToNat, BitVec.reduceOfInt, Nat.reduceBEq, hb1]; try rfl) ?_
      refine al_end [16] ?_
      refine awp_if rfl (fun h => by cases h) (fun _ => ?_)
      refine awp_exit ?_
      simp only [Go.Abs.Seq, Go.Abs.Round, Go.Abs.InBlock, ↓reduceIte]
      have hin : i = n := by omega
      subst hin
      rw [Nat.sub_self] at hgo
      exact ⟨_, rfl, hNx, by rw [hgo]; exact hIx, hCx⟩
theorem orders_ok {α : Type} {n : Nat} {g : FuncId} {xs cs : Array Value} {Inv : α → AHeap → Prop} {step : α → List Int → α} (hn : n ≤ 1000) (x : α) (N : Nat) (σ : AHeap)
    (hv : Visit n N (N + 1) (N + 3) (N + 4) (N + 2) g xs cs Inv step) (hI : ∀ b0 b1 b2 b3 b4, Inv x (((((σ.set N b0).set (N + 1) b1).set (N + 2) b2).set (N + 3) b3).set (N + 4) b4)) :
    AOk Try.prog 49 [.int .i64 n, .func (.func g) xs cs] N σ (fun _ N' σ' => N ≤ N' ∧ Inv ((perms n n ((List.range n).map fun (i : Nat) => (i : Int))).foldl step x) σ') := by
  refine aok_body (n := 11) Try.func49 rfl rfl (by simp) ?_
  first | refine awp_seq (awp_lit ?_) | refine awp_lit ?_ | refine awp_seq (awp_seq (awp_lit ?_))
  refine al_box 1 rfl rfl rfl rfl ?_
  refine al_box 1 rfl rfl rfl rfl ?_
  refine al_end [2, 3] ?_
  change AWp _ _ _ _ (N + 2) ((σ.set N ⟨[.int .i64 n], true, 1⟩).set (N + 1) ⟨[.func (.func g) xs cs], true, 1⟩) _
  have hga : ((σ.set N ⟨[.int .i64 n], true, 1⟩).set (N + 1) ⟨[.func (.func g) xs cs], true, 1⟩) N = some ⟨[.int .i64 n], true, 1⟩ := by
    rw [AHeap.set_ne _ _ (by omega), AHeap.set_self]
  first | refine awp_seq (awp_lit ?_) | refine awp_lit ?_ | refine awp_seq (awp_seq (awp_lit ?_))
  refine al_load rfl (by simp only [go_sem, ↓reduceIte, Nat.reduceLT, Nat.reduceEqDiff, Nat.reduceLeDiff, Nat.reduceAdd, Nat.reduceMul, Int.reduceLT, Int.reduceLE, Int.reduceToNat, BitVec.reduceOfInt, Nat.reduceBEq]) rfl (by simp only [go_sem, ↓reduceIte, Nat.reduceLT, Nat.reduceEqDiff, Nat.reduceLeDiff, Nat.reduceAdd, Nat.reduceMul, Int.reduceLT, Int.reduceLE, Int.reduceToNat, BitVec.reduceOfInt, Nat.reduceBEq]; try rfl) hga (loadA_scalar agg3 rfl) ?_
  refine al_fun (first_ok n (by omega) _ _) rfl (by simp only [go_sem, ↓reduceIte, Nat.reduceLT, Nat.reduceEqDiff, Nat.reduceLeDiff, Nat.reduceAdd, Nat.reduceMul, Int.reduceLT, Int.reduceLE, Int.reduceToNat, BitVec.reduceOfInt, Nat.reduceBEq]; try rfl) (by kernel_rfl) rfl (by simp only [go_sem, ↓reduceIte, Nat.reduceLT, Nat.reduceEqDiff, Nat.reduceLeDiff, Nat.reduceAdd, Nat.reduceMul, Int.reduceLT, Int.reduceLE, Int.reduceToNat, BitVec.reduceOfInt, Nat.reduceBEq]; try rfl) ?_
  rintro v N' σ' ⟨rfl, rfl, rfl⟩
  refine al_alloc 1 rfl rfl rfl ty23 (by decide) ?_
  refine al_store1 rfl (by simp only [go_sem, ↓reduceIte, Nat.reduceLT, Nat.reduceEqDiff, Nat.reduceLeDiff, Nat.reduceAdd, Nat.reduceMul, Int.reduceLT, Int.reduceLE, Int.reduceToNat, BitVec.reduceOfInt, Nat.reduceBEq]; try rfl) rfl (by simp only [go_sem, ↓reduceIte, Nat.reduceLT, Nat.reduceEqDiff, Nat.reduceLeDiff, Nat.reduceAdd, Nat.reduceMul, Int.reduceLT, Int.reduceLE, Int.reduceToNat, BitVec.reduceOfInt, Nat.reduceBEq]; try rfl) (by simp only [go_sem, ↓reduceIte, Nat.reduceLT, Nat.reduceEqDiff, Nat.reduceLeDiff, Nat.reduceAdd, Nat.reduceMul, Int.reduceLT, Int.reduceLE, Int.reduceToNat, BitVec.reduceOfInt, Nat.reduceBEq]; try rfl) (AHeap.set_self _ _ _) rfl size23 rfl rfl (by exact Nat.one_pos) ?_
  rw [set_set]
  refine al_end [2, 3, 4] ?_
  first | refine awp_seq (awp_lit ?_) | refine awp_lit ?_ | refine awp_seq (awp_seq (awp_lit ?_))
  refine al_alloc 1 rfl rfl rfl ty92 (by decide) ?_
  refine al_end [2, 3, 4, 5] ?_
  first | refine awp_seq (awp_lit ?_) | refine awp_lit ?_ | refine awp_seq (awp_seq (awp_lit ?_))
  refine al_pureN 1 (by simp only [go_sem, ↓reduceIte, Nat.reduceLT, Nat.reduceEqDiff, Nat.reduceLeDiff, Nat.reduceAdd, Nat.reduceMul, Int.reduceLT, Int.reduceLE, Int.reduceToNat, BitVec.reduceOfInt, Nat.reduceBEq]; try rfl) ?_
  refine al_store1 rfl (by simp only [go_sem, ↓reduceIte, Nat.reduceLT, Nat.reduceEqDiff, Nat.reduceLeDiff, Nat.reduceAdd, Nat.reduceMul, Int.reduceLT, Int.reduceLE, Int.reduceToNat, BitVec.reduceOfInt, Nat.reduceBEq]; try rfl) rfl (by simp only [go_sem, ↓reduceIte, Nat.reduceLT, Nat.reduceEqDiff, Nat.reduceLeDiff, Nat.reduceAdd, Nat.reduceMul, Int.reduceLT, Int.reduceLE, Int.reduceToNat, BitVec.reduceOfInt, Nat.reduceBEq]; try rfl) (by simp only [go_sem, ↓reduceIte, Nat.reduceLT, Nat.reduceEqDiff, Nat.reduceLeDiff, Nat.reduceAdd, Nat.reduceMul, Int.reduceLT, Int.reduceLE, Int.reduceToNat, BitVec.reduceOfInt, Nat.reduceBEq]; try rfl) (AHeap.set_self _ _ _) rfl size92 rfl rfl (by exact Nat.one_pos) ?_
  rw [set_set]
  refine al_end [5] ?_
  have hord : Cells ((((((σ.set N ⟨[.int .i64 n], true, 1⟩).set (N + 1) ⟨[.func (.func g) xs cs], true, 1⟩).set (N + 2) ⟨ints ((List.range n).map fun (i : Nat) => (i : Int)), true, 1⟩).set (N + 3) ⟨[.slice (some ⟨N + 2, 0, none⟩) n n], true, 1⟩).set (N + 4) ⟨[.func (.func 66) #[] #[ptr N, ptr (N + 1), ptr (N + 3), ptr (N + 4)]], true, 1⟩))
      n N (N + 1) (N + 3) (N + 4) (N + 2) (.func (.func g) xs cs) ((List.range n).map fun (i : Nat) => (i : Int)) := by
    constructor <;> simp only [AHeap.set] <;> simp
  have hI5 := hI ⟨[.int .i64 n], true, 1⟩ ⟨[.func (.func g) xs cs], true, 1⟩ ⟨ints ((List.range n).map fun (i : Nat) => (i : Int)), true, 1⟩ ⟨[.slice (some ⟨N + 2, 0, none⟩) n n], true, 1⟩ ⟨[.func (.func 66) #[] #[ptr N, ptr (N + 1), ptr (N + 3), ptr (N + 4)]], true, 1⟩
  change AWp _ _ _ _ (N + 5) (((((σ.set N ⟨[.int .i64 n], true, 1⟩).set (N + 1) ⟨[.func (.func g) xs cs], true, 1⟩).set (N + 2) ⟨ints ((List.range n).map fun (i : Nat) => (i : Int)), true, 1⟩).set (N + 3) ⟨[.slice (some ⟨N + 2, 0, none⟩) n n], true, 1⟩).set (N + 4) ⟨[.func (.func 66) #[] #[ptr N, ptr (N + 1), ptr (N + 3), ptr (N + 4)]], true, 1⟩) _
  generalize ((((σ.set N ⟨[.int .i64 n], true, 1⟩).set (N + 1) ⟨[.func (.func g) xs cs], true, 1⟩).set (N + 2) ⟨ints ((List.range n).map fun (i : Nat) => (i : Int)), true, 1⟩).set (N + 3) ⟨[.slice (some ⟨N + 2, 0, none⟩) n n], true, 1⟩).set (N + 4) ⟨[.func (.func 66) #[] #[ptr N, ptr (N + 1), ptr (N + 3), ptr (N + 4)]], true, 1⟩ = σ5 at hord hI5
  refine awp_lit ?_
  refine al_load rfl (by simp only [go_sem, ↓reduceIte, Nat.reduceLT, Nat.reduceEqDiff, Nat.reduceLeDiff, Nat.reduceAdd, Nat.reduceMul, Int.reduceLT, Int.reduceLE, Int.reduceToNat, BitVec.reduceOfInt, Nat.reduceBEq]) rfl (by simp only [go_sem, ↓reduceIte, Nat.reduceLT, Nat.reduceEqDiff, Nat.reduceLeDiff, Nat.reduceAdd, Nat.reduceMul, Int.reduceLT, Int.reduceLE, Int.reduceToNat, BitVec.reduceOfInt, Nat.reduceBEq]; try rfl) hord.d (loadA_scalar agg92 rfl) ?_
  have hx : Idx n ((List.range n).map fun (i : Nat) => (i : Int)) := ⟨by simp, fun x hx => by simp at hx; obtain ⟨i, hi, rfl⟩ := hx; omega⟩
  have hrec := swap_ok hn hv (by omega) (by omega) (by omega) (by omega) n 0 (by omega) _ x (N + 5) _ hI5 hord hx
  refine al_clo (vs := [.int .i64 (0 : Nat)]) hrec rfl (by simp only [go_sem, ↓reduceIte, Nat.reduceLT, Nat.reduceEqDiff, Nat.reduceLeDiff, Nat.reduceAdd, Nat.reduceMul, Int.reduceLT, Int.reduceLE, Int.reduceToNat, BitVec.reduceOfInt, Nat.reduceBEq]; try rfl) (by simp only [go_sem, ↓reduceIte, Nat.reduceLT, Nat.reduceEqDiff, Nat.reduceLeDiff, Nat.reduceAdd, Nat.reduceMul, Int.reduceLT, Int.reduceLE, Int.reduceToNat, BitVec.reduceOfInt, Nat.reduceBEq]; try rfl) (by kernel_rfl) rfl (by simp only [go_sem, ↓reduceIte, Nat.reduceLT, Nat.reduceEqDiff, Nat.reduceLeDiff, Nat.reduceAdd, Nat.reduceMul, Int.reduceLT, Int.reduceLE, Int.reduceToNat, BitVec.reduceOfInt, Nat.reduceBEq]; try rfl) ?_
  rintro v N' σ' ⟨hN', hI', hC'⟩
  refine al_end [] ?_
  exact ⟨_, rfl, by omega, hI'⟩
end Go.Proofs.Ytbpjoamdcbbnnaa
