/- The walk of package table's Compose. -/
import Derived.Test.YtbpjoamdcbbnnaaTabW7
set_option linter.unusedSimpArgs false
set_option linter.unusedVariables false
namespace Go.Proofs.Ytbpjoamdcbbnnaa
open Go.Abs Go.Tab
attribute [local go_sem] Try.underlying22 Try.underlying3 Try.underlying77 Try.underlying52 Try.underlying23 Try.underlying25 Try.underlying5 Try.underlying4 Try.underlying36 Try.underlying39 Try.underlying72 Try.underlying49 size22 size3 size23 size5 size4 size39 Nat.mul_one

def u64s (l : List (BitVec 64)) : List Value := l.map fun x => .int .u64 x.toNat
theorem u64s_len (l : List (BitVec 64)) : (u64s l).length = l.length := by simp [u64s]

theorem IndexFunc_gives (p : BitVec 64 → Bool) (l : List (BitVec 64)) (hl : l.length ≤ 1000000) (sv : Value) (N : Nat) (σ : AHeap) (hs : SlAt σ sv (u64s l)) (g : FuncId) (xs cs : Array Value) (hc : callableB Try.prog g = true)
    (hp : ∀ x : BitVec 64, AOk Try.prog g (xs.toList ++ [.int .u64 x.toNat] ++ cs.toList) N σ fun v N' σ' => v = .bool (p x) ∧ N' = N ∧ σ' = σ) :
    Gives Try.prog 67 [sv, .func (.func g) xs cs] N σ (.int .i64 (idxFrom p l 0)) := by
  have hsl := u64s_len l
  obtain ⟨bb, cc, hv⟩ := hs.len
  refine gives_of rfl (aok_body (n := 19) Try.func67 rfl rfl (by simp) ?_)
  subst hv
  rw [hsl] at hs ⊢
  refine awp_seq (awp_pures [0, 1, 4] (by simp only [go_sem, ↓reduceIte, Nat.reduceLT, Nat.reduceEqDiff, Nat.reduceLeDiff, Nat.reduceAdd, Nat.reduceMul, Int.reduceLT, Int.reduceLE, Int.reduceToNat, BitVec.reduceOfInt, Nat.reduceBEq]; try rfl) ?_)
  refine awp_seq ?_
  refine awp_seq (awp_pures [0, 1, 4, 7, 8] (by simp only [go_sem, ↓reduceIte, Nat.reduceLT, Nat.reduceEqDiff, Nat.reduceLeDiff, Nat.reduceAdd, Nat.reduceMul, Int.reduceLT, Int.reduceLE, Int.reduceToNat, BitVec.reduceOfInt, Nat.reduceBEq]; try rfl) ?_)
  refine awp_block (awp_loop ?_)
  refine ALoop.cast3 (aloop_ind (α := Nat) (fun j => j ≤ l.length ∧ idxFrom p l 0 = idxFrom p (l.drop j) j) (fun j => l.length - j)
    (fun j => [(0, .slice bb l.length cc), (1, .func (.func g) xs cs), (4, .int .i64 0), (7, .int .i64 l.length), (8, .int .i64 j)]) (fun _ => N) (fun _ => σ) ?_ 0 ⟨by simp, by simp⟩) rfl rfl rfl
  rintro j ⟨hj, hgo⟩ ih
  by_cases hlt : j < l.length
  · have hb : decide ((j : Int) < (l.length : Int)) = true := by simpa using hlt
    refine awp_seq (awp_pures [0, 1, 4, 7, 8, 9] (by simp only [go_sem, ↓reduceIte, Nat.reduceLT, Nat.reduceEqDiff, Nat.reduceLeDiff, Nat.reduceAdd, Nat.reduceMul, Int.reduceLT, Int.reduceLE, Int.reduceToNat, BitVec.reduceOfInt, Nat.reduceBEq, hb]; try rfl) ?_)
    refine awp_seq ?_
    refine awp_if rfl (fun _ => ?_) (fun h => by cases h)
    refine awp_skip ?_
    refine awp_seq (awp_block ?_)
    refine awp_seq (awp_pures [0, 1, 4, 5, 7, 8] (by simp only [go_sem, ↓reduceIte, Nat.reduceLT, Nat.reduceEqDiff, Nat.reduceLeDiff, Nat.reduceAdd, Nat.reduceMul, Int.reduceLT, Int.reduceLE, Int.reduceToNat, BitVec.reduceOfInt, Nat.reduceBEq]; try rfl) ?_)
    obtain ⟨id, off, cap, b, e1, e2, e3⟩ := hs.at (j := j) (by rw [hsl]; exact hlt)
    rw [hsl] at e1
    cases e1
    have hjj : 0 ≤ (j : Int) ∧ (j : Int) < (l.length : Int) := by omega
    have e3 : b.cells[off + j]? = some (.int .u64 (l[j]).toNat) := by rw [e3]; simp [u64s]
    rw [List.drop_eq_getElem_cons hlt, idxFrom] at hgo
    generalize l[j] = x at e3 hgo
    first | refine awp_seq (awp_lit ?_) | refine awp_lit ?_ | refine awp_seq (awp_seq (awp_lit ?_))
    refine al_pureN 4 (by simp only [go_sem, ↓reduceIte, Nat.reduceLT, Nat.reduceEqDiff, Nat.reduceLeDiff, Nat.reduceAdd, Nat.reduceMul, Int.reduceLT, Int.reduceLE, Int.reduceToNat, BitVec.reduceOfInt, Nat.reduceBEq, hjj]; try rfl) ?_
    refine al_load rfl (by simp only [go_sem, ↓reduceIte, Nat.reduceLT, Nat.reduceEqDiff, Nat.reduceLeDiff, Nat.reduceAdd, Nat.reduceMul, Int.reduceLT, Int.reduceLE, Int.reduceToNat, BitVec.reduceOfInt, Nat.reduceBEq]) rfl (by simp only [go_sem, ↓reduceIte, Nat.reduceLT, Nat.reduceEqDiff, Nat.reduceLeDiff, Nat.reduceAdd, Nat.reduceMul, Int.reduceLT, Int.reduceLE, Int.reduceToNat, BitVec.reduceOfInt, Nat.reduceBEq]; try rfl) e2 (loadA_scalar agg22 e3) ?_
    refine al_clo (hp x) rfl (by simp only [go_sem, ↓reduceIte, Nat.reduceLT, Nat.reduceEqDiff, Nat.reduceLeDiff, Nat.reduceAdd, Nat.reduceMul, Int.reduceLT, Int.reduceLE, Int.reduceToNat, BitVec.reduceOfInt, Nat.reduceBEq]; try rfl) (by simp only [go_sem, ↓reduceIte, Nat.reduceLT, Nat.reduceEqDiff, Nat.reduceLeDiff, Nat.reduceAdd, Nat.reduceMul, Int.reduceLT, Int.reduceLE, Int.reduceToNat, BitVec.reduceOfInt, Nat.reduceBEq]; try rfl) hc rfl (by simp only [go_sem, ↓reduceIte, Nat.reduceLT, Nat.reduceEqDiff, Nat.reduceLeDiff, Nat.reduceAdd, Nat.reduceMul, Int.reduceLT, Int.reduceLE, Int.reduceToNat, BitVec.reduceOfInt, Nat.reduceBEq]; try rfl) ?_
    rintro v N' σ' ⟨rfl, rfl, rfl⟩
    refine al_end [0, 1, 4, 5, 7, 8, 16] ?_
    cases h : p x with
    | true =>
      rw [h, if_pos rfl] at hgo
      refine awp_if rfl (fun _ => ?_) (fun h => by cases h)
      first | refine awp_seq (awp_lit ?_) | refine awp_lit ?_ | refine awp_seq (awp_seq (awp_lit ?_))
      refine al_pureN 2 (by simp only [go_sem, ↓reduceIte, Nat.reduceLT, Nat.reduceEqDiff, Nat.reduceLeDiff, Nat.reduceAdd, Nat.reduceMul, Int.reduceLT, Int.reduceLE, Int.reduceToNat, BitVec.reduceOfInt, Nat.reduceBEq]; try rfl) ?_
      refine al_end [4] ?_
      exact awp_ret ⟨_, rfl, by rw [hgo]; rfl, AHeap.le_refl _⟩
    | false =>
      rw [h, if_neg (by simp)] at hgo
      refine awp_if rfl (fun h => by cases h) (fun _ => ?_)
      refine awp_skip ?_
      refine awp_pures [0, 1, 4, 7, 8] (by simp only [go_sem, ↓reduceIte, Nat.reduceLT, Nat.reduceEqDiff, Nat.reduceLeDiff, Nat.reduceAdd, Nat.reduceMul, Int.reduceLT, Int.reduceLE, Int.reduceToNat, BitVec.reduceOfInt, Nat.reduceBEq, i64_add (show -9223372036854775808 ≤ (j : Int) + 1 ∧ (j : Int) + 1 ≤ 9223372036854775807 by omega)]; try rfl) ?_
      refine (ih (j + 1) ⟨hlt, hgo⟩ (by omega)).cast (by first | (simp only [go_sem, ↓reduceIte, Nat.reduceLT, Nat.reduceEqDiff, Nat.reduceLeDiff, Nat.reduceAdd, Nat.reduceMul, Int.reduceLT, Int.reduceLE, Int.reduceToNat, BitVec.reduceOfInt, Nat.reduceBEq]; try rfl) | rfl)
  · have hb : decide ((j : Int) < (l.length : Int)) = false := by simpa using hlt
    have hjl : j = l.length := by omega
    refine awp_seq (awp_pures [9] (by simp only [go_sem, ↓reduceIte, Nat.reduceLT, Nat.reduceEqDiff, Nat.reduceLeDiff, Nat.reduceAdd, Nat.reduceMul, Int.reduceLT, Int.reduceLE, Int.reduceToNat, BitVec.reduceOfInt, Nat.reduceBEq, hb]; try rfl) ?_)
    refine awp_seq ?_
    refine awp_if rfl (fun h => by cases h) (fun _ => ?_)
    refine awp_exit ?_
    simp only [Go.Abs.Seq, Go.Abs.Round, Go.Abs.InBlock, ↓reduceIte]
    refine awp_seq (awp_pures [4] (by simp only [go_sem, ↓reduceIte, Nat.reduceLT, Nat.reduceEqDiff, Nat.reduceLeDiff, Nat.reduceAdd, Nat.reduceMul, Int.reduceLT, Int.reduceLE, Int.reduceToNat, BitVec.reduceOfInt, Nat.reduceBEq]; try rfl) ?_)
    subst hjl
    rw [List.drop_length, idxFrom] at hgo
    exact awp_ret ⟨_, rfl, by rw [hgo]; rfl, AHeap.le_refl _⟩

theorem ContainsFunc_gives (p : BitVec 64 → Bool) (l : List (BitVec 64)) (hl : l.length ≤ 1000000) (sv : Value) (N : Nat) (σ : AHeap) (hs : SlAt σ sv (u64s l)) (g : FuncId) (xs cs : Array Value) (hc : callableB Try.prog g = true)
    (hp : ∀ x : BitVec 64, AOk Try.prog g (xs.toList ++ [.int .u64 x.toNat] ++ cs.toList) N σ fun v N' σ' => v = .bool (p x) ∧ N' = N ∧ σ' = σ) :
    Gives Try.prog 60 [sv, .func (.func g) xs cs] N σ (.bool (l.any p)) := by
  refine gives_of rfl (aok_body (n := 9) Try.func60 rfl rfl (by simp) ?_)
  refine awp_seq (awp_pures [0, 1, 4] (by simp only [go_sem, ↓reduceIte, Nat.reduceLT, Nat.reduceEqDiff, Nat.reduceLeDiff, Nat.reduceAdd, Nat.reduceMul, Int.reduceLT, Int.reduceLE, Int.reduceToNat, BitVec.reduceOfInt, Nat.reduceBEq]; try rfl) ?_)
  first | refine awp_seq (awp_lit ?_) | refine awp_lit ?_ | refine awp_seq (awp_seq (awp_lit ?_))
  refine al_pureN 2 (by simp only [go_sem, ↓reduceIte, Nat.reduceLT, Nat.reduceEqDiff, Nat.reduceLeDiff, Nat.reduceAdd, Nat.reduceMul, Int.reduceLT, Int.reduceLE, Int.reduceToNat, BitVec.reduceOfInt, Nat.reduceBEq]; try rfl) ?_
  refine al_gives (vs := ?vs1) (v := ?v1) rfl ?ha1 ?hh1 (by kernel_rfl) rfl (by simp only [go_sem, ↓reduceIte, Nat.reduceLT, Nat.reduceEqDiff, Nat.reduceLeDiff, Nat.reduceAdd, Nat.reduceMul, Int.reduceLT, Int.reduceLE, Int.reduceToNat, BitVec.reduceOfInt, Nat.reduceBEq]) ?kk1
  case ha1 => simp only [go_sem, ↓reduceIte, Nat.reduceLT, Nat.reduceEqDiff, Nat.reduceLeDiff, Nat.reduceAdd, Nat.reduceMul, Int.reduceLT, Int.reduceLE, Int.reduceToNat, BitVec.reduceOfInt, Nat.reduceBEq]; try rfl
  case hh1 => exact IndexFunc_gives p l hl _ _ _ hs g xs cs hc hp
  refine al_pureN 2 (by simp only [go_sem, ↓reduceIte, Nat.reduceLT, Nat.reduceEqDiff, Nat.reduceLeDiff, Nat.reduceAdd, Nat.reduceMul, Int.reduceLT, Int.reduceLE, Int.reduceToNat, BitVec.reduceOfInt, Nat.reduceBEq, idxFrom_ge]; try rfl) ?_
  refine al_end [4] ?_
  exact awp_ret ⟨_, rfl, rfl, AHeap.le_refl _⟩
theorem Compose1_ok (m : Int) (x : BitVec 64) (c N : Nat) (σ : AHeap) (hm : σ c = some ⟨[.int .i64 m], true, 1⟩) :
    Gives Try.prog 61 [.int .u64 x.toNat, ptr c] N σ (.bool (!validT x m)) := by
  refine gives_of rfl (aok_body (n := 8) Try.func61 rfl rfl (by simp) ?_)
  refine awp_seq (awp_pures [0, 1, 3] (by simp only [go_sem, ↓reduceIte, Nat.reduceLT, Nat.reduceEqDiff, Nat.reduceLeDiff, Nat.reduceAdd, Nat.reduceMul, Int.reduceLT, Int.reduceLE, Int.reduceToNat, BitVec.reduceOfInt, Nat.reduceBEq]; try rfl) ?_)
  first | refine awp_seq (awp_lit ?_) | refine awp_lit ?_ | refine awp_seq (awp_seq (awp_lit ?_))
  refine al_pureN 1 (by simp only [go_sem, ↓reduceIte, Nat.reduceLT, Nat.reduceEqDiff, Nat.reduceLeDiff, Nat.reduceAdd, Nat.reduceMul, Int.reduceLT, Int.reduceLE, Int.reduceToNat, BitVec.reduceOfInt, Nat.reduceBEq]; try rfl) ?_
  refine al_load rfl (by simp only [go_sem, ↓reduceIte, Nat.reduceLT, Nat.reduceEqDiff, Nat.reduceLeDiff, Nat.reduceAdd, Nat.reduceMul, Int.reduceLT, Int.reduceLE, Int.reduceToNat, BitVec.reduceOfInt, Nat.reduceBEq]) rfl (by simp only [go_sem, ↓reduceIte, Nat.reduceLT, Nat.reduceEqDiff, Nat.reduceLeDiff, Nat.reduceAdd, Nat.reduceMul, Int.reduceLT, Int.reduceLE, Int.reduceToNat, BitVec.reduceOfInt, Nat.reduceBEq]; try rfl) hm (loadA_scalar agg3 rfl) ?_
  refine al_gives (vs := ?vs2) (v := ?v2) rfl ?ha2 ?hh2 (by kernel_rfl) rfl (by simp only [go_sem, ↓reduceIte, Nat.reduceLT, Nat.reduceEqDiff, Nat.reduceLeDiff, Nat.reduceAdd, Nat.reduceMul, Int.reduceLT, Int.reduceLE, Int.reduceToNat, BitVec.reduceOfInt, Nat.reduceBEq]) ?kk2
  case ha2 => simp only [go_sem, ↓reduceIte, Nat.reduceLT, Nat.reduceEqDiff, Nat.reduceLeDiff, Nat.reduceAdd, Nat.reduceMul, Int.reduceLT, Int.reduceLE, Int.reduceToNat, BitVec.reduceOfInt, Nat.reduceBEq]; try rfl
  case hh2 => exact Valid_gives _ _ _ _
  refine al_pureN 2 (by simp only [go_sem, ↓reduceIte, Nat.reduceLT, Nat.reduceEqDiff, Nat.reduceLeDiff, Nat.reduceAdd, Nat.reduceMul, Int.reduceLT, Int.reduceLE, Int.reduceToNat, BitVec.reduceOfInt, Nat.reduceBEq]; try rfl) ?_
  refine al_end [3] ?_
  exact awp_ret ⟨_, rfl, rfl, AHeap.le_refl _⟩

theorem Compose_gives (t : BitVec 64) (m : Int) (l : List (BitVec 64)) (hl : l.length ≤ 1000000) (k : Int) (sv : Value) (N : Nat) (σ : AHeap) (hs : SlAt σ sv (u64s l)) :
    Gives Try.prog 27 [.int .u64 t.toNat, .int .i64 m, sv, .int .i64 k] N σ (tup2 (ComposeR t m l k)) := by
  have hsl := u64s_len l
  obtain ⟨bb, cc, hv⟩ := hs.len
  refine gives_of rfl (aok_fresh fun hN => aok_body (n := 69) Try.func27 rfl rfl (by simp) ?_)
  subst hv
  rw [hsl] at hs ⊢
  have hle : σ.le (σ.set N ⟨[.int .i64 k], true, 1⟩) := AHeap.le_set (AHeap.le_refl _) fun i b hb => Nat.ne_of_lt (hN i b hb)
  first | refine awp_seq (awp_lit ?_) | refine awp_lit ?_ | refine awp_seq (awp_seq (awp_lit ?_))
  refine al_box 1 rfl rfl rfl rfl ?_
  refine al_pureN 2 (by simp only [go_sem, ↓reduceIte, Nat.reduceLT, Nat.reduceEqDiff, Nat.reduceLeDiff, Nat.reduceAdd, Nat.reduceMul, Int.reduceLT, Int.reduceLE, Int.reduceToNat, BitVec.reduceOfInt, Nat.reduceBEq]; try rfl) ?_
  refine al_end [0, 1, 2, 7, 8, 9] ?_
  change AWp _ _ _ _ (N + 1) (σ.set N ⟨[.int .i64 k], true, 1⟩) _
  have hk : (σ.set N ⟨[.int .i64 k], true, 1⟩) N = some ⟨[.int .i64 k], true, 1⟩ := AHeap.set_self _ _ _
  have hs := hs.mono hle
  generalize σ.set N ⟨[.int .i64 k], true, 1⟩ = σ1 at hle hk hs ⊢
  cases hval : validT t m
  · refine awp_seq ?_
    refine awp_block ?_
    first | refine awp_seq (awp_lit ?_) | refine awp_lit ?_ | refine awp_seq (awp_seq (awp_lit ?_))
    refine al_pureN 2 (by simp only [go_sem, ↓reduceIte, Nat.reduceLT, Nat.reduceEqDiff, Nat.reduceLeDiff, Nat.reduceAdd, Nat.reduceMul, Int.reduceLT, Int.reduceLE, Int.reduceToNat, BitVec.reduceOfInt, Nat.reduceBEq]; try rfl) ?_
    refine al_gives (vs := ?vs3) (v := ?v3) rfl ?ha3 ?hh3 (by kernel_rfl) rfl (by simp only [go_sem, ↓reduceIte, Nat.reduceLT, Nat.reduceEqDiff, Nat.reduceLeDiff, Nat.reduceAdd, Nat.reduceMul, Int.reduceLT, Int.reduceLE, Int.reduceToNat, BitVec.reduceOfInt, Nat.reduceBEq]) ?kk3
    case ha3 => simp only [go_sem, ↓reduceIte, Nat.reduceLT, Nat.reduceEqDiff, Nat.reduceLeDiff, Nat.reduceAdd, Nat.reduceMul, Int.reduceLT, Int.reduceLE, Int.reduceToNat, BitVec.reduceOfInt, Nat.reduceBEq]; try rfl
    case hh3 => exact Valid_gives _ _ _ _
    rw [hval]
    refine al_pureN 2 (by simp only [go_sem, ↓reduceIte, Nat.reduceLT, Nat.reduceEqDiff, Nat.reduceLeDiff, Nat.reduceAdd, Nat.reduceMul, Int.reduceLT, Int.reduceLE, Int.reduceToNat, BitVec.reduceOfInt, Nat.reduceBEq]; try rfl) ?_
    refine al_end [15] ?_
    refine awp_if rfl (fun _ => ?_) (fun h => by cases h)
    refine awp_seq (awp_pures [8, 9] (by simp only [go_sem, ↓reduceIte, Nat.reduceLT, Nat.reduceEqDiff, Nat.reduceLeDiff, Nat.reduceAdd, Nat.reduceMul, Int.reduceLT, Int.reduceLE, Int.reduceToNat, BitVec.reduceOfInt, Nat.reduceBEq]; try rfl) ?_)
    exact awp_ret ⟨_, rfl, by simp only [ComposeR, hval, if_true]; rfl, hle⟩
  · obtain ⟨n, rfl, hn, ht⟩ := validT_iff.1 hval
    by_cases hlen : (l.length : Int) = n
    · have hb : ((l.length : Int) != (n : Int)) = false := by simpa using hlen
      have hlen' : l.length = n := by omega
      by_cases herr : validT 0#64 k = false ∨ l.any (fun a => !validT a k) = true
      · have hR : ComposeR t n l k = (0#64, 1) := by simp only [ComposeR, hval, hlen, herr]; simp
        rw [hR]
        refine awp_seq ?_
        refine awp_block ?_
        first | refine awp_seq (awp_lit ?_) | refine awp_lit ?_ | refine awp_seq (awp_seq (awp_lit ?_))
        refine al_pureN 2 (by simp only [go_sem, ↓reduceIte, Nat.reduceLT, Nat.reduceEqDiff, Nat.reduceLeDiff, Nat.reduceAdd, Nat.reduceMul, Int.reduceLT, Int.reduceLE, Int.reduceToNat, BitVec.reduceOfInt, Nat.reduceBEq]; try rfl) ?_
        refine al_gives (vs := ?vs4) (v := ?v4) rfl ?ha4 ?hh4 (by kernel_rfl) rfl (by simp only [go_sem, ↓reduceIte, Nat.reduceLT, Nat.reduceEqDiff, Nat.reduceLeDiff, Nat.reduceAdd, Nat.reduceMul, Int.reduceLT, Int.reduceLE, Int.reduceToNat, BitVec.reduceOfInt, Nat.reduceBEq]) ?kk4
        case ha4 => simp only [go_sem, ↓reduceIte, Nat.reduceLT, Nat.reduceEqDiff, Nat.reduceLeDiff, Nat.reduceAdd, Nat.reduceMul, Int.reduceLT, Int.reduceLE, Int.reduceToNat, BitVec.reduceOfInt, Nat.reduceBEq]; try rfl
        case hh4 => exact Valid_gives _ _ _ _
        rw [hval]
        refine al_pureN 2 (by simp only [go_sem, ↓reduceIte, Nat.reduceLT, Nat.reduceEqDiff, Nat.reduceLeDiff, Nat.reduceAdd, Nat.reduceMul, Int.reduceLT, Int.reduceLE, Int.reduceToNat, BitVec.reduceOfInt, Nat.reduceBEq]; try rfl) ?_
        refine al_end [0, 1, 2, 7, 15] ?_
        refine awp_if rfl (fun h => by cases h) (fun _ => ?_)
        refine awp_seq (awp_pures [0, 1, 2, 7, 20] (by simp only [go_sem, ↓reduceIte, Nat.reduceLT, Nat.reduceEqDiff, Nat.reduceLeDiff, Nat.reduceAdd, Nat.reduceMul, Int.reduceLT, Int.reduceLE, Int.reduceToNat, BitVec.reduceOfInt, Nat.reduceBEq, hb]; try rfl) ?_)
        refine awp_if rfl (fun h => by cases h) (fun _ => ?_)
        refine awp_mid [(25, .bool true)] (N + 1) σ1 ?_ ?_
        · refine awp_lit ?_
          refine al_load rfl (by simp only [go_sem, ↓reduceIte, Nat.reduceLT, Nat.reduceEqDiff, Nat.reduceLeDiff, Nat.reduceAdd, Nat.reduceMul, Int.reduceLT, Int.reduceLE, Int.reduceToNat, BitVec.reduceOfInt, Nat.reduceBEq]) rfl (by simp only [go_sem, ↓reduceIte, Nat.reduceLT, Nat.reduceEqDiff, Nat.reduceLeDiff, Nat.reduceAdd, Nat.reduceMul, Int.reduceLT, Int.reduceLE, Int.reduceToNat, BitVec.reduceOfInt, Nat.reduceBEq]; try rfl) hk (loadA_scalar agg3 rfl) ?_
          refine al_gives (vs := ?vs5) (v := ?v5) rfl ?ha5 ?hh5 (by kernel_rfl) rfl (by simp only [go_sem, ↓reduceIte, Nat.reduceLT, Nat.reduceEqDiff, Nat.reduceLeDiff, Nat.reduceAdd, Nat.reduceMul, Int.reduceLT, Int.reduceLE, Int.reduceToNat, BitVec.reduceOfInt, Nat.reduceBEq]) ?kk5
          case ha5 => simp only [go_sem, ↓reduceIte, Nat.reduceLT, Nat.reduceEqDiff, Nat.reduceLeDiff, Nat.reduceAdd, Nat.reduceMul, Int.reduceLT, Int.reduceLE, Int.reduceToNat, BitVec.reduceOfInt, Nat.reduceBEq]; try rfl
          case hh5 => exact Valid_gives 0#64 _ _ _
          cases h0 : validT 0#64 k with
          | false =>
            refine al_pureN 7 (by simp only [go_sem, ↓reduceIte, Nat.reduceLT, Nat.reduceEqDiff, Nat.reduceLeDiff, Nat.reduceAdd, Nat.reduceMul, Int.reduceLT, Int.reduceLE, Int.reduceToNat, BitVec.reduceOfInt, Nat.reduceBEq]; try rfl) ?_
            refine al_end [25] ?_
            exact meets [25] rfl (AHeap.le_refl _)
          | true =>
            have ha : l.any (fun a => !validT a k) = true := by rcases herr with h | h; rw [h0] at h; cases h; exact h
            refine al_pureN 4 (by simp only [go_sem, ↓reduceIte, Nat.reduceLT, Nat.reduceEqDiff, Nat.reduceLeDiff, Nat.reduceAdd, Nat.reduceMul, Int.reduceLT, Int.reduceLE, Int.reduceToNat, BitVec.reduceOfInt, Nat.reduceBEq]; try rfl) ?_
            refine al_gives (vs := ?vs6) (v := ?v6) rfl ?ha6 ?hh6 (by kernel_rfl) rfl (by simp only [go_sem, ↓reduceIte, Nat.reduceLT, Nat.reduceEqDiff, Nat.reduceLeDiff, Nat.reduceAdd, Nat.reduceMul, Int.reduceLT, Int.reduceLE, Int.reduceToNat, BitVec.reduceOfInt, Nat.reduceBEq]) ?kk6
            case ha6 => simp only [go_sem, ↓reduceIte, Nat.reduceLT, Nat.reduceEqDiff, Nat.reduceLeDiff, Nat.reduceAdd, Nat.reduceMul, Int.reduceLT, Int.reduceLE, Int.reduceToNat, BitVec.reduceOfInt, Nat.reduceBEq]; try rfl
            case hh6 => exact ContainsFunc_gives (fun a => !validT a k) l hl _ _ _ hs 61 #[] #[ptr N] (by kernel_rfl) (fun x => by have h := Compose1_ok k x N (N + 1) σ1 hk; unfold Gives at h; exact h)
            rw [ha]
            refine al_pureN 2 (by simp only [go_sem, ↓reduceIte, Nat.reduceLT, Nat.reduceEqDiff, Nat.reduceLeDiff, Nat.reduceAdd, Nat.reduceMul, Int.reduceLT, Int.reduceLE, Int.reduceToNat, BitVec.reduceOfInt, Nat.reduceBEq]; try rfl) ?_
            refine al_end [25] ?_
            exact meets [25] rfl (AHeap.le_refl _)
        · refine awp_if rfl (fun _ => ?_) (fun h => by cases h)
          refine awp_seq (awp_pures [8, 9] (by simp only [go_sem, ↓reduceIte, Nat.reduceLT, Nat.reduceEqDiff, Nat.reduceLeDiff, Nat.reduceAdd, Nat.reduceMul, Int.reduceLT, Int.reduceLE, Int.reduceToNat, BitVec.reduceOfInt, Nat.reduceBEq]; try rfl) ?_)
          exact awp_ret ⟨_, rfl, rfl, hle⟩
      · have h0 : validT 0#64 k = true := by cases h : validT 0#64 k with | true => rfl | false => exact absurd (.inl h) herr
        have ha : l.any (fun a => !validT a k) = false := by cases h : l.any (fun a => !validT a k) with | false => rfl | true => exact absurd (.inr h) herr
        have hR : ComposeR t n l k = (compGo t l (maskT (lim k)) (2 ^ n) 0 0#64, 0) := by simp only [ComposeR, hval, hlen, herr]; simp
        rw [hR]
        refine awp_seq ?_
        refine awp_block ?_
        first | refine awp_seq (awp_lit ?_) | refine awp_lit ?_ | refine awp_seq (awp_seq (awp_lit ?_))
        refine al_pureN 2 (by simp only [go_sem, ↓reduceIte, Nat.reduceLT, Nat.reduceEqDiff, Nat.reduceLeDiff, Nat.reduceAdd, Nat.reduceMul, Int.reduceLT, Int.reduceLE, Int.reduceToNat, BitVec.reduceOfInt, Nat.reduceBEq]; try rfl) ?_
        refine al_gives (vs := ?vs7) (v := ?v7) rfl ?ha7 ?hh7 (by kernel_rfl) rfl (by simp only [go_sem, ↓reduceIte, Nat.reduceLT, Nat.reduceEqDiff, Nat.reduceLeDiff, Nat.reduceAdd, Nat.reduceMul, Int.reduceLT, Int.reduceLE, Int.reduceToNat, BitVec.reduceOfInt, Nat.reduceBEq]) ?kk7
        case ha7 => simp only [go_sem, ↓reduceIte, Nat.reduceLT, Nat.reduceEqDiff, Nat.reduceLeDiff, Nat.reduceAdd, Nat.reduceMul, Int.reduceLT, Int.reduceLE, Int.reduceToNat, BitVec.reduceOfInt, Nat.reduceBEq]; try rfl
        case hh7 => exact Valid_gives _ _ _ _
        rw [hval]
        refine al_pureN 2 (by simp only [go_sem, ↓reduceIte, Nat.reduceLT, Nat.reduceEqDiff, Nat.reduceLeDiff, Nat.reduceAdd, Nat.reduceMul, Int.reduceLT, Int.reduceLE, Int.reduceToNat, BitVec.reduceOfInt, Nat.reduceBEq]; try rfl) ?_
        refine al_end [0, 1, 2, 7, 15] ?_
        refine awp_if rfl (fun h => by cases h) (fun _ => ?_)
        refine awp_seq (awp_pures [0, 1, 2, 7, 20] (by simp only [go_sem, ↓reduceIte, Nat.reduceLT, Nat.reduceEqDiff, Nat.reduceLeDiff, Nat.reduceAdd, Nat.reduceMul, Int.reduceLT, Int.reduceLE, Int.reduceToNat, BitVec.reduceOfInt, Nat.reduceBEq, hb]; try rfl) ?_)
        refine awp_if rfl (fun h => by cases h) (fun _ => ?_)
        first | refine awp_seq (awp_lit ?_) | refine awp_lit ?_ | refine awp_seq (awp_seq (awp_lit ?_))
        refine al_load rfl (by simp only [go_sem, ↓reduceIte, Nat.reduceLT, Nat.reduceEqDiff, Nat.reduceLeDiff, Nat.reduceAdd, Nat.reduceMul, Int.reduceLT, Int.reduceLE, Int.reduceToNat, BitVec.reduceOfInt, Nat.reduceBEq]) rfl (by simp only [go_sem, ↓reduceIte, Nat.reduceLT, Nat.reduceEqDiff, Nat.reduceLeDiff, Nat.reduceAdd, Nat.reduceMul, Int.reduceLT, Int.reduceLE, Int.reduceToNat, BitVec.reduceOfInt, Nat.reduceBEq]; try rfl) hk (loadA_scalar agg3 rfl) ?_
        refine al_gives (vs := ?vs8) (v := ?v8) rfl ?ha8 ?hh8 (by kernel_rfl) rfl (by simp only [go_sem, ↓reduceIte, Nat.reduceLT, Nat.reduceEqDiff, Nat.reduceLeDiff, Nat.reduceAdd, Nat.reduceMul, Int.reduceLT, Int.reduceLE, Int.reduceToNat, BitVec.reduceOfInt, Nat.reduceBEq]) ?kk8
        case ha8 => simp only [go_sem, ↓reduceIte, Nat.reduceLT, Nat.reduceEqDiff, Nat.reduceLeDiff, Nat.reduceAdd, Nat.reduceMul, Int.reduceLT, Int.reduceLE, Int.reduceToNat, BitVec.reduceOfInt, Nat.reduceBEq]; try rfl
        case hh8 => exact Valid_gives 0#64 _ _ _
        rw [h0]
        refine al_pureN 4 (by simp only [go_sem, ↓reduceIte, Nat.reduceLT, Nat.reduceEqDiff, Nat.reduceLeDiff, Nat.reduceAdd, Nat.reduceMul, Int.reduceLT, Int.reduceLE, Int.reduceToNat, BitVec.reduceOfInt, Nat.reduceBEq]; try rfl) ?_
        refine al_gives (vs := ?vs9) (v := ?v9) rfl ?ha9 ?hh9 (by kernel_rfl) rfl (by simp only [go_sem, ↓reduceIte, Nat.reduceLT, Nat.reduceEqDiff, Nat.reduceLeDiff, Nat.reduceAdd, Nat.reduceMul, Int.reduceLT, Int.reduceLE, Int.reduceToNat, BitVec.reduceOfInt, Nat.reduceBEq]) ?kk9
        case ha9 => simp only [go_sem, ↓reduceIte, Nat.reduceLT, Nat.reduceEqDiff, Nat.reduceLeDiff, Nat.reduceAdd, Nat.reduceMul, Int.reduceLT, Int.reduceLE, Int.reduceToNat, BitVec.reduceOfInt, Nat.reduceBEq]; try rfl
        case hh9 => exact ContainsFunc_gives (fun a => !validT a k) l hl _ _ _ hs 61 #[] #[ptr N] (by kernel_rfl) (fun x => by have h := Compose1_ok k x N (N + 1) σ1 hk; unfold Gives at h; exact h)
        rw [ha]
        refine al_pureN 2 (by simp only [go_sem, ↓reduceIte, Nat.reduceLT, Nat.reduceEqDiff, Nat.reduceLeDiff, Nat.reduceAdd, Nat.reduceMul, Int.reduceLT, Int.reduceLE, Int.reduceToNat, BitVec.reduceOfInt, Nat.reduceBEq]; try rfl) ?_
        refine al_end [0, 1, 2, 7, 25] ?_
        refine awp_if rfl (fun h => by cases h) (fun _ => ?_)
        refine awp_skip ?_
        refine awp_seq (awp_pures [0, 1, 2, 7, 10] (by simp only [go_sem, ↓reduceIte, Nat.reduceLT, Nat.reduceEqDiff, Nat.reduceLeDiff, Nat.reduceAdd, Nat.reduceMul, Int.reduceLT, Int.reduceLE, Int.reduceToNat, BitVec.reduceOfInt, Nat.reduceBEq]; try rfl) ?_)
        have h64 := two_pow_le6 hn
        refine awp_seq ?_
        refine awp_seq (awp_pures [0, 2, 7, 10, 35, 36] (by simp only [go_sem, ↓reduceIte, Nat.reduceLT, Nat.reduceEqDiff, Nat.reduceLeDiff, Nat.reduceAdd, Nat.reduceMul, Int.reduceLT, Int.reduceLE, Int.reduceToNat, BitVec.reduceOfInt, Nat.reduceBEq, i64_shl_one (show n ≤ 62 by omega)]; try rfl) ?_)
        refine awp_block (awp_loop ?_)
        refine ALoop.cast3 (aloop_ind (α := Nat × BitVec 64) (fun x => x.1 ≤ 2 ^ n ∧ compGo t l (maskT (lim k)) (2 ^ n) 0 0#64 = compGo t l (maskT (lim k)) (2 ^ n - x.1) x.1 x.2) (fun x => 2 ^ n - x.1)
          (fun x => [(0, .int .u64 t.toNat), (2, .slice bb l.length cc), (7, ptr N), (10, .int .u64 x.2.toNat), (35, .int .i64 (2 ^ n : Nat)), (36, .int .i64 x.1)]) (fun _ => N + 1) (fun _ => σ1) ?_ (0, 0#64) ⟨by simp, rfl⟩) rfl rfl rfl
        rintro ⟨j, out⟩ ⟨hj, hgo⟩ ih
        simp only at hj hgo
        by_cases hlt : j < 2 ^ n
        · have hb1 : decide ((j : Int) < (2 ^ n : Nat)) = true := decide_eq_true (Int.ofNat_lt.2 hlt)
          rw [show 2 ^ n - j = (2 ^ n - (j + 1)) + 1 from by omega, compGo] at hgo
          refine awp_seq (awp_pures [0, 2, 7, 10, 35, 36, 37] (by simp only [go_sem, ↓reduceIte, Nat.reduceLT, Nat.reduceEqDiff, Nat.reduceLeDiff, Nat.reduceAdd, Nat.reduceMul, Int.reduceLT, Int.reduceLE, Int.reduceToNat, BitVec.reduceOfInt, Nat.reduceBEq, hb1]; try rfl) ?_)
          refine awp_seq ?_
          refine awp_if rfl (fun _ => ?_) (fun h => by cases h)
          refine awp_skip ?_
          refine awp_seq (awp_block ?_)
          refine awp_seq (awp_pures [0, 2, 7, 10, 11, 35, 36] (by simp only [go_sem, ↓reduceIte, Nat.reduceLT, Nat.reduceEqDiff, Nat.reduceLeDiff, Nat.reduceAdd, Nat.reduceMul, Int.reduceLT, Int.reduceLE, Int.reduceToNat, BitVec.reduceOfInt, Nat.reduceBEq]; try rfl) ?_)
          cases hev : evT t j with
          | false =>
            rw [hev, if_neg (by simp)] at hgo
            refine awp_seq ?_
            first | refine awp_seq (awp_lit ?_) | refine awp_lit ?_ | refine awp_seq (awp_seq (awp_lit ?_))
            refine al_pureN 2 (by simp only [go_sem, ↓reduceIte, Nat.reduceLT, Nat.reduceEqDiff, Nat.reduceLeDiff, Nat.reduceAdd, Nat.reduceMul, Int.reduceLT, Int.reduceLE, Int.reduceToNat, BitVec.reduceOfInt, Nat.reduceBEq]; try rfl) ?_
            refine al_gives (vs := ?vs10) (v := ?v10) rfl ?ha10 ?hh10 (by kernel_rfl) rfl (by simp only [go_sem, ↓reduceIte, Nat.reduceLT, Nat.reduceEqDiff, Nat.reduceLeDiff, Nat.reduceAdd, Nat.reduceMul, Int.reduceLT, Int.reduceLE, Int.reduceToNat, BitVec.reduceOfInt, Nat.reduceBEq]) ?kk10
            case ha10 => simp only [go_sem, ↓reduceIte, Nat.reduceLT, Nat.reduceEqDiff, Nat.reduceLeDiff, Nat.reduceAdd, Nat.reduceMul, Int.reduceLT, Int.reduceLE, Int.reduceToNat, BitVec.reduceOfInt, Nat.reduceBEq]; try rfl
            case hh10 => exact Eval_gives _ _ _ _
            rw [hev]
            refine al_pureN 1 (by simp only [go_sem, ↓reduceIte, Nat.reduceLT, Nat.reduceEqDiff, Nat.reduceLeDiff, Nat.reduceAdd, Nat.reduceMul, Int.reduceLT, Int.reduceLE, Int.reduceToNat, BitVec.reduceOfInt, Nat.reduceBEq]; try rfl) ?_
            refine al_end [0, 2, 7, 10, 35, 36, 42] ?_
            refine awp_if rfl (fun _ => ?_) (fun h => by cases h)
            refine awp_exit ?_
            simp only [Go.Abs.Seq, Go.Abs.Round, Go.Abs.InBlock, ↓reduceIte]
            refine awp_pures [0, 2, 7, 10, 35, 36] (by simp only [go_sem, ↓reduceIte, Nat.reduceLT, Nat.reduceEqDiff, Nat.reduceLeDiff, Nat.reduceAdd, Nat.reduceMul, Int.reduceLT, Int.reduceLE, Int.reduceToNat, BitVec.reduceOfInt, Nat.reduceBEq, i64_add (show -9223372036854775808 ≤ (j : Int) + 1 ∧ (j : Int) + 1 ≤ 9223372036854775807 by omega)]; try rfl) ?_
            refine (ih (j + 1, out) ⟨hlt, hgo⟩ (by simp; omega)).cast (by first | (simp only [go_sem, ↓reduceIte, Nat.reduceLT, Nat.reduceEqDiff, Nat.reduceLeDiff, Nat.reduceAdd, Nat.reduceMul, Int.reduceLT, Int.reduceLE, Int.reduceToNat, BitVec.reduceOfInt, Nat.reduceBEq]; try rfl) | rfl)
          | true =>
            rw [hev, if_pos rfl] at hgo
            refine awp_seq ?_
            first | refine awp_seq (awp_lit ?_) | refine awp_lit ?_ | refine awp_seq (awp_seq (awp_lit ?_))
            refine al_pureN 2 (by simp only [go_sem, ↓reduceIte, Nat.reduceLT, Nat.reduceEqDiff, Nat.reduceLeDiff, Nat.reduceAdd, Nat.reduceMul, Int.reduceLT, Int.reduceLE, Int.reduceToNat, BitVec.reduceOfInt, Nat.reduceBEq]; try rfl) ?_
            refine al_gives (vs := ?vs11) (v := ?v11) rfl ?ha11 ?hh11 (by kernel_rfl) rfl (by simp only [go_sem, ↓reduceIte, Nat.reduceLT, Nat.reduceEqDiff, Nat.reduceLeDiff, Nat.reduceAdd, Nat.reduceMul, Int.reduceLT, Int.reduceLE, Int.reduceToNat, BitVec.reduceOfInt, Nat.reduceBEq]) ?kk11
            case ha11 => simp only [go_sem, ↓reduceIte, Nat.reduceLT, Nat.reduceEqDiff, Nat.reduceLeDiff, Nat.reduceAdd, Nat.reduceMul, Int.reduceLT, Int.reduceLE, Int.reduceToNat, BitVec.reduceOfInt, Nat.reduceBEq]; try rfl
            case hh11 => exact Eval_gives _ _ _ _
            rw [hev]
            refine al_pureN 1 (by simp only [go_sem, ↓reduceIte, Nat.reduceLT, Nat.reduceEqDiff, Nat.reduceLeDiff, Nat.reduceAdd, Nat.reduceMul, Int.reduceLT, Int.reduceLE, Int.reduceToNat, BitVec.reduceOfInt, Nat.reduceBEq]; try rfl) ?_
            refine al_end [0, 2, 7, 10, 11, 35, 36, 42] ?_
            refine awp_if rfl (fun h => by cases h) (fun _ => ?_)
            refine awp_skip ?_
            first | refine awp_seq (awp_lit ?_) | refine awp_lit ?_ | refine awp_seq (awp_seq (awp_lit ?_))
            refine al_load rfl (by simp only [go_sem, ↓reduceIte, Nat.reduceLT, Nat.reduceEqDiff, Nat.reduceLeDiff, Nat.reduceAdd, Nat.reduceMul, Int.reduceLT, Int.reduceLE, Int.reduceToNat, BitVec.reduceOfInt, Nat.reduceBEq]) rfl (by simp only [go_sem, ↓reduceIte, Nat.reduceLT, Nat.reduceEqDiff, Nat.reduceLeDiff, Nat.reduceAdd, Nat.reduceMul, Int.reduceLT, Int.reduceLE, Int.reduceToNat, BitVec.reduceOfInt, Nat.reduceBEq]; try rfl) hk (loadA_scalar agg3 rfl) ?_
            refine al_gives (vs := ?vs12) (v := ?v12) rfl ?ha12 ?hh12 (by kernel_rfl) rfl (by simp only [go_sem, ↓reduceIte, Nat.reduceLT, Nat.reduceEqDiff, Nat.reduceLeDiff, Nat.reduceAdd, Nat.reduceMul, Int.reduceLT, Int.reduceLE, Int.reduceToNat, BitVec.reduceOfInt, Nat.reduceBEq]) ?kk12
            case ha12 => simp only [go_sem, ↓reduceIte, Nat.reduceLT, Nat.reduceEqDiff, Nat.reduceLeDiff, Nat.reduceAdd, Nat.reduceMul, Int.reduceLT, Int.reduceLE, Int.reduceToNat, BitVec.reduceOfInt, Nat.reduceBEq]; try rfl
            case hh12 => exact Mask_gives _ _ _
            refine al_pureN 1 (by simp only [go_sem, ↓reduceIte, Nat.reduceLT, Nat.reduceEqDiff, Nat.reduceLeDiff, Nat.reduceAdd, Nat.reduceMul, Int.reduceLT, Int.reduceLE, Int.reduceToNat, BitVec.reduceOfInt, Nat.reduceBEq]; try rfl) ?_
            refine al_end [0, 2, 7, 10, 11, 12, 35, 36] ?_
            refine awp_seq ?_
            refine awp_seq (awp_pures [0, 2, 7, 10, 11, 12, 35, 36, 45, 46, 47] (by simp only [go_sem, ↓reduceIte, Nat.reduceLT, Nat.reduceEqDiff, Nat.reduceLeDiff, Nat.reduceAdd, Nat.reduceMul, Int.reduceLT, Int.reduceLE, Int.reduceToNat, BitVec.reduceOfInt, Nat.reduceBEq]; try rfl) ?_)
            refine awp_block (awp_loop ?_)
            refine ALoop.cast3 (aloop_ind (α := Nat × BitVec 64) (fun x => x.1 ≤ l.length ∧ prodGo j l 0 (maskT (lim k)) = prodGo j (l.drop x.1) x.1 x.2) (fun x => l.length - x.1)
              (fun x => [(0, .int .u64 t.toNat), (2, .slice bb l.length cc), (7, ptr N), (10, .int .u64 out.toNat), (11, .int .i64 j), (12, .int .u64 x.2.toNat), (35, .int .i64 (2 ^ n : Nat)), (36, .int .i64 j), (45, .slice bb l.length cc), (46, .int .i64 l.length), (47, .int .i64 x.1)]) (fun _ => N + 1) (fun _ => σ1) ?_ (0, maskT (lim k)) ⟨by simp, by simp⟩) rfl rfl rfl
            rintro ⟨i, u⟩ ⟨hi, hpo⟩ ih2
            simp only at hi hpo
            by_cases hil : i < l.length
            · have hb2 : decide ((i : Int) < (l.length : Int)) = true := by simpa using hil
              obtain ⟨id, off, cap, b, e1, e2, e3⟩ := hs.at (j := i) (by rw [hsl]; exact hil)
              rw [hsl] at e1
              cases e1
              have hii : 0 ≤ (i : Int) ∧ (i : Int) < (l.length : Int) := by omega
              have e3 : b.cells[off + i]? = some (.int .u64 (l[i]).toNat) := by rw [e3]; simp [u64s]
              rw [List.drop_eq_getElem_cons hil, prodGo] at hpo
              generalize l[i] = a at e3 hpo
              have hj63 : j < 9223372036854775808 := by omega
              have hjs : j >>> i < 9223372036854775808 := shr_lt hj63
              refine awp_seq (awp_pures [0, 2, 7, 10, 11, 12, 35, 36, 45, 46, 47, 48] (by simp only [go_sem, ↓reduceIte, Nat.reduceLT, Nat.reduceEqDiff, Nat.reduceLeDiff, Nat.reduceAdd, Nat.reduceMul, Int.reduceLT, Int.reduceLE, Int.reduceToNat, BitVec.reduceOfInt, Nat.reduceBEq, hb2]; try rfl) ?_)
              refine awp_seq ?_
              refine awp_if rfl (fun _ => ?_) (fun h => by cases h)
              refine awp_skip ?_
              refine awp_seq (awp_block ?_)
              first | refine awp_seq (awp_lit ?_) | refine awp_lit ?_ | refine awp_seq (awp_seq (awp_lit ?_))
              refine al_pureN 2 (by simp only [go_sem, ↓reduceIte, Nat.reduceLT, Nat.reduceEqDiff, Nat.reduceLeDiff, Nat.reduceAdd, Nat.reduceMul, Int.reduceLT, Int.reduceLE, Int.reduceToNat, BitVec.reduceOfInt, Nat.reduceBEq, hii]; try rfl) ?_
              refine al_load rfl (by simp only [go_sem, ↓reduceIte, Nat.reduceLT, Nat.reduceEqDiff, Nat.reduceLeDiff, Nat.reduceAdd, Nat.reduceMul, Int.reduceLT, Int.reduceLE, Int.reduceToNat, BitVec.reduceOfInt, Nat.reduceBEq]) rfl (by simp only [go_sem, ↓reduceIte, Nat.reduceLT, Nat.reduceEqDiff, Nat.reduceLeDiff, Nat.reduceAdd, Nat.reduceMul, Int.reduceLT, Int.reduceLE, Int.reduceToNat, BitVec.reduceOfInt, Nat.reduceBEq]; try rfl) e2 (loadA_scalar agg22 e3) ?_
              refine al_pureN 2 (by simp only [go_sem, ↓reduceIte, Nat.reduceLT, Nat.reduceEqDiff, Nat.reduceLeDiff, Nat.reduceAdd, Nat.reduceMul, Int.reduceLT, Int.reduceLE, Int.reduceToNat, BitVec.reduceOfInt, Nat.reduceBEq]; try rfl) ?_
              refine al_end [0, 2, 7, 10, 11, 12, 13, 14, 35, 36, 45, 46, 47] ?_
              cases htb : j.testBit i with
              | true =>
                rw [htb, if_pos rfl] at hpo
                refine awp_seq (awp_pures [0, 2, 7, 10, 11, 12, 14, 35, 36, 45, 46, 47, 56] (by simp only [go_sem, ↓reduceIte, Nat.reduceLT, Nat.reduceEqDiff, Nat.reduceLeDiff, Nat.reduceAdd, Nat.reduceMul, Int.reduceLT, Int.reduceLE, Int.reduceToNat, BitVec.reduceOfInt, Nat.reduceBEq, i64_shr, hj63, i64_and_one, hjs, testBit_mod, htb]; try rfl) ?_)
                refine awp_if rfl (fun _ => ?_) (fun h => by cases h)
                refine awp_pures [0, 2, 7, 10, 11, 12, 35, 36, 45, 46, 47] (by simp only [go_sem, ↓reduceIte, Nat.reduceLT, Nat.reduceEqDiff, Nat.reduceLeDiff, Nat.reduceAdd, Nat.reduceMul, Int.reduceLT, Int.reduceLE, Int.reduceToNat, BitVec.reduceOfInt, Nat.reduceBEq]; try rfl) ?_
                refine awp_pures [0, 2, 7, 10, 11, 12, 35, 36, 45, 46, 47] (by simp only [go_sem, ↓reduceIte, Nat.reduceLT, Nat.reduceEqDiff, Nat.reduceLeDiff, Nat.reduceAdd, Nat.reduceMul, Int.reduceLT, Int.reduceLE, Int.reduceToNat, BitVec.reduceOfInt, Nat.reduceBEq, i64_add (show -9223372036854775808 ≤ (i : Int) + 1 ∧ (i : Int) + 1 ≤ 9223372036854775807 by omega)]; try rfl) ?_
                refine (ih2 (i + 1, u &&& a) ⟨hil, hpo⟩ (by simp; omega)).cast (by first | (simp only [go_sem, ↓reduceIte, Nat.reduceLT, Nat.reduceEqDiff, Nat.reduceLeDiff, Nat.reduceAdd, Nat.reduceMul, Int.reduceLT, Int.reduceLE, Int.reduceToNat, BitVec.reduceOfInt, Nat.reduceBEq]; try rfl) | rfl)
              | false =>
                rw [htb, if_neg (by simp)] at hpo
                refine awp_seq (awp_pures [0, 2, 7, 10, 11, 12, 14, 35, 36, 45, 46, 47, 56] (by simp only [go_sem, ↓reduceIte, Nat.reduceLT, Nat.reduceEqDiff, Nat.reduceLeDiff, Nat.reduceAdd, Nat.reduceMul, Int.reduceLT, Int.reduceLE, Int.reduceToNat, BitVec.reduceOfInt, Nat.reduceBEq, i64_shr, hj63, i64_and_one, hjs, testBit_mod, htb]; try rfl) ?_)
                refine awp_if rfl (fun h => by cases h) (fun _ => ?_)
                refine awp_pures [0, 2, 7, 10, 11, 12, 35, 36, 45, 46, 47] (by simp only [go_sem, ↓reduceIte, Nat.reduceLT, Nat.reduceEqDiff, Nat.reduceLeDiff, Nat.reduceAdd, Nat.reduceMul, Int.reduceLT, Int.reduceLE, Int.reduceToNat, BitVec.reduceOfInt, Nat.reduceBEq]; try rfl) ?_
                refine awp_pures [0, 2, 7, 10, 11, 12, 35, 36, 45, 46, 47] (by simp only [go_sem, ↓reduceIte, Nat.reduceLT, Nat.reduceEqDiff, Nat.reduceLeDiff, Nat.reduceAdd, Nat.reduceMul, Int.reduceLT, Int.reduceLE, Int.reduceToNat, BitVec.reduceOfInt, Nat.reduceBEq, i64_add (show -9223372036854775808 ≤ (i : Int) + 1 ∧ (i : Int) + 1 ≤ 9223372036854775807 by omega)]; try rfl) ?_
                refine (ih2 (i + 1, u &&& ~~~ a) ⟨hil, hpo⟩ (by simp; omega)).cast (by first | (simp only [go_sem, ↓reduceIte, Nat.reduceLT, Nat.reduceEqDiff, Nat.reduceLeDiff, Nat.reduceAdd, Nat.reduceMul, Int.reduceLT, Int.reduceLE, Int.reduceToNat, BitVec.reduceOfInt, Nat.reduceBEq]; try rfl) | rfl)
            · have hb2 : decide ((i : Int) < (l.length : Int)) = false := by simpa using hil
              have hil2 : i = l.length := by omega
              refine awp_seq (awp_pures [0, 2, 7, 10, 12, 35, 36, 48] (by simp only [go_sem, ↓reduceIte, Nat.reduceLT, Nat.reduceEqDiff, Nat.reduceLeDiff, Nat.reduceAdd, Nat.reduceMul, Int.reduceLT, Int.reduceLE, Int.reduceToNat, BitVec.reduceOfInt, Nat.reduceBEq, hb2]; try rfl) ?_)
              refine awp_seq ?_
              refine awp_if rfl (fun h => by cases h) (fun _ => ?_)
              refine awp_exit ?_
              simp only [Go.Abs.Seq, Go.Abs.Round, Go.Abs.InBlock, ↓reduceIte]
              subst hil2
              rw [List.drop_length, prodGo] at hpo
              refine awp_pures [0, 2, 7, 10, 35, 36] (by simp only [go_sem, ↓reduceIte, Nat.reduceLT, Nat.reduceEqDiff, Nat.reduceLeDiff, Nat.reduceAdd, Nat.reduceMul, Int.reduceLT, Int.reduceLE, Int.reduceToNat, BitVec.reduceOfInt, Nat.reduceBEq]; try rfl) ?_
              refine awp_pures [0, 2, 7, 10, 35, 36] (by simp only [go_sem, ↓reduceIte, Nat.reduceLT, Nat.reduceEqDiff, Nat.reduceLeDiff, Nat.reduceAdd, Nat.reduceMul, Int.reduceLT, Int.reduceLE, Int.reduceToNat, BitVec.reduceOfInt, Nat.reduceBEq, i64_add (show -9223372036854775808 ≤ (j : Int) + 1 ∧ (j : Int) + 1 ≤ 9223372036854775807 by omega)]; try rfl) ?_
              refine (ih (j + 1, out ||| u) ⟨hlt, by rw [hgo, hpo]⟩ (by simp; omega)).cast (by first | (simp only [go_sem, ↓reduceIte, Nat.reduceLT, Nat.reduceEqDiff, Nat.reduceLeDiff, Nat.reduceAdd, Nat.reduceMul, Int.reduceLT, Int.reduceLE, Int.reduceToNat, BitVec.reduceOfInt, Nat.reduceBEq]; try rfl) | rfl)
        · have hb1 : decide ((j : Int) < (2 ^ n : Nat)) = false := decide_eq_false fun h => hlt (Int.ofNat_lt.1 h)
          have hj2 : j = 2 ^ n := by omega
          refine awp_seq (awp_pures [10, 37] (by simp only [go_sem, ↓reduceIte, Nat.reduceLT, Nat.reduceEqDiff, Nat.reduceLeDiff, Nat.reduceAdd, Nat.reduceMul, Int.reduceLT, Int.reduceLE, Int.reduceToNat, BitVec.reduceOfInt, Nat.reduceBEq, hb1]; try rfl) ?_)
          refine awp_seq ?_
          refine awp_if rfl (fun h => by cases h) (fun _ => ?_)
          refine awp_exit ?_
          simp only [Go.Abs.Seq, Go.Abs.Round, Go.Abs.InBlock, ↓reduceIte]
          refine awp_seq (awp_pures [8, 9] (by simp only [go_sem, ↓reduceIte, Nat.reduceLT, Nat.reduceEqDiff, Nat.reduceLeDiff, Nat.reduceAdd, Nat.reduceMul, Int.reduceLT, Int.reduceLE, Int.reduceToNat, BitVec.reduceOfInt, Nat.reduceBEq]; try rfl) ?_)
          rw [hj2, Nat.sub_self, compGo] at hgo
          exact awp_ret ⟨_, rfl, by rw [hgo]; rfl, hle⟩
    · have hb : ((l.length : Int) != (n : Int)) = true := by simpa using hlen
      refine awp_seq ?_
      refine awp_block ?_
      first | refine awp_seq (awp_lit ?_) | refine awp_lit ?_ | refine awp_seq (awp_seq (awp_lit ?_))
      refine al_pureN 2 (by simp only [go_sem, ↓reduceIte, Nat.reduceLT, Nat.reduceEqDiff, Nat.reduceLeDiff, Nat.reduceAdd, Nat.reduceMul, Int.reduceLT, Int.reduceLE, Int.reduceToNat, BitVec.reduceOfInt, Nat.reduceBEq]; try rfl) ?_
      refine al_gives (vs := ?vs13) (v := ?v13) rfl ?ha13 ?hh13 (by kernel_rfl) rfl (by simp only [go_sem, ↓reduceIte, Nat.reduceLT, Nat.reduceEqDiff, Nat.reduceLeDiff, Nat.reduceAdd, Nat.reduceMul, Int.reduceLT, Int.reduceLE, Int.reduceToNat, BitVec.reduceOfInt, Nat.reduceBEq]) ?kk13
      case ha13 => simp only [go_sem, ↓reduceIte, Nat.reduceLT, Nat.reduceEqDiff, Nat.reduceLeDiff, Nat.reduceAdd, Nat.reduceMul, Int.reduceLT, Int.reduceLE, Int.reduceToNat, BitVec.reduceOfInt, Nat.reduceBEq]; try rfl
      case hh13 => exact Valid_gives _ _ _ _
      rw [hval]
      refine al_pureN 2 (by simp only [go_sem, ↓reduceIte, Nat.reduceLT, Nat.reduceEqDiff, Nat.reduceLeDiff, Nat.reduceAdd, Nat.reduceMul, Int.reduceLT, Int.reduceLE, Int.reduceToNat, BitVec.reduceOfInt, Nat.reduceBEq]; try rfl) ?_
      refine al_end [0, 1, 2, 7, 15] ?_
      refine awp_if rfl (fun h => by cases h) (fun _ => ?_)
      refine awp_seq (awp_pures [20] (by simp only [go_sem, ↓reduceIte, Nat.reduceLT, Nat.reduceEqDiff, Nat.reduceLeDiff, Nat.reduceAdd, Nat.reduceMul, Int.reduceLT, Int.reduceLE, Int.reduceToNat, BitVec.reduceOfInt, Nat.reduceBEq, hb]; try rfl) ?_)
      refine awp_if rfl (fun _ => ?_) (fun h => by cases h)
      refine awp_seq (awp_pures [8, 9] (by simp only [go_sem, ↓reduceIte, Nat.reduceLT, Nat.reduceEqDiff, Nat.reduceLeDiff, Nat.reduceAdd, Nat.reduceMul, Int.reduceLT, Int.reduceLE, Int.reduceToNat, BitVec.reduceOfInt, Nat.reduceBEq]; try rfl) ?_)
      exact awp_ret ⟨_, rfl, by rw [show ComposeR t n l k = (0#64, 12) from by simp only [ComposeR, hval]; rw [if_neg (by simp), if_pos hlen]]; rfl, hle⟩
end Go.Proofs.Ytbpjoamdcbbnnaa
