/- The walks of the reference's Class and Canon; its Orders reckoned. -/
import Derived.Test.YtbpjoamdcbbnnaaTabR4
import Derived.Test.YtbpjoamdcbbnnaaTabRef4
import Derived.Test.YtbpjoamdcbbnnaaAbShift
set_option linter.unusedSimpArgs false
set_option linter.unusedVariables false
namespace Go.Proofs.Ytbpjoamdcbbnnaa
open Go.Abs Go.Tab
attribute [local go_sem] eqA Try.underlying22 Try.underlying3 Try.underlying77 Try.underlying52 Try.underlying23 Try.underlying25 Try.underlying5 Try.underlying4 Try.underlying36 Try.underlying39 Try.underlying41 Try.underlying72 Try.underlying49 Try.underlying26 Try.underlying33 Try.underlying85 size22 size3 size23 size5 size4 size39 Nat.mul_one bne_self_eq_false

theorem agg23' : aggA Try.prog 23 = some none := by kernel_rfl
def ordV (n : Nat) : List (List Value) := (ordersR n).map ints
set_option maxRecDepth 1000000 in
theorem orders0 : runRows Try.prog [] 500 58 [.int .i64 (0 : Nat)] (ordV 0) = true := by kernel_rfl
set_option maxRecDepth 1000000 in
theorem orders1 : runRows Try.prog [] 500 58 [.int .i64 (1 : Nat)] (ordV 1) = true := by kernel_rfl
set_option maxRecDepth 1000000 in
theorem orders2 : runRows Try.prog [] 500 58 [.int .i64 (2 : Nat)] (ordV 2) = true := by kernel_rfl
set_option maxRecDepth 1000000 in
theorem orders3 : runRows Try.prog [] 500 58 [.int .i64 (3 : Nat)] (ordV 3) = true := by kernel_rfl
set_option maxRecDepth 1000000 in
theorem orders4 : runRows Try.prog [] 500 58 [.int .i64 (4 : Nat)] (ordV 4) = true := by kernel_rfl
theorem Orders_ok (n : Nat) (hn : n < 5) (N : Nat) (σ : AHeap) (hN : ∀ i b, σ i = some b → i < N) : AOk Try.prog 58 [.int .i64 n] N σ fun v N' σ' => RowRows σ' v (ordV n) ∧ N ≤ N' ∧ σ.le σ' := by
  have h : runRows Try.prog [] 500 58 [.int .i64 n] (ordV n) = true := by
    match n, hn with
    | 0, _ => exact orders0
    | 1, _ => exact orders1
    | 2, _ => exact orders2
    | 3, _ => exact orders3
    | 4, _ => exact orders4
    | n + 5, h => omega
  exact aok_runRows .nil h rfl N σ hN

def pairR (t : BitVec 64) (n : Nat) (l : List Int) (f : Nat) : List (BitVec 64) := [applyV t n l f false, maskT n &&& ~~~ applyV t n l f false]
def clsRow (t : BitVec 64) (n : Nat) (l : List Int) : List (BitVec 64) := (List.range (2 ^ n)).flatMap (pairR t n l)
theorem pair_len (t : BitVec 64) (n : Nat) (l : List Int) : ∀ m, ((List.range m).flatMap (pairR t n l)).length = 2 * m
  | 0 => rfl
  | m + 1 => by rw [List.range_succ, List.flatMap_append, List.length_append, pair_len t n l m]; simp [pairR]; omega
theorem cls_len (t : BitVec 64) (n : Nat) : ∀ ls : List (List Int), (ls.flatMap (clsRow t n)).length = ls.length * (2 * 2 ^ n)
  | [] => by simp
  | l :: ls => by rw [List.flatMap_cons, List.length_append, cls_len t n ls, clsRow, pair_len, List.length_cons, Nat.add_mul]; omega
theorem orders_len : ∀ n, n < 5 → (ordersR n).length ≤ 24 ∧ ∀ l ∈ ordersR n, l.length = n := by decide +kernel
theorem u64s_append (a b : List (BitVec 64)) : u64s (a ++ b) = u64s a ++ u64s b := by simp [u64s]
theorem Class_ok (t : BitVec 64) {n : Nat} (hn : n < 5) (hv : validT t n = true) (N : Nat) (σ : AHeap) :
    AOk Try.prog 24 [.int .u64 t.toNat, .int .i64 n] N σ fun v N' σ' => SlAt σ' v (u64s (classR t n)) ∧ N ≤ N' ∧ σ.le σ' := by
  refine aok_fresh fun hN => aok_body (n := 45) Try.func24 rfl rfl (by simp) ?_
  have hw := u64_wrap_nat (show n < 18446744073709551616 by omega)
  have h16 : 2 ^ n ≤ 16 := pow_le16 (by omega)
  obtain ⟨hL, hlens⟩ := orders_len n hn
  refine awp_seq (awp_pures [0, 1] (by simp only [go_sem, ↓reduceIte, Nat.reduceLT, Nat.reduceEqDiff, Nat.reduceLeDiff, Nat.reduceAdd, Nat.reduceMul, Int.reduceLT, Int.reduceLE, Int.reduceToNat, BitVec.reduceOfInt, Nat.reduceBEq]; try rfl) ?_)
  refine awp_seq (awp_pures [0, 1, 5] (by simp only [go_sem, ↓reduceIte, Nat.reduceLT, Nat.reduceEqDiff, Nat.reduceLeDiff, Nat.reduceAdd, Nat.reduceMul, Int.reduceLT, Int.reduceLE, Int.reduceToNat, BitVec.reduceOfInt, Nat.reduceBEq]; try rfl) ?_)
  refine awp_seq ?_
  first | refine awp_seq (awp_lit ?_) | refine awp_lit ?_ | refine awp_seq (awp_seq (awp_lit ?_))
  refine al_pureN 1 (by simp only [go_sem, ↓reduceIte, Nat.reduceLT, Nat.reduceEqDiff, Nat.reduceLeDiff, Nat.reduceAdd, Nat.reduceMul, Int.reduceLT, Int.reduceLE, Int.reduceToNat, BitVec.reduceOfInt, Nat.reduceBEq]; try rfl) ?_
  refine al_fun (Orders_ok n hn N σ hN) rfl (by simp only [go_sem, ↓reduceIte, Nat.reduceLT, Nat.reduceEqDiff, Nat.reduceLeDiff, Nat.reduceAdd, Nat.reduceMul, Int.reduceLT, Int.reduceLE, Int.reduceToNat, BitVec.reduceOfInt, Nat.reduceBEq]; try rfl) (by kernel_rfl) rfl (by simp only [go_sem, ↓reduceIte, Nat.reduceLT, Nat.reduceEqDiff, Nat.reduceLeDiff, Nat.reduceAdd, Nat.reduceMul, Int.reduceLT, Int.reduceLE, Int.reduceToNat, BitVec.reduceOfInt, Nat.reduceBEq]; try rfl) ?_
  rintro sv N1 σ1 ⟨⟨svs, hs1, hs2, hs3⟩, hN1, hle1⟩
  have hs2 : svs.length = (ordersR n).length := by rw [hs2, ordV, List.length_map]
  obtain ⟨bb, cc, rfl⟩ := hs1.len
  refine al_pureN 2 (by simp only [go_sem, ↓reduceIte, Nat.reduceLT, Nat.reduceEqDiff, Nat.reduceLeDiff, Nat.reduceAdd, Nat.reduceMul, Int.reduceLT, Int.reduceLE, Int.reduceToNat, BitVec.reduceOfInt, Nat.reduceBEq]; try rfl) ?_
  refine al_end [0, 1, 5, 12, 13, 14] ?_
  refine awp_fresh fun hF1 => ?_
  refine awp_block (awp_loop ?_)
  refine ALoop.cast3 (aloop_ind (α := Nat × Value × Nat × AHeap)
    (fun x => x.1 ≤ svs.length ∧ N1 ≤ x.2.2.1 ∧ OwnAt x.2.2.2 N1 x.2.1 (u64s (((ordersR n).take x.1).flatMap (clsRow t n))) (((ordersR n).take x.1).flatMap (clsRow t n)).length 1 ∧ σ1.le x.2.2.2) (fun x => svs.length - x.1)
    (fun x => [(0, .int .u64 t.toNat), (1, .int .i64 n), (5, x.2.1), (12, .slice bb svs.length cc), (13, .int .i64 svs.length), (14, .int .i64 x.1)]) (fun x => x.2.2.1) (fun x => x.2.2.2) ?_
    (0, .slice none 0 0, N1, σ1) ⟨by simp, by simp, OwnAt.nil, AHeap.le_refl _⟩) rfl rfl rfl
  rintro ⟨j, av, Nj, σj⟩ ⟨hj, hNj, hown, hlej⟩ ih
  simp only at hj hNj hown hlej ⊢
  by_cases hlt : j < svs.length
  · have hb : decide ((j : Int) < (svs.length : Int)) = true := decide_eq_true (by omega)
    have hii : 0 ≤ (j : Int) ∧ (j : Int) < (svs.length : Int) := by omega
    have hj1 : -9223372036854775808 ≤ (j : Int) + 1 ∧ (j : Int) + 1 ≤ 9223372036854775807 := by omega
    obtain ⟨id, off, cap, b, e1, e2, e3⟩ := (hs1.mono hlej).at hlt
    cases e1
    have hjo : j < (ordersR n).length := by omega
    have hsl := hs3 j svs[j] (ints ((ordersR n)[j])) (List.getElem?_eq_getElem hlt) (by simp [ordV, List.getElem?_eq_getElem hjo])
    have hlen : ((ordersR n)[j]).length = n := hlens _ (List.getElem_mem hjo)
    have htake : (ordersR n).take (j + 1) = (ordersR n).take j ++ [(ordersR n)[j]] := by rw [List.take_add_one, List.getElem?_eq_getElem hjo]; rfl
    have hmem := List.getElem_mem hjo
    have hperm : permR ((ordersR n)[j]) n = true := by
      have := List.all_eq_true.1 (orders_same n hn).2 _ hmem
      simp only [Bool.and_eq_true] at this
      exact this.2
    have hpl := cls_len t n ((ordersR n).take j)
    rw [List.length_take, Nat.min_eq_left (by omega)] at hpl
    generalize (ordersR n)[j] = l at hsl hlen htake hperm
    generalize hpre : ((ordersR n).take j).flatMap (clsRow t n) = pre at hown hpl
    have hpl : pre.length ≤ 800 := by
      have : j * (2 * 2 ^ n) ≤ 24 * 32 := Nat.mul_le_mul (by omega) (by omega)
      omega
    obtain ⟨b1, c1, hv1⟩ := hsl.len
    rw [ints_len] at hv1
    rw [hv1] at hsl e3
    refine awp_seq (awp_pures [0, 1, 5, 12, 13, 14, 15] (by simp only [go_sem, ↓reduceIte, Nat.reduceLT, Nat.reduceEqDiff, Nat.reduceLeDiff, Nat.reduceAdd, Nat.reduceMul, Int.reduceLT, Int.reduceLE, Int.reduceToNat, BitVec.reduceOfInt, Nat.reduceBEq, hb]; try rfl) ?_)
    refine awp_seq ?_
    refine awp_if rfl (fun _ => ?_) (fun h => by cases h)
    refine awp_skip ?_
    refine awp_seq (awp_block ?_)
    first | refine awp_seq (awp_lit ?_) | refine awp_lit ?_ | refine awp_seq (awp_seq (awp_lit ?_))
    refine al_pureN 1 (by simp only [go_sem, ↓reduceIte, Nat.reduceLT, Nat.reduceEqDiff, Nat.reduceLeDiff, Nat.reduceAdd, Nat.reduceMul, Int.reduceLT, Int.reduceLE, Int.reduceToNat, BitVec.reduceOfInt, Nat.reduceBEq, hii]; try rfl) ?_
    refine al_load rfl (by simp only [go_sem, ↓reduceIte, Nat.reduceLT, Nat.reduceEqDiff, Nat.reduceLeDiff, Nat.reduceAdd, Nat.reduceMul, Int.reduceLT, Int.reduceLE, Int.reduceToNat, BitVec.reduceOfInt, Nat.reduceBEq]) rfl (by simp only [go_sem, ↓reduceIte, Nat.reduceLT, Nat.reduceEqDiff, Nat.reduceLeDiff, Nat.reduceAdd, Nat.reduceMul, Int.reduceLT, Int.reduceLE, Int.reduceToNat, BitVec.reduceOfInt, Nat.reduceBEq]; try rfl) e2 (loadA_scalar agg23 e3) ?_
    refine al_pureN 1 (by simp only [go_sem, ↓reduceIte, Nat.reduceLT, Nat.reduceEqDiff, Nat.reduceLeDiff, Nat.reduceAdd, Nat.reduceMul, Int.reduceLT, Int.reduceLE, Int.reduceToNat, BitVec.reduceOfInt, Nat.reduceBEq]; try rfl) ?_
    refine al_end [0, 1, 5, 7, 12, 13, 14] ?_
    refine awp_seq (awp_pures [0, 1, 5, 7, 8, 12, 13, 14] (by simp only [go_sem, ↓reduceIte, Nat.reduceLT, Nat.reduceEqDiff, Nat.reduceLeDiff, Nat.reduceAdd, Nat.reduceMul, Int.reduceLT, Int.reduceLE, Int.reduceToNat, BitVec.reduceOfInt, Nat.reduceBEq]; try rfl) ?_)
    refine awp_block (awp_loop ?_)
    refine ALoop.cast3 (aloop_ind (α := Nat × Value × Nat × AHeap)
      (fun x => x.1 ≤ 2 ^ n ∧ N1 ≤ x.2.2.1 ∧ OwnAt x.2.2.2 N1 x.2.1 (u64s (pre ++ (List.range x.1).flatMap (pairR t n l))) (pre ++ (List.range x.1).flatMap (pairR t n l)).length 1 ∧ σ1.le x.2.2.2) (fun x => 2 ^ n - x.1)
      (fun x => [(0, .int .u64 t.toNat), (1, .int .i64 n), (5, x.2.1), (7, .slice b1 l.length c1), (8, .int .i64 x.1), (12, .slice (some ⟨id, off, none⟩) svs.length cc), (13, .int .i64 svs.length), (14, .int .i64 j)]) (fun x => x.2.2.1) (fun x => x.2.2.2) ?_
      (0, av, Nj, σj) ⟨by simp, hNj, by simpa using hown, hlej⟩) rfl rfl rfl
    rintro ⟨f, aw, Nf, σf⟩ ⟨hf, hNf, hownf, hlef⟩ ih2
    simp only at hf hNf hownf hlef ⊢
    by_cases hfl : f < 2 ^ n
    · have hb2 : decide ((f : Int) < ((2 ^ n : Nat) : Int)) = true := decide_eq_true (Int.ofNat_lt.2 hfl)
      have hf1 : -9223372036854775808 ≤ (f : Int) + 1 ∧ (f : Int) + 1 ≤ 9223372036854775807 := by omega
      have hu8 := u8_wrap_nat (show f < 256 by omega)
      have hap : ApplyR t n l f false = (applyV t n l f false, 0) := by
        rw [applyR_ref t n l f false hv, if_pos (by rw [hperm]; simpa using hfl)]; rfl
      have hfull : (pre ++ (List.range f).flatMap (pairR t n l)).length ≤ 900 := by rw [List.length_append, pair_len]; omega
      refine awp_seq ?_
      refine awp_seq (awp_pures [0, 1, 5, 7, 8, 12, 13, 14, 22] (by simp only [go_sem, ↓reduceIte, Nat.reduceLT, Nat.reduceEqDiff, Nat.reduceLeDiff, Nat.reduceAdd, Nat.reduceMul, Int.reduceLT, Int.reduceLE, Int.reduceToNat, BitVec.reduceOfInt, Nat.reduceBEq, hw, i64_shl_one (show n ≤ 62 by omega), hb2]; try rfl) ?_)
      refine awp_if rfl (fun _ => ?_) (fun h => by cases h)
      refine awp_skip ?_
      refine awp_seq (awp_block ?_)
      first | refine awp_seq (awp_lit ?_) | refine awp_lit ?_ | refine awp_seq (awp_seq (awp_lit ?_))
      refine al_pureN 5 (by simp only [go_sem, ↓reduceIte, Nat.reduceLT, Nat.reduceEqDiff, Nat.reduceLeDiff, Nat.reduceAdd, Nat.reduceMul, Int.reduceLT, Int.reduceLE, Int.reduceToNat, BitVec.reduceOfInt, Nat.reduceBEq, hu8]; try rfl) ?_
      refine al_build_struct (ps := [(0, .slice b1 l.length c1), (1, .int .u8 f), (2, .bool false)]) (r := [.slice b1 l.length c1, .int .u8 f, .bool false]) rfl (by simp only [go_sem, ↓reduceIte, Nat.reduceLT, Nat.reduceEqDiff, Nat.reduceLeDiff, Nat.reduceAdd, Nat.reduceMul, Int.reduceLT, Int.reduceLE, Int.reduceToNat, BitVec.reduceOfInt, Nat.reduceBEq]; try rfl) (by decide) Try.underlying33 ty33 rfl (pl := [(0, 1), (1, 1), (2, 1)]) (by kernel_rfl) rfl rfl ?_
      refine al_gives (vs := ?vs1) (v := ?v1) rfl ?ha1 ?hh1 (by kernel_rfl) rfl (by simp only [go_sem, ↓reduceIte, Nat.reduceLT, Nat.reduceEqDiff, Nat.reduceLeDiff, Nat.reduceAdd, Nat.reduceMul, Int.reduceLT, Int.reduceLE, Int.reduceToNat, BitVec.reduceOfInt, Nat.reduceBEq]) ?kk1
      case ha1 => simp only [go_sem, ↓reduceIte, Nat.reduceLT, Nat.reduceEqDiff, Nat.reduceLeDiff, Nat.reduceAdd, Nat.reduceMul, Int.reduceLT, Int.reduceLE, Int.reduceToNat, BitVec.reduceOfInt, Nat.reduceBEq]; try rfl
      case hh1 => exact rApply_gives t n l (by omega) f (by omega) false (.slice b1 l.length c1) _ _ (hsl.mono hlef)
      rw [hap]
      generalize hgu : applyV t n l f false = u
      refine al_pureN 5 (by simp only [go_sem, ↓reduceIte, Nat.reduceLT, Nat.reduceEqDiff, Nat.reduceLeDiff, Nat.reduceAdd, Nat.reduceMul, Int.reduceLT, Int.reduceLE, Int.reduceToNat, BitVec.reduceOfInt, Nat.reduceBEq, tup2]; try rfl) ?_
      refine al_end [0, 1, 5, 7, 8, 9, 12, 13, 14] ?_
      have hwr := u64_wrap_nat (maskT n &&& ~~~ u).isLt
      first | refine awp_seq (awp_lit ?_) | refine awp_lit ?_ | refine awp_seq (awp_seq (awp_lit ?_))
      refine al_pureN 3 (by simp only [go_sem, ↓reduceIte, Nat.reduceLT, Nat.reduceEqDiff, Nat.reduceLeDiff, Nat.reduceAdd, Nat.reduceMul, Int.reduceLT, Int.reduceLE, Int.reduceToNat, BitVec.reduceOfInt, Nat.reduceBEq]; try rfl) ?_
      refine al_gives (vs := ?vs2) (v := ?v2) rfl ?ha2 ?hh2 (by kernel_rfl) rfl (by simp only [go_sem, ↓reduceIte, Nat.reduceLT, Nat.reduceEqDiff, Nat.reduceLeDiff, Nat.reduceAdd, Nat.reduceMul, Int.reduceLT, Int.reduceLE, Int.reduceToNat, BitVec.reduceOfInt, Nat.reduceBEq]) ?kk2
      case ha2 => simp only [go_sem, ↓reduceIte, Nat.reduceLT, Nat.reduceEqDiff, Nat.reduceLeDiff, Nat.reduceAdd, Nat.reduceMul, Int.reduceLT, Int.reduceLE, Int.reduceToNat, BitVec.reduceOfInt, Nat.reduceBEq]; try rfl
      case hh2 => exact rMask_gives _ _ _
      rw [lim_of (by omega : n ≤ 6)]
      refine al_pureN 2 (by simp only [go_sem, ↓reduceIte, Nat.reduceLT, Nat.reduceEqDiff, Nat.reduceLeDiff, Nat.reduceAdd, Nat.reduceMul, Int.reduceLT, Int.reduceLE, Int.reduceToNat, BitVec.reduceOfInt, Nat.reduceBEq, u64_andNot, hwr]; try rfl) ?_
      refine al_fresh fun hFf => ?_
      refine al_buildSlice (ps := [(0, .int .u64 u.toNat), (1, .int .u64 (maskT n &&& ~~~ u).toNat)]) (r := u64s [u, maskT n &&& ~~~ u]) rfl (by simp only [go_sem, ↓reduceIte, Nat.reduceLT, Nat.reduceEqDiff, Nat.reduceLeDiff, Nat.reduceAdd, Nat.reduceMul, Int.reduceLT, Int.reduceLE, Int.reduceToNat, BitVec.reduceOfInt, Nat.reduceBEq]; try rfl) rfl Try.underlying49 ty22 (by decide) rfl (by decide) (by decide) (by simp only [go_sem, ↓reduceIte, Nat.reduceLT, Nat.reduceEqDiff, Nat.reduceLeDiff, Nat.reduceAdd, Nat.reduceMul, Int.reduceLT, Int.reduceLE, Int.reduceToNat, BitVec.reduceOfInt, Nat.reduceBEq]; try rfl) rfl (by simp [u64s]) ?_
      refine al_append_own (m := 2) (news := u64s [u, maskT n &&& ~~~ u]) rfl (by simp only [go_sem, ↓reduceIte, Nat.reduceLT, Nat.reduceEqDiff, Nat.reduceLeDiff, Nat.reduceAdd, Nat.reduceMul, Int.reduceLT, Int.reduceLE, Int.reduceToNat, BitVec.reduceOfInt, Nat.reduceBEq]; try rfl) rfl Try.underlying49 ty22 rfl (by simp only [go_sem, ↓reduceIte, Nat.reduceLT, Nat.reduceEqDiff, Nat.reduceLeDiff, Nat.reduceAdd, Nat.reduceMul, Int.reduceLT, Int.reduceLE, Int.reduceToNat, BitVec.reduceOfInt, Nat.reduceBEq]; try rfl) (by simp only [go_sem, ↓reduceIte, Nat.reduceLT, Nat.reduceEqDiff, Nat.reduceLeDiff, Nat.reduceAdd, Nat.reduceMul, Int.reduceLT, Int.reduceLE, Int.reduceToNat, BitVec.reduceOfInt, Nat.reduceBEq]; try rfl) (hownf.mono (fun i b _ hb => by rw [AHeap.set_ne _ _ (Nat.ne_of_lt (hFf i b hb))]; exact hb) (Nat.le_refl _)) (by omega) rfl (by simp only [srcA]; rw [AHeap.set_self]; rfl) rfl rfl (by omega) (by omega) ?_
      intro Ng σg vg hNg howng hkeepg
      refine al_pureN 1 (by simp only [go_sem, ↓reduceIte, Nat.reduceLT, Nat.reduceEqDiff, Nat.reduceLeDiff, Nat.reduceAdd, Nat.reduceMul, Int.reduceLT, Int.reduceLE, Int.reduceToNat, BitVec.reduceOfInt, Nat.reduceBEq]; try rfl) ?_
      refine al_end [0, 1, 5, 7, 8, 12, 13, 14] ?_
      have hleg : σ1.le σg := hkeepg σ1 (AHeap.le_trans hlef (AHeap.le_set (AHeap.le_refl _) fun i b hb => Nat.ne_of_lt (hFf i b hb))) hF1
      refine awp_pures [0, 1, 5, 7, 8, 12, 13, 14] (by simp only [go_sem, ↓reduceIte, Nat.reduceLT, Nat.reduceEqDiff, Nat.reduceLeDiff, Nat.reduceAdd, Nat.reduceMul, Int.reduceLT, Int.reduceLE, Int.reduceToNat, BitVec.reduceOfInt, Nat.reduceBEq, i64_add hf1]; try rfl) ?_
      refine ALoop.cast (ih2 (f + 1, vg, Ng, σg) ⟨hfl, by simp; omega, ?_, hleg⟩ (by simp; omega)) (by first | (simp only [go_sem]; try rfl) | rfl)
      simp only
      rw [List.range_succ, List.flatMap_append, ← List.append_assoc, u64s_append, List.length_append]
      rw [show ([f].flatMap (pairR t n l)) = [u, maskT n &&& ~~~ u] by simp [pairR, hgu]]
      exact howng
    · have hb2 : decide ((f : Int) < ((2 ^ n : Nat) : Int)) = false := decide_eq_false fun h => hfl (Int.ofNat_lt.1 h)
      have hfe : f = 2 ^ n := by omega
      subst hfe
      refine awp_seq ?_
      refine awp_seq (awp_pures [0, 1, 5, 7, 8, 12, 13, 14, 22] (by simp only [go_sem, ↓reduceIte, Nat.reduceLT, Nat.reduceEqDiff, Nat.reduceLeDiff, Nat.reduceAdd, Nat.reduceMul, Int.reduceLT, Int.reduceLE, Int.reduceToNat, BitVec.reduceOfInt, Nat.reduceBEq, hw, i64_shl_one (show n ≤ 62 by omega), hb2]; try rfl) ?_)
      refine awp_if rfl (fun h => by cases h) (fun _ => ?_)
      refine awp_exit ?_
      simp only [Go.Abs.Seq, Go.Abs.Round, Go.Abs.InBlock, ↓reduceIte]
      refine awp_pures [0, 1, 5, 12, 13, 14] (by simp only [go_sem, ↓reduceIte, Nat.reduceLT, Nat.reduceEqDiff, Nat.reduceLeDiff, Nat.reduceAdd, Nat.reduceMul, Int.reduceLT, Int.reduceLE, Int.reduceToNat, BitVec.reduceOfInt, Nat.reduceBEq, i64_add hj1]; try rfl) ?_
      refine ALoop.cast (ih (j + 1, aw, Nf, σf) ⟨hlt, hNf, ?_, hlef⟩ (by simp; omega)) (by first | (simp only [go_sem]; try rfl) | rfl)
      simp only
      rw [htake, List.flatMap_append, hpre, show [l].flatMap (clsRow t n) = (List.range (2 ^ n)).flatMap (pairR t n l) by simp [clsRow]]
      exact hownf
  · have hb : decide ((j : Int) < (svs.length : Int)) = false := decide_eq_false (by omega)
    have hje : j = svs.length := by omega
    subst hje
    refine awp_seq (awp_pures [0, 1, 5, 12, 13, 14, 15] (by simp only [go_sem, ↓reduceIte, Nat.reduceLT, Nat.reduceEqDiff, Nat.reduceLeDiff, Nat.reduceAdd, Nat.reduceMul, Int.reduceLT, Int.reduceLE, Int.reduceToNat, BitVec.reduceOfInt, Nat.reduceBEq, hb]; try rfl) ?_)
    refine awp_seq ?_
    refine awp_if rfl (fun h => by cases h) (fun _ => ?_)
    refine awp_exit ?_
    simp only [Go.Abs.Seq, Go.Abs.Round, Go.Abs.InBlock, ↓reduceIte]
    refine awp_seq (awp_pures [4] (by simp only [go_sem, ↓reduceIte, Nat.reduceLT, Nat.reduceEqDiff, Nat.reduceLeDiff, Nat.reduceAdd, Nat.reduceMul, Int.reduceLT, Int.reduceLE, Int.reduceToNat, BitVec.reduceOfInt, Nat.reduceBEq]; try rfl) ?_)
    rw [hs2, List.take_length] at hown
    exact awp_ret ⟨_, rfl, hown.slAt, by omega, AHeap.le_trans hle1 hlej⟩

/-- The reference's Canon. -/
def rCanonR (t : BitVec 64) (m : Int) : BitVec 64 × Int := if 4 < m ∨ validT t m = false then (0#64, 1) else (rcanon t m.toNat, 0)
theorem min_u64 (a b : BitVec 64) : (if (b.toNat : Int) < (a.toNat : Int) then (b.toNat : Int) else (a.toNat : Int)) = ((minB a b).toNat : Int) := by
  unfold minB
  by_cases h : b < a
  · rw [if_pos h, if_pos (by rw [BitVec.lt_def] at h; omega)]
  · rw [if_neg h, if_neg (by rw [BitVec.lt_def] at h; omega)]
theorem rCanon_gives (t : BitVec 64) (m : Int) (N : Nat) (σ : AHeap) : Gives Try.prog 15 [.int .u64 t.toNat, .int .i64 m] N σ (tup2 (rCanonR t m)) := by
  refine gives_of rfl (aok_fresh fun hN => aok_body (n := 31) Try.func15 rfl rfl (by simp) ?_)
  refine awp_seq (awp_pures [0, 1] (by simp only [go_sem, ↓reduceIte, Nat.reduceLT, Nat.reduceEqDiff, Nat.reduceLeDiff, Nat.reduceAdd, Nat.reduceMul, Int.reduceLT, Int.reduceLE, Int.reduceToNat, BitVec.reduceOfInt, Nat.reduceBEq]; try rfl) ?_)
  refine awp_seq ?_
  by_cases h4 : 4 < m
  · have c0 : decide (m > 4) = true := decide_eq_true h4
    first | refine awp_seq (awp_lit ?_) | refine awp_lit ?_ | refine awp_seq (awp_seq (awp_lit ?_))
    refine al_pureN 4 (by simp only [go_sem, ↓reduceIte, Nat.reduceLT, Nat.reduceEqDiff, Nat.reduceLeDiff, Nat.reduceAdd, Nat.reduceMul, Int.reduceLT, Int.reduceLE, Int.reduceToNat, BitVec.reduceOfInt, Nat.reduceBEq, c0, undef]; try rfl) ?_
    refine al_pureN 1 (by simp only [go_sem, ↓reduceIte, Nat.reduceLT, Nat.reduceEqDiff, Nat.reduceLeDiff, Nat.reduceAdd, Nat.reduceMul, Int.reduceLT, Int.reduceLE, Int.reduceToNat, BitVec.reduceOfInt, Nat.reduceBEq, c0, undef]; try rfl) ?_
    refine al_pureN 1 (by simp only [go_sem, ↓reduceIte, Nat.reduceLT, Nat.reduceEqDiff, Nat.reduceLeDiff, Nat.reduceAdd, Nat.reduceMul, Int.reduceLT, Int.reduceLE, Int.reduceToNat, BitVec.reduceOfInt, Nat.reduceBEq, c0, undef, undef]; try rfl) ?_
    refine al_pureN 2 (by simp only [go_sem, ↓reduceIte, Nat.reduceLT, Nat.reduceEqDiff, Nat.reduceLeDiff, Nat.reduceAdd, Nat.reduceMul, Int.reduceLT, Int.reduceLE, Int.reduceToNat, BitVec.reduceOfInt, Nat.reduceBEq, c0, undef]; try rfl) ?_
    refine al_end [0, 1, 16] ?_
    refine awp_if rfl (fun _ => ?_) (fun h => by cases h)
    refine awp_seq (awp_pures [4, 5] (by simp only [go_sem, ↓reduceIte, Nat.reduceLT, Nat.reduceEqDiff, Nat.reduceLeDiff, Nat.reduceAdd, Nat.reduceMul, Int.reduceLT, Int.reduceLE, Int.reduceToNat, BitVec.reduceOfInt, Nat.reduceBEq]; try rfl) ?_)
    exact awp_ret ⟨_, rfl, by rw [rCanonR, if_pos (.inl h4)]; rfl, AHeap.le_refl _⟩
  · have c0 : decide (m > 4) = false := decide_eq_false h4
    cases hv : validT t m with
    | false =>
      first | refine awp_seq (awp_lit ?_) | refine awp_lit ?_ | refine awp_seq (awp_seq (awp_lit ?_))
      refine al_pureN 4 (by simp only [go_sem, ↓reduceIte, Nat.reduceLT, Nat.reduceEqDiff, Nat.reduceLeDiff, Nat.reduceAdd, Nat.reduceMul, Int.reduceLT, Int.reduceLE, Int.reduceToNat, BitVec.reduceOfInt, Nat.reduceBEq, c0, hv]; try rfl) ?_
      refine al_pureN 1 (by simp only [go_sem, ↓reduceIte, Nat.reduceLT, Nat.reduceEqDiff, Nat.reduceLeDiff, Nat.reduceAdd, Nat.reduceMul, Int.reduceLT, Int.reduceLE, Int.reduceToNat, BitVec.reduceOfInt, Nat.reduceBEq, c0, hv]; try rfl) ?_
      refine al_gives (vs := ?vs3) (v := ?v3) rfl ?ha3 ?hh3 (by kernel_rfl) rfl (by simp only [go_sem, ↓reduceIte, Nat.reduceLT, Nat.reduceEqDiff, Nat.reduceLeDiff, Nat.reduceAdd, Nat.reduceMul, Int.reduceLT, Int.reduceLE, Int.reduceToNat, BitVec.reduceOfInt, Nat.reduceBEq, c0, hv]) ?kk3
      case ha3 => simp only [go_sem, ↓reduceIte, Nat.reduceLT, Nat.reduceEqDiff, Nat.reduceLeDiff, Nat.reduceAdd, Nat.reduceMul, Int.reduceLT, Int.reduceLE, Int.reduceToNat, BitVec.reduceOfInt, Nat.reduceBEq, c0, hv]; try rfl
      case hh3 => exact rValid_gives _ _ _ _
      refine al_pureN 2 (by simp only [go_sem, ↓reduceIte, Nat.reduceLT, Nat.reduceEqDiff, Nat.reduceLeDiff, Nat.reduceAdd, Nat.reduceMul, Int.reduceLT, Int.reduceLE, Int.reduceToNat, BitVec.reduceOfInt, Nat.reduceBEq, c0, hv]; try rfl) ?_
      refine al_end [0, 1, 16] ?_
      refine awp_if rfl (fun _ => ?_) (fun h => by cases h)
      refine awp_seq (awp_pures [4, 5] (by simp only [go_sem, ↓reduceIte, Nat.reduceLT, Nat.reduceEqDiff, Nat.reduceLeDiff, Nat.reduceAdd, Nat.reduceMul, Int.reduceLT, Int.reduceLE, Int.reduceToNat, BitVec.reduceOfInt, Nat.reduceBEq]; try rfl) ?_)
      exact awp_ret ⟨_, rfl, by rw [rCanonR, if_pos (.inr hv)]; rfl, AHeap.le_refl _⟩
    | true =>
      obtain ⟨n, rfl, hn6, ht⟩ := validT_iff.1 hv
      have hn : n < 5 := by omega
      have fin : rCanonR t n = ((classR t n).foldl minB t, 0) := by rw [rCanonR, if_neg (by simp [hv]; omega)]; rfl
      have hcl : (classR t n).length ≤ 1000 := by
        have := cls_len t n (ordersR n)
        have h16 : 2 ^ n ≤ 16 := pow_le16 (by omega)
        have : (ordersR n).length * (2 * 2 ^ n) ≤ 24 * 32 := Nat.mul_le_mul (orders_len n hn).1 (by omega)
        have e : classR t n = (ordersR n).flatMap (clsRow t n) := rfl
        rw [e]; omega
      first | refine awp_seq (awp_lit ?_) | refine awp_lit ?_ | refine awp_seq (awp_seq (awp_lit ?_))
      refine al_pureN 4 (by simp only [go_sem, ↓reduceIte, Nat.reduceLT, Nat.reduceEqDiff, Nat.reduceLeDiff, Nat.reduceAdd, Nat.reduceMul, Int.reduceLT, Int.reduceLE, Int.reduceToNat, BitVec.reduceOfInt, Nat.reduceBEq, c0, hv]; try rfl) ?_
      refine al_pureN 1 (by simp only [go_sem, ↓reduceIte, Nat.reduceLT, Nat.reduceEqDiff, Nat.reduceLeDiff, Nat.reduceAdd, Nat.reduceMul, Int.reduceLT, Int.reduceLE, Int.reduceToNat, BitVec.reduceOfInt, Nat.reduceBEq, c0, hv]; try rfl) ?_
      refine al_gives (vs := ?vs4) (v := ?v4) rfl ?ha4 ?hh4 (by kernel_rfl) rfl (by simp only [go_sem, ↓reduceIte, Nat.reduceLT, Nat.reduceEqDiff, Nat.reduceLeDiff, Nat.reduceAdd, Nat.reduceMul, Int.reduceLT, Int.reduceLE, Int.reduceToNat, BitVec.reduceOfInt, Nat.reduceBEq, c0, hv]) ?kk4
      case ha4 => simp only [go_sem, ↓reduceIte, Nat.reduceLT, Nat.reduceEqDiff, Nat.reduceLeDiff, Nat.reduceAdd, Nat.reduceMul, Int.reduceLT, Int.reduceLE, Int.reduceToNat, BitVec.reduceOfInt, Nat.reduceBEq, c0, hv]; try rfl
      case hh4 => exact rValid_gives _ _ _ _
      refine al_pureN 2 (by simp only [go_sem, ↓reduceIte, Nat.reduceLT, Nat.reduceEqDiff, Nat.reduceLeDiff, Nat.reduceAdd, Nat.reduceMul, Int.reduceLT, Int.reduceLE, Int.reduceToNat, BitVec.reduceOfInt, Nat.reduceBEq, c0, hv]; try rfl) ?_
      refine al_end [0, 1, 16] ?_
      refine awp_if rfl (fun h => by cases h) (fun _ => ?_)
      refine awp_skip ?_
      refine awp_seq (awp_pures [0, 1, 6] (by simp only [go_sem, ↓reduceIte, Nat.reduceLT, Nat.reduceEqDiff, Nat.reduceLeDiff, Nat.reduceAdd, Nat.reduceMul, Int.reduceLT, Int.reduceLE, Int.reduceToNat, BitVec.reduceOfInt, Nat.reduceBEq]; try rfl) ?_)
      refine awp_seq ?_
      first | refine awp_seq (awp_lit ?_) | refine awp_lit ?_ | refine awp_seq (awp_seq (awp_lit ?_))
      refine al_pureN 2 (by simp only [go_sem, ↓reduceIte, Nat.reduceLT, Nat.reduceEqDiff, Nat.reduceLeDiff, Nat.reduceAdd, Nat.reduceMul, Int.reduceLT, Int.reduceLE, Int.reduceToNat, BitVec.reduceOfInt, Nat.reduceBEq]; try rfl) ?_
      refine al_fun (Class_ok t hn hv _ _) rfl (by simp only [go_sem, ↓reduceIte, Nat.reduceLT, Nat.reduceEqDiff, Nat.reduceLeDiff, Nat.reduceAdd, Nat.reduceMul, Int.reduceLT, Int.reduceLE, Int.reduceToNat, BitVec.reduceOfInt, Nat.reduceBEq]; try rfl) (by kernel_rfl) rfl (by simp only [go_sem, ↓reduceIte, Nat.reduceLT, Nat.reduceEqDiff, Nat.reduceLeDiff, Nat.reduceAdd, Nat.reduceMul, Int.reduceLT, Int.reduceLE, Int.reduceToNat, BitVec.reduceOfInt, Nat.reduceBEq]; try rfl) ?_
      rintro sv N1 σ1 ⟨hs, hN1, hle1⟩
      obtain ⟨bb, cc, rfl⟩ := hs.len
      have hul := u64s_len (classR t n)
      rw [fin]
      generalize classR t n = L at hs hul hcl
      rw [hul] at hs ⊢
      refine al_pureN 2 (by simp only [go_sem, ↓reduceIte, Nat.reduceLT, Nat.reduceEqDiff, Nat.reduceLeDiff, Nat.reduceAdd, Nat.reduceMul, Int.reduceLT, Int.reduceLE, Int.reduceToNat, BitVec.reduceOfInt, Nat.reduceBEq]; try rfl) ?_
      refine al_end [6, 20, 21, 22] ?_
      refine awp_block (awp_loop ?_)
      refine ALoop.cast3 (aloop_ind (α := Nat) (fun i => i ≤ L.length) (fun i => L.length - i)
        (fun i => [(6, .int .u64 ((L.take i).foldl minB t).toNat), (20, .slice bb L.length cc), (21, .int .i64 L.length), (22, .int .i64 i)]) (fun _ => N1) (fun _ => σ1) ?_ 0 (by simp)) rfl rfl rfl
      intro i hi ih
      by_cases hlt : i < L.length
      · have hb : decide ((i : Int) < (L.length : Int)) = true := decide_eq_true (by omega)
        have hii : 0 ≤ (i : Int) ∧ (i : Int) < (L.length : Int) := by omega
        have hj1 : -9223372036854775808 ≤ (i : Int) + 1 ∧ (i : Int) + 1 ≤ 9223372036854775807 := by omega
        obtain ⟨id, off, cap, b, e1, e2, e3⟩ := hs.at (j := i) (by omega)
        rw [hul] at e1
        cases e1
        have e3 : b.cells[off + i]? = some (.int .u64 (L[i]).toNat) := by rw [e3]; simp [u64s]
        have hstep : (L.take (i + 1)).foldl minB t = minB ((L.take i).foldl minB t) L[i] := by
          rw [List.take_add_one, List.getElem?_eq_getElem hlt, List.foldl_append]; rfl
        generalize L[i] = x at e3 hstep
        generalize (L.take i).foldl minB t = y at hstep
        refine awp_seq (awp_pures [6, 20, 21, 22, 23] (by simp only [go_sem, ↓reduceIte, Nat.reduceLT, Nat.reduceEqDiff, Nat.reduceLeDiff, Nat.reduceAdd, Nat.reduceMul, Int.reduceLT, Int.reduceLE, Int.reduceToNat, BitVec.reduceOfInt, Nat.reduceBEq, hb]; try rfl) ?_)
        refine awp_seq ?_
        refine awp_if rfl (fun _ => ?_) (fun h => by cases h)
        refine awp_skip ?_
        refine awp_seq (awp_block ?_)
        first | refine awp_seq (awp_lit ?_) | refine awp_lit ?_ | refine awp_seq (awp_seq (awp_lit ?_))
        refine al_pureN 1 (by simp only [go_sem, ↓reduceIte, Nat.reduceLT, Nat.reduceEqDiff, Nat.reduceLeDiff, Nat.reduceAdd, Nat.reduceMul, Int.reduceLT, Int.reduceLE, Int.reduceToNat, BitVec.reduceOfInt, Nat.reduceBEq, hii]; try rfl) ?_
        refine al_load rfl (by simp only [go_sem, ↓reduceIte, Nat.reduceLT, Nat.reduceEqDiff, Nat.reduceLeDiff, Nat.reduceAdd, Nat.reduceMul, Int.reduceLT, Int.reduceLE, Int.reduceToNat, BitVec.reduceOfInt, Nat.reduceBEq]) rfl (by simp only [go_sem, ↓reduceIte, Nat.reduceLT, Nat.reduceEqDiff, Nat.reduceLeDiff, Nat.reduceAdd, Nat.reduceMul, Int.reduceLT, Int.reduceLE, Int.reduceToNat, BitVec.reduceOfInt, Nat.reduceBEq]; try rfl) e2 (loadA_scalar agg22 e3) ?_
        refine al_pureN 1 (by simp only [go_sem, ↓reduceIte, Nat.reduceLT, Nat.reduceEqDiff, Nat.reduceLeDiff, Nat.reduceAdd, Nat.reduceMul, Int.reduceLT, Int.reduceLE, Int.reduceToNat, BitVec.reduceOfInt, Nat.reduceBEq]; try rfl) ?_
        refine al_end [6, 8, 20, 21, 22] ?_
        refine awp_pures [6, 20, 21, 22] (by simp only [go_sem, ↓reduceIte, Nat.reduceLT, Nat.reduceEqDiff, Nat.reduceLeDiff, Nat.reduceAdd, Nat.reduceMul, Int.reduceLT, Int.reduceLE, Int.reduceToNat, BitVec.reduceOfInt, Nat.reduceBEq, min_u64]; try rfl) ?_
        refine awp_pures [6, 20, 21, 22] (by simp only [go_sem, ↓reduceIte, Nat.reduceLT, Nat.reduceEqDiff, Nat.reduceLeDiff, Nat.reduceAdd, Nat.reduceMul, Int.reduceLT, Int.reduceLE, Int.reduceToNat, BitVec.reduceOfInt, Nat.reduceBEq, i64_add hj1]; try rfl) ?_
        rw [← hstep]
        refine (ih (i + 1) hlt (by omega)).cast (by first | (simp only [go_sem, ↓reduceIte, Nat.reduceLT, Nat.reduceEqDiff, Nat.reduceLeDiff, Nat.reduceAdd, Nat.reduceMul, Int.reduceLT, Int.reduceLE, Int.reduceToNat, BitVec.reduceOfInt, Nat.reduceBEq]; try rfl) | rfl)
      · have hb : decide ((i : Int) < (L.length : Int)) = false := decide_eq_false (by omega)
        have hie : i = L.length := by omega
        subst hie
        refine awp_seq (awp_pures [6, 20, 21, 22, 23] (by simp only [go_sem, ↓reduceIte, Nat.reduceLT, Nat.reduceEqDiff, Nat.reduceLeDiff, Nat.reduceAdd, Nat.reduceMul, Int.reduceLT, Int.reduceLE, Int.reduceToNat, BitVec.reduceOfInt, Nat.reduceBEq, hb]; try rfl) ?_)
        refine awp_seq ?_
        refine awp_if rfl (fun h => by cases h) (fun _ => ?_)
        refine awp_exit ?_
        simp only [Go.Abs.Seq, Go.Abs.Round, Go.Abs.InBlock, ↓reduceIte]
        rw [List.take_length]
        refine awp_seq (awp_pures [4, 5] (by simp only [go_sem, ↓reduceIte, Nat.reduceLT, Nat.reduceEqDiff, Nat.reduceLeDiff, Nat.reduceAdd, Nat.reduceMul, Int.reduceLT, Int.reduceLE, Int.reduceToNat, BitVec.reduceOfInt, Nat.reduceBEq]; try rfl) ?_)
        exact awp_ret ⟨_, rfl, rfl, hle1⟩
end Go.Proofs.Ytbpjoamdcbbnnaa
