/- Equivalence of tables is an equivalence; the walk of TableClasses. -/
import Derived.Test.YtbpjoamdcbbnnaaTabR6
import Derived.Test.YtbpjoamdcbbnnaaTabW9
set_option linter.unusedSimpArgs false
set_option linter.unusedVariables false
namespace Go.Tab
variable {t u : BitVec 64} {n : Nat}
/-- One order behind another. -/
def compL (l1 l2 : List Int) : List Int := l1.map fun i => l2.getD i.toNat 0
theorem comp_in : ∀ n : Nat, n < 5 → ((ordersR n).all fun l1 => (ordersR n).all fun l2 => (ordersR n).contains (compL l1 l2)) = true := by decide +kernel
theorem comp_inv : ∀ n : Nat, n < 5 → ((ordersR n).all fun l => (ordersR n).any fun l2 => decide (compL l l2 = idL n)) = true := by decide +kernel
theorem orders_idx : ∀ n : Nat, n < 5 → ((ordersR n).all fun l => decide (l.length = n) && l.all fun x => decide (0 ≤ x) && decide (x.toNat < n)) = true := by decide +kernel
theorem ids_in : ∀ n : Nat, n < 5 → (ordersR n).contains (idL n) = true := by decide +kernel

theorem permX_xor (a b : Nat) (l : List Int) : permX (a ^^^ b) l 0 0 = permX a l 0 0 ^^^ permX b l 0 0 := Nat.eq_of_testBit_eq fun i => by
  rw [Nat.testBit_xor, permX_bit0, permX_bit0, permX_bit0]
  cases l[i]? with
  | none => rfl
  | some o => simp only [Nat.testBit_xor]
theorem permX_comp (k : Nat) {l1 l2 : List Int} (h : ∀ x ∈ l1, x.toNat < l2.length) : permX (permX k l2 0 0) l1 0 0 = permX k (compL l1 l2) 0 0 := Nat.eq_of_testBit_eq fun i => by
  rw [permX_bit0, permX_bit0, compL, List.getElem?_map]
  cases hl : l1[i]? with
  | none => rfl
  | some o =>
    have ho := h o (List.mem_of_getElem? hl)
    simp only [Option.map_some]
    rw [permX_bit0, List.getElem?_eq_getElem ho, List.getD_eq_getElem?_getD, List.getElem?_eq_getElem ho]
    rfl
structure InG (n : Nat) (s : Tri) : Prop where
  ord : s.1 ∈ ordersR n
  flips : s.2.1 < 2 ^ n
theorem ord_len (hn : n < 5) {l : List Int} (h : l ∈ ordersR n) : l.length = n ∧ ∀ x ∈ l, x.toNat < n := by
  have := List.all_eq_true.1 (orders_idx n hn) l h
  simp only [Bool.and_eq_true, decide_eq_true_eq, List.all_eq_true] at this
  exact ⟨this.1, fun x hx => (this.2 x hx).2⟩
theorem xor_lt {a b : Nat} (ha : a < 2 ^ n) (hb : b < 2 ^ n) : a ^^^ b < 2 ^ n := Nat.xor_lt_two_pow ha hb
theorem apply_two (hn : n < 5) (ht : Tab n t) {l1 l2 : List Int} {f1 f2 : Nat} (b1 b2 : Bool) (h1 : l1 ∈ ordersR n) (h2 : l2 ∈ ordersR n) (hf1 : f1 < 2 ^ n) (hf2 : f2 < 2 ^ n) :
    applyV (applyV t n l1 f1 b1) n l2 f2 b2 = applyV t n (compL l1 l2) (permX f2 l1 0 0 ^^^ f1) (b1 != b2) := by
  obtain ⟨n1, i1⟩ := ord_len hn h1
  obtain ⟨n2, i2⟩ := ord_len hn h2
  have n6 : n ≤ 6 := by omega
  refine eq_of_bits (n := n) (tab_applyV _ n6 _ _ _) (tab_applyV _ n6 _ _ _) fun k hk => ?_
  have hx2 : permX k l2 0 0 ^^^ f2 < 2 ^ n := xor_lt (n2 ▸ permX_lt0 k l2) hf2
  have hc : (compL l1 l2).length = n := by rw [compL, List.length_map]; exact n1
  have hf3 : permX f2 l1 0 0 ^^^ f1 < 2 ^ n := xor_lt (n1 ▸ permX_lt0 f2 l1) hf1
  rw [applyV_bit n6 (tab_applyV t n6 l1 f1 b1) n2 hf2 b2 hk, applyV_bit n6 ht n1 hf1 b1 hx2, applyV_bit n6 ht hc hf3 _ hk, permX_xor, permX_comp k (fun x hx => by rw [n2]; exact i1 x hx), Nat.xor_assoc]
  generalize t.getLsbD _ = q
  cases q <;> cases b1 <;> cases b2 <;> rfl
theorem class_trans (hn : n < 5) (ht : Tab n t) {x : BitVec 64} (h1 : u ∈ classR t n) (h2 : x ∈ classR u n) : x ∈ classR t n := by
  obtain ⟨⟨l1, f1, b1⟩, o1, g1, rfl⟩ := (mem_class hn).1 h1
  obtain ⟨⟨l2, f2, b2⟩, o2, g2, rfl⟩ := (mem_class hn).1 h2
  refine (mem_class hn).2 ⟨(compL l1 l2, permX f2 l1 0 0 ^^^ f1, b1 != b2), ?_, xor_lt ((ord_len hn o1).1 ▸ permX_lt0 f2 l1) g1, apply_two hn ht b1 b2 o1 o2 g1 g2⟩
  have := List.all_eq_true.1 (List.all_eq_true.1 (comp_in n hn) l1 o1) l2 o2
  simpa using this
theorem class_self (hn : n < 5) (ht : Tab n t) : t ∈ classR t n :=
  (mem_class hn).2 ⟨(idL n, 0, false), by simpa using ids_in n hn, Nat.two_pow_pos n, (applyV_id hn ht).symm⟩
theorem class_symm (hn : n < 5) (ht : Tab n t) (h : u ∈ classR t n) : t ∈ classR u n := by
  obtain ⟨⟨l, f, b⟩, o, g, rfl⟩ := (mem_class hn).1 h
  have := List.all_eq_true.1 (comp_inv n hn) l o
  rw [List.any_eq_true] at this
  obtain ⟨l2, o2, hl2⟩ := this
  have hl2 : compL l l2 = idL n := by simpa using hl2
  obtain ⟨n1, i1⟩ := ord_len hn o
  obtain ⟨n2, i2⟩ := ord_len hn o2
  have hf : permX f l2 0 0 < 2 ^ n := n2 ▸ permX_lt0 f l2
  refine (mem_class hn).2 ⟨(l2, permX f l2 0 0, b), o2, hf, ?_⟩
  have e := apply_two hn ht b b o o2 g hf
  have h16 := pow_le16 hn
  rw [permX_comp f (fun x hx => by rw [n2]; exact i1 x hx), hl2, permX_id n hn f (by simp only at g; omega) g, Nat.xor_self] at e
  simp only at e ⊢
  rw [e, show (b != b) = false by simp, applyV_id hn ht]
theorem tab_class (hn : n < 5) (h : u ∈ classR t n) : Tab n u := by
  obtain ⟨s, _, _, rfl⟩ := (mem_class hn).1 h
  exact tab_applyV _ (by omega) _ _ _
theorem rcanon_mem (hn : n < 5) (ht : Tab n t) : rcanon t n ∈ classR t n := by
  rcases (minB_fold (classR t n) t).2.2 with e | e
  · rw [show rcanon t n = t from e]; exact class_self hn ht
  · exact e
theorem rcanon_le : (rcanon t n).toNat ≤ t.toNat := (minB_fold (classR t n) t).2.1
theorem rcanon_eq (hn : n < 5) (ht : Tab n t) (h : u ∈ classR t n) : rcanon u n = rcanon t n := by
  have hu := tab_class hn h
  have h1 : (rcanon u n).toNat ≤ (rcanon t n).toNat := (minB_fold (classR u n) u).1 _ (class_trans hn hu (class_symm hn ht h) (rcanon_mem hn ht))
  have h2 : (rcanon t n).toNat ≤ (rcanon u n).toNat := (minB_fold (classR t n) t).1 _ (class_trans hn ht h (rcanon_mem hn hu))
  exact BitVec.eq_of_toNat_eq (by omega)
theorem rcanon_two (hn : n < 5) (ht : Tab n t) : rcanon (rcanon t n) n = rcanon t n := rcanon_eq hn ht (rcanon_mem hn ht)
theorem class_iff (hn : n < 5) (ht : Tab n t) (hu : Tab n u) : rcanon t n = rcanon u n ↔ u ∈ classR t n := by
  constructor
  · intro h
    have h1 := rcanon_mem hn hu
    rw [← h] at h1
    exact class_trans hn ht (rcanon_mem hn ht) (class_symm hn hu h1)
  · intro h; exact (rcanon_eq hn ht h).symm
end Go.Tab
namespace Go.Proofs.Ytbpjoamdcbbnnaa
open Go.Abs Go.Tab
attribute [local go_sem] eqA Try.underlying22 Try.underlying3 Try.underlying77 Try.underlying52 Try.underlying23 Try.underlying25 Try.underlying5 Try.underlying4 Try.underlying36 Try.underlying39 Try.underlying41 Try.underlying72 Try.underlying49 Try.underlying26 Try.underlying33 Try.underlying85 size22 size3 size23 size5 size4 size39 Nat.mul_one bne_self_eq_false

theorem rem_lit4 (a : Nat) (ha : a < 256) : intA .rem .u8 (a : Int) 4 = some (.int .u8 ((a % 4 : Nat) : Int)) := by
  show some (Value.int .u8 ((a : Int).tmod 4)) = _
  rw [Int.tmod_eq_emod_of_nonneg (by omega)]
  rfl
/-- What Canon answers of a table of few variables. -/
theorem canon_ok {t : BitVec 64} {n : Nat} (hn : n < 5) (ht : Tab n t) : ∃ s : Tri, s.2.1 < 256 ∧ s.1.length ≤ 4 ∧ CanonR t n = ((rcanon t n, s), 0) := by
  have hv : validT t n = true := validT_iff.2 ⟨n, rfl, by omega, ht⟩
  obtain ⟨s, e, hp, hl, hf, ha⟩ := canon_found hn ht hv
  have h16 := pow_le16 hn
  exact ⟨s, by omega, by omega, by rw [CanonR, if_neg (by simp [hv]; omega), Int.toNat_natCast, e]⟩
theorem canon_call {t : BitVec 64} {n : Nat} (hn : n < 5) (ht : Tab n t) : ∃ s : Tri, s.2.1 < 256 ∧ s.1.length ≤ 4 ∧ ∀ N σ, AOk Try.prog 14 [.int .u64 t.toNat, .int .i64 n] N σ fun v N' σ' => ∃ sv, v = canV sv ((rcanon t n, s), 0) ∧ SlAt σ' sv (ints s.1) ∧ N ≤ N' ∧ σ.le σ' := by
  obtain ⟨s, h1, h2, h3⟩ := canon_ok hn ht
  refine ⟨s, h1, h2, fun N σ => ?_⟩
  have := Canon_ok t n N σ
  rw [h3] at this
  exact this
theorem Classes_gives (t0 u0 : BitVec 64) (q : Nat) (hq : q < 256) (N : Nat) (σ : AHeap) : Gives Try.prog 5 [.int .u64 t0.toNat, .int .u64 u0.toNat, .int .u8 q] N σ (.bool true) := by
  refine gives_of rfl (aok_fresh fun hN => aok_body (n := 96) Try.func5 rfl rfl (by simp) ?_)
  have hrem := rem_lit4 q hq
  have hn : q % 4 < 4 := Nat.mod_lt _ (by omega)
  generalize q % 4 = n at hrem hn
  have hwn := i64_wrap_nat (show n < 9223372036854775808 by omega)
  have hn5 : n < 5 := by omega
  have hn6 : n ≤ 6 := by omega
  have ht := tab_and hn6 t0
  have hu := tab_and hn6 u0
  refine awp_seq (awp_pures [0, 1, 2] (by simp only [go_sem, ↓reduceIte, Nat.reduceLT, Nat.reduceEqDiff, Nat.reduceLeDiff, Nat.reduceAdd, Nat.reduceMul, Int.reduceLT, Int.reduceLE, Int.reduceToNat, BitVec.reduceOfInt, Nat.reduceBEq]; try rfl) ?_)
  refine awp_seq ?_
  first | refine awp_seq (awp_lit ?_) | refine awp_lit ?_ | refine awp_seq (awp_seq (awp_lit ?_))
  refine al_gives (vs := ?vs1) (v := ?v1) rfl ?ha1 ?hh1 (by kernel_rfl) rfl (by simp only [go_sem, ↓reduceIte, Nat.reduceLT, Nat.reduceEqDiff, Nat.reduceLeDiff, Nat.reduceAdd, Nat.reduceMul, Int.reduceLT, Int.reduceLE, Int.reduceToNat, BitVec.reduceOfInt, Nat.reduceBEq]) ?kk1
  case ha1 => simp only [go_sem, ↓reduceIte, Nat.reduceLT, Nat.reduceEqDiff, Nat.reduceLeDiff, Nat.reduceAdd, Nat.reduceMul, Int.reduceLT, Int.reduceLE, Int.reduceToNat, BitVec.reduceOfInt, Nat.reduceBEq]; try rfl
  case hh1 => exact awake_gives _ _
  refine al_pureN 1 (by simp only [go_sem, ↓reduceIte, Nat.reduceLT, Nat.reduceEqDiff, Nat.reduceLeDiff, Nat.reduceAdd, Nat.reduceMul, Int.reduceLT, Int.reduceLE, Int.reduceToNat, BitVec.reduceOfInt, Nat.reduceBEq]; try rfl) ?_
  refine al_end [0, 1, 2, 21] ?_
  refine awp_if rfl (fun h => by cases h) (fun _ => ?_)
  refine awp_skip ?_
  refine awp_seq (awp_pures [0, 1, 7] (by simp only [go_sem, ↓reduceIte, Nat.reduceLT, Nat.reduceEqDiff, Nat.reduceLeDiff, Nat.reduceAdd, Nat.reduceMul, Int.reduceLT, Int.reduceLE, Int.reduceToNat, BitVec.reduceOfInt, Nat.reduceBEq, hrem, hwn]; try rfl) ?_)
  first | refine awp_seq (awp_lit ?_) | refine awp_lit ?_ | refine awp_seq (awp_seq (awp_lit ?_))
  refine al_pureN 2 (by simp only [go_sem, ↓reduceIte, Nat.reduceLT, Nat.reduceEqDiff, Nat.reduceLeDiff, Nat.reduceAdd, Nat.reduceMul, Int.reduceLT, Int.reduceLE, Int.reduceToNat, BitVec.reduceOfInt, Nat.reduceBEq]; try rfl) ?_
  refine al_gives (vs := ?vs2) (v := ?v2) rfl ?ha2 ?hh2 (by kernel_rfl) rfl (by simp only [go_sem, ↓reduceIte, Nat.reduceLT, Nat.reduceEqDiff, Nat.reduceLeDiff, Nat.reduceAdd, Nat.reduceMul, Int.reduceLT, Int.reduceLE, Int.reduceToNat, BitVec.reduceOfInt, Nat.reduceBEq]) ?kk2
  case ha2 => simp only [go_sem, ↓reduceIte, Nat.reduceLT, Nat.reduceEqDiff, Nat.reduceLeDiff, Nat.reduceAdd, Nat.reduceMul, Int.reduceLT, Int.reduceLE, Int.reduceToNat, BitVec.reduceOfInt, Nat.reduceBEq]; try rfl
  case hh2 => exact Mask_gives _ _ _
  rw [lim_of hn6]
  refine al_pureN 3 (by simp only [go_sem, ↓reduceIte, Nat.reduceLT, Nat.reduceEqDiff, Nat.reduceLeDiff, Nat.reduceAdd, Nat.reduceMul, Int.reduceLT, Int.reduceLE, Int.reduceToNat, BitVec.reduceOfInt, Nat.reduceBEq]; try rfl) ?_
  refine al_gives (vs := ?vs3) (v := ?v3) rfl ?ha3 ?hh3 (by kernel_rfl) rfl (by simp only [go_sem, ↓reduceIte, Nat.reduceLT, Nat.reduceEqDiff, Nat.reduceLeDiff, Nat.reduceAdd, Nat.reduceMul, Int.reduceLT, Int.reduceLE, Int.reduceToNat, BitVec.reduceOfInt, Nat.reduceBEq]) ?kk3
  case ha3 => simp only [go_sem, ↓reduceIte, Nat.reduceLT, Nat.reduceEqDiff, Nat.reduceLeDiff, Nat.reduceAdd, Nat.reduceMul, Int.reduceLT, Int.reduceLE, Int.reduceToNat, BitVec.reduceOfInt, Nat.reduceBEq]; try rfl
  case hh3 => exact Mask_gives _ _ _
  rw [lim_of hn6]
  refine al_pureN 3 (by simp only [go_sem, ↓reduceIte, Nat.reduceLT, Nat.reduceEqDiff, Nat.reduceLeDiff, Nat.reduceAdd, Nat.reduceMul, Int.reduceLT, Int.reduceLE, Int.reduceToNat, BitVec.reduceOfInt, Nat.reduceBEq]; try rfl) ?_
  refine al_end [0, 1, 7] ?_
  generalize t0 &&& maskT n = t at ht ⊢
  generalize u0 &&& maskT n = u at hu ⊢
  have hv : validT t n = true := validT_iff.2 ⟨n, rfl, hn6, ht⟩
  have hiff := class_iff hn5 ht hu
  have htwo := rcanon_two hn5 ht
  have hle := rcanon_le (t := t) (n := n)
  have hta := tab_class hn5 (rcanon_mem hn5 ht)
  obtain ⟨oA, fA, lA, canA⟩ := canon_call hn5 ht
  obtain ⟨oB, fB, lB, canB⟩ := canon_call hn5 hu
  obtain ⟨oC, fC, lC, canC⟩ := canon_call hn5 hta
  rw [htwo] at canC
  generalize rcanon t n = a at hiff hle hta canA canC
  generalize rcanon u n = b at hiff canB
  first | refine awp_seq (awp_lit ?_) | refine awp_lit ?_ | refine awp_seq (awp_seq (awp_lit ?_))
  refine al_pureN 2 (by simp only [go_sem, ↓reduceIte, Nat.reduceLT, Nat.reduceEqDiff, Nat.reduceLeDiff, Nat.reduceAdd, Nat.reduceMul, Int.reduceLT, Int.reduceLE, Int.reduceToNat, BitVec.reduceOfInt, Nat.reduceBEq]; try rfl) ?_
  refine al_fun (canA _ _) rfl (by simp only [go_sem, ↓reduceIte, Nat.reduceLT, Nat.reduceEqDiff, Nat.reduceLeDiff, Nat.reduceAdd, Nat.reduceMul, Int.reduceLT, Int.reduceLE, Int.reduceToNat, BitVec.reduceOfInt, Nat.reduceBEq]; try rfl) (by kernel_rfl) rfl (by simp only [go_sem, ↓reduceIte, Nat.reduceLT, Nat.reduceEqDiff, Nat.reduceLeDiff, Nat.reduceAdd, Nat.reduceMul, Int.reduceLT, Int.reduceLE, Int.reduceToNat, BitVec.reduceOfInt, Nat.reduceBEq]; try rfl) ?_
  rintro vA MA τA ⟨svA, rfl, hsA, hMA, hlA⟩
  refine al_pureN 4 (by simp only [go_sem, ↓reduceIte, Nat.reduceLT, Nat.reduceEqDiff, Nat.reduceLeDiff, Nat.reduceAdd, Nat.reduceMul, Int.reduceLT, Int.reduceLE, Int.reduceToNat, BitVec.reduceOfInt, Nat.reduceBEq, canV]; try rfl) ?_
  refine al_fresh fun hFA => ?_
  refine al_alloc 1 rfl rfl rfl ty25 (by decide) ?_
  refine al_pureN 1 (by simp only [go_sem, ↓reduceIte, Nat.reduceLT, Nat.reduceEqDiff, Nat.reduceLeDiff, Nat.reduceAdd, Nat.reduceMul, Int.reduceLT, Int.reduceLE, Int.reduceToNat, BitVec.reduceOfInt, Nat.reduceBEq]; try rfl) ?_
  obtain ⟨bA, cA, rfl⟩ := hsA.len
  refine al_store (v := .agg #[.slice bA (ints oA.1).length cA, .int .u8 oA.2.1, .bool oA.2.2]) rfl (by simp only [go_sem, ↓reduceIte, Nat.reduceLT, Nat.reduceEqDiff, Nat.reduceLeDiff, Nat.reduceAdd, Nat.reduceMul, Int.reduceLT, Int.reduceLE, Int.reduceToNat, BitVec.reduceOfInt, Nat.reduceBEq]; try rfl) rfl (by simp only [go_sem, ↓reduceIte, Nat.reduceLT, Nat.reduceEqDiff, Nat.reduceLeDiff, Nat.reduceAdd, Nat.reduceMul, Int.reduceLT, Int.reduceLE, Int.reduceToNat, BitVec.reduceOfInt, Nat.reduceBEq]; try rfl) (by simp only [go_sem, ↓reduceIte, Nat.reduceLT, Nat.reduceEqDiff, Nat.reduceLeDiff, Nat.reduceAdd, Nat.reduceMul, Int.reduceLT, Int.reduceLE, Int.reduceToNat, BitVec.reduceOfInt, Nat.reduceBEq]; try rfl) (AHeap.set_self _ _ _) rfl size25 rfl (by exact Nat.le_refl 3) ?_
  rw [set_set]
  refine al_forget (σ' := τA) (AHeap.le_set (AHeap.le_refl _) fun i b hb => Nat.ne_of_lt (hFA i b hb)) ?_
  refine al_pureN 1 (by simp only [go_sem, ↓reduceIte, Nat.reduceLT, Nat.reduceEqDiff, Nat.reduceLeDiff, Nat.reduceAdd, Nat.reduceMul, Int.reduceLT, Int.reduceLE, Int.reduceToNat, BitVec.reduceOfInt, Nat.reduceBEq]; try rfl) ?_
  refine al_end [0, 1, 7, 8, 10] ?_
  first | refine awp_seq (awp_lit ?_) | refine awp_lit ?_ | refine awp_seq (awp_seq (awp_lit ?_))
  refine al_pureN 2 (by simp only [go_sem, ↓reduceIte, Nat.reduceLT, Nat.reduceEqDiff, Nat.reduceLeDiff, Nat.reduceAdd, Nat.reduceMul, Int.reduceLT, Int.reduceLE, Int.reduceToNat, BitVec.reduceOfInt, Nat.reduceBEq]; try rfl) ?_
  refine al_fun (canB _ _) rfl (by simp only [go_sem, ↓reduceIte, Nat.reduceLT, Nat.reduceEqDiff, Nat.reduceLeDiff, Nat.reduceAdd, Nat.reduceMul, Int.reduceLT, Int.reduceLE, Int.reduceToNat, BitVec.reduceOfInt, Nat.reduceBEq]; try rfl) (by kernel_rfl) rfl (by simp only [go_sem, ↓reduceIte, Nat.reduceLT, Nat.reduceEqDiff, Nat.reduceLeDiff, Nat.reduceAdd, Nat.reduceMul, Int.reduceLT, Int.reduceLE, Int.reduceToNat, BitVec.reduceOfInt, Nat.reduceBEq]; try rfl) ?_
  rintro vB MB τB ⟨svB, rfl, hsB, hMB, hlB⟩
  refine al_pureN 4 (by simp only [go_sem, ↓reduceIte, Nat.reduceLT, Nat.reduceEqDiff, Nat.reduceLeDiff, Nat.reduceAdd, Nat.reduceMul, Int.reduceLT, Int.reduceLE, Int.reduceToNat, BitVec.reduceOfInt, Nat.reduceBEq, canV]; try rfl) ?_
  refine al_fresh fun hFB => ?_
  refine al_alloc 1 rfl rfl rfl ty25 (by decide) ?_
  refine al_pureN 1 (by simp only [go_sem, ↓reduceIte, Nat.reduceLT, Nat.reduceEqDiff, Nat.reduceLeDiff, Nat.reduceAdd, Nat.reduceMul, Int.reduceLT, Int.reduceLE, Int.reduceToNat, BitVec.reduceOfInt, Nat.reduceBEq]; try rfl) ?_
  obtain ⟨bB, cB, rfl⟩ := hsB.len
  refine al_store (v := .agg #[.slice bB (ints oB.1).length cB, .int .u8 oB.2.1, .bool oB.2.2]) rfl (by simp only [go_sem, ↓reduceIte, Nat.reduceLT, Nat.reduceEqDiff, Nat.reduceLeDiff, Nat.reduceAdd, Nat.reduceMul, Int.reduceLT, Int.reduceLE, Int.reduceToNat, BitVec.reduceOfInt, Nat.reduceBEq]; try rfl) rfl (by simp only [go_sem, ↓reduceIte, Nat.reduceLT, Nat.reduceEqDiff, Nat.reduceLeDiff, Nat.reduceAdd, Nat.reduceMul, Int.reduceLT, Int.reduceLE, Int.reduceToNat, BitVec.reduceOfInt, Nat.reduceBEq]; try rfl) (by simp only [go_sem, ↓reduceIte, Nat.reduceLT, Nat.reduceEqDiff, Nat.reduceLeDiff, Nat.reduceAdd, Nat.reduceMul, Int.reduceLT, Int.reduceLE, Int.reduceToNat, BitVec.reduceOfInt, Nat.reduceBEq]; try rfl) (AHeap.set_self _ _ _) rfl size25 rfl (by exact Nat.le_refl 3) ?_
  rw [set_set]
  refine al_forget (σ' := τB) (AHeap.le_set (AHeap.le_refl _) fun i b hb => Nat.ne_of_lt (hFB i b hb)) ?_
  refine al_pureN 1 (by simp only [go_sem, ↓reduceIte, Nat.reduceLT, Nat.reduceEqDiff, Nat.reduceLeDiff, Nat.reduceAdd, Nat.reduceMul, Int.reduceLT, Int.reduceLE, Int.reduceToNat, BitVec.reduceOfInt, Nat.reduceBEq]; try rfl) ?_
  refine al_end [0, 1, 7, 8, 10, 11, 13] ?_
  first | refine awp_seq (awp_lit ?_) | refine awp_lit ?_ | refine awp_seq (awp_seq (awp_lit ?_))
  refine al_pureN 2 (by simp only [go_sem, ↓reduceIte, Nat.reduceLT, Nat.reduceEqDiff, Nat.reduceLeDiff, Nat.reduceAdd, Nat.reduceMul, Int.reduceLT, Int.reduceLE, Int.reduceToNat, BitVec.reduceOfInt, Nat.reduceBEq]; try rfl) ?_
  refine al_fun (canC _ _) rfl (by simp only [go_sem, ↓reduceIte, Nat.reduceLT, Nat.reduceEqDiff, Nat.reduceLeDiff, Nat.reduceAdd, Nat.reduceMul, Int.reduceLT, Int.reduceLE, Int.reduceToNat, BitVec.reduceOfInt, Nat.reduceBEq]; try rfl) (by kernel_rfl) rfl (by simp only [go_sem, ↓reduceIte, Nat.reduceLT, Nat.reduceEqDiff, Nat.reduceLeDiff, Nat.reduceAdd, Nat.reduceMul, Int.reduceLT, Int.reduceLE, Int.reduceToNat, BitVec.reduceOfInt, Nat.reduceBEq]; try rfl) ?_
  rintro vC MC τC ⟨svC, rfl, hsC, hMC, hlC⟩
  refine al_pureN 4 (by simp only [go_sem, ↓reduceIte, Nat.reduceLT, Nat.reduceEqDiff, Nat.reduceLeDiff, Nat.reduceAdd, Nat.reduceMul, Int.reduceLT, Int.reduceLE, Int.reduceToNat, BitVec.reduceOfInt, Nat.reduceBEq, canV]; try rfl) ?_
  refine al_fresh fun hFC => ?_
  refine al_alloc 1 rfl rfl rfl ty25 (by decide) ?_
  refine al_pureN 1 (by simp only [go_sem, ↓reduceIte, Nat.reduceLT, Nat.reduceEqDiff, Nat.reduceLeDiff, Nat.reduceAdd, Nat.reduceMul, Int.reduceLT, Int.reduceLE, Int.reduceToNat, BitVec.reduceOfInt, Nat.reduceBEq]; try rfl) ?_
  obtain ⟨bC, cC, rfl⟩ := hsC.len
  refine al_store (v := .agg #[.slice bC (ints oC.1).length cC, .int .u8 oC.2.1, .bool oC.2.2]) rfl (by simp only [go_sem, ↓reduceIte, Nat.reduceLT, Nat.reduceEqDiff, Nat.reduceLeDiff, Nat.reduceAdd, Nat.reduceMul, Int.reduceLT, Int.reduceLE, Int.reduceToNat, BitVec.reduceOfInt, Nat.reduceBEq]; try rfl) rfl (by simp only [go_sem, ↓reduceIte, Nat.reduceLT, Nat.reduceEqDiff, Nat.reduceLeDiff, Nat.reduceAdd, Nat.reduceMul, Int.reduceLT, Int.reduceLE, Int.reduceToNat, BitVec.reduceOfInt, Nat.reduceBEq]; try rfl) (by simp only [go_sem, ↓reduceIte, Nat.reduceLT, Nat.reduceEqDiff, Nat.reduceLeDiff, Nat.reduceAdd, Nat.reduceMul, Int.reduceLT, Int.reduceLE, Int.reduceToNat, BitVec.reduceOfInt, Nat.reduceBEq]; try rfl) (AHeap.set_self _ _ _) rfl size25 rfl (by exact Nat.le_refl 3) ?_
  rw [set_set]
  refine al_forget (σ' := τC) (AHeap.le_set (AHeap.le_refl _) fun i b hb => Nat.ne_of_lt (hFC i b hb)) ?_
  refine al_pureN 1 (by simp only [go_sem, ↓reduceIte, Nat.reduceLT, Nat.reduceEqDiff, Nat.reduceLeDiff, Nat.reduceAdd, Nat.reduceMul, Int.reduceLT, Int.reduceLE, Int.reduceToNat, BitVec.reduceOfInt, Nat.reduceBEq]; try rfl) ?_
  refine al_end [0, 1, 7, 8, 10, 11, 13, 14, 16] ?_
  refine awp_seq (awp_pures [0, 1, 7, 8, 10, 11, 13, 14, 16, 17] (by simp only [go_sem, ↓reduceIte, Nat.reduceLT, Nat.reduceEqDiff, Nat.reduceLeDiff, Nat.reduceAdd, Nat.reduceMul, Int.reduceLT, Int.reduceLE, Int.reduceToNat, BitVec.reduceOfInt, Nat.reduceBEq]; try rfl) ?_)
  refine awp_seq ?_
  first | refine awp_seq (awp_lit ?_) | refine awp_lit ?_ | refine awp_seq (awp_seq (awp_lit ?_))
  refine al_pureN 2 (by simp only [go_sem, ↓reduceIte, Nat.reduceLT, Nat.reduceEqDiff, Nat.reduceLeDiff, Nat.reduceAdd, Nat.reduceMul, Int.reduceLT, Int.reduceLE, Int.reduceToNat, BitVec.reduceOfInt, Nat.reduceBEq]; try rfl) ?_
  refine al_fun (Class_ok t hn5 hv _ _) rfl (by simp only [go_sem, ↓reduceIte, Nat.reduceLT, Nat.reduceEqDiff, Nat.reduceLeDiff, Nat.reduceAdd, Nat.reduceMul, Int.reduceLT, Int.reduceLE, Int.reduceToNat, BitVec.reduceOfInt, Nat.reduceBEq]; try rfl) (by kernel_rfl) rfl (by simp only [go_sem, ↓reduceIte, Nat.reduceLT, Nat.reduceEqDiff, Nat.reduceLeDiff, Nat.reduceAdd, Nat.reduceMul, Int.reduceLT, Int.reduceLE, Int.reduceToNat, BitVec.reduceOfInt, Nat.reduceBEq]; try rfl) ?_
  rintro sv N1 σ1 ⟨hs, hN1, hle1⟩
  obtain ⟨bb, cc, rfl⟩ := hs.len
  have hul := u64s_len (classR t n)
  have hcl : (classR t n).length ≤ 1000 := by
    have := cls_len t n (ordersR n)
    have h16 := pow_le16 hn5
    have : (ordersR n).length * (2 * 2 ^ n) ≤ 24 * 32 := Nat.mul_le_mul (orders_len n hn5).1 (by omega)
    have e : classR t n = (ordersR n).flatMap (clsRow t n) := rfl
    rw [e]; omega
  generalize classR t n = L at hs hul hcl hiff
  rw [hul] at hs ⊢
  refine al_pureN 2 (by simp only [go_sem, ↓reduceIte, Nat.reduceLT, Nat.reduceEqDiff, Nat.reduceLeDiff, Nat.reduceAdd, Nat.reduceMul, Int.reduceLT, Int.reduceLE, Int.reduceToNat, BitVec.reduceOfInt, Nat.reduceBEq]; try rfl) ?_
  refine al_end [0, 1, 8, 10, 11, 13, 14, 16, 17, 56, 57, 58] ?_
  have hleN : σ.le σ1 := AHeap.le_trans hlA (AHeap.le_trans hlB (AHeap.le_trans hlC hle1))
  refine awp_block (awp_loop ?_)
  refine ALoop.cast3 (aloop_ind (α := Nat) (fun i => i ≤ L.length) (fun i => L.length - i)
    (fun i => [(0, .int .u64 t.toNat), (1, .int .u64 u.toNat), (8, .int .u64 a.toNat), (10, .int .i64 0), (11, .int .u64 b.toNat), (13, .int .i64 0), (14, .int .u64 a.toNat), (16, .int .i64 0), (17, .bool ((L.take i).any fun x => decide (x = u))), (56, .slice bb L.length cc), (57, .int .i64 L.length), (58, .int .i64 i)]) (fun _ => N1) (fun _ => σ1) ?_ 0 (by simp)) rfl rfl rfl
  intro i hi ih
  by_cases hlt : i < L.length
  · have hb : decide ((i : Int) < (L.length : Int)) = true := decide_eq_true (by omega)
    have hii : 0 ≤ (i : Int) ∧ (i : Int) < (L.length : Int) := by omega
    have hj1 : -9223372036854775808 ≤ (i : Int) + 1 ∧ (i : Int) + 1 ≤ 9223372036854775807 := by omega
    obtain ⟨id, off, cap, blk, e1, e2, e3⟩ := hs.at (j := i) (by omega)
    rw [hul] at e1
    cases e1
    have e3 : blk.cells[off + i]? = some (.int .u64 (L[i]).toNat) := by rw [e3]; simp [u64s]
    have hstep : ((L.take (i + 1)).any fun x => decide (x = u)) = (((L.take i).any fun x => decide (x = u)) || decide (L[i] = u)) := by
      rw [List.take_add_one, List.getElem?_eq_getElem hlt, List.any_append]; simp
    generalize L[i] = x at e3 hstep
    generalize ((L.take i).any fun x => decide (x = u)) = y at hstep
    refine awp_seq (awp_pures [0, 1, 8, 10, 11, 13, 14, 16, 17, 56, 57, 58, 59] (by simp only [go_sem, ↓reduceIte, Nat.reduceLT, Nat.reduceEqDiff, Nat.reduceLeDiff, Nat.reduceAdd, Nat.reduceMul, Int.reduceLT, Int.reduceLE, Int.reduceToNat, BitVec.reduceOfInt, Nat.reduceBEq, hb]; try rfl) ?_)
    refine awp_seq ?_
    refine awp_if rfl (fun _ => ?_) (fun h => by cases h)
    refine awp_skip ?_
    refine awp_seq (awp_block ?_)
    first | refine awp_seq (awp_lit ?_) | refine awp_lit ?_ | refine awp_seq (awp_seq (awp_lit ?_))
    refine al_pureN 1 (by simp only [go_sem, ↓reduceIte, Nat.reduceLT, Nat.reduceEqDiff, Nat.reduceLeDiff, Nat.reduceAdd, Nat.reduceMul, Int.reduceLT, Int.reduceLE, Int.reduceToNat, BitVec.reduceOfInt, Nat.reduceBEq, hii]; try rfl) ?_
    refine al_load rfl (by simp only [go_sem, ↓reduceIte, Nat.reduceLT, Nat.reduceEqDiff, Nat.reduceLeDiff, Nat.reduceAdd, Nat.reduceMul, Int.reduceLT, Int.reduceLE, Int.reduceToNat, BitVec.reduceOfInt, Nat.reduceBEq]) rfl (by simp only [go_sem, ↓reduceIte, Nat.reduceLT, Nat.reduceEqDiff, Nat.reduceLeDiff, Nat.reduceAdd, Nat.reduceMul, Int.reduceLT, Int.reduceLE, Int.reduceToNat, BitVec.reduceOfInt, Nat.reduceBEq]; try rfl) e2 (loadA_scalar agg22 e3) ?_
    refine al_pureN 1 (by simp only [go_sem, ↓reduceIte, Nat.reduceLT, Nat.reduceEqDiff, Nat.reduceLeDiff, Nat.reduceAdd, Nat.reduceMul, Int.reduceLT, Int.reduceLE, Int.reduceToNat, BitVec.reduceOfInt, Nat.reduceBEq]; try rfl) ?_
    refine al_end [0, 1, 8, 10, 11, 13, 14, 16, 17, 19, 56, 57, 58] ?_
    cases y with
    | true =>
      rw [Bool.true_or] at hstep
      refine awp_pures [0, 1, 8, 10, 11, 13, 14, 16, 17, 56, 57, 58] (by simp only [go_sem, ↓reduceIte, Nat.reduceLT, Nat.reduceEqDiff, Nat.reduceLeDiff, Nat.reduceAdd, Nat.reduceMul, Int.reduceLT, Int.reduceLE, Int.reduceToNat, BitVec.reduceOfInt, Nat.reduceBEq, undef]; try rfl) ?_
      refine awp_pures [0, 1, 8, 10, 11, 13, 14, 16, 17, 56, 57, 58] (by simp only [go_sem, ↓reduceIte, Nat.reduceLT, Nat.reduceEqDiff, Nat.reduceLeDiff, Nat.reduceAdd, Nat.reduceMul, Int.reduceLT, Int.reduceLE, Int.reduceToNat, BitVec.reduceOfInt, Nat.reduceBEq, i64_add hj1]; try rfl) ?_
      have e := ih (i + 1) hlt (by omega)
      rw [hstep] at e
      refine ALoop.cast e ?_
      first | (simp only [go_sem]; try rfl) | rfl
    | false =>
      rw [Bool.false_or] at hstep
      refine awp_pures [0, 1, 8, 10, 11, 13, 14, 16, 17, 56, 57, 58] (by simp only [go_sem, ↓reduceIte, Nat.reduceLT, Nat.reduceEqDiff, Nat.reduceLeDiff, Nat.reduceAdd, Nat.reduceMul, Int.reduceLT, Int.reduceLE, Int.reduceToNat, BitVec.reduceOfInt, Nat.reduceBEq]; try rfl) ?_
      refine awp_pures [0, 1, 8, 10, 11, 13, 14, 16, 17, 56, 57, 58] (by simp only [go_sem, ↓reduceIte, Nat.reduceLT, Nat.reduceEqDiff, Nat.reduceLeDiff, Nat.reduceAdd, Nat.reduceMul, Int.reduceLT, Int.reduceLE, Int.reduceToNat, BitVec.reduceOfInt, Nat.reduceBEq, i64_add hj1]; try rfl) ?_
      rw [← hstep]
      refine (ih (i + 1) hlt (by omega)).cast (by first | (simp only [go_sem, ↓reduceIte, Nat.reduceLT, Nat.reduceEqDiff, Nat.reduceLeDiff, Nat.reduceAdd, Nat.reduceMul, Int.reduceLT, Int.reduceLE, Int.reduceToNat, BitVec.reduceOfInt, Nat.reduceBEq]; try rfl) | rfl)
  · have hb : decide ((i : Int) < (L.length : Int)) = false := decide_eq_false (by omega)
    have hie : i = L.length := by omega
    subst hie
    have hany : (L.any fun x => decide (x = u)) = decide (a = b) := by
      rw [Bool.eq_iff_iff, List.any_eq_true, decide_eq_true_eq, hiff]
      constructor
      · rintro ⟨x, hx, h⟩; rw [decide_eq_true_eq] at h; subst h; exact hx
      · intro h; exact ⟨u, h, decide_eq_true rfl⟩
    rw [List.take_length, hany]
    have haa : decide (a = a) = true := decide_eq_true rfl
    have hdd : (decide (a = b) == decide (a = b)) = true := by simp
    have hlu : decide ((a.toNat : Int) ≤ (t.toNat : Int)) = true := decide_eq_true (by omega)
    refine awp_seq (awp_pures [0, 1, 8, 10, 11, 13, 14, 16, 17, 56, 57, 58, 59] (by simp only [go_sem, ↓reduceIte, Nat.reduceLT, Nat.reduceEqDiff, Nat.reduceLeDiff, Nat.reduceAdd, Nat.reduceMul, Int.reduceLT, Int.reduceLE, Int.reduceToNat, BitVec.reduceOfInt, Nat.reduceBEq, hb]; try rfl) ?_)
    refine awp_seq ?_
    refine awp_if rfl (fun h => by cases h) (fun _ => ?_)
    refine awp_exit ?_
    simp only [Go.Abs.Seq, Go.Abs.Round, Go.Abs.InBlock, ↓reduceIte]
    first | refine awp_seq (awp_lit ?_) | refine awp_lit ?_ | refine awp_seq (awp_seq (awp_lit ?_))
    refine al_pureN 3 (by simp only [go_sem, ↓reduceIte, Nat.reduceLT, Nat.reduceEqDiff, Nat.reduceLeDiff, Nat.reduceAdd, Nat.reduceMul, Int.reduceLT, Int.reduceLE, Int.reduceToNat, BitVec.reduceOfInt, Nat.reduceBEq, haa, hdd, hlu]; try rfl) ?_
    refine al_pureN 2 (by simp only [go_sem, ↓reduceIte, Nat.reduceLT, Nat.reduceEqDiff, Nat.reduceLeDiff, Nat.reduceAdd, Nat.reduceMul, Int.reduceLT, Int.reduceLE, Int.reduceToNat, BitVec.reduceOfInt, Nat.reduceBEq, haa, hdd, hlu]; try rfl) ?_
    refine al_pureN 3 (by simp only [go_sem, ↓reduceIte, Nat.reduceLT, Nat.reduceEqDiff, Nat.reduceLeDiff, Nat.reduceAdd, Nat.reduceMul, Int.reduceLT, Int.reduceLE, Int.reduceToNat, BitVec.reduceOfInt, Nat.reduceBEq, haa, hdd, hlu]; try rfl) ?_
    refine al_pureN 3 (by simp only [go_sem, ↓reduceIte, Nat.reduceLT, Nat.reduceEqDiff, Nat.reduceLeDiff, Nat.reduceAdd, Nat.reduceMul, Int.reduceLT, Int.reduceLE, Int.reduceToNat, BitVec.reduceOfInt, Nat.reduceBEq, haa, hdd, hlu]; try rfl) ?_
    refine al_pureN 2 (by simp only [go_sem, ↓reduceIte, Nat.reduceLT, Nat.reduceEqDiff, Nat.reduceLeDiff, Nat.reduceAdd, Nat.reduceMul, Int.reduceLT, Int.reduceLE, Int.reduceToNat, BitVec.reduceOfInt, Nat.reduceBEq, haa, hdd, hlu]; try rfl) ?_
    refine al_pureN 2 (by simp only [go_sem, ↓reduceIte, Nat.reduceLT, Nat.reduceEqDiff, Nat.reduceLeDiff, Nat.reduceAdd, Nat.reduceMul, Int.reduceLT, Int.reduceLE, Int.reduceToNat, BitVec.reduceOfInt, Nat.reduceBEq, haa, hdd, hlu]; try rfl) ?_
    refine al_pureN 3 (by simp only [go_sem, ↓reduceIte, Nat.reduceLT, Nat.reduceEqDiff, Nat.reduceLeDiff, Nat.reduceAdd, Nat.reduceMul, Int.reduceLT, Int.reduceLE, Int.reduceToNat, BitVec.reduceOfInt, Nat.reduceBEq, haa, hdd, hlu]; try rfl) ?_
    refine al_pureN 2 (by simp only [go_sem, ↓reduceIte, Nat.reduceLT, Nat.reduceEqDiff, Nat.reduceLeDiff, Nat.reduceAdd, Nat.reduceMul, Int.reduceLT, Int.reduceLE, Int.reduceToNat, BitVec.reduceOfInt, Nat.reduceBEq, haa, hdd, hlu]; try rfl) ?_
    refine al_pureN 3 (by simp only [go_sem, ↓reduceIte, Nat.reduceLT, Nat.reduceEqDiff, Nat.reduceLeDiff, Nat.reduceAdd, Nat.reduceMul, Int.reduceLT, Int.reduceLE, Int.reduceToNat, BitVec.reduceOfInt, Nat.reduceBEq, haa, hdd, hlu]; try rfl) ?_
    refine al_pureN 2 (by simp only [go_sem, ↓reduceIte, Nat.reduceLT, Nat.reduceEqDiff, Nat.reduceLeDiff, Nat.reduceAdd, Nat.reduceMul, Int.reduceLT, Int.reduceLE, Int.reduceToNat, BitVec.reduceOfInt, Nat.reduceBEq, haa, hdd, hlu]; try rfl) ?_
    refine al_pureN 3 (by simp only [go_sem, ↓reduceIte, Nat.reduceLT, Nat.reduceEqDiff, Nat.reduceLeDiff, Nat.reduceAdd, Nat.reduceMul, Int.reduceLT, Int.reduceLE, Int.reduceToNat, BitVec.reduceOfInt, Nat.reduceBEq, haa, hdd, hlu]; try rfl) ?_
    refine al_end [6] ?_
    refine awp_ret ⟨_, rfl, ?_, hleN⟩
    show Value.bool (decide ((a.toNat : Int) ≤ (t.toNat : Int))) = _
    rw [hlu]
end Go.Proofs.Ytbpjoamdcbbnnaa
