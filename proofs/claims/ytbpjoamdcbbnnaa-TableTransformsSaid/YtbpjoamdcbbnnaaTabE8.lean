/- Transformations keep the representative and the number of variables in the support; the walk of TableTransforms. -/
import Derived.Test.YtbpjoamdcbbnnaaTabE7
set_option linter.unusedSimpArgs false
set_option linter.unusedVariables false
namespace Go.Tab
variable {t u : BitVec 64} {n : Nat}
def tuples (n : Nat) : Nat → List (List Int)
  | 0 => [[]]
  | d + 1 => (tuples n d).flatMap fun l => (List.range n).map fun (i : Nat) => (i : Int) :: l
theorem mem_tuples (n : Nat) : ∀ (l : List Int), (∀ x ∈ l, 0 ≤ x ∧ x < n) → l ∈ tuples n l.length
  | [], _ => List.mem_singleton.2 rfl
  | x :: l, h => by
    have ih := mem_tuples n l fun y hy => h y (by simp [hy])
    have hx := h x (by simp)
    simp only [List.length_cons, tuples, List.mem_flatMap, List.mem_map, List.mem_range]
    exact ⟨l, ih, x.toNat, by omega, by rw [Int.toNat_of_nonneg hx.1]⟩
theorem perm_orders : ∀ n : Nat, n < 5 → ((tuples n n).all fun l => !(permR l n) || (ordersR n).contains l) = true := by decide +kernel
theorem permR_ord (hn : n < 5) {l : List Int} (h : permR l n = true) : l ∈ ordersR n := by
  obtain ⟨h1, h2⟩ := permR_mem h
  have hl : l.length = n := by omega
  have hm := mem_tuples n l h2
  rw [hl] at hm
  have := List.all_eq_true.1 (perm_orders n hn) l hm
  rw [h] at this
  simpa using this
theorem ord_nodup : ∀ n : Nat, n < 5 → ((ordersR n).all fun l => ((List.range n).all fun i => (List.range n).all fun j => decide (i = j) || !decide ((l.getD i 0).toNat = (l.getD j 0).toNat)) && decide ((l.map Int.toNat).Perm (List.range n))) = true := by decide +kernel
theorem ord_perm (hn : n < 5) {l : List Int} (h : l ∈ ordersR n) : (∀ i j, i < n → j < n → (l.getD i 0).toNat = (l.getD j 0).toNat → i = j) ∧ (l.map Int.toNat).Perm (List.range n) := by
  have := List.all_eq_true.1 (ord_nodup n hn) l h
  rw [Bool.and_eq_true, decide_eq_true_eq] at this
  refine ⟨fun i j hi hj e => ?_, this.2⟩
  have h2 := List.all_eq_true.1 (List.all_eq_true.1 this.1 i (List.mem_range.2 hi)) j (List.mem_range.2 hj)
  simp only [e, decide_true, Bool.not_true, Bool.or_false, decide_eq_true_eq] at h2
  exact h2
theorem permX_setb (hn : n < 5) {l : List Int} (h : l ∈ ordersR n) (k : Nat) {i : Nat} (hi : i < n) (v : Bool) : permX (setb k (l.getD i 0).toNat v) l 0 0 = setb (permX k l 0 0) i v := Nat.eq_of_testBit_eq fun j => by
  obtain ⟨hl, hx⟩ := ord_len hn h
  obtain ⟨hd, _⟩ := ord_perm hn h
  rw [permX_bit0, setb_testBit, permX_bit0]
  cases hj : l[j]? with
  | none =>
    have : l.length ≤ j := List.getElem?_eq_none_iff.1 hj
    rw [if_neg (by omega)]
  | some o =>
    obtain ⟨hj1, hj2⟩ := List.getElem?_eq_some_iff.1 hj
    simp only [setb_testBit]
    have hgo : o = l.getD j 0 := by rw [List.getD_eq_getElem?_getD, hj]; rfl
    by_cases e : j = i
    · subst e; rw [if_pos (by rw [hgo]), if_pos rfl]
    · rw [if_neg (fun hh => e ?_), if_neg e]
      rw [hgo] at hh
      exact hd j i (by omega) hi hh
theorem setb_xor (x f i : Nat) (v : Bool) : setb x i v ^^^ f = setb (x ^^^ f) i (v != f.testBit i) := Nat.eq_of_testBit_eq fun j => by
  rw [Nat.testBit_xor, setb_testBit, setb_testBit, Nat.testBit_xor]
  by_cases e : j = i
  · subst e; simp
  · simp [e]
theorem ind_apply (hn : n < 5) (ht : Tab n t) {l : List Int} {f : Nat} (b : Bool) (h : l ∈ ordersR n) (hf : f < 2 ^ n) {i : Nat} (hi : i < n) (hI : Ind n t i) : Ind n (applyV t n l f b) (l.getD i 0).toNat := fun k v hk => by
  obtain ⟨hl, hx⟩ := ord_len hn h
  have hj : (l.getD i 0).toNat < n := hx _ (by rw [List.getD_eq_getElem?_getD, List.getElem?_eq_getElem (by omega)]; exact List.getElem_mem _)
  have hk2 := setb_lt v hk hj
  have n6 : n ≤ 6 := by omega
  have hpx : permX k l 0 0 ^^^ f < 2 ^ n := xor_lt (hl ▸ permX_lt0 k l) hf
  rw [applyV_bit n6 ht hl hf b hk2, applyV_bit n6 ht hl hf b hk, permX_setb hn h k hi v, setb_xor, hI _ _ hpx]
theorem dep_apply (hn : n < 5) (ht : Tab n t) {l : List Int} {f : Nat} (b : Bool) (h : l ∈ ordersR n) (hf : f < 2 ^ n) {i : Nat} (hi : i < n) : depR (applyV t n l f b) n ((l.getD i 0).toNat : Nat) = depR t n i := by
  have n6 : n ≤ 6 := by omega
  obtain ⟨hl, hx⟩ := ord_len hn h
  have hli : l[i]? = some (l.getD i 0) := by rw [List.getD_eq_getElem?_getD, List.getElem?_eq_getElem (by omega)]; rfl
  have hj : (l.getD i 0).toNat < n := hx _ (List.mem_of_getElem? hli)
  have h1 : Ind n t i → Ind n (applyV t n l f b) (l.getD i 0).toNat := ind_apply hn ht b h hf hi
  have h2 : Ind n (applyV t n l f b) (l.getD i 0).toNat → Ind n t i := by
    intro hI
    have := List.all_eq_true.1 (comp_inv n hn) l h
    rw [List.any_eq_true] at this
    obtain ⟨l2, o2, hl2⟩ := this
    have hl2 : compL l l2 = idL n := by simpa using hl2
    obtain ⟨n2, i2⟩ := ord_len hn o2
    have hf2 : permX f l2 0 0 < 2 ^ n := n2 ▸ permX_lt0 f l2
    have e := apply_two hn ht b b h o2 hf hf2
    have h16 := pow_le16 hn
    rw [permX_comp f (fun x hx' => by rw [n2]; exact hx x hx'), hl2, permX_id n hn f (by omega) hf, Nat.xor_self, show (b != b) = false by simp, applyV_id hn ht] at e
    have := ind_apply hn (tab_applyV t n6 l f b) b o2 hf2 hj hI
    rw [e] at this
    have hback : (l2.getD (l.getD i 0).toNat 0).toNat = i := by
      have h3 := congrArg (·[i]?) hl2
      simp only [compL, List.getElem?_map, hli, Option.map_some, idL] at h3
      rw [List.getElem?_range hi] at h3
      simp only [Option.map_some, Option.some.injEq] at h3
      rw [h3]; rfl
    rwa [hback] at this
  cases hd : depR t n i with
  | false => exact (depR_iff _ n6 hj).2 (h1 ((depR_iff t n6 hi).1 hd))
  | true =>
    cases hd2 : depR (applyV t n l f b) n ((l.getD i 0).toNat : Nat) with
    | true => rfl
    | false =>
      have := (depR_iff t n6 hi).2 (h2 ((depR_iff _ n6 hj).1 hd2))
      rw [hd] at this; cases this
theorem supGo_count (t : BitVec 64) (n : Int) : ∀ d i, (supGo t n d i).length = (List.range' i d).countP fun (j : Nat) => depR t n j
  | 0, i => rfl
  | d + 1, i => by
    rw [supGo, List.length_append, supGo_count t n d (i + 1), List.range'_succ, List.countP_cons]
    split <;> simp <;> omega
theorem support_apply (hn : n < 5) (ht : Tab n t) {l : List Int} {f : Nat} (b : Bool) (h : l ∈ ordersR n) (hf : f < 2 ^ n) : (supportR (applyV t n l f b) n).length = (supportR t n).length := by
  have n6 : n ≤ 6 := by omega
  obtain ⟨hl, hx⟩ := ord_len hn h
  obtain ⟨_, hp⟩ := ord_perm hn h
  unfold supportR
  rw [lim_of n6, supGo_count, supGo_count, ← List.range_eq_range', ← hp.countP_eq, show l.map Int.toNat = (List.range n).map fun i => (l.getD i 0).toNat from ?_, List.countP_map]
  · refine List.countP_congr fun i hi => ?_
    have := dep_apply hn ht b h hf (List.mem_range.1 hi)
    simp only [Function.comp]
    rw [this]
  · refine List.ext_getElem (by simp [hl]) fun i h1 h2 => ?_
    simp only [List.length_map] at h1
    simp only [List.getElem_map, List.getElem_range]
    rw [List.getD_eq_getElem?_getD, List.getElem?_eq_getElem h1]
    rfl
/-- What Apply answers of a valid table. -/
theorem apply_is (hn : n < 5) (ht : Tab n t) (l : List Int) (f : Nat) (b : Bool) : ∃ u e, ApplyR t n l f b = (u, e) ∧ Tab n u ∧ ((e = 0 ∧ (permR l n && decide (f < 2 ^ n)) = true ∧ u = applyV t n l f b) ∨ (e = 1 ∧ (permR l n && decide (f < 2 ^ n)) = false)) := by
  have n6 : n ≤ 6 := by omega
  have hv : validT t n = true := validT_iff.2 ⟨n, rfl, n6, ht⟩
  unfold ApplyR
  cases h : (permR l n && decide (f < 2 ^ n)) with
  | true =>
    rw [Bool.and_eq_true, decide_eq_true_eq] at h
    rw [if_pos ⟨hv, h.1, shr_zero.2 (by simpa using h.2)⟩]
    exact ⟨_, _, rfl, tab_applyV _ n6 _ _ _, .inl ⟨rfl, rfl, rfl⟩⟩
  | false =>
    rw [if_neg (fun hh => by
      have : (permR l n && decide (f < 2 ^ n)) = true := by rw [Bool.and_eq_true, decide_eq_true_eq]; exact ⟨hh.2.1, by simpa using shr_zero.1 hh.2.2⟩
      rw [h] at this; cases this)]
    exact ⟨_, _, rfl, fun k hk => by simp at hk, .inr ⟨rfl, rfl⟩⟩
end Go.Tab
namespace Go.Proofs.Ytbpjoamdcbbnnaa
open Go.Abs Go.Tab
attribute [local go_sem] eqA Try.underlying22 Try.underlying3 Try.underlying77 Try.underlying52 Try.underlying23 Try.underlying25 Try.underlying5 Try.underlying4 Try.underlying36 Try.underlying39 Try.underlying41 Try.underlying72 Try.underlying49 Try.underlying26 Try.underlying33 Try.underlying58 size22 size3 size23 size5 size4 size39 Nat.mul_one bne_self_eq_false

theorem rem_lit5 (a : Nat) : intA .rem .u8 (a : Int) 5 = some (.int .u8 ((a % 5 : Nat) : Int)) := by
  show some (Value.int .u8 ((a : Int).tmod 5)) = _
  rw [Int.tmod_eq_emod_of_nonneg (by omega)]
  rfl
theorem agg58 : aggA Try.prog 58 = some (some 3) := by kernel_rfl
theorem TransformsLaw_gives (t0 : BitVec 64) (q : Nat) (lp lq : List Int) (hlp : lp.length ≤ 9223372036854775807) (hlq : lq.length ≤ 9223372036854775807) (fp fq : Nat) (hfp : fp < 256) (hfq : fq < 256) (gp gq : Bool) (sp sq : Value) (N : Nat) (σ : AHeap)
    (hsp : SlAt σ sp (ints lp)) (hsq : SlAt σ sq (ints lq)) : Gives Try.prog 12 [.int .u64 t0.toNat, .int .u8 q, trV sp fp gp, trV sq fq gq] N σ (.bool true) := by
  obtain ⟨bp, cp, rfl⟩ := hsp.len
  obtain ⟨bq, cq, rfl⟩ := hsq.len
  refine gives_of rfl (aok_fresh fun hN => aok_body (n := 121) Try.func12 rfl rfl (by simp) ?_)
  have hrem := rem_lit5 q
  have hn5 : q % 5 < 5 := Nat.mod_lt _ (by omega)
  generalize q % 5 = n at hrem hn5
  have hwn := i64_wrap_nat (show n < 9223372036854775808 by omega)
  have hn6 : n ≤ 6 := by omega
  have ht := tab_and hn6 t0
  first | refine awp_seq (awp_lit ?_) | refine awp_lit ?_ | refine awp_seq (awp_seq (awp_lit ?_))
  refine al_box 1 rfl rfl rfl rfl ?_
  refine al_box 1 rfl rfl rfl rfl ?_
  change AList _ _ _ _ _ _ ((σ.set N ⟨[.slice bp (ints lp).length cp, .int .u8 fp, .bool gp], true, 1⟩).set (N + 1) ⟨[.slice bq (ints lq).length cq, .int .u8 fq, .bool gq], true, 1⟩) _
  have hle0 : σ.le ((σ.set N ⟨[.slice bp (ints lp).length cp, .int .u8 fp, .bool gp], true, 1⟩).set (N + 1) ⟨[.slice bq (ints lq).length cq, .int .u8 fq, .bool gq], true, 1⟩) := fun i b hb => by
    have := hN i b hb
    rw [AHeap.set_ne _ _ (by omega), AHeap.set_ne _ _ (by omega)]; exact hb
  have hg1 : ((σ.set N ⟨[.slice bp (ints lp).length cp, .int .u8 fp, .bool gp], true, 1⟩).set (N + 1) ⟨[.slice bq (ints lq).length cq, .int .u8 fq, .bool gq], true, 1⟩) N = some ⟨[.slice bp (ints lp).length cp, .int .u8 fp, .bool gp], true, 1⟩ := by
    rw [AHeap.set_ne _ _ (by omega), AHeap.set_self]
  have hg2 : ((σ.set N ⟨[.slice bp (ints lp).length cp, .int .u8 fp, .bool gp], true, 1⟩).set (N + 1) ⟨[.slice bq (ints lq).length cq, .int .u8 fq, .bool gq], true, 1⟩) (N + 1) = some ⟨[.slice bq (ints lq).length cq, .int .u8 fq, .bool gq], true, 1⟩ := AHeap.set_self _ _ _
  generalize (σ.set N ⟨[.slice bp (ints lp).length cp, .int .u8 fp, .bool gp], true, 1⟩).set (N + 1) ⟨[.slice bq (ints lq).length cq, .int .u8 fq, .bool gq], true, 1⟩ = σ1 at hle0 hg1 hg2 ⊢
  have hsp1 := hsp.mono hle0
  have hsq1 := hsq.mono hle0
  refine al_pureN 1 (by simp only [go_sem, ↓reduceIte, Nat.reduceLT, Nat.reduceEqDiff, Nat.reduceLeDiff, Nat.reduceAdd, Nat.reduceMul, Int.reduceLT, Int.reduceLE, Int.reduceToNat, BitVec.reduceOfInt, Nat.reduceBEq]; try rfl) ?_
  refine al_end [0, 1, 6, 7] ?_
  refine awp_seq (awp_pures [0, 6, 7, 9] (by simp only [go_sem, ↓reduceIte, Nat.reduceLT, Nat.reduceEqDiff, Nat.reduceLeDiff, Nat.reduceAdd, Nat.reduceMul, Int.reduceLT, Int.reduceLE, Int.reduceToNat, BitVec.reduceOfInt, Nat.reduceBEq, hrem, hwn]; try rfl) ?_)
  first | refine awp_seq (awp_lit ?_) | refine awp_lit ?_ | refine awp_seq (awp_seq (awp_lit ?_))
  refine al_pureN 2 (by simp only [go_sem, ↓reduceIte, Nat.reduceLT, Nat.reduceEqDiff, Nat.reduceLeDiff, Nat.reduceAdd, Nat.reduceMul, Int.reduceLT, Int.reduceLE, Int.reduceToNat, BitVec.reduceOfInt, Nat.reduceBEq]; try rfl) ?_
  refine al_gives (vs := ?vs1) (v := ?v1) rfl ?ha1 ?hh1 (by kernel_rfl) rfl (by simp only [go_sem, ↓reduceIte, Nat.reduceLT, Nat.reduceEqDiff, Nat.reduceLeDiff, Nat.reduceAdd, Nat.reduceMul, Int.reduceLT, Int.reduceLE, Int.reduceToNat, BitVec.reduceOfInt, Nat.reduceBEq]) ?kk1
  case ha1 => simp only [go_sem, ↓reduceIte, Nat.reduceLT, Nat.reduceEqDiff, Nat.reduceLeDiff, Nat.reduceAdd, Nat.reduceMul, Int.reduceLT, Int.reduceLE, Int.reduceToNat, BitVec.reduceOfInt, Nat.reduceBEq]; try rfl
  case hh1 => exact rMask_gives _ _ _
  rw [lim_of hn6]
  refine al_pureN 2 (by simp only [go_sem, ↓reduceIte, Nat.reduceLT, Nat.reduceEqDiff, Nat.reduceLeDiff, Nat.reduceAdd, Nat.reduceMul, Int.reduceLT, Int.reduceLE, Int.reduceToNat, BitVec.reduceOfInt, Nat.reduceBEq]; try rfl) ?_
  refine al_end [0, 6, 7, 9] ?_
  generalize t0 &&& maskT n = t at ht ⊢
  refine awp_seq ?_
  first | refine awp_seq (awp_lit ?_) | refine awp_lit ?_ | refine awp_seq (awp_seq (awp_lit ?_))
  refine al_gives (vs := ?vs2) (v := ?v2) rfl ?ha2 ?hh2 (by kernel_rfl) rfl (by simp only [go_sem, ↓reduceIte, Nat.reduceLT, Nat.reduceEqDiff, Nat.reduceLeDiff, Nat.reduceAdd, Nat.reduceMul, Int.reduceLT, Int.reduceLE, Int.reduceToNat, BitVec.reduceOfInt, Nat.reduceBEq]) ?kk2
  case ha2 => simp only [go_sem, ↓reduceIte, Nat.reduceLT, Nat.reduceEqDiff, Nat.reduceLeDiff, Nat.reduceAdd, Nat.reduceMul, Int.reduceLT, Int.reduceLE, Int.reduceToNat, BitVec.reduceOfInt, Nat.reduceBEq]; try rfl
  case hh2 => exact awake_gives _ _
  refine al_pureN 1 (by simp only [go_sem, ↓reduceIte, Nat.reduceLT, Nat.reduceEqDiff, Nat.reduceLeDiff, Nat.reduceAdd, Nat.reduceMul, Int.reduceLT, Int.reduceLE, Int.reduceToNat, BitVec.reduceOfInt, Nat.reduceBEq]; try rfl) ?_
  refine al_end [0, 6, 7, 9, 31] ?_
  refine awp_if rfl (fun h => by cases h) (fun _ => ?_)
  refine awp_skip ?_
  obtain ⟨u, e1, ha1, hu, h1⟩ := apply_is hn5 ht lp fp gp
  obtain ⟨v, e2, ha2, hv, h2⟩ := apply_is hn5 hu lq fq gq
  have htr := Transforms_gives' lp n (by omega) (fun h => by omega) fp hfp gp
  first | refine awp_seq (awp_lit ?_) | refine awp_lit ?_ | refine awp_seq (awp_seq (awp_lit ?_))
  refine al_pureN 2 (by simp only [go_sem, ↓reduceIte, Nat.reduceLT, Nat.reduceEqDiff, Nat.reduceLeDiff, Nat.reduceAdd, Nat.reduceMul, Int.reduceLT, Int.reduceLE, Int.reduceToNat, BitVec.reduceOfInt, Nat.reduceBEq]; try rfl) ?_
  refine al_load rfl (by simp only [go_sem, ↓reduceIte, Nat.reduceLT, Nat.reduceEqDiff, Nat.reduceLeDiff, Nat.reduceAdd, Nat.reduceMul, Int.reduceLT, Int.reduceLE, Int.reduceToNat, BitVec.reduceOfInt, Nat.reduceBEq]) rfl (by simp only [go_sem, ↓reduceIte, Nat.reduceLT, Nat.reduceEqDiff, Nat.reduceLeDiff, Nat.reduceAdd, Nat.reduceMul, Int.reduceLT, Int.reduceLE, Int.reduceToNat, BitVec.reduceOfInt, Nat.reduceBEq]; try rfl) hg1 (loadA_agg agg58 rfl) ?_
  refine al_gives (vs := ?vs3) (v := ?v3) rfl ?ha3 ?hh3 (by kernel_rfl) rfl (by simp only [go_sem, ↓reduceIte, Nat.reduceLT, Nat.reduceEqDiff, Nat.reduceLeDiff, Nat.reduceAdd, Nat.reduceMul, Int.reduceLT, Int.reduceLE, Int.reduceToNat, BitVec.reduceOfInt, Nat.reduceBEq]) ?kk3
  case ha3 => simp only [go_sem, ↓reduceIte, Nat.reduceLT, Nat.reduceEqDiff, Nat.reduceLeDiff, Nat.reduceAdd, Nat.reduceMul, Int.reduceLT, Int.reduceLE, Int.reduceToNat, BitVec.reduceOfInt, Nat.reduceBEq]; try rfl
  case hh3 => exact Apply_gives t n lp hlp fp hfp gp (.slice bp (ints lp).length cp) _ _ hsp1
  rw [ha1]
  refine al_pureN 5 (by simp only [go_sem, ↓reduceIte, Nat.reduceLT, Nat.reduceEqDiff, Nat.reduceLeDiff, Nat.reduceAdd, Nat.reduceMul, Int.reduceLT, Int.reduceLE, Int.reduceToNat, BitVec.reduceOfInt, Nat.reduceBEq, tup2]; try rfl) ?_
  refine al_end [0, 6, 7, 9, 10, 11] ?_
  first | refine awp_seq (awp_lit ?_) | refine awp_lit ?_ | refine awp_seq (awp_seq (awp_lit ?_))
  refine al_pureN 2 (by simp only [go_sem, ↓reduceIte, Nat.reduceLT, Nat.reduceEqDiff, Nat.reduceLeDiff, Nat.reduceAdd, Nat.reduceMul, Int.reduceLT, Int.reduceLE, Int.reduceToNat, BitVec.reduceOfInt, Nat.reduceBEq]; try rfl) ?_
  refine al_load rfl (by simp only [go_sem, ↓reduceIte, Nat.reduceLT, Nat.reduceEqDiff, Nat.reduceLeDiff, Nat.reduceAdd, Nat.reduceMul, Int.reduceLT, Int.reduceLE, Int.reduceToNat, BitVec.reduceOfInt, Nat.reduceBEq]) rfl (by simp only [go_sem, ↓reduceIte, Nat.reduceLT, Nat.reduceEqDiff, Nat.reduceLeDiff, Nat.reduceAdd, Nat.reduceMul, Int.reduceLT, Int.reduceLE, Int.reduceToNat, BitVec.reduceOfInt, Nat.reduceBEq]; try rfl) hg2 (loadA_agg agg58 rfl) ?_
  refine al_gives (vs := ?vs4) (v := ?v4) rfl ?ha4 ?hh4 (by kernel_rfl) rfl (by simp only [go_sem, ↓reduceIte, Nat.reduceLT, Nat.reduceEqDiff, Nat.reduceLeDiff, Nat.reduceAdd, Nat.reduceMul, Int.reduceLT, Int.reduceLE, Int.reduceToNat, BitVec.reduceOfInt, Nat.reduceBEq]) ?kk4
  case ha4 => simp only [go_sem, ↓reduceIte, Nat.reduceLT, Nat.reduceEqDiff, Nat.reduceLeDiff, Nat.reduceAdd, Nat.reduceMul, Int.reduceLT, Int.reduceLE, Int.reduceToNat, BitVec.reduceOfInt, Nat.reduceBEq]; try rfl
  case hh4 => exact Apply_gives u n lq hlq fq hfq gq (.slice bq (ints lq).length cq) _ _ hsq1
  rw [ha2]
  refine al_pureN 5 (by simp only [go_sem, ↓reduceIte, Nat.reduceLT, Nat.reduceEqDiff, Nat.reduceLeDiff, Nat.reduceAdd, Nat.reduceMul, Int.reduceLT, Int.reduceLE, Int.reduceToNat, BitVec.reduceOfInt, Nat.reduceBEq, tup2]; try rfl) ?_
  refine al_end [0, 6, 9, 10, 11, 12, 13] ?_
  by_cases hbad : e1 = 1 ∨ e2 = 1
  · have hcond : e1 = 1 ∨ (e1 = 0 ∧ e2 = 1) := by
      rcases h1 with ⟨h, _⟩ | ⟨h, _⟩
      · rcases hbad with h' | h'
        · omega
        · exact .inr ⟨h, h'⟩
      · exact .inl h
    have hval : ((e1 == 0) == (permR lp n && decide (fp < 2 ^ n))) = true := by
      rcases h1 with ⟨h, h', _⟩ | ⟨h, h'⟩ <;> subst h <;> rw [h'] <;> rfl
    have last : ∀ (E : Env), E.get 6 = some (.pointer (some ⟨N, 0, none⟩)) → True := fun _ _ => trivial
    rcases hcond with rfl | ⟨rfl, rfl⟩
    · refine awp_seq ?_
      refine awp_seq (awp_pures [0, 6, 9, 10, 11, 12, 51] (by simp only [go_sem, ↓reduceIte, Nat.reduceLT, Nat.reduceEqDiff, Nat.reduceLeDiff, Nat.reduceAdd, Nat.reduceMul, Int.reduceLT, Int.reduceLE, Int.reduceToNat, BitVec.reduceOfInt, Nat.reduceBEq, undef]; try rfl) ?_)
      refine awp_if rfl (fun _ => ?_) (fun h => by cases h)
      first | refine awp_seq (awp_lit ?_) | refine awp_lit ?_ | refine awp_seq (awp_seq (awp_lit ?_))
      refine al_pureN 2 (by simp only [go_sem, ↓reduceIte, Nat.reduceLT, Nat.reduceEqDiff, Nat.reduceLeDiff, Nat.reduceAdd, Nat.reduceMul, Int.reduceLT, Int.reduceLE, Int.reduceToNat, BitVec.reduceOfInt, Nat.reduceBEq]; try rfl) ?_
      refine al_load rfl (by simp only [go_sem, ↓reduceIte, Nat.reduceLT, Nat.reduceEqDiff, Nat.reduceLeDiff, Nat.reduceAdd, Nat.reduceMul, Int.reduceLT, Int.reduceLE, Int.reduceToNat, BitVec.reduceOfInt, Nat.reduceBEq]) rfl (by simp only [go_sem, ↓reduceIte, Nat.reduceLT, Nat.reduceEqDiff, Nat.reduceLeDiff, Nat.reduceAdd, Nat.reduceMul, Int.reduceLT, Int.reduceLE, Int.reduceToNat, BitVec.reduceOfInt, Nat.reduceBEq]; try rfl) hg1 (loadA_agg agg58 rfl) ?_
      refine al_pureN 1 (by simp only [go_sem, ↓reduceIte, Nat.reduceLT, Nat.reduceEqDiff, Nat.reduceLeDiff, Nat.reduceAdd, Nat.reduceMul, Int.reduceLT, Int.reduceLE, Int.reduceToNat, BitVec.reduceOfInt, Nat.reduceBEq]; try rfl) ?_
      refine al_gives (vs := ?vs5) (v := ?v5) rfl ?ha5 ?hh5 (by kernel_rfl) rfl (by simp only [go_sem, ↓reduceIte, Nat.reduceLT, Nat.reduceEqDiff, Nat.reduceLeDiff, Nat.reduceAdd, Nat.reduceMul, Int.reduceLT, Int.reduceLE, Int.reduceToNat, BitVec.reduceOfInt, Nat.reduceBEq]) ?kk5
      case ha5 => simp only [go_sem, ↓reduceIte, Nat.reduceLT, Nat.reduceEqDiff, Nat.reduceLeDiff, Nat.reduceAdd, Nat.reduceMul, Int.reduceLT, Int.reduceLE, Int.reduceToNat, BitVec.reduceOfInt, Nat.reduceBEq]; try rfl
      case hh5 => exact htr (.slice bp (ints lp).length cp) _ _ hsp1
      generalize (permR lp n && decide (fp < 2 ^ n)) = z at hval
      refine al_pureN 2 (by simp only [go_sem, ↓reduceIte, Nat.reduceLT, Nat.reduceEqDiff, Nat.reduceLeDiff, Nat.reduceAdd, Nat.reduceMul, Int.reduceLT, Int.reduceLE, Int.reduceToNat, BitVec.reduceOfInt, Nat.reduceBEq]; try rfl) ?_
      refine al_end [8] ?_
      exact awp_ret ⟨_, rfl, congrArg Value.bool hval, hle0⟩
    · refine awp_seq ?_
      refine awp_seq (awp_pures [0, 6, 9, 10, 11, 12, 51] (by simp only [go_sem, ↓reduceIte, Nat.reduceLT, Nat.reduceEqDiff, Nat.reduceLeDiff, Nat.reduceAdd, Nat.reduceMul, Int.reduceLT, Int.reduceLE, Int.reduceToNat, BitVec.reduceOfInt, Nat.reduceBEq]; try rfl) ?_)
      refine awp_if rfl (fun _ => ?_) (fun h => by cases h)
      first | refine awp_seq (awp_lit ?_) | refine awp_lit ?_ | refine awp_seq (awp_seq (awp_lit ?_))
      refine al_pureN 2 (by simp only [go_sem, ↓reduceIte, Nat.reduceLT, Nat.reduceEqDiff, Nat.reduceLeDiff, Nat.reduceAdd, Nat.reduceMul, Int.reduceLT, Int.reduceLE, Int.reduceToNat, BitVec.reduceOfInt, Nat.reduceBEq]; try rfl) ?_
      refine al_load rfl (by simp only [go_sem, ↓reduceIte, Nat.reduceLT, Nat.reduceEqDiff, Nat.reduceLeDiff, Nat.reduceAdd, Nat.reduceMul, Int.reduceLT, Int.reduceLE, Int.reduceToNat, BitVec.reduceOfInt, Nat.reduceBEq]) rfl (by simp only [go_sem, ↓reduceIte, Nat.reduceLT, Nat.reduceEqDiff, Nat.reduceLeDiff, Nat.reduceAdd, Nat.reduceMul, Int.reduceLT, Int.reduceLE, Int.reduceToNat, BitVec.reduceOfInt, Nat.reduceBEq]; try rfl) hg1 (loadA_agg agg58 rfl) ?_
      refine al_pureN 1 (by simp only [go_sem, ↓reduceIte, Nat.reduceLT, Nat.reduceEqDiff, Nat.reduceLeDiff, Nat.reduceAdd, Nat.reduceMul, Int.reduceLT, Int.reduceLE, Int.reduceToNat, BitVec.reduceOfInt, Nat.reduceBEq]; try rfl) ?_
      refine al_gives (vs := ?vs6) (v := ?v6) rfl ?ha6 ?hh6 (by kernel_rfl) rfl (by simp only [go_sem, ↓reduceIte, Nat.reduceLT, Nat.reduceEqDiff, Nat.reduceLeDiff, Nat.reduceAdd, Nat.reduceMul, Int.reduceLT, Int.reduceLE, Int.reduceToNat, BitVec.reduceOfInt, Nat.reduceBEq]) ?kk6
      case ha6 => simp only [go_sem, ↓reduceIte, Nat.reduceLT, Nat.reduceEqDiff, Nat.reduceLeDiff, Nat.reduceAdd, Nat.reduceMul, Int.reduceLT, Int.reduceLE, Int.reduceToNat, BitVec.reduceOfInt, Nat.reduceBEq]; try rfl
      case hh6 => exact htr (.slice bp (ints lp).length cp) _ _ hsp1
      generalize (permR lp n && decide (fp < 2 ^ n)) = z at hval
      refine al_pureN 2 (by simp only [go_sem, ↓reduceIte, Nat.reduceLT, Nat.reduceEqDiff, Nat.reduceLeDiff, Nat.reduceAdd, Nat.reduceMul, Int.reduceLT, Int.reduceLE, Int.reduceToNat, BitVec.reduceOfInt, Nat.reduceBEq]; try rfl) ?_
      refine al_end [8] ?_
      exact awp_ret ⟨_, rfl, congrArg Value.bool hval, hle0⟩
  · rcases h1 with ⟨rfl, hp1, hu1⟩ | ⟨h, _⟩
    rotate_left
    · exact absurd (.inl h) hbad
    rcases h2 with ⟨rfl, hp2, hv1⟩ | ⟨h, _⟩
    rotate_left
    · exact absurd (.inr h) hbad
    rw [Bool.and_eq_true, decide_eq_true_eq] at hp1 hp2
    have o1 := permR_ord hn5 hp1.1
    have o2 := permR_ord hn5 hp2.1
    have s1 : (supportR u n).length = (supportR t n).length := by rw [hu1]; exact support_apply hn5 ht gp o1 hp1.2
    have s2 : (supportR v n).length = (supportR t n).length := by rw [hv1, support_apply hn5 hu gq o2 hp2.2, s1]
    have k1 : rcanon u n = rcanon t n := rcanon_eq hn5 ht ((mem_class hn5).2 ⟨(lp, fp, gp), o1, hp1.2, hu1⟩)
    have k2 : rcanon v n = rcanon t n := (rcanon_eq hn5 hu ((mem_class hn5).2 ⟨(lq, fq, gq), o2, hp2.2, hv1⟩)).trans k1
    obtain ⟨oA, fA, lA, canA⟩ := canon_call hn5 ht
    obtain ⟨oB, fB, lB, canB⟩ := canon_call hn5 hu
    obtain ⟨oC, fC, lC, canC⟩ := canon_call hn5 hv
    rw [k1] at canB
    rw [k2] at canC
    generalize rcanon t n = a at canA canB canC
    clear hu1 hv1 ha1 ha2 k1 k2 htr
    have c1 : ((((ints (supportR u n)).length : Nat) : Int) == (((ints (supportR t n)).length : Nat) : Int)) = true := by rw [ints_len, ints_len, s1]; simp
    have c2 : ((((ints (supportR v n)).length : Nat) : Int) == (((ints (supportR t n)).length : Nat) : Int)) = true := by rw [ints_len, ints_len, s2]; simp
    have haa : decide (a = a) = true := decide_eq_true rfl
    refine awp_seq ?_
    refine awp_seq (awp_pures [0, 6, 9, 10, 11, 12, 51] (by simp only [go_sem, ↓reduceIte, Nat.reduceLT, Nat.reduceEqDiff, Nat.reduceLeDiff, Nat.reduceAdd, Nat.reduceMul, Int.reduceLT, Int.reduceLE, Int.reduceToNat, BitVec.reduceOfInt, Nat.reduceBEq]; try rfl) ?_)
    refine awp_if rfl (fun h => by cases h) (fun _ => ?_)
    refine awp_skip ?_
    first | refine awp_seq (awp_lit ?_) | refine awp_lit ?_ | refine awp_seq (awp_seq (awp_lit ?_))
    refine al_pureN 2 (by simp only [go_sem, ↓reduceIte, Nat.reduceLT, Nat.reduceEqDiff, Nat.reduceLeDiff, Nat.reduceAdd, Nat.reduceMul, Int.reduceLT, Int.reduceLE, Int.reduceToNat, BitVec.reduceOfInt, Nat.reduceBEq]; try rfl) ?_
    refine al_fun (canA _ _) rfl (by simp only [go_sem, ↓reduceIte, Nat.reduceLT, Nat.reduceEqDiff, Nat.reduceLeDiff, Nat.reduceAdd, Nat.reduceMul, Int.reduceLT, Int.reduceLE, Int.reduceToNat, BitVec.reduceOfInt, Nat.reduceBEq]; try rfl) (by kernel_rfl) rfl (by simp only [go_sem, ↓reduceIte, Nat.reduceLT, Nat.reduceEqDiff, Nat.reduceLeDiff, Nat.reduceAdd, Nat.reduceMul, Int.reduceLT, Int.reduceLE, Int.reduceToNat, BitVec.reduceOfInt, Nat.reduceBEq]; try rfl) ?_
    rintro vA MA τA ⟨svA, rfl, hsA, hMA, hlA⟩
    refine al_pureN 4 (by simp only [go_sem, ↓reduceIte, Nat.reduceLT, Nat.reduceEqDiff, Nat.reduceLeDiff, Nat.reduceAdd, Nat.reduceMul, Int.reduceLT, Int.reduceLE, Int.reduceToNat, BitVec.reduceOfInt, Nat.reduceBEq, canV]; try rfl) ?_
    refine al_fresh fun hFA => ?_
    refine al_alloc 1 rfl rfl rfl ty25 (by decide) ?_
    refine al_pureN 1 (by simp only [go_sem, ↓reduceIte, Nat.reduceLT, Nat.reduceEqDiff, Nat.reduceLeDiff, Nat.reduceAdd, Nat.reduceMul, Int.reduceLT, Int.reduceLE, Int.reduceToNat, BitVec.reduceOfInt, Nat.reduceBEq]; try rfl) ?_
    obtain ⟨bA, cA, rfl⟩ := hsA.len
    refine al_store (v := .agg #[.slice bA (ints oA.1).length cA, .int .u8 oA.2.1, .bool oA.2.2]) rfl (by simp only [go_sem, ↓reduceIte, Nat.reduceLT, Nat.reduceEqDiff, Nat.reduceLeDiff, Nat.reduceAdd, Nat.reduceMul, Int.reduceLT, Int.reduceLE, Int.reduceToNat, BitVec.reduceOfInt, Nat.reduceBEq]; try rfl) rfl (by simp only [go_sem, ↓reduceIte, Nat.reduceLT, Nat.reduceEqDiff, Nat.reduceLeDiff, Nat.reduceAdd, Nat.reduceMul, Int.reduceLT, Int.reduceLE, Int.reduceToNat, BitVec.reduceOfInt, Nat.reduceBEq]; try rfl) (by simp only [go_sem, ↓reduceIte, Nat.reduceLT, Nat.reduceEqDiff, Nat.reduceLeDiff, Nat.reduceAdd, Nat.reduceMul, Int.reduceLT, Int.reduceLE, Int.reduceToNat, BitVec.reduceOfInt, Nat.reduceBEq]; try rfl) (AHeap.set_self _ _ _) rfl size25 rfl (by exact Nat.le_refl 3) ?_
    rw [set_set]
    refine al_forget (σ' := τA) (AHeap.le_set (AHeap.le_refl _) fun i b hb => Nat.ne_of_lt (hFA i b hb)) ?_
    refine al_pureN 1 (by simp only [go_sem, ↓reduceIte, Nat.reduceLT, Nat.reduceEqDiff, Nat.reduceLeDiff, Nat.reduceAdd, Nat.reduceMul, Int.reduceLT, Int.reduceLE, Int.reduceToNat, BitVec.reduceOfInt, Nat.reduceBEq]; try rfl) ?_
    refine al_end [0, 9, 10, 12, 14, 16] ?_
    first | refine awp_seq (awp_lit ?_) | refine awp_lit ?_ | refine awp_seq (awp_seq (awp_lit ?_))
    refine al_pureN 2 (by simp only [go_sem, ↓reduceIte, Nat.reduceLT, Nat.reduceEqDiff, Nat.reduceLeDiff, Nat.reduceAdd, Nat.reduceMul, Int.reduceLT, Int.reduceLE, Int.reduceToNat, BitVec.reduceOfInt, Nat.reduceBEq]; try rfl) ?_
    refine al_fun (canB _ _) rfl (by simp only [go_sem, ↓reduceIte, Nat.reduceLT, Nat.reduceEqDiff, Nat.reduceLeDiff, Nat.reduceAdd, Nat.reduceMul, Int.reduceLT, Int.reduceLE, Int.reduceToNat, BitVec.reduceOfInt, Nat.reduceBEq]; try rfl) (by kernel_rfl) rfl (by simp only [go_sem, ↓reduceIte, Nat.reduceLT, Nat.reduceEqDiff, Nat.reduceLeDiff, Nat.reduceAdd, Nat.reduceMul, Int.reduceLT, Int.reduceLE, Int.reduceToNat, BitVec.reduceOfInt, Nat.reduceBEq]; try rfl) ?_
    rintro vB MB τB ⟨svB, rfl, hsB, hMB, hlB⟩
    refine al_pureN 4 (by simp only [go_sem, ↓reduceIte, Nat.reduceLT, Nat.reduceEqDiff, Nat.reduceLeDiff, Nat.reduceAdd, Nat.reduceMul, Int.reduceLT, Int.reduceLE, Int.reduceToNat, BitVec.reduceOfInt, Nat.reduceBEq, canV]; try rfl) ?_
    refine al_fresh fun hFB => ?_
    refine al_alloc 1 rfl rfl rfl ty25 (by decide) ?_
    refine al_pureN 1 (by simp only [go_sem, ↓reduceIte, Nat.reduceLT, Nat.reduceEqDiff, Nat.reduceLeDiff, Nat.reduceAdd, Nat.reduceMul, Int.reduceLT, Int.reduceLE, Int.reduceToNat, BitVec.reduceOfInt, Nat.reduceBEq]; try rfl) ?_
    obtain ⟨bB, cB, rfl⟩ := hsB.len
    refine al_store (v := .agg #[.slice bB (ints oB.1).length cB, .int .u8 oB.2.1, .bool oB.2.2]) rfl (by simp only [go_sem, ↓reduceIte, Nat.reduceLT, Nat.reduceEqDiff, Nat.reduceLeDiff, Nat.reduceAdd, Nat.reduceMul, Int.reduceLT, Int.reduceLE, Int.reduceToNat, BitVec.reduceOfInt, Nat.reduceBEq]; try rfl) rfl (by simp only [go_sem, ↓reduceIte, Nat.reduceLT, Nat.reduceEqDiff, Nat.reduceLeDiff, Nat.reduceAdd, Nat.reduceMul, Int.reduceLT, Int.reduceLE, Int.reduceToNat, BitVec.reduceOfInt, Nat.reduceBEq]; try rfl) (by simp only [go_sem, ↓reduceIte, Nat.reduceLT, Nat.reduceEqDiff, Nat.reduceLeDiff, Nat.reduceAdd, Nat.reduceMul, Int.reduceLT, Int.reduceLE, Int.reduceToNat, BitVec.reduceOfInt, Nat.reduceBEq]; try rfl) (AHeap.set_self _ _ _) rfl size25 rfl (by exact Nat.le_refl 3) ?_
    rw [set_set]
    refine al_forget (σ' := τB) (AHeap.le_set (AHeap.le_refl _) fun i b hb => Nat.ne_of_lt (hFB i b hb)) ?_
    refine al_pureN 1 (by simp only [go_sem, ↓reduceIte, Nat.reduceLT, Nat.reduceEqDiff, Nat.reduceLeDiff, Nat.reduceAdd, Nat.reduceMul, Int.reduceLT, Int.reduceLE, Int.reduceToNat, BitVec.reduceOfInt, Nat.reduceBEq]; try rfl) ?_
    refine al_end [0, 9, 10, 12, 14, 16, 17, 19] ?_
    first | refine awp_seq (awp_lit ?_) | refine awp_lit ?_ | refine awp_seq (awp_seq (awp_lit ?_))
    refine al_pureN 2 (by simp only [go_sem, ↓reduceIte, Nat.reduceLT, Nat.reduceEqDiff, Nat.reduceLeDiff, Nat.reduceAdd, Nat.reduceMul, Int.reduceLT, Int.reduceLE, Int.reduceToNat, BitVec.reduceOfInt, Nat.reduceBEq]; try rfl) ?_
    refine al_fun (canC _ _) rfl (by simp only [go_sem, ↓reduceIte, Nat.reduceLT, Nat.reduceEqDiff, Nat.reduceLeDiff, Nat.reduceAdd, Nat.reduceMul, Int.reduceLT, Int.reduceLE, Int.reduceToNat, BitVec.reduceOfInt, Nat.reduceBEq]; try rfl) (by kernel_rfl) rfl (by simp only [go_sem, ↓reduceIte, Nat.reduceLT, Nat.reduceEqDiff, Nat.reduceLeDiff, Nat.reduceAdd, Nat.reduceMul, Int.reduceLT, Int.reduceLE, Int.reduceToNat, BitVec.reduceOfInt, Nat.reduceBEq]; try rfl) ?_
    rintro vC MC τC ⟨svC, rfl, hsC, hMC, hlC⟩
    refine al_pureN 4 (by simp only [go_sem, ↓reduceIte, Nat.reduceLT, Nat.reduceEqDiff, Nat.reduceLeDiff, Nat.reduceAdd, Nat.reduceMul, Int.reduceLT, Int.reduceLE, Int.reduceToNat, BitVec.reduceOfInt, Nat.reduceBEq, canV]; try rfl) ?_
    refine al_fresh fun hFC => ?_
    refine al_alloc 1 rfl rfl rfl ty25 (by decide) ?_
    refine al_pureN 1 (by simp only [go_sem, ↓reduceIte, Nat.reduceLT, Nat.reduceEqDiff, Nat.reduceLeDiff, Nat.reduceAdd, Nat.reduceMul, Int.reduceLT, Int.reduceLE, Int.reduceToNat, BitVec.reduceOfInt, Nat.reduceBEq]; try rfl) ?_
    obtain ⟨bC, cC, rfl⟩ := hsC.len
    refine al_store (v := .agg #[.slice bC (ints oC.1).length cC, .int .u8 oC.2.1, .bool oC.2.2]) rfl (by simp only [go_sem, ↓reduceIte, Nat.reduceLT, Nat.reduceEqDiff, Nat.reduceLeDiff, Nat.reduceAdd, Nat.reduceMul, Int.reduceLT, Int.reduceLE, Int.reduceToNat, BitVec.reduceOfInt, Nat.reduceBEq]; try rfl) rfl (by simp only [go_sem, ↓reduceIte, Nat.reduceLT, Nat.reduceEqDiff, Nat.reduceLeDiff, Nat.reduceAdd, Nat.reduceMul, Int.reduceLT, Int.reduceLE, Int.reduceToNat, BitVec.reduceOfInt, Nat.reduceBEq]; try rfl) (by simp only [go_sem, ↓reduceIte, Nat.reduceLT, Nat.reduceEqDiff, Nat.reduceLeDiff, Nat.reduceAdd, Nat.reduceMul, Int.reduceLT, Int.reduceLE, Int.reduceToNat, BitVec.reduceOfInt, Nat.reduceBEq]; try rfl) (AHeap.set_self _ _ _) rfl size25 rfl (by exact Nat.le_refl 3) ?_
    rw [set_set]
    refine al_forget (σ' := τC) (AHeap.le_set (AHeap.le_refl _) fun i b hb => Nat.ne_of_lt (hFC i b hb)) ?_
    refine al_pureN 1 (by simp only [go_sem, ↓reduceIte, Nat.reduceLT, Nat.reduceEqDiff, Nat.reduceLeDiff, Nat.reduceAdd, Nat.reduceMul, Int.reduceLT, Int.reduceLE, Int.reduceToNat, BitVec.reduceOfInt, Nat.reduceBEq]; try rfl) ?_
    refine al_end [0, 9, 10, 12, 14, 16, 17, 19, 20, 22] ?_
    first | refine awp_seq (awp_lit ?_) | refine awp_lit ?_ | refine awp_seq (awp_seq (awp_lit ?_))
    refine al_pureN 4 (by simp only [go_sem, ↓reduceIte, Nat.reduceLT, Nat.reduceEqDiff, Nat.reduceLeDiff, Nat.reduceAdd, Nat.reduceMul, Int.reduceLT, Int.reduceLE, Int.reduceToNat, BitVec.reduceOfInt, Nat.reduceBEq]; try rfl) ?_
    refine al_pureN 4 (by simp only [go_sem, ↓reduceIte, Nat.reduceLT, Nat.reduceEqDiff, Nat.reduceLeDiff, Nat.reduceAdd, Nat.reduceMul, Int.reduceLT, Int.reduceLE, Int.reduceToNat, BitVec.reduceOfInt, Nat.reduceBEq]; try rfl) ?_
    refine al_pureN 4 (by simp only [go_sem, ↓reduceIte, Nat.reduceLT, Nat.reduceEqDiff, Nat.reduceLeDiff, Nat.reduceAdd, Nat.reduceMul, Int.reduceLT, Int.reduceLE, Int.reduceToNat, BitVec.reduceOfInt, Nat.reduceBEq, haa]; try rfl) ?_
    refine al_pureN 4 (by simp only [go_sem, ↓reduceIte, Nat.reduceLT, Nat.reduceEqDiff, Nat.reduceLeDiff, Nat.reduceAdd, Nat.reduceMul, Int.reduceLT, Int.reduceLE, Int.reduceToNat, BitVec.reduceOfInt, Nat.reduceBEq, haa]; try rfl) ?_
    refine al_pureN 4 (by simp only [go_sem, ↓reduceIte, Nat.reduceLT, Nat.reduceEqDiff, Nat.reduceLeDiff, Nat.reduceAdd, Nat.reduceMul, Int.reduceLT, Int.reduceLE, Int.reduceToNat, BitVec.reduceOfInt, Nat.reduceBEq, haa]; try rfl) ?_
    refine al_pureN 3 (by simp only [go_sem, ↓reduceIte, Nat.reduceLT, Nat.reduceEqDiff, Nat.reduceLeDiff, Nat.reduceAdd, Nat.reduceMul, Int.reduceLT, Int.reduceLE, Int.reduceToNat, BitVec.reduceOfInt, Nat.reduceBEq, haa]; try rfl) ?_
    refine al_fun (Support_ok u n _ _) rfl (by simp only [go_sem, ↓reduceIte, Nat.reduceLT, Nat.reduceEqDiff, Nat.reduceLeDiff, Nat.reduceAdd, Nat.reduceMul, Int.reduceLT, Int.reduceLE, Int.reduceToNat, BitVec.reduceOfInt, Nat.reduceBEq]; try rfl) (by kernel_rfl) rfl (by simp only [go_sem, ↓reduceIte, Nat.reduceLT, Nat.reduceEqDiff, Nat.reduceLeDiff, Nat.reduceAdd, Nat.reduceMul, Int.reduceLT, Int.reduceLE, Int.reduceToNat, BitVec.reduceOfInt, Nat.reduceBEq]; try rfl) ?_
    rintro w1 P1 ρ1 ⟨hw1, hr1⟩
    obtain ⟨d1, d1', rfl⟩ := hw1.slAt.len
    refine al_pureN 3 (by simp only [go_sem, ↓reduceIte, Nat.reduceLT, Nat.reduceEqDiff, Nat.reduceLeDiff, Nat.reduceAdd, Nat.reduceMul, Int.reduceLT, Int.reduceLE, Int.reduceToNat, BitVec.reduceOfInt, Nat.reduceBEq]; try rfl) ?_
    refine al_fun (Support_ok t n _ _) rfl (by simp only [go_sem, ↓reduceIte, Nat.reduceLT, Nat.reduceEqDiff, Nat.reduceLeDiff, Nat.reduceAdd, Nat.reduceMul, Int.reduceLT, Int.reduceLE, Int.reduceToNat, BitVec.reduceOfInt, Nat.reduceBEq]; try rfl) (by kernel_rfl) rfl (by simp only [go_sem, ↓reduceIte, Nat.reduceLT, Nat.reduceEqDiff, Nat.reduceLeDiff, Nat.reduceAdd, Nat.reduceMul, Int.reduceLT, Int.reduceLE, Int.reduceToNat, BitVec.reduceOfInt, Nat.reduceBEq]; try rfl) ?_
    rintro w2 P2 ρ2 ⟨hw2, hr2⟩
    obtain ⟨d2, d2', rfl⟩ := hw2.slAt.len
    refine al_pureN 4 (by simp only [go_sem, ↓reduceIte, Nat.reduceLT, Nat.reduceEqDiff, Nat.reduceLeDiff, Nat.reduceAdd, Nat.reduceMul, Int.reduceLT, Int.reduceLE, Int.reduceToNat, BitVec.reduceOfInt, Nat.reduceBEq, c1]; try rfl) ?_
    refine al_pureN 2 (by simp only [go_sem, ↓reduceIte, Nat.reduceLT, Nat.reduceEqDiff, Nat.reduceLeDiff, Nat.reduceAdd, Nat.reduceMul, Int.reduceLT, Int.reduceLE, Int.reduceToNat, BitVec.reduceOfInt, Nat.reduceBEq]; try rfl) ?_
    refine al_fun (Support_ok v n _ _) rfl (by simp only [go_sem, ↓reduceIte, Nat.reduceLT, Nat.reduceEqDiff, Nat.reduceLeDiff, Nat.reduceAdd, Nat.reduceMul, Int.reduceLT, Int.reduceLE, Int.reduceToNat, BitVec.reduceOfInt, Nat.reduceBEq]; try rfl) (by kernel_rfl) rfl (by simp only [go_sem, ↓reduceIte, Nat.reduceLT, Nat.reduceEqDiff, Nat.reduceLeDiff, Nat.reduceAdd, Nat.reduceMul, Int.reduceLT, Int.reduceLE, Int.reduceToNat, BitVec.reduceOfInt, Nat.reduceBEq]; try rfl) ?_
    rintro w3 P3 ρ3 ⟨hw3, hr3⟩
    obtain ⟨d3, d3', rfl⟩ := hw3.slAt.len
    refine al_pureN 3 (by simp only [go_sem, ↓reduceIte, Nat.reduceLT, Nat.reduceEqDiff, Nat.reduceLeDiff, Nat.reduceAdd, Nat.reduceMul, Int.reduceLT, Int.reduceLE, Int.reduceToNat, BitVec.reduceOfInt, Nat.reduceBEq]; try rfl) ?_
    refine al_fun (Support_ok t n _ _) rfl (by simp only [go_sem, ↓reduceIte, Nat.reduceLT, Nat.reduceEqDiff, Nat.reduceLeDiff, Nat.reduceAdd, Nat.reduceMul, Int.reduceLT, Int.reduceLE, Int.reduceToNat, BitVec.reduceOfInt, Nat.reduceBEq]; try rfl) (by kernel_rfl) rfl (by simp only [go_sem, ↓reduceIte, Nat.reduceLT, Nat.reduceEqDiff, Nat.reduceLeDiff, Nat.reduceAdd, Nat.reduceMul, Int.reduceLT, Int.reduceLE, Int.reduceToNat, BitVec.reduceOfInt, Nat.reduceBEq]; try rfl) ?_
    rintro w4 P4 ρ4 ⟨hw4, hr4⟩
    obtain ⟨d4, d4', rfl⟩ := hw4.slAt.len
    refine al_pureN 4 (by simp only [go_sem, ↓reduceIte, Nat.reduceLT, Nat.reduceEqDiff, Nat.reduceLeDiff, Nat.reduceAdd, Nat.reduceMul, Int.reduceLT, Int.reduceLE, Int.reduceToNat, BitVec.reduceOfInt, Nat.reduceBEq, c2]; try rfl) ?_
    refine al_end [8] ?_
    exact awp_ret ⟨_, rfl, rfl, AHeap.le_trans hle0 (AHeap.le_trans hlA (AHeap.le_trans hlB (AHeap.le_trans hlC (AHeap.le_trans hr1 (AHeap.le_trans hr2 (AHeap.le_trans hr3 hr4))))))⟩
end Go.Proofs.Ytbpjoamdcbbnnaa
