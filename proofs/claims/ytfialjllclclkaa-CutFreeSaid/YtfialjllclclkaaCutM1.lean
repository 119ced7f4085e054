import Derived.Test.YtfialjllclclkaaCutW8
import Derived.Test.YtfialjllclclkaaAbLoop
import Derived.Test.YtfialjllclclkaaCutM0
import Derived.Test.YtfialjllclclkaaCutY0
/- The walk of Backward. -/
set_option linter.unusedSimpArgs false
set_option linter.unusedVariables false
namespace Go.Proofs.Ytfialjllclclkaa
open Go.Abs Go.Cut
attribute [local go_sem] Try.underlying3 Try.underlying35 size3 size35 Nat.mul_one
theorem roundQ_mono {i : Nat} {info : LInfo} {K K' : Value → Nat → AHeap → Prop} {ex : Exit} {env : Env} {N : Nat} {σ : AHeap} (h : RoundQ i info K ex env N σ) (hk : ∀ v N σ, K v N σ → K' v N σ) : RoundQ i info K' ex env N σ := by
  cases ex <;> first | exact hk _ _ _ h | exact h
theorem back_ok {l : List Int} {sb : Option Addr} {sc bx i : Nat} {info : LInfo} (Inv : Nat → Nat → AHeap → Prop) (hlen : l.length ≤ 1000000)
    (hI : ∀ j N σ, Inv j N σ → σ i = some ⟨[], true, .loop info .ready⟩ ∧ σ bx = some ⟨[.slice sb l.length sc], true, .n 1⟩ ∧ SlAt σ (.slice sb l.length sc) (ints l))
    (hp : info.params.size = 2) (hpn : ∀ p ∈ info.params.toList, p < info.n)
    (step : ∀ (j : Nat) (x : Int) (_ : l[j]? = some x) (N : Nat) (σ : AHeap), Inv (j + 1) N σ → AWp true Try.prog info.n info.assign (putParams info.params.toList [.int .i64 j, .int .i64 x] info.env) N (σ.del i)
      (fun ex env1 N1 σ1 => ex = .normal ∧ AWp true Try.prog info.n info.body env1 N1 σ1 (RoundQ i info (fun v N' σ' => v = .bool true ∧ Inv j N' σ'))))
    {N : Nat} {σ : AHeap} (h0 : Inv l.length N σ) :
    AOk Try.prog 67 [.func (.yield i) #[] #[], .pointer (some ⟨bx, 0, none⟩)] N σ (fun _ N' σ' => Inv 0 N' σ') := by
  refine aok_body (r := false) (n := 19) Try.func67 rfl rfl (by simp) ?_
  obtain ⟨_, hb, _⟩ := hI _ _ _ h0
  have hs0 : -9223372036854775808 ≤ (l.length : Int) - 1 ∧ (l.length : Int) - 1 ≤ 9223372036854775807 := by omega
  first | refine awp_seq (awp_lit ?_) | refine awp_lit ?_ | refine awp_seq (awp_seq (awp_lit ?_))
  refine al_load rfl (by simp only [go_sem, ↓reduceIte, Nat.reduceLT, Nat.reduceEqDiff, Nat.reduceLeDiff, Nat.reduceAdd, Nat.reduceMul, Int.reduceLT, Int.reduceLE, Int.reduceToNat, BitVec.reduceOfInt, Nat.reduceBEq, i64_sub hs0]) rfl (by simp only [go_sem, ↓reduceIte, Nat.reduceLT, Nat.reduceEqDiff, Nat.reduceLeDiff, Nat.reduceAdd, Nat.reduceMul, Int.reduceLT, Int.reduceLE, Int.reduceToNat, BitVec.reduceOfInt, Nat.reduceBEq, i64_sub hs0]; try rfl) hb (loadA_scalar agg35 rfl) ?_
  refine al_pureN 3 (by simp only [go_sem, ↓reduceIte, Nat.reduceLT, Nat.reduceEqDiff, Nat.reduceLeDiff, Nat.reduceAdd, Nat.reduceMul, Int.reduceLT, Int.reduceLE, Int.reduceToNat, BitVec.reduceOfInt, Nat.reduceBEq, i64_sub hs0]; try rfl) ?_
  refine al_end [0, 1, 3] ?_
  refine awp_block (awp_loop ?_)
  refine ALoop.cast3 (aloop_ind (α := Nat × Nat × AHeap) (fun a => a.1 ≤ l.length ∧ Inv a.1 a.2.1 a.2.2) (fun a => a.1)
    (fun a => [(0, .func (.yield i) #[] #[]), (1, .pointer (some ⟨bx, 0, none⟩)), (3, .int .i64 ((a.1 : Int) - 1))]) (fun a => a.2.1) (fun a => a.2.2) ?_ (l.length, N, σ) ⟨Nat.le_refl _, h0⟩) rfl rfl rfl
  rintro ⟨j, M, τ⟩ ⟨hj, hInv⟩ ih
  dsimp only at hj hInv ih ⊢
  cases j with
  | zero =>
    refine awp_seq ?_
    refine awp_seq (awp_pures [0, 1, 3, 8] (by simp only [go_sem, ↓reduceIte, Nat.reduceLT, Nat.reduceEqDiff, Nat.reduceLeDiff, Nat.reduceAdd, Nat.reduceMul, Int.reduceLT, Int.reduceLE, Int.reduceToNat, BitVec.reduceOfInt, Nat.reduceBEq]; try rfl) ?_)
    refine awp_if rfl (fun h => by cases h) (fun _ => ?_)
    refine awp_exit ?_
    simp only [Go.Abs.Seq, Go.Abs.Round, Go.Abs.InBlock, ↓reduceIte]
    exact ⟨_, rfl, hInv⟩
  | succ j =>
    have hj1 : ((j + 1 : Nat) : Int) - 1 = (j : Int) := by omega
    rw [hj1]
    have hge : decide ((j : Int) ≥ 0) = true := by simp
    refine awp_seq ?_
    refine awp_seq (awp_pures [0, 1, 3, 8] (by simp only [go_sem, ↓reduceIte, Nat.reduceLT, Nat.reduceEqDiff, Nat.reduceLeDiff, Nat.reduceAdd, Nat.reduceMul, Int.reduceLT, Int.reduceLE, Int.reduceToNat, BitVec.reduceOfInt, Nat.reduceBEq, hge]; try rfl) ?_)
    refine awp_if rfl (fun _ => ?_) (fun h => by cases h)
    refine awp_skip ?_
    refine awp_seq (awp_block ?_)
    obtain ⟨hrec, hb, hs⟩ := hI _ _ _ hInv
    have hjj : 0 ≤ (j : Int) ∧ (j : Int) < (l.length : Int) := by omega
    obtain ⟨id, off, cap, b, e1, e2, e3, e4⟩ := slAt_int hs hj
    cases e1
    refine awp_seq ?_
    first | refine awp_seq (awp_lit ?_) | refine awp_lit ?_ | refine awp_seq (awp_seq (awp_lit ?_))
    refine al_pureN 2 (by simp only [go_sem, ↓reduceIte, Nat.reduceLT, Nat.reduceEqDiff, Nat.reduceLeDiff, Nat.reduceAdd, Nat.reduceMul, Int.reduceLT, Int.reduceLE, Int.reduceToNat, BitVec.reduceOfInt, Nat.reduceBEq, hjj]; try rfl) ?_
    refine al_load rfl (by simp only [go_sem, ↓reduceIte, Nat.reduceLT, Nat.reduceEqDiff, Nat.reduceLeDiff, Nat.reduceAdd, Nat.reduceMul, Int.reduceLT, Int.reduceLE, Int.reduceToNat, BitVec.reduceOfInt, Nat.reduceBEq, hjj]) rfl (by simp only [go_sem, ↓reduceIte, Nat.reduceLT, Nat.reduceEqDiff, Nat.reduceLeDiff, Nat.reduceAdd, Nat.reduceMul, Int.reduceLT, Int.reduceLE, Int.reduceToNat, BitVec.reduceOfInt, Nat.reduceBEq, hjj]; try rfl) hb (loadA_scalar agg35 rfl) ?_
    refine al_pureN 2 (by simp only [go_sem, ↓reduceIte, Nat.reduceLT, Nat.reduceEqDiff, Nat.reduceLeDiff, Nat.reduceAdd, Nat.reduceMul, Int.reduceLT, Int.reduceLE, Int.reduceToNat, BitVec.reduceOfInt, Nat.reduceBEq, hjj]; try rfl) ?_
    refine al_load rfl (by simp only [go_sem, ↓reduceIte, Nat.reduceLT, Nat.reduceEqDiff, Nat.reduceLeDiff, Nat.reduceAdd, Nat.reduceMul, Int.reduceLT, Int.reduceLE, Int.reduceToNat, BitVec.reduceOfInt, Nat.reduceBEq, hjj]) rfl (by simp only [go_sem, ↓reduceIte, Nat.reduceLT, Nat.reduceEqDiff, Nat.reduceLeDiff, Nat.reduceAdd, Nat.reduceMul, Int.reduceLT, Int.reduceLE, Int.reduceToNat, BitVec.reduceOfInt, Nat.reduceBEq, hjj]; try rfl) e2 (loadA_scalar agg3 e3) ?_
    refine al_step (by simp only [go_sem]; try rfl) (dstOk_spec rfl) (step_yield (vs := [.int .i64 j, .int .i64 l[j]]) rfl rfl rfl hrec (by simp [hp]) hpn ?_)
    refine (step j l[j] (List.getElem?_eq_getElem hj) _ _ hInv).mono fun ex env1 N1 σ1 h => ⟨h.1, h.2.mono fun ex2 env2 N2 σ2 h2 => roundQ_mono h2 fun v3 N3 σ3 h3 => ?_⟩
    obtain ⟨rfl, h4⟩ := h3
    refine al_pureN 1 (by simp only [go_sem, ↓reduceIte, Nat.reduceLT, Nat.reduceEqDiff, Nat.reduceLeDiff, Nat.reduceAdd, Nat.reduceMul, Int.reduceLT, Int.reduceLE, Int.reduceToNat, BitVec.reduceOfInt, Nat.reduceBEq]; try rfl) ?_
    refine al_end [0, 1, 3, 18] ?_
    refine awp_if rfl (fun h => by cases h) (fun _ => ?_)
    refine awp_skip ?_
    have hs1 : -9223372036854775808 ≤ (j : Int) - 1 ∧ (j : Int) - 1 ≤ 9223372036854775807 := by omega
    refine awp_pures [0, 1, 3] (by simp only [go_sem, ↓reduceIte, Nat.reduceLT, Nat.reduceEqDiff, Nat.reduceLeDiff, Nat.reduceAdd, Nat.reduceMul, Int.reduceLT, Int.reduceLE, Int.reduceToNat, BitVec.reduceOfInt, Nat.reduceBEq, i64_sub hs1]; try rfl) ?_
    exact ALoop.cast3 (ih (j, N3, σ3) ⟨by dsimp only; omega, h4⟩ (by dsimp only; omega)) rfl rfl rfl
theorem Backward_ok {sv : Value} {N : Nat} {σ : AHeap} (hb : spread sv = [sv]) :
    AOk Try.prog 47 [sv] N σ fun r N1 σ1 => r = .func (.func 67) #[] #[.pointer (some ⟨N, 0, none⟩)] ∧ N1 = N + 1 ∧ σ1 = σ.set N ⟨[sv], true, .n 1⟩ := by
  refine aok_body (r := false) (n := 4) Try.func47 rfl rfl (by simp) ?_
  first | refine awp_seq (awp_lit ?_) | refine awp_lit ?_ | refine awp_seq (awp_seq (awp_lit ?_))
  refine al_box 1 rfl rfl rfl (by simp only [go_sem, ↓reduceIte, Nat.reduceLT, Nat.reduceEqDiff, Nat.reduceLeDiff, Nat.reduceAdd, Nat.reduceMul, Int.reduceLT, Int.reduceLE, Int.reduceToNat, BitVec.reduceOfInt, Nat.reduceBEq]; try rfl) ?_
  refine al_pureN 1 (by simp only [go_sem, ↓reduceIte, Nat.reduceLT, Nat.reduceEqDiff, Nat.reduceLeDiff, Nat.reduceAdd, Nat.reduceMul, Int.reduceLT, Int.reduceLE, Int.reduceToNat, BitVec.reduceOfInt, Nat.reduceBEq]; try rfl) ?_
  refine al_end [1] ?_
  refine awp_seq (awp_pures [2] (by simp only [go_sem, ↓reduceIte, Nat.reduceLT, Nat.reduceEqDiff, Nat.reduceLeDiff, Nat.reduceAdd, Nat.reduceMul, Int.reduceLT, Int.reduceLE, Int.reduceToNat, BitVec.reduceOfInt, Nat.reduceBEq]; try rfl) ?_)
  exact awp_ret ⟨_, rfl, rfl, rfl, by rw [hb]⟩
end Go.Proofs.Ytfialjllclclkaa

/- The walk of Free. -/
set_option linter.unusedSimpArgs false
set_option linter.unusedVariables false
namespace Go.Proofs.Ytfialjllclclkaa
open Go.Abs Go.Cut
attribute [local go_sem] Try.underlying26 Try.underlying66 Try.underlying69 Try.underlying3 Try.underlying22 Try.underlying23 Try.underlying24 Try.underlying35 Try.underlying43 Try.underlying45 Try.underlying47 Try.underlying5 Try.underlying4 Try.underlying30 Try.underlying56 size26 size66 size69 size3 size22 size23 size24 size35 size43 size45 size47 size5 size4 size30 Nat.mul_one
theorem own_spread {σ : AHeap} {lo len sz : Nat} {v : Value} {cells : List Value} (h : OwnAt σ lo v cells len sz) : spread v = [v] := by
  obtain ⟨b, c, rfl⟩ := h.lenV
  rfl
theorem own_one {σ : AHeap} {lo len sz : Nat} {v : Value} {cells : List Value} (h : OwnAt σ lo v cells len sz) : v.oneCell' = true := by
  obtain ⟨b, c, rfl⟩ := h.lenV
  rfl
theorem Free_ok {g : AigD} {v lv : Value} {node : Int} {l : List Int} {N : Nat} {σ : AHeap} (hf : Few g) (hv : AigAt σ v g) (hl : SlAt σ lv (ints l)) :
    AOk Try.prog 21 [v, .int .i64 node, lv] N σ fun r N1 σ1 => ∃ sv, r = .tuple #[sv, .int .i64 (FreeR g l node).2] ∧ OwnAt σ1 N sv (ints (FreeR g l node).1) (FreeR g l node).1.length 1 ∧ σ.le σ1 ∧ N ≤ N1 := by
  obtain ⟨lb, lc, ab, ac, ob, oc, rfl, hls, has, hos⟩ := hv.opn
  have hf1 := hf.as
  have hf2 := hf.ls
  refine aok_fresh fun hN => aok_body (r := false) (n := 68) Try.func21 rfl rfl (by simp) ?_
  first | refine awp_seq (awp_lit ?_) | refine awp_lit ?_ | refine awp_seq (awp_seq (awp_lit ?_))
  refine al_box 1 rfl rfl rfl (by simp only [go_sem, ↓reduceIte, Nat.reduceLT, Nat.reduceEqDiff, Nat.reduceLeDiff, Nat.reduceAdd, Nat.reduceMul, Int.reduceLT, Int.reduceLE, Int.reduceToNat, BitVec.reduceOfInt, Nat.reduceBEq]; try rfl) ?_
  refine al_alloc 1 rfl rfl rfl ty35 (by decide) ?_
  refine al_pureN 1 (by simp only [go_sem, ↓reduceIte, Nat.reduceLT, Nat.reduceEqDiff, Nat.reduceLeDiff, Nat.reduceAdd, Nat.reduceMul, Int.reduceLT, Int.reduceLE, Int.reduceToNat, BitVec.reduceOfInt, Nat.reduceBEq]; try rfl) ?_
  refine al_end [1, 2, 3, 6, 41] ?_
  obtain ⟨σa, hσa⟩ : ∃ σa, σa = ((σ.set N ⟨spread (.agg #[.int .i64 g.inp, .slice lb g.ls.length lc, .slice ab g.as.length ac, .slice ob g.os.length oc]), true, .n 1⟩).set (N + 1) ⟨spread (.slice none 0 0), true, .n 1⟩) := ⟨_, rfl⟩
  have hle : σ.le σa := by rw [hσa]; exact (le_new hN (Nat.le_refl _)).trans (le_new (dom_set hN) (Nat.le_refl _))
  have hPa : σa N = some ⟨spread (.agg #[.int .i64 g.inp, .slice lb g.ls.length lc, .slice ab g.as.length ac, .slice ob g.os.length oc]), true, .n 1⟩ := by
    rw [hσa, AHeap.set_ne _ _ (by omega), AHeap.set_self]
  have hOa : σa (N + 1) = some ⟨[.slice none 0 0], true, .n 1⟩ := by rw [hσa, AHeap.set_self]; rfl
  rw [← hσa]
  first | refine awp_seq (awp_lit ?_) | refine awp_lit ?_ | refine awp_seq (awp_seq (awp_lit ?_))
  refine al_load rfl (by simp only [go_sem, ↓reduceIte, Nat.reduceLT, Nat.reduceEqDiff, Nat.reduceLeDiff, Nat.reduceAdd, Nat.reduceMul, Int.reduceLT, Int.reduceLE, Int.reduceToNat, BitVec.reduceOfInt, Nat.reduceBEq]) rfl (by simp only [go_sem, ↓reduceIte, Nat.reduceLT, Nat.reduceEqDiff, Nat.reduceLeDiff, Nat.reduceAdd, Nat.reduceMul, Int.reduceLT, Int.reduceLE, Int.reduceToNat, BitVec.reduceOfInt, Nat.reduceBEq]; try rfl) hPa (loadA_agg agg26 rfl) ?_
  refine al_fun (open_ok hf (hls.mono hle) (has.mono hle) (hos.mono hle)) rfl (by simp only [go_sem, ↓reduceIte, Nat.reduceLT, Nat.reduceEqDiff, Nat.reduceLeDiff, Nat.reduceAdd, Nat.reduceMul, Int.reduceLT, Int.reduceLE, Int.reduceToNat, BitVec.reduceOfInt, Nat.reduceBEq]; try rfl) (by kernel_rfl) rfl (by simp only [go_sem, ↓reduceIte, Nat.reduceLT, Nat.reduceEqDiff, Nat.reduceLeDiff, Nat.reduceAdd, Nat.reduceMul, Int.reduceLT, Int.reduceLE, Int.reduceToNat, BitVec.reduceOfInt, Nat.reduceBEq]; try rfl) ?_
  rintro r N1 σ1 ⟨rfl, hN1, hle1⟩
  refine al_fresh fun hNs => ?_
  have hσ1 : σ.le σ1 := hle.trans hle1
  refine al_pureN 3 (by simp only [go_sem, ↓reduceIte, Nat.reduceLT, Nat.reduceEqDiff, Nat.reduceLeDiff, Nat.reduceAdd, Nat.reduceMul, Int.reduceLT, Int.reduceLE, Int.reduceToNat, BitVec.reduceOfInt, Nat.reduceBEq]; try rfl) ?_
  refine al_alloc 1 rfl rfl rfl ty66 (by decide) ?_
  refine al_store rfl (by simp only [go_sem, ↓reduceIte, Nat.reduceLT, Nat.reduceEqDiff, Nat.reduceLeDiff, Nat.reduceAdd, Nat.reduceMul, Int.reduceLT, Int.reduceLE, Int.reduceToNat, BitVec.reduceOfInt, Nat.reduceBEq]) rfl (by simp only [go_sem, ↓reduceIte, Nat.reduceLT, Nat.reduceEqDiff, Nat.reduceLeDiff, Nat.reduceAdd, Nat.reduceMul, Int.reduceLT, Int.reduceLE, Int.reduceToNat, BitVec.reduceOfInt, Nat.reduceBEq]; try rfl) (by simp only [go_sem, ↓reduceIte, Nat.reduceLT, Nat.reduceEqDiff, Nat.reduceLeDiff, Nat.reduceAdd, Nat.reduceMul, Int.reduceLT, Int.reduceLE, Int.reduceToNat, BitVec.reduceOfInt, Nat.reduceBEq]; try rfl) (by first | exact AHeap.set_self _ _ _ | (simp only [AHeap.set, ↓reduceIte, Nat.add_assoc, Nat.reduceAdd, Nat.add_left_cancel_iff, Nat.add_right_cancel_iff, Nat.left_eq_add, Nat.add_eq_left, Nat.add_eq_right, Nat.right_eq_add, Nat.reduceEqDiff, Nat.succ_ne_zero]; rfl) | assumption) rfl (by exact size66.trans rfl) (by rfl) (by exact Nat.le_of_ble_eq_true rfl) ?_
  refine al_pureN 1 (by simp only [go_sem, ↓reduceIte, Nat.reduceLT, Nat.reduceEqDiff, Nat.reduceLeDiff, Nat.reduceAdd, Nat.reduceMul, Int.reduceLT, Int.reduceLE, Int.reduceToNat, BitVec.reduceOfInt, Nat.reduceBEq]; try rfl) ?_
  refine al_end [1, 2, 6, 7, 8] ?_
  rw [AHeap.set_set]
  show Abs.Seq _ _ _ _ _ _ _ _ (σ1.set N1 ⟨spread (graphV lb lc ab ac ob oc g (openF g)), true, .n 1⟩)
  have hle2 : σ1.le (σ1.set N1 ⟨spread (graphV lb lc ab ac ob oc g (openF g)), true, .n 1⟩) := le_new hNs (Nat.le_refl _)
  have hNs2 := dom_set (b := ⟨spread (graphV lb lc ab ac ob oc g (openF g)), true, .n 1⟩) hNs
  have hO1 : σ1 (N + 1) = some ⟨[.slice none 0 0], true, .n 1⟩ := hle1 _ _ hOa
  have hstay : ∀ {τ : AHeap} (x : Value), σa.le τ → σ.le (τ.set (N + 1) ⟨[x], true, .n 1⟩) := fun x h i b hb => by
    have := hN i b hb
    rw [AHeap.set_ne _ _ (by omega)]; exact h _ _ (hle _ _ hb)
  by_cases hc : chkE g = 0
  · have hV := valid_of hc
    have hb : (chkE g != 0) = false := by simp [hc]
    have hinp := hV.inp
    have hsz := hV.size
    unfold sizeC firstC at hsz
    have hF : openF g = (((firstC g).toNat : Nat) : Int) := by rw [openF_valid hV hf, Int.toNat_of_nonneg (by unfold firstC; omega)]
    rw [hF]
    rw [hF] at hle2 hNs2
    obtain ⟨f, hfd⟩ : ∃ f, f = (firstC g).toNat := ⟨_, rfl⟩
    have hfle : f ≤ 400000 := by rw [hfd]; unfold firstC; omega
    have hchk : chkA f g.as = true := by have := hV.ands; rw [← openF_valid hV hf, hF, ← hfd] at this; exact this
    have hfs : sizeC g = (f : Int) + g.as.length := by unfold sizeC; rw [← openF_valid hV hf, hF, ← hfd]
    have hchl := hV.latches
    have hcho := hV.outs
    rw [hfs] at hchl hcho
    rw [← hfd] at hle2 hNs2 ⊢
    obtain ⟨σ2, hσ2⟩ : ∃ σ2, σ2 = σ1.set N1 ⟨spread (graphV lb lc ab ac ob oc g f), true, .n 1⟩ := ⟨_, rfl⟩
    have hG2 : σ2 N1 = some ⟨spread (graphV lb lc ab ac ob oc g f), true, .n 1⟩ := by rw [hσ2, AHeap.set_self]
    rw [← hσ2] at hle2 hNs2 ⊢
    have hσ2' : σ.le σ2 := hσ1.trans hle2
    have hR : ConeR g l node = coneE f g.as l node := by simp [ConeR, hc, hfd]
    refine awp_seq ?_
    refine awp_seq (awp_pures [1, 2, 6, 7, 8, 21, 41] (by simp only [go_sem, ↓reduceIte, Nat.reduceLT, Nat.reduceEqDiff, Nat.reduceLeDiff, Nat.reduceAdd, Nat.reduceMul, Int.reduceLT, Int.reduceLE, Int.reduceToNat, BitVec.reduceOfInt, Nat.reduceBEq, hb]; try rfl) ?_)
    refine awp_if rfl (fun h => by cases h) (fun _ => ?_)
    refine awp_skip ?_
    first | refine awp_seq (awp_lit ?_) | refine awp_lit ?_ | refine awp_seq (awp_seq (awp_lit ?_))
    refine al_load rfl (by simp only [go_sem, ↓reduceIte, Nat.reduceLT, Nat.reduceEqDiff, Nat.reduceLeDiff, Nat.reduceAdd, Nat.reduceMul, Int.reduceLT, Int.reduceLE, Int.reduceToNat, BitVec.reduceOfInt, Nat.reduceBEq]) rfl (by simp only [go_sem, ↓reduceIte, Nat.reduceLT, Nat.reduceEqDiff, Nat.reduceLeDiff, Nat.reduceAdd, Nat.reduceMul, Int.reduceLT, Int.reduceLE, Int.reduceToNat, BitVec.reduceOfInt, Nat.reduceBEq]; try rfl) hG2 (loadA_agg agg66 rfl) ?_
    refine al_pureN 2 (by simp only [go_sem, ↓reduceIte, Nat.reduceLT, Nat.reduceEqDiff, Nat.reduceLeDiff, Nat.reduceAdd, Nat.reduceMul, Int.reduceLT, Int.reduceLE, Int.reduceToNat, BitVec.reduceOfInt, Nat.reduceBEq]; try rfl) ?_
    refine al_fun (cone_ok (g := g) (f := f) (has.mono hσ2') (hl.mono hσ2') hfle (by omega) hchk) rfl (by simp only [go_sem, ↓reduceIte, Nat.reduceLT, Nat.reduceEqDiff, Nat.reduceLeDiff, Nat.reduceAdd, Nat.reduceMul, Int.reduceLT, Int.reduceLE, Int.reduceToNat, BitVec.reduceOfInt, Nat.reduceBEq]; try rfl) (by kernel_rfl) rfl (by simp only [go_sem, ↓reduceIte, Nat.reduceLT, Nat.reduceEqDiff, Nat.reduceLeDiff, Nat.reduceAdd, Nat.reduceMul, Int.reduceLT, Int.reduceLE, Int.reduceToNat, BitVec.reduceOfInt, Nat.reduceBEq]; try rfl) ?_
    rintro r N2 σ3 ⟨sv, rfl, hsv, hle3, hN2⟩
    refine al_pureN 5 (by simp only [go_sem, ↓reduceIte, Nat.reduceLT, Nat.reduceEqDiff, Nat.reduceLeDiff, Nat.reduceAdd, Nat.reduceMul, Int.reduceLT, Int.reduceLE, Int.reduceToNat, BitVec.reduceOfInt, Nat.reduceBEq]; try rfl) ?_
    refine al_end [1, 6, 7, 8, 9] ?_
    have hO3 : σ3 (N + 1) = some ⟨[.slice none 0 0], true, .n 1⟩ := hle3 _ _ (hle2 _ _ hO1)
    by_cases hce : (coneE f g.as l node).2 = 0
    · have hb : ((coneE f g.as l node).2 != 0) = false := by simp [hce]
      refine awp_seq ?_
      refine awp_seq (awp_pures [1, 6, 7, 8, 9, 31, 41] (by simp only [go_sem, ↓reduceIte, Nat.reduceLT, Nat.reduceEqDiff, Nat.reduceLeDiff, Nat.reduceAdd, Nat.reduceMul, Int.reduceLT, Int.reduceLE, Int.reduceToNat, BitVec.reduceOfInt, Nat.reduceBEq, hb]; try rfl) ?_)
      refine awp_if rfl (fun h => by cases h) (fun _ => ?_)
      refine awp_skip ?_
      obtain ⟨hn0, hn1⟩ := coneE_node hce
      obtain ⟨cl, hcl⟩ : ∃ cl, cl = (coneE f g.as l node).1 := ⟨_, rfl⟩
      have hcm := coneE_mem f g.as l node
      have hRF : FreeR g l node = ((freeS f g.as (useF g node.toNat) cl).2.reverse, 0) := by unfold FreeR; rw [hR, if_pos hce, ← hfd, ← hcl]
      rw [← hcl] at hcm hsv
      obtain ⟨hcm, hcn⟩ := hcm
      rw [hRF]
      obtain ⟨m, rfl⟩ : ∃ m : Nat, node = m := ⟨node.toNat, by omega⟩
      rw [Int.toNat_natCast]
      obtain ⟨n, hn⟩ : ∃ n, n = f + g.as.length := ⟨_, rfl⟩
      have hmn : 0 ≤ (m : Int) ∧ (m : Int) < (n : Int) := by omega
      have hG3 : σ3 N1 = some ⟨spread (graphV lb lc ab ac ob oc g f), true, .n 1⟩ := hle3 _ _ hG2
      have hσ3' : σ.le σ3 := hσ2'.trans hle3
      first | refine awp_seq (awp_lit ?_) | refine awp_lit ?_ | refine awp_seq (awp_seq (awp_lit ?_))
      refine al_fresh fun hN3 => ?_
      refine al_load rfl (by simp only [go_sem, ↓reduceIte, Nat.reduceLT, Nat.reduceEqDiff, Nat.reduceLeDiff, Nat.reduceAdd, Nat.reduceMul, Int.reduceLT, Int.reduceLE, Int.reduceToNat, BitVec.reduceOfInt, Nat.reduceBEq]) rfl (by simp only [go_sem, ↓reduceIte, Nat.reduceLT, Nat.reduceEqDiff, Nat.reduceLeDiff, Nat.reduceAdd, Nat.reduceMul, Int.reduceLT, Int.reduceLE, Int.reduceToNat, BitVec.reduceOfInt, Nat.reduceBEq]; try rfl) hG3 (loadA_agg agg66 rfl) ?_
      refine al_fun (uses_ok (f := f) (hls.mono hσ3') (has.mono hσ3') (hos.mono hσ3') hfle hf hchk hchl hcho) rfl (by simp only [go_sem, ↓reduceIte, Nat.reduceLT, Nat.reduceEqDiff, Nat.reduceLeDiff, Nat.reduceAdd, Nat.reduceMul, Int.reduceLT, Int.reduceLE, Int.reduceToNat, BitVec.reduceOfInt, Nat.reduceBEq]; try rfl) (by kernel_rfl) rfl (by simp only [go_sem, ↓reduceIte, Nat.reduceLT, Nat.reduceEqDiff, Nat.reduceLeDiff, Nat.reduceAdd, Nat.reduceMul, Int.reduceLT, Int.reduceLE, Int.reduceToNat, BitVec.reduceOfInt, Nat.reduceBEq]; try rfl) ?_
      rintro r N4 σ4 ⟨hr, hle4, hN4⟩
      rw [← hn] at hr
      refine al_fresh fun hN4' => ?_
      rcases hr with ⟨_, h2, _⟩ | ⟨U, cap, hU1, rfl, hU3, hU4, hU5⟩
      · omega
      refine al_alloc 1 rfl rfl rfl ty35 (by decide) ?_
      refine al_store1 rfl (by simp only [go_sem, ↓reduceIte, Nat.reduceLT, Nat.reduceEqDiff, Nat.reduceLeDiff, Nat.reduceAdd, Nat.reduceMul, Int.reduceLT, Int.reduceLE, Int.reduceToNat, BitVec.reduceOfInt, Nat.reduceBEq]; try rfl) rfl (by simp only [go_sem, ↓reduceIte, Nat.reduceLT, Nat.reduceEqDiff, Nat.reduceLeDiff, Nat.reduceAdd, Nat.reduceMul, Int.reduceLT, Int.reduceLE, Int.reduceToNat, BitVec.reduceOfInt, Nat.reduceBEq]; try rfl) (by simp only [go_sem, ↓reduceIte, Nat.reduceLT, Nat.reduceEqDiff, Nat.reduceLeDiff, Nat.reduceAdd, Nat.reduceMul, Int.reduceLT, Int.reduceLE, Int.reduceToNat, BitVec.reduceOfInt, Nat.reduceBEq]; try rfl) (AHeap.set_self _ _ _) rfl size35 rfl rfl (by decide) ?_
      refine al_end [1, 6, 8, 9, 10] ?_
      rw [AHeap.set_set]
      have hUN : U ≠ N4 := by have := hN4' _ _ hU4; omega
      have hU : (σ4.set N4 ⟨[.slice (some ⟨U, 0, none⟩) n cap], true, .n 1⟩) U = some ⟨nums (cntF (allLits g)) n, true, .n 1⟩ := by rw [AHeap.set_ne _ _ hUN]; exact hU4
      show Abs.Seq _ _ _ _ _ _ _ _ (σ4.set N4 ⟨[.slice (some ⟨U, 0, none⟩) n cap], true, .n 1⟩)
      first | refine awp_seq (awp_lit ?_) | refine awp_lit ?_ | refine awp_seq (awp_seq (awp_lit ?_))
      refine al_load rfl (by simp only [go_sem, ↓reduceIte, Nat.reduceLT, Nat.reduceEqDiff, Nat.reduceLeDiff, Nat.reduceAdd, Nat.reduceMul, Int.reduceLT, Int.reduceLE, Int.reduceToNat, BitVec.reduceOfInt, Nat.reduceBEq, hmn]) rfl (by simp only [go_sem, ↓reduceIte, Nat.reduceLT, Nat.reduceEqDiff, Nat.reduceLeDiff, Nat.reduceAdd, Nat.reduceMul, Int.reduceLT, Int.reduceLE, Int.reduceToNat, BitVec.reduceOfInt, Nat.reduceBEq, hmn]; try rfl) (AHeap.set_self _ _ _) (loadA_scalar agg35 rfl) ?_
      refine al_pureN 2 (by simp only [go_sem, ↓reduceIte, Nat.reduceLT, Nat.reduceEqDiff, Nat.reduceLeDiff, Nat.reduceAdd, Nat.reduceMul, Int.reduceLT, Int.reduceLE, Int.reduceToNat, BitVec.reduceOfInt, Nat.reduceBEq, hmn]; try rfl) ?_
      refine al_store1 rfl (by simp only [go_sem, ↓reduceIte, Nat.reduceLT, Nat.reduceEqDiff, Nat.reduceLeDiff, Nat.reduceAdd, Nat.reduceMul, Int.reduceLT, Int.reduceLE, Int.reduceToNat, BitVec.reduceOfInt, Nat.reduceBEq]; try rfl) rfl (by simp only [go_sem, ↓reduceIte, Nat.reduceLT, Nat.reduceEqDiff, Nat.reduceLeDiff, Nat.reduceAdd, Nat.reduceMul, Int.reduceLT, Int.reduceLE, Int.reduceToNat, BitVec.reduceOfInt, Nat.reduceBEq]; try rfl) (by simp only [go_sem, ↓reduceIte, Nat.reduceLT, Nat.reduceEqDiff, Nat.reduceLeDiff, Nat.reduceAdd, Nat.reduceMul, Int.reduceLT, Int.reduceLE, Int.reduceToNat, BitVec.reduceOfInt, Nat.reduceBEq]; try rfl) hU rfl size3 rfl rfl (by show m < (nums _ _).length; rw [nums_len]; omega) ?_
      refine al_end [6, 8, 9, 10, 41] ?_
      show Abs.Seq _ _ _ _ _ _ _ _ (AHeap.set (σ4.set N4 ⟨[.slice (some ⟨U, 0, none⟩) n cap], true, .n 1⟩) U ⟨(nums (cntF (allLits g)) n).set m (.int .i64 0), true, .n 1⟩)
      rw [nums_put]
      obtain ⟨base, hbase⟩ : ∃ base, base = useF g m := ⟨_, rfl⟩
      show Abs.Seq _ _ _ _ _ _ _ _ (AHeap.set (σ4.set N4 ⟨[.slice (some ⟨U, 0, none⟩) n cap], true, .n 1⟩) U ⟨intsF (useF g m) n, true, .n 1⟩)
      rw [← hbase]
      have hcol : (ints cl).length = cl.length := by simp [ints]
      have hcs : SlAt σ3 sv (ints cl) := hsv.slAt
      obtain ⟨cb, cc, rfl⟩ := hsv.lenV
      have hspr : spread (.slice cb cl.length cc) = [.slice cb cl.length cc] := rfl
      first | refine awp_seq (awp_lit ?_) | refine awp_lit ?_ | refine awp_seq (awp_seq (awp_lit ?_))
      refine al_pureN 1 (by simp only [go_sem, ↓reduceIte, Nat.reduceLT, Nat.reduceEqDiff, Nat.reduceLeDiff, Nat.reduceAdd, Nat.reduceMul, Int.reduceLT, Int.reduceLE, Int.reduceToNat, BitVec.reduceOfInt, Nat.reduceBEq]; try rfl) ?_
      refine al_fun (Backward_ok hspr) rfl (by simp only [go_sem, ↓reduceIte, Nat.reduceLT, Nat.reduceEqDiff, Nat.reduceLeDiff, Nat.reduceAdd, Nat.reduceMul, Int.reduceLT, Int.reduceLE, Int.reduceToNat, BitVec.reduceOfInt, Nat.reduceBEq]; try rfl) (by kernel_rfl) rfl (by simp only [go_sem, ↓reduceIte, Nat.reduceLT, Nat.reduceEqDiff, Nat.reduceLeDiff, Nat.reduceAdd, Nat.reduceMul, Int.reduceLT, Int.reduceLE, Int.reduceToNat, BitVec.reduceOfInt, Nat.reduceBEq]; try rfl) ?_
      rintro r N5 σ5 ⟨rfl, rfl, rfl⟩
      refine al_end [6, 8, 10, 39] ?_
      have hO4 : σ4 (N + 1) = some ⟨[.slice none 0 0], true, .n 1⟩ := hle4 _ _ hO3
      have hON4 : N + 1 < N4 := hN4' _ _ hO4
      have hG4 : σ4 N1 = some ⟨spread (graphV lb lc ab ac ob oc g f), true, .n 1⟩ := hle4 _ _ hG3
      have hGN4 : N1 < N4 := hN4' _ _ hG4
      have hUN4 : U < N4 := hN4' _ _ hU4
      obtain ⟨σb, hσb⟩ : ∃ σb, σb = ((σ4.set N4 ⟨[.slice (some ⟨U, 0, none⟩) n cap], true, .n 1⟩).set U ⟨intsF base n, true, .n 1⟩).set (N4 + 1) ⟨[.slice cb cl.length cc], true, .n 1⟩ := ⟨_, rfl⟩
      rw [← hσb]
      obtain ⟨σ0, hσ0⟩ : ∃ σ0, σ0 = (σb.del U).del (N + 1) := ⟨_, rfl⟩
      obtain ⟨B, hB⟩ : ∃ B, B = N4 + 1 + 1 := ⟨_, rfl⟩
      have hb0 : ∀ j, j ≠ U → j ≠ N + 1 → σ0 j = σb j := fun j h1 h2 => by rw [hσ0]; simp [AHeap.del, h1, h2]
      have hdel : ∀ (τ : AHeap) {i j : Nat}, j ≠ i → τ.del i j = τ j := fun τ i j h => by simp [AHeap.del, h]
      have hdb : ∀ i b, σb i = some b → i < B := by
        intro i b h
        rw [hσb] at h
        by_cases e1 : i = N4 + 1
        · omega
        rw [AHeap.set_ne _ _ e1] at h
        by_cases e2 : i = U
        · omega
        rw [AHeap.set_ne _ _ e2] at h
        by_cases e3 : i = N4
        · omega
        rw [AHeap.set_ne _ _ e3] at h
        have := hN4' _ _ h
        omega
      have hd0 : ∀ i b, σ0 i = some b → i < B := fun i b h => by
        rw [hσ0] at h
        exact hdb i b (AHeap.del_le _ _ _ _ (AHeap.del_le _ _ _ _ h))
      have h03 : (σ3.del (N + 1)).le σ0 := fun j b h => by
        have hj : j ≠ N + 1 := fun e => by simp [AHeap.del, e] at h
        have h3 : σ3 j = some b := by simpa [AHeap.del, hj] using h
        have := hN3 _ _ h3
        rw [hb0 _ (by omega) hj, hσb, AHeap.set_ne _ _ (by omega), AHeap.set_ne _ _ (by omega), AHeap.set_ne _ _ (by omega)]
        exact hle4 _ _ h3
      have h0C : σ0 (N4 + 1) = some ⟨[.slice cb cl.length cc], true, .n 1⟩ := by rw [hb0 _ (by omega) (by omega), hσb, AHeap.set_self]
      have h0U : σ0 N4 = some ⟨[.slice (some ⟨U, 0, none⟩) n cap], true, .n 1⟩ := by rw [hb0 _ (by omega) (by omega), hσb, AHeap.set_ne _ _ (by omega), AHeap.set_ne _ _ (by omega), AHeap.set_self]
      have h0G : σ0 N1 = some ⟨spread (graphV lb lc ab ac ob oc g f), true, .n 1⟩ := h03 _ _ (by rw [hdel _ (by omega)]; exact hG3)
      have h0σ : σ.le σ0 := fun i b hb => h03 _ _ (by rw [hdel _ (by have := hN i b hb; omega)]; exact hσ3' _ _ hb)
      have h0S : SlAt σ0 (.slice cb cl.length cc) (ints cl) := (hsv.mono (fun i b hi hb => h03 _ _ (by rw [hdel _ (by omega)]; exact hb)) (Nat.le_refl _)).slAt
      have hbU : σb U = some ⟨intsF base n, true, .n 1⟩ := by rw [hσb, AHeap.set_ne _ _ (by omega), AHeap.set_self]
      have hbO : σb (N + 1) = some ⟨[.slice none 0 0], true, .n 1⟩ := by rw [hσb, AHeap.set_ne _ _ (by omega), AHeap.set_ne _ _ (by omega), AHeap.set_ne _ _ (by omega)]; exact hO4
      have hb0' : σ0.le σb := fun i b h => by
        rw [hσ0] at h
        exact AHeap.del_le _ _ _ _ (AHeap.del_le _ _ _ _ h)
      rw [← hB]
      refine awp_block ?_
      refine awp_rangeFunc (g := 67) (xs := #[]) (cs := #[.pointer (some ⟨N4 + 1, 0, none⟩)]) rfl (by kernel_rfl) ?_
      refine AOk.mono (back_ok (bx := N4 + 1) (sb := cb) (sc := cc) (l := cl) (i := B) (info := ⟨68, _, _, _, _⟩) (fun j M τ => B + 1 ≤ M ∧ τ B = some ⟨[], true, .loop ⟨68, _, _, _, _⟩ .ready⟩ ∧ σ0.le τ ∧ τ U = some ⟨intsF (leftF base (freeS f g.as base (cl.drop j)).1) n, true, .n 1⟩ ∧
        ∃ ov, τ (N + 1) = some ⟨[ov], true, .n 1⟩ ∧ OwnAt τ (B + 1) ov (ints (freeS f g.as base (cl.drop j)).2) (freeS f g.as base (cl.drop j)).2.length 1) (by omega) (fun j M τ h => ⟨h.2.1, h.2.2.1 _ _ h0C, h0S.mono h.2.2.1⟩) rfl (by intro p hp; show p < 68; simp at hp; rcases hp with rfl | rfl <;> decide) ?_
        ⟨Nat.le_refl _, AHeap.set_self _ _ _, ?_, ?_, .slice none 0 0, ?_, ?_⟩) ?_
      · intro j x hx M τ hI
        obtain ⟨hM, hrec, hτ, hτU, ov, hτO, hov⟩ := hI
        obtain ⟨ρ, hρ⟩ : ∃ ρ, ρ = τ.del B := ⟨_, rfl⟩
        have hρn : ∀ {i}, i ≠ B → ρ i = τ i := fun h => by rw [hρ]; exact hdel _ h
        have hρ0 : σ0.le ρ := fun i b hb => by rw [hρn (by have := hd0 _ _ hb; omega)]; exact hτ _ _ hb
        have hρU := (hρn (i := U) (by omega)).trans hτU
        have hρO := (hρn (i := N + 1) (by omega)).trans hτO
        have hρv := hov.mono (σ' := ρ) (fun i b hi hb => by rw [hρn (by omega)]; exact hb) (Nat.le_refl _)
        have hστ : σ.le ρ := h0σ.trans hρ0
        have hstep := freeS_cons f g.as base cl hx
        obtain ⟨hjl0, hxe⟩ := List.getElem?_eq_some_iff.1 hx
        obtain ⟨hx1, hx2⟩ := hcm x (hxe ▸ List.getElem_mem hjl0)
        obtain ⟨w, rfl⟩ : ∃ w : Nat, x = w := ⟨x.toNat, by omega⟩
        have hfl := freeS_len f g.as base (cl.drop (j + 1))
        rw [List.length_drop] at hfl
        obtain ⟨rm, hrm⟩ : ∃ rm, rm = (freeS f g.as base (cl.drop (j + 1))).1 := ⟨_, rfl⟩
        obtain ⟨out, hout⟩ : ∃ out, out = (freeS f g.as base (cl.drop (j + 1))).2 := ⟨_, rfl⟩
        have hrml : rm.length ≤ 400 := by rw [hrm]; omega
        have houtl : out.length ≤ 200 := by rw [hout]; omega
        have hbb : ∀ k, 0 ≤ base k ∧ base k ≤ 600 := fun k => by
          rw [hbase]; unfold useF
          have := cntF_le (allLits g) k
          have h2 : (allLits g).length ≤ 600 := by
            have := hf.os
            simp only [allLits, List.length_append, andLits_len, List.length_map]; omega
          split <;> omega
        have hlb : ∀ (p : List Int) k, p.length ≤ 402 → -402 ≤ leftF base p k ∧ leftF base p k ≤ 600 := fun p k hp => by
          have := hbb k
          have := cntF_le p k
          unfold leftF; omega
        rw [← hrm] at hρU
        rw [← hout] at hρv
        have hstep2 : freeS f g.as base (cl.drop j) = if 0 < leftF base rm w then (rm, out) else ((rm ++ [(g.as.getD (w - f) (0, 0)).1]) ++ [(g.as.getD (w - f) (0, 0)).2], out ++ [(w : Int)]) := by
          have hro : freeS f g.as base (cl.drop (j + 1)) = (rm, out) := by rw [hrm, hout]
          rw [hstep, hro]; rfl
        rw [← hρ]
        show AWp true Try.prog 68 (.region 10 _ _) ((41, .int .i64 w) :: (40, .int .i64 j) :: _) M ρ _
        refine awp_pures [6, 8, 10, 12] (by simp only [go_sem, ↓reduceIte, Nat.reduceLT, Nat.reduceEqDiff, Nat.reduceLeDiff, Nat.reduceAdd, Nat.reduceMul, Int.reduceLT, Int.reduceLE, Int.reduceToNat, BitVec.reduceOfInt, Nat.reduceBEq]; try rfl) ?_
        refine ⟨rfl, ?_⟩
        refine awp_block ?_
        have hww : 0 ≤ (w : Int) ∧ (w : Int) < (n : Int) := by omega
        have hgw : (intsF (leftF base rm) n)[w]? = some (.int .i64 (leftF base rm w)) := intsF_get _ (by omega)
        by_cases hgo : 0 < leftF base rm w
        · have hb : decide (leftF base rm w > 0) = true := by simpa using hgo
          refine awp_seq ?_
          first | refine awp_seq (awp_lit ?_) | refine awp_lit ?_ | refine awp_seq (awp_seq (awp_lit ?_))
          refine al_load rfl (by simp only [go_sem, ↓reduceIte, Nat.reduceLT, Nat.reduceEqDiff, Nat.reduceLeDiff, Nat.reduceAdd, Nat.reduceMul, Int.reduceLT, Int.reduceLE, Int.reduceToNat, BitVec.reduceOfInt, Nat.reduceBEq, hww, hb]) rfl (by simp only [go_sem, ↓reduceIte, Nat.reduceLT, Nat.reduceEqDiff, Nat.reduceLeDiff, Nat.reduceAdd, Nat.reduceMul, Int.reduceLT, Int.reduceLE, Int.reduceToNat, BitVec.reduceOfInt, Nat.reduceBEq, hww, hb]; try rfl) (hρ0 _ _ h0U) (loadA_scalar agg35 rfl) ?_
          refine al_pureN 2 (by simp only [go_sem, ↓reduceIte, Nat.reduceLT, Nat.reduceEqDiff, Nat.reduceLeDiff, Nat.reduceAdd, Nat.reduceMul, Int.reduceLT, Int.reduceLE, Int.reduceToNat, BitVec.reduceOfInt, Nat.reduceBEq, hww, hb]; try rfl) ?_
          refine al_load rfl (by simp only [go_sem, ↓reduceIte, Nat.reduceLT, Nat.reduceEqDiff, Nat.reduceLeDiff, Nat.reduceAdd, Nat.reduceMul, Int.reduceLT, Int.reduceLE, Int.reduceToNat, BitVec.reduceOfInt, Nat.reduceBEq, hww, hb]) rfl (by simp only [go_sem, ↓reduceIte, Nat.reduceLT, Nat.reduceEqDiff, Nat.reduceLeDiff, Nat.reduceAdd, Nat.reduceMul, Int.reduceLT, Int.reduceLE, Int.reduceToNat, BitVec.reduceOfInt, Nat.reduceBEq, hww, hb]; try rfl) hρU (loadA_scalar agg3 hgw) ?_
          refine al_pureN 1 (by simp only [go_sem, ↓reduceIte, Nat.reduceLT, Nat.reduceEqDiff, Nat.reduceLeDiff, Nat.reduceAdd, Nat.reduceMul, Int.reduceLT, Int.reduceLE, Int.reduceToNat, BitVec.reduceOfInt, Nat.reduceBEq, hww, hb]; try rfl) ?_
          refine al_end [6, 8, 10, 12, 46] ?_
          refine awp_if rfl (fun _ => ?_) (fun h => by cases h)
          refine awp_exit ?_
          simp only [Go.Abs.Seq, Go.Abs.Round, Go.Abs.InBlock, ↓reduceIte]
          rw [if_pos hgo] at hstep2
          refine ⟨rfl, hM, AHeap.set_self _ _ _, fun i b hb => ?_, ?_, ov, ?_, ?_⟩
          · rw [AHeap.set_ne _ _ (by have := hd0 _ _ hb; omega)]; exact hρ0 _ _ hb
          · rw [hstep2, AHeap.set_ne _ _ (by omega)]; exact hρU
          · rw [AHeap.set_ne _ _ (by omega)]; exact hρO
          · rw [hstep2]; exact hρv.mono (fun i b hi hb => by rw [AHeap.set_ne _ _ (by omega)]; exact hb) (Nat.le_refl _)
        · have hb : decide (leftF base rm w > 0) = false := by simpa using hgo
          refine awp_seq ?_
          first | refine awp_seq (awp_lit ?_) | refine awp_lit ?_ | refine awp_seq (awp_seq (awp_lit ?_))
          refine al_load rfl (by simp only [go_sem, ↓reduceIte, Nat.reduceLT, Nat.reduceEqDiff, Nat.reduceLeDiff, Nat.reduceAdd, Nat.reduceMul, Int.reduceLT, Int.reduceLE, Int.reduceToNat, BitVec.reduceOfInt, Nat.reduceBEq, hww, hb]) rfl (by simp only [go_sem, ↓reduceIte, Nat.reduceLT, Nat.reduceEqDiff, Nat.reduceLeDiff, Nat.reduceAdd, Nat.reduceMul, Int.reduceLT, Int.reduceLE, Int.reduceToNat, BitVec.reduceOfInt, Nat.reduceBEq, hww, hb]; try rfl) (hρ0 _ _ h0U) (loadA_scalar agg35 rfl) ?_
          refine al_pureN 2 (by simp only [go_sem, ↓reduceIte, Nat.reduceLT, Nat.reduceEqDiff, Nat.reduceLeDiff, Nat.reduceAdd, Nat.reduceMul, Int.reduceLT, Int.reduceLE, Int.reduceToNat, BitVec.reduceOfInt, Nat.reduceBEq, hww, hb]; try rfl) ?_
          refine al_load rfl (by simp only [go_sem, ↓reduceIte, Nat.reduceLT, Nat.reduceEqDiff, Nat.reduceLeDiff, Nat.reduceAdd, Nat.reduceMul, Int.reduceLT, Int.reduceLE, Int.reduceToNat, BitVec.reduceOfInt, Nat.reduceBEq, hww, hb]) rfl (by simp only [go_sem, ↓reduceIte, Nat.reduceLT, Nat.reduceEqDiff, Nat.reduceLeDiff, Nat.reduceAdd, Nat.reduceMul, Int.reduceLT, Int.reduceLE, Int.reduceToNat, BitVec.reduceOfInt, Nat.reduceBEq, hww, hb]; try rfl) hρU (loadA_scalar agg3 hgw) ?_
          refine al_pureN 1 (by simp only [go_sem, ↓reduceIte, Nat.reduceLT, Nat.reduceEqDiff, Nat.reduceLeDiff, Nat.reduceAdd, Nat.reduceMul, Int.reduceLT, Int.reduceLE, Int.reduceToNat, BitVec.reduceOfInt, Nat.reduceBEq, hww, hb]; try rfl) ?_
          refine al_end [6, 8, 10, 12, 46] ?_
          refine awp_if rfl (fun h => by cases h) (fun _ => ?_)
          refine awp_skip ?_
          rw [if_neg hgo] at hstep2
          obtain ⟨q, hq⟩ : ∃ q, q = w - f := ⟨_, rfl⟩
          have hjl : q < g.as.length := by omega
          have hjx : (w : Int) - (f : Int) = (q : Int) := by omega
          obtain ⟨b1, b2, b3, b4⟩ := chkA_get hchk hjl
          have hgd : g.as.getD (w - f) (0, 0) = g.as[q] := by rw [← hq]; simp [List.getD, hjl]
          rw [hgd] at hstep2
          refine awp_seq ?_
          first | refine awp_seq (awp_lit ?_) | refine awp_lit ?_ | refine awp_seq (awp_seq (awp_lit ?_))
          refine al_load rfl (by simp only [go_sem, ↓reduceIte, Nat.reduceLT, Nat.reduceEqDiff, Nat.reduceLeDiff, Nat.reduceAdd, Nat.reduceMul, Int.reduceLT, Int.reduceLE, Int.reduceToNat, BitVec.reduceOfInt, Nat.reduceBEq]) rfl (by simp only [go_sem, ↓reduceIte, Nat.reduceLT, Nat.reduceEqDiff, Nat.reduceLeDiff, Nat.reduceAdd, Nat.reduceMul, Int.reduceLT, Int.reduceLE, Int.reduceToNat, BitVec.reduceOfInt, Nat.reduceBEq]; try rfl) (hρ0 _ _ h0G) (loadA_agg agg66 rfl) ?_
          refine al_pureN 1 (by simp only [go_sem, ↓reduceIte, Nat.reduceLT, Nat.reduceEqDiff, Nat.reduceLeDiff, Nat.reduceAdd, Nat.reduceMul, Int.reduceLT, Int.reduceLE, Int.reduceToNat, BitVec.reduceOfInt, Nat.reduceBEq]; try rfl) ?_
          refine al_gives (vs := ?vs1) (v := ?v1) rfl ?ha1 ?hh1 (by kernel_rfl) rfl (by simp only [go_sem, ↓reduceIte, Nat.reduceLT, Nat.reduceEqDiff, Nat.reduceLeDiff, Nat.reduceAdd, Nat.reduceMul, Int.reduceLT, Int.reduceLE, Int.reduceToNat, BitVec.reduceOfInt, Nat.reduceBEq]) ?kk1
          case ha1 => simp only [go_sem, ↓reduceIte, Nat.reduceLT, Nat.reduceEqDiff, Nat.reduceLeDiff, Nat.reduceAdd, Nat.reduceMul, Int.reduceLT, Int.reduceLE, Int.reduceToNat, BitVec.reduceOfInt, Nat.reduceBEq]; try rfl
          case hh1 => exact operands_gives (has.mono hστ) hjl hjx (by omega)
          refine al_pureN 1 (by simp only [go_sem, ↓reduceIte, Nat.reduceLT, Nat.reduceEqDiff, Nat.reduceLeDiff, Nat.reduceAdd, Nat.reduceMul, Int.reduceLT, Int.reduceLE, Int.reduceToNat, BitVec.reduceOfInt, Nat.reduceBEq]; try rfl) ?_
          refine al_end [6, 10, 12, 49, 50] ?_
          obtain ⟨A1, hAe⟩ : ∃ A1, A1 = g.as[q].1 := ⟨_, rfl⟩
          obtain ⟨A2, hBe⟩ : ∃ A2, A2 = g.as[q].2 := ⟨_, rfl⟩
          rw [← hAe] at b1 b2 hstep2 ⊢
          rw [← hBe] at b3 b4 hstep2 ⊢
          have hA1 : 0 ≤ A1 / 2 ∧ A1 / 2 < (n : Int) := by omega
          have hB1 : 0 ≤ A2 / 2 ∧ A2 / 2 < (n : Int) := by omega
          have hA2 : (A1 / 2).toNat = A1.toNat / 2 := by omega
          have hB2 : (A2 / 2).toNat = A2.toNat / 2 := by omega
          have qA := quo_two b1 (by omega)
          have qB := quo_two b3 (by omega)
          have a01 : intA .add .i64 0 1 = some (.int .i64 1) := rfl
          have a11 : intA .add .i64 1 1 = some (.int .i64 2) := rfl
          have gA : (intsF (leftF base rm) n)[(A1 / 2).toNat]? = some (.int .i64 (leftF base rm (A1.toNat / 2))) := by rw [hA2]; exact intsF_get _ (by omega)
          have gB : (intsF (leftF base (rm ++ [A1])) n)[(A2 / 2).toNat]? = some (.int .i64 (leftF base (rm ++ [A1]) (A2.toNat / 2))) := by rw [hB2]; exact intsF_get _ (by omega)
          have wA : -9223372036854775808 ≤ leftF base rm (A1.toNat / 2) - 1 ∧ leftF base rm (A1.toNat / 2) - 1 ≤ 9223372036854775807 := by have := hlb rm (A1.toNat / 2) (by omega); omega
          have wB : -9223372036854775808 ≤ leftF base (rm ++ [A1]) (A2.toNat / 2) - 1 ∧ leftF base (rm ++ [A1]) (A2.toNat / 2) - 1 ≤ 9223372036854775807 := by have := hlb (rm ++ [A1]) (A2.toNat / 2) (by simp; omega); omega
          refine awp_block (awp_loop ?_)
          refine aloop_round ?_
          refine awp_seq (awp_pures [6, 10, 12, 49, 50, 51] (by simp only [go_sem, ↓reduceIte, Nat.reduceLT, Nat.reduceEqDiff, Nat.reduceLeDiff, Nat.reduceAdd, Nat.reduceMul, Int.reduceLT, Int.reduceLE, Int.reduceToNat, BitVec.reduceOfInt, Nat.reduceBEq]; try rfl) ?_)
          refine awp_seq ?_
          refine awp_if rfl (fun _ => ?_) (fun h => by cases h)
          refine awp_skip ?_
          refine awp_seq (awp_block ?_)
          refine awp_seq (awp_pures [6, 10, 12, 14, 49, 50] (by simp only [go_sem, ↓reduceIte, Nat.reduceLT, Nat.reduceEqDiff, Nat.reduceLeDiff, Nat.reduceAdd, Nat.reduceMul, Int.reduceLT, Int.reduceLE, Int.reduceToNat, BitVec.reduceOfInt, Nat.reduceBEq]; try rfl) ?_)
          refine awp_lit ?_
          refine al_load rfl (by simp only [go_sem, ↓reduceIte, Nat.reduceLT, Nat.reduceEqDiff, Nat.reduceLeDiff, Nat.reduceAdd, Nat.reduceMul, Int.reduceLT, Int.reduceLE, Int.reduceToNat, BitVec.reduceOfInt, Nat.reduceBEq, qA, hA1, i64_sub wA]) rfl (by simp only [go_sem, ↓reduceIte, Nat.reduceLT, Nat.reduceEqDiff, Nat.reduceLeDiff, Nat.reduceAdd, Nat.reduceMul, Int.reduceLT, Int.reduceLE, Int.reduceToNat, BitVec.reduceOfInt, Nat.reduceBEq, qA, hA1, i64_sub wA]; try rfl) (hρ0 _ _ h0U) (loadA_scalar agg35 rfl) ?_
          refine al_pureN 3 (by simp only [go_sem, ↓reduceIte, Nat.reduceLT, Nat.reduceEqDiff, Nat.reduceLeDiff, Nat.reduceAdd, Nat.reduceMul, Int.reduceLT, Int.reduceLE, Int.reduceToNat, BitVec.reduceOfInt, Nat.reduceBEq, qA, hA1, i64_sub wA]; try rfl) ?_
          refine al_load rfl (by simp only [go_sem, ↓reduceIte, Nat.reduceLT, Nat.reduceEqDiff, Nat.reduceLeDiff, Nat.reduceAdd, Nat.reduceMul, Int.reduceLT, Int.reduceLE, Int.reduceToNat, BitVec.reduceOfInt, Nat.reduceBEq, qA, hA1, i64_sub wA]) rfl (by simp only [go_sem, ↓reduceIte, Nat.reduceLT, Nat.reduceEqDiff, Nat.reduceLeDiff, Nat.reduceAdd, Nat.reduceMul, Int.reduceLT, Int.reduceLE, Int.reduceToNat, BitVec.reduceOfInt, Nat.reduceBEq, qA, hA1, i64_sub wA]; try rfl) hρU (loadA_scalar agg3 gA) ?_
          refine al_pureN 2 (by simp only [go_sem, ↓reduceIte, Nat.reduceLT, Nat.reduceEqDiff, Nat.reduceLeDiff, Nat.reduceAdd, Nat.reduceMul, Int.reduceLT, Int.reduceLE, Int.reduceToNat, BitVec.reduceOfInt, Nat.reduceBEq, qA, hA1, i64_sub wA]; try rfl) ?_
          refine al_store1 rfl (by simp only [go_sem, ↓reduceIte, Nat.reduceLT, Nat.reduceEqDiff, Nat.reduceLeDiff, Nat.reduceAdd, Nat.reduceMul, Int.reduceLT, Int.reduceLE, Int.reduceToNat, BitVec.reduceOfInt, Nat.reduceBEq]; try rfl) rfl (by simp only [go_sem, ↓reduceIte, Nat.reduceLT, Nat.reduceEqDiff, Nat.reduceLeDiff, Nat.reduceAdd, Nat.reduceMul, Int.reduceLT, Int.reduceLE, Int.reduceToNat, BitVec.reduceOfInt, Nat.reduceBEq]; try rfl) (by simp only [go_sem, ↓reduceIte, Nat.reduceLT, Nat.reduceEqDiff, Nat.reduceLeDiff, Nat.reduceAdd, Nat.reduceMul, Int.reduceLT, Int.reduceLE, Int.reduceToNat, BitVec.reduceOfInt, Nat.reduceBEq]; try rfl) hρU rfl size3 rfl rfl (by show (A1 / 2).toNat < (intsF _ _).length; rw [intsF_len]; omega) ?_
          refine al_end [6, 10, 12, 49, 50] ?_
          refine awp_pures [6, 10, 12, 49, 50] (by simp only [go_sem, ↓reduceIte, Nat.reduceLT, Nat.reduceEqDiff, Nat.reduceLeDiff, Nat.reduceAdd, Nat.reduceMul, Int.reduceLT, Int.reduceLE, Int.reduceToNat, BitVec.reduceOfInt, Nat.reduceBEq, a01]; try rfl) ?_
          show ALoop _ _ _ _ _ _ (AHeap.set ρ U ⟨(intsF (leftF base rm) n).set (A1 / 2).toNat (.int .i64 (leftF base rm (A1.toNat / 2) - 1)), true, .n 1⟩) _
          rw [hA2, left_drop]
          have hU4' : ∀ X, (ρ.set U X) N4 = some ⟨[.slice (some ⟨U, 0, none⟩) n cap], true, .n 1⟩ := fun X => by rw [AHeap.set_ne _ _ (by omega)]; exact hρ0 _ _ h0U
          refine aloop_round ?_
          refine awp_seq (awp_pures [6, 10, 12, 49, 50, 51] (by simp only [go_sem, ↓reduceIte, Nat.reduceLT, Nat.reduceEqDiff, Nat.reduceLeDiff, Nat.reduceAdd, Nat.reduceMul, Int.reduceLT, Int.reduceLE, Int.reduceToNat, BitVec.reduceOfInt, Nat.reduceBEq]; try rfl) ?_)
          refine awp_seq ?_
          refine awp_if rfl (fun _ => ?_) (fun h => by cases h)
          refine awp_skip ?_
          refine awp_seq (awp_block ?_)
          refine awp_seq (awp_pures [6, 10, 12, 14, 49, 50] (by simp only [go_sem, ↓reduceIte, Nat.reduceLT, Nat.reduceEqDiff, Nat.reduceLeDiff, Nat.reduceAdd, Nat.reduceMul, Int.reduceLT, Int.reduceLE, Int.reduceToNat, BitVec.reduceOfInt, Nat.reduceBEq]; try rfl) ?_)
          refine awp_lit ?_
          refine al_load rfl (by simp only [go_sem, ↓reduceIte, Nat.reduceLT, Nat.reduceEqDiff, Nat.reduceLeDiff, Nat.reduceAdd, Nat.reduceMul, Int.reduceLT, Int.reduceLE, Int.reduceToNat, BitVec.reduceOfInt, Nat.reduceBEq, qB, hB1, i64_sub wB]) rfl (by simp only [go_sem, ↓reduceIte, Nat.reduceLT, Nat.reduceEqDiff, Nat.reduceLeDiff, Nat.reduceAdd, Nat.reduceMul, Int.reduceLT, Int.reduceLE, Int.reduceToNat, BitVec.reduceOfInt, Nat.reduceBEq, qB, hB1, i64_sub wB]; try rfl) (hU4' _) (loadA_scalar agg35 rfl) ?_
          refine al_pureN 3 (by simp only [go_sem, ↓reduceIte, Nat.reduceLT, Nat.reduceEqDiff, Nat.reduceLeDiff, Nat.reduceAdd, Nat.reduceMul, Int.reduceLT, Int.reduceLE, Int.reduceToNat, BitVec.reduceOfInt, Nat.reduceBEq, qB, hB1, i64_sub wB]; try rfl) ?_
          refine al_load rfl (by simp only [go_sem, ↓reduceIte, Nat.reduceLT, Nat.reduceEqDiff, Nat.reduceLeDiff, Nat.reduceAdd, Nat.reduceMul, Int.reduceLT, Int.reduceLE, Int.reduceToNat, BitVec.reduceOfInt, Nat.reduceBEq, qB, hB1, i64_sub wB]) rfl (by simp only [go_sem, ↓reduceIte, Nat.reduceLT, Nat.reduceEqDiff, Nat.reduceLeDiff, Nat.reduceAdd, Nat.reduceMul, Int.reduceLT, Int.reduceLE, Int.reduceToNat, BitVec.reduceOfInt, Nat.reduceBEq, qB, hB1, i64_sub wB]; try rfl) (AHeap.set_self _ _ _) (loadA_scalar agg3 gB) ?_
          refine al_pureN 2 (by simp only [go_sem, ↓reduceIte, Nat.reduceLT, Nat.reduceEqDiff, Nat.reduceLeDiff, Nat.reduceAdd, Nat.reduceMul, Int.reduceLT, Int.reduceLE, Int.reduceToNat, BitVec.reduceOfInt, Nat.reduceBEq, qB, hB1, i64_sub wB]; try rfl) ?_
          refine al_store1 rfl (by simp only [go_sem, ↓reduceIte, Nat.reduceLT, Nat.reduceEqDiff, Nat.reduceLeDiff, Nat.reduceAdd, Nat.reduceMul, Int.reduceLT, Int.reduceLE, Int.reduceToNat, BitVec.reduceOfInt, Nat.reduceBEq]; try rfl) rfl (by simp only [go_sem, ↓reduceIte, Nat.reduceLT, Nat.reduceEqDiff, Nat.reduceLeDiff, Nat.reduceAdd, Nat.reduceMul, Int.reduceLT, Int.reduceLE, Int.reduceToNat, BitVec.reduceOfInt, Nat.reduceBEq]; try rfl) (by simp only [go_sem, ↓reduceIte, Nat.reduceLT, Nat.reduceEqDiff, Nat.reduceLeDiff, Nat.reduceAdd, Nat.reduceMul, Int.reduceLT, Int.reduceLE, Int.reduceToNat, BitVec.reduceOfInt, Nat.reduceBEq]; try rfl) (AHeap.set_self _ _ _) rfl size3 rfl rfl (by show (A2 / 2).toNat < (intsF _ _).length; rw [intsF_len]; omega) ?_
          refine al_end [6, 10, 12, 49, 50] ?_
          refine awp_pures [6, 10, 12, 49, 50] (by simp only [go_sem, ↓reduceIte, Nat.reduceLT, Nat.reduceEqDiff, Nat.reduceLeDiff, Nat.reduceAdd, Nat.reduceMul, Int.reduceLT, Int.reduceLE, Int.reduceToNat, BitVec.reduceOfInt, Nat.reduceBEq, a11]; try rfl) ?_
          rw [AHeap.set_set]
          show ALoop _ _ _ _ _ _ (AHeap.set ρ U ⟨(intsF (leftF base (rm ++ [A1])) n).set (A2 / 2).toNat (.int .i64 (leftF base (rm ++ [A1]) (A2.toNat / 2) - 1)), true, .n 1⟩) _
          rw [hB2, left_drop]
          refine aloop_round ?_
          refine awp_seq (awp_pures [6, 10, 12, 49, 50, 51] (by simp only [go_sem, ↓reduceIte, Nat.reduceLT, Nat.reduceEqDiff, Nat.reduceLeDiff, Nat.reduceAdd, Nat.reduceMul, Int.reduceLT, Int.reduceLE, Int.reduceToNat, BitVec.reduceOfInt, Nat.reduceBEq]; try rfl) ?_)
          refine awp_seq ?_
          refine awp_if rfl (fun h => by cases h) (fun _ => ?_)
          refine awp_exit ?_
          simp only [Go.Abs.Seq, Go.Abs.Round, Go.Abs.InBlock, ↓reduceIte]
          obtain ⟨X, hX⟩ : ∃ X : Blk, X = ⟨intsF (leftF base (rm ++ [A1] ++ [A2])) n, true, .n 1⟩ := ⟨_, rfl⟩
          rw [← hX]
          have hO2 : (ρ.set U X) (N + 1) = some ⟨[ov], true, .n 1⟩ := by rw [AHeap.set_ne _ _ (by omega)]; exact hρO
          have hv2 : OwnAt (ρ.set U X) (B + 1) ov (ints out) out.length 1 := hρv.mono (fun i b hi hb => by rw [AHeap.set_ne _ _ (by omega)]; exact hb) (Nat.le_refl _)
          obtain ⟨T, hT⟩ : ∃ T : AHeap, T = (σ0.set U X).set (N + 1) ⟨[ov], true, .n 1⟩ := ⟨_, rfl⟩
          have hTle : T.le (ρ.set U X) := by
            intro i b h
            rw [hT] at h
            by_cases e1 : i = N + 1
            · subst e1; rw [AHeap.set_self] at h; cases h; exact hO2
            rw [AHeap.set_ne _ _ e1] at h
            exact set_mono hρ0 U X _ _ h
          have hTd : ∀ i b, T i = some b → i < B + 1 := by
            intro i b h
            rw [hT] at h
            by_cases e1 : i = N + 1
            · omega
            rw [AHeap.set_ne _ _ e1] at h
            by_cases e2 : i = U
            · omega
            rw [AHeap.set_ne _ _ e2] at h
            have := hd0 _ _ h
            omega
          have hTO : T (N + 1) = some ⟨[ov], true, .n 1⟩ := by rw [hT, AHeap.set_self]
          have hTU : T U = some X := by rw [hT, AHeap.set_ne _ _ (by omega), AHeap.set_self]
          refine awp_lit ?_
          refine al_load rfl (by simp only [go_sem, ↓reduceIte, Nat.reduceLT, Nat.reduceEqDiff, Nat.reduceLeDiff, Nat.reduceAdd, Nat.reduceMul, Int.reduceLT, Int.reduceLE, Int.reduceToNat, BitVec.reduceOfInt, Nat.reduceBEq]) rfl (by simp only [go_sem, ↓reduceIte, Nat.reduceLT, Nat.reduceEqDiff, Nat.reduceLeDiff, Nat.reduceAdd, Nat.reduceMul, Int.reduceLT, Int.reduceLE, Int.reduceToNat, BitVec.reduceOfInt, Nat.reduceBEq]; try rfl) hO2 (loadA_scalar agg35 rfl) ?_
          refine al_pureN 1 (by simp only [go_sem, ↓reduceIte, Nat.reduceLT, Nat.reduceEqDiff, Nat.reduceLeDiff, Nat.reduceAdd, Nat.reduceMul, Int.reduceLT, Int.reduceLE, Int.reduceToNat, BitVec.reduceOfInt, Nat.reduceBEq]; try rfl) ?_
          refine al_push rfl rfl rfl (by simp only [go_sem, ↓reduceIte, Nat.reduceLT, Nat.reduceEqDiff, Nat.reduceLeDiff, Nat.reduceAdd, Nat.reduceMul, Int.reduceLT, Int.reduceLE, Int.reduceToNat, BitVec.reduceOfInt, Nat.reduceBEq]; try rfl) (by simp only [go_sem, ↓reduceIte, Nat.reduceLT, Nat.reduceEqDiff, Nat.reduceLeDiff, Nat.reduceAdd, Nat.reduceMul, Int.reduceLT, Int.reduceLE, Int.reduceToNat, BitVec.reduceOfInt, Nat.reduceBEq]; try rfl) rfl rfl Try.underlying35 ty3 rfl rfl rfl (by simp only [go_sem, ↓reduceIte, Nat.reduceLT, Nat.reduceEqDiff, Nat.reduceLeDiff, Nat.reduceAdd, Nat.reduceMul, Int.reduceLT, Int.reduceLE, Int.reduceToNat, BitVec.reduceOfInt, Nat.reduceBEq]; try rfl) (by simp only [go_sem, ↓reduceIte, Nat.reduceLT, Nat.reduceEqDiff, Nat.reduceLeDiff, Nat.reduceAdd, Nat.reduceMul, Int.reduceLT, Int.reduceLE, Int.reduceToNat, BitVec.reduceOfInt, Nat.reduceBEq]; try rfl) rfl rfl hv2 (by omega) (by omega) (by omega) ?_
          intro N' σ' v' hN' hown' hkeep
          refine al_store1 rfl (by simp only [go_sem, ↓reduceIte, Nat.reduceLT, Nat.reduceEqDiff, Nat.reduceLeDiff, Nat.reduceAdd, Nat.reduceMul, Int.reduceLT, Int.reduceLE, Int.reduceToNat, BitVec.reduceOfInt, Nat.reduceBEq]; try rfl) rfl (by simp only [go_sem, ↓reduceIte, Nat.reduceLT, Nat.reduceEqDiff, Nat.reduceLeDiff, Nat.reduceAdd, Nat.reduceMul, Int.reduceLT, Int.reduceLE, Int.reduceToNat, BitVec.reduceOfInt, Nat.reduceBEq]; try rfl) (by simp only [go_sem, ↓reduceIte, Nat.reduceLT, Nat.reduceEqDiff, Nat.reduceLeDiff, Nat.reduceAdd, Nat.reduceMul, Int.reduceLT, Int.reduceLE, Int.reduceToNat, BitVec.reduceOfInt, Nat.reduceBEq]; try rfl) (hkeep T hTle hTd _ _ hTO) rfl size35 (own_spread hown') (own_one hown') (by show 0 < 1; decide) ?_
          refine al_end [6] ?_
          have hints : ints out ++ [.int .i64 (w : Int)] = ints (out ++ [(w : Int)]) := by simp [ints]
          rw [hints] at hown'
          have hk := hkeep T hTle hTd
          refine ⟨rfl, by omega, AHeap.set_self _ _ _, fun i b hb => ?_, ?_, v', ?_, ?_⟩
          · have h1 := hd0 _ _ hb
            have h2 : i ≠ U ∧ i ≠ N + 1 := by
              constructor <;> rintro rfl <;> rw [hσ0] at hb <;> simp [AHeap.del] at hb
            rw [AHeap.set_ne _ _ (by omega), AHeap.set_ne _ _ h2.2]
            exact hk _ _ (by rw [hT, AHeap.set_ne _ _ h2.2, AHeap.set_ne _ _ h2.1]; exact hb)
          · rw [hstep2, AHeap.set_ne _ _ (by omega), AHeap.set_ne _ _ (by omega), ← hX]; exact hk _ _ hTU
          · rw [AHeap.set_ne _ _ (by omega), AHeap.set_self]; rfl
          · rw [hstep2]
            simpa using hown'.mono (fun i b hi hb => by rw [AHeap.set_ne _ _ (by omega), AHeap.set_ne _ _ (by omega)]; exact hb) (Nat.le_refl _)
      · exact fun i b h => by rw [AHeap.set_ne _ _ (by have := hd0 _ _ h; omega)]; exact hb0' _ _ h
      · rw [AHeap.set_ne _ _ (by omega), hbU, List.drop_length]
        have : leftF base [] = base := by funext k; simp [leftF, cntF]
        show some _ = some (⟨intsF (leftF base []) n, true, .n 1⟩ : Blk)
        rw [this]
      · rw [AHeap.set_ne _ _ (by omega)]; exact hbO
      · rw [List.drop_length]; exact .nil
      · rintro v N6 σ6 ⟨hM, hrec, hτ, hτU, ov, hτO, hov⟩
        refine ⟨_, _, hrec, ?_⟩
        obtain ⟨ρ, hρ⟩ : ∃ ρ, ρ = σ6.del B := ⟨_, rfl⟩
        have hρn : ∀ {i}, i ≠ B → ρ i = σ6 i := fun h => by rw [hρ]; exact hdel _ h
        have hρO := (hρn (i := N + 1) (by omega)).trans hτO
        have hστ : σ.le ρ := fun i b hb => by
          have h2 := h0σ _ _ hb
          rw [hρn (by have := hd0 _ _ h2; omega)]; exact hτ _ _ h2
        have hρv := hov.mono (σ' := ρ) (fun i b hi hb => by rw [hρn (by omega)]; exact hb) (Nat.le_refl _)
        have hfl := freeS_len f g.as base cl
        rw [List.drop_zero] at hρv
        rw [← hρ]
        show Abs.Seq false Try.prog 68 _ _ .normal _ _ _
        obtain ⟨out, hout⟩ : ∃ out, out = (freeS f g.as base cl).2 := ⟨_, rfl⟩
        rw [← hout] at hρv hfl ⊢
        first | refine awp_seq (awp_lit ?_) | refine awp_lit ?_ | refine awp_seq (awp_seq (awp_lit ?_))
        refine al_load rfl (by simp only [go_sem, ↓reduceIte, Nat.reduceLT, Nat.reduceEqDiff, Nat.reduceLeDiff, Nat.reduceAdd, Nat.reduceMul, Int.reduceLT, Int.reduceLE, Int.reduceToNat, BitVec.reduceOfInt, Nat.reduceBEq]) rfl (by simp only [go_sem, ↓reduceIte, Nat.reduceLT, Nat.reduceEqDiff, Nat.reduceLeDiff, Nat.reduceAdd, Nat.reduceMul, Int.reduceLT, Int.reduceLE, Int.reduceToNat, BitVec.reduceOfInt, Nat.reduceBEq]; try rfl) hρO (loadA_scalar agg35 rfl) ?_
        refine al_fun (Reverse_ok hρv (by omega)) rfl (by simp only [go_sem, ↓reduceIte, Nat.reduceLT, Nat.reduceEqDiff, Nat.reduceLeDiff, Nat.reduceAdd, Nat.reduceMul, Int.reduceLT, Int.reduceLE, Int.reduceToNat, BitVec.reduceOfInt, Nat.reduceBEq]; try rfl) (by kernel_rfl) rfl (by simp only [go_sem, ↓reduceIte, Nat.reduceLT, Nat.reduceEqDiff, Nat.reduceLeDiff, Nat.reduceAdd, Nat.reduceMul, Int.reduceLT, Int.reduceLE, Int.reduceToNat, BitVec.reduceOfInt, Nat.reduceBEq]; try rfl) ?_
        rintro r N7 σ7 ⟨rfl, rfl, ho7, hk7⟩
        refine al_end [6] ?_
        obtain ⟨T, hT⟩ : ∃ T : AHeap, T = (fun i => if i < N + 2 then ρ i else none) := ⟨_, rfl⟩
        have hTle : T.le ρ := fun i b h => by
          rw [hT] at h
          dsimp only at h
          split at h
          · exact h
          · cases h
        have hTd : ∀ i b, T i = some b → i < B + 1 := fun i b h => by
          rw [hT] at h
          dsimp only at h
          split at h
          · omega
          · cases h
        have hT7 := hk7 T hTle hTd
        have hO7 : σ7 (N + 1) = some ⟨[ov], true, .n 1⟩ := hT7 _ _ (by rw [hT]; simpa using hρO)
        have hσ7 : σ.le σ7 := fun i b hb => hT7 _ _ (by
          have := hN i b hb
          rw [hT]
          dsimp only
          rw [if_pos (by omega)]; exact hστ _ _ hb)
        first | refine awp_seq (awp_lit ?_) | refine awp_lit ?_ | refine awp_seq (awp_seq (awp_lit ?_))
        refine al_load rfl (by simp only [go_sem, ↓reduceIte, Nat.reduceLT, Nat.reduceEqDiff, Nat.reduceLeDiff, Nat.reduceAdd, Nat.reduceMul, Int.reduceLT, Int.reduceLE, Int.reduceToNat, BitVec.reduceOfInt, Nat.reduceBEq]) rfl (by simp only [go_sem, ↓reduceIte, Nat.reduceLT, Nat.reduceEqDiff, Nat.reduceLeDiff, Nat.reduceAdd, Nat.reduceMul, Int.reduceLT, Int.reduceLE, Int.reduceToNat, BitVec.reduceOfInt, Nat.reduceBEq]; try rfl) hO7 (loadA_scalar agg35 rfl) ?_
        refine al_store1 rfl (by simp only [go_sem, ↓reduceIte, Nat.reduceLT, Nat.reduceEqDiff, Nat.reduceLeDiff, Nat.reduceAdd, Nat.reduceMul, Int.reduceLT, Int.reduceLE, Int.reduceToNat, BitVec.reduceOfInt, Nat.reduceBEq]; try rfl) rfl (by simp only [go_sem, ↓reduceIte, Nat.reduceLT, Nat.reduceEqDiff, Nat.reduceLeDiff, Nat.reduceAdd, Nat.reduceMul, Int.reduceLT, Int.reduceLE, Int.reduceToNat, BitVec.reduceOfInt, Nat.reduceBEq]; try rfl) (by simp only [go_sem, ↓reduceIte, Nat.reduceLT, Nat.reduceEqDiff, Nat.reduceLeDiff, Nat.reduceAdd, Nat.reduceMul, Int.reduceLT, Int.reduceLE, Int.reduceToNat, BitVec.reduceOfInt, Nat.reduceBEq]; try rfl) hO7 rfl size35 (own_spread ho7) (own_one ho7) (by show 0 < 1; decide) ?_
        refine al_pureN 1 (by simp only [go_sem, ↓reduceIte, Nat.reduceLT, Nat.reduceEqDiff, Nat.reduceLeDiff, Nat.reduceAdd, Nat.reduceMul, Int.reduceLT, Int.reduceLE, Int.reduceToNat, BitVec.reduceOfInt, Nat.reduceBEq]; try rfl) ?_
        refine al_end [6, 7] ?_
        refine awp_ret ⟨_, res_ct rfl rfl (AHeap.set_self _ _ _) (loadA_scalar agg35 rfl) rfl, ov, rfl, ?_, fun i b hb => by rw [AHeap.set_ne _ _ (by have := hN i b hb; omega)]; exact hσ7 _ _ hb, by omega⟩
        rw [List.length_reverse]
        exact ho7.mono (fun i b hi hb => by rw [AHeap.set_ne _ _ (by omega)]; exact hb) (by omega)
    · have hb : ((coneE f g.as l node).2 != 0) = true := by simp [hce]
      have hRF : FreeR g l node = ([], (coneE f g.as l node).2) := by unfold FreeR; rw [hR, if_neg hce]
      rw [hRF]
      refine awp_seq ?_
      refine awp_seq (awp_pures [1, 6, 7, 8, 9, 31, 41] (by simp only [go_sem, ↓reduceIte, Nat.reduceLT, Nat.reduceEqDiff, Nat.reduceLeDiff, Nat.reduceAdd, Nat.reduceMul, Int.reduceLT, Int.reduceLE, Int.reduceToNat, BitVec.reduceOfInt, Nat.reduceBEq, hb]; try rfl) ?_)
      refine awp_if rfl (fun _ => ?_) (fun h => by cases h)
      first | refine awp_seq (awp_lit ?_) | refine awp_lit ?_ | refine awp_seq (awp_seq (awp_lit ?_))
      refine al_pureN 1 (by simp only [go_sem, ↓reduceIte, Nat.reduceLT, Nat.reduceEqDiff, Nat.reduceLeDiff, Nat.reduceAdd, Nat.reduceMul, Int.reduceLT, Int.reduceLE, Int.reduceToNat, BitVec.reduceOfInt, Nat.reduceBEq]; try rfl) ?_
      refine al_store1 rfl (by simp only [go_sem, ↓reduceIte, Nat.reduceLT, Nat.reduceEqDiff, Nat.reduceLeDiff, Nat.reduceAdd, Nat.reduceMul, Int.reduceLT, Int.reduceLE, Int.reduceToNat, BitVec.reduceOfInt, Nat.reduceBEq]; try rfl) rfl (by simp only [go_sem, ↓reduceIte, Nat.reduceLT, Nat.reduceEqDiff, Nat.reduceLeDiff, Nat.reduceAdd, Nat.reduceMul, Int.reduceLT, Int.reduceLE, Int.reduceToNat, BitVec.reduceOfInt, Nat.reduceBEq]; try rfl) (by simp only [go_sem, ↓reduceIte, Nat.reduceLT, Nat.reduceEqDiff, Nat.reduceLeDiff, Nat.reduceAdd, Nat.reduceMul, Int.reduceLT, Int.reduceLE, Int.reduceToNat, BitVec.reduceOfInt, Nat.reduceBEq]; try rfl) hO3 rfl size35 rfl rfl (by decide) ?_
      refine al_pureN 1 (by simp only [go_sem, ↓reduceIte, Nat.reduceLT, Nat.reduceEqDiff, Nat.reduceLeDiff, Nat.reduceAdd, Nat.reduceMul, Int.reduceLT, Int.reduceLE, Int.reduceToNat, BitVec.reduceOfInt, Nat.reduceBEq]; try rfl) ?_
      refine al_end [6, 7] ?_
      exact awp_ret ⟨_, res_ct rfl rfl (AHeap.set_self _ _ _) (loadA_scalar agg35 rfl) rfl, .slice none 0 0, rfl, .nil, hstay _ (hle1.trans (hle2.trans hle3)), by omega⟩
  · have hb : (chkE g != 0) = true := by simpa using hc
    have hR : FreeR g l node = ([], chkE g) := by simp [FreeR, ConeR, hc]
    rw [hR]
    have hO2 : (σ1.set N1 ⟨spread (graphV lb lc ab ac ob oc g (openF g)), true, .n 1⟩) (N + 1) = some ⟨[.slice none 0 0], true, .n 1⟩ := hle2 _ _ hO1
    refine awp_seq ?_
    refine awp_seq (awp_pures [1, 2, 6, 7, 8, 21, 41] (by simp only [go_sem, ↓reduceIte, Nat.reduceLT, Nat.reduceEqDiff, Nat.reduceLeDiff, Nat.reduceAdd, Nat.reduceMul, Int.reduceLT, Int.reduceLE, Int.reduceToNat, BitVec.reduceOfInt, Nat.reduceBEq, hb]; try rfl) ?_)
    refine awp_if rfl (fun _ => ?_) (fun h => by cases h)
    first | refine awp_seq (awp_lit ?_) | refine awp_lit ?_ | refine awp_seq (awp_seq (awp_lit ?_))
    refine al_pureN 1 (by simp only [go_sem, ↓reduceIte, Nat.reduceLT, Nat.reduceEqDiff, Nat.reduceLeDiff, Nat.reduceAdd, Nat.reduceMul, Int.reduceLT, Int.reduceLE, Int.reduceToNat, BitVec.reduceOfInt, Nat.reduceBEq]; try rfl) ?_
    refine al_store1 rfl (by simp only [go_sem, ↓reduceIte, Nat.reduceLT, Nat.reduceEqDiff, Nat.reduceLeDiff, Nat.reduceAdd, Nat.reduceMul, Int.reduceLT, Int.reduceLE, Int.reduceToNat, BitVec.reduceOfInt, Nat.reduceBEq]; try rfl) rfl (by simp only [go_sem, ↓reduceIte, Nat.reduceLT, Nat.reduceEqDiff, Nat.reduceLeDiff, Nat.reduceAdd, Nat.reduceMul, Int.reduceLT, Int.reduceLE, Int.reduceToNat, BitVec.reduceOfInt, Nat.reduceBEq]; try rfl) (by simp only [go_sem, ↓reduceIte, Nat.reduceLT, Nat.reduceEqDiff, Nat.reduceLeDiff, Nat.reduceAdd, Nat.reduceMul, Int.reduceLT, Int.reduceLE, Int.reduceToNat, BitVec.reduceOfInt, Nat.reduceBEq]; try rfl) hO2 rfl size35 rfl rfl (by decide) ?_
    refine al_pureN 1 (by simp only [go_sem, ↓reduceIte, Nat.reduceLT, Nat.reduceEqDiff, Nat.reduceLeDiff, Nat.reduceAdd, Nat.reduceMul, Int.reduceLT, Int.reduceLE, Int.reduceToNat, BitVec.reduceOfInt, Nat.reduceBEq]; try rfl) ?_
    refine al_end [6, 7] ?_
    exact awp_ret ⟨_, res_ct rfl rfl (AHeap.set_self _ _ _) (loadA_scalar agg35 rfl) rfl, .slice none 0 0, rfl, .nil, hstay _ (hle1.trans hle2), by omega⟩
end Go.Proofs.Ytfialjllclclkaa

/- Walks of the reference's small functions: Has, Within, Nodes; the law's Long. -/
set_option linter.unusedSimpArgs false
set_option linter.unusedVariables false
namespace Go.Proofs.Ytfialjllclclkaa
open Go.Abs Go.Cut
attribute [local go_sem] Try.underlying26 Try.underlying3 Try.underlying22 Try.underlying23 Try.underlying24 Try.underlying35 Try.underlying43 Try.underlying45 Try.underlying47 Try.underlying5 Try.underlying4 Try.underlying30 size26 size35 size3 size22 size23 size24 size43 size45 size47 size5 size4 size30 Nat.mul_one
theorem Has_gives {l : List Int} {v : Value} {x : Int} {N : Nat} {σ : AHeap} (hv : SlAt σ v (ints l)) (hlen : l.length ≤ 1000000) : Gives Try.prog 28 [v, .int .i64 x] N σ (.bool (decide (x ∈ l))) := by
  have hol : (ints l).length = l.length := by simp [ints]
  obtain ⟨sb, sc, rfl⟩ := hv.len
  rw [hol] at hv ⊢
  refine gives_of rfl (aok_fresh fun hN => aok_body (r := false) (n := 18) Try.func28 rfl rfl (by simp) ?_)
  refine awp_seq (awp_pures [0, 1] (by simp only [go_sem, ↓reduceIte, Nat.reduceLT, Nat.reduceEqDiff, Nat.reduceLeDiff, Nat.reduceAdd, Nat.reduceMul, Int.reduceLT, Int.reduceLE, Int.reduceToNat, BitVec.reduceOfInt, Nat.reduceBEq]; try rfl) ?_)
  refine awp_seq ?_
  refine awp_seq (awp_pures [0, 1, 5] (by simp only [go_sem, ↓reduceIte, Nat.reduceLT, Nat.reduceEqDiff, Nat.reduceLeDiff, Nat.reduceAdd, Nat.reduceMul, Int.reduceLT, Int.reduceLE, Int.reduceToNat, BitVec.reduceOfInt, Nat.reduceBEq]; try rfl) ?_)
  refine awp_block (awp_loop ?_)
  refine ALoop.cast3 (aloop_ind (α := Nat) (fun a => a ≤ l.length ∧ (x ∈ l ↔ x ∈ l.drop a)) (fun a => l.length - a)
    (fun a => [(0, .slice sb l.length sc), (1, .int .i64 x), (5, .int .i64 a)]) (fun _ => N) (fun _ => σ) ?_ 0 ⟨Nat.zero_le _, Iff.rfl⟩) rfl rfl rfl
  rintro j ⟨hj, hpre⟩ ih
  by_cases hlt : j < l.length
  · have hb : decide ((j : Int) < (l.length : Int)) = true := by simpa using hlt
    refine awp_seq ?_
    refine awp_seq (awp_pures [0, 1, 5, 9] (by simp only [go_sem, ↓reduceIte, Nat.reduceLT, Nat.reduceEqDiff, Nat.reduceLeDiff, Nat.reduceAdd, Nat.reduceMul, Int.reduceLT, Int.reduceLE, Int.reduceToNat, BitVec.reduceOfInt, Nat.reduceBEq, hb]; try rfl) ?_)
    refine awp_if rfl (fun _ => ?_) (fun h => by cases h)
    refine awp_skip ?_
    refine awp_seq (awp_block ?_)
    have hjj : 0 ≤ (j : Int) ∧ (j : Int) < (l.length : Int) := by omega
    obtain ⟨id, off, cap, b, e1, e2, e3, e4⟩ := slAt_int hv hlt
    cases e1
    by_cases he : l[j] = x
    · have he' : (l[j] == x) = true := by simpa using he
      have hm : decide (x ∈ l) = true := by simp only [decide_eq_true_eq]; rw [← he]; exact List.getElem_mem hlt
      rw [hm]
      refine awp_seq ?_
      first | refine awp_seq (awp_lit ?_) | refine awp_lit ?_ | refine awp_seq (awp_seq (awp_lit ?_))
      refine al_pureN 3 (by simp only [go_sem, ↓reduceIte, Nat.reduceLT, Nat.reduceEqDiff, Nat.reduceLeDiff, Nat.reduceAdd, Nat.reduceMul, Int.reduceLT, Int.reduceLE, Int.reduceToNat, BitVec.reduceOfInt, Nat.reduceBEq, hjj, he']; try rfl) ?_
      refine al_load rfl (by simp only [go_sem, ↓reduceIte, Nat.reduceLT, Nat.reduceEqDiff, Nat.reduceLeDiff, Nat.reduceAdd, Nat.reduceMul, Int.reduceLT, Int.reduceLE, Int.reduceToNat, BitVec.reduceOfInt, Nat.reduceBEq, hjj, he']) rfl (by simp only [go_sem, ↓reduceIte, Nat.reduceLT, Nat.reduceEqDiff, Nat.reduceLeDiff, Nat.reduceAdd, Nat.reduceMul, Int.reduceLT, Int.reduceLE, Int.reduceToNat, BitVec.reduceOfInt, Nat.reduceBEq, hjj, he']; try rfl) e2 (loadA_scalar agg3 e3) ?_
      refine al_pureN 2 (by simp only [go_sem, ↓reduceIte, Nat.reduceLT, Nat.reduceEqDiff, Nat.reduceLeDiff, Nat.reduceAdd, Nat.reduceMul, Int.reduceLT, Int.reduceLE, Int.reduceToNat, BitVec.reduceOfInt, Nat.reduceBEq, hjj, he']; try rfl) ?_
      refine al_end [0, 1, 5, 17] ?_
      refine awp_if rfl (fun _ => ?_) (fun h => by cases h)
      refine awp_seq (awp_pures [4] (by simp only [go_sem, ↓reduceIte, Nat.reduceLT, Nat.reduceEqDiff, Nat.reduceLeDiff, Nat.reduceAdd, Nat.reduceMul, Int.reduceLT, Int.reduceLE, Int.reduceToNat, BitVec.reduceOfInt, Nat.reduceBEq]; try rfl) ?_)
      exact awp_ret ⟨_, rfl, rfl, AHeap.le_refl _⟩
    · have he' : (l[j] == x) = false := by simpa using he
      refine awp_seq ?_
      first | refine awp_seq (awp_lit ?_) | refine awp_lit ?_ | refine awp_seq (awp_seq (awp_lit ?_))
      refine al_pureN 3 (by simp only [go_sem, ↓reduceIte, Nat.reduceLT, Nat.reduceEqDiff, Nat.reduceLeDiff, Nat.reduceAdd, Nat.reduceMul, Int.reduceLT, Int.reduceLE, Int.reduceToNat, BitVec.reduceOfInt, Nat.reduceBEq, hjj, he']; try rfl) ?_
      refine al_load rfl (by simp only [go_sem, ↓reduceIte, Nat.reduceLT, Nat.reduceEqDiff, Nat.reduceLeDiff, Nat.reduceAdd, Nat.reduceMul, Int.reduceLT, Int.reduceLE, Int.reduceToNat, BitVec.reduceOfInt, Nat.reduceBEq, hjj, he']) rfl (by simp only [go_sem, ↓reduceIte, Nat.reduceLT, Nat.reduceEqDiff, Nat.reduceLeDiff, Nat.reduceAdd, Nat.reduceMul, Int.reduceLT, Int.reduceLE, Int.reduceToNat, BitVec.reduceOfInt, Nat.reduceBEq, hjj, he']; try rfl) e2 (loadA_scalar agg3 e3) ?_
      refine al_pureN 2 (by simp only [go_sem, ↓reduceIte, Nat.reduceLT, Nat.reduceEqDiff, Nat.reduceLeDiff, Nat.reduceAdd, Nat.reduceMul, Int.reduceLT, Int.reduceLE, Int.reduceToNat, BitVec.reduceOfInt, Nat.reduceBEq, hjj, he']; try rfl) ?_
      refine al_end [0, 1, 5, 17] ?_
      refine awp_if rfl (fun h => by cases h) (fun _ => ?_)
      refine awp_skip ?_
      have hadd1 : -9223372036854775808 ≤ (j : Int) + 1 ∧ (j : Int) + 1 ≤ 9223372036854775807 := by omega
      refine awp_pures [0, 1, 5] (by simp only [go_sem, ↓reduceIte, Nat.reduceLT, Nat.reduceEqDiff, Nat.reduceLeDiff, Nat.reduceAdd, Nat.reduceMul, Int.reduceLT, Int.reduceLE, Int.reduceToNat, BitVec.reduceOfInt, Nat.reduceBEq, i64_add hadd1]; try rfl) ?_
      refine ALoop.cast3 (ih (j + 1) ⟨hlt, ?_⟩ (by omega)) rfl rfl rfl
      rw [hpre, List.drop_eq_getElem_cons hlt, List.mem_cons]
      exact ⟨fun h => h.resolve_left fun h => he h.symm, .inr⟩
  · have hb : decide ((j : Int) < (l.length : Int)) = false := by simpa using hlt
    have hjm : j = l.length := by omega
    have hm : decide (x ∈ l) = false := by simp [hpre, hjm]
    rw [hm]
    refine awp_seq ?_
    refine awp_seq (awp_pures [0, 1, 5, 9] (by simp only [go_sem, ↓reduceIte, Nat.reduceLT, Nat.reduceEqDiff, Nat.reduceLeDiff, Nat.reduceAdd, Nat.reduceMul, Int.reduceLT, Int.reduceLE, Int.reduceToNat, BitVec.reduceOfInt, Nat.reduceBEq, hb]; try rfl) ?_)
    refine awp_if rfl (fun h => by cases h) (fun _ => ?_)
    refine awp_exit ?_
    simp only [Go.Abs.Seq, Go.Abs.Round, Go.Abs.InBlock, ↓reduceIte]
    refine awp_seq (awp_pures [4] (by simp only [go_sem, ↓reduceIte, Nat.reduceLT, Nat.reduceEqDiff, Nat.reduceLeDiff, Nat.reduceAdd, Nat.reduceMul, Int.reduceLT, Int.reduceLE, Int.reduceToNat, BitVec.reduceOfInt, Nat.reduceBEq]; try rfl) ?_)
    exact awp_ret ⟨_, rfl, rfl, AHeap.le_refl _⟩
theorem Within_gives {k l : List Int} {u v : Value} {N : Nat} {σ : AHeap} (hu : SlAt σ u (ints k)) (hv : SlAt σ v (ints l)) (hk : k.length ≤ 1000000) (hlen : l.length ≤ 1000000) :
    Gives Try.prog 25 [u, v] N σ (.bool (k.all fun x => decide (x ∈ l))) := by
  have hol : ∀ l : List Int, (ints l).length = l.length := fun l => by simp [ints]
  obtain ⟨sb, sc, rfl⟩ := hu.len
  obtain ⟨tb, tc, rfl⟩ := hv.len
  rw [hol] at hu hv ⊢
  rw [hol]
  refine gives_of rfl (aok_fresh fun hN => aok_body (r := false) (n := 19) Try.func25 rfl rfl (by simp) ?_)
  refine awp_seq (awp_pures [0, 1] (by simp only [go_sem, ↓reduceIte, Nat.reduceLT, Nat.reduceEqDiff, Nat.reduceLeDiff, Nat.reduceAdd, Nat.reduceMul, Int.reduceLT, Int.reduceLE, Int.reduceToNat, BitVec.reduceOfInt, Nat.reduceBEq]; try rfl) ?_)
  refine awp_seq ?_
  refine awp_seq (awp_pures [0, 1, 5] (by simp only [go_sem, ↓reduceIte, Nat.reduceLT, Nat.reduceEqDiff, Nat.reduceLeDiff, Nat.reduceAdd, Nat.reduceMul, Int.reduceLT, Int.reduceLE, Int.reduceToNat, BitVec.reduceOfInt, Nat.reduceBEq]; try rfl) ?_)
  refine awp_block (awp_loop ?_)
  refine ALoop.cast3 (aloop_ind (α := Nat) (fun a => a ≤ k.length ∧ (k.all fun x => decide (x ∈ l)) = ((k.drop a).all fun x => decide (x ∈ l))) (fun a => k.length - a)
    (fun a => [(0, .slice sb k.length sc), (1, .slice tb l.length tc), (5, .int .i64 a)]) (fun _ => N) (fun _ => σ) ?_ 0 ⟨Nat.zero_le _, rfl⟩) rfl rfl rfl
  rintro j ⟨hj, hpre⟩ ih
  by_cases hlt : j < k.length
  · have hb : decide ((j : Int) < (k.length : Int)) = true := by simpa using hlt
    refine awp_seq ?_
    refine awp_seq (awp_pures [0, 1, 5, 9] (by simp only [go_sem, ↓reduceIte, Nat.reduceLT, Nat.reduceEqDiff, Nat.reduceLeDiff, Nat.reduceAdd, Nat.reduceMul, Int.reduceLT, Int.reduceLE, Int.reduceToNat, BitVec.reduceOfInt, Nat.reduceBEq, hb]; try rfl) ?_)
    refine awp_if rfl (fun _ => ?_) (fun h => by cases h)
    refine awp_skip ?_
    refine awp_seq (awp_block ?_)
    have hjj : 0 ≤ (j : Int) ∧ (j : Int) < (k.length : Int) := by omega
    obtain ⟨id, off, cap, b, e1, e2, e3, e4⟩ := slAt_int hu hlt
    cases e1
    by_cases he : k[j] ∈ l
    · have he' : decide (k[j] ∈ l) = true := by simpa using he
      refine awp_seq ?_
      first | refine awp_seq (awp_lit ?_) | refine awp_lit ?_ | refine awp_seq (awp_seq (awp_lit ?_))
      refine al_pureN 4 (by simp only [go_sem, ↓reduceIte, Nat.reduceLT, Nat.reduceEqDiff, Nat.reduceLeDiff, Nat.reduceAdd, Nat.reduceMul, Int.reduceLT, Int.reduceLE, Int.reduceToNat, BitVec.reduceOfInt, Nat.reduceBEq, hjj, he']; try rfl) ?_
      refine al_load rfl (by simp only [go_sem, ↓reduceIte, Nat.reduceLT, Nat.reduceEqDiff, Nat.reduceLeDiff, Nat.reduceAdd, Nat.reduceMul, Int.reduceLT, Int.reduceLE, Int.reduceToNat, BitVec.reduceOfInt, Nat.reduceBEq, hjj, he']) rfl (by simp only [go_sem, ↓reduceIte, Nat.reduceLT, Nat.reduceEqDiff, Nat.reduceLeDiff, Nat.reduceAdd, Nat.reduceMul, Int.reduceLT, Int.reduceLE, Int.reduceToNat, BitVec.reduceOfInt, Nat.reduceBEq, hjj, he']; try rfl) e2 (loadA_scalar agg3 e3) ?_
      refine al_gives (vs := ?vs1) (v := ?v1) rfl ?ha1 ?hh1 (by kernel_rfl) rfl (by simp only [go_sem, ↓reduceIte, Nat.reduceLT, Nat.reduceEqDiff, Nat.reduceLeDiff, Nat.reduceAdd, Nat.reduceMul, Int.reduceLT, Int.reduceLE, Int.reduceToNat, BitVec.reduceOfInt, Nat.reduceBEq, hjj, he']) ?kk1
      case ha1 => simp only [go_sem, ↓reduceIte, Nat.reduceLT, Nat.reduceEqDiff, Nat.reduceLeDiff, Nat.reduceAdd, Nat.reduceMul, Int.reduceLT, Int.reduceLE, Int.reduceToNat, BitVec.reduceOfInt, Nat.reduceBEq, hjj, he']; try rfl
      case hh1 => exact Has_gives hv hlen
      refine al_pureN 1 (by simp only [go_sem, ↓reduceIte, Nat.reduceLT, Nat.reduceEqDiff, Nat.reduceLeDiff, Nat.reduceAdd, Nat.reduceMul, Int.reduceLT, Int.reduceLE, Int.reduceToNat, BitVec.reduceOfInt, Nat.reduceBEq, hjj, he']; try rfl) ?_
      refine al_end [0, 1, 5, 18] ?_
      refine awp_if rfl (fun h => by cases h) (fun _ => ?_)
      refine awp_skip ?_
      have hadd1 : -9223372036854775808 ≤ (j : Int) + 1 ∧ (j : Int) + 1 ≤ 9223372036854775807 := by omega
      refine awp_pures [0, 1, 5] (by simp only [go_sem, ↓reduceIte, Nat.reduceLT, Nat.reduceEqDiff, Nat.reduceLeDiff, Nat.reduceAdd, Nat.reduceMul, Int.reduceLT, Int.reduceLE, Int.reduceToNat, BitVec.reduceOfInt, Nat.reduceBEq, i64_add hadd1]; try rfl) ?_
      refine ALoop.cast3 (ih (j + 1) ⟨hlt, ?_⟩ (by omega)) rfl rfl rfl
      rw [hpre, List.drop_eq_getElem_cons hlt, List.all_cons, he', Bool.true_and]
    · have he' : decide (k[j] ∈ l) = false := by simpa using he
      rw [hpre, List.drop_eq_getElem_cons hlt, List.all_cons, he', Bool.false_and]
      refine awp_seq ?_
      first | refine awp_seq (awp_lit ?_) | refine awp_lit ?_ | refine awp_seq (awp_seq (awp_lit ?_))
      refine al_pureN 4 (by simp only [go_sem, ↓reduceIte, Nat.reduceLT, Nat.reduceEqDiff, Nat.reduceLeDiff, Nat.reduceAdd, Nat.reduceMul, Int.reduceLT, Int.reduceLE, Int.reduceToNat, BitVec.reduceOfInt, Nat.reduceBEq, hjj, he']; try rfl) ?_
      refine al_load rfl (by simp only [go_sem, ↓reduceIte, Nat.reduceLT, Nat.reduceEqDiff, Nat.reduceLeDiff, Nat.reduceAdd, Nat.reduceMul, Int.reduceLT, Int.reduceLE, Int.reduceToNat, BitVec.reduceOfInt, Nat.reduceBEq, hjj, he']) rfl (by simp only [go_sem, ↓reduceIte, Nat.reduceLT, Nat.reduceEqDiff, Nat.reduceLeDiff, Nat.reduceAdd, Nat.reduceMul, Int.reduceLT, Int.reduceLE, Int.reduceToNat, BitVec.reduceOfInt, Nat.reduceBEq, hjj, he']; try rfl) e2 (loadA_scalar agg3 e3) ?_
      refine al_gives (vs := ?vs2) (v := ?v2) rfl ?ha2 ?hh2 (by kernel_rfl) rfl (by simp only [go_sem, ↓reduceIte, Nat.reduceLT, Nat.reduceEqDiff, Nat.reduceLeDiff, Nat.reduceAdd, Nat.reduceMul, Int.reduceLT, Int.reduceLE, Int.reduceToNat, BitVec.reduceOfInt, Nat.reduceBEq, hjj, he']) ?kk2
      case ha2 => simp only [go_sem, ↓reduceIte, Nat.reduceLT, Nat.reduceEqDiff, Nat.reduceLeDiff, Nat.reduceAdd, Nat.reduceMul, Int.reduceLT, Int.reduceLE, Int.reduceToNat, BitVec.reduceOfInt, Nat.reduceBEq, hjj, he']; try rfl
      case hh2 => exact Has_gives hv hlen
      refine al_pureN 1 (by simp only [go_sem, ↓reduceIte, Nat.reduceLT, Nat.reduceEqDiff, Nat.reduceLeDiff, Nat.reduceAdd, Nat.reduceMul, Int.reduceLT, Int.reduceLE, Int.reduceToNat, BitVec.reduceOfInt, Nat.reduceBEq, hjj, he']; try rfl) ?_
      refine al_end [0, 1, 5, 18] ?_
      refine awp_if rfl (fun _ => ?_) (fun h => by cases h)
      refine awp_seq (awp_pures [4] (by simp only [go_sem, ↓reduceIte, Nat.reduceLT, Nat.reduceEqDiff, Nat.reduceLeDiff, Nat.reduceAdd, Nat.reduceMul, Int.reduceLT, Int.reduceLE, Int.reduceToNat, BitVec.reduceOfInt, Nat.reduceBEq]; try rfl) ?_)
      exact awp_ret ⟨_, rfl, rfl, AHeap.le_refl _⟩
  · have hb : decide ((j : Int) < (k.length : Int)) = false := by simpa using hlt
    have hjm : j = k.length := by omega
    have hm : (k.all fun x => decide (x ∈ l)) = true := by rw [hpre, hjm, List.drop_length, List.all_nil]
    rw [hm]
    refine awp_seq ?_
    refine awp_seq (awp_pures [0, 1, 5, 9] (by simp only [go_sem, ↓reduceIte, Nat.reduceLT, Nat.reduceEqDiff, Nat.reduceLeDiff, Nat.reduceAdd, Nat.reduceMul, Int.reduceLT, Int.reduceLE, Int.reduceToNat, BitVec.reduceOfInt, Nat.reduceBEq, hb]; try rfl) ?_)
    refine awp_if rfl (fun h => by cases h) (fun _ => ?_)
    refine awp_exit ?_
    simp only [Go.Abs.Seq, Go.Abs.Round, Go.Abs.InBlock, ↓reduceIte]
    refine awp_seq (awp_pures [4] (by simp only [go_sem, ↓reduceIte, Nat.reduceLT, Nat.reduceEqDiff, Nat.reduceLeDiff, Nat.reduceAdd, Nat.reduceMul, Int.reduceLT, Int.reduceLE, Int.reduceToNat, BitVec.reduceOfInt, Nat.reduceBEq]; try rfl) ?_)
    exact awp_ret ⟨_, rfl, rfl, AHeap.le_refl _⟩
theorem nodes_gives {g : AigD} {v : Value} {N : Nat} {σ : AHeap} (hv : AigAt σ v g) (hf : Few g) (h1 : -1000000 ≤ g.inp) (h2 : g.inp ≤ 1000000) : Gives Try.prog 34 [v] N σ (.int .i64 (sizeC g)) := by
  obtain ⟨lb, lc, ab, ac, ob, oc, rfl, hls, has, hos⟩ := hv.opn
  have hf1 := hf.as
  have hf2 := hf.ls
  refine gives_of rfl (aok_fresh fun hN => aok_body (r := false) (n := 14) Try.func34 rfl rfl (by simp) ?_)
  have e1 : -9223372036854775808 ≤ 1 + g.inp ∧ 1 + g.inp ≤ 9223372036854775807 := by omega
  have e2 : -9223372036854775808 ≤ 1 + g.inp + (g.ls.length : Int) ∧ 1 + g.inp + (g.ls.length : Int) ≤ 9223372036854775807 := by omega
  have e3 : -9223372036854775808 ≤ 1 + g.inp + (g.ls.length : Int) + (g.as.length : Int) ∧ 1 + g.inp + (g.ls.length : Int) + (g.as.length : Int) ≤ 9223372036854775807 := by omega
  first | refine awp_seq (awp_lit ?_) | refine awp_lit ?_ | refine awp_seq (awp_seq (awp_lit ?_))
  refine al_box 1 rfl rfl rfl (by simp only [go_sem, ↓reduceIte, Nat.reduceLT, Nat.reduceEqDiff, Nat.reduceLeDiff, Nat.reduceAdd, Nat.reduceMul, Int.reduceLT, Int.reduceLE, Int.reduceToNat, BitVec.reduceOfInt, Nat.reduceBEq]; try rfl) ?_
  refine al_pureN 1 (by simp only [go_sem, ↓reduceIte, Nat.reduceLT, Nat.reduceEqDiff, Nat.reduceLeDiff, Nat.reduceAdd, Nat.reduceMul, Int.reduceLT, Int.reduceLE, Int.reduceToNat, BitVec.reduceOfInt, Nat.reduceBEq]; try rfl) ?_
  refine al_end [1] ?_
  first | refine awp_seq (awp_lit ?_) | refine awp_lit ?_ | refine awp_seq (awp_seq (awp_lit ?_))
  refine al_pureN 1 (by simp only [go_sem, ↓reduceIte, Nat.reduceLT, Nat.reduceEqDiff, Nat.reduceLeDiff, Nat.reduceAdd, Nat.reduceMul, Int.reduceLT, Int.reduceLE, Int.reduceToNat, BitVec.reduceOfInt, Nat.reduceBEq, i64_add e1, i64_add e2, i64_add e3]; try rfl) ?_
  refine al_load rfl (by simp only [go_sem, ↓reduceIte, Nat.reduceLT, Nat.reduceEqDiff, Nat.reduceLeDiff, Nat.reduceAdd, Nat.reduceMul, Int.reduceLT, Int.reduceLE, Int.reduceToNat, BitVec.reduceOfInt, Nat.reduceBEq, i64_add e1, i64_add e2, i64_add e3]) rfl (by simp only [go_sem, ↓reduceIte, Nat.reduceLT, Nat.reduceEqDiff, Nat.reduceLeDiff, Nat.reduceAdd, Nat.reduceMul, Int.reduceLT, Int.reduceLE, Int.reduceToNat, BitVec.reduceOfInt, Nat.reduceBEq, i64_add e1, i64_add e2, i64_add e3]; try rfl) (by first | exact AHeap.set_self _ _ _ | (simp only [AHeap.set, ↓reduceIte, Nat.add_assoc, Nat.reduceAdd, Nat.add_left_cancel_iff, Nat.add_right_cancel_iff, Nat.left_eq_add, Nat.add_eq_left, Nat.add_eq_right, Nat.right_eq_add, Nat.reduceEqDiff, Nat.succ_ne_zero, i64_add e1, i64_add e2, i64_add e3]; rfl) | assumption) (by first | exact loadA_scalar agg3 rfl | exact loadA_agg agg3 rfl | exact loadA_scalar agg3 (by assumption)) ?_
  refine al_pureN 2 (by simp only [go_sem, ↓reduceIte, Nat.reduceLT, Nat.reduceEqDiff, Nat.reduceLeDiff, Nat.reduceAdd, Nat.reduceMul, Int.reduceLT, Int.reduceLE, Int.reduceToNat, BitVec.reduceOfInt, Nat.reduceBEq, i64_add e1, i64_add e2, i64_add e3]; try rfl) ?_
  refine al_load rfl (by simp only [go_sem, ↓reduceIte, Nat.reduceLT, Nat.reduceEqDiff, Nat.reduceLeDiff, Nat.reduceAdd, Nat.reduceMul, Int.reduceLT, Int.reduceLE, Int.reduceToNat, BitVec.reduceOfInt, Nat.reduceBEq, i64_add e1, i64_add e2, i64_add e3]) rfl (by simp only [go_sem, ↓reduceIte, Nat.reduceLT, Nat.reduceEqDiff, Nat.reduceLeDiff, Nat.reduceAdd, Nat.reduceMul, Int.reduceLT, Int.reduceLE, Int.reduceToNat, BitVec.reduceOfInt, Nat.reduceBEq, i64_add e1, i64_add e2, i64_add e3]; try rfl) (by first | exact AHeap.set_self _ _ _ | (simp only [AHeap.set, ↓reduceIte, Nat.add_assoc, Nat.reduceAdd, Nat.add_left_cancel_iff, Nat.add_right_cancel_iff, Nat.left_eq_add, Nat.add_eq_left, Nat.add_eq_right, Nat.right_eq_add, Nat.reduceEqDiff, Nat.succ_ne_zero, i64_add e1, i64_add e2, i64_add e3]; rfl) | assumption) (by first | exact loadA_scalar agg22 rfl | exact loadA_agg agg22 rfl | exact loadA_scalar agg22 (by assumption)) ?_
  refine al_pureN 3 (by simp only [go_sem, ↓reduceIte, Nat.reduceLT, Nat.reduceEqDiff, Nat.reduceLeDiff, Nat.reduceAdd, Nat.reduceMul, Int.reduceLT, Int.reduceLE, Int.reduceToNat, BitVec.reduceOfInt, Nat.reduceBEq, i64_add e1, i64_add e2, i64_add e3]; try rfl) ?_
  refine al_load rfl (by simp only [go_sem, ↓reduceIte, Nat.reduceLT, Nat.reduceEqDiff, Nat.reduceLeDiff, Nat.reduceAdd, Nat.reduceMul, Int.reduceLT, Int.reduceLE, Int.reduceToNat, BitVec.reduceOfInt, Nat.reduceBEq, i64_add e1, i64_add e2, i64_add e3]) rfl (by simp only [go_sem, ↓reduceIte, Nat.reduceLT, Nat.reduceEqDiff, Nat.reduceLeDiff, Nat.reduceAdd, Nat.reduceMul, Int.reduceLT, Int.reduceLE, Int.reduceToNat, BitVec.reduceOfInt, Nat.reduceBEq, i64_add e1, i64_add e2, i64_add e3]; try rfl) (by first | exact AHeap.set_self _ _ _ | (simp only [AHeap.set, ↓reduceIte, Nat.add_assoc, Nat.reduceAdd, Nat.add_left_cancel_iff, Nat.add_right_cancel_iff, Nat.left_eq_add, Nat.add_eq_left, Nat.add_eq_right, Nat.right_eq_add, Nat.reduceEqDiff, Nat.succ_ne_zero, i64_add e1, i64_add e2, i64_add e3]; rfl) | assumption) (by first | exact loadA_scalar agg23 rfl | exact loadA_agg agg23 rfl | exact loadA_scalar agg23 (by assumption)) ?_
  refine al_pureN 3 (by simp only [go_sem, ↓reduceIte, Nat.reduceLT, Nat.reduceEqDiff, Nat.reduceLeDiff, Nat.reduceAdd, Nat.reduceMul, Int.reduceLT, Int.reduceLE, Int.reduceToNat, BitVec.reduceOfInt, Nat.reduceBEq, i64_add e1, i64_add e2, i64_add e3]; try rfl) ?_
  refine al_end [2] ?_
  exact awp_ret ⟨_, rfl, rfl, (by (repeat refine AHeap.le_set ?_ fun i b hb => (by have := hN i b hb; omega)); exact AHeap.le_refl _)⟩
/-- Is a graph long (and then not walked)? -/
def longB (g : AigD) : Bool := decide (64 < g.inp ∧ g.inp < 5000) || decide (64 < g.ls.length) || decide (200 < g.as.length) || decide (64 < g.os.length)
theorem few_of {g : AigD} (h : longB g = false) : Few g ∧ (g.inp ≤ 64 ∨ 5000 ≤ g.inp) := by
  simp only [longB, Bool.or_eq_false_iff, decide_eq_false_iff_not] at h
  exact ⟨⟨by omega, by omega, by omega⟩, by omega⟩
theorem Long_gives {g : AigD} {v : Value} {N : Nat} {σ : AHeap} (hv : AigAt σ v g) : Gives Try.prog 11 [v] N σ (.bool (longB g)) := by
  obtain ⟨lb, lc, ab, ac, ob, oc, rfl, hls, has, hos⟩ := hv.opn
  refine gives_of rfl (aok_fresh fun hN => aok_body (r := false) (n := 29) Try.func11 rfl rfl (by simp) ?_)
  first | refine awp_seq (awp_lit ?_) | refine awp_lit ?_ | refine awp_seq (awp_seq (awp_lit ?_))
  refine al_box 1 rfl rfl rfl (by simp only [go_sem, ↓reduceIte, Nat.reduceLT, Nat.reduceEqDiff, Nat.reduceLeDiff, Nat.reduceAdd, Nat.reduceMul, Int.reduceLT, Int.reduceLE, Int.reduceToNat, BitVec.reduceOfInt, Nat.reduceBEq]; try rfl) ?_
  refine al_pureN 1 (by simp only [go_sem, ↓reduceIte, Nat.reduceLT, Nat.reduceEqDiff, Nat.reduceLeDiff, Nat.reduceAdd, Nat.reduceMul, Int.reduceLT, Int.reduceLE, Int.reduceToNat, BitVec.reduceOfInt, Nat.reduceBEq]; try rfl) ?_
  refine al_end [1] ?_
  by_cases c0 : 64 < g.inp
  · have d0 : decide (g.inp > 64) = true := by simp; omega
    by_cases c1 : g.inp < 5000
    · have d1 : decide (g.inp < 5000) = true := by simpa using c1
      have hv : longB g = true := by simp [longB]; omega
      rw [hv]
      first | refine awp_seq (awp_lit ?_) | refine awp_lit ?_ | refine awp_seq (awp_seq (awp_lit ?_))
      refine al_pureN 1 (by simp only [go_sem, ↓reduceIte, Nat.reduceLT, Nat.reduceEqDiff, Nat.reduceLeDiff, Nat.reduceAdd, Nat.reduceMul, Int.reduceLT, Int.reduceLE, Int.reduceToNat, BitVec.reduceOfInt, Nat.reduceBEq, d0, d1]; try rfl) ?_
      refine al_load rfl (by simp only [go_sem, ↓reduceIte, Nat.reduceLT, Nat.reduceEqDiff, Nat.reduceLeDiff, Nat.reduceAdd, Nat.reduceMul, Int.reduceLT, Int.reduceLE, Int.reduceToNat, BitVec.reduceOfInt, Nat.reduceBEq, d0, d1]) rfl (by simp only [go_sem, ↓reduceIte, Nat.reduceLT, Nat.reduceEqDiff, Nat.reduceLeDiff, Nat.reduceAdd, Nat.reduceMul, Int.reduceLT, Int.reduceLE, Int.reduceToNat, BitVec.reduceOfInt, Nat.reduceBEq, d0, d1]; try rfl) (by first | exact AHeap.set_self _ _ _ | (simp only [AHeap.set, ↓reduceIte, Nat.add_assoc, Nat.reduceAdd, Nat.add_left_cancel_iff, Nat.add_right_cancel_iff, Nat.left_eq_add, Nat.add_eq_left, Nat.add_eq_right, Nat.right_eq_add, Nat.reduceEqDiff, Nat.succ_ne_zero, d0, d1]; rfl) | assumption) (by first | exact loadA_scalar agg3 rfl | exact loadA_agg agg3 rfl | exact loadA_scalar agg3 (by assumption)) ?_
      refine al_pureN 3 (by simp only [go_sem, ↓reduceIte, Nat.reduceLT, Nat.reduceEqDiff, Nat.reduceLeDiff, Nat.reduceAdd, Nat.reduceMul, Int.reduceLT, Int.reduceLE, Int.reduceToNat, BitVec.reduceOfInt, Nat.reduceBEq, d0, d1]; try rfl) ?_
      refine al_load rfl (by simp only [go_sem, ↓reduceIte, Nat.reduceLT, Nat.reduceEqDiff, Nat.reduceLeDiff, Nat.reduceAdd, Nat.reduceMul, Int.reduceLT, Int.reduceLE, Int.reduceToNat, BitVec.reduceOfInt, Nat.reduceBEq, d0, d1]) rfl (by simp only [go_sem, ↓reduceIte, Nat.reduceLT, Nat.reduceEqDiff, Nat.reduceLeDiff, Nat.reduceAdd, Nat.reduceMul, Int.reduceLT, Int.reduceLE, Int.reduceToNat, BitVec.reduceOfInt, Nat.reduceBEq, d0, d1]; try rfl) (by first | exact AHeap.set_self _ _ _ | (simp only [AHeap.set, ↓reduceIte, Nat.add_assoc, Nat.reduceAdd, Nat.add_left_cancel_iff, Nat.add_right_cancel_iff, Nat.left_eq_add, Nat.add_eq_left, Nat.add_eq_right, Nat.right_eq_add, Nat.reduceEqDiff, Nat.succ_ne_zero, d0, d1]; rfl) | assumption) (by first | exact loadA_scalar agg3 rfl | exact loadA_agg agg3 rfl | exact loadA_scalar agg3 (by assumption)) ?_
      refine al_pureN 4 (by simp only [go_sem, ↓reduceIte, Nat.reduceLT, Nat.reduceEqDiff, Nat.reduceLeDiff, Nat.reduceAdd, Nat.reduceMul, Int.reduceLT, Int.reduceLE, Int.reduceToNat, BitVec.reduceOfInt, Nat.reduceBEq, d0, d1]; try rfl) ?_
      refine al_pureN 1 (by simp only [go_sem, ↓reduceIte, Nat.reduceLT, Nat.reduceEqDiff, Nat.reduceLeDiff, Nat.reduceAdd, Nat.reduceMul, Int.reduceLT, Int.reduceLE, Int.reduceToNat, BitVec.reduceOfInt, Nat.reduceBEq, d0, d1, undef]; try rfl) ?_
      refine al_pureN 4 (by simp only [go_sem, ↓reduceIte, Nat.reduceLT, Nat.reduceEqDiff, Nat.reduceLeDiff, Nat.reduceAdd, Nat.reduceMul, Int.reduceLT, Int.reduceLE, Int.reduceToNat, BitVec.reduceOfInt, Nat.reduceBEq, d0, d1]; try rfl) ?_
      refine al_pureN 1 (by simp only [go_sem, ↓reduceIte, Nat.reduceLT, Nat.reduceEqDiff, Nat.reduceLeDiff, Nat.reduceAdd, Nat.reduceMul, Int.reduceLT, Int.reduceLE, Int.reduceToNat, BitVec.reduceOfInt, Nat.reduceBEq, d0, d1]; try rfl) ?_
      refine al_pureN 1 (by simp only [go_sem, ↓reduceIte, Nat.reduceLT, Nat.reduceEqDiff, Nat.reduceLeDiff, Nat.reduceAdd, Nat.reduceMul, Int.reduceLT, Int.reduceLE, Int.reduceToNat, BitVec.reduceOfInt, Nat.reduceBEq, d0, d1, undef]; try rfl) ?_
      refine al_pureN 4 (by simp only [go_sem, ↓reduceIte, Nat.reduceLT, Nat.reduceEqDiff, Nat.reduceLeDiff, Nat.reduceAdd, Nat.reduceMul, Int.reduceLT, Int.reduceLE, Int.reduceToNat, BitVec.reduceOfInt, Nat.reduceBEq, d0, d1]; try rfl) ?_
      refine al_pureN 1 (by simp only [go_sem, ↓reduceIte, Nat.reduceLT, Nat.reduceEqDiff, Nat.reduceLeDiff, Nat.reduceAdd, Nat.reduceMul, Int.reduceLT, Int.reduceLE, Int.reduceToNat, BitVec.reduceOfInt, Nat.reduceBEq, d0, d1]; try rfl) ?_
      refine al_pureN 1 (by simp only [go_sem, ↓reduceIte, Nat.reduceLT, Nat.reduceEqDiff, Nat.reduceLeDiff, Nat.reduceAdd, Nat.reduceMul, Int.reduceLT, Int.reduceLE, Int.reduceToNat, BitVec.reduceOfInt, Nat.reduceBEq, d0, d1, undef]; try rfl) ?_
      refine al_pureN 4 (by simp only [go_sem, ↓reduceIte, Nat.reduceLT, Nat.reduceEqDiff, Nat.reduceLeDiff, Nat.reduceAdd, Nat.reduceMul, Int.reduceLT, Int.reduceLE, Int.reduceToNat, BitVec.reduceOfInt, Nat.reduceBEq, d0, d1]; try rfl) ?_
      refine al_end [2] ?_
      exact awp_ret ⟨_, rfl, rfl, (by (repeat refine AHeap.le_set ?_ fun i b hb => (by have := hN i b hb; omega)); exact AHeap.le_refl _)⟩
    have d1 : decide (g.inp < 5000) = false := by simpa using c1
    by_cases c2 : 64 < g.ls.length
    · have d2 : decide ((g.ls.length : Int) > 64) = true := by simp; omega
      have hv : longB g = true := by simp [longB]; omega
      rw [hv]
      first | refine awp_seq (awp_lit ?_) | refine awp_lit ?_ | refine awp_seq (awp_seq (awp_lit ?_))
      refine al_pureN 1 (by simp only [go_sem, ↓reduceIte, Nat.reduceLT, Nat.reduceEqDiff, Nat.reduceLeDiff, Nat.reduceAdd, Nat.reduceMul, Int.reduceLT, Int.reduceLE, Int.reduceToNat, BitVec.reduceOfInt, Nat.reduceBEq, d0, d1, d2]; try rfl) ?_
      refine al_load rfl (by simp only [go_sem, ↓reduceIte, Nat.reduceLT, Nat.reduceEqDiff, Nat.reduceLeDiff, Nat.reduceAdd, Nat.reduceMul, Int.reduceLT, Int.reduceLE, Int.reduceToNat, BitVec.reduceOfInt, Nat.reduceBEq, d0, d1, d2]) rfl (by simp only [go_sem, ↓reduceIte, Nat.reduceLT, Nat.reduceEqDiff, Nat.reduceLeDiff, Nat.reduceAdd, Nat.reduceMul, Int.reduceLT, Int.reduceLE, Int.reduceToNat, BitVec.reduceOfInt, Nat.reduceBEq, d0, d1, d2]; try rfl) (by first | exact AHeap.set_self _ _ _ | (simp only [AHeap.set, ↓reduceIte, Nat.add_assoc, Nat.reduceAdd, Nat.add_left_cancel_iff, Nat.add_right_cancel_iff, Nat.left_eq_add, Nat.add_eq_left, Nat.add_eq_right, Nat.right_eq_add, Nat.reduceEqDiff, Nat.succ_ne_zero, d0, d1, d2]; rfl) | assumption) (by first | exact loadA_scalar agg3 rfl | exact loadA_agg agg3 rfl | exact loadA_scalar agg3 (by assumption)) ?_
      refine al_pureN 3 (by simp only [go_sem, ↓reduceIte, Nat.reduceLT, Nat.reduceEqDiff, Nat.reduceLeDiff, Nat.reduceAdd, Nat.reduceMul, Int.reduceLT, Int.reduceLE, Int.reduceToNat, BitVec.reduceOfInt, Nat.reduceBEq, d0, d1, d2]; try rfl) ?_
      refine al_load rfl (by simp only [go_sem, ↓reduceIte, Nat.reduceLT, Nat.reduceEqDiff, Nat.reduceLeDiff, Nat.reduceAdd, Nat.reduceMul, Int.reduceLT, Int.reduceLE, Int.reduceToNat, BitVec.reduceOfInt, Nat.reduceBEq, d0, d1, d2]) rfl (by simp only [go_sem, ↓reduceIte, Nat.reduceLT, Nat.reduceEqDiff, Nat.reduceLeDiff, Nat.reduceAdd, Nat.reduceMul, Int.reduceLT, Int.reduceLE, Int.reduceToNat, BitVec.reduceOfInt, Nat.reduceBEq, d0, d1, d2]; try rfl) (by first | exact AHeap.set_self _ _ _ | (simp only [AHeap.set, ↓reduceIte, Nat.add_assoc, Nat.reduceAdd, Nat.add_left_cancel_iff, Nat.add_right_cancel_iff, Nat.left_eq_add, Nat.add_eq_left, Nat.add_eq_right, Nat.right_eq_add, Nat.reduceEqDiff, Nat.succ_ne_zero, d0, d1, d2]; rfl) | assumption) (by first | exact loadA_scalar agg3 rfl | exact loadA_agg agg3 rfl | exact loadA_scalar agg3 (by assumption)) ?_
      refine al_pureN 4 (by simp only [go_sem, ↓reduceIte, Nat.reduceLT, Nat.reduceEqDiff, Nat.reduceLeDiff, Nat.reduceAdd, Nat.reduceMul, Int.reduceLT, Int.reduceLE, Int.reduceToNat, BitVec.reduceOfInt, Nat.reduceBEq, d0, d1, d2]; try rfl) ?_
      refine al_load rfl (by simp only [go_sem, ↓reduceIte, Nat.reduceLT, Nat.reduceEqDiff, Nat.reduceLeDiff, Nat.reduceAdd, Nat.reduceMul, Int.reduceLT, Int.reduceLE, Int.reduceToNat, BitVec.reduceOfInt, Nat.reduceBEq, d0, d1, d2]) rfl (by simp only [go_sem, ↓reduceIte, Nat.reduceLT, Nat.reduceEqDiff, Nat.reduceLeDiff, Nat.reduceAdd, Nat.reduceMul, Int.reduceLT, Int.reduceLE, Int.reduceToNat, BitVec.reduceOfInt, Nat.reduceBEq, d0, d1, d2]; try rfl) (by first | exact AHeap.set_self _ _ _ | (simp only [AHeap.set, ↓reduceIte, Nat.add_assoc, Nat.reduceAdd, Nat.add_left_cancel_iff, Nat.add_right_cancel_iff, Nat.left_eq_add, Nat.add_eq_left, Nat.add_eq_right, Nat.right_eq_add, Nat.reduceEqDiff, Nat.succ_ne_zero, d0, d1, d2]; rfl) | assumption) (by first | exact loadA_scalar agg22 rfl | exact loadA_agg agg22 rfl | exact loadA_scalar agg22 (by assumption)) ?_
      refine al_pureN 4 (by simp only [go_sem, ↓reduceIte, Nat.reduceLT, Nat.reduceEqDiff, Nat.reduceLeDiff, Nat.reduceAdd, Nat.reduceMul, Int.reduceLT, Int.reduceLE, Int.reduceToNat, BitVec.reduceOfInt, Nat.reduceBEq, d0, d1, d2]; try rfl) ?_
      refine al_pureN 1 (by simp only [go_sem, ↓reduceIte, Nat.reduceLT, Nat.reduceEqDiff, Nat.reduceLeDiff, Nat.reduceAdd, Nat.reduceMul, Int.reduceLT, Int.reduceLE, Int.reduceToNat, BitVec.reduceOfInt, Nat.reduceBEq, d0, d1, d2]; try rfl) ?_
      refine al_pureN 1 (by simp only [go_sem, ↓reduceIte, Nat.reduceLT, Nat.reduceEqDiff, Nat.reduceLeDiff, Nat.reduceAdd, Nat.reduceMul, Int.reduceLT, Int.reduceLE, Int.reduceToNat, BitVec.reduceOfInt, Nat.reduceBEq, d0, d1, d2, undef]; try rfl) ?_
      refine al_pureN 4 (by simp only [go_sem, ↓reduceIte, Nat.reduceLT, Nat.reduceEqDiff, Nat.reduceLeDiff, Nat.reduceAdd, Nat.reduceMul, Int.reduceLT, Int.reduceLE, Int.reduceToNat, BitVec.reduceOfInt, Nat.reduceBEq, d0, d1, d2]; try rfl) ?_
      refine al_pureN 1 (by simp only [go_sem, ↓reduceIte, Nat.reduceLT, Nat.reduceEqDiff, Nat.reduceLeDiff, Nat.reduceAdd, Nat.reduceMul, Int.reduceLT, Int.reduceLE, Int.reduceToNat, BitVec.reduceOfInt, Nat.reduceBEq, d0, d1, d2]; try rfl) ?_
      refine al_pureN 1 (by simp only [go_sem, ↓reduceIte, Nat.reduceLT, Nat.reduceEqDiff, Nat.reduceLeDiff, Nat.reduceAdd, Nat.reduceMul, Int.reduceLT, Int.reduceLE, Int.reduceToNat, BitVec.reduceOfInt, Nat.reduceBEq, d0, d1, d2, undef]; try rfl) ?_
      refine al_pureN 4 (by simp only [go_sem, ↓reduceIte, Nat.reduceLT, Nat.reduceEqDiff, Nat.reduceLeDiff, Nat.reduceAdd, Nat.reduceMul, Int.reduceLT, Int.reduceLE, Int.reduceToNat, BitVec.reduceOfInt, Nat.reduceBEq, d0, d1, d2]; try rfl) ?_
      refine al_end [2] ?_
      exact awp_ret ⟨_, rfl, rfl, (by (repeat refine AHeap.le_set ?_ fun i b hb => (by have := hN i b hb; omega)); exact AHeap.le_refl _)⟩
    have d2 : decide ((g.ls.length : Int) > 64) = false := by simp; omega
    by_cases c3 : 200 < g.as.length
    · have d3 : decide ((g.as.length : Int) > 200) = true := by simp; omega
      have hv : longB g = true := by simp [longB]; omega
      rw [hv]
      first | refine awp_seq (awp_lit ?_) | refine awp_lit ?_ | refine awp_seq (awp_seq (awp_lit ?_))
      refine al_pureN 1 (by simp only [go_sem, ↓reduceIte, Nat.reduceLT, Nat.reduceEqDiff, Nat.reduceLeDiff, Nat.reduceAdd, Nat.reduceMul, Int.reduceLT, Int.reduceLE, Int.reduceToNat, BitVec.reduceOfInt, Nat.reduceBEq, d0, d1, d2, d3]; try rfl) ?_
      refine al_load rfl (by simp only [go_sem, ↓reduceIte, Nat.reduceLT, Nat.reduceEqDiff, Nat.reduceLeDiff, Nat.reduceAdd, Nat.reduceMul, Int.reduceLT, Int.reduceLE, Int.reduceToNat, BitVec.reduceOfInt, Nat.reduceBEq, d0, d1, d2, d3]) rfl (by simp only [go_sem, ↓reduceIte, Nat.reduceLT, Nat.reduceEqDiff, Nat.reduceLeDiff, Nat.reduceAdd, Nat.reduceMul, Int.reduceLT, Int.reduceLE, Int.reduceToNat, BitVec.reduceOfInt, Nat.reduceBEq, d0, d1, d2, d3]; try rfl) (by first | exact AHeap.set_self _ _ _ | (simp only [AHeap.set, ↓reduceIte, Nat.add_assoc, Nat.reduceAdd, Nat.add_left_cancel_iff, Nat.add_right_cancel_iff, Nat.left_eq_add, Nat.add_eq_left, Nat.add_eq_right, Nat.right_eq_add, Nat.reduceEqDiff, Nat.succ_ne_zero, d0, d1, d2, d3]; rfl) | assumption) (by first | exact loadA_scalar agg3 rfl | exact loadA_agg agg3 rfl | exact loadA_scalar agg3 (by assumption)) ?_
      refine al_pureN 3 (by simp only [go_sem, ↓reduceIte, Nat.reduceLT, Nat.reduceEqDiff, Nat.reduceLeDiff, Nat.reduceAdd, Nat.reduceMul, Int.reduceLT, Int.reduceLE, Int.reduceToNat, BitVec.reduceOfInt, Nat.reduceBEq, d0, d1, d2, d3]; try rfl) ?_
      refine al_load rfl (by simp only [go_sem, ↓reduceIte, Nat.reduceLT, Nat.reduceEqDiff, Nat.reduceLeDiff, Nat.reduceAdd, Nat.reduceMul, Int.reduceLT, Int.reduceLE, Int.reduceToNat, BitVec.reduceOfInt, Nat.reduceBEq, d0, d1, d2, d3]) rfl (by simp only [go_sem, ↓reduceIte, Nat.reduceLT, Nat.reduceEqDiff, Nat.reduceLeDiff, Nat.reduceAdd, Nat.reduceMul, Int.reduceLT, Int.reduceLE, Int.reduceToNat, BitVec.reduceOfInt, Nat.reduceBEq, d0, d1, d2, d3]; try rfl) (by first | exact AHeap.set_self _ _ _ | (simp only [AHeap.set, ↓reduceIte, Nat.add_assoc, Nat.reduceAdd, Nat.add_left_cancel_iff, Nat.add_right_cancel_iff, Nat.left_eq_add, Nat.add_eq_left, Nat.add_eq_right, Nat.right_eq_add, Nat.reduceEqDiff, Nat.succ_ne_zero, d0, d1, d2, d3]; rfl) | assumption) (by first | exact loadA_scalar agg3 rfl | exact loadA_agg agg3 rfl | exact loadA_scalar agg3 (by assumption)) ?_
      refine al_pureN 4 (by simp only [go_sem, ↓reduceIte, Nat.reduceLT, Nat.reduceEqDiff, Nat.reduceLeDiff, Nat.reduceAdd, Nat.reduceMul, Int.reduceLT, Int.reduceLE, Int.reduceToNat, BitVec.reduceOfInt, Nat.reduceBEq, d0, d1, d2, d3]; try rfl) ?_
      refine al_load rfl (by simp only [go_sem, ↓reduceIte, Nat.reduceLT, Nat.reduceEqDiff, Nat.reduceLeDiff, Nat.reduceAdd, Nat.reduceMul, Int.reduceLT, Int.reduceLE, Int.reduceToNat, BitVec.reduceOfInt, Nat.reduceBEq, d0, d1, d2, d3]) rfl (by simp only [go_sem, ↓reduceIte, Nat.reduceLT, Nat.reduceEqDiff, Nat.reduceLeDiff, Nat.reduceAdd, Nat.reduceMul, Int.reduceLT, Int.reduceLE, Int.reduceToNat, BitVec.reduceOfInt, Nat.reduceBEq, d0, d1, d2, d3]; try rfl) (by first | exact AHeap.set_self _ _ _ | (simp only [AHeap.set, ↓reduceIte, Nat.add_assoc, Nat.reduceAdd, Nat.add_left_cancel_iff, Nat.add_right_cancel_iff, Nat.left_eq_add, Nat.add_eq_left, Nat.add_eq_right, Nat.right_eq_add, Nat.reduceEqDiff, Nat.succ_ne_zero, d0, d1, d2, d3]; rfl) | assumption) (by first | exact loadA_scalar agg22 rfl | exact loadA_agg agg22 rfl | exact loadA_scalar agg22 (by assumption)) ?_
      refine al_pureN 4 (by simp only [go_sem, ↓reduceIte, Nat.reduceLT, Nat.reduceEqDiff, Nat.reduceLeDiff, Nat.reduceAdd, Nat.reduceMul, Int.reduceLT, Int.reduceLE, Int.reduceToNat, BitVec.reduceOfInt, Nat.reduceBEq, d0, d1, d2, d3]; try rfl) ?_
      refine al_pureN 1 (by simp only [go_sem, ↓reduceIte, Nat.reduceLT, Nat.reduceEqDiff, Nat.reduceLeDiff, Nat.reduceAdd, Nat.reduceMul, Int.reduceLT, Int.reduceLE, Int.reduceToNat, BitVec.reduceOfInt, Nat.reduceBEq, d0, d1, d2, d3]; try rfl) ?_
      refine al_load rfl (by simp only [go_sem, ↓reduceIte, Nat.reduceLT, Nat.reduceEqDiff, Nat.reduceLeDiff, Nat.reduceAdd, Nat.reduceMul, Int.reduceLT, Int.reduceLE, Int.reduceToNat, BitVec.reduceOfInt, Nat.reduceBEq, d0, d1, d2, d3]) rfl (by simp only [go_sem, ↓reduceIte, Nat.reduceLT, Nat.reduceEqDiff, Nat.reduceLeDiff, Nat.reduceAdd, Nat.reduceMul, Int.reduceLT, Int.reduceLE, Int.reduceToNat, BitVec.reduceOfInt, Nat.reduceBEq, d0, d1, d2, d3]; try rfl) (by first | exact AHeap.set_self _ _ _ | (simp only [AHeap.set, ↓reduceIte, Nat.add_assoc, Nat.reduceAdd, Nat.add_left_cancel_iff, Nat.add_right_cancel_iff, Nat.left_eq_add, Nat.add_eq_left, Nat.add_eq_right, Nat.right_eq_add, Nat.reduceEqDiff, Nat.succ_ne_zero, d0, d1, d2, d3]; rfl) | assumption) (by first | exact loadA_scalar agg23 rfl | exact loadA_agg agg23 rfl | exact loadA_scalar agg23 (by assumption)) ?_
      refine al_pureN 4 (by simp only [go_sem, ↓reduceIte, Nat.reduceLT, Nat.reduceEqDiff, Nat.reduceLeDiff, Nat.reduceAdd, Nat.reduceMul, Int.reduceLT, Int.reduceLE, Int.reduceToNat, BitVec.reduceOfInt, Nat.reduceBEq, d0, d1, d2, d3]; try rfl) ?_
      refine al_pureN 1 (by simp only [go_sem, ↓reduceIte, Nat.reduceLT, Nat.reduceEqDiff, Nat.reduceLeDiff, Nat.reduceAdd, Nat.reduceMul, Int.reduceLT, Int.reduceLE, Int.reduceToNat, BitVec.reduceOfInt, Nat.reduceBEq, d0, d1, d2, d3]; try rfl) ?_
      refine al_pureN 1 (by simp only [go_sem, ↓reduceIte, Nat.reduceLT, Nat.reduceEqDiff, Nat.reduceLeDiff, Nat.reduceAdd, Nat.reduceMul, Int.reduceLT, Int.reduceLE, Int.reduceToNat, BitVec.reduceOfInt, Nat.reduceBEq, d0, d1, d2, d3, undef]; try rfl) ?_
      refine al_pureN 4 (by simp only [go_sem, ↓reduceIte, Nat.reduceLT, Nat.reduceEqDiff, Nat.reduceLeDiff, Nat.reduceAdd, Nat.reduceMul, Int.reduceLT, Int.reduceLE, Int.reduceToNat, BitVec.reduceOfInt, Nat.reduceBEq, d0, d1, d2, d3]; try rfl) ?_
      refine al_end [2] ?_
      exact awp_ret ⟨_, rfl, rfl, (by (repeat refine AHeap.le_set ?_ fun i b hb => (by have := hN i b hb; omega)); exact AHeap.le_refl _)⟩
    have d3 : decide ((g.as.length : Int) > 200) = false := by simp; omega
    by_cases c4 : 64 < g.os.length
    · have d4 : decide ((g.os.length : Int) > 64) = true := by simp; omega
      have hv : longB g = true := by simp [longB]; omega
      rw [hv]
      first | refine awp_seq (awp_lit ?_) | refine awp_lit ?_ | refine awp_seq (awp_seq (awp_lit ?_))
      refine al_pureN 1 (by simp only [go_sem, ↓reduceIte, Nat.reduceLT, Nat.reduceEqDiff, Nat.reduceLeDiff, Nat.reduceAdd, Nat.reduceMul, Int.reduceLT, Int.reduceLE, Int.reduceToNat, BitVec.reduceOfInt, Nat.reduceBEq, d0, d1, d2, d3, d4]; try rfl) ?_
      refine al_load rfl (by simp only [go_sem, ↓reduceIte, Nat.reduceLT, Nat.reduceEqDiff, Nat.reduceLeDiff, Nat.reduceAdd, Nat.reduceMul, Int.reduceLT, Int.reduceLE, Int.reduceToNat, BitVec.reduceOfInt, Nat.reduceBEq, d0, d1, d2, d3, d4]) rfl (by simp only [go_sem, ↓reduceIte, Nat.reduceLT, Nat.reduceEqDiff, Nat.reduceLeDiff, Nat.reduceAdd, Nat.reduceMul, Int.reduceLT, Int.reduceLE, Int.reduceToNat, BitVec.reduceOfInt, Nat.reduceBEq, d0, d1, d2, d3, d4]; try rfl) (by first | exact AHeap.set_self _ _ _ | (simp only [AHeap.set, ↓reduceIte, Nat.add_assoc, Nat.reduceAdd, Nat.add_left_cancel_iff, Nat.add_right_cancel_iff, Nat.left_eq_add, Nat.add_eq_left, Nat.add_eq_right, Nat.right_eq_add, Nat.reduceEqDiff, Nat.succ_ne_zero, d0, d1, d2, d3, d4]; rfl) | assumption) (by first | exact loadA_scalar agg3 rfl | exact loadA_agg agg3 rfl | exact loadA_scalar agg3 (by assumption)) ?_
      refine al_pureN 3 (by simp only [go_sem, ↓reduceIte, Nat.reduceLT, Nat.reduceEqDiff, Nat.reduceLeDiff, Nat.reduceAdd, Nat.reduceMul, Int.reduceLT, Int.reduceLE, Int.reduceToNat, BitVec.reduceOfInt, Nat.reduceBEq, d0, d1, d2, d3, d4]; try rfl) ?_
      refine al_load rfl (by simp only [go_sem, ↓reduceIte, Nat.reduceLT, Nat.reduceEqDiff, Nat.reduceLeDiff, Nat.reduceAdd, Nat.reduceMul, Int.reduceLT, Int.reduceLE, Int.reduceToNat, BitVec.reduceOfInt, Nat.reduceBEq, d0, d1, d2, d3, d4]) rfl (by simp only [go_sem, ↓reduceIte, Nat.reduceLT, Nat.reduceEqDiff, Nat.reduceLeDiff, Nat.reduceAdd, Nat.reduceMul, Int.reduceLT, Int.reduceLE, Int.reduceToNat, BitVec.reduceOfInt, Nat.reduceBEq, d0, d1, d2, d3, d4]; try rfl) (by first | exact AHeap.set_self _ _ _ | (simp only [AHeap.set, ↓reduceIte, Nat.add_assoc, Nat.reduceAdd, Nat.add_left_cancel_iff, Nat.add_right_cancel_iff, Nat.left_eq_add, Nat.add_eq_left, Nat.add_eq_right, Nat.right_eq_add, Nat.reduceEqDiff, Nat.succ_ne_zero, d0, d1, d2, d3, d4]; rfl) | assumption) (by first | exact loadA_scalar agg3 rfl | exact loadA_agg agg3 rfl | exact loadA_scalar agg3 (by assumption)) ?_
      refine al_pureN 4 (by simp only [go_sem, ↓reduceIte, Nat.reduceLT, Nat.reduceEqDiff, Nat.reduceLeDiff, Nat.reduceAdd, Nat.reduceMul, Int.reduceLT, Int.reduceLE, Int.reduceToNat, BitVec.reduceOfInt, Nat.reduceBEq, d0, d1, d2, d3, d4]; try rfl) ?_
      refine al_load rfl (by simp only [go_sem, ↓reduceIte, Nat.reduceLT, Nat.reduceEqDiff, Nat.reduceLeDiff, Nat.reduceAdd, Nat.reduceMul, Int.reduceLT, Int.reduceLE, Int.reduceToNat, BitVec.reduceOfInt, Nat.reduceBEq, d0, d1, d2, d3, d4]) rfl (by simp only [go_sem, ↓reduceIte, Nat.reduceLT, Nat.reduceEqDiff, Nat.reduceLeDiff, Nat.reduceAdd, Nat.reduceMul, Int.reduceLT, Int.reduceLE, Int.reduceToNat, BitVec.reduceOfInt, Nat.reduceBEq, d0, d1, d2, d3, d4]; try rfl) (by first | exact AHeap.set_self _ _ _ | (simp only [AHeap.set, ↓reduceIte, Nat.add_assoc, Nat.reduceAdd, Nat.add_left_cancel_iff, Nat.add_right_cancel_iff, Nat.left_eq_add, Nat.add_eq_left, Nat.add_eq_right, Nat.right_eq_add, Nat.reduceEqDiff, Nat.succ_ne_zero, d0, d1, d2, d3, d4]; rfl) | assumption) (by first | exact loadA_scalar agg22 rfl | exact loadA_agg agg22 rfl | exact loadA_scalar agg22 (by assumption)) ?_
      refine al_pureN 4 (by simp only [go_sem, ↓reduceIte, Nat.reduceLT, Nat.reduceEqDiff, Nat.reduceLeDiff, Nat.reduceAdd, Nat.reduceMul, Int.reduceLT, Int.reduceLE, Int.reduceToNat, BitVec.reduceOfInt, Nat.reduceBEq, d0, d1, d2, d3, d4]; try rfl) ?_
      refine al_pureN 1 (by simp only [go_sem, ↓reduceIte, Nat.reduceLT, Nat.reduceEqDiff, Nat.reduceLeDiff, Nat.reduceAdd, Nat.reduceMul, Int.reduceLT, Int.reduceLE, Int.reduceToNat, BitVec.reduceOfInt, Nat.reduceBEq, d0, d1, d2, d3, d4]; try rfl) ?_
      refine al_load rfl (by simp only [go_sem, ↓reduceIte, Nat.reduceLT, Nat.reduceEqDiff, Nat.reduceLeDiff, Nat.reduceAdd, Nat.reduceMul, Int.reduceLT, Int.reduceLE, Int.reduceToNat, BitVec.reduceOfInt, Nat.reduceBEq, d0, d1, d2, d3, d4]) rfl (by simp only [go_sem, ↓reduceIte, Nat.reduceLT, Nat.reduceEqDiff, Nat.reduceLeDiff, Nat.reduceAdd, Nat.reduceMul, Int.reduceLT, Int.reduceLE, Int.reduceToNat, BitVec.reduceOfInt, Nat.reduceBEq, d0, d1, d2, d3, d4]; try rfl) (by first | exact AHeap.set_self _ _ _ | (simp only [AHeap.set, ↓reduceIte, Nat.add_assoc, Nat.reduceAdd, Nat.add_left_cancel_iff, Nat.add_right_cancel_iff, Nat.left_eq_add, Nat.add_eq_left, Nat.add_eq_right, Nat.right_eq_add, Nat.reduceEqDiff, Nat.succ_ne_zero, d0, d1, d2, d3, d4]; rfl) | assumption) (by first | exact loadA_scalar agg23 rfl | exact loadA_agg agg23 rfl | exact loadA_scalar agg23 (by assumption)) ?_
      refine al_pureN 4 (by simp only [go_sem, ↓reduceIte, Nat.reduceLT, Nat.reduceEqDiff, Nat.reduceLeDiff, Nat.reduceAdd, Nat.reduceMul, Int.reduceLT, Int.reduceLE, Int.reduceToNat, BitVec.reduceOfInt, Nat.reduceBEq, d0, d1, d2, d3, d4]; try rfl) ?_
      refine al_pureN 1 (by simp only [go_sem, ↓reduceIte, Nat.reduceLT, Nat.reduceEqDiff, Nat.reduceLeDiff, Nat.reduceAdd, Nat.reduceMul, Int.reduceLT, Int.reduceLE, Int.reduceToNat, BitVec.reduceOfInt, Nat.reduceBEq, d0, d1, d2, d3, d4]; try rfl) ?_
      refine al_load rfl (by simp only [go_sem, ↓reduceIte, Nat.reduceLT, Nat.reduceEqDiff, Nat.reduceLeDiff, Nat.reduceAdd, Nat.reduceMul, Int.reduceLT, Int.reduceLE, Int.reduceToNat, BitVec.reduceOfInt, Nat.reduceBEq, d0, d1, d2, d3, d4]) rfl (by simp only [go_sem, ↓reduceIte, Nat.reduceLT, Nat.reduceEqDiff, Nat.reduceLeDiff, Nat.reduceAdd, Nat.reduceMul, Int.reduceLT, Int.reduceLE, Int.reduceToNat, BitVec.reduceOfInt, Nat.reduceBEq, d0, d1, d2, d3, d4]; try rfl) (by first | exact AHeap.set_self _ _ _ | (simp only [AHeap.set, ↓reduceIte, Nat.add_assoc, Nat.reduceAdd, Nat.add_left_cancel_iff, Nat.add_right_cancel_iff, Nat.left_eq_add, Nat.add_eq_left, Nat.add_eq_right, Nat.right_eq_add, Nat.reduceEqDiff, Nat.succ_ne_zero, d0, d1, d2, d3, d4]; rfl) | assumption) (by first | exact loadA_scalar agg24 rfl | exact loadA_agg agg24 rfl | exact loadA_scalar agg24 (by assumption)) ?_
      refine al_pureN 4 (by simp only [go_sem, ↓reduceIte, Nat.reduceLT, Nat.reduceEqDiff, Nat.reduceLeDiff, Nat.reduceAdd, Nat.reduceMul, Int.reduceLT, Int.reduceLE, Int.reduceToNat, BitVec.reduceOfInt, Nat.reduceBEq, d0, d1, d2, d3, d4]; try rfl) ?_
      refine al_end [2] ?_
      exact awp_ret ⟨_, rfl, rfl, (by (repeat refine AHeap.le_set ?_ fun i b hb => (by have := hN i b hb; omega)); exact AHeap.le_refl _)⟩
    have d4 : decide ((g.os.length : Int) > 64) = false := by simp; omega
    have hv : longB g = false := by simp [longB]; omega
    rw [hv]
    first | refine awp_seq (awp_lit ?_) | refine awp_lit ?_ | refine awp_seq (awp_seq (awp_lit ?_))
    refine al_pureN 1 (by simp only [go_sem, ↓reduceIte, Nat.reduceLT, Nat.reduceEqDiff, Nat.reduceLeDiff, Nat.reduceAdd, Nat.reduceMul, Int.reduceLT, Int.reduceLE, Int.reduceToNat, BitVec.reduceOfInt, Nat.reduceBEq, d0, d1, d2, d3, d4]; try rfl) ?_
    refine al_load rfl (by simp only [go_sem, ↓reduceIte, Nat.reduceLT, Nat.reduceEqDiff, Nat.reduceLeDiff, Nat.reduceAdd, Nat.reduceMul, Int.reduceLT, Int.reduceLE, Int.reduceToNat, BitVec.reduceOfInt, Nat.reduceBEq, d0, d1, d2, d3, d4]) rfl (by simp only [go_sem, ↓reduceIte, Nat.reduceLT, Nat.reduceEqDiff, Nat.reduceLeDiff, Nat.reduceAdd, Nat.reduceMul, Int.reduceLT, Int.reduceLE, Int.reduceToNat, BitVec.reduceOfInt, Nat.reduceBEq, d0, d1, d2, d3, d4]; try rfl) (by first | exact AHeap.set_self _ _ _ | (simp only [AHeap.set, ↓reduceIte, Nat.add_assoc, Nat.reduceAdd, Nat.add_left_cancel_iff, Nat.add_right_cancel_iff, Nat.left_eq_add, Nat.add_eq_left, Nat.add_eq_right, Nat.right_eq_add, Nat.reduceEqDiff, Nat.succ_ne_zero, d0, d1, d2, d3, d4]; rfl) | assumption) (by first | exact loadA_scalar agg3 rfl | exact loadA_agg agg3 rfl | exact loadA_scalar agg3 (by assumption)) ?_
    refine al_pureN 3 (by simp only [go_sem, ↓reduceIte, Nat.reduceLT, Nat.reduceEqDiff, Nat.reduceLeDiff, Nat.reduceAdd, Nat.reduceMul, Int.reduceLT, Int.reduceLE, Int.reduceToNat, BitVec.reduceOfInt, Nat.reduceBEq, d0, d1, d2, d3, d4]; try rfl) ?_
    refine al_load rfl (by simp only [go_sem, ↓reduceIte, Nat.reduceLT, Nat.reduceEqDiff, Nat.reduceLeDiff, Nat.reduceAdd, Nat.reduceMul, Int.reduceLT, Int.reduceLE, Int.reduceToNat, BitVec.reduceOfInt, Nat.reduceBEq, d0, d1, d2, d3, d4]) rfl (by simp only [go_sem, ↓reduceIte, Nat.reduceLT, Nat.reduceEqDiff, Nat.reduceLeDiff, Nat.reduceAdd, Nat.reduceMul, Int.reduceLT, Int.reduceLE, Int.reduceToNat, BitVec.reduceOfInt, Nat.reduceBEq, d0, d1, d2, d3, d4]; try rfl) (by first | exact AHeap.set_self _ _ _ | (simp only [AHeap.set, ↓reduceIte, Nat.add_assoc, Nat.reduceAdd, Nat.add_left_cancel_iff, Nat.add_right_cancel_iff, Nat.left_eq_add, Nat.add_eq_left, Nat.add_eq_right, Nat.right_eq_add, Nat.reduceEqDiff, Nat.succ_ne_zero, d0, d1, d2, d3, d4]; rfl) | assumption) (by first | exact loadA_scalar agg3 rfl | exact loadA_agg agg3 rfl | exact loadA_scalar agg3 (by assumption)) ?_
    refine al_pureN 4 (by simp only [go_sem, ↓reduceIte, Nat.reduceLT, Nat.reduceEqDiff, Nat.reduceLeDiff, Nat.reduceAdd, Nat.reduceMul, Int.reduceLT, Int.reduceLE, Int.reduceToNat, BitVec.reduceOfInt, Nat.reduceBEq, d0, d1, d2, d3, d4]; try rfl) ?_
    refine al_load rfl (by simp only [go_sem, ↓reduceIte, Nat.reduceLT, Nat.reduceEqDiff, Nat.reduceLeDiff, Nat.reduceAdd, Nat.reduceMul, Int.reduceLT, Int.reduceLE, Int.reduceToNat, BitVec.reduceOfInt, Nat.reduceBEq, d0, d1, d2, d3, d4]) rfl (by simp only [go_sem, ↓reduceIte, Nat.reduceLT, Nat.reduceEqDiff, Nat.reduceLeDiff, Nat.reduceAdd, Nat.reduceMul, Int.reduceLT, Int.reduceLE, Int.reduceToNat, BitVec.reduceOfInt, Nat.reduceBEq, d0, d1, d2, d3, d4]; try rfl) (by first | exact AHeap.set_self _ _ _ | (simp only [AHeap.set, ↓reduceIte, Nat.add_assoc, Nat.reduceAdd, Nat.add_left_cancel_iff, Nat.add_right_cancel_iff, Nat.left_eq_add, Nat.add_eq_left, Nat.add_eq_right, Nat.right_eq_add, Nat.reduceEqDiff, Nat.succ_ne_zero, d0, d1, d2, d3, d4]; rfl) | assumption) (by first | exact loadA_scalar agg22 rfl | exact loadA_agg agg22 rfl | exact loadA_scalar agg22 (by assumption)) ?_
    refine al_pureN 4 (by simp only [go_sem, ↓reduceIte, Nat.reduceLT, Nat.reduceEqDiff, Nat.reduceLeDiff, Nat.reduceAdd, Nat.reduceMul, Int.reduceLT, Int.reduceLE, Int.reduceToNat, BitVec.reduceOfInt, Nat.reduceBEq, d0, d1, d2, d3, d4]; try rfl) ?_
    refine al_pureN 1 (by simp only [go_sem, ↓reduceIte, Nat.reduceLT, Nat.reduceEqDiff, Nat.reduceLeDiff, Nat.reduceAdd, Nat.reduceMul, Int.reduceLT, Int.reduceLE, Int.reduceToNat, BitVec.reduceOfInt, Nat.reduceBEq, d0, d1, d2, d3, d4]; try rfl) ?_
    refine al_load rfl (by simp only [go_sem, ↓reduceIte, Nat.reduceLT, Nat.reduceEqDiff, Nat.reduceLeDiff, Nat.reduceAdd, Nat.reduceMul, Int.reduceLT, Int.reduceLE, Int.reduceToNat, BitVec.reduceOfInt, Nat.reduceBEq, d0, d1, d2, d3, d4]) rfl (by simp only [go_sem, ↓reduceIte, Nat.reduceLT, Nat.reduceEqDiff, Nat.reduceLeDiff, Nat.reduceAdd, Nat.reduceMul, Int.reduceLT, Int.reduceLE, Int.reduceToNat, BitVec.reduceOfInt, Nat.reduceBEq, d0, d1, d2, d3, d4]; try rfl) (by first | exact AHeap.set_self _ _ _ | (simp only [AHeap.set, ↓reduceIte, Nat.add_assoc, Nat.reduceAdd, Nat.add_left_cancel_iff, Nat.add_right_cancel_iff, Nat.left_eq_add, Nat.add_eq_left, Nat.add_eq_right, Nat.right_eq_add, Nat.reduceEqDiff, Nat.succ_ne_zero, d0, d1, d2, d3, d4]; rfl) | assumption) (by first | exact loadA_scalar agg23 rfl | exact loadA_agg agg23 rfl | exact loadA_scalar agg23 (by assumption)) ?_
    refine al_pureN 4 (by simp only [go_sem, ↓reduceIte, Nat.reduceLT, Nat.reduceEqDiff, Nat.reduceLeDiff, Nat.reduceAdd, Nat.reduceMul, Int.reduceLT, Int.reduceLE, Int.reduceToNat, BitVec.reduceOfInt, Nat.reduceBEq, d0, d1, d2, d3, d4]; try rfl) ?_
    refine al_pureN 1 (by simp only [go_sem, ↓reduceIte, Nat.reduceLT, Nat.reduceEqDiff, Nat.reduceLeDiff, Nat.reduceAdd, Nat.reduceMul, Int.reduceLT, Int.reduceLE, Int.reduceToNat, BitVec.reduceOfInt, Nat.reduceBEq, d0, d1, d2, d3, d4]; try rfl) ?_
    refine al_load rfl (by simp only [go_sem, ↓reduceIte, Nat.reduceLT, Nat.reduceEqDiff, Nat.reduceLeDiff, Nat.reduceAdd, Nat.reduceMul, Int.reduceLT, Int.reduceLE, Int.reduceToNat, BitVec.reduceOfInt, Nat.reduceBEq, d0, d1, d2, d3, d4]) rfl (by simp only [go_sem, ↓reduceIte, Nat.reduceLT, Nat.reduceEqDiff, Nat.reduceLeDiff, Nat.reduceAdd, Nat.reduceMul, Int.reduceLT, Int.reduceLE, Int.reduceToNat, BitVec.reduceOfInt, Nat.reduceBEq, d0, d1, d2, d3, d4]; try rfl) (by first | exact AHeap.set_self _ _ _ | (simp only [AHeap.set, ↓reduceIte, Nat.add_assoc, Nat.reduceAdd, Nat.add_left_cancel_iff, Nat.add_right_cancel_iff, Nat.left_eq_add, Nat.add_eq_left, Nat.add_eq_right, Nat.right_eq_add, Nat.reduceEqDiff, Nat.succ_ne_zero, d0, d1, d2, d3, d4]; rfl) | assumption) (by first | exact loadA_scalar agg24 rfl | exact loadA_agg agg24 rfl | exact loadA_scalar agg24 (by assumption)) ?_
    refine al_pureN 4 (by simp only [go_sem, ↓reduceIte, Nat.reduceLT, Nat.reduceEqDiff, Nat.reduceLeDiff, Nat.reduceAdd, Nat.reduceMul, Int.reduceLT, Int.reduceLE, Int.reduceToNat, BitVec.reduceOfInt, Nat.reduceBEq, d0, d1, d2, d3, d4]; try rfl) ?_
    refine al_end [2] ?_
    exact awp_ret ⟨_, rfl, rfl, (by (repeat refine AHeap.le_set ?_ fun i b hb => (by have := hN i b hb; omega)); exact AHeap.le_refl _)⟩
  have d0 : decide (g.inp > 64) = false := by simp; omega
  by_cases c2 : 64 < g.ls.length
  · have d2 : decide ((g.ls.length : Int) > 64) = true := by simp; omega
    have hv : longB g = true := by simp [longB]; omega
    rw [hv]
    first | refine awp_seq (awp_lit ?_) | refine awp_lit ?_ | refine awp_seq (awp_seq (awp_lit ?_))
    refine al_pureN 1 (by simp only [go_sem, ↓reduceIte, Nat.reduceLT, Nat.reduceEqDiff, Nat.reduceLeDiff, Nat.reduceAdd, Nat.reduceMul, Int.reduceLT, Int.reduceLE, Int.reduceToNat, BitVec.reduceOfInt, Nat.reduceBEq, d0, d2]; try rfl) ?_
    refine al_load rfl (by simp only [go_sem, ↓reduceIte, Nat.reduceLT, Nat.reduceEqDiff, Nat.reduceLeDiff, Nat.reduceAdd, Nat.reduceMul, Int.reduceLT, Int.reduceLE, Int.reduceToNat, BitVec.reduceOfInt, Nat.reduceBEq, d0, d2]) rfl (by simp only [go_sem, ↓reduceIte, Nat.reduceLT, Nat.reduceEqDiff, Nat.reduceLeDiff, Nat.reduceAdd, Nat.reduceMul, Int.reduceLT, Int.reduceLE, Int.reduceToNat, BitVec.reduceOfInt, Nat.reduceBEq, d0, d2]; try rfl) (by first | exact AHeap.set_self _ _ _ | (simp only [AHeap.set, ↓reduceIte, Nat.add_assoc, Nat.reduceAdd, Nat.add_left_cancel_iff, Nat.add_right_cancel_iff, Nat.left_eq_add, Nat.add_eq_left, Nat.add_eq_right, Nat.right_eq_add, Nat.reduceEqDiff, Nat.succ_ne_zero, d0, d2]; rfl) | assumption) (by first | exact loadA_scalar agg3 rfl | exact loadA_agg agg3 rfl | exact loadA_scalar agg3 (by assumption)) ?_
    refine al_pureN 2 (by simp only [go_sem, ↓reduceIte, Nat.reduceLT, Nat.reduceEqDiff, Nat.reduceLeDiff, Nat.reduceAdd, Nat.reduceMul, Int.reduceLT, Int.reduceLE, Int.reduceToNat, BitVec.reduceOfInt, Nat.reduceBEq, d0, d2]; try rfl) ?_
    refine al_pureN 1 (by simp only [go_sem, ↓reduceIte, Nat.reduceLT, Nat.reduceEqDiff, Nat.reduceLeDiff, Nat.reduceAdd, Nat.reduceMul, Int.reduceLT, Int.reduceLE, Int.reduceToNat, BitVec.reduceOfInt, Nat.reduceBEq, d0, d2]; try rfl) ?_
    refine al_pureN 1 (by simp only [go_sem, ↓reduceIte, Nat.reduceLT, Nat.reduceEqDiff, Nat.reduceLeDiff, Nat.reduceAdd, Nat.reduceMul, Int.reduceLT, Int.reduceLE, Int.reduceToNat, BitVec.reduceOfInt, Nat.reduceBEq, d0, d2, undef]; try rfl) ?_
    refine al_pureN 2 (by simp only [go_sem, ↓reduceIte, Nat.reduceLT, Nat.reduceEqDiff, Nat.reduceLeDiff, Nat.reduceAdd, Nat.reduceMul, Int.reduceLT, Int.reduceLE, Int.reduceToNat, BitVec.reduceOfInt, Nat.reduceBEq, d0, d2]; try rfl) ?_
    refine al_pureN 2 (by simp only [go_sem, ↓reduceIte, Nat.reduceLT, Nat.reduceEqDiff, Nat.reduceLeDiff, Nat.reduceAdd, Nat.reduceMul, Int.reduceLT, Int.reduceLE, Int.reduceToNat, BitVec.reduceOfInt, Nat.reduceBEq, d0, d2]; try rfl) ?_
    refine al_load rfl (by simp only [go_sem, ↓reduceIte, Nat.reduceLT, Nat.reduceEqDiff, Nat.reduceLeDiff, Nat.reduceAdd, Nat.reduceMul, Int.reduceLT, Int.reduceLE, Int.reduceToNat, BitVec.reduceOfInt, Nat.reduceBEq, d0, d2]) rfl (by simp only [go_sem, ↓reduceIte, Nat.reduceLT, Nat.reduceEqDiff, Nat.reduceLeDiff, Nat.reduceAdd, Nat.reduceMul, Int.reduceLT, Int.reduceLE, Int.reduceToNat, BitVec.reduceOfInt, Nat.reduceBEq, d0, d2]; try rfl) (by first | exact AHeap.set_self _ _ _ | (simp only [AHeap.set, ↓reduceIte, Nat.add_assoc, Nat.reduceAdd, Nat.add_left_cancel_iff, Nat.add_right_cancel_iff, Nat.left_eq_add, Nat.add_eq_left, Nat.add_eq_right, Nat.right_eq_add, Nat.reduceEqDiff, Nat.succ_ne_zero, d0, d2]; rfl) | assumption) (by first | exact loadA_scalar agg22 rfl | exact loadA_agg agg22 rfl | exact loadA_scalar agg22 (by assumption)) ?_
    refine al_pureN 1 (by simp only [go_sem, ↓reduceIte, Nat.reduceLT, Nat.reduceEqDiff, Nat.reduceLeDiff, Nat.reduceAdd, Nat.reduceMul, Int.reduceLT, Int.reduceLE, Int.reduceToNat, BitVec.reduceOfInt, Nat.reduceBEq, d0, d2]; try rfl) ?_
    refine al_pureN 2 (by simp only [go_sem, ↓reduceIte, Nat.reduceLT, Nat.reduceEqDiff, Nat.reduceLeDiff, Nat.reduceAdd, Nat.reduceMul, Int.reduceLT, Int.reduceLE, Int.reduceToNat, BitVec.reduceOfInt, Nat.reduceBEq, d0, d2]; try rfl) ?_
    refine al_pureN 2 (by simp only [go_sem, ↓reduceIte, Nat.reduceLT, Nat.reduceEqDiff, Nat.reduceLeDiff, Nat.reduceAdd, Nat.reduceMul, Int.reduceLT, Int.reduceLE, Int.reduceToNat, BitVec.reduceOfInt, Nat.reduceBEq, d0, d2]; try rfl) ?_
    refine al_pureN 1 (by simp only [go_sem, ↓reduceIte, Nat.reduceLT, Nat.reduceEqDiff, Nat.reduceLeDiff, Nat.reduceAdd, Nat.reduceMul, Int.reduceLT, Int.reduceLE, Int.reduceToNat, BitVec.reduceOfInt, Nat.reduceBEq, d0, d2, undef]; try rfl) ?_
    refine al_pureN 1 (by simp only [go_sem, ↓reduceIte, Nat.reduceLT, Nat.reduceEqDiff, Nat.reduceLeDiff, Nat.reduceAdd, Nat.reduceMul, Int.reduceLT, Int.reduceLE, Int.reduceToNat, BitVec.reduceOfInt, Nat.reduceBEq, d0, d2]; try rfl) ?_
    refine al_pureN 2 (by simp only [go_sem, ↓reduceIte, Nat.reduceLT, Nat.reduceEqDiff, Nat.reduceLeDiff, Nat.reduceAdd, Nat.reduceMul, Int.reduceLT, Int.reduceLE, Int.reduceToNat, BitVec.reduceOfInt, Nat.reduceBEq, d0, d2]; try rfl) ?_
    refine al_pureN 2 (by simp only [go_sem, ↓reduceIte, Nat.reduceLT, Nat.reduceEqDiff, Nat.reduceLeDiff, Nat.reduceAdd, Nat.reduceMul, Int.reduceLT, Int.reduceLE, Int.reduceToNat, BitVec.reduceOfInt, Nat.reduceBEq, d0, d2]; try rfl) ?_
    refine al_pureN 1 (by simp only [go_sem, ↓reduceIte, Nat.reduceLT, Nat.reduceEqDiff, Nat.reduceLeDiff, Nat.reduceAdd, Nat.reduceMul, Int.reduceLT, Int.reduceLE, Int.reduceToNat, BitVec.reduceOfInt, Nat.reduceBEq, d0, d2, undef]; try rfl) ?_
    refine al_pureN 1 (by simp only [go_sem, ↓reduceIte, Nat.reduceLT, Nat.reduceEqDiff, Nat.reduceLeDiff, Nat.reduceAdd, Nat.reduceMul, Int.reduceLT, Int.reduceLE, Int.reduceToNat, BitVec.reduceOfInt, Nat.reduceBEq, d0, d2]; try rfl) ?_
    refine al_pureN 2 (by simp only [go_sem, ↓reduceIte, Nat.reduceLT, Nat.reduceEqDiff, Nat.reduceLeDiff, Nat.reduceAdd, Nat.reduceMul, Int.reduceLT, Int.reduceLE, Int.reduceToNat, BitVec.reduceOfInt, Nat.reduceBEq, d0, d2]; try rfl) ?_
    refine al_pureN 1 (by simp only [go_sem, ↓reduceIte, Nat.reduceLT, Nat.reduceEqDiff, Nat.reduceLeDiff, Nat.reduceAdd, Nat.reduceMul, Int.reduceLT, Int.reduceLE, Int.reduceToNat, BitVec.reduceOfInt, Nat.reduceBEq, d0, d2]; try rfl) ?_
    refine al_end [2] ?_
    exact awp_ret ⟨_, rfl, rfl, (by (repeat refine AHeap.le_set ?_ fun i b hb => (by have := hN i b hb; omega)); exact AHeap.le_refl _)⟩
  have d2 : decide ((g.ls.length : Int) > 64) = false := by simp; omega
  by_cases c3 : 200 < g.as.length
  · have d3 : decide ((g.as.length : Int) > 200) = true := by simp; omega
    have hv : longB g = true := by simp [longB]; omega
    rw [hv]
    first | refine awp_seq (awp_lit ?_) | refine awp_lit ?_ | refine awp_seq (awp_seq (awp_lit ?_))
    refine al_pureN 1 (by simp only [go_sem, ↓reduceIte, Nat.reduceLT, Nat.reduceEqDiff, Nat.reduceLeDiff, Nat.reduceAdd, Nat.reduceMul, Int.reduceLT, Int.reduceLE, Int.reduceToNat, BitVec.reduceOfInt, Nat.reduceBEq, d0, d2, d3]; try rfl) ?_
    refine al_load rfl (by simp only [go_sem, ↓reduceIte, Nat.reduceLT, Nat.reduceEqDiff, Nat.reduceLeDiff, Nat.reduceAdd, Nat.reduceMul, Int.reduceLT, Int.reduceLE, Int.reduceToNat, BitVec.reduceOfInt, Nat.reduceBEq, d0, d2, d3]) rfl (by simp only [go_sem, ↓reduceIte, Nat.reduceLT, Nat.reduceEqDiff, Nat.reduceLeDiff, Nat.reduceAdd, Nat.reduceMul, Int.reduceLT, Int.reduceLE, Int.reduceToNat, BitVec.reduceOfInt, Nat.reduceBEq, d0, d2, d3]; try rfl) (by first | exact AHeap.set_self _ _ _ | (simp only [AHeap.set, ↓reduceIte, Nat.add_assoc, Nat.reduceAdd, Nat.add_left_cancel_iff, Nat.add_right_cancel_iff, Nat.left_eq_add, Nat.add_eq_left, Nat.add_eq_right, Nat.right_eq_add, Nat.reduceEqDiff, Nat.succ_ne_zero, d0, d2, d3]; rfl) | assumption) (by first | exact loadA_scalar agg3 rfl | exact loadA_agg agg3 rfl | exact loadA_scalar agg3 (by assumption)) ?_
    refine al_pureN 2 (by simp only [go_sem, ↓reduceIte, Nat.reduceLT, Nat.reduceEqDiff, Nat.reduceLeDiff, Nat.reduceAdd, Nat.reduceMul, Int.reduceLT, Int.reduceLE, Int.reduceToNat, BitVec.reduceOfInt, Nat.reduceBEq, d0, d2, d3]; try rfl) ?_
    refine al_pureN 1 (by simp only [go_sem, ↓reduceIte, Nat.reduceLT, Nat.reduceEqDiff, Nat.reduceLeDiff, Nat.reduceAdd, Nat.reduceMul, Int.reduceLT, Int.reduceLE, Int.reduceToNat, BitVec.reduceOfInt, Nat.reduceBEq, d0, d2, d3]; try rfl) ?_
    refine al_pureN 1 (by simp only [go_sem, ↓reduceIte, Nat.reduceLT, Nat.reduceEqDiff, Nat.reduceLeDiff, Nat.reduceAdd, Nat.reduceMul, Int.reduceLT, Int.reduceLE, Int.reduceToNat, BitVec.reduceOfInt, Nat.reduceBEq, d0, d2, d3, undef]; try rfl) ?_
    refine al_pureN 2 (by simp only [go_sem, ↓reduceIte, Nat.reduceLT, Nat.reduceEqDiff, Nat.reduceLeDiff, Nat.reduceAdd, Nat.reduceMul, Int.reduceLT, Int.reduceLE, Int.reduceToNat, BitVec.reduceOfInt, Nat.reduceBEq, d0, d2, d3]; try rfl) ?_
    refine al_pureN 2 (by simp only [go_sem, ↓reduceIte, Nat.reduceLT, Nat.reduceEqDiff, Nat.reduceLeDiff, Nat.reduceAdd, Nat.reduceMul, Int.reduceLT, Int.reduceLE, Int.reduceToNat, BitVec.reduceOfInt, Nat.reduceBEq, d0, d2, d3]; try rfl) ?_
    refine al_load rfl (by simp only [go_sem, ↓reduceIte, Nat.reduceLT, Nat.reduceEqDiff, Nat.reduceLeDiff, Nat.reduceAdd, Nat.reduceMul, Int.reduceLT, Int.reduceLE, Int.reduceToNat, BitVec.reduceOfInt, Nat.reduceBEq, d0, d2, d3]) rfl (by simp only [go_sem, ↓reduceIte, Nat.reduceLT, Nat.reduceEqDiff, Nat.reduceLeDiff, Nat.reduceAdd, Nat.reduceMul, Int.reduceLT, Int.reduceLE, Int.reduceToNat, BitVec.reduceOfInt, Nat.reduceBEq, d0, d2, d3]; try rfl) (by first | exact AHeap.set_self _ _ _ | (simp only [AHeap.set, ↓reduceIte, Nat.add_assoc, Nat.reduceAdd, Nat.add_left_cancel_iff, Nat.add_right_cancel_iff, Nat.left_eq_add, Nat.add_eq_left, Nat.add_eq_right, Nat.right_eq_add, Nat.reduceEqDiff, Nat.succ_ne_zero, d0, d2, d3]; rfl) | assumption) (by first | exact loadA_scalar agg22 rfl | exact loadA_agg agg22 rfl | exact loadA_scalar agg22 (by assumption)) ?_
    refine al_pureN 1 (by simp only [go_sem, ↓reduceIte, Nat.reduceLT, Nat.reduceEqDiff, Nat.reduceLeDiff, Nat.reduceAdd, Nat.reduceMul, Int.reduceLT, Int.reduceLE, Int.reduceToNat, BitVec.reduceOfInt, Nat.reduceBEq, d0, d2, d3]; try rfl) ?_
    refine al_pureN 2 (by simp only [go_sem, ↓reduceIte, Nat.reduceLT, Nat.reduceEqDiff, Nat.reduceLeDiff, Nat.reduceAdd, Nat.reduceMul, Int.reduceLT, Int.reduceLE, Int.reduceToNat, BitVec.reduceOfInt, Nat.reduceBEq, d0, d2, d3]; try rfl) ?_
    refine al_pureN 2 (by simp only [go_sem, ↓reduceIte, Nat.reduceLT, Nat.reduceEqDiff, Nat.reduceLeDiff, Nat.reduceAdd, Nat.reduceMul, Int.reduceLT, Int.reduceLE, Int.reduceToNat, BitVec.reduceOfInt, Nat.reduceBEq, d0, d2, d3]; try rfl) ?_
    refine al_load rfl (by simp only [go_sem, ↓reduceIte, Nat.reduceLT, Nat.reduceEqDiff, Nat.reduceLeDiff, Nat.reduceAdd, Nat.reduceMul, Int.reduceLT, Int.reduceLE, Int.reduceToNat, BitVec.reduceOfInt, Nat.reduceBEq, d0, d2, d3]) rfl (by simp only [go_sem, ↓reduceIte, Nat.reduceLT, Nat.reduceEqDiff, Nat.reduceLeDiff, Nat.reduceAdd, Nat.reduceMul, Int.reduceLT, Int.reduceLE, Int.reduceToNat, BitVec.reduceOfInt, Nat.reduceBEq, d0, d2, d3]; try rfl) (by first | exact AHeap.set_self _ _ _ | (simp only [AHeap.set, ↓reduceIte, Nat.add_assoc, Nat.reduceAdd, Nat.add_left_cancel_iff, Nat.add_right_cancel_iff, Nat.left_eq_add, Nat.add_eq_left, Nat.add_eq_right, Nat.right_eq_add, Nat.reduceEqDiff, Nat.succ_ne_zero, d0, d2, d3]; rfl) | assumption) (by first | exact loadA_scalar agg23 rfl | exact loadA_agg agg23 rfl | exact loadA_scalar agg23 (by assumption)) ?_
    refine al_pureN 1 (by simp only [go_sem, ↓reduceIte, Nat.reduceLT, Nat.reduceEqDiff, Nat.reduceLeDiff, Nat.reduceAdd, Nat.reduceMul, Int.reduceLT, Int.reduceLE, Int.reduceToNat, BitVec.reduceOfInt, Nat.reduceBEq, d0, d2, d3]; try rfl) ?_
    refine al_pureN 2 (by simp only [go_sem, ↓reduceIte, Nat.reduceLT, Nat.reduceEqDiff, Nat.reduceLeDiff, Nat.reduceAdd, Nat.reduceMul, Int.reduceLT, Int.reduceLE, Int.reduceToNat, BitVec.reduceOfInt, Nat.reduceBEq, d0, d2, d3]; try rfl) ?_
    refine al_pureN 2 (by simp only [go_sem, ↓reduceIte, Nat.reduceLT, Nat.reduceEqDiff, Nat.reduceLeDiff, Nat.reduceAdd, Nat.reduceMul, Int.reduceLT, Int.reduceLE, Int.reduceToNat, BitVec.reduceOfInt, Nat.reduceBEq, d0, d2, d3]; try rfl) ?_
    refine al_pureN 1 (by simp only [go_sem, ↓reduceIte, Nat.reduceLT, Nat.reduceEqDiff, Nat.reduceLeDiff, Nat.reduceAdd, Nat.reduceMul, Int.reduceLT, Int.reduceLE, Int.reduceToNat, BitVec.reduceOfInt, Nat.reduceBEq, d0, d2, d3, undef]; try rfl) ?_
    refine al_pureN 1 (by simp only [go_sem, ↓reduceIte, Nat.reduceLT, Nat.reduceEqDiff, Nat.reduceLeDiff, Nat.reduceAdd, Nat.reduceMul, Int.reduceLT, Int.reduceLE, Int.reduceToNat, BitVec.reduceOfInt, Nat.reduceBEq, d0, d2, d3]; try rfl) ?_
    refine al_pureN 2 (by simp only [go_sem, ↓reduceIte, Nat.reduceLT, Nat.reduceEqDiff, Nat.reduceLeDiff, Nat.reduceAdd, Nat.reduceMul, Int.reduceLT, Int.reduceLE, Int.reduceToNat, BitVec.reduceOfInt, Nat.reduceBEq, d0, d2, d3]; try rfl) ?_
    refine al_pureN 1 (by simp only [go_sem, ↓reduceIte, Nat.reduceLT, Nat.reduceEqDiff, Nat.reduceLeDiff, Nat.reduceAdd, Nat.reduceMul, Int.reduceLT, Int.reduceLE, Int.reduceToNat, BitVec.reduceOfInt, Nat.reduceBEq, d0, d2, d3]; try rfl) ?_
    refine al_end [2] ?_
    exact awp_ret ⟨_, rfl, rfl, (by (repeat refine AHeap.le_set ?_ fun i b hb => (by have := hN i b hb; omega)); exact AHeap.le_refl _)⟩
  have d3 : decide ((g.as.length : Int) > 200) = false := by simp; omega
  by_cases c4 : 64 < g.os.length
  · have d4 : decide ((g.os.length : Int) > 64) = true := by simp; omega
    have hv : longB g = true := by simp [longB]; omega
    rw [hv]
    first | refine awp_seq (awp_lit ?_) | refine awp_lit ?_ | refine awp_seq (awp_seq (awp_lit ?_))
    refine al_pureN 1 (by simp only [go_sem, ↓reduceIte, Nat.reduceLT, Nat.reduceEqDiff, Nat.reduceLeDiff, Nat.reduceAdd, Nat.reduceMul, Int.reduceLT, Int.reduceLE, Int.reduceToNat, BitVec.reduceOfInt, Nat.reduceBEq, d0, d2, d3, d4]; try rfl) ?_
    refine al_load rfl (by simp only [go_sem, ↓reduceIte, Nat.reduceLT, Nat.reduceEqDiff, Nat.reduceLeDiff, Nat.reduceAdd, Nat.reduceMul, Int.reduceLT, Int.reduceLE, Int.reduceToNat, BitVec.reduceOfInt, Nat.reduceBEq, d0, d2, d3, d4]) rfl (by simp only [go_sem, ↓reduceIte, Nat.reduceLT, Nat.reduceEqDiff, Nat.reduceLeDiff, Nat.reduceAdd, Nat.reduceMul, Int.reduceLT, Int.reduceLE, Int.reduceToNat, BitVec.reduceOfInt, Nat.reduceBEq, d0, d2, d3, d4]; try rfl) (by first | exact AHeap.set_self _ _ _ | (simp only [AHeap.set, ↓reduceIte, Nat.add_assoc, Nat.reduceAdd, Nat.add_left_cancel_iff, Nat.add_right_cancel_iff, Nat.left_eq_add, Nat.add_eq_left, Nat.add_eq_right, Nat.right_eq_add, Nat.reduceEqDiff, Nat.succ_ne_zero, d0, d2, d3, d4]; rfl) | assumption) (by first | exact loadA_scalar agg3 rfl | exact loadA_agg agg3 rfl | exact loadA_scalar agg3 (by assumption)) ?_
    refine al_pureN 2 (by simp only [go_sem, ↓reduceIte, Nat.reduceLT, Nat.reduceEqDiff, Nat.reduceLeDiff, Nat.reduceAdd, Nat.reduceMul, Int.reduceLT, Int.reduceLE, Int.reduceToNat, BitVec.reduceOfInt, Nat.reduceBEq, d0, d2, d3, d4]; try rfl) ?_
    refine al_pureN 1 (by simp only [go_sem, ↓reduceIte, Nat.reduceLT, Nat.reduceEqDiff, Nat.reduceLeDiff, Nat.reduceAdd, Nat.reduceMul, Int.reduceLT, Int.reduceLE, Int.reduceToNat, BitVec.reduceOfInt, Nat.reduceBEq, d0, d2, d3, d4]; try rfl) ?_
    refine al_pureN 1 (by simp only [go_sem, ↓reduceIte, Nat.reduceLT, Nat.reduceEqDiff, Nat.reduceLeDiff, Nat.reduceAdd, Nat.reduceMul, Int.reduceLT, Int.reduceLE, Int.reduceToNat, BitVec.reduceOfInt, Nat.reduceBEq, d0, d2, d3, d4, undef]; try rfl) ?_
    refine al_pureN 2 (by simp only [go_sem, ↓reduceIte, Nat.reduceLT, Nat.reduceEqDiff, Nat.reduceLeDiff, Nat.reduceAdd, Nat.reduceMul, Int.reduceLT, Int.reduceLE, Int.reduceToNat, BitVec.reduceOfInt, Nat.reduceBEq, d0, d2, d3, d4]; try rfl) ?_
    refine al_pureN 2 (by simp only [go_sem, ↓reduceIte, Nat.reduceLT, Nat.reduceEqDiff, Nat.reduceLeDiff, Nat.reduceAdd, Nat.reduceMul, Int.reduceLT, Int.reduceLE, Int.reduceToNat, BitVec.reduceOfInt, Nat.reduceBEq, d0, d2, d3, d4]; try rfl) ?_
    refine al_load rfl (by simp only [go_sem, ↓reduceIte, Nat.reduceLT, Nat.reduceEqDiff, Nat.reduceLeDiff, Nat.reduceAdd, Nat.reduceMul, Int.reduceLT, Int.reduceLE, Int.reduceToNat, BitVec.reduceOfInt, Nat.reduceBEq, d0, d2, d3, d4]) rfl (by simp only [go_sem, ↓reduceIte, Nat.reduceLT, Nat.reduceEqDiff, Nat.reduceLeDiff, Nat.reduceAdd, Nat.reduceMul, Int.reduceLT, Int.reduceLE, Int.reduceToNat, BitVec.reduceOfInt, Nat.reduceBEq, d0, d2, d3, d4]; try rfl) (by first | exact AHeap.set_self _ _ _ | (simp only [AHeap.set, ↓reduceIte, Nat.add_assoc, Nat.reduceAdd, Nat.add_left_cancel_iff, Nat.add_right_cancel_iff, Nat.left_eq_add, Nat.add_eq_left, Nat.add_eq_right, Nat.right_eq_add, Nat.reduceEqDiff, Nat.succ_ne_zero, d0, d2, d3, d4]; rfl) | assumption) (by first | exact loadA_scalar agg22 rfl | exact loadA_agg agg22 rfl | exact loadA_scalar agg22 (by assumption)) ?_
    refine al_pureN 1 (by simp only [go_sem, ↓reduceIte, Nat.reduceLT, Nat.reduceEqDiff, Nat.reduceLeDiff, Nat.reduceAdd, Nat.reduceMul, Int.reduceLT, Int.reduceLE, Int.reduceToNat, BitVec.reduceOfInt, Nat.reduceBEq, d0, d2, d3, d4]; try rfl) ?_
    refine al_pureN 2 (by simp only [go_sem, ↓reduceIte, Nat.reduceLT, Nat.reduceEqDiff, Nat.reduceLeDiff, Nat.reduceAdd, Nat.reduceMul, Int.reduceLT, Int.reduceLE, Int.reduceToNat, BitVec.reduceOfInt, Nat.reduceBEq, d0, d2, d3, d4]; try rfl) ?_
    refine al_pureN 2 (by simp only [go_sem, ↓reduceIte, Nat.reduceLT, Nat.reduceEqDiff, Nat.reduceLeDiff, Nat.reduceAdd, Nat.reduceMul, Int.reduceLT, Int.reduceLE, Int.reduceToNat, BitVec.reduceOfInt, Nat.reduceBEq, d0, d2, d3, d4]; try rfl) ?_
    refine al_load rfl (by simp only [go_sem, ↓reduceIte, Nat.reduceLT, Nat.reduceEqDiff, Nat.reduceLeDiff, Nat.reduceAdd, Nat.reduceMul, Int.reduceLT, Int.reduceLE, Int.reduceToNat, BitVec.reduceOfInt, Nat.reduceBEq, d0, d2, d3, d4]) rfl (by simp only [go_sem, ↓reduceIte, Nat.reduceLT, Nat.reduceEqDiff, Nat.reduceLeDiff, Nat.reduceAdd, Nat.reduceMul, Int.reduceLT, Int.reduceLE, Int.reduceToNat, BitVec.reduceOfInt, Nat.reduceBEq, d0, d2, d3, d4]; try rfl) (by first | exact AHeap.set_self _ _ _ | (simp only [AHeap.set, ↓reduceIte, Nat.add_assoc, Nat.reduceAdd, Nat.add_left_cancel_iff, Nat.add_right_cancel_iff, Nat.left_eq_add, Nat.add_eq_left, Nat.add_eq_right, Nat.right_eq_add, Nat.reduceEqDiff, Nat.succ_ne_zero, d0, d2, d3, d4]; rfl) | assumption) (by first | exact loadA_scalar agg23 rfl | exact loadA_agg agg23 rfl | exact loadA_scalar agg23 (by assumption)) ?_
    refine al_pureN 1 (by simp only [go_sem, ↓reduceIte, Nat.reduceLT, Nat.reduceEqDiff, Nat.reduceLeDiff, Nat.reduceAdd, Nat.reduceMul, Int.reduceLT, Int.reduceLE, Int.reduceToNat, BitVec.reduceOfInt, Nat.reduceBEq, d0, d2, d3, d4]; try rfl) ?_
    refine al_pureN 2 (by simp only [go_sem, ↓reduceIte, Nat.reduceLT, Nat.reduceEqDiff, Nat.reduceLeDiff, Nat.reduceAdd, Nat.reduceMul, Int.reduceLT, Int.reduceLE, Int.reduceToNat, BitVec.reduceOfInt, Nat.reduceBEq, d0, d2, d3, d4]; try rfl) ?_
    refine al_pureN 2 (by simp only [go_sem, ↓reduceIte, Nat.reduceLT, Nat.reduceEqDiff, Nat.reduceLeDiff, Nat.reduceAdd, Nat.reduceMul, Int.reduceLT, Int.reduceLE, Int.reduceToNat, BitVec.reduceOfInt, Nat.reduceBEq, d0, d2, d3, d4]; try rfl) ?_
    refine al_load rfl (by simp only [go_sem, ↓reduceIte, Nat.reduceLT, Nat.reduceEqDiff, Nat.reduceLeDiff, Nat.reduceAdd, Nat.reduceMul, Int.reduceLT, Int.reduceLE, Int.reduceToNat, BitVec.reduceOfInt, Nat.reduceBEq, d0, d2, d3, d4]) rfl (by simp only [go_sem, ↓reduceIte, Nat.reduceLT, Nat.reduceEqDiff, Nat.reduceLeDiff, Nat.reduceAdd, Nat.reduceMul, Int.reduceLT, Int.reduceLE, Int.reduceToNat, BitVec.reduceOfInt, Nat.reduceBEq, d0, d2, d3, d4]; try rfl) (by first | exact AHeap.set_self _ _ _ | (simp only [AHeap.set, ↓reduceIte, Nat.add_assoc, Nat.reduceAdd, Nat.add_left_cancel_iff, Nat.add_right_cancel_iff, Nat.left_eq_add, Nat.add_eq_left, Nat.add_eq_right, Nat.right_eq_add, Nat.reduceEqDiff, Nat.succ_ne_zero, d0, d2, d3, d4]; rfl) | assumption) (by first | exact loadA_scalar agg24 rfl | exact loadA_agg agg24 rfl | exact loadA_scalar agg24 (by assumption)) ?_
    refine al_pureN 1 (by simp only [go_sem, ↓reduceIte, Nat.reduceLT, Nat.reduceEqDiff, Nat.reduceLeDiff, Nat.reduceAdd, Nat.reduceMul, Int.reduceLT, Int.reduceLE, Int.reduceToNat, BitVec.reduceOfInt, Nat.reduceBEq, d0, d2, d3, d4]; try rfl) ?_
    refine al_pureN 2 (by simp only [go_sem, ↓reduceIte, Nat.reduceLT, Nat.reduceEqDiff, Nat.reduceLeDiff, Nat.reduceAdd, Nat.reduceMul, Int.reduceLT, Int.reduceLE, Int.reduceToNat, BitVec.reduceOfInt, Nat.reduceBEq, d0, d2, d3, d4]; try rfl) ?_
    refine al_pureN 1 (by simp only [go_sem, ↓reduceIte, Nat.reduceLT, Nat.reduceEqDiff, Nat.reduceLeDiff, Nat.reduceAdd, Nat.reduceMul, Int.reduceLT, Int.reduceLE, Int.reduceToNat, BitVec.reduceOfInt, Nat.reduceBEq, d0, d2, d3, d4]; try rfl) ?_
    refine al_end [2] ?_
    exact awp_ret ⟨_, rfl, rfl, (by (repeat refine AHeap.le_set ?_ fun i b hb => (by have := hN i b hb; omega)); exact AHeap.le_refl _)⟩
  have d4 : decide ((g.os.length : Int) > 64) = false := by simp; omega
  have hv : longB g = false := by simp [longB]; omega
  rw [hv]
  first | refine awp_seq (awp_lit ?_) | refine awp_lit ?_ | refine awp_seq (awp_seq (awp_lit ?_))
  refine al_pureN 1 (by simp only [go_sem, ↓reduceIte, Nat.reduceLT, Nat.reduceEqDiff, Nat.reduceLeDiff, Nat.reduceAdd, Nat.reduceMul, Int.reduceLT, Int.reduceLE, Int.reduceToNat, BitVec.reduceOfInt, Nat.reduceBEq, d0, d2, d3, d4]; try rfl) ?_
  refine al_load rfl (by simp only [go_sem, ↓reduceIte, Nat.reduceLT, Nat.reduceEqDiff, Nat.reduceLeDiff, Nat.reduceAdd, Nat.reduceMul, Int.reduceLT, Int.reduceLE, Int.reduceToNat, BitVec.reduceOfInt, Nat.reduceBEq, d0, d2, d3, d4]) rfl (by simp only [go_sem, ↓reduceIte, Nat.reduceLT, Nat.reduceEqDiff, Nat.reduceLeDiff, Nat.reduceAdd, Nat.reduceMul, Int.reduceLT, Int.reduceLE, Int.reduceToNat, BitVec.reduceOfInt, Nat.reduceBEq, d0, d2, d3, d4]; try rfl) (by first | exact AHeap.set_self _ _ _ | (simp only [AHeap.set, ↓reduceIte, Nat.add_assoc, Nat.reduceAdd, Nat.add_left_cancel_iff, Nat.add_right_cancel_iff, Nat.left_eq_add, Nat.add_eq_left, Nat.add_eq_right, Nat.right_eq_add, Nat.reduceEqDiff, Nat.succ_ne_zero, d0, d2, d3, d4]; rfl) | assumption) (by first | exact loadA_scalar agg3 rfl | exact loadA_agg agg3 rfl | exact loadA_scalar agg3 (by assumption)) ?_
  refine al_pureN 2 (by simp only [go_sem, ↓reduceIte, Nat.reduceLT, Nat.reduceEqDiff, Nat.reduceLeDiff, Nat.reduceAdd, Nat.reduceMul, Int.reduceLT, Int.reduceLE, Int.reduceToNat, BitVec.reduceOfInt, Nat.reduceBEq, d0, d2, d3, d4]; try rfl) ?_
  refine al_pureN 1 (by simp only [go_sem, ↓reduceIte, Nat.reduceLT, Nat.reduceEqDiff, Nat.reduceLeDiff, Nat.reduceAdd, Nat.reduceMul, Int.reduceLT, Int.reduceLE, Int.reduceToNat, BitVec.reduceOfInt, Nat.reduceBEq, d0, d2, d3, d4]; try rfl) ?_
  refine al_pureN 1 (by simp only [go_sem, ↓reduceIte, Nat.reduceLT, Nat.reduceEqDiff, Nat.reduceLeDiff, Nat.reduceAdd, Nat.reduceMul, Int.reduceLT, Int.reduceLE, Int.reduceToNat, BitVec.reduceOfInt, Nat.reduceBEq, d0, d2, d3, d4, undef]; try rfl) ?_
  refine al_pureN 2 (by simp only [go_sem, ↓reduceIte, Nat.reduceLT, Nat.reduceEqDiff, Nat.reduceLeDiff, Nat.reduceAdd, Nat.reduceMul, Int.reduceLT, Int.reduceLE, Int.reduceToNat, BitVec.reduceOfInt, Nat.reduceBEq, d0, d2, d3, d4]; try rfl) ?_
  refine al_pureN 2 (by simp only [go_sem, ↓reduceIte, Nat.reduceLT, Nat.reduceEqDiff, Nat.reduceLeDiff, Nat.reduceAdd, Nat.reduceMul, Int.reduceLT, Int.reduceLE, Int.reduceToNat, BitVec.reduceOfInt, Nat.reduceBEq, d0, d2, d3, d4]; try rfl) ?_
  refine al_load rfl (by simp only [go_sem, ↓reduceIte, Nat.reduceLT, Nat.reduceEqDiff, Nat.reduceLeDiff, Nat.reduceAdd, Nat.reduceMul, Int.reduceLT, Int.reduceLE, Int.reduceToNat, BitVec.reduceOfInt, Nat.reduceBEq, d0, d2, d3, d4]) rfl (by simp only [go_sem, ↓reduceIte, Nat.reduceLT, Nat.reduceEqDiff, Nat.reduceLeDiff, Nat.reduceAdd, Nat.reduceMul, Int.reduceLT, Int.reduceLE, Int.reduceToNat, BitVec.reduceOfInt, Nat.reduceBEq, d0, d2, d3, d4]; try rfl) (by first | exact AHeap.set_self _ _ _ | (simp only [AHeap.set, ↓reduceIte, Nat.add_assoc, Nat.reduceAdd, Nat.add_left_cancel_iff, Nat.add_right_cancel_iff, Nat.left_eq_add, Nat.add_eq_left, Nat.add_eq_right, Nat.right_eq_add, Nat.reduceEqDiff, Nat.succ_ne_zero, d0, d2, d3, d4]; rfl) | assumption) (by first | exact loadA_scalar agg22 rfl | exact loadA_agg agg22 rfl | exact loadA_scalar agg22 (by assumption)) ?_
  refine al_pureN 1 (by simp only [go_sem, ↓reduceIte, Nat.reduceLT, Nat.reduceEqDiff, Nat.reduceLeDiff, Nat.reduceAdd, Nat.reduceMul, Int.reduceLT, Int.reduceLE, Int.reduceToNat, BitVec.reduceOfInt, Nat.reduceBEq, d0, d2, d3, d4]; try rfl) ?_
  refine al_pureN 2 (by simp only [go_sem, ↓reduceIte, Nat.reduceLT, Nat.reduceEqDiff, Nat.reduceLeDiff, Nat.reduceAdd, Nat.reduceMul, Int.reduceLT, Int.reduceLE, Int.reduceToNat, BitVec.reduceOfInt, Nat.reduceBEq, d0, d2, d3, d4]; try rfl) ?_
  refine al_pureN 2 (by simp only [go_sem, ↓reduceIte, Nat.reduceLT, Nat.reduceEqDiff, Nat.reduceLeDiff, Nat.reduceAdd, Nat.reduceMul, Int.reduceLT, Int.reduceLE, Int.reduceToNat, BitVec.reduceOfInt, Nat.reduceBEq, d0, d2, d3, d4]; try rfl) ?_
  refine al_load rfl (by simp only [go_sem, ↓reduceIte, Nat.reduceLT, Nat.reduceEqDiff, Nat.reduceLeDiff, Nat.reduceAdd, Nat.reduceMul, Int.reduceLT, Int.reduceLE, Int.reduceToNat, BitVec.reduceOfInt, Nat.reduceBEq, d0, d2, d3, d4]) rfl (by simp only [go_sem, ↓reduceIte, Nat.reduceLT, Nat.reduceEqDiff, Nat.reduceLeDiff, Nat.reduceAdd, Nat.reduceMul, Int.reduceLT, Int.reduceLE, Int.reduceToNat, BitVec.reduceOfInt, Nat.reduceBEq, d0, d2, d3, d4]; try rfl) (by first | exact AHeap.set_self _ _ _ | (simp only [AHeap.set, ↓reduceIte, Nat.add_assoc, Nat.reduceAdd, Nat.add_left_cancel_iff, Nat.add_right_cancel_iff, Nat.left_eq_add, Nat.add_eq_left, Nat.add_eq_right, Nat.right_eq_add, Nat.reduceEqDiff, Nat.succ_ne_zero, d0, d2, d3, d4]; rfl) | assumption) (by first | exact loadA_scalar agg23 rfl | exact loadA_agg agg23 rfl | exact loadA_scalar agg23 (by assumption)) ?_
  refine al_pureN 1 (by simp only [go_sem, ↓reduceIte, Nat.reduceLT, Nat.reduceEqDiff, Nat.reduceLeDiff, Nat.reduceAdd, Nat.reduceMul, Int.reduceLT, Int.reduceLE, Int.reduceToNat, BitVec.reduceOfInt, Nat.reduceBEq, d0, d2, d3, d4]; try rfl) ?_
  refine al_pureN 2 (by simp only [go_sem, ↓reduceIte, Nat.reduceLT, Nat.reduceEqDiff, Nat.reduceLeDiff, Nat.reduceAdd, Nat.reduceMul, Int.reduceLT, Int.reduceLE, Int.reduceToNat, BitVec.reduceOfInt, Nat.reduceBEq, d0, d2, d3, d4]; try rfl) ?_
  refine al_pureN 2 (by simp only [go_sem, ↓reduceIte, Nat.reduceLT, Nat.reduceEqDiff, Nat.reduceLeDiff, Nat.reduceAdd, Nat.reduceMul, Int.reduceLT, Int.reduceLE, Int.reduceToNat, BitVec.reduceOfInt, Nat.reduceBEq, d0, d2, d3, d4]; try rfl) ?_
  refine al_load rfl (by simp only [go_sem, ↓reduceIte, Nat.reduceLT, Nat.reduceEqDiff, Nat.reduceLeDiff, Nat.reduceAdd, Nat.reduceMul, Int.reduceLT, Int.reduceLE, Int.reduceToNat, BitVec.reduceOfInt, Nat.reduceBEq, d0, d2, d3, d4]) rfl (by simp only [go_sem, ↓reduceIte, Nat.reduceLT, Nat.reduceEqDiff, Nat.reduceLeDiff, Nat.reduceAdd, Nat.reduceMul, Int.reduceLT, Int.reduceLE, Int.reduceToNat, BitVec.reduceOfInt, Nat.reduceBEq, d0, d2, d3, d4]; try rfl) (by first | exact AHeap.set_self _ _ _ | (simp only [AHeap.set, ↓reduceIte, Nat.add_assoc, Nat.reduceAdd, Nat.add_left_cancel_iff, Nat.add_right_cancel_iff, Nat.left_eq_add, Nat.add_eq_left, Nat.add_eq_right, Nat.right_eq_add, Nat.reduceEqDiff, Nat.succ_ne_zero, d0, d2, d3, d4]; rfl) | assumption) (by first | exact loadA_scalar agg24 rfl | exact loadA_agg agg24 rfl | exact loadA_scalar agg24 (by assumption)) ?_
  refine al_pureN 1 (by simp only [go_sem, ↓reduceIte, Nat.reduceLT, Nat.reduceEqDiff, Nat.reduceLeDiff, Nat.reduceAdd, Nat.reduceMul, Int.reduceLT, Int.reduceLE, Int.reduceToNat, BitVec.reduceOfInt, Nat.reduceBEq, d0, d2, d3, d4]; try rfl) ?_
  refine al_pureN 2 (by simp only [go_sem, ↓reduceIte, Nat.reduceLT, Nat.reduceEqDiff, Nat.reduceLeDiff, Nat.reduceAdd, Nat.reduceMul, Int.reduceLT, Int.reduceLE, Int.reduceToNat, BitVec.reduceOfInt, Nat.reduceBEq, d0, d2, d3, d4]; try rfl) ?_
  refine al_pureN 1 (by simp only [go_sem, ↓reduceIte, Nat.reduceLT, Nat.reduceEqDiff, Nat.reduceLeDiff, Nat.reduceAdd, Nat.reduceMul, Int.reduceLT, Int.reduceLE, Int.reduceToNat, BitVec.reduceOfInt, Nat.reduceBEq, d0, d2, d3, d4]; try rfl) ?_
  refine al_end [2] ?_
  exact awp_ret ⟨_, rfl, rfl, (by (repeat refine AHeap.le_set ?_ fun i b hb => (by have := hN i b hb; omega)); exact AHeap.le_refl _)⟩
end Go.Proofs.Ytfialjllclclkaa

/- The walk of the reference's Uses, on valid graphs. -/
set_option linter.unusedSimpArgs false
set_option linter.unusedVariables false
namespace Go.Proofs.Ytfialjllclclkaa
open Go.Abs Go.Cut
attribute [local go_sem] Try.underlying26 Try.underlying66 Try.underlying69 Try.underlying3 Try.underlying22 Try.underlying23 Try.underlying24 Try.underlying35 Try.underlying43 Try.underlying45 Try.underlying47 Try.underlying5 Try.underlying4 Try.underlying30 Try.underlying56 size26 size66 size69 size3 size22 size23 size24 size35 size43 size45 size47 size5 size4 size30 Nat.mul_one
theorem Uses_ok {g : AigD} {v : Value} {n N : Nat} {σ : AHeap} (hv : AigAt σ v g) (hfew : Few g) (hV : Valid g) (hn : sizeC g = (n : Int)) :
    AOk Try.prog 27 [v] N σ fun r N1 σ1 => OwnAt σ1 N r (nums (cntF (allLits g)) n) n 1 ∧ σ.le σ1 ∧ N ≤ N1 := by
  have hv0 := hv
  obtain ⟨lb, lc, ab, ac, ob, oc, rfl, hl, ha, ho⟩ := hv.opn
  have hla := hfew.as
  have hll := hfew.ls
  have hlo := hfew.os
  have hinp := hV.inp
  have hsz := hV.size
  have hchk := hV.ands
  have hchl := hV.latches
  have hcho := hV.outs
  rw [hn] at hchl hcho hsz
  have hfn : firstC g + g.as.length = n := hn
  have hff : 1 + g.inp + g.ls.length = firstC g := rfl
  refine aok_fresh fun hN => aok_body (r := false) (n := 69) Try.func27 rfl rfl (by simp) ?_
  first | refine awp_seq (awp_lit ?_) | refine awp_lit ?_ | refine awp_seq (awp_seq (awp_lit ?_))
  refine al_box 1 rfl rfl rfl (by simp only [go_sem, ↓reduceIte, Nat.reduceLT, Nat.reduceEqDiff, Nat.reduceLeDiff, Nat.reduceAdd, Nat.reduceMul, Int.reduceLT, Int.reduceLE, Int.reduceToNat, BitVec.reduceOfInt, Nat.reduceBEq]; try rfl) ?_
  refine al_pureN 1 (by simp only [go_sem, ↓reduceIte, Nat.reduceLT, Nat.reduceEqDiff, Nat.reduceLeDiff, Nat.reduceAdd, Nat.reduceMul, Int.reduceLT, Int.reduceLE, Int.reduceToNat, BitVec.reduceOfInt, Nat.reduceBEq]; try rfl) ?_
  refine al_end [1] ?_
  obtain ⟨G, hG⟩ : ∃ G, G = spread (.agg #[.int .i64 g.inp, .slice lb g.ls.length lc, .slice ab g.as.length ac, .slice ob g.os.length oc]) := ⟨_, rfl⟩
  first | refine awp_seq (awp_lit ?_) | refine awp_lit ?_ | refine awp_seq (awp_seq (awp_lit ?_))
  refine al_load rfl (by simp only [go_sem, ↓reduceIte, Nat.reduceLT, Nat.reduceEqDiff, Nat.reduceLeDiff, Nat.reduceAdd, Nat.reduceMul, Int.reduceLT, Int.reduceLE, Int.reduceToNat, BitVec.reduceOfInt, Nat.reduceBEq]) rfl (by simp only [go_sem, ↓reduceIte, Nat.reduceLT, Nat.reduceEqDiff, Nat.reduceLeDiff, Nat.reduceAdd, Nat.reduceMul, Int.reduceLT, Int.reduceLE, Int.reduceToNat, BitVec.reduceOfInt, Nat.reduceBEq]; try rfl) (by first | exact AHeap.set_self _ _ _ | (simp only [AHeap.set, ↓reduceIte, Nat.add_assoc, Nat.reduceAdd, Nat.add_left_cancel_iff, Nat.add_right_cancel_iff, Nat.left_eq_add, Nat.add_eq_left, Nat.add_eq_right, Nat.right_eq_add, Nat.reduceEqDiff, Nat.succ_ne_zero]; rfl) | assumption) (by first | exact loadA_scalar agg26 rfl | exact loadA_agg agg26 rfl | exact loadA_scalar agg26 (by assumption)) ?_
  refine al_gives (vs := ?vs1) (v := ?v1) rfl ?ha1 ?hh1 (by kernel_rfl) rfl (by simp only [go_sem, ↓reduceIte, Nat.reduceLT, Nat.reduceEqDiff, Nat.reduceLeDiff, Nat.reduceAdd, Nat.reduceMul, Int.reduceLT, Int.reduceLE, Int.reduceToNat, BitVec.reduceOfInt, Nat.reduceBEq]) ?kk1
  case ha1 => simp only [go_sem, ↓reduceIte, Nat.reduceLT, Nat.reduceEqDiff, Nat.reduceLeDiff, Nat.reduceAdd, Nat.reduceMul, Int.reduceLT, Int.reduceLE, Int.reduceToNat, BitVec.reduceOfInt, Nat.reduceBEq]; try rfl
  case hh1 => exact (hn ▸ nodes_gives (hv0.mono (le_new hN (Nat.le_refl _))) hfew (by omega) (by omega) : Gives Try.prog 34 _ _ _ (.int .i64 (n : Int)))
  refine al_makeSlice (len := n) rfl (by simp only [go_sem, ↓reduceIte, Nat.reduceLT, Nat.reduceEqDiff, Nat.reduceLeDiff, Nat.reduceAdd, Nat.reduceMul, Int.reduceLT, Int.reduceLE, Int.reduceToNat, BitVec.reduceOfInt, Nat.reduceBEq]; try rfl) rfl Try.underlying35 ty3 (by decide) rfl (by decide) (by simp only [go_sem, ↓reduceIte, Nat.reduceLT, Nat.reduceEqDiff, Nat.reduceLeDiff, Nat.reduceAdd, Nat.reduceMul, Int.reduceLT, Int.reduceLE, Int.reduceToNat, BitVec.reduceOfInt, Nat.reduceBEq]; try rfl) (by simp only [go_sem, ↓reduceIte, Nat.reduceLT, Nat.reduceEqDiff, Nat.reduceLeDiff, Nat.reduceAdd, Nat.reduceMul, Int.reduceLT, Int.reduceLE, Int.reduceToNat, BitVec.reduceOfInt, Nat.reduceBEq]; try rfl) (by omega) (by omega) ?_
  refine al_pureN 1 (by simp only [go_sem, ↓reduceIte, Nat.reduceLT, Nat.reduceEqDiff, Nat.reduceLeDiff, Nat.reduceAdd, Nat.reduceMul, Int.reduceLT, Int.reduceLE, Int.reduceToNat, BitVec.reduceOfInt, Nat.reduceBEq]; try rfl) ?_
  refine al_end [1, 3] ?_
  rw [nums_zero]
  show Abs.Seq _ _ _ _ _ _ _ _ ((σ.set N ⟨spread (.agg #[.int .i64 g.inp, .slice lb g.ls.length lc, .slice ab g.as.length ac, .slice ob g.os.length oc]), true, 1⟩).set (N + 1) _)
  rw [← hG]
  have hNN : ¬ N = N + 1 := by omega
  have hσp : ∀ c, σ.le ((σ.set N ⟨G, true, 1⟩).set (N + 1) ⟨c, true, 1⟩) := fun c => (le_new hN (Nat.le_refl _)).trans (le_new (dom_set hN) (Nat.le_refl _))
  have hGN : ∀ c, ((σ.set N ⟨G, true, 1⟩).set (N + 1) ⟨c, true, 1⟩) N = some ⟨spread (.agg #[.int .i64 g.inp, .slice lb g.ls.length lc, .slice ab g.as.length ac, .slice ob g.os.length oc]), true, 1⟩ := fun c => by
    rw [AHeap.set_ne _ _ hNN, AHeap.set_self, hG]
  refine awp_seq ?_
  first | refine awp_seq (awp_lit ?_) | refine awp_lit ?_ | refine awp_seq (awp_seq (awp_lit ?_))
  refine al_pureN 1 (by simp only [go_sem, ↓reduceIte, Nat.reduceLT, Nat.reduceEqDiff, Nat.reduceLeDiff, Nat.reduceAdd, Nat.reduceMul, Int.reduceLT, Int.reduceLE, Int.reduceToNat, BitVec.reduceOfInt, Nat.reduceBEq]; try rfl) ?_
  refine al_load rfl (by simp only [go_sem, ↓reduceIte, Nat.reduceLT, Nat.reduceEqDiff, Nat.reduceLeDiff, Nat.reduceAdd, Nat.reduceMul, Int.reduceLT, Int.reduceLE, Int.reduceToNat, BitVec.reduceOfInt, Nat.reduceBEq]) rfl (by simp only [go_sem, ↓reduceIte, Nat.reduceLT, Nat.reduceEqDiff, Nat.reduceLeDiff, Nat.reduceAdd, Nat.reduceMul, Int.reduceLT, Int.reduceLE, Int.reduceToNat, BitVec.reduceOfInt, Nat.reduceBEq]; try rfl) (hGN _) (loadA_scalar agg23 rfl) ?_
  refine al_pureN 2 (by simp only [go_sem, ↓reduceIte, Nat.reduceLT, Nat.reduceEqDiff, Nat.reduceLeDiff, Nat.reduceAdd, Nat.reduceMul, Int.reduceLT, Int.reduceLE, Int.reduceToNat, BitVec.reduceOfInt, Nat.reduceBEq]; try rfl) ?_
  refine al_end [1, 3, 14, 15, 16] ?_
  have bnd : ∀ (p : List Int) (k : Nat), p.length ≤ 1000 → -9223372036854775808 ≤ ((cntF p k : Nat) : Int) + 1 ∧ ((cntF p k : Nat) : Int) + 1 ≤ 9223372036854775807 := fun p k hp => by
    have := cntF_le p k; omega
  refine awp_block (awp_loop ?_)
  refine ALoop.cast3 (aloop_ind (α := Nat × Nat) (fun a => a.1 ≤ g.as.length ∧ N + 2 ≤ a.2) (fun a => g.as.length - a.1)
    (fun a => [(1, .pointer (some ⟨N, 0, none⟩)), (3, .slice (some ⟨N + 1, 0, none⟩) n n), (14, .slice ab g.as.length ac), (15, .int .i64 g.as.length), (16, .int .i64 a.1)]) (fun a => a.2) (fun a => (σ.set N ⟨G, true, 1⟩).set (N + 1) ⟨nums (cntF (andLits (g.as.take a.1))) n, true, 1⟩) ?_ (0, N + 2) ⟨Nat.zero_le _, Nat.le_refl _⟩) rfl rfl rfl
  rintro ⟨j, M⟩ ⟨hj, hM⟩ ih
  dsimp only at hj hM ih ⊢
  by_cases hlt : j < g.as.length
  · have hb : decide ((j : Int) < (g.as.length : Int)) = true := by simpa using hlt
    refine awp_seq (awp_pures [1, 3, 14, 15, 16, 17] (by simp only [go_sem, ↓reduceIte, Nat.reduceLT, Nat.reduceEqDiff, Nat.reduceLeDiff, Nat.reduceAdd, Nat.reduceMul, Int.reduceLT, Int.reduceLE, Int.reduceToNat, BitVec.reduceOfInt, Nat.reduceBEq, hb]; try rfl) ?_)
    refine awp_seq ?_
    refine awp_if rfl (fun _ => ?_) (fun h => by cases h)
    refine awp_skip ?_
    refine awp_seq (awp_block ?_)
    have hjj : 0 ≤ (j : Int) ∧ (j : Int) < (g.as.length : Int) := by omega
    obtain ⟨b1, b2, b3, b4⟩ := chkA_get hchk hlt
    obtain ⟨id, off, cap, b, e1, e2, e3, e4⟩ := rowsAt_pair (ha.mono (hσp (nums (cntF (andLits (g.as.take j))) n))) hlt
    cases e1
    first | refine awp_seq (awp_lit ?_) | refine awp_lit ?_ | refine awp_seq (awp_seq (awp_lit ?_))
    refine al_pureN 1 (by simp only [go_sem, ↓reduceIte, Nat.reduceLT, Nat.reduceEqDiff, Nat.reduceLeDiff, Nat.reduceAdd, Nat.reduceMul, Int.reduceLT, Int.reduceLE, Int.reduceToNat, BitVec.reduceOfInt, Nat.reduceBEq, hjj]; try rfl) ?_
    refine al_load rfl (by simp only [go_sem, ↓reduceIte, Nat.reduceLT, Nat.reduceEqDiff, Nat.reduceLeDiff, Nat.reduceAdd, Nat.reduceMul, Int.reduceLT, Int.reduceLE, Int.reduceToNat, BitVec.reduceOfInt, Nat.reduceBEq, hjj]) rfl (by simp only [go_sem, ↓reduceIte, Nat.reduceLT, Nat.reduceEqDiff, Nat.reduceLeDiff, Nat.reduceAdd, Nat.reduceMul, Int.reduceLT, Int.reduceLE, Int.reduceToNat, BitVec.reduceOfInt, Nat.reduceBEq, hjj]; try rfl) e2 (loadA_agg agg47 e3) ?_
    refine al_alloc 1 rfl rfl rfl ty47 (by decide) ?_
    refine al_store rfl (by simp only [go_sem, ↓reduceIte, Nat.reduceLT, Nat.reduceEqDiff, Nat.reduceLeDiff, Nat.reduceAdd, Nat.reduceMul, Int.reduceLT, Int.reduceLE, Int.reduceToNat, BitVec.reduceOfInt, Nat.reduceBEq, hjj]) rfl (by simp only [go_sem, ↓reduceIte, Nat.reduceLT, Nat.reduceEqDiff, Nat.reduceLeDiff, Nat.reduceAdd, Nat.reduceMul, Int.reduceLT, Int.reduceLE, Int.reduceToNat, BitVec.reduceOfInt, Nat.reduceBEq, hjj]; try rfl) (by simp only [go_sem, ↓reduceIte, Nat.reduceLT, Nat.reduceEqDiff, Nat.reduceLeDiff, Nat.reduceAdd, Nat.reduceMul, Int.reduceLT, Int.reduceLE, Int.reduceToNat, BitVec.reduceOfInt, Nat.reduceBEq, hjj]; try rfl) (by first | exact AHeap.set_self _ _ _ | (simp only [AHeap.set, ↓reduceIte, Nat.add_assoc, Nat.reduceAdd, Nat.add_left_cancel_iff, Nat.add_right_cancel_iff, Nat.left_eq_add, Nat.add_eq_left, Nat.add_eq_right, Nat.right_eq_add, Nat.reduceEqDiff, Nat.succ_ne_zero, hjj]; rfl) | assumption) rfl (by exact size47.trans rfl) (by rfl) (by exact Nat.le_of_ble_eq_true rfl) ?_
    refine al_end [1, 3, 5, 14, 15, 16] ?_
    rw [AHeap.set_set]
    obtain ⟨A, hAe⟩ : ∃ A, A = g.as[j].1 := ⟨_, rfl⟩
    obtain ⟨B, hBe⟩ : ∃ B, B = g.as[j].2 := ⟨_, rfl⟩
    have hsn : andLits (g.as.take (j + 1)) = (andLits (g.as.take j) ++ [A]) ++ [B] := by
      rw [take_snoc _ hlt, andLits, List.flatMap_append]
      simp [andLits, hAe, hBe]
    rw [← hAe] at b1 b2 ⊢
    rw [← hBe] at b3 b4 ⊢
    obtain ⟨p, hp⟩ : ∃ p, p = andLits (g.as.take j) := ⟨_, rfl⟩
    have hpl : p.length ≤ 400 := by rw [hp, andLits_len, List.length_take]; omega
    rw [← hp] at hsn ⊢
    have hA1 : 0 ≤ A / 2 ∧ A / 2 < (n : Int) := by omega
    have hB1 : 0 ≤ B / 2 ∧ B / 2 < (n : Int) := by omega
    have hA2 : (A / 2).toNat = A.toNat / 2 := by omega
    have hB2 : (B / 2).toNat = B.toNat / 2 := by omega
    have qA := quo_two b1 (by omega)
    have qB := quo_two b3 (by omega)
    have gA : (nums (cntF p) n)[(A / 2).toNat]? = some (.int .i64 ((cntF p (A.toNat / 2) : Nat) : Int)) := by rw [hA2]; exact nums_get _ (by omega)
    have gB : (nums (cntF (p ++ [A])) n)[(B / 2).toNat]? = some (.int .i64 ((cntF (p ++ [A]) (B.toNat / 2) : Nat) : Int)) := by rw [hB2]; exact nums_get _ (by omega)
    have wA := bnd p (A.toNat / 2) (by omega)
    have wB := bnd (p ++ [A]) (B.toNat / 2) (by simp; omega)
    have hM1 : ¬ N + 1 = M := by omega
    obtain ⟨Y, hY⟩ : ∃ Y : Blk, Y = ⟨[.int .i64 A, .int .i64 B], true, .n 1⟩ := ⟨_, rfl⟩
    show Abs.Seq _ _ _ _ _ _ _ _ (((σ.set N ⟨G, true, 1⟩).set (N + 1) ⟨nums (cntF p) n, true, 1⟩).set M ⟨[.int .i64 A, .int .i64 B], true, .n 1⟩)
    rw [← hY]
    obtain ⟨τ, hτ⟩ : ∃ τ, τ = ((σ.set N ⟨G, true, 1⟩).set (N + 1) ⟨nums (cntF p) n, true, 1⟩).set M Y := ⟨_, rfl⟩
    have hU : τ (N + 1) = some ⟨nums (cntF p) n, true, .n 1⟩ := by rw [hτ, AHeap.set_ne _ _ hM1, AHeap.set_self]; rfl
    have hYM : τ M = some ⟨[.int .i64 A, .int .i64 B], true, .n 1⟩ := by rw [hτ, AHeap.set_self, hY]
    have hYM2 : ∀ X, (τ.set (N + 1) X) M = some ⟨[.int .i64 A, .int .i64 B], true, .n 1⟩ := fun X => by rw [AHeap.set_ne _ _ (by omega)]; exact hYM
    have hτle : (σ.set N ⟨G, true, 1⟩).le τ := by rw [hτ]; exact (le_new (dom_set hN) (Nat.le_refl _)).trans (le_new (dom_set (dom_set hN)) hM)
    rw [← hτ]
    first | refine awp_seq (awp_lit ?_) | refine awp_lit ?_ | refine awp_seq (awp_seq (awp_lit ?_))
    refine al_pureN 2 (by simp only [go_sem, ↓reduceIte, Nat.reduceLT, Nat.reduceEqDiff, Nat.reduceLeDiff, Nat.reduceAdd, Nat.reduceMul, Int.reduceLT, Int.reduceLE, Int.reduceToNat, BitVec.reduceOfInt, Nat.reduceBEq, qA, hA1, i64_add wA]; try rfl) ?_
    refine al_load rfl (by simp only [go_sem, ↓reduceIte, Nat.reduceLT, Nat.reduceEqDiff, Nat.reduceLeDiff, Nat.reduceAdd, Nat.reduceMul, Int.reduceLT, Int.reduceLE, Int.reduceToNat, BitVec.reduceOfInt, Nat.reduceBEq, qA, hA1, i64_add wA]) rfl (by simp only [go_sem, ↓reduceIte, Nat.reduceLT, Nat.reduceEqDiff, Nat.reduceLeDiff, Nat.reduceAdd, Nat.reduceMul, Int.reduceLT, Int.reduceLE, Int.reduceToNat, BitVec.reduceOfInt, Nat.reduceBEq, qA, hA1, i64_add wA]; try rfl) hYM (loadA_scalar agg43 rfl) ?_
    refine al_pureN 2 (by simp only [go_sem, ↓reduceIte, Nat.reduceLT, Nat.reduceEqDiff, Nat.reduceLeDiff, Nat.reduceAdd, Nat.reduceMul, Int.reduceLT, Int.reduceLE, Int.reduceToNat, BitVec.reduceOfInt, Nat.reduceBEq, qA, hA1, i64_add wA]; try rfl) ?_
    refine al_load rfl (by simp only [go_sem, ↓reduceIte, Nat.reduceLT, Nat.reduceEqDiff, Nat.reduceLeDiff, Nat.reduceAdd, Nat.reduceMul, Int.reduceLT, Int.reduceLE, Int.reduceToNat, BitVec.reduceOfInt, Nat.reduceBEq, qA, hA1, i64_add wA]) rfl (by simp only [go_sem, ↓reduceIte, Nat.reduceLT, Nat.reduceEqDiff, Nat.reduceLeDiff, Nat.reduceAdd, Nat.reduceMul, Int.reduceLT, Int.reduceLE, Int.reduceToNat, BitVec.reduceOfInt, Nat.reduceBEq, qA, hA1, i64_add wA]; try rfl) hU (loadA_scalar agg3 gA) ?_
    refine al_pureN 2 (by simp only [go_sem, ↓reduceIte, Nat.reduceLT, Nat.reduceEqDiff, Nat.reduceLeDiff, Nat.reduceAdd, Nat.reduceMul, Int.reduceLT, Int.reduceLE, Int.reduceToNat, BitVec.reduceOfInt, Nat.reduceBEq, qA, hA1, i64_add wA]; try rfl) ?_
    refine al_store1 rfl (by simp only [go_sem, ↓reduceIte, Nat.reduceLT, Nat.reduceEqDiff, Nat.reduceLeDiff, Nat.reduceAdd, Nat.reduceMul, Int.reduceLT, Int.reduceLE, Int.reduceToNat, BitVec.reduceOfInt, Nat.reduceBEq]; try rfl) rfl (by simp only [go_sem, ↓reduceIte, Nat.reduceLT, Nat.reduceEqDiff, Nat.reduceLeDiff, Nat.reduceAdd, Nat.reduceMul, Int.reduceLT, Int.reduceLE, Int.reduceToNat, BitVec.reduceOfInt, Nat.reduceBEq]; try rfl) (by simp only [go_sem, ↓reduceIte, Nat.reduceLT, Nat.reduceEqDiff, Nat.reduceLeDiff, Nat.reduceAdd, Nat.reduceMul, Int.reduceLT, Int.reduceLE, Int.reduceToNat, BitVec.reduceOfInt, Nat.reduceBEq]; try rfl) hU rfl size3 rfl rfl (by show (A / 2).toNat < (nums _ _).length; rw [nums_len]; omega) ?_
    refine al_end [1, 3, 5, 14, 15, 16] ?_
    show Abs.Seq _ _ _ _ _ _ _ _ (AHeap.set τ (N + 1) ⟨(nums (cntF p) n).set (A / 2).toNat (.int .i64 (((cntF p (A.toNat / 2) : Nat) : Int) + 1)), true, .n 1⟩)
    rw [hA2, nums_bump]
    refine awp_lit ?_
    refine al_pureN 2 (by simp only [go_sem, ↓reduceIte, Nat.reduceLT, Nat.reduceEqDiff, Nat.reduceLeDiff, Nat.reduceAdd, Nat.reduceMul, Int.reduceLT, Int.reduceLE, Int.reduceToNat, BitVec.reduceOfInt, Nat.reduceBEq, qB, hB1, i64_add wB]; try rfl) ?_
    refine al_load rfl (by simp only [go_sem, ↓reduceIte, Nat.reduceLT, Nat.reduceEqDiff, Nat.reduceLeDiff, Nat.reduceAdd, Nat.reduceMul, Int.reduceLT, Int.reduceLE, Int.reduceToNat, BitVec.reduceOfInt, Nat.reduceBEq, qB, hB1, i64_add wB]) rfl (by simp only [go_sem, ↓reduceIte, Nat.reduceLT, Nat.reduceEqDiff, Nat.reduceLeDiff, Nat.reduceAdd, Nat.reduceMul, Int.reduceLT, Int.reduceLE, Int.reduceToNat, BitVec.reduceOfInt, Nat.reduceBEq, qB, hB1, i64_add wB]; try rfl) (hYM2 _) (loadA_scalar agg43 rfl) ?_
    refine al_pureN 2 (by simp only [go_sem, ↓reduceIte, Nat.reduceLT, Nat.reduceEqDiff, Nat.reduceLeDiff, Nat.reduceAdd, Nat.reduceMul, Int.reduceLT, Int.reduceLE, Int.reduceToNat, BitVec.reduceOfInt, Nat.reduceBEq, qB, hB1, i64_add wB]; try rfl) ?_
    refine al_load rfl (by simp only [go_sem, ↓reduceIte, Nat.reduceLT, Nat.reduceEqDiff, Nat.reduceLeDiff, Nat.reduceAdd, Nat.reduceMul, Int.reduceLT, Int.reduceLE, Int.reduceToNat, BitVec.reduceOfInt, Nat.reduceBEq, qB, hB1, i64_add wB]) rfl (by simp only [go_sem, ↓reduceIte, Nat.reduceLT, Nat.reduceEqDiff, Nat.reduceLeDiff, Nat.reduceAdd, Nat.reduceMul, Int.reduceLT, Int.reduceLE, Int.reduceToNat, BitVec.reduceOfInt, Nat.reduceBEq, qB, hB1, i64_add wB]; try rfl) (AHeap.set_self _ _ _) (loadA_scalar agg3 gB) ?_
    refine al_pureN 2 (by simp only [go_sem, ↓reduceIte, Nat.reduceLT, Nat.reduceEqDiff, Nat.reduceLeDiff, Nat.reduceAdd, Nat.reduceMul, Int.reduceLT, Int.reduceLE, Int.reduceToNat, BitVec.reduceOfInt, Nat.reduceBEq, qB, hB1, i64_add wB]; try rfl) ?_
    refine al_store1 rfl (by simp only [go_sem, ↓reduceIte, Nat.reduceLT, Nat.reduceEqDiff, Nat.reduceLeDiff, Nat.reduceAdd, Nat.reduceMul, Int.reduceLT, Int.reduceLE, Int.reduceToNat, BitVec.reduceOfInt, Nat.reduceBEq]; try rfl) rfl (by simp only [go_sem, ↓reduceIte, Nat.reduceLT, Nat.reduceEqDiff, Nat.reduceLeDiff, Nat.reduceAdd, Nat.reduceMul, Int.reduceLT, Int.reduceLE, Int.reduceToNat, BitVec.reduceOfInt, Nat.reduceBEq]; try rfl) (by simp only [go_sem, ↓reduceIte, Nat.reduceLT, Nat.reduceEqDiff, Nat.reduceLeDiff, Nat.reduceAdd, Nat.reduceMul, Int.reduceLT, Int.reduceLE, Int.reduceToNat, BitVec.reduceOfInt, Nat.reduceBEq]; try rfl) (AHeap.set_self _ _ _) rfl size3 rfl rfl (by show (B / 2).toNat < (nums _ _).length; rw [nums_len]; omega) ?_
    refine al_end [1, 3, 14, 15, 16] ?_
    have hadd2 : -9223372036854775808 ≤ (j : Int) + 1 ∧ (j : Int) + 1 ≤ 9223372036854775807 := by omega
    refine awp_pures [1, 3, 14, 15, 16] (by simp only [go_sem, ↓reduceIte, Nat.reduceLT, Nat.reduceEqDiff, Nat.reduceLeDiff, Nat.reduceAdd, Nat.reduceMul, Int.reduceLT, Int.reduceLE, Int.reduceToNat, BitVec.reduceOfInt, Nat.reduceBEq, i64_add hadd2]; try rfl) ?_
    rw [AHeap.set_set]
    refine ALoop.cast3 ((ih (j + 1, M + 1) ⟨hlt, by dsimp only; omega⟩ (by dsimp only; omega)).forget (fun _ _ h => h) ?_) rfl rfl rfl
    dsimp only
    rw [hsn, ← nums_bump, hB2]
    exact set_mono hτle _ _
  · have hb : decide ((j : Int) < (g.as.length : Int)) = false := by simpa using hlt
    have hjm : j = g.as.length := by omega
    refine awp_seq (awp_pures [1, 3, 14, 15, 16, 17] (by simp only [go_sem, ↓reduceIte, Nat.reduceLT, Nat.reduceEqDiff, Nat.reduceLeDiff, Nat.reduceAdd, Nat.reduceMul, Int.reduceLT, Int.reduceLE, Int.reduceToNat, BitVec.reduceOfInt, Nat.reduceBEq, hb]; try rfl) ?_)
    refine awp_seq ?_
    refine awp_if rfl (fun h => by cases h) (fun _ => ?_)
    refine awp_exit ?_
    simp only [Go.Abs.Seq, Go.Abs.Round, Go.Abs.InBlock, ↓reduceIte]
    rw [hjm, List.take_length]
    refine awp_seq ?_
    first | refine awp_seq (awp_lit ?_) | refine awp_lit ?_ | refine awp_seq (awp_seq (awp_lit ?_))
    refine al_pureN 1 (by simp only [go_sem, ↓reduceIte, Nat.reduceLT, Nat.reduceEqDiff, Nat.reduceLeDiff, Nat.reduceAdd, Nat.reduceMul, Int.reduceLT, Int.reduceLE, Int.reduceToNat, BitVec.reduceOfInt, Nat.reduceBEq]; try rfl) ?_
    refine al_load rfl (by simp only [go_sem, ↓reduceIte, Nat.reduceLT, Nat.reduceEqDiff, Nat.reduceLeDiff, Nat.reduceAdd, Nat.reduceMul, Int.reduceLT, Int.reduceLE, Int.reduceToNat, BitVec.reduceOfInt, Nat.reduceBEq]) rfl (by simp only [go_sem, ↓reduceIte, Nat.reduceLT, Nat.reduceEqDiff, Nat.reduceLeDiff, Nat.reduceAdd, Nat.reduceMul, Int.reduceLT, Int.reduceLE, Int.reduceToNat, BitVec.reduceOfInt, Nat.reduceBEq]; try rfl) (hGN _) (loadA_scalar agg22 rfl) ?_
    refine al_pureN 2 (by simp only [go_sem, ↓reduceIte, Nat.reduceLT, Nat.reduceEqDiff, Nat.reduceLeDiff, Nat.reduceAdd, Nat.reduceMul, Int.reduceLT, Int.reduceLE, Int.reduceToNat, BitVec.reduceOfInt, Nat.reduceBEq]; try rfl) ?_
    refine al_end [1, 3, 38, 39, 40] ?_
    obtain ⟨q, hq⟩ : ∃ q, q = andLits g.as := ⟨_, rfl⟩
    have hql : q.length ≤ 400 := by rw [hq, andLits_len]; omega
    rw [← hq]
    refine awp_block (awp_loop ?_)
    refine ALoop.cast3 (aloop_ind (α := Nat × Nat) (fun a => a.1 ≤ g.ls.length ∧ N + 2 ≤ a.2) (fun a => g.ls.length - a.1)
      (fun a => [(1, .pointer (some ⟨N, 0, none⟩)), (3, .slice (some ⟨N + 1, 0, none⟩) n n), (38, .slice lb g.ls.length lc), (39, .int .i64 g.ls.length), (40, .int .i64 a.1)]) (fun a => a.2) (fun a => (σ.set N ⟨G, true, 1⟩).set (N + 1) ⟨nums (cntF (q ++ (g.ls.take a.1).map (·.1))) n, true, 1⟩) ?_ (0, M) ⟨Nat.zero_le _, hM⟩) rfl rfl (by simp)
    clear ih hlt hj hjm hb hM
    rintro ⟨j, M⟩ ⟨hj, hM⟩ ih
    dsimp only at hj hM ih ⊢
    by_cases hlt : j < g.ls.length
    · have hb : decide ((j : Int) < (g.ls.length : Int)) = true := by simpa using hlt
      refine awp_seq (awp_pures [1, 3, 38, 39, 40, 41] (by simp only [go_sem, ↓reduceIte, Nat.reduceLT, Nat.reduceEqDiff, Nat.reduceLeDiff, Nat.reduceAdd, Nat.reduceMul, Int.reduceLT, Int.reduceLE, Int.reduceToNat, BitVec.reduceOfInt, Nat.reduceBEq, hb]; try rfl) ?_)
      refine awp_seq ?_
      refine awp_if rfl (fun _ => ?_) (fun h => by cases h)
      refine awp_skip ?_
      refine awp_seq (awp_block ?_)
      have hjj : 0 ≤ (j : Int) ∧ (j : Int) < (g.ls.length : Int) := by omega
      obtain ⟨id, off, cap, b, e1, e2, e3, e4⟩ := rowsAt_pair (hl.mono (hσp (nums (cntF (q ++ (g.ls.take j).map (·.1))) n))) hlt
      cases e1
      first | refine awp_seq (awp_lit ?_) | refine awp_lit ?_ | refine awp_seq (awp_seq (awp_lit ?_))
      refine al_pureN 1 (by simp only [go_sem, ↓reduceIte, Nat.reduceLT, Nat.reduceEqDiff, Nat.reduceLeDiff, Nat.reduceAdd, Nat.reduceMul, Int.reduceLT, Int.reduceLE, Int.reduceToNat, BitVec.reduceOfInt, Nat.reduceBEq, hjj]; try rfl) ?_
      refine al_load rfl (by simp only [go_sem, ↓reduceIte, Nat.reduceLT, Nat.reduceEqDiff, Nat.reduceLeDiff, Nat.reduceAdd, Nat.reduceMul, Int.reduceLT, Int.reduceLE, Int.reduceToNat, BitVec.reduceOfInt, Nat.reduceBEq, hjj]) rfl (by simp only [go_sem, ↓reduceIte, Nat.reduceLT, Nat.reduceEqDiff, Nat.reduceLeDiff, Nat.reduceAdd, Nat.reduceMul, Int.reduceLT, Int.reduceLE, Int.reduceToNat, BitVec.reduceOfInt, Nat.reduceBEq, hjj]; try rfl) e2 (loadA_agg agg45 e3) ?_
      refine al_alloc 1 rfl rfl rfl ty45 (by decide) ?_
      refine al_store rfl (by simp only [go_sem, ↓reduceIte, Nat.reduceLT, Nat.reduceEqDiff, Nat.reduceLeDiff, Nat.reduceAdd, Nat.reduceMul, Int.reduceLT, Int.reduceLE, Int.reduceToNat, BitVec.reduceOfInt, Nat.reduceBEq, hjj]) rfl (by simp only [go_sem, ↓reduceIte, Nat.reduceLT, Nat.reduceEqDiff, Nat.reduceLeDiff, Nat.reduceAdd, Nat.reduceMul, Int.reduceLT, Int.reduceLE, Int.reduceToNat, BitVec.reduceOfInt, Nat.reduceBEq, hjj]; try rfl) (by simp only [go_sem, ↓reduceIte, Nat.reduceLT, Nat.reduceEqDiff, Nat.reduceLeDiff, Nat.reduceAdd, Nat.reduceMul, Int.reduceLT, Int.reduceLE, Int.reduceToNat, BitVec.reduceOfInt, Nat.reduceBEq, hjj]; try rfl) (by first | exact AHeap.set_self _ _ _ | (simp only [AHeap.set, ↓reduceIte, Nat.add_assoc, Nat.reduceAdd, Nat.add_left_cancel_iff, Nat.add_right_cancel_iff, Nat.left_eq_add, Nat.add_eq_left, Nat.add_eq_right, Nat.right_eq_add, Nat.reduceEqDiff, Nat.succ_ne_zero, hjj]; rfl) | assumption) rfl (by exact size45.trans rfl) (by rfl) (by exact Nat.le_of_ble_eq_true rfl) ?_
      refine al_end [1, 3, 7, 38, 39, 40] ?_
      rw [AHeap.set_set]
      obtain ⟨b1, b2⟩ := chkL_get hchl hlt
      obtain ⟨A, hAe⟩ : ∃ A, A = g.ls[j].1 := ⟨_, rfl⟩
      have hsn : q ++ (g.ls.take (j + 1)).map (·.1) = (q ++ (g.ls.take j).map (·.1)) ++ [A] := by
        rw [take_snoc _ hlt, List.map_append, ← List.append_assoc]; simp [hAe]
      rw [← hAe] at b1 b2 ⊢
      obtain ⟨p, hp⟩ : ∃ p, p = q ++ (g.ls.take j).map (·.1) := ⟨_, rfl⟩
      have hpl : p.length ≤ 500 := by rw [hp, List.length_append, List.length_map, List.length_take]; omega
      rw [← hp] at hsn ⊢
      have hA1 : 0 ≤ A / 2 ∧ A / 2 < (n : Int) := by omega
      have hA2 : (A / 2).toNat = A.toNat / 2 := by omega
      have qA := quo_two b1 (by omega)
      have gA : (nums (cntF p) n)[(A / 2).toNat]? = some (.int .i64 ((cntF p (A.toNat / 2) : Nat) : Int)) := by rw [hA2]; exact nums_get _ (by omega)
      have wA := bnd p (A.toNat / 2) (by omega)
      have hM1 : ¬ N + 1 = M := by omega
      have hU : ∀ X, (((σ.set N ⟨G, true, 1⟩).set (N + 1) ⟨nums (cntF p) n, true, 1⟩).set M X) (N + 1) = some ⟨nums (cntF p) n, true, 1⟩ := fun X => by
        rw [AHeap.set_ne _ _ hM1, AHeap.set_self]
      refine awp_lit ?_
      refine al_pureN 2 (by simp only [go_sem, ↓reduceIte, Nat.reduceLT, Nat.reduceEqDiff, Nat.reduceLeDiff, Nat.reduceAdd, Nat.reduceMul, Int.reduceLT, Int.reduceLE, Int.reduceToNat, BitVec.reduceOfInt, Nat.reduceBEq, qA, hA1, i64_add wA]; try rfl) ?_
      refine al_load rfl (by simp only [go_sem, ↓reduceIte, Nat.reduceLT, Nat.reduceEqDiff, Nat.reduceLeDiff, Nat.reduceAdd, Nat.reduceMul, Int.reduceLT, Int.reduceLE, Int.reduceToNat, BitVec.reduceOfInt, Nat.reduceBEq, qA, hA1, i64_add wA]) rfl (by simp only [go_sem, ↓reduceIte, Nat.reduceLT, Nat.reduceEqDiff, Nat.reduceLeDiff, Nat.reduceAdd, Nat.reduceMul, Int.reduceLT, Int.reduceLE, Int.reduceToNat, BitVec.reduceOfInt, Nat.reduceBEq, qA, hA1, i64_add wA]; try rfl) (by first | exact AHeap.set_self _ _ _ | (simp only [AHeap.set, ↓reduceIte, Nat.add_assoc, Nat.reduceAdd, Nat.add_left_cancel_iff, Nat.add_right_cancel_iff, Nat.left_eq_add, Nat.add_eq_left, Nat.add_eq_right, Nat.right_eq_add, Nat.reduceEqDiff, Nat.succ_ne_zero, qA, hA1, i64_add wA]; rfl) | assumption) (by first | exact loadA_scalar agg43 rfl | exact loadA_agg agg43 rfl | exact loadA_scalar agg43 (by assumption)) ?_
      refine al_pureN 2 (by simp only [go_sem, ↓reduceIte, Nat.reduceLT, Nat.reduceEqDiff, Nat.reduceLeDiff, Nat.reduceAdd, Nat.reduceMul, Int.reduceLT, Int.reduceLE, Int.reduceToNat, BitVec.reduceOfInt, Nat.reduceBEq, qA, hA1, i64_add wA]; try rfl) ?_
      refine al_load rfl (by simp only [go_sem, ↓reduceIte, Nat.reduceLT, Nat.reduceEqDiff, Nat.reduceLeDiff, Nat.reduceAdd, Nat.reduceMul, Int.reduceLT, Int.reduceLE, Int.reduceToNat, BitVec.reduceOfInt, Nat.reduceBEq, qA, hA1, i64_add wA]) rfl (by simp only [go_sem, ↓reduceIte, Nat.reduceLT, Nat.reduceEqDiff, Nat.reduceLeDiff, Nat.reduceAdd, Nat.reduceMul, Int.reduceLT, Int.reduceLE, Int.reduceToNat, BitVec.reduceOfInt, Nat.reduceBEq, qA, hA1, i64_add wA]; try rfl) (hU _) (loadA_scalar agg3 gA) ?_
      refine al_pureN 2 (by simp only [go_sem, ↓reduceIte, Nat.reduceLT, Nat.reduceEqDiff, Nat.reduceLeDiff, Nat.reduceAdd, Nat.reduceMul, Int.reduceLT, Int.reduceLE, Int.reduceToNat, BitVec.reduceOfInt, Nat.reduceBEq, qA, hA1, i64_add wA]; try rfl) ?_
      refine al_store1 rfl (by simp only [go_sem, ↓reduceIte, Nat.reduceLT, Nat.reduceEqDiff, Nat.reduceLeDiff, Nat.reduceAdd, Nat.reduceMul, Int.reduceLT, Int.reduceLE, Int.reduceToNat, BitVec.reduceOfInt, Nat.reduceBEq]; try rfl) rfl (by simp only [go_sem, ↓reduceIte, Nat.reduceLT, Nat.reduceEqDiff, Nat.reduceLeDiff, Nat.reduceAdd, Nat.reduceMul, Int.reduceLT, Int.reduceLE, Int.reduceToNat, BitVec.reduceOfInt, Nat.reduceBEq]; try rfl) (by simp only [go_sem, ↓reduceIte, Nat.reduceLT, Nat.reduceEqDiff, Nat.reduceLeDiff, Nat.reduceAdd, Nat.reduceMul, Int.reduceLT, Int.reduceLE, Int.reduceToNat, BitVec.reduceOfInt, Nat.reduceBEq]; try rfl) (hU _) rfl size3 rfl rfl (by show (A / 2).toNat < (nums _ _).length; rw [nums_len]; omega) ?_
      refine al_end [1, 3, 38, 39, 40] ?_
      have hadd2 : -9223372036854775808 ≤ (j : Int) + 1 ∧ (j : Int) + 1 ≤ 9223372036854775807 := by omega
      refine awp_pures [1, 3, 38, 39, 40] (by simp only [go_sem, ↓reduceIte, Nat.reduceLT, Nat.reduceEqDiff, Nat.reduceLeDiff, Nat.reduceAdd, Nat.reduceMul, Int.reduceLT, Int.reduceLE, Int.reduceToNat, BitVec.reduceOfInt, Nat.reduceBEq, i64_add hadd2]; try rfl) ?_
      refine ALoop.cast3 ((ih (j + 1, M + 1) ⟨hlt, by omega⟩ (by dsimp only; omega)).forget (fun _ _ h => h) ?_) rfl rfl rfl
      dsimp only
      rw [hsn, ← nums_bump, hA2]
      exact set_mono ((le_new (dom_set hN) (Nat.le_refl _)).trans (le_new (dom_set (dom_set hN)) hM)) _ _
    · have hb : decide ((j : Int) < (g.ls.length : Int)) = false := by simpa using hlt
      have hjm : j = g.ls.length := by omega
      refine awp_seq (awp_pures [1, 3, 38, 39, 40, 41] (by simp only [go_sem, ↓reduceIte, Nat.reduceLT, Nat.reduceEqDiff, Nat.reduceLeDiff, Nat.reduceAdd, Nat.reduceMul, Int.reduceLT, Int.reduceLE, Int.reduceToNat, BitVec.reduceOfInt, Nat.reduceBEq, hb]; try rfl) ?_)
      refine awp_seq ?_
      refine awp_if rfl (fun h => by cases h) (fun _ => ?_)
      refine awp_exit ?_
      simp only [Go.Abs.Seq, Go.Abs.Round, Go.Abs.InBlock, ↓reduceIte]
      rw [hjm, List.take_length]
      refine awp_seq ?_
      first | refine awp_seq (awp_lit ?_) | refine awp_lit ?_ | refine awp_seq (awp_seq (awp_lit ?_))
      refine al_pureN 1 (by simp only [go_sem, ↓reduceIte, Nat.reduceLT, Nat.reduceEqDiff, Nat.reduceLeDiff, Nat.reduceAdd, Nat.reduceMul, Int.reduceLT, Int.reduceLE, Int.reduceToNat, BitVec.reduceOfInt, Nat.reduceBEq]; try rfl) ?_
      refine al_load rfl (by simp only [go_sem, ↓reduceIte, Nat.reduceLT, Nat.reduceEqDiff, Nat.reduceLeDiff, Nat.reduceAdd, Nat.reduceMul, Int.reduceLT, Int.reduceLE, Int.reduceToNat, BitVec.reduceOfInt, Nat.reduceBEq]) rfl (by simp only [go_sem, ↓reduceIte, Nat.reduceLT, Nat.reduceEqDiff, Nat.reduceLeDiff, Nat.reduceAdd, Nat.reduceMul, Int.reduceLT, Int.reduceLE, Int.reduceToNat, BitVec.reduceOfInt, Nat.reduceBEq]; try rfl) (hGN _) (loadA_scalar agg24 rfl) ?_
      refine al_pureN 2 (by simp only [go_sem, ↓reduceIte, Nat.reduceLT, Nat.reduceEqDiff, Nat.reduceLeDiff, Nat.reduceAdd, Nat.reduceMul, Int.reduceLT, Int.reduceLE, Int.reduceToNat, BitVec.reduceOfInt, Nat.reduceBEq]; try rfl) ?_
      refine al_end [3, 54, 55, 56] ?_
      obtain ⟨r, hr⟩ : ∃ r, r = q ++ g.ls.map (·.1) := ⟨_, rfl⟩
      have hrl : r.length ≤ 500 := by rw [hr, List.length_append, List.length_map]; omega
      rw [← hr]
      refine awp_block (awp_loop ?_)
      refine ALoop.cast3 (aloop_ind (α := Nat) (fun a => a ≤ g.os.length) (fun a => g.os.length - a)
        (fun a => [(3, .slice (some ⟨N + 1, 0, none⟩) n n), (54, .slice ob g.os.length oc), (55, .int .i64 g.os.length), (56, .int .i64 a)]) (fun _ => M) (fun a => (σ.set N ⟨G, true, 1⟩).set (N + 1) ⟨nums (cntF (r ++ g.os.take a)) n, true, 1⟩) ?_ 0 (Nat.zero_le _)) rfl rfl (by simp)
      clear ih hlt hj hjm hb
      intro j hj ih
      by_cases hlt : j < g.os.length
      · have hb : decide ((j : Int) < (g.os.length : Int)) = true := by simpa using hlt
        refine awp_seq (awp_pures [3, 54, 55, 56, 57] (by simp only [go_sem, ↓reduceIte, Nat.reduceLT, Nat.reduceEqDiff, Nat.reduceLeDiff, Nat.reduceAdd, Nat.reduceMul, Int.reduceLT, Int.reduceLE, Int.reduceToNat, BitVec.reduceOfInt, Nat.reduceBEq, hb]; try rfl) ?_)
        refine awp_seq ?_
        refine awp_if rfl (fun _ => ?_) (fun h => by cases h)
        refine awp_skip ?_
        refine awp_seq (awp_block ?_)
        have hjj : 0 ≤ (j : Int) ∧ (j : Int) < (g.os.length : Int) := by omega
        obtain ⟨id, off, cap, b, e1, e2, e3, e4⟩ := slAt_int (ho.mono (hσp (nums (cntF (r ++ g.os.take j)) n))) hlt
        cases e1
        first | refine awp_seq (awp_lit ?_) | refine awp_lit ?_ | refine awp_seq (awp_seq (awp_lit ?_))
        refine al_pureN 1 (by simp only [go_sem, ↓reduceIte, Nat.reduceLT, Nat.reduceEqDiff, Nat.reduceLeDiff, Nat.reduceAdd, Nat.reduceMul, Int.reduceLT, Int.reduceLE, Int.reduceToNat, BitVec.reduceOfInt, Nat.reduceBEq, hjj]; try rfl) ?_
        refine al_load rfl (by simp only [go_sem, ↓reduceIte, Nat.reduceLT, Nat.reduceEqDiff, Nat.reduceLeDiff, Nat.reduceAdd, Nat.reduceMul, Int.reduceLT, Int.reduceLE, Int.reduceToNat, BitVec.reduceOfInt, Nat.reduceBEq, hjj]) rfl (by simp only [go_sem, ↓reduceIte, Nat.reduceLT, Nat.reduceEqDiff, Nat.reduceLeDiff, Nat.reduceAdd, Nat.reduceMul, Int.reduceLT, Int.reduceLE, Int.reduceToNat, BitVec.reduceOfInt, Nat.reduceBEq, hjj]; try rfl) e2 (loadA_scalar agg43 e3) ?_
        refine al_pureN 1 (by simp only [go_sem, ↓reduceIte, Nat.reduceLT, Nat.reduceEqDiff, Nat.reduceLeDiff, Nat.reduceAdd, Nat.reduceMul, Int.reduceLT, Int.reduceLE, Int.reduceToNat, BitVec.reduceOfInt, Nat.reduceBEq, hjj]; try rfl) ?_
        refine al_end [3, 9, 54, 55, 56] ?_
        obtain ⟨b1, b2⟩ := chkO_get hcho hlt
        obtain ⟨A, hAe⟩ : ∃ A, A = g.os[j] := ⟨_, rfl⟩
        have hsn : r ++ g.os.take (j + 1) = (r ++ g.os.take j) ++ [A] := by
          rw [take_snoc _ hlt, ← List.append_assoc]; simp [hAe]
        rw [← hAe] at b1 b2 ⊢
        obtain ⟨p, hp⟩ : ∃ p, p = r ++ g.os.take j := ⟨_, rfl⟩
        have hpl : p.length ≤ 600 := by rw [hp, List.length_append, List.length_take]; omega
        rw [← hp] at hsn ⊢
        have hA1 : 0 ≤ A / 2 ∧ A / 2 < (n : Int) := by omega
        have hA2 : (A / 2).toNat = A.toNat / 2 := by omega
        have qA := quo_two b1 (by omega)
        have gA : (nums (cntF p) n)[(A / 2).toNat]? = some (.int .i64 ((cntF p (A.toNat / 2) : Nat) : Int)) := by rw [hA2]; exact nums_get _ (by omega)
        have wA := bnd p (A.toNat / 2) (by omega)
        refine awp_lit ?_
        refine al_pureN 4 (by simp only [go_sem, ↓reduceIte, Nat.reduceLT, Nat.reduceEqDiff, Nat.reduceLeDiff, Nat.reduceAdd, Nat.reduceMul, Int.reduceLT, Int.reduceLE, Int.reduceToNat, BitVec.reduceOfInt, Nat.reduceBEq, qA, hA1, i64_add wA]; try rfl) ?_
        refine al_load rfl (by simp only [go_sem, ↓reduceIte, Nat.reduceLT, Nat.reduceEqDiff, Nat.reduceLeDiff, Nat.reduceAdd, Nat.reduceMul, Int.reduceLT, Int.reduceLE, Int.reduceToNat, BitVec.reduceOfInt, Nat.reduceBEq, qA, hA1, i64_add wA]) rfl (by simp only [go_sem, ↓reduceIte, Nat.reduceLT, Nat.reduceEqDiff, Nat.reduceLeDiff, Nat.reduceAdd, Nat.reduceMul, Int.reduceLT, Int.reduceLE, Int.reduceToNat, BitVec.reduceOfInt, Nat.reduceBEq, qA, hA1, i64_add wA]; try rfl) (AHeap.set_self _ _ _) (loadA_scalar agg3 gA) ?_
        refine al_pureN 2 (by simp only [go_sem, ↓reduceIte, Nat.reduceLT, Nat.reduceEqDiff, Nat.reduceLeDiff, Nat.reduceAdd, Nat.reduceMul, Int.reduceLT, Int.reduceLE, Int.reduceToNat, BitVec.reduceOfInt, Nat.reduceBEq, qA, hA1, i64_add wA]; try rfl) ?_
        refine al_store1 rfl (by simp only [go_sem, ↓reduceIte, Nat.reduceLT, Nat.reduceEqDiff, Nat.reduceLeDiff, Nat.reduceAdd, Nat.reduceMul, Int.reduceLT, Int.reduceLE, Int.reduceToNat, BitVec.reduceOfInt, Nat.reduceBEq]; try rfl) rfl (by simp only [go_sem, ↓reduceIte, Nat.reduceLT, Nat.reduceEqDiff, Nat.reduceLeDiff, Nat.reduceAdd, Nat.reduceMul, Int.reduceLT, Int.reduceLE, Int.reduceToNat, BitVec.reduceOfInt, Nat.reduceBEq]; try rfl) (by simp only [go_sem, ↓reduceIte, Nat.reduceLT, Nat.reduceEqDiff, Nat.reduceLeDiff, Nat.reduceAdd, Nat.reduceMul, Int.reduceLT, Int.reduceLE, Int.reduceToNat, BitVec.reduceOfInt, Nat.reduceBEq]; try rfl) (AHeap.set_self _ _ _) rfl size3 rfl rfl (by show (A / 2).toNat < (nums _ _).length; rw [nums_len]; omega) ?_
        refine al_end [3, 54, 55, 56] ?_
        have hadd2 : -9223372036854775808 ≤ (j : Int) + 1 ∧ (j : Int) + 1 ≤ 9223372036854775807 := by omega
        refine awp_pures [3, 54, 55, 56] (by simp only [go_sem, ↓reduceIte, Nat.reduceLT, Nat.reduceEqDiff, Nat.reduceLeDiff, Nat.reduceAdd, Nat.reduceMul, Int.reduceLT, Int.reduceLE, Int.reduceToNat, BitVec.reduceOfInt, Nat.reduceBEq, i64_add hadd2]; try rfl) ?_
        rw [AHeap.set_set]
        refine ALoop.cast3 (ih (j + 1) hlt (by omega)) rfl rfl ?_
        rw [hsn, ← nums_bump, hA2]
      · have hb : decide ((j : Int) < (g.os.length : Int)) = false := by simpa using hlt
        have hjm : j = g.os.length := by omega
        refine awp_seq (awp_pures [3, 54, 55, 56, 57] (by simp only [go_sem, ↓reduceIte, Nat.reduceLT, Nat.reduceEqDiff, Nat.reduceLeDiff, Nat.reduceAdd, Nat.reduceMul, Int.reduceLT, Int.reduceLE, Int.reduceToNat, BitVec.reduceOfInt, Nat.reduceBEq, hb]; try rfl) ?_)
        refine awp_seq ?_
        refine awp_if rfl (fun h => by cases h) (fun _ => ?_)
        refine awp_exit ?_
        simp only [Go.Abs.Seq, Go.Abs.Round, Go.Abs.InBlock, ↓reduceIte]
        refine awp_seq (awp_pures [2] (by simp only [go_sem, ↓reduceIte, Nat.reduceLT, Nat.reduceEqDiff, Nat.reduceLeDiff, Nat.reduceAdd, Nat.reduceMul, Int.reduceLT, Int.reduceLE, Int.reduceToNat, BitVec.reduceOfInt, Nat.reduceBEq]; try rfl) ?_)
        rw [hjm, List.take_length]
        have he : r ++ g.os = allLits g := by rw [hr, hq]; rfl
        rw [he]
        exact awp_ret ⟨_, rfl, .inr ⟨N + 1, n, by omega, rfl, Nat.le_refl _, AHeap.set_self _ _ _, by rw [nums_len, Nat.mul_one]⟩, hσp _, by omega⟩
end Go.Proofs.Ytfialjllclclkaa

/- The walk of the reference's Check, on valid graphs. -/
set_option linter.unusedSimpArgs false
set_option linter.unusedVariables false
namespace Go.Proofs.Ytfialjllclclkaa
open Go.Abs Go.Cut
attribute [local go_sem] Try.underlying26 Try.underlying3 Try.underlying22 Try.underlying23 Try.underlying24 Try.underlying35 Try.underlying43 Try.underlying45 Try.underlying47 Try.underlying5 Try.underlying4 Try.underlying30 size26 size3 size22 size23 size24 size35 size43 size45 size47 size5 size4 size30 Nat.mul_one
theorem cells_two {b : Blk} {off : Nat} {x y : Value} (h : cellsA b off 2 = some [x, y]) : b.cells[off]? = some x ∧ b.cells[off + 1]? = some y := by
  unfold cellsA at h
  split at h
  · have h := Option.some.inj h
    have h0 := congrArg (fun l : List Value => l[0]?) h
    have h1 := congrArg (fun l : List Value => l[1]?) h
    simp [List.getElem?_take, List.getElem?_drop] at h0 h1
    exact ⟨h0, h1⟩
  · cases h
theorem rCheck_ok {g : AigD} {v : Value} {N : Nat} {σ : AHeap} (hv : AigAt σ v g) (hfew : Few g) (hV : Valid g) (hos : g.os.length ≤ 4096) :
    AOk Try.prog 26 [v] N σ fun r N1 σ1 => r = .int .i64 0 ∧ σ.le σ1 ∧ N ≤ N1 := by
  have hv0 := hv
  obtain ⟨lb, lc, ab, ac, ob, oc, rfl, hl, ha, ho⟩ := hv.opn
  have hla := hfew.as
  have hll := hfew.ls
  have hlo := hfew.os
  have hinp := hV.inp
  have hsz := hV.size
  have hchk := hV.ands
  have hchl := hV.latches
  have hcho := hV.outs
  have hfn : firstC g + g.as.length = sizeC g := rfl
  have hff : 1 + g.inp + g.ls.length = firstC g := rfl
  have mul2 : ∀ x : Int, 0 ≤ x → x ≤ 1000000 → intA .mul .i64 2 x = some (.int .i64 (2 * x)) := fun x h1 h2 => by simp only [intA]; rw [IntWalk.i64_in _ (by omega)]
  refine aok_fresh fun hN => aok_body (r := false) (n := 138) Try.func26 rfl rfl (by simp) ?_
  first | refine awp_seq (awp_lit ?_) | refine awp_lit ?_ | refine awp_seq (awp_seq (awp_lit ?_))
  refine al_box 1 rfl rfl rfl (by simp only [go_sem, ↓reduceIte, Nat.reduceLT, Nat.reduceEqDiff, Nat.reduceLeDiff, Nat.reduceAdd, Nat.reduceMul, Int.reduceLT, Int.reduceLE, Int.reduceToNat, BitVec.reduceOfInt, Nat.reduceBEq]; try rfl) ?_
  refine al_pureN 1 (by simp only [go_sem, ↓reduceIte, Nat.reduceLT, Nat.reduceEqDiff, Nat.reduceLeDiff, Nat.reduceAdd, Nat.reduceMul, Int.reduceLT, Int.reduceLE, Int.reduceToNat, BitVec.reduceOfInt, Nat.reduceBEq]; try rfl) ?_
  refine al_end [1] ?_
  obtain ⟨G, hG⟩ : ∃ G : Blk, G = ⟨spread (.agg #[.int .i64 g.inp, .slice lb g.ls.length lc, .slice ab g.as.length ac, .slice ob g.os.length oc]), true, .n 1⟩ := ⟨_, rfl⟩
  show Abs.Seq _ _ _ _ _ _ _ _ (σ.set N ⟨spread (.agg #[.int .i64 g.inp, .slice lb g.ls.length lc, .slice ab g.as.length ac, .slice ob g.os.length oc]), true, .n 1⟩)
  have h1 : decide (g.inp < 0) = false := by simp; omega
  have h2 : decide (g.inp > 4096) = false := by simp; omega
  have h3 : decide ((g.ls.length : Int) > 4096) = false := by simp; omega
  have h4 : decide ((g.as.length : Int) > 4096) = false := by simp; omega
  have h5 : decide (sizeC g > 4096) = false := by simp; omega
  have h6 : decide ((g.os.length : Int) > 4096) = false := by simp; omega
  have hτ := le_new (b := ⟨spread (.agg #[.int .i64 g.inp, .slice lb g.ls.length lc, .slice ab g.as.length ac, .slice ob g.os.length oc]), true, .n 1⟩) hN (Nat.le_refl _)
  refine awp_seq ?_
  first | refine awp_seq (awp_lit ?_) | refine awp_lit ?_ | refine awp_seq (awp_seq (awp_lit ?_))
  refine al_pureN 1 (by simp only [go_sem, ↓reduceIte, Nat.reduceLT, Nat.reduceEqDiff, Nat.reduceLeDiff, Nat.reduceAdd, Nat.reduceMul, Int.reduceLT, Int.reduceLE, Int.reduceToNat, BitVec.reduceOfInt, Nat.reduceBEq, h1]; try rfl) ?_
  refine al_load rfl (by simp only [go_sem, ↓reduceIte, Nat.reduceLT, Nat.reduceEqDiff, Nat.reduceLeDiff, Nat.reduceAdd, Nat.reduceMul, Int.reduceLT, Int.reduceLE, Int.reduceToNat, BitVec.reduceOfInt, Nat.reduceBEq, h1]) rfl (by simp only [go_sem, ↓reduceIte, Nat.reduceLT, Nat.reduceEqDiff, Nat.reduceLeDiff, Nat.reduceAdd, Nat.reduceMul, Int.reduceLT, Int.reduceLE, Int.reduceToNat, BitVec.reduceOfInt, Nat.reduceBEq, h1]; try rfl) (by first | exact AHeap.set_self _ _ _ | (simp only [AHeap.set, ↓reduceIte, Nat.add_assoc, Nat.reduceAdd, Nat.add_left_cancel_iff, Nat.add_right_cancel_iff, Nat.left_eq_add, Nat.add_eq_left, Nat.add_eq_right, Nat.right_eq_add, Nat.reduceEqDiff, Nat.succ_ne_zero, h1]; rfl) | assumption) (by first | exact loadA_scalar agg3 rfl | exact loadA_agg agg3 rfl | exact loadA_scalar agg3 (by assumption)) ?_
  refine al_pureN 1 (by simp only [go_sem, ↓reduceIte, Nat.reduceLT, Nat.reduceEqDiff, Nat.reduceLeDiff, Nat.reduceAdd, Nat.reduceMul, Int.reduceLT, Int.reduceLE, Int.reduceToNat, BitVec.reduceOfInt, Nat.reduceBEq, h1]; try rfl) ?_
  refine al_end [1, 11] ?_
  refine awp_if rfl (fun h => by cases h) (fun _ => ?_)
  refine awp_skip ?_
  refine awp_seq ?_
  first | refine awp_seq (awp_lit ?_) | refine awp_lit ?_ | refine awp_seq (awp_seq (awp_lit ?_))
  refine al_pureN 1 (by simp only [go_sem, ↓reduceIte, Nat.reduceLT, Nat.reduceEqDiff, Nat.reduceLeDiff, Nat.reduceAdd, Nat.reduceMul, Int.reduceLT, Int.reduceLE, Int.reduceToNat, BitVec.reduceOfInt, Nat.reduceBEq, h2, h3, h4, h5, h6]; try rfl) ?_
  refine al_load rfl (by simp only [go_sem, ↓reduceIte, Nat.reduceLT, Nat.reduceEqDiff, Nat.reduceLeDiff, Nat.reduceAdd, Nat.reduceMul, Int.reduceLT, Int.reduceLE, Int.reduceToNat, BitVec.reduceOfInt, Nat.reduceBEq, h2, h3, h4, h5, h6]) rfl (by simp only [go_sem, ↓reduceIte, Nat.reduceLT, Nat.reduceEqDiff, Nat.reduceLeDiff, Nat.reduceAdd, Nat.reduceMul, Int.reduceLT, Int.reduceLE, Int.reduceToNat, BitVec.reduceOfInt, Nat.reduceBEq, h2, h3, h4, h5, h6]; try rfl) (by first | exact AHeap.set_self _ _ _ | (simp only [AHeap.set, ↓reduceIte, Nat.add_assoc, Nat.reduceAdd, Nat.add_left_cancel_iff, Nat.add_right_cancel_iff, Nat.left_eq_add, Nat.add_eq_left, Nat.add_eq_right, Nat.right_eq_add, Nat.reduceEqDiff, Nat.succ_ne_zero, h2, h3, h4, h5, h6]; rfl) | assumption) (by first | exact loadA_scalar agg3 rfl | exact loadA_agg agg3 rfl | exact loadA_scalar agg3 (by assumption)) ?_
  refine al_pureN 3 (by simp only [go_sem, ↓reduceIte, Nat.reduceLT, Nat.reduceEqDiff, Nat.reduceLeDiff, Nat.reduceAdd, Nat.reduceMul, Int.reduceLT, Int.reduceLE, Int.reduceToNat, BitVec.reduceOfInt, Nat.reduceBEq, h2, h3, h4, h5, h6]; try rfl) ?_
  refine al_load rfl (by simp only [go_sem, ↓reduceIte, Nat.reduceLT, Nat.reduceEqDiff, Nat.reduceLeDiff, Nat.reduceAdd, Nat.reduceMul, Int.reduceLT, Int.reduceLE, Int.reduceToNat, BitVec.reduceOfInt, Nat.reduceBEq, h2, h3, h4, h5, h6]) rfl (by simp only [go_sem, ↓reduceIte, Nat.reduceLT, Nat.reduceEqDiff, Nat.reduceLeDiff, Nat.reduceAdd, Nat.reduceMul, Int.reduceLT, Int.reduceLE, Int.reduceToNat, BitVec.reduceOfInt, Nat.reduceBEq, h2, h3, h4, h5, h6]; try rfl) (by first | exact AHeap.set_self _ _ _ | (simp only [AHeap.set, ↓reduceIte, Nat.add_assoc, Nat.reduceAdd, Nat.add_left_cancel_iff, Nat.add_right_cancel_iff, Nat.left_eq_add, Nat.add_eq_left, Nat.add_eq_right, Nat.right_eq_add, Nat.reduceEqDiff, Nat.succ_ne_zero, h2, h3, h4, h5, h6]; rfl) | assumption) (by first | exact loadA_scalar agg22 rfl | exact loadA_agg agg22 rfl | exact loadA_scalar agg22 (by assumption)) ?_
  refine al_pureN 4 (by simp only [go_sem, ↓reduceIte, Nat.reduceLT, Nat.reduceEqDiff, Nat.reduceLeDiff, Nat.reduceAdd, Nat.reduceMul, Int.reduceLT, Int.reduceLE, Int.reduceToNat, BitVec.reduceOfInt, Nat.reduceBEq, h2, h3, h4, h5, h6]; try rfl) ?_
  refine al_pureN 1 (by simp only [go_sem, ↓reduceIte, Nat.reduceLT, Nat.reduceEqDiff, Nat.reduceLeDiff, Nat.reduceAdd, Nat.reduceMul, Int.reduceLT, Int.reduceLE, Int.reduceToNat, BitVec.reduceOfInt, Nat.reduceBEq, h2, h3, h4, h5, h6]; try rfl) ?_
  refine al_load rfl (by simp only [go_sem, ↓reduceIte, Nat.reduceLT, Nat.reduceEqDiff, Nat.reduceLeDiff, Nat.reduceAdd, Nat.reduceMul, Int.reduceLT, Int.reduceLE, Int.reduceToNat, BitVec.reduceOfInt, Nat.reduceBEq, h2, h3, h4, h5, h6]) rfl (by simp only [go_sem, ↓reduceIte, Nat.reduceLT, Nat.reduceEqDiff, Nat.reduceLeDiff, Nat.reduceAdd, Nat.reduceMul, Int.reduceLT, Int.reduceLE, Int.reduceToNat, BitVec.reduceOfInt, Nat.reduceBEq, h2, h3, h4, h5, h6]; try rfl) (by first | exact AHeap.set_self _ _ _ | (simp only [AHeap.set, ↓reduceIte, Nat.add_assoc, Nat.reduceAdd, Nat.add_left_cancel_iff, Nat.add_right_cancel_iff, Nat.left_eq_add, Nat.add_eq_left, Nat.add_eq_right, Nat.right_eq_add, Nat.reduceEqDiff, Nat.succ_ne_zero, h2, h3, h4, h5, h6]; rfl) | assumption) (by first | exact loadA_scalar agg23 rfl | exact loadA_agg agg23 rfl | exact loadA_scalar agg23 (by assumption)) ?_
  refine al_pureN 4 (by simp only [go_sem, ↓reduceIte, Nat.reduceLT, Nat.reduceEqDiff, Nat.reduceLeDiff, Nat.reduceAdd, Nat.reduceMul, Int.reduceLT, Int.reduceLE, Int.reduceToNat, BitVec.reduceOfInt, Nat.reduceBEq, h2, h3, h4, h5, h6]; try rfl) ?_
  refine al_load rfl (by simp only [go_sem, ↓reduceIte, Nat.reduceLT, Nat.reduceEqDiff, Nat.reduceLeDiff, Nat.reduceAdd, Nat.reduceMul, Int.reduceLT, Int.reduceLE, Int.reduceToNat, BitVec.reduceOfInt, Nat.reduceBEq, h2, h3, h4, h5, h6]) rfl (by simp only [go_sem, ↓reduceIte, Nat.reduceLT, Nat.reduceEqDiff, Nat.reduceLeDiff, Nat.reduceAdd, Nat.reduceMul, Int.reduceLT, Int.reduceLE, Int.reduceToNat, BitVec.reduceOfInt, Nat.reduceBEq, h2, h3, h4, h5, h6]; try rfl) (by first | exact AHeap.set_self _ _ _ | (simp only [AHeap.set, ↓reduceIte, Nat.add_assoc, Nat.reduceAdd, Nat.add_left_cancel_iff, Nat.add_right_cancel_iff, Nat.left_eq_add, Nat.add_eq_left, Nat.add_eq_right, Nat.right_eq_add, Nat.reduceEqDiff, Nat.succ_ne_zero, h2, h3, h4, h5, h6]; rfl) | assumption) (by first | exact loadA_scalar agg26 rfl | exact loadA_agg agg26 rfl | exact loadA_scalar agg26 (by assumption)) ?_
  refine al_gives (vs := ?vs1) (v := ?v1) rfl ?ha1 ?hh1 (by kernel_rfl) rfl (by simp only [go_sem, ↓reduceIte, Nat.reduceLT, Nat.reduceEqDiff, Nat.reduceLeDiff, Nat.reduceAdd, Nat.reduceMul, Int.reduceLT, Int.reduceLE, Int.reduceToNat, BitVec.reduceOfInt, Nat.reduceBEq, h2, h3, h4, h5, h6]) ?kk1
  case ha1 => simp only [go_sem, ↓reduceIte, Nat.reduceLT, Nat.reduceEqDiff, Nat.reduceLeDiff, Nat.reduceAdd, Nat.reduceMul, Int.reduceLT, Int.reduceLE, Int.reduceToNat, BitVec.reduceOfInt, Nat.reduceBEq, h2, h3, h4, h5, h6]; try rfl
  case hh1 => exact nodes_gives (hv0.mono hτ) hfew (by omega) (by omega)
  refine al_pureN 4 (by simp only [go_sem, ↓reduceIte, Nat.reduceLT, Nat.reduceEqDiff, Nat.reduceLeDiff, Nat.reduceAdd, Nat.reduceMul, Int.reduceLT, Int.reduceLE, Int.reduceToNat, BitVec.reduceOfInt, Nat.reduceBEq, h2, h3, h4, h5, h6]; try rfl) ?_
  refine al_load rfl (by simp only [go_sem, ↓reduceIte, Nat.reduceLT, Nat.reduceEqDiff, Nat.reduceLeDiff, Nat.reduceAdd, Nat.reduceMul, Int.reduceLT, Int.reduceLE, Int.reduceToNat, BitVec.reduceOfInt, Nat.reduceBEq, h2, h3, h4, h5, h6]) rfl (by simp only [go_sem, ↓reduceIte, Nat.reduceLT, Nat.reduceEqDiff, Nat.reduceLeDiff, Nat.reduceAdd, Nat.reduceMul, Int.reduceLT, Int.reduceLE, Int.reduceToNat, BitVec.reduceOfInt, Nat.reduceBEq, h2, h3, h4, h5, h6]; try rfl) (by first | exact AHeap.set_self _ _ _ | (simp only [AHeap.set, ↓reduceIte, Nat.add_assoc, Nat.reduceAdd, Nat.add_left_cancel_iff, Nat.add_right_cancel_iff, Nat.left_eq_add, Nat.add_eq_left, Nat.add_eq_right, Nat.right_eq_add, Nat.reduceEqDiff, Nat.succ_ne_zero, h2, h3, h4, h5, h6]; rfl) | assumption) (by first | exact loadA_scalar agg24 rfl | exact loadA_agg agg24 rfl | exact loadA_scalar agg24 (by assumption)) ?_
  refine al_pureN 3 (by simp only [go_sem, ↓reduceIte, Nat.reduceLT, Nat.reduceEqDiff, Nat.reduceLeDiff, Nat.reduceAdd, Nat.reduceMul, Int.reduceLT, Int.reduceLE, Int.reduceToNat, BitVec.reduceOfInt, Nat.reduceBEq, h2, h3, h4, h5, h6]; try rfl) ?_
  refine al_end [1, 37] ?_
  refine awp_if rfl (fun h => by cases h) (fun _ => ?_)
  refine awp_skip ?_
  refine awp_seq ?_
  refine awp_seq (awp_pures [1, 3] (by simp only [go_sem, ↓reduceIte, Nat.reduceLT, Nat.reduceEqDiff, Nat.reduceLeDiff, Nat.reduceAdd, Nat.reduceMul, Int.reduceLT, Int.reduceLE, Int.reduceToNat, BitVec.reduceOfInt, Nat.reduceBEq]; try rfl) ?_)
  refine awp_block (awp_loop ?_)
  refine ALoop.cast3 (aloop_ind (α := Nat × Nat × AHeap) (fun a => a.1 ≤ g.as.length ∧ N + 1 ≤ a.2.1 ∧ (σ.set N G).le a.2.2 ∧ ∀ i b, a.2.2 i = some b → i < a.2.1) (fun a => g.as.length - a.1)
    (fun a => [(1, .pointer (some ⟨N, 0, none⟩)), (3, .int .i64 a.1)]) (fun a => a.2.1) (fun a => a.2.2) ?_ (0, N + 1, σ.set N G) ⟨Nat.zero_le _, Nat.le_refl _, AHeap.le_refl _, dom_set hN⟩) rfl rfl (by rw [hG])
  rintro ⟨j, M, τ⟩ ⟨hj, hM, hle, hd⟩ ih
  dsimp only at hj hM hle hd ih ⊢
  rw [hG] at hle
  have hτ := hτ.trans hle
  have hGN := hle _ _ (AHeap.set_self _ _ _)
  by_cases hlt : j < g.as.length
  · have hb : decide ((j : Int) < (g.as.length : Int)) = true := by simpa using hlt
    refine awp_seq ?_
    first | refine awp_seq (awp_lit ?_) | refine awp_lit ?_ | refine awp_seq (awp_seq (awp_lit ?_))
    refine al_pureN 2 (by simp only [go_sem, ↓reduceIte, Nat.reduceLT, Nat.reduceEqDiff, Nat.reduceLeDiff, Nat.reduceAdd, Nat.reduceMul, Int.reduceLT, Int.reduceLE, Int.reduceToNat, BitVec.reduceOfInt, Nat.reduceBEq, hb]; try rfl) ?_
    refine al_load rfl (by simp only [go_sem, ↓reduceIte, Nat.reduceLT, Nat.reduceEqDiff, Nat.reduceLeDiff, Nat.reduceAdd, Nat.reduceMul, Int.reduceLT, Int.reduceLE, Int.reduceToNat, BitVec.reduceOfInt, Nat.reduceBEq, hb]) rfl (by simp only [go_sem, ↓reduceIte, Nat.reduceLT, Nat.reduceEqDiff, Nat.reduceLeDiff, Nat.reduceAdd, Nat.reduceMul, Int.reduceLT, Int.reduceLE, Int.reduceToNat, BitVec.reduceOfInt, Nat.reduceBEq, hb]; try rfl) hGN (loadA_scalar agg23 rfl) ?_
    refine al_pureN 2 (by simp only [go_sem, ↓reduceIte, Nat.reduceLT, Nat.reduceEqDiff, Nat.reduceLeDiff, Nat.reduceAdd, Nat.reduceMul, Int.reduceLT, Int.reduceLE, Int.reduceToNat, BitVec.reduceOfInt, Nat.reduceBEq, hb]; try rfl) ?_
    refine al_end [1, 3, 42] ?_
    refine awp_if rfl (fun _ => ?_) (fun h => by cases h)
    refine awp_skip ?_
    refine awp_seq (awp_block ?_)
    have hjj : 0 ≤ (j : Int) ∧ (j : Int) < (g.as.length : Int) := by omega
    obtain ⟨b1, b2, b3, b4⟩ := chkA_get hchk hlt
    obtain ⟨id, off, cap, b, e1, e2, e3, e4⟩ := rowsAt_pair (ha.mono hτ) hlt
    cases e1
    have a1 : -9223372036854775808 ≤ 1 + g.inp ∧ 1 + g.inp ≤ 9223372036854775807 := by omega
    have a2 : -9223372036854775808 ≤ 1 + g.inp + (g.ls.length : Int) ∧ 1 + g.inp + (g.ls.length : Int) ≤ 9223372036854775807 := by omega
    have a3 : -9223372036854775808 ≤ 1 + g.inp + (g.ls.length : Int) + (j : Int) ∧ 1 + g.inp + (g.ls.length : Int) + (j : Int) ≤ 9223372036854775807 := by omega
    have a4 := mul2 (1 + g.inp + (g.ls.length : Int) + (j : Int)) (by omega) (by omega)
    first | refine awp_seq (awp_lit ?_) | refine awp_lit ?_ | refine awp_seq (awp_seq (awp_lit ?_))
    refine al_pureN 1 (by simp only [go_sem, ↓reduceIte, Nat.reduceLT, Nat.reduceEqDiff, Nat.reduceLeDiff, Nat.reduceAdd, Nat.reduceMul, Int.reduceLT, Int.reduceLE, Int.reduceToNat, BitVec.reduceOfInt, Nat.reduceBEq, i64_add a1, i64_add a2, i64_add a3, a4]; try rfl) ?_
    refine al_load rfl (by simp only [go_sem, ↓reduceIte, Nat.reduceLT, Nat.reduceEqDiff, Nat.reduceLeDiff, Nat.reduceAdd, Nat.reduceMul, Int.reduceLT, Int.reduceLE, Int.reduceToNat, BitVec.reduceOfInt, Nat.reduceBEq, i64_add a1, i64_add a2, i64_add a3, a4]) rfl (by simp only [go_sem, ↓reduceIte, Nat.reduceLT, Nat.reduceEqDiff, Nat.reduceLeDiff, Nat.reduceAdd, Nat.reduceMul, Int.reduceLT, Int.reduceLE, Int.reduceToNat, BitVec.reduceOfInt, Nat.reduceBEq, i64_add a1, i64_add a2, i64_add a3, a4]; try rfl) hGN (loadA_scalar agg3 rfl) ?_
    refine al_pureN 2 (by simp only [go_sem, ↓reduceIte, Nat.reduceLT, Nat.reduceEqDiff, Nat.reduceLeDiff, Nat.reduceAdd, Nat.reduceMul, Int.reduceLT, Int.reduceLE, Int.reduceToNat, BitVec.reduceOfInt, Nat.reduceBEq, i64_add a1, i64_add a2, i64_add a3, a4]; try rfl) ?_
    refine al_load rfl (by simp only [go_sem, ↓reduceIte, Nat.reduceLT, Nat.reduceEqDiff, Nat.reduceLeDiff, Nat.reduceAdd, Nat.reduceMul, Int.reduceLT, Int.reduceLE, Int.reduceToNat, BitVec.reduceOfInt, Nat.reduceBEq, i64_add a1, i64_add a2, i64_add a3, a4]) rfl (by simp only [go_sem, ↓reduceIte, Nat.reduceLT, Nat.reduceEqDiff, Nat.reduceLeDiff, Nat.reduceAdd, Nat.reduceMul, Int.reduceLT, Int.reduceLE, Int.reduceToNat, BitVec.reduceOfInt, Nat.reduceBEq, i64_add a1, i64_add a2, i64_add a3, a4]; try rfl) hGN (loadA_scalar agg22 rfl) ?_
    refine al_pureN 6 (by simp only [go_sem, ↓reduceIte, Nat.reduceLT, Nat.reduceEqDiff, Nat.reduceLeDiff, Nat.reduceAdd, Nat.reduceMul, Int.reduceLT, Int.reduceLE, Int.reduceToNat, BitVec.reduceOfInt, Nat.reduceBEq, i64_add a1, i64_add a2, i64_add a3, a4]; try rfl) ?_
    refine al_end [1, 3, 4] ?_
    first | refine awp_seq (awp_lit ?_) | refine awp_lit ?_ | refine awp_seq (awp_seq (awp_lit ?_))
    refine al_pureN 1 (by simp only [go_sem, ↓reduceIte, Nat.reduceLT, Nat.reduceEqDiff, Nat.reduceLeDiff, Nat.reduceAdd, Nat.reduceMul, Int.reduceLT, Int.reduceLE, Int.reduceToNat, BitVec.reduceOfInt, Nat.reduceBEq, hjj]; try rfl) ?_
    refine al_load rfl (by simp only [go_sem, ↓reduceIte, Nat.reduceLT, Nat.reduceEqDiff, Nat.reduceLeDiff, Nat.reduceAdd, Nat.reduceMul, Int.reduceLT, Int.reduceLE, Int.reduceToNat, BitVec.reduceOfInt, Nat.reduceBEq, hjj]) rfl (by simp only [go_sem, ↓reduceIte, Nat.reduceLT, Nat.reduceEqDiff, Nat.reduceLeDiff, Nat.reduceAdd, Nat.reduceMul, Int.reduceLT, Int.reduceLE, Int.reduceToNat, BitVec.reduceOfInt, Nat.reduceBEq, hjj]; try rfl) hGN (loadA_scalar agg23 rfl) ?_
    refine al_pureN 2 (by simp only [go_sem, ↓reduceIte, Nat.reduceLT, Nat.reduceEqDiff, Nat.reduceLeDiff, Nat.reduceAdd, Nat.reduceMul, Int.reduceLT, Int.reduceLE, Int.reduceToNat, BitVec.reduceOfInt, Nat.reduceBEq, hjj]; try rfl) ?_
    refine al_load rfl (by simp only [go_sem, ↓reduceIte, Nat.reduceLT, Nat.reduceEqDiff, Nat.reduceLeDiff, Nat.reduceAdd, Nat.reduceMul, Int.reduceLT, Int.reduceLE, Int.reduceToNat, BitVec.reduceOfInt, Nat.reduceBEq, hjj]) rfl (by simp only [go_sem, ↓reduceIte, Nat.reduceLT, Nat.reduceEqDiff, Nat.reduceLeDiff, Nat.reduceAdd, Nat.reduceMul, Int.reduceLT, Int.reduceLE, Int.reduceToNat, BitVec.reduceOfInt, Nat.reduceBEq, hjj]; try rfl) e2 (loadA_agg agg47 e3) ?_
    refine al_alloc 1 rfl rfl rfl ty47 (by decide) ?_
    refine al_store rfl (by simp only [go_sem, ↓reduceIte, Nat.reduceLT, Nat.reduceEqDiff, Nat.reduceLeDiff, Nat.reduceAdd, Nat.reduceMul, Int.reduceLT, Int.reduceLE, Int.reduceToNat, BitVec.reduceOfInt, Nat.reduceBEq, hjj]) rfl (by simp only [go_sem, ↓reduceIte, Nat.reduceLT, Nat.reduceEqDiff, Nat.reduceLeDiff, Nat.reduceAdd, Nat.reduceMul, Int.reduceLT, Int.reduceLE, Int.reduceToNat, BitVec.reduceOfInt, Nat.reduceBEq, hjj]; try rfl) (by simp only [go_sem, ↓reduceIte, Nat.reduceLT, Nat.reduceEqDiff, Nat.reduceLeDiff, Nat.reduceAdd, Nat.reduceMul, Int.reduceLT, Int.reduceLE, Int.reduceToNat, BitVec.reduceOfInt, Nat.reduceBEq, hjj]; try rfl) (by first | exact AHeap.set_self _ _ _ | (simp only [AHeap.set, ↓reduceIte, Nat.add_assoc, Nat.reduceAdd, Nat.add_left_cancel_iff, Nat.add_right_cancel_iff, Nat.left_eq_add, Nat.add_eq_left, Nat.add_eq_right, Nat.right_eq_add, Nat.reduceEqDiff, Nat.succ_ne_zero, hjj]; rfl) | assumption) rfl (by exact size47.trans rfl) (by rfl) (by exact Nat.le_of_ble_eq_true rfl) ?_
    refine al_end [1, 3, 4, 5] ?_
    rw [AHeap.set_set]
    obtain ⟨A, hAe⟩ : ∃ A, A = g.as[j].1 := ⟨_, rfl⟩
    obtain ⟨B, hBe⟩ : ∃ B, B = g.as[j].2 := ⟨_, rfl⟩
    rw [← hAe] at b1 b2 ⊢
    rw [← hBe] at b3 b4 ⊢
    have d1 : decide (A < 0) = false := by simp; omega
    have d2 : decide (A ≥ 2 * (1 + g.inp + (g.ls.length : Int) + (j : Int))) = false := by simp; omega
    have d3 : decide (B < 0) = false := by simp; omega
    have d4 : decide (B ≥ 2 * (1 + g.inp + (g.ls.length : Int) + (j : Int))) = false := by simp; omega
    first | refine awp_seq (awp_lit ?_) | refine awp_lit ?_ | refine awp_seq (awp_seq (awp_lit ?_))
    refine al_pureN 1 (by simp only [go_sem, ↓reduceIte, Nat.reduceLT, Nat.reduceEqDiff, Nat.reduceLeDiff, Nat.reduceAdd, Nat.reduceMul, Int.reduceLT, Int.reduceLE, Int.reduceToNat, BitVec.reduceOfInt, Nat.reduceBEq, d1, d2, d3, d4]; try rfl) ?_
    refine al_load rfl (by simp only [go_sem, ↓reduceIte, Nat.reduceLT, Nat.reduceEqDiff, Nat.reduceLeDiff, Nat.reduceAdd, Nat.reduceMul, Int.reduceLT, Int.reduceLE, Int.reduceToNat, BitVec.reduceOfInt, Nat.reduceBEq, d1, d2, d3, d4]) rfl (by simp only [go_sem, ↓reduceIte, Nat.reduceLT, Nat.reduceEqDiff, Nat.reduceLeDiff, Nat.reduceAdd, Nat.reduceMul, Int.reduceLT, Int.reduceLE, Int.reduceToNat, BitVec.reduceOfInt, Nat.reduceBEq, d1, d2, d3, d4]; try rfl) (by first | exact AHeap.set_self _ _ _ | (simp only [AHeap.set, ↓reduceIte, Nat.add_assoc, Nat.reduceAdd, Nat.add_left_cancel_iff, Nat.add_right_cancel_iff, Nat.left_eq_add, Nat.add_eq_left, Nat.add_eq_right, Nat.right_eq_add, Nat.reduceEqDiff, Nat.succ_ne_zero, d1, d2, d3, d4]; rfl) | assumption) (by first | exact loadA_scalar agg43 rfl | exact loadA_agg agg43 rfl | exact loadA_scalar agg43 (by assumption)) ?_
    refine al_pureN 3 (by simp only [go_sem, ↓reduceIte, Nat.reduceLT, Nat.reduceEqDiff, Nat.reduceLeDiff, Nat.reduceAdd, Nat.reduceMul, Int.reduceLT, Int.reduceLE, Int.reduceToNat, BitVec.reduceOfInt, Nat.reduceBEq, d1, d2, d3, d4]; try rfl) ?_
    refine al_load rfl (by simp only [go_sem, ↓reduceIte, Nat.reduceLT, Nat.reduceEqDiff, Nat.reduceLeDiff, Nat.reduceAdd, Nat.reduceMul, Int.reduceLT, Int.reduceLE, Int.reduceToNat, BitVec.reduceOfInt, Nat.reduceBEq, d1, d2, d3, d4]) rfl (by simp only [go_sem, ↓reduceIte, Nat.reduceLT, Nat.reduceEqDiff, Nat.reduceLeDiff, Nat.reduceAdd, Nat.reduceMul, Int.reduceLT, Int.reduceLE, Int.reduceToNat, BitVec.reduceOfInt, Nat.reduceBEq, d1, d2, d3, d4]; try rfl) (by first | exact AHeap.set_self _ _ _ | (simp only [AHeap.set, ↓reduceIte, Nat.add_assoc, Nat.reduceAdd, Nat.add_left_cancel_iff, Nat.add_right_cancel_iff, Nat.left_eq_add, Nat.add_eq_left, Nat.add_eq_right, Nat.right_eq_add, Nat.reduceEqDiff, Nat.succ_ne_zero, d1, d2, d3, d4]; rfl) | assumption) (by first | exact loadA_scalar agg43 rfl | exact loadA_agg agg43 rfl | exact loadA_scalar agg43 (by assumption)) ?_
    refine al_pureN 4 (by simp only [go_sem, ↓reduceIte, Nat.reduceLT, Nat.reduceEqDiff, Nat.reduceLeDiff, Nat.reduceAdd, Nat.reduceMul, Int.reduceLT, Int.reduceLE, Int.reduceToNat, BitVec.reduceOfInt, Nat.reduceBEq, d1, d2, d3, d4]; try rfl) ?_
    refine al_pureN 1 (by simp only [go_sem, ↓reduceIte, Nat.reduceLT, Nat.reduceEqDiff, Nat.reduceLeDiff, Nat.reduceAdd, Nat.reduceMul, Int.reduceLT, Int.reduceLE, Int.reduceToNat, BitVec.reduceOfInt, Nat.reduceBEq, d1, d2, d3, d4]; try rfl) ?_
    refine al_load rfl (by simp only [go_sem, ↓reduceIte, Nat.reduceLT, Nat.reduceEqDiff, Nat.reduceLeDiff, Nat.reduceAdd, Nat.reduceMul, Int.reduceLT, Int.reduceLE, Int.reduceToNat, BitVec.reduceOfInt, Nat.reduceBEq, d1, d2, d3, d4]) rfl (by simp only [go_sem, ↓reduceIte, Nat.reduceLT, Nat.reduceEqDiff, Nat.reduceLeDiff, Nat.reduceAdd, Nat.reduceMul, Int.reduceLT, Int.reduceLE, Int.reduceToNat, BitVec.reduceOfInt, Nat.reduceBEq, d1, d2, d3, d4]; try rfl) (by first | exact AHeap.set_self _ _ _ | (simp only [AHeap.set, ↓reduceIte, Nat.add_assoc, Nat.reduceAdd, Nat.add_left_cancel_iff, Nat.add_right_cancel_iff, Nat.left_eq_add, Nat.add_eq_left, Nat.add_eq_right, Nat.right_eq_add, Nat.reduceEqDiff, Nat.succ_ne_zero, d1, d2, d3, d4]; rfl) | assumption) (by first | exact loadA_scalar agg43 rfl | exact loadA_agg agg43 rfl | exact loadA_scalar agg43 (by assumption)) ?_
    refine al_pureN 4 (by simp only [go_sem, ↓reduceIte, Nat.reduceLT, Nat.reduceEqDiff, Nat.reduceLeDiff, Nat.reduceAdd, Nat.reduceMul, Int.reduceLT, Int.reduceLE, Int.reduceToNat, BitVec.reduceOfInt, Nat.reduceBEq, d1, d2, d3, d4]; try rfl) ?_
    refine al_load rfl (by simp only [go_sem, ↓reduceIte, Nat.reduceLT, Nat.reduceEqDiff, Nat.reduceLeDiff, Nat.reduceAdd, Nat.reduceMul, Int.reduceLT, Int.reduceLE, Int.reduceToNat, BitVec.reduceOfInt, Nat.reduceBEq, d1, d2, d3, d4]) rfl (by simp only [go_sem, ↓reduceIte, Nat.reduceLT, Nat.reduceEqDiff, Nat.reduceLeDiff, Nat.reduceAdd, Nat.reduceMul, Int.reduceLT, Int.reduceLE, Int.reduceToNat, BitVec.reduceOfInt, Nat.reduceBEq, d1, d2, d3, d4]; try rfl) (by first | exact AHeap.set_self _ _ _ | (simp only [AHeap.set, ↓reduceIte, Nat.add_assoc, Nat.reduceAdd, Nat.add_left_cancel_iff, Nat.add_right_cancel_iff, Nat.left_eq_add, Nat.add_eq_left, Nat.add_eq_right, Nat.right_eq_add, Nat.reduceEqDiff, Nat.succ_ne_zero, d1, d2, d3, d4]; rfl) | assumption) (by first | exact loadA_scalar agg43 rfl | exact loadA_agg agg43 rfl | exact loadA_scalar agg43 (by assumption)) ?_
    refine al_pureN 3 (by simp only [go_sem, ↓reduceIte, Nat.reduceLT, Nat.reduceEqDiff, Nat.reduceLeDiff, Nat.reduceAdd, Nat.reduceMul, Int.reduceLT, Int.reduceLE, Int.reduceToNat, BitVec.reduceOfInt, Nat.reduceBEq, d1, d2, d3, d4]; try rfl) ?_
    refine al_end [1, 3, 79] ?_
    refine awp_if rfl (fun h => by cases h) (fun _ => ?_)
    refine awp_skip ?_
    have hadd : -9223372036854775808 ≤ (j : Int) + 1 ∧ (j : Int) + 1 ≤ 9223372036854775807 := by omega
    refine awp_pures [1, 3] (by simp only [go_sem, ↓reduceIte, Nat.reduceLT, Nat.reduceEqDiff, Nat.reduceLeDiff, Nat.reduceAdd, Nat.reduceMul, Int.reduceLT, Int.reduceLE, Int.reduceToNat, BitVec.reduceOfInt, Nat.reduceBEq, i64_add hadd]; try rfl) ?_
    exact ALoop.cast3 (ih (j + 1, M + 1, _) ⟨hlt, by dsimp only; omega, by rw [hG]; exact hle.trans (le_new hd (Nat.le_refl _)), dom_set hd⟩ (by dsimp only; omega)) rfl rfl rfl
  · have hb : decide ((j : Int) < (g.as.length : Int)) = false := by simpa using hlt
    refine awp_seq ?_
    first | refine awp_seq (awp_lit ?_) | refine awp_lit ?_ | refine awp_seq (awp_seq (awp_lit ?_))
    refine al_pureN 2 (by simp only [go_sem, ↓reduceIte, Nat.reduceLT, Nat.reduceEqDiff, Nat.reduceLeDiff, Nat.reduceAdd, Nat.reduceMul, Int.reduceLT, Int.reduceLE, Int.reduceToNat, BitVec.reduceOfInt, Nat.reduceBEq, hb]; try rfl) ?_
    refine al_load rfl (by simp only [go_sem, ↓reduceIte, Nat.reduceLT, Nat.reduceEqDiff, Nat.reduceLeDiff, Nat.reduceAdd, Nat.reduceMul, Int.reduceLT, Int.reduceLE, Int.reduceToNat, BitVec.reduceOfInt, Nat.reduceBEq, hb]) rfl (by simp only [go_sem, ↓reduceIte, Nat.reduceLT, Nat.reduceEqDiff, Nat.reduceLeDiff, Nat.reduceAdd, Nat.reduceMul, Int.reduceLT, Int.reduceLE, Int.reduceToNat, BitVec.reduceOfInt, Nat.reduceBEq, hb]; try rfl) hGN (loadA_scalar agg23 rfl) ?_
    refine al_pureN 2 (by simp only [go_sem, ↓reduceIte, Nat.reduceLT, Nat.reduceEqDiff, Nat.reduceLeDiff, Nat.reduceAdd, Nat.reduceMul, Int.reduceLT, Int.reduceLE, Int.reduceToNat, BitVec.reduceOfInt, Nat.reduceBEq, hb]; try rfl) ?_
    refine al_end [1, 3, 42] ?_
    refine awp_if rfl (fun h => by cases h) (fun _ => ?_)
    refine awp_exit ?_
    simp only [Go.Abs.Seq, Go.Abs.Round, Go.Abs.InBlock, ↓reduceIte]
    have a5 := mul2 (sizeC g) (by omega) (by omega)
    first | refine awp_seq (awp_lit ?_) | refine awp_lit ?_ | refine awp_seq (awp_seq (awp_lit ?_))
    refine al_load rfl (by simp only [go_sem, ↓reduceIte, Nat.reduceLT, Nat.reduceEqDiff, Nat.reduceLeDiff, Nat.reduceAdd, Nat.reduceMul, Int.reduceLT, Int.reduceLE, Int.reduceToNat, BitVec.reduceOfInt, Nat.reduceBEq, a5]) rfl (by simp only [go_sem, ↓reduceIte, Nat.reduceLT, Nat.reduceEqDiff, Nat.reduceLeDiff, Nat.reduceAdd, Nat.reduceMul, Int.reduceLT, Int.reduceLE, Int.reduceToNat, BitVec.reduceOfInt, Nat.reduceBEq, a5]; try rfl) hGN (loadA_agg agg26 rfl) ?_
    refine al_gives (vs := ?vs2) (v := ?v2) rfl ?ha2 ?hh2 (by kernel_rfl) rfl (by simp only [go_sem, ↓reduceIte, Nat.reduceLT, Nat.reduceEqDiff, Nat.reduceLeDiff, Nat.reduceAdd, Nat.reduceMul, Int.reduceLT, Int.reduceLE, Int.reduceToNat, BitVec.reduceOfInt, Nat.reduceBEq, a5]) ?kk2
    case ha2 => simp only [go_sem, ↓reduceIte, Nat.reduceLT, Nat.reduceEqDiff, Nat.reduceLeDiff, Nat.reduceAdd, Nat.reduceMul, Int.reduceLT, Int.reduceLE, Int.reduceToNat, BitVec.reduceOfInt, Nat.reduceBEq, a5]; try rfl
    case hh2 => exact nodes_gives (hv0.mono hτ) hfew (by omega) (by omega)
    refine al_pureN 2 (by simp only [go_sem, ↓reduceIte, Nat.reduceLT, Nat.reduceEqDiff, Nat.reduceLeDiff, Nat.reduceAdd, Nat.reduceMul, Int.reduceLT, Int.reduceLE, Int.reduceToNat, BitVec.reduceOfInt, Nat.reduceBEq, a5]; try rfl) ?_
    refine al_end [1, 6] ?_
    clear ih hlt hj hb
    have hστ : σ.le τ := hτ
    obtain ⟨z, hz⟩ : ∃ z, z = sizeC g := ⟨_, rfl⟩
    rw [← hz] at hchl hcho hsz ⊢
    refine awp_seq ?_
    refine awp_seq (awp_pures [1, 6, 7] (by simp only [go_sem, ↓reduceIte, Nat.reduceLT, Nat.reduceEqDiff, Nat.reduceLeDiff, Nat.reduceAdd, Nat.reduceMul, Int.reduceLT, Int.reduceLE, Int.reduceToNat, BitVec.reduceOfInt, Nat.reduceBEq]; try rfl) ?_)
    refine awp_block (awp_loop ?_)
    refine ALoop.cast3 (aloop_ind (α := Nat) (fun a => a ≤ g.ls.length) (fun a => g.ls.length - a)
      (fun a => [(1, .pointer (some ⟨N, 0, none⟩)), (6, .int .i64 (2 * z)), (7, .int .i64 a)]) (fun _ => M) (fun _ => τ) ?_ 0 (Nat.zero_le _)) rfl rfl rfl
    rintro j hj ih
    by_cases hlt : j < g.ls.length
    · have hb : decide ((j : Int) < (g.ls.length : Int)) = true := by simpa using hlt
      refine awp_seq ?_
      first | refine awp_seq (awp_lit ?_) | refine awp_lit ?_ | refine awp_seq (awp_seq (awp_lit ?_))
      refine al_pureN 2 (by simp only [go_sem, ↓reduceIte, Nat.reduceLT, Nat.reduceEqDiff, Nat.reduceLeDiff, Nat.reduceAdd, Nat.reduceMul, Int.reduceLT, Int.reduceLE, Int.reduceToNat, BitVec.reduceOfInt, Nat.reduceBEq, hb]; try rfl) ?_
      refine al_load rfl (by simp only [go_sem, ↓reduceIte, Nat.reduceLT, Nat.reduceEqDiff, Nat.reduceLeDiff, Nat.reduceAdd, Nat.reduceMul, Int.reduceLT, Int.reduceLE, Int.reduceToNat, BitVec.reduceOfInt, Nat.reduceBEq, hb]) rfl (by simp only [go_sem, ↓reduceIte, Nat.reduceLT, Nat.reduceEqDiff, Nat.reduceLeDiff, Nat.reduceAdd, Nat.reduceMul, Int.reduceLT, Int.reduceLE, Int.reduceToNat, BitVec.reduceOfInt, Nat.reduceBEq, hb]; try rfl) hGN (loadA_scalar agg22 rfl) ?_
      refine al_pureN 2 (by simp only [go_sem, ↓reduceIte, Nat.reduceLT, Nat.reduceEqDiff, Nat.reduceLeDiff, Nat.reduceAdd, Nat.reduceMul, Int.reduceLT, Int.reduceLE, Int.reduceToNat, BitVec.reduceOfInt, Nat.reduceBEq, hb]; try rfl) ?_
      refine al_end [1, 6, 7, 87] ?_
      refine awp_if rfl (fun _ => ?_) (fun h => by cases h)
      refine awp_skip ?_
      refine awp_seq (awp_block ?_)
      have hjj : 0 ≤ (j : Int) ∧ (j : Int) < (g.ls.length : Int) := by omega
      obtain ⟨b1, b2⟩ := chkL_get hchl hlt
      have b3 : g.ls[j].2 ≤ 1 := by
        have := List.all_eq_true.1 hchl _ (List.getElem_mem hlt)
        simp only [inR, Bool.and_eq_true, decide_eq_true_eq] at this
        exact this.2
      obtain ⟨id, off, cap, b, e1, e2, e3, e4⟩ := rowsAt_pair (hl.mono hτ) hlt
      cases e1
      obtain ⟨c1, c2⟩ := cells_two e3
      have d1 : decide (g.ls[j].1 < 0) = false := by simp; omega
      have d2 : decide (g.ls[j].1 ≥ 2 * z) = false := by simp; omega
      have d3 : decide (g.ls[j].2 > 1) = false := by simp; omega
      refine awp_seq ?_
      first | refine awp_seq (awp_lit ?_) | refine awp_lit ?_ | refine awp_seq (awp_seq (awp_lit ?_))
      refine al_pureN 1 (by simp only [go_sem, ↓reduceIte, Nat.reduceLT, Nat.reduceEqDiff, Nat.reduceLeDiff, Nat.reduceAdd, Nat.reduceMul, Int.reduceLT, Int.reduceLE, Int.reduceToNat, BitVec.reduceOfInt, Nat.reduceBEq, hjj, d1, d2, u8_gtr, d3]; try rfl) ?_
      refine al_load rfl (by simp only [go_sem, ↓reduceIte, Nat.reduceLT, Nat.reduceEqDiff, Nat.reduceLeDiff, Nat.reduceAdd, Nat.reduceMul, Int.reduceLT, Int.reduceLE, Int.reduceToNat, BitVec.reduceOfInt, Nat.reduceBEq, hjj, d1, d2, u8_gtr, d3]) rfl (by simp only [go_sem, ↓reduceIte, Nat.reduceLT, Nat.reduceEqDiff, Nat.reduceLeDiff, Nat.reduceAdd, Nat.reduceMul, Int.reduceLT, Int.reduceLE, Int.reduceToNat, BitVec.reduceOfInt, Nat.reduceBEq, hjj, d1, d2, u8_gtr, d3]; try rfl) hGN (loadA_scalar agg22 rfl) ?_
      refine al_pureN 3 (by simp only [go_sem, ↓reduceIte, Nat.reduceLT, Nat.reduceEqDiff, Nat.reduceLeDiff, Nat.reduceAdd, Nat.reduceMul, Int.reduceLT, Int.reduceLE, Int.reduceToNat, BitVec.reduceOfInt, Nat.reduceBEq, hjj, d1, d2, u8_gtr, d3]; try rfl) ?_
      refine al_load rfl (by simp only [go_sem, ↓reduceIte, Nat.reduceLT, Nat.reduceEqDiff, Nat.reduceLeDiff, Nat.reduceAdd, Nat.reduceMul, Int.reduceLT, Int.reduceLE, Int.reduceToNat, BitVec.reduceOfInt, Nat.reduceBEq, hjj, d1, d2, u8_gtr, d3]) rfl (by simp only [go_sem, ↓reduceIte, Nat.reduceLT, Nat.reduceEqDiff, Nat.reduceLeDiff, Nat.reduceAdd, Nat.reduceMul, Int.reduceLT, Int.reduceLE, Int.reduceToNat, BitVec.reduceOfInt, Nat.reduceBEq, hjj, d1, d2, u8_gtr, d3]; try rfl) e2 (loadA_scalar agg43 c1) ?_
      refine al_pureN 3 (by simp only [go_sem, ↓reduceIte, Nat.reduceLT, Nat.reduceEqDiff, Nat.reduceLeDiff, Nat.reduceAdd, Nat.reduceMul, Int.reduceLT, Int.reduceLE, Int.reduceToNat, BitVec.reduceOfInt, Nat.reduceBEq, hjj, d1, d2, u8_gtr, d3]; try rfl) ?_
      refine al_load rfl (by simp only [go_sem, ↓reduceIte, Nat.reduceLT, Nat.reduceEqDiff, Nat.reduceLeDiff, Nat.reduceAdd, Nat.reduceMul, Int.reduceLT, Int.reduceLE, Int.reduceToNat, BitVec.reduceOfInt, Nat.reduceBEq, hjj, d1, d2, u8_gtr, d3]) rfl (by simp only [go_sem, ↓reduceIte, Nat.reduceLT, Nat.reduceEqDiff, Nat.reduceLeDiff, Nat.reduceAdd, Nat.reduceMul, Int.reduceLT, Int.reduceLE, Int.reduceToNat, BitVec.reduceOfInt, Nat.reduceBEq, hjj, d1, d2, u8_gtr, d3]; try rfl) hGN (loadA_scalar agg22 rfl) ?_
      refine al_pureN 3 (by simp only [go_sem, ↓reduceIte, Nat.reduceLT, Nat.reduceEqDiff, Nat.reduceLeDiff, Nat.reduceAdd, Nat.reduceMul, Int.reduceLT, Int.reduceLE, Int.reduceToNat, BitVec.reduceOfInt, Nat.reduceBEq, hjj, d1, d2, u8_gtr, d3]; try rfl) ?_
      refine al_load rfl (by simp only [go_sem, ↓reduceIte, Nat.reduceLT, Nat.reduceEqDiff, Nat.reduceLeDiff, Nat.reduceAdd, Nat.reduceMul, Int.reduceLT, Int.reduceLE, Int.reduceToNat, BitVec.reduceOfInt, Nat.reduceBEq, hjj, d1, d2, u8_gtr, d3]) rfl (by simp only [go_sem, ↓reduceIte, Nat.reduceLT, Nat.reduceEqDiff, Nat.reduceLeDiff, Nat.reduceAdd, Nat.reduceMul, Int.reduceLT, Int.reduceLE, Int.reduceToNat, BitVec.reduceOfInt, Nat.reduceBEq, hjj, d1, d2, u8_gtr, d3]; try rfl) e2 (loadA_scalar agg43 c1) ?_
      refine al_pureN 4 (by simp only [go_sem, ↓reduceIte, Nat.reduceLT, Nat.reduceEqDiff, Nat.reduceLeDiff, Nat.reduceAdd, Nat.reduceMul, Int.reduceLT, Int.reduceLE, Int.reduceToNat, BitVec.reduceOfInt, Nat.reduceBEq, hjj, d1, d2, u8_gtr, d3]; try rfl) ?_
      refine al_pureN 1 (by simp only [go_sem, ↓reduceIte, Nat.reduceLT, Nat.reduceEqDiff, Nat.reduceLeDiff, Nat.reduceAdd, Nat.reduceMul, Int.reduceLT, Int.reduceLE, Int.reduceToNat, BitVec.reduceOfInt, Nat.reduceBEq, hjj, d1, d2, u8_gtr, d3]; try rfl) ?_
      refine al_load rfl (by simp only [go_sem, ↓reduceIte, Nat.reduceLT, Nat.reduceEqDiff, Nat.reduceLeDiff, Nat.reduceAdd, Nat.reduceMul, Int.reduceLT, Int.reduceLE, Int.reduceToNat, BitVec.reduceOfInt, Nat.reduceBEq, hjj, d1, d2, u8_gtr, d3]) rfl (by simp only [go_sem, ↓reduceIte, Nat.reduceLT, Nat.reduceEqDiff, Nat.reduceLeDiff, Nat.reduceAdd, Nat.reduceMul, Int.reduceLT, Int.reduceLE, Int.reduceToNat, BitVec.reduceOfInt, Nat.reduceBEq, hjj, d1, d2, u8_gtr, d3]; try rfl) hGN (loadA_scalar agg22 rfl) ?_
      refine al_pureN 3 (by simp only [go_sem, ↓reduceIte, Nat.reduceLT, Nat.reduceEqDiff, Nat.reduceLeDiff, Nat.reduceAdd, Nat.reduceMul, Int.reduceLT, Int.reduceLE, Int.reduceToNat, BitVec.reduceOfInt, Nat.reduceBEq, hjj, d1, d2, u8_gtr, d3]; try rfl) ?_
      refine al_load rfl (by simp only [go_sem, ↓reduceIte, Nat.reduceLT, Nat.reduceEqDiff, Nat.reduceLeDiff, Nat.reduceAdd, Nat.reduceMul, Int.reduceLT, Int.reduceLE, Int.reduceToNat, BitVec.reduceOfInt, Nat.reduceBEq, hjj, d1, d2, u8_gtr, d3]) rfl (by simp only [go_sem, ↓reduceIte, Nat.reduceLT, Nat.reduceEqDiff, Nat.reduceLeDiff, Nat.reduceAdd, Nat.reduceMul, Int.reduceLT, Int.reduceLE, Int.reduceToNat, BitVec.reduceOfInt, Nat.reduceBEq, hjj, d1, d2, u8_gtr, d3]; try rfl) e2 (loadA_scalar agg5 c2) ?_
      refine al_pureN 2 (by simp only [go_sem, ↓reduceIte, Nat.reduceLT, Nat.reduceEqDiff, Nat.reduceLeDiff, Nat.reduceAdd, Nat.reduceMul, Int.reduceLT, Int.reduceLE, Int.reduceToNat, BitVec.reduceOfInt, Nat.reduceBEq, hjj, d1, d2, u8_gtr, d3]; try rfl) ?_
      refine al_end [1, 6, 7, 115] ?_
      refine awp_if rfl (fun h => by cases h) (fun _ => ?_)
      refine awp_skip ?_
      have hadd : -9223372036854775808 ≤ (j : Int) + 1 ∧ (j : Int) + 1 ≤ 9223372036854775807 := by omega
      refine awp_pures [1, 6, 7] (by simp only [go_sem, ↓reduceIte, Nat.reduceLT, Nat.reduceEqDiff, Nat.reduceLeDiff, Nat.reduceAdd, Nat.reduceMul, Int.reduceLT, Int.reduceLE, Int.reduceToNat, BitVec.reduceOfInt, Nat.reduceBEq, i64_add hadd]; try rfl) ?_
      exact ALoop.cast3 (ih (j + 1) hlt (by omega)) rfl rfl rfl
    · have hb : decide ((j : Int) < (g.ls.length : Int)) = false := by simpa using hlt
      refine awp_seq ?_
      first | refine awp_seq (awp_lit ?_) | refine awp_lit ?_ | refine awp_seq (awp_seq (awp_lit ?_))
      refine al_pureN 2 (by simp only [go_sem, ↓reduceIte, Nat.reduceLT, Nat.reduceEqDiff, Nat.reduceLeDiff, Nat.reduceAdd, Nat.reduceMul, Int.reduceLT, Int.reduceLE, Int.reduceToNat, BitVec.reduceOfInt, Nat.reduceBEq, hb]; try rfl) ?_
      refine al_load rfl (by simp only [go_sem, ↓reduceIte, Nat.reduceLT, Nat.reduceEqDiff, Nat.reduceLeDiff, Nat.reduceAdd, Nat.reduceMul, Int.reduceLT, Int.reduceLE, Int.reduceToNat, BitVec.reduceOfInt, Nat.reduceBEq, hb]) rfl (by simp only [go_sem, ↓reduceIte, Nat.reduceLT, Nat.reduceEqDiff, Nat.reduceLeDiff, Nat.reduceAdd, Nat.reduceMul, Int.reduceLT, Int.reduceLE, Int.reduceToNat, BitVec.reduceOfInt, Nat.reduceBEq, hb]; try rfl) hGN (loadA_scalar agg22 rfl) ?_
      refine al_pureN 2 (by simp only [go_sem, ↓reduceIte, Nat.reduceLT, Nat.reduceEqDiff, Nat.reduceLeDiff, Nat.reduceAdd, Nat.reduceMul, Int.reduceLT, Int.reduceLE, Int.reduceToNat, BitVec.reduceOfInt, Nat.reduceBEq, hb]; try rfl) ?_
      refine al_end [1, 6, 7, 87] ?_
      refine awp_if rfl (fun h => by cases h) (fun _ => ?_)
      refine awp_exit ?_
      simp only [Go.Abs.Seq, Go.Abs.Round, Go.Abs.InBlock, ↓reduceIte]
      clear ih hlt hj hb
      refine awp_seq ?_
      refine awp_seq (awp_pures [1, 6, 8] (by simp only [go_sem, ↓reduceIte, Nat.reduceLT, Nat.reduceEqDiff, Nat.reduceLeDiff, Nat.reduceAdd, Nat.reduceMul, Int.reduceLT, Int.reduceLE, Int.reduceToNat, BitVec.reduceOfInt, Nat.reduceBEq]; try rfl) ?_)
      refine awp_block (awp_loop ?_)
      refine ALoop.cast3 (aloop_ind (α := Nat) (fun a => a ≤ g.os.length) (fun a => g.os.length - a)
        (fun a => [(1, .pointer (some ⟨N, 0, none⟩)), (6, .int .i64 (2 * z)), (8, .int .i64 a)]) (fun _ => M) (fun _ => τ) ?_ 0 (Nat.zero_le _)) rfl rfl rfl
      rintro j hj ih
      by_cases hlt : j < g.os.length
      · have hb : decide ((j : Int) < (g.os.length : Int)) = true := by simpa using hlt
        refine awp_seq ?_
        first | refine awp_seq (awp_lit ?_) | refine awp_lit ?_ | refine awp_seq (awp_seq (awp_lit ?_))
        refine al_pureN 2 (by simp only [go_sem, ↓reduceIte, Nat.reduceLT, Nat.reduceEqDiff, Nat.reduceLeDiff, Nat.reduceAdd, Nat.reduceMul, Int.reduceLT, Int.reduceLE, Int.reduceToNat, BitVec.reduceOfInt, Nat.reduceBEq, hb]; try rfl) ?_
        refine al_load rfl (by simp only [go_sem, ↓reduceIte, Nat.reduceLT, Nat.reduceEqDiff, Nat.reduceLeDiff, Nat.reduceAdd, Nat.reduceMul, Int.reduceLT, Int.reduceLE, Int.reduceToNat, BitVec.reduceOfInt, Nat.reduceBEq, hb]) rfl (by simp only [go_sem, ↓reduceIte, Nat.reduceLT, Nat.reduceEqDiff, Nat.reduceLeDiff, Nat.reduceAdd, Nat.reduceMul, Int.reduceLT, Int.reduceLE, Int.reduceToNat, BitVec.reduceOfInt, Nat.reduceBEq, hb]; try rfl) hGN (loadA_scalar agg24 rfl) ?_
        refine al_pureN 2 (by simp only [go_sem, ↓reduceIte, Nat.reduceLT, Nat.reduceEqDiff, Nat.reduceLeDiff, Nat.reduceAdd, Nat.reduceMul, Int.reduceLT, Int.reduceLE, Int.reduceToNat, BitVec.reduceOfInt, Nat.reduceBEq, hb]; try rfl) ?_
        refine al_end [1, 6, 8, 120] ?_
        refine awp_if rfl (fun _ => ?_) (fun h => by cases h)
        refine awp_skip ?_
        refine awp_seq (awp_block ?_)
        have hjj : 0 ≤ (j : Int) ∧ (j : Int) < (g.os.length : Int) := by omega
        obtain ⟨b1, b2⟩ := chkO_get hcho hlt
        obtain ⟨id, off, cap, b, e1, e2, e3, e4⟩ := slAt_int (ho.mono hτ) hlt
        cases e1
        have d1 : decide (g.os[j] < 0) = false := by simp; omega
        have d2 : decide (g.os[j] ≥ 2 * z) = false := by simp; omega
        refine awp_seq ?_
        first | refine awp_seq (awp_lit ?_) | refine awp_lit ?_ | refine awp_seq (awp_seq (awp_lit ?_))
        refine al_pureN 1 (by simp only [go_sem, ↓reduceIte, Nat.reduceLT, Nat.reduceEqDiff, Nat.reduceLeDiff, Nat.reduceAdd, Nat.reduceMul, Int.reduceLT, Int.reduceLE, Int.reduceToNat, BitVec.reduceOfInt, Nat.reduceBEq, hjj, d1, d2]; try rfl) ?_
        refine al_load rfl (by simp only [go_sem, ↓reduceIte, Nat.reduceLT, Nat.reduceEqDiff, Nat.reduceLeDiff, Nat.reduceAdd, Nat.reduceMul, Int.reduceLT, Int.reduceLE, Int.reduceToNat, BitVec.reduceOfInt, Nat.reduceBEq, hjj, d1, d2]) rfl (by simp only [go_sem, ↓reduceIte, Nat.reduceLT, Nat.reduceEqDiff, Nat.reduceLeDiff, Nat.reduceAdd, Nat.reduceMul, Int.reduceLT, Int.reduceLE, Int.reduceToNat, BitVec.reduceOfInt, Nat.reduceBEq, hjj, d1, d2]; try rfl) hGN (loadA_scalar agg24 rfl) ?_
        refine al_pureN 2 (by simp only [go_sem, ↓reduceIte, Nat.reduceLT, Nat.reduceEqDiff, Nat.reduceLeDiff, Nat.reduceAdd, Nat.reduceMul, Int.reduceLT, Int.reduceLE, Int.reduceToNat, BitVec.reduceOfInt, Nat.reduceBEq, hjj, d1, d2]; try rfl) ?_
        refine al_load rfl (by simp only [go_sem, ↓reduceIte, Nat.reduceLT, Nat.reduceEqDiff, Nat.reduceLeDiff, Nat.reduceAdd, Nat.reduceMul, Int.reduceLT, Int.reduceLE, Int.reduceToNat, BitVec.reduceOfInt, Nat.reduceBEq, hjj, d1, d2]) rfl (by simp only [go_sem, ↓reduceIte, Nat.reduceLT, Nat.reduceEqDiff, Nat.reduceLeDiff, Nat.reduceAdd, Nat.reduceMul, Int.reduceLT, Int.reduceLE, Int.reduceToNat, BitVec.reduceOfInt, Nat.reduceBEq, hjj, d1, d2]; try rfl) e2 (loadA_scalar agg43 e3) ?_
        refine al_pureN 3 (by simp only [go_sem, ↓reduceIte, Nat.reduceLT, Nat.reduceEqDiff, Nat.reduceLeDiff, Nat.reduceAdd, Nat.reduceMul, Int.reduceLT, Int.reduceLE, Int.reduceToNat, BitVec.reduceOfInt, Nat.reduceBEq, hjj, d1, d2]; try rfl) ?_
        refine al_load rfl (by simp only [go_sem, ↓reduceIte, Nat.reduceLT, Nat.reduceEqDiff, Nat.reduceLeDiff, Nat.reduceAdd, Nat.reduceMul, Int.reduceLT, Int.reduceLE, Int.reduceToNat, BitVec.reduceOfInt, Nat.reduceBEq, hjj, d1, d2]) rfl (by simp only [go_sem, ↓reduceIte, Nat.reduceLT, Nat.reduceEqDiff, Nat.reduceLeDiff, Nat.reduceAdd, Nat.reduceMul, Int.reduceLT, Int.reduceLE, Int.reduceToNat, BitVec.reduceOfInt, Nat.reduceBEq, hjj, d1, d2]; try rfl) hGN (loadA_scalar agg24 rfl) ?_
        refine al_pureN 2 (by simp only [go_sem, ↓reduceIte, Nat.reduceLT, Nat.reduceEqDiff, Nat.reduceLeDiff, Nat.reduceAdd, Nat.reduceMul, Int.reduceLT, Int.reduceLE, Int.reduceToNat, BitVec.reduceOfInt, Nat.reduceBEq, hjj, d1, d2]; try rfl) ?_
        refine al_load rfl (by simp only [go_sem, ↓reduceIte, Nat.reduceLT, Nat.reduceEqDiff, Nat.reduceLeDiff, Nat.reduceAdd, Nat.reduceMul, Int.reduceLT, Int.reduceLE, Int.reduceToNat, BitVec.reduceOfInt, Nat.reduceBEq, hjj, d1, d2]) rfl (by simp only [go_sem, ↓reduceIte, Nat.reduceLT, Nat.reduceEqDiff, Nat.reduceLeDiff, Nat.reduceAdd, Nat.reduceMul, Int.reduceLT, Int.reduceLE, Int.reduceToNat, BitVec.reduceOfInt, Nat.reduceBEq, hjj, d1, d2]; try rfl) e2 (loadA_scalar agg43 e3) ?_
        refine al_pureN 3 (by simp only [go_sem, ↓reduceIte, Nat.reduceLT, Nat.reduceEqDiff, Nat.reduceLeDiff, Nat.reduceAdd, Nat.reduceMul, Int.reduceLT, Int.reduceLE, Int.reduceToNat, BitVec.reduceOfInt, Nat.reduceBEq, hjj, d1, d2]; try rfl) ?_
        refine al_end [1, 6, 8, 137] ?_
        refine awp_if rfl (fun h => by cases h) (fun _ => ?_)
        refine awp_skip ?_
        have hadd : -9223372036854775808 ≤ (j : Int) + 1 ∧ (j : Int) + 1 ≤ 9223372036854775807 := by omega
        refine awp_pures [1, 6, 8] (by simp only [go_sem, ↓reduceIte, Nat.reduceLT, Nat.reduceEqDiff, Nat.reduceLeDiff, Nat.reduceAdd, Nat.reduceMul, Int.reduceLT, Int.reduceLE, Int.reduceToNat, BitVec.reduceOfInt, Nat.reduceBEq, i64_add hadd]; try rfl) ?_
        exact ALoop.cast3 (ih (j + 1) hlt (by omega)) rfl rfl rfl
      · have hb : decide ((j : Int) < (g.os.length : Int)) = false := by simpa using hlt
        refine awp_seq ?_
        first | refine awp_seq (awp_lit ?_) | refine awp_lit ?_ | refine awp_seq (awp_seq (awp_lit ?_))
        refine al_pureN 2 (by simp only [go_sem, ↓reduceIte, Nat.reduceLT, Nat.reduceEqDiff, Nat.reduceLeDiff, Nat.reduceAdd, Nat.reduceMul, Int.reduceLT, Int.reduceLE, Int.reduceToNat, BitVec.reduceOfInt, Nat.reduceBEq, hb]; try rfl) ?_
        refine al_load rfl (by simp only [go_sem, ↓reduceIte, Nat.reduceLT, Nat.reduceEqDiff, Nat.reduceLeDiff, Nat.reduceAdd, Nat.reduceMul, Int.reduceLT, Int.reduceLE, Int.reduceToNat, BitVec.reduceOfInt, Nat.reduceBEq, hb]) rfl (by simp only [go_sem, ↓reduceIte, Nat.reduceLT, Nat.reduceEqDiff, Nat.reduceLeDiff, Nat.reduceAdd, Nat.reduceMul, Int.reduceLT, Int.reduceLE, Int.reduceToNat, BitVec.reduceOfInt, Nat.reduceBEq, hb]; try rfl) hGN (loadA_scalar agg24 rfl) ?_
        refine al_pureN 2 (by simp only [go_sem, ↓reduceIte, Nat.reduceLT, Nat.reduceEqDiff, Nat.reduceLeDiff, Nat.reduceAdd, Nat.reduceMul, Int.reduceLT, Int.reduceLE, Int.reduceToNat, BitVec.reduceOfInt, Nat.reduceBEq, hb]; try rfl) ?_
        refine al_end [1, 6, 8, 120] ?_
        refine awp_if rfl (fun h => by cases h) (fun _ => ?_)
        refine awp_exit ?_
        simp only [Go.Abs.Seq, Go.Abs.Round, Go.Abs.InBlock, ↓reduceIte]
        refine awp_seq (awp_pures [2] (by simp only [go_sem, ↓reduceIte, Nat.reduceLT, Nat.reduceEqDiff, Nat.reduceLeDiff, Nat.reduceAdd, Nat.reduceMul, Int.reduceLT, Int.reduceLE, Int.reduceToNat, BitVec.reduceOfInt, Nat.reduceBEq]; try rfl) ?_)
        exact awp_ret ⟨_, rfl, rfl, hτ, by omega⟩
end Go.Proofs.Ytfialjllclclkaa

/- The walk of the law CutFree. -/
set_option linter.unusedSimpArgs false
set_option linter.unusedVariables false
namespace Go.Proofs.Ytfialjllclclkaa
open Go.Abs Go.Cut
attribute [local go_sem] Try.underlying26 Try.underlying3 Try.underlying22 Try.underlying23 Try.underlying24 Try.underlying35 Try.underlying43 Try.underlying45 Try.underlying47 Try.underlying5 Try.underlying4 Try.underlying30 size26 size3 size22 size23 size24 size35 size43 size45 size47 size5 size4 size30 Nat.mul_one
theorem cone_err {g : AigD} {l : List Int} {node : Int} (h : (ConeR g l node).2 ≠ 0) : (ConeR g l node).1 = [] := by
  unfold ConeR coneE coneR at h ⊢
  repeat' split
  all_goals first | rfl | simp_all
theorem cone_len {g : AigD} {l : List Int} {node : Int} (h : (ConeR g l node).2 = 0) (hc : chkE g = 0) : l.length ≤ 4 := by
  unfold ConeR coneE at h
  rw [if_pos hc] at h
  split at h
  · rename_i h1; exact leafE_len h1
  · rename_i h1; exact absurd h h1
theorem ops_len (f : Nat) (ands : List (Int × Int)) (l : List Int) : (l.flatMap (opsF f ands)).length = 2 * l.length := by
  induction l with
  | nil => rfl
  | cons x l ih => rw [List.flatMap_cons, List.length_append, ih]; simp [opsF]; omega
theorem CutFree_ok {g : AigD} {v lv : Value} {node : Int} {l : List Int} {N : Nat} {σ : AHeap} (hv : AigAt σ v g) (hl : SlAt σ lv (ints l)) :
    AOk Try.prog 8 [v, .int .i64 node, lv] N σ fun r N1 σ1 => r = .bool true ∧ σ.le σ1 ∧ N ≤ N1 := by
  have hv0 := hv
  obtain ⟨lb, lc, ab, ac, ob, oc, rfl, hls, has, hos⟩ := hv.opn
  refine aok_fresh fun hN => aok_body (r := false) (n := 184) Try.func8 rfl rfl (by simp) ?_
  first | refine awp_seq (awp_lit ?_) | refine awp_lit ?_ | refine awp_seq (awp_seq (awp_lit ?_))
  refine al_box 1 rfl rfl rfl (by simp only [go_sem, ↓reduceIte, Nat.reduceLT, Nat.reduceEqDiff, Nat.reduceLeDiff, Nat.reduceAdd, Nat.reduceMul, Int.reduceLT, Int.reduceLE, Int.reduceToNat, BitVec.reduceOfInt, Nat.reduceBEq]; try rfl) ?_
  refine al_pureN 1 (by simp only [go_sem, ↓reduceIte, Nat.reduceLT, Nat.reduceEqDiff, Nat.reduceLeDiff, Nat.reduceAdd, Nat.reduceMul, Int.reduceLT, Int.reduceLE, Int.reduceToNat, BitVec.reduceOfInt, Nat.reduceBEq]; try rfl) ?_
  refine al_end [1, 2, 3] ?_
  have hτ := le_new (b := ⟨spread (.agg #[.int .i64 g.inp, .slice lb g.ls.length lc, .slice ab g.as.length ac, .slice ob g.os.length oc]), true, .n 1⟩) hN (Nat.le_refl _)
  show Abs.Seq _ _ _ _ _ _ _ _ (σ.set N ⟨spread (.agg #[.int .i64 g.inp, .slice lb g.ls.length lc, .slice ab g.as.length ac, .slice ob g.os.length oc]), true, .n 1⟩)
  by_cases hlong : longB g = true
  · refine awp_seq ?_
    first | refine awp_seq (awp_lit ?_) | refine awp_lit ?_ | refine awp_seq (awp_seq (awp_lit ?_))
    refine al_load rfl (by simp only [go_sem, ↓reduceIte, Nat.reduceLT, Nat.reduceEqDiff, Nat.reduceLeDiff, Nat.reduceAdd, Nat.reduceMul, Int.reduceLT, Int.reduceLE, Int.reduceToNat, BitVec.reduceOfInt, Nat.reduceBEq, hlong]) rfl (by simp only [go_sem, ↓reduceIte, Nat.reduceLT, Nat.reduceEqDiff, Nat.reduceLeDiff, Nat.reduceAdd, Nat.reduceMul, Int.reduceLT, Int.reduceLE, Int.reduceToNat, BitVec.reduceOfInt, Nat.reduceBEq, hlong]; try rfl) (by first | exact AHeap.set_self _ _ _ | (simp only [AHeap.set, ↓reduceIte, Nat.add_assoc, Nat.reduceAdd, Nat.add_left_cancel_iff, Nat.add_right_cancel_iff, Nat.left_eq_add, Nat.add_eq_left, Nat.add_eq_right, Nat.right_eq_add, Nat.reduceEqDiff, Nat.succ_ne_zero, hlong]; rfl) | assumption) (by first | exact loadA_scalar agg26 rfl | exact loadA_agg agg26 rfl | exact loadA_scalar agg26 (by assumption)) ?_
    refine al_gives (vs := ?vs1) (v := ?v1) rfl ?ha1 ?hh1 (by kernel_rfl) rfl (by simp only [go_sem, ↓reduceIte, Nat.reduceLT, Nat.reduceEqDiff, Nat.reduceLeDiff, Nat.reduceAdd, Nat.reduceMul, Int.reduceLT, Int.reduceLE, Int.reduceToNat, BitVec.reduceOfInt, Nat.reduceBEq, hlong]) ?kk1
    case ha1 => simp only [go_sem, ↓reduceIte, Nat.reduceLT, Nat.reduceEqDiff, Nat.reduceLeDiff, Nat.reduceAdd, Nat.reduceMul, Int.reduceLT, Int.reduceLE, Int.reduceToNat, BitVec.reduceOfInt, Nat.reduceBEq, hlong]; try rfl
    case hh1 => exact Long_gives (hv0.mono hτ)
    refine al_pureN 1 (by simp only [go_sem, ↓reduceIte, Nat.reduceLT, Nat.reduceEqDiff, Nat.reduceLeDiff, Nat.reduceAdd, Nat.reduceMul, Int.reduceLT, Int.reduceLE, Int.reduceToNat, BitVec.reduceOfInt, Nat.reduceBEq, hlong]; try rfl) ?_
    refine al_pureN 1 (by simp only [go_sem, ↓reduceIte, Nat.reduceLT, Nat.reduceEqDiff, Nat.reduceLeDiff, Nat.reduceAdd, Nat.reduceMul, Int.reduceLT, Int.reduceLE, Int.reduceToNat, BitVec.reduceOfInt, Nat.reduceBEq, hlong, undef]; try rfl) ?_
    refine al_pureN 2 (by simp only [go_sem, ↓reduceIte, Nat.reduceLT, Nat.reduceEqDiff, Nat.reduceLeDiff, Nat.reduceAdd, Nat.reduceMul, Int.reduceLT, Int.reduceLE, Int.reduceToNat, BitVec.reduceOfInt, Nat.reduceBEq, hlong]; try rfl) ?_
    refine al_end [1, 2, 3, 26] ?_
    refine awp_if rfl (fun _ => ?_) (fun h => by cases h)
    first | refine awp_seq (awp_lit ?_) | refine awp_lit ?_ | refine awp_seq (awp_seq (awp_lit ?_))
    refine al_gives (vs := ?vs2) (v := ?v2) rfl ?ha2 ?hh2 (by kernel_rfl) rfl (by simp only [go_sem, ↓reduceIte, Nat.reduceLT, Nat.reduceEqDiff, Nat.reduceLeDiff, Nat.reduceAdd, Nat.reduceMul, Int.reduceLT, Int.reduceLE, Int.reduceToNat, BitVec.reduceOfInt, Nat.reduceBEq]) ?kk2
    case ha2 => simp only [go_sem, ↓reduceIte, Nat.reduceLT, Nat.reduceEqDiff, Nat.reduceLeDiff, Nat.reduceAdd, Nat.reduceMul, Int.reduceLT, Int.reduceLE, Int.reduceToNat, BitVec.reduceOfInt, Nat.reduceBEq]; try rfl
    case hh2 => exact Awk_gives _ _
    refine al_pureN 1 (by simp only [go_sem, ↓reduceIte, Nat.reduceLT, Nat.reduceEqDiff, Nat.reduceLeDiff, Nat.reduceAdd, Nat.reduceMul, Int.reduceLT, Int.reduceLE, Int.reduceToNat, BitVec.reduceOfInt, Nat.reduceBEq]; try rfl) ?_
    refine al_end [6] ?_
    exact awp_ret ⟨_, rfl, rfl, hτ, by omega⟩
  have hlong : longB g = false := by simpa using hlong
  obtain ⟨hf, hi⟩ := few_of hlong
  refine awp_seq ?_
  first | refine awp_seq (awp_lit ?_) | refine awp_lit ?_ | refine awp_seq (awp_seq (awp_lit ?_))
  refine al_load rfl (by simp only [go_sem, ↓reduceIte, Nat.reduceLT, Nat.reduceEqDiff, Nat.reduceLeDiff, Nat.reduceAdd, Nat.reduceMul, Int.reduceLT, Int.reduceLE, Int.reduceToNat, BitVec.reduceOfInt, Nat.reduceBEq, hlong]) rfl (by simp only [go_sem, ↓reduceIte, Nat.reduceLT, Nat.reduceEqDiff, Nat.reduceLeDiff, Nat.reduceAdd, Nat.reduceMul, Int.reduceLT, Int.reduceLE, Int.reduceToNat, BitVec.reduceOfInt, Nat.reduceBEq, hlong]; try rfl) (by first | exact AHeap.set_self _ _ _ | (simp only [AHeap.set, ↓reduceIte, Nat.add_assoc, Nat.reduceAdd, Nat.add_left_cancel_iff, Nat.add_right_cancel_iff, Nat.left_eq_add, Nat.add_eq_left, Nat.add_eq_right, Nat.right_eq_add, Nat.reduceEqDiff, Nat.succ_ne_zero, hlong]; rfl) | assumption) (by first | exact loadA_scalar agg26 rfl | exact loadA_agg agg26 rfl | exact loadA_scalar agg26 (by assumption)) ?_
  refine al_gives (vs := ?vs3) (v := ?v3) rfl ?ha3 ?hh3 (by kernel_rfl) rfl (by simp only [go_sem, ↓reduceIte, Nat.reduceLT, Nat.reduceEqDiff, Nat.reduceLeDiff, Nat.reduceAdd, Nat.reduceMul, Int.reduceLT, Int.reduceLE, Int.reduceToNat, BitVec.reduceOfInt, Nat.reduceBEq, hlong]) ?kk3
  case ha3 => simp only [go_sem, ↓reduceIte, Nat.reduceLT, Nat.reduceEqDiff, Nat.reduceLeDiff, Nat.reduceAdd, Nat.reduceMul, Int.reduceLT, Int.reduceLE, Int.reduceToNat, BitVec.reduceOfInt, Nat.reduceBEq, hlong]; try rfl
  case hh3 => exact Long_gives (hv0.mono hτ)
  refine al_pureN 1 (by simp only [go_sem, ↓reduceIte, Nat.reduceLT, Nat.reduceEqDiff, Nat.reduceLeDiff, Nat.reduceAdd, Nat.reduceMul, Int.reduceLT, Int.reduceLE, Int.reduceToNat, BitVec.reduceOfInt, Nat.reduceBEq, hlong]; try rfl) ?_
  refine al_gives (vs := ?vs4) (v := ?v4) rfl ?ha4 ?hh4 (by kernel_rfl) rfl (by simp only [go_sem, ↓reduceIte, Nat.reduceLT, Nat.reduceEqDiff, Nat.reduceLeDiff, Nat.reduceAdd, Nat.reduceMul, Int.reduceLT, Int.reduceLE, Int.reduceToNat, BitVec.reduceOfInt, Nat.reduceBEq, hlong]) ?kk4
  case ha4 => simp only [go_sem, ↓reduceIte, Nat.reduceLT, Nat.reduceEqDiff, Nat.reduceLeDiff, Nat.reduceAdd, Nat.reduceMul, Int.reduceLT, Int.reduceLE, Int.reduceToNat, BitVec.reduceOfInt, Nat.reduceBEq, hlong]; try rfl
  case hh4 => exact Awk_gives _ _
  refine al_pureN 2 (by simp only [go_sem, ↓reduceIte, Nat.reduceLT, Nat.reduceEqDiff, Nat.reduceLeDiff, Nat.reduceAdd, Nat.reduceMul, Int.reduceLT, Int.reduceLE, Int.reduceToNat, BitVec.reduceOfInt, Nat.reduceBEq, hlong]; try rfl) ?_
  refine al_end [1, 2, 3, 26] ?_
  refine awp_if rfl (fun h => by cases h) (fun _ => ?_)
  refine awp_skip ?_
  obtain ⟨τ, hτd⟩ : ∃ τ, τ = (σ.set N ⟨spread (.agg #[.int .i64 g.inp, .slice lb g.ls.length lc, .slice ab g.as.length ac, .slice ob g.os.length oc]), true, .n 1⟩) := ⟨_, rfl⟩
  have hG : τ N = some ⟨spread (.agg #[.int .i64 g.inp, .slice lb g.ls.length lc, .slice ab g.as.length ac, .slice ob g.os.length oc]), true, .n 1⟩ := by rw [hτd, AHeap.set_self]
  rw [← hτd] at hτ ⊢
  first | refine awp_seq (awp_lit ?_) | refine awp_lit ?_ | refine awp_seq (awp_seq (awp_lit ?_))
  refine al_load rfl (by simp only [go_sem, ↓reduceIte, Nat.reduceLT, Nat.reduceEqDiff, Nat.reduceLeDiff, Nat.reduceAdd, Nat.reduceMul, Int.reduceLT, Int.reduceLE, Int.reduceToNat, BitVec.reduceOfInt, Nat.reduceBEq]) rfl (by simp only [go_sem, ↓reduceIte, Nat.reduceLT, Nat.reduceEqDiff, Nat.reduceLeDiff, Nat.reduceAdd, Nat.reduceMul, Int.reduceLT, Int.reduceLE, Int.reduceToNat, BitVec.reduceOfInt, Nat.reduceBEq]; try rfl) hG (loadA_agg agg26 rfl) ?_
  refine al_pureN 2 (by simp only [go_sem, ↓reduceIte, Nat.reduceLT, Nat.reduceEqDiff, Nat.reduceLeDiff, Nat.reduceAdd, Nat.reduceMul, Int.reduceLT, Int.reduceLE, Int.reduceToNat, BitVec.reduceOfInt, Nat.reduceBEq]; try rfl) ?_
  refine al_fun (Cone_ok hf (hv0.mono hτ) (hl.mono hτ)) rfl (by simp only [go_sem, ↓reduceIte, Nat.reduceLT, Nat.reduceEqDiff, Nat.reduceLeDiff, Nat.reduceAdd, Nat.reduceMul, Int.reduceLT, Int.reduceLE, Int.reduceToNat, BitVec.reduceOfInt, Nat.reduceBEq]; try rfl) (by kernel_rfl) rfl (by simp only [go_sem, ↓reduceIte, Nat.reduceLT, Nat.reduceEqDiff, Nat.reduceLeDiff, Nat.reduceAdd, Nat.reduceMul, Int.reduceLT, Int.reduceLE, Int.reduceToNat, BitVec.reduceOfInt, Nat.reduceBEq]; try rfl) ?_
  rintro r N1 σ1 ⟨cv, rfl, hcv, hle1, hN1⟩
  refine al_pureN 5 (by simp only [go_sem, ↓reduceIte, Nat.reduceLT, Nat.reduceEqDiff, Nat.reduceLeDiff, Nat.reduceAdd, Nat.reduceMul, Int.reduceLT, Int.reduceLE, Int.reduceToNat, BitVec.reduceOfInt, Nat.reduceBEq]; try rfl) ?_
  refine al_end [1, 2, 3, 7, 8] ?_
  have hG1 := hle1 _ _ hG
  have hσ1 := hτ.trans hle1
  first | refine awp_seq (awp_lit ?_) | refine awp_lit ?_ | refine awp_seq (awp_seq (awp_lit ?_))
  refine al_load rfl (by simp only [go_sem, ↓reduceIte, Nat.reduceLT, Nat.reduceEqDiff, Nat.reduceLeDiff, Nat.reduceAdd, Nat.reduceMul, Int.reduceLT, Int.reduceLE, Int.reduceToNat, BitVec.reduceOfInt, Nat.reduceBEq]) rfl (by simp only [go_sem, ↓reduceIte, Nat.reduceLT, Nat.reduceEqDiff, Nat.reduceLeDiff, Nat.reduceAdd, Nat.reduceMul, Int.reduceLT, Int.reduceLE, Int.reduceToNat, BitVec.reduceOfInt, Nat.reduceBEq]; try rfl) hG1 (loadA_agg agg26 rfl) ?_
  refine al_pureN 2 (by simp only [go_sem, ↓reduceIte, Nat.reduceLT, Nat.reduceEqDiff, Nat.reduceLeDiff, Nat.reduceAdd, Nat.reduceMul, Int.reduceLT, Int.reduceLE, Int.reduceToNat, BitVec.reduceOfInt, Nat.reduceBEq]; try rfl) ?_
  refine al_fun (Free_ok hf (hv0.mono hσ1) (hl.mono hσ1)) rfl (by simp only [go_sem, ↓reduceIte, Nat.reduceLT, Nat.reduceEqDiff, Nat.reduceLeDiff, Nat.reduceAdd, Nat.reduceMul, Int.reduceLT, Int.reduceLE, Int.reduceToNat, BitVec.reduceOfInt, Nat.reduceBEq]; try rfl) (by kernel_rfl) rfl (by simp only [go_sem, ↓reduceIte, Nat.reduceLT, Nat.reduceEqDiff, Nat.reduceLeDiff, Nat.reduceAdd, Nat.reduceMul, Int.reduceLT, Int.reduceLE, Int.reduceToNat, BitVec.reduceOfInt, Nat.reduceBEq]; try rfl) ?_
  rintro r N2 σ2 ⟨fv, rfl, hfv, hle2, hN2⟩
  refine al_pureN 5 (by simp only [go_sem, ↓reduceIte, Nat.reduceLT, Nat.reduceEqDiff, Nat.reduceLeDiff, Nat.reduceAdd, Nat.reduceMul, Int.reduceLT, Int.reduceLE, Int.reduceToNat, BitVec.reduceOfInt, Nat.reduceBEq]; try rfl) ?_
  refine al_end [1, 2, 3, 7, 8, 9, 10] ?_
  have hG2 := hle2 _ _ hG1
  have hσ2 := hσ1.trans hle2
  have hN2' : N + 1 ≤ N2 := by omega
  by_cases he : (ConeR g l node).2 = 0
  · have hc : chkE g = 0 := by
      unfold ConeR at he
      split at he
      · rename_i h; exact h
      · exact he
    have hV := valid_of hc
    obtain ⟨m, rfl, hFe, hmn, hlaw⟩ := free_law hf hc he
    have b1 : ((ConeR g l (m : Int)).2 != 0) = false := by simp [he]
    have b2 : ((FreeR g l (m : Int)).2 != 0) = false := by simp [hFe]
    have hos4 : g.os.length ≤ 4096 := by have := hf.os; omega
    refine awp_seq ?_
    first | refine awp_seq (awp_lit ?_) | refine awp_lit ?_ | refine awp_seq (awp_seq (awp_lit ?_))
    refine al_pureN 4 (by simp only [go_sem, ↓reduceIte, Nat.reduceLT, Nat.reduceEqDiff, Nat.reduceLeDiff, Nat.reduceAdd, Nat.reduceMul, Int.reduceLT, Int.reduceLE, Int.reduceToNat, BitVec.reduceOfInt, Nat.reduceBEq, b1, b2]; try rfl) ?_
    refine al_pureN 3 (by simp only [go_sem, ↓reduceIte, Nat.reduceLT, Nat.reduceEqDiff, Nat.reduceLeDiff, Nat.reduceAdd, Nat.reduceMul, Int.reduceLT, Int.reduceLE, Int.reduceToNat, BitVec.reduceOfInt, Nat.reduceBEq, b1, b2]; try rfl) ?_
    refine al_load rfl (by simp only [go_sem, ↓reduceIte, Nat.reduceLT, Nat.reduceEqDiff, Nat.reduceLeDiff, Nat.reduceAdd, Nat.reduceMul, Int.reduceLT, Int.reduceLE, Int.reduceToNat, BitVec.reduceOfInt, Nat.reduceBEq]) rfl (by simp only [go_sem, ↓reduceIte, Nat.reduceLT, Nat.reduceEqDiff, Nat.reduceLeDiff, Nat.reduceAdd, Nat.reduceMul, Int.reduceLT, Int.reduceLE, Int.reduceToNat, BitVec.reduceOfInt, Nat.reduceBEq]; try rfl) hG2 (loadA_agg agg26 rfl) ?_
    refine al_fun (rCheck_ok (hv0.mono hσ2) hf hV hos4) rfl (by simp only [go_sem, ↓reduceIte, Nat.reduceLT, Nat.reduceEqDiff, Nat.reduceLeDiff, Nat.reduceAdd, Nat.reduceMul, Int.reduceLT, Int.reduceLE, Int.reduceToNat, BitVec.reduceOfInt, Nat.reduceBEq]; try rfl) (by kernel_rfl) rfl (by simp only [go_sem, ↓reduceIte, Nat.reduceLT, Nat.reduceEqDiff, Nat.reduceLeDiff, Nat.reduceAdd, Nat.reduceMul, Int.reduceLT, Int.reduceLE, Int.reduceToNat, BitVec.reduceOfInt, Nat.reduceBEq]; try rfl) ?_
    rintro r N3 σ3 ⟨rfl, hle3, hN3⟩
    refine al_pureN 2 (by simp only [go_sem, ↓reduceIte, Nat.reduceLT, Nat.reduceEqDiff, Nat.reduceLeDiff, Nat.reduceAdd, Nat.reduceMul, Int.reduceLT, Int.reduceLE, Int.reduceToNat, BitVec.reduceOfInt, Nat.reduceBEq]; try rfl) ?_
    refine al_end [1, 2, 3, 7, 8, 9, 10, 52] ?_
    refine awp_if rfl (fun h => by cases h) (fun _ => ?_)
    refine awp_skip ?_
    have hlen : l.length ≤ 1000000 := Nat.le_trans (cone_len he hc) (by decide)
    have hG3 := hle3 _ _ hG2
    have hσ3 := hσ2.trans hle3
    have hinp := hV.inp
    have hsz := hV.size
    have hfa := hf.as
    have hfl := hf.ls
    obtain ⟨F, hF⟩ : ∃ F, F = firstC g := ⟨_, rfl⟩
    have hff : 1 + g.inp + (g.ls.length : Int) = F := hF.symm
    have hfz : F + g.as.length = sizeC g := by rw [hF]; rfl
    obtain ⟨n, hn⟩ : ∃ n : Nat, sizeC g = n := ⟨(sizeC g).toNat, by omega⟩
    rw [hn] at hmn hsz hfz
    have a1 : -9223372036854775808 ≤ 1 + g.inp ∧ 1 + g.inp ≤ 9223372036854775807 := by omega
    have a2 : -9223372036854775808 ≤ 1 + g.inp + (g.ls.length : Int) ∧ 1 + g.inp + (g.ls.length : Int) ≤ 9223372036854775807 := by omega
    first | refine awp_seq (awp_lit ?_) | refine awp_lit ?_ | refine awp_seq (awp_seq (awp_lit ?_))
    refine al_pureN 1 (by simp only [go_sem, ↓reduceIte, Nat.reduceLT, Nat.reduceEqDiff, Nat.reduceLeDiff, Nat.reduceAdd, Nat.reduceMul, Int.reduceLT, Int.reduceLE, Int.reduceToNat, BitVec.reduceOfInt, Nat.reduceBEq, i64_add a1, i64_add a2, hff]; try rfl) ?_
    refine al_load rfl (by simp only [go_sem, ↓reduceIte, Nat.reduceLT, Nat.reduceEqDiff, Nat.reduceLeDiff, Nat.reduceAdd, Nat.reduceMul, Int.reduceLT, Int.reduceLE, Int.reduceToNat, BitVec.reduceOfInt, Nat.reduceBEq, i64_add a1, i64_add a2, hff]) rfl (by simp only [go_sem, ↓reduceIte, Nat.reduceLT, Nat.reduceEqDiff, Nat.reduceLeDiff, Nat.reduceAdd, Nat.reduceMul, Int.reduceLT, Int.reduceLE, Int.reduceToNat, BitVec.reduceOfInt, Nat.reduceBEq, i64_add a1, i64_add a2, hff]; try rfl) hG3 (loadA_scalar agg3 rfl) ?_
    refine al_pureN 2 (by simp only [go_sem, ↓reduceIte, Nat.reduceLT, Nat.reduceEqDiff, Nat.reduceLeDiff, Nat.reduceAdd, Nat.reduceMul, Int.reduceLT, Int.reduceLE, Int.reduceToNat, BitVec.reduceOfInt, Nat.reduceBEq, i64_add a1, i64_add a2, hff]; try rfl) ?_
    refine al_load rfl (by simp only [go_sem, ↓reduceIte, Nat.reduceLT, Nat.reduceEqDiff, Nat.reduceLeDiff, Nat.reduceAdd, Nat.reduceMul, Int.reduceLT, Int.reduceLE, Int.reduceToNat, BitVec.reduceOfInt, Nat.reduceBEq, i64_add a1, i64_add a2, hff]) rfl (by simp only [go_sem, ↓reduceIte, Nat.reduceLT, Nat.reduceEqDiff, Nat.reduceLeDiff, Nat.reduceAdd, Nat.reduceMul, Int.reduceLT, Int.reduceLE, Int.reduceToNat, BitVec.reduceOfInt, Nat.reduceBEq, i64_add a1, i64_add a2, hff]; try rfl) hG3 (loadA_scalar agg22 rfl) ?_
    refine al_pureN 3 (by simp only [go_sem, ↓reduceIte, Nat.reduceLT, Nat.reduceEqDiff, Nat.reduceLeDiff, Nat.reduceAdd, Nat.reduceMul, Int.reduceLT, Int.reduceLE, Int.reduceToNat, BitVec.reduceOfInt, Nat.reduceBEq, i64_add a1, i64_add a2, hff]; try rfl) ?_
    refine al_end [1, 2, 3, 7, 9, 11] ?_
    first | refine awp_seq (awp_lit ?_) | refine awp_lit ?_ | refine awp_seq (awp_seq (awp_lit ?_))
    refine al_load rfl (by simp only [go_sem, ↓reduceIte, Nat.reduceLT, Nat.reduceEqDiff, Nat.reduceLeDiff, Nat.reduceAdd, Nat.reduceMul, Int.reduceLT, Int.reduceLE, Int.reduceToNat, BitVec.reduceOfInt, Nat.reduceBEq]) rfl (by simp only [go_sem, ↓reduceIte, Nat.reduceLT, Nat.reduceEqDiff, Nat.reduceLeDiff, Nat.reduceAdd, Nat.reduceMul, Int.reduceLT, Int.reduceLE, Int.reduceToNat, BitVec.reduceOfInt, Nat.reduceBEq]; try rfl) hG3 (loadA_agg agg26 rfl) ?_
    refine al_fun (Uses_ok (hv0.mono hσ3) hf hV hn) rfl (by simp only [go_sem, ↓reduceIte, Nat.reduceLT, Nat.reduceEqDiff, Nat.reduceLeDiff, Nat.reduceAdd, Nat.reduceMul, Int.reduceLT, Int.reduceLE, Int.reduceToNat, BitVec.reduceOfInt, Nat.reduceBEq]; try rfl) (by kernel_rfl) rfl (by simp only [go_sem, ↓reduceIte, Nat.reduceLT, Nat.reduceEqDiff, Nat.reduceLeDiff, Nat.reduceAdd, Nat.reduceMul, Int.reduceLT, Int.reduceLE, Int.reduceToNat, BitVec.reduceOfInt, Nat.reduceBEq]; try rfl) ?_
    rintro r N4 σ4 ⟨hus, hle4, hN4⟩
    refine al_fresh fun hd4 => ?_
    refine al_pureN 1 (by simp only [go_sem, ↓reduceIte, Nat.reduceLT, Nat.reduceEqDiff, Nat.reduceLeDiff, Nat.reduceAdd, Nat.reduceMul, Int.reduceLT, Int.reduceLE, Int.reduceToNat, BitVec.reduceOfInt, Nat.reduceBEq]; try rfl) ?_
    refine al_end [1, 2, 3, 7, 8, 9, 11, 12] ?_
    have hG4 := hle4 _ _ hG3
    have hσ4 := hσ3.trans hle4
    have hcs : SlAt σ4 cv (ints (ConeR g l (m : Int)).1) := ((hcv.slAt.mono hle2).mono hle3).mono hle4
    have hfs : SlAt σ4 fv (ints (FreeR g l (m : Int)).1) := (hfv.slAt.mono hle3).mono hle4
    have huss := hus.slAt
    obtain ⟨cb, cc, rfl⟩ := hcv.lenV
    obtain ⟨fb, fc, rfl⟩ := hfv.lenV
    obtain ⟨ub, uc, rfl⟩ := hus.lenV
    clear hcv hfv hus
    rw [← hF, hn] at hlaw
    obtain ⟨cl, hcl⟩ : ∃ cl, cl = (ConeR g l (m : Int)).1 := ⟨_, rfl⟩
    obtain ⟨fr, hfr⟩ : ∃ fr, fr = (FreeR g l (m : Int)).1 := ⟨_, rfl⟩
    rw [← hcl] at hcs hlaw ⊢
    rw [← hfr] at hfs hlaw ⊢
    rcases hlaw with ⟨rfl, rfl, hor⟩ | ⟨hne1, hne2, hm, hsub, hrange, hiff⟩
    · refine awp_seq ?_
      refine awp_seq (awp_pures [1, 2, 3, 7, 9, 11, 12, 86] (by simp only [go_sem, ↓reduceIte, Nat.reduceLT, Nat.reduceEqDiff, Nat.reduceLeDiff, Nat.reduceAdd, Nat.reduceMul, Int.reduceLT, Int.reduceLE, Int.reduceToNat, BitVec.reduceOfInt, Nat.reduceBEq]; try rfl) ?_)
      refine awp_if rfl (fun _ => ?_) (fun h => by cases h)
      by_cases hmf : (m : Int) < F
      · have d1 : decide ((m : Int) < F) = true := by simpa using hmf
        first | refine awp_seq (awp_lit ?_) | refine awp_lit ?_ | refine awp_seq (awp_seq (awp_lit ?_))
        refine al_pureN 5 (by simp only [go_sem, ↓reduceIte, Nat.reduceLT, Nat.reduceEqDiff, Nat.reduceLeDiff, Nat.reduceAdd, Nat.reduceMul, Int.reduceLT, Int.reduceLE, Int.reduceToNat, BitVec.reduceOfInt, Nat.reduceBEq, d1]; try rfl) ?_
        refine al_pureN 4 (by simp only [go_sem, ↓reduceIte, Nat.reduceLT, Nat.reduceEqDiff, Nat.reduceLeDiff, Nat.reduceAdd, Nat.reduceMul, Int.reduceLT, Int.reduceLE, Int.reduceToNat, BitVec.reduceOfInt, Nat.reduceBEq, d1]; try rfl) ?_
        refine al_pureN 3 (by simp only [go_sem, ↓reduceIte, Nat.reduceLT, Nat.reduceEqDiff, Nat.reduceLeDiff, Nat.reduceAdd, Nat.reduceMul, Int.reduceLT, Int.reduceLE, Int.reduceToNat, BitVec.reduceOfInt, Nat.reduceBEq, d1]; try rfl) ?_
        refine al_pureN 3 (by simp only [go_sem, ↓reduceIte, Nat.reduceLT, Nat.reduceEqDiff, Nat.reduceLeDiff, Nat.reduceAdd, Nat.reduceMul, Int.reduceLT, Int.reduceLE, Int.reduceToNat, BitVec.reduceOfInt, Nat.reduceBEq, d1]; try rfl) ?_
        refine al_pureN 1 (by simp only [go_sem, ↓reduceIte, Nat.reduceLT, Nat.reduceEqDiff, Nat.reduceLeDiff, Nat.reduceAdd, Nat.reduceMul, Int.reduceLT, Int.reduceLE, Int.reduceToNat, BitVec.reduceOfInt, Nat.reduceBEq, d1, undef]; try rfl) ?_
        refine al_pureN 3 (by simp only [go_sem, ↓reduceIte, Nat.reduceLT, Nat.reduceEqDiff, Nat.reduceLeDiff, Nat.reduceAdd, Nat.reduceMul, Int.reduceLT, Int.reduceLE, Int.reduceToNat, BitVec.reduceOfInt, Nat.reduceBEq, d1]; try rfl) ?_
        refine al_end [6] ?_
        exact awp_ret ⟨_, rfl, rfl, hσ4, by omega⟩
      · have d1 : decide ((m : Int) < F) = false := by simpa using hmf
        have d2 : decide ((m : Int) ∈ l) = true := by simpa using hor.resolve_left hmf
        first | refine awp_seq (awp_lit ?_) | refine awp_lit ?_ | refine awp_seq (awp_seq (awp_lit ?_))
        refine al_pureN 5 (by simp only [go_sem, ↓reduceIte, Nat.reduceLT, Nat.reduceEqDiff, Nat.reduceLeDiff, Nat.reduceAdd, Nat.reduceMul, Int.reduceLT, Int.reduceLE, Int.reduceToNat, BitVec.reduceOfInt, Nat.reduceBEq, d1, d2]; try rfl) ?_
        refine al_pureN 4 (by simp only [go_sem, ↓reduceIte, Nat.reduceLT, Nat.reduceEqDiff, Nat.reduceLeDiff, Nat.reduceAdd, Nat.reduceMul, Int.reduceLT, Int.reduceLE, Int.reduceToNat, BitVec.reduceOfInt, Nat.reduceBEq, d1, d2]; try rfl) ?_
        refine al_pureN 3 (by simp only [go_sem, ↓reduceIte, Nat.reduceLT, Nat.reduceEqDiff, Nat.reduceLeDiff, Nat.reduceAdd, Nat.reduceMul, Int.reduceLT, Int.reduceLE, Int.reduceToNat, BitVec.reduceOfInt, Nat.reduceBEq, d1, d2]; try rfl) ?_
        refine al_pureN 3 (by simp only [go_sem, ↓reduceIte, Nat.reduceLT, Nat.reduceEqDiff, Nat.reduceLeDiff, Nat.reduceAdd, Nat.reduceMul, Int.reduceLT, Int.reduceLE, Int.reduceToNat, BitVec.reduceOfInt, Nat.reduceBEq, d1, d2]; try rfl) ?_
        refine al_gives (vs := ?vs5) (v := ?v5) rfl ?ha5 ?hh5 (by kernel_rfl) rfl (by simp only [go_sem, ↓reduceIte, Nat.reduceLT, Nat.reduceEqDiff, Nat.reduceLeDiff, Nat.reduceAdd, Nat.reduceMul, Int.reduceLT, Int.reduceLE, Int.reduceToNat, BitVec.reduceOfInt, Nat.reduceBEq, d1, d2]) ?kk5
        case ha5 => simp only [go_sem, ↓reduceIte, Nat.reduceLT, Nat.reduceEqDiff, Nat.reduceLeDiff, Nat.reduceAdd, Nat.reduceMul, Int.reduceLT, Int.reduceLE, Int.reduceToNat, BitVec.reduceOfInt, Nat.reduceBEq, d1, d2]; try rfl
        case hh5 => exact Has_gives (hl.mono hσ4) hlen
        refine al_pureN 3 (by simp only [go_sem, ↓reduceIte, Nat.reduceLT, Nat.reduceEqDiff, Nat.reduceLeDiff, Nat.reduceAdd, Nat.reduceMul, Int.reduceLT, Int.reduceLE, Int.reduceToNat, BitVec.reduceOfInt, Nat.reduceBEq, d1, d2]; try rfl) ?_
        refine al_end [6] ?_
        exact awp_ret ⟨_, rfl, rfl, hσ4, by omega⟩
    have hlcl : cl.length ≤ 1000000 := by
      have h := (coneE_mem (firstC g).toNat g.as l (m : Int)).2
      have hR : ConeR g l (m : Int) = coneE (firstC g).toNat g.as l (m : Int) := by simp [ConeR, hc]
      rw [hcl, hR]; omega
    have hfw : (fr.all fun x => decide (x ∈ cl)) = true := by simpa using hsub
    have hmfr : decide ((m : Int) ∈ fr) = true := by simpa using hm
    have hfrl : fr.length ≤ 1000000 := by
      have h := (freeS_len (firstC g).toNat g.as (useF g m) cl).2
      have hFF : FreeR g l (m : Int) = ((freeS (firstC g).toNat g.as (useF g m) cl).2.reverse, 0) := by unfold FreeR; rw [if_pos he, ← hcl, Int.toNat_natCast]
      rw [hfr, hFF]; simp; omega
    have hcl0 : ((cl.length : Int) == 0) = false := by
      have : cl.length ≠ 0 := fun h => hne1 (List.length_eq_zero_iff.1 h)
      simp; omega
    have hfr0 : ((fr.length : Int) == 0) = false := by
      have : fr.length ≠ 0 := fun h => hne2 (List.length_eq_zero_iff.1 h)
      simp; omega
    refine awp_seq ?_
    refine awp_seq (awp_pures [1, 2, 3, 7, 9, 11, 12, 86] (by simp only [go_sem, ↓reduceIte, Nat.reduceLT, Nat.reduceEqDiff, Nat.reduceLeDiff, Nat.reduceAdd, Nat.reduceMul, Int.reduceLT, Int.reduceLE, Int.reduceToNat, BitVec.reduceOfInt, Nat.reduceBEq, hcl0, hfr0]; try rfl) ?_)
    refine awp_if rfl (fun h => by cases h) (fun _ => ?_)
    refine awp_skip ?_
    refine awp_seq ?_
    first | refine awp_seq (awp_lit ?_) | refine awp_lit ?_ | refine awp_seq (awp_seq (awp_lit ?_))
    refine al_pureN 2 (by simp only [go_sem, ↓reduceIte, Nat.reduceLT, Nat.reduceEqDiff, Nat.reduceLeDiff, Nat.reduceAdd, Nat.reduceMul, Int.reduceLT, Int.reduceLE, Int.reduceToNat, BitVec.reduceOfInt, Nat.reduceBEq, hfw, hmfr]; try rfl) ?_
    refine al_gives (vs := ?vs6) (v := ?v6) rfl ?ha6 ?hh6 (by kernel_rfl) rfl (by simp only [go_sem, ↓reduceIte, Nat.reduceLT, Nat.reduceEqDiff, Nat.reduceLeDiff, Nat.reduceAdd, Nat.reduceMul, Int.reduceLT, Int.reduceLE, Int.reduceToNat, BitVec.reduceOfInt, Nat.reduceBEq, hfw, hmfr]) ?kk6
    case ha6 => simp only [go_sem, ↓reduceIte, Nat.reduceLT, Nat.reduceEqDiff, Nat.reduceLeDiff, Nat.reduceAdd, Nat.reduceMul, Int.reduceLT, Int.reduceLE, Int.reduceToNat, BitVec.reduceOfInt, Nat.reduceBEq, hfw, hmfr]; try rfl
    case hh6 => exact Within_gives hfs hcs hfrl hlcl
    refine al_pureN 4 (by simp only [go_sem, ↓reduceIte, Nat.reduceLT, Nat.reduceEqDiff, Nat.reduceLeDiff, Nat.reduceAdd, Nat.reduceMul, Int.reduceLT, Int.reduceLE, Int.reduceToNat, BitVec.reduceOfInt, Nat.reduceBEq, hfw, hmfr]; try rfl) ?_
    refine al_gives (vs := ?vs7) (v := ?v7) rfl ?ha7 ?hh7 (by kernel_rfl) rfl (by simp only [go_sem, ↓reduceIte, Nat.reduceLT, Nat.reduceEqDiff, Nat.reduceLeDiff, Nat.reduceAdd, Nat.reduceMul, Int.reduceLT, Int.reduceLE, Int.reduceToNat, BitVec.reduceOfInt, Nat.reduceBEq, hfw, hmfr]) ?kk7
    case ha7 => simp only [go_sem, ↓reduceIte, Nat.reduceLT, Nat.reduceEqDiff, Nat.reduceLeDiff, Nat.reduceAdd, Nat.reduceMul, Int.reduceLT, Int.reduceLE, Int.reduceToNat, BitVec.reduceOfInt, Nat.reduceBEq, hfw, hmfr]; try rfl
    case hh7 => exact Has_gives hfs hfrl
    refine al_pureN 2 (by simp only [go_sem, ↓reduceIte, Nat.reduceLT, Nat.reduceEqDiff, Nat.reduceLeDiff, Nat.reduceAdd, Nat.reduceMul, Int.reduceLT, Int.reduceLE, Int.reduceToNat, BitVec.reduceOfInt, Nat.reduceBEq, hfw, hmfr]; try rfl) ?_
    refine al_end [1, 3, 7, 9, 11, 12, 114] ?_
    refine awp_if rfl (fun h => by cases h) (fun _ => ?_)
    refine awp_skip ?_
    refine awp_seq ?_
    refine awp_seq (awp_pures [1, 3, 7, 9, 11, 12, 115, 116, 117] (by simp only [go_sem, ↓reduceIte, Nat.reduceLT, Nat.reduceEqDiff, Nat.reduceLeDiff, Nat.reduceAdd, Nat.reduceMul, Int.reduceLT, Int.reduceLE, Int.reduceToNat, BitVec.reduceOfInt, Nat.reduceBEq]; try rfl) ?_)
    refine awp_block (awp_loop ?_)
    refine ALoop.cast3 (aloop_ind (α := Nat) (fun a => a ≤ cl.length) (fun a => cl.length - a)
      (fun a => [(1, .int .i64 m), (3, .pointer (some ⟨N, 0, none⟩)), (7, .slice cb cl.length cc), (9, .slice fb fr.length fc), (11, .int .i64 F), (12, .slice ub n uc), (115, .slice cb cl.length cc), (116, .int .i64 cl.length), (117, .int .i64 a)]) (fun _ => N4) (fun _ => σ4) ?_ 0 (Nat.zero_le _)) rfl rfl rfl
    intro j hj ih
    by_cases hlt : j < cl.length
    · have hb : decide ((j : Int) < (cl.length : Int)) = true := by simpa using hlt
      refine awp_seq (awp_pures [1, 3, 7, 9, 11, 12, 115, 116, 117, 118] (by simp only [go_sem, ↓reduceIte, Nat.reduceLT, Nat.reduceEqDiff, Nat.reduceLeDiff, Nat.reduceAdd, Nat.reduceMul, Int.reduceLT, Int.reduceLE, Int.reduceToNat, BitVec.reduceOfInt, Nat.reduceBEq, hb]; try rfl) ?_)
      refine awp_seq ?_
      refine awp_if rfl (fun _ => ?_) (fun h => by cases h)
      refine awp_skip ?_
      refine awp_seq (awp_block ?_)
      have hjj : 0 ≤ (j : Int) ∧ (j : Int) < (cl.length : Int) := by omega
      obtain ⟨id, off, cap, b, e1, e2, e3, e4⟩ := slAt_int hcs hlt
      cases e1
      first | refine awp_seq (awp_lit ?_) | refine awp_lit ?_ | refine awp_seq (awp_seq (awp_lit ?_))
      refine al_pureN 1 (by simp only [go_sem, ↓reduceIte, Nat.reduceLT, Nat.reduceEqDiff, Nat.reduceLeDiff, Nat.reduceAdd, Nat.reduceMul, Int.reduceLT, Int.reduceLE, Int.reduceToNat, BitVec.reduceOfInt, Nat.reduceBEq, hjj]; try rfl) ?_
      refine al_load rfl (by simp only [go_sem, ↓reduceIte, Nat.reduceLT, Nat.reduceEqDiff, Nat.reduceLeDiff, Nat.reduceAdd, Nat.reduceMul, Int.reduceLT, Int.reduceLE, Int.reduceToNat, BitVec.reduceOfInt, Nat.reduceBEq, hjj]) rfl (by simp only [go_sem, ↓reduceIte, Nat.reduceLT, Nat.reduceEqDiff, Nat.reduceLeDiff, Nat.reduceAdd, Nat.reduceMul, Int.reduceLT, Int.reduceLE, Int.reduceToNat, BitVec.reduceOfInt, Nat.reduceBEq, hjj]; try rfl) e2 (loadA_scalar agg3 e3) ?_
      refine al_pureN 1 (by simp only [go_sem, ↓reduceIte, Nat.reduceLT, Nat.reduceEqDiff, Nat.reduceLeDiff, Nat.reduceAdd, Nat.reduceMul, Int.reduceLT, Int.reduceLE, Int.reduceToNat, BitVec.reduceOfInt, Nat.reduceBEq, hjj]; try rfl) ?_
      refine al_end [1, 3, 7, 9, 11, 12, 14, 115, 116, 117] ?_
      have hr := hrange _ (List.getElem_mem hlt)
      have d1 : decide (cl[j] < F) = false := by simp; omega
      have d2 : decide (cl[j] ≥ F + (g.as.length : Int)) = false := by simp; omega
      have a3 : -9223372036854775808 ≤ F + (g.as.length : Int) ∧ F + (g.as.length : Int) ≤ 9223372036854775807 := by omega
      refine awp_seq ?_
      first | refine awp_seq (awp_lit ?_) | refine awp_lit ?_ | refine awp_seq (awp_seq (awp_lit ?_))
      refine al_pureN 3 (by simp only [go_sem, ↓reduceIte, Nat.reduceLT, Nat.reduceEqDiff, Nat.reduceLeDiff, Nat.reduceAdd, Nat.reduceMul, Int.reduceLT, Int.reduceLE, Int.reduceToNat, BitVec.reduceOfInt, Nat.reduceBEq, d1, i64_add a3, d2]; try rfl) ?_
      refine al_pureN 2 (by simp only [go_sem, ↓reduceIte, Nat.reduceLT, Nat.reduceEqDiff, Nat.reduceLeDiff, Nat.reduceAdd, Nat.reduceMul, Int.reduceLT, Int.reduceLE, Int.reduceToNat, BitVec.reduceOfInt, Nat.reduceBEq, d1, i64_add a3, d2]; try rfl) ?_
      refine al_pureN 1 (by simp only [go_sem, ↓reduceIte, Nat.reduceLT, Nat.reduceEqDiff, Nat.reduceLeDiff, Nat.reduceAdd, Nat.reduceMul, Int.reduceLT, Int.reduceLE, Int.reduceToNat, BitVec.reduceOfInt, Nat.reduceBEq, d1, i64_add a3, d2]; try rfl) ?_
      refine al_pureN 1 (by simp only [go_sem, ↓reduceIte, Nat.reduceLT, Nat.reduceEqDiff, Nat.reduceLeDiff, Nat.reduceAdd, Nat.reduceMul, Int.reduceLT, Int.reduceLE, Int.reduceToNat, BitVec.reduceOfInt, Nat.reduceBEq, d1, i64_add a3, d2]; try rfl) ?_
      refine al_load rfl (by simp only [go_sem, ↓reduceIte, Nat.reduceLT, Nat.reduceEqDiff, Nat.reduceLeDiff, Nat.reduceAdd, Nat.reduceMul, Int.reduceLT, Int.reduceLE, Int.reduceToNat, BitVec.reduceOfInt, Nat.reduceBEq, d1, i64_add a3, d2]) rfl (by simp only [go_sem, ↓reduceIte, Nat.reduceLT, Nat.reduceEqDiff, Nat.reduceLeDiff, Nat.reduceAdd, Nat.reduceMul, Int.reduceLT, Int.reduceLE, Int.reduceToNat, BitVec.reduceOfInt, Nat.reduceBEq, d1, i64_add a3, d2]; try rfl) hG4 (loadA_scalar agg23 rfl) ?_
      refine al_pureN 1 (by simp only [go_sem, ↓reduceIte, Nat.reduceLT, Nat.reduceEqDiff, Nat.reduceLeDiff, Nat.reduceAdd, Nat.reduceMul, Int.reduceLT, Int.reduceLE, Int.reduceToNat, BitVec.reduceOfInt, Nat.reduceBEq, d1, i64_add a3, d2]; try rfl) ?_
      refine al_pureN 1 (by simp only [go_sem, ↓reduceIte, Nat.reduceLT, Nat.reduceEqDiff, Nat.reduceLeDiff, Nat.reduceAdd, Nat.reduceMul, Int.reduceLT, Int.reduceLE, Int.reduceToNat, BitVec.reduceOfInt, Nat.reduceBEq, d1, i64_add a3, d2]; try rfl) ?_
      refine al_pureN 2 (by simp only [go_sem, ↓reduceIte, Nat.reduceLT, Nat.reduceEqDiff, Nat.reduceLeDiff, Nat.reduceAdd, Nat.reduceMul, Int.reduceLT, Int.reduceLE, Int.reduceToNat, BitVec.reduceOfInt, Nat.reduceBEq, d1, i64_add a3, d2]; try rfl) ?_
      refine al_end [1, 3, 7, 9, 11, 12, 115, 116, 117, 132] ?_
      refine awp_if rfl (fun h => by cases h) (fun _ => ?_)
      refine awp_skip ?_
      have hadd : -9223372036854775808 ≤ (j : Int) + 1 ∧ (j : Int) + 1 ≤ 9223372036854775807 := by omega
      refine awp_pures [1, 3, 7, 9, 11, 12, 115, 116, 117] (by simp only [go_sem, ↓reduceIte, Nat.reduceLT, Nat.reduceEqDiff, Nat.reduceLeDiff, Nat.reduceAdd, Nat.reduceMul, Int.reduceLT, Int.reduceLE, Int.reduceToNat, BitVec.reduceOfInt, Nat.reduceBEq, i64_add hadd]; try rfl) ?_
      exact ALoop.cast3 (ih (j + 1) hlt (by omega)) rfl rfl rfl
    · have hb : decide ((j : Int) < (cl.length : Int)) = false := by simpa using hlt
      refine awp_seq (awp_pures [1, 3, 7, 9, 11, 12, 115, 116, 117, 118] (by simp only [go_sem, ↓reduceIte, Nat.reduceLT, Nat.reduceEqDiff, Nat.reduceLeDiff, Nat.reduceAdd, Nat.reduceMul, Int.reduceLT, Int.reduceLE, Int.reduceToNat, BitVec.reduceOfInt, Nat.reduceBEq, hb]; try rfl) ?_)
      refine awp_seq ?_
      refine awp_if rfl (fun h => by cases h) (fun _ => ?_)
      refine awp_exit ?_
      simp only [Go.Abs.Seq, Go.Abs.Round, Go.Abs.InBlock, ↓reduceIte]
      clear ih hlt hj hb
      refine awp_seq ?_
      refine awp_seq (awp_pures [1, 3, 9, 11, 12, 134, 135, 136] (by simp only [go_sem, ↓reduceIte, Nat.reduceLT, Nat.reduceEqDiff, Nat.reduceLeDiff, Nat.reduceAdd, Nat.reduceMul, Int.reduceLT, Int.reduceLE, Int.reduceToNat, BitVec.reduceOfInt, Nat.reduceBEq]; try rfl) ?_)
      refine awp_block (awp_loop ?_)
      refine ALoop.cast3 (aloop_ind (α := Nat × Nat) (fun a => a.1 ≤ cl.length ∧ N4 ≤ a.2) (fun a => cl.length - a.1)
        (fun a => [(1, .int .i64 m), (3, .pointer (some ⟨N, 0, none⟩)), (9, .slice fb fr.length fc), (11, .int .i64 F), (12, .slice ub n uc), (134, .slice cb cl.length cc), (135, .int .i64 cl.length), (136, .int .i64 a.1)]) (fun a => a.2) (fun _ => σ4) ?_ (0, N4) ⟨Nat.zero_le _, Nat.le_refl _⟩) rfl rfl rfl
      rintro ⟨j, M⟩ ⟨hj, hM⟩ ih
      dsimp only at hj hM ih ⊢
      by_cases hlt : j < cl.length
      · have hb : decide ((j : Int) < (cl.length : Int)) = true := by simpa using hlt
        refine awp_seq (awp_pures [1, 3, 9, 11, 12, 134, 135, 136, 137] (by simp only [go_sem, ↓reduceIte, Nat.reduceLT, Nat.reduceEqDiff, Nat.reduceLeDiff, Nat.reduceAdd, Nat.reduceMul, Int.reduceLT, Int.reduceLE, Int.reduceToNat, BitVec.reduceOfInt, Nat.reduceBEq, hb]; try rfl) ?_)
        refine awp_seq ?_
        refine awp_if rfl (fun _ => ?_) (fun h => by cases h)
        refine awp_skip ?_
        refine awp_seq (awp_block ?_)
        have hjj : 0 ≤ (j : Int) ∧ (j : Int) < (cl.length : Int) := by omega
        obtain ⟨id, off, cap, b, e1, e2, e3, e4⟩ := slAt_int hcs hlt
        cases e1
        first | refine awp_seq (awp_lit ?_) | refine awp_lit ?_ | refine awp_seq (awp_seq (awp_lit ?_))
        refine al_pureN 1 (by simp only [go_sem, ↓reduceIte, Nat.reduceLT, Nat.reduceEqDiff, Nat.reduceLeDiff, Nat.reduceAdd, Nat.reduceMul, Int.reduceLT, Int.reduceLE, Int.reduceToNat, BitVec.reduceOfInt, Nat.reduceBEq, hjj]; try rfl) ?_
        refine al_load rfl (by simp only [go_sem, ↓reduceIte, Nat.reduceLT, Nat.reduceEqDiff, Nat.reduceLeDiff, Nat.reduceAdd, Nat.reduceMul, Int.reduceLT, Int.reduceLE, Int.reduceToNat, BitVec.reduceOfInt, Nat.reduceBEq, hjj]) rfl (by simp only [go_sem, ↓reduceIte, Nat.reduceLT, Nat.reduceEqDiff, Nat.reduceLeDiff, Nat.reduceAdd, Nat.reduceMul, Int.reduceLT, Int.reduceLE, Int.reduceToNat, BitVec.reduceOfInt, Nat.reduceBEq, hjj]; try rfl) e2 (loadA_scalar agg3 e3) ?_
        refine al_pureN 1 (by simp only [go_sem, ↓reduceIte, Nat.reduceLT, Nat.reduceEqDiff, Nat.reduceLeDiff, Nat.reduceAdd, Nat.reduceMul, Int.reduceLT, Int.reduceLE, Int.reduceToNat, BitVec.reduceOfInt, Nat.reduceBEq, hjj]; try rfl) ?_
        refine al_end [1, 3, 9, 11, 12, 16, 134, 135, 136] ?_
        have hr := hrange _ (List.getElem_mem hlt)
        have hwm := List.getElem_mem hlt
        obtain ⟨w, hw⟩ : ∃ w : Nat, cl[j] = w := ⟨cl[j].toNat, by omega⟩
        rw [hw] at hr hwm ⊢
        refine awp_seq (awp_pures [1, 3, 9, 11, 12, 16, 17, 134, 135, 136] (by simp only [go_sem, ↓reduceIte, Nat.reduceLT, Nat.reduceEqDiff, Nat.reduceLeDiff, Nat.reduceAdd, Nat.reduceMul, Int.reduceLT, Int.reduceLE, Int.reduceToNat, BitVec.reduceOfInt, Nat.reduceBEq]; try rfl) ?_)
        refine awp_seq ?_
        refine awp_seq (awp_pures [1, 3, 9, 11, 12, 16, 17, 134, 135, 136, 140, 141, 142] (by simp only [go_sem, ↓reduceIte, Nat.reduceLT, Nat.reduceEqDiff, Nat.reduceLeDiff, Nat.reduceAdd, Nat.reduceMul, Int.reduceLT, Int.reduceLE, Int.reduceToNat, BitVec.reduceOfInt, Nat.reduceBEq]; try rfl) ?_)
        obtain ⟨f, hfd⟩ : ∃ f, f = (firstC g).toNat := ⟨_, rfl⟩
        have hFf : F = (f : Int) := by rw [hfd, ← hF]; omega
        refine awp_block (awp_loop ?_)
        refine ALoop.cast3 (aloop_ind (α := Nat × Nat) (fun a => a.1 ≤ fr.length ∧ M ≤ a.2) (fun a => fr.length - a.1)
          (fun a => [(1, .int .i64 m), (3, .pointer (some ⟨N, 0, none⟩)), (9, .slice fb fr.length fc), (11, .int .i64 F), (12, .slice ub n uc), (16, .int .i64 w), (17, .int .i64 (cntF ((fr.take a.1).flatMap (opsF f g.as)) w : Nat)), (134, .slice (some ⟨id, off, none⟩) cl.length cc), (135, .int .i64 cl.length), (136, .int .i64 j),
            (140, .slice fb fr.length fc), (141, .int .i64 fr.length), (142, .int .i64 a.1)]) (fun a => a.2) (fun _ => σ4) ?_ (0, M) ⟨Nat.zero_le _, Nat.le_refl _⟩) rfl rfl rfl
        rintro ⟨i, M2⟩ ⟨hi2, hM2⟩ ih2
        dsimp only at hi2 hM2 ih2 ⊢
        by_cases hlt2 : i < fr.length
        · have hb : decide ((i : Int) < (fr.length : Int)) = true := by simpa using hlt2
          refine awp_seq (awp_pures [1, 3, 9, 11, 12, 16, 17, 134, 135, 136, 140, 141, 142, 143] (by simp only [go_sem, ↓reduceIte, Nat.reduceLT, Nat.reduceEqDiff, Nat.reduceLeDiff, Nat.reduceAdd, Nat.reduceMul, Int.reduceLT, Int.reduceLE, Int.reduceToNat, BitVec.reduceOfInt, Nat.reduceBEq, hb]; try rfl) ?_)
          refine awp_seq ?_
          refine awp_if rfl (fun _ => ?_) (fun h => by cases h)
          refine awp_skip ?_
          refine awp_seq (awp_block ?_)
          have hii : 0 ≤ (i : Int) ∧ (i : Int) < (fr.length : Int) := by omega
          obtain ⟨id, off, cap, b, e1, e2, e3, e4⟩ := slAt_int hfs hlt2
          cases e1
          first | refine awp_seq (awp_lit ?_) | refine awp_lit ?_ | refine awp_seq (awp_seq (awp_lit ?_))
          refine al_pureN 1 (by simp only [go_sem, ↓reduceIte, Nat.reduceLT, Nat.reduceEqDiff, Nat.reduceLeDiff, Nat.reduceAdd, Nat.reduceMul, Int.reduceLT, Int.reduceLE, Int.reduceToNat, BitVec.reduceOfInt, Nat.reduceBEq, hii]; try rfl) ?_
          refine al_load rfl (by simp only [go_sem, ↓reduceIte, Nat.reduceLT, Nat.reduceEqDiff, Nat.reduceLeDiff, Nat.reduceAdd, Nat.reduceMul, Int.reduceLT, Int.reduceLE, Int.reduceToNat, BitVec.reduceOfInt, Nat.reduceBEq, hii]) rfl (by simp only [go_sem, ↓reduceIte, Nat.reduceLT, Nat.reduceEqDiff, Nat.reduceLeDiff, Nat.reduceAdd, Nat.reduceMul, Int.reduceLT, Int.reduceLE, Int.reduceToNat, BitVec.reduceOfInt, Nat.reduceBEq, hii]; try rfl) e2 (loadA_scalar agg3 e3) ?_
          refine al_pureN 1 (by simp only [go_sem, ↓reduceIte, Nat.reduceLT, Nat.reduceEqDiff, Nat.reduceLeDiff, Nat.reduceAdd, Nat.reduceMul, Int.reduceLT, Int.reduceLE, Int.reduceToNat, BitVec.reduceOfInt, Nat.reduceBEq, hii]; try rfl) ?_
          refine al_end [1, 3, 9, 11, 12, 16, 17, 19, 134, 135, 136, 140, 141, 142] ?_
          have hxr := hrange _ (hsub _ (List.getElem_mem hlt2))
          obtain ⟨q, hq⟩ : ∃ q : Nat, fr[i] - F = q := ⟨(fr[i] - F).toNat, by omega⟩
          have hql : q < g.as.length := by omega
          have hqq : 0 ≤ (q : Int) ∧ (q : Int) < (g.as.length : Int) := by omega
          have hs1 : -9223372036854775808 ≤ fr[i] - F ∧ fr[i] - F ≤ 9223372036854775807 := by omega
          obtain ⟨id, off, cap, b, e1, e2, e3, e4⟩ := rowsAt_pair (has.mono hσ4) hql
          cases e1
          first | refine awp_seq (awp_lit ?_) | refine awp_lit ?_ | refine awp_seq (awp_seq (awp_lit ?_))
          refine al_pureN 1 (by simp only [go_sem, ↓reduceIte, Nat.reduceLT, Nat.reduceEqDiff, Nat.reduceLeDiff, Nat.reduceAdd, Nat.reduceMul, Int.reduceLT, Int.reduceLE, Int.reduceToNat, BitVec.reduceOfInt, Nat.reduceBEq, i64_sub hs1, hq, hqq]; try rfl) ?_
          refine al_load rfl (by simp only [go_sem, ↓reduceIte, Nat.reduceLT, Nat.reduceEqDiff, Nat.reduceLeDiff, Nat.reduceAdd, Nat.reduceMul, Int.reduceLT, Int.reduceLE, Int.reduceToNat, BitVec.reduceOfInt, Nat.reduceBEq, i64_sub hs1, hq, hqq]) rfl (by simp only [go_sem, ↓reduceIte, Nat.reduceLT, Nat.reduceEqDiff, Nat.reduceLeDiff, Nat.reduceAdd, Nat.reduceMul, Int.reduceLT, Int.reduceLE, Int.reduceToNat, BitVec.reduceOfInt, Nat.reduceBEq, i64_sub hs1, hq, hqq]; try rfl) hG4 (loadA_scalar agg23 rfl) ?_
          refine al_pureN 4 (by simp only [go_sem, ↓reduceIte, Nat.reduceLT, Nat.reduceEqDiff, Nat.reduceLeDiff, Nat.reduceAdd, Nat.reduceMul, Int.reduceLT, Int.reduceLE, Int.reduceToNat, BitVec.reduceOfInt, Nat.reduceBEq, i64_sub hs1, hq, hqq]; try rfl) ?_
          refine al_load rfl (by simp only [go_sem, ↓reduceIte, Nat.reduceLT, Nat.reduceEqDiff, Nat.reduceLeDiff, Nat.reduceAdd, Nat.reduceMul, Int.reduceLT, Int.reduceLE, Int.reduceToNat, BitVec.reduceOfInt, Nat.reduceBEq, i64_sub hs1, hq, hqq]) rfl (by simp only [go_sem, ↓reduceIte, Nat.reduceLT, Nat.reduceEqDiff, Nat.reduceLeDiff, Nat.reduceAdd, Nat.reduceMul, Int.reduceLT, Int.reduceLE, Int.reduceToNat, BitVec.reduceOfInt, Nat.reduceBEq, i64_sub hs1, hq, hqq]; try rfl) e2 (loadA_agg agg47 e3) ?_
          refine al_alloc 1 rfl rfl rfl ty47 (by decide) ?_
          refine al_store rfl (by simp only [go_sem, ↓reduceIte, Nat.reduceLT, Nat.reduceEqDiff, Nat.reduceLeDiff, Nat.reduceAdd, Nat.reduceMul, Int.reduceLT, Int.reduceLE, Int.reduceToNat, BitVec.reduceOfInt, Nat.reduceBEq, i64_sub hs1, hq, hqq]) rfl (by simp only [go_sem, ↓reduceIte, Nat.reduceLT, Nat.reduceEqDiff, Nat.reduceLeDiff, Nat.reduceAdd, Nat.reduceMul, Int.reduceLT, Int.reduceLE, Int.reduceToNat, BitVec.reduceOfInt, Nat.reduceBEq, i64_sub hs1, hq, hqq]; try rfl) (by simp only [go_sem, ↓reduceIte, Nat.reduceLT, Nat.reduceEqDiff, Nat.reduceLeDiff, Nat.reduceAdd, Nat.reduceMul, Int.reduceLT, Int.reduceLE, Int.reduceToNat, BitVec.reduceOfInt, Nat.reduceBEq, i64_sub hs1, hq, hqq]; try rfl) (by first | exact AHeap.set_self _ _ _ | (simp only [AHeap.set, ↓reduceIte, Nat.add_assoc, Nat.reduceAdd, Nat.add_left_cancel_iff, Nat.add_right_cancel_iff, Nat.left_eq_add, Nat.add_eq_left, Nat.add_eq_right, Nat.right_eq_add, Nat.reduceEqDiff, Nat.succ_ne_zero, i64_sub hs1, hq, hqq]; rfl) | assumption) rfl (by exact size47.trans rfl) (by rfl) (by exact Nat.le_of_ble_eq_true rfl) ?_
          refine al_end [1, 3, 9, 11, 12, 16, 17, 20, 134, 135, 136, 140, 141, 142] ?_
          rw [AHeap.set_set]
          obtain ⟨A, hAe⟩ : ∃ A, A = g.as[q].1 := ⟨_, rfl⟩
          obtain ⟨B, hBe⟩ : ∃ B, B = g.as[q].2 := ⟨_, rfl⟩
          obtain ⟨b1, b2, b3, b4⟩ := chkA_get hV.ands hql
          rw [← hF] at b2 b4
          rw [← hAe] at b1 b2 ⊢
          rw [← hBe] at b3 b4 ⊢
          have qA := quo_two b1 (by omega)
          have qB := quo_two b3 (by omega)
          obtain ⟨p, hp⟩ : ∃ p, p = cntF ((fr.take i).flatMap (opsF f g.as)) w := ⟨_, rfl⟩
          have hpl : p ≤ 2000000 := by
            have h1 := cntF_le ((fr.take i).flatMap (opsF f g.as)) w
            rw [← hp, ops_len, List.length_take] at h1
            omega
          have hops : opsF f g.as fr[i] = [A, B] := by
            have h1 : fr[i].toNat - f = q := by omega
            unfold opsF
            rw [h1, List.getD_eq_getElem?_getD, List.getElem?_eq_getElem hql, hAe, hBe]; rfl
          have hcnt : cntF ((fr.take (i + 1)).flatMap (opsF f g.as)) w = p + (if A.toNat / 2 = w then 1 else 0) + (if B.toNat / 2 = w then 1 else 0) := by
            rw [take_snoc _ hlt2, List.flatMap_append, cntF_append, ← hp]
            simp only [List.flatMap_cons, List.flatMap_nil, List.append_nil, hops]
            simp [cntF, List.countP_cons]; omega
          rw [← hp]
          have w1 : -9223372036854775808 ≤ (p : Int) + 1 ∧ (p : Int) + 1 ≤ 9223372036854775807 := by omega
          have w2 : -9223372036854775808 ≤ ((p + 1 : Nat) : Int) + 1 ∧ ((p + 1 : Nat) : Int) + 1 ≤ 9223372036854775807 := by omega
          have k1 : (p : Int) + 1 = ((p + 1 : Nat) : Int) := by omega
          have k2 : ((p + 1 : Nat) : Int) + 1 = ((p + 1 + 1 : Nat) : Int) := by omega
          have hadd : -9223372036854775808 ≤ (i : Int) + 1 ∧ (i : Int) + 1 ≤ 9223372036854775807 := by omega
          refine awp_seq ?_
          by_cases hA : A.toNat / 2 = w
          · have dA : (A / 2 == (w : Int)) = true := by simp; omega
            first | refine awp_seq (awp_lit ?_) | refine awp_lit ?_ | refine awp_seq (awp_seq (awp_lit ?_))
            refine al_pureN 1 (by simp only [go_sem, ↓reduceIte, Nat.reduceLT, Nat.reduceEqDiff, Nat.reduceLeDiff, Nat.reduceAdd, Nat.reduceMul, Int.reduceLT, Int.reduceLE, Int.reduceToNat, BitVec.reduceOfInt, Nat.reduceBEq, qA, dA]; try rfl) ?_
            refine al_load rfl (by simp only [go_sem, ↓reduceIte, Nat.reduceLT, Nat.reduceEqDiff, Nat.reduceLeDiff, Nat.reduceAdd, Nat.reduceMul, Int.reduceLT, Int.reduceLE, Int.reduceToNat, BitVec.reduceOfInt, Nat.reduceBEq, qA, dA]) rfl (by simp only [go_sem, ↓reduceIte, Nat.reduceLT, Nat.reduceEqDiff, Nat.reduceLeDiff, Nat.reduceAdd, Nat.reduceMul, Int.reduceLT, Int.reduceLE, Int.reduceToNat, BitVec.reduceOfInt, Nat.reduceBEq, qA, dA]; try rfl) (by first | exact AHeap.set_self _ _ _ | (simp only [AHeap.set, ↓reduceIte, Nat.add_assoc, Nat.reduceAdd, Nat.add_left_cancel_iff, Nat.add_right_cancel_iff, Nat.left_eq_add, Nat.add_eq_left, Nat.add_eq_right, Nat.right_eq_add, Nat.reduceEqDiff, Nat.succ_ne_zero, qA, dA]; rfl) | assumption) (by first | exact loadA_scalar agg43 rfl | exact loadA_agg agg43 rfl | exact loadA_scalar agg43 (by assumption)) ?_
            refine al_pureN 3 (by simp only [go_sem, ↓reduceIte, Nat.reduceLT, Nat.reduceEqDiff, Nat.reduceLeDiff, Nat.reduceAdd, Nat.reduceMul, Int.reduceLT, Int.reduceLE, Int.reduceToNat, BitVec.reduceOfInt, Nat.reduceBEq, qA, dA]; try rfl) ?_
            refine al_end [1, 3, 9, 11, 12, 16, 17, 20, 134, 135, 136, 140, 141, 142, 157] ?_
            refine awp_if rfl (fun _ => ?_) (fun h => by cases h)
            refine awp_pures [1, 3, 9, 11, 12, 16, 17, 20, 134, 135, 136, 140, 141, 142] (by simp only [go_sem, ↓reduceIte, Nat.reduceLT, Nat.reduceEqDiff, Nat.reduceLeDiff, Nat.reduceAdd, Nat.reduceMul, Int.reduceLT, Int.reduceLE, Int.reduceToNat, BitVec.reduceOfInt, Nat.reduceBEq, i64_add w1, k1]; try rfl) ?_
            by_cases hB : B.toNat / 2 = w
            · have dB : (B / 2 == (w : Int)) = true := by simp; omega
              first | refine awp_seq (awp_lit ?_) | refine awp_lit ?_ | refine awp_seq (awp_seq (awp_lit ?_))
              refine al_pureN 1 (by simp only [go_sem, ↓reduceIte, Nat.reduceLT, Nat.reduceEqDiff, Nat.reduceLeDiff, Nat.reduceAdd, Nat.reduceMul, Int.reduceLT, Int.reduceLE, Int.reduceToNat, BitVec.reduceOfInt, Nat.reduceBEq, qB, dB]; try rfl) ?_
              refine al_load rfl (by simp only [go_sem, ↓reduceIte, Nat.reduceLT, Nat.reduceEqDiff, Nat.reduceLeDiff, Nat.reduceAdd, Nat.reduceMul, Int.reduceLT, Int.reduceLE, Int.reduceToNat, BitVec.reduceOfInt, Nat.reduceBEq, qB, dB]) rfl (by simp only [go_sem, ↓reduceIte, Nat.reduceLT, Nat.reduceEqDiff, Nat.reduceLeDiff, Nat.reduceAdd, Nat.reduceMul, Int.reduceLT, Int.reduceLE, Int.reduceToNat, BitVec.reduceOfInt, Nat.reduceBEq, qB, dB]; try rfl) (by first | exact AHeap.set_self _ _ _ | (simp only [AHeap.set, ↓reduceIte, Nat.add_assoc, Nat.reduceAdd, Nat.add_left_cancel_iff, Nat.add_right_cancel_iff, Nat.left_eq_add, Nat.add_eq_left, Nat.add_eq_right, Nat.right_eq_add, Nat.reduceEqDiff, Nat.succ_ne_zero, qB, dB]; rfl) | assumption) (by first | exact loadA_scalar agg43 rfl | exact loadA_agg agg43 rfl | exact loadA_scalar agg43 (by assumption)) ?_
              refine al_pureN 3 (by simp only [go_sem, ↓reduceIte, Nat.reduceLT, Nat.reduceEqDiff, Nat.reduceLeDiff, Nat.reduceAdd, Nat.reduceMul, Int.reduceLT, Int.reduceLE, Int.reduceToNat, BitVec.reduceOfInt, Nat.reduceBEq, qB, dB]; try rfl) ?_
              refine al_end [1, 3, 9, 11, 12, 16, 17, 134, 135, 136, 140, 141, 142, 164] ?_
              refine awp_if rfl (fun _ => ?_) (fun h => by cases h)
              refine awp_pures [1, 3, 9, 11, 12, 16, 17, 134, 135, 136, 140, 141, 142] (by simp only [go_sem, ↓reduceIte, Nat.reduceLT, Nat.reduceEqDiff, Nat.reduceLeDiff, Nat.reduceAdd, Nat.reduceMul, Int.reduceLT, Int.reduceLE, Int.reduceToNat, BitVec.reduceOfInt, Nat.reduceBEq, i64_add w2, k2]; try rfl) ?_
              refine awp_pures [1, 3, 9, 11, 12, 16, 17, 134, 135, 136, 140, 141, 142] (by simp only [go_sem, ↓reduceIte, Nat.reduceLT, Nat.reduceEqDiff, Nat.reduceLeDiff, Nat.reduceAdd, Nat.reduceMul, Int.reduceLT, Int.reduceLE, Int.reduceToNat, BitVec.reduceOfInt, Nat.reduceBEq, i64_add hadd]; try rfl) ?_
              refine ALoop.cast3 ((ih2 (i + 1, M2 + 1) ⟨hlt2, by dsimp only; omega⟩ (by dsimp only; omega)).forget (fun _ _ h => h) (le_new (dom_up hd4 (by omega)) (Nat.le_refl _))) (by dsimp only; rw [hcnt, if_pos hB, if_pos hA]; rfl) rfl rfl
            · have dB : (B / 2 == (w : Int)) = false := by simp; omega
              first | refine awp_seq (awp_lit ?_) | refine awp_lit ?_ | refine awp_seq (awp_seq (awp_lit ?_))
              refine al_pureN 1 (by simp only [go_sem, ↓reduceIte, Nat.reduceLT, Nat.reduceEqDiff, Nat.reduceLeDiff, Nat.reduceAdd, Nat.reduceMul, Int.reduceLT, Int.reduceLE, Int.reduceToNat, BitVec.reduceOfInt, Nat.reduceBEq, qB, dB]; try rfl) ?_
              refine al_load rfl (by simp only [go_sem, ↓reduceIte, Nat.reduceLT, Nat.reduceEqDiff, Nat.reduceLeDiff, Nat.reduceAdd, Nat.reduceMul, Int.reduceLT, Int.reduceLE, Int.reduceToNat, BitVec.reduceOfInt, Nat.reduceBEq, qB, dB]) rfl (by simp only [go_sem, ↓reduceIte, Nat.reduceLT, Nat.reduceEqDiff, Nat.reduceLeDiff, Nat.reduceAdd, Nat.reduceMul, Int.reduceLT, Int.reduceLE, Int.reduceToNat, BitVec.reduceOfInt, Nat.reduceBEq, qB, dB]; try rfl) (by first | exact AHeap.set_self _ _ _ | (simp only [AHeap.set, ↓reduceIte, Nat.add_assoc, Nat.reduceAdd, Nat.add_left_cancel_iff, Nat.add_right_cancel_iff, Nat.left_eq_add, Nat.add_eq_left, Nat.add_eq_right, Nat.right_eq_add, Nat.reduceEqDiff, Nat.succ_ne_zero, qB, dB]; rfl) | assumption) (by first | exact loadA_scalar agg43 rfl | exact loadA_agg agg43 rfl | exact loadA_scalar agg43 (by assumption)) ?_
              refine al_pureN 3 (by simp only [go_sem, ↓reduceIte, Nat.reduceLT, Nat.reduceEqDiff, Nat.reduceLeDiff, Nat.reduceAdd, Nat.reduceMul, Int.reduceLT, Int.reduceLE, Int.reduceToNat, BitVec.reduceOfInt, Nat.reduceBEq, qB, dB]; try rfl) ?_
              refine al_end [1, 3, 9, 11, 12, 16, 17, 134, 135, 136, 140, 141, 142, 164] ?_
              refine awp_if rfl (fun h => by cases h) (fun _ => ?_)
              refine awp_skip ?_
              refine awp_pures [1, 3, 9, 11, 12, 16, 17, 134, 135, 136, 140, 141, 142] (by simp only [go_sem, ↓reduceIte, Nat.reduceLT, Nat.reduceEqDiff, Nat.reduceLeDiff, Nat.reduceAdd, Nat.reduceMul, Int.reduceLT, Int.reduceLE, Int.reduceToNat, BitVec.reduceOfInt, Nat.reduceBEq, i64_add hadd]; try rfl) ?_
              refine ALoop.cast3 ((ih2 (i + 1, M2 + 1) ⟨hlt2, by dsimp only; omega⟩ (by dsimp only; omega)).forget (fun _ _ h => h) (le_new (dom_up hd4 (by omega)) (Nat.le_refl _))) (by dsimp only; rw [hcnt, if_neg hB, if_pos hA]; rfl) rfl rfl
          · have dA : (A / 2 == (w : Int)) = false := by simp; omega
            first | refine awp_seq (awp_lit ?_) | refine awp_lit ?_ | refine awp_seq (awp_seq (awp_lit ?_))
            refine al_pureN 1 (by simp only [go_sem, ↓reduceIte, Nat.reduceLT, Nat.reduceEqDiff, Nat.reduceLeDiff, Nat.reduceAdd, Nat.reduceMul, Int.reduceLT, Int.reduceLE, Int.reduceToNat, BitVec.reduceOfInt, Nat.reduceBEq, qA, dA]; try rfl) ?_
            refine al_load rfl (by simp only [go_sem, ↓reduceIte, Nat.reduceLT, Nat.reduceEqDiff, Nat.reduceLeDiff, Nat.reduceAdd, Nat.reduceMul, Int.reduceLT, Int.reduceLE, Int.reduceToNat, BitVec.reduceOfInt, Nat.reduceBEq, qA, dA]) rfl (by simp only [go_sem, ↓reduceIte, Nat.reduceLT, Nat.reduceEqDiff, Nat.reduceLeDiff, Nat.reduceAdd, Nat.reduceMul, Int.reduceLT, Int.reduceLE, Int.reduceToNat, BitVec.reduceOfInt, Nat.reduceBEq, qA, dA]; try rfl) (by first | exact AHeap.set_self _ _ _ | (simp only [AHeap.set, ↓reduceIte, Nat.add_assoc, Nat.reduceAdd, Nat.add_left_cancel_iff, Nat.add_right_cancel_iff, Nat.left_eq_add, Nat.add_eq_left, Nat.add_eq_right, Nat.right_eq_add, Nat.reduceEqDiff, Nat.succ_ne_zero, qA, dA]; rfl) | assumption) (by first | exact loadA_scalar agg43 rfl | exact loadA_agg agg43 rfl | exact loadA_scalar agg43 (by assumption)) ?_
            refine al_pureN 3 (by simp only [go_sem, ↓reduceIte, Nat.reduceLT, Nat.reduceEqDiff, Nat.reduceLeDiff, Nat.reduceAdd, Nat.reduceMul, Int.reduceLT, Int.reduceLE, Int.reduceToNat, BitVec.reduceOfInt, Nat.reduceBEq, qA, dA]; try rfl) ?_
            refine al_end [1, 3, 9, 11, 12, 16, 17, 20, 134, 135, 136, 140, 141, 142, 157] ?_
            refine awp_if rfl (fun h => by cases h) (fun _ => ?_)
            refine awp_skip ?_
            by_cases hB : B.toNat / 2 = w
            · have dB : (B / 2 == (w : Int)) = true := by simp; omega
              first | refine awp_seq (awp_lit ?_) | refine awp_lit ?_ | refine awp_seq (awp_seq (awp_lit ?_))
              refine al_pureN 1 (by simp only [go_sem, ↓reduceIte, Nat.reduceLT, Nat.reduceEqDiff, Nat.reduceLeDiff, Nat.reduceAdd, Nat.reduceMul, Int.reduceLT, Int.reduceLE, Int.reduceToNat, BitVec.reduceOfInt, Nat.reduceBEq, qB, dB]; try rfl) ?_
              refine al_load rfl (by simp only [go_sem, ↓reduceIte, Nat.reduceLT, Nat.reduceEqDiff, Nat.reduceLeDiff, Nat.reduceAdd, Nat.reduceMul, Int.reduceLT, Int.reduceLE, Int.reduceToNat, BitVec.reduceOfInt, Nat.reduceBEq, qB, dB]) rfl (by simp only [go_sem, ↓reduceIte, Nat.reduceLT, Nat.reduceEqDiff, Nat.reduceLeDiff, Nat.reduceAdd, Nat.reduceMul, Int.reduceLT, Int.reduceLE, Int.reduceToNat, BitVec.reduceOfInt, Nat.reduceBEq, qB, dB]; try rfl) (by first | exact AHeap.set_self _ _ _ | (simp only [AHeap.set, ↓reduceIte, Nat.add_assoc, Nat.reduceAdd, Nat.add_left_cancel_iff, Nat.add_right_cancel_iff, Nat.left_eq_add, Nat.add_eq_left, Nat.add_eq_right, Nat.right_eq_add, Nat.reduceEqDiff, Nat.succ_ne_zero, qB, dB]; rfl) | assumption) (by first | exact loadA_scalar agg43 rfl | exact loadA_agg agg43 rfl | exact loadA_scalar agg43 (by assumption)) ?_
              refine al_pureN 3 (by simp only [go_sem, ↓reduceIte, Nat.reduceLT, Nat.reduceEqDiff, Nat.reduceLeDiff, Nat.reduceAdd, Nat.reduceMul, Int.reduceLT, Int.reduceLE, Int.reduceToNat, BitVec.reduceOfInt, Nat.reduceBEq, qB, dB]; try rfl) ?_
              refine al_end [1, 3, 9, 11, 12, 16, 17, 134, 135, 136, 140, 141, 142, 164] ?_
              refine awp_if rfl (fun _ => ?_) (fun h => by cases h)
              refine awp_pures [1, 3, 9, 11, 12, 16, 17, 134, 135, 136, 140, 141, 142] (by simp only [go_sem, ↓reduceIte, Nat.reduceLT, Nat.reduceEqDiff, Nat.reduceLeDiff, Nat.reduceAdd, Nat.reduceMul, Int.reduceLT, Int.reduceLE, Int.reduceToNat, BitVec.reduceOfInt, Nat.reduceBEq, i64_add w1, k1]; try rfl) ?_
              refine awp_pures [1, 3, 9, 11, 12, 16, 17, 134, 135, 136, 140, 141, 142] (by simp only [go_sem, ↓reduceIte, Nat.reduceLT, Nat.reduceEqDiff, Nat.reduceLeDiff, Nat.reduceAdd, Nat.reduceMul, Int.reduceLT, Int.reduceLE, Int.reduceToNat, BitVec.reduceOfInt, Nat.reduceBEq, i64_add hadd]; try rfl) ?_
              refine ALoop.cast3 ((ih2 (i + 1, M2 + 1) ⟨hlt2, by dsimp only; omega⟩ (by dsimp only; omega)).forget (fun _ _ h => h) (le_new (dom_up hd4 (by omega)) (Nat.le_refl _))) (by dsimp only; rw [hcnt, if_pos hB, if_neg hA]; rfl) rfl rfl
            · have dB : (B / 2 == (w : Int)) = false := by simp; omega
              first | refine awp_seq (awp_lit ?_) | refine awp_lit ?_ | refine awp_seq (awp_seq (awp_lit ?_))
              refine al_pureN 1 (by simp only [go_sem, ↓reduceIte, Nat.reduceLT, Nat.reduceEqDiff, Nat.reduceLeDiff, Nat.reduceAdd, Nat.reduceMul, Int.reduceLT, Int.reduceLE, Int.reduceToNat, BitVec.reduceOfInt, Nat.reduceBEq, qB, dB]; try rfl) ?_
              refine al_load rfl (by simp only [go_sem, ↓reduceIte, Nat.reduceLT, Nat.reduceEqDiff, Nat.reduceLeDiff, Nat.reduceAdd, Nat.reduceMul, Int.reduceLT, Int.reduceLE, Int.reduceToNat, BitVec.reduceOfInt, Nat.reduceBEq, qB, dB]) rfl (by simp only [go_sem, ↓reduceIte, Nat.reduceLT, Nat.reduceEqDiff, Nat.reduceLeDiff, Nat.reduceAdd, Nat.reduceMul, Int.reduceLT, Int.reduceLE, Int.reduceToNat, BitVec.reduceOfInt, Nat.reduceBEq, qB, dB]; try rfl) (by first | exact AHeap.set_self _ _ _ | (simp only [AHeap.set, ↓reduceIte, Nat.add_assoc, Nat.reduceAdd, Nat.add_left_cancel_iff, Nat.add_right_cancel_iff, Nat.left_eq_add, Nat.add_eq_left, Nat.add_eq_right, Nat.right_eq_add, Nat.reduceEqDiff, Nat.succ_ne_zero, qB, dB]; rfl) | assumption) (by first | exact loadA_scalar agg43 rfl | exact loadA_agg agg43 rfl | exact loadA_scalar agg43 (by assumption)) ?_
              refine al_pureN 3 (by simp only [go_sem, ↓reduceIte, Nat.reduceLT, Nat.reduceEqDiff, Nat.reduceLeDiff, Nat.reduceAdd, Nat.reduceMul, Int.reduceLT, Int.reduceLE, Int.reduceToNat, BitVec.reduceOfInt, Nat.reduceBEq, qB, dB]; try rfl) ?_
              refine al_end [1, 3, 9, 11, 12, 16, 17, 134, 135, 136, 140, 141, 142, 164] ?_
              refine awp_if rfl (fun h => by cases h) (fun _ => ?_)
              refine awp_skip ?_
              refine awp_pures [1, 3, 9, 11, 12, 16, 17, 134, 135, 136, 140, 141, 142] (by simp only [go_sem, ↓reduceIte, Nat.reduceLT, Nat.reduceEqDiff, Nat.reduceLeDiff, Nat.reduceAdd, Nat.reduceMul, Int.reduceLT, Int.reduceLE, Int.reduceToNat, BitVec.reduceOfInt, Nat.reduceBEq, i64_add hadd]; try rfl) ?_
              refine ALoop.cast3 ((ih2 (i + 1, M2 + 1) ⟨hlt2, by dsimp only; omega⟩ (by dsimp only; omega)).forget (fun _ _ h => h) (le_new (dom_up hd4 (by omega)) (Nat.le_refl _))) (by dsimp only; rw [hcnt, if_neg hB, if_neg hA]; rfl) rfl rfl
        · have hb : decide ((i : Int) < (fr.length : Int)) = false := by simpa using hlt2
          have him : i = fr.length := by omega
          refine awp_seq (awp_pures [1, 3, 9, 11, 12, 16, 17, 134, 135, 136, 140, 141, 142, 143] (by simp only [go_sem, ↓reduceIte, Nat.reduceLT, Nat.reduceEqDiff, Nat.reduceLeDiff, Nat.reduceAdd, Nat.reduceMul, Int.reduceLT, Int.reduceLE, Int.reduceToNat, BitVec.reduceOfInt, Nat.reduceBEq, hb]; try rfl) ?_)
          refine awp_seq ?_
          refine awp_if rfl (fun h => by cases h) (fun _ => ?_)
          refine awp_exit ?_
          simp only [Go.Abs.Seq, Go.Abs.Round, Go.Abs.InBlock, ↓reduceIte]
          rw [him, List.take_length]
          have hadd : -9223372036854775808 ≤ (j : Int) + 1 ∧ (j : Int) + 1 ≤ 9223372036854775807 := by omega
          by_cases hwm1 : w = m
          · have d0 : ((w : Int) != (m : Int)) = false := by simp [hwm1]
            refine awp_seq (awp_quiet [1, 3, 9, 11, 12, 134, 135, 136, 182] (by kernel_rfl) fun hNq => ?_)
            refine tq_pures 5 (by simp only [go_sem, ↓reduceIte, Nat.reduceLT, Nat.reduceEqDiff, Nat.reduceLeDiff, Nat.reduceAdd, Nat.reduceMul, Int.reduceLT, Int.reduceLE, Int.reduceToNat, BitVec.reduceOfInt, Nat.reduceBEq, d0]; try rfl) ?_
            refine tq_pures 1 (by simp only [go_sem, ↓reduceIte, Nat.reduceLT, Nat.reduceEqDiff, Nat.reduceLeDiff, Nat.reduceAdd, Nat.reduceMul, Int.reduceLT, Int.reduceLE, Int.reduceToNat, BitVec.reduceOfInt, Nat.reduceBEq, d0]; try rfl) ?_
            refine tq_pures 1 (by simp only [go_sem, ↓reduceIte, Nat.reduceLT, Nat.reduceEqDiff, Nat.reduceLeDiff, Nat.reduceAdd, Nat.reduceMul, Int.reduceLT, Int.reduceLE, Int.reduceToNat, BitVec.reduceOfInt, Nat.reduceBEq, d0, undef]; try rfl) ?_
            refine tq_pures 3 (by simp only [go_sem, ↓reduceIte, Nat.reduceLT, Nat.reduceEqDiff, Nat.reduceLeDiff, Nat.reduceAdd, Nat.reduceMul, Int.reduceLT, Int.reduceLE, Int.reduceToNat, BitVec.reduceOfInt, Nat.reduceBEq, d0]; try rfl) ?_
            refine tq_pures 1 (by simp only [go_sem, ↓reduceIte, Nat.reduceLT, Nat.reduceEqDiff, Nat.reduceLeDiff, Nat.reduceAdd, Nat.reduceMul, Int.reduceLT, Int.reduceLE, Int.reduceToNat, BitVec.reduceOfInt, Nat.reduceBEq, d0]; try rfl) ?_
            refine tq_pures 1 (by simp only [go_sem, ↓reduceIte, Nat.reduceLT, Nat.reduceEqDiff, Nat.reduceLeDiff, Nat.reduceAdd, Nat.reduceMul, Int.reduceLT, Int.reduceLE, Int.reduceToNat, BitVec.reduceOfInt, Nat.reduceBEq, d0, undef]; try rfl) ?_
            refine tq_pures 3 (by simp only [go_sem, ↓reduceIte, Nat.reduceLT, Nat.reduceEqDiff, Nat.reduceLeDiff, Nat.reduceAdd, Nat.reduceMul, Int.reduceLT, Int.reduceLE, Int.reduceToNat, BitVec.reduceOfInt, Nat.reduceBEq, d0]; try rfl) ?_
            refine tq_end ?_
            refine awp_if rfl (fun h => by cases h) (fun _ => ?_)
            refine awp_skip ?_
            refine awp_pures [1, 3, 9, 11, 12, 134, 135, 136] (by simp only [go_sem, ↓reduceIte, Nat.reduceLT, Nat.reduceEqDiff, Nat.reduceLeDiff, Nat.reduceAdd, Nat.reduceMul, Int.reduceLT, Int.reduceLE, Int.reduceToNat, BitVec.reduceOfInt, Nat.reduceBEq, i64_add hadd]; try rfl) ?_
            exact ALoop.cast3 (ih (j + 1, M2) ⟨hlt, by dsimp only; omega⟩ (by dsimp only; omega)) rfl rfl rfl
          · have d0 : ((w : Int) != (m : Int)) = true := by simp; omega
            have hif := hiff w hwm hwm1
            rw [hFf, Int.toNat_natCast] at hif
            have d1 : (((cntF (fr.flatMap (opsF f g.as)) w : Nat) : Int) == ((cntF (allLits g) w : Nat) : Int)) = decide ((w : Int) ∈ fr) := by
              rw [Bool.eq_iff_iff, decide_eq_true_eq, hif, beq_iff_eq]; omega
            have hwn : 0 ≤ (w : Int) ∧ (w : Int) < (n : Int) := by omega
            obtain ⟨id3, off3, cap3, b3, u1, u2, u3, u4⟩ := huss.at (j := w) (by rw [nums_len]; omega)
            rw [nums_len] at u1
            have u3' : b3.cells[off3 + w]? = some (.int .i64 ((cntF (allLits g) w : Nat) : Int)) := by rw [u3]; simp [nums]
            cases u1
            have d2 : (decide ((w : Int) ∈ fr) != decide ((w : Int) ∈ fr)) = false := by simp
            refine awp_seq (awp_quiet [1, 3, 9, 11, 12, 134, 135, 136, 182] (by kernel_rfl) fun hNq => ?_)
            refine tq_pures 5 (by simp only [go_sem, ↓reduceIte, Nat.reduceLT, Nat.reduceEqDiff, Nat.reduceLeDiff, Nat.reduceAdd, Nat.reduceMul, Int.reduceLT, Int.reduceLE, Int.reduceToNat, BitVec.reduceOfInt, Nat.reduceBEq, d0, hwn, d1, d2]; try rfl) ?_
            refine tq_pures 1 (by simp only [go_sem, ↓reduceIte, Nat.reduceLT, Nat.reduceEqDiff, Nat.reduceLeDiff, Nat.reduceAdd, Nat.reduceMul, Int.reduceLT, Int.reduceLE, Int.reduceToNat, BitVec.reduceOfInt, Nat.reduceBEq, d0, hwn, d1, d2]; try rfl) ?_
            refine tq_gives rfl (by simp only [go_sem, ↓reduceIte, Nat.reduceLT, Nat.reduceEqDiff, Nat.reduceLeDiff, Nat.reduceAdd, Nat.reduceMul, Int.reduceLT, Int.reduceLE, Int.reduceToNat, BitVec.reduceOfInt, Nat.reduceBEq, d0, hwn, d1, d2]; try rfl) (fun m => Has_gives (hfs.qv hNq) hfrl) (by kernel_rfl) rfl (by simp only [go_sem, ↓reduceIte, Nat.reduceLT, Nat.reduceEqDiff, Nat.reduceLeDiff, Nat.reduceAdd, Nat.reduceMul, Int.reduceLT, Int.reduceLE, Int.reduceToNat, BitVec.reduceOfInt, Nat.reduceBEq, d0, hwn, d1, d2]) ?_
            refine tq_pures 3 (by simp only [go_sem, ↓reduceIte, Nat.reduceLT, Nat.reduceEqDiff, Nat.reduceLeDiff, Nat.reduceAdd, Nat.reduceMul, Int.reduceLT, Int.reduceLE, Int.reduceToNat, BitVec.reduceOfInt, Nat.reduceBEq, d0, hwn, d1, d2]; try rfl) ?_
            refine tq_pures 1 (by simp only [go_sem, ↓reduceIte, Nat.reduceLT, Nat.reduceEqDiff, Nat.reduceLeDiff, Nat.reduceAdd, Nat.reduceMul, Int.reduceLT, Int.reduceLE, Int.reduceToNat, BitVec.reduceOfInt, Nat.reduceBEq, d0, hwn, d1, d2]; try rfl) ?_
            refine tq_load hNq rfl (by simp only [go_sem, ↓reduceIte, Nat.reduceLT, Nat.reduceEqDiff, Nat.reduceLeDiff, Nat.reduceAdd, Nat.reduceMul, Int.reduceLT, Int.reduceLE, Int.reduceToNat, BitVec.reduceOfInt, Nat.reduceBEq, d0, hwn, d1, d2]; try rfl) rfl (by simp only [go_sem, ↓reduceIte, Nat.reduceLT, Nat.reduceEqDiff, Nat.reduceLeDiff, Nat.reduceAdd, Nat.reduceMul, Int.reduceLT, Int.reduceLE, Int.reduceToNat, BitVec.reduceOfInt, Nat.reduceBEq, d0, hwn, d1, d2]; try rfl) u2 ⟨_, u4⟩ (loadA_scalar agg3 u3') ?_
            refine tq_pures 3 (by simp only [go_sem, ↓reduceIte, Nat.reduceLT, Nat.reduceEqDiff, Nat.reduceLeDiff, Nat.reduceAdd, Nat.reduceMul, Int.reduceLT, Int.reduceLE, Int.reduceToNat, BitVec.reduceOfInt, Nat.reduceBEq, d0, hwn, d1, d2]; try rfl) ?_
            refine tq_end ?_
            refine awp_if rfl (fun h => by cases h) (fun _ => ?_)
            refine awp_skip ?_
            refine awp_pures [1, 3, 9, 11, 12, 134, 135, 136] (by simp only [go_sem, ↓reduceIte, Nat.reduceLT, Nat.reduceEqDiff, Nat.reduceLeDiff, Nat.reduceAdd, Nat.reduceMul, Int.reduceLT, Int.reduceLE, Int.reduceToNat, BitVec.reduceOfInt, Nat.reduceBEq, i64_add hadd]; try rfl) ?_
            exact ALoop.cast3 (ih (j + 1, M2) ⟨hlt, by dsimp only; omega⟩ (by dsimp only; omega)) rfl rfl rfl
      · have hb : decide ((j : Int) < (cl.length : Int)) = false := by simpa using hlt
        refine awp_seq (awp_pures [1, 3, 9, 11, 12, 134, 135, 136, 137] (by simp only [go_sem, ↓reduceIte, Nat.reduceLT, Nat.reduceEqDiff, Nat.reduceLeDiff, Nat.reduceAdd, Nat.reduceMul, Int.reduceLT, Int.reduceLE, Int.reduceToNat, BitVec.reduceOfInt, Nat.reduceBEq, hb]; try rfl) ?_)
        refine awp_seq ?_
        refine awp_if rfl (fun h => by cases h) (fun _ => ?_)
        refine awp_exit ?_
        simp only [Go.Abs.Seq, Go.Abs.Round, Go.Abs.InBlock, ↓reduceIte]
        refine awp_seq (awp_pures [6] (by simp only [go_sem, ↓reduceIte, Nat.reduceLT, Nat.reduceEqDiff, Nat.reduceLeDiff, Nat.reduceAdd, Nat.reduceMul, Int.reduceLT, Int.reduceLE, Int.reduceToNat, BitVec.reduceOfInt, Nat.reduceBEq]; try rfl) ?_)
        exact awp_ret ⟨_, rfl, rfl, hσ4, by omega⟩
  · have hFR : FreeR g l node = ([], (ConeR g l node).2) := by unfold FreeR; rw [if_neg he]
    have hC1 := cone_err he
    have b1 : ((ConeR g l node).2 != 0) = true := by simpa using he
    have c0 : (ConeR g l node).1.length = 0 := by rw [hC1]; rfl
    have f0 : (FreeR g l node).1.length = 0 := by rw [hFR]; rfl
    have hee : (FreeR g l node).2 = (ConeR g l node).2 := by rw [hFR]
    rw [hee]
    obtain ⟨cb, cc, rfl⟩ := hcv.lenV
    obtain ⟨fb, fc, rfl⟩ := hfv.lenV
    rw [c0, f0]
    obtain ⟨e, hed⟩ : ∃ e, e = (ConeR g l node).2 := ⟨_, rfl⟩
    rw [← hed] at b1 ⊢
    have b3 : (e == e) = true := by simp
    refine awp_seq ?_
    first | refine awp_seq (awp_lit ?_) | refine awp_lit ?_ | refine awp_seq (awp_seq (awp_lit ?_))
    refine al_pureN 4 (by simp only [go_sem, ↓reduceIte, Nat.reduceLT, Nat.reduceEqDiff, Nat.reduceLeDiff, Nat.reduceAdd, Nat.reduceMul, Int.reduceLT, Int.reduceLE, Int.reduceToNat, BitVec.reduceOfInt, Nat.reduceBEq, b1]; try rfl) ?_
    refine al_pureN 3 (by simp only [go_sem, ↓reduceIte, Nat.reduceLT, Nat.reduceEqDiff, Nat.reduceLeDiff, Nat.reduceAdd, Nat.reduceMul, Int.reduceLT, Int.reduceLE, Int.reduceToNat, BitVec.reduceOfInt, Nat.reduceBEq, b1]; try rfl) ?_
    refine al_pureN 1 (by simp only [go_sem, ↓reduceIte, Nat.reduceLT, Nat.reduceEqDiff, Nat.reduceLeDiff, Nat.reduceAdd, Nat.reduceMul, Int.reduceLT, Int.reduceLE, Int.reduceToNat, BitVec.reduceOfInt, Nat.reduceBEq, b1, undef]; try rfl) ?_
    refine al_pureN 1 (by simp only [go_sem, ↓reduceIte, Nat.reduceLT, Nat.reduceEqDiff, Nat.reduceLeDiff, Nat.reduceAdd, Nat.reduceMul, Int.reduceLT, Int.reduceLE, Int.reduceToNat, BitVec.reduceOfInt, Nat.reduceBEq, b1, undef]; try rfl) ?_
    refine al_pureN 2 (by simp only [go_sem, ↓reduceIte, Nat.reduceLT, Nat.reduceEqDiff, Nat.reduceLeDiff, Nat.reduceAdd, Nat.reduceMul, Int.reduceLT, Int.reduceLE, Int.reduceToNat, BitVec.reduceOfInt, Nat.reduceBEq, b1]; try rfl) ?_
    refine al_end [1, 2, 3, 7, 8, 9, 10, 52] ?_
    refine awp_if rfl (fun _ => ?_) (fun h => by cases h)
    have z0 : (((0 : Nat) : Int) == 0) = true := rfl
    first | refine awp_seq (awp_lit ?_) | refine awp_lit ?_ | refine awp_seq (awp_seq (awp_lit ?_))
    refine al_pureN 2 (by simp only [go_sem, ↓reduceIte, Nat.reduceLT, Nat.reduceEqDiff, Nat.reduceLeDiff, Nat.reduceAdd, Nat.reduceMul, Int.reduceLT, Int.reduceLE, Int.reduceToNat, BitVec.reduceOfInt, Nat.reduceBEq, b1, b3, z0]; try rfl) ?_
    refine al_pureN 1 (by simp only [go_sem, ↓reduceIte, Nat.reduceLT, Nat.reduceEqDiff, Nat.reduceLeDiff, Nat.reduceAdd, Nat.reduceMul, Int.reduceLT, Int.reduceLE, Int.reduceToNat, BitVec.reduceOfInt, Nat.reduceBEq, b1, b3, z0]; try rfl) ?_
    refine al_pureN 1 (by simp only [go_sem, ↓reduceIte, Nat.reduceLT, Nat.reduceEqDiff, Nat.reduceLeDiff, Nat.reduceAdd, Nat.reduceMul, Int.reduceLT, Int.reduceLE, Int.reduceToNat, BitVec.reduceOfInt, Nat.reduceBEq, b1, b3, z0]; try rfl) ?_
    refine al_pureN 1 (by simp only [go_sem, ↓reduceIte, Nat.reduceLT, Nat.reduceEqDiff, Nat.reduceLeDiff, Nat.reduceAdd, Nat.reduceMul, Int.reduceLT, Int.reduceLE, Int.reduceToNat, BitVec.reduceOfInt, Nat.reduceBEq, b1, b3, z0]; try rfl) ?_
    refine al_pureN 1 (by simp only [go_sem, ↓reduceIte, Nat.reduceLT, Nat.reduceEqDiff, Nat.reduceLeDiff, Nat.reduceAdd, Nat.reduceMul, Int.reduceLT, Int.reduceLE, Int.reduceToNat, BitVec.reduceOfInt, Nat.reduceBEq, b1, b3, z0]; try rfl) ?_
    refine al_pureN 2 (by simp only [go_sem, ↓reduceIte, Nat.reduceLT, Nat.reduceEqDiff, Nat.reduceLeDiff, Nat.reduceAdd, Nat.reduceMul, Int.reduceLT, Int.reduceLE, Int.reduceToNat, BitVec.reduceOfInt, Nat.reduceBEq, b1, b3, z0]; try rfl) ?_
    refine al_pureN 1 (by simp only [go_sem, ↓reduceIte, Nat.reduceLT, Nat.reduceEqDiff, Nat.reduceLeDiff, Nat.reduceAdd, Nat.reduceMul, Int.reduceLT, Int.reduceLE, Int.reduceToNat, BitVec.reduceOfInt, Nat.reduceBEq, b1, b3, z0]; try rfl) ?_
    refine al_pureN 1 (by simp only [go_sem, ↓reduceIte, Nat.reduceLT, Nat.reduceEqDiff, Nat.reduceLeDiff, Nat.reduceAdd, Nat.reduceMul, Int.reduceLT, Int.reduceLE, Int.reduceToNat, BitVec.reduceOfInt, Nat.reduceBEq, b1, b3, z0]; try rfl) ?_
    refine al_pureN 1 (by simp only [go_sem, ↓reduceIte, Nat.reduceLT, Nat.reduceEqDiff, Nat.reduceLeDiff, Nat.reduceAdd, Nat.reduceMul, Int.reduceLT, Int.reduceLE, Int.reduceToNat, BitVec.reduceOfInt, Nat.reduceBEq, b1, b3, z0]; try rfl) ?_
    refine al_pureN 2 (by simp only [go_sem, ↓reduceIte, Nat.reduceLT, Nat.reduceEqDiff, Nat.reduceLeDiff, Nat.reduceAdd, Nat.reduceMul, Int.reduceLT, Int.reduceLE, Int.reduceToNat, BitVec.reduceOfInt, Nat.reduceBEq, b1, b3, z0]; try rfl) ?_
    refine al_pureN 1 (by simp only [go_sem, ↓reduceIte, Nat.reduceLT, Nat.reduceEqDiff, Nat.reduceLeDiff, Nat.reduceAdd, Nat.reduceMul, Int.reduceLT, Int.reduceLE, Int.reduceToNat, BitVec.reduceOfInt, Nat.reduceBEq, b1, b3, z0]; try rfl) ?_
    refine al_pureN 1 (by simp only [go_sem, ↓reduceIte, Nat.reduceLT, Nat.reduceEqDiff, Nat.reduceLeDiff, Nat.reduceAdd, Nat.reduceMul, Int.reduceLT, Int.reduceLE, Int.reduceToNat, BitVec.reduceOfInt, Nat.reduceBEq, b1, b3, z0]; try rfl) ?_
    refine al_pureN 1 (by simp only [go_sem, ↓reduceIte, Nat.reduceLT, Nat.reduceEqDiff, Nat.reduceLeDiff, Nat.reduceAdd, Nat.reduceMul, Int.reduceLT, Int.reduceLE, Int.reduceToNat, BitVec.reduceOfInt, Nat.reduceBEq, b1, b3, z0]; try rfl) ?_
    refine al_pureN 2 (by simp only [go_sem, ↓reduceIte, Nat.reduceLT, Nat.reduceEqDiff, Nat.reduceLeDiff, Nat.reduceAdd, Nat.reduceMul, Int.reduceLT, Int.reduceLE, Int.reduceToNat, BitVec.reduceOfInt, Nat.reduceBEq, b1, b3, z0]; try rfl) ?_
    refine al_end [6] ?_
    exact awp_ret ⟨_, rfl, rfl, hσ2, by omega⟩
end Go.Proofs.Ytfialjllclclkaa
