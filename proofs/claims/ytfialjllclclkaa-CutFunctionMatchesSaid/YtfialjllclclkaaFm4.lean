/- Joined texts of the layer and of the walks. -/
import Derived.Test.YtfialjllclclkaaFm3
import Derived.Test.YtfialjllclclkaaFm2
import Derived.Test.YtfialjllclclkaaFm1
import Derived.Test.YtfialjllclclkaaFmFxD
import Derived.Test.YtfialjllclclkaaProg
import Derived.KernelRfl
set_option maxHeartbeats 4000000
set_option linter.unusedSimpArgs false
set_option linter.unusedVariables false
namespace Go.Proofs.Ytfialjllclclkaa
open Go.Abs Go.Cut Go.Tab
attribute [local go_sem] Try.underlying26 Try.underlying66 Try.underlying69 Try.underlying3 Try.underlying22 Try.underlying23 Try.underlying24 Try.underlying35 Try.underlying37 Try.underlying43 Try.underlying45 Try.underlying47 Try.underlying5 Try.underlying4 Try.underlying30 Try.underlying76 size26 size66 size69 size3 size22 size23 size24 size35 size37 size43 size45 size47 size5 size4 size30 Nat.mul_one gt_iff_lt ge_iff_le au_add au_sub au_quo au_rem au_lt au_nl au_le au_ne au_bt au_bf au_nt au_nf au_tf au_ft au_wu au_wi undef
open Nat renaming reduceLT → xa, reduceEqDiff → xb, reduceLeDiff → xc, reduceAdd → xd, reduceMul → xe, reduceBEq → xj, add_assoc → ya, add_left_cancel_iff → yb, add_right_cancel_iff → yc, left_eq_add → yd, add_eq_left → ye, add_eq_right → yf, right_eq_add → yg, succ_ne_zero → yh
open Int renaming reduceLT → xf, reduceLE → xg, reduceToNat → xh
open BitVec renaming reduceOfInt → xi
def words (U : Nat → BitVec 64) (n : Nat) : List Value := (List.range n).map fun k => .int .u64 (U k).toNat
theorem words_len (U : Nat → BitVec 64) (n : Nat) : (words U n).length = n := by simp [words]
theorem words_get (U : Nat → BitVec 64) {n k : Nat} (h : k < n) : (words U n)[k]? = some (.int .u64 (U k).toNat) := by simp [words, h]
theorem words_flat (U : Nat → BitVec 64) (n : Nat) : (words U n).all flat = true := by simp [words, flat, flat0]
theorem words_set (U : Nat → BitVec 64) (n k : Nat) (t : BitVec 64) : (words U n).set k (.int .u64 t.toNat) = words (fun j => if j = k then t else U j) n := by
  apply List.ext_getElem?
  intro j
  by_cases hj : j < n
  · rw [words_get _ hj, List.getElem?_set]
    by_cases e : k = j
    · subst e; simp [words_len, hj]
    · rw [if_neg e, words_get _ hj, if_neg (fun h => e h.symm)]
  · rw [List.getElem?_eq_none (by rw [List.length_set, words_len]; omega), List.getElem?_eq_none (by rw [words_len]; omega)]
theorem words_zero (n : Nat) : zerosA (spread (.int .u64 0)) (n * 1) = words (fun _ => 0#64) n := by
  apply List.ext_getElem?
  intro j
  simp [zerosA, spread, words, Nat.mod_one]
theorem splice_words {U : Nat → BitVec 64} {n k : Nat} (t : BitVec 64) (h : k < n) : splice (words U n) k [.int .u64 t.toNat] = words (fun j => if j = k then t else U j) n := by
  rw [splice_one (by rw [words_len]; exact h), words_set]
theorem initU_snoc (n : Int) (m : Nat) (v : Int) : ∀ (l : List Int) (i : Nat) (U : Nat → BitVec 64), initU n m (l ++ [v]) i U = if v ≤ (m : Int) then (fun k => if k = v.toNat then varR ((i + l.length : Nat) : Int) n else initU n m l i U k) else initU n m l i U
  | [], i, U => by
    simp only [List.nil_append, initU, List.length_nil, Nat.add_zero]
  | w :: l, i, U => by
    rw [List.cons_append, initU, initU_snoc n m v l (i + 1), initU, List.length_cons, show i + 1 + l.length = i + (l.length + 1) by omega]
theorem lfGo_pos {n : Int} : ∀ {l : List Int} {last : Int}, 0 ≤ last → lfGo n last l = 0 → ∀ x ∈ l, 0 < x ∧ x < n
  | [], _, _, _ => by simp
  | v :: l, last, h0, h => by
    rw [lfGo] at h
    split at h
    · cases h
    · intro x hx
      rcases List.mem_cons.1 hx with rfl | hx
      · omega
      · exact lfGo_pos (by omega) h x hx
theorem leaf_pos {n node : Int} {l : List Int} (h : leafE n node l = 0) : ∀ x ∈ l, 0 < x ∧ x < n := by
  unfold leafE at h
  split at h
  · cases h
  · split at h
    · cases h
    · exact lfGo_pos (by omega) h
theorem Function_ok {g : AigD} {v lv : Value} {node : Int} {l : List Int} {N : Nat} {σ : AHeap} (hf : Few g) (hv : AigAt σ v g) (hl : SlAt σ lv (ints l)) :
    AOk Try.prog 19 [v, .int .i64 node, lv] N σ fun r N1 σ1 => r = .tuple #[.int .u64 (FunR g l node).1.toNat, .int .i64 (FunR g l node).2] ∧ σ.le σ1 ∧ N ≤ N1 := by
  have hol : ∀ l : List Int, (ints l).length = l.length := fun l => by simp [ints]
  obtain ⟨lb, lc, ab, ac, ob, oc, rfl, hls, has, hos⟩ := hv.opn
  have hf1 := hf.as
  have hf2 := hf.ls
  have hl0 := hl
  obtain ⟨sb, sc, rfl⟩ := hl.len
  rw [hol] at hl hl0 ⊢
  refine aok_fresh fun hN => aok_body (r := false) (n := 107) Try.func19 rfl rfl (by simp) ?_
  first | refine awp_seq (awp_lit ?_) | refine awp_lit ?_ | refine awp_seq (awp_seq (awp_lit ?_))
  refine al_boxA hN rfl rfl rfl (by simp (disch := omega) only [go_sem, ↓reduceIte, xa, xb, xc, xd, xe, xf, xg, xh, xi, xj]; try rfl) (fun σ0 hle hG hd1 _ => ?_)
  refine al_pureN 2 (by simp (disch := omega) only [go_sem, ↓reduceIte, xa, xb, xc, xd, xe, xf, xg, xh, xi, xj]; try rfl) ?_
  refine al_end [1, 2, 3] ?_
  first | refine awp_seq (awp_lit ?_) | refine awp_lit ?_ | refine awp_seq (awp_seq (awp_lit ?_))
  refine al_load rfl (by simp (disch := omega) only [go_sem, ↓reduceIte, xa, xb, xc, xd, xe, xf, xg, xh, xi, xj]) rfl (by simp (disch := omega) only [go_sem, ↓reduceIte, xa, xb, xc, xd, xe, xf, xg, xh, xi, xj]; try rfl) (by first | exact AHeap.set_self _ _ _ | (simp only [AHeap.set, ↓reduceIte, ya, xd, yb, yc, yd, ye, yf, yg, xb, yh]; rfl) | assumption) (by first | exact loadA_scalar agg26 rfl | exact loadA_agg agg26 rfl | exact loadA_scalar agg26 (by assumption)) ?_
  refine al_fun (open_ok hf (hls.mono hle) (has.mono hle) (hos.mono hle)) rfl (by simp (disch := omega) only [go_sem, ↓reduceIte, xa, xb, xc, xd, xe, xf, xg, xh, xi, xj]; try rfl) (by kernel_rfl) rfl (by simp (disch := omega) only [go_sem, ↓reduceIte, xa, xb, xc, xd, xe, xf, xg, xh, xi, xj]; try rfl) ?_
  rintro r N1 σ1 ⟨rfl, hN1, hle1⟩
  refine al_fresh fun hNs => ?_
  have hσ1 : σ.le σ1 := hle.trans hle1
  refine al_pureN 3 (by simp (disch := omega) only [go_sem, ↓reduceIte, xa, xb, xc, xd, xe, xf, xg, xh, xi, xj]; try rfl) ?_
  refine al_allocA hNs rfl rfl rfl ty66 (by decide) (fun σx hlex hX hdx hxe => ?_)
  refine al_store rfl (by simp (disch := omega) only [go_sem, ↓reduceIte, xa, xb, xc, xd, xe, xf, xg, xh, xi, xj]; try rfl) rfl (by simp (disch := omega) only [go_sem, ↓reduceIte, xa, xb, xc, xd, xe, xf, xg, xh, xi, xj]; try rfl) (by simp (disch := omega) only [go_sem, ↓reduceIte, xa, xb, xc, xd, xe, xf, xg, xh, xi, xj]; try rfl) hX rfl (by exact size66.trans rfl) (by rfl) (by exact Nat.le_of_ble_eq_true rfl) ?_
  refine al_pureN 1 (by simp (disch := omega) only [go_sem, ↓reduceIte, xa, xb, xc, xd, xe, xf, xg, xh, xi, xj]; try rfl) ?_
  refine al_end [1, 2, 8, 9] ?_
  rw [hxe, AHeap.set_set]
  show Abs.Seq _ _ _ _ _ _ _ _ (σ1.set N1 ⟨spread (graphV lb lc ab ac ob oc g (openF g)), true, .n 1⟩)
  have hle2 : σ1.le (σ1.set N1 ⟨spread (graphV lb lc ab ac ob oc g (openF g)), true, .n 1⟩) := le_new hNs (Nat.le_refl _)
  have hd2 := dom_set (b := ⟨spread (graphV lb lc ab ac ob oc g (openF g)), true, .n 1⟩) hNs
  have hG2 : (σ1.set N1 ⟨spread (graphV lb lc ab ac ob oc g (openF g)), true, .n 1⟩) N1 = some ⟨spread (graphV lb lc ab ac ob oc g (openF g)), true, .n 1⟩ := AHeap.set_self _ _ _
  obtain ⟨σ2, hσ2e⟩ : ∃ σ2, σ2 = (σ1.set N1 ⟨spread (graphV lb lc ab ac ob oc g (openF g)), true, .n 1⟩) := ⟨_, rfl⟩
  rw [← hσ2e] at hle2 hd2 hG2 ⊢
  have hσ2 := hσ1.trans hle2
  by_cases hc : chkE g = 0
  · have hV := valid_of hc
    have hinp := hV.inp
    have hsz := hV.size
    unfold sizeC firstC at hsz
    have hF : openF g = (((firstC g).toNat : Nat) : Int) := by rw [openF_valid hV hf, Int.toNat_of_nonneg (by unfold firstC; omega)]
    rw [hF] at hG2
    obtain ⟨f, hfd⟩ : ∃ f, f = (firstC g).toNat := ⟨_, rfl⟩
    have hff : firstC g = (f : Int) := by unfold firstC at hfd ⊢; omega
    have hfl : f ≤ 400000 := by unfold firstC at hff; omega
    have hchk : chkA f g.as = true := by have := hV.ands; rwa [hff] at this
    have hR : ConeR g l node = coneE f g.as l node := by simp [ConeR, hc, hfd]
    rw [← hfd] at hG2
    refine awp_seq ?_
    refine awp_seq (awp_pures [1, 2, 8, 9, 25] (by simp (disch := omega) only [go_sem, ↓reduceIte, xa, xb, xc, xd, xe, xf, xg, xh, xi, xj]; try rfl) ?_)
    refine awp_if rfl (fun h => by cases h) (fun _ => ?_)
    refine awp_skip ?_
    first | refine awp_seq (awp_lit ?_) | refine awp_lit ?_ | refine awp_seq (awp_seq (awp_lit ?_))
    refine al_load rfl (by simp (disch := omega) only [go_sem, ↓reduceIte, xa, xb, xc, xd, xe, xf, xg, xh, xi, xj]) rfl (by simp (disch := omega) only [go_sem, ↓reduceIte, xa, xb, xc, xd, xe, xf, xg, xh, xi, xj]; try rfl) hG2 (loadA_agg agg66 rfl) ?_
    refine al_pureN 2 (by simp (disch := omega) only [go_sem, ↓reduceIte, xa, xb, xc, xd, xe, xf, xg, xh, xi, xj]; try rfl) ?_
    refine al_fun (cone_ok (g := g) (f := f) (has.mono hσ2) (hl.mono hσ2) hfl (by omega) hchk) rfl (by simp (disch := omega) only [go_sem, ↓reduceIte, xa, xb, xc, xd, xe, xf, xg, xh, xi, xj]; try rfl) (by kernel_rfl) rfl (by simp (disch := omega) only [go_sem, ↓reduceIte, xa, xb, xc, xd, xe, xf, xg, xh, xi, xj]; try rfl) ?_
    rintro r N2 σ3 ⟨sv, rfl, hsv, hle3, hN2⟩
    refine al_fresh fun hd3 => ?_
    refine al_pureN 5 (by simp (disch := omega) only [go_sem, ↓reduceIte, xa, xb, xc, xd, xe, xf, xg, xh, xi, xj]; try rfl) ?_
    refine al_end [1, 2, 8, 9, 10] ?_
    have hσ3 := hσ2.trans hle3
    have hG3 := hle3 _ _ hG2
    by_cases he : (ConeR g l node).2 = 0
    · have hFR : FunR g l node = ((ConeR g l node).1.foldl (stepU (firstC g).toNat g.as l.length) (initU l.length node.toNat l 0 fun _ => 0#64) node.toNat, 0) := by unfold FunR; rw [if_pos he]
      have hmem := coneE_mem f g.as l node
      have hcle := coneE_le f g.as l node
      rw [hFR, ← hfd]
      rw [hR] at he ⊢
      rw [he]
      obtain ⟨hn0, hn1⟩ := coneE_node he
      have hlE : leafE ((f : Int) + g.as.length) node l = 0 := by
        unfold coneE at he
        split at he
        · assumption
        · rename_i h; exact absurd he h
      have hl4 := leafE_len hlE
      have hlp := leaf_pos hlE
      obtain ⟨m, rfl⟩ : ∃ m : Nat, node = m := ⟨node.toNat, by omega⟩
      obtain ⟨cl, hcl⟩ : ∃ cl, cl = (coneE f g.as l m).1 := ⟨_, rfl⟩
      rw [← hcl] at hsv hmem hcle ⊢
      obtain ⟨hmem, hcll⟩ := hmem
      rw [Int.toNat_natCast]
      refine awp_seq ?_
      refine awp_seq (awp_pures [1, 2, 8, 9, 10, 35] (by simp (disch := omega) only [go_sem, ↓reduceIte, xa, xb, xc, xd, xe, xf, xg, xh, xi, xj]; try rfl) ?_)
      refine awp_if rfl (fun h => by cases h) (fun _ => ?_)
      refine awp_skip ?_
      refine awp_seq (awp_pures [1, 2, 8, 10, 11] (by simp (disch := omega) only [go_sem, ↓reduceIte, xa, xb, xc, xd, xe, xf, xg, xh, xi, xj]; try rfl) ?_)
      first | refine awp_seq (awp_lit ?_) | refine awp_lit ?_ | refine awp_seq (awp_seq (awp_lit ?_))
      refine al_pureN 2 (by simp (disch := omega) only [go_sem, ↓reduceIte, xa, xb, xc, xd, xe, xf, xg, xh, xi, xj]; try rfl) ?_
      refine al_makeSlice (len := m + 1) rfl (by simp (disch := omega) only [go_sem, ↓reduceIte, xa, xb, xc, xd, xe, xf, xg, xh, xi, xj]; try rfl) rfl Try.underlying76 ty37 (by decide) rfl (by decide) (by simp (disch := omega) only [go_sem, ↓reduceIte, xa, xb, xc, xd, xe, xf, xg, xh, xi, xj]; try rfl) (by simp (disch := omega) only [go_sem, ↓reduceIte, xa, xb, xc, xd, xe, xf, xg, xh, xi, xj]; try rfl) (by omega) (by omega) ?_
      refine al_pureN 1 (by simp (disch := omega) only [go_sem, ↓reduceIte, xa, xb, xc, xd, xe, xf, xg, xh, xi, xj]; try rfl) ?_
      refine al_end [1, 2, 8, 10, 11, 12] ?_
      rw [words_zero]
      refine awp_seq ?_
      refine awp_seq (awp_pures [1, 8, 10, 11, 12, 42, 43, 44] (by simp (disch := omega) only [go_sem, ↓reduceIte, xa, xb, xc, xd, xe, xf, xg, xh, xi, xj]; try rfl) ?_)
      refine awp_block (awp_loop ?_)
      have hm1 : m ≤ 1000000 := by omega
      refine ALoop.cast3 (aloop_ind (α := Nat) (fun a => a ≤ l.length) (fun a => l.length - a)
        (fun a => [(1, .int .i64 m), (8, .pointer (some ⟨N1, 0, none⟩)), (10, sv), (11, .int .i64 l.length), (12, .slice (some ⟨N2, 0, none⟩) (m + 1) (m + 1)), (42, .slice sb l.length sc), (43, .int .i64 l.length), (44, .int .i64 a)]) (fun _ => N2 + 1)
        (fun a => σ3.set N2 ⟨words (initU l.length m (l.take a) 0 fun _ => 0#64) (m + 1), true, .n 1⟩) ?_ 0 (Nat.zero_le _)) rfl rfl rfl
      intro j hj ih
      have hle4 := fun c => le_new (b := ⟨words c (m + 1), true, .n 1⟩) hd3 (Nat.le_refl _)
      by_cases hlt : j < l.length
      · refine awp_seq (awp_pures [1, 8, 10, 11, 12, 42, 43, 44, 45] (by simp (disch := omega) only [go_sem, ↓reduceIte, xa, xb, xc, xd, xe, xf, xg, xh, xi, xj]; try rfl) ?_)
        refine awp_seq ?_
        refine awp_if rfl (fun _ => ?_) (fun h => by cases h)
        refine awp_skip ?_
        refine awp_seq (awp_block ?_)
        obtain ⟨id, off, cap, b, e1, e2, e3, e4⟩ := slAt_int (hl.mono (hσ3.trans (hle4 _))) hlt
        cases e1
        first | refine awp_seq (awp_lit ?_) | refine awp_lit ?_ | refine awp_seq (awp_seq (awp_lit ?_))
        refine al_pureN 2 (by simp (disch := omega) only [go_sem, ↓reduceIte, xa, xb, xc, xd, xe, xf, xg, xh, xi, xj]; try rfl) ?_
        refine al_load rfl (by simp (disch := omega) only [go_sem, ↓reduceIte, xa, xb, xc, xd, xe, xf, xg, xh, xi, xj]) rfl (by simp (disch := omega) only [go_sem, ↓reduceIte, xa, xb, xc, xd, xe, xf, xg, xh, xi, xj]; try rfl) e2 (loadA_scalar agg3 e3) ?_
        refine al_pureN 2 (by simp (disch := omega) only [go_sem, ↓reduceIte, xa, xb, xc, xd, xe, xf, xg, xh, xi, xj]; try rfl) ?_
        refine al_end [1, 8, 10, 11, 12, 13, 14, 42, 43, 44] ?_
        obtain ⟨x, hx⟩ : ∃ x, x = l[j] := ⟨_, rfl⟩
        obtain ⟨hx1, hx2⟩ := hlp x (hx ▸ List.getElem_mem hlt)
        have hsn := initU_snoc l.length m x (l.take j) 0 fun _ => 0#64
        rw [hx, ← take_snoc _ hlt, List.length_take, Nat.min_eq_left hj, Nat.zero_add] at hsn
        rw [← hx] at hsn ⊢
        by_cases hxm : x ≤ (m : Int)
        · rw [if_pos hxm] at hsn
          refine awp_seq (awp_pures [1, 8, 10, 11, 12, 13, 14, 42, 43, 44, 51] (by simp (disch := omega) only [go_sem, ↓reduceIte, xa, xb, xc, xd, xe, xf, xg, xh, xi, xj]; try rfl) ?_)
          refine awp_if rfl (fun _ => ?_) (fun h => by cases h)
          refine awp_lit ?_
          refine al_pureN 4 (by simp (disch := omega) only [go_sem, ↓reduceIte, xa, xb, xc, xd, xe, xf, xg, xh, xi, xj]; try rfl) ?_
          refine al_gives (vs := ?vs1) (v := ?v1) rfl ?ha1 ?hh1 (by kernel_rfl) rfl (by simp (disch := omega) only [go_sem, ↓reduceIte, xa, xb, xc, xd, xe, xf, xg, xh, xi, xj]) ?kk1
          case ha1 => simp (disch := omega) only [go_sem, ↓reduceIte, xa, xb, xc, xd, xe, xf, xg, xh, xi, xj]; try rfl
          case hh1 => exact Var_gives _ _ _ _
          refine al_pureN 1 (by simp (disch := omega) only [go_sem, ↓reduceIte, xa, xb, xc, xd, xe, xf, xg, xh, xi, xj]; try rfl) ?_
          refine al_store1 rfl (by simp (disch := omega) only [go_sem, ↓reduceIte, xa, xb, xc, xd, xe, xf, xg, xh, xi, xj]; try rfl) rfl (by simp (disch := omega) only [go_sem, ↓reduceIte, xa, xb, xc, xd, xe, xf, xg, xh, xi, xj]; try rfl) (by simp (disch := omega) only [go_sem, ↓reduceIte, xa, xb, xc, xd, xe, xf, xg, xh, xi, xj]; try rfl) (AHeap.set_self _ _ _) rfl size37 rfl rfl (by show x.toNat < (words _ _).length; rw [words_len]; omega) ?_
          refine al_end [1, 8, 10, 11, 12, 42, 43, 44] ?_
          refine awp_pures [1, 8, 10, 11, 12, 42, 43, 44] (by simp (disch := omega) only [go_sem, ↓reduceIte, xa, xb, xc, xd, xe, xf, xg, xh, xi, xj]; try rfl) ?_
          refine ALoop.cast3 (ih (j + 1) hlt (by omega)) rfl rfl ?_
          rw [AHeap.set_set, hsn]
          show σ3.set N2 ⟨(words _ (m + 1)).set x.toNat (.int .u64 _), true, .n 1⟩ = _
          rw [words_set]
        · rw [if_neg hxm] at hsn
          refine awp_seq (awp_pures [1, 8, 10, 11, 12, 13, 14, 42, 43, 44, 51] (by simp (disch := omega) only [go_sem, ↓reduceIte, xa, xb, xc, xd, xe, xf, xg, xh, xi, xj]; try rfl) ?_)
          refine awp_if rfl (fun h => by cases h) (fun _ => ?_)
          refine awp_skip ?_
          refine awp_pures [1, 8, 10, 11, 12, 42, 43, 44] (by simp (disch := omega) only [go_sem, ↓reduceIte, xa, xb, xc, xd, xe, xf, xg, xh, xi, xj]; try rfl) ?_
          refine ALoop.cast3 (ih (j + 1) hlt (by omega)) rfl rfl ?_
          rw [hsn]
      · have hjm : j = l.length := by omega
        refine awp_seq (awp_pures [1, 8, 10, 11, 12, 42, 43, 44, 45] (by simp (disch := omega) only [go_sem, ↓reduceIte, xa, xb, xc, xd, xe, xf, xg, xh, xi, xj]; try rfl) ?_)
        refine awp_seq ?_
        refine awp_if rfl (fun h => by cases h) (fun _ => ?_)
        refine awp_exit ?_
        simp only [Go.Abs.Seq, Go.Abs.Round, Go.Abs.InBlock, ↓reduceIte]
        rw [hjm, List.take_length]
        obtain ⟨U0, hU0⟩ : ∃ U0, U0 = initU l.length m l 0 fun _ => 0#64 := ⟨_, rfl⟩
        rw [← hU0]
        obtain ⟨cb, cc, rfl⟩ := hsv.lenV
        have hsv' := hsv.slAt
        refine awp_seq ?_
        refine awp_seq (awp_pures [1, 8, 11, 12, 59, 60, 61] (by simp (disch := omega) only [go_sem, ↓reduceIte, xa, xb, xc, xd, xe, xf, xg, xh, xi, xj]; try rfl) ?_)
        refine awp_block (awp_loop ?_)
        clear ih hj hjm hlt
        refine ALoop.cast3 (aloop_ind (α := Nat) (fun a => a ≤ cl.length) (fun a => cl.length - a)
          (fun a => [(1, .int .i64 m), (8, .pointer (some ⟨N1, 0, none⟩)), (11, .int .i64 l.length), (12, .slice (some ⟨N2, 0, none⟩) (m + 1) (m + 1)), (59, .slice cb cl.length cc), (60, .int .i64 cl.length), (61, .int .i64 a)]) (fun _ => N2 + 1)
          (fun a => σ3.set N2 ⟨words ((cl.take a).foldl (stepU f g.as l.length) U0) (m + 1), true, .n 1⟩) ?_ 0 (Nat.zero_le _)) rfl rfl rfl
        intro j hj ih
        by_cases hlt : j < cl.length
        · refine awp_seq (awp_pures [1, 8, 11, 12, 59, 60, 61, 62] (by simp (disch := omega) only [go_sem, ↓reduceIte, xa, xb, xc, xd, xe, xf, xg, xh, xi, xj]; try rfl) ?_)
          refine awp_seq ?_
          refine awp_if rfl (fun _ => ?_) (fun h => by cases h)
          refine awp_skip ?_
          refine awp_seq (awp_block ?_)
          obtain ⟨U, hU⟩ : ∃ U, U = (cl.take j).foldl (stepU f g.as l.length) U0 := ⟨_, rfl⟩
          have hsn : (cl.take (j + 1)).foldl (stepU f g.as l.length) U0 = stepU f g.as l.length U cl[j] := by rw [take_snoc _ hlt, List.foldl_append, ← hU]; rfl
          rw [← hU]
          obtain ⟨id, off, cap, b, e1, e2, e3, e4⟩ := slAt_int (hsv'.mono (hle4 _)) hlt
          cases e1
          first | refine awp_seq (awp_lit ?_) | refine awp_lit ?_ | refine awp_seq (awp_seq (awp_lit ?_))
          refine al_pureN 1 (by simp (disch := omega) only [go_sem, ↓reduceIte, xa, xb, xc, xd, xe, xf, xg, xh, xi, xj]; try rfl) ?_
          refine al_load rfl (by simp (disch := omega) only [go_sem, ↓reduceIte, xa, xb, xc, xd, xe, xf, xg, xh, xi, xj]) rfl (by simp (disch := omega) only [go_sem, ↓reduceIte, xa, xb, xc, xd, xe, xf, xg, xh, xi, xj]; try rfl) e2 (loadA_scalar agg3 e3) ?_
          refine al_pureN 1 (by simp (disch := omega) only [go_sem, ↓reduceIte, xa, xb, xc, xd, xe, xf, xg, xh, xi, xj]; try rfl) ?_
          refine al_end [1, 8, 11, 12, 16, 59, 60, 61] ?_
          have hxm := hmem _ (List.getElem_mem hlt)
          have hxl := hcle _ (List.getElem_mem hlt)
          obtain ⟨w, hw⟩ : ∃ w : Nat, cl[j] = w := ⟨cl[j].toNat, by omega⟩
          rw [hw] at hxm hxl hsn ⊢
          first | refine awp_seq (awp_lit ?_) | refine awp_lit ?_ | refine awp_seq (awp_seq (awp_lit ?_))
          refine al_pureN 3 (by simp (disch := omega) only [go_sem, ↓reduceIte, xa, xb, xc, xd, xe, xf, xg, xh, xi, xj]; try rfl) ?_
          refine al_gives (vs := ?vs2) (v := ?v2) rfl ?ha2 ?hh2 (by kernel_rfl) rfl (by simp (disch := omega) only [go_sem, ↓reduceIte, xa, xb, xc, xd, xe, xf, xg, xh, xi, xj]) ?kk2
          case ha2 => simp (disch := omega) only [go_sem, ↓reduceIte, xa, xb, xc, xd, xe, xf, xg, xh, xi, xj]; try rfl
          case hh2 => exact Mask_gives _ _ _
          refine al_pureN 1 (by simp (disch := omega) only [go_sem, ↓reduceIte, xa, xb, xc, xd, xe, xf, xg, xh, xi, xj]; try rfl) ?_
          refine al_store1 rfl (by simp (disch := omega) only [go_sem, ↓reduceIte, xa, xb, xc, xd, xe, xf, xg, xh, xi, xj]; try rfl) rfl (by simp (disch := omega) only [go_sem, ↓reduceIte, xa, xb, xc, xd, xe, xf, xg, xh, xi, xj]; try rfl) (by simp (disch := omega) only [go_sem, ↓reduceIte, xa, xb, xc, xd, xe, xf, xg, xh, xi, xj]; try rfl) (AHeap.set_self _ _ _) rfl size37 rfl rfl (by show w < (words _ _).length; rw [words_len]; omega) ?_
          refine al_end [1, 8, 11, 12, 16, 59, 60, 61] ?_
          rw [AHeap.set_set]
          show Abs.Seq _ _ _ _ _ _ _ _ (σ3.set N2 ⟨(words U (m + 1)).set w (.int .u64 (maskT (lim (l.length : Int))).toNat), true, .n 1⟩)
          rw [words_set]
          obtain ⟨q, hq⟩ : ∃ q, q = w - f := ⟨_, rfl⟩
          have hql : q < g.as.length := by omega
          have hqx : (w : Int) - (f : Int) = (q : Int) := by omega
          obtain ⟨b1, b2, b3, b4⟩ := chkA_get hchk hql
          have hgd : g.as.getD (w - f) (0, 0) = g.as[q] := by rw [← hq]; simp [List.getD, hql]
          have hst : stepU f g.as l.length U w = fun k => if k = w then litT U g.as[q].2 (litT U g.as[q].1 (maskT (lim (l.length : Int)))) else U k := by
            funext k; unfold stepU; rw [Int.toNat_natCast, hgd]
          rw [hst] at hsn
          first | refine awp_seq (awp_lit ?_) | refine awp_lit ?_ | refine awp_seq (awp_seq (awp_lit ?_))
          refine al_load rfl (by simp (disch := omega) only [go_sem, ↓reduceIte, xa, xb, xc, xd, xe, xf, xg, xh, xi, xj]) rfl (by simp (disch := omega) only [go_sem, ↓reduceIte, xa, xb, xc, xd, xe, xf, xg, xh, xi, xj]; try rfl) ((hle4 _) _ _ hG3) (loadA_agg agg66 rfl) ?_
          refine al_pureN 1 (by simp (disch := omega) only [go_sem, ↓reduceIte, xa, xb, xc, xd, xe, xf, xg, xh, xi, xj]; try rfl) ?_
          refine al_gives (vs := ?vs3) (v := ?v3) rfl ?ha3 ?hh3 (by kernel_rfl) rfl (by simp (disch := omega) only [go_sem, ↓reduceIte, xa, xb, xc, xd, xe, xf, xg, xh, xi, xj]) ?kk3
          case ha3 => simp (disch := omega) only [go_sem, ↓reduceIte, xa, xb, xc, xd, xe, xf, xg, xh, xi, xj]; try rfl
          case hh3 => exact operands_gives (has.mono (hσ3.trans (hle4 _))) hql hqx (by omega)
          refine al_pureN 1 (by simp (disch := omega) only [go_sem, ↓reduceIte, xa, xb, xc, xd, xe, xf, xg, xh, xi, xj]; try rfl) ?_
          refine al_end [1, 8, 11, 12, 16, 59, 60, 61, 72, 73] ?_
          obtain ⟨A, hAe⟩ : ∃ A, A = g.as[q].1 := ⟨_, rfl⟩
          obtain ⟨B, hBe⟩ : ∃ B, B = g.as[q].2 := ⟨_, rfl⟩
          rw [← hAe, ← hBe] at hsn ⊢
          rw [← hAe] at b1 b2
          rw [← hBe] at b3 b4
          refine awp_block (awp_loop ?_)
          refine ALoop.cast3 (aloop_ind (α := Nat × BitVec 64) (fun a => a.1 ≤ 2 ∧ litT U B (litT U A (maskT (lim (l.length : Int)))) = if a.1 = 0 then litT U B (litT U A a.2) else if a.1 = 1 then litT U B a.2 else a.2) (fun a => 2 - a.1)
            (fun a => [(1, .int .i64 m), (8, .pointer (some ⟨N1, 0, none⟩)), (11, .int .i64 l.length), (12, .slice (some ⟨N2, 0, none⟩) (m + 1) (m + 1)), (16, .int .i64 w), (59, .slice (some ⟨id, off, none⟩) cl.length cc), (60, .int .i64 cl.length), (61, .int .i64 j), (72, .agg #[.int .i64 A, .int .i64 B]), (73, .int .i64 a.1)]) (fun _ => N2 + 1)
            (fun a => σ3.set N2 ⟨words (fun k => if k = w then a.2 else U k) (m + 1), true, .n 1⟩) ?_ (0, maskT (lim (l.length : Int))) ⟨Nat.zero_le _, rfl⟩) rfl rfl rfl
          rintro ⟨i, t⟩ ⟨hi, ht⟩ ih2
          dsimp only at hi ht ih2 ⊢
          by_cases hi2 : i < 2
          · refine awp_seq (awp_pures [1, 8, 11, 12, 16, 59, 60, 61, 72, 73, 74] (by simp (disch := omega) only [go_sem, ↓reduceIte, xa, xb, xc, xd, xe, xf, xg, xh, xi, xj]; try rfl) ?_)
            refine awp_seq ?_
            refine awp_if rfl (fun _ => ?_) (fun h => by cases h)
            refine awp_skip ?_
            refine awp_seq (awp_block ?_)
            obtain ⟨x, hget, hx0, hx1, hnext⟩ : ∃ x, ([.int .i64 A, .int .i64 B] : List Value)[i]? = some (.int .i64 x) ∧ 0 ≤ x ∧ x < 2 * (w : Int) ∧ litT U B (litT U A (maskT (lim (l.length : Int)))) = if i + 1 = 0 then litT U B (litT U A (litT U x t)) else if i + 1 = 1 then litT U B (litT U x t) else litT U x t := by
              have h01 : i = 0 ∨ i = 1 := by omega
              rcases h01 with rfl | rfl
              · exact ⟨A, rfl, by omega, by omega, ht⟩
              · exact ⟨B, rfl, by omega, by omega, ht⟩
            refine awp_seq (awp_pures [1, 8, 11, 12, 16, 18, 59, 60, 61, 72, 73] (by simp (disch := omega) only [go_sem, ↓reduceIte, xa, xb, xc, xd, xe, xf, xg, xh, xi, xj, hget]; try rfl) ?_)
            have hx2 : (x / 2).toNat = x.toNat / 2 := by omega
            have gw : (words (fun k => if k = w then t else U k) (m + 1))[w]? = some (.int .u64 t.toNat) := by rw [words_get _ (by omega)]; simp
            have gx : (words (fun k => if k = w then t else U k) (m + 1))[(x / 2).toNat]? = some (.int .u64 (U (x.toNat / 2)).toNat) := by
              rw [hx2, words_get _ (by omega), if_neg (by omega)]
            have hww : (fun k => if k = w then litT U x t else if k = w then t else U k) = fun k => if k = w then litT U x t else U k := by funext k; split <;> rfl
            by_cases hodd : x % 2 = 1
            · have hlit : litT U x t = t &&& ~~~ U (x.toNat / 2) := by unfold litT; rw [if_pos hodd]
              refine awp_seq (awp_pures [1, 8, 11, 12, 16, 18, 59, 60, 61, 72, 73, 78] (by simp (disch := omega) only [go_sem, ↓reduceIte, xa, xb, xc, xd, xe, xf, xg, xh, xi, xj]; try rfl) ?_)
              refine awp_if rfl (fun _ => ?_) (fun h => by cases h)
              refine awp_wr [1, 8, 11, 12, 16, 59, 60, 61, 72, 73] (N2) [11] (by kernel_rfl) fun hNq => ?_
              refine tw_pures 3 (by simp (disch := omega) only [go_sem, ↓reduceIte, xa, xb, xc, xd, xe, xf, xg, xh, xi, xj]; try rfl) ?_
              refine tw_loadw hNq rfl (by simp (disch := omega) only [go_sem, ↓reduceIte, xa, xb, xc, xd, xe, xf, xg, xh, xi, xj]; try rfl) rfl (by simp (disch := omega) only [go_sem, ↓reduceIte, xa, xb, xc, xd, xe, xf, xg, xh, xi, xj]; try rfl) (AHeap.set_self _ _ _) ⟨_, rfl⟩ (by kernel_rfl) (loadA_scalar agg37 gw) ?_
              refine tw_pures 4 (by simp (disch := omega) only [go_sem, ↓reduceIte, xa, xb, xc, xd, xe, xf, xg, xh, xi, xj]; try rfl) ?_
              refine tw_loadw hNq rfl (by simp (disch := omega) only [go_sem, ↓reduceIte, xa, xb, xc, xd, xe, xf, xg, xh, xi, xj]; try rfl) rfl (by simp (disch := omega) only [go_sem, ↓reduceIte, xa, xb, xc, xd, xe, xf, xg, xh, xi, xj]; try rfl) (AHeap.set_self _ _ _) ⟨_, rfl⟩ (by kernel_rfl) (loadA_scalar agg37 gx) ?_
              refine tw_pures 2 (by simp (disch := omega) only [go_sem, ↓reduceIte, xa, xb, xc, xd, xe, xf, xg, xh, xi, xj]; try rfl) ?_
              refine tw_store hNq rfl (by simp (disch := omega) only [go_sem, ↓reduceIte, xa, xb, xc, xd, xe, xf, xg, xh, xi, xj]; try rfl) rfl (by simp (disch := omega) only [go_sem, ↓reduceIte, xa, xb, xc, xd, xe, xf, xg, xh, xi, xj]; try rfl) (by simp (disch := omega) only [go_sem, ↓reduceIte, xa, xb, xc, xd, xe, xf, xg, xh, xi, xj]; try rfl) (AHeap.set_self _ _ _) ⟨_, rfl⟩ rfl (by exact size37.trans rfl) rfl (by show w + 1 ≤ (words _ _).length; rw [words_len]; omega) (by decide) (.of_flat rfl) (blk_flat (words_flat _ _)) fun hNq => ?_
              refine tw_end ?_
              refine awp_pures [1, 8, 11, 12, 16, 59, 60, 61, 72, 73] (by simp (disch := omega) only [go_sem, ↓reduceIte, xa, xb, xc, xd, xe, xf, xg, xh, xi, xj]; try rfl) ?_
              refine ALoop.cast3 (ih2 (i + 1, litT U x t) ⟨hi2, hnext⟩ (by dsimp only; omega)) rfl rfl ?_
              rw [AHeap.set_set]
              show σ3.set N2 ⟨splice _ w [.int .u64 _], true, .n 1⟩ = _
              rw [splice_words _ (by omega), ← hlit, hww]
            · have hlit : litT U x t = t &&& U (x.toNat / 2) := by unfold litT; rw [if_neg hodd]
              refine awp_seq (awp_pures [1, 8, 11, 12, 16, 18, 59, 60, 61, 72, 73, 78] (by simp (disch := omega) only [go_sem, ↓reduceIte, xa, xb, xc, xd, xe, xf, xg, xh, xi, xj]; try rfl) ?_)
              refine awp_if rfl (fun h => by cases h) (fun _ => ?_)
              refine awp_wr [1, 8, 11, 12, 16, 59, 60, 61, 72, 73] (N2) [11] (by kernel_rfl) fun hNq => ?_
              refine tw_pures 3 (by simp (disch := omega) only [go_sem, ↓reduceIte, xa, xb, xc, xd, xe, xf, xg, xh, xi, xj]; try rfl) ?_
              refine tw_loadw hNq rfl (by simp (disch := omega) only [go_sem, ↓reduceIte, xa, xb, xc, xd, xe, xf, xg, xh, xi, xj]; try rfl) rfl (by simp (disch := omega) only [go_sem, ↓reduceIte, xa, xb, xc, xd, xe, xf, xg, xh, xi, xj]; try rfl) (AHeap.set_self _ _ _) ⟨_, rfl⟩ (by kernel_rfl) (loadA_scalar agg37 gw) ?_
              refine tw_pures 4 (by simp (disch := omega) only [go_sem, ↓reduceIte, xa, xb, xc, xd, xe, xf, xg, xh, xi, xj]; try rfl) ?_
              refine tw_loadw hNq rfl (by simp (disch := omega) only [go_sem, ↓reduceIte, xa, xb, xc, xd, xe, xf, xg, xh, xi, xj]; try rfl) rfl (by simp (disch := omega) only [go_sem, ↓reduceIte, xa, xb, xc, xd, xe, xf, xg, xh, xi, xj]; try rfl) (AHeap.set_self _ _ _) ⟨_, rfl⟩ (by kernel_rfl) (loadA_scalar agg37 gx) ?_
              refine tw_pures 2 (by simp (disch := omega) only [go_sem, ↓reduceIte, xa, xb, xc, xd, xe, xf, xg, xh, xi, xj]; try rfl) ?_
              refine tw_store hNq rfl (by simp (disch := omega) only [go_sem, ↓reduceIte, xa, xb, xc, xd, xe, xf, xg, xh, xi, xj]; try rfl) rfl (by simp (disch := omega) only [go_sem, ↓reduceIte, xa, xb, xc, xd, xe, xf, xg, xh, xi, xj]; try rfl) (by simp (disch := omega) only [go_sem, ↓reduceIte, xa, xb, xc, xd, xe, xf, xg, xh, xi, xj]; try rfl) (AHeap.set_self _ _ _) ⟨_, rfl⟩ rfl (by exact size37.trans rfl) rfl (by show w + 1 ≤ (words _ _).length; rw [words_len]; omega) (by decide) (.of_flat rfl) (blk_flat (words_flat _ _)) fun hNq => ?_
              refine tw_end ?_
              refine awp_pures [1, 8, 11, 12, 16, 59, 60, 61, 72, 73] (by simp (disch := omega) only [go_sem, ↓reduceIte, xa, xb, xc, xd, xe, xf, xg, xh, xi, xj]; try rfl) ?_
              refine ALoop.cast3 (ih2 (i + 1, litT U x t) ⟨hi2, hnext⟩ (by dsimp only; omega)) rfl rfl ?_
              rw [AHeap.set_set]
              show σ3.set N2 ⟨splice _ w [.int .u64 _], true, .n 1⟩ = _
              rw [splice_words _ (by omega), ← hlit, hww]
          · have hi3 : i = 2 := by omega
            subst hi3
            rw [if_neg (by omega), if_neg (by omega)] at ht
            refine awp_seq (awp_pures [1, 8, 11, 12, 16, 59, 60, 61, 72, 73, 74] (by simp (disch := omega) only [go_sem, ↓reduceIte, xa, xb, xc, xd, xe, xf, xg, xh, xi, xj]; try rfl) ?_)
            refine awp_seq ?_
            refine awp_if rfl (fun h => by cases h) (fun _ => ?_)
            refine awp_exit ?_
            simp only [Go.Abs.Seq, Go.Abs.Round, Go.Abs.InBlock, ↓reduceIte]
            refine awp_pures [1, 8, 11, 12, 59, 60, 61] (by simp (disch := omega) only [go_sem, ↓reduceIte, xa, xb, xc, xd, xe, xf, xg, xh, xi, xj]; try rfl) ?_
            refine ALoop.cast3 (ih (j + 1) hlt (by omega)) rfl rfl ?_
            rw [hsn, ht]
        · have hjm : j = cl.length := by omega
          refine awp_seq (awp_pures [1, 8, 11, 12, 59, 60, 61, 62] (by simp (disch := omega) only [go_sem, ↓reduceIte, xa, xb, xc, xd, xe, xf, xg, xh, xi, xj]; try rfl) ?_)
          refine awp_seq ?_
          refine awp_if rfl (fun h => by cases h) (fun _ => ?_)
          refine awp_exit ?_
          simp only [Go.Abs.Seq, Go.Abs.Round, Go.Abs.InBlock, ↓reduceIte]
          rw [hjm, List.take_length]
          have gm := words_get (cl.foldl (stepU f g.as l.length) U0) (show m < m + 1 by omega)
          first | refine awp_seq (awp_lit ?_) | refine awp_lit ?_ | refine awp_seq (awp_seq (awp_lit ?_))
          refine al_pureN 3 (by simp (disch := omega) only [go_sem, ↓reduceIte, xa, xb, xc, xd, xe, xf, xg, xh, xi, xj]; try rfl) ?_
          refine al_load rfl (by simp (disch := omega) only [go_sem, ↓reduceIte, xa, xb, xc, xd, xe, xf, xg, xh, xi, xj]) rfl (by simp (disch := omega) only [go_sem, ↓reduceIte, xa, xb, xc, xd, xe, xf, xg, xh, xi, xj]; try rfl) (AHeap.set_self _ _ _) (loadA_scalar agg37 gm) ?_
          refine al_pureN 2 (by simp (disch := omega) only [go_sem, ↓reduceIte, xa, xb, xc, xd, xe, xf, xg, xh, xi, xj]; try rfl) ?_
          refine al_end [6, 7] ?_
          exact awp_ret ⟨_, res_tt rfl rfl rfl, rfl, hσ3.trans (hle4 _), by omega⟩
    · have hFR : FunR g l node = (0#64, (ConeR g l node).2) := by unfold FunR; rw [if_neg he]
      rw [hFR]
      rw [hR] at he ⊢
      refine awp_seq ?_
      refine awp_seq (awp_pures [1, 2, 8, 9, 10, 35] (by simp (disch := omega) only [go_sem, ↓reduceIte, xa, xb, xc, xd, xe, xf, xg, xh, xi, xj]; try rfl) ?_)
      refine awp_if rfl (fun _ => ?_) (fun h => by cases h)
      refine awp_seq (awp_pures [6, 7] (by simp (disch := omega) only [go_sem, ↓reduceIte, xa, xb, xc, xd, xe, xf, xg, xh, xi, xj]; try rfl) ?_)
      exact awp_ret ⟨_, res_tt rfl rfl rfl, rfl, hσ3, by omega⟩
  · have hFR : FunR g l node = (0#64, chkE g) := by unfold FunR ConeR; rw [if_neg hc, if_neg hc]
    rw [hFR]
    refine awp_seq ?_
    refine awp_seq (awp_pures [1, 2, 8, 9, 25] (by simp (disch := omega) only [go_sem, ↓reduceIte, xa, xb, xc, xd, xe, xf, xg, xh, xi, xj]; try rfl) ?_)
    refine awp_if rfl (fun _ => ?_) (fun h => by cases h)
    refine awp_seq (awp_pures [6, 7] (by simp (disch := omega) only [go_sem, ↓reduceIte, xa, xb, xc, xd, xe, xf, xg, xh, xi, xj]; try rfl) ?_)
    exact awp_ret ⟨_, res_tt rfl rfl rfl, rfl, hσ2, by omega⟩
end Go.Proofs.Ytfialjllclclkaa

set_option maxHeartbeats 4000000
set_option linter.unusedSimpArgs false
set_option linter.unusedVariables false
namespace Go.Proofs.Ytfialjllclclkaa
open Go.Abs Go.Cut Go.Tab
attribute [local go_sem] eqA Try.underlying26 Try.underlying3 Try.underlying22 Try.underlying23 Try.underlying24 Try.underlying35 Try.underlying37 Try.underlying72 Try.underlying43 Try.underlying45 Try.underlying47 Try.underlying5 Try.underlying4 Try.underlying30 Try.underlying56 size26 size3 size22 size23 size24 size35 size37 size43 size45 size47 size5 size4 size30 Nat.mul_one gt_iff_lt ge_iff_le au_add au_sub au_quo au_rem au_lt au_nl au_le au_ne au_bt au_bf au_nt au_nf au_tf au_ft au_wu au_wi undef
open Nat renaming reduceLT → xa, reduceEqDiff → xb, reduceLeDiff → xc, reduceAdd → xd, reduceMul → xe, reduceBEq → xj, add_assoc → ya, add_left_cancel_iff → yb, add_right_cancel_iff → yc, left_eq_add → yd, add_eq_left → ye, add_eq_right → yf, right_eq_add → yg, succ_ne_zero → yh
open Int renaming reduceLT → xf, reduceLE → xg, reduceToNat → xh
open BitVec renaming reduceOfInt → xi
def boolL (l : List Bool) : List Value := l.map .bool
theorem boolL_bools (u : Nat → Bool) (n : Nat) : boolL ((List.range n).map u) = bools u n := by simp [boolL, bools]
theorem slAt_bool {σ : AHeap} {v : Value} {l : List Bool} (h : SlAt σ v (boolL l)) {j : Nat} (hj : j < l.length) :
    ∃ id off cap b, v = .slice (some ⟨id, off, none⟩) l.length cap ∧ σ id = some b ∧ b.cells[off + j]? = some (.bool l[j]) ∧ b.esz = .n 1 := by
  obtain ⟨id, off, cap, b, e1, e2, e3, e4⟩ := h.at (j := j) (by simpa [boolL] using hj)
  exact ⟨id, off, cap, b, by simpa [boolL] using e1, e2, by rw [e3]; simp [boolL], e4⟩
theorem Make_gives {l : List Bool} {v : Value} {N : Nat} {σ : AHeap} (hv : SlAt σ v (boolL l)) (hl : l.length ≤ 1000000) : Gives Try.prog 41 [v] N σ (.int .u64 (makeT l).toNat) := by
  have hol : (boolL l).length = l.length := by simp [boolL]
  obtain ⟨sb, sc, rfl⟩ := hv.len
  rw [hol] at hv ⊢
  refine gives_of rfl (aok_fresh fun hN => aok_body (r := false) (n := 21) Try.func41 rfl rfl (by simp) ?_)
  refine awp_seq (awp_pures [0] (by simp (disch := omega) only [go_sem, ↓reduceIte, xa, xb, xc, xd, xe, xf, xg, xh, xi, xj]; try rfl) ?_)
  refine awp_seq (awp_pures [0, 3] (by simp (disch := omega) only [go_sem, ↓reduceIte, xa, xb, xc, xd, xe, xf, xg, xh, xi, xj]; try rfl) ?_)
  refine awp_seq ?_
  refine awp_seq (awp_pures [0, 3, 4] (by simp (disch := omega) only [go_sem, ↓reduceIte, xa, xb, xc, xd, xe, xf, xg, xh, xi, xj]; try rfl) ?_)
  refine awp_block (awp_loop ?_)
  refine ALoop.cast3 (aloop_ind (α := Nat × BitVec 64) (fun a => a.1 ≤ l.length ∧ makeT l = makeGo (l.drop a.1) a.1 a.2) (fun a => l.length - a.1)
    (fun a => [(0, .slice sb l.length sc), (3, .int .u64 a.2.toNat), (4, .int .i64 a.1)]) (fun _ => N) (fun _ => σ) ?_ (0, 0#64) ⟨Nat.zero_le _, by simp [makeT]⟩) rfl rfl rfl
  rintro ⟨j, t⟩ ⟨hj, hgo⟩ ih
  dsimp only at hj hgo ih ⊢
  by_cases hlt : j < l.length
  · refine awp_seq ?_
    refine awp_seq (awp_pures [0, 3, 4, 8] (by simp (disch := omega) only [go_sem, ↓reduceIte, xa, xb, xc, xd, xe, xf, xg, xh, xi, xj]; try rfl) ?_)
    refine awp_if rfl (fun _ => ?_) (fun h => by cases h)
    refine awp_skip ?_
    refine awp_seq (awp_block ?_)
    obtain ⟨id, off, cap, b, e1, e2, e3, e4⟩ := slAt_bool hv hlt
    cases e1
    rw [List.drop_eq_getElem_cons hlt, makeGo] at hgo
    first | refine awp_seq (awp_lit ?_) | refine awp_lit ?_ | refine awp_seq (awp_seq (awp_lit ?_))
    refine al_pureN 3 (by simp (disch := omega) only [go_sem, ↓reduceIte, xa, xb, xc, xd, xe, xf, xg, xh, xi, xj]; try rfl) ?_
    refine al_load rfl (by simp (disch := omega) only [go_sem, ↓reduceIte, xa, xb, xc, xd, xe, xf, xg, xh, xi, xj]) rfl (by simp (disch := omega) only [go_sem, ↓reduceIte, xa, xb, xc, xd, xe, xf, xg, xh, xi, xj]; try rfl) e2 (loadA_scalar agg4 e3) ?_
    refine al_end [0, 3, 4, 14] ?_
    cases hb : l[j] with
    | true =>
      rw [hb, if_pos rfl] at hgo
      refine awp_if rfl (fun _ => ?_) (fun h => by cases h)
      refine awp_pures [0, 3, 4] (by simp (disch := omega) only [go_sem, ↓reduceIte, xa, xb, xc, xd, xe, xf, xg, xh, xi, xj]; try rfl) ?_
      refine awp_pures [0, 3, 4] (by simp (disch := omega) only [go_sem, ↓reduceIte, xa, xb, xc, xd, xe, xf, xg, xh, xi, xj]; try rfl) ?_
      exact ALoop.cast3 (ih (j + 1, t ||| (1#64 <<< j)) ⟨hlt, hgo⟩ (by dsimp only; omega)) rfl rfl rfl
    | false =>
      rw [hb, if_neg (by simp)] at hgo
      refine awp_if rfl (fun h => by cases h) (fun _ => ?_)
      refine awp_skip ?_
      refine awp_pures [0, 3, 4] (by simp (disch := omega) only [go_sem, ↓reduceIte, xa, xb, xc, xd, xe, xf, xg, xh, xi, xj]; try rfl) ?_
      exact ALoop.cast3 (ih (j + 1, t) ⟨hlt, hgo⟩ (by dsimp only; omega)) rfl rfl rfl
  · have hjm : j = l.length := by omega
    rw [hjm, List.drop_length, makeGo] at hgo
    refine awp_seq ?_
    refine awp_seq (awp_pures [0, 3, 4, 8] (by simp (disch := omega) only [go_sem, ↓reduceIte, xa, xb, xc, xd, xe, xf, xg, xh, xi, xj]; try rfl) ?_)
    refine awp_if rfl (fun h => by cases h) (fun _ => ?_)
    refine awp_exit ?_
    simp only [Go.Abs.Seq, Go.Abs.Round, Go.Abs.InBlock, ↓reduceIte]
    refine awp_seq (awp_pures [2] (by simp (disch := omega) only [go_sem, ↓reduceIte, xa, xb, xc, xd, xe, xf, xg, xh, xi, xj]; try rfl) ?_)
    exact awp_ret ⟨_, rfl, by rw [hgo]; rfl, AHeap.le_refl _⟩
theorem bools_put (u : Nat → Bool) (n k : Nat) (b : Bool) : (bools u n).set k (.bool b) = bools (fun j => if j = k then b else u j) n := by
  apply List.ext_getElem?
  intro j
  by_cases hj : j < n
  · rw [bools_get _ hj, List.getElem?_set]
    by_cases e : k = j
    · subst e; simp [bools_len, hj]
    · rw [if_neg e, bools_get _ hj, if_neg (fun h => e h.symm)]
  · rw [List.getElem?_eq_none (by rw [List.length_set, bools_len]; omega), List.getElem?_eq_none (by rw [bools_len]; omega)]
theorem splice_boolv {u : Nat → Bool} {n k : Nat} (b : Bool) (h : k < n) : splice (bools u n) k [.bool b] = bools (fun j => if j = k then b else u j) n := by
  rw [splice_one (by rw [bools_len]; exact h), bools_put]
theorem initV_snoc (k : Nat) (v : Int) : ∀ (l : List Int) (i : Nat) (V : Nat → Bool), initV k (l ++ [v]) i V = fun j => if j = v.toNat then k.testBit (i + l.length) else initV k l i V j
  | [], i, V => by simp only [List.nil_append, initV, List.length_nil, Nat.add_zero]
  | w :: l, i, V => by rw [List.cons_append, initV, initV_snoc k v l (i + 1), initV, List.length_cons, show i + 1 + l.length = i + (l.length + 1) by omega]
theorem shl1 {n : Nat} (h : n ≤ 62) : shiftA .shl .i64 1 (n : Int) = some (.int .i64 ((2 ^ n : Nat) : Int)) := by
  have h2 : 2 ^ n ≤ 2 ^ 62 := Nat.pow_le_pow_right (by decide) h
  have := i64_shl (a := 1) (i := (n : Int)) (by omega) (by rw [Int.toNat_natCast]; omega) (by omega)
  rw [Int.toNat_natCast, Nat.one_mul] at this
  exact this
theorem bitk (k i : Nat) : ((((k >>> i &&& 1 : Nat)) : Int) == 1) = k.testBit i := by
  rw [Nat.testBit_eq_decide_div_mod_eq, Nat.and_one_is_mod, Nat.shiftRight_eq_div_pow, Bool.eq_iff_iff, beq_iff_eq, decide_eq_true_eq]
  omega
theorem and_bit (k j : Nat) (hk : k < 9223372036854775808) : (IntKind.i64.wrap (((BitVec.ofInt 64 ((k >>> j : Nat) : Int) &&& 1#64).toNat : Nat) : Int) == 1) = k.testBit j := by
  have h := i64_and (a := k >>> j) (b := 1) (Nat.lt_of_le_of_lt (Nat.shiftRight_le k j) hk) (by omega)
  have h2 : IntKind.i64.wrap (((BitVec.ofInt 64 ((k >>> j : Nat) : Int) &&& 1#64).toNat : Nat) : Int) = ((k >>> j &&& 1 : Nat) : Int) := by
    have h3 := h
    simp only [intA] at h3
    injection h3 with h3
    injection h3
  rw [h2, bitk]
theorem pow_le4 {n : Nat} (h : n ≤ 4) : 2 ^ n ≤ 16 := Nat.pow_le_pow_right (n := 2) (by decide) h
theorem rFunction_ok {g : AigD} {v lv : Value} {node : Int} {l : List Int} {N : Nat} {σ : AHeap} (hv : AigAt σ v g) (hl : SlAt σ lv (ints l)) (hfew : Few g) :
    AOk Try.prog 16 [v, .int .i64 node, lv] N σ fun r N1 σ1 => r = .tuple #[.int .u64 (FunQ g l node).1.toNat, .int .i64 (FunQ g l node).2] ∧ σ.le σ1 ∧ N ≤ N1 := by
  have hv0 := hv
  have hl0 := hl
  have hol : ∀ l : List Int, (ints l).length = l.length := fun l => by simp [ints]
  obtain ⟨lb, lc, ab, ac, ob, oc, rfl, hls, has, hos⟩ := hv.opn
  obtain ⟨sb, sc, rfl⟩ := hl.len
  rw [hol] at hl hl0 ⊢
  refine aok_fresh fun hN => aok_body (r := false) (n := 107) Try.func16 rfl rfl (by simp) ?_
  first | refine awp_seq (awp_lit ?_) | refine awp_lit ?_ | refine awp_seq (awp_seq (awp_lit ?_))
  refine al_boxA hN rfl rfl rfl (by simp (disch := omega) only [go_sem, ↓reduceIte, xa, xb, xc, xd, xe, xf, xg, xh, xi, xj]; try rfl) (fun σ1 hτ hG hd1 _ => ?_)
  refine al_pureN 2 (by simp (disch := omega) only [go_sem, ↓reduceIte, xa, xb, xc, xd, xe, xf, xg, xh, xi, xj]; try rfl) ?_
  refine al_end [1, 2, 3] ?_
  first | refine awp_seq (awp_lit ?_) | refine awp_lit ?_ | refine awp_seq (awp_seq (awp_lit ?_))
  refine al_load rfl (by simp (disch := omega) only [go_sem, ↓reduceIte, xa, xb, xc, xd, xe, xf, xg, xh, xi, xj]) rfl (by simp (disch := omega) only [go_sem, ↓reduceIte, xa, xb, xc, xd, xe, xf, xg, xh, xi, xj]; try rfl) (by first | exact AHeap.set_self _ _ _ | (simp only [AHeap.set, ↓reduceIte, ya, xd, yb, yc, yd, ye, yf, yg, xb, yh]; rfl) | assumption) (by first | exact loadA_scalar agg26 rfl | exact loadA_agg agg26 rfl | exact loadA_scalar agg26 (by assumption)) ?_
  refine al_pureN 2 (by simp (disch := omega) only [go_sem, ↓reduceIte, xa, xb, xc, xd, xe, xf, xg, xh, xi, xj]; try rfl) ?_
  refine al_fun (rCone_ok (hv0.mono hτ) (hl0.mono hτ) hfew) rfl (by simp (disch := omega) only [go_sem, ↓reduceIte, xa, xb, xc, xd, xe, xf, xg, xh, xi, xj]; try rfl) (by kernel_rfl) rfl (by simp (disch := omega) only [go_sem, ↓reduceIte, xa, xb, xc, xd, xe, xf, xg, xh, xi, xj]; try rfl) ?_
  rintro r N2 σ2 ⟨sv, rfl, hsv, hle2, hN2⟩
  refine al_fresh fun hd2 => ?_
  refine al_pureN 5 (by simp (disch := omega) only [go_sem, ↓reduceIte, xa, xb, xc, xd, xe, xf, xg, xh, xi, xj]; try rfl) ?_
  refine al_end [1, 2, 3, 8, 9] ?_
  have hσ2 := hτ.trans hle2
  have hG2 := hle2 _ _ hG
  by_cases he : (ConeR g l node).2 = 0
  · have hFR : FunQ g l node = (tabB l.length fun k => valV g l (ConeR g l node).1 k node.toNat, 0) := by unfold FunQ; rw [if_pos he]
    have hc : chkE g = 0 := by
      by_cases hc : chkE g = 0
      · exact hc
      · exact absurd (by unfold ConeR at he; rw [if_neg hc] at he; exact he) hc
    have hV := valid_of hc
    have hinp := hV.inp
    have hsz := hV.size
    have hinpB : g.inp ≤ 4096 := by unfold sizeC firstC at hsz; omega
    obtain ⟨f, hfd⟩ : ∃ f, f = (firstC g).toNat := ⟨_, rfl⟩
    have hF : firstC g = (f : Int) := by unfold firstC at hfd ⊢; omega
    have hnn : sizeC g = ((f + g.as.length : Nat) : Int) := by unfold sizeC; rw [hF]; omega
    have hchk : chkA f g.as = true := by have := hV.ands; rwa [hF] at this
    obtain ⟨n, hn⟩ : ∃ n, n = f + g.as.length := ⟨_, rfl⟩
    rw [← hn] at hnn
    have hR : ConeR g l node = coneE f g.as l node := by simp [ConeR, hc, hfd]
    have hlE : leafE (sizeC g) node l = 0 := by
      rw [hR] at he
      have hs : sizeC g = (f : Int) + g.as.length := by omega
      unfold coneE at he
      split at he
      · rename_i h; rw [hs]; exact h
      · rename_i h; exact absurd he h
    have hl4 := leafE_len hlE
    have hp4 := pow_le4 hl4
    have hlp := leaf_pos hlE
    obtain ⟨hn0, hn1⟩ := leafE_node hlE
    obtain ⟨m, rfl⟩ : ∃ m : Nat, node = m := ⟨node.toNat, by omega⟩
    obtain ⟨cl, hcl⟩ : ∃ cl, cl = (ConeR g l m).1 := ⟨_, rfl⟩
    have hmem := coneE_mem f g.as l m
    rw [hFR, he]
    rw [← hR, ← hcl] at hmem
    rw [← hcl] at hsv ⊢
    obtain ⟨hmem, hcll⟩ := hmem
    rw [Int.toNat_natCast]
    obtain ⟨cb, cc, rfl⟩ := hsv.lenV
    have hsv' := hsv.slAt
    have hmn : m < n := by omega
    have hn4 : n ≤ 4096 := by omega
    refine awp_seq ?_
    refine awp_seq (awp_pures [1, 2, 3, 8, 9, 25] (by simp (disch := omega) only [go_sem, ↓reduceIte, xa, xb, xc, xd, xe, xf, xg, xh, xi, xj]; try rfl) ?_)
    refine awp_if rfl (fun h => by cases h) (fun _ => ?_)
    refine awp_skip ?_
    refine awp_seq (awp_pures [1, 2, 3, 8, 10] (by simp (disch := omega) only [go_sem, ↓reduceIte, xa, xb, xc, xd, xe, xf, xg, xh, xi, xj]; try rfl) ?_)
    refine awp_seq ?_
    refine awp_seq (awp_pures [1, 2, 3, 8, 10, 11] (by simp (disch := omega) only [go_sem, ↓reduceIte, xa, xb, xc, xd, xe, xf, xg, xh, xi, xj]; try rfl) ?_)
    refine awp_block (awp_loop ?_)
    refine ALoop.cast3 (aloop_ind (α := Nat × Nat × AHeap × Value) (fun a => a.1 ≤ 2 ^ l.length ∧ N2 ≤ a.2.1 ∧ OwnAt a.2.2.1 N2 a.2.2.2 (bools (fun k => valV g l cl k m) a.1) a.1 1 ∧ σ2.le a.2.2.1 ∧ (∀ i b, a.2.2.1 i = some b → i < a.2.1)) (fun a => 2 ^ l.length - a.1)
      (fun a => [(1, .int .i64 m), (2, .slice sb l.length sc), (3, .pointer (some ⟨N, 0, none⟩)), (8, .slice cb cl.length cc), (10, a.2.2.2), (11, .int .i64 a.1)]) (fun a => a.2.1) (fun a => a.2.2.1) ?_
      (0, N2, σ2, .slice none 0 0) ⟨Nat.zero_le _, Nat.le_refl _, .nil, AHeap.le_refl _, hd2⟩) rfl rfl rfl
    rintro ⟨k, M, τ, ov⟩ ⟨hk, hM, hov, hτ2, hdM⟩ ih
    dsimp only at hk hM hov hτ2 hdM ih ⊢
    have hστ := hσ2.trans hτ2
    have hG3 := hτ2 _ _ hG2
    have hsl := shl1 (n := l.length) (by omega)
    by_cases hlt : k < 2 ^ l.length
    · have hltI : (k : Int) < ((2 ^ l.length : Nat) : Int) := by omega
      refine awp_seq ?_
      refine awp_seq (awp_pures [1, 2, 3, 8, 10, 11, 32] (by simp (disch := omega) only [go_sem, ↓reduceIte, xa, xb, xc, xd, xe, xf, xg, xh, xi, xj, hsl]; try rfl) ?_)
      refine awp_if rfl (fun _ => ?_) (fun h => by cases h)
      refine awp_skip ?_
      refine awp_seq (awp_block ?_)
      first | refine awp_seq (awp_lit ?_) | refine awp_lit ?_ | refine awp_seq (awp_seq (awp_lit ?_))
      refine al_load rfl (by simp (disch := omega) only [go_sem, ↓reduceIte, xa, xb, xc, xd, xe, xf, xg, xh, xi, xj, hnn]) rfl (by simp (disch := omega) only [go_sem, ↓reduceIte, xa, xb, xc, xd, xe, xf, xg, xh, xi, xj, hnn]; try rfl) (by first | exact AHeap.set_self _ _ _ | (simp only [AHeap.set, ↓reduceIte, ya, xd, yb, yc, yd, ye, yf, yg, xb, yh, hnn]; rfl) | assumption) (by first | exact loadA_scalar agg26 rfl | exact loadA_agg agg26 rfl | exact loadA_scalar agg26 (by assumption)) ?_
      refine al_gives (vs := ?vs1) (v := ?v1) rfl ?ha1 ?hh1 (by kernel_rfl) rfl (by simp (disch := omega) only [go_sem, ↓reduceIte, xa, xb, xc, xd, xe, xf, xg, xh, xi, xj, hnn]) ?kk1
      case ha1 => simp (disch := omega) only [go_sem, ↓reduceIte, xa, xb, xc, xd, xe, xf, xg, xh, xi, xj, hnn]; try rfl
      case hh1 => exact nodes_gives (hv0.mono hστ) hfew (by omega) (by omega)
      refine al_makeSlice (len := n) rfl (by simp (disch := omega) only [go_sem, ↓reduceIte, xa, xb, xc, xd, xe, xf, xg, xh, xi, xj, hnn]; try rfl) rfl Try.underlying56 ty4 (by decide) rfl (by decide) (by simp (disch := omega) only [go_sem, ↓reduceIte, xa, xb, xc, xd, xe, xf, xg, xh, xi, xj, hnn]; try rfl) (by simp (disch := omega) only [go_sem, ↓reduceIte, xa, xb, xc, xd, xe, xf, xg, xh, xi, xj, hnn]; try rfl) (by omega) (by omega) ?_
      refine al_pureN 1 (by simp (disch := omega) only [go_sem, ↓reduceIte, xa, xb, xc, xd, xe, xf, xg, xh, xi, xj, hnn]; try rfl) ?_
      refine al_end [1, 2, 3, 8, 10, 11, 12] ?_
      rw [bools_zero]
      have hleM := fun c => le_new (b := ⟨bools c n, true, .n 1⟩) hdM (Nat.le_refl _)
      refine awp_seq ?_
      refine awp_seq (awp_pures [1, 2, 3, 8, 10, 11, 12, 13] (by simp (disch := omega) only [go_sem, ↓reduceIte, xa, xb, xc, xd, xe, xf, xg, xh, xi, xj]; try rfl) ?_)
      refine awp_block (awp_loop ?_)
      refine ALoop.cast3 (aloop_ind (α := Nat) (fun a => a ≤ l.length) (fun a => l.length - a)
        (fun a => [(1, .int .i64 m), (2, .slice sb l.length sc), (3, .pointer (some ⟨N, 0, none⟩)), (8, .slice cb cl.length cc), (10, ov), (11, .int .i64 k), (12, .slice (some ⟨M, 0, none⟩) n n), (13, .int .i64 a)]) (fun a => M + 1)
        (fun a => τ.set M ⟨bools (initV k (l.take a) 0 fun _ => false) n, true, .n 1⟩) ?_ 0 (Nat.zero_le _)) rfl rfl rfl
      intro j hj ih2
      by_cases hlt2 : j < l.length
      · refine awp_seq ?_
        refine awp_seq (awp_pures [1, 2, 3, 8, 10, 11, 12, 13, 41] (by simp (disch := omega) only [go_sem, ↓reduceIte, xa, xb, xc, xd, xe, xf, xg, xh, xi, xj]; try rfl) ?_)
        refine awp_if rfl (fun _ => ?_) (fun h => by cases h)
        refine awp_skip ?_
        refine awp_seq (awp_block ?_)
        obtain ⟨id, off, cap, b, e1, e2, e3, e4⟩ := slAt_int (hl.mono (hστ.trans (hleM _))) hlt2
        cases e1
        obtain ⟨x, hx⟩ : ∃ x, x = l[j] := ⟨_, rfl⟩
        obtain ⟨hx1, hx2⟩ := hlp x (hx ▸ List.getElem_mem hlt2)
        have hsn := initV_snoc k x (l.take j) 0 fun _ => false
        rw [hx, ← take_snoc _ hlt2, List.length_take, Nat.min_eq_left hj, Nat.zero_add] at hsn
        rw [← hx] at hsn e3
        have hsr := i64_shr (a := k) (i := (j : Int)) (by omega) (by omega)
        refine awp_lit ?_
        refine al_pureN 4 (by simp (disch := omega) only [go_sem, ↓reduceIte, xa, xb, xc, xd, xe, xf, xg, xh, xi, xj, hsr]; try rfl) ?_
        refine al_load rfl (by simp (disch := omega) only [go_sem, ↓reduceIte, xa, xb, xc, xd, xe, xf, xg, xh, xi, xj, hsr]) rfl (by simp (disch := omega) only [go_sem, ↓reduceIte, xa, xb, xc, xd, xe, xf, xg, xh, xi, xj, hsr]; try rfl) e2 (loadA_scalar agg3 e3) ?_
        refine al_pureN 6 (by simp (disch := omega) only [go_sem, ↓reduceIte, xa, xb, xc, xd, xe, xf, xg, xh, xi, xj, hsr]; try rfl) ?_
        refine al_pureN 1 (by simp (disch := omega) only [go_sem, ↓reduceIte, xa, xb, xc, xd, xe, xf, xg, xh, xi, xj, hsr]; try rfl) ?_
        refine al_store1 rfl (by simp (disch := omega) only [go_sem, ↓reduceIte, xa, xb, xc, xd, xe, xf, xg, xh, xi, xj, hsr]; try rfl) rfl (by simp (disch := omega) only [go_sem, ↓reduceIte, xa, xb, xc, xd, xe, xf, xg, xh, xi, xj, hsr]; try rfl) (by simp (disch := omega) only [go_sem, ↓reduceIte, xa, xb, xc, xd, xe, xf, xg, xh, xi, xj, hsr]; try rfl) (AHeap.set_self _ _ _) rfl size4 rfl rfl (by show x.toNat < (bools _ _).length; rw [bools_len]; omega) ?_
        refine al_end [1, 2, 3, 8, 10, 11, 12, 13] ?_
        refine awp_pures [1, 2, 3, 8, 10, 11, 12, 13] (by simp (disch := omega) only [go_sem, ↓reduceIte, xa, xb, xc, xd, xe, xf, xg, xh, xi, xj]; try rfl) ?_
        refine ALoop.cast3 (ih2 (j + 1) hlt2 (by omega)) rfl rfl ?_
        rw [AHeap.set_set, hsn]
        show τ.set M ⟨(bools _ n).set x.toNat (.bool (IntKind.i64.wrap (((BitVec.ofInt 64 ((k >>> j : Nat) : Int) &&& 1#64).toNat : Nat) : Int) == 1)), true, .n 1⟩ = _
        rw [and_bit k j (by omega), bools_put]
      · have hjm : j = l.length := by omega
        refine awp_seq ?_
        refine awp_seq (awp_pures [1, 2, 3, 8, 10, 11, 12, 13, 41] (by simp (disch := omega) only [go_sem, ↓reduceIte, xa, xb, xc, xd, xe, xf, xg, xh, xi, xj]; try rfl) ?_)
        refine awp_if rfl (fun h => by cases h) (fun _ => ?_)
        refine awp_exit ?_
        simp only [Go.Abs.Seq, Go.Abs.Round, Go.Abs.InBlock, ↓reduceIte]
        rw [hjm, List.take_length]
        clear ih2 hj hjm hlt2
        obtain ⟨V0, hV0⟩ : ∃ V0, V0 = initV k l 0 fun _ => false := ⟨_, rfl⟩
        have hval : valV g l cl k = cl.foldl (stepV f g.as) V0 := by unfold valV; rw [← hfd, hV0]
        rw [← hV0]
        refine awp_seq ?_
        refine awp_seq (awp_pures [1, 2, 3, 8, 10, 11, 12, 56, 57, 58] (by simp (disch := omega) only [go_sem, ↓reduceIte, xa, xb, xc, xd, xe, xf, xg, xh, xi, xj]; try rfl) ?_)
        refine awp_block (awp_loop ?_)
        refine ALoop.cast3 (aloop_ind (α := Nat × Nat) (fun a => a.1 ≤ cl.length ∧ M + 1 ≤ a.2) (fun a => cl.length - a.1)
          (fun a => [(1, .int .i64 m), (2, .slice sb l.length sc), (3, .pointer (some ⟨N, 0, none⟩)), (8, .slice cb cl.length cc), (10, ov), (11, .int .i64 k), (12, .slice (some ⟨M, 0, none⟩) n n), (56, .slice cb cl.length cc), (57, .int .i64 cl.length), (58, .int .i64 a.1)]) (fun a => a.2)
          (fun a => τ.set M ⟨bools ((cl.take a.1).foldl (stepV f g.as) V0) n, true, .n 1⟩) ?_ (0, M + 1) ⟨Nat.zero_le _, Nat.le_refl _⟩) rfl rfl rfl
        rintro ⟨j, M2⟩ ⟨hj, hM2⟩ ih2
        dsimp only at hj hM2 ih2 ⊢
        by_cases hlt2 : j < cl.length
        · refine awp_seq (awp_pures [1, 2, 3, 8, 10, 11, 12, 56, 57, 58, 59] (by simp (disch := omega) only [go_sem, ↓reduceIte, xa, xb, xc, xd, xe, xf, xg, xh, xi, xj]; try rfl) ?_)
          refine awp_seq ?_
          refine awp_if rfl (fun _ => ?_) (fun h => by cases h)
          refine awp_skip ?_
          refine awp_seq (awp_block ?_)
          obtain ⟨V, hV⟩ : ∃ V, V = (cl.take j).foldl (stepV f g.as) V0 := ⟨_, rfl⟩
          have hsn : (cl.take (j + 1)).foldl (stepV f g.as) V0 = stepV f g.as V cl[j] := by rw [take_snoc _ hlt2, List.foldl_append, ← hV]; rfl
          rw [← hV]
          obtain ⟨id, off, cap, b, e1, e2, e3, e4⟩ := slAt_int (hsv'.mono (hτ2.trans (hleM V))) hlt2
          cases e1
          first | refine awp_seq (awp_lit ?_) | refine awp_lit ?_ | refine awp_seq (awp_seq (awp_lit ?_))
          refine al_pureN 1 (by simp (disch := omega) only [go_sem, ↓reduceIte, xa, xb, xc, xd, xe, xf, xg, xh, xi, xj]; try rfl) ?_
          refine al_load rfl (by simp (disch := omega) only [go_sem, ↓reduceIte, xa, xb, xc, xd, xe, xf, xg, xh, xi, xj]) rfl (by simp (disch := omega) only [go_sem, ↓reduceIte, xa, xb, xc, xd, xe, xf, xg, xh, xi, xj]; try rfl) e2 (loadA_scalar agg3 e3) ?_
          refine al_pureN 1 (by simp (disch := omega) only [go_sem, ↓reduceIte, xa, xb, xc, xd, xe, xf, xg, xh, xi, xj]; try rfl) ?_
          refine al_end [1, 2, 3, 8, 10, 11, 12, 15, 56, 57, 58] ?_
          have hxm := hmem _ (List.getElem_mem hlt2)
          obtain ⟨w, hw⟩ : ∃ w : Nat, cl[j] = w := ⟨cl[j].toNat, by omega⟩
          rw [hw] at hxm hsn ⊢
          obtain ⟨q, hq⟩ : ∃ q, q = w - f := ⟨_, rfl⟩
          have hql : q < g.as.length := by omega
          have hqx : (w : Int) - (f : Int) = (q : Int) := by omega
          obtain ⟨b1, b2, b3, b4⟩ := chkA_get hchk hql
          have hgd : g.as.getD (w - f) (0, 0) = g.as[q] := by rw [← hq]; simp [List.getD, hql]
          have hst : stepV f g.as V w = fun k => if k = w then litB V g.as[q].1 && litB V g.as[q].2 else V k := by
            funext k; unfold stepV; rw [Int.toNat_natCast, hgd]
          have hsn' := hsn
          have hστ3 := hστ.trans (hleM V)
          have hd3 := dom_up (dom_set (b := ⟨bools V n, true, .n 1⟩) hdM) hM2
          have hG4 := hleM V _ _ hG3
          obtain ⟨σ3, hσ3⟩ : ∃ σ3, σ3 = τ.set M ⟨bools V n, true, .n 1⟩ := ⟨_, rfl⟩
          have hU3 : σ3 M = some ⟨bools V n, true, .n 1⟩ := by rw [hσ3, AHeap.set_self]
          rw [← hσ3] at hστ3 hd3 hG4 ⊢
          obtain ⟨id2, off2, cap2, bb, f1, f2, f3, f4⟩ := rowsAt_pair (has.mono hστ3) hql
          cases f1
          refine awp_seq (awp_mk [1, 2, 3, 8, 10, 11, 12, 15, 16, 56, 57, 58] [8] [9] [] (by kernel_rfl) fun hNm => ?_)
          refine mk_pures 1 (by simp (disch := omega) only [go_sem, ↓reduceIte, xa, xb, xc, xd, xe, xf, xg, xh, xi, xj, hF, hqx]; try rfl) (by kernel_rfl) ?_
          refine mk_load rfl (by simp (disch := omega) only [go_sem, ↓reduceIte, xa, xb, xc, xd, xe, xf, xg, xh, xi, xj, hF, hqx]) rfl rfl (by simp (disch := omega) only [go_sem, ↓reduceIte, xa, xb, xc, xd, xe, xf, xg, xh, xi, xj, hF, hqx]; try rfl) (by first | exact AHeap.set_self _ _ _ | (simp only [AHeap.set, ↓reduceIte, ya, xd, yb, yc, yd, ye, yf, yg, xb, yh, hF, hqx]; rfl) | assumption) (by first | exact loadA_scalar agg23 rfl | exact loadA_agg agg23 rfl | exact loadA_scalar agg23 (by assumption)) ⟨_, rfl⟩ (by first | exact calm0 (by omega) | exact calm0 (hNm _ _ (by assumption)) | exact calm1 (by omega) (by omega) | exact calm2 (by omega) (by omega) (by omega) | exact calmA (by omega) (by kernel_rfl)) ?_
          refine mk_pures 1 (by simp (disch := omega) only [go_sem, ↓reduceIte, xa, xb, xc, xd, xe, xf, xg, xh, xi, xj, hF, hqx]; try rfl) (by kernel_rfl) ?_
          refine mk_load rfl (by simp (disch := omega) only [go_sem, ↓reduceIte, xa, xb, xc, xd, xe, xf, xg, xh, xi, xj, hF, hqx]) rfl rfl (by simp (disch := omega) only [go_sem, ↓reduceIte, xa, xb, xc, xd, xe, xf, xg, xh, xi, xj, hF, hqx]; try rfl) (by first | exact AHeap.set_self _ _ _ | (simp only [AHeap.set, ↓reduceIte, ya, xd, yb, yc, yd, ye, yf, yg, xb, yh, hF, hqx]; rfl) | assumption) (by first | exact loadA_scalar agg26 rfl | exact loadA_agg agg26 rfl | exact loadA_scalar agg26 (by assumption)) ⟨_, rfl⟩ (by first | exact calm0 (by omega) | exact calm0 (hNm _ _ (by assumption)) | exact calm1 (by omega) (by omega) | exact calm2 (by omega) (by omega) (by omega) | exact calmA (by omega) (by kernel_rfl)) ?_
          refine mk_gives (fun j => j < M2) rfl (by simp (disch := omega) only [go_sem, ↓reduceIte, xa, xb, xc, xd, xe, xf, xg, xh, xi, xj, hF, hqx]; try rfl) (by simp (disch := omega) only [go_sem, ↓reduceIte, xa, xb, xc, xd, xe, xf, xg, xh, xi, xj, hF, hqx]; try rfl) (fun _ h => calm0 h) (fun m => rfirst_gives (AigAt.mv (hv0.mono hστ3) hd3 (AHeap.le_refl _)) hfew (by omega) (by omega)) (by kernel_rfl) rfl (by simp (disch := omega) only [go_sem, ↓reduceIte, xa, xb, xc, xd, xe, xf, xg, xh, xi, xj, hF, hqx]) rfl ?_
          refine mk_pures 2 (by simp (disch := omega) only [go_sem, ↓reduceIte, xa, xb, xc, xd, xe, xf, xg, xh, xi, xj, hF, hqx]; try rfl) (by kernel_rfl) ?_
          refine mk_load rfl (by simp (disch := omega) only [go_sem, ↓reduceIte, xa, xb, xc, xd, xe, xf, xg, xh, xi, xj, hF, hqx]) rfl rfl (by simp (disch := omega) only [go_sem, ↓reduceIte, xa, xb, xc, xd, xe, xf, xg, xh, xi, xj, hF, hqx]; try rfl) f2 (loadA_agg agg47 f3) ⟨_, f4⟩ (by first | exact calm0 (by omega) | exact calm0 (hNm _ _ (by assumption)) | exact calm1 (by omega) (by omega) | exact calm2 (by omega) (by omega) (by omega) | exact calmA (by omega) (by kernel_rfl)) ?_
          refine mk_alloc 1 (m := (M2)) rfl rfl rfl rfl rfl ty47 (by decide) rfl ?_
          refine mk_storeN (d := 8) (w := (M2)) (m := (M2 + 1)) rfl rfl (by simp (disch := omega) only [go_sem, ↓reduceIte, xa, xb, xc, xd, xe, xf, xg, xh, xi, xj, hF, hqx]) rfl (by simp (disch := omega) only [go_sem, ↓reduceIte, xa, xb, xc, xd, xe, xf, xg, xh, xi, xj, hF, hqx]; try rfl) (by simp (disch := omega) only [go_sem, ↓reduceIte, xa, xb, xc, xd, xe, xf, xg, xh, xi, xj, hF, hqx]; try rfl) (by first | exact AHeap.set_self _ _ _ | (simp only [AHeap.set, ↓reduceIte, ya, xd, yb, yc, yd, ye, yf, yg, xb, yh, hF, hqx]; rfl) | assumption) ⟨_, rfl⟩ rfl (by exact size47.trans rfl) (by rfl) (by exact Nat.le_of_ble_eq_true rfl) (by decide) rfl (of_decide_eq_true (by kernel_rfl)) (by kernel_rfl) rfl rfl (by omega) (.of_flat rfl) (by first | exact blk_flat (by decide) | exact blk_flat rfl) ?_
          refine mk_end ?_
          rw [AHeap.set_set]
          show Abs.Seq _ _ _ _ _ _ _ (M2 + 1) (σ3.set M2 ⟨[.int .i64 g.as[q].1, .int .i64 g.as[q].2], true, .n 1⟩)
          obtain ⟨A, hAe⟩ : ∃ A, A = g.as[q].1 := ⟨_, rfl⟩
          obtain ⟨B, hBe⟩ : ∃ B, B = g.as[q].2 := ⟨_, rfl⟩
          rw [← hAe, ← hBe]
          rw [← hAe] at b1 b2
          rw [← hBe] at b3 b4
          have hle4 := le_new (b := ⟨[.int .i64 A, .int .i64 B], true, .n 1⟩) hd3 (Nat.le_refl _)
          obtain ⟨σ4, hσ4⟩ : ∃ σ4, σ4 = σ3.set M2 ⟨[.int .i64 A, .int .i64 B], true, .n 1⟩ := ⟨_, rfl⟩
          have hX : σ4 M2 = some ⟨[.int .i64 A, .int .i64 B], true, .n 1⟩ := by rw [hσ4, AHeap.set_self]
          rw [← hσ4] at hle4 ⊢
          have hU4 := hle4 _ _ hU3
          have hA2 : (A / 2).toNat = A.toNat / 2 := by omega
          have hB2 : (B / 2).toNat = B.toNat / 2 := by omega
          have gA : (bools V n)[(A / 2).toNat]? = some (.bool (V (A.toNat / 2))) := by rw [hA2]; exact bools_get _ (by omega)
          have gB : (bools V n)[(B / 2).toNat]? = some (.bool (V (B.toNat / 2))) := by rw [hB2]; exact bools_get _ (by omega)
          have eA : (!(V (A.toNat / 2) == (A % 2 == 1))) = litB V A := rfl
          have eB : (!(V (B.toNat / 2) == (B % 2 == 1))) = litB V B := rfl
          have hfin : ∀ bv, bv = (litB V A && litB V B) → (τ.set M ⟨bools (stepV f g.as V w) n, true, .n 1⟩).le (σ4.set M ⟨splice (bools V n) w [.bool bv], true, .n 1⟩) := fun bv hbv i b hb => by
            by_cases hi : i = M
            · subst hi
              rw [AHeap.set_self] at hb ⊢
              rw [← hb, splice_boolv _ (by omega), hst, hbv, ← hAe, ← hBe]
            · rw [AHeap.set_ne _ _ hi] at hb ⊢
              refine hle4 _ _ ?_
              rw [hσ3, AHeap.set_ne _ _ hi]; exact hb
          cases hlA : litB V A with
          | true =>
            rw [hlA] at eA
            refine awp_wr [1, 2, 3, 8, 10, 11, 12, 56, 57, 58] (M) [27] (by kernel_rfl) fun hNq => ?_
            refine tw_pures 4 (by simp (disch := omega) only [go_sem, ↓reduceIte, xa, xb, xc, xd, xe, xf, xg, xh, xi, xj, eA, eB]; try rfl) ?_
            refine tw_load hNq rfl (by simp (disch := omega) only [go_sem, ↓reduceIte, xa, xb, xc, xd, xe, xf, xg, xh, xi, xj, eA, eB]; try rfl) rfl (by simp (disch := omega) only [go_sem, ↓reduceIte, xa, xb, xc, xd, xe, xf, xg, xh, xi, xj, eA, eB]; try rfl) (by first | exact AHeap.set_self _ _ _ | (simp only [AHeap.set, ↓reduceIte, ya, xd, yb, yc, yd, ye, yf, yg, xb, yh, eA, eB]; rfl) | assumption) ⟨_, rfl⟩ (by omega) (by first | exact loadA_scalar agg43 rfl | exact loadA_agg agg43 rfl | exact loadA_scalar agg43 (by assumption)) ?_
            refine tw_pures 2 (by simp (disch := omega) only [go_sem, ↓reduceIte, xa, xb, xc, xd, xe, xf, xg, xh, xi, xj, eA, eB]; try rfl) ?_
            refine tw_loadw hNq rfl (by simp (disch := omega) only [go_sem, ↓reduceIte, xa, xb, xc, xd, xe, xf, xg, xh, xi, xj, eA, eB]; try rfl) rfl (by simp (disch := omega) only [go_sem, ↓reduceIte, xa, xb, xc, xd, xe, xf, xg, xh, xi, xj, eA, eB]; try rfl) hU4 ⟨_, rfl⟩ (by kernel_rfl) (loadA_scalar agg4 gA) ?_
            refine tw_pures 1 (by simp (disch := omega) only [go_sem, ↓reduceIte, xa, xb, xc, xd, xe, xf, xg, xh, xi, xj, eA, eB]; try rfl) ?_
            refine tw_load hNq rfl (by simp (disch := omega) only [go_sem, ↓reduceIte, xa, xb, xc, xd, xe, xf, xg, xh, xi, xj, eA, eB]; try rfl) rfl (by simp (disch := omega) only [go_sem, ↓reduceIte, xa, xb, xc, xd, xe, xf, xg, xh, xi, xj, eA, eB]; try rfl) (by first | exact AHeap.set_self _ _ _ | (simp only [AHeap.set, ↓reduceIte, ya, xd, yb, yc, yd, ye, yf, yg, xb, yh, eA, eB]; rfl) | assumption) ⟨_, rfl⟩ (by omega) (by first | exact loadA_scalar agg43 rfl | exact loadA_agg agg43 rfl | exact loadA_scalar agg43 (by assumption)) ?_
            refine tw_pures 5 (by simp (disch := omega) only [go_sem, ↓reduceIte, xa, xb, xc, xd, xe, xf, xg, xh, xi, xj, eA, eB]; try rfl) ?_
            refine tw_pures 1 (by simp (disch := omega) only [go_sem, ↓reduceIte, xa, xb, xc, xd, xe, xf, xg, xh, xi, xj, eA, eB]; try rfl) ?_
            refine tw_load hNq rfl (by simp (disch := omega) only [go_sem, ↓reduceIte, xa, xb, xc, xd, xe, xf, xg, xh, xi, xj, eA, eB]; try rfl) rfl (by simp (disch := omega) only [go_sem, ↓reduceIte, xa, xb, xc, xd, xe, xf, xg, xh, xi, xj, eA, eB]; try rfl) (by first | exact AHeap.set_self _ _ _ | (simp only [AHeap.set, ↓reduceIte, ya, xd, yb, yc, yd, ye, yf, yg, xb, yh, eA, eB]; rfl) | assumption) ⟨_, rfl⟩ (by omega) (by first | exact loadA_scalar agg43 rfl | exact loadA_agg agg43 rfl | exact loadA_scalar agg43 (by assumption)) ?_
            refine tw_pures 2 (by simp (disch := omega) only [go_sem, ↓reduceIte, xa, xb, xc, xd, xe, xf, xg, xh, xi, xj, eA, eB]; try rfl) ?_
            refine tw_loadw hNq rfl (by simp (disch := omega) only [go_sem, ↓reduceIte, xa, xb, xc, xd, xe, xf, xg, xh, xi, xj, eA, eB]; try rfl) rfl (by simp (disch := omega) only [go_sem, ↓reduceIte, xa, xb, xc, xd, xe, xf, xg, xh, xi, xj, eA, eB]; try rfl) hU4 ⟨_, rfl⟩ (by kernel_rfl) (loadA_scalar agg4 gB) ?_
            refine tw_pures 1 (by simp (disch := omega) only [go_sem, ↓reduceIte, xa, xb, xc, xd, xe, xf, xg, xh, xi, xj, eA, eB]; try rfl) ?_
            refine tw_load hNq rfl (by simp (disch := omega) only [go_sem, ↓reduceIte, xa, xb, xc, xd, xe, xf, xg, xh, xi, xj, eA, eB]; try rfl) rfl (by simp (disch := omega) only [go_sem, ↓reduceIte, xa, xb, xc, xd, xe, xf, xg, xh, xi, xj, eA, eB]; try rfl) (by first | exact AHeap.set_self _ _ _ | (simp only [AHeap.set, ↓reduceIte, ya, xd, yb, yc, yd, ye, yf, yg, xb, yh, eA, eB]; rfl) | assumption) ⟨_, rfl⟩ (by omega) (by first | exact loadA_scalar agg43 rfl | exact loadA_agg agg43 rfl | exact loadA_scalar agg43 (by assumption)) ?_
            refine tw_pures 3 (by simp (disch := omega) only [go_sem, ↓reduceIte, xa, xb, xc, xd, xe, xf, xg, xh, xi, xj, eA, eB]; try rfl) ?_
            refine tw_pures 2 (by simp (disch := omega) only [go_sem, ↓reduceIte, xa, xb, xc, xd, xe, xf, xg, xh, xi, xj, eA, eB]; try rfl) ?_
            refine tw_store hNq rfl (by simp (disch := omega) only [go_sem, ↓reduceIte, xa, xb, xc, xd, xe, xf, xg, xh, xi, xj, eA, eB]; try rfl) rfl (by simp (disch := omega) only [go_sem, ↓reduceIte, xa, xb, xc, xd, xe, xf, xg, xh, xi, xj, eA, eB]; try rfl) (by simp (disch := omega) only [go_sem, ↓reduceIte, xa, xb, xc, xd, xe, xf, xg, xh, xi, xj, eA, eB]; try rfl) hU4 ⟨_, rfl⟩ rfl (by exact size4.trans rfl) rfl (by show w + 1 ≤ (bools _ _).length; rw [bools_len]; omega) (by decide) (.of_flat rfl) (blk_flat (bools_flat _ _)) fun hNq => ?_
            refine tw_end ?_
            refine awp_pures [1, 2, 3, 8, 10, 11, 12, 56, 57, 58] (by simp (disch := omega) only [go_sem, ↓reduceIte, xa, xb, xc, xd, xe, xf, xg, xh, xi, xj]; try rfl) ?_
            refine ALoop.cast3 ((ih2 (j + 1, M2 + 1) ⟨hlt2, by dsimp only; omega⟩ (by dsimp only; omega)).forget (fun _ _ h => h) (by dsimp only; rw [hsn']; exact hfin _ (by rw [hlA]; rfl))) rfl rfl rfl
          | false =>
            rw [hlA] at eA
            refine awp_wr [1, 2, 3, 8, 10, 11, 12, 56, 57, 58] (M) [27] (by kernel_rfl) fun hNq => ?_
            refine tw_pures 4 (by simp (disch := omega) only [go_sem, ↓reduceIte, xa, xb, xc, xd, xe, xf, xg, xh, xi, xj, eA, eB]; try rfl) ?_
            refine tw_load hNq rfl (by simp (disch := omega) only [go_sem, ↓reduceIte, xa, xb, xc, xd, xe, xf, xg, xh, xi, xj, eA, eB]; try rfl) rfl (by simp (disch := omega) only [go_sem, ↓reduceIte, xa, xb, xc, xd, xe, xf, xg, xh, xi, xj, eA, eB]; try rfl) (by first | exact AHeap.set_self _ _ _ | (simp only [AHeap.set, ↓reduceIte, ya, xd, yb, yc, yd, ye, yf, yg, xb, yh, eA, eB]; rfl) | assumption) ⟨_, rfl⟩ (by omega) (by first | exact loadA_scalar agg43 rfl | exact loadA_agg agg43 rfl | exact loadA_scalar agg43 (by assumption)) ?_
            refine tw_pures 2 (by simp (disch := omega) only [go_sem, ↓reduceIte, xa, xb, xc, xd, xe, xf, xg, xh, xi, xj, eA, eB]; try rfl) ?_
            refine tw_loadw hNq rfl (by simp (disch := omega) only [go_sem, ↓reduceIte, xa, xb, xc, xd, xe, xf, xg, xh, xi, xj, eA, eB]; try rfl) rfl (by simp (disch := omega) only [go_sem, ↓reduceIte, xa, xb, xc, xd, xe, xf, xg, xh, xi, xj, eA, eB]; try rfl) hU4 ⟨_, rfl⟩ (by kernel_rfl) (loadA_scalar agg4 gA) ?_
            refine tw_pures 1 (by simp (disch := omega) only [go_sem, ↓reduceIte, xa, xb, xc, xd, xe, xf, xg, xh, xi, xj, eA, eB]; try rfl) ?_
            refine tw_load hNq rfl (by simp (disch := omega) only [go_sem, ↓reduceIte, xa, xb, xc, xd, xe, xf, xg, xh, xi, xj, eA, eB]; try rfl) rfl (by simp (disch := omega) only [go_sem, ↓reduceIte, xa, xb, xc, xd, xe, xf, xg, xh, xi, xj, eA, eB]; try rfl) (by first | exact AHeap.set_self _ _ _ | (simp only [AHeap.set, ↓reduceIte, ya, xd, yb, yc, yd, ye, yf, yg, xb, yh, eA, eB]; rfl) | assumption) ⟨_, rfl⟩ (by omega) (by first | exact loadA_scalar agg43 rfl | exact loadA_agg agg43 rfl | exact loadA_scalar agg43 (by assumption)) ?_
            refine tw_pures 5 (by simp (disch := omega) only [go_sem, ↓reduceIte, xa, xb, xc, xd, xe, xf, xg, xh, xi, xj, eA, eB]; try rfl) ?_
            refine tw_pures 1 (by simp (disch := omega) only [go_sem, ↓reduceIte, xa, xb, xc, xd, xe, xf, xg, xh, xi, xj, eA, eB]; try rfl) ?_
            refine tw_pures 1 (by simp (disch := omega) only [go_sem, ↓reduceIte, xa, xb, xc, xd, xe, xf, xg, xh, xi, xj, eA, eB, undef]; try rfl) ?_
            refine tw_pures 2 (by simp (disch := omega) only [go_sem, ↓reduceIte, xa, xb, xc, xd, xe, xf, xg, xh, xi, xj, eA, eB]; try rfl) ?_
            refine tw_pures 1 (by simp (disch := omega) only [go_sem, ↓reduceIte, xa, xb, xc, xd, xe, xf, xg, xh, xi, xj, eA, eB, undef]; try rfl) ?_
            refine tw_pures 1 (by simp (disch := omega) only [go_sem, ↓reduceIte, xa, xb, xc, xd, xe, xf, xg, xh, xi, xj, eA, eB]; try rfl) ?_
            refine tw_pures 1 (by simp (disch := omega) only [go_sem, ↓reduceIte, xa, xb, xc, xd, xe, xf, xg, xh, xi, xj, eA, eB, undef]; try rfl) ?_
            refine tw_pures 3 (by simp (disch := omega) only [go_sem, ↓reduceIte, xa, xb, xc, xd, xe, xf, xg, xh, xi, xj, eA, eB]; try rfl) ?_
            refine tw_pures 2 (by simp (disch := omega) only [go_sem, ↓reduceIte, xa, xb, xc, xd, xe, xf, xg, xh, xi, xj, eA, eB]; try rfl) ?_
            refine tw_store hNq rfl (by simp (disch := omega) only [go_sem, ↓reduceIte, xa, xb, xc, xd, xe, xf, xg, xh, xi, xj, eA, eB]; try rfl) rfl (by simp (disch := omega) only [go_sem, ↓reduceIte, xa, xb, xc, xd, xe, xf, xg, xh, xi, xj, eA, eB]; try rfl) (by simp (disch := omega) only [go_sem, ↓reduceIte, xa, xb, xc, xd, xe, xf, xg, xh, xi, xj, eA, eB]; try rfl) hU4 ⟨_, rfl⟩ rfl (by exact size4.trans rfl) rfl (by show w + 1 ≤ (bools _ _).length; rw [bools_len]; omega) (by decide) (.of_flat rfl) (blk_flat (bools_flat _ _)) fun hNq => ?_
            refine tw_end ?_
            refine awp_pures [1, 2, 3, 8, 10, 11, 12, 56, 57, 58] (by simp (disch := omega) only [go_sem, ↓reduceIte, xa, xb, xc, xd, xe, xf, xg, xh, xi, xj]; try rfl) ?_
            refine ALoop.cast3 ((ih2 (j + 1, M2 + 1) ⟨hlt2, by dsimp only; omega⟩ (by dsimp only; omega)).forget (fun _ _ h => h) (by dsimp only; rw [hsn']; exact hfin _ (by rw [hlA]; rfl))) rfl rfl rfl
        · have hjm : j = cl.length := by omega
          refine awp_seq (awp_pures [1, 2, 3, 8, 10, 11, 12, 56, 57, 58, 59] (by simp (disch := omega) only [go_sem, ↓reduceIte, xa, xb, xc, xd, xe, xf, xg, xh, xi, xj]; try rfl) ?_)
          refine awp_seq ?_
          refine awp_if rfl (fun h => by cases h) (fun _ => ?_)
          refine awp_exit ?_
          simp only [Go.Abs.Seq, Go.Abs.Round, Go.Abs.InBlock, ↓reduceIte]
          rw [hjm, List.take_length, ← hval]
          have gm := bools_get (valV g l cl k) hmn
          have hov2 : OwnAt (τ.set M ⟨bools (valV g l cl k) n, true, .n 1⟩) N2 ov (bools (fun k => valV g l cl k m) k) k 1 := hov.mono (fun i b hi hb => hleM _ _ _ hb) (Nat.le_refl _)
          refine awp_lit ?_
          refine al_pureN 4 (by simp (disch := omega) only [go_sem, ↓reduceIte, xa, xb, xc, xd, xe, xf, xg, xh, xi, xj]; try rfl) ?_
          refine al_load rfl (by simp (disch := omega) only [go_sem, ↓reduceIte, xa, xb, xc, xd, xe, xf, xg, xh, xi, xj]) rfl (by simp (disch := omega) only [go_sem, ↓reduceIte, xa, xb, xc, xd, xe, xf, xg, xh, xi, xj]; try rfl) (AHeap.set_self _ _ _) (loadA_scalar agg4 gm) ?_
          refine al_push rfl rfl rfl (by simp (disch := omega) only [go_sem, ↓reduceIte, xa, xb, xc, xd, xe, xf, xg, xh, xi, xj]; try rfl) (by simp (disch := omega) only [go_sem, ↓reduceIte, xa, xb, xc, xd, xe, xf, xg, xh, xi, xj]; try rfl) rfl rfl Try.underlying56 ty4 rfl rfl rfl (by simp (disch := omega) only [go_sem, ↓reduceIte, xa, xb, xc, xd, xe, xf, xg, xh, xi, xj]; try rfl) (by simp (disch := omega) only [go_sem, ↓reduceIte, xa, xb, xc, xd, xe, xf, xg, xh, xi, xj]; try rfl) rfl rfl hov2 (by omega) (by omega) (by omega) ?_
          intro N' σ' v' hN' hown' hkeep
          refine al_pureN 1 (by simp (disch := omega) only [go_sem, ↓reduceIte, xa, xb, xc, xd, xe, xf, xg, xh, xi, xj]; try rfl) ?_
          refine al_end [1, 2, 3, 8, 10, 11] ?_
          refine awp_pures [1, 2, 3, 8, 10, 11] (by simp (disch := omega) only [go_sem, ↓reduceIte, xa, xb, xc, xd, xe, xf, xg, xh, xi, xj]; try rfl) ?_
          have hlist : bools (fun k => valV g l cl k m) k ++ [.bool (valV g l cl k m)] = bools (fun k => valV g l cl k m) (k + 1) := by simp [bools, List.range_succ]
          rw [hlist] at hown'
          refine ALoop.cast3 (aloop_fresh fun hdN => ih (k + 1, N', σ', v') ⟨hlt, by dsimp only; omega, hown', hkeep _ (hτ2.trans (hleM _)) hd2, hdN⟩ (by dsimp only; omega)) rfl rfl rfl
    · have hkm : k = 2 ^ l.length := by omega
      have hge : ¬ (k : Int) < ((2 ^ l.length : Nat) : Int) := by omega
      refine awp_seq ?_
      refine awp_seq (awp_pures [1, 2, 3, 8, 10, 11, 32] (by simp (disch := omega) only [go_sem, ↓reduceIte, xa, xb, xc, xd, xe, xf, xg, xh, xi, xj, hsl]; try rfl) ?_)
      refine awp_if rfl (fun h => by cases h) (fun _ => ?_)
      refine awp_exit ?_
      simp only [Go.Abs.Seq, Go.Abs.Round, Go.Abs.InBlock, ↓reduceIte]
      have hov3 : SlAt τ ov (boolL ((List.range (2 ^ l.length)).map fun k => valV g l cl k m)) := by rw [boolL_bools, ← hkm]; exact hov.slAt
      first | refine awp_seq (awp_lit ?_) | refine awp_lit ?_ | refine awp_seq (awp_seq (awp_lit ?_))
      refine al_pureN 1 (by simp (disch := omega) only [go_sem, ↓reduceIte, xa, xb, xc, xd, xe, xf, xg, xh, xi, xj]; try rfl) ?_
      refine al_gives (vs := ?vs2) (v := ?v2) rfl ?ha2 ?hh2 (by kernel_rfl) rfl (by simp (disch := omega) only [go_sem, ↓reduceIte, xa, xb, xc, xd, xe, xf, xg, xh, xi, xj]) ?kk2
      case ha2 => simp (disch := omega) only [go_sem, ↓reduceIte, xa, xb, xc, xd, xe, xf, xg, xh, xi, xj]; try rfl
      case hh2 => exact Make_gives hov3 (by simp; omega)
      refine al_pureN 2 (by simp (disch := omega) only [go_sem, ↓reduceIte, xa, xb, xc, xd, xe, xf, xg, xh, xi, xj]; try rfl) ?_
      refine al_end [6, 7] ?_
      exact awp_ret ⟨_, res_tt rfl rfl rfl, rfl, hστ, by omega⟩
  · have hFR : FunQ g l node = (0#64, (ConeR g l node).2) := by unfold FunQ; rw [if_neg he]
    rw [hFR]
    refine awp_seq ?_
    refine awp_seq (awp_pures [1, 2, 3, 8, 9, 25] (by simp (disch := omega) only [go_sem, ↓reduceIte, xa, xb, xc, xd, xe, xf, xg, xh, xi, xj]; try rfl) ?_)
    refine awp_if rfl (fun _ => ?_) (fun h => by cases h)
    refine awp_seq (awp_pures [6, 7] (by simp (disch := omega) only [go_sem, ↓reduceIte, xa, xb, xc, xd, xe, xf, xg, xh, xi, xj]; try rfl) ?_)
    exact awp_ret ⟨_, res_tt rfl rfl rfl, rfl, hσ2, by omega⟩
end Go.Proofs.Ytfialjllclclkaa

set_option maxHeartbeats 4000000
set_option linter.unusedSimpArgs false
set_option linter.unusedVariables false
namespace Go.Proofs.Ytfialjllclclkaa
open Go.Abs Go.Cut
attribute [local go_sem] Try.underlying26 Try.underlying3 Try.underlying22 Try.underlying23 Try.underlying24 Try.underlying35 Try.underlying43 Try.underlying45 Try.underlying47 Try.underlying5 Try.underlying4 Try.underlying30 Try.underlying56 size26 size3 size22 size23 size24 size35 size43 size45 size47 size5 size4 size30 Nat.mul_one gt_iff_lt ge_iff_le au_add au_sub au_quo au_rem au_lt au_nl au_le au_ne au_bt au_bf au_nt au_nf au_tf au_ft au_wu au_wi undef
open Nat renaming reduceLT → xa, reduceEqDiff → xb, reduceLeDiff → xc, reduceAdd → xd, reduceMul → xe, reduceBEq → xj, add_assoc → ya, add_left_cancel_iff → yb, add_right_cancel_iff → yc, left_eq_add → yd, add_eq_left → ye, add_eq_right → yf, right_eq_add → yg, succ_ne_zero → yh
open Int renaming reduceLT → xf, reduceLE → xg, reduceToNat → xh
open BitVec renaming reduceOfInt → xi
theorem FreeQ_cone {g : AigD} {l : List Int} {node : Int} (hc : chkE g = 0) (he : (ConeR g l node).2 = 0) :
    leafE (sizeC g) node l = 0 ∧ (∀ x ∈ (ConeR g l node).1, firstC g ≤ x ∧ x < sizeC g) ∧ (ConeR g l node).1.length ≤ g.as.length := by
  have hV := valid_of hc
  have hinp := hV.inp
  obtain ⟨f, hfd⟩ : ∃ f, f = (firstC g).toNat := ⟨_, rfl⟩
  have hF : firstC g = (f : Int) := by unfold firstC at hfd ⊢; omega
  have hs : sizeC g = (f : Int) + g.as.length := by unfold sizeC; rw [hF]
  have hR : ConeR g l node = coneE f g.as l node := by simp [ConeR, hc, hfd]
  have hmem := coneE_mem f g.as l node
  rw [hR] at he ⊢
  refine ⟨?_, by rw [hF, hs]; exact hmem.1, hmem.2⟩
  unfold coneE at he
  split at he
  · rename_i h; rw [hs]; exact h
  · rename_i h; exact absurd he h
structure FreeSt where
  S : List Int
  ch : Bool
  M : Nat
  τ : AHeap
  sv : Value
theorem rFree_ok {g : AigD} {v lv : Value} {node : Int} {l : List Int} {N : Nat} {σ : AHeap} (hv : AigAt σ v g) (hl : SlAt σ lv (ints l)) (hfew : Few g) :
    AOk Try.prog 18 [v, .int .i64 node, lv] N σ fun r N1 σ1 => ∃ sv, r = .tuple #[sv, .int .i64 (FreeQ g l node).2] ∧ OwnAt σ1 N sv (ints (FreeQ g l node).1) (FreeQ g l node).1.length 1 ∧ σ.le σ1 ∧ N ≤ N1 := by
  have hv0 := hv
  have hl0 := hl
  have hol : ∀ l : List Int, (ints l).length = l.length := fun l => by simp [ints]
  obtain ⟨lb, lc, ab, ac, ob, oc, rfl, hls, has, hos⟩ := hv.opn
  obtain ⟨sb, sc, rfl⟩ := hl.len
  rw [hol] at hl hl0 ⊢
  have hla := hfew.as
  refine aok_fresh fun hN => aok_body (r := false) (n := 95) Try.func18 rfl rfl (by simp) ?_
  first | refine awp_seq (awp_lit ?_) | refine awp_lit ?_ | refine awp_seq (awp_seq (awp_lit ?_))
  refine al_boxA hN rfl rfl rfl (by simp (disch := omega) only [go_sem, ↓reduceIte, xa, xb, xc, xd, xe, xf, xg, xh, xi, xj]; try rfl) (fun σ1 hτ hG hd1 _ => ?_)
  refine al_pureN 2 (by simp (disch := omega) only [go_sem, ↓reduceIte, xa, xb, xc, xd, xe, xf, xg, xh, xi, xj]; try rfl) ?_
  refine al_end [1, 2, 3] ?_
  first | refine awp_seq (awp_lit ?_) | refine awp_lit ?_ | refine awp_seq (awp_seq (awp_lit ?_))
  refine al_load rfl (by simp (disch := omega) only [go_sem, ↓reduceIte, xa, xb, xc, xd, xe, xf, xg, xh, xi, xj]) rfl (by simp (disch := omega) only [go_sem, ↓reduceIte, xa, xb, xc, xd, xe, xf, xg, xh, xi, xj]; try rfl) (by first | exact AHeap.set_self _ _ _ | (simp only [AHeap.set, ↓reduceIte, ya, xd, yb, yc, yd, ye, yf, yg, xb, yh]; rfl) | assumption) (by first | exact loadA_scalar agg26 rfl | exact loadA_agg agg26 rfl | exact loadA_scalar agg26 (by assumption)) ?_
  refine al_pureN 2 (by simp (disch := omega) only [go_sem, ↓reduceIte, xa, xb, xc, xd, xe, xf, xg, xh, xi, xj]; try rfl) ?_
  refine al_fun (rCone_ok (hv0.mono hτ) (hl0.mono hτ) hfew) rfl (by simp (disch := omega) only [go_sem, ↓reduceIte, xa, xb, xc, xd, xe, xf, xg, xh, xi, xj]; try rfl) (by kernel_rfl) rfl (by simp (disch := omega) only [go_sem, ↓reduceIte, xa, xb, xc, xd, xe, xf, xg, xh, xi, xj]; try rfl) ?_
  rintro r N2 σ2 ⟨sv0, rfl, hsv, hle2, hN2⟩
  refine al_fresh fun hd2 => ?_
  refine al_pureN 5 (by simp (disch := omega) only [go_sem, ↓reduceIte, xa, xb, xc, xd, xe, xf, xg, xh, xi, xj]; try rfl) ?_
  refine al_end [1, 3, 8, 9] ?_
  have hσ2 := hτ.trans hle2
  have hG2 := hle2 _ _ hG
  by_cases he : (ConeR g l node).2 = 0
  · have hc : chkE g = 0 := by
      by_cases hc : chkE g = 0
      · exact hc
      · exact absurd (by unfold ConeR at he; rw [if_neg hc] at he; exact he) hc
    obtain ⟨hlE, hmem, hcll⟩ := FreeQ_cone hc he
    have hFR : FreeQ g l node = (freeQ (firstC g).toNat g.as (cntF (allLits g)) node (ConeR g l node).1, 0) := by unfold FreeQ; rw [if_pos he]
    have hV := valid_of hc
    have hinp := hV.inp
    have hsz := hV.size
    have hinpB : g.inp ≤ 4096 := by unfold sizeC firstC at hsz; omega
    obtain ⟨f, hfd⟩ : ∃ f, f = (firstC g).toNat := ⟨_, rfl⟩
    have hF : firstC g = (f : Int) := by unfold firstC at hfd ⊢; omega
    have hnn : sizeC g = ((f + g.as.length : Nat) : Int) := by unfold sizeC; rw [hF]; omega
    have hchk : chkA f g.as = true := by have := hV.ands; rwa [hF] at this
    obtain ⟨n, hn⟩ : ∃ n, n = f + g.as.length := ⟨_, rfl⟩
    rw [← hn] at hnn
    obtain ⟨hn0, hn1⟩ := leafE_node hlE
    obtain ⟨m, rfl⟩ : ∃ m : Nat, node = m := ⟨node.toNat, by omega⟩
    obtain ⟨cl, hcl⟩ : ∃ cl, cl = (ConeR g l m).1 := ⟨_, rfl⟩
    obtain ⟨us, hus⟩ : ∃ us, us = cntF (allLits g) := ⟨_, rfl⟩
    rw [hFR, he, ← hfd, ← hus]
    rw [← hcl] at hsv hmem hcll ⊢
    rw [hF, hnn] at hmem
    have hmn : m < n := by omega
    have hn4 : n ≤ 4096 := by omega
    have husb : ∀ k, us k ≤ 1000 := fun k => by
      rw [hus]
      have h1 := cntF_le (allLits g) k
      have h2 : (allLits g).length ≤ 600 := by
        have := hfew.os
        have := hfew.ls
        simp only [allLits, List.length_append, andLits_len, List.length_map]; omega
      omega
    refine awp_seq ?_
    refine awp_seq (awp_pures [1, 3, 8, 9, 28] (by simp (disch := omega) only [go_sem, ↓reduceIte, xa, xb, xc, xd, xe, xf, xg, xh, xi, xj]; try rfl) ?_)
    refine awp_if rfl (fun h => by cases h) (fun _ => ?_)
    refine awp_skip ?_
    refine awp_seq ?_
    refine awp_seq (awp_pures [1, 3, 8, 10] (by simp (disch := omega) only [go_sem, ↓reduceIte, xa, xb, xc, xd, xe, xf, xg, xh, xi, xj]; try rfl) ?_)
    refine awp_block (awp_loop ?_)
    refine ALoop.cast3 (aloop_ind (α := FreeSt) (fun a => freeQ f g.as us m cl = freeQ f g.as us m a.S ∧ (a.ch = false → freeQ f g.as us m a.S = a.S) ∧ (∀ x ∈ a.S, (f : Int) ≤ x ∧ x < ((n : Nat) : Int)) ∧ a.S.length ≤ 200 ∧ N2 ≤ a.M ∧ OwnAt a.τ N a.sv (ints a.S) a.S.length 1 ∧ σ1.le a.τ ∧ ∀ i b, a.τ i = some b → i < a.M) (fun a => 2 * a.S.length + (if a.ch = true then 1 else 0))
      (fun a => [(1, .int .i64 m), (3, .pointer (some ⟨N, 0, none⟩)), (8, a.sv), (10, .bool a.ch)]) (fun a => a.M) (fun a => a.τ) ?_
      ⟨cl, true, N2, σ2, sv0⟩ ⟨rfl, by simp, hmem, by dsimp only; omega, Nat.le_refl _, hsv.mono (fun _ _ _ h => h) (by omega), hle2, hd2⟩) rfl rfl rfl
    rintro ⟨S, ch, M, τ, sv⟩ ⟨hq, hdone, hSm, hSl, hM, hov, hτ2, hdM⟩ ih
    dsimp only at hq hdone hSm hSl hM hov hτ2 hdM ih ⊢
    have hστ := hτ.trans hτ2
    have hG3 := hτ2 _ _ hG
    cases ch with
    | false =>
      refine awp_seq ?_
      refine awp_seq (awp_pures [1, 3, 8, 30] (by simp (disch := omega) only [go_sem, ↓reduceIte, xa, xb, xc, xd, xe, xf, xg, xh, xi, xj]; try rfl) ?_)
      refine awp_if rfl (fun h => by cases h) (fun _ => ?_)
      refine awp_exit ?_
      simp only [Go.Abs.Seq, Go.Abs.Round, Go.Abs.InBlock, ↓reduceIte]
      refine awp_seq (awp_pures [6, 7] (by simp (disch := omega) only [go_sem, ↓reduceIte, xa, xb, xc, xd, xe, xf, xg, xh, xi, xj]; try rfl) ?_)
      rw [hq, hdone rfl]
      exact awp_ret ⟨_, res_tt rfl rfl rfl, sv, rfl, hov.mono (fun _ _ _ h => h) (by omega), hστ, by omega⟩
    | true =>
      refine awp_seq ?_
      refine awp_seq (awp_pures [1, 3, 8, 30] (by simp (disch := omega) only [go_sem, ↓reduceIte, xa, xb, xc, xd, xe, xf, xg, xh, xi, xj]; try rfl) ?_)
      refine awp_if rfl (fun _ => ?_) (fun h => by cases h)
      refine awp_skip ?_
      obtain ⟨cb, cc, rfl⟩ := hov.lenV
      have hov' := hov.slAt
      refine awp_block ?_
      refine awp_seq (awp_pures [1, 3, 8, 10] (by simp (disch := omega) only [go_sem, ↓reduceIte, xa, xb, xc, xd, xe, xf, xg, xh, xi, xj]; try rfl) ?_)
      refine awp_seq (awp_pures [1, 3, 8, 10, 31, 32, 33] (by simp (disch := omega) only [go_sem, ↓reduceIte, xa, xb, xc, xd, xe, xf, xg, xh, xi, xj]; try rfl) ?_)
      refine awp_block (awp_loop ?_)
      refine ALoop.cast3 (aloop_ind (α := Nat × Nat) (fun a => a.1 ≤ S.length ∧ M ≤ a.2 ∧ S.find? (badR f g.as us m S) = (S.drop a.1).find? (badR f g.as us m S)) (fun a => S.length - a.1)
        (fun a => [(1, .int .i64 m), (3, .pointer (some ⟨N, 0, none⟩)), (8, .slice cb S.length cc), (10, .bool false), (31, .slice cb S.length cc), (32, .int .i64 S.length), (33, .int .i64 a.1)]) (fun a => a.2)
        (fun _ => τ) ?_ (0, M) ⟨Nat.zero_le _, Nat.le_refl _, by simp⟩) rfl rfl rfl
      rintro ⟨j, M2⟩ ⟨hj, hM2, hfind⟩ ih2
      dsimp only at hj hM2 hfind ih2 ⊢
      by_cases hlt : j < S.length
      · refine awp_seq (awp_pures [1, 3, 8, 10, 31, 32, 33, 34] (by simp (disch := omega) only [go_sem, ↓reduceIte, xa, xb, xc, xd, xe, xf, xg, xh, xi, xj]; try rfl) ?_)
        refine awp_seq ?_
        refine awp_if rfl (fun _ => ?_) (fun h => by cases h)
        refine awp_skip ?_
        refine awp_seq (awp_block ?_)
        obtain ⟨id, off, cap, b, e1, e2, e3, e4⟩ := slAt_int hov' hlt
        cases e1
        first | refine awp_seq (awp_lit ?_) | refine awp_lit ?_ | refine awp_seq (awp_seq (awp_lit ?_))
        refine al_pureN 1 (by simp (disch := omega) only [go_sem, ↓reduceIte, xa, xb, xc, xd, xe, xf, xg, xh, xi, xj]; try rfl) ?_
        refine al_load rfl (by simp (disch := omega) only [go_sem, ↓reduceIte, xa, xb, xc, xd, xe, xf, xg, xh, xi, xj]) rfl (by simp (disch := omega) only [go_sem, ↓reduceIte, xa, xb, xc, xd, xe, xf, xg, xh, xi, xj]; try rfl) e2 (loadA_scalar agg3 e3) ?_
        refine al_pureN 1 (by simp (disch := omega) only [go_sem, ↓reduceIte, xa, xb, xc, xd, xe, xf, xg, xh, xi, xj]; try rfl) ?_
        refine al_end [1, 3, 8, 10, 12, 31, 32, 33] ?_
        have hxm := hSm _ (List.getElem_mem hlt)
        rw [List.drop_eq_getElem_cons hlt, List.find?_cons] at hfind
        obtain ⟨w, hw⟩ : ∃ w : Nat, S[j] = w := ⟨S[j].toNat, by omega⟩
        rw [hw] at hxm hfind ⊢
        refine awp_seq (awp_pures [1, 3, 8, 10, 12, 13, 31, 32, 33] (by simp (disch := omega) only [go_sem, ↓reduceIte, xa, xb, xc, xd, xe, xf, xg, xh, xi, xj]; try rfl) ?_)
        refine awp_seq ?_
        refine awp_seq (awp_pures [1, 3, 8, 10, 12, 13, 31, 32, 33, 37, 38, 39] (by simp (disch := omega) only [go_sem, ↓reduceIte, xa, xb, xc, xd, xe, xf, xg, xh, xi, xj]; try rfl) ?_)
        refine awp_block (awp_loop ?_)
        refine ALoop.cast3 (aloop_ind (α := Nat × Nat) (fun a => a.1 ≤ S.length ∧ M2 ≤ a.2) (fun a => S.length - a.1)
          (fun a => [(1, .int .i64 m), (3, .pointer (some ⟨N, 0, none⟩)), (8, .slice (some ⟨id, off, none⟩) S.length cc), (10, .bool false), (12, .int .i64 w), (13, .int .i64 (cntF ((S.take a.1).flatMap (opsF f g.as)) w : Nat)), (31, .slice (some ⟨id, off, none⟩) S.length cc), (32, .int .i64 S.length), (33, .int .i64 j), (37, .slice (some ⟨id, off, none⟩) S.length cc), (38, .int .i64 S.length), (39, .int .i64 a.1)]) (fun a => a.2)
          (fun _ => τ) ?_ (0, M2) ⟨Nat.zero_le _, Nat.le_refl _⟩) rfl rfl rfl
        rintro ⟨i, M3⟩ ⟨hi, hM3⟩ ih3
        dsimp only at hi hM3 ih3 ⊢
        by_cases hlt3 : i < S.length
        · refine awp_seq (awp_pures [1, 3, 8, 10, 12, 13, 31, 32, 33, 37, 38, 39, 40] (by simp (disch := omega) only [go_sem, ↓reduceIte, xa, xb, xc, xd, xe, xf, xg, xh, xi, xj]; try rfl) ?_)
          refine awp_seq ?_
          refine awp_if rfl (fun _ => ?_) (fun h => by cases h)
          refine awp_skip ?_
          refine awp_seq (awp_block ?_)
          obtain ⟨id2, off2, cap2, b2, f1, f2, f3, f4⟩ := slAt_int hov' hlt3
          cases f1
          first | refine awp_seq (awp_lit ?_) | refine awp_lit ?_ | refine awp_seq (awp_seq (awp_lit ?_))
          refine al_pureN 1 (by simp (disch := omega) only [go_sem, ↓reduceIte, xa, xb, xc, xd, xe, xf, xg, xh, xi, xj]; try rfl) ?_
          refine al_load rfl (by simp (disch := omega) only [go_sem, ↓reduceIte, xa, xb, xc, xd, xe, xf, xg, xh, xi, xj]) rfl (by simp (disch := omega) only [go_sem, ↓reduceIte, xa, xb, xc, xd, xe, xf, xg, xh, xi, xj]; try rfl) f2 (loadA_scalar agg3 f3) ?_
          refine al_pureN 1 (by simp (disch := omega) only [go_sem, ↓reduceIte, xa, xb, xc, xd, xe, xf, xg, xh, xi, xj]; try rfl) ?_
          refine al_end [1, 3, 8, 10, 12, 13, 15, 31, 32, 33, 37, 38, 39] ?_
          have hym := hSm _ (List.getElem_mem hlt3)
          obtain ⟨q, hq2⟩ : ∃ q : Nat, S[i] - (f : Int) = q := ⟨(S[i] - f).toNat, by omega⟩
          have hql : q < g.as.length := by omega
          obtain ⟨b1, b2', b3, b4⟩ := chkA_get hchk hql
          have hd3 := dom_up hdM (show M ≤ M3 by omega)
          obtain ⟨id3, off3, cap3, bb, g1, g2, g3, g4⟩ := rowsAt_pair (has.mono hστ) hql
          cases g1
          refine awp_seq (awp_mk [1, 3, 8, 10, 12, 13, 16, 31, 32, 33, 37, 38, 39] [8] [9] [] (by kernel_rfl) fun hNm => ?_)
          refine mk_pures 1 (by simp (disch := omega) only [go_sem, ↓reduceIte, xa, xb, xc, xd, xe, xf, xg, xh, xi, xj, hF, hq2]; try rfl) (by kernel_rfl) ?_
          refine mk_load rfl (by simp (disch := omega) only [go_sem, ↓reduceIte, xa, xb, xc, xd, xe, xf, xg, xh, xi, xj, hF, hq2]) rfl rfl (by simp (disch := omega) only [go_sem, ↓reduceIte, xa, xb, xc, xd, xe, xf, xg, xh, xi, xj, hF, hq2]; try rfl) (by first | exact AHeap.set_self _ _ _ | (simp only [AHeap.set, ↓reduceIte, ya, xd, yb, yc, yd, ye, yf, yg, xb, yh, hF, hq2]; rfl) | assumption) (by first | exact loadA_scalar agg23 rfl | exact loadA_agg agg23 rfl | exact loadA_scalar agg23 (by assumption)) ⟨_, rfl⟩ (by first | exact calm0 (by omega) | exact calm0 (hNm _ _ (by assumption)) | exact calm1 (by omega) (by omega) | exact calm2 (by omega) (by omega) (by omega) | exact calmA (by omega) (by kernel_rfl)) ?_
          refine mk_pures 1 (by simp (disch := omega) only [go_sem, ↓reduceIte, xa, xb, xc, xd, xe, xf, xg, xh, xi, xj, hF, hq2]; try rfl) (by kernel_rfl) ?_
          refine mk_load rfl (by simp (disch := omega) only [go_sem, ↓reduceIte, xa, xb, xc, xd, xe, xf, xg, xh, xi, xj, hF, hq2]) rfl rfl (by simp (disch := omega) only [go_sem, ↓reduceIte, xa, xb, xc, xd, xe, xf, xg, xh, xi, xj, hF, hq2]; try rfl) (by first | exact AHeap.set_self _ _ _ | (simp only [AHeap.set, ↓reduceIte, ya, xd, yb, yc, yd, ye, yf, yg, xb, yh, hF, hq2]; rfl) | assumption) (by first | exact loadA_scalar agg26 rfl | exact loadA_agg agg26 rfl | exact loadA_scalar agg26 (by assumption)) ⟨_, rfl⟩ (by first | exact calm0 (by omega) | exact calm0 (hNm _ _ (by assumption)) | exact calm1 (by omega) (by omega) | exact calm2 (by omega) (by omega) (by omega) | exact calmA (by omega) (by kernel_rfl)) ?_
          refine mk_gives (fun j => j < M3) rfl (by simp (disch := omega) only [go_sem, ↓reduceIte, xa, xb, xc, xd, xe, xf, xg, xh, xi, xj, hF, hq2]; try rfl) (by simp (disch := omega) only [go_sem, ↓reduceIte, xa, xb, xc, xd, xe, xf, xg, xh, xi, xj, hF, hq2]; try rfl) (fun _ h => calm0 h) (fun m => rfirst_gives (AigAt.mv (hv0.mono hστ) hd3 (AHeap.le_refl _)) hfew (by omega) (by omega)) (by kernel_rfl) rfl (by simp (disch := omega) only [go_sem, ↓reduceIte, xa, xb, xc, xd, xe, xf, xg, xh, xi, xj, hF, hq2]) rfl ?_
          refine mk_pures 2 (by simp (disch := omega) only [go_sem, ↓reduceIte, xa, xb, xc, xd, xe, xf, xg, xh, xi, xj, hF, hq2]; try rfl) (by kernel_rfl) ?_
          refine mk_load rfl (by simp (disch := omega) only [go_sem, ↓reduceIte, xa, xb, xc, xd, xe, xf, xg, xh, xi, xj, hF, hq2]) rfl rfl (by simp (disch := omega) only [go_sem, ↓reduceIte, xa, xb, xc, xd, xe, xf, xg, xh, xi, xj, hF, hq2]; try rfl) g2 (loadA_agg agg47 g3) ⟨_, g4⟩ (by first | exact calm0 (by omega) | exact calm0 (hNm _ _ (by assumption)) | exact calm1 (by omega) (by omega) | exact calm2 (by omega) (by omega) (by omega) | exact calmA (by omega) (by kernel_rfl)) ?_
          refine mk_alloc 1 (m := (M3)) rfl rfl rfl rfl rfl ty47 (by decide) rfl ?_
          refine mk_storeN (d := 8) (w := (M3)) (m := (M3 + 1)) rfl rfl (by simp (disch := omega) only [go_sem, ↓reduceIte, xa, xb, xc, xd, xe, xf, xg, xh, xi, xj, hF, hq2]) rfl (by simp (disch := omega) only [go_sem, ↓reduceIte, xa, xb, xc, xd, xe, xf, xg, xh, xi, xj, hF, hq2]; try rfl) (by simp (disch := omega) only [go_sem, ↓reduceIte, xa, xb, xc, xd, xe, xf, xg, xh, xi, xj, hF, hq2]; try rfl) (by first | exact AHeap.set_self _ _ _ | (simp only [AHeap.set, ↓reduceIte, ya, xd, yb, yc, yd, ye, yf, yg, xb, yh, hF, hq2]; rfl) | assumption) ⟨_, rfl⟩ rfl (by exact size47.trans rfl) (by rfl) (by exact Nat.le_of_ble_eq_true rfl) (by decide) rfl (of_decide_eq_true (by kernel_rfl)) (by kernel_rfl) rfl rfl (by omega) (.of_flat rfl) (by first | exact blk_flat (by decide) | exact blk_flat rfl) ?_
          refine mk_end ?_
          rw [AHeap.set_set]
          show Abs.Seq _ _ _ _ _ _ _ (M3 + 1) (τ.set M3 ⟨[.int .i64 g.as[q].1, .int .i64 g.as[q].2], true, .n 1⟩)
          obtain ⟨A, hAe⟩ : ∃ A, A = g.as[q].1 := ⟨_, rfl⟩
          obtain ⟨B, hBe⟩ : ∃ B, B = g.as[q].2 := ⟨_, rfl⟩
          have hops : opsF f g.as S[i] = [A, B] := by
            have h1 : S[i].toNat - f = q := by omega
            unfold opsF
            rw [h1, List.getD_eq_getElem?_getD, List.getElem?_eq_getElem hql, hAe, hBe]; rfl
          rw [← hAe] at b1 b2'
          rw [← hBe] at b3 b4
          rw [← hAe, ← hBe]
          have hle4 := le_new (b := ⟨[.int .i64 A, .int .i64 B], true, .n 1⟩) hd3 (Nat.le_refl _)
          obtain ⟨σ4, hσ4⟩ : ∃ σ4, σ4 = τ.set M3 ⟨[.int .i64 A, .int .i64 B], true, .n 1⟩ := ⟨_, rfl⟩
          have hX : σ4 M3 = some ⟨[.int .i64 A, .int .i64 B], true, .n 1⟩ := by rw [hσ4, AHeap.set_self]
          rw [← hσ4] at hle4 ⊢
          obtain ⟨p, hp⟩ : ∃ p, p = cntF ((S.take i).flatMap (opsF f g.as)) w := ⟨_, rfl⟩
          have hpl : p ≤ 2000 := by
            have h1 := cntF_le ((S.take i).flatMap (opsF f g.as)) w
            have h2 : ∀ L : List Int, (L.flatMap (opsF f g.as)).length = 2 * L.length := fun L => by
              induction L with
              | nil => rfl
              | cons x L ih => rw [List.flatMap_cons, List.length_append, ih]; simp [opsF]; omega
            rw [← hp, h2, List.length_take] at h1
            omega
          have hcnt : cntF ((S.take (i + 1)).flatMap (opsF f g.as)) w = p + (if A.toNat / 2 = w then 1 else 0) + (if B.toNat / 2 = w then 1 else 0) := by
            rw [take_snoc _ hlt3, List.flatMap_append, cntF_append, ← hp]
            simp only [List.flatMap_cons, List.flatMap_nil, List.append_nil, hops]
            simp [cntF, List.countP_cons]; omega
          rw [← hp]
          have hih := ih3 (i + 1, M3 + 1) ⟨hlt3, by dsimp only; omega⟩ (by dsimp only; omega)
          dsimp only at hih
          rw [hcnt] at hih
          have hih' := hih.forget (fun _ _ h => h) hle4
          refine awp_seq ?_
          by_cases hA : A.toNat / 2 = w
          · rw [if_pos hA] at hih'
            first | refine awp_seq (awp_lit ?_) | refine awp_lit ?_ | refine awp_seq (awp_seq (awp_lit ?_))
            refine al_pureN 1 (by simp (disch := omega) only [go_sem, ↓reduceIte, xa, xb, xc, xd, xe, xf, xg, xh, xi, xj]; try rfl) ?_
            refine al_load rfl (by simp (disch := omega) only [go_sem, ↓reduceIte, xa, xb, xc, xd, xe, xf, xg, xh, xi, xj]) rfl (by simp (disch := omega) only [go_sem, ↓reduceIte, xa, xb, xc, xd, xe, xf, xg, xh, xi, xj]; try rfl) (by first | exact AHeap.set_self _ _ _ | (simp only [AHeap.set, ↓reduceIte, ya, xd, yb, yc, yd, ye, yf, yg, xb, yh]; rfl) | assumption) (by first | exact loadA_scalar agg43 rfl | exact loadA_agg agg43 rfl | exact loadA_scalar agg43 (by assumption)) ?_
            refine al_pureN 3 (by simp (disch := omega) only [go_sem, ↓reduceIte, xa, xb, xc, xd, xe, xf, xg, xh, xi, xj]; try rfl) ?_
            refine al_end [1, 3, 8, 10, 12, 13, 16, 31, 32, 33, 37, 38, 39, 55] ?_
            refine awp_if rfl (fun _ => ?_) (fun h => by cases h)
            refine awp_pures [1, 3, 8, 10, 12, 13, 16, 31, 32, 33, 37, 38, 39] (by simp (disch := omega) only [go_sem, ↓reduceIte, xa, xb, xc, xd, xe, xf, xg, xh, xi, xj]; try rfl) ?_
            by_cases hB : B.toNat / 2 = w
            · rw [if_pos hB] at hih'
              first | refine awp_seq (awp_lit ?_) | refine awp_lit ?_ | refine awp_seq (awp_seq (awp_lit ?_))
              refine al_pureN 1 (by simp (disch := omega) only [go_sem, ↓reduceIte, xa, xb, xc, xd, xe, xf, xg, xh, xi, xj]; try rfl) ?_
              refine al_load rfl (by simp (disch := omega) only [go_sem, ↓reduceIte, xa, xb, xc, xd, xe, xf, xg, xh, xi, xj]) rfl (by simp (disch := omega) only [go_sem, ↓reduceIte, xa, xb, xc, xd, xe, xf, xg, xh, xi, xj]; try rfl) (by first | exact AHeap.set_self _ _ _ | (simp only [AHeap.set, ↓reduceIte, ya, xd, yb, yc, yd, ye, yf, yg, xb, yh]; rfl) | assumption) (by first | exact loadA_scalar agg43 rfl | exact loadA_agg agg43 rfl | exact loadA_scalar agg43 (by assumption)) ?_
              refine al_pureN 3 (by simp (disch := omega) only [go_sem, ↓reduceIte, xa, xb, xc, xd, xe, xf, xg, xh, xi, xj]; try rfl) ?_
              refine al_end [1, 3, 8, 10, 12, 13, 31, 32, 33, 37, 38, 39, 62] ?_
              refine awp_if rfl (fun _ => ?_) (fun h => by cases h)
              refine awp_pures [1, 3, 8, 10, 12, 13, 31, 32, 33, 37, 38, 39] (by simp (disch := omega) only [go_sem, ↓reduceIte, xa, xb, xc, xd, xe, xf, xg, xh, xi, xj]; try rfl) ?_
              refine awp_pures [1, 3, 8, 10, 12, 13, 31, 32, 33, 37, 38, 39] (by simp (disch := omega) only [go_sem, ↓reduceIte, xa, xb, xc, xd, xe, xf, xg, xh, xi, xj]; try rfl) ?_
              exact ALoop.cast3 hih' rfl rfl rfl
            · rw [if_neg hB] at hih'
              first | refine awp_seq (awp_lit ?_) | refine awp_lit ?_ | refine awp_seq (awp_seq (awp_lit ?_))
              refine al_pureN 1 (by simp (disch := omega) only [go_sem, ↓reduceIte, xa, xb, xc, xd, xe, xf, xg, xh, xi, xj]; try rfl) ?_
              refine al_load rfl (by simp (disch := omega) only [go_sem, ↓reduceIte, xa, xb, xc, xd, xe, xf, xg, xh, xi, xj]) rfl (by simp (disch := omega) only [go_sem, ↓reduceIte, xa, xb, xc, xd, xe, xf, xg, xh, xi, xj]; try rfl) (by first | exact AHeap.set_self _ _ _ | (simp only [AHeap.set, ↓reduceIte, ya, xd, yb, yc, yd, ye, yf, yg, xb, yh]; rfl) | assumption) (by first | exact loadA_scalar agg43 rfl | exact loadA_agg agg43 rfl | exact loadA_scalar agg43 (by assumption)) ?_
              refine al_pureN 3 (by simp (disch := omega) only [go_sem, ↓reduceIte, xa, xb, xc, xd, xe, xf, xg, xh, xi, xj]; try rfl) ?_
              refine al_end [1, 3, 8, 10, 12, 13, 31, 32, 33, 37, 38, 39, 62] ?_
              refine awp_if rfl (fun h => by cases h) (fun _ => ?_)
              refine awp_skip ?_
              refine awp_pures [1, 3, 8, 10, 12, 13, 31, 32, 33, 37, 38, 39] (by simp (disch := omega) only [go_sem, ↓reduceIte, xa, xb, xc, xd, xe, xf, xg, xh, xi, xj]; try rfl) ?_
              exact ALoop.cast3 hih' rfl rfl rfl
          · rw [if_neg hA] at hih'
            first | refine awp_seq (awp_lit ?_) | refine awp_lit ?_ | refine awp_seq (awp_seq (awp_lit ?_))
            refine al_pureN 1 (by simp (disch := omega) only [go_sem, ↓reduceIte, xa, xb, xc, xd, xe, xf, xg, xh, xi, xj]; try rfl) ?_
            refine al_load rfl (by simp (disch := omega) only [go_sem, ↓reduceIte, xa, xb, xc, xd, xe, xf, xg, xh, xi, xj]) rfl (by simp (disch := omega) only [go_sem, ↓reduceIte, xa, xb, xc, xd, xe, xf, xg, xh, xi, xj]; try rfl) (by first | exact AHeap.set_self _ _ _ | (simp only [AHeap.set, ↓reduceIte, ya, xd, yb, yc, yd, ye, yf, yg, xb, yh]; rfl) | assumption) (by first | exact loadA_scalar agg43 rfl | exact loadA_agg agg43 rfl | exact loadA_scalar agg43 (by assumption)) ?_
            refine al_pureN 3 (by simp (disch := omega) only [go_sem, ↓reduceIte, xa, xb, xc, xd, xe, xf, xg, xh, xi, xj]; try rfl) ?_
            refine al_end [1, 3, 8, 10, 12, 13, 16, 31, 32, 33, 37, 38, 39, 55] ?_
            refine awp_if rfl (fun h => by cases h) (fun _ => ?_)
            refine awp_skip ?_
            by_cases hB : B.toNat / 2 = w
            · rw [if_pos hB] at hih'
              first | refine awp_seq (awp_lit ?_) | refine awp_lit ?_ | refine awp_seq (awp_seq (awp_lit ?_))
              refine al_pureN 1 (by simp (disch := omega) only [go_sem, ↓reduceIte, xa, xb, xc, xd, xe, xf, xg, xh, xi, xj]; try rfl) ?_
              refine al_load rfl (by simp (disch := omega) only [go_sem, ↓reduceIte, xa, xb, xc, xd, xe, xf, xg, xh, xi, xj]) rfl (by simp (disch := omega) only [go_sem, ↓reduceIte, xa, xb, xc, xd, xe, xf, xg, xh, xi, xj]; try rfl) (by first | exact AHeap.set_self _ _ _ | (simp only [AHeap.set, ↓reduceIte, ya, xd, yb, yc, yd, ye, yf, yg, xb, yh]; rfl) | assumption) (by first | exact loadA_scalar agg43 rfl | exact loadA_agg agg43 rfl | exact loadA_scalar agg43 (by assumption)) ?_
              refine al_pureN 3 (by simp (disch := omega) only [go_sem, ↓reduceIte, xa, xb, xc, xd, xe, xf, xg, xh, xi, xj]; try rfl) ?_
              refine al_end [1, 3, 8, 10, 12, 13, 31, 32, 33, 37, 38, 39, 62] ?_
              refine awp_if rfl (fun _ => ?_) (fun h => by cases h)
              refine awp_pures [1, 3, 8, 10, 12, 13, 31, 32, 33, 37, 38, 39] (by simp (disch := omega) only [go_sem, ↓reduceIte, xa, xb, xc, xd, xe, xf, xg, xh, xi, xj]; try rfl) ?_
              refine awp_pures [1, 3, 8, 10, 12, 13, 31, 32, 33, 37, 38, 39] (by simp (disch := omega) only [go_sem, ↓reduceIte, xa, xb, xc, xd, xe, xf, xg, xh, xi, xj]; try rfl) ?_
              exact ALoop.cast3 hih' rfl rfl rfl
            · rw [if_neg hB] at hih'
              first | refine awp_seq (awp_lit ?_) | refine awp_lit ?_ | refine awp_seq (awp_seq (awp_lit ?_))
              refine al_pureN 1 (by simp (disch := omega) only [go_sem, ↓reduceIte, xa, xb, xc, xd, xe, xf, xg, xh, xi, xj]; try rfl) ?_
              refine al_load rfl (by simp (disch := omega) only [go_sem, ↓reduceIte, xa, xb, xc, xd, xe, xf, xg, xh, xi, xj]) rfl (by simp (disch := omega) only [go_sem, ↓reduceIte, xa, xb, xc, xd, xe, xf, xg, xh, xi, xj]; try rfl) (by first | exact AHeap.set_self _ _ _ | (simp only [AHeap.set, ↓reduceIte, ya, xd, yb, yc, yd, ye, yf, yg, xb, yh]; rfl) | assumption) (by first | exact loadA_scalar agg43 rfl | exact loadA_agg agg43 rfl | exact loadA_scalar agg43 (by assumption)) ?_
              refine al_pureN 3 (by simp (disch := omega) only [go_sem, ↓reduceIte, xa, xb, xc, xd, xe, xf, xg, xh, xi, xj]; try rfl) ?_
              refine al_end [1, 3, 8, 10, 12, 13, 31, 32, 33, 37, 38, 39, 62] ?_
              refine awp_if rfl (fun h => by cases h) (fun _ => ?_)
              refine awp_skip ?_
              refine awp_pures [1, 3, 8, 10, 12, 13, 31, 32, 33, 37, 38, 39] (by simp (disch := omega) only [go_sem, ↓reduceIte, xa, xb, xc, xd, xe, xf, xg, xh, xi, xj]; try rfl) ?_
              exact ALoop.cast3 hih' rfl rfl rfl
        · have him : i = S.length := by omega
          refine awp_seq (awp_pures [1, 3, 8, 10, 12, 13, 31, 32, 33, 37, 38, 39, 40] (by simp (disch := omega) only [go_sem, ↓reduceIte, xa, xb, xc, xd, xe, xf, xg, xh, xi, xj]; try rfl) ?_)
          refine awp_seq ?_
          refine awp_if rfl (fun h => by cases h) (fun _ => ?_)
          refine awp_exit ?_
          simp only [Go.Abs.Seq, Go.Abs.Round, Go.Abs.InBlock, ↓reduceIte]
          rw [him, List.take_length]
          clear ih3 hi him hlt3
          obtain ⟨c, hcd⟩ : ∃ c, c = cntF (S.flatMap (opsF f g.as)) w := ⟨_, rfl⟩
          have hbr : badR f g.as us m S w = (decide ((w : Int) ≠ m) && decide (c < us w)) := by rw [hcd]; rfl
          have hub := husb w
          rw [← hcd]
          by_cases hwm : w = m
          · have hb0 : badR f g.as us m S w = false := by rw [hbr, hwm]; simp
            rw [hb0] at hfind
            refine awp_seq ?_
            first | refine awp_seq (awp_lit ?_) | refine awp_lit ?_ | refine awp_seq (awp_seq (awp_lit ?_))
            refine al_pureN 5 (by simp (disch := omega) only [go_sem, ↓reduceIte, xa, xb, xc, xd, xe, xf, xg, xh, xi, xj]; try rfl) ?_
            first | (refine al_skipB ?_ rfl ?_; focus (simp (disch := omega) only [go_sem, ↓reduceIte, xa, xb, xc, xd, xe, xf, xg, xh, xi, xj]; done)) | refine al_load rfl (by simp (disch := omega) only [go_sem, ↓reduceIte, xa, xb, xc, xd, xe, xf, xg, xh, xi, xj]) rfl (by simp (disch := omega) only [go_sem, ↓reduceIte, xa, xb, xc, xd, xe, xf, xg, xh, xi, xj]; try rfl) (by first | exact AHeap.set_self _ _ _ | (simp only [AHeap.set, ↓reduceIte, ya, xd, yb, yc, yd, ye, yf, yg, xb, yh]; rfl) | assumption) (by first | exact loadA_scalar agg26 rfl | exact loadA_agg agg26 rfl | exact loadA_scalar agg26 (by assumption)) ?_
            first | (refine al_skipB ?_ rfl ?_; focus (simp (disch := omega) only [go_sem, ↓reduceIte, xa, xb, xc, xd, xe, xf, xg, xh, xi, xj]; done)) | refine al_givesC rfl (by simp (disch := omega) only [go_sem, ↓reduceIte, xa, xb, xc, xd, xe, xf, xg, xh, xi, xj]; try rfl) (by simp (disch := omega) only [go_sem, ↓reduceIte, xa, xb, xc, xd, xe, xf, xg, xh, xi, xj]; try rfl) (x) (by kernel_rfl) rfl (by simp (disch := omega) only [go_sem, ↓reduceIte, xa, xb, xc, xd, xe, xf, xg, xh, xi, xj]) ?_
            refine al_pureN 2 (by simp (disch := omega) only [go_sem, ↓reduceIte, xa, xb, xc, xd, xe, xf, xg, xh, xi, xj]; try rfl) ?_
            first | (refine al_skipB ?_ rfl ?_; focus (simp (disch := omega) only [go_sem, ↓reduceIte, xa, xb, xc, xd, xe, xf, xg, xh, xi, xj]; done)) | refine al_load rfl (by simp (disch := omega) only [go_sem, ↓reduceIte, xa, xb, xc, xd, xe, xf, xg, xh, xi, xj]) rfl (by simp (disch := omega) only [go_sem, ↓reduceIte, xa, xb, xc, xd, xe, xf, xg, xh, xi, xj]; try rfl) (by first | exact AHeap.set_self _ _ _ | (simp only [AHeap.set, ↓reduceIte, ya, xd, yb, yc, yd, ye, yf, yg, xb, yh]; rfl) | assumption) (by first | exact loadA_scalar agg3 rfl | exact loadA_agg agg3 rfl | exact loadA_scalar agg3 (by assumption)) ?_
            refine al_pureN 2 (by simp (disch := omega) only [go_sem, ↓reduceIte, xa, xb, xc, xd, xe, xf, xg, xh, xi, xj]; try rfl) ?_
            refine al_end [1, 3, 8, 10, 12, 31, 32, 33, 77] ?_
            refine awp_if rfl (fun h => by cases h) (fun _ => ?_)
            refine awp_skip ?_
            refine awp_pures [1, 3, 8, 10, 31, 32, 33] (by simp (disch := omega) only [go_sem, ↓reduceIte, xa, xb, xc, xd, xe, xf, xg, xh, xi, xj]; try rfl) ?_
            exact ALoop.cast3 (ih2 (j + 1, M3) ⟨hlt, by dsimp only; omega, hfind⟩ (by dsimp only; omega)) rfl rfl rfl
          · have hwm' : (w : Int) ≠ m := by omega
            have hgp : ∀ {x y : Nat}, True → True := fun _ => trivial
            refine awp_seq ?_
            first | refine awp_seq (awp_lit ?_) | refine awp_lit ?_ | refine awp_seq (awp_seq (awp_lit ?_))
            refine al_pureN 5 (by simp (disch := omega) only [go_sem, ↓reduceIte, xa, xb, xc, xd, xe, xf, xg, xh, xi, xj]; try rfl) ?_
            refine al_load rfl (by simp (disch := omega) only [go_sem, ↓reduceIte, xa, xb, xc, xd, xe, xf, xg, xh, xi, xj]) rfl (by simp (disch := omega) only [go_sem, ↓reduceIte, xa, xb, xc, xd, xe, xf, xg, xh, xi, xj]; try rfl) hG3 (loadA_agg agg26 rfl) ?_
            refine al_fun (Uses_ok (hv0.mono hστ) hfew hV hnn) rfl (by simp (disch := omega) only [go_sem, ↓reduceIte, xa, xb, xc, xd, xe, xf, xg, xh, xi, xj]; try rfl) (by kernel_rfl) rfl (by simp (disch := omega) only [go_sem, ↓reduceIte, xa, xb, xc, xd, xe, xf, xg, xh, xi, xj]; try rfl) ?_
            rintro r N4 σ4 ⟨huu, hle4, hN4⟩
            rw [← hus] at huu
            have huus := huu.slAt
            obtain ⟨id4, off4, cap4, b4, u1, u2, u3, u4⟩ := huus.at (j := w) (by rw [nums_len]; omega)
            rw [nums_len] at u1
            have u3' : b4.cells[off4 + w]? = some (.int .i64 ((us w : Nat) : Int)) := by rw [u3]; simp [nums]
            subst u1
            refine al_pureN 2 (by simp (disch := omega) only [go_sem, ↓reduceIte, xa, xb, xc, xd, xe, xf, xg, xh, xi, xj]; try rfl) ?_
            refine al_load rfl (by simp (disch := omega) only [go_sem, ↓reduceIte, xa, xb, xc, xd, xe, xf, xg, xh, xi, xj]) rfl (by simp (disch := omega) only [go_sem, ↓reduceIte, xa, xb, xc, xd, xe, xf, xg, xh, xi, xj]; try rfl) u2 (loadA_scalar agg3 u3') ?_
            by_cases hbad : c < us w
            · have hb1 : badR f g.as us m S w = true := by rw [hbr]; simp [hwm', hbad]
              rw [hb1] at hfind
              refine al_pureN 2 (by simp (disch := omega) only [go_sem, ↓reduceIte, xa, xb, xc, xd, xe, xf, xg, xh, xi, xj]; try rfl) ?_
              refine al_end [1, 3, 8, 10, 12, 31, 32, 33, 77] ?_
              refine AWp.forget (σ' := τ) ?_ (fun _ _ h => h) hle4
              have hq2 := freeQ_some hfind
              refine awp_if rfl (fun _ => ?_) (fun h => by cases h)
              refine awp_seq (awp_pures [1, 3, 8, 12, 17] (by simp (disch := omega) only [go_sem, ↓reduceIte, xa, xb, xc, xd, xe, xf, xg, xh, xi, xj]; try rfl) ?_)
              refine awp_seq ?_
              refine awp_seq (awp_pures [1, 3, 12, 17, 78, 79, 80] (by simp (disch := omega) only [go_sem, ↓reduceIte, xa, xb, xc, xd, xe, xf, xg, xh, xi, xj]; try rfl) ?_)
              refine awp_block (awp_loop ?_)
              refine ALoop.cast3 (aloop_ind (α := Nat × Nat × AHeap × Value) (fun a => a.1 ≤ S.length ∧ N4 ≤ a.2.1 ∧ OwnAt a.2.2.1 M a.2.2.2 (ints (dropR (S.take a.1) w)) (dropR (S.take a.1) w).length 1 ∧ τ.le a.2.2.1) (fun a => S.length - a.1)
                (fun a => [(1, .int .i64 m), (3, .pointer (some ⟨N, 0, none⟩)), (12, .int .i64 w), (17, a.2.2.2), (78, .slice (some ⟨id, off, none⟩) S.length cc), (79, .int .i64 S.length), (80, .int .i64 a.1)]) (fun a => a.2.1)
                (fun a => a.2.2.1) ?_ (0, N4, τ, .slice none 0 0) ⟨Nat.zero_le _, Nat.le_refl _, .nil, AHeap.le_refl _⟩) rfl rfl rfl
              rintro ⟨i, M5, ρ, rv⟩ ⟨hi, hM5, hrv, hρ⟩ ih5
              dsimp only at hi hM5 hrv hρ ih5 ⊢
              have hfl : (dropR (S.take i) w).length ≤ 200 := by
                have h1 : (dropR (S.take i) w).length ≤ (S.take i).length := List.length_filter_le _ _
                rw [List.length_take] at h1; omega
              by_cases hlt5 : i < S.length
              · refine awp_seq (awp_pures [1, 3, 12, 17, 78, 79, 80, 81] (by simp (disch := omega) only [go_sem, ↓reduceIte, xa, xb, xc, xd, xe, xf, xg, xh, xi, xj]; try rfl) ?_)
                refine awp_seq ?_
                refine awp_if rfl (fun _ => ?_) (fun h => by cases h)
                refine awp_skip ?_
                refine awp_seq (awp_block ?_)
                obtain ⟨id5, off5, cap5, b5, f1, f2, f3, f4⟩ := slAt_int (hov'.mono hρ) hlt5
                cases f1
                first | refine awp_seq (awp_lit ?_) | refine awp_lit ?_ | refine awp_seq (awp_seq (awp_lit ?_))
                refine al_pureN 1 (by simp (disch := omega) only [go_sem, ↓reduceIte, xa, xb, xc, xd, xe, xf, xg, xh, xi, xj]; try rfl) ?_
                refine al_load rfl (by simp (disch := omega) only [go_sem, ↓reduceIte, xa, xb, xc, xd, xe, xf, xg, xh, xi, xj]) rfl (by simp (disch := omega) only [go_sem, ↓reduceIte, xa, xb, xc, xd, xe, xf, xg, xh, xi, xj]; try rfl) f2 (loadA_scalar agg3 f3) ?_
                refine al_pureN 1 (by simp (disch := omega) only [go_sem, ↓reduceIte, xa, xb, xc, xd, xe, xf, xg, xh, xi, xj]; try rfl) ?_
                refine al_end [1, 3, 12, 17, 19, 78, 79, 80] ?_
                have hsn : dropR (S.take (i + 1)) w = dropR (S.take i) w ++ (if S[i] = w then [] else [S[i]]) := by
                  unfold dropR
                  rw [take_snoc _ hlt5, List.filter_append]
                  congr 1
                  by_cases h : S[i] = w <;> simp [h]
                by_cases hx : S[i] = (w : Int)
                · rw [if_pos hx, List.append_nil] at hsn
                  refine awp_seq (awp_pures [1, 3, 12, 17, 19, 78, 79, 80, 86] (by simp (disch := omega) only [go_sem, ↓reduceIte, xa, xb, xc, xd, xe, xf, xg, xh, xi, xj]; try rfl) ?_)
                  refine awp_if rfl (fun h => by cases h) (fun _ => ?_)
                  refine awp_skip ?_
                  refine awp_pures [1, 3, 12, 17, 78, 79, 80] (by simp (disch := omega) only [go_sem, ↓reduceIte, xa, xb, xc, xd, xe, xf, xg, xh, xi, xj]; try rfl) ?_
                  exact ALoop.cast3 (ih5 (i + 1, M5, ρ, rv) ⟨hlt5, hM5, by rw [hsn]; exact hrv, hρ⟩ (by dsimp only; omega)) rfl rfl rfl
                · rw [if_neg hx] at hsn
                  refine awp_seq (awp_pures [1, 3, 12, 17, 19, 78, 79, 80, 86] (by simp (disch := omega) only [go_sem, ↓reduceIte, xa, xb, xc, xd, xe, xf, xg, xh, xi, xj]; try rfl) ?_)
                  refine awp_if rfl (fun _ => ?_) (fun h => by cases h)
                  refine awp_lit ?_
                  refine al_pureN 2 (by simp (disch := omega) only [go_sem, ↓reduceIte, xa, xb, xc, xd, xe, xf, xg, xh, xi, xj]; try rfl) ?_
                  refine al_push rfl rfl rfl (by simp (disch := omega) only [go_sem, ↓reduceIte, xa, xb, xc, xd, xe, xf, xg, xh, xi, xj]; try rfl) (by simp (disch := omega) only [go_sem, ↓reduceIte, xa, xb, xc, xd, xe, xf, xg, xh, xi, xj]; try rfl) rfl rfl Try.underlying35 ty3 rfl rfl rfl (by simp (disch := omega) only [go_sem, ↓reduceIte, xa, xb, xc, xd, xe, xf, xg, xh, xi, xj]; try rfl) (by simp (disch := omega) only [go_sem, ↓reduceIte, xa, xb, xc, xd, xe, xf, xg, xh, xi, xj]; try rfl) rfl rfl hrv (by omega) (by omega) (by omega) ?_
                  intro N' σ' v' hN' hown' hkeep
                  refine al_pureN 1 (by simp (disch := omega) only [go_sem, ↓reduceIte, xa, xb, xc, xd, xe, xf, xg, xh, xi, xj]; try rfl) ?_
                  refine al_end [1, 3, 12, 17, 78, 79, 80] ?_
                  refine awp_pures [1, 3, 12, 17, 78, 79, 80] (by simp (disch := omega) only [go_sem, ↓reduceIte, xa, xb, xc, xd, xe, xf, xg, xh, xi, xj]; try rfl) ?_
                  have hints : ints (dropR (S.take i) w) ++ [.int .i64 S[i]] = ints (dropR (S.take (i + 1)) w) := by rw [hsn]; simp [ints]
                  have hlen5 : (dropR (S.take i) w).length + 1 = (dropR (S.take (i + 1)) w).length := by rw [hsn]; simp
                  rw [hints, hlen5] at hown'
                  exact ALoop.cast3 (ih5 (i + 1, N', σ', v') ⟨hlt5, by dsimp only; omega, hown', hkeep _ hρ hdM⟩ (by dsimp only; omega)) rfl rfl rfl
              · have him : i = S.length := by omega
                rw [him, List.take_length] at hrv
                refine awp_seq (awp_pures [1, 3, 12, 17, 78, 79, 80, 81] (by simp (disch := omega) only [go_sem, ↓reduceIte, xa, xb, xc, xd, xe, xf, xg, xh, xi, xj]; try rfl) ?_)
                refine awp_seq ?_
                refine awp_if rfl (fun h => by cases h) (fun _ => ?_)
                refine awp_exit ?_
                simp only [Go.Abs.Seq, Go.Abs.Round, Go.Abs.InBlock, ↓reduceIte]
                refine awp_seq (awp_pures [1, 3, 8, 10] (by simp (disch := omega) only [go_sem, ↓reduceIte, xa, xb, xc, xd, xe, xf, xg, xh, xi, xj]; try rfl) ?_)
                refine awp_exit ?_
                simp only [Go.Abs.Seq, Go.Abs.Round, Go.Abs.InBlock, ↓reduceIte]
                have hsub : ∀ x ∈ dropR S w, x ∈ S := fun x hx => (List.mem_filter.1 hx).1
                have hlt6 := filter_lt (List.mem_of_find?_eq_some hfind)
                refine aloop_fresh fun hd5 => ?_
                exact ALoop.cast3 (ih ⟨dropR S w, true, M5, ρ, rv⟩ ⟨hq.trans hq2, (fun h => by cases h), fun x hx => hSm x (hsub x hx), by dsimp only; omega, by dsimp only; omega, hrv.mono (fun _ _ _ h => h) (by omega), hτ2.trans hρ, hd5⟩ (by show 2 * (dropR S w).length + 1 < 2 * S.length + 1; omega)) rfl rfl rfl
            · have hb0 : badR f g.as us m S w = false := by rw [hbr]; simp [hbad]
              rw [hb0] at hfind
              refine al_pureN 2 (by simp (disch := omega) only [go_sem, ↓reduceIte, xa, xb, xc, xd, xe, xf, xg, xh, xi, xj]; try rfl) ?_
              refine al_end [1, 3, 8, 10, 12, 31, 32, 33, 77] ?_
              refine AWp.forget (σ' := τ) ?_ (fun _ _ h => h) hle4
              refine awp_if rfl (fun h => by cases h) (fun _ => ?_)
              refine awp_skip ?_
              refine awp_pures [1, 3, 8, 10, 31, 32, 33] (by simp (disch := omega) only [go_sem, ↓reduceIte, xa, xb, xc, xd, xe, xf, xg, xh, xi, xj]; try rfl) ?_
              exact ALoop.cast3 (ih2 (j + 1, N4) ⟨hlt, by dsimp only; omega, hfind⟩ (by dsimp only; omega)) rfl rfl rfl
      · have hjm : j = S.length := by omega
        rw [hjm, List.drop_length, List.find?_nil] at hfind
        refine awp_seq (awp_pures [1, 3, 8, 10, 31, 32, 33, 34] (by simp (disch := omega) only [go_sem, ↓reduceIte, xa, xb, xc, xd, xe, xf, xg, xh, xi, xj]; try rfl) ?_)
        refine awp_seq ?_
        refine awp_if rfl (fun h => by cases h) (fun _ => ?_)
        refine awp_exit ?_
        simp only [Go.Abs.Seq, Go.Abs.Round, Go.Abs.InBlock, ↓reduceIte]
        refine aloop_fresh fun hd5 => ?_
        exact ALoop.forget (ih ⟨S, false, M2, τ, .slice cb S.length cc⟩ ⟨hq, fun _ => freeQ_none hfind, hSm, hSl, by dsimp only; omega, hov, hτ2, hd5⟩ (by show 2 * S.length + 0 < 2 * S.length + 1; omega)) (by intro t u h; exact Env.keep_get _ [1, 3, 8, 10] t u h) (AHeap.le_refl _)
  · have hFR : FreeQ g l node = ([], (ConeR g l node).2) := by unfold FreeQ; rw [if_neg he]
    rw [hFR]
    refine awp_seq ?_
    refine awp_seq (awp_pures [1, 3, 8, 9, 28] (by simp (disch := omega) only [go_sem, ↓reduceIte, xa, xb, xc, xd, xe, xf, xg, xh, xi, xj]; try rfl) ?_)
    refine awp_if rfl (fun _ => ?_) (fun h => by cases h)
    refine awp_seq (awp_pures [6, 7] (by simp (disch := omega) only [go_sem, ↓reduceIte, xa, xb, xc, xd, xe, xf, xg, xh, xi, xj]; try rfl) ?_)
    exact awp_ret ⟨_, res_tt rfl rfl rfl, .slice none 0 0, rfl, .nil, hσ2, by omega⟩
end Go.Proofs.Ytfialjllclclkaa

set_option linter.unusedSimpArgs false
set_option linter.unusedVariables false
namespace Go.Proofs.Ytfialjllclclkaa
open Go.Abs
set_option maxRecDepth 1000000 in
theorem Awk_run : runF Try.prog [] 100 12 [] = some (.bool true) := by kernel_rfl
theorem Awk_gives (N : Nat) (σ : AHeap) : Gives Try.prog 12 [] N σ (.bool true) := gives_runF .nil 100 Awk_run rfl rfl N σ
end Go.Proofs.Ytfialjllclclkaa

set_option maxHeartbeats 4000000
set_option linter.unusedSimpArgs false
set_option linter.unusedVariables false
namespace Go.Proofs.Ytfialjllclclkaa
open Go.Abs Go.Cut Go.Tab
attribute [local go_sem] Try.underlying26 Try.underlying3 Try.underlying22 Try.underlying23 Try.underlying24 Try.underlying35 Try.underlying37 Try.underlying43 Try.underlying45 Try.underlying47 Try.underlying5 Try.underlying4 Try.underlying30 size26 size3 size22 size23 size24 size35 size37 size43 size45 size47 size5 size4 size30 Nat.mul_one gt_iff_lt ge_iff_le au_add au_sub au_quo au_rem au_lt au_nl au_le au_ne au_bt au_bf au_nt au_nf au_tf au_ft au_wu au_wi undef
open Nat renaming reduceLT → xa, reduceEqDiff → xb, reduceLeDiff → xc, reduceAdd → xd, reduceMul → xe, reduceBEq → xj, add_assoc → ya, add_left_cancel_iff → yb, add_right_cancel_iff → yc, left_eq_add → yd, add_eq_left → ye, add_eq_right → yf, right_eq_add → yg, succ_ne_zero → yh
open Int renaming reduceLT → xf, reduceLE → xg, reduceToNat → xh
open BitVec renaming reduceOfInt → xi
theorem Same_gives {k l : List Int} {u v : Value} {N : Nat} {σ : AHeap} (hu : SlAt σ u (ints k)) (hv : SlAt σ v (ints l)) (hk : k.length ≤ 1000000) (hl : l.length ≤ 1000000) : Gives Try.prog 15 [u, v] N σ (.bool (decide (k = l))) := by
  have hol : ∀ l : List Int, (ints l).length = l.length := fun l => by simp [ints]
  obtain ⟨sb, sc, rfl⟩ := hu.len
  obtain ⟨tb, tc, rfl⟩ := hv.len
  rw [hol] at hu hv ⊢
  rw [hol]
  refine gives_of rfl (aok_fresh fun hN => aok_body (r := false) (n := 26) Try.func15 rfl rfl (by simp) ?_)
  refine awp_seq (awp_pures [0, 1] (by simp (disch := omega) only [go_sem, ↓reduceIte, xa, xb, xc, xd, xe, xf, xg, xh, xi, xj]; try rfl) ?_)
  by_cases hlen : k.length = l.length
  · refine awp_seq ?_
    refine awp_seq (awp_pures [0, 1, 10] (by simp (disch := omega) only [go_sem, ↓reduceIte, xa, xb, xc, xd, xe, xf, xg, xh, xi, xj]; try rfl) ?_)
    refine awp_if rfl (fun h => by cases h) (fun _ => ?_)
    refine awp_skip ?_
    refine awp_seq ?_
    refine awp_seq (awp_pures [0, 1, 5] (by simp (disch := omega) only [go_sem, ↓reduceIte, xa, xb, xc, xd, xe, xf, xg, xh, xi, xj]; try rfl) ?_)
    refine awp_block (awp_loop ?_)
    refine ALoop.cast3 (aloop_ind (α := Nat) (fun a => a ≤ k.length ∧ k.take a = l.take a) (fun a => k.length - a)
      (fun a => [(0, .slice sb k.length sc), (1, .slice tb l.length tc), (5, .int .i64 a)]) (fun _ => N) (fun _ => σ) ?_ 0 ⟨Nat.zero_le _, rfl⟩) rfl rfl rfl
    rintro j ⟨hj, hpre⟩ ih
    by_cases hlt : j < k.length
    · refine awp_seq ?_
      refine awp_seq (awp_pures [0, 1, 5, 14] (by simp (disch := omega) only [go_sem, ↓reduceIte, xa, xb, xc, xd, xe, xf, xg, xh, xi, xj]; try rfl) ?_)
      refine awp_if rfl (fun _ => ?_) (fun h => by cases h)
      refine awp_skip ?_
      refine awp_seq (awp_block ?_)
      obtain ⟨id, off, cap, b, e1, e2, e3, e4⟩ := slAt_int hu hlt
      cases e1
      obtain ⟨id2, off2, cap2, b2, f1, f2, f3, f4⟩ := slAt_int hv (show j < l.length by omega)
      cases f1
      have hlt2 : j < l.length := by omega
      by_cases he : k[j] = l[j]
      · refine awp_seq (awp_quiet [0, 1, 5, 25] (by kernel_rfl) fun hNq => ?_)
        refine tq_pures 3 (by simp (disch := omega) only [go_sem, ↓reduceIte, xa, xb, xc, xd, xe, xf, xg, xh, xi, xj]; try rfl) ?_
        refine tq_load hNq rfl (by simp (disch := omega) only [go_sem, ↓reduceIte, xa, xb, xc, xd, xe, xf, xg, xh, xi, xj]; try rfl) rfl (by simp (disch := omega) only [go_sem, ↓reduceIte, xa, xb, xc, xd, xe, xf, xg, xh, xi, xj]; try rfl) e2 (⟨_, e4⟩) (loadA_scalar agg3 e3) ?_
        refine tq_pures 3 (by simp (disch := omega) only [go_sem, ↓reduceIte, xa, xb, xc, xd, xe, xf, xg, xh, xi, xj]; try rfl) ?_
        refine tq_load hNq rfl (by simp (disch := omega) only [go_sem, ↓reduceIte, xa, xb, xc, xd, xe, xf, xg, xh, xi, xj]; try rfl) rfl (by simp (disch := omega) only [go_sem, ↓reduceIte, xa, xb, xc, xd, xe, xf, xg, xh, xi, xj]; try rfl) f2 (⟨_, f4⟩) (loadA_scalar agg3 f3) ?_
        refine tq_pures 1 (by simp (disch := omega) only [go_sem, ↓reduceIte, xa, xb, xc, xd, xe, xf, xg, xh, xi, xj]; try rfl) ?_
        refine tq_end ?_
        refine awp_if rfl (fun h => by cases h) (fun _ => ?_)
        refine awp_skip ?_
        refine awp_pures [0, 1, 5] (by simp (disch := omega) only [go_sem, ↓reduceIte, xa, xb, xc, xd, xe, xf, xg, xh, xi, xj]; try rfl) ?_
        exact ALoop.cast3 (ih (j + 1) ⟨hlt, by rw [take_snoc _ hlt, take_snoc _ hlt2, hpre, he]⟩ (by omega)) rfl rfl rfl
      · have hne : ¬ k = l := fun h => by subst h; exact he rfl
        rw [decide_eq_false hne]
        refine awp_seq (awp_quiet [0, 1, 5, 25] (by kernel_rfl) fun hNq => ?_)
        refine tq_pures 3 (by simp (disch := omega) only [go_sem, ↓reduceIte, xa, xb, xc, xd, xe, xf, xg, xh, xi, xj]; try rfl) ?_
        refine tq_load hNq rfl (by simp (disch := omega) only [go_sem, ↓reduceIte, xa, xb, xc, xd, xe, xf, xg, xh, xi, xj]; try rfl) rfl (by simp (disch := omega) only [go_sem, ↓reduceIte, xa, xb, xc, xd, xe, xf, xg, xh, xi, xj]; try rfl) e2 (⟨_, e4⟩) (loadA_scalar agg3 e3) ?_
        refine tq_pures 3 (by simp (disch := omega) only [go_sem, ↓reduceIte, xa, xb, xc, xd, xe, xf, xg, xh, xi, xj]; try rfl) ?_
        refine tq_load hNq rfl (by simp (disch := omega) only [go_sem, ↓reduceIte, xa, xb, xc, xd, xe, xf, xg, xh, xi, xj]; try rfl) rfl (by simp (disch := omega) only [go_sem, ↓reduceIte, xa, xb, xc, xd, xe, xf, xg, xh, xi, xj]; try rfl) f2 (⟨_, f4⟩) (loadA_scalar agg3 f3) ?_
        refine tq_pures 1 (by simp (disch := omega) only [go_sem, ↓reduceIte, xa, xb, xc, xd, xe, xf, xg, xh, xi, xj]; try rfl) ?_
        refine tq_end ?_
        refine awp_if rfl (fun _ => ?_) (fun h => by cases h)
        refine awp_seq (awp_pures [4] (by simp (disch := omega) only [go_sem, ↓reduceIte, xa, xb, xc, xd, xe, xf, xg, xh, xi, xj]; try rfl) ?_)
        exact awp_ret ⟨_, rfl, rfl, AHeap.le_refl _⟩
    · have hjm : j = k.length := by omega
      rw [hjm, List.take_length, hlen, List.take_length] at hpre
      rw [decide_eq_true hpre]
      refine awp_seq ?_
      refine awp_seq (awp_pures [0, 1, 5, 14] (by simp (disch := omega) only [go_sem, ↓reduceIte, xa, xb, xc, xd, xe, xf, xg, xh, xi, xj]; try rfl) ?_)
      refine awp_if rfl (fun h => by cases h) (fun _ => ?_)
      refine awp_exit ?_
      simp only [Go.Abs.Seq, Go.Abs.Round, Go.Abs.InBlock, ↓reduceIte]
      refine awp_seq (awp_pures [4] (by simp (disch := omega) only [go_sem, ↓reduceIte, xa, xb, xc, xd, xe, xf, xg, xh, xi, xj]; try rfl) ?_)
      exact awp_ret ⟨_, rfl, rfl, AHeap.le_refl _⟩
  · have hne : ¬ k = l := fun h => hlen (by rw [h])
    rw [decide_eq_false hne]
    refine awp_seq ?_
    refine awp_seq (awp_pures [0, 1, 10] (by simp (disch := omega) only [go_sem, ↓reduceIte, xa, xb, xc, xd, xe, xf, xg, xh, xi, xj]; try rfl) ?_)
    refine awp_if rfl (fun _ => ?_) (fun h => by cases h)
    refine awp_seq (awp_pures [4] (by simp (disch := omega) only [go_sem, ↓reduceIte, xa, xb, xc, xd, xe, xf, xg, xh, xi, xj]; try rfl) ?_)
    exact awp_ret ⟨_, rfl, rfl, AHeap.le_refl _⟩
def Wiped (τ ρ : AHeap) (sv : Value) (len : Nat) : Prop := (∀ i b, τ i = some b → ¬ rootOf sv i → ρ i = some b) ∧ (0 < len → ∃ id cap cells, sv = .slice (some ⟨id, 0, none⟩) len cap ∧ ρ id = some ⟨cells, true, .n 1⟩ ∧ cells.length = len)
theorem wiped0 {τ : AHeap} {lo len : Nat} {sv : Value} {cells : List Value} (h : OwnAt τ lo sv cells len 1) : Wiped τ τ sv len := by
  refine ⟨fun i b h _ => h, fun hp => ?_⟩
  rcases h with ⟨_, h0, _⟩ | ⟨id, cap, _, h1, _, h2, h3⟩
  · omega
  · exact ⟨id, cap, cells, h1, h2, by omega⟩
theorem wiped1 {τ ρ : AHeap} {len id cap : Nat} {cells : List Value} (h : Wiped τ ρ (.slice (some ⟨id, 0, none⟩) len cap) len) (hc : cells.length = len) :
    Wiped τ (ρ.set id ⟨cells, true, .n 1⟩) (.slice (some ⟨id, 0, none⟩) len cap) len :=
  ⟨fun i b hb hr => by rw [AHeap.set_ne _ _ (fun e => hr ⟨_, _, _, by rw [e]⟩)]; exact h.1 i b hb hr, fun _ => ⟨id, cap, cells, rfl, AHeap.set_self _ _ _, hc⟩⟩
theorem coneR_length (g : AigD) (l : List Int) (node : Int) : (ConeR g l node).1.length ≤ g.as.length := by
  unfold ConeR
  split
  · exact (coneE_mem _ _ _ _).2
  · simp
theorem freeR_length (g : AigD) (l : List Int) (node : Int) : (FreeR g l node).1.length ≤ g.as.length := by
  unfold FreeR
  split
  · have h1 := (freeS_len (firstC g).toNat g.as (useF g node.toNat) (ConeR g l node).1).2
    have h2 := coneR_length g l node
    simp only [List.length_reverse]
    omega
  · simp
theorem CutFunctionMatches_ok {g : AigD} {v lv : Value} {node : Int} {l : List Int} {N : Nat} {σ : AHeap} (hv : AigAt σ v g) (hl : SlAt σ lv (ints l)) :
    AOk Try.prog 4 [v, .int .i64 node, lv] N σ fun r N1 σ1 => r = .bool true ∧ σ.le σ1 ∧ N ≤ N1 := by
  have hv0 := hv
  have hl0 := hl
  have hol : ∀ l : List Int, (ints l).length = l.length := fun l => by simp [ints]
  obtain ⟨lb, lc, ab, ac, ob, oc, rfl, hls, has, hos⟩ := hv.opn
  obtain ⟨sb, sc, rfl⟩ := hl.len
  rw [hol] at hl hl0 ⊢
  refine aok_fresh fun hN => aok_body (r := false) (n := 134) Try.func4 rfl rfl (by simp) ?_
  first | refine awp_seq (awp_lit ?_) | refine awp_lit ?_ | refine awp_seq (awp_seq (awp_lit ?_))
  refine al_boxA hN rfl rfl rfl (by simp (disch := omega) only [go_sem, ↓reduceIte, xa, xb, xc, xd, xe, xf, xg, xh, xi, xj]; try rfl) (fun σ1 hτ hG hd1 _ => ?_)
  refine al_pureN 1 (by simp (disch := omega) only [go_sem, ↓reduceIte, xa, xb, xc, xd, xe, xf, xg, xh, xi, xj]; try rfl) ?_
  refine al_end [1, 2, 3] ?_
  by_cases hlong : longB g = true
  · refine awp_seq ?_
    first | refine awp_seq (awp_lit ?_) | refine awp_lit ?_ | refine awp_seq (awp_seq (awp_lit ?_))
    refine al_load rfl (by simp (disch := omega) only [go_sem, ↓reduceIte, xa, xb, xc, xd, xe, xf, xg, xh, xi, xj, hlong]) rfl (by simp (disch := omega) only [go_sem, ↓reduceIte, xa, xb, xc, xd, xe, xf, xg, xh, xi, xj, hlong]; try rfl) (by first | exact AHeap.set_self _ _ _ | (simp only [AHeap.set, ↓reduceIte, ya, xd, yb, yc, yd, ye, yf, yg, xb, yh, hlong]; rfl) | assumption) (by first | exact loadA_scalar agg26 rfl | exact loadA_agg agg26 rfl | exact loadA_scalar agg26 (by assumption)) ?_
    refine al_gives (vs := ?vs1) (v := ?v1) rfl ?ha1 ?hh1 (by kernel_rfl) rfl (by simp (disch := omega) only [go_sem, ↓reduceIte, xa, xb, xc, xd, xe, xf, xg, xh, xi, xj, hlong]) ?kk1
    case ha1 => simp (disch := omega) only [go_sem, ↓reduceIte, xa, xb, xc, xd, xe, xf, xg, xh, xi, xj, hlong]; try rfl
    case hh1 => exact Long_gives (hv0.mono hτ)
    refine al_pureN 3 (by simp (disch := omega) only [go_sem, ↓reduceIte, xa, xb, xc, xd, xe, xf, xg, xh, xi, xj, hlong]; try rfl) ?_
    refine al_pureN 2 (by simp (disch := omega) only [go_sem, ↓reduceIte, xa, xb, xc, xd, xe, xf, xg, xh, xi, xj, hlong]; try rfl) ?_
    refine al_end [1, 2, 3, 29] ?_
    refine awp_if rfl (fun _ => ?_) (fun h => by cases h)
    first | refine awp_seq (awp_lit ?_) | refine awp_lit ?_ | refine awp_seq (awp_seq (awp_lit ?_))
    refine al_gives (vs := ?vs2) (v := ?v2) rfl ?ha2 ?hh2 (by kernel_rfl) rfl (by simp (disch := omega) only [go_sem, ↓reduceIte, xa, xb, xc, xd, xe, xf, xg, xh, xi, xj]) ?kk2
    case ha2 => simp (disch := omega) only [go_sem, ↓reduceIte, xa, xb, xc, xd, xe, xf, xg, xh, xi, xj]; try rfl
    case hh2 => exact Awk_gives _ _
    refine al_pureN 1 (by simp (disch := omega) only [go_sem, ↓reduceIte, xa, xb, xc, xd, xe, xf, xg, xh, xi, xj]; try rfl) ?_
    refine al_end [6] ?_
    exact awp_ret ⟨_, rfl, rfl, hτ, by omega⟩
  have hlong : longB g = false := by simpa using hlong
  obtain ⟨hf, hi⟩ := few_of hlong
  by_cases hl20 : 20 < (l.length : Int)
  · refine awp_seq ?_
    first | refine awp_seq (awp_lit ?_) | refine awp_lit ?_ | refine awp_seq (awp_seq (awp_lit ?_))
    refine al_load rfl (by simp (disch := omega) only [go_sem, ↓reduceIte, xa, xb, xc, xd, xe, xf, xg, xh, xi, xj, hlong]) rfl (by simp (disch := omega) only [go_sem, ↓reduceIte, xa, xb, xc, xd, xe, xf, xg, xh, xi, xj, hlong]; try rfl) (by first | exact AHeap.set_self _ _ _ | (simp only [AHeap.set, ↓reduceIte, ya, xd, yb, yc, yd, ye, yf, yg, xb, yh, hlong]; rfl) | assumption) (by first | exact loadA_scalar agg26 rfl | exact loadA_agg agg26 rfl | exact loadA_scalar agg26 (by assumption)) ?_
    refine al_gives (vs := ?vs3) (v := ?v3) rfl ?ha3 ?hh3 (by kernel_rfl) rfl (by simp (disch := omega) only [go_sem, ↓reduceIte, xa, xb, xc, xd, xe, xf, xg, xh, xi, xj, hlong]) ?kk3
    case ha3 => simp (disch := omega) only [go_sem, ↓reduceIte, xa, xb, xc, xd, xe, xf, xg, xh, xi, xj, hlong]; try rfl
    case hh3 => exact Long_gives (hv0.mono hτ)
    refine al_pureN 3 (by simp (disch := omega) only [go_sem, ↓reduceIte, xa, xb, xc, xd, xe, xf, xg, xh, xi, xj, hlong]; try rfl) ?_
    refine al_pureN 2 (by simp (disch := omega) only [go_sem, ↓reduceIte, xa, xb, xc, xd, xe, xf, xg, xh, xi, xj, hlong]; try rfl) ?_
    refine al_end [1, 2, 3, 29] ?_
    refine awp_if rfl (fun _ => ?_) (fun h => by cases h)
    first | refine awp_seq (awp_lit ?_) | refine awp_lit ?_ | refine awp_seq (awp_seq (awp_lit ?_))
    refine al_gives (vs := ?vs4) (v := ?v4) rfl ?ha4 ?hh4 (by kernel_rfl) rfl (by simp (disch := omega) only [go_sem, ↓reduceIte, xa, xb, xc, xd, xe, xf, xg, xh, xi, xj]) ?kk4
    case ha4 => simp (disch := omega) only [go_sem, ↓reduceIte, xa, xb, xc, xd, xe, xf, xg, xh, xi, xj]; try rfl
    case hh4 => exact Awk_gives _ _
    refine al_pureN 1 (by simp (disch := omega) only [go_sem, ↓reduceIte, xa, xb, xc, xd, xe, xf, xg, xh, xi, xj]; try rfl) ?_
    refine al_end [6] ?_
    exact awp_ret ⟨_, rfl, rfl, hτ, by omega⟩
  refine awp_seq ?_
  first | refine awp_seq (awp_lit ?_) | refine awp_lit ?_ | refine awp_seq (awp_seq (awp_lit ?_))
  refine al_load rfl (by simp (disch := omega) only [go_sem, ↓reduceIte, xa, xb, xc, xd, xe, xf, xg, xh, xi, xj, hlong]) rfl (by simp (disch := omega) only [go_sem, ↓reduceIte, xa, xb, xc, xd, xe, xf, xg, xh, xi, xj, hlong]; try rfl) (by first | exact AHeap.set_self _ _ _ | (simp only [AHeap.set, ↓reduceIte, ya, xd, yb, yc, yd, ye, yf, yg, xb, yh, hlong]; rfl) | assumption) (by first | exact loadA_scalar agg26 rfl | exact loadA_agg agg26 rfl | exact loadA_scalar agg26 (by assumption)) ?_
  refine al_gives (vs := ?vs5) (v := ?v5) rfl ?ha5 ?hh5 (by kernel_rfl) rfl (by simp (disch := omega) only [go_sem, ↓reduceIte, xa, xb, xc, xd, xe, xf, xg, xh, xi, xj, hlong]) ?kk5
  case ha5 => simp (disch := omega) only [go_sem, ↓reduceIte, xa, xb, xc, xd, xe, xf, xg, xh, xi, xj, hlong]; try rfl
  case hh5 => exact Long_gives (hv0.mono hτ)
  refine al_pureN 3 (by simp (disch := omega) only [go_sem, ↓reduceIte, xa, xb, xc, xd, xe, xf, xg, xh, xi, xj, hlong]; try rfl) ?_
  refine al_pureN 2 (by simp (disch := omega) only [go_sem, ↓reduceIte, xa, xb, xc, xd, xe, xf, xg, xh, xi, xj, hlong]; try rfl) ?_
  refine al_end [1, 2, 3, 29] ?_
  refine awp_if rfl (fun h => by cases h) (fun _ => ?_)
  refine awp_skip ?_
  have hnl : (ints l).length = l.length * 1 := by rw [hol]; omega
  first | refine awp_seq (awp_lit ?_) | refine awp_lit ?_ | refine awp_seq (awp_seq (awp_lit ?_))
  refine al_buildSlice (len := 0) (ps := []) (r := []) rfl (by simp (disch := omega) only [go_sem, ↓reduceIte, xa, xb, xc, xd, xe, xf, xg, xh, xi, xj]; try rfl) rfl Try.underlying35 ty3 (by decide) rfl (by decide) (by decide) (by simp (disch := omega) only [go_sem, ↓reduceIte, xa, xb, xc, xd, xe, xf, xg, xh, xi, xj]; try rfl) rfl (by decide) ?_
  refine al_pureN 1 (by simp (disch := omega) only [go_sem, ↓reduceIte, xa, xb, xc, xd, xe, xf, xg, xh, xi, xj]; try rfl) ?_
  refine al_append_own (lo := N + 1) (olds := []) (c := 0) (size := 1) rfl (by simp (disch := omega) only [go_sem, ↓reduceIte, xa, xb, xc, xd, xe, xf, xg, xh, xi, xj]; try rfl) rfl Try.underlying35 ty3 rfl (by simp (disch := omega) only [go_sem, ↓reduceIte, xa, xb, xc, xd, xe, xf, xg, xh, xi, xj]; try rfl) (by simp (disch := omega) only [go_sem, ↓reduceIte, xa, xb, xc, xd, xe, xf, xg, xh, xi, xj]; try rfl) (.inr ⟨N + 1, 0, Nat.le_refl _, rfl, Nat.le_refl _, AHeap.set_self _ _ _, rfl⟩) (by omega) rfl (hl.mono (hτ.trans (le_new hd1 (Nat.le_refl _)))).src hnl (by simp [ints, Value.oneCell']) (by omega) (by omega) (fun N2 σ2 ov hN2 how hkeep => ?_)
  refine al_pureN 1 (by simp (disch := omega) only [go_sem, ↓reduceIte, xa, xb, xc, xd, xe, xf, xg, xh, xi, xj]; try rfl) ?_
  refine al_end [1, 2, 3, 7] ?_
  have hk2 := hkeep σ1 (le_new hd1 (Nat.le_refl _)) hd1
  rw [List.nil_append, Nat.zero_add] at how
  have hσ2 := hτ.trans hk2
  have hG2 := hk2 _ _ hG
  first | refine awp_seq (awp_lit ?_) | refine awp_lit ?_ | refine awp_seq (awp_seq (awp_lit ?_))
  refine al_load rfl (by simp (disch := omega) only [go_sem, ↓reduceIte, xa, xb, xc, xd, xe, xf, xg, xh, xi, xj]) rfl (by simp (disch := omega) only [go_sem, ↓reduceIte, xa, xb, xc, xd, xe, xf, xg, xh, xi, xj]; try rfl) (by first | exact AHeap.set_self _ _ _ | (simp only [AHeap.set, ↓reduceIte, ya, xd, yb, yc, yd, ye, yf, yg, xb, yh]; rfl) | assumption) (by first | exact loadA_scalar agg26 rfl | exact loadA_agg agg26 rfl | exact loadA_scalar agg26 (by assumption)) ?_
  refine al_pureN 2 (by simp (disch := omega) only [go_sem, ↓reduceIte, xa, xb, xc, xd, xe, xf, xg, xh, xi, xj]; try rfl) ?_
  refine al_fun (rFunction_ok (hv0.mono hσ2) (hl0.mono hσ2) hf) rfl (by simp (disch := omega) only [go_sem, ↓reduceIte, xa, xb, xc, xd, xe, xf, xg, xh, xi, xj]; try rfl) (by kernel_rfl) rfl (by simp (disch := omega) only [go_sem, ↓reduceIte, xa, xb, xc, xd, xe, xf, xg, xh, xi, xj]; try rfl) ?_
  rintro r N3 σ3 ⟨rfl, hle3, hN3⟩
  refine al_pureN 5 (by simp (disch := omega) only [go_sem, ↓reduceIte, xa, xb, xc, xd, xe, xf, xg, xh, xi, xj]; try rfl) ?_
  refine al_end [1, 2, 3, 7, 8, 9] ?_
  have hσ3 := hσ2.trans hle3
  have hG3 := hle3 _ _ hG2
  first | refine awp_seq (awp_lit ?_) | refine awp_lit ?_ | refine awp_seq (awp_seq (awp_lit ?_))
  refine al_load rfl (by simp (disch := omega) only [go_sem, ↓reduceIte, xa, xb, xc, xd, xe, xf, xg, xh, xi, xj]) rfl (by simp (disch := omega) only [go_sem, ↓reduceIte, xa, xb, xc, xd, xe, xf, xg, xh, xi, xj]; try rfl) (by first | exact AHeap.set_self _ _ _ | (simp only [AHeap.set, ↓reduceIte, ya, xd, yb, yc, yd, ye, yf, yg, xb, yh]; rfl) | assumption) (by first | exact loadA_scalar agg26 rfl | exact loadA_agg agg26 rfl | exact loadA_scalar agg26 (by assumption)) ?_
  refine al_pureN 2 (by simp (disch := omega) only [go_sem, ↓reduceIte, xa, xb, xc, xd, xe, xf, xg, xh, xi, xj]; try rfl) ?_
  refine al_fun (rCone_ok (hv0.mono hσ3) (hl0.mono hσ3) hf) rfl (by simp (disch := omega) only [go_sem, ↓reduceIte, xa, xb, xc, xd, xe, xf, xg, xh, xi, xj]; try rfl) (by kernel_rfl) rfl (by simp (disch := omega) only [go_sem, ↓reduceIte, xa, xb, xc, xd, xe, xf, xg, xh, xi, xj]; try rfl) ?_
  rintro r N4 σ4 ⟨cv, rfl, hcv, hle4, hN4⟩
  refine al_pureN 5 (by simp (disch := omega) only [go_sem, ↓reduceIte, xa, xb, xc, xd, xe, xf, xg, xh, xi, xj]; try rfl) ?_
  refine al_end [1, 2, 3, 7, 8, 9, 10, 11] ?_
  have hσ4 := hσ3.trans hle4
  have hG4 := hle4 _ _ hG3
  first | refine awp_seq (awp_lit ?_) | refine awp_lit ?_ | refine awp_seq (awp_seq (awp_lit ?_))
  refine al_load rfl (by simp (disch := omega) only [go_sem, ↓reduceIte, xa, xb, xc, xd, xe, xf, xg, xh, xi, xj]) rfl (by simp (disch := omega) only [go_sem, ↓reduceIte, xa, xb, xc, xd, xe, xf, xg, xh, xi, xj]; try rfl) (by first | exact AHeap.set_self _ _ _ | (simp only [AHeap.set, ↓reduceIte, ya, xd, yb, yc, yd, ye, yf, yg, xb, yh]; rfl) | assumption) (by first | exact loadA_scalar agg26 rfl | exact loadA_agg agg26 rfl | exact loadA_scalar agg26 (by assumption)) ?_
  refine al_pureN 2 (by simp (disch := omega) only [go_sem, ↓reduceIte, xa, xb, xc, xd, xe, xf, xg, xh, xi, xj]; try rfl) ?_
  refine al_fun (rFree_ok (hv0.mono hσ4) (hl0.mono hσ4) hf) rfl (by simp (disch := omega) only [go_sem, ↓reduceIte, xa, xb, xc, xd, xe, xf, xg, xh, xi, xj]; try rfl) (by kernel_rfl) rfl (by simp (disch := omega) only [go_sem, ↓reduceIte, xa, xb, xc, xd, xe, xf, xg, xh, xi, xj]; try rfl) ?_
  rintro r N5 σ5 ⟨fv, rfl, hfv, hle5, hN5⟩
  refine al_fresh fun hd5 => ?_
  refine al_pureN 5 (by simp (disch := omega) only [go_sem, ↓reduceIte, xa, xb, xc, xd, xe, xf, xg, xh, xi, xj]; try rfl) ?_
  refine al_end [1, 2, 3, 7, 8, 9, 10, 11, 12, 13] ?_
  have hσ5 := hσ4.trans hle5
  have hG5 := hle5 _ _ hG4
  rw [← fun_eq hf, free_eq]
  rw [free_eq] at hfv
  obtain ⟨cl, hcl⟩ : ∃ cl, cl = (ConeR g l node).1 := ⟨_, rfl⟩
  obtain ⟨ce, hce⟩ : ∃ ce, ce = (ConeR g l node).2 := ⟨_, rfl⟩
  obtain ⟨fl, hfl⟩ : ∃ fl, fl = (FreeR g l node).1 := ⟨_, rfl⟩
  obtain ⟨fe, hfe⟩ : ∃ fe, fe = (FreeR g l node).2 := ⟨_, rfl⟩
  obtain ⟨ut, hut⟩ : ∃ ut, ut = (FunR g l node).1 := ⟨_, rfl⟩
  obtain ⟨ue, hue⟩ : ∃ ue, ue = (FunR g l node).2 := ⟨_, rfl⟩
  have hcll : cl.length ≤ 1000 := by rw [hcl]; have := coneR_length g l node; have := hf.as; omega
  have hfll : fl.length ≤ 1000 := by rw [hfl]; have := freeR_length g l node; have := hf.as; omega
  rw [← hcl] at hcv
  rw [← hfl] at hfv
  rw [← hce, ← hfe, ← hut, ← hue]
  have hc5 : SlAt σ5 cv (ints cl) := hcv.slAt.mono hle5
  have hf5 : SlAt σ5 fv (ints fl) := hfv.slAt
  have ho5 : SlAt σ5 ov (ints l) := ((how.slAt.mono hle3).mono hle4).mono hle5
  have hk5 : σ1.le σ5 := ((hk2.trans hle3).trans hle4).trans hle5
  obtain ⟨cb, cc, rfl⟩ := hcv.lenV
  obtain ⟨fb, fc, rfl⟩ := hfv.lenV
  obtain ⟨ob2, oc2, rfl⟩ := how.lenV
  refine awp_seq ?_
  refine awp_seq (awp_pures [1, 2, 3, 7, 8, 9, 10, 11, 12, 13, 14] (by simp (disch := omega) only [go_sem, ↓reduceIte, xa, xb, xc, xd, xe, xf, xg, xh, xi, xj]; try rfl) ?_)
  refine awp_block (awp_loop ?_)
  refine ALoop.cast3 (aloop_ind (α := Nat × Nat × AHeap) (fun a => a.1 ≤ 2 ∧ N5 ≤ a.2.1 ∧ σ5.le a.2.2) (fun a => 2 - a.1)
    (fun a => [(1, .int .i64 node), (2, .slice sb l.length sc), (3, .pointer (some ⟨N, 0, none⟩)), (7, .slice ob2 l.length oc2), (8, .int .u64 ut.toNat), (9, .int .i64 ue), (10, .slice cb cl.length cc), (11, .int .i64 ce), (12, .slice fb fl.length fc), (13, .int .i64 fe), (14, .int .i64 a.1)]) (fun a => a.2.1)
    (fun a => a.2.2) ?_ (0, N5, σ5) ⟨by dsimp only; omega, Nat.le_refl _, AHeap.le_refl _⟩) rfl rfl rfl
  rintro ⟨i, M, τ⟩ ⟨hi2, hM, hτ5⟩ ih
  dsimp only at hi2 hM hτ5 ih ⊢
  have hστ := hσ5.trans hτ5
  have hG6 := hτ5 _ _ hG5
  by_cases hlt : i < 2
  · refine awp_seq ?_
    refine awp_seq (awp_pures [1, 2, 3, 7, 8, 9, 10, 11, 12, 13, 14, 56] (by simp (disch := omega) only [go_sem, ↓reduceIte, xa, xb, xc, xd, xe, xf, xg, xh, xi, xj]; try rfl) ?_)
    refine awp_if rfl (fun _ => ?_) (fun h => by cases h)
    refine awp_skip ?_
    refine awp_seq (awp_block ?_)
    first | refine awp_seq (awp_lit ?_) | refine awp_lit ?_ | refine awp_seq (awp_seq (awp_lit ?_))
    refine al_load rfl (by simp (disch := omega) only [go_sem, ↓reduceIte, xa, xb, xc, xd, xe, xf, xg, xh, xi, xj]) rfl (by simp (disch := omega) only [go_sem, ↓reduceIte, xa, xb, xc, xd, xe, xf, xg, xh, xi, xj]; try rfl) (by first | exact AHeap.set_self _ _ _ | (simp only [AHeap.set, ↓reduceIte, ya, xd, yb, yc, yd, ye, yf, yg, xb, yh]; rfl) | assumption) (by first | exact loadA_scalar agg26 rfl | exact loadA_agg agg26 rfl | exact loadA_scalar agg26 (by assumption)) ?_
    refine al_pureN 2 (by simp (disch := omega) only [go_sem, ↓reduceIte, xa, xb, xc, xd, xe, xf, xg, xh, xi, xj]; try rfl) ?_
    refine al_fun (Function_ok hf (hv0.mono hστ) (ho5.mono hτ5)) rfl (by simp (disch := omega) only [go_sem, ↓reduceIte, xa, xb, xc, xd, xe, xf, xg, xh, xi, xj]; try rfl) (by kernel_rfl) rfl (by simp (disch := omega) only [go_sem, ↓reduceIte, xa, xb, xc, xd, xe, xf, xg, xh, xi, xj]; try rfl) ?_
    rintro r M1 τ1 ⟨rfl, hl1, hM1⟩
    refine al_pureN 5 (by simp (disch := omega) only [go_sem, ↓reduceIte, xa, xb, xc, xd, xe, xf, xg, xh, xi, xj]; try rfl) ?_
    refine al_end [1, 2, 3, 7, 8, 9, 10, 11, 12, 13, 14, 15, 16] ?_
    have hστ1 := hστ.trans hl1
    have hG7 := hl1 _ _ hG6
    first | refine awp_seq (awp_lit ?_) | refine awp_lit ?_ | refine awp_seq (awp_seq (awp_lit ?_))
    refine al_load rfl (by simp (disch := omega) only [go_sem, ↓reduceIte, xa, xb, xc, xd, xe, xf, xg, xh, xi, xj]) rfl (by simp (disch := omega) only [go_sem, ↓reduceIte, xa, xb, xc, xd, xe, xf, xg, xh, xi, xj]; try rfl) (by first | exact AHeap.set_self _ _ _ | (simp only [AHeap.set, ↓reduceIte, ya, xd, yb, yc, yd, ye, yf, yg, xb, yh]; rfl) | assumption) (by first | exact loadA_scalar agg26 rfl | exact loadA_agg agg26 rfl | exact loadA_scalar agg26 (by assumption)) ?_
    refine al_pureN 2 (by simp (disch := omega) only [go_sem, ↓reduceIte, xa, xb, xc, xd, xe, xf, xg, xh, xi, xj]; try rfl) ?_
    refine al_fun (Cone_ok hf (hv0.mono hστ1) ((ho5.mono hτ5).mono hl1)) rfl (by simp (disch := omega) only [go_sem, ↓reduceIte, xa, xb, xc, xd, xe, xf, xg, xh, xi, xj]; try rfl) (by kernel_rfl) rfl (by simp (disch := omega) only [go_sem, ↓reduceIte, xa, xb, xc, xd, xe, xf, xg, xh, xi, xj]; try rfl) ?_
    rintro r M2 τ2 ⟨cv2, rfl, hcv2, hl2, hM2⟩
    refine al_fresh fun hdM2 => ?_
    refine al_pureN 5 (by simp (disch := omega) only [go_sem, ↓reduceIte, xa, xb, xc, xd, xe, xf, xg, xh, xi, xj]; try rfl) ?_
    refine al_end [1, 2, 3, 7, 8, 9, 10, 11, 12, 13, 14, 15, 16, 17, 18] ?_
    have hστ2 := hστ1.trans hl2
    have hG8 := hl2 _ _ hG7
    first | refine awp_seq (awp_lit ?_) | refine awp_lit ?_ | refine awp_seq (awp_seq (awp_lit ?_))
    refine al_load rfl (by simp (disch := omega) only [go_sem, ↓reduceIte, xa, xb, xc, xd, xe, xf, xg, xh, xi, xj]) rfl (by simp (disch := omega) only [go_sem, ↓reduceIte, xa, xb, xc, xd, xe, xf, xg, xh, xi, xj]; try rfl) (by first | exact AHeap.set_self _ _ _ | (simp only [AHeap.set, ↓reduceIte, ya, xd, yb, yc, yd, ye, yf, yg, xb, yh]; rfl) | assumption) (by first | exact loadA_scalar agg26 rfl | exact loadA_agg agg26 rfl | exact loadA_scalar agg26 (by assumption)) ?_
    refine al_pureN 2 (by simp (disch := omega) only [go_sem, ↓reduceIte, xa, xb, xc, xd, xe, xf, xg, xh, xi, xj]; try rfl) ?_
    refine al_fun (Free_ok hf (hv0.mono hστ2) (((ho5.mono hτ5).mono hl1).mono hl2)) rfl (by simp (disch := omega) only [go_sem, ↓reduceIte, xa, xb, xc, xd, xe, xf, xg, xh, xi, xj]; try rfl) (by kernel_rfl) rfl (by simp (disch := omega) only [go_sem, ↓reduceIte, xa, xb, xc, xd, xe, xf, xg, xh, xi, xj]; try rfl) ?_
    rintro r M3 τ3 ⟨fv2, rfl, hfv2, hl3, hM3⟩
    refine al_pureN 5 (by simp (disch := omega) only [go_sem, ↓reduceIte, xa, xb, xc, xd, xe, xf, xg, xh, xi, xj]; try rfl) ?_
    refine al_end [1, 2, 3, 7, 8, 9, 10, 11, 12, 13, 14, 15, 16, 17, 18, 19, 20] ?_
    have hστ3 := hστ2.trans hl3
    have hτ53 := ((hτ5.trans hl1).trans hl2).trans hl3
    rw [← hcl] at hcv2
    rw [← hfl] at hfv2
    rw [← hce, ← hfe, ← hut, ← hue]
    have hc2 := hcv2.slAt.mono hl3
    have hf2 := hfv2.slAt
    have d1 : decide (cl = cl) = true := by simp
    have d2 : decide (fl = fl) = true := by simp
    refine awp_seq ?_
    first | refine awp_seq (awp_lit ?_) | refine awp_lit ?_ | refine awp_seq (awp_seq (awp_lit ?_))
    refine al_pureN 5 (by simp (disch := omega) only [go_sem, ↓reduceIte, xa, xb, xc, xd, xe, xf, xg, xh, xi, xj]; try rfl) ?_
    refine al_pureN 4 (by simp (disch := omega) only [go_sem, ↓reduceIte, xa, xb, xc, xd, xe, xf, xg, xh, xi, xj]; try rfl) ?_
    refine al_pureN 3 (by simp (disch := omega) only [go_sem, ↓reduceIte, xa, xb, xc, xd, xe, xf, xg, xh, xi, xj]; try rfl) ?_
    refine al_pureN 4 (by simp (disch := omega) only [go_sem, ↓reduceIte, xa, xb, xc, xd, xe, xf, xg, xh, xi, xj]; try rfl) ?_
    refine al_pureN 4 (by simp (disch := omega) only [go_sem, ↓reduceIte, xa, xb, xc, xd, xe, xf, xg, xh, xi, xj]; try rfl) ?_
    refine al_pureN 1 (by simp (disch := omega) only [go_sem, ↓reduceIte, xa, xb, xc, xd, xe, xf, xg, xh, xi, xj]; try rfl) ?_
    first | (refine al_skipB ?_ rfl ?_; focus (simp (disch := omega) only [go_sem, ↓reduceIte, xa, xb, xc, xd, xe, xf, xg, xh, xi, xj]; done)) | refine al_givesC rfl (by simp (disch := omega) only [go_sem, ↓reduceIte, xa, xb, xc, xd, xe, xf, xg, xh, xi, xj]; try rfl) (by simp (disch := omega) only [go_sem, ↓reduceIte, xa, xb, xc, xd, xe, xf, xg, xh, xi, xj]; try rfl) (Same_gives hc2 (hc5.mono hτ53) (by omega) (by omega)) (by kernel_rfl) rfl (by simp (disch := omega) only [go_sem, ↓reduceIte, xa, xb, xc, xd, xe, xf, xg, xh, xi, xj]) ?_
    refine al_pureN 4 (by simp (disch := omega) only [go_sem, ↓reduceIte, xa, xb, xc, xd, xe, xf, xg, xh, xi, xj]; try rfl) ?_
    refine al_pureN 1 (by simp (disch := omega) only [go_sem, ↓reduceIte, xa, xb, xc, xd, xe, xf, xg, xh, xi, xj]; try rfl) ?_
    first | (refine al_skipB ?_ rfl ?_; focus (simp (disch := omega) only [go_sem, ↓reduceIte, xa, xb, xc, xd, xe, xf, xg, xh, xi, xj]; done)) | refine al_givesC rfl (by simp (disch := omega) only [go_sem, ↓reduceIte, xa, xb, xc, xd, xe, xf, xg, xh, xi, xj]; try rfl) (by simp (disch := omega) only [go_sem, ↓reduceIte, xa, xb, xc, xd, xe, xf, xg, xh, xi, xj]; try rfl) (Same_gives hf2 (hf5.mono hτ53) (by omega) (by omega)) (by kernel_rfl) rfl (by simp (disch := omega) only [go_sem, ↓reduceIte, xa, xb, xc, xd, xe, xf, xg, xh, xi, xj]) ?_
    refine al_pureN 2 (by simp (disch := omega) only [go_sem, ↓reduceIte, xa, xb, xc, xd, xe, xf, xg, xh, xi, xj]; try rfl) ?_
    refine al_end [1, 2, 3, 7, 8, 9, 10, 11, 12, 13, 14, 17, 19, 109] ?_
    refine awp_if rfl (fun h => by cases h) (fun _ => ?_)
    refine awp_skip ?_
    have hw0 := wiped0 (hcv2.mono (lo' := M1) (fun i b hi hb => hl3 _ _ hb) (Nat.le_refl _))
    obtain ⟨cb2, cc2, rfl⟩ := hcv2.lenV
    obtain ⟨fb2, fc2, rfl⟩ := hfv2.lenV
    refine awp_seq ?_
    refine awp_seq (awp_pures [1, 2, 3, 7, 8, 9, 10, 11, 12, 13, 14, 17, 19, 21] (by simp (disch := omega) only [go_sem, ↓reduceIte, xa, xb, xc, xd, xe, xf, xg, xh, xi, xj]; try rfl) ?_)
    refine awp_block (awp_loop ?_)
    refine ALoop.cast3 (aloop_ind (α := Nat × AHeap) (fun a => a.1 ≤ cl.length ∧ Wiped τ3 a.2 (.slice cb2 cl.length cc2) cl.length) (fun a => cl.length - a.1)
      (fun a => [(1, .int .i64 node), (2, .slice sb l.length sc), (3, .pointer (some ⟨N, 0, none⟩)), (7, .slice ob2 l.length oc2), (8, .int .u64 ut.toNat), (9, .int .i64 ue), (10, .slice cb cl.length cc), (11, .int .i64 ce), (12, .slice fb fl.length fc), (13, .int .i64 fe), (14, .int .i64 i), (17, .slice cb2 cl.length cc2), (19, .slice fb2 fl.length fc2), (21, .int .i64 a.1)]) (fun a => M3)
      (fun a => a.2) ?_ (0, τ3) ⟨Nat.zero_le _, hw0⟩) rfl rfl rfl
    rintro ⟨j, ρ⟩ ⟨hj, hw⟩ ih2
    dsimp only at hj hw ih2 ⊢
    by_cases hlt2 : j < cl.length
    · refine awp_seq ?_
      refine awp_seq (awp_pures [1, 2, 3, 7, 8, 9, 10, 11, 12, 13, 14, 17, 19, 21, 113] (by simp (disch := omega) only [go_sem, ↓reduceIte, xa, xb, xc, xd, xe, xf, xg, xh, xi, xj]; try rfl) ?_)
      refine awp_if rfl (fun _ => ?_) (fun h => by cases h)
      refine awp_skip ?_
      refine awp_seq (awp_block ?_)
      obtain ⟨id, cap, cells, e1, e2, e3⟩ := hw.2 (by omega)
      cases e1
      refine awp_lit ?_
      refine al_pureN 3 (by simp (disch := omega) only [go_sem, ↓reduceIte, xa, xb, xc, xd, xe, xf, xg, xh, xi, xj]; try rfl) ?_
      refine al_store1 rfl (by simp (disch := omega) only [go_sem, ↓reduceIte, xa, xb, xc, xd, xe, xf, xg, xh, xi, xj]; try rfl) rfl (by simp (disch := omega) only [go_sem, ↓reduceIte, xa, xb, xc, xd, xe, xf, xg, xh, xi, xj]; try rfl) (by simp (disch := omega) only [go_sem, ↓reduceIte, xa, xb, xc, xd, xe, xf, xg, xh, xi, xj]; try rfl) e2 rfl size3 rfl rfl (by show j < cells.length; omega) ?_
      refine al_end [1, 2, 3, 7, 8, 9, 10, 11, 12, 13, 14, 17, 19, 21] ?_
      refine awp_pures [1, 2, 3, 7, 8, 9, 10, 11, 12, 13, 14, 17, 19, 21] (by simp (disch := omega) only [go_sem, ↓reduceIte, xa, xb, xc, xd, xe, xf, xg, xh, xi, xj]; try rfl) ?_
      exact ALoop.cast3 (ih2 (j + 1, ρ.set id ⟨cells.set j (.int .i64 (-7)), true, .n 1⟩) ⟨hlt2, wiped1 hw (by rw [List.length_set]; exact e3)⟩ (by dsimp only; omega)) rfl rfl rfl
    · refine awp_seq ?_
      refine awp_seq (awp_pures [1, 2, 3, 7, 8, 9, 10, 11, 12, 13, 14, 17, 19, 21, 113] (by simp (disch := omega) only [go_sem, ↓reduceIte, xa, xb, xc, xd, xe, xf, xg, xh, xi, xj]; try rfl) ?_)
      refine awp_if rfl (fun h => by cases h) (fun _ => ?_)
      refine awp_exit ?_
      simp only [Go.Abs.Seq, Go.Abs.Round, Go.Abs.InBlock, ↓reduceIte]
      have hfv3 : OwnAt ρ M2 (.slice fb2 fl.length fc2) (ints fl) fl.length 1 := hfv2.keep fun i b hr hb => hw.1 i b hb (fun hr2 => by
        have h1 := (rootOf_own hfv2 hr).1
        obtain ⟨b2, hb2⟩ := (rootOf_own hcv2 hr2).2
        have := hdM2 i b2 hb2
        omega)
      have hw1 := wiped0 hfv3
      refine awp_seq (awp_pures [1, 2, 3, 7, 8, 9, 10, 11, 12, 13, 14, 19, 22] (by simp (disch := omega) only [go_sem, ↓reduceIte, xa, xb, xc, xd, xe, xf, xg, xh, xi, xj]; try rfl) ?_)
      refine awp_block (awp_loop ?_)
      refine ALoop.cast3 (aloop_ind (α := Nat × AHeap) (fun a => a.1 ≤ fl.length ∧ Wiped ρ a.2 (.slice fb2 fl.length fc2) fl.length) (fun a => fl.length - a.1)
        (fun a => [(1, .int .i64 node), (2, .slice sb l.length sc), (3, .pointer (some ⟨N, 0, none⟩)), (7, .slice ob2 l.length oc2), (8, .int .u64 ut.toNat), (9, .int .i64 ue), (10, .slice cb cl.length cc), (11, .int .i64 ce), (12, .slice fb fl.length fc), (13, .int .i64 fe), (14, .int .i64 i), (19, .slice fb2 fl.length fc2), (22, .int .i64 a.1)]) (fun a => M3)
        (fun a => a.2) ?_ (0, ρ) ⟨Nat.zero_le _, hw1⟩) rfl rfl rfl
      rintro ⟨q, μ⟩ ⟨hq, hwq⟩ ih3
      dsimp only at hq hwq ih3 ⊢
      by_cases hlt3 : q < fl.length
      · refine awp_seq ?_
        refine awp_seq (awp_pures [1, 2, 3, 7, 8, 9, 10, 11, 12, 13, 14, 19, 22, 122] (by simp (disch := omega) only [go_sem, ↓reduceIte, xa, xb, xc, xd, xe, xf, xg, xh, xi, xj]; try rfl) ?_)
        refine awp_if rfl (fun _ => ?_) (fun h => by cases h)
        refine awp_skip ?_
        refine awp_seq (awp_block ?_)
        obtain ⟨id, cap, cells, e1, e2, e3⟩ := hwq.2 (by omega)
        cases e1
        refine awp_lit ?_
        refine al_pureN 3 (by simp (disch := omega) only [go_sem, ↓reduceIte, xa, xb, xc, xd, xe, xf, xg, xh, xi, xj]; try rfl) ?_
        refine al_store1 rfl (by simp (disch := omega) only [go_sem, ↓reduceIte, xa, xb, xc, xd, xe, xf, xg, xh, xi, xj]; try rfl) rfl (by simp (disch := omega) only [go_sem, ↓reduceIte, xa, xb, xc, xd, xe, xf, xg, xh, xi, xj]; try rfl) (by simp (disch := omega) only [go_sem, ↓reduceIte, xa, xb, xc, xd, xe, xf, xg, xh, xi, xj]; try rfl) e2 rfl size3 rfl rfl (by show q < cells.length; omega) ?_
        refine al_end [1, 2, 3, 7, 8, 9, 10, 11, 12, 13, 14, 19, 22] ?_
        refine awp_pures [1, 2, 3, 7, 8, 9, 10, 11, 12, 13, 14, 19, 22] (by simp (disch := omega) only [go_sem, ↓reduceIte, xa, xb, xc, xd, xe, xf, xg, xh, xi, xj]; try rfl) ?_
        exact ALoop.cast3 (ih3 (q + 1, μ.set id ⟨cells.set q (.int .i64 (-7)), true, .n 1⟩) ⟨hlt3, wiped1 hwq (by rw [List.length_set]; exact e3)⟩ (by dsimp only; omega)) rfl rfl rfl
      · refine awp_seq ?_
        refine awp_seq (awp_pures [1, 2, 3, 7, 8, 9, 10, 11, 12, 13, 14, 19, 22, 122] (by simp (disch := omega) only [go_sem, ↓reduceIte, xa, xb, xc, xd, xe, xf, xg, xh, xi, xj]; try rfl) ?_)
        refine awp_if rfl (fun h => by cases h) (fun _ => ?_)
        refine awp_exit ?_
        simp only [Go.Abs.Seq, Go.Abs.Round, Go.Abs.InBlock, ↓reduceIte]
        refine awp_pures [1, 2, 3, 7, 8, 9, 10, 11, 12, 13, 14] (by simp (disch := omega) only [go_sem, ↓reduceIte, xa, xb, xc, xd, xe, xf, xg, xh, xi, xj]; try rfl) ?_
        refine ALoop.cast3 (ih (i + 1, M3, μ) ⟨hlt, by dsimp only; omega, fun k b hb => ?_⟩ (by dsimp only; omega)) rfl rfl rfl
        have hk := hd5 k b hb
        exact hwq.1 _ _ (hw.1 _ _ (hτ53 _ _ hb) fun hr => by have := (rootOf_own hcv2 hr).1; omega) fun hr => by have := (rootOf_own hfv2 hr).1; omega
  · have hi3 : i = 2 := by omega
    refine awp_seq ?_
    refine awp_seq (awp_pures [1, 2, 3, 7, 8, 9, 10, 11, 12, 13, 14, 56] (by simp (disch := omega) only [go_sem, ↓reduceIte, xa, xb, xc, xd, xe, xf, xg, xh, xi, xj]; try rfl) ?_)
    refine awp_if rfl (fun h => by cases h) (fun _ => ?_)
    refine awp_exit ?_
    simp only [Go.Abs.Seq, Go.Abs.Round, Go.Abs.InBlock, ↓reduceIte]
    have d1 : decide (l = l) = true := by simp
    first | refine awp_seq (awp_lit ?_) | refine awp_lit ?_ | refine awp_seq (awp_seq (awp_lit ?_))
    refine al_pureN 2 (by simp (disch := omega) only [go_sem, ↓reduceIte, xa, xb, xc, xd, xe, xf, xg, xh, xi, xj, d1]; try rfl) ?_
    refine al_gives (vs := ?vs6) (v := ?v6) rfl ?ha6 ?hh6 (by kernel_rfl) rfl (by simp (disch := omega) only [go_sem, ↓reduceIte, xa, xb, xc, xd, xe, xf, xg, xh, xi, xj, d1]) ?kk6
    case ha6 => simp (disch := omega) only [go_sem, ↓reduceIte, xa, xb, xc, xd, xe, xf, xg, xh, xi, xj, d1]; try rfl
    case hh6 => exact Same_gives (ho5.mono hτ5) (hl0.mono hστ) (by omega) (by omega)
    refine al_pureN 1 (by simp (disch := omega) only [go_sem, ↓reduceIte, xa, xb, xc, xd, xe, xf, xg, xh, xi, xj, d1]; try rfl) ?_
    first | (refine al_skipB ?_ rfl ?_; focus (simp (disch := omega) only [go_sem, ↓reduceIte, xa, xb, xc, xd, xe, xf, xg, xh, xi, xj, d1]; done)) | refine al_givesC rfl (by simp (disch := omega) only [go_sem, ↓reduceIte, xa, xb, xc, xd, xe, xf, xg, xh, xi, xj, d1]; try rfl) (by simp (disch := omega) only [go_sem, ↓reduceIte, xa, xb, xc, xd, xe, xf, xg, xh, xi, xj, d1]; try rfl) (Awk_gives _ _) (by kernel_rfl) rfl (by simp (disch := omega) only [go_sem, ↓reduceIte, xa, xb, xc, xd, xe, xf, xg, xh, xi, xj, d1]) ?_
    refine al_pureN 2 (by simp (disch := omega) only [go_sem, ↓reduceIte, xa, xb, xc, xd, xe, xf, xg, xh, xi, xj, d1]; try rfl) ?_
    refine al_end [6] ?_
    exact awp_ret ⟨_, rfl, rfl, hστ, by omega⟩
end Go.Proofs.Ytfialjllclclkaa

