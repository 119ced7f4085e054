/- The reference's way of making tables (no program here). -/
import Derived.Test.YtbpjoamdcbbnnaaTabLaw2
import Derived.Test.YtbpjoamdcbbnnaaTabCanR
set_option linter.unusedSimpArgs false
set_option linter.unusedVariables false
namespace Go.Tab
def makeGo : List Bool → Nat → BitVec 64 → BitVec 64
  | [], _, t => t
  | b :: l, k, t => makeGo l (k + 1) (if b = true then t ||| (1#64 <<< k) else t)
def makeT (l : List Bool) : BitVec 64 := makeGo l 0 0#64
theorem makeGo_bit : ∀ (l : List Bool) (k : Nat) (t : BitVec 64) (j : Nat), (makeGo l k t).getLsbD j = (t.getLsbD j || (decide (j < 64 ∧ k ≤ j) && l.getD (j - k) false))
  | [], k, t, j => by simp [makeGo]
  | b :: l, k, t, j => by
    rw [makeGo, makeGo_bit l (k + 1)]
    have h1 : (if b = true then t ||| (1#64 <<< k) else t).getLsbD j = (t.getLsbD j || (b && decide (j < 64 ∧ j = k))) := by
      cases b with
      | false => simp
      | true =>
        simp only [if_true, BitVec.getLsbD_or, BitVec.getLsbD_shiftLeft, BitVec.getLsbD_one, Bool.true_and]
        congr 1
        by_cases h : j < 64 <;> by_cases h2 : j < k <;> by_cases h3 : j = k <;> simp [h, h2, h3] <;> omega
    rw [h1]
    by_cases h : j < 64
    · by_cases hk : j = k
      · subst hk
        simp [h, show ¬ (j + 1 ≤ j) by omega]
      · by_cases h2 : k ≤ j
        · have e : j - k = (j - (k + 1)) + 1 := by omega
          have h3 : k + 1 ≤ j := by omega
          rw [e]; simp [h, hk, h2, h3]
        · have h3 : ¬ (k + 1 ≤ j) := by omega
          simp [h, hk, h2, h3]
    · simp [h]
theorem makeT_bit (l : List Bool) (j : Nat) : (makeT l).getLsbD j = (decide (j < 64) && l.getD j false) := by
  rw [makeT, makeGo_bit]; simp
def tabB (n : Nat) (f : Nat → Bool) : BitVec 64 := makeT ((List.range (2 ^ n)).map f)
theorem tabB_bit {n : Nat} (hn : n ≤ 6) (f : Nat → Bool) (k : Nat) : (tabB n f).getLsbD k = (decide (k < 2 ^ n) && f k) := by
  have := two_pow_le6 hn
  rw [tabB, makeT_bit, List.getD_eq_getElem?_getD, List.getElem?_map]
  by_cases h : k < 2 ^ n
  · have h2 : k < 64 := by omega
    simp [h, h2]
  · rw [List.getElem?_eq_none (by simpa using h)]
    simp [h]
theorem tabB_congr {n : Nat} {f g : Nat → Bool} (h : ∀ k, k < 2 ^ n → f k = g k) : tabB n f = tabB n g := by
  unfold tabB; congr 1
  exact List.map_congr_left fun k hk => h k (List.mem_range.1 hk)
theorem tab_tabB {n : Nat} (hn : n ≤ 6) (f : Nat → Bool) : Tab n (tabB n f) := fun k hk => by
  rw [tabB_bit hn, Bool.and_eq_true] at hk; simpa using hk.1
theorem tabB_eq {n : Nat} (hn : n ≤ 6) {f : Nat → Bool} {t : BitVec 64} (ht : Tab n t) (h : ∀ k, k < 2 ^ n → t.getLsbD k = f k) : tabB n f = t :=
  eq_of_bits (tab_tabB hn f) ht fun k hk => by rw [tabB_bit hn, h k hk]; simp [hk]
theorem mask_ref {n : Nat} (hn : n ≤ 6) : tabB n (fun _ => true) = maskT n :=
  tabB_eq hn (tab_mask hn) fun k hk => by rw [maskT_bit' hn]; simpa using hk
theorem var_ref {n i : Nat} (hn : n ≤ 6) (hi : i < n) : tabB n (fun k => k.testBit i) = varR i n :=
  tabB_eq hn (tab_var hn hi) fun k hk => by rw [varR_bit hn hi]; simp [hk]
theorem cof_ref (t : BitVec 64) {n i : Nat} (v : Bool) (hn : n ≤ 6) (hi : i < n) : tabB n (fun k => t.getLsbD (setb k i v)) = cofR t n i v :=
  tabB_eq hn (tab_cof t v hn hi) fun k hk => by rw [cofR_bit t v hn hi]; simp [hk]
theorem flip_ref (t : BitVec 64) {n i : Nat} (hn : n ≤ 6) (hi : i < n) : tabB n (fun k => t.getLsbD (setb k i (!k.testBit i))) = flipR t n i :=
  tabB_eq hn (tab_flip t hn hi) fun k hk => by rw [flipR_bit t hn hi]; simp [hk]
theorem lim_lim (n : Int) : lim (lim n : Int) = lim n := lim_of (lim_le n)
theorem cofR_lim (t : BitVec 64) (n i : Int) (v : Bool) : cofR t (lim n : Int) i v = cofR t n i v := by unfold cofR; rw [lim_lim]
theorem flipR_lim (t : BitVec 64) (n i : Int) : flipR t (lim n : Int) i = flipR t n i := by unfold flipR; rw [lim_lim]
theorem varR_lim (n i : Int) : varR i (lim n : Int) = varR i n := by unfold varR; rw [lim_lim]
theorem valid_ref (t : BitVec 64) (n : Int) : (decide (0 ≤ n) && (decide (n ≤ 6) && decide (t ||| maskT (lim n) = maskT (lim n)))) = validT t n := by
  have h1 : n = (lim n : Int) ↔ 0 ≤ n ∧ n ≤ 6 := by unfold lim; split <;> (try split) <;> omega
  have h2 : t ||| maskT (lim n) = maskT (lim n) ↔ t &&& ~~~ maskT (lim n) = 0#64 := by
    rw [sub_iff]
    constructor
    · intro h k hk
      have := congrArg (fun b : BitVec 64 => b.getLsbD k) h
      simp only [BitVec.getLsbD_or, hk, Bool.true_or] at this
      exact this.symm
    · intro h
      apply BitVec.eq_of_getLsbD_eq
      intro k _
      rw [BitVec.getLsbD_or]
      cases hk : t.getLsbD k with
      | false => simp
      | true => rw [h k hk]; rfl
  rw [Bool.eq_iff_iff]
  simp only [validT, Bool.and_eq_true, decide_eq_true_eq, h1, h2, and_assoc]
end Go.Tab
