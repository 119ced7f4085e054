/- Cofactors, flips and supports: the plain laws. -/
import Derived.Test.YtbpjoamdcbbnnaaTabCanR
set_option linter.unusedSimpArgs false
set_option linter.unusedVariables false
namespace Go.Tab
theorem flipR_bit (t : BitVec 64) {n i : Nat} (hn : n ≤ 6) (hi : i < n) (k : Nat) :
    (flipR t n i).getLsbD k = (decide (k < 2 ^ n) && t.getLsbD (setb k i (!k.testBit i))) := by
  have h6 := two_pow_le6 hn
  by_cases hk : k < 64
  · have hl := lim_of hn
    have hne : ¬ ((i : Int) < 0 ∨ (lim (n : Int) : Int) ≤ (i : Int)) := by omega
    have ha := add_setb k hk i (by omega)
    have hsl : ∀ w, k < 2 ^ n → setb k i w < 2 ^ n := fun w h => setb_lt w h hi
    have hsl' : ∀ w, setb k i w < 2 ^ n → k < 2 ^ n := fun w h => by
      have := setb_lt (k.testBit i) h hi
      rwa [setb_set, setb_self rfl] at this
    have hs64 : ∀ w, setb k i w < 64 := fun w => setb_lt (n := 6) w hk (by omega)
    have hb : ∀ w, (setb k i w).testBit i = w := fun w => by rw [setb_testBit]; simp
    unfold flipR
    rw [if_neg hne, lim_of hn]
    have hv := varT_far k hk i (by omega)
    have hmk := fun x => maskT_bit' hn x
    simp only [Int.toNat_natCast, BitVec.getLsbD_or, BitVec.getLsbD_and, BitVec.getLsbD_not, BitVec.getLsbD_shiftLeft, BitVec.getLsbD_ushiftRight, hmk, hk, decide_true, Bool.true_and]
    rw [Nat.add_comm (2 ^ i) k]
    cases hki : k.testBit i with
    | true =>
      obtain ⟨h1, h2⟩ := ha.2 hki
      rw [hv.1 hki, h2, varT_bit i (by omega) _ (hs64 _), hb]
      have h1' : ¬ k < 2 ^ i := Nat.not_lt.2 h1
      by_cases hkn : k < 2 ^ n
      · simp [hkn, hsl false hkn, hs64 false, h1']
      · have : ¬ setb k i false < 2 ^ n := fun h => hkn (hsl' _ h)
        simp [hkn, this]
    | false =>
      rw [ha.1 hki, varT_bit i (by omega) _ (hs64 _), hb]
      by_cases h1 : k < 2 ^ i
      · by_cases hkn : k < 2 ^ n
        · simp [hkn, hsl true hkn, h1]
        · have : ¬ setb k i true < 2 ^ n := fun h => hkn (hsl' _ h)
          simp [hkn, this, h1]
      · rw [hv.2 hki (Nat.not_lt.1 h1)]
        by_cases hkn : k < 2 ^ n
        · simp [hkn, hsl true hkn]
        · have : ¬ setb k i true < 2 ^ n := fun h => hkn (hsl' _ h)
          simp [hkn, this]
  · rw [BitVec.getLsbD_of_ge _ _ (by omega)]
    have : ¬ k < 2 ^ n := by omega
    simp [this]
theorem varR_bit {n i : Nat} (hn : n ≤ 6) (hi : i < n) (k : Nat) : (varR i n).getLsbD k = (decide (k < 2 ^ n) && k.testBit i) := by
  have h6 := two_pow_le6 hn
  have hl := lim_of hn
  unfold varR
  rw [if_neg (by omega), BitVec.getLsbD_and, hl, maskT_bit' hn, Int.toNat_natCast]
  by_cases hk : k < 2 ^ n
  · rw [varT_bit i (by omega) k (by omega)]; simp [hk]
  · simp [hk]
theorem tab_and {n : Nat} (hn : n ≤ 6) (t : BitVec 64) : Tab n (t &&& maskT n) := fun k hk => by
  rw [BitVec.getLsbD_and, Bool.and_eq_true, maskT_bit' hn] at hk
  simpa using hk.2
theorem tab_flip (t : BitVec 64) {n i : Nat} (hn : n ≤ 6) (hi : i < n) : Tab n (flipR t n i) := fun k hk => by
  rw [flipR_bit t hn hi, Bool.and_eq_true] at hk
  simpa using hk.1
theorem tab_var {n i : Nat} (hn : n ≤ 6) (hi : i < n) : Tab n (varR i n) := fun k hk => by
  rw [varR_bit hn hi, Bool.and_eq_true] at hk
  simpa using hk.1
/-- a where the variable is 1, b where it is 0. -/
theorem mix_bit {n i : Nat} (hn : n ≤ 6) (hi : i < n) (a b : BitVec 64) (k : Nat) (hk : k < 2 ^ n) : ((varR i n &&& a) ||| (b &&& ~~~ varR i n)).getLsbD k = if k.testBit i = true then a.getLsbD k else b.getLsbD k := by
  rw [BitVec.getLsbD_or, andnot_bit, BitVec.getLsbD_and, varR_bit hn hi]
  cases k.testBit i <;> simp [hk]
theorem tab_mix {n i : Nat} (hn : n ≤ 6) (hi : i < n) {a b : BitVec 64} (hb : Tab n b) : Tab n ((varR i n &&& a) ||| (b &&& ~~~ varR i n)) := fun k hk => by
  rw [BitVec.getLsbD_or, andnot_bit, BitVec.getLsbD_and, Bool.or_eq_true, Bool.and_eq_true, Bool.and_eq_true] at hk
  rcases hk with hk | hk
  · exact tab_var hn hi k hk.1
  · exact hb k hk.1
section
variable {n i : Nat} (hn : n ≤ 6) (hi : i < n) {t : BitVec 64} (ht : Tab n t)
include hn hi
theorem exp_mix (ht : Tab n t) : t = (varR i n &&& cofR t n i true) ||| (cofR t n i false &&& ~~~ varR i n) := by
  refine eq_of_bits ht (tab_mix hn hi (tab_cof t false hn hi)) fun k hk => ?_
  rw [mix_bit hn hi _ _ k hk, cofR_bit t _ hn hi, cofR_bit t _ hn hi]
  cases h : k.testBit i with
  | true => simp [hk, setb_self h]
  | false => simp [hk, setb_self h]
theorem exp_cof (v w : Bool) : cofR (cofR t n i v) n i w = cofR t n i v := by
  refine eq_of_bits (tab_cof _ w hn hi) (tab_cof _ v hn hi) fun k hk => ?_
  rw [cofR_bit _ w hn hi, cofR_bit _ v hn hi, cofR_bit _ v hn hi, setb_set]
  simp [hk, setb_lt w hk hi]
theorem exp_flip : flipR t n i = (varR i n &&& cofR t n i false) ||| (cofR t n i true &&& ~~~ varR i n) := by
  refine eq_of_bits (tab_flip t hn hi) (tab_mix hn hi (tab_cof t true hn hi)) fun k hk => ?_
  rw [mix_bit hn hi _ _ k hk, cofR_bit t _ hn hi, cofR_bit t _ hn hi, flipR_bit t hn hi]
  cases h : k.testBit i with
  | true => simp [hk]
  | false => simp [hk]
theorem exp_flip2 (ht : Tab n t) : flipR (flipR t n i) n i = t := by
  refine eq_of_bits (tab_flip _ hn hi) ht fun k hk => ?_
  rw [flipR_bit _ hn hi, flipR_bit t hn hi, setb_testBit, if_pos rfl, Bool.not_not, setb_set, setb_self rfl]
  simp [hk, setb_lt _ hk hi]
end
theorem supGo_any (t : BitVec 64) (n : Int) (k : Nat) : ∀ d i, (supGo t n d i).any (fun j => j == (k : Int)) = (decide (i ≤ k ∧ k < i + d) && depR t n k)
  | 0, i => by simp [supGo]; intro h1 h2; omega
  | d + 1, i => by
    rw [supGo, List.any_append, supGo_any t n k d (i + 1)]
    by_cases h : k = i
    · subst h
      have h1 : ¬ (k + 1 ≤ k ∧ k < k + 1 + d) := by omega
      have h2 : k ≤ k ∧ k < k + (d + 1) := by omega
      rw [decide_eq_false h1, decide_eq_true h2]
      cases depR t n k <;> simp
    · have h1 : (if depR t n i = true then [(i : Int)] else []).any (fun j => j == (k : Int)) = false := by
        split
        · simp; omega
        · rfl
      rw [h1, Bool.false_or]
      congr 1
      by_cases h3 : i + 1 ≤ k ∧ k < i + 1 + d
      · rw [decide_eq_true h3, decide_eq_true (by omega)]
      · rw [decide_eq_false h3, decide_eq_false (by omega)]
theorem sup_any {n k : Nat} (hn : n ≤ 6) (hk : k < n) (t : BitVec 64) : (supportR t n).any (fun j => j == (k : Int)) = !decide (cofR t n k false = cofR t n k true) := by
  rw [supportR, supGo_any, lim_of hn, decide_eq_true (by omega), Bool.true_and]
  rfl
end Go.Tab
