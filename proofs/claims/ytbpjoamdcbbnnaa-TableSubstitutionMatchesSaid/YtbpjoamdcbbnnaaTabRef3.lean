/- Compositions bit by bit (no program here). -/
import Derived.Test.YtbpjoamdcbbnnaaTabRef2
set_option linter.unusedSimpArgs false
set_option linter.unusedVariables false
namespace Go.Tab
def compX (k : Nat) (l : List (BitVec 64)) : Nat → Nat
  | 0 => 0
  | i + 1 => setb (compX k l i) i ((l.getD i 0#64).getLsbD k)
theorem compX_bit (k : Nat) (l : List (BitVec 64)) : ∀ (n j : Nat), (compX k l n).testBit j = (decide (j < n) && (l.getD j 0#64).getLsbD k)
  | 0, j => by simp [compX]
  | n + 1, j => by
    rw [compX, setb_testBit, compX_bit k l n]
    by_cases h : j = n
    · subst h; simp
    · have : decide (j < n + 1) = decide (j < n) := decide_eq_decide.2 (by omega)
      rw [if_neg h, this]
theorem compX_lt (k : Nat) (l : List (BitVec 64)) (n : Nat) : compX k l n < 2 ^ n := Nat.lt_pow_two_of_testBit _ fun j hj => by
  rw [compX_bit, decide_eq_false (by omega), Bool.false_and]
theorem prodGo_bit (j k : Nat) (hk : k < 64) : ∀ (l : List (BitVec 64)) (i : Nat) (p : BitVec 64), (prodGo j l i p).getLsbD k = true ↔ p.getLsbD k = true ∧ ∀ x (h : x < l.length), j.testBit (i + x) = l[x].getLsbD k
  | [], i, p => by simp [prodGo]
  | a :: l, i, p => by
    rw [prodGo, prodGo_bit j k hk l (i + 1)]
    have h1 : (if j.testBit i = true then p &&& a else p &&& ~~~ a).getLsbD k = (p.getLsbD k && (j.testBit i == a.getLsbD k)) := by
      have h0 : ∀ q : BitVec 64, (p &&& q).getLsbD k = (p.getLsbD k && q.getLsbD k) := fun q => BitVec.getLsbD_and
      have h1 : (~~~ a).getLsbD k = !a.getLsbD k := by rw [BitVec.getLsbD_not, decide_eq_true hk, Bool.true_and]
      cases j.testBit i <;> cases h : a.getLsbD k <;> simp only [if_true, Bool.false_eq_true, if_false, h0, h1, h] <;> cases p.getLsbD k <;> rfl
    rw [h1, Bool.and_eq_true, beq_iff_eq, and_assoc]
    refine and_congr_right fun _ => ⟨fun ⟨h1, h2⟩ x hx => ?_, fun h => ⟨by have := h 0 (by simp); simpa using this, fun x hx => ?_⟩⟩
    · cases x with
      | zero => simpa using h1
      | succ x =>
        have := h2 x (by simpa using hx)
        rw [show i + (x + 1) = i + 1 + x from by omega]; simpa using this
    · have := h (x + 1) (by simpa using hx)
      rw [show i + 1 + x = i + (x + 1) from by omega]; simpa using this
theorem compGo_bit (t : BitVec 64) (l : List (BitVec 64)) (mask : BitVec 64) (k : Nat) : ∀ (d j : Nat) (out : BitVec 64), (compGo t l mask d j out).getLsbD k = true ↔ out.getLsbD k = true ∨ ∃ x, j ≤ x ∧ x < j + d ∧ evT t x = true ∧ (prodGo x l 0 mask).getLsbD k = true
  | 0, j, out => by
    simp only [compGo]
    exact ⟨fun h => .inl h, fun h => h.elim id fun ⟨x, h1, h2, _⟩ => by omega⟩
  | d + 1, j, out => by
    rw [compGo, compGo_bit t l mask k d (j + 1)]
    constructor
    · rintro (h | ⟨x, h1, h2, h3, h4⟩)
      · split at h
        · rename_i he
          rw [BitVec.getLsbD_or, Bool.or_eq_true] at h
          rcases h with h | h
          · exact .inl h
          · exact .inr ⟨j, by omega, by omega, he, h⟩
        · exact .inl h
      · exact .inr ⟨x, by omega, by omega, h3, h4⟩
    · rintro (h | ⟨x, h1, h2, h3, h4⟩)
      · left
        split
        · rw [BitVec.getLsbD_or, h]; rfl
        · exact h
      · by_cases hx : x = j
        · subst hx
          left
          rw [if_pos h3, BitVec.getLsbD_or, h4, Bool.or_true]
        · exact .inr ⟨x, by omega, by omega, h3, h4⟩
theorem comp_bit (t : BitVec 64) {n m : Nat} (hm : m ≤ 6) {l : List (BitVec 64)} (hl : l.length = n) (k : Nat) : (compGo t l (maskT m) (2 ^ n) 0 0#64).getLsbD k = (decide (k < 2 ^ m) && t.getLsbD (compX k l n)) := by
  rw [Bool.eq_iff_iff, compGo_bit]
  by_cases hk : k < 2 ^ m
  · have h64 := two_pow_le6 hm
    rw [decide_eq_true hk, Bool.true_and]
    simp only [BitVec.getLsbD_zero, Bool.false_eq_true, false_or]
    constructor
    · rintro ⟨x, _, h2, h3, h4⟩
      rw [prodGo_bit _ _ (by omega)] at h4
      have : x = compX k l n := by
        apply Nat.eq_of_testBit_eq
        intro i
        rw [compX_bit]
        by_cases hi : i < n
        · have := h4.2 i (by omega)
          rw [Nat.zero_add] at this
          rw [this, decide_eq_true hi, List.getD_eq_getElem?_getD, List.getElem?_eq_getElem (by omega)]; simp
        · rw [decide_eq_false hi, Nat.testBit_lt_two_pow (Nat.lt_of_lt_of_le (show x < 2 ^ n by omega) (Nat.pow_le_pow_right (by omega) (by omega)))]; rfl
      rw [evT_natT, this] at h3
      exact h3
    · intro h
      refine ⟨compX k l n, by omega, by have := compX_lt k l n; omega, by rw [evT_natT]; exact h, ?_⟩
      rw [prodGo_bit _ _ (by omega)]
      refine ⟨by rw [maskT_bit' hm]; simpa using hk, fun x hx => ?_⟩
      rw [Nat.zero_add, compX_bit, decide_eq_true (by omega), List.getD_eq_getElem?_getD, List.getElem?_eq_getElem hx]; simp
  · rw [decide_eq_false hk, Bool.false_and]
    simp only [BitVec.getLsbD_zero, Bool.false_eq_true, false_or, iff_false]
    rintro ⟨x, _, _, _, h4⟩
    by_cases hk64 : k < 64
    · rw [prodGo_bit _ _ hk64, maskT_bit' hm] at h4
      exact hk (by simpa using h4.1)
    · rw [BitVec.getLsbD_of_ge _ _ (by omega)] at h4; cases h4
theorem comp_ref (t : BitVec 64) {n m : Nat} (hm : m ≤ 6) {l : List (BitVec 64)} (hl : l.length = n) : tabB m (fun k => t.getLsbD (compX k l n)) = compGo t l (maskT m) (2 ^ n) 0 0#64 :=
  tabB_eq hm (fun k hk => by rw [comp_bit t hm hl, Bool.and_eq_true] at hk; simpa using hk.1) fun k hk => by rw [comp_bit t hm hl]; simp [hk]
theorem valid_zero (m : Int) : validT 0#64 m = true ↔ 0 ≤ m ∧ m ≤ 6 := by
  have h1 : m = (lim m : Int) ↔ 0 ≤ m ∧ m ≤ 6 := by unfold lim; split <;> (try split) <;> omega
  simp only [validT, Bool.and_eq_true, decide_eq_true_eq, h1, BitVec.zero_and, and_true]
end Go.Tab
