/- Permutations and transformations bit by bit (no program here). -/
import Derived.Test.YtbpjoamdcbbnnaaTabRef
set_option linter.unusedSimpArgs false
set_option linter.unusedVariables false
namespace Go.Tab

theorem permX_bit (k : Nat) : ∀ (l : List Int) (j x : Nat), x < 2 ^ j → ∀ i, (permX k l j x).testBit i = if i < j then x.testBit i else (match l[i - j]? with | some o => k.testBit o.toNat | none => false)
  | [], j, x, hx, i => by
    simp only [permX, List.getElem?_nil]
    split
    · rfl
    · exact Nat.testBit_lt_two_pow (Nat.lt_of_lt_of_le hx (Nat.pow_le_pow_right (by omega) (by omega)))
  | o :: l, j, x, hx, i => by
    have h2 : (k >>> o.toNat) % 2 * 2 ^ j = if k.testBit o.toNat = true then 2 ^ j else 0 := by
      have : (k >>> o.toNat) % 2 = (k.testBit o.toNat).toNat := by
        rw [Nat.testBit, Nat.and_comm, Nat.and_one_is_mod]
        have := Nat.mod_two_eq_zero_or_one (k >>> o.toNat)
        rcases this with h | h <;> simp [h]
      rw [this]
      cases k.testBit o.toNat <;> simp
    have h1 : x ||| ((k >>> o.toNat) % 2) * 2 ^ j < 2 ^ (j + 1) := by
      rw [h2]
      refine Nat.or_lt_two_pow (Nat.lt_of_lt_of_le hx (Nat.pow_le_pow_right (by omega) (by omega))) ?_
      have := Nat.two_pow_pos j
      split
      · exact Nat.pow_lt_pow_right (by omega) (by omega)
      · exact Nat.two_pow_pos _
    rw [permX, permX_bit k l (j + 1) _ h1]
    by_cases hi : i < j
    · rw [if_pos (by omega), if_pos hi, Nat.testBit_or, h2]
      split
      · rw [Nat.testBit_two_pow_of_ne (by omega)]; simp
      · simp
    · by_cases hij : i = j
      · subst hij
        rw [if_pos (by omega), if_neg hi, Nat.sub_self, List.getElem?_cons_zero, Nat.testBit_or, h2, Nat.testBit_lt_two_pow hx]
        cases h : k.testBit o.toNat <;> simp [Nat.testBit_two_pow_self, h]
      · rw [if_neg (by omega), if_neg hi, show i - j = (i - (j + 1)) + 1 from by omega, List.getElem?_cons_succ]
theorem permX_bit0 (k : Nat) (l : List Int) (i : Nat) : (permX k l 0 0).testBit i = (match l[i]? with | some o => k.testBit o.toNat | none => false) := by
  rw [permX_bit k l 0 0 (by decide) i, if_neg (by omega), Nat.sub_zero]
theorem permX_lt0 (k : Nat) (l : List Int) : permX k l 0 0 < 2 ^ l.length := by
  have := permX_lt k l 0 0 (by decide)
  simpa using this
theorem permT_bit (t : BitVec 64) (l : List Int) : ∀ (d k : Nat) (out : BitVec 64) (j : Nat), j < 64 → (permT t l d k out).getLsbD j = (out.getLsbD j || (decide (k ≤ j ∧ j < k + d) && evT t (permX j l 0 0)))
  | 0, k, out, j, hj => by
    have : ¬ (k ≤ j ∧ j < k) := by omega
    simp [permT, this]
  | d + 1, k, out, j, hj => by
    rw [permT, permT_bit t l d (k + 1) _ j hj]
    have h1 : (if evT t (permX k l 0 0) = true then out ||| (1#64 <<< k) else out).getLsbD j = (out.getLsbD j || (decide (j = k) && evT t (permX j l 0 0))) := by
      by_cases hk : j = k
      · subst hk
        cases h : evT t (permX j l 0 0) <;> simp [hj]
      · split
        · simp only [BitVec.getLsbD_or, BitVec.getLsbD_shiftLeft, BitVec.getLsbD_one, hk, decide_false, Bool.false_and, Bool.or_false]
          by_cases h2 : j < k
          · simp [h2]
          · have : ¬ (j - k = 0) := by omega
            simp [this]
        · simp [hk]
    rw [h1, Bool.or_assoc]
    congr 1
    rw [← Bool.and_or_distrib_right]
    congr 1
    by_cases h1 : j = k <;> by_cases h2 : k + 1 ≤ j <;> by_cases h3 : j < k + 1 + d <;> simp [h1, h2, h3] <;> omega
theorem evT_natT (t : BitVec 64) (k : Nat) : evT t (k : Int) = t.getLsbD k := by simp [evT]
theorem permuteR_bit (t : BitVec 64) {n : Nat} (hn : n ≤ 6) (l : List Int) (k : Nat) : (permuteR t n l).getLsbD k = (decide (k < 2 ^ n) && t.getLsbD (permX k l 0 0)) := by
  have h6 := two_pow_le6 hn
  by_cases hk : k < 64
  · rw [permuteR, permT_bit t l _ _ _ k hk, evT_natT]
    simp
  · rw [BitVec.getLsbD_of_ge _ _ (by omega)]
    simp; omega
theorem tab_permute (t : BitVec 64) {n : Nat} (hn : n ≤ 6) (l : List Int) : Tab n (permuteR t n l) := fun k hk => by
  rw [permuteR_bit t hn, Bool.and_eq_true] at hk; simpa using hk.1
theorem setb_not {k i : Nat} : setb k i (!k.testBit i) = k ^^^ 2 ^ i := Nat.eq_of_testBit_eq fun j => by
  rw [setb_testBit, Nat.testBit_xor]
  by_cases h : j = i
  · subst h; rw [if_pos rfl, Nat.testBit_two_pow_self]; simp
  · rw [if_neg h, Nat.testBit_two_pow_of_ne (fun e => h e.symm)]; simp
/-- The bits i .. i + d - 1 of f. -/
def part (f i d : Nat) : Nat := (f / 2 ^ i) % 2 ^ d * 2 ^ i
theorem part_bit (f i d j : Nat) : (part f i d).testBit j = (decide (i ≤ j ∧ j < i + d) && f.testBit j) := by
  unfold part
  rw [← Nat.shiftLeft_eq, Nat.testBit_shiftLeft, ← Nat.shiftRight_eq_div_pow, Nat.testBit_mod_two_pow, Nat.testBit_shiftRight]
  by_cases h : i ≤ j
  · rw [show i + (j - i) = j from by omega]
    by_cases h2 : j < i + d
    · have : j - i < d := by omega
      simp [h, h2, this]
    · have : ¬ j - i < d := by omega
      simp [h, h2, this]
  · simp [h]
theorem flipGo_bit {n : Nat} (hn : n ≤ 6) (f : Nat) : ∀ (d i : Nat) (t : BitVec 64), i + d ≤ n → Tab n t → Tab n (flipGo n f d i t) ∧ ∀ k, k < 2 ^ n → (flipGo n f d i t).getLsbD k = t.getLsbD (k ^^^ part f i d)
  | 0, i, t, _, ht => by
    refine ⟨ht, fun k hk => ?_⟩
    have : part f i 0 = 0 := by simp [part, Nat.mod_one]
    rw [this, Nat.xor_zero]; rfl
  | d + 1, i, t, hid, ht => by
    have hi : i < n := by omega
    have ht1 : Tab n (if f.testBit i = true then flipR t n i else t) := by
      split
      · exact tab_flip t hn hi
      · exact ht
    obtain ⟨g1, g2⟩ := flipGo_bit hn f d (i + 1) _ (by omega) ht1
    refine ⟨g1, fun k hk => ?_⟩
    have hp : part f i (d + 1) = part f (i + 1) d ^^^ (if f.testBit i = true then 2 ^ i else 0) := Nat.eq_of_testBit_eq fun j => by
      rw [Nat.testBit_xor, part_bit, part_bit]
      by_cases hj : j = i
      · subst hj
        have : ¬ (j + 1 ≤ j ∧ j < j + 1 + d) := by omega
        have h2 : j ≤ j ∧ j < j + (d + 1) := by omega
        rw [decide_eq_true h2, decide_eq_false this]
        cases h : f.testBit j <;> simp [Nat.testBit_two_pow_self]
      · have e : (i ≤ j ∧ j < i + (d + 1)) ↔ (i + 1 ≤ j ∧ j < i + 1 + d) := by omega
        have e' : decide (i ≤ j ∧ j < i + (d + 1)) = decide (i + 1 ≤ j ∧ j < i + 1 + d) := decide_eq_decide.2 e
        rw [e']
        split
        · rw [Nat.testBit_two_pow_of_ne (fun e => hj e.symm)]; simp
        · simp
    have hlt : k ^^^ part f (i + 1) d < 2 ^ n := by
      refine Nat.xor_lt_two_pow hk (Nat.lt_pow_two_of_testBit _ fun j hj => ?_)
      rw [part_bit, decide_eq_false (by omega), Bool.false_and]
    rw [flipGo, g2 k hk, hp]
    split
    · rename_i hb
      rw [flipR_bit t hn hi, setb_not, decide_eq_true hlt, Bool.true_and, Nat.xor_assoc]
    · rw [Nat.xor_zero]
theorem flips_bit {n : Nat} (hn : n ≤ 6) {f : Nat} (hf : f < 2 ^ n) {t : BitVec 64} (ht : Tab n t) : Tab n (flipGo n f n 0 t) ∧ ∀ k, k < 2 ^ n → (flipGo n f n 0 t).getLsbD k = t.getLsbD (k ^^^ f) := by
  obtain ⟨h1, h2⟩ := flipGo_bit hn f n 0 t (by omega) ht
  refine ⟨h1, fun k hk => ?_⟩
  rw [h2 k hk]
  have : part f 0 n = f := by simp [part, Nat.mod_eq_of_lt hf]
  rw [this]
theorem xor_mask {n : Nat} (hn : n ≤ 6) (u : BitVec 64) {k : Nat} (hk : k < 2 ^ n) : (u ^^^ maskT n).getLsbD k = !u.getLsbD k := by
  rw [BitVec.getLsbD_xor, maskT_bit' hn, decide_eq_true hk]; simp
theorem tab_xor_mask {n : Nat} (hn : n ≤ 6) {u : BitVec 64} (hu : Tab n u) : Tab n (u ^^^ maskT n) := fun k hk => by
  apply Decidable.byContradiction; intro h
  have h1 : u.getLsbD k = false := by
    cases e : u.getLsbD k with
    | false => rfl
    | true => exact absurd (hu k e) h
  rw [BitVec.getLsbD_xor, maskT_bit' hn, decide_eq_false h, h1] at hk
  cases hk
theorem tab_applyV (t : BitVec 64) {n : Nat} (hn : n ≤ 6) (l : List Int) (f : Nat) (neg : Bool) : Tab n (applyV t n l f neg) := by
  unfold applyV
  simp only [lim_of hn]
  split
  · exact tab_xor_mask hn (tab_permute _ hn l)
  · exact tab_permute _ hn l
theorem applyV_bit {t : BitVec 64} {n : Nat} (hn : n ≤ 6) (ht : Tab n t) {l : List Int} (hl : l.length = n) {f : Nat} (hf : f < 2 ^ n) (neg : Bool) {k : Nat} (hk : k < 2 ^ n) :
    (applyV t n l f neg).getLsbD k = (t.getLsbD (permX k l 0 0 ^^^ f) != neg) := by
  have hx : permX k l 0 0 < 2 ^ n := hl ▸ permX_lt0 k l
  obtain ⟨_, h2⟩ := flips_bit hn hf ht
  unfold applyV
  simp only [lim_of hn]
  split
  · rename_i h
    rw [xor_mask hn _ hk, permuteR_bit _ hn, decide_eq_true hk, Bool.true_and, h2 _ hx, h]; simp
  · rename_i h
    have : neg = false := by simpa using h
    rw [permuteR_bit _ hn, decide_eq_true hk, Bool.true_and, h2 _ hx, this]; simp
/-- The reference's assignment. -/
def refX (k : Nat) (l : List Int) (f : Nat) : Nat → Nat
  | 0 => 0
  | i + 1 => setb (refX k l f i) i (k.testBit (l.getD i 0).toNat != f.testBit i)
theorem refX_bit (k : Nat) (l : List Int) (f : Nat) : ∀ (n j : Nat), (refX k l f n).testBit j = (decide (j < n) && (k.testBit (l.getD j 0).toNat != f.testBit j))
  | 0, j => by simp [refX]
  | n + 1, j => by
    rw [refX, setb_testBit, refX_bit k l f n]
    by_cases h : j = n
    · subst h; simp
    · have : decide (j < n + 1) = decide (j < n) := decide_eq_decide.2 (by omega)
      rw [if_neg h, this]
theorem refX_lt (k : Nat) (l : List Int) (f n : Nat) : refX k l f n < 2 ^ n := Nat.lt_pow_two_of_testBit _ fun j hj => by
  rw [refX_bit, decide_eq_false (by omega), Bool.false_and]
theorem refX_eq (k : Nat) {l : List Int} {n f : Nat} (hl : l.length = n) (hf : f < 2 ^ n) : refX k l f n = permX k l 0 0 ^^^ f := Nat.eq_of_testBit_eq fun j => by
  rw [refX_bit, Nat.testBit_xor, permX_bit0]
  by_cases h : j < n
  · have hj : j < l.length := by omega
    rw [List.getElem?_eq_getElem hj, List.getD_eq_getElem?_getD, List.getElem?_eq_getElem hj]
    simp [h]
  · rw [List.getElem?_eq_none (by omega), Nat.testBit_lt_two_pow (Nat.lt_of_lt_of_le hf (Nat.pow_le_pow_right (by omega) (by omega)))]
    simp [h]
theorem apply_ref {t : BitVec 64} {n : Nat} (hn : n ≤ 6) (ht : Tab n t) {l : List Int} (hl : l.length = n) {f : Nat} (hf : f < 2 ^ n) (neg : Bool) :
    tabB n (fun k => t.getLsbD (refX k l f n) != neg) = applyV t n l f neg :=
  tabB_eq hn (tab_applyV t hn l f neg) fun k hk => by rw [applyV_bit hn ht hl hf neg hk, refX_eq k hl hf]
theorem shr_zero {f n : Nat} : f >>> n = 0 ↔ f < 2 ^ n := by
  rw [Nat.shiftRight_eq_div_pow, Nat.div_eq_zero_iff_lt (Nat.two_pow_pos n)]
end Go.Tab
