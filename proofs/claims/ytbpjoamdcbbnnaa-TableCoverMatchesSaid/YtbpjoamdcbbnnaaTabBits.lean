/- Truth tables bit by bit (no program here). -/
import Derived.Test.YtbpjoamdcbbnnaaTabRaw
set_option linter.unusedSimpArgs false
set_option linter.unusedVariables false
namespace Go.Tab

/-- k with bit i set to v. -/
def setb (k i : Nat) (v : Bool) : Nat := if v = true then k ||| 2 ^ i else (k ||| 2 ^ i) ^^^ 2 ^ i

theorem setb_testBit (k i j : Nat) (v : Bool) : (setb k i v).testBit j = if j = i then v else k.testBit j := by
  unfold setb
  by_cases h : j = i
  · subst h; cases v <;> simp [Nat.testBit_two_pow_self]
  · have h' : i ≠ j := fun e => h e.symm
    cases v <;> simp [h, h', Nat.testBit_two_pow]
theorem setb_self {k i : Nat} {v : Bool} (h : k.testBit i = v) : setb k i v = k :=
  Nat.eq_of_testBit_eq fun j => by rw [setb_testBit]; split <;> simp_all
theorem setb_set (k i : Nat) (v w : Bool) : setb (setb k i v) i w = setb k i w :=
  Nat.eq_of_testBit_eq fun j => by simp only [setb_testBit]; split <;> rfl
theorem setb_comm (k : Nat) {i j : Nat} (h : i ≠ j) (v w : Bool) : setb (setb k i v) j w = setb (setb k j w) i v :=
  Nat.eq_of_testBit_eq fun x => by
    simp only [setb_testBit]
    by_cases h1 : x = i
    · subst h1; simp [h]
    · simp [h1]
theorem setb_lt {k i n : Nat} (v : Bool) (hk : k < 2 ^ n) (hi : i < n) : setb k i v < 2 ^ n :=
  Nat.lt_pow_two_of_testBit _ fun j hj => by
    rw [setb_testBit, if_neg (by omega)]
    exact Nat.testBit_lt_two_pow (Nat.lt_of_lt_of_le hk (Nat.pow_le_pow_right (by omega) hj))
theorem two_pow_le6 {n : Nat} (h : n ≤ 6) : 2 ^ n ≤ 64 := by
  have := Nat.pow_le_pow_right (n := 2) (by omega) h
  simpa using this
theorem add_setb : ∀ k : Nat, k < 64 → ∀ i : Nat, i < 6 → (k.testBit i = false → k + 2 ^ i = setb k i true) ∧ (k.testBit i = true → 2 ^ i ≤ k ∧ k - 2 ^ i = setb k i false) := by
  decide
theorem varT_bit : ∀ i : Nat, i < 6 → ∀ k : Nat, k < 64 → (varT i).getLsbD k = k.testBit i := by
  decide
theorem varT_far : ∀ k : Nat, k < 64 → ∀ i : Nat, i < 6 → (k.testBit i = true → (varT i).getLsbD (k + 2 ^ i) = false) ∧ (k.testBit i = false → 2 ^ i ≤ k → (varT i).getLsbD (k - 2 ^ i) = true) := by
  decide
theorem maskT_bit : ∀ n : Nat, n ≤ 6 → ∀ k : Nat, k < 64 → (maskT n).getLsbD k = decide (k < 2 ^ n) := by
  decide
theorem maskT_bit' {n : Nat} (hn : n ≤ 6) (k : Nat) : (maskT n).getLsbD k = decide (k < 2 ^ n) := by
  by_cases h : k < 64
  · exact maskT_bit n hn k h
  · have := two_pow_le6 hn
    rw [BitVec.getLsbD_of_ge _ _ (by omega)]
    simp; omega
theorem lim_of {n : Nat} (h : n ≤ 6) : lim (n : Int) = n := by
  unfold lim; split <;> (try split) <;> omega

theorem cofR_bit (t : BitVec 64) {n i : Nat} (v : Bool) (hn : n ≤ 6) (hi : i < n) (k : Nat) :
    (cofR t n i v).getLsbD k = (decide (k < 2 ^ n) && t.getLsbD (setb k i v)) := by
  have h6 := two_pow_le6 hn
  by_cases hk : k < 64
  · have hl := lim_of hn
    have hne : ¬ ((i : Int) < 0 ∨ (lim (n : Int) : Int) ≤ (i : Int)) := by omega
    have ha := add_setb k hk i (by omega)
    have hsl : ∀ w, k < 2 ^ n → setb k i w < 2 ^ n := fun w h => setb_lt w h hi
    have hsl' : ∀ w, setb k i w < 2 ^ n → k < 2 ^ n := fun w h => by
      have := setb_lt (k.testBit i) h hi
      rwa [setb_set, setb_self rfl] at this
    have hs64 : ∀ w, setb k i w < 64 := fun w => setb_lt (n := 6) w hk (by omega)
    have hb : ∀ w, (setb k i w).testBit i = w := fun w => by rw [setb_testBit]; simp
    unfold cofR
    rw [if_neg hne, lim_of hn]
    have hv := varT_far k hk i (by omega)
    have hmk := fun x => maskT_bit' hn x
    cases v with
    | true =>
      simp only [if_true, Int.toNat_natCast, BitVec.getLsbD_or, BitVec.getLsbD_and, BitVec.getLsbD_ushiftRight, varT_bit i (by omega) k hk, hmk]
      rw [Nat.add_comm (2 ^ i) k]
      cases hki : k.testBit i with
      | true =>
        rw [setb_self hki, hv.1 hki]
        simp [Bool.and_comm]
      | false =>
        rw [ha.1 hki, varT_bit i (by omega) _ (hs64 _), hb]
        by_cases hkn : k < 2 ^ n
        · simp [hkn, hsl true hkn]
        · have : ¬ setb k i true < 2 ^ n := fun h => hkn (hsl' _ h)
          simp [hkn, this]
    | false =>
      simp only [Bool.false_eq_true, if_false, Int.toNat_natCast, BitVec.getLsbD_or, BitVec.getLsbD_and, BitVec.getLsbD_not, BitVec.getLsbD_shiftLeft, varT_bit i (by omega) k hk, hmk, hk, decide_true, Bool.true_and]
      cases hki : k.testBit i with
      | true =>
        have ⟨h1, h2⟩ := ha.2 hki
        rw [h2, varT_bit i (by omega) _ (hs64 _), hb]
        have h1' : ¬ k < 2 ^ i := Nat.not_lt.2 h1
        by_cases hkn : k < 2 ^ n
        · simp [hkn, hsl false hkn, hs64 false, h1']
        · have : ¬ setb k i false < 2 ^ n := fun h => hkn (hsl' _ h)
          simp [hkn, this]
      | false =>
        rw [setb_self hki]
        by_cases h1 : k < 2 ^ i
        · simp [h1, Bool.and_comm]
        · rw [hv.2 hki (Nat.not_lt.1 h1)]
          simp [Bool.and_comm]
  · rw [BitVec.getLsbD_of_ge _ _ (by omega)]
    have : ¬ k < 2 ^ n := by omega
    simp [this]

/-- Every 1 of a is a 1 of b. -/
def Sub (a b : BitVec 64) : Prop := ∀ k, a.getLsbD k = true → b.getLsbD k = true
/-- t does not depend on variable i, as a function of n variables. -/
def Ind (n : Nat) (t : BitVec 64) (i : Nat) : Prop := ∀ k v, k < 2 ^ n → t.getLsbD (setb k i v) = t.getLsbD k
def Tab (n : Nat) (t : BitVec 64) : Prop := ∀ k, t.getLsbD k = true → k < 2 ^ n

theorem sub_iff {a b : BitVec 64} : a &&& ~~~ b = 0#64 ↔ Sub a b := by
  constructor
  · intro h k hk
    have := congrArg (fun x : BitVec 64 => x.getLsbD k) h
    have h64 : k < 64 := by
      apply Decidable.byContradiction; intro hn
      rw [BitVec.getLsbD_of_ge _ _ (by omega)] at hk; cases hk
    simp [hk, h64] at this
    exact this
  · intro h
    apply BitVec.eq_of_getLsbD_eq
    intro k hk
    simp only [BitVec.getLsbD_and, BitVec.getLsbD_not, hk, decide_true, Bool.true_and, BitVec.getLsbD_zero]
    cases ha : a.getLsbD k with
    | false => rfl
    | true => simp [h k ha]
theorem tab_iff {n : Nat} (hn : n ≤ 6) {t : BitVec 64} : Sub t (maskT n) ↔ Tab n t := by
  constructor
  · intro h k hk; have := h k hk; rw [maskT_bit' hn] at this; simpa using this
  · intro h k hk; rw [maskT_bit' hn]; simpa using h k hk
theorem validT_iff {t : BitVec 64} {n : Int} : validT t n = true ↔ ∃ m : Nat, n = m ∧ m ≤ 6 ∧ Tab m t := by
  constructor
  · intro h
    have hl := validT_lim h
    have h6 := lim_le n
    refine ⟨lim n, hl, h6, ?_⟩
    simp only [validT, Bool.and_eq_true, decide_eq_true_eq] at h
    exact (tab_iff h6).1 (sub_iff.1 h.2)
  · rintro ⟨m, rfl, h6, ht⟩
    simp only [validT, Bool.and_eq_true, decide_eq_true_eq, lim_of h6]
    exact ⟨trivial, sub_iff.2 ((tab_iff h6).2 ht)⟩
theorem eq_of_bits {n : Nat} {a b : BitVec 64} (ha : Tab n a) (hb : Tab n b) (h : ∀ k, k < 2 ^ n → a.getLsbD k = b.getLsbD k) : a = b := by
  apply BitVec.eq_of_getLsbD_eq
  intro k _
  by_cases hk : k < 2 ^ n
  · exact h k hk
  · have h1 : a.getLsbD k = false := by
      cases hh : a.getLsbD k with
      | false => rfl
      | true => exact absurd (ha k hh) hk
    have h2 : b.getLsbD k = false := by
      cases hh : b.getLsbD k with
      | false => rfl
      | true => exact absurd (hb k hh) hk
    rw [h1, h2]
theorem tab_cof (t : BitVec 64) {n i : Nat} (v : Bool) (hn : n ≤ 6) (hi : i < n) : Tab n (cofR t n i v) := fun k hk => by
  rw [cofR_bit t v hn hi, Bool.and_eq_true] at hk
  simpa using hk.1
theorem depR_iff (t : BitVec 64) {n i : Nat} (hn : n ≤ 6) (hi : i < n) : depR t n i = false ↔ Ind n t i := by
  have hc : depR t n i = false ↔ cofR t n i false = cofR t n i true := by simp [depR]
  rw [hc]
  constructor
  · intro h k v hk
    have := congrArg (fun x : BitVec 64 => x.getLsbD k) h
    simp only [cofR_bit t _ hn hi, hk, decide_true, Bool.true_and] at this
    cases hb : k.testBit i with
    | true => cases v with
      | true => rw [setb_self hb]
      | false => rw [this, setb_self hb]
    | false => cases v with
      | true => rw [← this, setb_self hb]
      | false => rw [setb_self hb]
  · intro h
    apply BitVec.eq_of_getLsbD_eq
    intro k _
    rw [cofR_bit t _ hn hi, cofR_bit t _ hn hi]
    by_cases hk : k < 2 ^ n
    · rw [h k _ hk, h k _ hk]
    · simp [hk]
/-- Of the variables behind V nothing depends. -/
def IndF (n V : Nat) (t : BitVec 64) : Prop := ∀ i, V ≤ i → i < n → Ind n t i
/-- What isop is called with. -/
structure Good (n V : Nat) (L U : BitVec 64) : Prop where
  sub : Sub L U
  tab : Tab n U
  indL : IndF n V L
  indU : IndF n V U
theorem Good.tabL {n V : Nat} {L U : BitVec 64} (h : Good n V L U) : Tab n L := fun k hk => h.tab k (h.sub k hk)

def isopG (n : Nat) : Nat → BitVec 64 → BitVec 64 → List (Nat × Nat) × BitVec 64
  | 0, L, U => if L = 0#64 then ([], 0#64) else ([(0, 0)], U)
  | V + 1, L, U =>
    if L = 0#64 then ([], 0#64) else if U = maskT n then ([(0, 0)], U)
    else if depR L n V = false ∧ depR U n V = false then isopG n V L U
    else
      let r0 := isopG n V (cofR L n V false &&& ~~~ cofR U n V true) (cofR U n V false)
      let r1 := isopG n V (cofR L n V true &&& ~~~ cofR U n V false) (cofR U n V true)
      let r := isopG n V ((cofR L n V false &&& ~~~ r0.2) ||| (cofR L n V true &&& ~~~ r1.2)) (cofR U n V false &&& cofR U n V true)
      (r.1 ++ r0.1.map (fun c => (c.1, c.2 ||| 2 ^ V)) ++ r1.1.map (fun c => (c.1 ||| 2 ^ V, c.2)), (r.2 ||| (r0.2 &&& ~~~ varT V)) ||| (r1.2 &&& varT V))

theorem ind_cof {n V i : Nat} {t : BitVec 64} (v : Bool) (hn : n ≤ 6) (hV : V < n) (h : IndF n (V + 1) t) (hi : V ≤ i) (hin : i < n) : Ind n (cofR t n V v) i := by
  intro k w hk
  rw [cofR_bit t v hn hV, cofR_bit t v hn hV]
  simp only [hk, setb_lt w hk hin, decide_true, Bool.true_and]
  by_cases he : i = V
  · subst he; rw [setb_set]
  · rw [setb_comm _ he, h i (by omega) hin _ _ (setb_lt v hk hV)]
theorem Ind.and {n i : Nat} {a b : BitVec 64} (ha : Ind n a i) (hb : Ind n b i) : Ind n (a &&& b) i := fun k v hk => by
  rw [BitVec.getLsbD_and, BitVec.getLsbD_and, ha k v hk, hb k v hk]
theorem Ind.or {n i : Nat} {a b : BitVec 64} (ha : Ind n a i) (hb : Ind n b i) : Ind n (a ||| b) i := fun k v hk => by
  rw [BitVec.getLsbD_or, BitVec.getLsbD_or, ha k v hk, hb k v hk]
theorem Ind.not {n i : Nat} {a : BitVec 64} (hn : n ≤ 6) (hi : i < n) (ha : Ind n a i) : Ind n (~~~ a) i := fun k v hk => by
  have h6 := two_pow_le6 hn
  have h1 : k < 64 := by omega
  have h2 : setb k i v < 64 := by have := setb_lt v hk hi; omega
  rw [BitVec.getLsbD_not, BitVec.getLsbD_not, ha k v hk]
  simp [h1, h2]
theorem andnot_bit (a b : BitVec 64) (k : Nat) : (a &&& ~~~ b).getLsbD k = (a.getLsbD k && !b.getLsbD k) := by
  rw [BitVec.getLsbD_and, BitVec.getLsbD_not]
  by_cases h : k < 64
  · simp [h]
  · rw [BitVec.getLsbD_of_ge a _ (by omega)]; simp
theorem sub_cof {n V : Nat} {L U : BitVec 64} (v : Bool) (hn : n ≤ 6) (hV : V < n) (h : Sub L U) : Sub (cofR L n V v) (cofR U n V v) := fun k hk => by
  rw [cofR_bit _ v hn hV, Bool.and_eq_true] at hk ⊢
  exact ⟨hk.1, h _ hk.2⟩
theorem Good.down {n V : Nat} {L U : BitVec 64} (hn : n ≤ 6) (hV : V < n) (h : Good n (V + 1) L U) (h1 : depR L n V = false) (h2 : depR U n V = false) : Good n V L U where
  sub := h.sub
  tab := h.tab
  indL := fun i hi hin => by
    by_cases he : i = V
    · subst he; exact (depR_iff L hn hin).1 h1
    · exact h.indL i (by omega) hin
  indU := fun i hi hin => by
    by_cases he : i = V
    · subst he; exact (depR_iff U hn hin).1 h2
    · exact h.indU i (by omega) hin
theorem Good.half {n V : Nat} {L U : BitVec 64} (hn : n ≤ 6) (hV : V < n) (h : Good n (V + 1) L U) (v w : Bool) : Good n V (cofR L n V v &&& ~~~ cofR U n V w) (cofR U n V v) where
  sub := fun k hk => by rw [andnot_bit, Bool.and_eq_true] at hk; exact sub_cof v hn hV h.sub k hk.1
  tab := tab_cof U v hn hV
  indL := fun i hi hin => (ind_cof v hn hV h.indL hi hin).and ((ind_cof w hn hV h.indU hi hin).not hn hin)
  indU := fun i hi hin => ind_cof v hn hV h.indU hi hin
/-- With every variable forgotten a table is constant. -/
theorem const_of_ind {n : Nat} {t : BitVec 64} (h : IndF n 0 t) : ∀ k, k < 2 ^ n → t.getLsbD k = t.getLsbD 0 := by
  have key : ∀ j, j ≤ n → ∀ k, k < 2 ^ j → t.getLsbD k = t.getLsbD 0 := by
    intro j
    induction j with
    | zero => intro _ k hk; rw [show k = 0 from by omega]
    | succ j ih =>
      intro hj k hk
      have hkn : k < 2 ^ n := Nat.lt_of_lt_of_le hk (Nat.pow_le_pow_right (by omega) hj)
      rw [← h j (by omega) (by omega) k false hkn]
      refine ih (by omega) _ (Nat.lt_pow_two_of_testBit _ fun x hx => ?_)
      rw [setb_testBit]
      by_cases he : x = j
      · simp [he]
      · rw [if_neg he]
        exact Nat.testBit_lt_two_pow (Nat.lt_of_lt_of_le hk (Nat.pow_le_pow_right (by omega) (by omega)))
  exact key n (Nat.le_refl _)
theorem ne_zero_bit {t : BitVec 64} (h : t ≠ 0#64) : ∃ k, t.getLsbD k = true := by
  apply Classical.byContradiction
  intro hn
  apply h
  apply BitVec.eq_of_getLsbD_eq
  intro k _
  rw [BitVec.getLsbD_zero]
  cases hh : t.getLsbD k with
  | false => rfl
  | true => exact absurd ⟨k, hh⟩ hn
theorem tab_mask {n : Nat} (hn : n ≤ 6) : Tab n (maskT n) := fun k hk => by rw [maskT_bit' hn] at hk; simpa using hk
/-- At the bottom the two ends are all that is left. -/
theorem Good.bottom {n : Nat} {L U : BitVec 64} (hn : n ≤ 6) (h : Good n 0 L U) (hL : L ≠ 0#64) : U = maskT n := by
  obtain ⟨k, hk⟩ := ne_zero_bit hL
  have hU := const_of_ind h.indU
  have h1 := h.sub k hk
  have hkn := h.tab k h1
  refine eq_of_bits h.tab (tab_mask hn) fun j hj => ?_
  rw [hU j hj, ← hU k hkn, h1, maskT_bit' hn]
  simp [hj]
/-- What isop answers. -/
structure IsopOk (n V : Nat) (L U : BitVec 64) (r : List (Nat × Nat) × BitVec 64) : Prop where
  low : Sub L r.2
  up : Sub r.2 U
  ind : IndF n V r.2
theorem Good.both {n V : Nat} {L U : BitVec 64} {r0 r1 : List (Nat × Nat) × BitVec 64} (hn : n ≤ 6) (hV : V < n) (h : Good n (V + 1) L U)
    (h0 : IsopOk n V (cofR L n V false &&& ~~~ cofR U n V true) (cofR U n V false) r0) (h1 : IsopOk n V (cofR L n V true &&& ~~~ cofR U n V false) (cofR U n V true) r1) :
    Good n V ((cofR L n V false &&& ~~~ r0.2) ||| (cofR L n V true &&& ~~~ r1.2)) (cofR U n V false &&& cofR U n V true) where
  sub := fun k hk => by
    rw [BitVec.getLsbD_or, Bool.or_eq_true, andnot_bit, andnot_bit] at hk
    rw [BitVec.getLsbD_and, Bool.and_eq_true]
    rcases hk with hk | hk
    · rw [Bool.and_eq_true, Bool.not_eq_true'] at hk
      refine ⟨sub_cof false hn hV h.sub k hk.1, ?_⟩
      cases hu : (cofR U n V true).getLsbD k with
      | true => rfl
      | false => have := h0.low k (by rw [andnot_bit, hk.1, hu]; rfl); rw [this] at hk; cases hk.2
    · rw [Bool.and_eq_true, Bool.not_eq_true'] at hk
      refine ⟨?_, sub_cof true hn hV h.sub k hk.1⟩
      cases hu : (cofR U n V false).getLsbD k with
      | true => rfl
      | false => have := h1.low k (by rw [andnot_bit, hk.1, hu]; rfl); rw [this] at hk; cases hk.2
  tab := fun k hk => by
    rw [BitVec.getLsbD_and, Bool.and_eq_true] at hk
    exact tab_cof U false hn hV k hk.1
  indL := fun i hi hin => ((ind_cof false hn hV h.indL hi hin).and ((h0.ind i hi hin).not hn hin)).or ((ind_cof true hn hV h.indL hi hin).and ((h1.ind i hi hin).not hn hin))
  indU := fun i hi hin => (ind_cof false hn hV h.indU hi hin).and (ind_cof true hn hV h.indU hi hin)
theorem ind_var {n V i : Nat} (hn : n ≤ 6) (hV : V < n) (hi : V < i) (hin : i < n) : Ind n (varT V) i := fun k v hk => by
  have h6 := two_pow_le6 hn
  rw [varT_bit V (by omega) _ (by have := setb_lt v hk hin; omega), varT_bit V (by omega) _ (by omega), setb_testBit, if_neg (by omega)]
theorem cof_at {n V : Nat} (t : BitVec 64) (hn : n ≤ 6) (hV : V < n) {k : Nat} (hk : k < 2 ^ n) : (cofR t n V (k.testBit V)).getLsbD k = t.getLsbD k := by
  rw [cofR_bit t _ hn hV, setb_self rfl]; simp [hk]
theorem isopG_ok {n : Nat} (hn : n ≤ 6) : ∀ (V : Nat) (L U : BitVec 64), V ≤ n → Good n V L U → IsopOk n V L U (isopG n V L U)
  | 0, L, U, hV, h => by
    unfold isopG
    split
    · rename_i h0
      subst h0
      exact ⟨fun k hk => by simp at hk, fun k hk => by simp at hk, fun i _ _ k v _ => by simp⟩
    · exact ⟨h.sub, fun k hk => hk, h.indU⟩
  | V + 1, L, U, hV, h => by
    unfold isopG
    split
    · rename_i h0
      subst h0
      exact ⟨fun k hk => by simp at hk, fun k hk => by simp at hk, fun i _ _ k v _ => by simp⟩
    · split
      · exact ⟨h.sub, fun k hk => hk, h.indU⟩
      · split
        · rename_i hd
          have := isopG_ok hn V L U (by omega) (h.down hn hV hd.1 hd.2)
          exact ⟨this.low, this.up, fun i hi hin => this.ind i (by omega) hin⟩
        · have h0 := isopG_ok hn V _ _ (by omega) (h.half hn hV false true)
          have h1 := isopG_ok hn V _ _ (by omega) (h.half hn hV true false)
          have hb := isopG_ok hn V _ _ (by omega) (h.both hn hV h0 h1)
          generalize isopG n V (cofR L n V false &&& ~~~ cofR U n V true) (cofR U n V false) = r0 at h0 hb ⊢
          generalize isopG n V (cofR L n V true &&& ~~~ cofR U n V false) (cofR U n V true) = r1 at h1 hb ⊢
          simp only
          generalize isopG n V ((cofR L n V false &&& ~~~ r0.2) ||| (cofR L n V true &&& ~~~ r1.2)) (cofR U n V false &&& cofR U n V true) = r at hb ⊢
          have h6 := two_pow_le6 hn
          have hbit : ∀ k, k < 2 ^ n → ((r.2 ||| (r0.2 &&& ~~~ varT V)) ||| (r1.2 &&& varT V)).getLsbD k = (r.2.getLsbD k || (if k.testBit V = true then r1.2.getLsbD k else r0.2.getLsbD k)) := by
            intro k hk
            rw [BitVec.getLsbD_or, BitVec.getLsbD_or, andnot_bit, BitVec.getLsbD_and, varT_bit V (by omega) k (by omega)]
            cases k.testBit V <;> simp
          refine ⟨fun k hk => ?_, fun k hk => ?_, fun i hi hin => ?_⟩
          · have hkn := h.tabL k hk
            rw [hbit k hkn]
            have hc := cof_at L hn hV hkn
            cases hb' : k.testBit V with
            | true =>
              rw [hb', hk] at hc
              cases hr : r1.2.getLsbD k with
              | true => simp
              | false =>
                have := hb.low k (by rw [BitVec.getLsbD_or, andnot_bit, andnot_bit, hc, hr]; simp)
                simp [this]
            | false =>
              rw [hb', hk] at hc
              cases hr : r0.2.getLsbD k with
              | true => simp
              | false =>
                have := hb.low k (by rw [BitVec.getLsbD_or, andnot_bit, andnot_bit, hc, hr]; simp)
                simp [this]
          · have hkn : k < 2 ^ n := by
              rw [BitVec.getLsbD_or, BitVec.getLsbD_or, andnot_bit, BitVec.getLsbD_and] at hk
              simp only [Bool.or_eq_true, Bool.and_eq_true] at hk
              rcases hk with (hk | hk) | hk
              · have := hb.up k hk; rw [BitVec.getLsbD_and, Bool.and_eq_true] at this; exact tab_cof U false hn hV k this.1
              · exact tab_cof U false hn hV k (h0.up k hk.1)
              · exact tab_cof U true hn hV k (h1.up k hk.1)
            rw [hbit k hkn, Bool.or_eq_true] at hk
            rw [← cof_at U hn hV hkn]
            rcases hk with hk | hk
            · have := hb.up k hk
              rw [BitVec.getLsbD_and, Bool.and_eq_true] at this
              cases k.testBit V
              · exact this.1
              · exact this.2
            · cases hb' : k.testBit V with
              | true => rw [hb', if_pos rfl] at hk; exact h1.up k hk
              | false => rw [hb', if_neg (by simp)] at hk; exact h0.up k hk
          · intro k v hk
            rw [hbit _ (setb_lt v hk hin), hbit k hk, hb.ind i (by omega) hin k v hk, h0.ind i (by omega) hin k v hk, h1.ind i (by omega) hin k v hk, setb_testBit, if_neg (show ¬ V = i from by omega)]
theorem isopG_len (n : Nat) : ∀ (V : Nat) (L U : BitVec 64), (isopG n V L U).1.length ≤ 3 ^ V
  | 0, L, U => by unfold isopG; split <;> simp
  | V + 1, L, U => by
    have hp : 0 < 3 ^ V := Nat.pow_pos (by omega)
    unfold isopG
    split
    · simp
    · split
      · simp [Nat.pow_succ]; omega
      · split
        · have := isopG_len n V L U; rw [Nat.pow_succ]; omega
        · have h0 := isopG_len n V (cofR L n V false &&& ~~~ cofR U n V true) (cofR U n V false)
          have h1 := isopG_len n V (cofR L n V true &&& ~~~ cofR U n V false) (cofR U n V true)
          simp only [List.length_append, List.length_map, Nat.pow_succ]
          have hb := isopG_len n V ((cofR L n V false &&& ~~~ (isopG n V (cofR L n V false &&& ~~~ cofR U n V true) (cofR U n V false)).2) ||| (cofR L n V true &&& ~~~ (isopG n V (cofR L n V true &&& ~~~ cofR U n V false) (cofR U n V true)).2)) (cofR U n V false &&& cofR U n V true)
          omega
theorem isopG_skip {n V : Nat} {L U : BitVec 64} (hL : L ≠ 0#64) (hU : U ≠ maskT n) (h1 : depR L n V = false) (h2 : depR U n V = false) : isopG n (V + 1) L U = isopG n V L U := by
  rw [isopG, if_neg hL, if_neg hU, if_pos ⟨h1, h2⟩]
theorem isopG_step {n V : Nat} {L U : BitVec 64} (hL : L ≠ 0#64) (hU : U ≠ maskT n) (hd : ¬ (depR L n V = false ∧ depR U n V = false)) :
    isopG n (V + 1) L U =
      (let r0 := isopG n V (cofR L n V false &&& ~~~ cofR U n V true) (cofR U n V false)
      let r1 := isopG n V (cofR L n V true &&& ~~~ cofR U n V false) (cofR U n V true)
      let r := isopG n V ((cofR L n V false &&& ~~~ r0.2) ||| (cofR L n V true &&& ~~~ r1.2)) (cofR U n V false &&& cofR U n V true)
      (r.1 ++ r0.1.map (fun c => (c.1, c.2 ||| 2 ^ V)) ++ r1.1.map (fun c => (c.1 ||| 2 ^ V, c.2)), (r.2 ||| (r0.2 &&& ~~~ varT V)) ||| (r1.2 &&& varT V))) := by
  rw [isopG, if_neg hL, if_neg hU, if_neg hd]
theorem isopG_small (n : Nat) : ∀ (V : Nat) (L U : BitVec 64), ∀ c ∈ (isopG n V L U).1, c.1 < 2 ^ V ∧ c.2 < 2 ^ V
  | 0, L, U, c, hc => by
    unfold isopG at hc
    split at hc
    · cases hc
    · simp only [List.mem_singleton] at hc; subst hc; simp
  | V + 1, L, U, c, hc => by
    have up : ∀ {a : Nat}, a < 2 ^ V → a < 2 ^ (V + 1) := fun h => by rw [Nat.pow_succ]; omega
    have orl : ∀ {a : Nat}, a < 2 ^ V → a ||| 2 ^ V < 2 ^ (V + 1) := fun h => Nat.or_lt_two_pow (up h) (by rw [Nat.pow_succ]; have := Nat.two_pow_pos V; omega)
    unfold isopG at hc
    split at hc
    · cases hc
    · split at hc
      · simp only [List.mem_singleton] at hc; subst hc; exact ⟨Nat.two_pow_pos _, Nat.two_pow_pos _⟩
      · split at hc
        · have := isopG_small n V L U c hc; exact ⟨up this.1, up this.2⟩
        · simp only [List.mem_append, List.mem_map] at hc
          rcases hc with (hc | ⟨d, hd, rfl⟩) | ⟨d, hd, rfl⟩
          · have := isopG_small n V _ _ c hc; exact ⟨up this.1, up this.2⟩
          · have := isopG_small n V _ _ d hd; exact ⟨up this.1, orl this.2⟩
          · have := isopG_small n V _ _ d hd; exact ⟨orl this.1, up this.2⟩
/-- Isop. -/
def IsopR (L U : BitVec 64) (n : Int) : List (Nat × Nat) × Int :=
  if validT L n = true ∧ validT U n = true ∧ L &&& ~~~ U = 0#64 then ((isopG n.toNat n.toNat L U).1, 0) else ([], 1)

/-- Two places exchanged. -/
def swapI (l : List Int) (k i : Nat) : List Int := (l.set k (l.getD i 0)).set i (l.getD k 0)
/-- What orders visits when the first n - d places stand. -/
def perms (n : Nat) : Nat → List Int → List (List Int)
  | 0, l => [l]
  | d + 1, l => (List.range' (n - (d + 1)) (d + 1)).flatMap fun i => perms n d (swapI l (n - (d + 1)) i)
def Idx (n : Nat) (l : List Int) : Prop := l.length = n ∧ ∀ x ∈ l, 0 ≤ x ∧ x < n
theorem swapI_length (l : List Int) (k i : Nat) : (swapI l k i).length = l.length := by simp [swapI]
theorem swapI_get (l : List Int) (k i j : Nat) (hk : k < l.length) (hi : i < l.length) : (swapI l k i).getD j 0 = if j = i then l.getD k 0 else if j = k then l.getD i 0 else l.getD j 0 := by
  simp only [swapI, List.getD_eq_getElem?_getD, List.getElem?_set, List.length_set]
  by_cases h1 : j = i
  · subst h1; simp [hi]
  · by_cases h2 : j = k
    · subst h2; simp [h1, Ne.symm h1, hk]
    · simp [h1, h2, Ne.symm h1, Ne.symm h2]
theorem ext_getD {a b : List Int} (hl : a.length = b.length) (h : ∀ j, a.getD j 0 = b.getD j 0) : a = b := by
  apply List.ext_getElem hl
  intro j h1 h2
  have := h j
  simpa [List.getD_eq_getElem?_getD, h1, h2] using this
theorem swapI_swapI (l : List Int) (k i : Nat) (hk : k < l.length) (hi : i < l.length) : swapI (swapI l k i) k i = l := by
  apply ext_getD (by simp [swapI_length])
  intro j
  rw [swapI_get _ _ _ _ (by rw [swapI_length]; exact hk) (by rw [swapI_length]; exact hi), swapI_get _ _ _ _ hk hi, swapI_get _ _ _ _ hk hi, swapI_get _ _ _ _ hk hi]
  by_cases h1 : j = i
  · subst h1
    by_cases h2 : k = j
    · subst h2; simp
    · simp [h2]
  · by_cases h2 : j = k
    · subst h2; simp [h1]
    · simp [h1, h2]
theorem Idx.swap {n : Nat} {l : List Int} (h : Idx n l) {k i : Nat} (hk : k < n) (hi : i < n) : Idx n (swapI l k i) := by
  refine ⟨by rw [swapI_length]; exact h.1, fun x hx => ?_⟩
  have hg : ∀ j, j < n → l.getD j 0 ∈ l := fun j hj => by
    rw [List.getD_eq_getElem?_getD, List.getElem?_eq_getElem (by rw [h.1]; exact hj)]
    simp
  simp only [swapI] at hx
  rcases List.mem_or_eq_of_mem_set hx with hx | rfl
  · rcases List.mem_or_eq_of_mem_set hx with hx | rfl
    · exact h.2 x hx
    · exact h.2 _ (hg i hi)
  · exact h.2 _ (hg k hk)
end Go.Tab
