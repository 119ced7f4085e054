/- Truth tables: what the program's functions reckon, as written (no program here). -/
set_option linter.unusedSimpArgs false
set_option linter.unusedVariables false
namespace Go.Tab
def lim (m : Int) : Nat := if m ≤ 0 then 0 else if 6 < m then 6 else m.toNat
theorem lim_le (m : Int) : lim m ≤ 6 := by unfold lim; split <;> (try split) <;> omega
def maskT (m : Nat) : BitVec 64 := BitVec.ofNat 64 (2 ^ (2 ^ m) - 1)
def varT : Nat → BitVec 64
  | 0 => 12297829382473034410#64
  | 1 => 14757395258967641292#64
  | 2 => 17361641481138401520#64
  | 3 => 18374966859414961920#64
  | 4 => 18446462603027742720#64
  | 5 => 18446744069414584320#64
  | _ => 0#64
def evT (t : BitVec 64) (k : Int) : Bool := decide (0 ≤ k) && t.getLsbD k.toNat
def validT (t : BitVec 64) (n : Int) : Bool := decide (n = (lim n : Int)) && decide (t &&& ~~~ maskT (lim n) = 0#64)
def cofR (t : BitVec 64) (n i : Int) (v : Bool) : BitVec 64 :=
  let t := t &&& maskT (lim n)
  if i < 0 ∨ (lim n : Int) ≤ i then t
  else if v then (t &&& varT i.toNat) ||| ((t &&& varT i.toNat) >>> (2 ^ i.toNat))
  else (t &&& ~~~ varT i.toNat) ||| ((t &&& ~~~ varT i.toNat) <<< (2 ^ i.toNat))
def flipR (t : BitVec 64) (n i : Int) : BitVec 64 :=
  let t := t &&& maskT (lim n)
  if i < 0 ∨ (lim n : Int) ≤ i then t
  else ((t &&& varT i.toNat) >>> (2 ^ i.toNat)) ||| ((t &&& ~~~ varT i.toNat) <<< (2 ^ i.toNat))
def varR (i n : Int) : BitVec 64 := if i < 0 ∨ (lim n : Int) ≤ i then 0#64 else varT i.toNat &&& maskT (lim n)
def depR (t : BitVec 64) (n i : Int) : Bool := !decide (cofR t n i false = cofR t n i true)
theorem mask_shr : ∀ m, m ≤ 6 → BitVec.ofInt 64 18446744073709551615 >>> (BitVec.ofInt 64 (64 - ((1#64 <<< m).toNat : Int))).toNat = maskT m
  | 0, _ | 1, _ | 2, _ | 3, _ | 4, _ | 5, _ | 6, _ => by decide
  | m + 7, h => by omega
theorem shl_one : ∀ i : Nat, i < 6 → (1#64 <<< i).toNat = 2 ^ i
  | 0, _ | 1, _ | 2, _ | 3, _ | 4, _ | 5, _ => by decide
  | m + 6, h => by omega
theorem lim_if (m : Int) : (if 6 < (if 0 > m then 0 else m) then (6 : Int) else (if 0 > m then 0 else m)) = (lim m : Int) := by
  unfold lim; split <;> split <;> (try split) <;> omega
theorem bit_iff (t : BitVec 64) (k : Nat) : (t >>> k) &&& 1#64 = 1#64 ↔ t.getLsbD k = true := by
  constructor
  · intro h
    have := congrArg (fun b : BitVec 64 => b.getLsbD 0) h
    simpa using this
  · intro h
    apply BitVec.eq_of_getLsbD_eq
    intro i hi
    simp only [BitVec.getLsbD_and, BitVec.getLsbD_ushiftRight, BitVec.getLsbD_one]
    by_cases h0 : i = 0
    · subst h0; simp [h]
    · simp [h0]
theorem bit_shr (t : BitVec 64) (k : Nat) : decide ((t >>> k) &&& 1#64 = 1#64) = t.getLsbD k := by
  by_cases h : t.getLsbD k = true
  · simp [(bit_iff t k).2 h, h]
  · have h' : ¬ ((t >>> k) &&& 1#64 = 1#64) := fun e => h ((bit_iff t k).1 e)
    simp [h', h]

/-- permutation's loop: what is left, and what has been met. -/
def permGo (n : Int) : List Int → Nat → Bool
  | [], _ => true
  | i :: l, seen => if i < 0 ∨ n ≤ i ∨ seen.testBit i.toNat = true then false else permGo n l (seen ||| 2 ^ i.toNat)
def permR (l : List Int) (n : Int) : Bool := permGo n l 0 && decide ((l.length : Int) = n)
/-- permute's inner loop: the assignment that k is taken from. -/
def permX (k : Nat) : List Int → Nat → Nat → Nat
  | [], _, x => x
  | o :: l, j, x => permX k l (j + 1) (x ||| ((k >>> o.toNat) % 2) * 2 ^ j)
/-- permute's outer loop. -/
def permT (t : BitVec 64) (l : List Int) : Nat → Nat → BitVec 64 → BitVec 64
  | 0, _, out => out
  | d + 1, k, out => permT t l d (k + 1) (if evT t (permX k l 0 0) = true then out ||| (1#64 <<< k) else out)
def permuteR (t : BitVec 64) (n : Nat) (l : List Int) : BitVec 64 := permT t l (2 ^ n) 0 0#64
theorem permX_lt (k : Nat) : ∀ (l : List Int) (j x : Nat), x < 2 ^ j → permX k l j x < 2 ^ (j + l.length)
  | [], j, x, h => by simpa [permX] using h
  | o :: l, j, x, h => by
    have h1 : x ||| ((k >>> o.toNat) % 2) * 2 ^ j < 2 ^ (j + 1) := by
      refine Nat.or_lt_two_pow (Nat.lt_of_lt_of_le h (Nat.pow_le_pow_right (by omega) (by omega))) ?_
      rw [Nat.pow_succ]
      have := Nat.mod_lt (k >>> o.toNat) (show 2 > 0 by omega)
      have h2 : (k >>> o.toNat) % 2 = 0 ∨ (k >>> o.toNat) % 2 = 1 := by omega
      have := Nat.two_pow_pos j
      rcases h2 with h2 | h2 <;> rw [h2] <;> omega
    have := permX_lt k l (j + 1) _ h1
    rw [List.length_cons]
    simp only [permX]
    rwa [show j + (l.length + 1) = j + 1 + l.length from by omega]

theorem permGo_mem (n : Int) : ∀ (l : List Int) (seen : Nat), permGo n l seen = true → ∀ x ∈ l, 0 ≤ x ∧ x < n
  | [], _, _, x, hx => by cases hx
  | i :: l, seen, h, x, hx => by
    simp only [permGo] at h
    split at h
    · cases h
    · rename_i hno
      rcases List.mem_cons.1 hx with rfl | hx
      · omega
      · exact permGo_mem n l _ h x hx
theorem permR_mem {l : List Int} {n : Int} (h : permR l n = true) : (l.length : Int) = n ∧ ∀ x ∈ l, 0 ≤ x ∧ x < n := by
  simp only [permR, Bool.and_eq_true, decide_eq_true_eq] at h
  exact ⟨h.2, permGo_mem n l 0 h.1⟩
theorem validT_lim {t : BitVec 64} {n : Int} (h : validT t n = true) : n = (lim n : Int) := by
  simp only [validT, Bool.and_eq_true, decide_eq_true_eq] at h
  exact h.1
def PermuteR (t : BitVec 64) (n : Int) (l : List Int) : BitVec 64 × Int :=
  if validT t n = true ∧ permR l n = true then (permuteR t n.toNat l, 0) else (0#64, 1)
/-- Apply's loop. -/
def flipGo (n : Nat) (f : Nat) : Nat → Nat → BitVec 64 → BitVec 64
  | 0, _, t => t
  | d + 1, i, t => flipGo n f d (i + 1) (if f.testBit i = true then flipR t n i else t)
def applyV (t : BitVec 64) (n : Nat) (l : List Int) (f : Nat) (neg : Bool) : BitVec 64 :=
  let u := permuteR (flipGo n f n 0 t) n l
  if neg = true then u ^^^ maskT (lim n) else u
def ApplyR (t : BitVec 64) (n : Int) (l : List Int) (f : Nat) (neg : Bool) : BitVec 64 × Int :=
  if validT t n = true ∧ permR l n = true ∧ f >>> n.toNat = 0 then (applyV t n.toNat l f neg, 0) else (0#64, 1)

/-- Support's loop. -/
def supGo (t : BitVec 64) (n : Int) : Nat → Nat → List Int
  | 0, _ => []
  | d + 1, i => (if depR t n i = true then [(i : Int)] else []) ++ supGo t n d (i + 1)
def supportR (t : BitVec 64) (n : Int) : List Int := supGo t n (lim n) 0
/-- A cube's table. -/
def cubeGo (p q : Nat) : Nat → Nat → BitVec 64 → BitVec 64
  | 0, _, t => t
  | d + 1, i, t =>
    let t1 := if p.testBit i = true then t &&& varT i else t
    let t2 := if q.testBit i = true then t1 &&& ~~~ varT i else t1
    cubeGo p q d (i + 1) t2
def cubeR (p q : Nat) (n : Nat) : BitVec 64 := cubeGo p q n 0 (maskT (lim n))
def badCube (n : Nat) (c : Nat × Nat) : Bool := decide (c.1 &&& c.2 ≠ 0) || decide ((c.1 ||| c.2) >>> n ≠ 0)
def coverGo (n : Nat) : List (Nat × Nat) → BitVec 64 → BitVec 64 × Int
  | [], t => (t, 0)
  | c :: l, t => if badCube n c = true then (0#64, 1) else coverGo n l (t ||| cubeR c.1 c.2 n)
def CoverR (l : List (Nat × Nat)) (n : Int) : BitVec 64 × Int := if n = (lim n : Int) then coverGo n.toNat l 0#64 else (0#64, 1)
end Go.Tab
