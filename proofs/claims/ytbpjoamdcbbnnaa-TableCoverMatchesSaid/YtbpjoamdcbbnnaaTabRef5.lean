/- isop's cover is prime: without any of its literals a cube leaves the upper table (no program here). -/
import Derived.Test.YtbpjoamdcbbnnaaTabLaw2
set_option linter.unusedSimpArgs false
set_option linter.unusedVariables false
namespace Go.Tab
/-- The cube without the variable i holds. -/
def HoldsBut (c : Nat × Nat) (i k : Nat) : Prop := ∀ j, j ≠ i → (c.1.testBit j = true → k.testBit j = true) ∧ (c.2.testBit j = true → k.testBit j = false)
theorem bit_high {x V : Nat} (h : x < 2 ^ V) : x.testBit V = false := Nat.testBit_lt_two_pow h
theorem but_setb {c : Nat × Nat} {V i k : Nat} (h1 : c.1 < 2 ^ V) (h2 : c.2 < 2 ^ V) (v : Bool) (h : HoldsBut c i k) : HoldsBut c i (setb k V v) := fun j hj => by
  rw [setb_testBit]
  by_cases e : j = V
  · subst e; rw [bit_high h1, bit_high h2]; simp
  · rw [if_neg e]; exact h j hj
theorem or_bit (x V j : Nat) : (x ||| 2 ^ V).testBit j = (x.testBit j || decide (V = j)) := by rw [Nat.testBit_or, Nat.testBit_two_pow]
theorem but_neg {c : Nat × Nat} {V i k : Nat} (h1 : c.1 < 2 ^ V) (h : HoldsBut c i k) : HoldsBut (c.1, c.2 ||| 2 ^ V) i (setb k V false) := fun j hj => by
  simp only [setb_testBit, or_bit]
  by_cases e : j = V
  · subst e; rw [bit_high h1]; simp
  · rw [if_neg e, decide_eq_false (fun hh => e hh.symm), Bool.or_false]; exact h j hj
theorem but_pos {c : Nat × Nat} {V i k : Nat} (h2 : c.2 < 2 ^ V) (h : HoldsBut c i k) : HoldsBut (c.1 ||| 2 ^ V, c.2) i (setb k V true) := fun j hj => by
  simp only [setb_testBit, or_bit]
  by_cases e : j = V
  · subst e; rw [bit_high h2]; simp
  · rw [if_neg e, decide_eq_false (fun hh => e hh.symm), Bool.or_false]; exact h j hj
theorem but_neg_own {c : Nat × Nat} {V k : Nat} (v : Bool) (h : Holds c k) : HoldsBut (c.1, c.2 ||| 2 ^ V) V (setb k V v) := fun j hj => by
  simp only [setb_testBit, or_bit]
  rw [if_neg hj, decide_eq_false (fun hh => hj hh.symm), Bool.or_false]; exact h j
theorem but_pos_own {c : Nat × Nat} {V k : Nat} (v : Bool) (h : Holds c k) : HoldsBut (c.1 ||| 2 ^ V, c.2) V (setb k V v) := fun j hj => by
  simp only [setb_testBit, or_bit]
  rw [if_neg hj, decide_eq_false (fun hh => hj hh.symm), Bool.or_false]; exact h j
theorem cof_false {n V k : Nat} {U : BitVec 64} (hn : n ≤ 6) (hV : V < n) (hk : k < 2 ^ n) {v : Bool} (h : (cofR U n V v).getLsbD k = false) : U.getLsbD (setb k V v) = false := by
  rw [cofR_bit U v hn hV] at h
  simpa [hk] using h
theorem isopG_prime {n : Nat} (hn : n ≤ 6) : ∀ (V : Nat) (L U : BitVec 64), V ≤ n → Good n V L U → ∀ c ∈ (isopG n V L U).1, ∀ i, (c.1.testBit i = true ∨ c.2.testBit i = true) → ∃ k, k < 2 ^ n ∧ HoldsBut c i k ∧ U.getLsbD k = false
  | 0, L, U, hV, h, c, hc, i, hi => by
    unfold isopG at hc
    split at hc
    · cases hc
    · simp only [List.mem_singleton] at hc; subst hc; simp at hi
  | V + 1, L, U, hV, h, c, hc, i, hi => by
    unfold isopG at hc
    split at hc
    · cases hc
    · split at hc
      · simp only [List.mem_singleton] at hc; subst hc; simp at hi
      · split at hc
        · rename_i hd
          exact isopG_prime hn V L U (by omega) (h.down hn hV hd.1 hd.2) c hc i hi
        · have g0 := h.half hn hV false true
          have g1 := h.half hn hV true false
          have h0 := isopG_ok hn V _ _ (by omega) g0
          have h1 := isopG_ok hn V _ _ (by omega) g1
          have gb := h.both hn hV h0 h1
          have p0 := isopG_prime hn V _ _ (by omega) g0
          have p1 := isopG_prime hn V _ _ (by omega) g1
          have pb := isopG_prime hn V _ _ (by omega) gb
          have o0 := (isopG_cover hn V _ _ (by omega) g0).own
          have o1 := (isopG_cover hn V _ _ (by omega) g1).own
          have s0 := isopG_small n V (cofR L n V false &&& ~~~ cofR U n V true) (cofR U n V false)
          have s1 := isopG_small n V (cofR L n V true &&& ~~~ cofR U n V false) (cofR U n V true)
          have sb := isopG_small n V ((cofR L n V false &&& ~~~ (isopG n V (cofR L n V false &&& ~~~ cofR U n V true) (cofR U n V false)).2) ||| (cofR L n V true &&& ~~~ (isopG n V (cofR L n V true &&& ~~~ cofR U n V false) (cofR U n V true)).2)) (cofR U n V false &&& cofR U n V true)
          clear h0 h1 gb g0 g1
          simp only [List.mem_append, List.mem_map] at hc
          generalize isopG n V (cofR L n V false &&& ~~~ cofR U n V true) (cofR U n V false) = r0 at hc p0 o0 s0 pb sb
          generalize isopG n V (cofR L n V true &&& ~~~ cofR U n V false) (cofR U n V true) = r1 at hc p1 o1 s1 pb sb
          generalize isopG n V ((cofR L n V false &&& ~~~ r0.2) ||| (cofR L n V true &&& ~~~ r1.2)) (cofR U n V false &&& cofR U n V true) = r at hc pb sb
          rcases hc with (hc | ⟨d, hd, rfl⟩) | ⟨d, hd, rfl⟩
          · obtain ⟨k, hk, hb, hu⟩ := pb c hc i hi
            rw [BitVec.getLsbD_and, Bool.and_eq_false_iff] at hu
            rcases hu with hu | hu
            · exact ⟨setb k V false, setb_lt false hk hV, but_setb (sb c hc).1 (sb c hc).2 false hb, cof_false hn hV hk hu⟩
            · exact ⟨setb k V true, setb_lt true hk hV, but_setb (sb c hc).1 (sb c hc).2 true hb, cof_false hn hV hk hu⟩
          · by_cases e : i = V
            · subst e
              obtain ⟨j, hj⟩ := List.getElem?_of_mem hd
              obtain ⟨k, ⟨hk, hl⟩, hh, _⟩ := o0 j d hj
              rw [andnot_bit, Bool.and_eq_true, Bool.not_eq_true'] at hl
              exact ⟨setb k i true, setb_lt true hk hV, but_neg_own true hh, cof_false hn hV hk hl.2⟩
            · have hi' : d.1.testBit i = true ∨ d.2.testBit i = true := by
                rcases hi with hi | hi
                · exact .inl hi
                · simp only [or_bit] at hi
                  rw [decide_eq_false (fun hh => e hh.symm), Bool.or_false] at hi
                  exact .inr hi
              obtain ⟨k, hk, hb, hu⟩ := p0 d hd i hi'
              exact ⟨setb k V false, setb_lt false hk hV, but_neg (s0 d hd).1 hb, cof_false hn hV hk hu⟩
          · by_cases e : i = V
            · subst e
              obtain ⟨j, hj⟩ := List.getElem?_of_mem hd
              obtain ⟨k, ⟨hk, hl⟩, hh, _⟩ := o1 j d hj
              rw [andnot_bit, Bool.and_eq_true, Bool.not_eq_true'] at hl
              exact ⟨setb k i false, setb_lt false hk hV, but_pos_own false hh, cof_false hn hV hk hl.2⟩
            · have hi' : d.1.testBit i = true ∨ d.2.testBit i = true := by
                rcases hi with hi | hi
                · simp only [or_bit] at hi
                  rw [decide_eq_false (fun hh => e hh.symm), Bool.or_false] at hi
                  exact .inl hi
                · exact .inr hi
              obtain ⟨k, hk, hb, hu⟩ := p1 d hd i hi'
              exact ⟨setb k V true, setb_lt true hk hV, but_pos (s1 d hd).2 hb, cof_false hn hV hk hu⟩
theorem ones_le2 (t : BitVec 64) : ∀ M, ones t M ≤ M
  | 0 => by simp [ones]
  | M + 1 => by have := ones_le2 t M; unfold ones; split <;> omega
/-- At most 64 cubes. -/
theorem isop_len64 {n : Nat} (hn : n ≤ 6) {L U : BitVec 64} (h : Good n n L U) : (isopG n n L U).1.length ≤ 64 :=
  Nat.le_trans (isop_ones hn h) (Nat.le_trans (ones_le2 L _) (two_pow_le6 hn))
end Go.Tab
