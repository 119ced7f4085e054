/- What the reference asks of isop's cover holds (no program here). -/
import Derived.Test.YtbpjoamdcbbnnaaTabR7
set_option linter.unusedSimpArgs false
set_option linter.unusedVariables false
namespace Go.Proofs.Ytbpjoamdcbbnnaa
open Go.Abs Go.Tab
variable {n : Nat} {L U : BitVec 64}
theorem isop_cubes (hn : n ≤ 6) (h : Go.Tab.Good n n L U) : ∀ c ∈ (isopG n n L U).1, c.1 &&& c.2 = 0 ∧ c.1 < 2 ^ n ∧ c.2 < 2 ^ n := fun c hc =>
  ⟨(isopG_cover hn n L U (Nat.le_refl _) h).once c hc, (isopG_small n n L U c hc).1, (isopG_small n n L U c hc).2⟩
theorem cubesB_of {l : List (Nat × Nat)} (h : ∀ c ∈ l, c.1 &&& c.2 = 0 ∧ c.1 < 2 ^ n ∧ c.2 < 2 ^ n) : cubesB n l = true := List.all_eq_true.2 fun c hc => by
  rw [badCube_iff.2 ⟨(h c hc).1, Nat.or_lt_two_pow (h c hc).2.1 (h c hc).2.2⟩]; rfl
theorem coverR_of (hn : n ≤ 6) {l : List (Nat × Nat)} (h : ∀ c ∈ l, c.1 &&& c.2 = 0 ∧ c.1 < 2 ^ n ∧ c.2 < 2 ^ n) : CoverR l n = (tabB n (anyB l), 0) := by
  rw [coverR_ref, if_pos ⟨by omega, by omega, by rw [Int.toNat_natCast]; exact cubesB_of h⟩, Int.toNat_natCast]
/-- A list without its i-th. -/
def without (l : List (Nat × Nat)) (i : Nat) : List (Nat × Nat) := l.take i ++ l.drop (i + 1)
theorem mem_without {l : List (Nat × Nat)} {i : Nat} {c : Nat × Nat} (h : c ∈ without l i) : ∃ j, j ≠ i ∧ l[j]? = some c := by
  rcases List.mem_append.1 h with h | h
  · obtain ⟨j, hj⟩ := List.getElem?_of_mem h
    rw [List.getElem?_take] at hj
    split at hj
    · exact ⟨j, by omega, hj⟩
    · cases hj
  · obtain ⟨j, hj⟩ := List.getElem?_of_mem h
    rw [List.getElem?_drop] at hj
    exact ⟨i + 1 + j, by omega, hj⟩
/-- Irredundant. -/
theorem isop_irr (hn : n ≤ 6) (h : Go.Tab.Good n n L U) {i : Nat} (hi : i < (isopG n n L U).1.length) :
    ∃ u, CoverR (without (isopG n n L U).1 i) n = (u, 0) ∧ L &&& ~~~ u ≠ 0#64 := by
  refine ⟨_, coverR_of hn fun c hc => ?_, fun hz => ?_⟩
  · obtain ⟨j, _, hj⟩ := mem_without hc
    exact isop_cubes hn h c (List.mem_of_getElem? hj)
  · obtain ⟨k, ⟨hk, hl⟩, _, hno⟩ := (isopG_cover hn n L U (Nat.le_refl _) h).own i _ (List.getElem?_eq_getElem hi)
    have := sub_iff.1 hz k hl
    rw [tabB_bit hn, decide_eq_true hk, Bool.true_and, anyB, List.any_eq_true] at this
    obtain ⟨c, hc, hh⟩ := this
    obtain ⟨j, hj, hjc⟩ := mem_without hc
    exact hno j c hj hjc ((holdsB_iff c k).1 hh)
/-- Prime. -/
theorem holds_clear {c : Nat × Nat} {v k : Nat} : Holds (setb c.1 v false, setb c.2 v false) k ↔ HoldsBut c v k := by
  constructor
  · intro h j hj
    have := h j
    simp only [setb_testBit, if_neg hj] at this
    exact this
  · intro h j
    simp only [setb_testBit]
    by_cases e : j = v
    · simp [e]
    · rw [if_neg e, if_neg e]; exact h j e
theorem isop_prime (hn : n ≤ 6) (h : Go.Tab.Good n n L U) {c : Nat × Nat} (hc : c ∈ (isopG n n L U).1) {v : Nat} (hv : v < n) (hb : (c.1 ||| c.2).testBit v = true) :
    ∃ w, CoverR [(setb c.1 v false, setb c.2 v false)] n = (w, 0) ∧ w &&& ~~~ U ≠ 0#64 := by
  obtain ⟨h1, h2, h3⟩ := isop_cubes hn h c hc
  refine ⟨_, coverR_of hn fun d hd => ?_, fun hz => ?_⟩
  · rw [List.mem_singleton.1 hd]
    refine ⟨Nat.eq_of_testBit_eq fun j => ?_, setb_lt false h2 hv, setb_lt false h3 hv⟩
    have := congrArg (·.testBit j) h1
    simp only [Nat.testBit_and, Nat.zero_testBit] at this
    simp only [Nat.testBit_and, setb_testBit, Nat.zero_testBit]
    split
    · rfl
    · exact this
  · rw [Nat.testBit_or, Bool.or_eq_true] at hb
    obtain ⟨k, hk, hh, hu⟩ := isopG_prime hn n L U (Nat.le_refl _) h c hc v hb
    have := sub_iff.1 hz k (by
      rw [tabB_bit hn, decide_eq_true hk, Bool.true_and, anyB, List.any_eq_true]
      exact ⟨_, List.mem_singleton.2 rfl, (holdsB_iff _ k).2 (holds_clear.2 hh)⟩)
    rw [hu] at this; cases this
end Go.Proofs.Ytbpjoamdcbbnnaa
