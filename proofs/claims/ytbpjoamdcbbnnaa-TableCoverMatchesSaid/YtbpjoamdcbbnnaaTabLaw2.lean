/- Covers: the plain laws of isop. -/
import Derived.Test.YtbpjoamdcbbnnaaTabLaw1
set_option linter.unusedSimpArgs false
set_option linter.unusedVariables false
namespace Go.Tab
/-- A cube holds at an assignment. -/
def Holds (c : Nat × Nat) (k : Nat) : Prop := ∀ i, (c.1.testBit i = true → k.testBit i = true) ∧ (c.2.testBit i = true → k.testBit i = false)
theorem holds_setb {c : Nat × Nat} {k V : Nat} (h1 : c.1 < 2 ^ V) (h2 : c.2 < 2 ^ V) {i : Nat} (hi : V ≤ i) (v : Bool) : Holds c (setb k i v) ↔ Holds c k := by
  have a1 : c.1.testBit i = false := Nat.testBit_lt_two_pow (Nat.lt_of_lt_of_le h1 (Nat.pow_le_pow_right (by omega) hi))
  have a2 : c.2.testBit i = false := Nat.testBit_lt_two_pow (Nat.lt_of_lt_of_le h2 (Nat.pow_le_pow_right (by omega) hi))
  constructor
  · intro h j
    have := h j
    rw [setb_testBit] at this
    by_cases e : j = i
    · subst e; rw [a1, a2]; simp
    · rwa [if_neg e] at this
  · intro h j
    rw [setb_testBit]
    by_cases e : j = i
    · subst e; rw [a1, a2]; simp
    · rw [if_neg e]; exact h j
theorem holds_neg {c : Nat × Nat} {k V : Nat} : Holds (c.1, c.2 ||| 2 ^ V) k ↔ Holds c k ∧ k.testBit V = false := by
  constructor
  · intro h
    refine ⟨fun i => ⟨(h i).1, fun hi => (h i).2 ?_⟩, (h V).2 ?_⟩
    · simp [Nat.testBit_or, hi]
    · simp [Nat.testBit_or, Nat.testBit_two_pow_self]
  · intro ⟨h, hv⟩ i
    refine ⟨(h i).1, fun hi => ?_⟩
    rw [Nat.testBit_or, Bool.or_eq_true] at hi
    rcases hi with hi | hi
    · exact (h i).2 hi
    · rw [Nat.testBit_two_pow] at hi
      have : V = i := by simpa using hi
      subst this; exact hv
theorem holds_pos {c : Nat × Nat} {k V : Nat} : Holds (c.1 ||| 2 ^ V, c.2) k ↔ Holds c k ∧ k.testBit V = true := by
  constructor
  · intro h
    refine ⟨fun i => ⟨fun hi => (h i).1 ?_, (h i).2⟩, (h V).1 ?_⟩
    · simp [Nat.testBit_or, hi]
    · simp [Nat.testBit_or, Nat.testBit_two_pow_self]
  · intro ⟨h, hv⟩ i
    refine ⟨fun hi => ?_, (h i).2⟩
    rw [Nat.testBit_or, Bool.or_eq_true] at hi
    rcases hi with hi | hi
    · exact (h i).1 hi
    · rw [Nat.testBit_two_pow] at hi
      have : V = i := by simpa using hi
      subst this; exact hv
theorem holds_zero (k : Nat) : Holds (0, 0) k := fun i => by simp

/-- Three lists joined, each element with a place of its own. -/
theorem own_append3 {A B C : List (Nat × Nat)} {good : Nat → Prop}
    (ha : ∀ (j : Nat) (c : Nat × Nat), A[j]? = some c → ∃ k, good k ∧ Holds c k ∧ (∀ (j' : Nat) (d : Nat × Nat), j' ≠ j → A[j']? = some d → ¬ Holds d k) ∧ (∀ d ∈ B, ¬ Holds d k) ∧ ∀ d ∈ C, ¬ Holds d k)
    (hb : ∀ (j : Nat) (c : Nat × Nat), B[j]? = some c → ∃ k, good k ∧ Holds c k ∧ (∀ d ∈ A, ¬ Holds d k) ∧ (∀ (j' : Nat) (d : Nat × Nat), j' ≠ j → B[j']? = some d → ¬ Holds d k) ∧ ∀ d ∈ C, ¬ Holds d k)
    (hc : ∀ (j : Nat) (c : Nat × Nat), C[j]? = some c → ∃ k, good k ∧ Holds c k ∧ (∀ d ∈ A, ¬ Holds d k) ∧ (∀ d ∈ B, ¬ Holds d k) ∧ ∀ (j' : Nat) (d : Nat × Nat), j' ≠ j → C[j']? = some d → ¬ Holds d k) :
    ∀ (j : Nat) (c : Nat × Nat), (A ++ B ++ C)[j]? = some c → ∃ k, good k ∧ Holds c k ∧ ∀ (j' : Nat) (d : Nat × Nat), j' ≠ j → (A ++ B ++ C)[j']? = some d → ¬ Holds d k := by
  have look : ∀ (j : Nat) (c : Nat × Nat), (A ++ B ++ C)[j]? = some c → (j < A.length ∧ A[j]? = some c) ∨ (A.length ≤ j ∧ j < A.length + B.length ∧ B[j - A.length]? = some c) ∨ (A.length + B.length ≤ j ∧ C[j - (A.length + B.length)]? = some c) := by
    intro j c h
    rw [List.getElem?_append, List.length_append] at h
    split at h
    · rw [List.getElem?_append] at h
      split at h
      · exact .inl ⟨by assumption, h⟩
      · exact .inr (.inl ⟨by omega, by assumption, h⟩)
    · exact .inr (.inr ⟨by omega, h⟩)
  intro j c h
  rcases look j c h with ⟨h1, h2⟩ | ⟨h1, h2, h3⟩ | ⟨h1, h2⟩
  · obtain ⟨k, g, hh, p1, p2, p3⟩ := ha j c h2
    refine ⟨k, g, hh, fun j' d hne hd => ?_⟩
    rcases look j' d hd with ⟨_, q2⟩ | ⟨_, _, q3⟩ | ⟨_, q2⟩
    · exact p1 j' d hne q2
    · exact p2 d (List.mem_of_getElem? q3)
    · exact p3 d (List.mem_of_getElem? q2)
  · obtain ⟨k, g, hh, p1, p2, p3⟩ := hb _ c h3
    refine ⟨k, g, hh, fun j' d hne hd => ?_⟩
    rcases look j' d hd with ⟨_, q2⟩ | ⟨q1, _, q3⟩ | ⟨_, q2⟩
    · exact p1 d (List.mem_of_getElem? q2)
    · exact p2 _ d (by omega) q3
    · exact p3 d (List.mem_of_getElem? q2)
  · obtain ⟨k, g, hh, p1, p2, p3⟩ := hc _ c h2
    refine ⟨k, g, hh, fun j' d hne hd => ?_⟩
    rcases look j' d hd with ⟨_, q2⟩ | ⟨_, _, q3⟩ | ⟨q1, q2⟩
    · exact p1 d (List.mem_of_getElem? q2)
    · exact p2 d (List.mem_of_getElem? q3)
    · exact p3 _ d (by omega) q2
/-- The cover's table is the cubes', each cube holds a 1 of L that no other holds, and no cube asks for a variable twice. -/
structure CoverOk (n V : Nat) (L : BitVec 64) (r : List (Nat × Nat) × BitVec 64) : Prop where
  table : ∀ k, k < 2 ^ n → (r.2.getLsbD k = true ↔ ∃ c ∈ r.1, Holds c k)
  own : ∀ (j : Nat) (c : Nat × Nat), r.1[j]? = some c → ∃ k, (k < 2 ^ n ∧ L.getLsbD k = true) ∧ Holds c k ∧ ∀ (j' : Nat) (d : Nat × Nat), j' ≠ j → r.1[j']? = some d → ¬ Holds d k
  once : ∀ c ∈ r.1, c.1 &&& c.2 = 0

theorem once_neg {c : Nat × Nat} {V : Nat} (h : c.1 &&& c.2 = 0) (h1 : c.1 < 2 ^ V) : c.1 &&& (c.2 ||| 2 ^ V) = 0 := by
  apply Nat.eq_of_testBit_eq
  intro i
  have := congrArg (fun x => x.testBit i) h
  simp only [Nat.testBit_and, Nat.zero_testBit] at this
  simp only [Nat.testBit_and, Nat.testBit_or, Nat.zero_testBit]
  by_cases e : i = V
  · subst e; rw [Nat.testBit_lt_two_pow h1]; rfl
  · rw [Nat.testBit_two_pow, decide_eq_false (fun h => e h.symm), Bool.or_false]; exact this
theorem once_pos {c : Nat × Nat} {V : Nat} (h : c.1 &&& c.2 = 0) (h2 : c.2 < 2 ^ V) : (c.1 ||| 2 ^ V) &&& c.2 = 0 := by
  rw [Nat.and_comm]
  exact once_neg (c := (c.2, c.1)) (by rw [Nat.and_comm]; exact h) h2
theorem not_holds_nil {L : BitVec 64} {n V : Nat} : CoverOk n V L ([], 0#64) := ⟨fun k _ => by simp, fun j c h => by simp at h, fun c hc => by cases hc⟩
theorem cover_one {n V : Nat} {L U : BitVec 64} (hn : n ≤ 6) (hU : ∀ k, k < 2 ^ n → U.getLsbD k = true) (hL : ∃ k, k < 2 ^ n ∧ L.getLsbD k = true) : CoverOk n V L ([(0, 0)], U) := by
  refine ⟨fun k hk => ?_, fun j c h => ?_, fun c hc => ?_⟩
  · simp [hU k hk, holds_zero]
  · obtain ⟨k, hk, hl⟩ := hL
    have hj : j = 0 := by
      have := (List.getElem?_eq_some_iff.1 h).1
      simp at this; exact this
    subst hj
    simp only [List.getElem?_cons_zero, Option.some.injEq] at h
    refine ⟨k, ⟨hk, hl⟩, h ▸ holds_zero k, fun j' d hne hd => ?_⟩
    have := (List.getElem?_eq_some_iff.1 hd).1
    simp at this; exact absurd this hne
  · simp only [List.mem_singleton] at hc; subst hc; rfl
theorem isopG_cover {n : Nat} (hn : n ≤ 6) : ∀ (V : Nat) (L U : BitVec 64), V ≤ n → Good n V L U → CoverOk n V L (isopG n V L U)
  | 0, L, U, hV, h => by
    unfold isopG
    split
    · exact not_holds_nil
    · rename_i h0
      obtain ⟨k, hk⟩ := ne_zero_bit h0
      have hU := h.bottom hn h0
      exact cover_one hn (fun k hk => by rw [hU, maskT_bit' hn]; simpa using hk) ⟨k, h.tabL k hk, hk⟩
  | V + 1, L, U, hV, h => by
    unfold isopG
    split
    · exact not_holds_nil
    · rename_i h0
      split
      · rename_i hU
        obtain ⟨k, hk⟩ := ne_zero_bit h0
        exact cover_one hn (fun k hk => by rw [hU, maskT_bit' hn]; simpa using hk) ⟨k, h.tabL k hk, hk⟩
      · split
        · rename_i hd
          have := isopG_cover hn V L U (by omega) (h.down hn hV hd.1 hd.2)
          exact ⟨this.table, this.own, this.once⟩
        · have g0 := h.half hn hV false true
          have g1 := h.half hn hV true false
          have o0 := isopG_ok hn V _ _ (by omega) g0
          have o1 := isopG_ok hn V _ _ (by omega) g1
          have gb := h.both hn hV o0 o1
          have ob := isopG_ok hn V _ _ (by omega) gb
          have c0 := isopG_cover hn V _ _ (by omega) g0
          have c1 := isopG_cover hn V _ _ (by omega) g1
          have cb := isopG_cover hn V _ _ (by omega) gb
          have s0 := isopG_small n V (cofR L n V false &&& ~~~ cofR U n V true) (cofR U n V false)
          have s1 := isopG_small n V (cofR L n V true &&& ~~~ cofR U n V false) (cofR U n V true)
          have sb := isopG_small n V ((cofR L n V false &&& ~~~ (isopG n V (cofR L n V false &&& ~~~ cofR U n V true) (cofR U n V false)).2) ||| (cofR L n V true &&& ~~~ (isopG n V (cofR L n V true &&& ~~~ cofR U n V false) (cofR U n V true)).2)) (cofR U n V false &&& cofR U n V true)
          generalize isopG n V (cofR L n V false &&& ~~~ cofR U n V true) (cofR U n V false) = r0 at *
          generalize isopG n V (cofR L n V true &&& ~~~ cofR U n V false) (cofR U n V true) = r1 at *
          simp only
          generalize isopG n V ((cofR L n V false &&& ~~~ r0.2) ||| (cofR L n V true &&& ~~~ r1.2)) (cofR U n V false &&& cofR U n V true) = r at *
          have h6 := two_pow_le6 hn
          have hbit : ∀ k, k < 2 ^ n → (((r.2 ||| (r0.2 &&& ~~~ varT V)) ||| (r1.2 &&& varT V)).getLsbD k = true ↔ (r.2.getLsbD k = true ∨ (k.testBit V = false ∧ r0.2.getLsbD k = true) ∨ (k.testBit V = true ∧ r1.2.getLsbD k = true))) := by
            intro k hk
            rw [BitVec.getLsbD_or, BitVec.getLsbD_or, andnot_bit, BitVec.getLsbD_and, varT_bit V (by omega) k (by omega)]
            cases k.testBit V <;> simp
          have hmem : ∀ d, d ∈ r.1 ++ r0.1.map (fun c => (c.1, c.2 ||| 2 ^ V)) ++ r1.1.map (fun c => (c.1 ||| 2 ^ V, c.2)) ↔ d ∈ r.1 ∨ (∃ c ∈ r0.1, (c.1, c.2 ||| 2 ^ V) = d) ∨ (∃ c ∈ r1.1, (c.1 ||| 2 ^ V, c.2) = d) := by
            intro d; simp only [List.mem_append, List.mem_map]; constructor
            · rintro ((h | h) | h)
              · exact .inl h
              · exact .inr (.inl h)
              · exact .inr (.inr h)
            · rintro (h | h | h)
              · exact .inl (.inl h)
              · exact .inl (.inr h)
              · exact .inr h
          -- what holds at k when the first V variables' cube is met
          have down : ∀ k v, k < 2 ^ n → setb k V v < 2 ^ n := fun k v hk => setb_lt v hk hV
          refine ⟨fun k hk => ?_, ?_, fun c hc => ?_⟩
          · rw [hbit k hk, cb.table k hk, c0.table k hk, c1.table k hk]
            constructor
            · rintro (⟨c, hc, hh⟩ | ⟨hv, c, hc, hh⟩ | ⟨hv, c, hc, hh⟩)
              · exact ⟨c, (hmem c).2 (.inl hc), hh⟩
              · exact ⟨_, (hmem _).2 (.inr (.inl ⟨c, hc, rfl⟩)), holds_neg.2 ⟨hh, hv⟩⟩
              · exact ⟨_, (hmem _).2 (.inr (.inr ⟨c, hc, rfl⟩)), holds_pos.2 ⟨hh, hv⟩⟩
            · rintro ⟨d, hd, hh⟩
              rcases (hmem d).1 hd with hd | ⟨c, hc, rfl⟩ | ⟨c, hc, rfl⟩
              · exact .inl ⟨d, hd, hh⟩
              · obtain ⟨hh, hv⟩ := holds_neg.1 hh; exact .inr (.inl ⟨hv, c, hc, hh⟩)
              · obtain ⟨hh, hv⟩ := holds_pos.1 hh; exact .inr (.inr ⟨hv, c, hc, hh⟩)
          · have hbU : ∀ k, k < 2 ^ n → (∃ d ∈ r.1, Holds d k) → (cofR U n V false).getLsbD k = true ∧ (cofR U n V true).getLsbD k = true := fun k hk hd => by
              have := ob.up k ((cb.table k hk).2 hd)
              rwa [BitVec.getLsbD_and, Bool.and_eq_true] at this
            have hL : ∀ k v, k < 2 ^ n → (cofR L n V v).getLsbD k = true → L.getLsbD (setb k V v) = true := fun k v hk h => by
              rw [cofR_bit L v hn hV, Bool.and_eq_true] at h; exact h.2
            have hUi : ∀ k v w, k < 2 ^ n → (cofR U n V w).getLsbD (setb k V v) = (cofR U n V w).getLsbD k := fun k v w hk => by
              rw [cofR_bit U w hn hV, cofR_bit U w hn hV, setb_set]; simp [hk, setb_lt v hk hV]
            have hsv : ∀ k v, (setb k V v).testBit V = v := fun k v => by rw [setb_testBit, if_pos rfl]
            refine own_append3 (good := fun k => k < 2 ^ n ∧ L.getLsbD k = true) ?_ ?_ ?_
            · intro j c hj
              obtain ⟨k, ⟨hk, hk1⟩, hh, hu⟩ := cb.own j c hj
              rw [BitVec.getLsbD_or, Bool.or_eq_true, andnot_bit, andnot_bit] at hk1
              have hcs := sb c (List.mem_of_getElem? hj)
              have hrest : ∀ v : Bool, ∀ (j' : Nat) (d : Nat × Nat), j' ≠ j → r.1[j']? = some d → ¬ Holds d (setb k V v) := fun v j' d hne hd hh' => by
                have hds := sb d (List.mem_of_getElem? hd)
                exact hu j' d hne hd ((holds_setb hds.1 hds.2 (Nat.le_refl _) v).1 hh')
              rcases hk1 with hk1 | hk1
              · rw [Bool.and_eq_true, Bool.not_eq_true'] at hk1
                refine ⟨setb k V false, ⟨down k false hk, hL k false hk hk1.1⟩, (holds_setb hcs.1 hcs.2 (Nat.le_refl _) false).2 hh, hrest false, fun d hd hh' => ?_, fun d hd hh' => ?_⟩
                · obtain ⟨e, he, rfl⟩ := List.mem_map.1 hd
                  have hes := s0 e he
                  have h1 := (holds_setb hes.1 hes.2 (Nat.le_refl _) false).1 (holds_neg.1 hh').1
                  have := (c0.table k hk).2 ⟨e, he, h1⟩
                  rw [this] at hk1; cases hk1.2
                · obtain ⟨e, he, rfl⟩ := List.mem_map.1 hd
                  have := (holds_pos.1 hh').2
                  rw [hsv] at this; cases this
              · rw [Bool.and_eq_true, Bool.not_eq_true'] at hk1
                refine ⟨setb k V true, ⟨down k true hk, hL k true hk hk1.1⟩, (holds_setb hcs.1 hcs.2 (Nat.le_refl _) true).2 hh, hrest true, fun d hd hh' => ?_, fun d hd hh' => ?_⟩
                · obtain ⟨e, he, rfl⟩ := List.mem_map.1 hd
                  have := (holds_neg.1 hh').2
                  rw [hsv] at this; cases this
                · obtain ⟨e, he, rfl⟩ := List.mem_map.1 hd
                  have hes := s1 e he
                  have h1 := (holds_setb hes.1 hes.2 (Nat.le_refl _) true).1 (holds_pos.1 hh').1
                  have := (c1.table k hk).2 ⟨e, he, h1⟩
                  rw [this] at hk1; cases hk1.2
            · intro j c hj
              rw [List.getElem?_map, Option.map_eq_some_iff] at hj
              obtain ⟨e, he, rfl⟩ := hj
              obtain ⟨k, ⟨hk, hk1⟩, hh, hu⟩ := c0.own j e he
              rw [andnot_bit, Bool.and_eq_true, Bool.not_eq_true'] at hk1
              have hes := s0 e (List.mem_of_getElem? he)
              refine ⟨setb k V false, ⟨down k false hk, hL k false hk hk1.1⟩, holds_neg.2 ⟨(holds_setb hes.1 hes.2 (Nat.le_refl _) false).2 hh, hsv k false⟩, fun d hd hh' => ?_, fun j' d hne hd hh' => ?_, fun d hd hh' => ?_⟩
              · have := (hbU _ (down k false hk) ⟨d, hd, hh'⟩).2
                rw [hUi k false true hk, hk1.2] at this; cases this
              · rw [List.getElem?_map, Option.map_eq_some_iff] at hd
                obtain ⟨e', he', rfl⟩ := hd
                have hes' := s0 e' (List.mem_of_getElem? he')
                exact hu j' e' hne he' ((holds_setb hes'.1 hes'.2 (Nat.le_refl _) false).1 (holds_neg.1 hh').1)
              · obtain ⟨e', he', rfl⟩ := List.mem_map.1 hd
                have := (holds_pos.1 hh').2
                rw [hsv] at this; cases this
            · intro j c hj
              rw [List.getElem?_map, Option.map_eq_some_iff] at hj
              obtain ⟨e, he, rfl⟩ := hj
              obtain ⟨k, ⟨hk, hk1⟩, hh, hu⟩ := c1.own j e he
              rw [andnot_bit, Bool.and_eq_true, Bool.not_eq_true'] at hk1
              have hes := s1 e (List.mem_of_getElem? he)
              refine ⟨setb k V true, ⟨down k true hk, hL k true hk hk1.1⟩, holds_pos.2 ⟨(holds_setb hes.1 hes.2 (Nat.le_refl _) true).2 hh, hsv k true⟩, fun d hd hh' => ?_, fun d hd hh' => ?_, fun j' d hne hd hh' => ?_⟩
              · have := (hbU _ (down k true hk) ⟨d, hd, hh'⟩).1
                rw [hUi k true false hk, hk1.2] at this; cases this
              · obtain ⟨e', he', rfl⟩ := List.mem_map.1 hd
                have := (holds_neg.1 hh').2
                rw [hsv] at this; cases this
              · rw [List.getElem?_map, Option.map_eq_some_iff] at hd
                obtain ⟨e', he', rfl⟩ := hd
                have hes' := s1 e' (List.mem_of_getElem? he')
                exact hu j' e' hne he' ((holds_setb hes'.1 hes'.2 (Nat.le_refl _) true).1 (holds_pos.1 hh').1)
          · rcases (hmem c).1 hc with hc | ⟨e, he, rfl⟩ | ⟨e, he, rfl⟩
            · exact cb.once c hc
            · exact once_neg (c0.once e he) (s0 e he).1
            · exact once_pos (c1.once e he) (s1 e he).2

theorem cubeGo_bit (p q : Nat) : ∀ (d i : Nat) (t : BitVec 64) (k : Nat), i + d ≤ 6 → k < 64 →
    ((cubeGo p q d i t).getLsbD k = true ↔ t.getLsbD k = true ∧ ∀ j, i ≤ j → j < i + d → (p.testBit j = true → k.testBit j = true) ∧ (q.testBit j = true → k.testBit j = false))
  | 0, i, t, k, hd, hk => by
    simp only [cubeGo]
    exact ⟨fun h => ⟨h, fun j h1 h2 => by omega⟩, fun h => h.1⟩
  | d + 1, i, t, k, hd, hk => by
    simp only [cubeGo]
    rw [cubeGo_bit p q d (i + 1) _ k (by omega) hk]
    have hv := varT_bit i (by omega) k hk
    have step : ((if q.testBit i = true then (if p.testBit i = true then t &&& varT i else t) &&& ~~~ varT i else (if p.testBit i = true then t &&& varT i else t)).getLsbD k = true) ↔
        t.getLsbD k = true ∧ (p.testBit i = true → k.testBit i = true) ∧ (q.testBit i = true → k.testBit i = false) := by
      cases hp : p.testBit i <;> cases hq : q.testBit i <;> cases hkb : k.testBit i <;> rw [hkb] at hv <;> simp only [if_true, Bool.false_eq_true, if_false, BitVec.getLsbD_and, BitVec.getLsbD_not, hv, hk, decide_true] <;> simp
    rw [step]
    constructor
    · rintro ⟨⟨h1, h2, h3⟩, h4⟩
      refine ⟨h1, fun j hj1 hj2 => ?_⟩
      by_cases e : j = i
      · subst e; exact ⟨h2, h3⟩
      · exact h4 j (by omega) (by omega)
    · rintro ⟨h1, h2⟩
      exact ⟨⟨h1, h2 i (Nat.le_refl _) (by omega)⟩, fun j hj1 hj2 => h2 j (by omega) (by omega)⟩
theorem cubeR_bit {n : Nat} (hn : n ≤ 6) {c : Nat × Nat} (h1 : c.1 < 2 ^ n) (h2 : c.2 < 2 ^ n) (k : Nat) (hk : k < 2 ^ n) : (cubeR c.1 c.2 n).getLsbD k = true ↔ Holds c k := by
  have h6 := two_pow_le6 hn
  rw [cubeR, cubeGo_bit _ _ n 0 _ k (by omega) (by omega), lim_of hn, maskT_bit' hn]
  constructor
  · rintro ⟨_, h⟩ i
    by_cases hi : i < n
    · exact h i (Nat.zero_le _) (by omega)
    · have a1 : c.1.testBit i = false := Nat.testBit_lt_two_pow (Nat.lt_of_lt_of_le h1 (Nat.pow_le_pow_right (by omega) (by omega)))
      have a2 : c.2.testBit i = false := Nat.testBit_lt_two_pow (Nat.lt_of_lt_of_le h2 (Nat.pow_le_pow_right (by omega) (by omega)))
      rw [a1, a2]; simp
  · intro h
    exact ⟨by simpa using hk, fun j _ _ => h j⟩
theorem tab_cube {n : Nat} (hn : n ≤ 6) (p q : Nat) : Tab n (cubeR p q n) := fun k hk => by
  by_cases h64 : k < 64
  · rw [cubeR, cubeGo_bit _ _ n 0 _ k (by omega) h64, lim_of hn, maskT_bit' hn] at hk
    simpa using hk.1
  · rw [BitVec.getLsbD_of_ge _ _ (by omega)] at hk; cases hk
theorem coverGo_ok {n : Nat} (hn : n ≤ 6) : ∀ (l : List (Nat × Nat)) (t : BitVec 64), (∀ c ∈ l, c.1 < 2 ^ n ∧ c.2 < 2 ^ n ∧ c.1 &&& c.2 = 0) → Tab n t →
    (coverGo n l t).2 = 0 ∧ Tab n (coverGo n l t).1 ∧ ∀ k, k < 2 ^ n → ((coverGo n l t).1.getLsbD k = true ↔ t.getLsbD k = true ∨ ∃ c ∈ l, Holds c k)
  | [], t, _, ht => ⟨rfl, ht, fun k _ => by simp [coverGo]⟩
  | c :: l, t, hc, ht => by
    obtain ⟨h1, h2, h3⟩ := hc c (by simp)
    have hgood : badCube n c = false := by
      have hor : (c.1 ||| c.2) >>> n = 0 := by rw [Nat.shiftRight_eq_div_pow]; exact Nat.div_eq_of_lt (Nat.or_lt_two_pow h1 h2)
      simp [badCube, h3, hor]
    have ht' : Tab n (t ||| cubeR c.1 c.2 n) := fun k hk => by
      rw [BitVec.getLsbD_or, Bool.or_eq_true] at hk
      rcases hk with hk | hk
      · exact ht k hk
      · exact tab_cube hn _ _ k hk
    obtain ⟨g1, g2, g3⟩ := coverGo_ok hn l _ (fun d hd => hc d (by simp [hd])) ht'
    simp only [coverGo, hgood, Bool.false_eq_true, if_false]
    refine ⟨g1, g2, fun k hk => ?_⟩
    rw [g3 k hk, BitVec.getLsbD_or, Bool.or_eq_true, cubeR_bit hn h1 h2 k hk]
    simp only [List.mem_cons, exists_eq_or_imp]
    exact or_assoc
theorem cover_isop {n : Nat} (hn : n ≤ 6) {L U : BitVec 64} (h : Good n n L U) : CoverR (isopG n n L U).1 n = ((isopG n n L U).2, 0) := by
  have hok := isopG_ok hn n L U (Nat.le_refl _) h
  have hc := isopG_cover hn n L U (Nat.le_refl _) h
  have hs := isopG_small n n L U
  obtain ⟨g1, g2, g3⟩ := coverGo_ok hn (isopG n n L U).1 0#64 (fun c hm => ⟨(hs c hm).1, (hs c hm).2, hc.once c hm⟩) (fun k hk => by simp at hk)
  have htab : Tab n (isopG n n L U).2 := fun k hk => h.tab k (hok.up k hk)
  have e : (coverGo n (isopG n n L U).1 0#64).1 = (isopG n n L U).2 := eq_of_bits g2 htab fun k hk => by
    rw [Bool.eq_iff_iff, g3 k hk, hc.table k hk]; simp
  rw [CoverR, if_pos (by rw [lim_of hn]), Int.toNat_natCast]
  exact Prod.ext e g1

/-- One place each: a list without repetition. -/
theorem own_list {good : Nat → Prop} : ∀ (l : List (Nat × Nat)), (∀ (j : Nat) (c : Nat × Nat), l[j]? = some c → ∃ k, good k ∧ Holds c k ∧ ∀ (j' : Nat) (d : Nat × Nat), j' ≠ j → l[j']? = some d → ¬ Holds d k) →
    ∃ ks : List Nat, ks.length = l.length ∧ ks.Nodup ∧ ∀ k ∈ ks, good k ∧ ∃ c ∈ l, Holds c k
  | [], _ => ⟨[], rfl, List.nodup_nil, fun k hk => by cases hk⟩
  | c :: l, h => by
    obtain ⟨ks, h1, h2, h3⟩ := own_list l fun j d hd => by
      obtain ⟨k, g, hh, hu⟩ := h (j + 1) d (by simpa using hd)
      exact ⟨k, g, hh, fun j' e hne he => hu (j' + 1) e (by omega) (by simpa using he)⟩
    obtain ⟨k, g, hh, hu⟩ := h 0 c (by simp)
    refine ⟨k :: ks, by simp [h1], List.nodup_cons.2 ⟨fun hk => ?_, h2⟩, fun x hx => ?_⟩
    · obtain ⟨_, d, hd, hdk⟩ := h3 k hk
      obtain ⟨j, hj⟩ := List.getElem?_of_mem hd
      exact hu (j + 1) d (by omega) (by simpa using hj) hdk
    · rcases List.mem_cons.1 hx with rfl | hx
      · exact ⟨g, c, by simp, hh⟩
      · obtain ⟨a, d, hd, hdk⟩ := h3 x hx
        exact ⟨a, d, by simp [hd], hdk⟩
/-- Ones below M. -/
def ones (t : BitVec 64) : Nat → Nat
  | 0 => 0
  | M + 1 => ones t M + if t.getLsbD M = true then 1 else 0
theorem nodup_ones (t : BitVec 64) : ∀ (M : Nat) (ks : List Nat), ks.Nodup → (∀ k ∈ ks, k < M ∧ t.getLsbD k = true) → ks.length ≤ ones t M
  | 0, ks, _, h => by
    cases ks with
    | nil => simp
    | cons k ks => have := (h k (by simp)).1; omega
  | M + 1, ks, hn, h => by
    by_cases hm : M ∈ ks
    · have := nodup_ones t M (ks.erase M) (hn.erase M) fun k hk => by
        have hk' := List.mem_of_mem_erase hk
        have hne : k ≠ M := fun e => by subst e; exact (List.Nodup.mem_erase_iff hn).1 hk |>.1 rfl
        exact ⟨by have := (h k hk').1; omega, (h k hk').2⟩
      rw [List.length_erase_of_mem hm] at this
      simp only [ones, (h M hm).2, if_true]
      omega
    · have := nodup_ones t M ks hn fun k hk => ⟨by
        have h1 := (h k hk).1
        have hne : k ≠ M := fun e => hm (e ▸ hk)
        omega, (h k hk).2⟩
      simp only [ones]; omega
theorem isop_ones {n : Nat} (hn : n ≤ 6) {L U : BitVec 64} (h : Good n n L U) : (isopG n n L U).1.length ≤ ones L (2 ^ n) := by
  obtain ⟨ks, h1, h2, h3⟩ := own_list _ (isopG_cover hn n L U (Nat.le_refl _) h).own
  rw [← h1]
  exact nodup_ones L _ ks h2 fun k hk => (h3 k hk).1
end Go.Tab
