/- The least equivalent table: the program's search and the reference's class have one minimum, and the found transformation leads to it (no program here). -/
import Derived.Test.YtbpjoamdcbbnnaaTabRef2
import Derived.Test.YtbpjoamdcbbnnaaTabCanR
set_option linter.unusedSimpArgs false
set_option linter.unusedVariables false
namespace Go.Tab

/-- The orders of the reference. -/
def ordersR : Nat → List (List Int)
  | 0 => [[]]
  | n + 1 => (ordersR n).flatMap fun l => (List.range (n + 1)).map fun i => l.take i ++ (n : Int) :: l.drop i
abbrev Tri := List Int × Nat × Bool
/-- y is the least of what S yields and of y0. -/
structure MinOf (t : BitVec 64) (n : Nat) (S : List Tri) (y0 y : FoundT) : Prop where
  le : ∀ s ∈ S, y.1.toNat ≤ (applyV t n s.1 s.2.1 s.2.2).toNat
  le0 : y.1.toNat ≤ y0.1.toNat
  or : y = y0 ∨ ∃ s ∈ S, y = (applyV t n s.1 s.2.1 s.2.2, s.1, s.2.1, s.2.2)
variable {t : BitVec 64} {n : Nat}
theorem MinOf.nil (y : FoundT) : MinOf t n [] y y := ⟨(fun s hs => by cases hs), Nat.le_refl _, .inl rfl⟩
theorem MinOf.append {S1 S2 : List Tri} {y0 y1 y2 : FoundT} (h1 : MinOf t n S1 y0 y1) (h2 : MinOf t n S2 y1 y2) : MinOf t n (S1 ++ S2) y0 y2 where
  le s hs := by
    rcases List.mem_append.1 hs with hs | hs
    · exact Nat.le_trans h2.le0 (h1.le s hs)
    · exact h2.le s hs
  le0 := Nat.le_trans h2.le0 h1.le0
  or := by
    rcases h2.or with e | ⟨s, hs, e⟩
    · subst e
      rcases h1.or with e | ⟨s, hs, e⟩
      · exact .inl e
      · exact .inr ⟨s, List.mem_append_left _ hs, e⟩
    · exact .inr ⟨s, List.mem_append_right _ hs, e⟩
theorem MinOf.one (s : Tri) (y : FoundT) : MinOf t n [s] y (if applyV t n s.1 s.2.1 s.2.2 < y.1 then (applyV t n s.1 s.2.1 s.2.2, s.1, s.2.1, s.2.2) else y) := by
  by_cases h : applyV t n s.1 s.2.1 s.2.2 < y.1
  · rw [if_pos h]
    rw [BitVec.lt_def] at h
    exact ⟨(fun s' hs => by rw [List.mem_singleton.1 hs]; exact Nat.le_refl _), (by show (applyV t n s.1 s.2.1 s.2.2).toNat ≤ _; omega), .inr ⟨s, List.mem_singleton.2 rfl, rfl⟩⟩
  · rw [if_neg h]
    rw [BitVec.lt_def] at h
    exact ⟨(fun s' hs => by rw [List.mem_singleton.1 hs]; omega), Nat.le_refl _, .inl rfl⟩

theorem pow_le16 {n : Nat} (hn : n < 5) : 2 ^ n ≤ 16 := Nat.le_trans (Nat.pow_le_pow_right (by omega) (show n ≤ 4 by omega)) (by decide)
theorem permX_id : ∀ n : Nat, n < 5 → ∀ k : Nat, k < 16 → k < 2 ^ n → permX k (idL n) 0 0 = k := by decide +kernel
theorem idL_length (n : Nat) : (idL n).length = n := by simp [idL]
theorem permute_two (hn : n < 5) (w : BitVec 64) {l : List Int} (hl : l.length = n) : permuteR (permuteR w n (idL n)) n l = permuteR w n l := by
  refine eq_of_bits (n := n) (tab_permute _ (by omega) _) (tab_permute _ (by omega) _) fun k hk => ?_
  have hx : permX k l 0 0 < 2 ^ n := hl ▸ permX_lt0 k l
  have h16 : 2 ^ n ≤ 16 := pow_le16 (by omega)
  rw [permuteR_bit _ (by omega), permuteR_bit _ (by omega), permuteR_bit _ (by omega), permX_id n hn _ (by omega) hx]
  simp [hx]
theorem applyV_id (hn : n < 5) (ht : Tab n t) : applyV t n (idL n) 0 false = t := by
  refine eq_of_bits (n := n) (tab_applyV _ (by omega) _ _ _) ht fun k hk => ?_
  have h16 : 2 ^ n ≤ 16 := pow_le16 (by omega)
  rw [applyV_bit (by omega) ht (idL_length n) (Nat.two_pow_pos n) false hk, permX_id n hn _ (by omega) hk]
  simp
theorem tryR_min (hn : n < 5) {l : List Int} (hl : l.length = n) (f : Nat) (y : FoundT) : MinOf t n [(l, f, false), (l, f, true)] y (tryR n f (applyV t n (idL n) f false) y l) := by
  have e1 : permuteR (applyV t n (idL n) f false) n l = applyV t n l f false := permute_two hn _ hl
  have e2 : applyV t n l f false ^^^ maskT (lim n) = applyV t n l f true := rfl
  have h := (MinOf.one (t := t) (n := n) (l, f, false) y).append (MinOf.one (l, f, true) _)
  unfold tryR
  simp only [tryAt, e1]
  simpa [e2] using h
theorem fold_min (hn : n < 5) (f : Nat) : ∀ (ls : List (List Int)) (y : FoundT), (∀ l ∈ ls, l.length = n) → MinOf t n (ls.flatMap fun l => [(l, f, false), (l, f, true)]) y (ls.foldl (tryR n f (applyV t n (idL n) f false)) y)
  | [], y, _ => .nil y
  | l :: ls, y, h => by
    rw [List.flatMap_cons, List.foldl_cons]
    exact (tryR_min hn (h l (by simp)) f y).append (fold_min hn f ls _ fun l hl => h l (by simp [hl]))
theorem perms_len : ∀ n : Nat, n < 5 → ((perms n n (idL n)).all fun l => decide (l.length = n)) = true := by decide +kernel
theorem permR_id : ∀ n : Nat, n < 5 → permR (idL n) n = true := by decide +kernel
theorem canonGo_min (hn : n < 5) (hv : validT t n = true) : ∀ (d f : Nat) (y : FoundT), f + d ≤ 2 ^ n → MinOf t n ((List.range' f d).flatMap fun f => (perms n n (idL n)).flatMap fun l => [(l, f, false), (l, f, true)]) y (canonGo t n d f y)
  | 0, f, y, _ => .nil y
  | d + 1, f, y, h => by
    rw [List.range'_succ, List.flatMap_cons]
    have hlen : ∀ l ∈ perms n n (idL n), l.length = n := fun l hl => by simpa using List.all_eq_true.1 (perms_len n hn) l hl
    have e : (ApplyR t n (idL n) f false).1 = applyV t n (idL n) f false := by
      unfold ApplyR
      rw [if_pos ⟨hv, permR_id n hn, shr_zero.2 (by simpa using (by omega : f < 2 ^ n))⟩]
      rfl
    unfold canonGo
    rw [e]
    exact (fold_min hn f _ y hlen).append (canonGo_min hn hv d (f + 1) _ (by omega))

/-- The class of the reference, and its least table. -/
def classR (t : BitVec 64) (n : Nat) : List (BitVec 64) := (ordersR n).flatMap fun l => (List.range (2 ^ n)).flatMap fun f => [applyV t n l f false, maskT n &&& ~~~ applyV t n l f false]
def minB (a b : BitVec 64) : BitVec 64 := if b < a then b else a
def rcanon (t : BitVec 64) (n : Nat) : BitVec 64 := (classR t n).foldl minB t
theorem minB_fold : ∀ (l : List (BitVec 64)) (a : BitVec 64), (∀ x ∈ l, (l.foldl minB a).toNat ≤ x.toNat) ∧ (l.foldl minB a).toNat ≤ a.toNat ∧ (l.foldl minB a = a ∨ l.foldl minB a ∈ l)
  | [], a => ⟨(fun x hx => by cases hx), Nat.le_refl _, .inl rfl⟩
  | b :: l, a => by
    obtain ⟨h1, h2, h3⟩ := minB_fold l (minB a b)
    have hb : (minB a b).toNat ≤ b.toNat ∧ (minB a b).toNat ≤ a.toNat ∧ (minB a b = a ∨ minB a b = b) := by
      unfold minB
      split
      · rename_i h; rw [BitVec.lt_def] at h; exact ⟨Nat.le_refl _, by omega, .inr rfl⟩
      · rename_i h; rw [BitVec.lt_def] at h; exact ⟨by omega, Nat.le_refl _, .inl rfl⟩
    rw [List.foldl_cons]
    refine ⟨fun x hx => ?_, by omega, ?_⟩
    · rcases List.mem_cons.1 hx with rfl | hx
      · omega
      · exact h1 x hx
    · rcases h3 with e | e
      · rw [e]
        rcases hb.2.2 with e | e
        · exact .inl e
        · exact .inr (by rw [e]; simp)
      · exact .inr (List.mem_cons_of_mem _ e)
theorem orders_same : ∀ n : Nat, n < 5 → ((perms n n (idL n)).all fun l => (ordersR n).contains l && (permR l n)) = true ∧ ((ordersR n).all fun l => (perms n n (idL n)).contains l && permR l n) = true := by decide +kernel
theorem not_applyV (hn : n ≤ 6) (l : List Int) (f : Nat) : maskT n &&& ~~~ applyV t n l f false = applyV t n l f true := by
  refine eq_of_bits (n := n) (fun k hk => ?_) (tab_applyV _ hn _ _ _) fun k hk => ?_
  · rw [andnot_bit, Bool.and_eq_true] at hk
    exact tab_mask hn k hk.1
  · have e2 : applyV t n l f true = applyV t n l f false ^^^ maskT n := by
      show applyV t n l f false ^^^ maskT (lim n) = _
      rw [lim_of hn]
    rw [e2, xor_mask hn _ hk, andnot_bit, maskT_bit' hn]
    simp [hk]
theorem mem_class (hn : n < 5) {x : BitVec 64} : x ∈ classR t n ↔ ∃ s : Tri, s.1 ∈ ordersR n ∧ s.2.1 < 2 ^ n ∧ x = applyV t n s.1 s.2.1 s.2.2 := by
  unfold classR
  simp only [List.mem_flatMap, List.mem_range, List.mem_cons, List.not_mem_nil, or_false]
  constructor
  · rintro ⟨l, hl, f, hf, h | h⟩
    · exact ⟨(l, f, false), hl, hf, h⟩
    · exact ⟨(l, f, true), hl, hf, by rw [h, not_applyV (by omega)]⟩
  · rintro ⟨⟨l, f, b⟩, hl, hf, h⟩
    refine ⟨l, hl, f, hf, ?_⟩
    cases b
    · exact .inl h
    · exact .inr (by rw [not_applyV (by omega)]; exact h)
theorem canon_found (hn : n < 5) (ht : Tab n t) (hv : validT t n = true) :
    ∃ s : Tri, canonGo t n (2 ^ n) 0 (t, idL n, 0, false) = (rcanon t n, s) ∧ permR s.1 n = true ∧ s.1.length = n ∧ s.2.1 < 2 ^ n ∧ applyV t n s.1 s.2.1 s.2.2 = rcanon t n := by
  have h := canonGo_min (t := t) hn hv (2 ^ n) 0 (t, idL n, 0, false) (by omega)
  obtain ⟨c1, c2, c3⟩ := minB_fold (classR t n) t
  obtain ⟨p1, p2⟩ := orders_same n hn
  have hperm : ∀ l ∈ perms n n (idL n), l ∈ ordersR n ∧ permR l n = true := fun l hl => by
    have := List.all_eq_true.1 p1 l hl
    simpa using this
  have hord : ∀ l ∈ ordersR n, l ∈ perms n n (idL n) := fun l hl => by
    have := List.all_eq_true.1 p2 l hl
    simp only [Bool.and_eq_true] at this
    simpa using this.1
  generalize canonGo t n (2 ^ n) 0 (t, idL n, 0, false) = y at h ⊢
  have hS : ∀ s : Tri, s ∈ ((List.range' 0 (2 ^ n)).flatMap fun f => (perms n n (idL n)).flatMap fun l => [(l, f, false), (l, f, true)]) ↔ s.1 ∈ perms n n (idL n) ∧ s.2.1 < 2 ^ n := by
    rintro ⟨l, f, b⟩
    simp only [List.mem_flatMap, List.mem_range'_1, List.mem_cons, Prod.mk.injEq, List.not_mem_nil, or_false]
    constructor
    · rintro ⟨f', hf, l', hl, h | h⟩ <;> obtain ⟨rfl, rfl, rfl⟩ := h <;> exact ⟨hl, by omega⟩
    · rintro ⟨hl, hf⟩
      exact ⟨f, by omega, l, hl, by cases b <;> simp⟩
  -- what was found is a transformation's table
  have hy : ∃ s : Tri, y = (applyV t n s.1 s.2.1 s.2.2, s) ∧ permR s.1 n = true ∧ s.1 ∈ ordersR n ∧ s.2.1 < 2 ^ n := by
    rcases h.or with e | ⟨s, hs, e⟩
    · refine ⟨(idL n, 0, false), by rw [e, applyV_id hn ht], permR_id n hn, ?_, Nat.two_pow_pos n⟩
      have : ∀ n, n < 5 → (ordersR n).contains (idL n) = true := by decide +kernel
      simpa using this n hn
    · obtain ⟨h1, h2⟩ := (hS s).1 hs
      exact ⟨s, e, (hperm _ h1).2, (hperm _ h1).1, h2⟩
  obtain ⟨s, e, hp, ho, hf⟩ := hy
  have hle1 : (rcanon t n).toNat ≤ y.1.toNat := by
    rw [e]
    exact c1 _ ((mem_class hn).2 ⟨s, ho, hf, rfl⟩)
  have hle2 : y.1.toNat ≤ (rcanon t n).toNat := by
    rcases c3 with e3 | e3
    · show _ ≤ (rcanon t n).toNat
      rw [show rcanon t n = t from e3]
      exact h.le0
    · obtain ⟨s', h1, h2, h3⟩ := (mem_class hn).1 e3
      have := h.le s' ((hS s').2 ⟨hord _ h1, h2⟩)
      rw [← h3] at this
      exact this
  have hx : y.1 = rcanon t n := BitVec.eq_of_toNat_eq (by omega)
  have hx2 : applyV t n s.1 s.2.1 s.2.2 = rcanon t n := by rw [← hx, e]
  exact ⟨s, by rw [e, hx2], hp, by have := (permR_mem hp).1; omega, hf, hx2⟩
end Go.Tab
