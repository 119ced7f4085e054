import Derived.Test.YtfialjllclclkaaCutRaw
/- The fanout-free cone, as reckoned (no program here). -/
set_option linter.unusedSimpArgs false
set_option linter.unusedVariables false
namespace Go.Cut
open Go.Abs
def intsF (c : Nat → Int) (n : Nat) : List Value := (List.range n).map fun k => .int .i64 (c k)
theorem intsF_len (c : Nat → Int) (n : Nat) : (intsF c n).length = n := by simp [intsF]
theorem intsF_get (c : Nat → Int) {n k : Nat} (h : k < n) : (intsF c n)[k]? = some (.int .i64 (c k)) := by simp [intsF, h]
theorem nums_put (c : Nat → Nat) (n m : Nat) : (nums c n).set m (.int .i64 0) = intsF (fun k => if k = m then 0 else (c k : Int)) n := by
  apply List.ext_getElem?
  intro j
  by_cases hj : j < n
  · rw [intsF_get _ hj, List.getElem?_set]
    by_cases e : m = j
    · subst e; simp [nums_len, hj]
    · rw [if_neg e, if_neg (fun h => e h.symm), nums_get _ hj]
  · rw [List.getElem?_eq_none (by rw [List.length_set, nums_len]; omega), List.getElem?_eq_none (by rw [intsF_len]; omega)]
/-- The uses of a node other than the cone's root. -/
def useF (g : AigD) (m : Nat) (k : Nat) : Int := if k = m then 0 else (cntF (allLits g) k : Int)
def leftF (base : Nat → Int) (rm : List Int) (k : Nat) : Int := base k - (cntF rm k : Int)
theorem left_drop (base : Nat → Int) (rm : List Int) (x : Int) (n : Nat) : (intsF (leftF base rm) n).set (x.toNat / 2) (.int .i64 (leftF base rm (x.toNat / 2) - 1)) = intsF (leftF base (rm ++ [x])) n := by
  apply List.ext_getElem?
  intro j
  by_cases hj : j < n
  · rw [intsF_get _ hj, List.getElem?_set]
    unfold leftF
    rw [cntF_snoc]
    by_cases e : x.toNat / 2 = j
    · subst e; simp [intsF_len, hj]; omega
    · rw [if_neg e, if_neg e, intsF_get _ hj]; rfl
  · rw [List.getElem?_eq_none (by rw [List.length_set, intsF_len]; omega), List.getElem?_eq_none (by rw [intsF_len]; omega)]
def freeStep (f : Nat) (as : List (Int × Int)) (base : Nat → Int) (s : List Int × List Int) (v : Int) : List Int × List Int :=
  if 0 < leftF base s.1 v.toNat then s else ((s.1 ++ [(as.getD (v.toNat - f) (0, 0)).1]) ++ [(as.getD (v.toNat - f) (0, 0)).2], s.2 ++ [v])
def freeS (f : Nat) (as : List (Int × Int)) (base : Nat → Int) (l : List Int) : List Int × List Int := l.reverse.foldl (freeStep f as base) ([], [])
def FreeR (g : AigD) (l : List Int) (node : Int) : List Int × Int :=
  if (ConeR g l node).2 = 0 then ((freeS (firstC g).toNat g.as (useF g node.toNat) (ConeR g l node).1).2.reverse, 0) else ([], (ConeR g l node).2)
theorem freeS_cons (f : Nat) (as : List (Int × Int)) (base : Nat → Int) (l : List Int) {j : Nat} {x : Int} (h : l[j]? = some x) :
    freeS f as base (l.drop j) = freeStep f as base (freeS f as base (l.drop (j + 1))) x := by
  obtain ⟨hj, rfl⟩ := List.getElem?_eq_some_iff.1 h
  unfold freeS
  rw [List.drop_eq_getElem_cons hj, List.reverse_cons, List.foldl_append]
  rfl
theorem freeS_len (f : Nat) (as : List (Int × Int)) (base : Nat → Int) (l : List Int) : (freeS f as base l).1.length ≤ 2 * l.length ∧ (freeS f as base l).2.length ≤ l.length := by
  induction l with
  | nil => simp [freeS]
  | cons x l ih =>
    have := freeS_cons f as base (x :: l) (j := 0) (x := x) rfl
    simp only [List.drop_zero, List.drop_succ_cons] at this
    rw [this]
    unfold freeStep
    split
    · simp only [List.length_cons]; omega
    · simp only [List.length_append, List.length_cons, List.length_nil]; omega
/-- What a cone bears: Ands, at most as many as there are. -/
theorem coneL_mem (f : Nat) (as : List (Int × Int)) (lv : List Int) : ∀ (v : Nat) (u : Nat → Bool) (out o : List Int), coneL f as lv v u out = some o →
    (∀ x ∈ o, x ∈ out ∨ ((f : Int) ≤ x ∧ x ≤ (v : Int))) ∧ o.length ≤ out.length + (v + 1 - f)
  | 0, u, out, o, h => by
    rw [coneL] at h; cases h
    exact ⟨fun x hx => .inl hx, by omega⟩
  | v + 1, u, out, o, h => by
    rw [coneL] at h
    split at h
    · obtain ⟨h1, h2⟩ := coneL_mem f as lv v _ _ _ h
      exact ⟨fun x hx => (h1 x hx).imp id fun h => ⟨h.1, by omega⟩, by omega⟩
    · split at h
      · cases h
      · obtain ⟨h1, h2⟩ := coneL_mem f as lv v _ _ _ h
        refine ⟨fun x hx => ?_, by simp at h2; omega⟩
        rcases h1 x hx with h | h
        · rw [List.mem_append, List.mem_singleton] at h
          rcases h with h | rfl
          · exact .inl h
          · exact .inr ⟨by omega, by omega⟩
        · exact .inr ⟨h.1, by omega⟩
theorem leafE_node {n node : Int} {l : List Int} (h : leafE n node l = 0) : 0 ≤ node ∧ node < n := by
  unfold leafE at h
  split at h
  · cases h
  · omega
theorem coneE_mem (f : Nat) (as : List (Int × Int)) (lv : List Int) (node : Int) : (∀ x ∈ (coneE f as lv node).1, (f : Int) ≤ x ∧ x < (f : Int) + as.length) ∧ (coneE f as lv node).1.length ≤ as.length := by
  unfold coneE
  split
  · rename_i h
    obtain ⟨h1, h2⟩ := leafE_node h
    unfold coneR
    split
    · simp
    · rename_i o ho
      obtain ⟨h3, h4⟩ := coneL_mem f as lv _ _ _ _ ho
      refine ⟨fun x hx => ?_, by simp at h4 ⊢; omega⟩
      rcases h3 x (by simpa using hx) with h | h
      · cases h
      · omega
  · simp
theorem coneE_node {f : Nat} {as : List (Int × Int)} {lv : List Int} {node : Int} (h : (coneE f as lv node).2 = 0) : 0 ≤ node ∧ node < (f : Int) + as.length := by
  unfold coneE at h
  split at h
  · rename_i h1; exact leafE_node h1
  · rename_i h1; exact absurd h h1
end Go.Cut

/- The plain law of the fanout-free cone (no program here). -/
set_option linter.unusedSimpArgs false
set_option linter.unusedVariables false
namespace Go.Cut
open Go.Abs
theorem coneL_desc (f : Nat) (as : List (Int × Int)) (lv : List Int) : ∀ (v : Nat) (u : Nat → Bool) (out o : List Int), coneL f as lv v u out = some o →
    ∃ o', o = out ++ o' ∧ o'.Pairwise (· > ·) ∧ ∀ x ∈ o', (f : Int) ≤ x ∧ x ≤ (v : Int)
  | 0, u, out, o, h => by
    rw [coneL] at h; cases h
    exact ⟨[], by simp, .nil, by simp⟩
  | v + 1, u, out, o, h => by
    rw [coneL] at h
    split at h
    · obtain ⟨o', h1, h2, h3⟩ := coneL_desc f as lv v _ _ _ h
      exact ⟨o', h1, h2, fun x hx => ⟨(h3 x hx).1, by have := (h3 x hx).2; omega⟩⟩
    · split at h
      · cases h
      · obtain ⟨o', h1, h2, h3⟩ := coneL_desc f as lv v _ _ _ h
        refine ⟨((v + 1 : Nat) : Int) :: o', by rw [h1, List.append_assoc]; rfl, .cons (fun x hx => ?_) h2, fun x hx => ?_⟩
        · have := (h3 x hx).2; show x < _; omega
        · rcases List.mem_cons.1 hx with rfl | hx
          · exact ⟨by omega, Int.le_refl _⟩
          · exact ⟨(h3 x hx).1, by have := (h3 x hx).2; omega⟩
theorem coneL_none (f : Nat) (as : List (Int × Int)) (lv : List Int) : ∀ (v : Nat) (u : Nat → Bool) (out : List Int), (∀ k, k ≤ v → u k = false) → coneL f as lv v u out = some out
  | 0, u, out, _ => by rw [coneL]
  | v + 1, u, out, h => by
    rw [coneL, if_pos (.inl (h _ (Nat.le_refl _)))]
    exact coneL_none f as lv v u out fun k hk => h k (by omega)
/-- The cone of a node that is no leaf begins (in the descent) with the node. -/
theorem coneL_head (f : Nat) (as : List (Int × Int)) (lv : List Int) {m : Nat} {o : List Int} (hm : 0 < m) (hl : (m : Int) ∉ lv) (h : coneL f as lv m (fun k => k == m) [] = some o) : ∃ o', o = (m : Int) :: o' := by
  obtain ⟨v, rfl⟩ : ∃ v, m = v + 1 := ⟨m - 1, by omega⟩
  rw [coneL, if_neg (by rintro (h | h)
                        · simp at h
                        · exact hl h)] at h
  split at h
  · cases h
  · obtain ⟨o', h1, _⟩ := coneL_desc f as lv v _ _ _ h
    exact ⟨o', by simpa using h1⟩
def opsF (f : Nat) (as : List (Int × Int)) (v : Int) : List Int := [(as.getD (v.toNat - f) (0, 0)).1, (as.getD (v.toNat - f) (0, 0)).2]
theorem cntF_append (p q : List Int) (k : Nat) : cntF (p ++ q) k = cntF p k + cntF q k := List.countP_append
theorem cntF_rev (f : Nat) (as : List (Int × Int)) (k : Nat) (l : List Int) : cntF (l.reverse.flatMap (opsF f as)) k = cntF (l.flatMap (opsF f as)) k := by
  induction l with
  | nil => rfl
  | cons x l ih =>
    simp only [List.reverse_cons, List.flatMap_append, List.flatMap_cons, List.flatMap_nil, List.append_nil, cntF_append, ih]
    omega
/-- The operands of an And lie below it. -/
def Below (f : Nat) (as : List (Int × Int)) : Prop := ∀ (v : Int), (f : Int) ≤ v → v < (f : Int) + as.length → ∀ x ∈ opsF f as v, 0 ≤ x ∧ x < 2 * v
theorem below_of {f : Nat} {as : List (Int × Int)} (h : chkA f as = true) : Below f as := by
  intro v h1 h2 x hx
  obtain ⟨j, rfl⟩ : ∃ j : Nat, v = (f : Int) + j := ⟨(v - f).toNat, by omega⟩
  have hj : j < as.length := by omega
  have he : ((f : Int) + (j : Int)).toNat - f = j := by omega
  obtain ⟨b1, b2, b3, b4⟩ := chkA_get h hj
  unfold opsF at hx
  rw [he, List.getD_eq_getElem?_getD, List.getElem?_eq_getElem hj] at hx
  simp only [Option.getD_some, List.mem_cons, List.not_mem_nil, or_false] at hx
  rcases hx with rfl | rfl
  · exact ⟨b1, b2⟩
  · exact ⟨b3, b4⟩
theorem ops_no {f : Nat} {as : List (Int × Int)} (h : Below f as) {v : Int} (h1 : (f : Int) ≤ v) (h2 : v < (f : Int) + as.length) {n : Nat} (hn : v ≤ n) : cntF (opsF f as v) n = 0 := by
  unfold cntF
  rw [List.countP_eq_zero]
  intro x hx
  have := h v h1 h2 x hx
  simp
  omega
/-- What the descent has done: the removed literals are the operands of the nodes taken; a node was taken iff nothing is left of its uses. -/
theorem freeS_law {f : Nat} {as : List (Int × Int)} (hB : Below f as) (base : Nat → Int) : ∀ (l : List Int), l.Pairwise (· < ·) → (∀ x ∈ l, (f : Int) ≤ x ∧ x < (f : Int) + as.length) →
    (freeS f as base l).1 = (freeS f as base l).2.flatMap (opsF f as) ∧ (freeS f as base l).2.Sublist l.reverse ∧ ∀ n : Nat, (n : Int) ∈ l → ((n : Int) ∈ (freeS f as base l).2 ↔ leftF base (freeS f as base l).1 n ≤ 0)
  | [], _, _ => ⟨rfl, .slnil, by simp⟩
  | x :: l, hp, hm => by
    obtain ⟨hx, hp⟩ := List.pairwise_cons.1 hp
    obtain ⟨i1, i2, i3⟩ := freeS_law hB base l hp fun y hy => hm y (List.mem_cons_of_mem _ hy)
    have hs := freeS_cons f as base (x :: l) (j := 0) (x := x) rfl
    simp only [List.drop_zero, List.drop_succ_cons] at hs
    rw [hs]
    obtain ⟨hx1, hx2⟩ := hm x (List.mem_cons_self ..)
    obtain ⟨w, rfl⟩ : ∃ w : Nat, x = w := ⟨x.toNat, by omega⟩
    have hnot : (w : Int) ∉ (freeS f as base l).2 := fun h => by
      have := hx _ (List.mem_reverse.1 (i2.subset h))
      omega
    unfold freeStep
    rw [Int.toNat_natCast]
    by_cases hc : 0 < leftF base (freeS f as base l).1 w
    · rw [if_pos hc]
      refine ⟨i1, i2.trans (by rw [List.reverse_cons]; exact List.sublist_append_left ..), fun n hn => ?_⟩
      rcases List.mem_cons.1 hn with h | h
      · have : n = w := by omega
        subst this
        exact ⟨fun h => absurd h hnot, fun h => by omega⟩
      · exact i3 n h
    · rw [if_neg hc]
      have hops : ((freeS f as base l).1 ++ [(as.getD (w - f) (0, 0)).1]) ++ [(as.getD (w - f) (0, 0)).2] = (freeS f as base l).1 ++ opsF f as w := by
        rw [List.append_assoc]; rfl
      rw [hops]
      have hleft : ∀ n : Nat, (w : Int) ≤ n → leftF base ((freeS f as base l).1 ++ opsF f as w) n = leftF base (freeS f as base l).1 n := fun n hn => by
        unfold leftF
        rw [cntF_append, ops_no hB hx1 hx2 hn]; rfl
      refine ⟨by rw [List.flatMap_append, ← i1]; simp, by rw [List.reverse_cons]; exact i2.append (List.Sublist.refl _), fun n hn => ?_⟩
      dsimp only
      rw [List.mem_append, List.mem_singleton]
      rcases List.mem_cons.1 hn with h | h
      · have : n = w := by omega
        subst this
        rw [hleft _ (Int.le_refl _)]
        exact ⟨fun _ => by omega, fun _ => .inr rfl⟩
      · have := hx _ h
        rw [hleft _ (by omega), ← i3 n h]
        exact ⟨fun h => h.resolve_right (by omega), .inl⟩
theorem andLits_take_succ {as : List (Int × Int)} {j : Nat} (hj : j < as.length) (k : Nat) (f : Nat) : cntF (andLits (as.take (j + 1))) k = cntF (andLits (as.take j)) k + cntF (opsF f as ((f : Int) + j)) k := by
  have he : ((f : Int) + (j : Int)).toNat - f = j := by omega
  rw [take_snoc _ hj]
  unfold andLits opsF
  rw [List.flatMap_append, cntF_append, he, List.getD_eq_getElem?_getD, List.getElem?_eq_getElem hj]
  simp
theorem andLits_mono (as : List (Int × Int)) (k : Nat) {i j : Nat} (h : i ≤ j) : cntF (andLits (as.take i)) k ≤ cntF (andLits (as.take j)) k := by
  have : as.take i = (as.take j).take i := by rw [List.take_take, Nat.min_eq_left h]
  have h2 : as.take j = as.take i ++ (as.take j).drop i := by rw [this, List.take_append_drop]
  rw [h2, show andLits (as.take i ++ (as.take j).drop i) = andLits (as.take i) ++ andLits ((as.take j).drop i) from List.flatMap_append, cntF_append]
  omega
/-- The operands of distinct Ands count at most as often as all Ands' do. -/
theorem ops_le {f : Nat} {as : List (Int × Int)} (k : Nat) : ∀ (l : List Int) (b : Nat), l.Pairwise (· > ·) → (∀ x ∈ l, (f : Int) ≤ x ∧ x < (f : Int) + b) → b ≤ as.length →
    cntF (l.flatMap (opsF f as)) k ≤ cntF (andLits (as.take b)) k
  | [], b, _, _, _ => by simp [cntF]
  | x :: l, b, hp, hm, hb => by
    obtain ⟨hx, hp2⟩ := List.pairwise_cons.1 hp
    obtain ⟨h1, h2⟩ := hm x (List.mem_cons_self ..)
    obtain ⟨j, rfl⟩ : ∃ j : Nat, x = (f : Int) + j := ⟨(x - f).toNat, by omega⟩
    have ih := ops_le (f := f) (as := as) k l j hp2 (fun y hy => ⟨(hm y (List.mem_cons_of_mem _ hy)).1, by have := hx y hy; omega⟩) (by omega)
    have hs := andLits_take_succ (as := as) (j := j) (by omega) k f
    have hmo := andLits_mono as k (i := j + 1) (j := b) (by omega)
    rw [List.flatMap_cons, cntF_append]
    omega
end Go.Cut

/- The plain law of the fanout-free cone, put together (no program here). -/
set_option linter.unusedSimpArgs false
set_option linter.unusedVariables false
namespace Go.Cut
open Go.Abs
theorem free_law {g : AigD} {l : List Int} {node : Int} (hf : Few g) (hc : chkE g = 0) (he : (ConeR g l node).2 = 0) :
    ∃ m : Nat, node = m ∧ (FreeR g l node).2 = 0 ∧ (m : Int) < sizeC g ∧
      (((ConeR g l node).1 = [] ∧ (FreeR g l node).1 = [] ∧ (node < firstC g ∨ node ∈ l)) ∨
       ((ConeR g l node).1 ≠ [] ∧ (FreeR g l node).1 ≠ [] ∧ node ∈ (FreeR g l node).1 ∧ (∀ x ∈ (FreeR g l node).1, x ∈ (ConeR g l node).1) ∧ (∀ x ∈ (ConeR g l node).1, firstC g ≤ x ∧ x < sizeC g) ∧
        ∀ n : Nat, (n : Int) ∈ (ConeR g l node).1 → n ≠ m → ((n : Int) ∈ (FreeR g l node).1 ↔ cntF ((FreeR g l node).1.flatMap (opsF (firstC g).toNat g.as)) n = cntF (allLits g) n))) := by
  have hV := valid_of hc
  have hinp := hV.inp
  obtain ⟨f, hfd⟩ : ∃ f, f = (firstC g).toNat := ⟨_, rfl⟩
  have hff : firstC g = (f : Int) := by unfold firstC at hfd ⊢; omega
  have hfpos : 0 < f := by unfold firstC at hff; omega
  have hsz : sizeC g = (f : Int) + g.as.length := by unfold sizeC; rw [hff]
  have hR : ConeR g l node = coneE f g.as l node := by simp [ConeR, hc, hfd]
  have hF : FreeR g l node = ((freeS f g.as (useF g node.toNat) (coneE f g.as l node).1).2.reverse, 0) := by unfold FreeR; rw [if_pos he, hR, ← hfd]
  rw [hR] at he
  rw [hR, hF, ← hfd, hff, hsz]
  obtain ⟨hn0, hn1⟩ := coneE_node he
  obtain ⟨m, rfl⟩ : ∃ m : Nat, node = m := ⟨node.toNat, by omega⟩
  refine ⟨m, rfl, rfl, hn1, ?_⟩
  have hmem := (coneE_mem f g.as l m).1
  have hchk : chkA f g.as = true := by have := hV.ands; rwa [hff] at this
  obtain ⟨out, ho, hcl⟩ : ∃ out, coneL f g.as l m (fun k => k == m) [] = some out ∧ (coneE f g.as l m).1 = out.reverse := by
    unfold coneE at he ⊢
    split at he
    · rename_i h
      rw [if_pos h]
      unfold coneR at he ⊢
      rw [Int.toNat_natCast] at he ⊢
      split at he
      · cases he
      · rename_i o ho
        exact ⟨o, ho, rfl⟩
    · rename_i h; exact absurd he h
  rw [hcl] at hmem ⊢
  rw [Int.toNat_natCast]
  have hempty : ((m : Int) < f ∨ (m : Int) ∈ l) → out = [] → (out.reverse = [] ∧ (freeS f g.as (useF g m) out.reverse).2.reverse = [] ∧ ((m : Int) < f ∨ (m : Int) ∈ l)) := fun h h2 => by
    subst h2
    exact ⟨rfl, rfl, h⟩
  by_cases h0 : m = 0
  · subst h0
    rw [coneL] at ho
    exact .inl (hempty (.inl (by omega)) (Option.some.inj ho).symm)
  by_cases hml : (m : Int) ∈ l
  · obtain ⟨v, rfl⟩ : ∃ v, m = v + 1 := ⟨m - 1, by omega⟩
    rw [coneL, if_pos (.inr hml), coneL_none _ _ _ _ _ _ (fun k hk => by simp; omega)] at ho
    exact .inl (hempty (.inr hml) (Option.some.inj ho).symm)
  obtain ⟨o', rfl⟩ := coneL_head f g.as l (by omega) hml ho
  obtain ⟨o2, h1, h2, h3⟩ := coneL_desc f g.as l _ _ _ _ ho
  rw [List.nil_append] at h1
  rw [← h1] at h2
  obtain ⟨cl, hcld⟩ : ∃ cl, cl = ((m : Int) :: o').reverse := ⟨_, rfl⟩
  have hasc : cl.Pairwise (· < ·) := by rw [hcld]; exact List.pairwise_reverse.2 h2
  have hmcl : (m : Int) ∈ cl := by rw [hcld]; simp
  rw [← hcld] at hmem ⊢
  obtain ⟨i1, i2, i3⟩ := freeS_law (below_of hchk) (useF g m) cl hasc hmem
  have hm0 : (m : Int) ∈ (freeS f g.as (useF g m) cl).2 := (i3 m hmcl).2 (by unfold leftF useF; rw [if_pos rfl]; omega)
  have hne1 : cl ≠ [] := fun h => by rw [h] at hmcl; cases hmcl
  have hne2 : (freeS f g.as (useF g m) cl).2.reverse ≠ [] := fun h => by
    rw [List.reverse_eq_nil_iff] at h
    rw [h] at hm0; cases hm0
  refine .inr ⟨hne1, hne2, List.mem_reverse.2 hm0, fun x hx => List.mem_reverse.1 (i2.subset (List.mem_reverse.1 hx)), hmem, fun n hn hnm => ?_⟩
  rw [List.mem_reverse, i3 n hn, cntF_rev, ← i1]
  have hle := ops_le (f := f) (as := g.as) n (freeS f g.as (useF g m) cl).2 g.as.length ((List.pairwise_reverse.2 (by simpa using hasc)).sublist i2) (fun x hx => hmem x (List.mem_reverse.1 (i2.subset hx))) (Nat.le_refl _)
  rw [← i1, List.take_length] at hle
  have hall : cntF (andLits g.as) n ≤ cntF (allLits g) n := by unfold allLits; rw [cntF_append, cntF_append]; omega
  have hu : useF g m n = (cntF (allLits g) n : Int) := by unfold useF; rw [if_neg hnm]
  unfold leftF
  rw [hu]
  omega
end Go.Cut
