/- Joined texts of the layer and of the walks. -/
import Derived.Test.YtfialjllclclkaaFmArgs2
import Derived.IntWalk
set_option linter.unusedSimpArgs false
set_option linter.unusedVariables false
namespace Go.Cut
open Go.Abs
structure AigD where
  inp : Int
  ls : List (Int × Int)
  as : List (Int × Int)
  os : List Int
def ints (l : List Int) : List Value := l.map (Value.int .i64 ·)
def AigAt (σ : AHeap) (v : Value) (g : AigD) : Prop :=
  ∃ lv av ov, v = .agg #[.int .i64 g.inp, lv, av, ov] ∧ RowsAt σ 2 lv (pairsV .i64 .u8 g.ls) ∧ RowsAt σ 2 av (pairsV .i64 .i64 g.as) ∧ SlAt σ ov (ints g.os)
theorem AigAt.mono {σ σ' : AHeap} {v : Value} {g : AigD} (h : AigAt σ v g) (hl : σ.le σ') : AigAt σ' v g := by
  obtain ⟨lv, av, ov, h1, h2, h3, h4⟩ := h
  exact ⟨lv, av, ov, h1, h2.mono hl, h3.mono hl, h4.mono hl⟩
theorem AigAt.opn {σ : AHeap} {v : Value} {g : AigD} (h : AigAt σ v g) : ∃ lb lc ab ac ob oc, v = .agg #[.int .i64 g.inp, .slice lb g.ls.length lc, .slice ab g.as.length ac, .slice ob g.os.length oc] ∧
    RowsAt σ 2 (.slice lb g.ls.length lc) (pairsV .i64 .u8 g.ls) ∧ RowsAt σ 2 (.slice ab g.as.length ac) (pairsV .i64 .i64 g.as) ∧ SlAt σ (.slice ob g.os.length oc) (ints g.os) := by
  obtain ⟨lv, av, ov, rfl, hl, ha, ho⟩ := h
  obtain ⟨lb, lc, rfl⟩ := hl.len
  obtain ⟨ab, ac, rfl⟩ := ha.len
  obtain ⟨ob, oc, rfl⟩ := ho.len
  have e1 : (pairsV .i64 .u8 g.ls).length = g.ls.length := by simp [pairsV]
  have e2 : (pairsV .i64 .i64 g.as).length = g.as.length := by simp [pairsV]
  have e3 : (ints g.os).length = g.os.length := by simp [ints]
  rw [e1] at hl ⊢
  rw [e2] at ha ⊢
  rw [e3] at ho ⊢
  exact ⟨lb, lc, ab, ac, ob, oc, rfl, hl, ha, ho⟩
structure Few (g : AigD) : Prop where
  ls : g.ls.length ≤ 64
  as : g.as.length ≤ 200
  os : g.os.length ≤ 64
def firstC (g : AigD) : Int := 1 + g.inp + g.ls.length
def sizeC (g : AigD) : Int := firstC g + g.as.length
def inR (x n : Int) : Bool := decide (0 ≤ x) && decide (x < 2 * n)
def chkA : Int → List (Int × Int) → Bool
  | _, [] => true
  | n, x :: l => (inR x.1 n && inR x.2 n) && chkA (n + 1) l
def chkL (n : Int) (l : List (Int × Int)) : Bool := l.all fun x => inR x.1 n && decide (x.2 ≤ 1)
def chkO (n : Int) (l : List Int) : Bool := l.all fun x => inR x n
def chkE (g : AigD) : Int :=
  if g.inp < 0 then 1 else if 4096 < g.inp ∨ 4096 < sizeC g ∨ 4096 < (g.os.length : Int) then 5
  else if (chkA (firstC g) g.as && (chkL (sizeC g) g.ls && chkO (sizeC g) g.os)) = true then 0 else 1
def openF (g : AigD) : Int := IntKind.i64.wrap (IntKind.i64.wrap (1 + g.inp) + g.ls.length)
def graphV (lb : Option Addr) (lc : Nat) (ab : Option Addr) (ac : Nat) (ob : Option Addr) (oc : Nat) (g : AigD) (f : Int) : Value :=
  .agg #[.int .i64 g.inp, .slice lb g.ls.length lc, .slice ab g.as.length ac, .slice ob g.os.length oc, .int .i64 f]
def lfGo (n : Int) : Int → List Int → Int
  | _, [] => 0
  | last, v :: l => if v ≤ last ∨ n ≤ v then 1 else lfGo n v l
def leafE (n node : Int) (l : List Int) : Int := if node < 0 ∨ n ≤ node then 1 else if 4 < (l.length : Int) then 5 else lfGo n 0 l
def coneL (f : Nat) (as : List (Int × Int)) (lv : List Int) : Nat → (Nat → Bool) → List Int → Option (List Int)
  | 0, _, out => some out
  | v + 1, u, out =>
    if u (v + 1) = false ∨ ((v + 1 : Nat) : Int) ∈ lv then coneL f as lv v u out
    else if v + 1 < f then none
    else coneL f as lv v (fun k => u k || (k == (as.getD (v + 1 - f) (0, 0)).1.toNat / 2 || k == (as.getD (v + 1 - f) (0, 0)).2.toNat / 2)) (out ++ [((v + 1 : Nat) : Int)])
def coneR (f : Nat) (as : List (Int × Int)) (lv : List Int) (node : Nat) : List Int × Int :=
  match coneL f as lv node (fun k => k == node) [] with
  | none => ([], 8)
  | some out => (out.reverse, 0)
def coneE (f : Nat) (as : List (Int × Int)) (lv : List Int) (node : Int) : List Int × Int :=
  if leafE ((f : Int) + as.length) node lv = 0 then coneR f as lv node.toNat else ([], leafE ((f : Int) + as.length) node lv)
def bools (u : Nat → Bool) (n : Nat) : List Value := (List.range n).map fun k => .bool (u k)
theorem bools_len (u : Nat → Bool) (n : Nat) : (bools u n).length = n := by simp [bools]
theorem bools_get (u : Nat → Bool) {n k : Nat} (h : k < n) : (bools u n)[k]? = some (.bool (u k)) := by simp [bools, h]
theorem bools_set (u : Nat → Bool) (n k : Nat) : (bools u n).set k (.bool true) = bools (fun j => u j || j == k) n := by
  apply List.ext_getElem?
  intro j
  by_cases hj : j < n
  · rw [bools_get _ hj, List.getElem?_set]
    by_cases e : k = j
    · subst e; simp [bools_len, hj]
    · rw [if_neg e, bools_get _ hj]
      have : (j == k) = false := by simp; omega
      simp [this]
  · rw [List.getElem?_eq_none (by rw [List.length_set, bools_len]; omega), List.getElem?_eq_none (by rw [bools_len]; omega)]
theorem bools_flat (u : Nat → Bool) (n : Nat) : (bools u n).all flat = true := by simp [bools, flat, flat0]
theorem bools_zero (n : Nat) : zerosA (spread (.bool false)) (n * 1) = bools (fun _ => false) n := by
  apply List.ext_getElem?
  intro j
  simp [zerosA, spread, bools, Nat.mod_one]
def ConeR (g : AigD) (l : List Int) (node : Int) : List Int × Int := if chkE g = 0 then coneE (firstC g).toNat g.as l node else ([], chkE g)
structure Valid (g : AigD) : Prop where
  inp : 0 ≤ g.inp
  size : sizeC g ≤ 4096
  ands : chkA (firstC g) g.as = true
  latches : chkL (sizeC g) g.ls = true
  outs : chkO (sizeC g) g.os = true
theorem valid_of {g : AigD} (h : chkE g = 0) : Valid g := by
  unfold chkE at h
  split at h
  · cases h
  · split at h
    · cases h
    · split at h
      · rename_i h1 h2 h3
        simp only [Bool.and_eq_true] at h3
        exact ⟨by omega, by omega, h3.1, h3.2.1, h3.2.2⟩
      · cases h
theorem openF_valid {g : AigD} (h : Valid g) (hf : Few g) : openF g = firstC g := by
  have h1 := h.inp
  have h2 := h.size
  have h3 := hf.ls
  unfold sizeC firstC at h2
  unfold openF firstC
  rw [IntWalk.i64_in (1 + g.inp) (by omega), IntWalk.i64_in _ (by omega)]
def nums (c : Nat → Nat) (n : Nat) : List Value := (List.range n).map fun k => .int .i64 (c k : Nat)
theorem nums_len (c : Nat → Nat) (n : Nat) : (nums c n).length = n := by simp [nums]
theorem nums_get (c : Nat → Nat) {n k : Nat} (h : k < n) : (nums c n)[k]? = some (.int .i64 (c k : Nat)) := by simp [nums, h]
theorem nums_zero (n : Nat) : zerosA (spread (.int .i64 0)) (n * 1) = nums (fun _ => 0) n := by
  apply List.ext_getElem?
  intro j
  simp [zerosA, spread, nums, Nat.mod_one]
def cntF (p : List Int) (k : Nat) : Nat := p.countP fun x => x.toNat / 2 == k
theorem cntF_le (p : List Int) (k : Nat) : cntF p k ≤ p.length := List.countP_le_length
theorem cntF_snoc (p : List Int) (x : Int) (k : Nat) : cntF (p ++ [x]) k = cntF p k + (if x.toNat / 2 = k then 1 else 0) := by
  simp [cntF, List.countP_append, List.countP_cons]
theorem nums_bump (p : List Int) (x : Int) (n : Nat) : (nums (cntF p) n).set (x.toNat / 2) (.int .i64 ((cntF p (x.toNat / 2) : Nat) + 1 : Int)) = nums (cntF (p ++ [x])) n := by
  apply List.ext_getElem?
  intro j
  by_cases hj : j < n
  · rw [nums_get _ hj, List.getElem?_set, cntF_snoc]
    by_cases e : x.toNat / 2 = j
    · subst e; simp [nums_len, hj]
    · rw [if_neg e, if_neg e, nums_get _ hj]; rfl
  · rw [List.getElem?_eq_none (by rw [List.length_set, nums_len]; omega), List.getElem?_eq_none (by rw [nums_len]; omega)]
def andLits (l : List (Int × Int)) : List Int := l.flatMap fun x => [x.1, x.2]
theorem andLits_len (l : List (Int × Int)) : (andLits l).length = 2 * l.length := by
  induction l with
  | nil => rfl
  | cons x l ih => simp [andLits] at ih ⊢; omega
def allLits (g : AigD) : List Int := andLits g.as ++ g.ls.map (·.1) ++ g.os
theorem take_snoc {α : Type} (l : List α) {j : Nat} (h : j < l.length) : l.take (j + 1) = l.take j ++ [l[j]] := by
  rw [List.take_add_one, List.getElem?_eq_getElem h]; rfl
theorem chkL_get {n : Int} {l : List (Int × Int)} (h : chkL n l = true) {j : Nat} (hj : j < l.length) : 0 ≤ l[j].1 ∧ l[j].1 < 2 * n := by
  have := List.all_eq_true.1 h _ (List.getElem_mem hj)
  simp only [inR, Bool.and_eq_true, decide_eq_true_eq] at this
  exact this.1
theorem chkO_get {n : Int} {l : List Int} (h : chkO n l = true) {j : Nat} (hj : j < l.length) : 0 ≤ l[j] ∧ l[j] < 2 * n := by
  have := List.all_eq_true.1 h _ (List.getElem_mem hj)
  simpa only [inR, Bool.and_eq_true, decide_eq_true_eq] using this
theorem chkA_get : ∀ {n : Int} {l : List (Int × Int)}, chkA n l = true → ∀ {j : Nat} (hj : j < l.length), 0 ≤ l[j].1 ∧ l[j].1 < 2 * (n + j) ∧ 0 ≤ l[j].2 ∧ l[j].2 < 2 * (n + j)
  | n, x :: l, h, 0, hj => by
    simp only [chkA, inR, Bool.and_eq_true, decide_eq_true_eq] at h
    simp only [List.getElem_cons_zero]
    omega
  | n, x :: l, h, j + 1, hj => by
    simp only [chkA, Bool.and_eq_true] at h
    have := chkA_get h.2 (j := j) (by simpa using hj)
    simp only [List.getElem_cons_succ]
    omega
end Go.Cut

set_option linter.unusedSimpArgs false
set_option linter.unusedVariables false
namespace Go.Cut
open Go.Abs
def intsF (c : Nat → Int) (n : Nat) : List Value := (List.range n).map fun k => .int .i64 (c k)
theorem intsF_len (c : Nat → Int) (n : Nat) : (intsF c n).length = n := by simp [intsF]
theorem intsF_get (c : Nat → Int) {n k : Nat} (h : k < n) : (intsF c n)[k]? = some (.int .i64 (c k)) := by simp [intsF, h]
theorem nums_put (c : Nat → Nat) (n m : Nat) : (nums c n).set m (.int .i64 0) = intsF (fun k => if k = m then 0 else (c k : Int)) n := by
  apply List.ext_getElem?
  intro j
  by_cases hj : j < n
  · rw [intsF_get _ hj, List.getElem?_set]
    by_cases e : m = j
    · subst e; simp [nums_len, hj]
    · rw [if_neg e, if_neg (fun h => e h.symm), nums_get _ hj]
  · rw [List.getElem?_eq_none (by rw [List.length_set, nums_len]; omega), List.getElem?_eq_none (by rw [intsF_len]; omega)]
def useF (g : AigD) (m : Nat) (k : Nat) : Int := if k = m then 0 else (cntF (allLits g) k : Int)
def leftF (base : Nat → Int) (rm : List Int) (k : Nat) : Int := base k - (cntF rm k : Int)
theorem left_drop (base : Nat → Int) (rm : List Int) (x : Int) (n : Nat) : (intsF (leftF base rm) n).set (x.toNat / 2) (.int .i64 (leftF base rm (x.toNat / 2) - 1)) = intsF (leftF base (rm ++ [x])) n := by
  apply List.ext_getElem?
  intro j
  by_cases hj : j < n
  · rw [intsF_get _ hj, List.getElem?_set]
    unfold leftF
    rw [cntF_snoc]
    by_cases e : x.toNat / 2 = j
    · subst e; simp [intsF_len, hj]; omega
    · rw [if_neg e, if_neg e, intsF_get _ hj]; rfl
  · rw [List.getElem?_eq_none (by rw [List.length_set, intsF_len]; omega), List.getElem?_eq_none (by rw [intsF_len]; omega)]
def freeStep (f : Nat) (as : List (Int × Int)) (base : Nat → Int) (s : List Int × List Int) (v : Int) : List Int × List Int :=
  if 0 < leftF base s.1 v.toNat then s else ((s.1 ++ [(as.getD (v.toNat - f) (0, 0)).1]) ++ [(as.getD (v.toNat - f) (0, 0)).2], s.2 ++ [v])
def freeS (f : Nat) (as : List (Int × Int)) (base : Nat → Int) (l : List Int) : List Int × List Int := l.reverse.foldl (freeStep f as base) ([], [])
def FreeR (g : AigD) (l : List Int) (node : Int) : List Int × Int :=
  if (ConeR g l node).2 = 0 then ((freeS (firstC g).toNat g.as (useF g node.toNat) (ConeR g l node).1).2.reverse, 0) else ([], (ConeR g l node).2)
theorem freeS_cons (f : Nat) (as : List (Int × Int)) (base : Nat → Int) (l : List Int) {j : Nat} {x : Int} (h : l[j]? = some x) :
    freeS f as base (l.drop j) = freeStep f as base (freeS f as base (l.drop (j + 1))) x := by
  obtain ⟨hj, rfl⟩ := List.getElem?_eq_some_iff.1 h
  unfold freeS
  rw [List.drop_eq_getElem_cons hj, List.reverse_cons, List.foldl_append]
  rfl
theorem freeS_len (f : Nat) (as : List (Int × Int)) (base : Nat → Int) (l : List Int) : (freeS f as base l).1.length ≤ 2 * l.length ∧ (freeS f as base l).2.length ≤ l.length := by
  induction l with
  | nil => simp [freeS]
  | cons x l ih =>
    have := freeS_cons f as base (x :: l) (j := 0) (x := x) rfl
    simp only [List.drop_zero, List.drop_succ_cons] at this
    rw [this]
    unfold freeStep
    split
    · simp only [List.length_cons]; omega
    · simp only [List.length_append, List.length_cons, List.length_nil]; omega
theorem coneL_mem (f : Nat) (as : List (Int × Int)) (lv : List Int) : ∀ (v : Nat) (u : Nat → Bool) (out o : List Int), coneL f as lv v u out = some o →
    (∀ x ∈ o, x ∈ out ∨ ((f : Int) ≤ x ∧ x ≤ (v : Int))) ∧ o.length ≤ out.length + (v + 1 - f)
  | 0, u, out, o, h => by
    rw [coneL] at h; cases h
    exact ⟨fun x hx => .inl hx, by omega⟩
  | v + 1, u, out, o, h => by
    rw [coneL] at h
    split at h
    · obtain ⟨h1, h2⟩ := coneL_mem f as lv v _ _ _ h
      exact ⟨fun x hx => (h1 x hx).imp id fun h => ⟨h.1, by omega⟩, by omega⟩
    · split at h
      · cases h
      · obtain ⟨h1, h2⟩ := coneL_mem f as lv v _ _ _ h
        refine ⟨fun x hx => ?_, by simp at h2; omega⟩
        rcases h1 x hx with h | h
        · rw [List.mem_append, List.mem_singleton] at h
          rcases h with h | rfl
          · exact .inl h
          · exact .inr ⟨by omega, by omega⟩
        · exact .inr ⟨h.1, by omega⟩
theorem leafE_node {n node : Int} {l : List Int} (h : leafE n node l = 0) : 0 ≤ node ∧ node < n := by
  unfold leafE at h
  split at h
  · cases h
  · omega
theorem coneE_mem (f : Nat) (as : List (Int × Int)) (lv : List Int) (node : Int) : (∀ x ∈ (coneE f as lv node).1, (f : Int) ≤ x ∧ x < (f : Int) + as.length) ∧ (coneE f as lv node).1.length ≤ as.length := by
  unfold coneE
  split
  · rename_i h
    obtain ⟨h1, h2⟩ := leafE_node h
    unfold coneR
    split
    · simp
    · rename_i o ho
      obtain ⟨h3, h4⟩ := coneL_mem f as lv _ _ _ _ ho
      refine ⟨fun x hx => ?_, by simp at h4 ⊢; omega⟩
      rcases h3 x (by simpa using hx) with h | h
      · cases h
      · omega
  · simp
theorem coneE_node {f : Nat} {as : List (Int × Int)} {lv : List Int} {node : Int} (h : (coneE f as lv node).2 = 0) : 0 ≤ node ∧ node < (f : Int) + as.length := by
  unfold coneE at h
  split at h
  · rename_i h1; exact leafE_node h1
  · rename_i h1; exact absurd h h1
end Go.Cut

set_option linter.unusedSimpArgs false
set_option linter.unusedVariables false
namespace Go.Tab
def lim (m : Int) : Nat := if m ≤ 0 then 0 else if 6 < m then 6 else m.toNat
theorem lim_le (m : Int) : lim m ≤ 6 := by unfold lim; split <;> (try split) <;> omega
def maskT (m : Nat) : BitVec 64 := BitVec.ofNat 64 (2 ^ (2 ^ m) - 1)
def varT : Nat → BitVec 64
  | 0 => 12297829382473034410#64
  | 1 => 14757395258967641292#64
  | 2 => 17361641481138401520#64
  | 3 => 18374966859414961920#64
  | 4 => 18446462603027742720#64
  | 5 => 18446744069414584320#64
  | _ => 0#64
def cofR (t : BitVec 64) (n i : Int) (v : Bool) : BitVec 64 :=
  let t := t &&& maskT (lim n)
  if i < 0 ∨ (lim n : Int) ≤ i then t
  else if v then (t &&& varT i.toNat) ||| ((t &&& varT i.toNat) >>> (2 ^ i.toNat))
  else (t &&& ~~~ varT i.toNat) ||| ((t &&& ~~~ varT i.toNat) <<< (2 ^ i.toNat))
def varR (i n : Int) : BitVec 64 := if i < 0 ∨ (lim n : Int) ≤ i then 0#64 else varT i.toNat &&& maskT (lim n)
theorem mask_shr : ∀ m, m ≤ 6 → BitVec.ofInt 64 18446744073709551615 >>> (BitVec.ofInt 64 (64 - ((1#64 <<< m).toNat : Int))).toNat = maskT m
  | 0, _ | 1, _ | 2, _ | 3, _ | 4, _ | 5, _ | 6, _ => by decide
  | m + 7, h => by omega
theorem lim_if (m : Int) : (if 6 < (if 0 > m then 0 else m) then (6 : Int) else (if 0 > m then 0 else m)) = (lim m : Int) := by
  unfold lim; split <;> split <;> (try split) <;> omega
end Go.Tab

set_option linter.unusedSimpArgs false
set_option linter.unusedVariables false
namespace Go.Tab

def setb (k i : Nat) (v : Bool) : Nat := if v = true then k ||| 2 ^ i else (k ||| 2 ^ i) ^^^ 2 ^ i

theorem setb_testBit (k i j : Nat) (v : Bool) : (setb k i v).testBit j = if j = i then v else k.testBit j := by
  unfold setb
  by_cases h : j = i
  · subst h; cases v <;> simp [Nat.testBit_two_pow_self]
  · have h' : i ≠ j := fun e => h e.symm
    cases v <;> simp [h, h', Nat.testBit_two_pow]
theorem setb_self {k i : Nat} {v : Bool} (h : k.testBit i = v) : setb k i v = k :=
  Nat.eq_of_testBit_eq fun j => by rw [setb_testBit]; split <;> simp_all
theorem setb_set (k i : Nat) (v w : Bool) : setb (setb k i v) i w = setb k i w :=
  Nat.eq_of_testBit_eq fun j => by simp only [setb_testBit]; split <;> rfl
theorem setb_comm (k : Nat) {i j : Nat} (h : i ≠ j) (v w : Bool) : setb (setb k i v) j w = setb (setb k j w) i v :=
  Nat.eq_of_testBit_eq fun x => by
    simp only [setb_testBit]
    by_cases h1 : x = i
    · subst h1; simp [h]
    · simp [h1]
theorem setb_lt {k i n : Nat} (v : Bool) (hk : k < 2 ^ n) (hi : i < n) : setb k i v < 2 ^ n :=
  Nat.lt_pow_two_of_testBit _ fun j hj => by
    rw [setb_testBit, if_neg (by omega)]
    exact Nat.testBit_lt_two_pow (Nat.lt_of_lt_of_le hk (Nat.pow_le_pow_right (by omega) hj))
theorem two_pow_le6 {n : Nat} (h : n ≤ 6) : 2 ^ n ≤ 64 := by
  have := Nat.pow_le_pow_right (n := 2) (by omega) h
  simpa using this
theorem add_setb : ∀ k : Nat, k < 64 → ∀ i : Nat, i < 6 → (k.testBit i = false → k + 2 ^ i = setb k i true) ∧ (k.testBit i = true → 2 ^ i ≤ k ∧ k - 2 ^ i = setb k i false) := by
  decide
theorem varT_bit : ∀ i : Nat, i < 6 → ∀ k : Nat, k < 64 → (varT i).getLsbD k = k.testBit i := by
  decide
theorem varT_far : ∀ k : Nat, k < 64 → ∀ i : Nat, i < 6 → (k.testBit i = true → (varT i).getLsbD (k + 2 ^ i) = false) ∧ (k.testBit i = false → 2 ^ i ≤ k → (varT i).getLsbD (k - 2 ^ i) = true) := by
  decide
theorem maskT_bit : ∀ n : Nat, n ≤ 6 → ∀ k : Nat, k < 64 → (maskT n).getLsbD k = decide (k < 2 ^ n) := by
  decide
theorem maskT_bit' {n : Nat} (hn : n ≤ 6) (k : Nat) : (maskT n).getLsbD k = decide (k < 2 ^ n) := by
  by_cases h : k < 64
  · exact maskT_bit n hn k h
  · have := two_pow_le6 hn
    rw [BitVec.getLsbD_of_ge _ _ (by omega)]
    simp; omega
theorem lim_of {n : Nat} (h : n ≤ 6) : lim (n : Int) = n := by
  unfold lim; split <;> (try split) <;> omega

theorem cofR_bit (t : BitVec 64) {n i : Nat} (v : Bool) (hn : n ≤ 6) (hi : i < n) (k : Nat) :
    (cofR t n i v).getLsbD k = (decide (k < 2 ^ n) && t.getLsbD (setb k i v)) := by
  have h6 := two_pow_le6 hn
  by_cases hk : k < 64
  · have hl := lim_of hn
    have hne : ¬ ((i : Int) < 0 ∨ (lim (n : Int) : Int) ≤ (i : Int)) := by omega
    have ha := add_setb k hk i (by omega)
    have hsl : ∀ w, k < 2 ^ n → setb k i w < 2 ^ n := fun w h => setb_lt w h hi
    have hsl' : ∀ w, setb k i w < 2 ^ n → k < 2 ^ n := fun w h => by
      have := setb_lt (k.testBit i) h hi
      rwa [setb_set, setb_self rfl] at this
    have hs64 : ∀ w, setb k i w < 64 := fun w => setb_lt (n := 6) w hk (by omega)
    have hb : ∀ w, (setb k i w).testBit i = w := fun w => by rw [setb_testBit]; simp
    unfold cofR
    rw [if_neg hne, lim_of hn]
    have hv := varT_far k hk i (by omega)
    have hmk := fun x => maskT_bit' hn x
    cases v with
    | true =>
      simp only [if_true, Int.toNat_natCast, BitVec.getLsbD_or, BitVec.getLsbD_and, BitVec.getLsbD_ushiftRight, varT_bit i (by omega) k hk, hmk]
      rw [Nat.add_comm (2 ^ i) k]
      cases hki : k.testBit i with
      | true =>
        rw [setb_self hki, hv.1 hki]
        simp [Bool.and_comm]
      | false =>
        rw [ha.1 hki, varT_bit i (by omega) _ (hs64 _), hb]
        by_cases hkn : k < 2 ^ n
        · simp [hkn, hsl true hkn]
        · have : ¬ setb k i true < 2 ^ n := fun h => hkn (hsl' _ h)
          simp [hkn, this]
    | false =>
      simp only [Bool.false_eq_true, if_false, Int.toNat_natCast, BitVec.getLsbD_or, BitVec.getLsbD_and, BitVec.getLsbD_not, BitVec.getLsbD_shiftLeft, varT_bit i (by omega) k hk, hmk, hk, decide_true, Bool.true_and]
      cases hki : k.testBit i with
      | true =>
        have ⟨h1, h2⟩ := ha.2 hki
        rw [h2, varT_bit i (by omega) _ (hs64 _), hb]
        have h1' : ¬ k < 2 ^ i := Nat.not_lt.2 h1
        by_cases hkn : k < 2 ^ n
        · simp [hkn, hsl false hkn, hs64 false, h1']
        · have : ¬ setb k i false < 2 ^ n := fun h => hkn (hsl' _ h)
          simp [hkn, this]
      | false =>
        rw [setb_self hki]
        by_cases h1 : k < 2 ^ i
        · simp [h1, Bool.and_comm]
        · rw [hv.2 hki (Nat.not_lt.1 h1)]
          simp [Bool.and_comm]
  · rw [BitVec.getLsbD_of_ge _ _ (by omega)]
    have : ¬ k < 2 ^ n := by omega
    simp [this]

def Sub (a b : BitVec 64) : Prop := ∀ k, a.getLsbD k = true → b.getLsbD k = true
def Ind (n : Nat) (t : BitVec 64) (i : Nat) : Prop := ∀ k v, k < 2 ^ n → t.getLsbD (setb k i v) = t.getLsbD k
def Tab (n : Nat) (t : BitVec 64) : Prop := ∀ k, t.getLsbD k = true → k < 2 ^ n

theorem eq_of_bits {n : Nat} {a b : BitVec 64} (ha : Tab n a) (hb : Tab n b) (h : ∀ k, k < 2 ^ n → a.getLsbD k = b.getLsbD k) : a = b := by
  apply BitVec.eq_of_getLsbD_eq
  intro k _
  by_cases hk : k < 2 ^ n
  · exact h k hk
  · have h1 : a.getLsbD k = false := by
      cases hh : a.getLsbD k with
      | false => rfl
      | true => exact absurd (ha k hh) hk
    have h2 : b.getLsbD k = false := by
      cases hh : b.getLsbD k with
      | false => rfl
      | true => exact absurd (hb k hh) hk
    rw [h1, h2]
theorem tab_cof (t : BitVec 64) {n i : Nat} (v : Bool) (hn : n ≤ 6) (hi : i < n) : Tab n (cofR t n i v) := fun k hk => by
  rw [cofR_bit t v hn hi, Bool.and_eq_true] at hk
  simpa using hk.1
def IndF (n V : Nat) (t : BitVec 64) : Prop := ∀ i, V ≤ i → i < n → Ind n t i
structure Good (n V : Nat) (L U : BitVec 64) : Prop where
  sub : Sub L U
  tab : Tab n U
  indL : IndF n V L
  indU : IndF n V U
theorem ind_cof {n V i : Nat} {t : BitVec 64} (v : Bool) (hn : n ≤ 6) (hV : V < n) (h : IndF n (V + 1) t) (hi : V ≤ i) (hin : i < n) : Ind n (cofR t n V v) i := by
  intro k w hk
  rw [cofR_bit t v hn hV, cofR_bit t v hn hV]
  simp only [hk, setb_lt w hk hin, decide_true, Bool.true_and]
  by_cases he : i = V
  · subst he; rw [setb_set]
  · rw [setb_comm _ he, h i (by omega) hin _ _ (setb_lt v hk hV)]
theorem Ind.and {n i : Nat} {a b : BitVec 64} (ha : Ind n a i) (hb : Ind n b i) : Ind n (a &&& b) i := fun k v hk => by
  rw [BitVec.getLsbD_and, BitVec.getLsbD_and, ha k v hk, hb k v hk]
theorem Ind.or {n i : Nat} {a b : BitVec 64} (ha : Ind n a i) (hb : Ind n b i) : Ind n (a ||| b) i := fun k v hk => by
  rw [BitVec.getLsbD_or, BitVec.getLsbD_or, ha k v hk, hb k v hk]
theorem Ind.not {n i : Nat} {a : BitVec 64} (hn : n ≤ 6) (hi : i < n) (ha : Ind n a i) : Ind n (~~~ a) i := fun k v hk => by
  have h6 := two_pow_le6 hn
  have h1 : k < 64 := by omega
  have h2 : setb k i v < 64 := by have := setb_lt v hk hi; omega
  rw [BitVec.getLsbD_not, BitVec.getLsbD_not, ha k v hk]
  simp [h1, h2]
theorem andnot_bit (a b : BitVec 64) (k : Nat) : (a &&& ~~~ b).getLsbD k = (a.getLsbD k && !b.getLsbD k) := by
  rw [BitVec.getLsbD_and, BitVec.getLsbD_not]
  by_cases h : k < 64
  · simp [h]
  · rw [BitVec.getLsbD_of_ge a _ (by omega)]; simp
theorem sub_cof {n V : Nat} {L U : BitVec 64} (v : Bool) (hn : n ≤ 6) (hV : V < n) (h : Sub L U) : Sub (cofR L n V v) (cofR U n V v) := fun k hk => by
  rw [cofR_bit _ v hn hV, Bool.and_eq_true] at hk ⊢
  exact ⟨hk.1, h _ hk.2⟩
theorem tab_mask {n : Nat} (hn : n ≤ 6) : Tab n (maskT n) := fun k hk => by rw [maskT_bit' hn] at hk; simpa using hk
structure IsopOk (n V : Nat) (L U : BitVec 64) (r : List (Nat × Nat) × BitVec 64) : Prop where
  low : Sub L r.2
  up : Sub r.2 U
  ind : IndF n V r.2
theorem Good.both {n V : Nat} {L U : BitVec 64} {r0 r1 : List (Nat × Nat) × BitVec 64} (hn : n ≤ 6) (hV : V < n) (h : Good n (V + 1) L U)
    (h0 : IsopOk n V (cofR L n V false &&& ~~~ cofR U n V true) (cofR U n V false) r0) (h1 : IsopOk n V (cofR L n V true &&& ~~~ cofR U n V false) (cofR U n V true) r1) :
    Good n V ((cofR L n V false &&& ~~~ r0.2) ||| (cofR L n V true &&& ~~~ r1.2)) (cofR U n V false &&& cofR U n V true) where
  sub := fun k hk => by
    rw [BitVec.getLsbD_or, Bool.or_eq_true, andnot_bit, andnot_bit] at hk
    rw [BitVec.getLsbD_and, Bool.and_eq_true]
    rcases hk with hk | hk
    · rw [Bool.and_eq_true, Bool.not_eq_true'] at hk
      refine ⟨sub_cof false hn hV h.sub k hk.1, ?_⟩
      cases hu : (cofR U n V true).getLsbD k with
      | true => rfl
      | false => have := h0.low k (by rw [andnot_bit, hk.1, hu]; rfl); rw [this] at hk; cases hk.2
    · rw [Bool.and_eq_true, Bool.not_eq_true'] at hk
      refine ⟨?_, sub_cof true hn hV h.sub k hk.1⟩
      cases hu : (cofR U n V false).getLsbD k with
      | true => rfl
      | false => have := h1.low k (by rw [andnot_bit, hk.1, hu]; rfl); rw [this] at hk; cases hk.2
  tab := fun k hk => by
    rw [BitVec.getLsbD_and, Bool.and_eq_true] at hk
    exact tab_cof U false hn hV k hk.1
  indL := fun i hi hin => ((ind_cof false hn hV h.indL hi hin).and ((h0.ind i hi hin).not hn hin)).or ((ind_cof true hn hV h.indL hi hin).and ((h1.ind i hi hin).not hn hin))
  indU := fun i hi hin => (ind_cof false hn hV h.indU hi hin).and (ind_cof true hn hV h.indU hi hin)
end Go.Tab

set_option linter.unusedSimpArgs false
set_option linter.unusedVariables false
namespace Go.Tab
theorem varR_bit {n i : Nat} (hn : n ≤ 6) (hi : i < n) (k : Nat) : (varR i n).getLsbD k = (decide (k < 2 ^ n) && k.testBit i) := by
  have h6 := two_pow_le6 hn
  have hl := lim_of hn
  unfold varR
  rw [if_neg (by omega), BitVec.getLsbD_and, hl, maskT_bit' hn, Int.toNat_natCast]
  by_cases hk : k < 2 ^ n
  · rw [varT_bit i (by omega) k (by omega)]; simp [hk]
  · simp [hk]
theorem tab_var {n i : Nat} (hn : n ≤ 6) (hi : i < n) : Tab n (varR i n) := fun k hk => by
  rw [varR_bit hn hi, Bool.and_eq_true] at hk
  simpa using hk.1
section
variable {n i : Nat} (hn : n ≤ 6) (hi : i < n) {t : BitVec 64} (ht : Tab n t)
include hn hi
end
end Go.Tab

set_option linter.unusedSimpArgs false
set_option linter.unusedVariables false
namespace Go.Tab
def makeGo : List Bool → Nat → BitVec 64 → BitVec 64
  | [], _, t => t
  | b :: l, k, t => makeGo l (k + 1) (if b = true then t ||| (1#64 <<< k) else t)
def makeT (l : List Bool) : BitVec 64 := makeGo l 0 0#64
theorem makeGo_bit : ∀ (l : List Bool) (k : Nat) (t : BitVec 64) (j : Nat), (makeGo l k t).getLsbD j = (t.getLsbD j || (decide (j < 64 ∧ k ≤ j) && l.getD (j - k) false))
  | [], k, t, j => by simp [makeGo]
  | b :: l, k, t, j => by
    rw [makeGo, makeGo_bit l (k + 1)]
    have h1 : (if b = true then t ||| (1#64 <<< k) else t).getLsbD j = (t.getLsbD j || (b && decide (j < 64 ∧ j = k))) := by
      cases b with
      | false => simp
      | true =>
        simp only [if_true, BitVec.getLsbD_or, BitVec.getLsbD_shiftLeft, BitVec.getLsbD_one, Bool.true_and]
        congr 1
        by_cases h : j < 64 <;> by_cases h2 : j < k <;> by_cases h3 : j = k <;> simp [h, h2, h3] <;> omega
    rw [h1]
    by_cases h : j < 64
    · by_cases hk : j = k
      · subst hk
        simp [h, show ¬ (j + 1 ≤ j) by omega]
      · by_cases h2 : k ≤ j
        · have e : j - k = (j - (k + 1)) + 1 := by omega
          have h3 : k + 1 ≤ j := by omega
          rw [e]; simp [h, hk, h2, h3]
        · have h3 : ¬ (k + 1 ≤ j) := by omega
          simp [h, hk, h2, h3]
    · simp [h]
theorem makeT_bit (l : List Bool) (j : Nat) : (makeT l).getLsbD j = (decide (j < 64) && l.getD j false) := by
  rw [makeT, makeGo_bit]; simp
def tabB (n : Nat) (f : Nat → Bool) : BitVec 64 := makeT ((List.range (2 ^ n)).map f)
theorem tabB_bit {n : Nat} (hn : n ≤ 6) (f : Nat → Bool) (k : Nat) : (tabB n f).getLsbD k = (decide (k < 2 ^ n) && f k) := by
  have := two_pow_le6 hn
  rw [tabB, makeT_bit, List.getD_eq_getElem?_getD, List.getElem?_map]
  by_cases h : k < 2 ^ n
  · have h2 : k < 64 := by omega
    simp [h, h2]
  · rw [List.getElem?_eq_none (by simpa using h)]
    simp [h]
theorem tab_tabB {n : Nat} (hn : n ≤ 6) (f : Nat → Bool) : Tab n (tabB n f) := fun k hk => by
  rw [tabB_bit hn, Bool.and_eq_true] at hk; simpa using hk.1
theorem tabB_eq {n : Nat} (hn : n ≤ 6) {f : Nat → Bool} {t : BitVec 64} (ht : Tab n t) (h : ∀ k, k < 2 ^ n → t.getLsbD k = f k) : tabB n f = t :=
  eq_of_bits (tab_tabB hn f) ht fun k hk => by rw [tabB_bit hn, h k hk]; simp [hk]
end Go.Tab

set_option linter.unusedSimpArgs false
set_option linter.unusedVariables false
namespace Go.Cut
open Go.Abs Go.Tab
def initU (n : Int) (m : Nat) : List Int → Nat → (Nat → BitVec 64) → (Nat → BitVec 64)
  | [], _, U => U
  | v :: l, i, U => initU n m l (i + 1) (if v ≤ (m : Int) then (fun k => if k = v.toNat then varR i n else U k) else U)
def litT (U : Nat → BitVec 64) (x : Int) (t : BitVec 64) : BitVec 64 := if x % 2 = 1 then t &&& ~~~ U (x.toNat / 2) else t &&& U (x.toNat / 2)
def stepU (f : Nat) (as : List (Int × Int)) (n : Int) (U : Nat → BitVec 64) (v : Int) : Nat → BitVec 64 := fun k =>
  if k = v.toNat then litT U (as.getD (v.toNat - f) (0, 0)).2 (litT U (as.getD (v.toNat - f) (0, 0)).1 (maskT (lim n))) else U k
def FunR (g : AigD) (l : List Int) (node : Int) : BitVec 64 × Int :=
  if (ConeR g l node).2 = 0 then ((ConeR g l node).1.foldl (stepU (firstC g).toNat g.as l.length) (initU l.length node.toNat l 0 fun _ => 0#64) node.toNat, 0) else (0#64, (ConeR g l node).2)
def initV (k : Nat) : List Int → Nat → (Nat → Bool) → (Nat → Bool)
  | [], _, V => V
  | v :: l, i, V => initV k l (i + 1) fun j => if j = v.toNat then k.testBit i else V j
def litB (V : Nat → Bool) (x : Int) : Bool := V (x.toNat / 2) != decide (x % 2 = 1)
def stepV (f : Nat) (as : List (Int × Int)) (V : Nat → Bool) (v : Int) : Nat → Bool := fun k =>
  if k = v.toNat then litB V (as.getD (v.toNat - f) (0, 0)).1 && litB V (as.getD (v.toNat - f) (0, 0)).2 else V k
def valV (g : AigD) (l cone : List Int) (k : Nat) : Nat → Bool := cone.foldl (stepV (firstC g).toNat g.as) (initV k l 0 fun _ => false)
def FunQ (g : AigD) (l : List Int) (node : Int) : BitVec 64 × Int :=
  if (ConeR g l node).2 = 0 then (tabB l.length fun k => valV g l (ConeR g l node).1 k node.toNat, 0) else (0#64, (ConeR g l node).2)

def SameB (n m : Nat) (U : Nat → BitVec 64) (V : Nat → Nat → Bool) : Prop := ∀ j, j ≤ m → Tab n (U j) ∧ ∀ k, k < 2 ^ n → (U j).getLsbD k = V k j
theorem same_init {n : Nat} (hn : n ≤ 6) (m : Nat) : ∀ (l : List Int) (i : Nat) (U : Nat → BitVec 64) (V : Nat → Nat → Bool), i + l.length ≤ n → (∀ x ∈ l, 0 ≤ x) → SameB n m U V → SameB n m (initU n m l i U) (fun k => initV k l i (V k))
  | [], _, _, _, _, _, h => h
  | v :: l, i, U, V, hl, hp, h => by
    rw [List.length_cons] at hl
    have hv := hp v (List.mem_cons_self ..)
    refine same_init hn m l (i + 1) _ _ (by omega) (fun x hx => hp x (List.mem_cons_of_mem _ hx)) ?_
    intro j hj
    by_cases hjv : j = v.toNat
    · rw [if_pos (by omega)]
      simp only [hjv, if_true]
      refine ⟨tab_var hn (by omega), fun k hk => ?_⟩
      rw [varR_bit hn (by omega)]; simp [hk]
    · split
      · simp only [hjv, if_false]; exact h j hj
      · simp only [hjv, if_false]; exact h j hj
theorem lit_bit {n m : Nat} {U : Nat → BitVec 64} {V : Nat → Nat → Bool} (hn : n ≤ 6) (h : SameB n m U V) {x : Int} (hx : x.toNat / 2 ≤ m) (t : BitVec 64) {k : Nat} (hk : k < 2 ^ n) : (litT U x t).getLsbD k = (t.getLsbD k && litB (V k) x) := by
  have h64 := two_pow_le6 hn
  have hb := (h _ hx).2 k hk
  unfold litT litB
  by_cases h1 : x % 2 = 1
  · rw [if_pos h1, BitVec.getLsbD_and, BitVec.getLsbD_not, hb]
    simp [h1, show k < 64 by omega]
  · rw [if_neg h1, BitVec.getLsbD_and, hb]
    simp [h1]
theorem lit_tab {n : Nat} {t : BitVec 64} (U : Nat → BitVec 64) (x : Int) (h : Tab n t) : Tab n (litT U x t) := by
  unfold litT
  split
  · intro k hk; rw [BitVec.getLsbD_and, Bool.and_eq_true] at hk; exact h k hk.1
  · intro k hk; rw [BitVec.getLsbD_and, Bool.and_eq_true] at hk; exact h k hk.1
theorem same_step {f n m : Nat} {as : List (Int × Int)} (hn : n ≤ 6) {U : Nat → BitVec 64} {V : Nat → Nat → Bool} (h : SameB n m U V) {v : Int}
    (h1 : (as.getD (v.toNat - f) (0, 0)).1.toNat / 2 ≤ m) (h2 : (as.getD (v.toNat - f) (0, 0)).2.toNat / 2 ≤ m) : SameB n m (stepU f as n U v) (fun k => stepV f as (V k) v) := by
  intro j hj
  unfold stepU stepV
  by_cases hjv : j = v.toNat
  · rw [if_pos hjv]
    have hm : Tab n (maskT (lim (n : Int))) := by rw [lim_of hn]; exact tab_mask hn
    refine ⟨lit_tab _ _ (lit_tab _ _ hm), fun k hk => ?_⟩
    rw [lit_bit hn h h2 _ hk, lit_bit hn h h1 _ hk, lim_of hn, maskT_bit' hn]
    simp [hjv, hk]
  · rw [if_neg hjv]
    exact ⟨(h j hj).1, fun k hk => by simp only [hjv, if_false]; exact (h j hj).2 k hk⟩
theorem same_fold {f n m : Nat} {as : List (Int × Int)} (hn : n ≤ 6) : ∀ (c : List Int) (U : Nat → BitVec 64) (V : Nat → Nat → Bool), SameB n m U V →
    (∀ v ∈ c, (as.getD (v.toNat - f) (0, 0)).1.toNat / 2 ≤ m ∧ (as.getD (v.toNat - f) (0, 0)).2.toNat / 2 ≤ m) → SameB n m (c.foldl (stepU f as n) U) (fun k => c.foldl (stepV f as) (V k))
  | [], _, _, h, _ => h
  | v :: c, U, V, h, hc => by
    obtain ⟨h1, h2⟩ := hc v (List.mem_cons_self ..)
    exact same_fold hn c _ _ (same_step hn h h1 h2) fun w hw => hc w (List.mem_cons_of_mem _ hw)
theorem leafE_pos {n node : Int} {l : List Int} (h : leafE n node l = 0) : l.length ≤ 4 ∧ ∀ x ∈ l, 0 ≤ x := by
  have key : ∀ (l : List Int) (last : Int), 0 ≤ last → lfGo n last l = 0 → ∀ x ∈ l, 0 ≤ x := by
    intro l
    induction l with
    | nil => simp
    | cons v l ih =>
      intro last h0 h x hx
      rw [lfGo] at h
      split at h
      · cases h
      · rcases List.mem_cons.1 hx with rfl | hx
        · omega
        · exact ih v (by omega) h x hx
  unfold leafE at h
  split at h
  · cases h
  · split at h
    · cases h
    · exact ⟨by omega, key l 0 (by omega) h⟩
theorem coneE_le (f : Nat) (as : List (Int × Int)) (lv : List Int) (node : Int) : ∀ x ∈ (coneE f as lv node).1, x ≤ node := by
  unfold coneE
  split
  · rename_i h
    obtain ⟨h1, h2⟩ := leafE_node h
    unfold coneR
    split
    · simp
    · rename_i o ho
      obtain ⟨h3, h4⟩ := coneL_mem f as lv _ _ _ _ ho
      intro x hx
      rcases h3 x (by simpa using hx) with h | h
      · cases h
      · omega
  · simp
theorem fun_eq {g : AigD} {l : List Int} {node : Int} (hf : Few g) : FunR g l node = FunQ g l node := by
  unfold FunR FunQ
  by_cases he : (ConeR g l node).2 = 0
  · rw [if_pos he, if_pos he]
    congr 1
    by_cases hc : chkE g = 0
    · have hV := valid_of hc
      have hinp := hV.inp
      obtain ⟨f, hfd⟩ : ∃ f, f = (firstC g).toNat := ⟨_, rfl⟩
      have hff : firstC g = (f : Int) := by unfold firstC at hfd ⊢; omega
      have hR : ConeR g l node = coneE f g.as l node := by simp [ConeR, hc, hfd]
      have hchk : chkA f g.as = true := by have := hV.ands; rwa [hff] at this
      unfold valV
      rw [hR] at he ⊢
      rw [← hfd]
      obtain ⟨hn0, hn1⟩ := coneE_node he
      have hl : leafE ((f : Int) + g.as.length) node l = 0 := by
        unfold coneE at he
        split at he
        · assumption
        · rename_i h; exact absurd he h
      obtain ⟨hl4, hlp⟩ := leafE_pos hl
      have hmem := (coneE_mem f g.as l node).1
      have hle := coneE_le f g.as l node
      have h0 : SameB l.length node.toNat (initU l.length node.toNat l 0 fun _ => 0#64) (fun k => initV k l 0 fun _ => false) :=
        same_init (by omega) node.toNat l 0 _ (fun _ _ => false) (by omega) hlp fun j _ => ⟨fun k hk => by simp at hk, fun k _ => by simp⟩
      have h1 := same_fold (f := f) (as := g.as) (by omega) (coneE f g.as l node).1 _ _ h0 fun v hv => by
        obtain ⟨a, b⟩ := hmem v hv
        have c := hle v hv
        obtain ⟨j, hj⟩ : ∃ j, j = v.toNat - f := ⟨_, rfl⟩
        have hjl : j < g.as.length := by omega
        obtain ⟨b1, b2, b3, b4⟩ := chkA_get hchk hjl
        rw [← hj, List.getD_eq_getElem?_getD, List.getElem?_eq_getElem hjl]
        simp only [Option.getD_some]
        omega
      obtain ⟨ht, hb⟩ := h1 node.toNat (Nat.le_refl _)
      exact (tabB_eq (by omega) ht hb).symm
    · have : (ConeR g l node).2 = chkE g := by simp [ConeR, hc]
      rw [this] at he
      exact absurd he hc
  · rw [if_neg he, if_neg he]
end Go.Cut

set_option linter.unusedSimpArgs false
set_option linter.unusedVariables false
namespace Go.Cut
open Go.Abs
theorem coneL_desc (f : Nat) (as : List (Int × Int)) (lv : List Int) : ∀ (v : Nat) (u : Nat → Bool) (out o : List Int), coneL f as lv v u out = some o →
    ∃ o', o = out ++ o' ∧ o'.Pairwise (· > ·) ∧ ∀ x ∈ o', (f : Int) ≤ x ∧ x ≤ (v : Int)
  | 0, u, out, o, h => by
    rw [coneL] at h; cases h
    exact ⟨[], by simp, .nil, by simp⟩
  | v + 1, u, out, o, h => by
    rw [coneL] at h
    split at h
    · obtain ⟨o', h1, h2, h3⟩ := coneL_desc f as lv v _ _ _ h
      exact ⟨o', h1, h2, fun x hx => ⟨(h3 x hx).1, by have := (h3 x hx).2; omega⟩⟩
    · split at h
      · cases h
      · obtain ⟨o', h1, h2, h3⟩ := coneL_desc f as lv v _ _ _ h
        refine ⟨((v + 1 : Nat) : Int) :: o', by rw [h1, List.append_assoc]; rfl, .cons (fun x hx => ?_) h2, fun x hx => ?_⟩
        · have := (h3 x hx).2; show x < _; omega
        · rcases List.mem_cons.1 hx with rfl | hx
          · exact ⟨by omega, Int.le_refl _⟩
          · exact ⟨(h3 x hx).1, by have := (h3 x hx).2; omega⟩
def opsF (f : Nat) (as : List (Int × Int)) (v : Int) : List Int := [(as.getD (v.toNat - f) (0, 0)).1, (as.getD (v.toNat - f) (0, 0)).2]
theorem cntF_append (p q : List Int) (k : Nat) : cntF (p ++ q) k = cntF p k + cntF q k := List.countP_append
theorem cntF_rev (f : Nat) (as : List (Int × Int)) (k : Nat) (l : List Int) : cntF (l.reverse.flatMap (opsF f as)) k = cntF (l.flatMap (opsF f as)) k := by
  induction l with
  | nil => rfl
  | cons x l ih =>
    simp only [List.reverse_cons, List.flatMap_append, List.flatMap_cons, List.flatMap_nil, List.append_nil, cntF_append, ih]
    omega
def Below (f : Nat) (as : List (Int × Int)) : Prop := ∀ (v : Int), (f : Int) ≤ v → v < (f : Int) + as.length → ∀ x ∈ opsF f as v, 0 ≤ x ∧ x < 2 * v
theorem below_of {f : Nat} {as : List (Int × Int)} (h : chkA f as = true) : Below f as := by
  intro v h1 h2 x hx
  obtain ⟨j, rfl⟩ : ∃ j : Nat, v = (f : Int) + j := ⟨(v - f).toNat, by omega⟩
  have hj : j < as.length := by omega
  have he : ((f : Int) + (j : Int)).toNat - f = j := by omega
  obtain ⟨b1, b2, b3, b4⟩ := chkA_get h hj
  unfold opsF at hx
  rw [he, List.getD_eq_getElem?_getD, List.getElem?_eq_getElem hj] at hx
  simp only [Option.getD_some, List.mem_cons, List.not_mem_nil, or_false] at hx
  rcases hx with rfl | rfl
  · exact ⟨b1, b2⟩
  · exact ⟨b3, b4⟩
theorem ops_no {f : Nat} {as : List (Int × Int)} (h : Below f as) {v : Int} (h1 : (f : Int) ≤ v) (h2 : v < (f : Int) + as.length) {n : Nat} (hn : v ≤ n) : cntF (opsF f as v) n = 0 := by
  unfold cntF
  rw [List.countP_eq_zero]
  intro x hx
  have := h v h1 h2 x hx
  simp
  omega
theorem freeS_law {f : Nat} {as : List (Int × Int)} (hB : Below f as) (base : Nat → Int) : ∀ (l : List Int), l.Pairwise (· < ·) → (∀ x ∈ l, (f : Int) ≤ x ∧ x < (f : Int) + as.length) →
    (freeS f as base l).1 = (freeS f as base l).2.flatMap (opsF f as) ∧ (freeS f as base l).2.Sublist l.reverse ∧ ∀ n : Nat, (n : Int) ∈ l → ((n : Int) ∈ (freeS f as base l).2 ↔ leftF base (freeS f as base l).1 n ≤ 0)
  | [], _, _ => ⟨rfl, .slnil, by simp⟩
  | x :: l, hp, hm => by
    obtain ⟨hx, hp⟩ := List.pairwise_cons.1 hp
    obtain ⟨i1, i2, i3⟩ := freeS_law hB base l hp fun y hy => hm y (List.mem_cons_of_mem _ hy)
    have hs := freeS_cons f as base (x :: l) (j := 0) (x := x) rfl
    simp only [List.drop_zero, List.drop_succ_cons] at hs
    rw [hs]
    obtain ⟨hx1, hx2⟩ := hm x (List.mem_cons_self ..)
    obtain ⟨w, rfl⟩ : ∃ w : Nat, x = w := ⟨x.toNat, by omega⟩
    have hnot : (w : Int) ∉ (freeS f as base l).2 := fun h => by
      have := hx _ (List.mem_reverse.1 (i2.subset h))
      omega
    unfold freeStep
    rw [Int.toNat_natCast]
    by_cases hc : 0 < leftF base (freeS f as base l).1 w
    · rw [if_pos hc]
      refine ⟨i1, i2.trans (by rw [List.reverse_cons]; exact List.sublist_append_left ..), fun n hn => ?_⟩
      rcases List.mem_cons.1 hn with h | h
      · have : n = w := by omega
        subst this
        exact ⟨fun h => absurd h hnot, fun h => by omega⟩
      · exact i3 n h
    · rw [if_neg hc]
      have hops : ((freeS f as base l).1 ++ [(as.getD (w - f) (0, 0)).1]) ++ [(as.getD (w - f) (0, 0)).2] = (freeS f as base l).1 ++ opsF f as w := by
        rw [List.append_assoc]; rfl
      rw [hops]
      have hleft : ∀ n : Nat, (w : Int) ≤ n → leftF base ((freeS f as base l).1 ++ opsF f as w) n = leftF base (freeS f as base l).1 n := fun n hn => by
        unfold leftF
        rw [cntF_append, ops_no hB hx1 hx2 hn]; rfl
      refine ⟨by rw [List.flatMap_append, ← i1]; simp, by rw [List.reverse_cons]; exact i2.append (List.Sublist.refl _), fun n hn => ?_⟩
      dsimp only
      rw [List.mem_append, List.mem_singleton]
      rcases List.mem_cons.1 hn with h | h
      · have : n = w := by omega
        subst this
        rw [hleft _ (Int.le_refl _)]
        exact ⟨fun _ => by omega, fun _ => .inr rfl⟩
      · have := hx _ h
        rw [hleft _ (by omega), ← i3 n h]
        exact ⟨fun h => h.resolve_right (by omega), .inl⟩
theorem andLits_take_succ {as : List (Int × Int)} {j : Nat} (hj : j < as.length) (k : Nat) (f : Nat) : cntF (andLits (as.take (j + 1))) k = cntF (andLits (as.take j)) k + cntF (opsF f as ((f : Int) + j)) k := by
  have he : ((f : Int) + (j : Int)).toNat - f = j := by omega
  rw [take_snoc _ hj]
  unfold andLits opsF
  rw [List.flatMap_append, cntF_append, he, List.getD_eq_getElem?_getD, List.getElem?_eq_getElem hj]
  simp
theorem andLits_mono (as : List (Int × Int)) (k : Nat) {i j : Nat} (h : i ≤ j) : cntF (andLits (as.take i)) k ≤ cntF (andLits (as.take j)) k := by
  have : as.take i = (as.take j).take i := by rw [List.take_take, Nat.min_eq_left h]
  have h2 : as.take j = as.take i ++ (as.take j).drop i := by rw [this, List.take_append_drop]
  rw [h2, show andLits (as.take i ++ (as.take j).drop i) = andLits (as.take i) ++ andLits ((as.take j).drop i) from List.flatMap_append, cntF_append]
  omega
theorem ops_le {f : Nat} {as : List (Int × Int)} (k : Nat) : ∀ (l : List Int) (b : Nat), l.Pairwise (· > ·) → (∀ x ∈ l, (f : Int) ≤ x ∧ x < (f : Int) + b) → b ≤ as.length →
    cntF (l.flatMap (opsF f as)) k ≤ cntF (andLits (as.take b)) k
  | [], b, _, _, _ => by simp [cntF]
  | x :: l, b, hp, hm, hb => by
    obtain ⟨hx, hp2⟩ := List.pairwise_cons.1 hp
    obtain ⟨h1, h2⟩ := hm x (List.mem_cons_self ..)
    obtain ⟨j, rfl⟩ : ∃ j : Nat, x = (f : Int) + j := ⟨(x - f).toNat, by omega⟩
    have ih := ops_le (f := f) (as := as) k l j hp2 (fun y hy => ⟨(hm y (List.mem_cons_of_mem _ hy)).1, by have := hx y hy; omega⟩) (by omega)
    have hs := andLits_take_succ (as := as) (j := j) (by omega) k f
    have hmo := andLits_mono as k (i := j + 1) (j := b) (by omega)
    rw [List.flatMap_cons, cntF_append]
    omega
end Go.Cut

set_option linter.unusedSimpArgs false
set_option linter.unusedVariables false
namespace Go.Cut
open Go.Abs
def badR (f : Nat) (as : List (Int × Int)) (us : Nat → Nat) (node : Int) (S : List Int) (v : Int) : Bool := decide (v ≠ node) && decide (cntF (S.flatMap (opsF f as)) v.toNat < us v.toNat)
def dropR (S : List Int) (v : Int) : List Int := S.filter (· != v)
theorem filter_lt {S : List Int} {v : Int} (h : v ∈ S) : (dropR S v).length < S.length := by
  refine List.length_filter_lt_length_iff_exists.2 ⟨v, h, by simp⟩
def freeQ (f : Nat) (as : List (Int × Int)) (us : Nat → Nat) (node : Int) (S : List Int) : List Int :=
  match h : S.find? (badR f as us node S) with
  | none => S
  | some v => freeQ f as us node (dropR S v)
termination_by S.length
decreasing_by exact filter_lt (List.mem_of_find?_eq_some h)
theorem freeQ_none {f : Nat} {as : List (Int × Int)} {us : Nat → Nat} {node : Int} {S : List Int} (h : S.find? (badR f as us node S) = none) : freeQ f as us node S = S := by
  rw [freeQ]; split
  · rfl
  · rename_i h'; rw [h] at h'; cases h'
theorem freeQ_some {f : Nat} {as : List (Int × Int)} {us : Nat → Nat} {node v : Int} {S : List Int} (h : S.find? (badR f as us node S) = some v) : freeQ f as us node S = freeQ f as us node (dropR S v) := by
  rw [freeQ]; split
  · rename_i h'; rw [h] at h'; cases h'
  · rename_i h'; rw [h] at h'; cases h'; rfl
def FreeQ (g : AigD) (l : List Int) (node : Int) : List Int × Int :=
  if (ConeR g l node).2 = 0 then (freeQ (firstC g).toNat g.as (cntF (allLits g)) node (ConeR g l node).1, 0) else ([], (ConeR g l node).2)

theorem cntF_sub {f : Nat} {as : List (Int × Int)} {A B : List Int} (h : A.Sublist B) (k : Nat) : cntF (A.flatMap (opsF f as)) k ≤ cntF (B.flatMap (opsF f as)) k := by
  induction h with
  | slnil => exact Nat.le_refl _
  | cons a _ ih => rw [List.flatMap_cons, cntF_append]; omega
  | cons_cons a _ ih => rw [List.flatMap_cons, List.flatMap_cons, cntF_append, cntF_append]; omega
theorem filter_mono {α : Type} {p q : α → Bool} (h : ∀ x, p x = true → q x = true) : ∀ C : List α, (C.filter p).Sublist (C.filter q)
  | [] => .slnil
  | a :: C => by
    by_cases hp : p a = true
    · rw [List.filter_cons_of_pos hp, List.filter_cons_of_pos (h a hp)]
      exact (filter_mono h C).cons_cons a
    · rw [List.filter_cons_of_neg hp]
      by_cases hq : q a = true
      · rw [List.filter_cons_of_pos hq]; exact (filter_mono h C).cons a
      · rw [List.filter_cons_of_neg hq]; exact filter_mono h C
theorem sub_filter {A C : List Int} (h : A.Sublist C) (hC : C.Pairwise (· < ·)) : A = C.filter fun x => decide (x ∈ A) := by
  induction h with
  | slnil => rfl
  | @cons A C a h ih =>
    obtain ⟨h1, h2⟩ := List.pairwise_cons.1 hC
    have : a ∉ A := fun hm => by have := h1 a (h.subset hm); omega
    rw [List.filter_cons_of_neg (by simpa using this)]
    exact ih h2
  | @cons_cons A C a h ih =>
    obtain ⟨h1, h2⟩ := List.pairwise_cons.1 hC
    rw [List.filter_cons_of_pos (by simp)]
    congr 1
    conv => lhs; rw [ih h2]
    refine List.filter_congr fun x hx => ?_
    have := h1 x hx
    simp only [List.mem_cons, decide_eq_decide]
    exact ⟨.inr, fun h => h.resolve_left (by omega)⟩
theorem freeQ_law {f : Nat} {as : List (Int × Int)} {us : Nat → Nat} {node : Int} {F : List Int} (hF : ∀ v ∈ F, v ≠ node → us v.toNat ≤ cntF (F.flatMap (opsF f as)) v.toNat) :
    ∀ (n : Nat) (S : List Int), S.length ≤ n → F.Sublist S → F.Sublist (freeQ f as us node S) ∧ (freeQ f as us node S).Sublist S ∧ ∀ v ∈ freeQ f as us node S, v ≠ node → us v.toNat ≤ cntF ((freeQ f as us node S).flatMap (opsF f as)) v.toNat := by
  intro n
  induction n with
  | zero =>
    intro S hS h
    have : S = [] := List.eq_nil_of_length_eq_zero (by omega)
    subst this
    rw [freeQ_none rfl]
    exact ⟨h, .refl _, by simp⟩
  | succ n ih =>
    intro S hS h
    cases hb : S.find? (badR f as us node S) with
    | none =>
      rw [freeQ_none hb]
      refine ⟨h, .refl _, fun v hv hn => ?_⟩
      have := List.find?_eq_none.1 hb v hv
      unfold badR at this
      simp [hn] at this
      exact this
    | some v =>
      rw [freeQ_some hb]
      have hm := List.mem_of_find?_eq_some hb
      have hp := List.find?_some hb
      unfold badR at hp
      rw [Bool.and_eq_true, decide_eq_true_eq, decide_eq_true_eq] at hp
      have hl := filter_lt hm
      have hvF : v ∉ F := fun hv => by
        have h1 := hF v hv hp.1
        have h2 := cntF_sub (f := f) (as := as) h v.toNat
        omega
      have hFs : F.Sublist (dropR S v) := by
        have := h.filter (· != v)
        rwa [List.filter_eq_self.2 fun x hx => by simp only [bne_iff_ne]; rintro rfl; exact hvF hx] at this
      obtain ⟨a, b, c⟩ := ih _ (by omega) hFs
      exact ⟨a, b.trans (List.filter_sublist (p := (· != v))), c⟩
theorem freeQ_eq {f : Nat} {as : List (Int × Int)} {us : Nat → Nat} {node : Int} {F C : List Int} (hB : Below f as) (hC : C.Pairwise (· < ·)) (hm : ∀ x ∈ C, (f : Int) ≤ x ∧ x < (f : Int) + as.length) (hFC : F.Sublist C) (hnode : node ∈ C → node ∈ F)
    (hle : ∀ n, cntF (andLits as) n ≤ us n) (hiff : ∀ v ∈ C, v ≠ node → (v ∈ F ↔ cntF (F.flatMap (opsF f as)) v.toNat = us v.toNat)) : freeQ f as us node C = F := by
  obtain ⟨h1, h2, h3⟩ := freeQ_law (f := f) (as := as) (us := us) (node := node) (F := F) (fun v hv hn => by have := (hiff v (hFC.subset hv) hn).1 hv; omega) C.length C (Nat.le_refl _) hFC
  obtain ⟨S, hS⟩ : ∃ S, S = freeQ f as us node C := ⟨_, rfl⟩
  rw [← hS] at h1 h2 h3 ⊢
  have hall : ∀ (d : Nat) (v : Int), v ∈ S → (f : Int) + as.length - v ≤ d → v ∈ F := by
    intro d
    induction d with
    | zero => intro v hv hd; have := hm v (h2.subset hv); omega
    | succ d ih =>
      intro v hv hd
      by_cases hn : v = node
      · subst hn; exact hnode (h2.subset hv)
      · have hu := h3 v hv hn
        have hvm := hm v (h2.subset hv)
        obtain ⟨m, rfl⟩ : ∃ m : Nat, v = m := ⟨v.toNat, by omega⟩
        rw [Int.toNat_natCast] at hu
        have hsp : ∀ (A : List Int), (∀ x ∈ A, (f : Int) ≤ x ∧ x < (f : Int) + as.length) → cntF (A.flatMap (opsF f as)) m = cntF ((A.filter fun x => decide ((m : Int) < x)).flatMap (opsF f as)) m := by
          intro A hA
          induction A with
          | nil => rfl
          | cons a A ihA =>
            have ha := hA a (List.mem_cons_self ..)
            have hr := ihA fun x hx => hA x (List.mem_cons_of_mem _ hx)
            by_cases hlt : (m : Int) < a
            · rw [List.filter_cons_of_pos (by simpa using hlt), List.flatMap_cons, List.flatMap_cons, cntF_append, cntF_append, hr]
            · rw [List.filter_cons_of_neg (by simpa using hlt), List.flatMap_cons, cntF_append, ops_no hB ha.1 ha.2 (by omega), hr]; omega
        have hSC := hC.sublist h2
        have hsub : (S.filter fun x => decide ((m : Int) < x)).Sublist F := by
          have e1 := sub_filter (List.filter_sublist (l := S) (p := fun x => decide ((m : Int) < x)) |>.trans h2) hC
          have e2 := sub_filter hFC hC
          rw [e1]
          conv => rhs; rw [e2]
          refine filter_mono (fun x hx => ?_) C
          rw [decide_eq_true_eq] at hx ⊢
          obtain ⟨hx1, hx2⟩ := List.mem_filter.1 hx
          rw [decide_eq_true_eq] at hx2
          exact ih x hx1 (by omega)
        have hc1 := hsp S fun x hx => hm x (h2.subset hx)
        have hc2 := cntF_sub (f := f) (as := as) hsub m
        have hFd : F.Pairwise (· < ·) := hC.sublist hFC
        have hc3 := ops_le (f := f) (as := as) m F.reverse as.length (List.pairwise_reverse.2 (by simpa using hFd)) (fun x hx => hm x (hFC.subset (List.mem_reverse.1 hx))) (Nat.le_refl _)
        rw [cntF_rev, List.take_length] at hc3
        have hc4 := hle m
        refine (hiff m (h2.subset hv) hn).2 ?_
        rw [Int.toNat_natCast]; omega
  have e1 := sub_filter h2 hC
  have e2 := sub_filter hFC hC
  rw [e1]
  conv => rhs; rw [e2]
  refine List.filter_congr fun x hx => ?_
  rw [decide_eq_decide]
  exact ⟨fun h => hall ((f : Int) + as.length - x).toNat x h (by have := hm x hx; omega), fun h => h1.subset h⟩
end Go.Cut

set_option linter.unusedSimpArgs false
set_option linter.unusedVariables false
namespace Go.Cut
open Go.Abs
theorem free_eq {g : AigD} {l : List Int} {node : Int} : FreeQ g l node = FreeR g l node := by
  unfold FreeQ FreeR
  by_cases he : (ConeR g l node).2 = 0
  · rw [if_pos he, if_pos he]
    congr 1
    have hc : chkE g = 0 := by
      by_cases hc : chkE g = 0
      · exact hc
      · exact absurd (by unfold ConeR at he; rw [if_neg hc] at he; exact he) hc
    have hV := valid_of hc
    have hinp := hV.inp
    obtain ⟨f, hfd⟩ : ∃ f, f = (firstC g).toNat := ⟨_, rfl⟩
    have hff : firstC g = (f : Int) := by unfold firstC at hfd ⊢; omega
    have hR : ConeR g l node = coneE f g.as l node := by simp [ConeR, hc, hfd]
    rw [hR, ← hfd]
    rw [hR] at he
    obtain ⟨hn0, hn1⟩ := coneE_node he
    obtain ⟨m, rfl⟩ : ∃ m : Nat, node = m := ⟨node.toNat, by omega⟩
    rw [Int.toNat_natCast]
    have hmem := (coneE_mem f g.as l m).1
    have hchk : chkA f g.as = true := by have := hV.ands; rwa [hff] at this
    have hasc : (coneE f g.as l m).1.Pairwise (· < ·) := by
      unfold coneE
      split
      · unfold coneR
        split
        · exact .nil
        · rename_i o ho
          obtain ⟨o', h1, h2, h3⟩ := coneL_desc f g.as l _ _ _ _ ho
          rw [h1, List.nil_append]
          exact List.pairwise_reverse.2 h2
      · exact .nil
    obtain ⟨cl, hcl⟩ : ∃ cl, cl = (coneE f g.as l m).1 := ⟨_, rfl⟩
    rw [← hcl] at hmem hasc ⊢
    obtain ⟨i1, i2, i3⟩ := freeS_law (below_of hchk) (useF g m) cl hasc hmem
    have hsub : (freeS f g.as (useF g m) cl).2.reverse.Sublist cl := by
      have := List.reverse_sublist.2 i2
      rwa [List.reverse_reverse] at this
    have hall : ∀ n, cntF (andLits g.as) n ≤ cntF (allLits g) n := fun n => by unfold allLits; rw [cntF_append, cntF_append]; omega
    refine freeQ_eq (below_of hchk) hasc hmem hsub (fun h => ?_) hall fun v hv hne => ?_
    · exact List.mem_reverse.2 ((i3 m h).2 (by unfold leftF useF; rw [if_pos rfl]; omega))
    · obtain ⟨n, rfl⟩ : ∃ n : Nat, v = n := ⟨v.toNat, by have := hmem v hv; omega⟩
      have hnm : n ≠ m := by rintro rfl; exact hne rfl
      rw [List.mem_reverse, i3 n hv, cntF_rev, ← i1, Int.toNat_natCast]
      have hle := ops_le (f := f) (as := g.as) n (freeS f g.as (useF g m) cl).2 g.as.length ((List.pairwise_reverse.2 (by simpa using hasc)).sublist i2) (fun x hx => hmem x (List.mem_reverse.1 (i2.subset hx))) (Nat.le_refl _)
      rw [← i1, List.take_length] at hle
      have := hall n
      have hu : useF g m n = (cntF (allLits g) n : Int) := by unfold useF; rw [if_neg hnm]
      unfold leftF
      rw [hu]
      omega
  · rw [if_neg he, if_neg he]
end Go.Cut

