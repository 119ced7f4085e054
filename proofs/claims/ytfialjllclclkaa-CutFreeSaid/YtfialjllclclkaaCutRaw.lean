/- Cuts: what the program's functions reckon, as written (no program here). -/
import Derived.Test.YtfialjllclclkaaAbArgs2
import Derived.IntWalk
set_option linter.unusedSimpArgs false
set_option linter.unusedVariables false
namespace Go.Cut
open Go.Abs
/-- A graph as data. -/
structure AigD where
  inp : Int
  ls : List (Int × Int)
  as : List (Int × Int)
  os : List Int
def ints (l : List Int) : List Value := l.map (Value.int .i64 ·)
def AigAt (σ : AHeap) (v : Value) (g : AigD) : Prop :=
  ∃ lv av ov, v = .agg #[.int .i64 g.inp, lv, av, ov] ∧ RowsAt σ 2 lv (pairsV .i64 .u8 g.ls) ∧ RowsAt σ 2 av (pairsV .i64 .i64 g.as) ∧ SlAt σ ov (ints g.os)
theorem AigAt.mono {σ σ' : AHeap} {v : Value} {g : AigD} (h : AigAt σ v g) (hl : σ.le σ') : AigAt σ' v g := by
  obtain ⟨lv, av, ov, h1, h2, h3, h4⟩ := h
  exact ⟨lv, av, ov, h1, h2.mono hl, h3.mono hl, h4.mono hl⟩
theorem AigAt.opn {σ : AHeap} {v : Value} {g : AigD} (h : AigAt σ v g) : ∃ lb lc ab ac ob oc, v = .agg #[.int .i64 g.inp, .slice lb g.ls.length lc, .slice ab g.as.length ac, .slice ob g.os.length oc] ∧
    RowsAt σ 2 (.slice lb g.ls.length lc) (pairsV .i64 .u8 g.ls) ∧ RowsAt σ 2 (.slice ab g.as.length ac) (pairsV .i64 .i64 g.as) ∧ SlAt σ (.slice ob g.os.length oc) (ints g.os) := by
  obtain ⟨lv, av, ov, rfl, hl, ha, ho⟩ := h
  obtain ⟨lb, lc, rfl⟩ := hl.len
  obtain ⟨ab, ac, rfl⟩ := ha.len
  obtain ⟨ob, oc, rfl⟩ := ho.len
  have e1 : (pairsV .i64 .u8 g.ls).length = g.ls.length := by simp [pairsV]
  have e2 : (pairsV .i64 .i64 g.as).length = g.as.length := by simp [pairsV]
  have e3 : (ints g.os).length = g.os.length := by simp [ints]
  rw [e1] at hl ⊢
  rw [e2] at ha ⊢
  rw [e3] at ho ⊢
  exact ⟨lb, lc, ab, ac, ob, oc, rfl, hl, ha, ho⟩
/-- Few registers, Ands and outputs. -/
structure Few (g : AigD) : Prop where
  ls : g.ls.length ≤ 64
  as : g.as.length ≤ 200
  os : g.os.length ≤ 64
def firstC (g : AigD) : Int := 1 + g.inp + g.ls.length
def sizeC (g : AigD) : Int := firstC g + g.as.length
def inR (x n : Int) : Bool := decide (0 ≤ x) && decide (x < 2 * n)
def chkA : Int → List (Int × Int) → Bool
  | _, [] => true
  | n, x :: l => (inR x.1 n && inR x.2 n) && chkA (n + 1) l
def chkL (n : Int) (l : List (Int × Int)) : Bool := l.all fun x => inR x.1 n && decide (x.2 ≤ 1)
def chkO (n : Int) (l : List Int) : Bool := l.all fun x => inR x n
def chkE (g : AigD) : Int :=
  if g.inp < 0 then 1 else if 4096 < g.inp ∨ 4096 < sizeC g ∨ 4096 < (g.os.length : Int) then 5
  else if (chkA (firstC g) g.as && (chkL (sizeC g) g.ls && chkO (sizeC g) g.os)) = true then 0 else 1
/-- The number of the first And, as reckoned. -/
def openF (g : AigD) : Int := IntKind.i64.wrap (IntKind.i64.wrap (1 + g.inp) + g.ls.length)
def graphV (lb : Option Addr) (lc : Nat) (ab : Option Addr) (ac : Nat) (ob : Option Addr) (oc : Nat) (g : AigD) (f : Int) : Value :=
  .agg #[.int .i64 g.inp, .slice lb g.ls.length lc, .slice ab g.as.length ac, .slice ob g.os.length oc, .int .i64 f]
/-- A leaf set's error. -/
def lfGo (n : Int) : Int → List Int → Int
  | _, [] => 0
  | last, v :: l => if v ≤ last ∨ n ≤ v then 1 else lfGo n v l
def leafE (n node : Int) (l : List Int) : Int := if node < 0 ∨ n ≤ node then 1 else if 4 < (l.length : Int) then 5 else lfGo n 0 l
/-- The cone's loop: nodes from v down; used: what is used so far. -/
def coneL (f : Nat) (as : List (Int × Int)) (lv : List Int) : Nat → (Nat → Bool) → List Int → Option (List Int)
  | 0, _, out => some out
  | v + 1, u, out =>
    if u (v + 1) = false ∨ ((v + 1 : Nat) : Int) ∈ lv then coneL f as lv v u out
    else if v + 1 < f then none
    else coneL f as lv v (fun k => u k || (k == (as.getD (v + 1 - f) (0, 0)).1.toNat / 2 || k == (as.getD (v + 1 - f) (0, 0)).2.toNat / 2)) (out ++ [((v + 1 : Nat) : Int)])
def coneR (f : Nat) (as : List (Int × Int)) (lv : List Int) (node : Nat) : List Int × Int :=
  match coneL f as lv node (fun k => k == node) [] with
  | none => ([], 8)
  | some out => (out.reverse, 0)
def coneE (f : Nat) (as : List (Int × Int)) (lv : List Int) (node : Int) : List Int × Int :=
  if leafE ((f : Int) + as.length) node lv = 0 then coneR f as lv node.toNat else ([], leafE ((f : Int) + as.length) node lv)
def bools (u : Nat → Bool) (n : Nat) : List Value := (List.range n).map fun k => .bool (u k)
theorem bools_len (u : Nat → Bool) (n : Nat) : (bools u n).length = n := by simp [bools]
theorem bools_get (u : Nat → Bool) {n k : Nat} (h : k < n) : (bools u n)[k]? = some (.bool (u k)) := by simp [bools, h]
theorem bools_set (u : Nat → Bool) (n k : Nat) : (bools u n).set k (.bool true) = bools (fun j => u j || j == k) n := by
  apply List.ext_getElem?
  intro j
  by_cases hj : j < n
  · rw [bools_get _ hj, List.getElem?_set]
    by_cases e : k = j
    · subst e; simp [bools_len, hj]
    · rw [if_neg e, bools_get _ hj]
      have : (j == k) = false := by simp; omega
      simp [this]
  · rw [List.getElem?_eq_none (by rw [List.length_set, bools_len]; omega), List.getElem?_eq_none (by rw [bools_len]; omega)]
theorem bools_flat (u : Nat → Bool) (n : Nat) : (bools u n).all flat = true := by simp [bools, flat, flat0]
theorem bools_zero (n : Nat) : zerosA (spread (.bool false)) (n * 1) = bools (fun _ => false) n := by
  apply List.ext_getElem?
  intro j
  simp [zerosA, spread, bools, Nat.mod_one]
def ConeR (g : AigD) (l : List Int) (node : Int) : List Int × Int := if chkE g = 0 then coneE (firstC g).toNat g.as l node else ([], chkE g)
structure Valid (g : AigD) : Prop where
  inp : 0 ≤ g.inp
  size : sizeC g ≤ 4096
  ands : chkA (firstC g) g.as = true
  latches : chkL (sizeC g) g.ls = true
  outs : chkO (sizeC g) g.os = true
theorem valid_of {g : AigD} (h : chkE g = 0) : Valid g := by
  unfold chkE at h
  split at h
  · cases h
  · split at h
    · cases h
    · split at h
      · rename_i h1 h2 h3
        simp only [Bool.and_eq_true] at h3
        exact ⟨by omega, by omega, h3.1, h3.2.1, h3.2.2⟩
      · cases h
theorem openF_valid {g : AigD} (h : Valid g) (hf : Few g) : openF g = firstC g := by
  have h1 := h.inp
  have h2 := h.size
  have h3 := hf.ls
  unfold sizeC firstC at h2
  unfold openF firstC
  rw [IntWalk.i64_in (1 + g.inp) (by omega), IntWalk.i64_in _ (by omega)]
theorem chkE_ne (g : AigD) : chkE g = 0 ∨ chkE g = 1 ∨ chkE g = 5 := by
  unfold chkE
  split
  · exact .inr (.inl rfl)
  · split
    · exact .inr (.inr rfl)
    · split
      · exact .inl rfl
      · exact .inr (.inl rfl)
def nums (c : Nat → Nat) (n : Nat) : List Value := (List.range n).map fun k => .int .i64 (c k : Nat)
theorem nums_len (c : Nat → Nat) (n : Nat) : (nums c n).length = n := by simp [nums]
theorem nums_get (c : Nat → Nat) {n k : Nat} (h : k < n) : (nums c n)[k]? = some (.int .i64 (c k : Nat)) := by simp [nums, h]
theorem nums_flat (c : Nat → Nat) (n : Nat) : (nums c n).all flat = true := by simp [nums, flat, flat0]
theorem nums_zero (n : Nat) : zerosA (spread (.int .i64 0)) (n * 1) = nums (fun _ => 0) n := by
  apply List.ext_getElem?
  intro j
  simp [zerosA, spread, nums, Nat.mod_one]
theorem nums_ext {c d : Nat → Nat} {n : Nat} (h : ∀ k, k < n → c k = d k) : nums c n = nums d n := by
  unfold nums
  apply List.map_congr_left
  intro k hk
  rw [h k (by simpa using hk)]
/-- How many of the literals lead to a node. -/
def cntF (p : List Int) (k : Nat) : Nat := p.countP fun x => x.toNat / 2 == k
theorem cntF_le (p : List Int) (k : Nat) : cntF p k ≤ p.length := List.countP_le_length
theorem cntF_snoc (p : List Int) (x : Int) (k : Nat) : cntF (p ++ [x]) k = cntF p k + (if x.toNat / 2 = k then 1 else 0) := by
  simp [cntF, List.countP_append, List.countP_cons]
theorem nums_bump (p : List Int) (x : Int) (n : Nat) : (nums (cntF p) n).set (x.toNat / 2) (.int .i64 ((cntF p (x.toNat / 2) : Nat) + 1 : Int)) = nums (cntF (p ++ [x])) n := by
  apply List.ext_getElem?
  intro j
  by_cases hj : j < n
  · rw [nums_get _ hj, List.getElem?_set, cntF_snoc]
    by_cases e : x.toNat / 2 = j
    · subst e; simp [nums_len, hj]
    · rw [if_neg e, if_neg e, nums_get _ hj]; rfl
  · rw [List.getElem?_eq_none (by rw [List.length_set, nums_len]; omega), List.getElem?_eq_none (by rw [nums_len]; omega)]
def andLits (l : List (Int × Int)) : List Int := l.flatMap fun x => [x.1, x.2]
theorem andLits_len (l : List (Int × Int)) : (andLits l).length = 2 * l.length := by
  induction l with
  | nil => rfl
  | cons x l ih => simp [andLits] at ih ⊢; omega
def allLits (g : AigD) : List Int := andLits g.as ++ g.ls.map (·.1) ++ g.os
theorem take_snoc {α : Type} (l : List α) {j : Nat} (h : j < l.length) : l.take (j + 1) = l.take j ++ [l[j]] := by
  rw [List.take_add_one, List.getElem?_eq_getElem h]; rfl
theorem chkL_get {n : Int} {l : List (Int × Int)} (h : chkL n l = true) {j : Nat} (hj : j < l.length) : 0 ≤ l[j].1 ∧ l[j].1 < 2 * n := by
  have := List.all_eq_true.1 h _ (List.getElem_mem hj)
  simp only [inR, Bool.and_eq_true, decide_eq_true_eq] at this
  exact this.1
theorem chkO_get {n : Int} {l : List Int} (h : chkO n l = true) {j : Nat} (hj : j < l.length) : 0 ≤ l[j] ∧ l[j] < 2 * n := by
  have := List.all_eq_true.1 h _ (List.getElem_mem hj)
  simpa only [inR, Bool.and_eq_true, decide_eq_true_eq] using this
/-- What a valid graph's Ands bear. -/
theorem chkA_get : ∀ {n : Int} {l : List (Int × Int)}, chkA n l = true → ∀ {j : Nat} (hj : j < l.length), 0 ≤ l[j].1 ∧ l[j].1 < 2 * (n + j) ∧ 0 ≤ l[j].2 ∧ l[j].2 < 2 * (n + j)
  | n, x :: l, h, 0, hj => by
    simp only [chkA, inR, Bool.and_eq_true, decide_eq_true_eq] at h
    simp only [List.getElem_cons_zero]
    omega
  | n, x :: l, h, j + 1, hj => by
    simp only [chkA, Bool.and_eq_true] at h
    have := chkA_get h.2 (j := j) (by simpa using hj)
    simp only [List.getElem_cons_succ]
    omega
end Go.Cut
