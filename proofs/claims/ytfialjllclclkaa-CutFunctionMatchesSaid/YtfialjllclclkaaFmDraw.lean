/- Shaken texts of the layer and of the walks. -/
import Derived.Test.YtfialjllclclkaaFmSteps
import Derived.Still
namespace Go.Abs
section
variable {r : Bool} {P : Program} {n : Nat} {env : Env} {N : Nat} {σ : AHeap} {ι : Ren} {ops : Array Oper}

def deps (ops : Array Oper) (i : Nat) : List Nat :=
  match ops[i]? with
  | some o => o.after.toList.filterMap fun e => if Region.binds .any e then some e.on else none
  | none => []
def upd (S : Nat → Bool) (i : Nat) : Nat → Bool := fun j => if j = i then true else S j
def dstOf (ops : Array Oper) (i : Nat) : Option Tmp := (ops[i]?).bind (·.dst)
def getS (ops : Array Oper) (vals : List Value) (S : Nat → Bool) : List Nat → Env → Nat → Option Value
  | [], env, x => env.get x
  | i :: l, env, x => if dstOf ops i = some x then (if S i = true then some (vals.getD i undef) else getS ops vals S l env x) else getS ops vals S l env x
def onceB (ops : Array Oper) : Bool := (List.range ops.size).all fun i => (List.range ops.size).all fun j => decide (i = j) || match dstOf ops i, dstOf ops j with
  | some t, some u => !decide (t = u)
  | _, _ => true
theorem onceB_spec (h : onceB ops = true) {i j : Nat} {t : Tmp} (hi : dstOf ops i = some t) (hj : dstOf ops j = some t) : i = j := by
  have lt : ∀ {i : Nat}, dstOf ops i = some t → i < ops.size := by
    intro i hi
    unfold dstOf at hi
    rcases Nat.lt_or_ge i ops.size with h' | h'
    · exact h'
    · simp [Array.getElem?_eq_none h'] at hi
  unfold onceB at h
  rw [List.all_eq_true] at h
  have h1 := h i (List.mem_range.2 (lt hi))
  rw [List.all_eq_true] at h1
  have h2 := h1 j (List.mem_range.2 (lt hj))
  simp only [hi, hj, decide_true, Bool.not_true, Bool.or_false, decide_eq_true_eq] at h2
  exact h2
theorem getS_upd (h : onceB ops = true) (vals : List Value) (S : Nat → Bool) (i : Nat) (x : Nat) : ∀ (l : List Nat) (env : Env), i ∈ l →
    getS ops vals (upd S i) l env x = if dstOf ops i = some x then some (vals.getD i undef) else getS ops vals S l env x := by
  intro l
  induction l with
  | nil => intro env hm; cases hm
  | cons j l ih =>
    intro env hm
    simp only [getS]
    by_cases hj : dstOf ops j = some x
    · rw [if_pos hj, if_pos hj]
      by_cases hi : dstOf ops i = some x
      · have : j = i := onceB_spec h hj hi
        subst this
        rw [if_pos hi]; simp [upd]
      · have hne : j ≠ i := fun e => hi (e ▸ hj)
        rw [if_neg hi]
        simp only [upd, hne, if_false]
        split
        · rfl
        · rcases List.mem_cons.1 hm with e | hm'
          · exact absurd e.symm hne
          · rw [ih env hm', if_neg hi]
    · rw [if_neg hj, if_neg hj]
      rcases List.mem_cons.1 hm with e | hm'
      · subst e
        rw [if_neg hj]
        -- the slot is none of i's: S's update is not seen
        have : ∀ l' : List Nat, getS ops vals (upd S i) l' env x = getS ops vals S l' env x := by
          intro l'
          induction l' with
          | nil => rfl
          | cons k l' ih' =>
            simp only [getS]
            by_cases hk : dstOf ops k = some x
            · have hne : k ≠ i := fun e => hj (e ▸ hk)
              simp only [upd, hne, if_false, ih', if_pos hk]
            · simp only [if_neg hk, ih']
        exact this l
      · exact ih env hm'

structure EnvG (ι : Ren) (n : Nat) (ds : List Deferred) (g : Nat → Option Value) (a : Act) : Prop where
  size : a.tmps.size = n
  defers : a.defers = ds
  get : ∀ t v, g t = some v → ∃ v', a.tmps[t]? = some v' ∧ VRel ι v v'

theorem getS_writer (h : onceB ops = true) {vals : List Value} {S : Nat → Bool} {d x : Nat} (hd : dstOf ops d = some x) : ∀ (l : List Nat), d ∈ l →
    getS ops vals S l env x = if S d = true then some (vals.getD d undef) else env.get x := by
  intro l
  have later : ∀ l' : List Nat, S d ≠ true → getS ops vals S l' env x = env.get x := by
    intro l' hS
    induction l' with
    | nil => rfl
    | cons j l' ih =>
      simp only [getS]
      by_cases hj : dstOf ops j = some x
      · have : j = d := onceB_spec h hj hd
        subst this
        rw [if_pos hj, if_neg hS]; exact ih
      · rw [if_neg hj]; exact ih
  by_cases hS : S d = true
  · rw [if_pos hS]
    induction l with
    | nil => intro hm; cases hm
    | cons j l ih =>
      intro hm
      simp only [getS]
      by_cases hj : dstOf ops j = some x
      · have : j = d := onceB_spec h hj hd
        subst this
        rw [if_pos hj, if_pos hS]
      · rw [if_neg hj]
        rcases List.mem_cons.1 hm with e | hm'
        · subst e; exact absurd hd hj
        · exact ih hm'
  · rw [if_neg hS]; exact fun _ => later l hS
def Knows (ops : Array Oper) (vals : List Value) (env : Env) (S : Nat → Bool) (e : Env) : Prop := ∀ t v, e.get t = some v → getS ops vals S (List.range ops.size) env t = some v
end
end Go.Abs

