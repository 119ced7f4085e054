/- Shaken texts of the layer and of the walks. -/
import Derived.Test.YtfialjllclclkaaFmEqs
set_option linter.unusedVariables false
namespace Go.Abs

inductive BTrie (α : Type) where
  | leaf
  | node (v : Option α) (l r : BTrie α)

namespace BTrie
variable {α : Type}
def single : Nat → Nat → α → BTrie α
  | _, 0, v => .node (some v) .leaf .leaf
  | 0, _ + 1, _ => .leaf
  | f + 1, k + 1, v => bif Nat.beq (k % 2) 0 then .node none (single f (k / 2) v) .leaf else .node none .leaf (single f (k / 2) v)
def get : BTrie α → Nat → Option α
  | .leaf, _ => none
  | .node v _ _, 0 => v
  | .node _ l r, k + 1 => bif Nat.beq (k % 2) 0 then l.get (k / 2) else r.get (k / 2)
def put : BTrie α → Nat → α → BTrie α
  | .leaf, k, v => single k k v
  | .node _ l r, 0, v => .node (some v) l r
  | .node x l r, k + 1, v => bif Nat.beq (k % 2) 0 then .node x (l.put (k / 2) v) r else .node x l (r.put (k / 2) v)
def del : BTrie α → Nat → BTrie α
  | .leaf, _ => .leaf
  | .node _ l r, 0 => .node none l r
  | .node x l r, k + 1 => bif Nat.beq (k % 2) 0 then .node x (l.del (k / 2)) r else .node x l (r.del (k / 2))

theorem single_get : ∀ (f k : Nat) (v : α), k ≤ f → ∀ j, (single f k v).get j = if j = k then some v else none
  | f, 0, v, _, j => by
    unfold single
    cases j with
    | zero => simp [get]
    | succ j => simp [get]
  | 0, k + 1, v, h, j => by omega
  | f + 1, k + 1, v, h, j => by
    have ih := single_get f (k / 2) v (by omega)
    unfold single
    cases hk : Nat.beq (k % 2) 0 with
    | true =>
      have hk : k % 2 = 0 := Nat.eq_of_beq_eq_true hk
      cases j with
      | zero => simp [get]
      | succ j =>
        simp only [cond_true, get]
        cases hj : Nat.beq (j % 2) 0 with
        | true =>
          have hj : j % 2 = 0 := Nat.eq_of_beq_eq_true hj
          rw [cond_true, ih]
          have : j / 2 = k / 2 ↔ j + 1 = k + 1 := by omega
          simp only [this]
        | false =>
          have hj : j % 2 ≠ 0 := fun h => by rw [h] at hj; simp at hj
          rw [cond_false, if_neg (by omega)]
    | false =>
      have hk : k % 2 ≠ 0 := fun h => by rw [h] at hk; simp at hk
      cases j with
      | zero => simp [get]
      | succ j =>
        simp only [cond_false, get]
        cases hj : Nat.beq (j % 2) 0 with
        | true =>
          have hj : j % 2 = 0 := Nat.eq_of_beq_eq_true hj
          rw [cond_true, if_neg (by omega)]
        | false =>
          have hj : j % 2 ≠ 0 := fun h => by rw [h] at hj; simp at hj
          rw [cond_false, ih]
          have : j / 2 = k / 2 ↔ j + 1 = k + 1 := by omega
          simp only [this]
theorem put_get : ∀ (t : BTrie α) (k : Nat) (v : α) (j : Nat), (t.put k v).get j = if j = k then some v else t.get j
  | .leaf, k, v, j => by rw [put, single_get k k v (Nat.le_refl _)]; rfl
  | .node x l r, 0, v, j => by cases j <;> simp [put, get]
  | .node x l r, k + 1, v, j => by
    have h1 := put_get l (k / 2) v
    have h2 := put_get r (k / 2) v
    unfold put
    cases hk : Nat.beq (k % 2) 0 with
    | true =>
      have hk : k % 2 = 0 := Nat.eq_of_beq_eq_true hk
      cases j with
      | zero => simp [get]
      | succ j =>
        simp only [cond_true, get]
        cases hj : Nat.beq (j % 2) 0 with
        | true =>
          have hj : j % 2 = 0 := Nat.eq_of_beq_eq_true hj
          rw [cond_true, h1]
          have : j / 2 = k / 2 ↔ j + 1 = k + 1 := by omega
          simp only [this, cond_true]
        | false =>
          have hj : j % 2 ≠ 0 := fun h => by rw [h] at hj; simp at hj
          rw [cond_false, if_neg (by omega), cond_false]
    | false =>
      have hk : k % 2 ≠ 0 := fun h => by rw [h] at hk; simp at hk
      cases j with
      | zero => simp [get]
      | succ j =>
        simp only [cond_false, get]
        cases hj : Nat.beq (j % 2) 0 with
        | true =>
          have hj : j % 2 = 0 := Nat.eq_of_beq_eq_true hj
          rw [cond_true, if_neg (by omega), cond_true]
        | false =>
          have hj : j % 2 ≠ 0 := fun h => by rw [h] at hj; simp at hj
          rw [cond_false, h2]
          have : j / 2 = k / 2 ↔ j + 1 = k + 1 := by omega
          simp only [this, cond_false]
theorem del_get : ∀ (t : BTrie α) (k : Nat) (j : Nat), (t.del k).get j = if j = k then none else t.get j
  | .leaf, k, j => by simp [del, get]
  | .node x l r, 0, j => by cases j <;> simp [del, get]
  | .node x l r, k + 1, j => by
    have h1 := del_get l (k / 2)
    have h2 := del_get r (k / 2)
    unfold del
    cases hk : Nat.beq (k % 2) 0 with
    | true =>
      have hk : k % 2 = 0 := Nat.eq_of_beq_eq_true hk
      cases j with
      | zero => simp [get]
      | succ j =>
        simp only [cond_true, get]
        cases hj : Nat.beq (j % 2) 0 with
        | true =>
          have hj : j % 2 = 0 := Nat.eq_of_beq_eq_true hj
          rw [cond_true, h1]
          have : j / 2 = k / 2 ↔ j + 1 = k + 1 := by omega
          simp only [this, cond_true]
        | false =>
          have hj : j % 2 ≠ 0 := fun h => by rw [h] at hj; simp at hj
          rw [cond_false, if_neg (by omega), cond_false]
    | false =>
      have hk : k % 2 ≠ 0 := fun h => by rw [h] at hk; simp at hk
      cases j with
      | zero => simp [get]
      | succ j =>
        simp only [cond_false, get]
        cases hj : Nat.beq (j % 2) 0 with
        | true =>
          have hj : j % 2 = 0 := Nat.eq_of_beq_eq_true hj
          rw [cond_true, if_neg (by omega), cond_true]
        | false =>
          have hj : j % 2 ≠ 0 := fun h => by rw [h] at hj; simp at hj
          rw [cond_false, h2]
          have : j / 2 = k / 2 ↔ j + 1 = k + 1 := by omega
          simp only [this, cond_false]
end BTrie


structure N8 (α : Type) where
  (a0 a1 a2 a3 a4 a5 a6 a7 : α)
structure Dig where
  get : {α : Type} → N8 α → α
  upd : {α β : Type} → N8 α → (α → (α → β) → β) → (N8 α → β) → β
noncomputable def dig0 : Dig := ⟨fun {α} t => N8.rec (motive := fun _ => α) (fun a0 a1 a2 a3 a4 a5 a6 a7 => a0) t, fun {α β} t f K => N8.rec (motive := fun _ => β) (fun a0 a1 a2 a3 a4 a5 a6 a7 => f a0 fun x => K ⟨x, a1, a2, a3, a4, a5, a6, a7⟩) t⟩
noncomputable def dig1 : Dig := ⟨fun {α} t => N8.rec (motive := fun _ => α) (fun a0 a1 a2 a3 a4 a5 a6 a7 => a1) t, fun {α β} t f K => N8.rec (motive := fun _ => β) (fun a0 a1 a2 a3 a4 a5 a6 a7 => f a1 fun x => K ⟨a0, x, a2, a3, a4, a5, a6, a7⟩) t⟩
noncomputable def dig2 : Dig := ⟨fun {α} t => N8.rec (motive := fun _ => α) (fun a0 a1 a2 a3 a4 a5 a6 a7 => a2) t, fun {α β} t f K => N8.rec (motive := fun _ => β) (fun a0 a1 a2 a3 a4 a5 a6 a7 => f a2 fun x => K ⟨a0, a1, x, a3, a4, a5, a6, a7⟩) t⟩
noncomputable def dig3 : Dig := ⟨fun {α} t => N8.rec (motive := fun _ => α) (fun a0 a1 a2 a3 a4 a5 a6 a7 => a3) t, fun {α β} t f K => N8.rec (motive := fun _ => β) (fun a0 a1 a2 a3 a4 a5 a6 a7 => f a3 fun x => K ⟨a0, a1, a2, x, a4, a5, a6, a7⟩) t⟩
noncomputable def dig4 : Dig := ⟨fun {α} t => N8.rec (motive := fun _ => α) (fun a0 a1 a2 a3 a4 a5 a6 a7 => a4) t, fun {α β} t f K => N8.rec (motive := fun _ => β) (fun a0 a1 a2 a3 a4 a5 a6 a7 => f a4 fun x => K ⟨a0, a1, a2, a3, x, a5, a6, a7⟩) t⟩
noncomputable def dig5 : Dig := ⟨fun {α} t => N8.rec (motive := fun _ => α) (fun a0 a1 a2 a3 a4 a5 a6 a7 => a5) t, fun {α β} t f K => N8.rec (motive := fun _ => β) (fun a0 a1 a2 a3 a4 a5 a6 a7 => f a5 fun x => K ⟨a0, a1, a2, a3, a4, x, a6, a7⟩) t⟩
noncomputable def dig6 : Dig := ⟨fun {α} t => N8.rec (motive := fun _ => α) (fun a0 a1 a2 a3 a4 a5 a6 a7 => a6) t, fun {α β} t f K => N8.rec (motive := fun _ => β) (fun a0 a1 a2 a3 a4 a5 a6 a7 => f a6 fun x => K ⟨a0, a1, a2, a3, a4, a5, x, a7⟩) t⟩
noncomputable def dig7 : Dig := ⟨fun {α} t => N8.rec (motive := fun _ => α) (fun a0 a1 a2 a3 a4 a5 a6 a7 => a7) t, fun {α β} t f K => N8.rec (motive := fun _ => β) (fun a0 a1 a2 a3 a4 a5 a6 a7 => f a7 fun x => K ⟨a0, a1, a2, a3, a4, a5, a6, x⟩) t⟩
noncomputable def dig : Nat → Dig
  | 0 => dig0
  | 1 => dig1
  | 2 => dig2
  | 3 => dig3
  | 4 => dig4
  | 5 => dig5
  | 6 => dig6
  | _ => dig7
theorem dig_upd {α β : Type} (d : Nat) (t : N8 α) {f : α → (α → β) → β} {x : α} (hf : ∀ K, f ((dig d).get t) K = K x) (K : N8 α → β) :
    (dig d).upd t f K = K ((dig d).upd t (fun _ K => K x) id) := by
  match d with
  | 0 | 1 | 2 | 3 | 4 | 5 | 6 | n + 7 => exact hf _
theorem dig_get {α : Type} (d e : Nat) (hd : d < 8) (he : e < 8) (t : N8 α) (x : α) : (dig e).get ((dig d).upd t (fun _ K => K x) id) = if e = d then x else (dig e).get t := by
  have hd : d = 0 ∨ d = 1 ∨ d = 2 ∨ d = 3 ∨ d = 4 ∨ d = 5 ∨ d = 6 ∨ d = 7 := by omega
  have he : e = 0 ∨ e = 1 ∨ e = 2 ∨ e = 3 ∨ e = 4 ∨ e = 5 ∨ e = 6 ∨ e = 7 := by omega
  rcases hd with rfl | rfl | rfl | rfl | rfl | rfl | rfl | rfl <;> rcases he with rfl | rfl | rfl | rfl | rfl | rfl | rfl | rfl <;> rfl
def full {α : Type} (x : α) : N8 α := ⟨x, x, x, x, x, x, x, x⟩
theorem dig_full {α : Type} (d : Nat) (x : α) : (dig d).get (full x) = x := by
  match d with
  | 0 | 1 | 2 | 3 | 4 | 5 | 6 | n + 7 => rfl

structure Trie (α : Type) where
  a : N8 (N8 (Option α))
  b : N8 (N8 (N8 (Option α)))
  c : N8 (N8 (N8 (N8 (Option α))))
  d : BTrie α
structure Pth where
  get : {α : Type} → Trie α → Option α
  set : {α : Type} → Trie α → Option α → Trie α
noncomputable def pth2 (i j : Dig) : Pth :=
  ⟨fun {α} t => j.get (i.get (Trie.rec (motive := fun _ => N8 (N8 (Option α))) (fun a _ _ _ => a) t)),
   fun {α} t v => Trie.rec (motive := fun _ => Trie α) (fun a b c d => i.upd a (fun s K => j.upd s (fun _ K => K v) K) fun a => ⟨a, b, c, d⟩) t⟩
noncomputable def pth3 (i j k : Dig) : Pth :=
  ⟨fun {α} t => k.get (j.get (i.get (Trie.rec (motive := fun _ => N8 (N8 (N8 (Option α)))) (fun _ b _ _ => b) t))),
   fun {α} t v => Trie.rec (motive := fun _ => Trie α) (fun a b c d => i.upd b (fun s K => j.upd s (fun s K => k.upd s (fun _ K => K v) K) K) fun b => ⟨a, b, c, d⟩) t⟩
noncomputable def pth4 (i j k l : Dig) : Pth :=
  ⟨fun {α} t => l.get (k.get (j.get (i.get (Trie.rec (motive := fun _ => N8 (N8 (N8 (N8 (Option α))))) (fun _ _ c _ => c) t)))),
   fun {α} t v => Trie.rec (motive := fun _ => Trie α) (fun a b c d => i.upd c (fun s K => j.upd s (fun s K => k.upd s (fun s K => l.upd s (fun _ K => K v) K) K) K) fun c => ⟨a, b, c, d⟩) t⟩
def BTrie.set {α : Type} (t : BTrie α) (k : Nat) (v : Option α) : BTrie α := match v with
  | some v => t.put k v
  | none => t.del k
theorem BTrie.set_get {α : Type} (t : BTrie α) (k : Nat) (v : Option α) (j : Nat) : (t.set k v).get j = if j = k then v else t.get j := by
  cases v with
  | some v => exact t.put_get k v j
  | none => exact t.del_get k j
noncomputable def pthO (k : Nat) : Pth := ⟨fun t => t.d.get k, fun {α} t v => Trie.rec (motive := fun _ => Trie α) (fun a b c d => ⟨a, b, c, d.set k v⟩) t⟩
noncomputable def pth (k : Nat) : Pth :=
  bif Nat.blt k 64 then pth2 (dig (k / 8)) (dig (k % 8))
  else bif Nat.blt k 576 then pth3 (dig ((k - 64) / 64)) (dig ((k - 64) / 8 % 8)) (dig ((k - 64) % 8))
  else bif Nat.blt k 4672 then pth4 (dig ((k - 576) / 512)) (dig ((k - 576) / 64 % 8)) (dig ((k - 576) / 8 % 8)) (dig ((k - 576) % 8))
  else pthO k
namespace Trie
variable {α : Type}
def leaf : Trie α := ⟨full (full none), full (full (full none)), full (full (full (full none))), .leaf⟩
noncomputable def get (t : Trie α) (k : Nat) : Option α := (pth k).get t
noncomputable def put (t : Trie α) (k : Nat) (v : α) : Trie α := (pth k).set t (some v)
noncomputable def del (t : Trie α) (k : Nat) : Trie α := (pth k).set t none
theorem blt_eq (k n : Nat) : Nat.blt k n = decide (k < n) := by
  by_cases h : k < n
  · rw [decide_eq_true h]; simpa using h
  · rw [decide_eq_false h]; cases e : Nat.blt k n with
    | false => rfl
    | true => exact absurd (by simpa using e) h
theorem pth_cases (k : Nat) : (k < 64 ∧ pth k = pth2 (dig (k / 8)) (dig (k % 8))) ∨ (64 ≤ k ∧ k < 576 ∧ pth k = pth3 (dig ((k - 64) / 64)) (dig ((k - 64) / 8 % 8)) (dig ((k - 64) % 8))) ∨
    (576 ≤ k ∧ k < 4672 ∧ pth k = pth4 (dig ((k - 576) / 512)) (dig ((k - 576) / 64 % 8)) (dig ((k - 576) / 8 % 8)) (dig ((k - 576) % 8))) ∨ (4672 ≤ k ∧ pth k = pthO k) := by
  unfold pth
  simp only [blt_eq]
  by_cases h1 : k < 64
  · exact .inl ⟨h1, by simp [h1]⟩
  · by_cases h2 : k < 576
    · exact .inr (.inl ⟨by omega, h2, by simp [h1, h2]⟩)
    · by_cases h3 : k < 4672
      · exact .inr (.inr (.inl ⟨by omega, h3, by simp [h1, h2, h3]⟩))
      · exact .inr (.inr (.inr ⟨by omega, by simp [h1, h2, h3]⟩))
theorem pth2_get (i j : Dig) (a : N8 (N8 (Option α))) (b c d) : (pth2 i j).get ⟨a, b, c, d⟩ = j.get (i.get a) := rfl
theorem pth3_get (i j k : Dig) (a : N8 (N8 (Option α))) (b c d) : (pth3 i j k).get ⟨a, b, c, d⟩ = k.get (j.get (i.get b)) := rfl
theorem pth4_get (i j k l : Dig) (a : N8 (N8 (Option α))) (b c d) : (pth4 i j k l).get ⟨a, b, c, d⟩ = l.get (k.get (j.get (i.get c))) := rfl
theorem pthO_get (k : Nat) (a : N8 (N8 (Option α))) (b c d) : (pthO k).get ⟨a, b, c, d⟩ = d.get k := rfl
theorem pth2_set (i j : Dig) (a : N8 (N8 (Option α))) (b c d v) : (pth2 i j).set ⟨a, b, c, d⟩ v = i.upd a (fun s K => j.upd s (fun _ K => K v) K) fun a => ⟨a, b, c, d⟩ := rfl
theorem pth3_set (i j k : Dig) (a : N8 (N8 (Option α))) (b c d v) : (pth3 i j k).set ⟨a, b, c, d⟩ v = i.upd b (fun s K => j.upd s (fun s K => k.upd s (fun _ K => K v) K) K) fun b => ⟨a, b, c, d⟩ := rfl
theorem pth4_set (i j k l : Dig) (a : N8 (N8 (Option α))) (b c d v) : (pth4 i j k l).set ⟨a, b, c, d⟩ v = i.upd c (fun s K => j.upd s (fun s K => k.upd s (fun s K => l.upd s (fun _ K => K v) K) K) K) fun c => ⟨a, b, c, d⟩ := rfl
theorem pthO_set (k : Nat) (a : N8 (N8 (Option α))) (b c d v) : (pthO k).set ⟨a, b, c, d⟩ v = ⟨a, b, c, d.set k v⟩ := rfl
theorem leaf_get (k : Nat) : (leaf : Trie α).get k = none := by
  unfold get leaf
  rcases pth_cases k with ⟨_, h⟩ | ⟨_, _, h⟩ | ⟨_, _, h⟩ | ⟨_, h⟩ <;> rw [h] <;> simp only [pth2_get, pth3_get, pth4_get, pthO_get, dig_full]
  rfl

theorem set2 (i j : Nat) (a : N8 (N8 (Option α))) (b c d v) : (pth2 (dig i) (dig j)).set ⟨a, b, c, d⟩ v = ⟨(dig i).upd a (fun _ K => K ((dig j).upd ((dig i).get a) (fun _ K => K v) id)) id, b, c, d⟩ := by
  rw [pth2_set, dig_upd i a (x := (dig j).upd ((dig i).get a) (fun _ K => K v) id)]
  intro K
  rw [dig_upd j _ (x := v) (fun _ => rfl)]
theorem set3 (i j k : Nat) (a : N8 (N8 (Option α))) (b c d v) : (pth3 (dig i) (dig j) (dig k)).set ⟨a, b, c, d⟩ v = ⟨a, (dig i).upd b (fun _ K => K ((dig j).upd ((dig i).get b) (fun _ K => K ((dig k).upd ((dig j).get ((dig i).get b)) (fun _ K => K v) id)) id)) id, c, d⟩ := by
  rw [pth3_set, dig_upd i b (x := (dig j).upd ((dig i).get b) (fun _ K => K ((dig k).upd ((dig j).get ((dig i).get b)) (fun _ K => K v) id)) id)]
  intro K
  rw [dig_upd j _ (x := (dig k).upd ((dig j).get ((dig i).get b)) (fun _ K => K v) id)]
  intro K
  rw [dig_upd k _ (x := v) (fun _ => rfl)]
theorem set4 (i j k l : Nat) (a : N8 (N8 (Option α))) (b c d v) : (pth4 (dig i) (dig j) (dig k) (dig l)).set ⟨a, b, c, d⟩ v = ⟨a, b, (dig i).upd c (fun _ K => K ((dig j).upd ((dig i).get c) (fun _ K => K ((dig k).upd ((dig j).get ((dig i).get c)) (fun _ K => K ((dig l).upd ((dig k).get ((dig j).get ((dig i).get c))) (fun _ K => K v) id)) id)) id)) id, d⟩ := by
  rw [pth4_set, dig_upd i c (x := (dig j).upd ((dig i).get c) (fun _ K => K ((dig k).upd ((dig j).get ((dig i).get c)) (fun _ K => K ((dig l).upd ((dig k).get ((dig j).get ((dig i).get c))) (fun _ K => K v) id)) id)) id)]
  intro K
  rw [dig_upd j _ (x := (dig k).upd ((dig j).get ((dig i).get c)) (fun _ K => K ((dig l).upd ((dig k).get ((dig j).get ((dig i).get c))) (fun _ K => K v) id)) id)]
  intro K
  rw [dig_upd k _ (x := (dig l).upd ((dig k).get ((dig j).get ((dig i).get c))) (fun _ K => K v) id)]
  intro K
  rw [dig_upd l _ (x := v) (fun _ => rfl)]
theorem set_get (t : Trie α) (k : Nat) (v : Option α) (j : Nat) : (pth j).get ((pth k).set t v) = if j = k then v else (pth j).get t := by
  obtain ⟨a, b, c, d⟩ := t
  rcases pth_cases k with ⟨hk, h⟩ | ⟨hk, hk2, h⟩ | ⟨hk, hk2, h⟩ | ⟨hk, h⟩ <;> rw [h]
  · rw [set2]
    rcases pth_cases j with ⟨hj, g⟩ | ⟨hj, hj2, g⟩ | ⟨hj, hj2, g⟩ | ⟨hj, g⟩ <;> rw [g] <;> simp only [pth2_get, pth3_get, pth4_get, pthO_get]
    · rw [dig_get _ _ (by omega) (by omega)]
      by_cases e1 : j / 8 = k / 8
      · rw [if_pos e1, dig_get _ _ (by omega) (by omega), e1]
        by_cases e2 : j % 8 = k % 8
        · rw [if_pos e2, if_pos (by omega)]
        · rw [if_neg e2, if_neg (by omega)]
      · rw [if_neg e1, if_neg (by omega)]
    all_goals rw [if_neg (by omega)]
  · rw [set3]
    rcases pth_cases j with ⟨hj, g⟩ | ⟨hj, hj2, g⟩ | ⟨hj, hj2, g⟩ | ⟨hj, g⟩ <;> rw [g] <;> simp only [pth2_get, pth3_get, pth4_get, pthO_get]
    · rw [if_neg (by omega)]
    · rw [dig_get _ _ (by omega) (by omega)]
      by_cases e1 : (j - 64) / 64 = (k - 64) / 64
      · rw [if_pos e1, dig_get _ _ (by omega) (by omega), e1]
        by_cases e2 : (j - 64) / 8 % 8 = (k - 64) / 8 % 8
        · rw [if_pos e2, dig_get _ _ (by omega) (by omega), e2]
          by_cases e3 : (j - 64) % 8 = (k - 64) % 8
          · rw [if_pos e3, if_pos (by omega)]
          · rw [if_neg e3, if_neg (by omega)]
        · rw [if_neg e2, if_neg (by omega)]
      · rw [if_neg e1, if_neg (by omega)]
    all_goals rw [if_neg (by omega)]
  · rw [set4]
    rcases pth_cases j with ⟨hj, g⟩ | ⟨hj, hj2, g⟩ | ⟨hj, hj2, g⟩ | ⟨hj, g⟩ <;> rw [g] <;> simp only [pth2_get, pth3_get, pth4_get, pthO_get]
    · rw [if_neg (by omega)]
    · rw [if_neg (by omega)]
    · rw [dig_get _ _ (by omega) (by omega)]
      by_cases e1 : (j - 576) / 512 = (k - 576) / 512
      · rw [if_pos e1, dig_get _ _ (by omega) (by omega), e1]
        by_cases e2 : (j - 576) / 64 % 8 = (k - 576) / 64 % 8
        · rw [if_pos e2, dig_get _ _ (by omega) (by omega), e2]
          by_cases e3 : (j - 576) / 8 % 8 = (k - 576) / 8 % 8
          · rw [if_pos e3, dig_get _ _ (by omega) (by omega), e3]
            by_cases e4 : (j - 576) % 8 = (k - 576) % 8
            · rw [if_pos e4, if_pos (by omega)]
            · rw [if_neg e4, if_neg (by omega)]
          · rw [if_neg e3, if_neg (by omega)]
        · rw [if_neg e2, if_neg (by omega)]
      · rw [if_neg e1, if_neg (by omega)]
    · rw [if_neg (by omega)]
  · rw [pthO_set]
    rcases pth_cases j with ⟨hj, g⟩ | ⟨hj, hj2, g⟩ | ⟨hj, hj2, g⟩ | ⟨hj, g⟩ <;> rw [g] <;> simp only [pth2_get, pth3_get, pth4_get, pthO_get, BTrie.set_get]
    all_goals rw [if_neg (by omega)]
theorem put_get (t : Trie α) (k : Nat) (v : α) (j : Nat) : (t.put k v).get j = if j = k then some v else t.get j := set_get t k _ j
theorem del_get (t : Trie α) (k : Nat) (j : Nat) : (t.del k).get j = if j = k then none else t.get j := set_get t k _ j
end Trie
end Go.Abs

