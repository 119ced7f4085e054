/- Abstract states over the machine: closed calls run by reckoning: tries, states, single operations. -/
import Derived.Test.YtbpjoamdcbbnnaaAbEqs
namespace Go.Abs

inductive Trie (α : Type) where
  | leaf
  | node (v : Option α) (l r : Trie α)

namespace Trie
variable {α : Type}
def single : Nat → Nat → α → Trie α
  | _, 0, v => .node (some v) .leaf .leaf
  | 0, _ + 1, _ => .leaf
  | f + 1, k + 1, v => bif Nat.beq (k % 2) 0 then .node none (single f (k / 2) v) .leaf else .node none .leaf (single f (k / 2) v)
def get : Trie α → Nat → Option α
  | .leaf, _ => none
  | .node v _ _, 0 => v
  | .node _ l r, k + 1 => bif Nat.beq (k % 2) 0 then l.get (k / 2) else r.get (k / 2)
def put : Trie α → Nat → α → Trie α
  | .leaf, k, v => single k k v
  | .node _ l r, 0, v => .node (some v) l r
  | .node x l r, k + 1, v => bif Nat.beq (k % 2) 0 then .node x (l.put (k / 2) v) r else .node x l (r.put (k / 2) v)
def del : Trie α → Nat → Trie α
  | .leaf, _ => .leaf
  | .node _ l r, 0 => .node none l r
  | .node x l r, k + 1 => bif Nat.beq (k % 2) 0 then .node x (l.del (k / 2)) r else .node x l (r.del (k / 2))

theorem key_eq (j k : Nat) : j = k ↔ j % 2 = k % 2 ∧ j / 2 = k / 2 := by omega
theorem single_get : ∀ (f k : Nat) (v : α), k ≤ f → ∀ j, (single f k v).get j = if j = k then some v else none
  | f, 0, v, _, j => by
    unfold single
    cases j with
    | zero => simp [get]
    | succ j => simp [get]
  | 0, k + 1, v, h, j => by omega
  | f + 1, k + 1, v, h, j => by
    have ih := single_get f (k / 2) v (by omega)
    unfold single
    cases hk : Nat.beq (k % 2) 0 with
    | true =>
      have hk : k % 2 = 0 := Nat.eq_of_beq_eq_true hk
      cases j with
      | zero => simp [get]
      | succ j =>
        simp only [cond_true, get]
        cases hj : Nat.beq (j % 2) 0 with
        | true =>
          have hj : j % 2 = 0 := Nat.eq_of_beq_eq_true hj
          rw [cond_true, ih]
          have : j / 2 = k / 2 ↔ j + 1 = k + 1 := by omega
          simp only [this]
        | false =>
          have hj : j % 2 ≠ 0 := fun h => by rw [h] at hj; simp at hj
          rw [cond_false, if_neg (by omega)]
    | false =>
      have hk : k % 2 ≠ 0 := fun h => by rw [h] at hk; simp at hk
      cases j with
      | zero => simp [get]
      | succ j =>
        simp only [cond_false, get]
        cases hj : Nat.beq (j % 2) 0 with
        | true =>
          have hj : j % 2 = 0 := Nat.eq_of_beq_eq_true hj
          rw [cond_true, if_neg (by omega)]
        | false =>
          have hj : j % 2 ≠ 0 := fun h => by rw [h] at hj; simp at hj
          rw [cond_false, ih]
          have : j / 2 = k / 2 ↔ j + 1 = k + 1 := by omega
          simp only [this]
theorem put_get : ∀ (t : Trie α) (k : Nat) (v : α) (j : Nat), (t.put k v).get j = if j = k then some v else t.get j
  | .leaf, k, v, j => by rw [put, single_get k k v (Nat.le_refl _)]; rfl
  | .node x l r, 0, v, j => by cases j <;> simp [put, get]
  | .node x l r, k + 1, v, j => by
    have h1 := put_get l (k / 2) v
    have h2 := put_get r (k / 2) v
    unfold put
    cases hk : Nat.beq (k % 2) 0 with
    | true =>
      have hk : k % 2 = 0 := Nat.eq_of_beq_eq_true hk
      cases j with
      | zero => simp [get]
      | succ j =>
        simp only [cond_true, get]
        cases hj : Nat.beq (j % 2) 0 with
        | true =>
          have hj : j % 2 = 0 := Nat.eq_of_beq_eq_true hj
          rw [cond_true, h1]
          have : j / 2 = k / 2 ↔ j + 1 = k + 1 := by omega
          simp only [this, cond_true]
        | false =>
          have hj : j % 2 ≠ 0 := fun h => by rw [h] at hj; simp at hj
          rw [cond_false, if_neg (by omega), cond_false]
    | false =>
      have hk : k % 2 ≠ 0 := fun h => by rw [h] at hk; simp at hk
      cases j with
      | zero => simp [get]
      | succ j =>
        simp only [cond_false, get]
        cases hj : Nat.beq (j % 2) 0 with
        | true =>
          have hj : j % 2 = 0 := Nat.eq_of_beq_eq_true hj
          rw [cond_true, if_neg (by omega), cond_true]
        | false =>
          have hj : j % 2 ≠ 0 := fun h => by rw [h] at hj; simp at hj
          rw [cond_false, h2]
          have : j / 2 = k / 2 ↔ j + 1 = k + 1 := by omega
          simp only [this, cond_false]
theorem del_get : ∀ (t : Trie α) (k : Nat) (j : Nat), (t.del k).get j = if j = k then none else t.get j
  | .leaf, k, j => by simp [del, get]
  | .node x l r, 0, j => by cases j <;> simp [del, get]
  | .node x l r, k + 1, j => by
    have h1 := del_get l (k / 2)
    have h2 := del_get r (k / 2)
    unfold del
    cases hk : Nat.beq (k % 2) 0 with
    | true =>
      have hk : k % 2 = 0 := Nat.eq_of_beq_eq_true hk
      cases j with
      | zero => simp [get]
      | succ j =>
        simp only [cond_true, get]
        cases hj : Nat.beq (j % 2) 0 with
        | true =>
          have hj : j % 2 = 0 := Nat.eq_of_beq_eq_true hj
          rw [cond_true, h1]
          have : j / 2 = k / 2 ↔ j + 1 = k + 1 := by omega
          simp only [this, cond_true]
        | false =>
          have hj : j % 2 ≠ 0 := fun h => by rw [h] at hj; simp at hj
          rw [cond_false, if_neg (by omega), cond_false]
    | false =>
      have hk : k % 2 ≠ 0 := fun h => by rw [h] at hk; simp at hk
      cases j with
      | zero => simp [get]
      | succ j =>
        simp only [cond_false, get]
        cases hj : Nat.beq (j % 2) 0 with
        | true =>
          have hj : j % 2 = 0 := Nat.eq_of_beq_eq_true hj
          rw [cond_true, if_neg (by omega), cond_true]
        | false =>
          have hj : j % 2 ≠ 0 := fun h => by rw [h] at hj; simp at hj
          rw [cond_false, h2]
          have : j / 2 = k / 2 ↔ j + 1 = k + 1 := by omega
          simp only [this, cond_false]
end Trie

/-! ### Names below a bound, by reckoning -/
def bddS (N : Nat) : Value → Bool
  | .pointer (some ⟨i, _, none⟩) => Nat.blt i N
  | .slice (some ⟨i, _, none⟩) _ _ => Nat.blt i N
  | .map (some i) => Nat.blt i N
  | v => flat0 v
def bddC (N : Nat) : Value → Bool
  | .func _ xs cs => xs.toList.all (bddS N) && cs.toList.all (bddS N)
  | .iface _ v => bddS N v
  | v => bddS N v
def bddB (N : Nat) : Value → Bool
  | .agg cs => cs.toList.all (bddC N)
  | .tuple cs => cs.toList.all fun v => match v with
    | .agg ds => ds.toList.all (bddC N)
    | v => bddC N v
  | .iface _ (.agg cs) => cs.toList.all (bddC N)
  | v => bddC N v
theorem blt_lt {i N : Nat} (h : Nat.blt i N = true) : i < N := by simpa using h
theorem bddS_sound {N : Nat} {v : Value} (h : bddS N v = true) : Bdd N v := by
  unfold bddS at h
  split at h
  · exact .ptr (blt_lt h)
  · exact .slice (blt_lt h)
  · exact .map (blt_lt h)
  · exact .flat h
theorem all_get {p : Value → Bool} {cs : Array Value} (h : cs.toList.all p = true) {i : Nat} {v : Value} (hv : cs[i]? = some v) : p v = true := by
  rw [List.all_eq_true] at h
  exact h v (Array.mem_toList_iff.2 (Array.mem_of_getElem? hv))
theorem bddC_sound {N : Nat} {v : Value} (h : bddC N v = true) : Bdd N v := by
  unfold bddC at h
  split at h
  · rw [Bool.and_eq_true] at h
    exact .func (fun i v hv => bddS_sound (all_get h.1 hv)) (fun i v hv => bddS_sound (all_get h.2 hv))
  · exact .iface (bddS_sound h)
  · exact bddS_sound h
theorem bddB_sound {N : Nat} {v : Value} (h : bddB N v = true) : Bdd N v := by
  unfold bddB at h
  split at h
  · exact .agg fun i v hv => bddC_sound (all_get h hv)
  · refine .tuple fun i v hv => ?_
    have := all_get h hv
    split at this
    · exact .agg fun i v hv => bddC_sound (all_get this hv)
    · exact bddC_sound this
  · exact .iface (.agg fun i v hv => bddC_sound (all_get h hv))
  · exact bddC_sound h
theorem bdd_spread {N : Nat} {v : Value} (h : Bdd N v) : ∀ x ∈ spread v, Bdd N x := by
  intro x hx
  unfold spread at hx
  split at hx
  · rename_i cs
    obtain ⟨i, hi⟩ := List.getElem?_of_mem hx
    rw [Array.getElem?_toList] at hi
    cases h with
    | flat h => simp [flat0] at h
    | agg h => exact h i x hi
  · simp at hx; subst hx; exact h

/-! ### States -/
abbrev HeapT := Trie (List Value × Nat)
/-- What may only be read; what is not seen. -/
structure Ctx where
  ro : Nat → Bool
  hid : Nat → Bool
def view (c : Ctx) (H : HeapT) : AHeap := fun i => bif c.hid i then none else (H.get i).map fun b => ⟨b.1, !c.ro i, b.2⟩
structure Inv (c : Ctx) (N : Nat) (H : HeapT) : Prop where
  ro : ∀ j, c.ro j = true → j < N
  hid : ∀ j, c.hid j = true → j < N
  bdd : ∀ j b, H.get j = some b → j < N ∧ ∀ x ∈ b.1, Bdd N x
theorem Inv.up {c : Ctx} {N N' : Nat} {H : HeapT} (h : Inv c N H) (hN : N ≤ N') : Inv c N' H :=
  ⟨fun j hj => Nat.lt_of_lt_of_le (h.ro j hj) hN, fun j hj => Nat.lt_of_lt_of_le (h.hid j hj) hN, fun j b hb => let ⟨h1, h2⟩ := h.bdd j b hb; ⟨Nat.lt_of_lt_of_le h1 hN, fun x hx => (h2 x hx).mono hN⟩⟩
theorem Inv.free {c : Ctx} {N : Nat} {H : HeapT} (h : Inv c N H) : c.ro N = false ∧ c.hid N = false := by
  constructor
  · cases e : c.ro N with
    | false => rfl
    | true => have := h.ro N e; omega
  · cases e : c.hid N with
    | false => rfl
    | true => have := h.hid N e; omega
theorem Inv.new {c : Ctx} {N : Nat} {H : HeapT} (h : Inv c N H) {b : List Value × Nat} (hb : ∀ x ∈ b.1, Bdd (N + 1) x) : Inv c (N + 1) (H.put N b) := by
  refine ⟨fun j hj => Nat.lt_succ_of_lt (h.ro j hj), fun j hj => Nat.lt_succ_of_lt (h.hid j hj), fun j b' hj => ?_⟩
  rw [Trie.put_get] at hj
  split at hj
  · cases hj; exact ⟨by omega, hb⟩
  · obtain ⟨h1, h2⟩ := h.bdd j b' hj
    exact ⟨by omega, fun x hx => (h2 x hx).mono (Nat.le_succ _)⟩
theorem Inv.turn {c : Ctx} {N : Nat} {H : HeapT} (h : Inv c N H) {i : Nat} (hi : i < N) {b : List Value × Nat} (hb : ∀ x ∈ b.1, Bdd N x) : Inv c N (H.put i b) := by
  refine ⟨h.ro, h.hid, fun j b' hj => ?_⟩
  rw [Trie.put_get] at hj
  split at hj
  · cases hj; exact ⟨by omega, hb⟩
  · exact h.bdd j b' hj
theorem Inv.gone {c : Ctx} {N : Nat} {H : HeapT} (h : Inv c N H) (i : Nat) : Inv c N (H.del i) := by
  refine ⟨h.ro, h.hid, fun j b' hj => ?_⟩
  rw [Trie.del_get] at hj
  split at hj
  · cases hj
  · exact h.bdd j b' hj
theorem view_new {c : Ctx} {N : Nat} {H : HeapT} (h : Inv c N H) (b : List Value × Nat) : view c (H.put N b) = (view c H).set N ⟨b.1, true, b.2⟩ := by
  obtain ⟨h1, h2⟩ := h.free
  funext j
  unfold view AHeap.set
  rw [Trie.put_get]
  by_cases e : j = N
  · subst e; simp [h1, h2]
  · simp [e]
theorem view_turn {c : Ctx} {H : HeapT} {i : Nat} (h1 : c.ro i = false) (h2 : c.hid i = false) (b : List Value × Nat) : view c (H.put i b) = (view c H).set i ⟨b.1, true, b.2⟩ := by
  funext j
  unfold view AHeap.set
  rw [Trie.put_get]
  by_cases e : j = i
  · subst e; simp [h1, h2]
  · simp [e]
theorem view_gone {c : Ctx} {H : HeapT} {i : Nat} : view c (H.del i) = (view c H).del i := by
  funext j
  unfold view AHeap.del
  rw [Trie.del_get]
  by_cases e : j = i
  · subst e; simp
  · simp [e]
theorem view_some {c : Ctx} {H : HeapT} {i : Nat} {b : Blk} (h : view c H i = some b) : c.hid i = false ∧ H.get i = some (b.cells, b.esz) ∧ b.own = !c.ro i := by
  unfold view at h
  cases hh : c.hid i with
  | true => rw [hh] at h; simp at h
  | false =>
    rw [hh] at h
    simp only [cond_false, Option.map_eq_some_iff] at h
    obtain ⟨b0, h1, rfl⟩ := h
    exact ⟨rfl, h1, rfl⟩

section
variable {P : Program} {n : Nat}
abbrev CallT := Ctx → FuncId → List Value → Nat → HeapT → Option (Value × Nat × HeapT)
def ptrA (N : Nat) : Value := .pointer (some ⟨N, 0, none⟩)
def rowA (N len : Nat) : Value := .slice (some ⟨N, 0, none⟩) len len
def partsE (e : Env) (parts : Array (Nat × Operand)) : Option (List (Nat × Value)) := parts.toList.mapM fun p => (e.eval p.2).map fun v => (p.1, v)

def evLoad (P : Program) (c : Ctx) (e : Env) (t : TypeId) (x : Operand) (N : Nat) (H : HeapT) : Option (Value × Nat × HeapT) :=
  match e.eval x with
  | some (.pointer (some ⟨i, off, none⟩)) => (view c H i).bind fun b => (loadA P t b off).map fun v => (v, N, H)
  | _ => none
def evStore (P : Program) (c : Ctx) (e : Env) (t : TypeId) (x y : Operand) (N : Nat) (H : HeapT) : Option (Value × Nat × HeapT) :=
  match e.eval x, e.eval y with
  | some (.pointer (some ⟨i, off, none⟩)), some v =>
    match view c H i with
    | some b => if b.own && decide (sizeA P t = some (spread v).length) && (spread v).all (·.oneCell') && Nat.ble (off + (spread v).length) b.cells.length then some (undef, N, H.put i (splice b.cells off (spread v), b.esz)) else none
    | none => none
  | _, _ => none
def evAlloc (P : Program) (t : TypeId) (N : Nat) (H : HeapT) : Option (Value × Nat × HeapT) :=
  (zeroA P t).bind fun z => if (spread z).all flat then some (ptrA N, N + 1, H.put N (spread z, 1)) else none
def evBox (e : Env) (x : Operand) (N : Nat) (H : HeapT) : Option (Value × Nat × HeapT) :=
  (e.eval x).map fun v => (ptrA N, N + 1, H.put N (spread v, 1))
def evBuild (P : Program) (e : Env) (t : TypeId) (parts : Array (Nat × Operand)) (N : Nat) (H : HeapT) : Option (Value × Nat × HeapT) :=
  match P.underlying t, zeroA P t, partsE e parts with
  | some (.struct fs), some z, some ps =>
    if (spread z).all flat then
      (fs.toList.mapM fun f => (sizeA P f.type).map fun s => (f.offset, s)).bind fun pl => (fillA (pl[·]?) (spread z) ps).map fun r => (.agg r.toArray, N, H)
    else none
  | some (.array _ el), some z, some ps =>
    if (spread z).all flat then (P.info? el).bind fun inf => (fillA (fun i => some (i * inf.size, inf.size)) (spread z) ps).map fun r => (.agg r.toArray, N, H) else none
  | _, _, _ => none
def evBuildSlice (P : Program) (e : Env) (t : TypeId) (len : Nat) (parts : Array (Nat × Operand)) (N : Nat) (H : HeapT) : Option (Value × Nat × HeapT) :=
  match P.underlying t, partsE e parts with
  | some (.slice el), some ps =>
    (P.info? el).bind fun inf => inf.zero.bind fun z =>
      if (spread z).all flat && decide ((spread z).length = inf.size) && Nat.blt 0 inf.size && Nat.ble (len * inf.size) 16777216 then
        (fillA (fun i => some (i * inf.size, inf.size)) (zerosA (spread z) (len * inf.size)) ps).bind fun r => if Nat.ble (len * inf.size) r.length then some (rowA N len, N + 1, H.put N (r, inf.size)) else none
      else none
  | _, _ => none
def evMakeSlice (P : Program) (e : Env) (t : TypeId) (x y : Operand) (N : Nat) (H : HeapT) : Option (Value × Nat × HeapT) :=
  match P.underlying t, e.eval x, e.eval y with
  | some (.slice el), some (.int _ (.ofNat len)), some (.int _ (.ofNat len')) =>
    (P.info? el).bind fun inf => inf.zero.bind fun z =>
      if (spread z).all flat && decide ((spread z).length = inf.size) && Nat.blt 0 inf.size && Nat.beq len len' && Nat.ble len 9223372036854775807 && Nat.ble (inf.bytes * len) 140737488355328 then
        some (rowA N len, N + 1, H.put N (zerosA (spread z) (len * inf.size), inf.size))
      else none
  | _, _, _ => none
def evSlice (P : Program) (c : Ctx) (e : Env) (t : TypeId) (x : Operand) (lo hi : Option Operand) (N : Nat) (H : HeapT) : Option (Value × Nat × HeapT) :=
  match P.underlying t, e.eval x with
  | some (.slice el), some (.slice (some ⟨i, off, none⟩) len cap) =>
    match view c H i, P.info? el, boundA e 0 lo, boundA e len hi with
    | some b, some inf, some l, some h => if decide (b.esz = inf.size) && Nat.ble l h && Nat.ble h cap then some (.slice (some ⟨i, off + l * inf.size, none⟩) (h - l) (cap - l), N, H) else none
    | _, _, _, _ => none
  | some (.slice el), some (.slice none 0 0) =>
    match P.info? el, boundA e 0 lo, boundA e 0 hi with
    | some _, some 0, some 0 => some (.slice none 0 0, N, H)
    | _, _, _ => none
  | _, _ => none
def delRoot (H : HeapT) : Option (Nat × Nat) → HeapT
  | none => H
  | some (i, _) => H.del i
def rootOwn (σ : AHeap) (size : Nat) : Option (Nat × Nat) → Bool
  | none => true
  | some (i, _) => match σ i with
    | some b => b.own && decide (b.esz = size)
    | none => false
def evAppend (P : Program) (c : Ctx) (e : Env) (t : TypeId) (x y : Operand) (N : Nat) (H : HeapT) : Option (Value × Nat × HeapT) :=
  match P.underlying t, e.eval x, e.eval y with
  | some (.slice el), some s, some u =>
    match P.info? el, lenA u with
    | some _, some 0 => match s with
      | .slice b k cp => some (.slice b k cp, N, H)
      | _ => none
    | some inf, some m =>
      match inf.zero, rootA s, srcA (view c H) inf.size s, srcA (view c H) inf.size u with
      | some z, some (root, k), some olds, some news =>
        if decide (z.cells.size = inf.size) && news.all (·.oneCell') && rootOwn (view c H) inf.size root && Nat.ble ((k + m) * inf.bytes) 140737488355328 && Nat.ble (k + m) 140737488355328 then
          some (rowA N (k + m), N + 1, (delRoot H root).put N (olds ++ news, inf.size))
        else none
      | _, _, _, _ => none
    | _, _ => none
  | _, _, _ => none
def evCallV (P : Program) (call : CallT) (c : Ctx) (e : Env) (f : Operand) (args : Array Operand) (N : Nat) (H : HeapT) : Option (Value × Nat × HeapT) :=
  match e.eval f, args.toList.mapM e.eval with
  | some (.func (.func g) xs cs), some vs => if callableB P g then call c g (xs.toList ++ vs ++ cs.toList) N H else none
  | _, _ => none
def evOp (P : Program) (call : CallT) (c : Ctx) (e : Env) (op : Op) (N : Nat) (H : HeapT) : Option (Value × Nat × HeapT) :=
  match op with
  | .load t x => evLoad P c e t x N H
  | .store t x y => evStore P c e t x y N H
  | .alloc t => evAlloc P t N H
  | .box _ x => evBox e x N H
  | .build t parts => evBuild P e t parts N H
  | .buildSlice t len parts => evBuildSlice P e t len parts N H
  | .makeSlice t x y => evMakeSlice P e t x y N H
  | .slice t x lo hi none => evSlice P c e t x lo hi N H
  | .call { callee := .value f, args, argTypes := _ } => evCallV P call c e f args N H
  | .call { callee := .builtin .append, args, argTypes } => match args.toList, argTypes.toList with
    | [x, y], [t, t'] => if t = t' then evAppend P c e t x y N H else none
    | _, _ => none
  | op => (pureX P e op).map fun v => (v, N, H)

/-- What is known of a step that has been reckoned. -/
structure Good (c : Ctx) (N : Nat) (H : HeapT) (N' : Nat) (H' : HeapT) : Prop where
  le : N ≤ N'
  inv : Inv c N' H'
  frame : ∀ j, j < N → (c.ro j = true ∨ c.hid j = true) → H'.get j = H.get j
  none : ∀ j, j < N → H.get j = none → H'.get j = none
theorem Good.same {c : Ctx} {N : Nat} {H : HeapT} (h : Inv c N H) : Good c N H N H := ⟨Nat.le_refl _, h, fun _ _ _ => rfl, fun _ _ h => h⟩
theorem Good.new {c : Ctx} {N : Nat} {H : HeapT} (h : Inv c N H) {b : List Value × Nat} (hb : ∀ x ∈ b.1, Bdd (N + 1) x) : Good c N H (N + 1) (H.put N b) :=
  ⟨Nat.le_succ _, h.new hb, fun j hj _ => by rw [Trie.put_get, if_neg (by omega)], fun j hj h => by rw [Trie.put_get, if_neg (by omega)]; exact h⟩
theorem Good.trans {c : Ctx} {N N1 N2 : Nat} {H H1 H2 : HeapT} (h : Good c N H N1 H1) (k : Good c N1 H1 N2 H2) : Good c N H N2 H2 :=
  ⟨Nat.le_trans h.le k.le, k.inv, fun j hj hc => (k.frame j (Nat.lt_of_lt_of_le hj h.le) hc).trans (h.frame j hj hc), fun j hj hn => k.none j (Nat.lt_of_lt_of_le hj h.le) (h.none j hj hn)⟩
def CallOk (P : Program) (call : CallT) : Prop := ∀ (c : Ctx) (f : FuncId) (args : List Value) (N : Nat) (H : HeapT) (v : Value) (N' : Nat) (H' : HeapT), Inv c N H → (∀ x ∈ args, Bdd N x) → call c f args N H = some (v, N', H') →
  AOk P f args N (view c H) (fun v1 N1 σ1 => v1 = v ∧ N1 = N' ∧ (view c H').le σ1) ∧ Good c N H N' H' ∧ Bdd N' v

theorem StepQ.env_mono {o : Oper} {e env : Env} {N : Nat} {σ : AHeap} {K : Value → Nat → AHeap → Prop} (h : StepQ P n o e N σ K) (hd : ∀ t v, e.get t = some v → env.get t = some v) : StepQ P n o env N σ K :=
  fun ι w a next Q he hr hq => h ι w a next Q (he.le hd) hr hq
theorem bdd_eval {e : Env} {N : Nat} (he : ∀ t v, e.get t = some v → Bdd N v) {x : Operand} {v : Value} (h : e.eval x = some v) : Bdd N v := by
  cases x with
  | tmp t => exact he t v h
  | const u =>
    simp only [Env.eval] at h
    split at h
    · cases h; exact .of_flat (by assumption)
    · cases h
  | global g => cases h
  | func f => cases h; exact .func (by simp) (by simp)
theorem bdd_evals {e : Env} {N : Nat} (he : ∀ t v, e.get t = some v → Bdd N v) : ∀ (l : List Operand) (vs : List Value), l.mapM e.eval = some vs → ∀ x ∈ vs, Bdd N x
  | [], vs, h => by simp at h; subst h; simp
  | y :: l, vs, h => by
    simp only [List.mapM_cons] at h
    cases hy : e.eval y with
    | none => simp [hy] at h
    | some v =>
      cases hl : l.mapM e.eval with
      | none => simp [hy, hl] at h
      | some us =>
        simp [hy, hl] at h
        subst h
        intro x hx
        rcases List.mem_cons.1 hx with rfl | hx
        · exact bdd_eval he hy
        · exact bdd_evals he l us hl x hx
theorem bdd_parts {e : Env} {N : Nat} (he : ∀ t v, e.get t = some v → Bdd N v) : ∀ (l : List (Nat × Operand)) (ps : List (Nat × Value)), (l.mapM fun p => (e.eval p.2).map fun v => (p.1, v)) = some ps → ∀ p ∈ ps, Bdd N p.2
  | [], ps, h => by simp at h; subst h; simp
  | y :: l, ps, h => by
    simp only [List.mapM_cons] at h
    cases hy : e.eval y.2 with
    | none => simp [hy] at h
    | some v =>
      cases hl : l.mapM fun p => (e.eval p.2).map fun v => (p.1, v) with
      | none => simp [hy, hl] at h
      | some us =>
        simp [hy, hl] at h
        subst h
        intro x hx
        rcases List.mem_cons.1 hx with rfl | hx
        · exact bdd_eval he hy
        · exact bdd_parts he l us hl x hx
theorem bdd_splice {N : Nat} {l vs : List Value} {off : Nat} (h1 : ∀ x ∈ l, Bdd N x) (h2 : ∀ x ∈ vs, Bdd N x) : ∀ x ∈ splice l off vs, Bdd N x := by
  intro x hx
  unfold splice at hx
  rw [List.mem_append, List.mem_append] at hx
  rcases hx with (hx | hx) | hx
  · exact h1 x (List.mem_of_mem_take hx)
  · exact h2 x hx
  · exact h1 x (List.mem_of_mem_drop hx)
theorem bdd_fill {N : Nat} {place : Nat → Option (Nat × Nat)} : ∀ (ps : List (Nat × Value)) (cells r : List Value), fillA place cells ps = some r → (∀ x ∈ cells, Bdd N x) → (∀ p ∈ ps, Bdd N p.2) → ∀ x ∈ r, Bdd N x
  | [], cells, r, h, h1, _ => by simp only [fillA, Option.some.injEq] at h; subst h; exact h1
  | (i, v) :: ps, cells, r, h, h1, h2 => by
    simp only [fillA] at h
    split at h
    · cases h
    · split at h
      · exact bdd_fill ps _ r h (bdd_splice h1 (bdd_spread (h2 (i, v) (by simp)))) (fun p hp => h2 p (by simp [hp]))
      · cases h
theorem bdd_zeros {N m : Nat} {z : List Value} (h : z.all flat = true) (hne : z ≠ []) : ∀ x ∈ zerosA z m, Bdd N x := by
  intro x hx
  simp only [zerosA, List.mem_map] at hx
  obtain ⟨i, _, rfl⟩ := hx
  have : i % z.length < z.length := Nat.mod_lt _ (List.length_pos_iff.2 hne)
  rw [List.getD_eq_getElem?_getD, List.getElem?_eq_getElem this]
  exact .of_flat (List.all_eq_true.1 h _ (List.getElem_mem this))
theorem bdd_src {c : Ctx} {N : Nat} {H : HeapT} (hI : Inv c N H) {size : Nat} {s : Value} {l : List Value} (h : srcA (view c H) size s = some l) : ∀ x ∈ l, Bdd N x := by
  unfold srcA at h
  split at h
  · cases h; simp
  · split at h
    · cases h; simp
    · simp only [Option.bind_eq_some_iff] at h
      obtain ⟨b, h1, h2⟩ := h
      obtain ⟨_, h3, _⟩ := view_some h1
      have h4 := (hI.bdd _ _ h3).2
      unfold cellsA at h2
      split at h2
      · cases h2
        intro x hx
        exact h4 x (List.mem_of_mem_drop (List.mem_of_mem_take hx))
      · cases h2
  · cases h

theorem evOp_sound {call : CallT} (hcall : CallOk P call) {c : Ctx} {e : Env} {N : Nat} {H : HeapT} {o : Oper} {v : Value} {N' : Nat} {H' : HeapT} (hI : Inv c N H) (he : ∀ t v, e.get t = some v → Bdd N v)
    (h : evOp P call c e o.op N H = some (v, N', H')) :
    StepQ P n o e N (view c H) (fun v1 N1 σ1 => v1 = v ∧ N1 = N' ∧ (view c H').le σ1) ∧ Good c N H N' H' := by
  have rfl3 : ∀ {v : Value} {N : Nat} {σ : AHeap}, v = v ∧ N = N ∧ σ.le σ := ⟨rfl, rfl, AHeap.le_refl _⟩
  generalize hop : o.op = op at h
  unfold evOp at h
  split at h
  · -- load
    rename_i t x
    unfold evLoad at h
    split at h
    · rename_i i off hx
      simp only [Option.bind_eq_some_iff, Option.map_eq_some_iff, Prod.mk.injEq] at h
      obtain ⟨b, hb, v', hv, rfl, rfl, rfl⟩ := h
      exact ⟨step_load hop hx hb hv rfl3, .same hI⟩
    · cases h
  · -- store
    rename_i t x y
    unfold evStore at h
    split at h
    · rename_i i off v2 hx hy
      split at h
      · rename_i b hb
        split at h
        · rename_i hc
          simp only [Bool.and_eq_true, decide_eq_true_eq, Nat.ble_eq] at hc
          obtain ⟨⟨⟨h1, h2⟩, h3⟩, h4⟩ := hc
          simp only [Option.some.injEq, Prod.mk.injEq] at h
          obtain ⟨rfl, rfl, rfl⟩ := h
          obtain ⟨q1, q2, q3⟩ := view_some hb
          have hro : c.ro i = false := by rw [h1] at q3; simpa using q3.symm
          refine ⟨step_store hop hx hb hy h1 h2 h3 h4 ⟨rfl, rfl, ?_⟩, Nat.le_refl _, hI.turn (hI.bdd _ _ q2).1 (bdd_splice (hI.bdd _ _ q2).2 (bdd_spread (bdd_eval he hy))), fun j _ hj => ?_, fun j _ hj => ?_⟩
          · rw [view_turn hro q1]; exact AHeap.le_refl _
          · rw [Trie.put_get, if_neg]
            rintro rfl
            rcases hj with hj | hj
            · rw [hro] at hj; cases hj
            · rw [q1] at hj; cases hj
          · rw [Trie.put_get, if_neg]
            · exact hj
            · rintro rfl; rw [q2] at hj; cases hj
        · cases h
      · cases h
    · cases h
  · -- alloc
    rename_i t
    simp only [evAlloc, Option.bind_eq_some_iff] at h
    obtain ⟨z, hz, h⟩ := h
    split at h
    · rename_i hf
      simp only [Option.some.injEq, Prod.mk.injEq] at h
      obtain ⟨rfl, rfl, rfl⟩ := h
      exact ⟨step_alloc 1 hop hz hf ⟨rfl, rfl, by rw [view_new hI]; exact AHeap.le_refl _⟩, .new hI fun x hx => .of_flat (List.all_eq_true.1 hf x hx)⟩
    · cases h
  · -- box
    rename_i t x
    simp only [evBox, Option.map_eq_some_iff, Prod.mk.injEq] at h
    obtain ⟨v2, hx, rfl, rfl, rfl⟩ := h
    exact ⟨step_box 1 hop hx ⟨rfl, rfl, by rw [view_new hI]; exact AHeap.le_refl _⟩, .new hI fun x hx' => (bdd_spread (bdd_eval he hx) x hx').mono (Nat.le_succ _)⟩
  · -- build
    rename_i t parts
    unfold evBuild at h
    split at h
    · rename_i fs z ps hu hz hps
      split at h
      · rename_i hf
        simp only [Option.bind_eq_some_iff, Option.map_eq_some_iff, Prod.mk.injEq] at h
        obtain ⟨pl, hpl, r, hr, rfl, rfl, rfl⟩ := h
        exact ⟨step_build_struct hop hu hz hf (by simpa [Option.map_eq_some_iff] using hpl) hps hr rfl3, .same hI⟩
      · cases h
    · rename_i m el z ps hu hz hps
      split at h
      · rename_i hf
        simp only [Option.bind_eq_some_iff, Option.map_eq_some_iff, Prod.mk.injEq] at h
        obtain ⟨inf, hi, r, hr, rfl, rfl, rfl⟩ := h
        exact ⟨step_build_array hop hu hz hf hi hps hr rfl3, .same hI⟩
      · cases h
    · cases h
  · -- buildSlice
    rename_i t len parts
    unfold evBuildSlice at h
    split at h
    · rename_i el ps hu hps
      simp only [Option.bind_eq_some_iff] at h
      obtain ⟨inf, hi, z, hz, h⟩ := h
      split at h
      · rename_i hc
        simp only [Bool.and_eq_true, decide_eq_true_eq, Nat.ble_eq] at hc
        obtain ⟨⟨⟨h1, h2⟩, h3⟩, h4⟩ := hc
        have h3 := blt_lt h3
        simp only [Option.bind_eq_some_iff] at h
        obtain ⟨r, hr, h⟩ := h
        split at h
        · rename_i hrl
          rw [Nat.ble_eq] at hrl
          simp only [Option.some.injEq, Prod.mk.injEq] at h
          obtain ⟨rfl, rfl, rfl⟩ := h
          refine ⟨step_buildSlice hop hu hi hz h1 h2 h3 h4 hps hr hrl ⟨rfl, rfl, by rw [view_new hI]; exact AHeap.le_refl _⟩, .new hI fun x hx => ?_⟩
          exact (bdd_fill ps _ r hr (bdd_zeros h1 (fun e => by rw [e] at h2; simp at h2; omega)) (bdd_parts he _ _ hps) x hx).mono (Nat.le_succ _)
        · cases h
      · cases h
    · cases h
  · -- makeSlice
    rename_i t x y
    unfold evMakeSlice at h
    split at h
    · rename_i el k1 len k2 len' hu hx hy
      simp only [Option.bind_eq_some_iff] at h
      obtain ⟨inf, hi, z, hz, h⟩ := h
      split at h
      · rename_i hc
        simp only [Bool.and_eq_true, decide_eq_true_eq, Nat.ble_eq] at hc
        obtain ⟨⟨⟨⟨⟨h1, h2⟩, h3⟩, h4⟩, h5⟩, h6⟩ := hc
        have h3 := blt_lt h3
        have h4 := Nat.eq_of_beq_eq_true h4
        subst h4
        simp only [Option.some.injEq, Prod.mk.injEq] at h
        obtain ⟨rfl, rfl, rfl⟩ := h
        refine ⟨step_makeSlice hop hu hi hz h1 h2 h3 hx hy h5 h6 ⟨rfl, rfl, by rw [view_new hI]; exact AHeap.le_refl _⟩, .new hI fun x hx => bdd_zeros h1 (fun e => by rw [e] at h2; simp at h2; omega) x hx⟩
      · cases h
    · cases h
  · -- slice
    rename_i t x lo hi
    unfold evSlice at h
    split at h
    · rename_i el i off len cap hu hx
      split at h
      · rename_i b inf l hh hb hinf hl hhi
        split at h
        · rename_i hc
          simp only [Bool.and_eq_true, decide_eq_true_eq, Nat.ble_eq] at hc
          obtain ⟨⟨h1, h2⟩, h3⟩ := hc
          simp only [Option.some.injEq, Prod.mk.injEq] at h
          obtain ⟨rfl, rfl, rfl⟩ := h
          exact ⟨step_slice hop hu hinf hx hb h1 hl hhi h2 h3 rfl3, .same hI⟩
        · cases h
      · cases h
    · rename_i el hu hx
      split at h
      · rename_i inf hinf hl hhi
        simp only [Option.some.injEq, Prod.mk.injEq] at h
        obtain ⟨rfl, rfl, rfl⟩ := h
        exact ⟨step_slice_nil hop hu hinf hx hl hhi rfl3, .same hI⟩
      · cases h
    · cases h
  · -- a call
    rename_i f args argTypes
    unfold evCallV at h
    split at h
    · rename_i g xs cs vs hf ha
      split at h
      · rename_i hc
        have hfb := bdd_eval he hf
        obtain ⟨b1, b2⟩ : (∀ (i : Nat) (v : Value), xs[i]? = some v → Bdd N v) ∧ (∀ (i : Nat) (v : Value), cs[i]? = some v → Bdd N v) := by
          cases hfb with
          | flat hh => simp [flat0] at hh
          | func q1 q2 => exact ⟨q1, q2⟩
        have hab : ∀ x ∈ xs.toList ++ vs ++ cs.toList, Bdd N x := by
          intro x hx
          rw [List.mem_append, List.mem_append] at hx
          rcases hx with (hx | hx) | hx
          · obtain ⟨i, hi⟩ := List.getElem?_of_mem hx
            exact b1 i x (by simpa using hi)
          · exact bdd_evals he _ _ ha x hx
          · obtain ⟨i, hi⟩ := List.getElem?_of_mem hx
            exact b2 i x (by simpa using hi)
        obtain ⟨k1, k2, _⟩ := hcall c g _ N H v N' H' hI hab h
        exact ⟨step_call hop hf ha hc k1, k2⟩
      · cases h
    · cases h
  · -- append
    rename_i args argTypes
    split at h
    · rename_i x y t t' hargs htypes
      split at h
      · rename_i htt
        subst htt
        have ho2 : o.op = .call { callee := .builtin .append, args := #[x, y], argTypes := #[t, t] } := by
          rw [hop]
          have e1 : args = #[x, y] := by rw [← Array.toArray_toList (xs := args), hargs]
          have e2 : argTypes = #[t, t] := by rw [← Array.toArray_toList (xs := argTypes), htypes]
          rw [e1, e2]
        unfold evAppend at h
        split at h
        · rename_i el s u hu hx hy
          split at h
          · rename_i inf hinf hlen
            split at h
            · rename_i b k cp
              simp only [Option.some.injEq, Prod.mk.injEq] at h
              obtain ⟨rfl, rfl, rfl⟩ := h
              exact ⟨step_append_none ho2 hu hinf hx hy rfl hlen rfl3, .same hI⟩
            · cases h
          · rename_i inf m hm hinf hlen
            split at h
            · rename_i z root k olds news hz hroot holds hnews
              split at h
              · rename_i hc
                simp only [Bool.and_eq_true, decide_eq_true_eq, Nat.ble_eq] at hc
                obtain ⟨⟨⟨⟨h1, h2⟩, h3⟩, h4⟩, h5⟩ := hc
                simp only [Option.some.injEq, Prod.mk.injEq] at h
                obtain ⟨rfl, rfl, rfl⟩ := h
                have hm0 : 0 < m := by
                  rcases Nat.eq_zero_or_pos m with h | h
                  · subst h; exact (hm rfl).elim
                  · exact h
                have hown : ∀ i off, root = some (i, off) → ∃ b, view c H i = some b ∧ b.own = true ∧ b.esz = inf.size := by
                  intro i off hr
                  subst hr
                  simp only [rootOwn] at h3
                  split at h3
                  · rename_i b hb
                    simp only [Bool.and_eq_true, decide_eq_true_eq] at h3
                    exact ⟨b, hb, h3.1, h3.2⟩
                  · cases h3
                have hI2 : Inv c N (delRoot H root) := by
                  cases root with
                  | none => exact hI
                  | some p => exact hI.gone p.1
                have hview : view c (delRoot H root) = killA (view c H) root := by
                  cases root with
                  | none => rfl
                  | some p => exact view_gone
                refine ⟨step_append ho2 hu hinf hz h1 hx hy hroot hlen hm0 holds hnews h2 hown h4 h5 ⟨rfl, rfl, by rw [view_new hI2, hview]; exact AHeap.le_refl _⟩, Nat.le_succ _, hI2.new fun x hx => ?_, fun j hj hr => ?_, fun j hj hr => ?_⟩
                · rw [List.mem_append] at hx
                  rcases hx with hx | hx
                  · exact (bdd_src hI holds x hx).mono (Nat.le_succ _)
                  · exact (bdd_src hI hnews x hx).mono (Nat.le_succ _)
                · rw [Trie.put_get, if_neg (by omega)]
                  cases root with
                  | none => rfl
                  | some p =>
                    obtain ⟨b, q1, q2, _⟩ := hown p.1 p.2 rfl
                    obtain ⟨g1, g2, g3⟩ := view_some q1
                    show (H.del p.1).get j = _
                    rw [Trie.del_get, if_neg]
                    rintro rfl
                    rcases hr with hr | hr
                    · rw [q2, hr] at g3; cases g3
                    · rw [g1] at hr; cases hr
                · rw [Trie.put_get, if_neg (by omega)]
                  cases root with
                  | none => exact hr
                  | some p =>
                    show (H.del p.1).get j = _
                    rw [Trie.del_get]
                    split
                    · rfl
                    · exact hr
              · cases h
            · cases h
          · cases h
        · cases h
      · cases h
    · cases h
  · -- the others
    simp only [Option.map_eq_some_iff, Prod.mk.injEq] at h
    obtain ⟨v2, hv, rfl, rfl, rfl⟩ := h
    rw [← hop] at hv
    exact ⟨step_value (fun ι a ha => pureX_sound hv ha) rfl3, .same hI⟩
end
end Go.Abs
