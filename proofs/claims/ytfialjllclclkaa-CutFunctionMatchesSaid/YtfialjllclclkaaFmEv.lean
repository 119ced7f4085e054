/- Shaken texts of the layer and of the walks. -/
import Derived.Test.YtfialjllclclkaaFmTrie
import Derived.Test.YtfialjllclclkaaFmMore
import Derived.Test.YtfialjllclclkaaFmLoop
import Derived.Test.YtfialjllclclkaaFmMaps
namespace Go.Abs
noncomputable section

theorem mapM_eq {f g : Operand → Option Value} : ∀ (l : List Operand), (∀ x ∈ l, f x = g x) → l.mapM f = l.mapM g
  | [], _ => rfl
  | x :: l, h => by
    simp only [List.mapM_cons]
    rw [h x (by simp), mapM_eq l fun y hy => h y (by simp [hy])]
theorem bind0_eq {f g : Operand → Option Value} (args : Array Operand) (h : ∀ x ∈ args.toList, f x = g x) : (args[0]?).bind f = (args[0]?).bind g := by
  cases hx : args[0]? with
  | none => rfl
  | some x => exact h x (by rw [← Array.getElem?_toList] at hx; exact List.mem_of_getElem? hx)
theorem pureX_congr {P : Program} {ρ ρ' : Operand → Option Value} {op : Op} (h : ∀ x ∈ op.operands.toList, ρ x = ρ' x) : pureX P ρ op = pureX P ρ' op := by
  cases op with
  | call c =>
    obtain ⟨callee, args, argTypes⟩ := c
    have ha : ∀ x ∈ args.toList, ρ x = ρ' x := fun x hx => h x (by simp [Op.operands, Call.operands] at hx ⊢; exact .inr hx)
    have h1 := mapM_eq _ ha
    have h2 := bind0_eq _ ha
    cases callee with
    | builtin b => cases b <;> simp only [pureX, pureOp, h1, h2]
    | _ => rfl
  | binOp o t x y z =>
    simp only [pureX, pureOp, h x (by simp [Op.operands]), h y (by simp [Op.operands])]
  | makeFunc fn first captured =>
    have h1 := mapM_eq (f := ρ) (g := ρ') first.toList fun x hx => h x (by simp [Op.operands] at hx ⊢; exact .inl hx)
    have h2 := mapM_eq (f := ρ) (g := ρ') captured.toList fun x hx => h x (by simp [Op.operands] at hx ⊢; exact .inr hx)
    simp only [pureX, pureOp, h1, h2]
  | move x | assign x | nilCheck x | unOp _ _ x | convert _ _ x | extract x _ | field _ x _ | fieldAddr _ x _ | makeInterface _ x => simp only [pureX, pureOp, h x (by simp [Op.operands])]
  | pick a b c => simp only [pureX, pureOp, h a (by simp [Op.operands]), h b (by simp [Op.operands]), h c (by simp [Op.operands])]
  | index _ x y | indexAddr _ x y => simp only [pureX, pureOp, h x (by simp [Op.operands]), h y (by simp [Op.operands])]
  | _ => rfl
def bddS (N : Nat) : Value → Bool
  | .pointer (some ⟨i, _, none⟩) => Nat.blt i N
  | .slice (some ⟨i, _, none⟩) _ _ => Nat.blt i N
  | .map (some i) => Nat.blt i N
  | .func (.yield i) xs cs => Nat.blt i N && (xs.toList.isEmpty && cs.toList.isEmpty)
  | v => flat0 v
def bddC (N : Nat) : Value → Bool
  | .func fn xs cs => bif noYield fn then xs.toList.all (bddS N) && cs.toList.all (bddS N) else bddS N (.func fn xs cs)
  | .iface _ v => bddS N v
  | v => bddS N v
def bddD (N : Nat) : Value → Bool
  | .func fn xs cs => bif noYield fn then xs.toList.all (bddC N) && cs.toList.all (bddC N) else bddS N (.func fn xs cs)
  | v => bddC N v
def bddB (N : Nat) : Value → Bool
  | .int _ _ => true
  | .bool _ => true
  | .agg cs => cs.toList.all (bddD N)
  | .tuple cs => cs.toList.all fun v => match v with
    | .agg ds => ds.toList.all (bddD N)
    | v => bddD N v
  | .iface _ (.agg cs) => cs.toList.all (bddD N)
  | v => bddD N v
theorem blt_lt {i N : Nat} (h : Nat.blt i N = true) : i < N := by simpa using h
theorem empty_arr {xs : Array Value} (h : xs.toList.isEmpty = true) : xs = #[] := by
  have := List.isEmpty_iff.1 h
  rw [← Array.toArray_toList (xs := xs), this]
theorem bddS_sound {N : Nat} {v : Value} (h : bddS N v = true) : Bdd N v := by
  unfold bddS at h
  split at h
  · exact .ptr (blt_lt h)
  · exact .slice (blt_lt h)
  · exact .map (blt_lt h)
  · simp only [Bool.and_eq_true] at h
    rw [empty_arr h.2.1, empty_arr h.2.2]
    exact .yield (blt_lt h.1)
  · exact .flat h
theorem all_get {p : Value → Bool} {cs : Array Value} (h : cs.toList.all p = true) {i : Nat} {v : Value} (hv : cs[i]? = some v) : p v = true := by
  rw [List.all_eq_true] at h
  exact h v (Array.mem_toList_iff.2 (Array.mem_of_getElem? hv))
theorem bddC_sound {N : Nat} {v : Value} (h : bddC N v = true) : Bdd N v := by
  unfold bddC at h
  split at h
  · rename_i fn xs cs
    cases hn : noYield fn with
    | true =>
      rw [hn, cond_true, Bool.and_eq_true] at h
      exact .func (noYield_ne hn) (fun i v hv => bddS_sound (all_get h.1 hv)) (fun i v hv => bddS_sound (all_get h.2 hv))
    | false => rw [hn, cond_false] at h; exact bddS_sound h
  · exact .iface (bddS_sound h)
  · exact bddS_sound h
theorem bddD_sound {N : Nat} {v : Value} (h : bddD N v = true) : Bdd N v := by
  unfold bddD at h
  split at h
  · rename_i fn xs cs
    cases hn : noYield fn with
    | true =>
      rw [hn, cond_true, Bool.and_eq_true] at h
      exact .func (noYield_ne hn) (fun i v hv => bddC_sound (all_get h.1 hv)) (fun i v hv => bddC_sound (all_get h.2 hv))
    | false => rw [hn, cond_false] at h; exact bddS_sound h
  · exact bddC_sound h
theorem bddB_sound {N : Nat} {v : Value} (h : bddB N v = true) : Bdd N v := by
  unfold bddB at h
  split at h
  · exact .flat rfl
  · exact .flat rfl
  · exact .agg fun i v hv => bddD_sound (all_get h hv)
  · refine .tuple fun i v hv => ?_
    have := all_get h hv
    split at this
    · exact .agg fun i v hv => bddD_sound (all_get this hv)
    · exact bddD_sound this
  · exact .iface (.agg fun i v hv => bddD_sound (all_get h hv))
  · exact bddD_sound h
theorem bdd_spread {N : Nat} {v : Value} (h : Bdd N v) : ∀ x ∈ spread v, Bdd N x := by
  intro x hx
  unfold spread at hx
  split at hx
  · rename_i cs
    obtain ⟨i, hi⟩ := List.getElem?_of_mem hx
    rw [Array.getElem?_toList] at hi
    cases h with
    | flat h => simp [flat0] at h
    | agg h => exact h i x hi
  · simp at hx; subst hx; exact h

abbrev HeapT := Trie (List Value × ESz)
structure Ctx where
  ro : Nat → Bool
  hid : Nat → Bool
def seen (c : Ctx) (i : Nat) (b : List Value × ESz) : Option Blk := match b.2 with
  | .n _ => some ⟨b.1, !c.ro i, b.2⟩
  | .loop _ _ => bif c.ro i then none else some ⟨b.1, true, b.2⟩
  | .map _ => bif c.ro i then none else some ⟨b.1, true, b.2⟩
def view (c : Ctx) (H : HeapT) : AHeap := fun i => bif c.hid i then none else (H.get i).bind (seen c i)
theorem seen_free {c : Ctx} {i : Nat} (h : c.ro i = false) (b : List Value × ESz) : seen c i b = some ⟨b.1, true, b.2⟩ := by
  unfold seen
  split <;> rw [h] <;> rfl
theorem seen_some {c : Ctx} {i : Nat} {b : List Value × ESz} {r : Blk} (h : seen c i b = some r) : b = (r.cells, r.esz) ∧ r.own = !c.ro i := by
  unfold seen at h
  split at h
  · cases h; exact ⟨rfl, rfl⟩
  · cases hr : c.ro i with
    | true => rw [hr] at h; cases h
    | false => rw [hr] at h; cases h; exact ⟨rfl, rfl⟩
  · cases hr : c.ro i with
    | true => rw [hr] at h; cases h
    | false => rw [hr] at h; cases h; exact ⟨rfl, rfl⟩
def BB (N : Nat) (b : List Value × ESz) : Prop := (∀ x ∈ b.1, Bdd N x) ∧ LoopBdd N b.2
theorem BB.mono {N N' : Nat} {b : List Value × ESz} (h : BB N b) (hN : N ≤ N') : BB N' b := ⟨fun x hx => (h.1 x hx).mono hN, fun i s e t u hu => (h.2.1 i s e t u hu).mono hN, fun es e p hp => ⟨(h.2.2 es e p hp).1.mono hN, (h.2.2 es e p hp).2.mono hN⟩⟩
theorem BB.row {N k : Nat} {l : List Value} (h : ∀ x ∈ l, Bdd N x) : BB N (l, .n k) := ⟨h, .row N k⟩
structure Inv (c : Ctx) (N : Nat) (H : HeapT) : Prop where
  ro : ∀ j, c.ro j = true → j < N
  hid : ∀ j, c.hid j = true → j < N
  bdd : ∀ j b, H.get j = some b → j < N ∧ BB N b
theorem Inv.up {c : Ctx} {N N' : Nat} {H : HeapT} (h : Inv c N H) (hN : N ≤ N') : Inv c N' H :=
  ⟨fun j hj => Nat.lt_of_lt_of_le (h.ro j hj) hN, fun j hj => Nat.lt_of_lt_of_le (h.hid j hj) hN, fun j b hb => let ⟨h1, h2⟩ := h.bdd j b hb; ⟨Nat.lt_of_lt_of_le h1 hN, h2.mono hN⟩⟩
theorem Inv.free {c : Ctx} {N : Nat} {H : HeapT} (h : Inv c N H) : c.ro N = false ∧ c.hid N = false := by
  constructor
  · cases e : c.ro N with
    | false => rfl
    | true => have := h.ro N e; omega
  · cases e : c.hid N with
    | false => rfl
    | true => have := h.hid N e; omega
theorem Inv.new {c : Ctx} {N : Nat} {H : HeapT} (h : Inv c N H) {b : List Value × ESz} (hb : BB (N + 1) b) : Inv c (N + 1) (H.put N b) := by
  refine ⟨fun j hj => Nat.lt_succ_of_lt (h.ro j hj), fun j hj => Nat.lt_succ_of_lt (h.hid j hj), fun j b' hj => ?_⟩
  rw [Trie.put_get] at hj
  split at hj
  · cases hj; exact ⟨by omega, hb⟩
  · obtain ⟨h1, h2⟩ := h.bdd j b' hj
    exact ⟨by omega, h2.mono (Nat.le_succ _)⟩
theorem Inv.turn {c : Ctx} {N : Nat} {H : HeapT} (h : Inv c N H) {i : Nat} (hi : i < N) {b : List Value × ESz} (hb : BB N b) : Inv c N (H.put i b) := by
  refine ⟨h.ro, h.hid, fun j b' hj => ?_⟩
  rw [Trie.put_get] at hj
  split at hj
  · cases hj; exact ⟨by omega, hb⟩
  · exact h.bdd j b' hj
theorem Inv.gone {c : Ctx} {N : Nat} {H : HeapT} (h : Inv c N H) (i : Nat) : Inv c N (H.del i) := by
  refine ⟨h.ro, h.hid, fun j b' hj => ?_⟩
  rw [Trie.del_get] at hj
  split at hj
  · cases hj
  · exact h.bdd j b' hj
theorem view_new {c : Ctx} {N : Nat} {H : HeapT} (h : Inv c N H) (b : List Value × ESz) : view c (H.put N b) = (view c H).set N ⟨b.1, true, b.2⟩ := by
  obtain ⟨h1, h2⟩ := h.free
  funext j
  unfold view AHeap.set
  rw [Trie.put_get]
  by_cases e : j = N
  · subst e; simp [h1, h2, seen_free]
  · simp [e]
theorem view_turn {c : Ctx} {H : HeapT} {i : Nat} (h1 : c.ro i = false) (h2 : c.hid i = false) (b : List Value × ESz) : view c (H.put i b) = (view c H).set i ⟨b.1, true, b.2⟩ := by
  funext j
  unfold view AHeap.set
  rw [Trie.put_get]
  by_cases e : j = i
  · subst e; simp [h1, h2, seen_free]
  · simp [e]
theorem view_gone {c : Ctx} {H : HeapT} {i : Nat} : view c (H.del i) = (view c H).del i := by
  funext j
  unfold view AHeap.del
  rw [Trie.del_get]
  by_cases e : j = i
  · subst e; simp
  · simp [e]
theorem view_some {c : Ctx} {H : HeapT} {i : Nat} {b : Blk} (h : view c H i = some b) : c.hid i = false ∧ H.get i = some (b.cells, b.esz) ∧ b.own = !c.ro i := by
  unfold view at h
  cases hh : c.hid i with
  | true => rw [hh] at h; simp at h
  | false =>
    rw [hh] at h
    simp only [cond_false, Option.bind_eq_some_iff] at h
    obtain ⟨b0, h1, h2⟩ := h
    obtain ⟨rfl, h3⟩ := seen_some h2
    exact ⟨rfl, h1, h3⟩
theorem view_row {c : Ctx} {H : HeapT} {i k : Nat} {l : List Value} (h1 : c.hid i = false) (h2 : H.get i = some (l, .n k)) : view c H i = some ⟨l, !c.ro i, k⟩ := by
  simp only [view, h1, h2, cond_false, Option.bind_some]; rfl

section
variable {P : Program} {n : Nat}
abbrev CallT := Ctx → Fn → List Value → Nat → HeapT → Option (Value × Nat × HeapT)
def boundR (ρ : Operand → Option Value) (d : Nat) : Option Operand → Option Nat
  | none => some d
  | some x => match ρ x with
    | some (.int _ i) => if 0 ≤ i then some i.toNat else none
    | _ => none
theorem boundR_eval (e : Env) (d : Nat) (x : Option Operand) : boundR e.eval d x = boundA e d x := by cases x <;> rfl
def isRow (z : ESz) (k : Nat) : Bool := match z with
  | .n m => Nat.beq m k
  | _ => false
theorem isRow_eq {z : ESz} {k : Nat} (h : isRow z k = true) : z = .n k := by
  unfold isRow at h
  split at h
  · rw [Nat.eq_of_beq_eq_true h]
  · cases h
def ptrA (N : Nat) : Value := .pointer (some ⟨N, 0, none⟩)
def rowA (N len : Nat) : Value := .slice (some ⟨N, 0, none⟩) len len
def partsE (ρ : Operand → Option Value) (parts : Array (Nat × Operand)) : Option (List (Nat × Value)) := parts.toList.mapM fun p => (ρ p.2).map fun v => (p.1, v)

def evLoad (P : Program) (c : Ctx) (ρ : Operand → Option Value) (t : TypeId) (x : Operand) (N : Nat) (H : HeapT) : Option (Value × Nat × HeapT) :=
  match ρ x with
  | some (.pointer (some ⟨i, off, none⟩)) => (view c H i).bind fun b => (loadA P t b off).map fun v => (v, N, H)
  | _ => none
def evStore (P : Program) (c : Ctx) (ρ : Operand → Option Value) (t : TypeId) (x y : Operand) (N : Nat) (H : HeapT) : Option (Value × Nat × HeapT) :=
  match ρ x, ρ y with
  | some (.pointer (some ⟨i, off, none⟩)), some v =>
    match view c H i with
    | some b => if b.own && decide (sizeA P t = some (spread v).length) && (spread v).all (·.oneCell') && Nat.ble (off + (spread v).length) b.cells.length then some (undef, N, H.put i (splice b.cells off (spread v), b.esz)) else none
    | none => none
  | _, _ => none
def evAlloc (P : Program) (t : TypeId) (N : Nat) (H : HeapT) : Option (Value × Nat × HeapT) :=
  (zeroA P t).bind fun z => if (spread z).all flat then some (ptrA N, N + 1, H.put N (spread z, 1)) else none
def evBox (ρ : Operand → Option Value) (x : Operand) (N : Nat) (H : HeapT) : Option (Value × Nat × HeapT) :=
  (ρ x).map fun v => (ptrA N, N + 1, H.put N (spread v, 1))
def evBuild (P : Program) (ρ : Operand → Option Value) (t : TypeId) (parts : Array (Nat × Operand)) (N : Nat) (H : HeapT) : Option (Value × Nat × HeapT) :=
  match P.underlying t, zeroA P t, partsE ρ parts with
  | some (.struct fs), some z, some ps =>
    if (spread z).all flat then
      (fs.toList.mapM fun f => (sizeA P f.type).map fun s => (f.offset, s)).bind fun pl => (fillA (pl[·]?) (spread z) ps).map fun r => (.agg r.toArray, N, H)
    else none
  | some (.array _ el), some z, some ps =>
    if (spread z).all flat then (P.info? el).bind fun inf => (fillA (fun i => some (i * inf.size, inf.size)) (spread z) ps).map fun r => (.agg r.toArray, N, H) else none
  | _, _, _ => none
def evBuildSlice (P : Program) (ρ : Operand → Option Value) (t : TypeId) (len : Nat) (parts : Array (Nat × Operand)) (N : Nat) (H : HeapT) : Option (Value × Nat × HeapT) :=
  match P.underlying t, partsE ρ parts with
  | some (.slice el), some ps =>
    (P.info? el).bind fun inf => inf.zero.bind fun z =>
      if (spread z).all flat && decide ((spread z).length = inf.size) && Nat.blt 0 inf.size && Nat.ble (len * inf.size) 16777216 then
        (fillA (fun i => some (i * inf.size, inf.size)) (zerosA (spread z) (len * inf.size)) ps).bind fun r => if Nat.ble (len * inf.size) r.length then some (rowA N len, N + 1, H.put N (r, inf.size)) else none
      else none
  | _, _ => none
def evMakeSlice (P : Program) (ρ : Operand → Option Value) (t : TypeId) (x y : Operand) (N : Nat) (H : HeapT) : Option (Value × Nat × HeapT) :=
  match P.underlying t, ρ x, ρ y with
  | some (.slice el), some (.int _ (.ofNat len)), some (.int _ (.ofNat len')) =>
    (P.info? el).bind fun inf => inf.zero.bind fun z =>
      if (spread z).all flat && decide ((spread z).length = inf.size) && Nat.blt 0 inf.size && Nat.beq len len' && Nat.ble len 9223372036854775807 && Nat.ble (inf.bytes * len) 140737488355328 then
        some (rowA N len, N + 1, H.put N (zerosA (spread z) (len * inf.size), inf.size))
      else none
  | _, _, _ => none
def evSlice (P : Program) (c : Ctx) (ρ : Operand → Option Value) (t : TypeId) (x : Operand) (lo hi : Option Operand) (N : Nat) (H : HeapT) : Option (Value × Nat × HeapT) :=
  match P.underlying t, ρ x with
  | some (.slice el), some (.slice (some ⟨i, off, none⟩) len cap) =>
    match view c H i, P.info? el, boundR ρ 0 lo, boundR ρ len hi with
    | some b, some inf, some l, some h => if isRow b.esz inf.size && Nat.ble l h && Nat.ble h cap then some (.slice (some ⟨i, off + l * inf.size, none⟩) (h - l) (cap - l), N, H) else none
    | _, _, _, _ => none
  | some (.slice el), some (.slice none 0 0) =>
    match P.info? el, boundR ρ 0 lo, boundR ρ 0 hi with
    | some _, some 0, some 0 => some (.slice none 0 0, N, H)
    | _, _, _ => none
  | _, _ => none
def delRoot (H : HeapT) : Option (Nat × Nat) → HeapT
  | none => H
  | some (i, _) => H.del i
def rootOwn (σ : AHeap) (size : Nat) : Option (Nat × Nat) → Bool
  | none => true
  | some (i, _) => match σ i with
    | some b => b.own && isRow b.esz size
    | none => false
def evAppend (P : Program) (c : Ctx) (ρ : Operand → Option Value) (t : TypeId) (x y : Operand) (N : Nat) (H : HeapT) : Option (Value × Nat × HeapT) :=
  match P.underlying t, ρ x, ρ y with
  | some (.slice el), some s, some u =>
    match P.info? el, lenA u with
    | some _, some 0 => match s with
      | .slice b k cp => some (.slice b k cp, N, H)
      | _ => none
    | some inf, some m =>
      match inf.zero, rootA s, srcA (view c H) inf.size s, srcA (view c H) inf.size u with
      | some z, some (root, k), some olds, some news =>
        if decide (z.cells.size = inf.size) && news.all (·.oneCell') && rootOwn (view c H) inf.size root && Nat.ble ((k + m) * inf.bytes) 140737488355328 && Nat.ble (k + m) 140737488355328 then
          some (rowA N (k + m), N + 1, (delRoot H root).put N (olds ++ news, inf.size))
        else none
      | _, _, _, _ => none
    | _, _ => none
  | _, _, _ => none
def evClear (P : Program) (c : Ctx) (ρ : Operand → Option Value) (t : TypeId) (x : Operand) (N : Nat) (H : HeapT) : Option (Value × Nat × HeapT) :=
  match P.underlying t, ρ x with
  | some (.slice el), some (.slice b 0 k) => some (.tuple #[], N, H)
  | some (.slice el), some (.slice (some ⟨i, off, none⟩) m _) =>
    match P.info? el with
    | some inf => match inf.zero, view c H i with
      | some z, some b => if decide (z.cells.size = inf.size) && (spread z).all flat && !(spread z).isEmpty && (spread z).all (·.oneCell') && Nat.blt 0 m && b.own && Nat.ble (off + m * inf.size) b.cells.length then
          some (.tuple #[], N, H.put i (splice b.cells off (zerosA (spread z) (m * inf.size)), b.esz)) else none
      | _, _ => none
    | none => none
  | _, _ => none
def evAppendZ (P : Program) (ρ : Operand → Option Value) (t tn : TypeId) (x y : Operand) (N : Nat) (H : HeapT) : Option (Value × Nat × HeapT) :=
  match P.underlying t, P.underlying tn, ρ x, ρ y with
  | some (.slice el), some (.int _), some (.slice none 0 0), some (.int _ (.ofNat m)) =>
    match P.info? el with
    | some inf => match inf.zero with
      | some z => if decide (z.cells.size = inf.size) && (spread z).all flat && !(spread z).isEmpty && Nat.blt 0 m && Nat.ble m 9223372036854775807 && Nat.ble (m * inf.bytes) 281474976710656 then
          some (rowA N m, N + 1, H.put N (zerosA (spread z) (m * inf.size), inf.size)) else none
      | none => none
    | none => none
  | _, _, _, _ => none
def evCallV (P : Program) (call : CallT) (c : Ctx) (ρ : Operand → Option Value) (f : Operand) (args : Array Operand) (N : Nat) (H : HeapT) : Option (Value × Nat × HeapT) :=
  match ρ f, args.toList.mapM ρ with
  | some (.func (.func g) xs cs), some vs => if callableB P g then call c (.func g) (xs.toList ++ vs ++ cs.toList) N H else none
  | some (.func (.yield i) xs cs), some vs => bif xs.toList.isEmpty && cs.toList.isEmpty then call c (.yield i) vs N H else none
  | _, _ => none
def evLookup (P : Program) (c : Ctx) (ρ : Operand → Option Value) (t : TypeId) (x ix : Operand) (ok : Bool) (N : Nat) (H : HeapT) : Option (Value × Nat × HeapT) :=
  match ρ x, ρ ix with
  | some m, some k => (lookA P (view c H) t m k ok).map fun v => (v, N, H)
  | _, _ => none
def evMapUpdate (P : Program) (c : Ctx) (ρ : Operand → Option Value) (t : TypeId) (x y z : Operand) (N : Nat) (H : HeapT) : Option (Value × Nat × HeapT) :=
  match P.underlying t, ρ x, ρ y, ρ z with
  | some (.map kt _), some (.map (some i)), some k, some v => match view c H i with
    | some b => match b.esz with
      | .map es => bif b.own then (putA P kt es k v).map fun es2 => (undef, N, H.put i ([], .map es2)) else none
      | _ => none
    | none => none
  | _, _, _, _ => none
def evMapEntry (P : Program) (c : Ctx) (ρ : Operand → Option Value) (t : TypeId) (x y : Operand) (N : Nat) (H : HeapT) : Option (Value × Nat × HeapT) :=
  match P.underlying t, ρ x, ρ y with
  | some (.map kt et), some (.map (some i)), some k => match view c H i with
    | some b => match b.esz with
      | .map es => bif b.own then (entryA P kt et es k).map fun r => (.tuple #[r.2.1, .int .i64 r.2.2], N, H.put i ([], .map r.1)) else none
      | _ => none
    | none => none
  | _, _, _ => none
def evEntryStore (c : Ctx) (ρ : Operand → Option Value) (x y z : Operand) (N : Nat) (H : HeapT) : Option (Value × Nat × HeapT) :=
  match ρ x, ρ y, ρ z with
  | some (.map (some i)), some (.int _ (.ofNat m)), some v => match view c H i with
    | some b => match b.esz with
      | .map es => match es[m]? with
        | some (k0, _) => bif b.own then some (undef, N, H.put i ([], .map (es.set m (k0, v)))) else none
        | none => none
      | _ => none
    | none => none
  | _, _, _ => none
def evOp (P : Program) (call : CallT) (c : Ctx) (ρ : Operand → Option Value) (op : Op) (N : Nat) (H : HeapT) : Option (Value × Nat × HeapT) :=
  match op with
  | .load t x => evLoad P c ρ t x N H
  | .store t x y => evStore P c ρ t x y N H
  | .alloc t => evAlloc P t N H
  | .box _ x => evBox ρ x N H
  | .build t parts => evBuild P ρ t parts N H
  | .buildSlice t len parts => evBuildSlice P ρ t len parts N H
  | .makeSlice t x y => evMakeSlice P ρ t x y N H
  | .slice t x lo hi none => evSlice P c ρ t x lo hi N H
  | .call { callee := .value f, args, argTypes := _ } => evCallV P call c ρ f args N H
  | .call { callee := .builtin .append, args, argTypes } => match args.toList, argTypes.toList with
    | [x, y], [t, t'] => bif Nat.beq t t' then evAppend P c ρ t x y N H else evAppendZ P ρ t t' x y N H
    | _, _ => none
  | .call { callee := .builtin .clear, args, argTypes } => match args.toList, argTypes.toList with
    | [x], [t] => evClear P c ρ t x N H
    | _, _ => none
  | .makeMap _ none => some (.map (some N), N + 1, H.put N ([], .map []))
  | .lookup t x ix ok => evLookup P c ρ t x ix ok N H
  | .mapUpdate t x y z => evMapUpdate P c ρ t x y z N H
  | .mapEntry t x y => evMapEntry P c ρ t x y N H
  | .entryStore _ x y z => evEntryStore c ρ x y z N H
  | op => (pureX P ρ op).map fun v => (v, N, H)

structure Good (c : Ctx) (N : Nat) (H : HeapT) (N' : Nat) (H' : HeapT) : Prop where
  le : N ≤ N'
  inv : Inv c N' H'
  frame : ∀ j, j < N → (c.ro j = true ∨ c.hid j = true) → H'.get j = H.get j
  none : ∀ j, j < N → H.get j = none → H'.get j = none
theorem Good.same {c : Ctx} {N : Nat} {H : HeapT} (h : Inv c N H) : Good c N H N H := ⟨Nat.le_refl _, h, fun _ _ _ => rfl, fun _ _ h => h⟩
theorem Good.new {c : Ctx} {N : Nat} {H : HeapT} (h : Inv c N H) {b : List Value × ESz} (hb : BB (N + 1) b) : Good c N H (N + 1) (H.put N b) :=
  ⟨Nat.le_succ _, h.new hb, fun j hj _ => by rw [Trie.put_get, if_neg (by omega)], fun j hj h => by rw [Trie.put_get, if_neg (by omega)]; exact h⟩
theorem Good.trans {c : Ctx} {N N1 N2 : Nat} {H H1 H2 : HeapT} (h : Good c N H N1 H1) (k : Good c N1 H1 N2 H2) : Good c N H N2 H2 :=
  ⟨Nat.le_trans h.le k.le, k.inv, fun j hj hc => (k.frame j (Nat.lt_of_lt_of_le hj h.le) hc).trans (h.frame j hj hc), fun j hj hn => k.none j (Nat.lt_of_lt_of_le hj h.le) (h.none j hj hn)⟩
def YOk (P : Program) (i : Nat) (vs : List Value) (N : Nat) (σ : AHeap) (Q : Value → Nat → AHeap → Prop) : Prop :=
  ∃ info : LInfo, σ i = some ⟨[], true, .loop info .ready⟩ ∧ vs.length = info.params.size ∧ (∀ p ∈ info.params.toList, p < info.n) ∧
    AWp true P info.n info.assign (putParams info.params.toList vs info.env) N (σ.del i) (fun ex env1 N1 σ1 => ex = .normal ∧ AWp true P info.n info.body env1 N1 σ1 (RoundQ i info Q))
def FnOk (P : Program) (fn : Fn) (args : List Value) (N : Nat) (σ : AHeap) (Q : Value → Nat → AHeap → Prop) : Prop := match fn with
  | .func g => AOk P g args N σ Q
  | .yield i => YOk P i args N σ Q
  | _ => False
def CallOk (P : Program) (call : CallT) : Prop := ∀ (c : Ctx) (fn : Fn) (args : List Value) (N : Nat) (H : HeapT) (v : Value) (N' : Nat) (H' : HeapT), Inv c N H → (∀ x ∈ args, Bdd N x) → call c fn args N H = some (v, N', H') →
  FnOk P fn args N (view c H) (fun v1 N1 σ1 => v1 = v ∧ N1 = N' ∧ (view c H').le σ1) ∧ Good c N H N' H' ∧ Bdd N' v

theorem StepQ.env_mono {o : Oper} {e env : Env} {N : Nat} {σ : AHeap} {K : Value → Nat → AHeap → Prop} (h : StepQ P n o e N σ K) (hd : ∀ t v, e.get t = some v → env.get t = some v) : StepQ P n o env N σ K :=
  fun F hF ds ι w a next Q he hr hq => h F hF ds ι w a next Q (he.le hd) hr hq
theorem bdd_eval {e : Env} {N : Nat} (he : ∀ t v, e.get t = some v → Bdd N v) {x : Operand} {v : Value} (h : e.eval x = some v) : Bdd N v := by
  cases x with
  | tmp t => exact he t v h
  | const u =>
    simp only [Env.eval] at h
    split at h
    · cases h; exact .of_flat (by assumption)
    · cases h
  | global g => cases h
  | func f => cases h; exact .func (by simp) (by simp) (by simp)
theorem bdd_evals {e : Env} {N : Nat} (he : ∀ t v, e.get t = some v → Bdd N v) : ∀ (l : List Operand) (vs : List Value), l.mapM e.eval = some vs → ∀ x ∈ vs, Bdd N x
  | [], vs, h => by simp at h; subst h; simp
  | y :: l, vs, h => by
    simp only [List.mapM_cons] at h
    cases hy : e.eval y with
    | none => simp [hy] at h
    | some v =>
      cases hl : l.mapM e.eval with
      | none => simp [hy, hl] at h
      | some us =>
        simp [hy, hl] at h
        subst h
        intro x hx
        rcases List.mem_cons.1 hx with rfl | hx
        · exact bdd_eval he hy
        · exact bdd_evals he l us hl x hx
theorem bdd_parts {e : Env} {N : Nat} (he : ∀ t v, e.get t = some v → Bdd N v) : ∀ (l : List (Nat × Operand)) (ps : List (Nat × Value)), (l.mapM fun p => (e.eval p.2).map fun v => (p.1, v)) = some ps → ∀ p ∈ ps, Bdd N p.2
  | [], ps, h => by simp at h; subst h; simp
  | y :: l, ps, h => by
    simp only [List.mapM_cons] at h
    cases hy : e.eval y.2 with
    | none => simp [hy] at h
    | some v =>
      cases hl : l.mapM fun p => (e.eval p.2).map fun v => (p.1, v) with
      | none => simp [hy, hl] at h
      | some us =>
        simp [hy, hl] at h
        subst h
        intro x hx
        rcases List.mem_cons.1 hx with rfl | hx
        · exact bdd_eval he hy
        · exact bdd_parts he l us hl x hx
theorem bdd_splice {N : Nat} {l vs : List Value} {off : Nat} (h1 : ∀ x ∈ l, Bdd N x) (h2 : ∀ x ∈ vs, Bdd N x) : ∀ x ∈ splice l off vs, Bdd N x := by
  intro x hx
  unfold splice at hx
  rw [List.mem_append, List.mem_append] at hx
  rcases hx with (hx | hx) | hx
  · exact h1 x (List.mem_of_mem_take hx)
  · exact h2 x hx
  · exact h1 x (List.mem_of_mem_drop hx)
theorem bdd_fill {N : Nat} {place : Nat → Option (Nat × Nat)} : ∀ (ps : List (Nat × Value)) (cells r : List Value), fillA place cells ps = some r → (∀ x ∈ cells, Bdd N x) → (∀ p ∈ ps, Bdd N p.2) → ∀ x ∈ r, Bdd N x
  | [], cells, r, h, h1, _ => by simp only [fillA, Option.some.injEq] at h; subst h; exact h1
  | (i, v) :: ps, cells, r, h, h1, h2 => by
    simp only [fillA] at h
    split at h
    · cases h
    · split at h
      · exact bdd_fill ps _ r h (bdd_splice h1 (bdd_spread (h2 (i, v) (by simp)))) (fun p hp => h2 p (by simp [hp]))
      · cases h
theorem bdd_zeros {N m : Nat} {z : List Value} (h : z.all flat = true) (hne : z ≠ []) : ∀ x ∈ zerosA z m, Bdd N x := by
  intro x hx
  simp only [zerosA, List.mem_map] at hx
  obtain ⟨i, _, rfl⟩ := hx
  have : i % z.length < z.length := Nat.mod_lt _ (List.length_pos_iff.2 hne)
  rw [List.getD_eq_getElem?_getD, List.getElem?_eq_getElem this]
  exact .of_flat (List.all_eq_true.1 h _ (List.getElem_mem this))
theorem bdd_src {c : Ctx} {N : Nat} {H : HeapT} (hI : Inv c N H) {size : Nat} {s : Value} {l : List Value} (h : srcA (view c H) size s = some l) : ∀ x ∈ l, Bdd N x := by
  unfold srcA at h
  split at h
  · cases h; simp
  · split at h
    · cases h; simp
    · simp only [Option.bind_eq_some_iff] at h
      obtain ⟨b, h1, h2⟩ := h
      obtain ⟨_, h3, _⟩ := view_some h1
      have h4 := (hI.bdd _ _ h3).2.1
      unfold cellsA at h2
      split at h2
      · cases h2
        intro x hx
        exact h4 x (List.mem_of_mem_drop (List.mem_of_mem_take hx))
      · cases h2
  · cases h

theorem putA_bdd {kt : TypeId} {es es2 : List (Value × Value)} {k v : Value} {N : Nat} (h : putA P kt es k v = some es2) (h1 : ∀ p ∈ es, Bdd N p.1 ∧ Bdd N p.2) (hv : Bdd N v) : ∀ p ∈ es2, Bdd N p.1 ∧ Bdd N p.2 := by
  unfold putA at h
  cases hko : keyOk P kt k with
  | false => rw [hko] at h; cases h
  | true =>
    rw [hko, cond_true] at h
    have hfk : flat k = true := by simp only [keyOk, Bool.and_eq_true] at hko; exact hko.1
    split at h
    · split at h
      · rename_i k0 v0 hj
        cases hsb : (flat k0 && Instr.sameBits 10000 k0 k) with
        | false => rw [hsb] at h; cases h
        | true =>
          rw [hsb, cond_true] at h
          cases h
          intro p hp
          rcases List.mem_or_eq_of_mem_set hp with hp | rfl
          · exact h1 p hp
          · exact ⟨.of_flat hfk, hv⟩
      · cases h
    · cases h
      intro p hp
      rcases List.mem_append.1 hp with hp | hp
      · exact h1 p hp
      · simp only [List.mem_singleton] at hp
        subst hp
        exact ⟨.of_flat hfk, hv⟩
    · cases h
theorem entryA_bdd {kt et : TypeId} {es es2 : List (Value × Value)} {k v : Value} {m N : Nat} (h : entryA P kt et es k = some (es2, v, m)) (h1 : ∀ p ∈ es, Bdd N p.1 ∧ Bdd N p.2) : ∀ p ∈ es2, Bdd N p.1 ∧ Bdd N p.2 := by
  unfold entryA at h
  cases hko : keyOk P kt k with
  | false => rw [hko] at h; cases h
  | true =>
    rw [hko, cond_true] at h
    have hfk : flat k = true := by simp only [keyOk, Bool.and_eq_true] at hko; exact hko.1
    split at h
    · split at h
      · rename_i k0 v0 hj
        cases hsb : (flat k0 && Instr.sameBits 10000 k0 k) with
        | false => rw [hsb] at h; cases h
        | true =>
          rw [hsb, cond_true] at h
          simp only [Option.some.injEq, Prod.mk.injEq] at h
          obtain ⟨rfl, rfl, rfl⟩ := h
          intro p hp
          rcases List.mem_or_eq_of_mem_set hp with hp | rfl
          · exact h1 p hp
          · exact ⟨.of_flat hfk, (h1 _ (List.mem_of_getElem? hj)).2⟩
      · cases h
    · simp only [Option.bind_eq_some_iff] at h
      obtain ⟨z, _, h⟩ := h
      cases hfz : flat z with
      | false => rw [hfz] at h; cases h
      | true =>
        rw [hfz, cond_true] at h
        simp only [Option.some.injEq, Prod.mk.injEq] at h
        obtain ⟨rfl, rfl, rfl⟩ := h
        intro p hp
        rcases List.mem_append.1 hp with hp | hp
        · exact h1 p hp
        · simp only [List.mem_singleton] at hp
          subst hp
          exact ⟨.of_flat hfk, .of_flat hfz⟩
    · cases h
theorem evOp_sound {call : CallT} (hcall : CallOk P call) {c : Ctx} {e : Env} {N : Nat} {H : HeapT} {o : Oper} {v : Value} {N' : Nat} {H' : HeapT} (hI : Inv c N H) (he : ∀ t v, e.get t = some v → Bdd N v)
    (h : evOp P call c e.eval o.op N H = some (v, N', H')) :
    StepQ P n o e N (view c H) (fun v1 N1 σ1 => v1 = v ∧ N1 = N' ∧ (view c H').le σ1) ∧ Good c N H N' H' := by
  have rfl3 : ∀ {v : Value} {N : Nat} {σ : AHeap}, v = v ∧ N = N ∧ σ.le σ := ⟨rfl, rfl, AHeap.le_refl _⟩
  generalize hop : o.op = op at h
  unfold evOp at h
  split at h
  · -- load
    rename_i t x
    unfold evLoad at h
    split at h
    · rename_i i off hx
      simp only [Option.bind_eq_some_iff, Option.map_eq_some_iff, Prod.mk.injEq] at h
      obtain ⟨b, hb, v', hv, rfl, rfl, rfl⟩ := h
      exact ⟨step_load hop hx hb hv rfl3, .same hI⟩
    · cases h
  · -- store
    rename_i t x y
    unfold evStore at h
    split at h
    · rename_i i off v2 hx hy
      split at h
      · rename_i b hb
        split at h
        · rename_i hc
          simp only [Bool.and_eq_true, decide_eq_true_eq, Nat.ble_eq] at hc
          obtain ⟨⟨⟨h1, h2⟩, h3⟩, h4⟩ := hc
          simp only [Option.some.injEq, Prod.mk.injEq] at h
          obtain ⟨rfl, rfl, rfl⟩ := h
          obtain ⟨q1, q2, q3⟩ := view_some hb
          have hro : c.ro i = false := by rw [h1] at q3; simpa using q3.symm
          refine ⟨step_store hop hx hb hy h1 h2 h3 h4 ⟨rfl, rfl, ?_⟩, Nat.le_refl _, hI.turn (hI.bdd _ _ q2).1 ⟨bdd_splice (hI.bdd _ _ q2).2.1 (bdd_spread (bdd_eval he hy)), (hI.bdd _ _ q2).2.2⟩, fun j _ hj => ?_, fun j _ hj => ?_⟩
          · rw [view_turn hro q1]; exact AHeap.le_refl _
          · rw [Trie.put_get, if_neg]
            rintro rfl
            rcases hj with hj | hj
            · rw [hro] at hj; cases hj
            · rw [q1] at hj; cases hj
          · rw [Trie.put_get, if_neg]
            · exact hj
            · rintro rfl; rw [q2] at hj; cases hj
        · cases h
      · cases h
    · cases h
  · -- alloc
    rename_i t
    simp only [evAlloc, Option.bind_eq_some_iff] at h
    obtain ⟨z, hz, h⟩ := h
    split at h
    · rename_i hf
      simp only [Option.some.injEq, Prod.mk.injEq] at h
      obtain ⟨rfl, rfl, rfl⟩ := h
      exact ⟨step_alloc 1 hop hz hf ⟨rfl, rfl, by rw [view_new hI]; exact AHeap.le_refl _⟩, .new hI (.row fun x hx => .of_flat (List.all_eq_true.1 hf x hx))⟩
    · cases h
  · -- box
    rename_i t x
    simp only [evBox, Option.map_eq_some_iff, Prod.mk.injEq] at h
    obtain ⟨v2, hx, rfl, rfl, rfl⟩ := h
    exact ⟨step_box 1 hop hx ⟨rfl, rfl, by rw [view_new hI]; exact AHeap.le_refl _⟩, .new hI (.row fun x hx' => (bdd_spread (bdd_eval he hx) x hx').mono (Nat.le_succ _))⟩
  · -- build
    rename_i t parts
    unfold evBuild at h
    split at h
    · rename_i fs z ps hu hz hps
      split at h
      · rename_i hf
        simp only [Option.bind_eq_some_iff, Option.map_eq_some_iff, Prod.mk.injEq] at h
        obtain ⟨pl, hpl, r, hr, rfl, rfl, rfl⟩ := h
        exact ⟨step_build_struct hop hu hz hf (by simpa [Option.map_eq_some_iff] using hpl) hps hr rfl3, .same hI⟩
      · cases h
    · rename_i m el z ps hu hz hps
      split at h
      · rename_i hf
        simp only [Option.bind_eq_some_iff, Option.map_eq_some_iff, Prod.mk.injEq] at h
        obtain ⟨inf, hi, r, hr, rfl, rfl, rfl⟩ := h
        exact ⟨step_build_array hop hu hz hf hi hps hr rfl3, .same hI⟩
      · cases h
    · cases h
  · -- buildSlice
    rename_i t len parts
    unfold evBuildSlice at h
    split at h
    · rename_i el ps hu hps
      simp only [Option.bind_eq_some_iff] at h
      obtain ⟨inf, hi, z, hz, h⟩ := h
      split at h
      · rename_i hc
        simp only [Bool.and_eq_true, decide_eq_true_eq, Nat.ble_eq] at hc
        obtain ⟨⟨⟨h1, h2⟩, h3⟩, h4⟩ := hc
        have h3 := blt_lt h3
        simp only [Option.bind_eq_some_iff] at h
        obtain ⟨r, hr, h⟩ := h
        split at h
        · rename_i hrl
          rw [Nat.ble_eq] at hrl
          simp only [Option.some.injEq, Prod.mk.injEq] at h
          obtain ⟨rfl, rfl, rfl⟩ := h
          refine ⟨step_buildSlice hop hu hi hz h1 h2 h3 h4 hps hr hrl ⟨rfl, rfl, by rw [view_new hI]; exact AHeap.le_refl _⟩, .new hI (.row fun x hx => ?_)⟩
          exact (bdd_fill ps _ r hr (bdd_zeros h1 (fun e => by rw [e] at h2; simp at h2; omega)) (bdd_parts he _ _ hps) x hx).mono (Nat.le_succ _)
        · cases h
      · cases h
    · cases h
  · -- makeSlice
    rename_i t x y
    unfold evMakeSlice at h
    split at h
    · rename_i el k1 len k2 len' hu hx hy
      simp only [Option.bind_eq_some_iff] at h
      obtain ⟨inf, hi, z, hz, h⟩ := h
      split at h
      · rename_i hc
        simp only [Bool.and_eq_true, decide_eq_true_eq, Nat.ble_eq] at hc
        obtain ⟨⟨⟨⟨⟨h1, h2⟩, h3⟩, h4⟩, h5⟩, h6⟩ := hc
        have h3 := blt_lt h3
        have h4 := Nat.eq_of_beq_eq_true h4
        subst h4
        simp only [Option.some.injEq, Prod.mk.injEq] at h
        obtain ⟨rfl, rfl, rfl⟩ := h
        refine ⟨step_makeSlice hop hu hi hz h1 h2 h3 hx hy h5 h6 ⟨rfl, rfl, by rw [view_new hI]; exact AHeap.le_refl _⟩, .new hI (.row fun x hx => bdd_zeros h1 (fun e => by rw [e] at h2; simp at h2; omega) x hx)⟩
      · cases h
    · cases h
  · -- slice
    rename_i t x lo hi
    unfold evSlice at h
    split at h
    · rename_i el i off len cap hu hx
      split at h
      · rename_i b inf l hh hb hinf hl hhi
        split at h
        · rename_i hc
          simp only [Bool.and_eq_true, Nat.ble_eq] at hc
          obtain ⟨⟨h1, h2⟩, h3⟩ := hc
          simp only [Option.some.injEq, Prod.mk.injEq] at h
          obtain ⟨rfl, rfl, rfl⟩ := h
          rw [boundR_eval] at hl hhi
          exact ⟨step_slice hop hu hinf hx hb (isRow_eq h1) hl hhi h2 h3 rfl3, .same hI⟩
        · cases h
      · cases h
    · rename_i el hu hx
      split at h
      · rename_i inf hinf hl hhi
        simp only [Option.some.injEq, Prod.mk.injEq] at h
        obtain ⟨rfl, rfl, rfl⟩ := h
        rw [boundR_eval] at hl hhi
        exact ⟨step_slice_nil hop hu hinf hx hl hhi rfl3, .same hI⟩
      · cases h
    · cases h
  · -- a call
    rename_i f args argTypes
    unfold evCallV at h
    split at h
    · rename_i g xs cs vs hf ha
      split at h
      · rename_i hc
        have hfb := bdd_eval he hf
        obtain ⟨b1, b2⟩ : (∀ (i : Nat) (v : Value), xs[i]? = some v → Bdd N v) ∧ (∀ (i : Nat) (v : Value), cs[i]? = some v → Bdd N v) := by
          cases hfb with
          | flat hh => simp [flat0] at hh
          | func _ q1 q2 => exact ⟨q1, q2⟩
        have hab : ∀ x ∈ xs.toList ++ vs ++ cs.toList, Bdd N x := by
          intro x hx
          rw [List.mem_append, List.mem_append] at hx
          rcases hx with (hx | hx) | hx
          · obtain ⟨i, hi⟩ := List.getElem?_of_mem hx
            exact b1 i x (by simpa using hi)
          · exact bdd_evals he _ _ ha x hx
          · obtain ⟨i, hi⟩ := List.getElem?_of_mem hx
            exact b2 i x (by simpa using hi)
        obtain ⟨k1, k2, _⟩ := hcall c (.func g) _ N H v N' H' hI hab h
        exact ⟨step_call hop hf ha hc k1, k2⟩
      · cases h
    · rename_i i xs cs vs hf ha
      cases hc : (xs.toList.isEmpty && cs.toList.isEmpty) with
      | false => rw [hc] at h; cases h
      | true =>
        rw [hc, cond_true] at h
        simp only [Bool.and_eq_true] at hc
        rw [empty_arr hc.1, empty_arr hc.2] at hf
        obtain ⟨⟨info, k1, k3, k4, k5⟩, k2, _⟩ := hcall c (.yield i) _ N H v N' H' hI (bdd_evals he _ _ ha) h
        exact ⟨step_yield hop hf ha k1 k3 k4 k5, k2⟩
    · cases h
  · -- append
    rename_i args argTypes
    split at h
    · rename_i x y t t' hargs htypes
      cases htt : Nat.beq t t' with
      | true =>
        rw [htt, cond_true] at h
        have htt := Nat.eq_of_beq_eq_true htt
        subst htt
        have ho2 : o.op = .call { callee := .builtin .append, args := #[x, y], argTypes := #[t, t] } := by
          rw [hop]
          have e1 : args = #[x, y] := by rw [← Array.toArray_toList (xs := args), hargs]
          have e2 : argTypes = #[t, t] := by rw [← Array.toArray_toList (xs := argTypes), htypes]
          rw [e1, e2]
        unfold evAppend at h
        split at h
        · rename_i el s u hu hx hy
          split at h
          · rename_i inf hinf hlen
            split at h
            · rename_i b k cp
              simp only [Option.some.injEq, Prod.mk.injEq] at h
              obtain ⟨rfl, rfl, rfl⟩ := h
              exact ⟨step_append_none ho2 hu hinf hx hy rfl hlen rfl3, .same hI⟩
            · cases h
          · rename_i inf m hm hinf hlen
            split at h
            · rename_i z root k olds news hz hroot holds hnews
              split at h
              · rename_i hc
                simp only [Bool.and_eq_true, decide_eq_true_eq, Nat.ble_eq] at hc
                obtain ⟨⟨⟨⟨h1, h2⟩, h3⟩, h4⟩, h5⟩ := hc
                simp only [Option.some.injEq, Prod.mk.injEq] at h
                obtain ⟨rfl, rfl, rfl⟩ := h
                have hm0 : 0 < m := by
                  rcases Nat.eq_zero_or_pos m with h | h
                  · subst h; exact (hm rfl).elim
                  · exact h
                have hown : ∀ i off, root = some (i, off) → ∃ b, view c H i = some b ∧ b.own = true ∧ b.esz = .n inf.size := by
                  intro i off hr
                  subst hr
                  simp only [rootOwn] at h3
                  split at h3
                  · rename_i b hb
                    simp only [Bool.and_eq_true] at h3
                    exact ⟨b, hb, h3.1, isRow_eq h3.2⟩
                  · cases h3
                have hI2 : Inv c N (delRoot H root) := by
                  cases root with
                  | none => exact hI
                  | some p => exact hI.gone p.1
                have hview : view c (delRoot H root) = killA (view c H) root := by
                  cases root with
                  | none => rfl
                  | some p => exact view_gone
                refine ⟨step_append ho2 hu hinf hz h1 hx hy hroot hlen hm0 holds hnews h2 hown h4 h5 ⟨rfl, rfl, by rw [view_new hI2, hview]; exact AHeap.le_refl _⟩, Nat.le_succ _, hI2.new (.row fun x hx => ?_), fun j hj hr => ?_, fun j hj hr => ?_⟩
                · rw [List.mem_append] at hx
                  rcases hx with hx | hx
                  · exact (bdd_src hI holds x hx).mono (Nat.le_succ _)
                  · exact (bdd_src hI hnews x hx).mono (Nat.le_succ _)
                · rw [Trie.put_get, if_neg (by omega)]
                  cases root with
                  | none => rfl
                  | some p =>
                    obtain ⟨b, q1, q2, _⟩ := hown p.1 p.2 rfl
                    obtain ⟨g1, g2, g3⟩ := view_some q1
                    show (H.del p.1).get j = _
                    rw [Trie.del_get, if_neg]
                    rintro rfl
                    rcases hr with hr | hr
                    · rw [q2, hr] at g3; cases g3
                    · rw [g1] at hr; cases hr
                · rw [Trie.put_get, if_neg (by omega)]
                  cases root with
                  | none => exact hr
                  | some p =>
                    show (H.del p.1).get j = _
                    rw [Trie.del_get]
                    split
                    · rfl
                    · exact hr
              · cases h
            · cases h
          · cases h
        · cases h
      | false =>
        rw [htt, cond_false] at h
        have ho2 : o.op = .call { callee := .builtin .append, args := #[x, y], argTypes := #[t, t'] } := by
          rw [hop]
          have e1 : args = #[x, y] := by rw [← Array.toArray_toList (xs := args), hargs]
          have e2 : argTypes = #[t, t'] := by rw [← Array.toArray_toList (xs := argTypes), htypes]
          rw [e1, e2]
        unfold evAppendZ at h
        split at h
        · rename_i el kn k m hu htn hx hy
          split at h
          · rename_i inf hinf
            split at h
            · rename_i z hz
              split at h
              · rename_i hc
                simp only [Bool.and_eq_true, decide_eq_true_eq, Nat.ble_eq, Bool.not_eq_true'] at hc
                obtain ⟨⟨⟨⟨⟨h1, h2⟩, h3⟩, h4⟩, h5⟩, h6⟩ := hc
                have hne : spread z ≠ [] := fun e => by rw [e] at h3; cases h3
                simp only [Option.some.injEq, Prod.mk.injEq] at h
                obtain ⟨rfl, rfl, rfl⟩ := h
                exact ⟨step_append_zeros ho2 hu htn hinf hz h1 h2 hne hx hy (blt_lt h4) h5 h6 ⟨rfl, rfl, by rw [view_new hI]; exact AHeap.le_refl _⟩, .new hI (.row fun x hx => bdd_zeros h2 hne x hx)⟩
              · cases h
            · cases h
          · cases h
        · cases h
    · cases h
  · -- clear
    rename_i args argTypes
    split at h
    · rename_i x t hargs htypes
      have ho2 : o.op = .call { callee := .builtin .clear, args := #[x], argTypes := #[t] } := by
        rw [hop]
        have e1 : args = #[x] := by rw [← Array.toArray_toList (xs := args), hargs]
        have e2 : argTypes = #[t] := by rw [← Array.toArray_toList (xs := argTypes), htypes]
        rw [e1, e2]
      unfold evClear at h
      split at h
      · rename_i _ _ _ hu hx
        simp only [Option.some.injEq, Prod.mk.injEq] at h
        obtain ⟨rfl, rfl, rfl⟩ := h
        exact ⟨step_clear_none ho2 hu hx rfl rfl3, .same hI⟩
      · rename_i el i off m k _ hu hx
        split at h
        · rename_i inf hinf
          split at h
          · rename_i z b hz hb
            split at h
            · rename_i hc
              simp only [Bool.and_eq_true, decide_eq_true_eq, Nat.ble_eq, Bool.not_eq_true'] at hc
              obtain ⟨⟨⟨⟨⟨⟨h1, h2⟩, h3⟩, h4⟩, h5⟩, h6⟩, h7⟩ := hc
              have hne : spread z ≠ [] := fun e => by rw [e] at h3; cases h3
              simp only [Option.some.injEq, Prod.mk.injEq] at h
              obtain ⟨rfl, rfl, rfl⟩ := h
              obtain ⟨q1, q2, q3⟩ := view_some hb
              have hro : c.ro i = false := by rw [h6] at q3; simpa using q3.symm
              refine ⟨step_clear ho2 hu hinf hz h1 h2 hne h4 hx (blt_lt h5) hb h6 h7 ⟨rfl, rfl, ?_⟩, Nat.le_refl _, hI.turn (hI.bdd _ _ q2).1 ⟨bdd_splice (hI.bdd _ _ q2).2.1 (bdd_zeros h2 hne), (hI.bdd _ _ q2).2.2⟩, fun j _ hj => ?_, fun j _ hj => ?_⟩
              · rw [view_turn hro q1]; exact AHeap.le_refl _
              · rw [Trie.put_get, if_neg]
                rintro rfl
                rcases hj with hj | hj
                · rw [hro] at hj; cases hj
                · rw [q1] at hj; cases hj
              · rw [Trie.put_get, if_neg]
                · exact hj
                · rintro rfl; rw [q2] at hj; cases hj
            · cases h
          · cases h
        · cases h
      · cases h
    · cases h
  · -- makeMap
    simp only [Option.some.injEq, Prod.mk.injEq] at h
    obtain ⟨rfl, rfl, rfl⟩ := h
    exact ⟨step_makeMap hop ⟨rfl, rfl, by rw [view_new hI]; exact AHeap.le_refl _⟩, .new hI ⟨(fun x hx => by cases hx), .map fun p hp => by cases hp⟩⟩
  · -- lookup
    rename_i t x ix ok
    unfold evLookup at h
    split at h
    · rename_i m k hx hk
      simp only [Option.map_eq_some_iff, Prod.mk.injEq] at h
      obtain ⟨v2, hv, rfl, rfl, rfl⟩ := h
      exact ⟨step_lookup hop hx hk hv rfl3, .same hI⟩
    · cases h
  · -- mapUpdate
    rename_i t x y z
    unfold evMapUpdate at h
    split at h
    · rename_i kt et i k v2 ht hx hy hz
      split at h
      · rename_i b hb
        split at h
        · rename_i es hes
          cases ho : b.own with
          | false => rw [ho] at h; cases h
          | true =>
            rw [ho, cond_true] at h
            simp only [Option.map_eq_some_iff, Prod.mk.injEq] at h
            obtain ⟨es2, hput, rfl, rfl, rfl⟩ := h
            obtain ⟨q1, q2, q3⟩ := view_some hb
            have hro : c.ro i = false := by rw [ho] at q3; simpa using q3.symm
            have hold := (hI.bdd _ _ q2).2.2.2 es (by simpa using hes)
            refine ⟨step_mapUpdate (.inl hop) ht hx hy hz hb hes hput ⟨rfl, rfl, ?_⟩, Nat.le_refl _, hI.turn (hI.bdd _ _ q2).1 ⟨(fun x hx => by cases hx), .map (putA_bdd hput hold (bdd_eval he hz))⟩, fun j _ hj => ?_, fun j _ hj => ?_⟩
            · rw [view_turn hro q1]; exact AHeap.le_refl _
            · rw [Trie.put_get, if_neg]
              rintro rfl
              rcases hj with hj | hj
              · rw [hro] at hj; cases hj
              · rw [q1] at hj; cases hj
            · rw [Trie.put_get, if_neg]
              · exact hj
              · rintro rfl; rw [q2] at hj; cases hj
        · cases h
      · cases h
    · cases h
  · -- mapEntry
    rename_i t x y
    unfold evMapEntry at h
    split at h
    · rename_i kt et i k ht hx hy
      split at h
      · rename_i b hb
        split at h
        · rename_i es hes
          cases ho : b.own with
          | false => rw [ho] at h; cases h
          | true =>
            rw [ho, cond_true] at h
            simp only [Option.map_eq_some_iff, Prod.mk.injEq] at h
            obtain ⟨⟨es2, v2, m⟩, hput, rfl, rfl, rfl⟩ := h
            obtain ⟨q1, q2, q3⟩ := view_some hb
            have hro : c.ro i = false := by rw [ho] at q3; simpa using q3.symm
            have hold := (hI.bdd _ _ q2).2.2.2 es (by simpa using hes)
            refine ⟨step_mapEntry hop ht hx hy hb hes hput ⟨rfl, rfl, ?_⟩, Nat.le_refl _, hI.turn (hI.bdd _ _ q2).1 ⟨(fun x hx => by cases hx), .map (entryA_bdd hput hold)⟩, fun j _ hj => ?_, fun j _ hj => ?_⟩
            · rw [view_turn hro q1]; exact AHeap.le_refl _
            · rw [Trie.put_get, if_neg]
              rintro rfl
              rcases hj with hj | hj
              · rw [hro] at hj; cases hj
              · rw [q1] at hj; cases hj
            · rw [Trie.put_get, if_neg]
              · exact hj
              · rintro rfl; rw [q2] at hj; cases hj
        · cases h
      · cases h
    · cases h
  · -- entryStore
    rename_i t x y z
    unfold evEntryStore at h
    split at h
    · rename_i i ik m v2 hx hy hz
      split at h
      · rename_i b hb
        split at h
        · rename_i es hes
          split at h
          · rename_i k0 v0 hm
            cases ho : b.own with
            | false => rw [ho] at h; cases h
            | true =>
              rw [ho, cond_true] at h
              simp only [Option.some.injEq, Prod.mk.injEq] at h
              obtain ⟨rfl, rfl, rfl⟩ := h
              obtain ⟨q1, q2, q3⟩ := view_some hb
              have hro : c.ro i = false := by rw [ho] at q3; simpa using q3.symm
              have hold := (hI.bdd _ _ q2).2.2.2 es (by simpa using hes)
              refine ⟨step_entryStore hop hx hy hz hb hes hm ⟨rfl, rfl, ?_⟩, Nat.le_refl _, hI.turn (hI.bdd _ _ q2).1 ⟨(fun x hx => by cases hx), .map fun p hp => ?_⟩, fun j _ hj => ?_, fun j _ hj => ?_⟩
              · rw [view_turn hro q1]; exact AHeap.le_refl _
              · rcases List.mem_or_eq_of_mem_set hp with hp | rfl
                · exact hold p hp
                · exact ⟨(hold _ (List.mem_of_getElem? hm)).1, bdd_eval he hz⟩
              · rw [Trie.put_get, if_neg]
                rintro rfl
                rcases hj with hj | hj
                · rw [hro] at hj; cases hj
                · rw [q1] at hj; cases hj
              · rw [Trie.put_get, if_neg]
                · exact hj
                · rintro rfl; rw [q2] at hj; cases hj
          · cases h
        · cases h
      · cases h
    · cases h
  · -- the others
    simp only [Option.map_eq_some_iff, Prod.mk.injEq] at h
    obtain ⟨v2, hv, rfl, rfl, rfl⟩ := h
    rw [← hop] at hv
    exact ⟨step_value (pureX_plain hv) (fun ι a ha => pureX_sound hv ha) rfl3, .same hI⟩
end
end
end Go.Abs

