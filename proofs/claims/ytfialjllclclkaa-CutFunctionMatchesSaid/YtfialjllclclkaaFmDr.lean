/- Shaken texts of the layer and of the walks. -/
import Derived.Test.YtfialjllclclkaaFmEv
namespace Go.Abs
noncomputable section
section
variable {r : Bool} {P : Program} {n : Nat}

def pick (E : Trie Value) (ks : List Nat) : Env := ks.filterMap fun k => (E.get k).map (k, ·)
def Dom (env : Env) (E : Trie Value) : Prop := ∀ t v, E.get t = some v → env.get t = some v
theorem pick_get (E : Trie Value) : ∀ (ks : List Nat) (t : Nat) (v : Value), (pick E ks).get t = some v → E.get t = some v ∧ t ∈ ks
  | [], _, _, h => by cases h
  | k :: ks, t, v, h => by
    unfold pick at h
    simp only [List.filterMap_cons] at h
    cases hk : E.get k with
    | none =>
      simp only [hk, Option.map_none] at h
      obtain ⟨h1, h2⟩ := pick_get E ks t v h
      exact ⟨h1, List.mem_cons_of_mem _ h2⟩
    | some u =>
      simp only [hk, Option.map_some, Env.get] at h
      split at h
      · rename_i e; subst e; cases h; exact ⟨hk, List.mem_cons_self⟩
      · obtain ⟨h1, h2⟩ := pick_get E ks t v h
        exact ⟨h1, List.mem_cons_of_mem _ h2⟩
theorem pick_keep {env : Env} {E : Trie Value} (hd : Dom env E) (ks : List Nat) : ∀ t v, (pick E ks).get t = some v → (env.keep ks).get t = some v :=
  fun t v h => let ⟨h1, h2⟩ := pick_get E ks t v h; keep_get_of env (hd t v h1) ks h2
def putT (E : Trie Value) (d : Option Tmp) (v : Value) : Trie Value := match d with
  | some d => E.put d v
  | none => E
theorem Dom.put {env : Env} {E : Trie Value} (h : Dom env E) (d : Option Tmp) (v : Value) : Dom (env.put d v) (putT E d v) := by
  intro t u hu
  cases d with
  | none => exact h t u hu
  | some d =>
    simp only [putT, Trie.put_get] at hu
    simp only [Env.put, Env.get]
    by_cases e : t = d
    · subst e; rw [if_pos rfl] at hu ⊢; exact hu
    · rw [if_neg e] at hu; rw [if_neg (fun h => e h.symm)]; exact h t u hu
def EB (n : Nat) (E : Trie Value) (N : Nat) : Prop := ∀ t v, E.get t = some v → t < n ∧ Bdd N v
theorem EB.put {E : Trie Value} {N : Nat} (h : EB n E N) {v : Value} (hv : Bdd N v) {d : Option Tmp} (hd : dstOk n d = true) : EB n (putT E d v) N := by
  intro t u hu
  cases d with
  | none => exact h t u hu
  | some d =>
    simp only [putT, Trie.put_get] at hu
    split at hu
    · rename_i e; subst e; cases hu; exact ⟨dstOk_spec hd _ rfl, hv⟩
    · exact h t u hu
theorem EB.up {E : Trie Value} {N N' : Nat} (h : EB n E N) (hN : N ≤ N') : EB n E N' := fun t v ht => let ⟨h1, h2⟩ := h t v ht; ⟨h1, h2.mono hN⟩
theorem EB.pick {E : Trie Value} {N : Nat} (h : EB n E N) (ks : List Nat) : ∀ t v, (pick E ks).get t = some v → Bdd N v := fun t v ht => (h t v (pick_get E ks t v ht).1).2
def Both (env : Env) (E : Trie Value) : Prop := ∀ t v, env.get t = some v ↔ E.get t = some v
theorem Both.dom {env : Env} {E : Trie Value} (h : Both env E) : Dom env E := fun t v ht => (h t v).2 ht
theorem Both.put {env : Env} {E : Trie Value} (h : Both env E) (d : Option Tmp) (v : Value) : Both (env.put d v) (putT E d v) := by
  intro t u
  cases d with
  | none => exact h t u
  | some d =>
    simp only [putT, Trie.put_get, Env.put, Env.get]
    by_cases e : t = d
    · subst e; simp
    · rw [if_neg e, if_neg (fun h => e h.symm)]; exact h t u
theorem both_pick {E : Trie Value} {N : Nat} (h : EB n E N) : Both (pick E (List.range n)) E := by
  intro t v
  refine ⟨fun ht => (pick_get E _ t v ht).1, fun ht => ?_⟩
  have hm : t ∈ List.range n := List.mem_range.2 (h t v ht).1
  generalize List.range n = ks at hm
  induction ks with
  | nil => cases hm
  | cons k ks ih =>
    unfold pick
    simp only [List.filterMap_cons]
    cases hk : E.get k with
    | none =>
      simp only [Option.map_none]
      rcases List.mem_cons.1 hm with rfl | hm
      · rw [ht] at hk; cases hk
      · exact ih hm
    | some u =>
      simp only [Option.map_some, Env.get]
      split
      · rename_i e; subst e; rw [ht] at hk; exact hk.symm
      · rename_i e
        rcases List.mem_cons.1 hm with h | hm
        · exact absurd h.symm e
        · exact ih hm
theorem Both.keepB {env : Env} {E : Trie Value} {N : Nat} (h : Both env E) (hE : EB n E N) (ks : List Nat) : ∀ t v, (env.keep ks).get t = some v → Bdd N v :=
  fun t v ht => (hE t v ((h t v).1 (Env.keep_get env ks t v ht))).2
theorem wantedA_mono {ops : Array Oper} {e env : Env} {o : Oper} {r : Bool} (h : wantedA ops e o = some r) (hd : ∀ t v, e.get t = some v → env.get t = some v) : wantedA ops env o = some r := by
  unfold wantedA at h ⊢
  cases hg : o.guard with
  | none => simpa [hg] using h
  | some g =>
    obtain ⟨j, want⟩ := g
    simp only [hg] at h ⊢
    cases ht : (ops[j]?).bind (·.dst) with
    | none => simp [ht] at h
    | some t =>
      simp only [ht] at h ⊢
      split at h
      · rename_i b hb; rw [hd _ _ hb]; exact h
      · rename_i xs hb; rw [hd _ _ hb]; exact h
      · cases h

theorem parts_eq {ρ ρ' : Operand → Option Value} : ∀ (l : List (Nat × Operand)), (∀ p ∈ l, ρ p.2 = ρ' p.2) → (l.mapM fun p => (ρ p.2).map fun v => (p.1, v)) = (l.mapM fun p => (ρ' p.2).map fun v => (p.1, v))
  | [], _ => rfl
  | p :: l, h => by
    simp only [List.mapM_cons]
    rw [h p (by simp), parts_eq l fun q hq => h q (by simp [hq])]
def opdT (E : Trie Value) : Operand → Option Value
  | .tmp t => E.get t
  | .const v => if flat v then some v else none
  | .global _ => none
  | .func f => some (.func (.func f) #[] #[])
def wantedT (ops : Array Oper) (E : Trie Value) (o : Oper) : Option Bool :=
  match o.guard with
  | none => some true
  | some (j, want) =>
    match (ops[j]?).bind (·.dst) with
    | none => none
    | some t => match E.get t with
      | some (.bool b) => some (b == want)
      | some (.tuple _) => some false
      | _ => none
theorem pick_get_eq (E : Trie Value) : ∀ (ks : List Nat) (t : Nat), t ∈ ks → (pick E ks).get t = E.get t
  | k :: ks, t, hm => by
    unfold pick
    simp only [List.filterMap_cons]
    cases hk : E.get k with
    | none =>
      simp only [Option.map_none]
      rcases List.mem_cons.1 hm with rfl | hm
      · rw [hk]
        cases hg : (pick E ks).get t with
        | none => exact hg
        | some v => have := (pick_get E ks t v hg).1; rw [hk] at this; cases this
      · exact pick_get_eq E ks t hm
    | some u =>
      simp only [Option.map_some, Env.get]
      split
      · rename_i e; subst e; rw [hk]
      · rename_i e
        exact pick_get_eq E ks t ((List.mem_cons.1 hm).resolve_left fun h => e h.symm)
theorem opdT_pick (E : Trie Value) (ops : Array Oper) (o : Oper) : ∀ x ∈ o.op.operands.toList, opdT E x = (pick E (slotsOf ops o)).eval x := fun x hx => by
  cases x with
  | tmp t =>
    refine (pick_get_eq E _ t ?_).symm
    unfold slotsOf
    rw [List.mem_append, List.mem_flatMap]
    exact .inl ⟨_, hx, by simp [opndTmp]⟩
  | const v => rfl
  | global g => rfl
  | func f => rfl
theorem wantedT_pick (E : Trie Value) (ops : Array Oper) (o : Oper) : wantedT ops E o = wantedA ops (pick E (slotsOf ops o)) o := by
  unfold wantedT wantedA
  cases hg : o.guard with
  | none => rfl
  | some g =>
    obtain ⟨j, want⟩ := g
    simp only
    cases ht : (ops[j]?).bind (·.dst) with
    | none => rfl
    | some t =>
      simp only
      rw [pick_get_eq E _ t (by unfold slotsOf; rw [hg]; simp [ht])]
      rfl
theorem evOp_congr {call : CallT} {c : Ctx} {ρ ρ' : Operand → Option Value} {op : Op} {N : Nat} {H : HeapT} (h : ∀ x ∈ op.operands.toList, ρ x = ρ' x) : evOp P call c ρ op N H = evOp P call c ρ' op N H := by
  have hp := pureX_congr (P := P) h
  cases op with
  | call k =>
    obtain ⟨callee, args, argTypes⟩ := k
    have ha : ∀ x ∈ args.toList, ρ x = ρ' x := fun x hx => h x (by simp [Op.operands, Call.operands] at hx ⊢; exact .inr hx)
    have h1 := mapM_eq _ ha
    cases callee with
    | value f =>
      have hf := h f (by simp [Op.operands, Call.operands])
      simp only [evOp, evCallV, h1, hf]
    | builtin b =>
      cases b with
      | append =>
        simp only [evOp]
        split
        · rename_i x y t t' hx ht
          rw [hx] at ha
          simp only [evAppend, evAppendZ, ha x (by simp), ha y (by simp)]
        · rfl
      | clear =>
        simp only [evOp]
        split
        · rename_i x t hx ht
          rw [hx] at ha
          simp only [evClear, ha x (by simp)]
        · rfl
      | _ => simp only [evOp, hp]
    | _ => simp only [evOp, hp]
  | makeMap t r => cases r <;> simp only [evOp, hp]
  | lookup t x ix ok => simp only [evOp, evLookup, h x (by simp [Op.operands]), h ix (by simp [Op.operands])]
  | mapEntry t x y => simp only [evOp, evMapEntry, h x (by simp [Op.operands]), h y (by simp [Op.operands])]
  | entryStore t x y z => simp only [evOp, evEntryStore, h x (by simp [Op.operands]), h y (by simp [Op.operands]), h z (by simp [Op.operands])]
  | mapUpdate t x y z => simp only [evOp, evMapUpdate, h x (by simp [Op.operands]), h y (by simp [Op.operands]), h z (by simp [Op.operands])]
  | load t x => simp only [evOp, evLoad, h x (by simp [Op.operands])]
  | store t x y => simp only [evOp, evStore, h x (by simp [Op.operands]), h y (by simp [Op.operands])]
  | box t x => simp only [evOp, evBox, h x (by simp [Op.operands])]
  | build t parts =>
    have : partsE ρ parts = partsE ρ' parts := parts_eq _ fun p hp => h _ (by simp [Op.operands]; exact ⟨p.1, by simpa using hp⟩)
    simp only [evOp, evBuild, this]
  | buildSlice t len parts =>
    have : partsE ρ parts = partsE ρ' parts := parts_eq _ fun p hp => h _ (by simp [Op.operands]; exact ⟨p.1, by simpa using hp⟩)
    simp only [evOp, evBuildSlice, this]
  | makeSlice t x y => simp only [evOp, evMakeSlice, h x (by simp [Op.operands]), h y (by simp [Op.operands])]
  | slice t x lo hi m =>
    cases m with
    | some m => simp only [evOp, hp]
    | none =>
      have hb : ∀ d (y : Option Operand), (∀ z, y = some z → z ∈ (Op.slice t x lo hi none).operands.toList) → boundR ρ d y = boundR ρ' d y := fun d y hy => by
        cases y with
        | none => rfl
        | some z => simp only [boundR, h z (hy z rfl)]
      simp only [evOp, evSlice, h x (by simp [Op.operands]), hb _ lo (fun z hz => by simp [Op.operands, hz]), hb _ hi (fun z hz => by simp [Op.operands, hz])]
  | alloc t => rfl
  | _ => simp only [evOp, hp]
def rowB (z : ESz) : Bool := match z with
  | .n _ => true
  | _ => false
theorem rowB_row {b : Blk} (h : rowB b.esz = true) : b.row := by
  cases hz : b.esz with
  | n k => exact ⟨k, hz⟩
  | loop i s => rw [hz] at h; cases h
  | map es => rw [hz] at h; cases h
def evRead (P : Program) (σ : AHeap) (ρ : Operand → Option Value) (op : Op) : Option Value :=
  match op with
  | .load t x => match ρ x with
    | some (.pointer (some ⟨i, off, none⟩)) => (σ i).bind fun b => bif rowB b.esz then loadA P t b off else none
    | _ => none
  | .slice t x lo hi none => match P.underlying t, ρ x with
    | some (.slice el), some (.slice (some ⟨i, off, none⟩) len cap) =>
      match σ i, P.info? el, boundR ρ 0 lo, boundR ρ len hi with
      | some b, some inf, some l, some h => if isRow b.esz inf.size && Nat.ble l h && Nat.ble h cap then some (.slice (some ⟨i, off + l * inf.size, none⟩) (h - l) (cap - l)) else none
      | _, _, _, _ => none
    | _, _ => none
  | _ => none
def readId (ρ : Operand → Option Value) (op : Op) : Option Nat :=
  match op with
  | .load _ x => match ρ x with
    | some (.pointer (some ⟨i, _, none⟩)) => some i
    | _ => none
  | .slice _ x _ _ none => match ρ x with
    | some (.slice (some ⟨i, _, none⟩) _ _) => some i
    | _ => none
  | _ => none
theorem evRead_congr {σ σ' : AHeap} {ρ : Operand → Option Value} {op : Op} {i : Nat} {v : Value} (h : evRead P σ ρ op = some v) (hi : readId ρ op = some i) (hs : ∀ b, σ i = some b → ∃ b', σ' i = some b' ∧ b'.cells = b.cells ∧ b'.esz = b.esz) : evRead P σ' ρ op = some v := by
  unfold evRead at h ⊢
  split at h
  · rename_i t x
    split at h
    · rename_i j off hx
      simp only [readId, hx, Option.some.injEq] at hi
      subst hi
      simp only [Option.bind_eq_some_iff] at h
      obtain ⟨b, hb, hv⟩ := h
      obtain ⟨b', h1, h2, h3⟩ := hs b hb
      simp only [h1, Option.bind_some, h3]
      cases hz : rowB b.esz with
      | false => rw [hz] at hv; cases hv
      | true =>
        rw [hz] at hv
        simp only [cond_true, loadA, cellsA, h2] at hv ⊢
        exact hv
    · cases h
  · rename_i t x lo hi'
    split at h
    · rename_i el j off len cap hu hx
      simp only [readId, hx, Option.some.injEq] at hi
      subst hi
      split at h
      · rename_i b inf l hh hb hinf hl hhi
        obtain ⟨b', h1, h2, h3⟩ := hs b hb
        simp only [h1, hinf, hl, hhi, h3]
        exact h
      · cases h
    · cases h
  · cases h
theorem evRead_row {σ : AHeap} {ρ : Operand → Option Value} {op : Op} {i : Nat} {v : Value} (h : evRead P σ ρ op = some v) (hi : readId ρ op = some i) : ∀ b, σ i = some b → b.row := fun b hb => by
  unfold evRead at h
  split at h
  · rename_i t x
    split at h
    · rename_i j off hx
      simp only [readId, hx, Option.some.injEq] at hi
      subst hi
      rw [hb, Option.bind_some] at h
      cases hz : rowB b.esz with
      | false => rw [hz] at h; cases h
      | true => exact rowB_row hz
    · cases h
  · rename_i t x lo hi'
    split at h
    · rename_i el j off len cap hu hx
      simp only [readId, hx, Option.some.injEq] at hi
      subst hi
      split at h
      · rename_i b2 inf l hh hb2 hinf hl hhi
        rw [hb] at hb2; cases hb2
        split at h
        · rename_i hc
          simp only [Bool.and_eq_true] at hc
          exact ⟨_, isRow_eq hc.1.1⟩
        · cases h
      · cases h
    · cases h
  · cases h
theorem evRead_sound {σ : AHeap} {e : Env} {o : Oper} {v : Value} (h : evRead P σ e.eval o.op = some v) (m : Nat) : StepQ P n o e m σ (fun v1 N1 σ1 => v1 = v ∧ N1 = m ∧ σ.le σ1) := by
  generalize hop : o.op = op at h
  unfold evRead at h
  split at h
  · rename_i t x
    split at h
    · rename_i j off hx
      simp only [Option.bind_eq_some_iff] at h
      obtain ⟨b, hb, hv⟩ := h
      cases hz : rowB b.esz with
      | false => rw [hz] at hv; cases hv
      | true => rw [hz] at hv; exact step_load hop hx hb hv ⟨rfl, rfl, AHeap.le_refl _⟩
    · cases h
  · rename_i t x lo hi'
    split at h
    · rename_i el j off len cap hu hx
      split at h
      · rename_i b inf l hh hb hinf hl hhi
        split at h
        · rename_i hc
          simp only [Bool.and_eq_true, Nat.ble_eq] at hc
          obtain ⟨⟨h1, h2⟩, h3⟩ := hc
          cases h
          rw [boundR_eval] at hl hhi
          exact step_slice hop hu hinf hx hb (isRow_eq h1) hl hhi h2 h3 ⟨rfl, rfl, AHeap.le_refl _⟩
        · cases h
      · cases h
    · cases h
  · cases h

inductive Kind where
  | pure | makes | chain (w : Nat → Bool)
def inL (l : List Nat) (j : Nat) : Bool := l.contains j
def ptrIds (ρ : Operand → Option Value) (x : Operand) : List Nat := match ρ x with
  | some (.pointer (some ⟨i, _, _⟩)) => [i]
  | some (.slice (some ⟨i, _, _⟩) _ _) => [i]
  | some (.map (some i)) => [i]
  | _ => []
def kindOf (cw : Nat → Bool) (ρ : Operand → Option Value) (op : Op) : Kind :=
  match op with
  | .store _ x _ => .chain (inL (ptrIds ρ x))
  | .load _ _ => .chain fun _ => false
  | .lookup _ x _ _ => .chain (inL (ptrIds ρ x))
  | .mapUpdate _ x _ _ => .chain (inL (ptrIds ρ x))
  | .mapEntry _ x _ => .chain (inL (ptrIds ρ x))
  | .entryStore _ x _ _ => .chain (inL (ptrIds ρ x))
  | .call { callee := .value f, args := _, argTypes := _ } => .chain (match ρ f with | some (.func (.yield i) _ _) => inL [i] | _ => cw)
  | .call { callee := .builtin .clear, args, argTypes := _ } => .chain (inL (match args[0]? with | some x => ptrIds ρ x | none => []))
  | .call { callee := .builtin .append, args, argTypes := _ } => .chain (inL (match args[0]? with | some x => ptrIds ρ x | none => []))
  | .makeMap _ _ | .alloc _ | .box _ _ | .build _ _ | .buildSlice _ _ _ | .makeSlice _ _ _ | .slice _ _ _ _ _ => .makes
  | _ => .pure

structure Acc where
  ns : List Nat
  made : List (Nat × Nat × Nat)
  reads : List (Nat × Nat)
  wt : List (Nat × (Nat → Bool))
  m : List Nat
def seesB (ops : Array Oper) (N0 i : Nat) (made : List (Nat × Nat × Nat)) (j : Nat) : Bool := Nat.blt j N0 || made.any fun d => Nat.ble d.2.1 j && (Nat.blt j d.2.2 && waitsB ops i d.1)
def ctxChain (c : Ctx) (ops : Array Oper) (N0 i N : Nat) (made : List (Nat × Nat × Nat)) (w : Nat → Bool) : Ctx :=
  ⟨fun j => c.ro j || (Nat.blt j N && !w j), fun j => c.hid j || (Nat.blt j N && !seesB ops N0 i made j)⟩
def ctxNone (c : Ctx) (N : Nat) : Ctx := ⟨fun j => c.ro j || Nat.blt j N, fun j => c.hid j || Nat.blt j N⟩
def Acc.grow (a : Acc) (i N N' : Nat) : Acc := { a with ns := a.ns ++ [N'], made := if Nat.blt N N' then (i, N, N') :: a.made else a.made }

def dStep (P : Program) (call : CallT) (cw : Nat → Bool) (c : Ctx) (ops : Array Oper) (N0 i : Nat) (o : Oper) (ρ : Operand → Option Value) (N : Nat) (H : HeapT) (a : Acc) : Option (Value × Nat × HeapT × Acc) :=
  match readId ρ o.op with
  | some j =>
    if Nat.blt j N0 then (evRead P (view c H) ρ o.op).map fun v => (v, N, H, { a.grow i N N with reads := (i, j) :: a.reads })
    else (evOp P call (ctxChain c ops N0 i N a.made fun _ => false) ρ o.op N H).map fun r => (r.1, r.2.1, r.2.2, { a.grow i N r.2.1 with m := i :: a.m })
  | none =>
    match kindOf cw ρ o.op with
    | .pure => (pureX P ρ o.op).map fun v => (v, N, H, a.grow i N N)
    | .makes => (evOp P call (ctxNone c N) ρ o.op N H).map fun r => (r.1, r.2.1, r.2.2, a.grow i N r.2.1)
    | .chain w => (evOp P call (ctxChain c ops N0 i N a.made w) ρ o.op N H).map fun r => (r.1, r.2.1, r.2.2, { a.grow i N r.2.1 with m := i :: a.m, wt := (i, w) :: a.wt })
def readsOf (ρ : Operand → Option Value) (op : Op) : List Nat := match op with
  | .load _ x => ptrIds ρ x
  | .fieldAddr _ x _ => ptrIds ρ x
  | .indexAddr _ x _ => ptrIds ρ x
  | .nilCheck x => ptrIds ρ x
  | .slice _ x _ _ _ => ptrIds ρ x
  | _ => []
def freeFor (md : Bool) (E : Trie Value) (l : List Oper) (a : Acc) (j : Nat) : Bool := bif md then !(a.reads.any fun r => Nat.beq r.2 j) && !(l.any fun o => (readsOf (opdT E) o.op).any fun i => Nat.beq i j) else false
def evDraw (P : Program) (n : Nat) (call : CallT) (md : Bool) (c : Ctx) (ops : Array Oper) (N0 : Nat) : Nat → List Oper → Trie Value → Nat → HeapT → Acc → Option (Trie Value × Nat × HeapT × Acc)
  | _, [], E, N, H, a => some (E, N, H, a)
  | i, o :: l, E, N, H, a =>
    if dstOk n o.dst then
      match wantedT ops E o with
      | some true => match dStep P call (freeFor md E l a) c ops N0 i o (opdT E) N H a with
        | some (v, N', H', a') => if bddB N' v then evDraw P n call md c ops N0 (i + 1) l (putT E o.dst v) N' H' a' else none
        | none => none
      | some false => evDraw P n call md c ops N0 (i + 1) l (putT E o.dst undef) N H (a.grow i N N)
      | none => none
    else none

theorem dStep_congr {call : CallT} {cw : Nat → Bool} {c : Ctx} {ops : Array Oper} {N0 i : Nat} {o : Oper} {ρ ρ' : Operand → Option Value} {N : Nat} {H : HeapT} {a : Acc} (h : ∀ x ∈ o.op.operands.toList, ρ x = ρ' x) :
    dStep P call cw c ops N0 i o ρ N H a = dStep P call cw c ops N0 i o ρ' N H a := by
  have h1 : readId ρ o.op = readId ρ' o.op := by
    unfold readId
    split
    · rename_i t x hx; rw [h x (by rw [hx]; simp [Op.operands])]
    · rename_i t x lo hi hx; rw [h x (by rw [hx]; simp [Op.operands])]
    · rfl
  have h2 : ∀ σ, evRead P σ ρ o.op = evRead P σ ρ' o.op := fun σ => by
    unfold evRead
    split
    · rename_i t x hx; rw [h x (by rw [hx]; simp [Op.operands])]
    · rename_i t x lo hi hx
      have hb : ∀ d (y : Option Operand), (∀ z, y = some z → z ∈ o.op.operands.toList) → boundR ρ d y = boundR ρ' d y := fun d y hy => by
        cases y with
        | none => rfl
        | some z => simp only [boundR, h z (hy z rfl)]
      simp only [h x (by rw [hx]; simp [Op.operands]), hb _ lo (fun z hz => by rw [hx]; simp [Op.operands, hz]), hb _ hi (fun z hz => by rw [hx]; simp [Op.operands, hz])]
    · rfl
  have h3 : kindOf cw ρ o.op = kindOf cw ρ' o.op := by
    have ha : ∀ (args : Array Operand), (∀ x ∈ args.toList, x ∈ o.op.operands.toList) → (match args[0]? with | some x => ptrIds ρ x | none => []) = (match args[0]? with | some x => ptrIds ρ' x | none => []) := fun args hm => by
      cases hx : args[0]? with
      | none => rfl
      | some x => simp only [ptrIds, h x (hm x (by rw [← Array.getElem?_toList] at hx; exact List.mem_of_getElem? hx))]
    unfold kindOf
    split
    · rename_i t x y hx; simp only [ptrIds, h x (by rw [hx]; simp [Op.operands])]
    · rfl
    · rename_i t x ix ok hx; simp only [ptrIds, h x (by rw [hx]; simp [Op.operands])]
    · rename_i t x y z hx; simp only [ptrIds, h x (by rw [hx]; simp [Op.operands])]
    · rename_i t x y hx; simp only [ptrIds, h x (by rw [hx]; simp [Op.operands])]
    · rename_i t x y z hx; simp only [ptrIds, h x (by rw [hx]; simp [Op.operands])]
    · rename_i f args argTypes hx; rw [h f (by rw [hx]; simp [Op.operands, Call.operands])]
    · rename_i args argTypes hx; rw [ha args fun x hm => by rw [hx]; simp [Op.operands, Call.operands]; simpa using hm]
    · rename_i args argTypes hx; rw [ha args fun x hm => by rw [hx]; simp [Op.operands, Call.operands]; simpa using hm]
    all_goals rfl
  unfold dStep
  rw [h1]
  simp only [h2, h3, pureX_congr (P := P) h, evOp_congr (P := P) h]
theorem inv_ctx {c c' : Ctx} {N : Nat} {H : HeapT} (h : Inv c N H) (h1 : ∀ j, c'.ro j = true → j < N) (h2 : ∀ j, c'.hid j = true → j < N) : Inv c' N H := ⟨h1, h2, h.bdd⟩
theorem inv_chain {c : Ctx} {ops : Array Oper} {N0 i N : Nat} {made : List (Nat × Nat × Nat)} {w : Nat → Bool} {H : HeapT} (h : Inv c N H) : Inv (ctxChain c ops N0 i N made w) N H := by
  refine inv_ctx h (fun j hj => ?_) fun j hj => ?_
  · simp only [ctxChain, Bool.or_eq_true, Bool.and_eq_true] at hj
    rcases hj with hj | hj
    · exact h.ro j hj
    · exact blt_lt hj.1
  · simp only [ctxChain, Bool.or_eq_true, Bool.and_eq_true] at hj
    rcases hj with hj | hj
    · exact h.hid j hj
    · exact blt_lt hj.1
theorem inv_none {c : Ctx} {N : Nat} {H : HeapT} (h : Inv c N H) : Inv (ctxNone c N) N H := by
  refine inv_ctx h (fun j hj => ?_) fun j hj => ?_
  · simp only [ctxNone, Bool.or_eq_true] at hj
    exact hj.elim (h.ro j) blt_lt
  · simp only [ctxNone, Bool.or_eq_true] at hj
    exact hj.elim (h.hid j) blt_lt
theorem good_back {c c' : Ctx} {N N' : Nat} {H H' : HeapT} (hI : Inv c N H) (hr : ∀ j, c.ro j = true → c'.ro j = true) (hh : ∀ j, c.hid j = true → c'.hid j = true) (g : Good c' N H N' H') : Good c N H N' H' :=
  ⟨g.le, ⟨fun j hj => Nat.lt_of_lt_of_le (hI.ro j hj) g.le, fun j hj => Nat.lt_of_lt_of_le (hI.hid j hj) g.le, g.inv.bdd⟩, fun j hj h => g.frame j hj (h.imp (hr j) (hh j)), g.none⟩

def WtA (fin : Acc) (k j : Nat) : Prop := ∃ x ∈ fin.wt, x.1 = k ∧ x.2 j = true
def CalmA (ops : Array Oper) (fin : Acc) : Prop := ∀ r ∈ fin.reads, ∀ x ∈ fin.wt, x.2 r.2 = true → x.1 = r.1 ∨ waitsB ops r.1 x.1 = true ∨ waitsB ops x.1 r.1 = true
def calmB (ops : Array Oper) (fin : Acc) : Bool := fin.reads.all fun r => fin.wt.all fun x => !x.2 r.2 || Nat.beq x.1 r.1 || waitsB ops r.1 x.1 || waitsB ops x.1 r.1
theorem calmB_sound {ops : Array Oper} {fin : Acc} (h : calmB ops fin = true) : CalmA ops fin := fun r hr x hx e => by
  have h1 := List.all_eq_true.1 (List.all_eq_true.1 h r hr) x hx
  simp only [Bool.or_eq_true, Bool.not_eq_true'] at h1
  rcases h1 with ((h1 | h1) | h1) | h1
  · rw [e] at h1; cases h1
  · exact .inl (Nat.eq_of_beq_eq_true h1)
  · exact .inr (.inl h1)
  · exact .inr (.inr h1)
def Acc.nf (a : Acc) (k : Nat) : Nat := a.ns.getD k 0
structure ExtA (a b : Acc) : Prop where
  ns : ∃ s, b.ns = a.ns ++ s
  reads : ∀ x ∈ a.reads, x ∈ b.reads
  wt : ∀ x ∈ a.wt, x ∈ b.wt
  m : ∀ x ∈ a.m, x ∈ b.m
theorem ExtA.refl (a : Acc) : ExtA a a := ⟨⟨[], by simp⟩, fun _ h => h, fun _ h => h, fun _ h => h⟩
theorem ExtA.trans {a b c : Acc} (h : ExtA a b) (k : ExtA b c) : ExtA a c := by
  obtain ⟨s, hs⟩ := h.ns
  obtain ⟨t, ht⟩ := k.ns
  exact ⟨⟨s ++ t, by rw [ht, hs, List.append_assoc]⟩, fun x hx => k.reads x (h.reads x hx), fun x hx => k.wt x (h.wt x hx), fun x hx => k.m x (h.m x hx)⟩
theorem ExtA.get {a b : Acc} (h : ExtA a b) {k : Nat} (hk : k < a.ns.length) : b.ns.getD k 0 = a.ns.getD k 0 := by
  obtain ⟨s, hs⟩ := h.ns
  rw [hs, List.getD_eq_getElem?_getD, List.getElem?_append_left hk, ← List.getD_eq_getElem?_getD]
def MadeOk (a : Acc) (i : Nat) : Prop := ∀ d ∈ a.made, d.1 < i ∧ a.ns.getD d.1 0 = d.2.1 ∧ a.ns.getD (d.1 + 1) 0 = d.2.2
theorem grow_facts {a : Acc} {i N N' : Nat} (hlen : a.ns.length = i + 1) (hlast : a.ns.getD i 0 = N) (hm : MadeOk a i) :
    (a.grow i N N').ns.length = i + 1 + 1 ∧ (a.grow i N N').ns.getD (i + 1) 0 = N' ∧ MadeOk (a.grow i N N') (i + 1) ∧ ExtA a (a.grow i N N') := by
  have e1 : (a.grow i N N').ns = a.ns ++ [N'] := rfl
  have hx : ExtA a (a.grow i N N') := ⟨⟨[N'], rfl⟩, fun _ h => h, fun _ h => h, fun _ h => h⟩
  have hnew : (a.grow i N N').ns.getD (i + 1) 0 = N' := by
    rw [e1, List.getD_eq_getElem?_getD, List.getElem?_append_right (by omega), hlen, Nat.sub_self]; rfl
  refine ⟨by rw [e1]; simp [hlen], hnew, fun d hd => ?_, hx⟩
  have hold : d ∈ a.made → d.1 < i + 1 ∧ (a.grow i N N').ns.getD d.1 0 = d.2.1 ∧ (a.grow i N N').ns.getD (d.1 + 1) 0 = d.2.2 := fun hd => by
    obtain ⟨h1, h2, h3⟩ := hm d hd
    exact ⟨by omega, by rw [hx.get (by omega)]; exact h2, by rw [hx.get (by omega)]; exact h3⟩
  have hd' : d ∈ (if Nat.blt N N' then (i, N, N') :: a.made else a.made) := hd
  split at hd'
  · rcases List.mem_cons.1 hd' with rfl | hd'
    · exact ⟨by simp, by rw [hx.get (by simp; omega)]; exact hlast, hnew⟩
    · exact hold hd'
  · exact hold hd'

theorem view_up {c c1 : Ctx} {H : HeapT} (hr : ∀ j, c.ro j = true → c1.ro j = true) (hh : ∀ j, c.hid j = true → c1.hid j = true) {j : Nat} {b : Blk} (hb : view c1 H j = some b) :
    view c H j = some ⟨b.cells, !c.ro j, b.esz⟩ ∧ (b.row ∨ b.own = true) := by
  obtain ⟨h1, h2, h3⟩ := view_some hb
  have hc : c.hid j = false := by
    cases e : c.hid j with
    | false => rfl
    | true => rw [hh j e] at h1; cases h1
  cases hz : b.esz with
  | n k =>
    rw [hz] at h2
    exact ⟨view_row hc h2, .inl ⟨k, hz⟩⟩
  | loop i' s' =>
    have hown : c1.ro j = false := by
      simp only [view, h1, h2, cond_false, Option.bind_some, seen, hz] at hb
      cases e : c1.ro j with
      | false => rfl
      | true => rw [e] at hb; cases hb
    have hcr : c.ro j = false := by
      cases e : c.ro j with
      | false => rfl
      | true => rw [hr j e] at hown; cases hown
    rw [hown] at h3
    refine ⟨?_, .inr h3⟩
    simp only [view, hc, h2, cond_false, Option.bind_some, seen_free hcr, hcr, hz, Bool.not_false]
  | map es =>
    have hown : c1.ro j = false := by
      simp only [view, h1, h2, cond_false, Option.bind_some, seen, hz] at hb
      cases e : c1.ro j with
      | false => rfl
      | true => rw [e] at hb; cases hb
    have hcr : c.ro j = false := by
      cases e : c.ro j with
      | false => rfl
      | true => rw [hr j e] at hown; cases hown
    rw [hown] at h3
    refine ⟨?_, .inr h3⟩
    simp only [view, hc, h2, cond_false, Option.bind_some, seen_free hcr, hcr, hz, Bool.not_false]
theorem view_eq {c c1 : Ctx} {H : HeapT} (hr : ∀ j, c.ro j = true → c1.ro j = true) (hh : ∀ j, c.hid j = true → c1.hid j = true) :
    viewOf (fun j => ∃ b, view c1 H j = some b) (fun j => ∃ b, view c1 H j = some b ∧ b.own = true) (view c H) = view c1 H := by
  classical
  funext j
  unfold viewOf
  by_cases hT : ∃ b, view c1 H j = some b
  · rw [if_pos hT]
    obtain ⟨b, hb⟩ := hT
    obtain ⟨h1, h2, h3⟩ := view_some hb
    obtain ⟨hv, hrow⟩ := view_up hr hh hb
    rw [hv, hb]
    have ho : ∀ inst : Decidable (∃ b, view c1 H j = some b ∧ b.own = true), (!c.ro j && @decide _ inst) = b.own := by
      intro inst
      cases hbo : b.own with
      | true =>
        have : ∃ b, view c1 H j = some b ∧ b.own = true := ⟨b, hb, hbo⟩
        rw [decide_eq_true this, Bool.and_true]
        cases e : c.ro j with
        | false => rfl
        | true => rw [hbo, hr j e] at h3; cases h3
      | false =>
        have : ¬ ∃ b, view c1 H j = some b ∧ b.own = true := fun ⟨b', h1, h2⟩ => by rw [hb] at h1; cases h1; rw [hbo] at h2; cases h2
        rw [decide_eq_false this, Bool.and_false]
    rw [Option.bind_some, if_pos ?_]
    · simp only [ho]
    · rcases hrow with ⟨k, hrow⟩ | hrow
      · exact .inl ⟨k, hrow⟩
      · exact .inr ⟨b, hb, hrow⟩
  · rw [if_neg hT]
    cases e : view c1 H j with
    | none => rfl
    | some b => exact absurd ⟨b, e⟩ hT
theorem view_own {c : Ctx} {H : HeapT} {j : Nat} {b : Blk} (h1 : c.ro j = false) (h2 : c.hid j = false) (h3 : H.get j = some (b.cells, b.esz)) (ho : b.own = true) : view c H j = some b := by
  simp only [view, h2, h3, cond_false, Option.bind_some, seen_free h1]
  obtain ⟨b1, b2, b3⟩ := b
  simp only at ho; subst ho; rfl

theorem dStep_sound {call : CallT} (hcall : CallOk P call) {cw : Nat → Bool} {c : Ctx} {ops : Array Oper} {N0 i : Nat} {o : Oper} {E : Trie Value} {N : Nat} {H : HeapT} {a a' : Acc} {v : Value} {N' : Nat} {H' : HeapT}
    (hI : Inv c N H) (hE : EB n E N) (hN0 : N0 ≤ N) (hio : i < ops.size) (hlen : a.ns.length = i + 1) (hlast : a.ns.getD i 0 = N) (hm : MadeOk a i) (hd : dstOk n o.dst = true) (hw : wantedA ops (pick E (slotsOf ops o)) o = some true)
    (h : dStep P call cw c ops N0 i o (pick E (slotsOf ops o)).eval N H a = some (v, N', H', a')) :
    Good c N H N' H' ∧ a'.ns.length = i + 1 + 1 ∧ a'.ns.getD (i + 1) 0 = N' ∧ MadeOk a' (i + 1) ∧ ExtA a a' ∧
    ∀ (fin : Acc) (env : Env), ExtA a' fin → CalmA ops fin → Both env E →
      ∃ (k : Cls) (T W : Nat → Prop), OneStep P n ops N0 (fun k j => WtA fin k j) fin.m fin.nf i o env (view c H) v (view c H') k T W := by
  have hEp := hE.pick (slotsOf ops o)
  -- a step of the chain
  have chain : ∀ (w : Nat → Bool) (a1 : Acc) (v : Value) (N' : Nat) (H' : HeapT), evOp P call (ctxChain c ops N0 i N a.made w) (pick E (slotsOf ops o)).eval o.op N H = some (v, N', H') →
      a1.ns = (a.grow i N N').ns → a1.made = (a.grow i N N').made → (∀ x ∈ a.reads, x ∈ a1.reads) → (∀ x ∈ a.wt, x ∈ a1.wt) → (∀ x ∈ a.m, x ∈ a1.m) → i ∈ a1.m → ((∀ j, w j = false) ∨ (i, w) ∈ a1.wt) →
      Good c N H N' H' ∧ a1.ns.length = i + 1 + 1 ∧ a1.ns.getD (i + 1) 0 = N' ∧ MadeOk a1 (i + 1) ∧ ExtA a a1 ∧
      ∀ (fin : Acc) (env : Env), ExtA a1 fin → CalmA ops fin → Both env E →
        ∃ (k : Cls) (T W : Nat → Prop), OneStep P n ops N0 (fun k j => WtA fin k j) fin.m fin.nf i o env (view c H) v (view c H') k T W := by
    intro w a1 v N' H' hev hns hmade hreads hwt hmm him hww
    have hI1 : Inv (ctxChain c ops N0 i N a.made w) N H := inv_chain hI
    obtain ⟨hstep, hgood⟩ := evOp_sound (n := n) hcall hI1 hEp hev
    have hr : ∀ j, c.ro j = true → (ctxChain c ops N0 i N a.made w).ro j = true := fun j hj => by simp [ctxChain, hj]
    have hh : ∀ j, c.hid j = true → (ctxChain c ops N0 i N a.made w).hid j = true := fun j hj => by simp [ctxChain, hj]
    obtain ⟨f1, f2, f3, f4⟩ := grow_facts (N' := N') hlen hlast hm
    have hMade : MadeOk a1 (i + 1) := by
      intro d hd; rw [hmade] at hd; rw [hns]; exact f3 d hd
    have hx : ExtA a a1 := ⟨by rw [hns]; exact f4.ns, hreads, hwt, hmm⟩
    refine ⟨good_back hI hr hh hgood, by rw [hns]; exact f1, by rw [hns]; exact f2, hMade, hx, fun fin env hfin hrd hboth => ?_⟩
    have hni : fin.nf i = N := by rw [Acc.nf, (hx.trans hfin).get (by omega)]; exact hlast
    have hni1 : fin.nf (i + 1) = N' := by rw [Acc.nf, hfin.get (by rw [hns, f1]; omega), hns]; exact f2
    refine ⟨.chain, fun j => ∃ b, view (ctxChain c ops N0 i N a.made w) H j = some b, fun j => ∃ b, view (ctxChain c ops N0 i N a.made w) H j = some b ∧ b.own = true, hd, .inr (.inr (.inr ⟨wantedA_mono hw fun t v ht => hboth.dom t v (pick_get E _ t v ht).1, rfl, hfin.m _ him, ?_, ?_, ?_, ?_, ?_, ?_, ?_⟩))⟩
    · rw [hni, hni1]; exact hgood.le
    · rw [hni]; exact hboth.keepB hE _
    · rintro j ⟨b, hb, hbo⟩
      obtain ⟨g1, g2, g3⟩ := view_some hb
      have hc1 : c.hid j = false := by
        cases e : c.hid j with
        | false => rfl
        | true => rw [hh j e] at g1; cases g1
      refine ⟨⟨b, hb⟩, fun hj => ?_, _, (view_up hr hh hb).1⟩
      rw [hbo] at g3
      have g4 : (ctxChain c ops N0 i N a.made w).ro j = false := by simpa using g3.symm
      simp only [ctxChain, Bool.or_eq_false_iff, Bool.and_eq_false_iff] at g4
      rcases g4.2 with g5 | g5
      · exfalso; have : Nat.blt j N = true := by simp; omega
        rw [this] at g5; cases g5
      · have g5 : w j = true := by simpa using g5
        rcases hww with hww | hww
        · rw [hww j] at g5; cases g5
        · exact ⟨(i, w), hfin.wt _ hww, rfl, g5⟩
    · intro j hjW hjn
      show view c H' j = view c H j
      have hnew : ¬ (N ≤ j ∧ j < N') := fun hh => hjn (by rw [hni, hni1]; exact hh)
      have hsame : H'.get j = H.get j := by
        rcases Nat.lt_or_ge j N with hlt | hge
        · cases hget : H.get j with
          | none => exact hgood.none j hlt hget
          | some b =>
            rw [← hget]
            refine hgood.frame j hlt ?_
            apply Decidable.byContradiction
            intro hcon
            have h1 : (ctxChain c ops N0 i N a.made w).ro j = false := by
              cases e : (ctxChain c ops N0 i N a.made w).ro j with
              | false => rfl
              | true => exact absurd (.inl e) hcon
            have h2 : (ctxChain c ops N0 i N a.made w).hid j = false := by
              cases e : (ctxChain c ops N0 i N a.made w).hid j with
              | false => rfl
              | true => exact absurd (.inr e) hcon
            exact hjW ⟨⟨b.1, true, b.2⟩, view_own h1 h2 hget rfl, rfl⟩
        · have h1 : H.get j = none := by
            cases e : H.get j with
            | none => rfl
            | some b => have := (hI.bdd j b e).1; omega
          have h2 : H'.get j = none := by
            cases e : H'.get j with
            | none => rfl
            | some b => have := (hgood.inv.bdd j b e).1; omega
          rw [h1, h2]
      simp only [view, hsame]
    · rintro j ⟨b, hb⟩
      obtain ⟨g1, g2, g3⟩ := view_some hb
      have hjN := (hI.bdd _ _ g2).1
      simp only [ctxChain, Bool.or_eq_false_iff, Bool.and_eq_false_iff] at g1
      have hsee : seesB ops N0 i a.made j = true := by
        rcases g1.2 with g5 | g5
        · exfalso; have : Nat.blt j N = true := by simp; omega
          rw [this] at g5; cases g5
        · simpa using g5
      simp only [seesB, Bool.or_eq_true, List.any_eq_true, Bool.and_eq_true] at hsee
      rcases hsee with hs | ⟨d, hdm, hs1, hs2, hs3⟩
      · exact .inl (blt_lt hs)
      · obtain ⟨m1, m2, m3⟩ := hm d hdm
        refine .inr ⟨d.1, by omega, hs3, ?_, ?_⟩
        · rw [Acc.nf, (hx.trans hfin).get (by omega), m2]; simpa using hs1
        · rw [Acc.nf, (hx.trans hfin).get (by omega), m3]; exact blt_lt hs2
    · rintro j b ⟨b1, hb1⟩ hb
      rw [hni]
      obtain ⟨_, g2, _⟩ := view_some hb
      exact (hI.bdd _ _ g2).2
    · rw [hni, view_eq hr hh]
      refine (hstep.env_mono (pick_keep hboth.dom _)).mono fun v1 N1 σ2 ⟨q1, q2, q3⟩ => ⟨q1, by rw [hni1]; exact q2, fun j b hb hwr => ?_⟩
      obtain ⟨g1, g2, g3⟩ := view_some hb
      have hfree : (ctxChain c ops N0 i N a.made w).ro j = false ∧ (ctxChain c ops N0 i N a.made w).hid j = false := by
        rcases hwr with ⟨b1, hb1, hb2⟩ | hwr
        · obtain ⟨p1, p2, p3⟩ := view_some hb1
          rw [hb2] at p3
          exact ⟨by simpa using p3.symm, p1⟩
        · have hge : N ≤ j := hwr.1
          constructor
          · cases e : (ctxChain c ops N0 i N a.made w).ro j with
            | false => rfl
            | true => have := hI1.ro j e; omega
          · cases e : (ctxChain c ops N0 i N a.made w).hid j with
            | false => rfl
            | true => have := hI1.hid j e; omega
      have hcro : c.ro j = false := by
        cases e : c.ro j with
        | false => rfl
        | true => rw [hr j e] at hfree; cases hfree.1
      rw [hcro] at g3
      have hbo : b.own = true := by simpa using g3
      exact ⟨q3 j b (view_own hfree.1 hfree.2 g2 hbo), hbo⟩
  -- a step that leaves the state alone
  have quiet : ∀ (a1 : Acc) (v : Value), a1.ns = (a.grow i N N).ns → a1.made = (a.grow i N N).made → (∀ x ∈ a.reads, x ∈ a1.reads) → (∀ x ∈ a.wt, x ∈ a1.wt) → (∀ x ∈ a.m, x ∈ a1.m) →
      (∀ (fin : Acc) (env : Env), ExtA a1 fin → CalmA ops fin → Both env E →
        ∃ T : Nat → Prop, (∀ j, T j → Calm ops N0 (fun k j => WtA fin k j) i j) ∧ ∀ m, StepQ P n o (env.keep (slotsOf ops o)) m (viewOf T (fun _ => False) (view c H)) (fun v1 N1 _ => v1 = v ∧ N1 = m)) →
      Good c N H N H ∧ a1.ns.length = i + 1 + 1 ∧ a1.ns.getD (i + 1) 0 = N ∧ MadeOk a1 (i + 1) ∧ ExtA a a1 ∧
      ∀ (fin : Acc) (env : Env), ExtA a1 fin → CalmA ops fin → Both env E →
        ∃ (k : Cls) (T W : Nat → Prop), OneStep P n ops N0 (fun k j => WtA fin k j) fin.m fin.nf i o env (view c H) v (view c H) k T W := by
    intro a1 v hns hmade hreads hwt hmm hstep
    obtain ⟨f1, f2, f3, f4⟩ := grow_facts (N' := N) hlen hlast hm
    have hMade : MadeOk a1 (i + 1) := by
      intro d hd; rw [hmade] at hd; rw [hns]; exact f3 d hd
    have hx : ExtA a a1 := ⟨by rw [hns]; exact f4.ns, hreads, hwt, hmm⟩
    refine ⟨.same hI, by rw [hns]; exact f1, by rw [hns]; exact f2, hMade, hx, fun fin env hfin hrd hboth => ?_⟩
    obtain ⟨T, hT1, hT2⟩ := hstep fin env hfin hrd hboth
    refine ⟨.reads, T, fun _ => False, hd, .inr (.inl ⟨wantedA_mono hw fun t v ht => hboth.dom t v (pick_get E _ t v ht).1, rfl, ?_, rfl, hT1, hT2⟩)⟩
    have hni : fin.nf i = N := by rw [Acc.nf, (hx.trans hfin).get (by omega)]; exact hlast
    have hni1 : fin.nf (i + 1) = N := by rw [Acc.nf, hfin.get (by rw [hns, f1]; omega), hns]; exact f2
    rw [hni, hni1]
  unfold dStep at h
  split at h
  · rename_i j hj
    split at h
    · rename_i hlt
      have hlt := blt_lt hlt
      simp only [Option.map_eq_some_iff, Prod.mk.injEq] at h
      obtain ⟨v2, hv, rfl, rfl, rfl, rfl⟩ := h
      refine quiet { a.grow i N N with reads := (i, j) :: a.reads } v2 rfl rfl (fun x hx => List.mem_cons_of_mem _ hx) (fun x hx => hx) (fun x hx => hx) fun fin env hfin hrd hboth => ⟨(· = j), fun j' hj' => ?_, fun m => ?_⟩
      · subst hj'
        refine ⟨hlt, fun k hk => ?_⟩
        obtain ⟨x, hx, e1, e2⟩ := hk
        have := hrd (i, j') (hfin.reads _ List.mem_cons_self) x hx e2
        rw [e1] at this
        exact this
      · have hread : evRead P (viewOf (· = j) (fun _ => False) (view c H)) (pick E (slotsOf ops o)).eval o.op = some v2 := by
          refine evRead_congr hv hj fun b hb => ?_
          obtain ⟨b', q1, q2, q3, _⟩ := viewOf_get (T := (· = j)) (W := fun _ => False) rfl hb (.inl (evRead_row hv hj b hb))
          exact ⟨b', q1, q2, q3⟩
        exact ((evRead_sound hread m).env_mono (pick_keep hboth.dom _)).mono fun v1 N1 σ1 ⟨q1, q2, _⟩ => ⟨q1, q2⟩
    · simp only [Option.map_eq_some_iff, Prod.mk.injEq] at h
      obtain ⟨⟨r1, r2, r3⟩, hr, rfl, rfl, rfl, rfl⟩ := h
      exact chain (fun _ => false) _ r1 r2 r3 hr rfl rfl (fun x hx => hx) (fun x hx => hx) (fun x hx => List.mem_cons_of_mem _ hx) List.mem_cons_self (.inl fun _ => rfl)
  · split at h
    · simp only [Option.map_eq_some_iff, Prod.mk.injEq] at h
      obtain ⟨v2, hv, rfl, rfl, rfl, rfl⟩ := h
      refine quiet (a.grow i N N) v2 rfl rfl (fun x hx => hx) (fun x hx => hx) (fun x hx => hx) fun fin env hfin hrd hboth => ⟨fun _ => False, fun _ h => h.elim, fun m => ?_⟩
      exact ((step_value (K := fun v1 N1 _ => v1 = v2 ∧ N1 = m) (pureX_plain hv) (fun ι a ha => pureX_sound hv ha) ⟨rfl, rfl⟩).env_mono (pick_keep hboth.dom _))
    · simp only [Option.map_eq_some_iff, Prod.mk.injEq] at h
      obtain ⟨⟨r1, r2, r3⟩, hr, rfl, rfl, rfl, rfl⟩ := h
      have hI1 : Inv (ctxNone c N) N H := inv_none hI
      obtain ⟨hstep, hgood⟩ := evOp_sound (n := n) hcall hI1 hEp hr
      have hrr : ∀ j, c.ro j = true → (ctxNone c N).ro j = true := fun j hj => by simp [ctxNone, hj]
      have hh : ∀ j, c.hid j = true → (ctxNone c N).hid j = true := fun j hj => by simp [ctxNone, hj]
      obtain ⟨f1, f2, f3, f4⟩ := grow_facts (N' := r2) hlen hlast hm
      have hsame : ∀ j, j < N → r3.get j = H.get j := fun j hj => hgood.frame j hj (.inr (by simp [ctxNone, hj]))
      refine ⟨good_back hI hrr hh hgood, f1, f2, f3, f4, fun fin env hfin hrd hboth => ?_⟩
      have hni : fin.nf i = N := by rw [Acc.nf, (f4.trans hfin).get (by omega)]; exact hlast
      have hni1 : fin.nf (i + 1) = r2 := by rw [Acc.nf, hfin.get (by rw [f1]; omega)]; exact f2
      refine ⟨.makes, fun _ => False, fun _ => False, hd, .inr (.inr (.inl ⟨wantedA_mono hw fun t v ht => hboth.dom t v (pick_get E _ t v ht).1, rfl, ?_, ?_, ?_, ?_⟩))⟩
      · rw [hni, hni1]; exact hgood.le
      · rw [hni]; exact hboth.keepB hE _
      · intro j hjn
        rw [hni, hni1] at hjn
        have : r3.get j = H.get j := by
          rcases Nat.lt_or_ge j N with hlt | hge
          · exact hsame j hlt
          · have h1 : H.get j = none := by
              cases e : H.get j with
              | none => rfl
              | some b => have := (hI.bdd j b e).1; omega
            have h2 : r3.get j = none := by
              cases e : r3.get j with
              | none => rfl
              | some b => have := (hgood.inv.bdd j b e).1; omega
            rw [h1, h2]
        simp only [view, this]
      · rw [hni]
        have e1 : view (ctxNone c N) H = fun _ => none := by
          funext j
          cases e : H.get j with
          | none => simp [view, e]
          | some b =>
            have h2 : Nat.blt j N = true := by simp; exact (hI.bdd j b e).1
            have h3 : (ctxNone c N).hid j = true := by show (c.hid j || Nat.blt j N) = true; rw [h2]; simp
            simp only [view, h3, cond_true]
        rw [e1] at hstep
        refine (hstep.env_mono (pick_keep hboth.dom _)).mono fun v1 N1 σ2 ⟨q1, q2, q3⟩ => ⟨q1, by rw [hni1]; exact q2, fun j b hj1 hj2 hb => ?_⟩
        obtain ⟨g1, g2, g3⟩ := view_some hb
        have hro : (ctxNone c N).ro j = false := by
          cases e : (ctxNone c N).ro j with
          | false => rfl
          | true => have := hI1.ro j e; omega
        have hhid : (ctxNone c N).hid j = false := by
          cases e : (ctxNone c N).hid j with
          | false => rfl
          | true => have := hI1.hid j e; omega
        have hcro : c.ro j = false := by
          cases e : c.ro j with
          | false => rfl
          | true => rw [hrr j e] at hro; cases hro
        rw [hcro] at g3
        have hbo : b.own = true := by simpa using g3
        exact ⟨q3 j b (view_own hro hhid g2 hbo), hbo⟩
    · rename_i w hk
      simp only [Option.map_eq_some_iff, Prod.mk.injEq] at h
      obtain ⟨⟨r1, r2, r3⟩, hr, rfl, rfl, rfl, rfl⟩ := h
      exact chain w _ r1 r2 r3 hr rfl rfl (fun x hx => hx) (fun x hx => List.mem_cons_of_mem _ hx) (fun x hx => List.mem_cons_of_mem _ hx) List.mem_cons_self (.inr List.mem_cons_self)

theorem evDraw_sound {call : CallT} (hcall : CallOk P call) {md : Bool} {c : Ctx} {ops : Array Oper} {N0 : Nat} : ∀ (l : List Oper) (i : Nat) (E : Trie Value) (N : Nat) (H : HeapT) (a : Acc) (E' : Trie Value) (N' : Nat) (H' : HeapT) (fin : Acc),
    i + l.length = ops.size → evDraw P n call md c ops N0 i l E N H a = some (E', N', H', fin) → Inv c N H → EB n E N → N0 ≤ N → a.ns.length = i + 1 → a.ns.getD i 0 = N → MadeOk a i →
    ExtA a fin ∧ Good c N H N' H' ∧ EB n E' N' ∧ fin.nf (i + l.length) = N' ∧
    ∀ (K : Env → AHeap → Prop) (env : Env), CalmA ops fin → Both env E → (∀ env', Both env' E' → K env' (view c H')) →
      TB P n ops N0 (fun k j => WtA fin k j) fin.m fin.nf K i l env (view c H)
  | [], i, E, N, H, a, E', N', H', fin, hsz, h, hI, hE, hN0, hlen, hlast, hm => by
    simp only [evDraw, Option.some.injEq, Prod.mk.injEq] at h
    obtain ⟨rfl, rfl, rfl, rfl⟩ := h
    exact ⟨.refl a, .same hI, hE, hlast, fun K env _ hb hk => hk env hb⟩
  | o :: l, i, E, N, H, a, E', N', H', fin, hsz, h, hI, hE, hN0, hlen, hlast, hm => by
    simp only [evDraw] at h
    simp only [List.length_cons] at hsz
    split at h
    · rename_i hd
      split at h
      · rename_i hw
        rw [wantedT_pick] at hw
        split at h
        · rename_i v N1 H1 a1 hst
          rw [dStep_congr (opdT_pick E ops o)] at hst
          split at h
          · rename_i hbd
            obtain ⟨g1, g2, g3, g4, g5, g6⟩ := dStep_sound hcall hI hE hN0 (by omega) hlen hlast hm hd hw hst
            obtain ⟨q1, q2, q3, q4, q5⟩ := evDraw_sound hcall l (i + 1) _ N1 H1 a1 E' N' H' fin (by omega) h g1.inv ((hE.up g1.le).put (bddB_sound hbd) hd) (Nat.le_trans hN0 g1.le) g2 g3 g4
            refine ⟨g5.trans q1, g1.trans q2, q3, by rw [show i + (o :: l).length = i + 1 + l.length from by simp; omega]; exact q4, fun K env hrd hb hk => ?_⟩
            obtain ⟨k, T, W, p2⟩ := g6 fin env q1 hrd hb
            exact ⟨v, view c H1, k, T, W, p2, q5 K _ hrd (hb.put _ _) hk⟩
          · cases h
        · cases h
      · rename_i hw
        rw [wantedT_pick] at hw
        obtain ⟨f1, f2, f3, f4⟩ := grow_facts (N' := N) hlen hlast hm
        obtain ⟨q1, q2, q3, q4, q5⟩ := evDraw_sound hcall l (i + 1) _ N H (a.grow i N N) E' N' H' fin (by omega) h hI (hE.put (.of_flat rfl) hd) hN0 f1 f2 f3
        refine ⟨f4.trans q1, q2, q3, by rw [show i + (o :: l).length = i + 1 + l.length from by simp; omega]; exact q4, fun K env hrd hb hk => ?_⟩
        have hni : fin.nf i = N := by rw [Acc.nf, (f4.trans q1).get (by omega)]; exact hlast
        have hni1 : fin.nf (i + 1) = N := by rw [Acc.nf, q1.get (by rw [f1]; omega)]; exact f2
        exact tb_skip hd (wantedA_mono hw fun t v ht => hb.dom t v (pick_get E _ t v ht).1) (by rw [hni, hni1]) (q5 K _ hrd (hb.put _ _) hk)
      · cases h
    · cases h
end
end
end Go.Abs

