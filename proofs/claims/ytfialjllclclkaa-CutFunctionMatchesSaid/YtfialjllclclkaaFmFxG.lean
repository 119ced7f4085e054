/- Shaken texts of the layer and of the walks. -/
import Derived.Test.YtfialjllclclkaaFmFxE
set_option linter.unusedVariables false
namespace Go.Abs
noncomputable section
variable {P : Program} {n : Nat}

inductive DOut where
  | no
  | ok (E : Trie Value) (N : Nat) (H : HeapT) (a : Acc)
abbrev DrF := CallT → Bool → Ctx → Nat → Trie Value → Nat → HeapT → Acc → DOut
def isPure : Op → Bool
  | .load _ _ | .slice _ _ _ _ _ | .store _ _ _ | .lookup _ _ _ _ | .mapUpdate _ _ _ _ | .mapEntry _ _ _ | .entryStore _ _ _ _ | .makeMap _ _ | .alloc _ | .box _ _ | .build _ _ | .buildSlice _ _ _ | .makeSlice _ _ _ => false
  | .call ⟨.value _, _, _⟩ | .call ⟨.builtin .clear, _, _⟩ | .call ⟨.builtin .append, _, _⟩ => false
  | _ => true
theorem isPure_ok {op : Op} (h : isPure op = true) (cw : Nat → Bool) (ρ : Operand → Option Value) : readId ρ op = none ∧ kindOf cw ρ op = .pure ∧ ∀ call c N H, evOp P call c ρ op N H = (pureX P ρ op).map fun v => (v, N, H) := by
  cases op with
  | call c =>
    obtain ⟨callee, args, ts⟩ := c
    cases callee with
    | value f => cases h
    | invoke r m => exact ⟨rfl, rfl, fun _ _ _ _ => rfl⟩
    | builtin b => cases b <;> first | exact ⟨rfl, rfl, fun _ _ _ _ => rfl⟩ | cases h
  | _ => first | exact ⟨rfl, rfl, fun _ _ _ _ => rfl⟩ | cases h
def isMakes : Op → Bool
  | .alloc _ | .box _ _ | .build _ _ | .buildSlice _ _ _ | .makeSlice _ _ _ => true
  | _ => false
theorem isMakes_ok {op : Op} (h : isMakes op = true) (cw : Nat → Bool) (ρ : Operand → Option Value) : readId ρ op = none ∧ kindOf cw ρ op = .makes := by
  cases op <;> first | exact ⟨rfl, rfl⟩ | cases h
def drGen (P : Program) (ops : Array Oper) (i : Nat) (o : Oper) (l : List Oper) (rest : Box DrF) : Box DrF := ⟨fun call md c N0 E N H a =>
  Option.rec (motive := fun _ => DOut) .no (fun q => Prod.rec (motive := fun _ => DOut) (fun v q => Prod.rec (motive := fun _ => DOut) (fun N q => Prod.rec (motive := fun _ => DOut) (fun H a =>
    Bool.rec (motive := fun _ => DOut) .no (forceN N fun N => rest.un call md c N0 (putT E o.dst v) N H a) (bddF N v)) q) q) q) (dStep P call (freeFor md E l a) c ops N0 i o (opdT E) N H a)⟩
def drPure (f : Trie Value → Option Value) (i : Nat) (o : Oper) (rest : Box DrF) : Box DrF := match o.dst with
  | some d => ⟨fun call md c N0 E N H a => Option.rec (motive := fun _ => DOut) .no (fun v => Bool.rec (motive := fun _ => DOut) .no (rest.un call md c N0 ((pth d).set E (some v)) N H (a.grow i N N)) (bddF N v)) (f E)⟩
  | none => ⟨fun call md c N0 E N H a => Option.rec (motive := fun _ => DOut) .no (fun v => Bool.rec (motive := fun _ => DOut) .no (rest.un call md c N0 E N H (a.grow i N N)) (bddF N v)) (f E)⟩
def drMakes (f : MemF) (i : Nat) (o : Oper) (rest : Box DrF) : Box DrF := ⟨fun call md c N0 E N H a =>
  MR.rec (motive := fun _ => DOut) .no (fun v N' H' => Bool.rec (motive := fun _ => DOut) .no (forceN N' fun N' => rest.un call md c N0 (putT E o.dst v) N' H' (a.grow i N N')) (bddF N' v)) (f call (ctxNone c N) E N H)⟩
def drChain (f : MemF) (w : CallT → Bool → Trie Value → Acc → Nat → Bool) (ops : Array Oper) (i : Nat) (o : Oper) (rest : Box DrF) : Box DrF := ⟨fun call md c N0 E N H a =>
  MR.rec (motive := fun _ => DOut) .no (fun v N' H' => Bool.rec (motive := fun _ => DOut) .no (forceN N' fun N' => rest.un call md c N0 (putT E o.dst v) N' H' { a.grow i N N' with m := i :: a.m, wt := (i, w call md E a) :: a.wt }) (bddF N' v)) (f call (ctxChain c ops N0 i N a.made (w call md E a)) E N H)⟩
def drLoad (P : Program) (g : Box (Nat → List Value → (Value → MR) → MR)) (x : Operand) (ops : Array Oper) (i : Nat) (o : Oper) (l : List Oper) (rest : Box DrF) : Box DrF := ⟨fun call md c N0 E N H a =>
  Option.rec (motive := fun _ => DOut) .no (fun u => asPtr .no u fun j off => Bool.rec (motive := fun _ => DOut) ((drGen P ops i o l rest).un call md c N0 E N H a)
    (MR.rec (motive := fun _ => DOut) .no (fun v _ _ => Bool.rec (motive := fun _ => DOut) .no (rest.un call md c N0 (putT E o.dst v) N H { a.grow i N N with reads := (i, j) :: a.reads }) (bddF N v)) (rowAt c H j fun l _ => g.un off l fun v => .ok v N H)) (Nat.blt j N0)) ((rdB x).un E)⟩
def drOne (P : Program) (ops : Array Oper) (i : Nat) (o : Oper) (l : List Oper) (rest : Box DrF) : Box DrF :=
  bif isPure o.op then match stOp P o.op with
    | .pur _ f => drPure f i o rest
    | _ => drGen P ops i o l rest
  else bif isMakes o.op then match stOp P o.op with
    | .mem _ f => drMakes f i o rest
    | _ => drGen P ops i o l rest
  else match o.op with
    | .load t x => match partM P t with
      | some g => drLoad P g x ops i o l rest
      | none => drGen P ops i o l rest
    | .store t x y => match stOp P (.store t x y) with
      | .mem _ f => drChain f (fun _ _ E _ => inL (ptrIds (opdT E) x)) ops i o rest
      | _ => drGen P ops i o l rest
    | .call ⟨.value (.func g), args, ts⟩ => match stOp P (.call ⟨.value (.func g), args, ts⟩) with
      | .mem _ f => drChain f (fun _ md E a => freeFor md E l a) ops i o rest
      | _ => drGen P ops i o l rest
    | _ => drGen P ops i o l rest
def dguardF (v : Value) (want : Bool) (a b : DOut) : DOut := Value.rec (motive_1 := fun _ => DOut) (motive_2 := fun _ => PUnit) (motive_3 := fun _ => PUnit) (fun t => Bool.rec (motive := fun _ => DOut) (Bool.rec (motive := fun _ => DOut) a b want) (Bool.rec (motive := fun _ => DOut) b a want) t) (fun _ _ => .no) (fun _ _ => .no) (fun _ _ _ => .no) (fun _ => .no) (fun _ => .no) (fun _ _ _ => .no) (fun _ => .no) (fun _ => .no) (fun _ _ _ _ _ => .no) .no (fun _ _ _ => .no) .no (fun _ _ => .no) (fun _ _ => b) (fun _ _ => .unit) .unit (fun _ _ _ _ => .unit) v
def drSkip (i : Nat) (o : Oper) (rest : Box DrF) : Box DrF := ⟨fun call md c N0 E N H a => rest.un call md c N0 (putT E o.dst undef) N H (a.grow i N N)⟩
def drGuard (ops : Array Oper) (o : Oper) (one skip : Box DrF) : Box DrF := match o.guard with
  | none => one
  | some (j, want) => match (ops[j]?).bind (·.dst) with
    | none => ⟨fun _ _ _ _ _ _ _ _ => .no⟩
    | some t => ⟨fun call md c N0 E N H a => Option.rec (motive := fun _ => DOut) .no (fun v => dguardF v want (one.un call md c N0 E N H a) (skip.un call md c N0 E N H a)) ((pth t).get E)⟩
def drOps (P : Program) (n : Nat) (ops : Array Oper) (l : List Oper) : Nat → Box DrF :=
  List.rec (motive := fun _ => Nat → Box DrF) (fun _ => ⟨fun _ _ _ _ E N H a => .ok E N H a⟩) (fun o l ih i => Bool.rec (motive := fun _ => Box DrF) ⟨fun _ _ _ _ _ _ _ _ => .no⟩ (drGuard ops o (drOne P ops i o l (ih (Nat.succ i))) (drSkip i o (ih (Nat.succ i)))) (dstOk n o.dst)) l

theorem orec_d {β : Type} {o : Option β} {K : β → DOut} {E : Trie Value} {N : Nat} {H : HeapT} {a : Acc} (h : Option.rec (motive := fun _ => DOut) .no K o = .ok E N H a) : ∃ x, o = some x ∧ K x = .ok E N H a := by
  cases o with
  | none => cases h
  | some x => exact ⟨x, rfl, h⟩
theorem mrec_d {o : MR} {K : Value → Nat → HeapT → DOut} {E : Trie Value} {N : Nat} {H : HeapT} {a : Acc} (h : MR.rec (motive := fun _ => DOut) .no K o = .ok E N H a) : ∃ v N1 H1, o = .ok v N1 H1 ∧ K v N1 H1 = .ok E N H a := by
  cases o with
  | no => cases h
  | ok v N H => exact ⟨v, N, H, rfl, h⟩
theorem brec_d {b : Bool} {K : DOut} {E : Trie Value} {N : Nat} {H : HeapT} {a : Acc} (h : Bool.rec (motive := fun _ => DOut) .no K b = .ok E N H a) : b = true ∧ K = .ok E N H a := by
  cases b with
  | false => cases h
  | true => exact ⟨rfl, h⟩
def RestOk (P : Program) (n : Nat) (ops : Array Oper) (l : List Oper) (i : Nat) (f : Box DrF) : Prop := ∀ call md c N0 E N H a E' N' H' a', f.un call md c N0 E N H a = .ok E' N' H' a' → evDraw P n call md c ops N0 i l E N H a = some (E', N', H', a')
def OneD (P : Program) (n : Nat) (ops : Array Oper) (o : Oper) (l : List Oper) (i : Nat) (f : Box DrF) : Prop := ∀ call md c N0 E N H a E' N' H' a', f.un call md c N0 E N H a = .ok E' N' H' a' → wantedT ops E o = some true → evDraw P n call md c ops N0 i (o :: l) E N H a = some (E', N', H', a')
theorem oneD_of {ops : Array Oper} {o : Oper} {l : List Oper} {i : Nat} {rest : Box DrF} (hd : dstOk n o.dst = true) (hr : RestOk P n ops l (i + 1) rest) {call : CallT} {md : Bool} {c : Ctx} {N0 : Nat} {E : Trie Value} {N : Nat} {H : HeapT} {a : Acc} {v : Value} {N1 : Nat} {H1 : HeapT} {a1 : Acc} {E' : Trie Value} {N' : Nat} {H' : HeapT} {a' : Acc}
    (hs : dStep P call (freeFor md E l a) c ops N0 i o (opdT E) N H a = some (v, N1, H1, a1)) (hb : bddF N1 v = true) (h : rest.un call md c N0 (putT E o.dst v) N1 H1 a1 = .ok E' N' H' a') (hw : wantedT ops E o = some true) :
    evDraw P n call md c ops N0 i (o :: l) E N H a = some (E', N', H', a') := by
  rw [bddF_eq] at hb
  simp only [evDraw, hd, if_true, hw, hs, hb]
  exact hr _ _ _ _ _ _ _ _ _ _ _ _ h
theorem drGen_ok {ops : Array Oper} {o : Oper} {l : List Oper} {i : Nat} {rest : Box DrF} (hd : dstOk n o.dst = true) (hr : RestOk P n ops l (i + 1) rest) : OneD P n ops o l i (drGen P ops i o l rest) := fun call md c N0 E N H a E' N' H' a' h hw => by
  replace h := orec_d h
  obtain ⟨⟨v, N1, H1, a1⟩, hs, h⟩ := h
  replace h := brec_d h
  obtain ⟨hb, h⟩ := h
  exact oneD_of hd hr hs hb h hw
theorem drPure_ok {f : Trie Value → Option Value} {nb : Bool} {ops : Array Oper} {o : Oper} {l : List Oper} {i : Nat} {rest : Box DrF} (hd : dstOk n o.dst = true) (hr : RestOk P n ops l (i + 1) rest) (hp : isPure o.op = true) (hf : SOpOk P n o.op (.pur nb f)) : OneD P n ops o l i (drPure f i o rest) := fun call md c N0 E N H a E' N' H' a' h hw => by
  have key : ∀ v, f E = some v → dStep P call (freeFor md E l a) c ops N0 i o (opdT E) N H a = some (v, N, H, a.grow i N N) := fun v hv => by
    obtain ⟨k1, k2, k3⟩ := isPure_ok (P := P) hp (freeFor md E l a) (opdT E)
    have := (hf E v hv).1 call c N H
    rw [k3] at this
    simp only [Option.map_eq_some_iff, Prod.mk.injEq] at this
    obtain ⟨v2, hv2, rfl, _⟩ := this
    simp only [dStep, k1, k2, hv2, Option.map_some]
  unfold drPure at h
  split at h
  · rename_i d e
    replace h := orec_d h
    obtain ⟨v, hv, h⟩ := h
    replace h := brec_d h
    obtain ⟨hb, h⟩ := h
    exact oneD_of hd hr (key v hv) hb (by rw [e]; exact h) hw
  · rename_i e
    replace h := orec_d h
    obtain ⟨v, hv, h⟩ := h
    replace h := brec_d h
    obtain ⟨hb, h⟩ := h
    exact oneD_of hd hr (key v hv) hb (by rw [e]; exact h) hw
theorem drMakes_ok {f : MemF} {nb : Bool} {ops : Array Oper} {o : Oper} {l : List Oper} {i : Nat} {rest : Box DrF} (hd : dstOk n o.dst = true) (hr : RestOk P n ops l (i + 1) rest) (hp : isMakes o.op = true) (hf : SOpOk P n o.op (.mem nb f)) : OneD P n ops o l i (drMakes f i o rest) := fun call md c N0 E N H a E' N' H' a' h hw => by
  replace h := mrec_d h
  obtain ⟨v, N1, H1, hv, h⟩ := h
  replace h := brec_d h
  obtain ⟨hb, h⟩ := h
  obtain ⟨k1, k2⟩ := isMakes_ok hp (freeFor md E l a) (opdT E)
  have := (hf call (ctxNone c N) E N H v N1 H1 hv).1
  exact oneD_of hd hr (by simp only [dStep, k1, k2, this, Option.map_some]) hb h hw
theorem drChain_ok {f : MemF} {nb : Bool} {w : CallT → Bool → Trie Value → Acc → Nat → Bool} {ops : Array Oper} {o : Oper} {l : List Oper} {i : Nat} {rest : Box DrF} (hd : dstOk n o.dst = true) (hr : RestOk P n ops l (i + 1) rest) (h1 : ∀ E, readId (opdT E) o.op = none)
    (h2 : ∀ call md E a, kindOf (freeFor md E l a) (opdT E) o.op = .chain (w call md E a)) (hf : SOpOk P n o.op (.mem nb f)) : OneD P n ops o l i (drChain f w ops i o rest) := fun call md c N0 E N H a E' N' H' a' h hw => by
  replace h := mrec_d h
  obtain ⟨v, N1, H1, hv, h⟩ := h
  replace h := brec_d h
  obtain ⟨hb, h⟩ := h
  have := (hf call _ E N H v N1 H1 hv).1
  exact oneD_of hd hr (by simp only [dStep, h1, h2 call, this, Option.map_some]) hb h hw
theorem drLoad_ok {t : TypeId} {x : Operand} {g : Box (Nat → List Value → (Value → MR) → MR)} {ops : Array Oper} {o : Oper} {l : List Oper} {i : Nat} {rest : Box DrF} (hd : dstOk n o.dst = true) (hr : RestOk P n ops l (i + 1) rest) (ho : o.op = .load t x) (hg : partM P t = some g) : OneD P n ops o l i (drLoad P g x ops i o l rest) := fun call md c N0 E N H a E' N' H' a' h hw => by
  replace h := orec_d h
  obtain ⟨u, hx, h⟩ := h
  rw [rdB_eq] at hx
  rcases asPtr_cases .no u (fun j off => Bool.rec (motive := fun _ => DOut) ((drGen P ops i o l rest).un call md c N0 E N H a)
    (MR.rec (motive := fun _ => DOut) .no (fun v _ _ => Bool.rec (motive := fun _ => DOut) .no (rest.un call md c N0 (putT E o.dst v) N H { a.grow i N N with reads := (i, j) :: a.reads }) (bddF N v)) (rowAt c H j fun l _ => g.un off l fun v => .ok v N H)) (Nat.blt j N0)) with ⟨j, off, rfl, hh⟩ | hh
  · rw [hh] at h
    cases hj : Nat.blt j N0 with
    | false => rw [hj] at h; exact drGen_ok hd hr call md c N0 E N H a E' N' H' a' h hw
    | true =>
      rw [hj] at h
      replace h := mrec_d h
      obtain ⟨v, N1, H1, hv, h⟩ := h
      replace h := brec_d h
      obtain ⟨hb, h⟩ := h
      replace hv := rowAt_ok hv
      obtain ⟨cells, k, q1, q2, hv⟩ := hv
      replace hv := partM_ok (own := !c.ro j) (z := .n k) hg hv
      obtain ⟨r, r1, hv, _⟩ := hv
      cases hv
      refine oneD_of hd hr ?_ hb h hw
      simp only [dStep, ho, readId, hx, hj, if_true, evRead, q2, Option.bind_some, rowB, cond_true, r1, Option.map_some]
  · rw [hh] at h; cases h
theorem drOne_ok {ops : Array Oper} {o : Oper} {l : List Oper} {i : Nat} {rest : Box DrF} (hd : dstOk n o.dst = true) (hr : RestOk P n ops l (i + 1) rest) : OneD P n ops o l i (drOne P ops i o l rest) := by
  have hop := stOp_ok (P := P) (n := n) o.op
  unfold drOne
  cases hp : isPure o.op with
  | true =>
    rw [cond_true]
    split
    · rename_i nb f e; rw [e] at hop; exact drPure_ok hd hr hp hop
    · exact drGen_ok hd hr
  | false =>
    rw [cond_false]
    cases hm : isMakes o.op with
    | true =>
      rw [cond_true]
      split
      · rename_i nb f e; rw [e] at hop; exact drMakes_ok hd hr hm hop
      · exact drGen_ok hd hr
    | false =>
      rw [cond_false]
      split
      · rename_i t x ho
        split
        · rename_i g hg; exact drLoad_ok hd hr ho hg
        · exact drGen_ok hd hr
      · rename_i t x y ho
        split
        · rename_i nb f e
          rw [ho, e] at hop
          refine drChain_ok hd hr (fun E => by rw [ho]; rfl) (fun call md E a => by rw [ho]; rfl) (nb := nb) (by rw [ho]; exact hop)
        · exact drGen_ok hd hr
      · rename_i g args ts ho
        split
        · rename_i nb f e
          rw [ho, e] at hop
          refine drChain_ok hd hr (fun E => by rw [ho]; rfl) (fun call md E a => by rw [ho]; rfl) (nb := nb) (by rw [ho]; exact hop)
        · exact drGen_ok hd hr
      · exact drGen_ok hd hr
theorem dguardF_ok {v : Value} {want : Bool} {a b : DOut} {E : Trie Value} {N : Nat} {H : HeapT} {ac : Acc} (h : dguardF v want a b = .ok E N H ac) : (∃ t, v = .bool t ∧ (t == want) = true ∧ a = .ok E N H ac) ∨ (∃ t, v = .bool t ∧ (t == want) = false ∧ b = .ok E N H ac) ∨ (∃ cs, v = .tuple cs ∧ b = .ok E N H ac) := by
  cases v with
  | bool t =>
    cases t <;> cases want
    · exact .inl ⟨_, rfl, rfl, h⟩
    · exact .inr (.inl ⟨_, rfl, rfl, h⟩)
    · exact .inr (.inl ⟨_, rfl, rfl, h⟩)
    · exact .inl ⟨_, rfl, rfl, h⟩
  | tuple cs => exact .inr (.inr ⟨cs, rfl, h⟩)
  | _ => cases h
theorem drSkip_ok {ops : Array Oper} {o : Oper} {l : List Oper} {i : Nat} {rest : Box DrF} (hd : dstOk n o.dst = true) (hr : RestOk P n ops l (i + 1) rest) {call : CallT} {md : Bool} {c : Ctx} {N0 : Nat} {E : Trie Value} {N : Nat} {H : HeapT} {a : Acc} {E' : Trie Value} {N' : Nat} {H' : HeapT} {a' : Acc}
    (h : (drSkip i o rest).un call md c N0 E N H a = .ok E' N' H' a') (hw : wantedT ops E o = some false) : evDraw P n call md c ops N0 i (o :: l) E N H a = some (E', N', H', a') := by
  simp only [evDraw, hd, if_true, hw]
  exact hr _ _ _ _ _ _ _ _ _ _ _ _ h
theorem drOps_ok {ops : Array Oper} : ∀ (l : List Oper) (i : Nat), RestOk P n ops l i (drOps P n ops l i)
  | [], i => fun call md c N0 E N H a E' N' H' a' h => by
    have h : DOut.ok E N H a = .ok E' N' H' a' := h
    cases h; rfl
  | o :: l, i => fun call md c N0 E N H a E' N' H' a' h => by
    have ih := drOps_ok (ops := ops) l (i + 1)
    have h : Box.un (Bool.rec (motive := fun _ => Box DrF) ⟨fun _ _ _ _ _ _ _ _ => .no⟩ (drGuard ops o (drOne P ops i o l (drOps P n ops l (i + 1))) (drSkip i o (drOps P n ops l (i + 1)))) (dstOk n o.dst)) call md c N0 E N H a = .ok E' N' H' a' := h
    cases hd : dstOk n o.dst with
    | false => rw [hd] at h; cases h
    | true =>
      rw [hd] at h
      have h : (drGuard ops o (drOne P ops i o l (drOps P n ops l (i + 1))) (drSkip i o (drOps P n ops l (i + 1)))).un call md c N0 E N H a = .ok E' N' H' a' := h
      unfold drGuard at h
      split at h
      · rename_i hg
        exact drOne_ok hd ih call md c N0 E N H a E' N' H' a' h (by simp [wantedT, hg])
      · rename_i j want hg
        split at h
        · cases h
        · rename_i t ht
          replace h := orec_d h
          obtain ⟨v, hv, h⟩ := h
          have hv : E.get t = some v := hv
          rcases dguardF_ok h with ⟨b, rfl, hb, h⟩ | ⟨b, rfl, hb, h⟩ | ⟨cs, rfl, h⟩
          · exact drOne_ok hd ih call md c N0 E N H a E' N' H' a' h (by simp only [wantedT, hg, ht, hv, hb])
          · exact drSkip_ok hd ih h (by simp only [wantedT, hg, ht, hv, hb])
          · exact drSkip_ok hd ih h (by simp only [wantedT, hg, ht, hv])
def drawS (P : Program) (n : Nat) (ops : Array Oper) (md : Bool) (call : CallT) (c : Ctx) (E : Trie Value) (N : Nat) (H : HeapT) : Option (Trie Value × Nat × HeapT) :=
  DOut.rec (motive := fun _ => Option (Trie Value × Nat × HeapT)) none (fun E N H a => Bool.rec (motive := fun _ => Option (Trie Value × Nat × HeapT)) none (Bool.rec (motive := fun _ => Option (Trie Value × Nat × HeapT)) none (some (E, N, H)) (calmB ops a)) (drawnB P ops.toList a.m)) ((drOps P n ops ops.toList 0).un call md c N E N H ⟨[N], [], [], [], []⟩)
theorem drawS_some {ops : Array Oper} {md : Bool} {call : CallT} {c : Ctx} {E : Trie Value} {N : Nat} {H : HeapT} {r : Trie Value × Nat × HeapT} (h : drawS P n ops md call c E N H = some r) :
    ∃ fin, evDraw P n call md c ops N 0 ops.toList E N H ⟨[N], [], [], [], []⟩ = some (r.1, r.2.1, r.2.2, fin) ∧ (drawnB P ops.toList fin.m && calmB ops fin) = true := by
  unfold drawS at h
  cases hr : (drOps P n ops ops.toList 0).un call md c N E N H ⟨[N], [], [], [], []⟩ with
  | no => rw [hr] at h; cases h
  | ok E1 N1 H1 a =>
    rw [hr] at h
    replace h := brec_some h
    obtain ⟨h1, h⟩ := h
    replace h := brec_some h
    obtain ⟨h2, h⟩ := h
    cases h
    exact ⟨a, drOps_ok _ _ _ _ _ _ _ _ _ _ _ _ _ _ hr, by rw [h1, h2]; rfl⟩
end
end Go.Abs

