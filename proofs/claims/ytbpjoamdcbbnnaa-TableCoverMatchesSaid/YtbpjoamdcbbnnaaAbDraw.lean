/- Abstract states over the machine: a region that draws its order, whatever its operations do: what each does in every state in which its turn may come. -/
import Derived.Test.YtbpjoamdcbbnnaaAbSteps
import Derived.Still
namespace Go.Abs
section
variable {P : Program} {n : Nat} {env : Env} {N : Nat} {σ : AHeap} {ι : Ren} {ops : Array Oper}

/-- What an operation waits for. -/
def deps (ops : Array Oper) (i : Nat) : List Nat :=
  match ops[i]? with
  | some o => o.after.toList.filterMap fun e => if Region.binds .any e then some e.on else none
  | none => []
def upd (S : Nat → Bool) (i : Nat) : Nat → Bool := fun j => if j = i then true else S j
def dstOf (ops : Array Oper) (i : Nat) : Option Tmp := (ops[i]?).bind (·.dst)
/-- What a slot holds when the operations of S have been carried out. -/
def getS (ops : Array Oper) (vals : List Value) (S : Nat → Bool) : List Nat → Env → Nat → Option Value
  | [], env, x => env.get x
  | i :: l, env, x => if dstOf ops i = some x then (if S i = true then some (vals.getD i undef) else getS ops vals S l env x) else getS ops vals S l env x
/-- No slot is written twice. -/
def onceB (ops : Array Oper) : Bool := (List.range ops.size).all fun i => (List.range ops.size).all fun j => decide (i = j) || match dstOf ops i, dstOf ops j with
  | some t, some u => !decide (t = u)
  | _, _ => true
theorem onceB_spec (h : onceB ops = true) {i j : Nat} {t : Tmp} (hi : dstOf ops i = some t) (hj : dstOf ops j = some t) : i = j := by
  have lt : ∀ {i : Nat}, dstOf ops i = some t → i < ops.size := by
    intro i hi
    unfold dstOf at hi
    rcases Nat.lt_or_ge i ops.size with h' | h'
    · exact h'
    · simp [Array.getElem?_eq_none h'] at hi
  unfold onceB at h
  rw [List.all_eq_true] at h
  have h1 := h i (List.mem_range.2 (lt hi))
  rw [List.all_eq_true] at h1
  have h2 := h1 j (List.mem_range.2 (lt hj))
  simp only [hi, hj, decide_true, Bool.not_true, Bool.or_false, decide_eq_true_eq] at h2
  exact h2
theorem getS_upd (h : onceB ops = true) (vals : List Value) (S : Nat → Bool) (i : Nat) (x : Nat) : ∀ (l : List Nat) (env : Env), i ∈ l →
    getS ops vals (upd S i) l env x = if dstOf ops i = some x then some (vals.getD i undef) else getS ops vals S l env x := by
  intro l
  induction l with
  | nil => intro env hm; cases hm
  | cons j l ih =>
    intro env hm
    simp only [getS]
    by_cases hj : dstOf ops j = some x
    · rw [if_pos hj, if_pos hj]
      by_cases hi : dstOf ops i = some x
      · have : j = i := onceB_spec h hj hi
        subst this
        rw [if_pos hi]; simp [upd]
      · have hne : j ≠ i := fun e => hi (e ▸ hj)
        rw [if_neg hi]
        simp only [upd, hne, if_false]
        split
        · rfl
        · rcases List.mem_cons.1 hm with e | hm'
          · exact absurd e.symm hne
          · rw [ih env hm', if_neg hi]
    · rw [if_neg hj, if_neg hj]
      rcases List.mem_cons.1 hm with e | hm'
      · subst e
        rw [if_neg hj]
        -- the slot is none of i's: S's update is not seen
        have : ∀ l' : List Nat, getS ops vals (upd S i) l' env x = getS ops vals S l' env x := by
          intro l'
          induction l' with
          | nil => rfl
          | cons k l' ih' =>
            simp only [getS]
            by_cases hk : dstOf ops k = some x
            · have hne : k ≠ i := fun e => hj (e ▸ hk)
              simp only [upd, hne, if_false, ih', if_pos hk]
            · simp only [if_neg hk, ih']
        exact this l
      · exact ih env hm'

structure EnvG (ι : Ren) (n : Nat) (g : Nat → Option Value) (a : Act) : Prop where
  size : a.tmps.size = n
  defers : a.defers = []
  get : ∀ t v, g t = some v → ∃ v', a.tmps[t]? = some v' ∧ VRel ι v v'

/-- The same value but for its one name. -/
def Named (v u : Value) (a b : Nat) : Prop :=
  (v = .pointer (some ⟨a, 0, none⟩) ∧ u = .pointer (some ⟨b, 0, none⟩)) ∨ ∃ len cap, v = .slice (some ⟨a, 0, none⟩) len cap ∧ u = .slice (some ⟨b, 0, none⟩) len cap
/-- Operation i, its turn come when S is done; e: slots that it looks at. N' stands above all names that the region gives; M + i is the name that it gives itself, if any. -/
def Turn (P : Program) (n : Nat) (ops : Array Oper) (vals : List Value) (env : Env) (M N' : Nat) (st : (Nat → Bool) → AHeap) (S : Nat → Bool) (i : Nat) (o : Oper) : Prop :=
  ∃ e : Env, (∀ t v, e.get t = some v → getS ops vals S (List.range ops.size) env t = some v) ∧ dstOk n o.dst = true ∧
  ((wantedA ops e o = some true ∧
    (StepQ P n o e N' (st S) (fun v N1 σ1 => v = vals.getD i undef ∧ N1 = N' ∧ (st (upd S i)).le σ1))) ∨
  (wantedA ops e o = some false ∧ vals.getD i undef = undef ∧ (st (upd S i)).le (st S)) ∨
  (wantedA ops e o = some true ∧
    (StepQ P n o e N' (st S) (fun v N1 σ1 => N1 = N' + 1 ∧ Named v (vals.getD i undef) N' (M + i) ∧ ∃ b, σ1 N' = some b ∧ b.cells.all flat = true ∧ st (upd S i) (M + i) = some b ∧
      ∀ j b', j ≠ M + i → st (upd S i) j = some b' → st S j = some b' ∧ σ1 j = some b'))))

/-- A slot that one operation writes. -/
theorem getS_writer (h : onceB ops = true) {vals : List Value} {S : Nat → Bool} {d x : Nat} (hd : dstOf ops d = some x) : ∀ (l : List Nat), d ∈ l →
    getS ops vals S l env x = if S d = true then some (vals.getD d undef) else env.get x := by
  intro l
  have later : ∀ l' : List Nat, S d ≠ true → getS ops vals S l' env x = env.get x := by
    intro l' hS
    induction l' with
    | nil => rfl
    | cons j l' ih =>
      simp only [getS]
      by_cases hj : dstOf ops j = some x
      · have : j = d := onceB_spec h hj hd
        subst this
        rw [if_pos hj, if_neg hS]; exact ih
      · rw [if_neg hj]; exact ih
  by_cases hS : S d = true
  · rw [if_pos hS]
    induction l with
    | nil => intro hm; cases hm
    | cons j l ih =>
      intro hm
      simp only [getS]
      by_cases hj : dstOf ops j = some x
      · have : j = d := onceB_spec h hj hd
        subst this
        rw [if_pos hj, if_pos hS]
      · rw [if_neg hj]
        rcases List.mem_cons.1 hm with e | hm'
        · subst e; exact absurd hd hj
        · exact ih hm'
  · rw [if_neg hS]; exact fun _ => later l hS
theorem getS_none {vals : List Value} {S : Nat → Bool} {x : Nat} (h : (List.range ops.size).all (fun i => !decide (dstOf ops i = some x)) = true) :
    getS ops vals S (List.range ops.size) env x = env.get x := by
  generalize List.range ops.size = l at h
  induction l with
  | nil => rfl
  | cons j l ih =>
    simp only [List.all_cons, Bool.and_eq_true, Bool.not_eq_true', decide_eq_false_iff_not] at h
    simp only [getS, if_neg h.1]
    exact ih h.2
/-- What is known of the slots. -/
def Knows (ops : Array Oper) (vals : List Value) (env : Env) (S : Nat → Bool) (e : Env) : Prop := ∀ t v, e.get t = some v → getS ops vals S (List.range ops.size) env t = some v
theorem knows_nil {vals : List Value} {S : Nat → Bool} : Knows ops vals env S [] := fun t v h => by cases h
theorem knows_done (h : onceB ops = true) {vals : List Value} {S : Nat → Bool} {e : Env} (d : Nat) {x : Nat} {v : Value} (hd : dstOf ops d = some x) (hlt : d < ops.size) (hS : S d = true) (hv : vals.getD d undef = v) (k : Knows ops vals env S e) : Knows ops vals env S ((x, v) :: e) := by
  intro t u hu
  simp only [Env.get] at hu
  split at hu
  · rename_i e'; subst e'
    cases hu
    rw [getS_writer h hd _ (List.mem_range.2 hlt), if_pos hS, hv]
  · exact k t u hu
theorem knows_old (h : onceB ops = true) {vals : List Value} {S : Nat → Bool} {e : Env} (d : Nat) {x : Nat} {v : Value} (hd : dstOf ops d = some x) (hlt : d < ops.size) (hS : S d = false) (hv : env.get x = some v) (k : Knows ops vals env S e) : Knows ops vals env S ((x, v) :: e) := by
  intro t u hu
  simp only [Env.get] at hu
  split at hu
  · rename_i e'; subst e'
    cases hu
    rw [getS_writer h hd _ (List.mem_range.2 hlt), if_neg (by rw [hS]; simp), hv]
  · exact k t u hu
theorem knows_env {vals : List Value} {S : Nat → Bool} {e : Env} {x : Nat} {v : Value} (hn : (List.range ops.size).all (fun i => !decide (dstOf ops i = some x)) = true) (hv : env.get x = some v) (k : Knows ops vals env S e) : Knows ops vals env S ((x, v) :: e) := by
  intro t u hu
  simp only [Env.get] at hu
  split at hu
  · rename_i e'; subst e'
    cases hu
    rw [getS_none hn, hv]
  · exact k t u hu
theorem turn_pure {vals : List Value} {M N' : Nat} {st : (Nat → Bool) → AHeap} {S : Nat → Bool} {i : Nat} {o : Oper} {e : Env} (hk : Knows ops vals env S e) (hd : dstOk n o.dst = true) (hw : wantedA ops e o = some true)
    (hv : pureOp P e o.op = some (vals.getD i undef)) (hst : st (upd S i) = st S) : Turn P n ops vals env M N' st S i o :=
  ⟨e, hk, hd, .inl ⟨hw, step_value (fun ι a he => pureOp_sound hv he) ⟨rfl, rfl, by rw [hst]; exact AHeap.le_refl _⟩⟩⟩
theorem turn_skip {vals : List Value} {M N' : Nat} {st : (Nat → Bool) → AHeap} {S : Nat → Bool} {i : Nat} {o : Oper} {e : Env} (hk : Knows ops vals env S e) (hd : dstOk n o.dst = true) (hw : wantedA ops e o = some false)
    (hv : vals.getD i undef = undef) (hst : st (upd S i) = st S) : Turn P n ops vals env M N' st S i o :=
  ⟨e, hk, hd, .inr (.inl ⟨hw, hv, by rw [hst]; exact AHeap.le_refl _⟩)⟩
theorem turn_load {vals : List Value} {M N' : Nat} {st : (Nat → Bool) → AHeap} {S : Nat → Bool} {i : Nat} {o : Oper} {e : Env} {t : TypeId} {x : Operand} {id off : Nat} {b : Blk} (hk : Knows ops vals env S e) (hd : dstOk n o.dst = true) (hw : wantedA ops e o = some true)
    (ho : o.op = .load t x) (hx : e.eval x = some (.pointer (some ⟨id, off, none⟩))) (hb : st S id = some b) (hv : loadA P t b off = some (vals.getD i undef)) (hst : st (upd S i) = st S) : Turn P n ops vals env M N' st S i o :=
  ⟨e, hk, hd, .inl ⟨hw, step_load ho hx hb hv ⟨rfl, rfl, by rw [hst]; exact AHeap.le_refl _⟩⟩⟩
theorem turn_store {vals : List Value} {M N' : Nat} {st : (Nat → Bool) → AHeap} {S : Nat → Bool} {i : Nat} {o : Oper} {e : Env} {t : TypeId} {x y : Operand} {id off : Nat} {b : Blk} {v : Value} (hk : Knows ops vals env S e) (hd : dstOk n o.dst = true) (hw : wantedA ops e o = some true)
    (ho : o.op = .store t x y) (hx : e.eval x = some (.pointer (some ⟨id, off, none⟩))) (hy : e.eval y = some v) (hb : st S id = some b) (hown : b.own = true)
    (hsz : sizeA P t = some (spread v).length) (hsc : (spread v).all (·.oneCell') = true) (hfit : off + (spread v).length ≤ b.cells.length) (hv : vals.getD i undef = undef)
    (hst : (st (upd S i)).le ((st S).set id ⟨splice b.cells off (spread v), true, b.esz⟩)) : Turn P n ops vals env M N' st S i o :=
  ⟨e, hk, hd, .inl ⟨hw, step_store ho hx hb hy hown hsz hsc hfit ⟨hv.symm, rfl, hst⟩⟩⟩
theorem turn_gives {vals : List Value} {M N' : Nat} {st : (Nat → Bool) → AHeap} {S : Nat → Bool} {i : Nat} {o : Oper} {e : Env} {args : Array Operand} {argTypes : Array TypeId} {g : FuncId} {vs : List Value} (hk : Knows ops vals env S e) (hd : dstOk n o.dst = true) (hw : wantedA ops e o = some true)
    (ho : o.op = .call { callee := .value (.func g), args, argTypes }) (ha : args.toList.mapM e.eval = some vs) (h : Gives P g vs N' (st S) (vals.getD i undef)) (hc : callableB P g = true)
    (hst : st (upd S i) = st S) : Turn P n ops vals env M N' st S i o :=
  ⟨e, hk, hd, .inl ⟨hw, step_call ho rfl ha hc (by
    have h' : AOk P g (#[].toList ++ vs ++ #[].toList) N' (st S) fun v1 N1 σ1 => v1 = vals.getD i undef ∧ N1 = N' ∧ σ1 = st S := by unfold Gives at h; simpa using h
    exact h'.mono fun v1 N1 σ1 ⟨h1, h2, h3⟩ => ⟨h1, h2, by rw [h3, hst]; exact AHeap.le_refl _⟩)⟩⟩

/-- The new block is known by another name. -/
theorem rename_new {ι ι1 : Ren} {M N' i : Nat} {σ0 σ1 σ2 : AHeap} {w w1 : World} (hr : Rel ι N' σ0 w) (hk : ι (M + i) = none) (hkN : M + i < N') (r1 : Rel ι1 (N' + 1) σ1 w1) (t1 : Tr ι N' σ0 w ι1 (N' + 1) σ1 w1)
    {v u v' : Value} (hn : Named v u N' (M + i)) (hv : VRel ι1 v v') {b : Blk} (hb : σ1 N' = some b) (hflat : b.cells.all flat = true) (hb2 : σ2 (M + i) = some b)
    (hoth : ∀ j b', j ≠ M + i → σ2 j = some b' → σ0 j = some b' ∧ σ1 j = some b') :
    ∃ ι2 : Ren, (∀ j, j < N' → j ≠ M + i → ι2 j = ι j) ∧ Ext ι ι2 ∧ VRel ι2 u v' ∧ Rel ι2 N' σ2 w1 ∧
      (∀ β, Own ι2 σ2 β → Own ι σ0 β ∨ w.heap.size ≤ β) := by
  refine ⟨fun j => if j = M + i then ι1 N' else if j < N' then ι1 j else none, ?_, ?_, ?_, ?_, ?_⟩
  · intro j hj hne
    simp only [hne, if_false, hj, if_true]
    exact t1.old j hj
  · intro j L hj
    have hjN : j < N' := by
      rcases Nat.lt_or_ge j N' with h | h
      · exact h
      · rw [hr.dom j h] at hj; cases hj
    have hne : j ≠ M + i := by rintro rfl; rw [hk] at hj; cases hj
    simp only [hne, if_false, hjN, if_true]
    exact t1.ext j L hj
  · rcases hn with ⟨rfl, rfl⟩ | ⟨len, cap, rfl, rfl⟩
    · cases hv with
      | ptr h => exact .ptr (by simpa using h)
    · cases hv with
      | slice h1 h2 h3 h4 h5 => exact .slice (by simpa using h1) h2 h3 h4 h5
  · have hext : Ext ι (fun j => if j = M + i then ι1 N' else if j < N' then ι1 j else none) := by
      intro j L hj
      have hjN : j < N' := by
        rcases Nat.lt_or_ge j N' with h | h
        · exact h
        · rw [hr.dom j h] at hj; cases hj
      have hne : j ≠ M + i := by rintro rfl; rw [hk] at hj; cases hj
      simp only [hne, if_false, hjN, if_true]
      exact t1.ext j L hj
    obtain ⟨L, hL, hbr⟩ := r1.blk N' b hb
    refine ⟨fun j hj => ?_, fun j b' hj => ?_, fun j1 j2 b1 b2 L1 L2 hne h1 h2 hl1 hl2 ho => ?_⟩
    · have : j ≠ M + i := by omega
      simp only [this, if_false]
      rw [if_neg (by omega)]
    · by_cases e : j = M + i
      · subst e
        rw [hb2] at hj; cases hj
        refine ⟨L, by simpa using hL, hbr.esz, ?_⟩
        obtain ⟨c, e, fz, q1, q2, q3, q4, q5⟩ := hbr.ex
        refine ⟨c, e, fz, q1, q2, q3, q4, fun k x hx => ?_⟩
        obtain ⟨x', s1, s2⟩ := q5 k x hx
        have hf : flat x = true := List.all_eq_true.1 hflat x (List.mem_of_getElem? hx)
        have := (flat_iff hf).1 s2
        subst this
        exact ⟨x', s1, .of_flat hf⟩
      · obtain ⟨g0, g1⟩ := hoth j b' e hj
        obtain ⟨L0, f1, f2⟩ := hr.blk j b' g0
        obtain ⟨L1, f3, f4⟩ := r1.blk j b' g1
        rw [t1.ext _ _ f1] at f3; cases f3
        have hjN := hr.lt g0
        refine ⟨L0, by simp only [e, if_false, hjN, if_true]; exact t1.ext _ _ f1, f4.esz, ?_⟩
        obtain ⟨c0, e0, fz0, p1, p2, p3, p4, p5⟩ := f2.ex
        obtain ⟨c, e', fz, q1, q2, q3, q4, q5⟩ := f4.ex
        refine ⟨c, e', fz, q1, q2, q3, q4, fun k x hx => ?_⟩
        obtain ⟨x', s1, s2⟩ := q5 k x hx
        obtain ⟨x0, s3, s4⟩ := p5 k x hx
        exact ⟨x', s1, s4.back hext t1.ext s2⟩
    · have look : ∀ j b' L', σ2 j = some b' → (if j = M + i then ι1 N' else if j < N' then ι1 j else none) = some L' →
          ∃ j', (j' = if j = M + i then N' else j) ∧ σ1 j' = some b' ∧ ι1 j' = some L' := by
        intro j b' L' hj hl
        by_cases e : j = M + i
        · subst e
          rw [hb2] at hj; cases hj
          exact ⟨N', by simp, hb, by simpa using hl⟩
        · obtain ⟨g0, g1⟩ := hoth j b' e hj
          have hjN := hr.lt g0
          simp only [e, if_false, hjN, if_true] at hl
          exact ⟨j, by simp [e], g1, hl⟩
      obtain ⟨k1, e1, a1, c1⟩ := look j1 b1 L1 h1 hl1
      obtain ⟨k2, e2, a2, c2⟩ := look j2 b2 L2 h2 hl2
      refine r1.inj k1 k2 b1 b2 L1 L2 ?_ a1 a2 c1 c2 ho
      intro heq
      rw [e1, e2] at heq
      by_cases d1 : j1 = M + i
      · by_cases d2 : j2 = M + i
        · exact hne (d1.trans d2.symm)
        · rw [if_pos d1, if_neg d2] at heq
          have := hr.lt (hoth j2 b2 d2 h2).1
          omega
      · by_cases d2 : j2 = M + i
        · rw [if_neg d1, if_pos d2] at heq
          have := hr.lt (hoth j1 b1 d1 h1).1
          omega
        · rw [if_neg d1, if_neg d2] at heq
          exact hne heq
  · rintro β ⟨j, b', L', h1, h2, h3, h4⟩
    by_cases e : j = M + i
    · subst e
      rw [hb2] at h1; cases h1
      exact t1.own β ⟨N', b, L', hb, h2, by simpa using h3, h4⟩
    · obtain ⟨g0, g1⟩ := hoth j b' e h1
      have hjN := hr.lt g0
      simp only [e, if_false, hjN, if_true] at h3
      exact t1.own β ⟨j, b', L', g1, h2, h3, h4⟩

theorem draw_any {vals : List Value} {M N' : Nat} {st : (Nat → Bool) → AHeap} {Q : Exit → Act → World → Prop} {ι0 : Ren} {w0 : World}
    (honce : onceB ops = true) (hMN : N ≤ M) (hM : N' = M + ops.size) (hback : ∀ i, i < ops.size → ∀ j ∈ deps ops i, j < i)
    (hturn : ∀ (i : Nat) (o : Oper) (S : Nat → Bool), ops[i]? = some o → S i = false → (∀ j ∈ deps ops i, S j = true) → (∀ j k, k ∈ deps ops j → S j = true → S k = true) →
      Turn P n ops vals env M N' st S i o)
    (hext : ∀ S S' : Nat → Bool, (∀ i, i < ops.size → S i = S' i) → st S = st S')
    (hq : ∀ a w ι, EnvG ι n (getS ops vals (fun _ => true) (List.range ops.size) env) a → Rel ι N' (st fun _ => true) w → Tr ι0 N σ w0 ι N' (st fun _ => true) w → Q .normal a w) :
    ∀ (fuel : Nat) (listed : Array Bool) (a : Act) (w : World) (ι : Ren), listed.size = ops.size → listed.toList.countP (!·) = fuel →
      (∀ j k, k ∈ deps ops j → listed.getD j false = true → listed.getD k false = true) →
      EnvG ι n (getS ops vals (fun j => listed.getD j false) (List.range ops.size) env) a → Rel ι N' (st fun j => listed.getD j false) w → Tr ι0 N σ w0 ι N' (st fun j => listed.getD j false) w → (∀ i, i < ops.size → listed.getD i false = false → ι (M + i) = none) →
      wpAny P .any ops Q fuel listed a w := by
  have hall : ∀ (listed : Array Bool), listed.size = ops.size → Region.ready .any ops listed = [] → ∀ i, i < ops.size → listed.getD i false = true := by
    intro listed hs h0 i
    induction i using Nat.strongRecOn with
    | _ i ih =>
      intro hi
      cases hl : listed.getD i false with
      | true => rfl
      | false =>
        have hm : i ∈ Region.ready .any ops listed := by
          refine mem_ready.2 ⟨by simp [hs, hi] at hl ⊢; exact hl, ops[i], Array.getElem?_eq_getElem hi, fun e he hb => ?_⟩
          have hd : e.on ∈ deps ops i := by
            unfold deps
            simp only [Array.getElem?_eq_getElem hi, List.mem_filterMap]
            exact ⟨e, Array.mem_toList_iff.2 he, by simp [hb]⟩
          have := hback i hi e.on hd
          exact ih e.on this (by omega)
        rw [h0] at hm; cases hm
  have getS_ext : ∀ (S S' : Nat → Bool), (∀ i, i < ops.size → S i = S' i) → ∀ (l : List Nat) (x : Nat), (∀ i ∈ l, i < ops.size) → getS ops vals S l env x = getS ops vals S' l env x := by
    intro S S' h l x
    induction l with
    | nil => intro _; rfl
    | cons j l ih =>
      intro hm
      simp only [getS, h j (hm j (by simp)), ih (fun i hi => hm i (by simp [hi]))]
  have done : ∀ (listed : Array Bool) (a : Act) (w : World) (ι : Ren), (∀ i, i < ops.size → listed.getD i false = true) →
      EnvG ι n (getS ops vals (fun j => listed.getD j false) (List.range ops.size) env) a → Rel ι N' (st fun j => listed.getD j false) w → Tr ι0 N σ w0 ι N' (st fun j => listed.getD j false) w → Q .normal a w := by
    intro listed a w ι hl he hr ht
    have e1 : st (fun j => listed.getD j false) = st (fun _ => true) := hext _ _ fun i hi => hl i hi
    rw [e1] at hr ht
    refine hq a w ι ⟨he.size, he.defers, fun t v hv => he.get t v ?_⟩ hr ht
    rw [← hv]
    exact getS_ext _ _ (fun i hi => hl i hi) _ _ (fun i hi => List.mem_range.1 hi)
  intro fuel
  induction fuel with
  | zero =>
    intro listed a w ι hs hc hcl he hr ht _
    have hl : ∀ i, i < ops.size → listed.getD i false = true := by
      intro i hi
      have hi' : i < listed.size := by omega
      rw [List.countP_eq_zero] at hc
      have := hc listed[i] (by simp)
      simpa [hi'] using this
    refine ⟨?_, done listed a w ι hl he hr ht⟩
    cases hre : Region.ready .any ops listed with
    | nil => rfl
    | cons i rest =>
      have hm : i ∈ Region.ready .any ops listed := by rw [hre]; simp
      obtain ⟨h1, o, h2, _⟩ := mem_ready.1 hm
      have hi : i < ops.size := (Array.getElem?_eq_some_iff.1 h2).1
      have := hl i hi
      have hi' : i < listed.size := by omega
      simp [hi'] at h1 this
      rw [h1] at this; cases this
  | succ fuel ih =>
    intro listed a w ι hs hc hcl he hr ht hh
    refine ⟨fun h0 => done listed a w ι (hall listed hs h0) he hr ht, fun i hi => ?_⟩
    obtain ⟨hun, o, ho, hedge⟩ := mem_ready.1 hi
    have hio : i < ops.size := (Array.getElem?_eq_some_iff.1 ho).1
    have hil : i < listed.size := by omega
    have hun' : listed.getD i false = false := by simp [hil] at hun ⊢; exact hun
    have hd : ∀ j ∈ deps ops i, listed.getD j false = true := by
      intro j hj
      unfold deps at hj
      rw [ho] at hj
      simp only [List.mem_filterMap] at hj
      obtain ⟨e, he, hb⟩ := hj
      split at hb
      · rename_i hb'; cases hb; exact hedge e (Array.mem_toList_iff.1 he) hb'
      · cases hb
    have hT := hturn i o (fun j => listed.getD j false) ho hun' hd hcl
    -- the state behind
    have hnew : (fun j => (listed.setIfInBounds i true).getD j false) = upd (fun j => listed.getD j false) i := by
      funext j
      unfold upd
      by_cases hj : j = i
      · subst hj; simp [hil]
      · rw [if_neg hj]; exact getD_set_ne false (Ne.symm hj)
    have hcount : (listed.setIfInBounds i true).toList.countP (!·) = fuel := by
      rw [Array.toList_setIfInBounds, List.countP_set (by simpa using hil), hc]
      have : listed.toList[i]'(by simpa using hil) = false := by simpa [hil] using hun
      simp [this]
    have hclosed : ∀ j k, k ∈ deps ops j → (listed.setIfInBounds i true).getD j false = true → (listed.setIfInBounds i true).getD k false = true := by
      intro j k hk hj
      by_cases hji : j = i
      · subst hji; exact getD_set_true (hd k hk)
      · rw [getD_set_ne false (Ne.symm hji)] at hj
        exact getD_set_true (hcl j k hk hj)
    have hsize : (listed.setIfInBounds i true).size = ops.size := by simp [hs]
    have hput : ∀ (ι' : Ren) (v' : Value), Ext ι ι' → VRel ι' (vals.getD i undef) v' → dstOk n o.dst = true →
        EnvG ι' n (getS ops vals (upd (fun j => listed.getD j false) i) (List.range ops.size) env) (a.put o.dst v') := by
      intro ι' v' hx hv hdok
      have hdst : dstOf ops i = o.dst := by simp [dstOf, ho]
      cases hdd : o.dst with
      | none =>
        refine ⟨he.size, he.defers, fun t u hu => ?_⟩
        rw [getS_upd honce vals _ i t _ env (List.mem_range.2 hio), hdst, hdd, if_neg (by simp)] at hu
        obtain ⟨u', h1, h2⟩ := he.get t u hu
        exact ⟨u', h1, h2.mono hx⟩
      | some d =>
        have hdn := dstOk_spec hdok d hdd
        refine ⟨by simp [Act.put, he.size], he.defers, fun t u hu => ?_⟩
        rw [getS_upd honce vals _ i t _ env (List.mem_range.2 hio), hdst, hdd] at hu
        by_cases e : d = t
        · subst e
          rw [if_pos rfl] at hu; cases hu
          exact ⟨v', by simp [Act.put, he.size, hdn], hv⟩
        · rw [if_neg (by simpa using e)] at hu
          obtain ⟨u', h1, h2⟩ := he.get t u hu
          exact ⟨u', by simp [Act.put, e, h1], h2.mono hx⟩
    unfold wpOp
    simp only [ho]
    have hholes : ∀ ι' : Ren, (∀ j, j < N' → j ≠ M + i → ι' j = ι j) → ∀ k, k < ops.size → (listed.setIfInBounds i true).getD k false = false → ι' (M + k) = none := by
      intro ι' h k hk hkf
      have hki : k ≠ i := by
        rintro rfl
        simp [hil] at hkf
      rw [getD_set_ne false (Ne.symm hki)] at hkf
      rw [h (M + k) (by omega) (by omega)]
      exact hh k hk hkf
    obtain ⟨e, hke, hdok, hT⟩ := hT
    have henv : EnvRel ι n e a := ⟨he.size, he.defers, fun t v hv => he.get t v (hke t v hv)⟩
    rcases hT with ⟨hw, hstep⟩ | ⟨hw, hval, hle⟩ | ⟨hw, hstep⟩
    · rw [if_pos (wantedA_eq hw henv)]
      refine .inl (hstep ι w a _ Q henv hr fun ι1 w1 v v' N1 σ1 ⟨hv, hN, hsl⟩ hvr r1 t1 => ?_)
      subst hN; subst hv
      refine ih _ _ w1 ι1 hsize hcount hclosed ?_ ?_ ?_ (hholes ι1 fun j hj _ => t1.old j hj)
      · rw [hnew]; exact hput ι1 v' t1.ext hvr hdok
      · rw [hnew]; exact r1.forget hsl
      · rw [hnew]; exact ht.trans (t1.forget hsl)
    · rw [if_neg (by rw [wantedA_eq hw henv]; simp)]
      refine ih _ _ w ι hsize hcount hclosed ?_ ?_ ?_ (hholes ι fun j _ _ => rfl)
      · rw [hnew]; exact hput ι undef (Ext.refl _) (by rw [hval]; exact .of_flat rfl) hdok
      · rw [hnew]; exact hr.forget hle
      · rw [hnew]; exact ht.forget hle
    · rw [if_pos (wantedA_eq hw henv)]
      refine .inl (hstep ι w a _ Q henv hr fun ι1 w1 v v' N1 σ1 ⟨hN, hnm, b, hb, hflat, hb2, hoth⟩ hvr r1 t1 => ?_)
      subst hN
      obtain ⟨ι2, g1, g2, g3, g4, g5⟩ := rename_new hr (hh i hio hun') (by omega) r1 t1 hnm hvr hb hflat hb2 hoth
      refine ih _ _ w1 ι2 hsize hcount hclosed ?_ ?_ ?_ (hholes ι2 g1)
      · rw [hnew]; exact hput ι2 v' g2 g3 hdok
      · rw [hnew]; exact g4
      · rw [hnew]
        refine ⟨ht.ext.trans g2, fun j hj => (g1 j (by omega) (by omega)).trans (ht.old j hj), ht.le, t1.os.trans ht.os, t1.tape.trans ht.tape, t1.output.trans ht.output, Nat.le_trans ht.size t1.size, fun β hβ hno => ?_, fun β ho => ?_⟩
        · rw [t1.frame β (Nat.lt_of_lt_of_le hβ ht.size) (fun ho => ?_), ht.frame β hβ hno]
          rcases ht.own β ho with h1 | h1
          · exact hno h1
          · omega
        · rcases g5 β ho with h1 | h1
          · exact ht.own β h1
          · exact .inr (Nat.le_trans ht.size h1)

/-- A region that draws its order. -/
theorem awp_draw {id : Nat} {l : List Oper} {K : Exit → Env → Nat → AHeap → Prop} (e' : Env) (vals : List Value) (st : (Nat → Bool) → AHeap)
    (hm : P.follows .mixedOrders = true) (honce : onceB l.toArray = true) (hback : (List.range l.length).all (fun i => (deps l.toArray i).all (· < i)) = true)
    (hst0 : (st fun _ => false).le σ)
    (hext : ∀ S S' : Nat → Bool, (∀ i, i < l.length → S i = S' i) → st S = st S')
    (hturn : ∀ (i : Nat) (o : Oper) (S : Nat → Bool), l.toArray[i]? = some o → S i = false → (∀ j ∈ deps l.toArray i, S j = true) → (∀ j k, k ∈ deps l.toArray j → S j = true → S k = true) → onceB l.toArray = true →
      Turn P n l.toArray vals env N (N + l.length) st S i o)
    (hend : onceB l.toArray = true → Knows l.toArray vals env (fun _ => true) e') (hk : K .normal e' (N + l.length) (st fun _ => true)) :
    AWp P n (.region id l.toArray true) env N σ K := by
  intro ι w a Q he hr hq
  refine wp_region_any hm ?_
  have hcnt : (Array.replicate l.toArray.size false).toList.countP (!·) = l.toArray.size := by
    simp [List.countP_replicate]
  have hrep : ∀ j, (Array.replicate l.toArray.size false).getD j false = false := fun j => by
    rcases Nat.lt_or_ge j l.toArray.size with h | h
    · simp at h; simp [h]
    · simp at h; simp [h]
  have hS : (fun j => (Array.replicate l.toArray.size false).getD j false) = fun _ => false := funext hrep
  refine draw_any (N := N) (σ := σ) (M := N) (N' := N + l.length) (st := st) (vals := vals) (env := env) (n := n) (ι0 := ι) (w0 := w) honce (Nat.le_refl _) (by simp) ?_ (fun i o S h1 h2 h3 h4 => hturn i o S h1 h2 h3 h4 honce) (fun S S' h => hext S S' fun i hi => h i (by simpa using hi)) ?_ _ _ a _ ι (by simp) hcnt ?_ ?_ ?_ ?_ ?_
  · intro i hi j hj
    rw [List.all_eq_true] at hback
    have h1 := hback i (List.mem_range.2 (by simpa using hi))
    rw [List.all_eq_true] at h1
    simpa using h1 j hj
  · intro a1 w1 ι1 e1 r1 t1
    refine hq _ ι1 w1 a1 _ (N + l.length) _ hk ⟨e1.size, e1.defers, fun t v hv => e1.get t v ?_⟩ r1 t1
    exact hend honce t v hv
  · intro j k _ hj; rw [hrep] at hj; cases hj
  · rw [hS]
    refine ⟨he.size, he.defers, fun t v hv => ?_⟩
    have : ∀ (l' : List Nat), getS l.toArray vals (fun _ => false) l' env t = env.get t := by
      intro l'
      induction l' with
      | nil => rfl
      | cons k l' ih => simp only [getS, Bool.false_eq_true, if_false, ih, ite_self]
    rw [this] at hv
    exact he.get t v hv
  · rw [hS]
    have h1 := (hr.drawn (w.drawn + 1)).forget hst0
    exact ⟨fun i hi => h1.dom i (by omega), h1.blk, h1.inj⟩
  · rw [hS]
    have h1 := (Tr.drawn ι N σ w (w.drawn + 1)).forget hst0
    exact ⟨h1.ext, h1.old, by omega, h1.os, h1.tape, h1.output, h1.size, h1.frame, h1.own⟩
  · exact fun i hi _ => hr.dom (N + i) (by omega)
end
end Go.Abs
