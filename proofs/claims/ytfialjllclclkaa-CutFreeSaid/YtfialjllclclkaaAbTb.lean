/- Abstract states over the machine: the steps of a region that draws its order, as a proof takes them. -/
import Derived.Test.YtfialjllclclkaaAbCls
import Derived.Test.YtfialjllclclkaaAbPush
namespace Go.Abs
section
variable {r : Bool} {P : Program} {n : Nat} {env : Env} {N : Nat} {σ : AHeap} {ops : Array Oper} {N0 : Nat} {Wt : Nat → Nat → Prop} {M : List Nat} {Nf : Nat → Nat} {K : Env → AHeap → Prop}

def TB (P : Program) (n : Nat) (ops : Array Oper) (N0 : Nat) (Wt : Nat → Nat → Prop) (M : List Nat) (Nf : Nat → Nat) (K : Env → AHeap → Prop) : Nat → List Oper → Env → AHeap → Prop
  | _, [], env, σ => K env σ
  | i, o :: l, env, σ => ∃ (v : Value) (σ1 : AHeap) (c : Cls) (T W : Nat → Prop), OneStep P n ops N0 Wt M Nf i o env σ v σ1 c T W ∧ TB P n ops N0 Wt M Nf K (i + 1) l (env.put o.dst v) σ1

def puts : List Oper → List Value → Env → Nat → Env
  | _, _, env, 0 => env
  | o :: l, v :: vs, env, k + 1 => puts l vs (env.put o.dst v) k
  | _, _, env, _ + 1 => env
theorem puts_succ : ∀ (k : Nat) (l : List Oper) (vs : List Value) (env : Env) (o : Oper) (v : Value), l[k]? = some o → vs[k]? = some v → puts l vs env (k + 1) = (puts l vs env k).put o.dst v := by
  intro k
  induction k with
  | zero =>
    intro l vs env o v ho hv
    cases l with
    | nil => simp at ho
    | cons o' l =>
      cases vs with
      | nil => simp at hv
      | cons v' vs =>
        simp at ho hv; subst ho; subst hv
        simp only [puts]
  | succ k ih =>
    intro l vs env o v ho hv
    cases l with
    | nil => simp at ho
    | cons o' l =>
      cases vs with
      | nil => simp at hv
      | cons v' vs =>
        simp only [List.getElem?_cons_succ] at ho hv
        have := ih l vs (env.put o'.dst v') o v ho hv
        rw [show puts (o' :: l) (v' :: vs) env (k + 1 + 1) = puts l vs (env.put o'.dst v') (k + 1) from rfl, this]
        rfl
theorem putAll_puts (l : List Oper) (vs : List Value) (env : Env) (hl : vs.length = l.length) : ∀ k, k ≤ l.length → putAll l.toArray vs env k = puts l vs env k := by
  intro k
  induction k with
  | zero => intro _; cases l <;> cases vs <;> rfl
  | succ k ih =>
    intro hk
    have h1 : l[k]? = some l[k] := List.getElem?_eq_getElem (by omega)
    have h2 : vs[k]? = some vs[k] := List.getElem?_eq_getElem (by omega)
    rw [puts_succ k l vs env _ _ h1 h2, ← ih (by omega)]
    have h3 : dstOf l.toArray k = l[k].dst := by simp [dstOf, h1]
    have h4 : vs.getD k undef = vs[k] := by simp [List.getD_eq_getElem?_getD, h2]
    rw [putAll, h3, h4]

theorem tb_extract : ∀ (l : List Oper) (i : Nat) (env : Env) (σ : AHeap), TB P n ops N0 Wt M Nf K i l env σ →
    ∃ (vs : List Value) (σf : Nat → AHeap) (cls : Nat → Cls) (Tf Wf : Nat → Nat → Prop), vs.length = l.length ∧ σf 0 = σ ∧
      (∀ k o, l[k]? = some o → OneStep P n ops N0 Wt M Nf (i + k) o (puts l vs env k) (σf k) (vs.getD k undef) (σf (k + 1)) (cls k) (Tf k) (Wf k)) ∧ K (puts l vs env l.length) (σf l.length)
  | [], i, env, σ, h => ⟨[], fun _ => σ, fun _ => .reads, fun _ _ => False, fun _ _ => False, rfl, rfl, fun k o ho => by simp at ho, h⟩
  | o :: l, i, env, σ, ⟨v, σ1, c, T, W, h, hr⟩ => by
    obtain ⟨vs, σf, cls, Tf, Wf, h1, h2, h3, h4⟩ := tb_extract l (i + 1) _ σ1 hr
    refine ⟨v :: vs, fun k => match k with | 0 => σ | k + 1 => σf k, fun k => match k with | 0 => c | k + 1 => cls k, fun k => match k with | 0 => T | k + 1 => Tf k, fun k => match k with | 0 => W | k + 1 => Wf k, by simp [h1], rfl, fun k o' ho => ?_, ?_⟩
    · cases k with
      | zero =>
        simp at ho; subst ho
        simp only [Nat.add_zero, List.getD_cons_zero, h2]
        exact h
      | succ k =>
        simp only [List.getElem?_cons_succ] at ho
        have := h3 k o' ho
        rw [show i + (k + 1) = i + 1 + k from by omega]
        simpa only [List.getD_cons_succ, puts] using this
    · simpa only [List.length_cons, puts] using h4

theorem awp_tb {id : Nat} {l : List Oper} {K : Exit → Env → Nat → AHeap → Prop} (Wt : Nat → Nat → Prop) (M : List Nat) (Nf : Nat → Nat) (hst : drawnB P l M = true) (hN0 : Nf 0 = N)
    (h : TB P n l.toArray N Wt M Nf (fun e s => K .normal e (Nf l.length) s) 0 l env σ) : AWp r P n (.region id l.toArray true) env N σ K := by
  obtain ⟨vs, σf, cls, Tf, Wf, h1, h2, h3, h4⟩ := tb_extract l 0 env σ h
  refine awp_cls vs Nf σf cls Tf Wf Wt M hst hN0 h2 (fun i o ho => ?_) ?_
  · have hi : i < l.length := by have := (Array.getElem?_eq_some_iff.1 ho).1; simpa using this
    rw [putAll_puts l vs env h1 i (by omega)]
    have := h3 i o (by simpa using ho)
    rwa [Nat.zero_add] at this
  · rw [putAll_puts l vs env h1 _ (Nat.le_refl _)]
    exact h4

theorem tb_end {i : Nat} (h : K env σ) : TB P n ops N0 Wt M Nf K i [] env σ := h
theorem tb_skip {i : Nat} {o : Oper} {l : List Oper} (hd : dstOk n o.dst = true) (hw : wantedA ops env o = some false) (hN : Nf (i + 1) = Nf i)
    (k : TB P n ops N0 Wt M Nf K (i + 1) l (env.put o.dst undef) σ) : TB P n ops N0 Wt M Nf K i (o :: l) env σ :=
  ⟨undef, σ, .reads, fun _ => False, fun _ => False, ⟨hd, .inl ⟨hw, rfl, hN, rfl, rfl⟩⟩, k⟩
theorem tb_read {i : Nat} {o : Oper} {l : List Oper} {v : Value} (hd : dstOk n o.dst = true) (hw : wantedA ops env o = some true) (hN : Nf (i + 1) = Nf i)
    (T : Nat → Prop) (hT : ∀ j, T j → Calm ops N0 Wt i j) (h : ∀ m, StepQ P n o (env.keep (slotsOf ops o)) m (viewOf T (fun _ => False) σ) (fun v1 N1 _ => v1 = v ∧ N1 = m))
    (k : TB P n ops N0 Wt M Nf K (i + 1) l (env.put o.dst v) σ) : TB P n ops N0 Wt M Nf K i (o :: l) env σ :=
  ⟨v, σ, .reads, T, fun _ => False, ⟨hd, .inr (.inl ⟨hw, rfl, hN, rfl, hT, h⟩)⟩, k⟩
theorem tb_pure {i : Nat} {o : Oper} {l : List Oper} {env' : Env} (h : pureStep P n ops env o = some env') (hN : Nf (i + 1) = Nf i)
    (k : TB P n ops N0 Wt M Nf K (i + 1) l env' σ) : TB P n ops N0 Wt M Nf K i (o :: l) env σ := by
  unfold pureStep at h
  split at h
  · rename_i hd
    split at h
    · rename_i hw
      simp only [Option.map_eq_some_iff] at h
      obtain ⟨v, hv, rfl⟩ := h
      have hv' : pureOp P (env.keep (slotsOf ops o)).eval o.op = some v := pureOp_mono hv fun x hx u hu => eval_keep hx hu
      exact tb_read hd hw hN (fun _ => False) (fun _ h => h.elim) (fun m => step_value (pureOp_plain hv') (fun ι a he => pureOp_sound hv' he) ⟨rfl, rfl⟩) k
    · rename_i hw
      cases h
      exact tb_skip hd hw hN k
    · cases h
  · cases h
theorem tb_pures : ∀ (k i : Nat) {l : List Oper} {env env' : Env}, pureSteps P n ops (l.take k) env = some env' → (∀ j, j < k → Nf (i + j + 1) = Nf (i + j)) → TB P n ops N0 Wt M Nf K (i + k) (l.drop k) env' σ → TB P n ops N0 Wt M Nf K i l env σ
  | 0, i, l, env, env', h, _, hk => by simp only [List.take_zero, pureSteps, Option.some.injEq] at h; subst h; exact hk
  | k + 1, i, [], env, env', h, _, hk => by simp only [List.take_nil, pureSteps, Option.some.injEq] at h; subst h; exact hk
  | k + 1, i, o :: l, env, env', h, hN, hk => by
    simp only [List.take_succ_cons, pureSteps, Option.bind_eq_some_iff] at h
    obtain ⟨e1, h1, h2⟩ := h
    refine tb_pure h1 (hN 0 (by omega)) (tb_pures k (i + 1) h2 (fun j hj => ?_) (by rw [show i + 1 + k = i + (k + 1) from by omega]; exact hk))
    have := hN (j + 1) (by omega)
    rwa [show i + (j + 1) = i + 1 + j from by omega] at this
theorem tb_load {i : Nat} {o : Oper} {l : List Oper} {t : TypeId} {x : Operand} {id off : Nat} {b : Blk} {v : Value} (hd : dstOk n o.dst = true) (hw : wantedA ops env o = some true) (ho : o.op = .load t x)
    (hx : env.eval x = some (.pointer (some ⟨id, off, none⟩))) (hb : σ id = some b) (hrow : b.row) (hold : Calm ops N0 Wt i id) (hv : loadA P t b off = some v) (hN : Nf (i + 1) = Nf i)
    (k : TB P n ops N0 Wt M Nf K (i + 1) l (env.put o.dst v) σ) : TB P n ops N0 Wt M Nf K i (o :: l) env σ := by
  obtain ⟨b', h1, h2, h3, _⟩ := viewOf_get (T := Calm ops N0 Wt i) (W := fun _ => False) hold hb (.inl hrow)
  have hv' : loadA P t b' off = some v := by
    simp only [loadA, cellsA, h2] at hv ⊢
    exact hv
  have hx' : (env.keep (slotsOf ops o)).eval x = some (.pointer (some ⟨id, off, none⟩)) := eval_keep (by rw [ho]; simp [Op.operands]) hx
  exact tb_read hd hw hN (Calm ops N0 Wt i) (fun _ h => h) (fun m => step_load ho hx' h1 hv' ⟨rfl, rfl⟩) k
theorem tb_gives {i : Nat} {o : Oper} {l : List Oper} {args : Array Operand} {argTypes : Array TypeId} {g : FuncId} {vs : List Value} {v : Value}
    (ho : o.op = .call { callee := .value (.func g), args, argTypes }) (ha : args.toList.mapM env.eval = some vs)
    (h : ∀ m, Gives P g vs m (viewOf (Calm ops N0 Wt i) (fun _ => False) σ) v) (hc : callableB P g = true) (hd : dstOk n o.dst = true) (hw : wantedA ops env o = some true) (hN : Nf (i + 1) = Nf i)
    (k : TB P n ops N0 Wt M Nf K (i + 1) l (env.put o.dst v) σ) : TB P n ops N0 Wt M Nf K i (o :: l) env σ := by
  have ha' : args.toList.mapM (env.keep (slotsOf ops o)).eval = some vs := mapM_congr_some _ _ ha fun x hx u hu => eval_keep (by rw [ho]; simp [Op.operands, Call.operands] at hx ⊢; exact .inr hx) hu
  refine tb_read hd hw hN (Calm ops N0 Wt i) (fun _ h => h) (fun m => step_call ho rfl ha' hc ?_) k
  have h' : AOk P g (#[].toList ++ vs ++ #[].toList) m (viewOf (Calm ops N0 Wt i) (fun _ => False) σ) fun v1 N1 σ1 => v1 = v ∧ N1 = m ∧ σ1 = viewOf (Calm ops N0 Wt i) (fun _ => False) σ := by
    have := h m
    unfold Gives at this; simpa using this
  exact h'.mono fun v1 N1 σ1 ⟨h1, h2, _⟩ => ⟨h1, h2⟩
/-- A block is made. -/
theorem tb_make {i : Nat} {o : Oper} {l : List Oper} {v : Value} {b : Blk} (hd : dstOk n o.dst = true) (hw : wantedA ops env o = some true) (hN : Nf (i + 1) = Nf i + 1)
    (hbe : ∀ t v, (env.keep (slotsOf ops o)).get t = some v → Bdd (Nf i) v) (hown : b.own = true)
    (h : ∀ e : Env, e = env.keep (slotsOf ops o) → StepQ P n o e (Nf i) (fun _ => none) (fun v1 N1 σ2 => v1 = v ∧ N1 = Nf i + 1 ∧ σ2 (Nf i) = some b))
    (k : TB P n ops N0 Wt M Nf K (i + 1) l (env.put o.dst v) (σ.set (Nf i) b)) : TB P n ops N0 Wt M Nf K i (o :: l) env σ := by
  refine ⟨v, σ.set (Nf i) b, .makes, fun _ => False, fun _ => False, ⟨hd, .inr (.inr (.inl ⟨hw, rfl, by omega, hbe, fun j hj => AHeap.set_ne _ _ (by omega), ?_⟩))⟩, k⟩
  refine (h _ rfl).mono fun v1 N1 σ2 ⟨h1, h2, h3⟩ => ⟨h1, by omega, fun j b' hj1 hj2 hb' => ?_⟩
  have : j = Nf i := by omega
  subst this
  rw [AHeap.set_self] at hb'; cases hb'
  exact ⟨h3, hown⟩
theorem bdd_keep {ks : List Nat} {m : Nat} (h : ∀ t v, env.get t = some v → t ∈ ks → Bdd m v) : ∀ t v, (env.keep ks).get t = some v → Bdd m v :=
  fun t v hv => h t v (Env.keep_get env ks t v hv) (keep_get_mem env ks t v hv)
/-- A row of one element. -/
theorem tb_one {i : Nat} {o : Oper} {l : List Oper} {t e : TypeId} {x : Operand} {z v : Value} {bytes : Nat} (ho : o.op = .buildSlice t 1 #[(0, x)]) (hw : wantedA ops env o = some true) (hd : dstOk n o.dst = true)
    (ht : P.underlying t = some (.slice e)) (hT : TyI P e z 1 bytes) (hz : spread z = [z]) (hzf : flat z = true) (hx : env.eval x = some v) (hv : spread v = [v]) (hN : Nf (i + 1) = Nf i + 1)
    (hbe : ∀ t v, (env.keep (slotsOf ops o)).get t = some v → Bdd (Nf i) v)
    (k : TB P n ops N0 Wt M Nf K (i + 1) l (env.put o.dst (.slice (some ⟨Nf i, 0, none⟩) 1 1)) (σ.set (Nf i) ⟨[v], true, 1⟩)) : TB P n ops N0 Wt M Nf K i (o :: l) env σ := by
  obtain ⟨inf, h1, h2, h3, h4⟩ := hT.ex
  refine tb_make hd hw hN hbe rfl (fun e' he => ?_) k
  subst he
  have hx' : (env.keep (slotsOf ops o)).eval x = some v := eval_keep (by rw [ho]; simp [Op.operands]) hx
  have hr : fillA (fun i => some (i * inf.size, inf.size)) (zerosA (spread z) (1 * inf.size)) [(0, v)] = some [v] := by
    simp [fillA, zerosA, hz, hv, splice, h3]
  exact step_buildSlice ho ht h1 h2 (by rw [hz]; simp [hzf]) (by rw [hz, h3]; rfl) (by rw [h3]; decide) (by rw [h3]; decide) (by simp [hx']) hr (by rw [h3]; simp) ⟨rfl, rfl, by rw [AHeap.set_self, h3]; rfl⟩

def rootOf (s : Value) (j : Nat) : Prop := ∃ off len cap, s = .slice (some ⟨j, off, none⟩) len cap
/-- One element is appended to an own row. -/
theorem tb_push {i : Nat} {o : Oper} {l : List Oper} {t e : TypeId} {x y : Operand} {z s v : Value} {bytes lo c u : Nat} {olds : List Value}
    (ho : o.op = .call { callee := .builtin .append, args := #[y, x], argTypes := #[t, t] }) (hw : wantedA ops env o = some true) (hd : dstOk n o.dst = true)
    (ht : P.underlying t = some (.slice e)) (hT : TyI P e z 1 bytes) (hzc : z.cells.size = 1)
    (hy : env.eval y = some s) (hx : env.eval x = some (.slice (some ⟨u, 0, none⟩) 1 1)) (hσu : σ u = some ⟨[v], true, 1⟩) (hsee : Sees ops N0 Nf i u) (hv1 : v.oneCell' = true)
    (hown : OwnAt σ lo s olds c 1) (hlo : lo ≤ Nf i) (hroot : ∀ j, rootOf s j → j < N0 ∧ Wt i j) (hN0 : N0 ≤ Nf i) (hi : i ∈ M) (hN : Nf (i + 1) = Nf i + 1) (hu : u < Nf i) (hb : (c + 1) * bytes ≤ 140737488355328) (h63 : c + 1 ≤ 140737488355328)
    (hbe : ∀ t v, (env.keep (slotsOf ops o)).get t = some v → Bdd (Nf i) v) (hbc : ∀ x ∈ olds, Bdd (Nf i) x) (hbv : Bdd (Nf i) v)
    (k : ∀ v' σ', v' = .slice (some ⟨Nf i, 0, none⟩) (c + 1) (c + 1) → OwnAt σ' lo v' (olds ++ [v]) (c + 1) 1 → (∀ j, ¬ rootOf s j → j ≠ Nf i → σ' j = σ j) →
      TB P n ops N0 Wt M Nf K (i + 1) l (env.put o.dst v') σ') : TB P n ops N0 Wt M Nf K i (o :: l) env σ := by
  obtain ⟨inf, h1, h2, h3, h4⟩ := hT.ex
  have hops : ∀ w, w = x ∨ w = y → w ∈ o.op.operands.toList := fun w hw => by
    rw [ho]; simp [Op.operands, Call.operands]; exact hw.symm
  have hx' := eval_keep (ops := ops) (hops x (.inl rfl)) hx
  have hy' := eval_keep (ops := ops) (hops y (.inr rfl)) hy
  let T : Nat → Prop := fun j => rootOf s j ∨ j = u
  let W : Nat → Prop := fun j => rootOf s j
  obtain ⟨bu, g1, g2, g3, _⟩ := viewOf_get (T := T) (W := W) (σ := σ) (j := u) (.inr rfl) hσu (.inl ⟨_, rfl⟩)
  have hn : srcA (viewOf T W σ) inf.size (.slice (some ⟨u, 0, none⟩) 1 1) = some [v] := by
    simp only [srcA, h3, g1, Option.bind_some, cellsA, g2]
    rfl
  have hru : ¬ rootOf s u → True := fun _ => trivial
  rcases hown with ⟨rfl, rfl, rfl⟩ | ⟨id, cap, p1, rfl, p3, p4, p5⟩
  · have hno : ∀ j, ¬ rootOf (.slice none 0 0) j := fun j ⟨_, _, _, h⟩ => by cases h
    refine ⟨_, σ.set (Nf i) ⟨[v], true, 1⟩, .chain, T, W, ⟨hd, .inr (.inr (.inr ⟨hw, rfl, hi, by omega, hbe, fun j hj => absurd hj (hno j), fun j _ hj => AHeap.set_ne _ _ (by omega), ?_, ?_, ?_⟩))⟩,
      k (.slice (some ⟨Nf i, 0, none⟩) (0 + 1) (0 + 1)) _ rfl (.inr ⟨Nf i, 0 + 1, hlo, rfl, Nat.le_refl _, AHeap.set_self _ _ _, rfl⟩) fun j _ hj => AHeap.set_ne _ _ hj⟩
    · rintro j (h | rfl)
      · exact absurd h (hno j)
      · exact hsee
    · rintro j b (h | rfl) hb
      · exact absurd h (hno j)
      · rw [hσu] at hb; cases hb
        refine .row (k := 1) ?_ rfl
        intro x hx; simp at hx; subst hx; exact hbv
    · refine step_append (root := none) (k := 0) (m := 1) (olds := []) (news := [v]) ho ht h1 h2 (by rw [hzc, h3]) hy' hx' rfl rfl (by omega) rfl hn (by simp [hv1]) (fun i off h => by cases h) (by rw [h4]; exact hb) h63 ⟨rfl, by omega, fun j b hj hw => ?_⟩
      rcases hw with hw | hw
      · exact absurd hw (hno j)
      · have : j = Nf i := by omega
        subst this
        rw [AHeap.set_self] at hj; cases hj
        exact ⟨by rw [AHeap.set_self, h3]; rfl, rfl⟩
  · have hr : rootOf (.slice (some ⟨id, 0, none⟩) c cap) id := ⟨_, _, _, rfl⟩
    have hr1 : ∀ j, rootOf (.slice (some ⟨id, 0, none⟩) c cap) j → j = id := fun j ⟨_, _, _, h⟩ => by cases h; rfl
    obtain ⟨hidN, hidW⟩ := hroot id hr
    obtain ⟨bi, q1, q2, q3, q4⟩ := viewOf_get (T := T) (W := W) (σ := σ) (j := id) (.inl hr) p4 (.inr hr)
    have hsrc : srcA (viewOf T W σ) inf.size (.slice (some ⟨id, 0, none⟩) c cap) = some olds := by
      by_cases hc : c = 0
      · subst hc
        have : olds = [] := List.eq_nil_of_length_eq_zero (by simpa using p5)
        subst this; rfl
      · simp only [srcA, if_neg hc, q1, Option.bind_some, cellsA, Nat.zero_add, q2, h3]
        rw [if_pos (by omega), ← p5, List.drop_zero, List.take_length]
    refine ⟨_, (σ.del id).set (Nf i) ⟨olds ++ [v], true, 1⟩, .chain, T, W, ⟨hd, .inr (.inr (.inr ⟨hw, rfl, hi, by omega, hbe, fun j hj => ⟨.inl hj, fun _ => (hroot j hj).2, by rw [hr1 j hj]; exact ⟨_, p4⟩⟩, fun j hj hj2 => ?_, ?_, ?_, ?_⟩))⟩,
      k (.slice (some ⟨Nf i, 0, none⟩) (c + 1) (c + 1)) _ rfl (.inr ⟨Nf i, c + 1, hlo, rfl, Nat.le_refl _, AHeap.set_self _ _ _, by simp [p5]⟩) fun j hj hj2 => ?_⟩
    · have hne : j ≠ id := fun h => hj (h ▸ hr)
      rw [AHeap.set_ne _ _ (by omega), AHeap.del_ne _ hne]
    · rintro j (h | rfl)
      · exact .inl (hroot j h).1
      · exact hsee
    · rintro j b (h | rfl) hb
      · rw [hr1 j h, p4] at hb; cases hb; exact .row hbc rfl
      · rw [hσu] at hb; cases hb
        refine .row (k := 1) ?_ rfl
        intro x hx; simp at hx; subst hx; exact hbv
    · refine step_append (root := some (id, 0)) (k := c) (m := 1) (olds := olds) (news := [v]) ho ht h1 h2 (by rw [hzc, h3]) hy' hx' rfl rfl (by omega) hsrc hn (by simp [hv1]) (fun i off h => by cases h; exact ⟨bi, q1, by rw [q4 hr], by rw [q3, h3]⟩) (by rw [h4]; exact hb) h63 ⟨rfl, by omega, fun j b hj hw => ?_⟩
      rcases hw with hw | hw
      · rw [hr1 j hw, AHeap.set_ne _ _ (by omega), AHeap.del_self] at hj; cases hj
      · have : j = Nf i := by omega
        subst this
        rw [AHeap.set_self] at hj; cases hj
        exact ⟨by rw [AHeap.set_self, h3]; rfl, rfl⟩
    · have hne : j ≠ id := fun h => hj (h ▸ hr)
      rw [AHeap.set_ne _ _ hj2, AHeap.del_ne _ hne]
/-- How many of the listed operations stand before the k-th. -/
def cntN (L : List Nat) (k : Nat) : Nat := (L.filter fun d => Nat.blt d k).length
theorem xt_one {m i : Nat} {o : Oper} {l : List Oper} {t e : TypeId} {x : Operand} {z v : Value} {bytes : Nat} (hm : Nf i = m) (hN : Nf (i + 1) = m + 1) (ho : o.op = .buildSlice t 1 #[(0, x)]) (hw : wantedA ops env o = some true) (hd : dstOk n o.dst = true)
    (ht : P.underlying t = some (.slice e)) (hT : TyI P e z 1 bytes) (hz : spread z = [z]) (hzf : flat z = true) (hx : env.eval x = some v) (hv : spread v = [v])
    (hbe : ∀ t v, (env.keep (slotsOf ops o)).get t = some v → Bdd m v)
    (k : TB P n ops N0 Wt M Nf K (i + 1) l (env.put o.dst (.slice (some ⟨m, 0, none⟩) 1 1)) (σ.set m ⟨[v], true, 1⟩)) : TB P n ops N0 Wt M Nf K i (o :: l) env σ := by
  subst hm
  exact tb_one ho hw hd ht hT hz hzf hx hv hN hbe k
theorem xt_push {m d i : Nat} {o : Oper} {l : List Oper} {t e : TypeId} {x y : Operand} {z s v : Value} {bytes lo c u : Nat} {olds : List Value} (hm : Nf i = m) (hN : Nf (i + 1) = m + 1)
    (ho : o.op = .call { callee := .builtin .append, args := #[y, x], argTypes := #[t, t] }) (hw : wantedA ops env o = some true) (hd : dstOk n o.dst = true)
    (ht : P.underlying t = some (.slice e)) (hT : TyI P e z 1 bytes) (hzc : z.cells.size = 1)
    (hy : env.eval y = some s) (hx : env.eval x = some (.slice (some ⟨u, 0, none⟩) 1 1)) (hσu : σ u = some ⟨[v], true, 1⟩)
    (hds : d < ops.size) (hdw : waitsB ops i d = true) (hd1 : Nf d = u) (hd2 : Nf (d + 1) = u + 1) (hv1 : v.oneCell' = true)
    (hown : OwnAt σ lo s olds c 1) (hlo : lo ≤ m) (hroot : ∀ j, rootOf s j → j < N0 ∧ Wt i j) (hN0 : N0 ≤ m) (hi : i ∈ M) (hu : u < m) (hb : (c + 1) * bytes ≤ 140737488355328) (h63 : c + 1 ≤ 140737488355328)
    (hbe : ∀ t v, (env.keep (slotsOf ops o)).get t = some v → Bdd m v) (hbc : ∀ x ∈ olds, Bdd m x) (hbv : Bdd m v)
    (k : ∀ v' σ', v' = .slice (some ⟨m, 0, none⟩) (c + 1) (c + 1) → OwnAt σ' lo v' (olds ++ [v]) (c + 1) 1 → (∀ j, ¬ rootOf s j → j ≠ m → σ' j = σ j) →
      TB P n ops N0 Wt M Nf K (i + 1) l (env.put o.dst v') σ') : TB P n ops N0 Wt M Nf K i (o :: l) env σ := by
  subst hm
  exact tb_push ho hw hd ht hT hzc hy hx hσu (.inr ⟨d, hds, hdw, by omega, by omega⟩) hv1 hown hlo hroot hN0 hi hN hu hb h63 hbe hbc hbv k
theorem rootOf_own {lo len sz : Nat} {v : Value} {cells : List Value} (h : OwnAt σ lo v cells len sz) {j : Nat} (hj : rootOf v j) : lo ≤ j ∧ ∃ b, σ j = some b := by
  obtain ⟨off, l, cap, rfl⟩ := hj
  rcases h with ⟨h, _⟩ | ⟨id, cap', h1, h2, h3, h4, _⟩
  · cases h
  · cases h2; exact ⟨h1, _, h4⟩
theorem bdd_own {lo len sz m : Nat} {v : Value} {cells : List Value} (h : OwnAt σ lo v cells len sz) (hN : ∀ i b, σ i = some b → i < m) : Bdd m v := by
  rcases h with ⟨rfl, _⟩ | ⟨id, cap', h1, rfl, h3, h4, _⟩
  · exact .flat rfl
  · exact .slice (hN _ _ h4)
theorem SlAt.view {v : Value} {vs : List Value} (h : SlAt σ v vs) (hN : ∀ i b, σ i = some b → i < N) {i : Nat} (hW : ∀ j, rootOf v j → ∀ k, ¬ Wt k j) : SlAt (viewOf (Calm ops N Wt i) (fun _ => False) σ) v vs := by
  rcases h with h | ⟨id, off, cap, b, rfl, h2, h3, h4⟩
  · exact .inl h
  · obtain ⟨b', g1, g2, g3, _⟩ := viewOf_get (T := Calm ops N Wt i) (W := fun _ => False) ⟨hN _ _ h2, fun k hk => absurd hk (hW id ⟨_, _, _, rfl⟩ k)⟩ h2 (.inl ⟨_, h4⟩)
    exact .inr ⟨id, off, cap, b', rfl, g1, (fun j x hx => by rw [g2]; exact h3 j x hx), g3.trans h4⟩
theorem RowsAt.view {sz : Nat} {v : Value} {rows : List (List Value)} (h : RowsAt σ sz v rows) (hN : ∀ i b, σ i = some b → i < N) {i : Nat} (hW : ∀ j, rootOf v j → ∀ k, ¬ Wt k j) : RowsAt (viewOf (Calm ops N Wt i) (fun _ => False) σ) sz v rows := by
  rcases h with h | ⟨id, off, cap, b, rfl, h2, h3, h4⟩
  · exact .inl h
  · obtain ⟨b', g1, g2, g3, _⟩ := viewOf_get (T := Calm ops N Wt i) (W := fun _ => False) ⟨hN _ _ h2, fun k hk => absurd hk (hW id ⟨_, _, _, rfl⟩ k)⟩ h2 (.inl ⟨_, h4⟩)
    exact .inr ⟨id, off, cap, b', rfl, g1, (fun j r hr => by simp only [cellsA, g2]; exact h3 j r hr), g3.trans h4⟩
theorem bdd_of1 {ks : List Nat} {m s1 : Nat} {v1 : Value} (he : env.keep ks = [(s1, v1)]) (h1 : Bdd m v1) : ∀ t v, (env.keep ks).get t = some v → Bdd m v := fun t v hv => by
  rw [he] at hv
  simp only [Env.get] at hv
  split at hv
  · cases hv; exact h1
  · cases hv
theorem bdd_of2 {ks : List Nat} {m s1 s2 : Nat} {v1 v2 : Value} (he : env.keep ks = [(s1, v1), (s2, v2)]) (h1 : Bdd m v1) (h2 : Bdd m v2) : ∀ t v, (env.keep ks).get t = some v → Bdd m v := fun t v hv => by
  rw [he] at hv
  simp only [Env.get] at hv
  split at hv
  · cases hv; exact h1
  · split at hv
    · cases hv; exact h2
    · cases hv
theorem bdd_flats {vs : List Value} {m : Nat} (h : vs.all flat = true) : ∀ x ∈ vs, Bdd m x := fun x hx => .of_flat (List.all_eq_true.1 h x hx)
/-- The same, and the slots wanted behind it. -/
theorem awp_tbk {id : Nat} {l : List Oper} {K : Exit → Env → Nat → AHeap → Prop} (ks : List Nat) (Wt : Nat → Nat → Prop) (M : List Nat) (Nf : Nat → Nat) (hst : drawnB P l M = true) (hN0 : Nf 0 = N)
    (h : TB P n l.toArray N Wt M Nf (fun e s => K .normal (e.keep ks) (Nf l.length) s) 0 l env σ) : AWp r P n (.region id l.toArray true) env N σ K := by
  have h2 : AWp r P n (.region id l.toArray true) env N σ (fun ex e N s => K ex (e.keep ks) N s) := awp_tb (K := fun ex e N s => K ex (e.keep ks) N s) Wt M Nf hst hN0 h
  exact fun F hF ds ι w a Q he hr hq => h2 F hF ds ι w a Q he hr fun ms ex ι1 w1 a1 env1 N1 σ1 m k e1 r1 t1 => hq ms ex ι1 w1 a1 _ N1 σ1 m k (e1.le (Env.keep_get env1 ks)) r1 t1
theorem OwnAt.keep {σ' : AHeap} {lo len sz : Nat} {v : Value} {cells : List Value} (h : OwnAt σ lo v cells len sz) (hl : ∀ j b, rootOf v j → σ j = some b → σ' j = some b) : OwnAt σ' lo v cells len sz := by
  rcases h with h | ⟨id, cap, h1, rfl, h3, h4, h5⟩
  · exact .inl h
  · exact .inr ⟨id, cap, h1, rfl, h3, hl _ _ ⟨_, _, _, rfl⟩ h4, h5⟩
theorem OwnAt.at {lo len m id cap : Nat} {cells : List Value} (h : OwnAt σ lo (.slice (some ⟨id, 0, none⟩) len cap) cells m 1) : σ id = some ⟨cells, true, 1⟩ := by
  rcases h with ⟨h, _⟩ | ⟨_, _, _, h2, _, h4, _⟩
  · cases h
  · cases h2; exact h4
end
end Go.Abs
