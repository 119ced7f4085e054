/- Shaken texts of the layer and of the walks. -/
import Derived.Test.YtfialjllclclkaaFmCls
import Derived.Test.YtfialjllclclkaaFmPush
namespace Go.Abs
section
variable {r : Bool} {P : Program} {n : Nat} {env : Env} {N : Nat} {σ : AHeap} {ops : Array Oper} {N0 : Nat} {Wt : Nat → Nat → Prop} {M : List Nat} {Nf : Nat → Nat} {K : Env → AHeap → Prop}

def TB (P : Program) (n : Nat) (ops : Array Oper) (N0 : Nat) (Wt : Nat → Nat → Prop) (M : List Nat) (Nf : Nat → Nat) (K : Env → AHeap → Prop) : Nat → List Oper → Env → AHeap → Prop
  | _, [], env, σ => K env σ
  | i, o :: l, env, σ => ∃ (v : Value) (σ1 : AHeap) (c : Cls) (T W : Nat → Prop), OneStep P n ops N0 Wt M Nf i o env σ v σ1 c T W ∧ TB P n ops N0 Wt M Nf K (i + 1) l (env.put o.dst v) σ1

def puts : List Oper → List Value → Env → Nat → Env
  | _, _, env, 0 => env
  | o :: l, v :: vs, env, k + 1 => puts l vs (env.put o.dst v) k
  | _, _, env, _ + 1 => env
theorem puts_succ : ∀ (k : Nat) (l : List Oper) (vs : List Value) (env : Env) (o : Oper) (v : Value), l[k]? = some o → vs[k]? = some v → puts l vs env (k + 1) = (puts l vs env k).put o.dst v := by
  intro k
  induction k with
  | zero =>
    intro l vs env o v ho hv
    cases l with
    | nil => simp at ho
    | cons o' l =>
      cases vs with
      | nil => simp at hv
      | cons v' vs =>
        simp at ho hv; subst ho; subst hv
        simp only [puts]
  | succ k ih =>
    intro l vs env o v ho hv
    cases l with
    | nil => simp at ho
    | cons o' l =>
      cases vs with
      | nil => simp at hv
      | cons v' vs =>
        simp only [List.getElem?_cons_succ] at ho hv
        have := ih l vs (env.put o'.dst v') o v ho hv
        rw [show puts (o' :: l) (v' :: vs) env (k + 1 + 1) = puts l vs (env.put o'.dst v') (k + 1) from rfl, this]
        rfl
theorem putAll_puts (l : List Oper) (vs : List Value) (env : Env) (hl : vs.length = l.length) : ∀ k, k ≤ l.length → putAll l.toArray vs env k = puts l vs env k := by
  intro k
  induction k with
  | zero => intro _; cases l <;> cases vs <;> rfl
  | succ k ih =>
    intro hk
    have h1 : l[k]? = some l[k] := List.getElem?_eq_getElem (by omega)
    have h2 : vs[k]? = some vs[k] := List.getElem?_eq_getElem (by omega)
    rw [puts_succ k l vs env _ _ h1 h2, ← ih (by omega)]
    have h3 : dstOf l.toArray k = l[k].dst := by simp [dstOf, h1]
    have h4 : vs.getD k undef = vs[k] := by simp [List.getD_eq_getElem?_getD, h2]
    rw [putAll, h3, h4]

theorem tb_extract : ∀ (l : List Oper) (i : Nat) (env : Env) (σ : AHeap), TB P n ops N0 Wt M Nf K i l env σ →
    ∃ (vs : List Value) (σf : Nat → AHeap) (cls : Nat → Cls) (Tf Wf : Nat → Nat → Prop), vs.length = l.length ∧ σf 0 = σ ∧
      (∀ k o, l[k]? = some o → OneStep P n ops N0 Wt M Nf (i + k) o (puts l vs env k) (σf k) (vs.getD k undef) (σf (k + 1)) (cls k) (Tf k) (Wf k)) ∧ K (puts l vs env l.length) (σf l.length)
  | [], i, env, σ, h => ⟨[], fun _ => σ, fun _ => .reads, fun _ _ => False, fun _ _ => False, rfl, rfl, fun k o ho => by simp at ho, h⟩
  | o :: l, i, env, σ, ⟨v, σ1, c, T, W, h, hr⟩ => by
    obtain ⟨vs, σf, cls, Tf, Wf, h1, h2, h3, h4⟩ := tb_extract l (i + 1) _ σ1 hr
    refine ⟨v :: vs, fun k => match k with | 0 => σ | k + 1 => σf k, fun k => match k with | 0 => c | k + 1 => cls k, fun k => match k with | 0 => T | k + 1 => Tf k, fun k => match k with | 0 => W | k + 1 => Wf k, by simp [h1], rfl, fun k o' ho => ?_, ?_⟩
    · cases k with
      | zero =>
        simp at ho; subst ho
        simp only [Nat.add_zero, List.getD_cons_zero, h2]
        exact h
      | succ k =>
        simp only [List.getElem?_cons_succ] at ho
        have := h3 k o' ho
        rw [show i + (k + 1) = i + 1 + k from by omega]
        simpa only [List.getD_cons_succ, puts] using this
    · simpa only [List.length_cons, puts] using h4

theorem awp_tb {id : Nat} {l : List Oper} {K : Exit → Env → Nat → AHeap → Prop} (Wt : Nat → Nat → Prop) (M : List Nat) (Nf : Nat → Nat) (hst : drawnB P l M = true) (hN0 : Nf 0 = N)
    (h : TB P n l.toArray N Wt M Nf (fun e s => K .normal e (Nf l.length) s) 0 l env σ) : AWp r P n (.region id l.toArray true) env N σ K := by
  obtain ⟨vs, σf, cls, Tf, Wf, h1, h2, h3, h4⟩ := tb_extract l 0 env σ h
  refine awp_cls vs Nf σf cls Tf Wf Wt M hst hN0 h2 (fun i o ho => ?_) ?_
  · have hi : i < l.length := by have := (Array.getElem?_eq_some_iff.1 ho).1; simpa using this
    rw [putAll_puts l vs env h1 i (by omega)]
    have := h3 i o (by simpa using ho)
    rwa [Nat.zero_add] at this
  · rw [putAll_puts l vs env h1 _ (Nat.le_refl _)]
    exact h4

theorem tb_skip {i : Nat} {o : Oper} {l : List Oper} (hd : dstOk n o.dst = true) (hw : wantedA ops env o = some false) (hN : Nf (i + 1) = Nf i)
    (k : TB P n ops N0 Wt M Nf K (i + 1) l (env.put o.dst undef) σ) : TB P n ops N0 Wt M Nf K i (o :: l) env σ :=
  ⟨undef, σ, .reads, fun _ => False, fun _ => False, ⟨hd, .inl ⟨hw, rfl, hN, rfl, rfl⟩⟩, k⟩
theorem tb_read {i : Nat} {o : Oper} {l : List Oper} {v : Value} (hd : dstOk n o.dst = true) (hw : wantedA ops env o = some true) (hN : Nf (i + 1) = Nf i)
    (T : Nat → Prop) (hT : ∀ j, T j → Calm ops N0 Wt i j) (h : ∀ m, StepQ P n o (env.keep (slotsOf ops o)) m (viewOf T (fun _ => False) σ) (fun v1 N1 _ => v1 = v ∧ N1 = m))
    (k : TB P n ops N0 Wt M Nf K (i + 1) l (env.put o.dst v) σ) : TB P n ops N0 Wt M Nf K i (o :: l) env σ :=
  ⟨v, σ, .reads, T, fun _ => False, ⟨hd, .inr (.inl ⟨hw, rfl, hN, rfl, hT, h⟩)⟩, k⟩
theorem tb_pure {i : Nat} {o : Oper} {l : List Oper} {env' : Env} (h : pureStep P n ops env o = some env') (hN : Nf (i + 1) = Nf i)
    (k : TB P n ops N0 Wt M Nf K (i + 1) l env' σ) : TB P n ops N0 Wt M Nf K i (o :: l) env σ := by
  unfold pureStep at h
  split at h
  · rename_i hd
    split at h
    · rename_i hw
      simp only [Option.map_eq_some_iff] at h
      obtain ⟨v, hv, rfl⟩ := h
      have hv' : pureOp P (env.keep (slotsOf ops o)).eval o.op = some v := pureOp_mono hv fun x hx u hu => eval_keep hx hu
      exact tb_read hd hw hN (fun _ => False) (fun _ h => h.elim) (fun m => step_value (pureOp_plain hv') (fun ι a he => pureOp_sound hv' he) ⟨rfl, rfl⟩) k
    · rename_i hw
      cases h
      exact tb_skip hd hw hN k
    · cases h
  · cases h
theorem tb_pures : ∀ (k i : Nat) {l : List Oper} {env env' : Env}, pureSteps P n ops (l.take k) env = some env' → (∀ j, j < k → Nf (i + j + 1) = Nf (i + j)) → TB P n ops N0 Wt M Nf K (i + k) (l.drop k) env' σ → TB P n ops N0 Wt M Nf K i l env σ
  | 0, i, l, env, env', h, _, hk => by simp only [List.take_zero, pureSteps, Option.some.injEq] at h; subst h; exact hk
  | k + 1, i, [], env, env', h, _, hk => by simp only [List.take_nil, pureSteps, Option.some.injEq] at h; subst h; exact hk
  | k + 1, i, o :: l, env, env', h, hN, hk => by
    simp only [List.take_succ_cons, pureSteps, Option.bind_eq_some_iff] at h
    obtain ⟨e1, h1, h2⟩ := h
    refine tb_pure h1 (hN 0 (by omega)) (tb_pures k (i + 1) h2 (fun j hj => ?_) (by rw [show i + 1 + k = i + (k + 1) from by omega]; exact hk))
    have := hN (j + 1) (by omega)
    rwa [show i + (j + 1) = i + 1 + j from by omega] at this
theorem tb_load {i : Nat} {o : Oper} {l : List Oper} {t : TypeId} {x : Operand} {id off : Nat} {b : Blk} {v : Value} (hd : dstOk n o.dst = true) (hw : wantedA ops env o = some true) (ho : o.op = .load t x)
    (hx : env.eval x = some (.pointer (some ⟨id, off, none⟩))) (hb : σ id = some b) (hrow : b.row) (hold : Calm ops N0 Wt i id) (hv : loadA P t b off = some v) (hN : Nf (i + 1) = Nf i)
    (k : TB P n ops N0 Wt M Nf K (i + 1) l (env.put o.dst v) σ) : TB P n ops N0 Wt M Nf K i (o :: l) env σ := by
  obtain ⟨b', h1, h2, h3, _⟩ := viewOf_get (T := Calm ops N0 Wt i) (W := fun _ => False) hold hb (.inl hrow)
  have hv' : loadA P t b' off = some v := by
    simp only [loadA, cellsA, h2] at hv ⊢
    exact hv
  have hx' : (env.keep (slotsOf ops o)).eval x = some (.pointer (some ⟨id, off, none⟩)) := eval_keep (by rw [ho]; simp [Op.operands]) hx
  exact tb_read hd hw hN (Calm ops N0 Wt i) (fun _ h => h) (fun m => step_load ho hx' h1 hv' ⟨rfl, rfl⟩) k
theorem tb_gives {i : Nat} {o : Oper} {l : List Oper} {args : Array Operand} {argTypes : Array TypeId} {g : FuncId} {vs : List Value} {v : Value}
    (ho : o.op = .call { callee := .value (.func g), args, argTypes }) (ha : args.toList.mapM env.eval = some vs)
    (h : ∀ m, Gives P g vs m (viewOf (Calm ops N0 Wt i) (fun _ => False) σ) v) (hc : callableB P g = true) (hd : dstOk n o.dst = true) (hw : wantedA ops env o = some true) (hN : Nf (i + 1) = Nf i)
    (k : TB P n ops N0 Wt M Nf K (i + 1) l (env.put o.dst v) σ) : TB P n ops N0 Wt M Nf K i (o :: l) env σ := by
  have ha' : args.toList.mapM (env.keep (slotsOf ops o)).eval = some vs := mapM_congr_some _ _ ha fun x hx u hu => eval_keep (by rw [ho]; simp [Op.operands, Call.operands] at hx ⊢; exact .inr hx) hu
  refine tb_read hd hw hN (Calm ops N0 Wt i) (fun _ h => h) (fun m => step_call ho rfl ha' hc ?_) k
  have h' : AOk P g (#[].toList ++ vs ++ #[].toList) m (viewOf (Calm ops N0 Wt i) (fun _ => False) σ) fun v1 N1 σ1 => v1 = v ∧ N1 = m ∧ σ1 = viewOf (Calm ops N0 Wt i) (fun _ => False) σ := by
    have := h m
    unfold Gives at this; simpa using this
  exact h'.mono fun v1 N1 σ1 ⟨h1, h2, _⟩ => ⟨h1, h2⟩
theorem tb_make {i : Nat} {o : Oper} {l : List Oper} {v : Value} {b : Blk} (hd : dstOk n o.dst = true) (hw : wantedA ops env o = some true) (hN : Nf (i + 1) = Nf i + 1)
    (hbe : ∀ t v, (env.keep (slotsOf ops o)).get t = some v → Bdd (Nf i) v) (hown : b.own = true)
    (h : ∀ e : Env, e = env.keep (slotsOf ops o) → StepQ P n o e (Nf i) (fun _ => none) (fun v1 N1 σ2 => v1 = v ∧ N1 = Nf i + 1 ∧ σ2 (Nf i) = some b))
    (k : TB P n ops N0 Wt M Nf K (i + 1) l (env.put o.dst v) (σ.set (Nf i) b)) : TB P n ops N0 Wt M Nf K i (o :: l) env σ := by
  refine ⟨v, σ.set (Nf i) b, .makes, fun _ => False, fun _ => False, ⟨hd, .inr (.inr (.inl ⟨hw, rfl, by omega, hbe, fun j hj => AHeap.set_ne _ _ (by omega), ?_⟩))⟩, k⟩
  refine (h _ rfl).mono fun v1 N1 σ2 ⟨h1, h2, h3⟩ => ⟨h1, by omega, fun j b' hj1 hj2 hb' => ?_⟩
  have : j = Nf i := by omega
  subst this
  rw [AHeap.set_self] at hb'; cases hb'
  exact ⟨h3, hown⟩
def rootOf (s : Value) (j : Nat) : Prop := ∃ off len cap, s = .slice (some ⟨j, off, none⟩) len cap
def cntN (L : List Nat) (k : Nat) : Nat := (L.filter fun d => Nat.blt d k).length
theorem rootOf_own {lo len sz : Nat} {v : Value} {cells : List Value} (h : OwnAt σ lo v cells len sz) {j : Nat} (hj : rootOf v j) : lo ≤ j ∧ ∃ b, σ j = some b := by
  obtain ⟨off, l, cap, rfl⟩ := hj
  rcases h with ⟨h, _⟩ | ⟨id, cap', h1, h2, h3, h4, _⟩
  · cases h
  · cases h2; exact ⟨h1, _, h4⟩
theorem SlAt.view {v : Value} {vs : List Value} (h : SlAt σ v vs) (hN : ∀ i b, σ i = some b → i < N) {i : Nat} (hW : ∀ j, rootOf v j → ∀ k, ¬ Wt k j) : SlAt (viewOf (Calm ops N Wt i) (fun _ => False) σ) v vs := by
  rcases h with h | ⟨id, off, cap, b, rfl, h2, h3, h4⟩
  · exact .inl h
  · obtain ⟨b', g1, g2, g3, _⟩ := viewOf_get (T := Calm ops N Wt i) (W := fun _ => False) ⟨hN _ _ h2, fun k hk => absurd hk (hW id ⟨_, _, _, rfl⟩ k)⟩ h2 (.inl ⟨_, h4⟩)
    exact .inr ⟨id, off, cap, b', rfl, g1, (fun j x hx => by rw [g2]; exact h3 j x hx), g3.trans h4⟩
theorem RowsAt.view {sz : Nat} {v : Value} {rows : List (List Value)} (h : RowsAt σ sz v rows) (hN : ∀ i b, σ i = some b → i < N) {i : Nat} (hW : ∀ j, rootOf v j → ∀ k, ¬ Wt k j) : RowsAt (viewOf (Calm ops N Wt i) (fun _ => False) σ) sz v rows := by
  rcases h with h | ⟨id, off, cap, b, rfl, h2, h3, h4⟩
  · exact .inl h
  · obtain ⟨b', g1, g2, g3, _⟩ := viewOf_get (T := Calm ops N Wt i) (W := fun _ => False) ⟨hN _ _ h2, fun k hk => absurd hk (hW id ⟨_, _, _, rfl⟩ k)⟩ h2 (.inl ⟨_, h4⟩)
    exact .inr ⟨id, off, cap, b', rfl, g1, (fun j r hr => by simp only [cellsA, g2]; exact h3 j r hr), g3.trans h4⟩
theorem awp_tbk {id : Nat} {l : List Oper} {K : Exit → Env → Nat → AHeap → Prop} (ks : List Nat) (Wt : Nat → Nat → Prop) (M : List Nat) (Nf : Nat → Nat) (hst : drawnB P l M = true) (hN0 : Nf 0 = N)
    (h : TB P n l.toArray N Wt M Nf (fun e s => K .normal (e.keep ks) (Nf l.length) s) 0 l env σ) : AWp r P n (.region id l.toArray true) env N σ K := by
  have h2 : AWp r P n (.region id l.toArray true) env N σ (fun ex e N s => K ex (e.keep ks) N s) := awp_tb (K := fun ex e N s => K ex (e.keep ks) N s) Wt M Nf hst hN0 h
  exact fun F hF ds ι w a Q he hr hq => h2 F hF ds ι w a Q he hr fun ms ex ι1 w1 a1 env1 N1 σ1 m k e1 r1 t1 => hq ms ex ι1 w1 a1 _ N1 σ1 m k (e1.le (Env.keep_get env1 ks)) r1 t1
theorem OwnAt.keep {σ' : AHeap} {lo len sz : Nat} {v : Value} {cells : List Value} (h : OwnAt σ lo v cells len sz) (hl : ∀ j b, rootOf v j → σ j = some b → σ' j = some b) : OwnAt σ' lo v cells len sz := by
  rcases h with h | ⟨id, cap, h1, rfl, h3, h4, h5⟩
  · exact .inl h
  · exact .inr ⟨id, cap, h1, rfl, h3, hl _ _ ⟨_, _, _, rfl⟩ h4, h5⟩
theorem OwnAt.at {lo len m id cap : Nat} {cells : List Value} (h : OwnAt σ lo (.slice (some ⟨id, 0, none⟩) len cap) cells m 1) : σ id = some ⟨cells, true, 1⟩ := by
  rcases h with ⟨h, _⟩ | ⟨_, _, _, h2, _, h4, _⟩
  · cases h
  · cases h2; exact h4
end
end Go.Abs

