/- Abstract states over the machine: a region that draws its order and whose operations leave what there is alone. -/
import Derived.Test.YtbpjoamdcbbnnaaAbEval
import Derived.Deep.Quiet
namespace Go.Abs
open Go.RowKit (Below)
section
variable {P : Program} {n : Nat} {env : Env} {N : Nat} {σ : AHeap} {ι : Ren}

def ro (σ : AHeap) : AHeap := fun i => (σ i).map fun b => ⟨b.cells, false, b.esz⟩
theorem Rel.ro {w : World} (h : Rel ι N σ w) : Rel ι N (ro σ) w := by
  refine ⟨h.dom, fun i b hb => ?_, fun i j bi bj Li Lj _ hi hj _ _ ho => ?_⟩
  · simp only [Abs.ro, Option.map_eq_some_iff] at hb
    obtain ⟨b0, h0, rfl⟩ := hb
    obtain ⟨L, h1, h2⟩ := h.blk i b0 h0
    obtain ⟨c, e, fz, q1, q2, q3, q4, q5⟩ := h2.ex
    exact ⟨L, h1, h2.esz, c, e, fz, q1, q2, q3, fun hf => absurd hf (by simp), q5⟩
  · simp only [Abs.ro, Option.map_eq_some_iff] at hi hj
    obtain ⟨b0, _, rfl⟩ := hi
    obtain ⟨b1, _, rfl⟩ := hj
    simp at ho
theorem Rel.below {w w' : World} (h : Rel ι N σ w) (hb : Below w.heap.size w w') : Rel ι N σ w' :=
  ⟨h.dom, fun i b hi => let ⟨L, h1, h2⟩ := h.blk i b hi; ⟨L, h1, h2.same (Ext.refl _) (hb.block _ h2.lt)⟩, h.inj⟩
theorem Tr.of_below {w w' : World} (hb : Below w.heap.size w w') : Tr ι N σ w ι N σ w' :=
  ⟨Ext.refl _, fun _ _ => rfl, Nat.le_refl _, hb.os, hb.tape, hb.output, hb.size, fun β h _ => hb.block β h, fun _ h => .inl h⟩

def AQ (P : Program) (n : Nat) (ops : Array Oper) (l : List Oper) (env : Env) (N : Nat) (σ : AHeap) (K : Env → Prop) : Prop :=
  ∀ (ι : Ren) (w : World) (a : Act) (Q : Act → Prop), EnvRel ι n env a → Rel ι N σ w → (∀ env' a', K env' → EnvRel ι n env' a' → Q a') → wpQuiet P ops (Below w.heap.size w) Q l a

theorem awp_quiet {id : Nat} {l : List Oper} {K : Exit → Env → Nat → AHeap → Prop} (ks : List Nat) (hm : P.follows .mixedOrders = true) (hB : Region.lexB .any l.toArray = true)
    (h : AQ P n l.toArray l env N σ (fun env' => K .normal (env'.keep ks) N σ)) : AWp P n (.region id l.toArray true) env N σ K := by
  intro ι w a Q he hr hq
  refine wp_region_quiet (C := Below w.heap.size w) hm hB ⟨rfl, rfl, rfl, Nat.le_refl _, fun _ _ => rfl⟩ ?_
  have := h ι w a (fun a' => ∀ w', Below w.heap.size w w' → Q .normal a' w') he hr fun env' a' k he' w' hw' =>
    hq _ ι w' a' _ N σ k (he'.le (Env.keep_get env' ks)) (hr.below hw') (Tr.of_below hw')
  simpa using this

theorem aq_nil {ops : Array Oper} {K : Env → Prop} (k : K env) : AQ P n ops [] env N σ K := fun _ _ _ _ he _ hq => hq _ _ k he
theorem aq_pure {ops : Array Oper} {l : List Oper} {o : Oper} {env' : Env} {K : Env → Prop} (h : pureStep P n ops env o = some env') (k : AQ P n ops l env' N σ K) : AQ P n ops (o :: l) env N σ K := by
  intro ι w a Q he hr hq
  unfold pureStep at h
  split at h
  · rename_i hd
    split at h
    · rename_i hw
      simp only [Option.map_eq_some_iff] at h
      obtain ⟨v, hv, rfl⟩ := h
      obtain ⟨v', h1, h2⟩ := pureOp_sound hv he
      simp only [wpQuiet, wantedA_eq hw he, if_true]
      refine ⟨v', fun w' _ => ?_, k ι w _ Q (he.put (dstOk_spec hd) h2) hr hq⟩
      simp [Oper.quietAt, h1 w', Oper.quietUpon]
    · rename_i hw
      cases h
      simp only [wpQuiet, wantedA_eq hw he, Bool.false_eq_true, if_false]
      exact k ι w _ Q (he.put (dstOk_spec hd) (.of_flat rfl)) hr hq
    · cases h
  · cases h
theorem aq_pures {ops : Array Oper} {K : Env → Prop} : ∀ {l : List Oper} {env : Env} {env' : Env}, pureSteps P n ops l env = some env' → K env' → AQ P n ops l env N σ K
  | [], env, env', h, k => by cases h; exact aq_nil k
  | o :: l, env, env', h, k => by
    simp only [pureSteps, Option.bind_eq_some_iff] at h
    obtain ⟨e1, h1, h2⟩ := h
    exact aq_pure h1 (aq_pures h2 k)

theorem aq_load {ops : Array Oper} {l : List Oper} {o : Oper} {t : TypeId} {x : Operand} {i off : Nat} {b : Blk} {v : Value} {K : Env → Prop}
    (hd : dstOk n o.dst = true) (hw : wantedA ops env o = some true) (ho : o.op = .load t x)
    (hx : env.eval x = some (.pointer (some ⟨i, off, none⟩))) (hb : σ i = some b) (hv : loadA P t b off = some v)
    (k : AQ P n ops l (env.put o.dst v) N σ K) : AQ P n ops (o :: l) env N σ K := by
  intro ι w a Q he hr hq
  obtain ⟨L, h1, h2⟩ := hr.blk i b hb
  obtain ⟨v', g1, g2⟩ := run_loadA (P := P) h2 hv
  generalize hp : a.eval x = p
  have hx' := hp ▸ he.eval hx
  cases hx' with
  | ptr h3 =>
    rw [h1] at h3; cases h3
    simp only [wpQuiet, wantedA_eq hw he, if_true]
    refine ⟨v', fun w' hw' => ?_, k ι w _ Q (he.put (dstOk_spec hd) g2) hr hq⟩
    have hsame := g1 w' (hw'.block _ h2.lt)
    have : (execOp a.eval o).run P w' = .ok (.value v') w' := by
      obtain ⟨dst, op, type, pos, after, guard⟩ := o
      simp only at ho; subst ho
      simp [execOp, Instr.loadAt, hp, Instr.sureAddr, hsame]
    simp [Oper.quietAt, this, Oper.quietUpon]

/-- A call that leaves no trace. -/
theorem aq_gives {ops : Array Oper} {l : List Oper} {o : Oper} {args : Array Operand} {argTypes : Array TypeId} {g : FuncId} {vs : List Value} {v : Value} {K : Env → Prop}
    (ho : o.op = .call { callee := .value (.func g), args, argTypes }) (ha : args.toList.mapM env.eval = some vs)
    (h : Gives P g vs N (ro σ) v) (hv : flat v = true) (hc : callableB P g = true) (hd : dstOk n o.dst = true) (hw : wantedA ops env o = some true)
    (k : AQ P n ops l (env.put o.dst v) N σ K) : AQ P n ops (o :: l) env N σ K := by
  intro ι w a Q he hr hq
  simp only [wpQuiet, wantedA_eq hw he, if_true]
  refine ⟨v, fun w' hw' => ?_, k ι w _ Q (he.put (dstOk_spec hd) (.of_flat hv)) hr hq⟩
  have hvs := evals he _ _ ha
  have : (execOp a.eval o).run P w' = .ok (.enter g (args.map a.eval)) w' := by
    obtain ⟨dst, op, type, pos, after, guard⟩ := o
    simp only at ho; subst ho
    simp [execOp, resolve, Deferred.ofValue, Act.eval, invoke, run_callFunc hc]
  simp only [Oper.quietAt, this, Oper.quietUpon, true_and]
  refine h ι w' _ _ (hr.below hw').ro (by simpa using hvs) fun ι1 w1 v1 v1' N1 σ1 ⟨h1, h2, h3⟩ hv1 r1 t1 => ?_
  subst h1
  have := (flat_iff hv).1 hv1
  subst this
  refine ⟨rfl, hw'.trans ⟨t1.os, t1.tape, t1.output, t1.size, fun β hβ => t1.frame β (Nat.lt_of_lt_of_le hβ hw'.size) ?_⟩⟩
  rintro ⟨i, b, L, g1, g2, _, _⟩
  simp only [ro, Option.map_eq_some_iff] at g1
  obtain ⟨b0, _, rfl⟩ := g1
  simp at g2
theorem aq_pureN {ops : Array Oper} {K : Env → Prop} : ∀ (k : Nat) {l : List Oper} {env env' : Env}, pureSteps P n ops (l.take k) env = some env' → AQ P n ops (l.drop k) env' N σ K → AQ P n ops l env N σ K
  | 0, l, env, env', h, hk => by simp only [List.take_zero, pureSteps, Option.some.injEq] at h; subst h; exact hk
  | k + 1, [], env, env', h, hk => by simp only [List.take_nil, pureSteps, Option.some.injEq] at h; subst h; exact hk
  | k + 1, o :: l, env, env', h, hk => by
    simp only [List.take_succ_cons, pureSteps, Option.bind_eq_some_iff] at h
    obtain ⟨e1, h1, h2⟩ := h
    exact aq_pure h1 (aq_pureN k h2 hk)
end
end Go.Abs
