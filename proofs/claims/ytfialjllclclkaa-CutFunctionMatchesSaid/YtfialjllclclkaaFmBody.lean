/- Shaken texts of the layer and of the walks. -/
import Derived.Test.YtfialjllclclkaaFmCalls
namespace Go.Abs
section
variable {r : Bool} {P : Program} {n : Nat} {env : Env} {N : Nat} {σ : AHeap} {ι : Ren}

def boundA (env : Env) (d : Nat) : Option Operand → Option Nat
  | none => some d
  | some x => match env.eval x with
    | some (.int _ i) => if 0 ≤ i then some i.toNat else none
    | _ => none

theorem boundA_rel {ds : List Deferred} {a : Act} (he : EnvRel ι n ds env a) {d v : Nat} {y : Option Operand} (h : boundA env d y = some v) :
    (y = none ∧ v = d) ∨ (∃ x k j, y = some x ∧ a.eval x = .int k j ∧ 0 ≤ j ∧ j.toNat = v) := by
  cases y with
  | none => simp only [boundA, Option.some.injEq] at h; exact .inl ⟨rfl, h.symm⟩
  | some x =>
    simp only [boundA] at h
    split at h
    · rename_i k j hj
      split at h
      · rename_i hpos
        exact .inr ⟨x, k, j, rfl, (he.eval hj).int_inv, hpos, by simpa using h⟩
      · cases h
    · cases h
theorem run_sliceBounds {ds : List Deferred} {a : Act} (he : EnvRel ι n ds env a) {len cap l h : Nat} {lo hi : Option Operand} (hlo : boundA env 0 lo = some l) (hhi : boundA env len hi = some h) (h1 : l ≤ h) (h2 : h ≤ cap) (w : World) :
    (Instr.sliceBounds true len cap (lo.map a.eval) (hi.map a.eval) none).run P w = .ok (l, h, cap) w := by
  have bound : ∀ (k : IntKind) (j : Int) (v m : Nat) (code : BoundsCode), 0 ≤ j → j.toNat = v → v ≤ m → (Instr.sliceBound (.int k j) m code).run P w = .ok v w := by
    intro k j v m code h3 h4 h5
    subst h4
    simp only [Instr.sliceBound, asIntOf, Sem.run_bind, Sem.run_pure, Result.andThen_ok]
    rw [if_pos ⟨h3, by omega⟩]; rfl
  rcases boundA_rel he hlo with ⟨rfl, rfl⟩ | ⟨x, k, j, rfl, e1, e2, e3⟩ <;> rcases boundA_rel he hhi with ⟨rfl, rfl⟩ | ⟨x', k', j', rfl, e4, e5, e6⟩
  · simp [Instr.sliceBounds]
  · simp [Instr.sliceBounds, e4, bound k' j' h cap _ e5 e6 h2]
  · simp [Instr.sliceBounds, e1, bound k j l h _ e2 e3 h1]
  · simp [Instr.sliceBounds, e1, e4, bound k' j' h cap _ e5 e6 h2, bound k j l h _ e2 e3 h1]

theorem step_slice {o : Oper} {t e : TypeId} {x : Operand} {lo hi : Option Operand} {inf : TypeInfo} {i off len cap l h : Nat} {b : Blk} {K : Value → Nat → AHeap → Prop}
    (ho : o.op = .slice t x lo hi none) (ht : P.underlying t = some (.slice e)) (hi' : P.info? e = some inf) (hx : env.eval x = some (.slice (some ⟨i, off, none⟩) len cap))
    (hb : σ i = some b) (hesz : b.esz = inf.size) (hlo : boundA env 0 lo = some l) (hhi : boundA env len hi = some h) (h1 : l ≤ h) (h2 : h ≤ cap)
    (kk : K (.slice (some ⟨i, off + l * inf.size, none⟩) (h - l) (cap - l)) N σ) : StepQ P n o env N σ K := by
  intro F hF ds ι w a next Q he hr hq
  obtain ⟨L, f1, f2⟩ := hr.blk i b hb
  generalize hp : a.eval x = p
  have hx' := hp ▸ he.eval hx
  cases hx' with
  | slice g1 g2 g3 g4 g5 =>
    rename_i x0 c' L'
    rw [f1] at g1; cases g1
    have hL : L.esz = inf.size := f2.esz hesz
    have hsb := run_sliceBounds (P := P) he hlo hhi h1 (Nat.le_trans h2 g4) w
    have : (execOp a.eval o).run P w = .ok (.value (.slice (if c' = l then some ⟨L.blk, x0, none⟩ else some ⟨L.blk, x0 + l * inf.size, none⟩) (h - l) (c' - l))) w := by
      obtain ⟨dst, op, type, pos, after, guard⟩ := o
      simp only at ho; subst ho
      simp [execOp, Instr.sliceAt, run_underlying ht, Instr.slice, hp, hsb, sizeOf, typeInfo, hi', Addr.add_plain]
    refine wpIn_of_run hF (by rw [ho]; simp) this ?_
    refine hq ι w _ _ N σ kk ?_ hr (Tr.refl _ _ _ _)
    by_cases hc : c' = l
    · rw [if_pos hc]
      exact .slice f1 (.inr (by omega)) (by omega) (by omega) (.inl (by omega))
    · rw [if_neg hc]
      have hmul : l * inf.size + (c' - l) * L.esz = c' * L.esz := by rw [hL, ← Nat.add_mul]; congr 1; omega
      refine .slice f1 ?_ (by omega) (by omega) (by omega)
      rcases g2 with g2 | ⟨g2, g6⟩
      · exact .inl (by omega)
      · exact .inr (by omega)
theorem step_slice_nil {o : Oper} {t e : TypeId} {x : Operand} {lo hi : Option Operand} {inf : TypeInfo} {K : Value → Nat → AHeap → Prop}
    (ho : o.op = .slice t x lo hi none) (ht : P.underlying t = some (.slice e)) (hi' : P.info? e = some inf) (hx : env.eval x = some (.slice none 0 0))
    (hlo : boundA env 0 lo = some 0) (hhi : boundA env 0 hi = some 0)
    (kk : K (.slice none 0 0) N σ) : StepQ P n o env N σ K := by
  refine step_value (by rw [ho]; simp) (fun ι a he => ⟨.slice none 0 0, fun w => ?_, .nils⟩) kk
  generalize hp : a.eval x = p
  have hx' := hp ▸ he.eval hx
  cases hx'
  have hsb := run_sliceBounds (P := P) he hlo hhi (Nat.le_refl _) (Nat.le_refl _) w
  obtain ⟨dst, op, type, pos, after, guard⟩ := o
  simp only at ho; subst ho
  simp [execOp, Instr.sliceAt, run_underlying ht, Instr.slice, hp, hsb, sizeOf, typeInfo, hi']

def callableB (P : Program) (f : FuncId) : Bool :=
  match P.funcs[f]? with
  | some fn => !(fn.name == "runtime.NumGoroutine") && !fn.body.isNone
  | none => false
theorem run_callFunc {f : FuncId} (h : callableB P f = true) (args : Array Value) (w : World) : (callFunc f args).run P w = .ok (.enter f args) w := by
  unfold callableB at h
  split at h
  · rename_i fn hfn
    simp only [Bool.and_eq_true, Bool.not_eq_true'] at h
    have h1 : ¬ (fn.name = "runtime.NumGoroutine") := by simpa using h.1
    have h2 : fn.body ≠ none := by intro h2; rw [h2] at h; simp at h
    simp [callFunc, hfn, h1, h2]
  · cases h

theorem step_call {o : Oper} {f : Operand} {args : Array Operand} {argTypes : Array TypeId} {g : FuncId} {xs cs : Array Value} {vs : List Value} {K : Value → Nat → AHeap → Prop}
    (ho : o.op = .call { callee := .value f, args, argTypes }) (hf : env.eval f = some (.func (.func g) xs cs)) (ha : args.toList.mapM env.eval = some vs)
    (hc : callableB P g = true) (h : AOk P g (xs.toList ++ vs ++ cs.toList) N σ K) : StepQ P n o env N σ K := by
  intro F hF ds ι w a next Q he hr hq
  generalize hp : a.eval f = p
  have hf' := hp ▸ he.eval hf
  cases hf' with
  | func g0 g1 g2 g3 g4 =>
    rename_i ys dsv
    have hvs := evals he _ _ ha
    have : (execOp a.eval o).run P w = .ok (.enter g (ys ++ args.map a.eval ++ dsv)) w := by
      obtain ⟨dst, op, type, pos, after, guard⟩ := o
      simp only at ho; subst ho
      simp [execOp, resolve, Deferred.ofValue, hp, invoke, run_callFunc hc]
    refine wpIn_of_run hF (by rw [ho]; simp) this ⟨fun hd => absurd hd hF.depth, hF.calls (h ι w _ _ hr ?_ (fun ι' w' v v' N' σ' k hv r1 t1 => hq ι' w' v v' N' σ' k hv r1 t1)) _⟩
    refine ⟨?_, fun i v v' hv hv' => ?_⟩
    · have := hvs.1
      simp at this
      simp [g1, g2, this]
    · have hxs : VRels ι xs.toList ys.toList := ⟨by simpa using g1, fun i v v' a b => g3 i v v' (by simpa using a) (by simpa using b)⟩
      have hcs : VRels ι cs.toList dsv.toList := ⟨by simpa using g2, fun i v v' a b => g4 i v v' (by simpa using a) (by simpa using b)⟩
      have app : ∀ {a b c d : List Value}, VRels ι a c → VRels ι b d → VRels ι (a ++ b) (c ++ d) := by
        intro a b c d h1 h2
        refine ⟨by simp [h1.1, h2.1], fun j v v' p q => ?_⟩
        by_cases h : j < a.length
        · rw [List.getElem?_append_left h] at p; rw [List.getElem?_append_left (h1.1 ▸ h)] at q
          exact h1.2 j v v' p q
        · rw [List.getElem?_append_right (by omega)] at p; rw [List.getElem?_append_right (by rw [← h1.1]; omega)] at q
          rw [h1.1] at p
          exact h2.2 _ v v' p q
      exact (app (app hxs hvs) hcs).2 i v v' hv (by simpa using hv')

def resOneA (P : Program) (env : Env) (σ : AHeap) : ResultVar → Option Value
  | .tmp t => env.get t
  | .cell a t => match env.get a with
    | some (.pointer (some ⟨i, off, none⟩)) => (σ i).bind fun b => loadA P t b off
    | _ => none
def resA (P : Program) (fn : Func) (env : Env) (σ : AHeap) : Option Value :=
  (fn.results.toList.mapM (resOneA P env σ)).map fun l => match l with
    | [v] => v
    | l => .tuple l.toArray

theorem run_results {fn : Func} {ds : List Deferred} {a : Act} {w : World} (he : EnvRel ι n ds env a) (hr : Rel ι N σ w) {v : Value} (h : resA P fn env σ = some v) :
    ∃ v', (results fn a.tmps).run P w = .ok v' w ∧ VRel ι v v' := by
  have one : ∀ r v, resOneA P env σ r = some v → ∃ v', ((match r with
      | .tmp t => pure (a.tmps.getD t undef)
      | .cell b t => do loadVar t (← asAddr (a.tmps.getD b undef)) : Sem Value)).run P w = .ok v' w ∧ VRel ι v v' := by
    intro r v hv
    cases r with
    | tmp t =>
      obtain ⟨v', h1, h2⟩ := he.get t v hv
      exact ⟨v', by simp [h1], h2⟩
    | cell b t =>
      simp only [resOneA] at hv
      split at hv
      · rename_i i off hb
        simp only [Option.bind_eq_some_iff] at hv
        obtain ⟨blk, h1, h2⟩ := hv
        obtain ⟨p, g1, g2⟩ := he.get b _ hb
        cases g2 with
        | ptr g3 =>
          obtain ⟨L, f1, f2⟩ := hr.blk i blk h1
          rw [g3] at f1; cases f1
          obtain ⟨v', q1, q2⟩ := run_loadA (P := P) f2 h2
          exact ⟨v', by simp [g1, asAddr, q1 w rfl], q2⟩
      · cases hv
  have all : ∀ (l : List ResultVar) (vs : List Value), l.mapM (resOneA P env σ) = some vs → ∃ vs', (l.mapM (fun r => (match r with
      | .tmp t => pure (a.tmps.getD t undef)
      | .cell b t => do loadVar t (← asAddr (a.tmps.getD b undef)) : Sem Value))).run P w = .ok vs' w ∧ VRels ι vs vs' := by
    intro l
    induction l with
    | nil => intro vs h; simp at h; subst h; exact ⟨[], rfl, VRels.nil⟩
    | cons r l ih =>
      intro vs h
      simp only [List.mapM_cons] at h
      cases hv : resOneA P env σ r with
      | none => simp [hv] at h
      | some v =>
        cases hl : l.mapM (resOneA P env σ) with
        | none => simp [hv, hl] at h
        | some us =>
          simp [hv, hl] at h
          subst h
          obtain ⟨v', h1, h2⟩ := one r v hv
          obtain ⟨us', h3, h4⟩ := ih us hl
          refine ⟨v' :: us', ?_, VRels.cons h2 h4⟩
          simp only [List.mapM_cons, Sem.run_bind, h1, Result.andThen_ok, h3, Sem.run_pure]
  unfold resA at h
  simp only [Option.map_eq_some_iff] at h
  obtain ⟨l, hl, rfl⟩ := h
  obtain ⟨l', h1, h2⟩ := all _ _ hl
  have hrun : (fn.results.mapM (fun r => (match r with
      | .tmp t => pure (a.tmps.getD t undef)
      | .cell b t => do loadVar t (← asAddr (a.tmps.getD b undef)) : Sem Value))).run P w = .ok l'.toArray w := by
    rw [Array.mapM_eq_mapM_toList]
    simp only [Sem.run_map, h1, Result.andThen_ok]
  refine ⟨if h : l'.toArray.size = 1 then l'.toArray[0] else .tuple l'.toArray, ?_, ?_⟩
  · unfold results
    simp only [Sem.run_bind]
    erw [hrun]
    simp only [Result.andThen_ok, Sem.run_pure]
  · split
    · rename_i v hv
      obtain ⟨y, ys, rfl, hy, hys⟩ := h2.uncons
      cases hys.of_nil
      simpa using hy
    · rename_i hne
      have hsz : ¬ (l'.toArray.size = 1) := by
        simp only [List.size_toArray, ← h2.1]
        intro h1
        obtain ⟨v, hv⟩ := List.length_eq_one_iff.1 h1
        exact hne v hv
      rw [dif_neg hsz]
      exact .tuple h2.toArray.1 h2.toArray.2

def Ends (P : Program) (fn : Func) (Q : Value → Nat → AHeap → Prop) : Exit → Env → Nat → AHeap → Prop
  | .normal, env, N, σ | .ret, env, N, σ => ∃ v, resA P fn env σ = some v ∧ Q v N σ
  | _, _, _, _ => False

theorem Rel.shut {w : World} (h : Rel ι N σ w) {D : Nat} {d : Option (List Deferred)} (hD : w.heap[D]? = some (.deferred d)) (o : Obj) : Rel ι N σ (w.putObj D o) := by
  refine ⟨h.dom, fun i b hb => ?_, h.inj⟩
  obtain ⟨L, h1, h2⟩ := h.blk i b hb
  refine ⟨L, h1, h2.same (Ext.refl _) (World.putObj_heap_other ?_)⟩
  rintro rfl
  obtain ⟨o', h3, h4⟩ := h2.obj
  rw [hD] at h3; cases h3
  exact h4 _ rfl
theorem Tr.shut {ι' : Ren} {N' : Nat} {σ' : AHeap} {w w' : World} (h : Tr ι N σ w ι' N' σ' w') {D : Nat} (hD : w.heap.size ≤ D) (o : Obj) : Tr ι N σ w ι' N' σ' (w'.putObj D o) :=
  ⟨h.ext, h.old, h.le, h.os, h.tape, h.output, by rw [World.putObj_size]; exact h.size, fun β hb ho => by rw [World.putObj_heap_other (by omega)]; exact h.frame β hb ho, h.own⟩
theorem Marks.shut {lo : Nat} {w : World} {ms : List Deferred} (h : Marks lo w ms) {D : Nat} (hD : ∀ d ∈ ms, d.target ≠ .collected D) (o : Obj) : Marks lo (w.putObj D o) ms := by
  induction h with
  | nil => exact .nil
  | cons h1 h2 h3 _ ih =>
    refine .cons h1 ?_ h3 (ih fun d hd => hD d (List.mem_cons_of_mem _ hd))
    rw [World.putObj_heap_other ?_]
    · exact h2
    · rintro rfl; exact hD _ List.mem_cons_self rfl
theorem leaves_marks {fn : Func} {tmps : Array Value} {R : Ending → World → Prop} {ι0 : Ren} {N0 : Nat} {σ0 : AHeap} {w0 : World} : ∀ (ms : List Deferred) (w : World), Marks w0.heap.size w ms → Rel ι N σ w → Tr ι0 N0 σ0 w0 ι N σ w →
    (∀ w', Rel ι N σ w' → Tr ι0 N0 σ0 w0 ι N σ w' → ∃ v, (results fn tmps).run P w' = .ok v w' ∧ R (.returned v) w') → LeavesInM Fence.wide 0 P fn tmps R ms .returning w
  | [], w, _, hr, ht, h => h w hr ht
  | _ :: ms, w, .cons h1 h2 h3 h4, hr, ht, h => by
    refine ⟨by simp, .inl ⟨_, _, rfl, run_takeDeferred h2, ?_⟩⟩
    exact leaves_marks ms _ (h4.shut h3 _) (hr.shut h2 _) (ht.shut h1 _) h
theorem aok_body {f : FuncId} {fn : Func} {c : Code} {args : List Value} {Q : Value → Nat → AHeap → Prop} (hf : P.funcs[f]? = some fn) (hb : fn.body = some c) (hn : fn.ntmps = n) (hlen : args.length ≤ n)
    (h : AWp r P n c (initEnv 0 args) N σ (Ends P fn Q)) : AOk P f args N σ Q := by
  intro ι w cargs R hr ha hk
  refine callsIn_wide.1 (callsIn_of_wp_marks (n := 0) hf hb trivial (h _ (.inl rfl) [] ι w _ _ ?_ hr ?_))
  · refine ⟨?_, rfl, fun t v ht => ?_⟩
    · have := ha.1
      simp at this
      simp [hn]; omega
    · obtain ⟨_, h1⟩ := initEnv_get args 0 t v ht
      obtain ⟨v', h2, h3⟩ := ha.get h1
      refine ⟨v', ?_, h3⟩
      simp only [Nat.sub_zero, Array.getElem?_toList] at h2
      rw [Array.getElem?_append_left (Array.getElem?_eq_some_iff.1 h2).1, h2]
  · intro ms e ι1 w1 a1 env1 N1 σ1 m k e1 r1 t1
    cases e <;> simp only [Ends] at k <;> try exact k.elim
    all_goals
      obtain ⟨v, hv, hq⟩ := k
      have hd : a1.defers = ms := by have := e1.defers; simpa using this
      simp only [bodyPostM, hd]
      refine leaves_marks ms w1 m.2 r1 t1 fun w' r' t' => ?_
      obtain ⟨v', g1, g2⟩ := run_results (P := P) e1 r' hv
      exact ⟨v', g1, hk ι1 w' v v' N1 σ1 hq g2 r' t'⟩

theorem aok_fresh {f : FuncId} {args : List Value} {Q : Value → Nat → AHeap → Prop} (h : (∀ i b, σ i = some b → i < N) → AOk P f args N σ Q) : AOk P f args N σ Q :=
  fun ι w cargs R hr ha hk => h (fun _ _ hb => hr.lt hb) ι w cargs R hr ha hk
theorem awp_fresh {c : Code} {K : Exit → Env → Nat → AHeap → Prop} (h : (∀ i b, σ i = some b → i < N) → AWp r P n c env N σ K) : AWp r P n c env N σ K :=
  fun F hF ds ι w a Q he hr hq => h (fun _ _ hb => hr.lt hb) F hF ds ι w a Q he hr hq
theorem AHeap.le_set {σ σ' : AHeap} {k : Nat} {b : Blk} (h : σ.le σ') (hk : ∀ i b, σ i = some b → i ≠ k) : σ.le (σ'.set k b) := fun i b' hi => by
  rw [AHeap.set_ne _ _ (hk i b' hi)]; exact h i b' hi

def Gives (P : Program) (f : FuncId) (args : List Value) (N : Nat) (σ : AHeap) (v : Value) : Prop :=
  AOk P f args N σ fun v1 N1 σ1 => v1 = v ∧ N1 = N ∧ σ1 = σ

theorem gives_of {f : FuncId} {args : List Value} {v : Value} (hv : flat v = true) (h : AOk P f args N σ fun v1 _ σ1 => v1 = v ∧ σ.le σ1) : Gives P f args N σ v := by
  intro ι w cargs R hr ha hk
  refine h ι w cargs R hr ha fun ι1 w1 v1 v1' N1 σ1 ⟨hv1, hle⟩ hv' r1 t1 => ?_
  subst hv1
  have hvv := (flat_iff hv).1 hv'
  subst hvv
  have hx : Ext ι ι := Ext.refl ι
  refine hk ι w1 v1' v1' N σ ⟨rfl, rfl, rfl⟩ (.of_flat hv) ⟨hr.dom, fun i b hb => ?_, ?_⟩ ?_
  · obtain ⟨L, g1, g2⟩ := hr.blk i b hb
    obtain ⟨L1, f1, f2⟩ := r1.blk i b (hle i b hb)
    rw [t1.ext _ _ g1] at f1; cases f1
    refine ⟨L, g1, ?_⟩
    unfold BlkRel at g2 f2 ⊢
    split at g2
    · rename_i kk hkk
      rw [hkk] at f2
      obtain ⟨g0, c0, e0, fz0, p1, p2, p3, p4, p5⟩ := g2
      obtain ⟨_, c, e, fz, q1, q2, q3, q4, q5⟩ := f2
      refine ⟨g0, c, e, fz, q1, q2, q3, q4, fun j u hu => ?_⟩
      obtain ⟨u', s1, s2⟩ := q5 j u hu
      obtain ⟨u0, s3, s4⟩ := p5 j u hu
      exact ⟨u', s1, s4.back hx t1.ext s2⟩
    · rename_i ii ss hkk
      rw [hkk] at f2
      obtain ⟨g0, q0, p1, p2⟩ := g2
      obtain ⟨_, q, q1, q2⟩ := f2
      refine ⟨g0, q, q1, q2.state, q2.pending, q2.params, q2.assign, q2.body, q2.size, fun t u hu => ?_⟩
      obtain ⟨u', s1, s2⟩ := q2.get t u hu
      obtain ⟨u0, s3, s4⟩ := p2.get t u hu
      exact ⟨u', s1, s4.back hx t1.ext s2⟩
    · rename_i es hkk
      rw [hkk] at f2
      obtain ⟨g0, ms0, t0, p1, p2, p3, _⟩ := g2
      obtain ⟨_, ms, t, q1, q2, q3, q4⟩ := f2
      refine ⟨g0, ms, t, q1, q2, fun j k u hu => ?_, q4⟩
      obtain ⟨e, s1, s2, s2'⟩ := q3 j k u hu
      obtain ⟨e0, s3, s4, s4'⟩ := p3 j k u hu
      exact ⟨e, s1, s4.back hx t1.ext s2, s4'.back hx t1.ext s2'⟩
  · exact hr.inj
  · refine ⟨hx, fun _ _ => rfl, Nat.le_refl _, t1.os, t1.tape, t1.output, t1.size, t1.frame, fun β ho => ?_⟩
    obtain ⟨i, b, L, h1, h2, h3, h4⟩ := ho
    exact .inl ⟨i, b, L, h1, h2, h3, h4⟩
end
end Go.Abs

