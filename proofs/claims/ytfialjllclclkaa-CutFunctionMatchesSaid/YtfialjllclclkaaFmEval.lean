/- Shaken texts of the layer and of the walks. -/
import Derived.Test.YtfialjllclclkaaFmBody
namespace Go.Abs
section
variable {r : Bool} {P : Program} {n : Nat} {env : Env} {N : Nat} {σ : AHeap} {ι : Ren}

def dstOk (n : Nat) : Option Tmp → Bool
  | some d => decide (d < n)
  | none => true
theorem dstOk_spec {n : Nat} {o : Option Tmp} (h : dstOk n o = true) : ∀ d, o = some d → d < n := by
  intro d hd; subst hd; simpa [dstOk] using h

def pureStep (P : Program) (n : Nat) (ops : Array Oper) (env : Env) (o : Oper) : Option Env :=
  if dstOk n o.dst = true then
    match wantedA ops env o with
    | some true => (pureOp P env.eval o.op).map (env.put o.dst)
    | some false => some (env.put o.dst undef)
    | none => none
  else none

theorem al_pure {ops : Array Oper} {l : List Oper} {o : Oper} {env' : Env} {K : Env → Nat → AHeap → Prop} (h : pureStep P n ops env o = some env')
    (k : AList P n ops l env' N σ K) : AList P n ops (o :: l) env N σ K := by
  unfold pureStep at h
  split at h
  · rename_i hd
    split at h
    · rename_i hw
      simp only [Option.map_eq_some_iff] at h
      obtain ⟨v, hv, rfl⟩ := h
      exact al_step hw (dstOk_spec hd) (step_value (pureOp_plain hv) (fun ι a he => pureOp_sound hv he) k)
    · rename_i hw
      cases h
      exact al_skip hw (dstOk_spec hd) k
    · cases h
  · cases h

theorem awp_lit {id : Nat} {l : List Oper} {K : Exit → Env → Nat → AHeap → Prop} (h : AList P n l.toArray l env N σ (K .normal)) : AWp r P n (.region id l.toArray false) env N σ K :=
  awp_list (by simpa using h)

def pureSteps (P : Program) (n : Nat) (ops : Array Oper) : List Oper → Env → Option Env
  | [], env => some env
  | o :: l, env => (pureStep P n ops env o).bind (pureSteps P n ops l)
theorem al_pures {ops : Array Oper} {K : Env → Nat → AHeap → Prop} (ks : List Nat) : ∀ {l : List Oper} {env : Env} {env' : Env}, pureSteps P n ops l env = some env' → K (env'.keep ks) N σ → AList P n ops l env N σ K
  | [], env, env', h, k => by cases h; exact al_end ks k
  | o :: l, env, env', h, k => by
    simp only [pureSteps, Option.bind_eq_some_iff] at h
    obtain ⟨e1, h1, h2⟩ := h
    exact al_pure h1 (al_pures ks h2 k)
theorem awp_pures {id : Nat} {l : List Oper} {env' : Env} {K : Exit → Env → Nat → AHeap → Prop} (ks : List Nat) (h : pureSteps P n l.toArray l env = some env') (k : K .normal (env'.keep ks) N σ) :
    AWp r P n (.region id l.toArray false) env N σ K := awp_lit (al_pures ks h k)

theorem al_call {ops : Array Oper} {l : List Oper} {o : Oper} {f : Operand} {args : Array Operand} {argTypes : Array TypeId} {g : FuncId} {xs cs : Array Value} {vs : List Value} {K : Env → Nat → AHeap → Prop}
    (hd : dstOk n o.dst = true) (hw : wantedA ops env o = some true)
    (ho : o.op = .call { callee := .value f, args, argTypes }) (hf : env.eval f = some (.func (.func g) xs cs)) (ha : args.toList.mapM env.eval = some vs)
    (hc : callableB P g = true) (h : AOk P g (xs.toList ++ vs ++ cs.toList) N σ fun v N' σ' => AList P n ops l (env.put o.dst v) N' σ' K) : AList P n ops (o :: l) env N σ K :=
  al_step hw (dstOk_spec hd) (step_call ho hf ha hc h)
theorem al_gives {ops : Array Oper} {l : List Oper} {o : Oper} {args : Array Operand} {argTypes : Array TypeId} {g : FuncId} {vs : List Value} {v : Value} {K : Env → Nat → AHeap → Prop}
    (ho : o.op = .call { callee := .value (.func g), args, argTypes }) (ha : args.toList.mapM env.eval = some vs)
    (h : Gives P g vs N σ v) (hc : callableB P g = true) (hd : dstOk n o.dst = true) (hw : wantedA ops env o = some true)
    (k : AList P n ops l (env.put o.dst v) N σ K) : AList P n ops (o :: l) env N σ K :=
  al_call hd hw ho rfl ha hc (by
    have h' : AOk P g (#[].toList ++ vs ++ #[].toList) N σ fun v1 N1 σ1 => v1 = v ∧ N1 = N ∧ σ1 = σ := by unfold Gives at h; simpa using h
    exact h'.mono fun v1 N1 σ1 ⟨h1, h2, h3⟩ => by subst h1; subst h2; subst h3; exact k)

theorem al_pureN {ops : Array Oper} {K : Env → Nat → AHeap → Prop} : ∀ (k : Nat) {l : List Oper} {env env' : Env}, pureSteps P n ops (l.take k) env = some env' → AList P n ops (l.drop k) env' N σ K → AList P n ops l env N σ K
  | 0, l, env, env', h, hk => by simp only [List.take_zero, pureSteps, Option.some.injEq] at h; subst h; exact hk
  | k + 1, [], env, env', h, hk => by simp only [List.take_nil, pureSteps, Option.some.injEq] at h; subst h; exact hk
  | k + 1, o :: l, env, env', h, hk => by
    simp only [List.take_succ_cons, pureSteps, Option.bind_eq_some_iff] at h
    obtain ⟨e1, h1, h2⟩ := h
    exact al_pure h1 (al_pureN k h2 hk)

theorem ALoop.cast3 {c : Code} {env' : Env} {N' : Nat} {σ' : AHeap} {K : Exit → Env → Nat → AHeap → Prop} (h : ALoop r P n c env' N' σ' K) (he : env = env') (hN : N = N') (hs : σ = σ') : ALoop r P n c env N σ K := by
  subst he; subst hN; subst hs; exact h
theorem aloop_ind {c : Code} {K : Exit → Env → Nat → AHeap → Prop} {α : Type} (p : α → Prop) (μ : α → Nat) (e : α → Env) (Nf : α → Nat) (s : α → AHeap)
    (step : ∀ a, p a → (∀ b, p b → μ b < μ a → ALoop r P n c (e b) (Nf b) (s b) K) → AWp r P n c (e a) (Nf a) (s a) (Round r P n c K)) (a : α) (ha : p a) : ALoop r P n c (e a) (Nf a) (s a) K := by
  have key : ∀ m a, μ a = m → p a → ALoop r P n c (e a) (Nf a) (s a) K := by
    intro m
    induction m using Nat.strongRecOn with
    | _ m ih => exact fun a hm hp => aloop_round (step a hp fun b hb hlt => ih (μ b) (hm ▸ hlt) b rfl hb)
  exact key _ a rfl ha

end
end Go.Abs

