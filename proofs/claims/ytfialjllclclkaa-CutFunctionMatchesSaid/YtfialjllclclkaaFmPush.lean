/- Shaken texts of the layer and of the walks. -/
import Derived.Test.YtfialjllclclkaaFmAny
namespace Go.Abs
section
variable {r : Bool} {P : Program} {n : Nat} {env : Env} {N : Nat} {σ : AHeap} {ops : Array Oper} {l : List Oper} {o1 o2 : Oper} {K : Env → Nat → AHeap → Prop}

theorem AOk.up {f : FuncId} {args : List Value} {Q : Value → Nat → AHeap → Prop} (h : AOk P f args N σ Q) : AOk P f args N σ (fun v N' σ' => Q v N' σ' ∧ N ≤ N') :=
  fun ι w cargs R hr ha hk => h ι w cargs R hr ha fun ι' w' v v' N' σ' q hv r t => hk ι' w' v v' N' σ' ⟨q, t.le⟩ hv r t

theorem al_push {t e : TypeId} {x y : Operand} {z s v : Value} {lo bytes c d : Nat} {olds : List Value}
    (ho1 : o1.op = .buildSlice t 1 #[(0, x)]) (ho2 : o2.op = .call { callee := .builtin .append, args := #[y, .tmp d], argTypes := #[t, t] }) (hd1 : o1.dst = some d)
    (hw1 : wantedA ops env o1 = some true) (hw2 : wantedA ops (env.put (some d) (.slice (some ⟨N, 0, none⟩) 1 1)) o2 = some true) (hdn : dstOk n o1.dst = true) (hdn2 : dstOk n o2.dst = true)
    (ht : P.underlying t = some (.slice e)) (hT : TyI P e z 1 bytes) (hz : spread z = [z]) (hzf : flat z = true) (hzc : z.cells.size = 1)
    (hx : env.eval x = some v) (hy : (env.put (some d) (.slice (some ⟨N, 0, none⟩) 1 1)).eval y = some s) (hv : spread v = [v]) (hv1 : v.oneCell' = true)
    (hown : OwnAt σ lo s olds c 1) (hlo : lo ≤ N) (hb : (c + 1) * bytes ≤ 140737488355328) (h63 : c + 1 ≤ 140737488355328)
    (k : ∀ N' σ' v', N ≤ N' → OwnAt σ' lo v' (olds ++ [v]) (c + 1) 1 → (∀ τ : AHeap, τ.le σ → (∀ i b, τ i = some b → i < lo) → τ.le σ') →
      AList P n ops l ((env.put (some d) (.slice (some ⟨N, 0, none⟩) 1 1)).put o2.dst v') N' σ' K) : AList P n ops (o1 :: o2 :: l) env N σ K := by
  refine al_fresh fun hN => ?_
  have hr : fillA (fun i => some (i * 1, 1)) (zerosA (spread z) (1 * 1)) [(0, v)] = some [v] := by
    simp [fillA, zerosA, hz, hv, splice]
  refine al_buildSlice (ps := [(0, v)]) (r := [v]) ho1 hw1 hdn ht hT (by rw [hz]; simp [hzf]) (by rw [hz]; rfl) (by decide) (by decide) (by simp [hx]) hr (by simp) ?_
  rw [hd1]
  refine al_append_own (u := .slice (some ⟨N, 0, none⟩) 1 1) (m := 1) (news := [v]) ho2 hw2 hdn2 ht hT hzc hy (by simp [Env.eval, Env.put, Env.get])
    (hown.mono (fun i b hi hb => by rw [AHeap.set_ne _ _ (Nat.ne_of_lt (hN i b hb))]; exact hb) (Nat.le_refl _)) (by omega) rfl (by simp only [srcA]; rw [AHeap.set_self]; rfl) rfl (by simp [hv1]) hb h63 ?_
  intro N' σ' v' h1 h2 h3
  refine k N' σ' v' (by omega) h2 fun τ hτ hlt => h3 τ (AHeap.le_set hτ fun i b hi => ?_) hlt
  have := hlt i b hi; omega
end
end Go.Abs

