/- Shaken texts of the layer and of the walks. -/
import Derived.Test.YtfialjllclclkaaFmDraw
namespace Go.Abs
section
variable {r : Bool} {P : Program} {n : Nat} {env : Env} {N : Nat} {σ : AHeap} {ι : Ren} {ops : Array Oper} {l : List Oper} {o : Oper} {K : Env → Nat → AHeap → Prop}

theorem al_fresh (h : (∀ i b, σ i = some b → i < N) → AList P n ops l env N σ K) : AList P n ops l env N σ K :=
  fun F hF ds ι w a Q he hr hq => h (fun _ _ hb => hr.lt hb) F hF ds ι w a Q he hr hq
theorem aloop_fresh {c : Code} {K : Exit → Env → Nat → AHeap → Prop} (h : (∀ i b, σ i = some b → i < N) → ALoop r P n c env N σ K) : ALoop r P n c env N σ K :=
  fun F hF ds ι w a Q he hr hq => h (fun _ _ hb => hr.lt hb) F hF ds ι w a Q he hr hq

theorem al_fun {args : Array Operand} {argTypes : Array TypeId} {g : FuncId} {vs : List Value} {Q : Value → Nat → AHeap → Prop} (h : AOk P g vs N σ Q)
    (ho : o.op = .call { callee := .value (.func g), args, argTypes }) (ha : args.toList.mapM env.eval = some vs) (hc : callableB P g = true) (hd : dstOk n o.dst = true) (hw : wantedA ops env o = some true)
    (k : ∀ v N' σ', Q v N' σ' → AList P n ops l (env.put o.dst v) N' σ' K) : AList P n ops (o :: l) env N σ K :=
  al_call hd hw ho rfl ha hc (by
    have h' : AOk P g (#[].toList ++ vs ++ #[].toList) N σ Q := by simpa using h
    exact h'.mono k)

def OwnAt (σ : AHeap) (lo : Nat) (v : Value) (cells : List Value) (len sz : Nat) : Prop :=
  (v = .slice none 0 0 ∧ len = 0 ∧ cells = []) ∨ ∃ id cap, lo ≤ id ∧ v = .slice (some ⟨id, 0, none⟩) len cap ∧ len ≤ cap ∧ σ id = some ⟨cells, true, sz⟩ ∧ cells.length = len * sz
theorem OwnAt.nil {lo sz : Nat} : OwnAt σ lo (.slice none 0 0) [] 0 sz := .inl ⟨rfl, rfl, rfl⟩
theorem OwnAt.length {lo len sz : Nat} {v : Value} {cells : List Value} (h : OwnAt σ lo v cells len sz) : cells.length = len * sz := by
  rcases h with ⟨_, rfl, rfl⟩ | ⟨id, cap, _, _, _, _, h⟩
  · simp
  · exact h
theorem OwnAt.lenV {lo len sz : Nat} {v : Value} {cells : List Value} (h : OwnAt σ lo v cells len sz) : ∃ b c, v = .slice b len c := by
  rcases h with ⟨rfl, rfl, rfl⟩ | ⟨id, cap, _, rfl, _, _, h⟩
  · exact ⟨_, _, rfl⟩
  · exact ⟨_, _, rfl⟩
theorem OwnAt.mono {σ' : AHeap} {lo lo' len sz : Nat} {v : Value} {cells : List Value} (h : OwnAt σ lo v cells len sz) (hl : ∀ i b, lo ≤ i → σ i = some b → σ' i = some b) (hlo : lo' ≤ lo) : OwnAt σ' lo' v cells len sz := by
  rcases h with h | ⟨id, cap, h1, h2, h3, h4, h5⟩
  · exact .inl h
  · exact .inr ⟨id, cap, Nat.le_trans hlo h1, h2, h3, hl _ _ h1 h4, h5⟩
theorem OwnAt.slAt {lo len : Nat} {v : Value} {cells : List Value} (h : OwnAt σ lo v cells len 1) : SlAt σ v cells := by
  rcases h with ⟨rfl, _, rfl⟩ | ⟨id, cap, _, rfl, _, h4, h5⟩
  · exact .inl ⟨rfl, rfl⟩
  · rw [Nat.mul_one] at h5
    exact .inr ⟨id, 0, cap, _, by rw [h5], h4, (fun j x hx => by simpa using hx), rfl⟩
theorem al_append_own {t e : TypeId} {x y : Operand} {z s u : Value} {lo size bytes c m : Nat} {olds news : List Value}
    (ho : o.op = .call { callee := .builtin .append, args := #[x, y], argTypes := #[t, t] }) (hw : wantedA ops env o = some true) (hd : dstOk n o.dst = true)
    (ht : P.underlying t = some (.slice e)) (hT : TyI P e z size bytes) (hzs : z.cells.size = size)
    (hx : env.eval x = some s) (hy : env.eval y = some u) (hown : OwnAt σ lo s olds c size) (hlo : lo ≤ N) (hu : lenA u = some m)
    (hn : srcA σ size u = some news) (hnl : news.length = m * size) (hsc : news.all (·.oneCell') = true)
    (hb : (c + m) * bytes ≤ 140737488355328) (h63 : c + m ≤ 140737488355328)
    (k : ∀ N' σ' v', N ≤ N' → OwnAt σ' lo v' (olds ++ news) (c + m) size → (∀ τ : AHeap, τ.le σ → (∀ i b, τ i = some b → i < lo) → τ.le σ') → AList P n ops l (env.put o.dst v') N' σ' K) : AList P n ops (o :: l) env N σ K := by
  refine al_fresh fun hN => ?_
  by_cases hm : m = 0
  · subst hm
    have hnil : news = [] := List.eq_nil_of_length_eq_zero (by simpa using hnl)
    subst hnil
    obtain ⟨b', c', hs⟩ := hown.lenV
    subst hs
    refine al_append_none ho hw hd ht hT hx hy hu (k N σ _ (Nat.le_refl _) (by simpa using hown) fun τ hτ _ => hτ)
  · rcases hown with ⟨rfl, rfl, rfl⟩ | ⟨id, cap, h1, rfl, h3, h4, h5⟩
    · refine al_append (root := none) (c := 0) (olds := []) ho hw hd ht hT hzs hx hy rfl hu (by omega) rfl hn hsc (fun i off h => by cases h) hb h63 ?_
      refine k _ _ _ (Nat.le_succ _) (.inr ⟨N, 0 + m, hlo, rfl, Nat.le_refl _, AHeap.set_self _ _ _, by simpa using hnl⟩) fun τ hτ hlt => ?_
      exact AHeap.le_set hτ fun i b hi => by have := hlt i b hi; omega
    · have hidN := hN id _ h4
      have hsrc : srcA σ size (.slice (some ⟨id, 0, none⟩) c cap) = some olds := by
        by_cases hc : c = 0
        · subst hc
          have : olds = [] := List.eq_nil_of_length_eq_zero (by simpa using h5)
          subst this; rfl
        · simp only [srcA, if_neg hc, h4, Option.bind_some, cellsA, Nat.zero_add]
          rw [if_pos (by omega), ← h5, List.drop_zero, List.take_length]
      refine al_append (root := some (id, 0)) (c := c) (olds := olds) ho hw hd ht hT hzs hx hy rfl hu (by omega) hsrc hn hsc (fun i off h => by cases h; exact ⟨_, h4, rfl, rfl⟩) hb h63 ?_
      refine k _ _ _ (Nat.le_succ _) (.inr ⟨N, c + m, hlo, rfl, Nat.le_refl _, AHeap.set_self _ _ _, by rw [List.length_append, h5, hnl, Nat.add_mul]⟩) fun τ hτ hlt => ?_
      intro i b hi
      have hil := hlt i b hi
      rw [AHeap.set_ne _ _ (by omega)]
      show (killA σ (some (id, 0))) i = _
      rw [killA, AHeap.del_ne _ (by omega)]
      exact hτ i b hi
end
end Go.Abs

