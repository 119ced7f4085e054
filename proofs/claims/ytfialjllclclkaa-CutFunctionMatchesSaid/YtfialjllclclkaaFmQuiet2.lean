/- Shaken texts of the layer and of the walks. -/
import Derived.Test.YtfialjllclclkaaFmTb
import Derived.Test.YtfialjllclclkaaFmSteps
namespace Go.Abs
section
variable {r : Bool} {P : Program} {n : Nat} {ops : Array Oper} {env : Env} {N : Nat} {σ : AHeap} {K : Env → AHeap → Prop}
theorem AHeap.set_set (σ : AHeap) (i : Nat) (b b' : Blk) : (σ.set i b).set i b' = σ.set i b' := by
  funext j
  unfold AHeap.set
  split <;> rfl
theorem dom_set {b : Blk} (hN : ∀ i b, σ i = some b → i < N) : ∀ i b', (σ.set N b) i = some b' → i < N + 1 := fun i b' h => by
  unfold AHeap.set at h
  split at h
  · omega
  · have := hN i b' h; omega
theorem dom_up {M : Nat} (hN : ∀ i b, σ i = some b → i < N) (hM : N ≤ M) : ∀ i b, σ i = some b → i < M := fun i b h => Nat.lt_of_lt_of_le (hN i b h) hM
theorem le_new {b : Blk} {M : Nat} (hN : ∀ i b, σ i = some b → i < N) (hM : N ≤ M) : σ.le (σ.set M b) := AHeap.le_set (AHeap.le_refl _) fun i b hb => Nat.ne_of_lt (Nat.lt_of_lt_of_le (hN i b hb) hM)
theorem AHeap.le.trans {σ σ1 σ2 : AHeap} (h : σ.le σ1) (h2 : σ1.le σ2) : σ.le σ2 := fun i b hb => h2 i b (h i b hb)
def noW : Nat → Nat → Prop := fun _ _ => False
noncomputable def qv (N : Nat) (σ : AHeap) : AHeap := viewOf (fun j => j < N) (fun _ => False) σ
theorem calm_iff {i j : Nat} : Calm ops N noW i j ↔ j < N := ⟨fun h => h.1, fun h => ⟨h, fun _ hw => hw.elim⟩⟩
theorem qv_get (hN : ∀ i b, σ i = some b → i < N) {i : Nat} {b : Blk} (h : σ i = some b) (hr : b.row) : ∃ b', qv N σ i = some b' ∧ b'.cells = b.cells ∧ b'.esz = b.esz := by
  obtain ⟨b', h1, h2, h3, _⟩ := viewOf_get (T := fun j => j < N) (W := fun _ => False) (hN i b h) h (.inl hr)
  exact ⟨b', h1, h2, h3⟩
theorem SlAt.qv (hN : ∀ i b, σ i = some b → i < N) {v : Value} {vs : List Value} (h : SlAt σ v vs) : SlAt (qv N σ) v vs := by
  rcases h with h | ⟨id, off, cap, b, h1, h2, h3, h4⟩
  · exact .inl h
  · obtain ⟨b', g1, g2, g3⟩ := qv_get hN h2 ⟨_, h4⟩
    exact .inr ⟨id, off, cap, b', h1, g1, by rw [g2]; exact h3, by rw [g3]; exact h4⟩
theorem RowsAt.qv (hN : ∀ i b, σ i = some b → i < N) {sz : Nat} {v : Value} {rows : List (List Value)} (h : RowsAt σ sz v rows) : RowsAt (qv N σ) sz v rows := by
  rcases h with h | ⟨id, off, cap, b, h1, h2, h3, h4⟩
  · exact .inl h
  · obtain ⟨b', g1, g2, g3⟩ := qv_get hN h2 ⟨_, h4⟩
    refine .inr ⟨id, off, cap, b', h1, g1, fun j r hr => ?_, by rw [g3]; exact h4⟩
    have := h3 j r hr
    unfold cellsA at this ⊢
    rw [g2]; exact this
theorem awp_quiet {id : Nat} {l : List Oper} {K : Exit → Env → Nat → AHeap → Prop} (ks : List Nat) (hst : drawnB P l [] = true)
    (h : (∀ i b, σ i = some b → i < N) → TB P n l.toArray N noW [] (fun _ => N) (fun e s => K .normal (e.keep ks) N s) 0 l env σ) : AWp r P n (.region id l.toArray true) env N σ K :=
  awp_fresh fun hN => awp_tbk ks noW [] (fun _ => N) hst rfl (h hN)
theorem tq_pures (k : Nat) {i : Nat} {l : List Oper} {env' : Env} (h : pureSteps P n ops (l.take k) env = some env') (hk : TB P n ops N noW [] (fun _ => N) K (i + k) (l.drop k) env' σ) : TB P n ops N noW [] (fun _ => N) K i l env σ :=
  tb_pures k i h (fun _ _ => rfl) hk
theorem tq_load {i : Nat} {o : Oper} {l : List Oper} {t : TypeId} {x : Operand} {id off : Nat} {b : Blk} {v : Value} (hN : ∀ i b, σ i = some b → i < N) (ho : o.op = .load t x) (hw : wantedA ops env o = some true) (hd : dstOk n o.dst = true)
    (hx : env.eval x = some (.pointer (some ⟨id, off, none⟩))) (hb : σ id = some b) (hrow : b.row) (hv : loadA P t b off = some v)
    (k : TB P n ops N noW [] (fun _ => N) K (i + 1) l (env.put o.dst v) σ) : TB P n ops N noW [] (fun _ => N) K i (o :: l) env σ :=
  tb_load hd hw ho hx hb hrow (calm_iff.2 (hN _ _ hb)) hv rfl k
theorem tq_gives {i : Nat} {o : Oper} {l : List Oper} {args : Array Operand} {argTypes : Array TypeId} {g : FuncId} {vs : List Value} {v : Value}
    (ho : o.op = .call { callee := .value (.func g), args, argTypes }) (ha : args.toList.mapM env.eval = some vs)
    (h : ∀ m, Gives P g vs m (qv N σ) v) (hc : callableB P g = true) (hd : dstOk n o.dst = true) (hw : wantedA ops env o = some true)
    (k : TB P n ops N noW [] (fun _ => N) K (i + 1) l (env.put o.dst v) σ) : TB P n ops N noW [] (fun _ => N) K i (o :: l) env σ := by
  refine tb_gives ho ha (fun m => ?_) hc hd hw rfl k
  have e : (Calm ops N noW i) = fun j => j < N := funext fun j => propext calm_iff
  rw [e]; exact h m
theorem tq_givesC {i : Nat} {o : Oper} {l : List Oper} {f : Operand} {args : Array Operand} {argTypes : Array TypeId} {g : FuncId} {xs cs : Array Value} {vs : List Value} {v : Value}
    (ho : o.op = .call { callee := .value f, args, argTypes }) (hf : env.eval f = some (.func (.func g) xs cs)) (ha : args.toList.mapM env.eval = some vs)
    (h : ∀ m, Gives P g (xs.toList ++ vs ++ cs.toList) m (qv N σ) v) (hc : callableB P g = true) (hd : dstOk n o.dst = true) (hw : wantedA ops env o = some true)
    (k : TB P n ops N noW [] (fun _ => N) K (i + 1) l (env.put o.dst v) σ) : TB P n ops N noW [] (fun _ => N) K i (o :: l) env σ := by
  have ha' : args.toList.mapM (env.keep (slotsOf ops o)).eval = some vs := mapM_congr_some _ _ ha fun x hx u hu => eval_keep (by rw [ho]; simp [Op.operands, Call.operands] at hx ⊢; exact .inr hx) hu
  have hf' : (env.keep (slotsOf ops o)).eval f = some (.func (.func g) xs cs) := eval_keep (by rw [ho]; simp [Op.operands, Call.operands]) hf
  have e : (Calm ops N noW i) = fun j => j < N := funext fun j => propext calm_iff
  refine tb_read hd hw rfl (Calm ops N noW i) (fun _ h => h) (fun m => step_call ho hf' ha' hc ?_) k
  have := h m
  rw [e]
  unfold Gives at this
  exact this.mono fun v1 N1 σ1 ⟨h1, h2, _⟩ => ⟨h1, h2⟩
theorem al_givesC {l : List Oper} {o : Oper} {K : Env → Nat → AHeap → Prop} {f : Operand} {args : Array Operand} {argTypes : Array TypeId} {g : FuncId} {xs cs : Array Value} {vs : List Value} {v : Value}
    (ho : o.op = .call { callee := .value f, args, argTypes }) (hf : env.eval f = some (.func (.func g) xs cs)) (ha : args.toList.mapM env.eval = some vs)
    (h : Gives P g (xs.toList ++ vs ++ cs.toList) N σ v) (hc : callableB P g = true) (hd : dstOk n o.dst = true) (hw : wantedA ops env o = some true)
    (k : AList P n ops l (env.put o.dst v) N σ K) : AList P n ops (o :: l) env N σ K := by
  refine al_aok ho hw hd hc hf ha ?_
  unfold Gives at h
  exact h.mono fun v1 N1 σ1 ⟨h1, h2, h3⟩ => by subst h1; subst h2; subst h3; exact k
theorem tq_end {i : Nat} (h : K env σ) : TB P n ops N noW [] (fun _ => N) K i [] env σ := h
end
end Go.Abs

