/- Shaken texts of the layer and of the walks. -/
import Derived.Test.YtfialjllclclkaaFmText
namespace Go.Abs

def opndTmp : Operand → List Nat
  | .tmp t => [t]
  | _ => []
def slotsOf (ops : Array Oper) (o : Oper) : List Nat :=
  o.op.operands.toList.flatMap opndTmp ++ (match o.guard with | some (g, _) => ((ops[g]?).bind (·.dst)).toList | none => [])
def slotsB (ops : Array Oper) : Bool :=
  (List.range ops.size).all fun i => match ops[i]? with
    | none => true
    | some o => (slotsOf ops o).all fun t => (List.range ops.size).all fun d =>
      if dstOf ops d = some t then decide (d = i) || (decide (d < i) && waitsB ops i d) || (decide (i < d) && waitsB ops d i) else true
def chainB (ops : Array Oper) (M : List Nat) : Bool := M.all fun i => M.all fun k => decide (i = k) || waitsB ops i k || waitsB ops k i
def drawnB (P : Program) (l : List Oper) (M : List Nat) : Bool :=
  P.follows .mixedOrders && onceB l.toArray && ((List.range l.length).all fun i => (deps l.toArray i).all (· < i)) && slotsB l.toArray && chainB l.toArray M

theorem keep_get_mem (env : Env) : ∀ (ks : List Nat) (t : Nat) (v : Value), (env.keep ks).get t = some v → t ∈ ks
  | [], _, _, h => by cases h
  | k :: ks, t, v, h => by
    unfold Env.keep at h
    simp only [List.filterMap_cons] at h
    cases hk : env.get k with
    | none => simp only [hk, Option.map_none] at h; exact List.mem_cons_of_mem _ (keep_get_mem env ks t v h)
    | some u =>
      simp only [hk, Option.map_some, Env.get] at h
      split at h
      · rename_i e; subst e; exact List.mem_cons_self
      · exact List.mem_cons_of_mem _ (keep_get_mem env ks t v h)
theorem keep_get_of (env : Env) {t : Nat} {v : Value} (hv : env.get t = some v) : ∀ (ks : List Nat), t ∈ ks → (env.keep ks).get t = some v
  | k :: ks, hm => by
    unfold Env.keep
    simp only [List.filterMap_cons]
    cases hk : env.get k with
    | none =>
      simp only [Option.map_none]
      have : t ≠ k := by rintro rfl; rw [hv] at hk; cases hk
      exact keep_get_of env hv ks (by rcases List.mem_cons.1 hm with h | h; exact absurd h this; exact h)
    | some u =>
      simp only [Option.map_some, Env.get]
      split
      · rename_i e; subst e; rw [hv] at hk; exact hk.symm ▸ rfl
      · rename_i e
        exact keep_get_of env hv ks (by rcases List.mem_cons.1 hm with h | h; exact absurd h.symm e; exact h)

section
variable {r : Bool} {P : Program} {n : Nat} {env : Env} {N : Nat} {σ : AHeap} {ops : Array Oper}

theorem eval_keep {o : Oper} {x : Operand} (hx : x ∈ o.op.operands.toList) {v : Value} (hv : env.eval x = some v) : (env.keep (slotsOf ops o)).eval x = some v := by
  cases x with
  | tmp t =>
    refine keep_get_of env hv _ ?_
    unfold slotsOf
    exact List.mem_append_left _ (List.mem_flatMap.2 ⟨_, hx, by simp [opndTmp]⟩)
  | const u => exact hv
  | global g => cases hv
  | func f => exact hv
theorem mapM_congr_some {f g : Operand → Option Value} : ∀ (l : List Operand) (vs : List Value), l.mapM f = some vs → (∀ x ∈ l, ∀ v, f x = some v → g x = some v) → l.mapM g = some vs
  | [], vs, h, _ => by simpa using h
  | x :: l, vs, h, hg => by
    simp only [List.mapM_cons] at h ⊢
    cases hx : f x with
    | none => simp [hx] at h
    | some v =>
      cases hl : l.mapM f with
      | none => simp [hx, hl] at h
      | some us =>
        simp [hx, hl] at h
        subst h
        rw [hg x (by simp) v hx, mapM_congr_some l us hl (fun y hy => hg y (by simp [hy]))]
        rfl
theorem pureOp_mono {ρ ρ' : Operand → Option Value} {op : Op} {v : Value} (h : pureOp P ρ op = some v) (hx : ∀ x ∈ op.operands.toList, ∀ v, ρ x = some v → ρ' x = some v) : pureOp P ρ' op = some v := by
  unfold pureOp at h ⊢
  split at h
  · exact hx _ (by simp [Op.operands]) _ h
  · exact hx _ (by simp [Op.operands]) _ h
  · rename_i c a b
    split at h
    · rename_i t hc
      rw [hx c (by simp [Op.operands]) _ hc]
      simp only
      split at h
      · rename_i ht; rw [if_pos ht]; exact hx a (by simp [Op.operands]) _ h
      · rename_i ht; rw [if_neg ht]; exact hx b (by simp [Op.operands]) _ h
    · cases h
  · rename_i op t x y yt
    simp only [Option.bind_eq_some_iff] at h ⊢
    obtain ⟨u, hu, w, hw, hr⟩ := h
    exact ⟨u, hx x (by simp [Op.operands]) _ hu, w, hx y (by simp [Op.operands]) _ hw, hr⟩
  · rename_i op t x
    simp only [Option.bind_eq_some_iff] at h ⊢
    obtain ⟨u, hu, hr⟩ := h
    exact ⟨u, hx x (by simp [Op.operands]) _ hu, hr⟩
  · rename_i src dst x
    split at h
    · rename_i d k k' m h1 h2 h3
      rw [h1, h2, hx x (by simp [Op.operands]) _ h3]
      exact h
    · cases h
  · rename_i t ix
    split at h
    · rename_i vs ht
      rw [hx t (by simp [Op.operands]) _ ht]
      exact h
    · cases h
  · rename_i t x f
    split at h
    · rename_i fs cs h1 h2
      rw [h1, hx x (by simp [Op.operands]) _ h2]
      exact h
    · cases h
  · rename_i t x ix
    split at h
    · rename_i len e cs k i h1 h2 h3
      rw [h1, hx x (by simp [Op.operands]) _ h2, hx ix (by simp [Op.operands]) _ h3]
      exact h
    · cases h
  · rename_i fn first captured
    split at h
    case isFalse => cases h
    rename_i hny
    rw [if_pos hny]
    simp only [Option.bind_eq_some_iff, Option.map_eq_some_iff] at h ⊢
    obtain ⟨f, hf, c, hc, rfl⟩ := h
    exact ⟨f, mapM_congr_some _ _ hf (fun x hm => hx x (by simp [Op.operands] at hm ⊢; exact .inl hm)), c, mapM_congr_some _ _ hc (fun x hm => hx x (by simp [Op.operands] at hm ⊢; exact .inr hm)), rfl⟩
  · rename_i t x ix
    split at h
    · rename_i e b o len cap k i h1 h2 h3
      rw [h1, hx x (by simp [Op.operands]) _ h2, hx ix (by simp [Op.operands]) _ h3]
      exact h
    · rename_i len e b o k i h1 h2 h3
      rw [h1, hx x (by simp [Op.operands]) _ h2, hx ix (by simp [Op.operands]) _ h3]
      exact h
    · cases h
  · rename_i t x f
    split at h
    · rename_i fs b o h1 h2
      rw [h1, hx x (by simp [Op.operands]) _ h2]
      exact h
    · cases h
  · rename_i x
    split at h
    · rename_i b o hb
      rw [hx x (by simp [Op.operands]) _ hb]
      exact h
    · rename_i f xs cs hb
      rw [hx x (by simp [Op.operands]) _ hb]
      exact h
    · cases h
  · rename_i t x
    split at h
    · cases h
    · rename_i d v2 hne h1 h2
      cases h
      rw [h1, hx x (by simp [Op.operands]) _ h2]
      split
      · rename_i heq; cases heq; exact absurd rfl (hne _)
      · rename_i heq1 heq2; cases heq1; cases heq2; rfl
      · rename_i hn; exact absurd rfl (hn _ _ rfl)
    · cases h
  · rename_i args argTypes
    split at h
    · rename_i t v2 h1 h2
      simp only [Option.bind_eq_some_iff] at h2
      obtain ⟨x, hax, hv⟩ := h2
      have hm : x ∈ args.toList := by rw [← Array.getElem?_toList] at hax; exact List.mem_of_getElem? hax
      have hv' := hx x (by simp [Op.operands, Call.operands] at hm ⊢; exact hm) _ hv
      rw [h1, hax]
      simp only [Option.bind_some, hv']
      exact h
    · cases h
  · rename_i args argTypes
    simp only [Option.bind_eq_some_iff] at h ⊢
    obtain ⟨vs, hvs, hm⟩ := h
    exact ⟨vs, mapM_congr_some _ _ hvs (fun x hm => hx x (by simp [Op.operands, Call.operands] at hm ⊢; exact hm)), hm⟩
  · rename_i args argTypes
    simp only [Option.bind_eq_some_iff] at h ⊢
    obtain ⟨vs, hvs, hm⟩ := h
    exact ⟨vs, mapM_congr_some _ _ hvs (fun x hm => hx x (by simp [Op.operands, Call.operands] at hm ⊢; exact hm)), hm⟩
  · cases h
theorem wantedA_keep {o : Oper} {r : Bool} (h : wantedA ops env o = some r) : wantedA ops (env.keep (slotsOf ops o)) o = some r := by
  unfold wantedA at h ⊢
  cases hg : o.guard with
  | none => simpa [hg] using h
  | some g =>
    obtain ⟨j, want⟩ := g
    simp only [hg] at h ⊢
    cases ht : (ops[j]?).bind (·.dst) with
    | none => simp [ht] at h
    | some t =>
      simp only [ht] at h ⊢
      have key : ∀ v, env.get t = some v → (env.keep (slotsOf ops o)).get t = some v := fun v hv => by
        refine keep_get_of env hv _ ?_
        unfold slotsOf
        rw [hg]
        exact List.mem_append_right _ (by simp [ht])
      split at h
      · rename_i b hb; rw [key _ hb]; exact h
      · rename_i xs hb; rw [key _ hb]; exact h
      · cases h

inductive Cls where
  | reads | makes | chain
  deriving DecidableEq
def Calm (ops : Array Oper) (N0 : Nat) (Wt : Nat → Nat → Prop) (i j : Nat) : Prop := j < N0 ∧ ∀ k, Wt k j → k = i ∨ waitsB ops i k = true ∨ waitsB ops k i = true
def Sees (ops : Array Oper) (N0 : Nat) (Nf : Nat → Nat) (i j : Nat) : Prop := j < N0 ∨ ∃ d, d < ops.size ∧ waitsB ops i d = true ∧ Nf d ≤ j ∧ j < Nf (d + 1)

def OneStep (P : Program) (n : Nat) (ops : Array Oper) (N0 : Nat) (Wt : Nat → Nat → Prop) (M : List Nat) (Nf : Nat → Nat) (i : Nat) (o : Oper) (env : Env) (σ : AHeap) (v : Value) (σ1 : AHeap) (c : Cls) (T W : Nat → Prop) : Prop :=
  dstOk n o.dst = true ∧
  ((wantedA ops env o = some false ∧ v = undef ∧ Nf (i + 1) = Nf i ∧ σ1 = σ ∧ c = .reads) ∨
   (wantedA ops env o = some true ∧ c = .reads ∧ Nf (i + 1) = Nf i ∧ σ1 = σ ∧ (∀ j, T j → Calm ops N0 Wt i j) ∧ ∀ m, StepQ P n o (env.keep (slotsOf ops o)) m (viewOf T (fun _ => False) σ) (fun v1 N1 _ => v1 = v ∧ N1 = m)) ∨
   (wantedA ops env o = some true ∧ c = .makes ∧ Nf i ≤ Nf (i + 1) ∧ (∀ t v, (env.keep (slotsOf ops o)).get t = some v → Bdd (Nf i) v) ∧ (∀ j, ¬ (Nf i ≤ j ∧ j < Nf (i + 1)) → σ1 j = σ j) ∧
        StepQ P n o (env.keep (slotsOf ops o)) (Nf i) (fun _ => none) (fun v1 N1 σ2 => v1 = v ∧ N1 = Nf (i + 1) ∧ ∀ j b, Nf i ≤ j → j < Nf (i + 1) → σ1 j = some b → σ2 j = some b ∧ b.own = true)) ∨
   (wantedA ops env o = some true ∧ c = .chain ∧ i ∈ M ∧ Nf i ≤ Nf (i + 1) ∧ (∀ t v, (env.keep (slotsOf ops o)).get t = some v → Bdd (Nf i) v) ∧
        (∀ j, W j → T j ∧ (j < N0 → Wt i j) ∧ ∃ b0, σ j = some b0) ∧ (∀ j, ¬ W j → ¬ (Nf i ≤ j ∧ j < Nf (i + 1)) → σ1 j = σ j) ∧
        (∀ j, T j → Sees ops N0 Nf i j) ∧ (∀ j b, T j → σ j = some b → BlkBdd (Nf i) b) ∧
        StepQ P n o (env.keep (slotsOf ops o)) (Nf i) (viewOf T W σ) (fun v1 N1 σ2 => v1 = v ∧ N1 = Nf (i + 1) ∧ ∀ j b, σ1 j = some b → (W j ∨ (Nf i ≤ j ∧ j < Nf (i + 1))) → σ2 j = some b ∧ b.own = true)))

theorem awp_cls {id : Nat} {l : List Oper} {K : Exit → Env → Nat → AHeap → Prop} (vals : List Value) (Nf : Nat → Nat) (σf : Nat → AHeap) (cls : Nat → Cls) (Tf Wf : Nat → Nat → Prop) (Wt : Nat → Nat → Prop) (M : List Nat)
    (hst : drawnB P l M = true) (hN0 : Nf 0 = N) (hσ0 : σf 0 = σ)
    (hstep : ∀ i o, l.toArray[i]? = some o → OneStep P n l.toArray N Wt M Nf i o (putAll l.toArray vals env i) (σf i) (vals.getD i undef) (σf (i + 1)) (cls i) (Tf i) (Wf i))
    (hk : K .normal (putAll l.toArray vals env l.length) (Nf l.length) (σf l.length)) :
    AWp r P n (.region id l.toArray true) env N σ K := by
  simp only [drawnB, Bool.and_eq_true] at hst
  obtain ⟨⟨⟨⟨hm, honce⟩, hback⟩, hslots⟩, hchain⟩ := hst
  have hsz : l.toArray.size = l.length := by simp
  have hbk : ∀ i, ∀ d ∈ deps l.toArray i, d < i := back_all fun i hi d hd => by
    rw [List.all_eq_true] at hback
    have h1 := hback i (List.mem_range.2 (by omega))
    rw [List.all_eq_true] at h1
    simpa using h1 d hd
  have hlt : ∀ a b, waitsB l.toArray a b = true → b < a := by
    intro a
    induction a using Nat.strongRecOn with
    | _ a ih =>
      intro b hb
      obtain ⟨d, h1, h2⟩ := (waitsB_iff _ a b (hbk a)).1 hb
      have := hbk a d h1
      rcases h2 with rfl | h2
      · exact this
      · have := ih d this b h2; omega
  have hop : ∀ i, i < l.length → ∃ o, l.toArray[i]? = some o := fun i hi => ⟨l[i], by simp [hi]⟩
  have hmono : ∀ i, i < l.length → Nf i ≤ Nf (i + 1) := fun i hi => by
    obtain ⟨o, ho⟩ := hop i hi
    rcases (hstep i o ho).2 with ⟨_, _, h, _⟩ | ⟨_, _, h, _⟩ | ⟨_, _, h, _⟩ | ⟨_, _, _, h, _⟩ <;> omega
  have hle := mono_le (Nf := Nf) (k := l.length) hmono
  -- what each touches and writes
  let W : Nat → Nat → Prop := fun i j => cls i = .chain ∧ Wf i j
  let T : Nat → Nat → Prop := fun i j => (cls i = .reads ∧ Calm l.toArray N Wt i j ∧ Tf i j) ∨ (cls i = .chain ∧ Tf i j)
  have hch : ∀ i o, l.toArray[i]? = some o → cls i = .chain → i ∈ M ∧ (∀ j, Wf i j → Tf i j ∧ (j < N → Wt i j) ∧ ∃ b0, σf i j = some b0) ∧ (∀ j, Tf i j → Sees l.toArray N Nf i j) := fun i o ho hc => by
    rcases (hstep i o ho).2 with ⟨_, _, _, _, h⟩ | ⟨_, h, _⟩ | ⟨_, h, _⟩ | ⟨_, _, h1, _, _, h2, _, h3, _⟩
    · rw [hc] at h; cases h
    · rw [hc] at h; cases h
    · rw [hc] at h; cases h
    · exact ⟨h1, h2, h3⟩
  have hseesN : ∀ i j, i < l.length → Sees l.toArray N Nf i j → j < Nf i := fun i j hi h => by
    rcases h with h | ⟨d, h1, h2, h3, h4⟩
    · have := hle i 0 (by omega) (by omega); omega
    · have := hlt _ _ h2
      have := hle i (d + 1) (by omega) (by omega); omega
  have hfr : ∀ i j, i < l.length → ¬ WrP Nf W i j → σf (i + 1) j = σf i j := fun i j hi hw => by
    obtain ⟨o, ho⟩ := hop i hi
    rcases (hstep i o ho).2 with ⟨_, _, _, h, _⟩ | ⟨_, _, _, h, _⟩ | ⟨_, _, _, _, h, _⟩ | ⟨_, hc, _, _, _, _, h, _⟩
    · rw [h]
    · rw [h]
    · exact h j fun hh => hw (.inr hh)
    · exact h j (fun hh => hw (.inl ⟨hc, hh⟩)) (fun hh => hw (.inr hh))
  refine awp_text vals Nf σf T W (fun i => match l.toArray[i]? with | some o => (putAll l.toArray vals env i).keep (slotsOf l.toArray o) | none => []) hm honce hback hN0 hmono (by rw [hσ0]; exact AHeap.le_refl _) ?_ ?_ ?_ ?_ ?_ hk
  · intro i j hi ⟨hc, hw⟩
    obtain ⟨o, ho⟩ := hop i hi
    exact .inr ⟨hc, ((hch i o ho hc).2.1 j hw).1⟩
  · intro i j hi hT
    rcases hT with ⟨_, hT, _⟩ | ⟨hc, hT⟩
    · have := hT.1; have := hle i 0 (by omega) (by omega); omega
    · obtain ⟨o, ho⟩ := hop i hi
      exact hseesN i j hi ((hch i o ho hc).2.2 j hT)
  · intro i k j hi hk hik h1 h2 hT hw
    obtain ⟨o, ho⟩ := hop i hi
    obtain ⟨o', ho'⟩ := hop k hk
    rcases hT with ⟨_, hT, _⟩ | ⟨hc, hT⟩
    · rcases hw with ⟨hck, hw⟩ | hw
      · rcases hT.2 k (((hch k o' ho' hck).2.1 j hw).2.1 hT.1) with h | h | h
        · exact hik h.symm
        · rw [h1] at h; cases h
        · rw [h2] at h; cases h
      · have := hle k 0 (by omega) (by omega); have := hT.1; omega
    · rcases hw with ⟨hck, hw⟩ | hw
      · unfold chainB at hchain
        rw [List.all_eq_true] at hchain
        have g1 := hchain i (hch i o ho hc).1
        rw [List.all_eq_true] at g1
        have g2 := g1 k (hch k o' ho' hck).1
        simp [hik, h1, h2] at g2
      · rcases (hch i o ho hc).2.2 j hT with hT | ⟨d, p1, p2, p3, p4⟩
        · have := hle k 0 (by omega) (by omega); omega
        · have hdk : d ≠ k := by rintro rfl; rw [h1] at p2; cases p2
          rcases Nat.lt_or_ge d k with h | h
          · have := hle k (d + 1) (by omega) (by omega); omega
          · have := hle d (k + 1) (by omega) (by omega); omega
  · intro i o ho t v hv
    have hi : i < l.toArray.size := (Array.getElem?_eq_some_iff.1 ho).1
    simp only [ho] at hv
    have hmem := keep_get_mem _ _ t v hv
    have hget := Env.keep_get _ _ t v hv
    unfold slotsB at hslots
    rw [List.all_eq_true] at hslots
    have h1 := hslots i (List.mem_range.2 hi)
    simp only [ho] at h1
    rw [List.all_eq_true] at h1
    have h2 := h1 t hmem
    rw [List.all_eq_true] at h2
    have h3 : ∀ d, d < l.toArray.size → dstOf l.toArray d = some t → d = i ∨ (d < i ∧ waitsB l.toArray i d = true) ∨ (i < d ∧ waitsB l.toArray d i = true) := fun d hd hdt => by
      have := h2 d (List.mem_range.2 hd)
      rw [if_pos hdt] at this
      simpa [or_assoc] using this
    rcases putAll_knows vals env i (by omega) t v hget with ⟨d, g1, g2, g3⟩ | ⟨g1, g2⟩
    · rcases h3 d (by omega) g2 with rfl | ⟨_, h⟩ | ⟨h, _⟩
      · omega
      · exact .inl ⟨d, h, by omega, g2, g3⟩
      · omega
    · refine .inr ⟨g1, fun d hd hdt => ?_⟩
      rcases h3 d hd hdt with rfl | ⟨h, _⟩ | ⟨_, h⟩
      · exact .inl rfl
      · exact absurd hdt (g2 d h)
      · exact .inr h
  · intro i o ho
    have hi : i < l.length := by have := (Array.getElem?_eq_some_iff.1 ho).1; omega
    obtain ⟨hd, h⟩ := hstep i o ho
    refine ⟨hd, ?_⟩
    simp only [ho]
    have hnoW : cls i ≠ .chain → ∀ j, ¬ W i j := fun hc j hj => hc hj.1
    rcases h with ⟨hw, hv, hN, hs, hc⟩ | ⟨hw, hc, h1, h2, hcalm, h3⟩ | ⟨hw, hc, h1, hbe, h2, h3⟩ | ⟨hw, hc, hM, h1, hbe, h2, h3, h4, h5, h6⟩
    · exact .inr (.inl ⟨wantedA_keep hw, hv, hN, hnoW (by rw [hc]; simp), hs⟩)
    · refine .inl ⟨wantedA_keep hw, h1, hnoW (by rw [hc]; simp), h2, fun m => ?_⟩
      have e : viewOf (T i) (fun _ => False) (σf i) = viewOf (Tf i) (fun _ => False) (σf i) := by
        have hT : T i = Tf i := by
          funext x
          exact propext ⟨fun h => h.elim (·.2.2) (·.2), fun h => .inl ⟨hc, hcalm x h, h⟩⟩
        rw [hT]
      rw [e]; exact h3 m
    · have hW0 := hnoW (by rw [hc]; simp)
      have hT0 : ∀ j, ¬ T i j := fun j h => h.elim (fun h => by rw [hc] at h; exact absurd h.1 (by simp)) fun h => by rw [hc] at h; exact absurd h.1 (by simp)
      refine .inr (.inr ⟨wantedA_keep hw, hbe, fun j b hT => absurd hT (hT0 j), fun j hj => h2 j fun hh => hj (.inr hh), fun j b hj => absurd hj (hW0 j), ?_⟩)
      have e : viewOf (T i) (W i) (σf i) = fun _ => none := by
        funext j
        unfold viewOf
        rw [if_neg (hT0 j)]
      rw [e]
      exact h3.mono fun v1 N1 σ2 ⟨g1, g2, g3⟩ => ⟨g1, g2, fun j b hj hwr => by
        rcases hwr with hwr | hwr
        · exact absurd hwr (hW0 j)
        · exact g3 j b hwr.1 hwr.2 hj⟩
    · have hTe : T i = Tf i := by
        funext x
        exact propext ⟨fun h => h.elim (·.2.2) (·.2), fun h => .inr ⟨hc, h⟩⟩
      have hWe : W i = Wf i := by
        funext x
        exact propext ⟨fun h => h.2, fun h => ⟨hc, h⟩⟩
      refine .inr (.inr ⟨wantedA_keep hw, hbe, fun j b hT => h5 j b (by rw [hTe] at hT; exact hT), fun j hj => h3 j (fun hh => hj (.inl ⟨hc, hh⟩)) (fun hh => hj (.inr hh)), fun j b hj _ => (h2 j hj.2).2.2, ?_⟩)
      rw [hTe, hWe]
      exact h6.mono fun v1 N1 σ2 ⟨g1, g2, g3⟩ => ⟨g1, g2, fun j b hj hwr => g3 j b hj (hwr.imp (·.2) fun h => h)⟩
end
end Go.Abs

