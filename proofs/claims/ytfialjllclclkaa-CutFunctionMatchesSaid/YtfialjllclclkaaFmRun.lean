/- Shaken texts of the layer and of the walks. -/
import Derived.Test.YtfialjllclclkaaFmDr
import Derived.Test.YtfialjllclclkaaFmRow
namespace Go.Abs
noncomputable section
section
variable {P : Program} {n : Nat}

def evOps (P : Program) (n : Nat) (call : CallT) (c : Ctx) (ops : Array Oper) : List Oper → Trie Value → Nat → HeapT → Option (Trie Value × Nat × HeapT)
  | [], E, N, H => some (E, N, H)
  | o :: l, E, N, H =>
    bif dstOk n o.dst then
      match wantedT ops E o with
      | some true => match evOp P call c (opdT E) o.op N H with
        | some (v, N', H') => bif bddB N' v then evOps P n call c ops l (putT E o.dst v) N' H' else none
        | none => none
      | some false => evOps P n call c ops l (putT E o.dst undef) N H
      | none => none
    else none
abbrev RunT := Bool → Nat → Ctx → Code → Trie Value → Nat → HeapT → Option (Exit × Trie Value × Nat × HeapT)
def resT (P : Program) (E : Trie Value) (σ : AHeap) : ResultVar → Option Value
  | .tmp t => E.get t
  | .cell a t => match E.get a with
    | some (.pointer (some ⟨i, off, none⟩)) => (σ i).bind fun b => loadA P t b off
    | _ => none
def ressT (P : Program) (fn : Func) (E : Trie Value) (σ : AHeap) : Option Value :=
  (fn.results.toList.mapM (resT P E σ)).map fun l => match l with
    | [v] => v
    | l => .tuple l.toArray
def ofArgs : Nat → List Value → Trie Value → Trie Value
  | _, [], E => E
  | k, v :: l, E => ofArgs (k + 1) l (E.put k v)
abbrev Memo := List (FuncId × List Value × Value)
def sameV : Value → Value → Bool
  | .int k a, .int k' b => decide (k = k') && decide (a = b)
  | .bool a, .bool b => a == b
  | .slice none 0 0, .slice none 0 0 => true
  | _, _ => false
def sameL : List Value → List Value → Bool
  | [], [] => true
  | u :: us, v :: vs => sameV u v && sameL us vs
  | _, _ => false
theorem sameV_eq {u v : Value} (h : sameV u v = true) : u = v := by
  unfold sameV at h
  split at h
  · simp only [Bool.and_eq_true, decide_eq_true_eq] at h; rw [h.1, h.2]
  · rw [eq_of_beq h]
  · rfl
  · cases h
theorem sameL_eq : ∀ {us vs : List Value}, sameL us vs = true → us = vs
  | [], [], _ => rfl
  | u :: us, v :: vs, h => by
    simp only [sameL, Bool.and_eq_true] at h
    rw [sameV_eq h.1, sameL_eq h.2]
  | [], _ :: _, h => by cases h
  | _ :: _, [], h => by cases h
def lookM : Memo → FuncId → List Value → Option Value
  | [], _, _ => none
  | (g, as, v) :: M, f, xs => bif Nat.beq g f && (sameL as xs && flat v) then some v else lookM M f xs
def MemoOk (P : Program) (M : Memo) : Prop := ∀ e ∈ M, ∀ N σ, Gives P e.1 e.2.1 N σ e.2.2
theorem MemoOk.nil : MemoOk P [] := fun _ h => by cases h
theorem MemoOk.cons {f : FuncId} {as : List Value} {v : Value} {M : Memo} (h : ∀ N σ, Gives P f as N σ v) (hM : MemoOk P M) : MemoOk P ((f, as, v) :: M) := fun e he => by
  rcases List.mem_cons.1 he with rfl | he
  · exact h
  · exact hM e he
theorem lookM_sound : ∀ {M : Memo} {f : FuncId} {xs : List Value} {v : Value}, MemoOk P M → lookM M f xs = some v → (∀ N σ, Gives P f xs N σ v) ∧ flat v = true
  | [], f, xs, v, _, h => by cases h
  | (g, as, u) :: M, f, xs, v, hM, h => by
    unfold lookM at h
    cases hc : (Nat.beq g f && (sameL as xs && flat u)) with
    | false => rw [hc, cond_false] at h; exact lookM_sound (fun e he => hM e (List.mem_cons_of_mem _ he)) h
    | true =>
      rw [hc, cond_true] at h
      simp only [Bool.and_eq_true] at hc
      cases h
      have e1 : g = f := Nat.eq_of_beq_eq_true hc.1
      have e2 := sameL_eq hc.2.1
      subst e1; subst e2
      exact ⟨hM _ List.mem_cons_self, hc.2.2⟩
def putsT : List Tmp → List Value → Trie Value → Trie Value
  | p :: ps, v :: vs, E => putsT ps vs (E.put p v)
  | _, _, E => E
def ofEnv : Env → Trie Value
  | [] => .leaf
  | (t, v) :: e => (ofEnv e).put t v
def envB (n : Nat) (e : Env) : Bool := e.all fun x => Nat.blt x.1 n
def evRound (run : RunT) (c : Ctx) (i : Nat) (vs : List Value) (N : Nat) (H : HeapT) : Option (Value × Nat × HeapT) :=
  match view c H i with
  | some ⟨[], true, .loop info .ready⟩ =>
    bif Nat.beq vs.length info.params.size && ((info.params.toList.all fun p => Nat.blt p info.n) && envB info.n info.env) then
      match run true info.n c info.assign (putsT info.params.toList vs (ofEnv info.env)) N (H.del i) with
      | some (.normal, E1, N1, H1) => match run true info.n c info.body E1 N1 H1 with
        | some (.normal, _, N2, H2) => some (.bool true, N2, H2.put i ([], .loop info .ready))
        | some (.ret, _, N2, H2) => some (.bool false, N2, H2.put i ([], .loop info (.left none)))
        | some (.exit id, _, N2, H2) => some (.bool false, N2, H2.put i ([], .loop info (.left (some id))))
        | _ => none
      | _ => none
    else none
  | _ => none
def evEnter (P : Program) (run : RunT) (c : Ctx) (f : FuncId) (args : List Value) (N : Nat) (H : HeapT) : Option (Value × Nat × HeapT) :=
  match P.funcs[f]? with
  | some fn => match fn.body with
    | some code =>
      bif Nat.ble args.length fn.ntmps then
        match run false fn.ntmps c code (ofArgs 0 args .leaf) N H with
        | some (.normal, E', N', H') => (ressT P fn E' (view c H')).bind fun v => if bddB N' v then some (v, N', H') else none
        | some (.ret, E', N', H') => (ressT P fn E' (view c H')).bind fun v => if bddB N' v then some (v, N', H') else none
        | _ => none
      else none
    | none => none
  | none => none
def callWith (P : Program) (M : Memo) (run : RunT) : CallT := fun c fn args N H => match fn with
  | .func f => match lookM M f args with
    | some v => some (v, N, H)
    | none => evEnter P run c f args N H
  | .yield i => evRound run c i args N H
  | _ => none
def evSeq (run : RunT) (rd : Bool) (n : Nat) (c : Ctx) (a b : Code) (E : Trie Value) (N : Nat) (H : HeapT) : Option (Exit × Trie Value × Nat × HeapT) :=
  match run rd n c a E N H with
  | some (.normal, E', N', H') => run rd n c b E' N' H'
  | r => r
def evCond (run : RunT) (rd : Bool) (n : Nat) (c : Ctx) (x : Operand) (a b : Code) (E : Trie Value) (N : Nat) (H : HeapT) : Option (Exit × Trie Value × Nat × HeapT) :=
  match opdT E x with
  | some (.bool true) => run rd n c a E N H
  | some (.bool false) => run rd n c b E N H
  | _ => none
def evBlock (run : RunT) (rd : Bool) (n : Nat) (c : Ctx) (id : Nat) (body : Code) (E : Trie Value) (N : Nat) (H : HeapT) : Option (Exit × Trie Value × Nat × HeapT) :=
  match run rd n c body E N H with
  | some (.exit id', E', N', H') => bif Nat.beq id' id then some (.normal, E', N', H') else some (.exit id', E', N', H')
  | r => r
def evRange (P : Program) (M : Memo) (run : RunT) (n : Nat) (c : Ctx) (f : Operand) (params : Array Tmp) (assign body : Code) (E : Trie Value) (N : Nat) (H : HeapT) : Option (Exit × Trie Value × Nat × HeapT) :=
  match opdT E f with
  | some (.func (.func g) xs cs) =>
    bif callableB P g then
      match callWith P M run c (.func g) (xs.toList ++ [.func (.yield N) #[] #[]] ++ cs.toList) (N + 1) (H.put N ([], .loop ⟨n, params, assign, body, pick E (List.range n)⟩ .ready)) with
      | some (_, N', H') => match view c H' N with
        | some ⟨[], true, .loop _ st⟩ => some (st.exit, E, N', H'.del N)
        | _ => none
      | none => none
    else none
  | _ => none
def evReg (P : Program) (M : Memo) (run : RunT) (n : Nat) (c : Ctx) (ops : Array Oper) (E : Trie Value) (N : Nat) (H : HeapT) : Option (Exit × Trie Value × Nat × HeapT) :=
  match evOps P n (callWith P M run) c ops ops.toList E N H with
  | some (E', N', H') => some (.normal, E', N', H')
  | none => none
def evRegM (P : Program) (M : Memo) (run : RunT) (n : Nat) (md : Bool) (c : Ctx) (ops : Array Oper) (E : Trie Value) (N : Nat) (H : HeapT) : Option (Exit × Trie Value × Nat × HeapT) :=
  match evDraw P n (callWith P M run) md c ops N 0 ops.toList E N H ⟨[N], [], [], [], []⟩ with
  | some (E', N', H', fin) => bif drawnB P ops.toList fin.m && calmB ops fin then some (.normal, E', N', H') else none
  | none => none
def evRegD (P : Program) (M : Memo) (run : RunT) (n : Nat) (c : Ctx) (ops : Array Oper) (E : Trie Value) (N : Nat) (H : HeapT) : Option (Exit × Trie Value × Nat × HeapT) :=
  match evRegM P M run n true c ops E N H with
  | some r => some r
  | none => evRegM P M run n false c ops E N H
def evCode (P : Program) (M : Memo) (run : RunT) : RunT := fun rd n c code E N H => match code with
  | .skip => some (.normal, E, N, H)
  | .label _ => some (.normal, E, N, H)
  | .exit id => some (.exit id, E, N, H)
  | .ret => some (.ret, E, N, H)
  | .seq a b => evSeq run rd n c a b E N H
  | .cond x a b => evCond run rd n c x a b E N H
  | .block id body => evBlock run rd n c id body E N H
  | .loop body => evSeq run rd n c body (.loop body) E N H
  | .region _ ops false => evReg P M run n c ops E N H
  | .region _ ops true => evRegD P M run n c ops E N H
  | .rangeFunc f params assign body => bif rd then none else evRange P M run n c f params assign body E N H
  | _ => none
def ev (P : Program) (M : Memo) : Nat → RunT
  | 0 => fun _ _ _ _ _ _ _ => none
  | k + 1 => evCode P M (ev P M k)

theorem pick_dom {env : Env} {E : Trie Value} (hd : Dom env E) (ks : List Nat) : ∀ t v, (pick E ks).get t = some v → env.get t = some v := fun t v ht => hd t v (pick_get E ks t v ht).1
theorem opdT_dom {env : Env} {E : Trie Value} (hd : Dom env E) {x : Operand} {v : Value} (h : opdT E x = some v) : env.eval x = some v := by
  cases x with
  | tmp t => exact hd t v h
  | const u => exact h
  | global g => cases h
  | func f => exact h
theorem loadA_le {σ σ1 : AHeap} (hl : σ.le σ1) {t : TypeId} {i off : Nat} {v : Value} (h : ((σ i).bind fun b => loadA P t b off) = some v) : ((σ1 i).bind fun b => loadA P t b off) = some v := by
  simp only [Option.bind_eq_some_iff] at h ⊢
  obtain ⟨b, hb, hv⟩ := h
  exact ⟨b, hl i b hb, hv⟩
theorem mapM_mono {α β : Type} {f g : α → Option β} (h : ∀ x v, f x = some v → g x = some v) : ∀ (l : List α) (vs : List β), l.mapM f = some vs → l.mapM g = some vs
  | [], vs, hh => by simpa using hh
  | x :: l, vs, hh => by
    simp only [List.mapM_cons] at hh ⊢
    cases hx : f x with
    | none => simp [hx] at hh
    | some v =>
      cases hl : l.mapM f with
      | none => simp [hx, hl] at hh
      | some us =>
        simp [hx, hl] at hh
        subst hh
        rw [h x v hx, mapM_mono h l us hl]; rfl
theorem ressT_sound {fn : Func} {E : Trie Value} {env : Env} {σ σ1 : AHeap} {v : Value} (h : ressT P fn E σ = some v) (hd : Dom env E) (hl : σ.le σ1) : resA P fn env σ1 = some v := by
  unfold ressT at h
  unfold resA
  simp only [Option.map_eq_some_iff] at h ⊢
  obtain ⟨l, h1, h2⟩ := h
  refine ⟨l, mapM_mono (fun r v hv => ?_) _ _ h1, h2⟩
  cases r with
  | tmp t => exact hd t v hv
  | cell a t =>
    simp only [resT] at hv
    split at hv
    · rename_i i off ha
      simp only [resOneA, hd _ _ ha]
      exact loadA_le hl hv
    · cases hv
theorem ofArgs_get : ∀ (l : List Value) (k : Nat) (E : Trie Value) (t : Nat) (v : Value), (ofArgs k l E).get t = some v → (k ≤ t ∧ l[t - k]? = some v) ∨ ((t < k ∨ k + l.length ≤ t) ∧ E.get t = some v)
  | [], k, E, t, v, h => by
    refine .inr ⟨?_, h⟩
    simp; omega
  | u :: l, k, E, t, v, h => by
    rcases ofArgs_get l (k + 1) (E.put k u) t v h with ⟨h1, h2⟩ | ⟨h1, h2⟩
    · refine .inl ⟨by omega, ?_⟩
      rw [show t - k = (t - (k + 1)) + 1 from by omega]; simpa using h2
    · rw [Trie.put_get] at h2
      split at h2
      · rename_i e; subst e; cases h2; exact .inl ⟨Nat.le_refl _, by simp⟩
      · rename_i e
        exact .inr ⟨by simp; omega, h2⟩
theorem initEnv_of : ∀ (l : List Value) (k t : Nat) (v : Value), k ≤ t → l[t - k]? = some v → (initEnv k l).get t = some v
  | [], _, _, _, _, h => by simp at h
  | u :: l, k, t, v, hk, h => by
    simp only [initEnv, Env.get]
    by_cases e : k = t
    · subst e; rw [if_pos rfl]; simpa using h
    · rw [if_neg e]
      refine initEnv_of l (k + 1) t v (by omega) ?_
      rw [show t - k = (t - (k + 1)) + 1 from by omega] at h
      simpa using h

def RunOk (P : Program) (run : RunT) : Prop := ∀ (rd : Bool) (n : Nat) (c : Ctx) (code : Code) (E : Trie Value) (N : Nat) (H : HeapT) (ex : Exit) (E' : Trie Value) (N' : Nat) (H' : HeapT), Inv c N H → EB n E N → run rd n c code E N H = some (ex, E', N', H') →
  Good c N H N' H' ∧ EB n E' N' ∧ ∀ env, Dom env E → AWp rd P n code env N (view c H) (fun ex1 env1 N1 σ1 => ex1 = ex ∧ Dom env1 E' ∧ N1 = N' ∧ (view c H').le σ1)
theorem ofEnv_get : ∀ (e : Env) (t : Nat), (ofEnv e).get t = e.get t
  | [], t => Trie.leaf_get t
  | (t', v) :: e, t => by
    simp only [ofEnv, Trie.put_get, Env.get, ofEnv_get e t]
    by_cases h : t = t'
    · subst h; simp
    · rw [if_neg h, if_neg fun h' => h h'.symm]
theorem env_mem : ∀ (e : Env) (t : Nat) (v : Value), e.get t = some v → (t, v) ∈ e
  | [], _, _, h => by cases h
  | (t', u) :: e, t, v, h => by
    simp only [Env.get] at h
    split at h
    · rename_i e'; subst e'; cases h; simp
    · exact List.mem_cons_of_mem _ (env_mem e t v h)
theorem putsT_dom : ∀ (ps : List Tmp) (vs : List Value) (E : Trie Value) (e : Env), Dom e E → Dom (putParams ps vs e) (putsT ps vs E)
  | [], _, _, _, h => h
  | _ :: _, [], _, _, h => h
  | p :: ps, v :: vs, _, _, h => putsT_dom ps vs _ _ (h.put (some p) v)
theorem putsT_eb {N m : Nat} : ∀ (ps : List Tmp) (vs : List Value) (E : Trie Value), (∀ p ∈ ps, p < m) → (∀ v ∈ vs, Bdd N v) → EB m E N → EB m (putsT ps vs E) N
  | [], _, _, _, _, h => h
  | _ :: _, [], _, _, _, h => h
  | p :: ps, v :: vs, E, hp, hv, h => putsT_eb ps vs _ (fun q hq => hp q (by simp [hq])) (fun u hu => hv u (by simp [hu])) (h.put (d := some p) (hv v (by simp)) (by simp [dstOk, hp p (by simp)]))
theorem evRound_ok {run : RunT} (hr : RunOk P run) {c : Ctx} {i : Nat} {vs : List Value} {N : Nat} {H : HeapT} {v : Value} {N' : Nat} {H' : HeapT} (hI : Inv c N H) (ha : ∀ x ∈ vs, Bdd N x) (h : evRound run c i vs N H = some (v, N', H')) :
    YOk P i vs N (view c H) (fun v1 N1 σ1 => v1 = v ∧ N1 = N' ∧ (view c H').le σ1) ∧ Good c N H N' H' ∧ Bdd N' v := by
  unfold evRound at h
  split at h
  · rename_i info hv
    cases hc : (Nat.beq vs.length info.params.size && ((info.params.toList.all fun p => Nat.blt p info.n) && envB info.n info.env)) with
    | false => rw [hc] at h; cases h
    | true =>
      rw [hc, cond_true] at h
      simp only [Bool.and_eq_true] at hc
      have hlen := Nat.eq_of_beq_eq_true hc.1
      have hpar : ∀ p ∈ info.params.toList, p < info.n := fun p hp => blt_lt (List.all_eq_true.1 hc.2.1 p hp)
      obtain ⟨v1, v2, v3⟩ := view_some hv
      have hro : c.ro i = false := by simpa using v3.symm
      obtain ⟨hiN, hbb⟩ := hI.bdd _ _ v2
      split at h
      · rename_i E1 N1 H1 h1
        have hEB : EB info.n (putsT info.params.toList vs (ofEnv info.env)) N := putsT_eb _ _ _ hpar ha fun t u ht => by
          rw [ofEnv_get] at ht
          exact ⟨blt_lt (List.all_eq_true.1 hc.2.2 _ (env_mem _ t u ht)), hbb.2.1 _ _ rfl t u ht⟩
        obtain ⟨a1, a2, a3⟩ := hr true info.n c info.assign _ N (H.del i) .normal E1 N1 H1 (hI.gone i) hEB h1
        have hdom : Dom (putParams info.params.toList vs info.env) (putsT info.params.toList vs (ofEnv info.env)) := putsT_dom _ _ _ _ fun t u ht => by rw [ofEnv_get] at ht; exact ht
        have fin : ∀ ex E2 N2 H2 (s : LSt) (b : Bool), run true info.n c info.body E1 N1 H1 = some (ex, E2, N2, H2) →
            (∀ (K : Value → Nat → AHeap → Prop) env N σ, K (.bool b) N (σ.set i ⟨[], true, .loop info s⟩) → RoundQ i info K ex env N σ) → v = .bool b → N' = N2 → H' = H2.put i ([], .loop info s) →
            YOk P i vs N (view c H) (fun v1 N1 σ1 => v1 = v ∧ N1 = N' ∧ (view c H').le σ1) ∧ Good c N H N' H' ∧ Bdd N' v := by
          intro ex E2 N2 H2 s b h2 hQ hvb hN hH
          subst hvb; subst hN; subst hH
          obtain ⟨b1, b2, b3⟩ := hr true info.n c info.body E1 N1 H1 ex E2 N' H2 a1.inv a2 h2
          have hle := Nat.le_trans a1.le b1.le
          have hI2 := b1.inv
          refine ⟨⟨info, hv, hlen, hpar, ?_⟩, ⟨hle, hI2.turn (by omega) ⟨(fun x hx => by cases hx), .loop fun t u hu => ?_⟩, fun j hj hjr => ?_, fun j hj hjn => ?_⟩, .flat rfl⟩
          · rw [← view_gone]
            refine (a3 _ hdom).mono fun ex1 env1 N3 σ1 ⟨e1, e2, e3, e4⟩ => ⟨e1, ?_⟩
            subst e3
            refine AWp.mono ((b3 env1 e2).forget (fun _ _ h => h) e4) fun ex2 env2 N4 σ2 ⟨f1, f2, f3, f4⟩ => ?_
            subst f1; subst f3
            refine hQ _ _ _ _ ⟨rfl, rfl, ?_⟩
            rw [view_turn hro v1]
            intro j bj hj
            unfold AHeap.set at hj ⊢
            split at hj
            · rename_i e; rw [if_pos e]; exact hj
            · rename_i e; rw [if_neg e]; exact f4 j bj hj
          · exact (hbb.2.1 _ _ rfl t u hu).mono hle
          · have hji : j ≠ i := by
              rintro rfl
              rcases hjr with h | h
              · rw [hro] at h; cases h
              · rw [v1] at h; cases h
            rw [Trie.put_get, if_neg hji, b1.frame j (by have := a1.le; omega) hjr, a1.frame j hj hjr, Trie.del_get, if_neg hji]
          · have hji : j ≠ i := by rintro rfl; rw [v2] at hjn; cases hjn
            rw [Trie.put_get, if_neg hji]
            exact b1.none j (by have := a1.le; omega) (a1.none j hj (by rw [Trie.del_get, if_neg hji]; exact hjn))
        split at h
        · rename_i E2 N2 H2 h2
          simp only [Option.some.injEq, Prod.mk.injEq] at h
          exact fin .normal E2 N2 H2 .ready true h2 (fun K env N σ hk => hk) h.1.symm h.2.1.symm h.2.2.symm
        · rename_i E2 N2 H2 h2
          simp only [Option.some.injEq, Prod.mk.injEq] at h
          exact fin .ret E2 N2 H2 (.left none) false h2 (fun K env N σ hk => hk) h.1.symm h.2.1.symm h.2.2.symm
        · rename_i id E2 N2 H2 h2
          simp only [Option.some.injEq, Prod.mk.injEq] at h
          exact fin (.exit id) E2 N2 H2 (.left (some id)) false h2 (fun K env N σ hk => hk) h.1.symm h.2.1.symm h.2.2.symm
        · cases h
      · cases h
  · cases h
theorem AWp.le_heap {r : Bool} {c : Code} {env : Env} {N : Nat} {σ σ' : AHeap} {K : Exit → Env → Nat → AHeap → Prop} (h : AWp r P n c env N σ' K) (hs : σ'.le σ) : AWp r P n c env N σ K := h.forget (fun _ _ h => h) hs

def ctx0 : Ctx := ⟨fun _ => false, fun _ => false⟩
theorem gives_alone {f : FuncId} {args : List Value} {v : Value} {N' : Nat} {H' : HeapT} (h1 : AOk P f args 0 (view ctx0 .leaf) (fun v1 N1 σ1 => v1 = v ∧ N1 = N' ∧ (view ctx0 H').le σ1)) (ha : args.all flat = true) (hv : flat v = true) (N : Nat) (σ : AHeap) : Gives P f args N σ v := by
  have e0 : view ctx0 (.leaf : HeapT) = none0 := by funext j; simp only [view, Trie.leaf_get]; rfl
  rw [e0] at h1
  intro ι w cargs R hr hargs hk
  refine h1 (fun _ => none) w cargs R (rel_none w) ⟨hargs.1, fun i u u' hu hu' => ?_⟩ fun ι' w' v2 v2' N' σ' ⟨e1, _, _⟩ hvr _ ht => ?_
  · have hf := List.all_eq_true.1 ha u (List.mem_of_getElem? hu)
    exact (flat_iff hf).2 ((flat_iff hf).1 (hargs.2 i u u' hu hu'))
  · subst e1
    have := (flat_iff hv).1 hvr
    subst this
    have hb := ht.below (fun i b h => by simp [none0] at h)
    exact hk ι w' _ _ N σ ⟨rfl, rfl, rfl⟩ (.of_flat hv) (hr.below hb) (Tr.of_below hb)
def AWpL (P : Program) (n : Nat) : List Code → Env → Nat → AHeap → (Exit → Env → Nat → AHeap → Prop) → Prop
  | [], env, N, σ, K => K .normal env N σ
  | a :: l, env, N, σ, K => AWp false P n a env N σ fun ex env' N' σ' => match ex with
    | .normal => AWpL P n l env' N' σ' K
    | ex => K ex env' N' σ'
theorem AWpL.le_heap {σ σ' : AHeap} (hs : σ'.le σ) {K : Exit → Env → Nat → AHeap → Prop} (hk : ∀ ex env N σ σ', σ'.le σ → K ex env N σ' → K ex env N σ) : ∀ {l : List Code} {env : Env} {N : Nat}, AWpL P n l env N σ' K → AWpL P n l env N σ K
  | [], _, _, h => hk _ _ _ _ _ hs h
  | _ :: _, _, _, h => AWp.le_heap h hs
end
end
end Go.Abs

