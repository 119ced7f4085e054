/- Abstract states over the machine: closed calls run by reckoning: code and calls. -/
import Derived.Test.YtfialjllclclkaaAbDr
import Derived.Test.YtfialjllclclkaaAbRow
namespace Go.Abs
noncomputable section
section
variable {P : Program} {n : Nat}

def evOps (P : Program) (n : Nat) (call : CallT) (c : Ctx) (ops : Array Oper) : List Oper → Trie Value → Nat → HeapT → Option (Trie Value × Nat × HeapT)
  | [], E, N, H => some (E, N, H)
  | o :: l, E, N, H =>
    bif dstOk n o.dst then
      match wantedT ops E o with
      | some true => match evOp P call c (opdT E) o.op N H with
        | some (v, N', H') => bif bddB N' v then evOps P n call c ops l (putT E o.dst v) N' H' else none
        | none => none
      | some false => evOps P n call c ops l (putT E o.dst undef) N H
      | none => none
    else none
abbrev RunT := Bool → Nat → Ctx → Code → Trie Value → Nat → HeapT → Option (Exit × Trie Value × Nat × HeapT)
def resT (P : Program) (E : Trie Value) (σ : AHeap) : ResultVar → Option Value
  | .tmp t => E.get t
  | .cell a t => match E.get a with
    | some (.pointer (some ⟨i, off, none⟩)) => (σ i).bind fun b => loadA P t b off
    | _ => none
def ressT (P : Program) (fn : Func) (E : Trie Value) (σ : AHeap) : Option Value :=
  (fn.results.toList.mapM (resT P E σ)).map fun l => match l with
    | [v] => v
    | l => .tuple l.toArray
def ofArgs : Nat → List Value → Trie Value → Trie Value
  | _, [], E => E
  | k, v :: l, E => ofArgs (k + 1) l (E.put k v)
/-- Calls whose answers are known. -/
abbrev Memo := List (FuncId × List Value × Value)
def sameV : Value → Value → Bool
  | .int k a, .int k' b => decide (k = k') && decide (a = b)
  | .bool a, .bool b => a == b
  | .slice none 0 0, .slice none 0 0 => true
  | _, _ => false
def sameL : List Value → List Value → Bool
  | [], [] => true
  | u :: us, v :: vs => sameV u v && sameL us vs
  | _, _ => false
theorem sameV_eq {u v : Value} (h : sameV u v = true) : u = v := by
  unfold sameV at h
  split at h
  · simp only [Bool.and_eq_true, decide_eq_true_eq] at h; rw [h.1, h.2]
  · rw [eq_of_beq h]
  · rfl
  · cases h
theorem sameL_eq : ∀ {us vs : List Value}, sameL us vs = true → us = vs
  | [], [], _ => rfl
  | u :: us, v :: vs, h => by
    simp only [sameL, Bool.and_eq_true] at h
    rw [sameV_eq h.1, sameL_eq h.2]
  | [], _ :: _, h => by cases h
  | _ :: _, [], h => by cases h
def lookM : Memo → FuncId → List Value → Option Value
  | [], _, _ => none
  | (g, as, v) :: M, f, xs => bif Nat.beq g f && (sameL as xs && flat v) then some v else lookM M f xs
def MemoOk (P : Program) (M : Memo) : Prop := ∀ e ∈ M, ∀ N σ, Gives P e.1 e.2.1 N σ e.2.2
theorem MemoOk.nil : MemoOk P [] := fun _ h => by cases h
theorem MemoOk.cons {f : FuncId} {as : List Value} {v : Value} {M : Memo} (h : ∀ N σ, Gives P f as N σ v) (hM : MemoOk P M) : MemoOk P ((f, as, v) :: M) := fun e he => by
  rcases List.mem_cons.1 he with rfl | he
  · exact h
  · exact hM e he
theorem lookM_sound : ∀ {M : Memo} {f : FuncId} {xs : List Value} {v : Value}, MemoOk P M → lookM M f xs = some v → (∀ N σ, Gives P f xs N σ v) ∧ flat v = true
  | [], f, xs, v, _, h => by cases h
  | (g, as, u) :: M, f, xs, v, hM, h => by
    unfold lookM at h
    cases hc : (Nat.beq g f && (sameL as xs && flat u)) with
    | false => rw [hc, cond_false] at h; exact lookM_sound (fun e he => hM e (List.mem_cons_of_mem _ he)) h
    | true =>
      rw [hc, cond_true] at h
      simp only [Bool.and_eq_true] at hc
      cases h
      have e1 : g = f := Nat.eq_of_beq_eq_true hc.1
      have e2 := sameL_eq hc.2.1
      subst e1; subst e2
      exact ⟨hM _ List.mem_cons_self, hc.2.2⟩
def putsT : List Tmp → List Value → Trie Value → Trie Value
  | p :: ps, v :: vs, E => putsT ps vs (E.put p v)
  | _, _, E => E
def ofEnv : Env → Trie Value
  | [] => .leaf
  | (t, v) :: e => (ofEnv e).put t v
def envB (n : Nat) (e : Env) : Bool := e.all fun x => Nat.blt x.1 n
/-- A round. -/
def evRound (run : RunT) (c : Ctx) (i : Nat) (vs : List Value) (N : Nat) (H : HeapT) : Option (Value × Nat × HeapT) :=
  match view c H i with
  | some ⟨[], true, .loop info .ready⟩ =>
    bif Nat.beq vs.length info.params.size && ((info.params.toList.all fun p => Nat.blt p info.n) && envB info.n info.env) then
      match run true info.n c info.assign (putsT info.params.toList vs (ofEnv info.env)) N (H.del i) with
      | some (.normal, E1, N1, H1) => match run true info.n c info.body E1 N1 H1 with
        | some (.normal, _, N2, H2) => some (.bool true, N2, H2.put i ([], .loop info .ready))
        | some (.ret, _, N2, H2) => some (.bool false, N2, H2.put i ([], .loop info (.left none)))
        | some (.exit id, _, N2, H2) => some (.bool false, N2, H2.put i ([], .loop info (.left (some id))))
        | _ => none
      | _ => none
    else none
  | _ => none
def evEnter (P : Program) (run : RunT) (c : Ctx) (f : FuncId) (args : List Value) (N : Nat) (H : HeapT) : Option (Value × Nat × HeapT) :=
  match P.funcs[f]? with
  | some fn => match fn.body with
    | some code =>
      bif Nat.ble args.length fn.ntmps then
        match run false fn.ntmps c code (ofArgs 0 args .leaf) N H with
        | some (.normal, E', N', H') => (ressT P fn E' (view c H')).bind fun v => if bddB N' v then some (v, N', H') else none
        | some (.ret, E', N', H') => (ressT P fn E' (view c H')).bind fun v => if bddB N' v then some (v, N', H') else none
        | _ => none
      else none
    | none => none
  | none => none
def callWith (P : Program) (M : Memo) (run : RunT) : CallT := fun c fn args N H => match fn with
  | .func f => match lookM M f args with
    | some v => some (v, N, H)
    | none => evEnter P run c f args N H
  | .yield i => evRound run c i args N H
  | _ => none
def evSeq (run : RunT) (rd : Bool) (n : Nat) (c : Ctx) (a b : Code) (E : Trie Value) (N : Nat) (H : HeapT) : Option (Exit × Trie Value × Nat × HeapT) :=
  match run rd n c a E N H with
  | some (.normal, E', N', H') => run rd n c b E' N' H'
  | r => r
def evCond (run : RunT) (rd : Bool) (n : Nat) (c : Ctx) (x : Operand) (a b : Code) (E : Trie Value) (N : Nat) (H : HeapT) : Option (Exit × Trie Value × Nat × HeapT) :=
  match opdT E x with
  | some (.bool true) => run rd n c a E N H
  | some (.bool false) => run rd n c b E N H
  | _ => none
def evBlock (run : RunT) (rd : Bool) (n : Nat) (c : Ctx) (id : Nat) (body : Code) (E : Trie Value) (N : Nat) (H : HeapT) : Option (Exit × Trie Value × Nat × HeapT) :=
  match run rd n c body E N H with
  | some (.exit id', E', N', H') => bif Nat.beq id' id then some (.normal, E', N', H') else some (.exit id', E', N', H')
  | r => r
def evRange (P : Program) (M : Memo) (run : RunT) (n : Nat) (c : Ctx) (f : Operand) (params : Array Tmp) (assign body : Code) (E : Trie Value) (N : Nat) (H : HeapT) : Option (Exit × Trie Value × Nat × HeapT) :=
  match opdT E f with
  | some (.func (.func g) xs cs) =>
    bif callableB P g then
      match callWith P M run c (.func g) (xs.toList ++ [.func (.yield N) #[] #[]] ++ cs.toList) (N + 1) (H.put N ([], .loop ⟨n, params, assign, body, pick E (List.range n)⟩ .ready)) with
      | some (_, N', H') => match view c H' N with
        | some ⟨[], true, .loop _ st⟩ => some (st.exit, E, N', H'.del N)
        | _ => none
      | none => none
    else none
  | _ => none
def evReg (P : Program) (M : Memo) (run : RunT) (n : Nat) (c : Ctx) (ops : Array Oper) (E : Trie Value) (N : Nat) (H : HeapT) : Option (Exit × Trie Value × Nat × HeapT) :=
  match evOps P n (callWith P M run) c ops ops.toList E N H with
  | some (E', N', H') => some (.normal, E', N', H')
  | none => none
def evRegM (P : Program) (M : Memo) (run : RunT) (n : Nat) (md : Bool) (c : Ctx) (ops : Array Oper) (E : Trie Value) (N : Nat) (H : HeapT) : Option (Exit × Trie Value × Nat × HeapT) :=
  match evDraw P n (callWith P M run) md c ops N 0 ops.toList E N H ⟨[N], [], [], [], []⟩ with
  | some (E', N', H', fin) => bif drawnB P ops.toList fin.m && calmB ops fin then some (.normal, E', N', H') else none
  | none => none
def evRegD (P : Program) (M : Memo) (run : RunT) (n : Nat) (c : Ctx) (ops : Array Oper) (E : Trie Value) (N : Nat) (H : HeapT) : Option (Exit × Trie Value × Nat × HeapT) :=
  match evRegM P M run n true c ops E N H with
  | some r => some r
  | none => evRegM P M run n false c ops E N H
def evCode (P : Program) (M : Memo) (run : RunT) : RunT := fun rd n c code E N H => match code with
  | .skip => some (.normal, E, N, H)
  | .label _ => some (.normal, E, N, H)
  | .exit id => some (.exit id, E, N, H)
  | .ret => some (.ret, E, N, H)
  | .seq a b => evSeq run rd n c a b E N H
  | .cond x a b => evCond run rd n c x a b E N H
  | .block id body => evBlock run rd n c id body E N H
  | .loop body => evSeq run rd n c body (.loop body) E N H
  | .region _ ops false => evReg P M run n c ops E N H
  | .region _ ops true => evRegD P M run n c ops E N H
  | .rangeFunc f params assign body => bif rd then none else evRange P M run n c f params assign body E N H
  | _ => none
def ev (P : Program) (M : Memo) : Nat → RunT
  | 0 => fun _ _ _ _ _ _ _ => none
  | k + 1 => evCode P M (ev P M k)

theorem pick_dom {env : Env} {E : Trie Value} (hd : Dom env E) (ks : List Nat) : ∀ t v, (pick E ks).get t = some v → env.get t = some v := fun t v ht => hd t v (pick_get E ks t v ht).1
theorem evOps_sound {call : CallT} (hcall : CallOk P call) {c : Ctx} {ops : Array Oper} : ∀ (l : List Oper) (E : Trie Value) (N : Nat) (H : HeapT) (E' : Trie Value) (N' : Nat) (H' : HeapT), evOps P n call c ops l E N H = some (E', N', H') → Inv c N H → EB n E N →
    Good c N H N' H' ∧ EB n E' N' ∧ ∀ (K : Env → Nat → AHeap → Prop) (env : Env), Dom env E → (∀ env1, Dom env1 E' → K env1 N' (view c H')) → AList P n ops l env N (view c H) K
  | [], E, N, H, E', N', H', h, hI, hE => by
    simp only [evOps, Option.some.injEq, Prod.mk.injEq] at h
    obtain ⟨rfl, rfl, rfl⟩ := h
    exact ⟨.same hI, hE, fun K env hd hk => al_nil (hk env hd)⟩
  | o :: l, E, N, H, E', N', H', h, hI, hE => by
    simp only [evOps] at h
    cases hd : dstOk n o.dst with
    | false => rw [hd] at h; cases h
    | true =>
      rw [hd, cond_true] at h
      split at h
      · rename_i hw
        rw [wantedT_pick] at hw
        split at h
        · rename_i v N1 H1 hev
          rw [evOp_congr (opdT_pick E ops o)] at hev
          cases hb : bddB N1 v with
          | false => rw [hb] at h; cases h
          | true =>
            rw [hb, cond_true] at h
            obtain ⟨g1, g2⟩ := evOp_sound (n := n) hcall hI (hE.pick _) hev
            obtain ⟨q1, q2, q3⟩ := evOps_sound hcall l _ N1 H1 E' N' H' h g2.inv ((hE.up g2.le).put (bddB_sound hb) hd)
            refine ⟨g2.trans q1, q2, fun K env hdom hk => ?_⟩
            have hpick := pick_dom hdom (slotsOf ops o)
            refine al_step (wantedA_mono hw hpick) (dstOk_spec hd) ((g1.env_mono hpick).mono fun v1 N2 σ1 ⟨e1, e2, e3⟩ => ?_)
            subst e1; subst e2
            exact al_forget e3 (q3 K _ (hdom.put _ _) hk)
        · cases h
      · rename_i hw
        rw [wantedT_pick] at hw
        obtain ⟨q1, q2, q3⟩ := evOps_sound hcall l _ N H E' N' H' h hI (hE.put (.of_flat rfl) hd)
        refine ⟨q1, q2, fun K env hdom hk => ?_⟩
        have hpick := pick_dom hdom (slotsOf ops o)
        exact al_skip (wantedA_mono hw hpick) (dstOk_spec hd) (q3 K _ (hdom.put _ _) hk)
      · cases h

theorem opdT_dom {env : Env} {E : Trie Value} (hd : Dom env E) {x : Operand} {v : Value} (h : opdT E x = some v) : env.eval x = some v := by
  cases x with
  | tmp t => exact hd t v h
  | const u => exact h
  | global g => cases h
  | func f => exact h
theorem loadA_le {σ σ1 : AHeap} (hl : σ.le σ1) {t : TypeId} {i off : Nat} {v : Value} (h : ((σ i).bind fun b => loadA P t b off) = some v) : ((σ1 i).bind fun b => loadA P t b off) = some v := by
  simp only [Option.bind_eq_some_iff] at h ⊢
  obtain ⟨b, hb, hv⟩ := h
  exact ⟨b, hl i b hb, hv⟩
theorem mapM_mono {α β : Type} {f g : α → Option β} (h : ∀ x v, f x = some v → g x = some v) : ∀ (l : List α) (vs : List β), l.mapM f = some vs → l.mapM g = some vs
  | [], vs, hh => by simpa using hh
  | x :: l, vs, hh => by
    simp only [List.mapM_cons] at hh ⊢
    cases hx : f x with
    | none => simp [hx] at hh
    | some v =>
      cases hl : l.mapM f with
      | none => simp [hx, hl] at hh
      | some us =>
        simp [hx, hl] at hh
        subst hh
        rw [h x v hx, mapM_mono h l us hl]; rfl
theorem ressT_sound {fn : Func} {E : Trie Value} {env : Env} {σ σ1 : AHeap} {v : Value} (h : ressT P fn E σ = some v) (hd : Dom env E) (hl : σ.le σ1) : resA P fn env σ1 = some v := by
  unfold ressT at h
  unfold resA
  simp only [Option.map_eq_some_iff] at h ⊢
  obtain ⟨l, h1, h2⟩ := h
  refine ⟨l, mapM_mono (fun r v hv => ?_) _ _ h1, h2⟩
  cases r with
  | tmp t => exact hd t v hv
  | cell a t =>
    simp only [resT] at hv
    split at hv
    · rename_i i off ha
      simp only [resOneA, hd _ _ ha]
      exact loadA_le hl hv
    · cases hv
theorem ofArgs_get : ∀ (l : List Value) (k : Nat) (E : Trie Value) (t : Nat) (v : Value), (ofArgs k l E).get t = some v → (k ≤ t ∧ l[t - k]? = some v) ∨ ((t < k ∨ k + l.length ≤ t) ∧ E.get t = some v)
  | [], k, E, t, v, h => by
    refine .inr ⟨?_, h⟩
    simp; omega
  | u :: l, k, E, t, v, h => by
    rcases ofArgs_get l (k + 1) (E.put k u) t v h with ⟨h1, h2⟩ | ⟨h1, h2⟩
    · refine .inl ⟨by omega, ?_⟩
      rw [show t - k = (t - (k + 1)) + 1 from by omega]; simpa using h2
    · rw [Trie.put_get] at h2
      split at h2
      · rename_i e; subst e; cases h2; exact .inl ⟨Nat.le_refl _, by simp⟩
      · rename_i e
        exact .inr ⟨by simp; omega, h2⟩
theorem initEnv_of : ∀ (l : List Value) (k t : Nat) (v : Value), k ≤ t → l[t - k]? = some v → (initEnv k l).get t = some v
  | [], _, _, _, _, h => by simp at h
  | u :: l, k, t, v, hk, h => by
    simp only [initEnv, Env.get]
    by_cases e : k = t
    · subst e; rw [if_pos rfl]; simpa using h
    · rw [if_neg e]
      refine initEnv_of l (k + 1) t v (by omega) ?_
      rw [show t - k = (t - (k + 1)) + 1 from by omega] at h
      simpa using h

def RunOk (P : Program) (run : RunT) : Prop := ∀ (rd : Bool) (n : Nat) (c : Ctx) (code : Code) (E : Trie Value) (N : Nat) (H : HeapT) (ex : Exit) (E' : Trie Value) (N' : Nat) (H' : HeapT), Inv c N H → EB n E N → run rd n c code E N H = some (ex, E', N', H') →
  Good c N H N' H' ∧ EB n E' N' ∧ ∀ env, Dom env E → AWp rd P n code env N (view c H) (fun ex1 env1 N1 σ1 => ex1 = ex ∧ Dom env1 E' ∧ N1 = N' ∧ (view c H').le σ1)
theorem evEnter_ok {run : RunT} (hr : RunOk P run) {c : Ctx} {f : FuncId} {args : List Value} {N : Nat} {H : HeapT} {v : Value} {N' : Nat} {H' : HeapT} (hI : Inv c N H) (ha : ∀ x ∈ args, Bdd N x) (h : evEnter P run c f args N H = some (v, N', H')) :
    AOk P f args N (view c H) (fun v1 N1 σ1 => v1 = v ∧ N1 = N' ∧ (view c H').le σ1) ∧ Good c N H N' H' ∧ Bdd N' v := by
  unfold evEnter at h
  split at h
  · rename_i fn hf
    split at h
    · rename_i code hb
      cases hl0 : Nat.ble args.length fn.ntmps with
      | false => rw [hl0] at h; cases h
      | true =>
        rw [hl0, cond_true] at h
        have hl : args.length ≤ fn.ntmps := Nat.le_of_ble_eq_true hl0
        have hE : EB fn.ntmps (ofArgs 0 args .leaf) N := by
          intro t u ht
          rcases ofArgs_get args 0 _ t u ht with ⟨_, h2⟩ | ⟨_, h2⟩
          · rw [Nat.sub_zero] at h2
            have := (List.getElem?_eq_some_iff.1 h2).1
            exact ⟨by omega, ha u (List.mem_of_getElem? h2)⟩
          · rw [Trie.leaf_get] at h2; cases h2
        have hdom : Dom (initEnv 0 args) (ofArgs 0 args .leaf) := by
          intro t u ht
          rcases ofArgs_get args 0 _ t u ht with ⟨h1, h2⟩ | ⟨_, h2⟩
          · exact initEnv_of args 0 t u h1 h2
          · rw [Trie.leaf_get] at h2; cases h2
        have fin : ∀ ex E1 N1 H1, (ex = .normal ∨ ex = .ret) → run false fn.ntmps c code (ofArgs 0 args .leaf) N H = some (ex, E1, N1, H1) → ((ressT P fn E1 (view c H1)).bind fun v => if bddB N1 v then some (v, N1, H1) else none) = some (v, N', H') →
            AOk P f args N (view c H) (fun v1 N1 σ1 => v1 = v ∧ N1 = N' ∧ (view c H').le σ1) ∧ Good c N H N' H' ∧ Bdd N' v := by
          intro ex E1 N1 H1 hex hrun hres
          obtain ⟨g1, g2, g3⟩ := hr false _ c code _ N H ex E1 N1 H1 hI hE hrun
          simp only [Option.bind_eq_some_iff] at hres
          obtain ⟨v2, h2, h3⟩ := hres
          split at h3
          · rename_i hbd
            simp only [Option.some.injEq, Prod.mk.injEq] at h3
            obtain ⟨rfl, rfl, rfl⟩ := h3
            refine ⟨aok_body hf hb rfl hl ((g3 _ hdom).mono fun ex1 env1 N2 σ1 ⟨e1, e2, e3, e4⟩ => ?_), g1, bddB_sound hbd⟩
            subst e1; subst e3
            have : resA P fn env1 σ1 = some v2 := ressT_sound h2 e2 e4
            rcases hex with rfl | rfl
            · exact ⟨v2, this, rfl, rfl, e4⟩
            · exact ⟨v2, this, rfl, rfl, e4⟩
          · cases h3
        split at h
        · rename_i E1 N1 H1 hrun
          exact fin _ E1 N1 H1 (.inl rfl) hrun h
        · rename_i E1 N1 H1 hrun
          exact fin _ E1 N1 H1 (.inr rfl) hrun h
        · cases h
    · cases h
  · cases h
theorem ofEnv_get : ∀ (e : Env) (t : Nat), (ofEnv e).get t = e.get t
  | [], t => Trie.leaf_get t
  | (t', v) :: e, t => by
    simp only [ofEnv, Trie.put_get, Env.get, ofEnv_get e t]
    by_cases h : t = t'
    · subst h; simp
    · rw [if_neg h, if_neg fun h' => h h'.symm]
theorem env_mem : ∀ (e : Env) (t : Nat) (v : Value), e.get t = some v → (t, v) ∈ e
  | [], _, _, h => by cases h
  | (t', u) :: e, t, v, h => by
    simp only [Env.get] at h
    split at h
    · rename_i e'; subst e'; cases h; simp
    · exact List.mem_cons_of_mem _ (env_mem e t v h)
theorem putsT_dom : ∀ (ps : List Tmp) (vs : List Value) (E : Trie Value) (e : Env), Dom e E → Dom (putParams ps vs e) (putsT ps vs E)
  | [], _, _, _, h => h
  | _ :: _, [], _, _, h => h
  | p :: ps, v :: vs, _, _, h => putsT_dom ps vs _ _ (h.put (some p) v)
theorem putsT_eb {N m : Nat} : ∀ (ps : List Tmp) (vs : List Value) (E : Trie Value), (∀ p ∈ ps, p < m) → (∀ v ∈ vs, Bdd N v) → EB m E N → EB m (putsT ps vs E) N
  | [], _, _, _, _, h => h
  | _ :: _, [], _, _, _, h => h
  | p :: ps, v :: vs, E, hp, hv, h => putsT_eb ps vs _ (fun q hq => hp q (by simp [hq])) (fun u hu => hv u (by simp [hu])) (h.put (d := some p) (hv v (by simp)) (by simp [dstOk, hp p (by simp)]))
theorem evRound_ok {run : RunT} (hr : RunOk P run) {c : Ctx} {i : Nat} {vs : List Value} {N : Nat} {H : HeapT} {v : Value} {N' : Nat} {H' : HeapT} (hI : Inv c N H) (ha : ∀ x ∈ vs, Bdd N x) (h : evRound run c i vs N H = some (v, N', H')) :
    YOk P i vs N (view c H) (fun v1 N1 σ1 => v1 = v ∧ N1 = N' ∧ (view c H').le σ1) ∧ Good c N H N' H' ∧ Bdd N' v := by
  unfold evRound at h
  split at h
  · rename_i info hv
    cases hc : (Nat.beq vs.length info.params.size && ((info.params.toList.all fun p => Nat.blt p info.n) && envB info.n info.env)) with
    | false => rw [hc] at h; cases h
    | true =>
      rw [hc, cond_true] at h
      simp only [Bool.and_eq_true] at hc
      have hlen := Nat.eq_of_beq_eq_true hc.1
      have hpar : ∀ p ∈ info.params.toList, p < info.n := fun p hp => blt_lt (List.all_eq_true.1 hc.2.1 p hp)
      obtain ⟨v1, v2, v3⟩ := view_some hv
      have hro : c.ro i = false := by simpa using v3.symm
      obtain ⟨hiN, hbb⟩ := hI.bdd _ _ v2
      split at h
      · rename_i E1 N1 H1 h1
        have hEB : EB info.n (putsT info.params.toList vs (ofEnv info.env)) N := putsT_eb _ _ _ hpar ha fun t u ht => by
          rw [ofEnv_get] at ht
          exact ⟨blt_lt (List.all_eq_true.1 hc.2.2 _ (env_mem _ t u ht)), hbb.2.1 _ _ rfl t u ht⟩
        obtain ⟨a1, a2, a3⟩ := hr true info.n c info.assign _ N (H.del i) .normal E1 N1 H1 (hI.gone i) hEB h1
        have hdom : Dom (putParams info.params.toList vs info.env) (putsT info.params.toList vs (ofEnv info.env)) := putsT_dom _ _ _ _ fun t u ht => by rw [ofEnv_get] at ht; exact ht
        have fin : ∀ ex E2 N2 H2 (s : LSt) (b : Bool), run true info.n c info.body E1 N1 H1 = some (ex, E2, N2, H2) →
            (∀ (K : Value → Nat → AHeap → Prop) env N σ, K (.bool b) N (σ.set i ⟨[], true, .loop info s⟩) → RoundQ i info K ex env N σ) → v = .bool b → N' = N2 → H' = H2.put i ([], .loop info s) →
            YOk P i vs N (view c H) (fun v1 N1 σ1 => v1 = v ∧ N1 = N' ∧ (view c H').le σ1) ∧ Good c N H N' H' ∧ Bdd N' v := by
          intro ex E2 N2 H2 s b h2 hQ hvb hN hH
          subst hvb; subst hN; subst hH
          obtain ⟨b1, b2, b3⟩ := hr true info.n c info.body E1 N1 H1 ex E2 N' H2 a1.inv a2 h2
          have hle := Nat.le_trans a1.le b1.le
          have hI2 := b1.inv
          refine ⟨⟨info, hv, hlen, hpar, ?_⟩, ⟨hle, hI2.turn (by omega) ⟨(fun x hx => by cases hx), .loop fun t u hu => ?_⟩, fun j hj hjr => ?_, fun j hj hjn => ?_⟩, .flat rfl⟩
          · rw [← view_gone]
            refine (a3 _ hdom).mono fun ex1 env1 N3 σ1 ⟨e1, e2, e3, e4⟩ => ⟨e1, ?_⟩
            subst e3
            refine AWp.mono ((b3 env1 e2).forget (fun _ _ h => h) e4) fun ex2 env2 N4 σ2 ⟨f1, f2, f3, f4⟩ => ?_
            subst f1; subst f3
            refine hQ _ _ _ _ ⟨rfl, rfl, ?_⟩
            rw [view_turn hro v1]
            intro j bj hj
            unfold AHeap.set at hj ⊢
            split at hj
            · rename_i e; rw [if_pos e]; exact hj
            · rename_i e; rw [if_neg e]; exact f4 j bj hj
          · exact (hbb.2.1 _ _ rfl t u hu).mono hle
          · have hji : j ≠ i := by
              rintro rfl
              rcases hjr with h | h
              · rw [hro] at h; cases h
              · rw [v1] at h; cases h
            rw [Trie.put_get, if_neg hji, b1.frame j (by have := a1.le; omega) hjr, a1.frame j hj hjr, Trie.del_get, if_neg hji]
          · have hji : j ≠ i := by rintro rfl; rw [v2] at hjn; cases hjn
            rw [Trie.put_get, if_neg hji]
            exact b1.none j (by have := a1.le; omega) (a1.none j hj (by rw [Trie.del_get, if_neg hji]; exact hjn))
        split at h
        · rename_i E2 N2 H2 h2
          simp only [Option.some.injEq, Prod.mk.injEq] at h
          exact fin .normal E2 N2 H2 .ready true h2 (fun K env N σ hk => hk) h.1.symm h.2.1.symm h.2.2.symm
        · rename_i E2 N2 H2 h2
          simp only [Option.some.injEq, Prod.mk.injEq] at h
          exact fin .ret E2 N2 H2 (.left none) false h2 (fun K env N σ hk => hk) h.1.symm h.2.1.symm h.2.2.symm
        · rename_i id E2 N2 H2 h2
          simp only [Option.some.injEq, Prod.mk.injEq] at h
          exact fin (.exit id) E2 N2 H2 (.left (some id)) false h2 (fun K env N σ hk => hk) h.1.symm h.2.1.symm h.2.2.symm
        · cases h
      · cases h
  · cases h
theorem callWith_ok {M : Memo} (hM : MemoOk P M) {run : RunT} (hr : RunOk P run) : CallOk P (callWith P M run) := by
  intro c fn args N H v N' H' hI ha h
  unfold callWith at h
  split at h
  · rename_i f
    split at h
    · rename_i v0 hm
      simp only [Option.some.injEq, Prod.mk.injEq] at h
      obtain ⟨rfl, rfl, rfl⟩ := h
      obtain ⟨g1, g2⟩ := lookM_sound hM hm
      refine ⟨?_, .same hI, .of_flat g2⟩
      have := g1 N (view c H)
      unfold Gives at this
      exact this.mono fun v1 N1 σ1 ⟨e1, e2, e3⟩ => ⟨e1, e2, by rw [e3]; exact AHeap.le_refl _⟩
    · exact evEnter_ok hr hI ha h
  · rename_i i
    exact evRound_ok hr hI ha h
  · cases h

theorem AWp.le_heap {r : Bool} {c : Code} {env : Env} {N : Nat} {σ σ' : AHeap} {K : Exit → Env → Nat → AHeap → Prop} (h : AWp r P n c env N σ' K) (hs : σ'.le σ) : AWp r P n c env N σ K := h.forget (fun _ _ h => h) hs

def LoopOk (P : Program) (run : RunT) : Prop := ∀ (rd : Bool) (n : Nat) (c : Ctx) (body : Code) (E : Trie Value) (N : Nat) (H : HeapT) (ex : Exit) (E' : Trie Value) (N' : Nat) (H' : HeapT), Inv c N H → EB n E N → run rd n c (.loop body) E N H = some (ex, E', N', H') →
  Good c N H N' H' ∧ EB n E' N' ∧ ∀ env, Dom env E → ALoop rd P n body env N (view c H) (fun ex1 env1 N1 σ1 => ex1 = ex ∧ Dom env1 E' ∧ N1 = N' ∧ (view c H').le σ1)
theorem ev_loop {M : Memo} {k : Nat} (ih : RunOk P (ev P M k)) (il : LoopOk P (ev P M k)) : LoopOk P (ev P M (k + 1)) := by
  intro rd n c body E N H ex E' N' H' hI hE h
  have h : evSeq (ev P M k) rd n c body (.loop body) E N H = some (ex, E', N', H') := h
  unfold evSeq at h
  split at h
  · rename_i E1 N1 H1 h1
    obtain ⟨g1, g2, g3⟩ := ih rd n c body E N H _ E1 N1 H1 hI hE h1
    obtain ⟨q1, q2, q3⟩ := il rd n c body E1 N1 H1 ex E' N' H' g1.inv g2 h
    refine ⟨g1.trans q1, q2, fun env hd => aloop_round ((g3 env hd).mono fun ex1 env1 N2 σ1 ⟨e1, e2, e3, e4⟩ => ?_)⟩
    subst e1; subst e3
    exact (q3 env1 e2).forget (fun _ _ h => h) e4
  · rename_i r hne
    obtain ⟨g1, g2, g3⟩ := ih rd n c body E N H ex E' N' H' hI hE h
    refine ⟨g1, g2, fun env hd => aloop_round ((g3 env hd).mono fun ex1 env1 N2 σ1 ⟨e1, e2, e3, e4⟩ => ?_)⟩
    subst e1; subst e3
    cases ex1 with
    | normal => exact (hne _ _ _ h).elim
    | _ => exact ⟨rfl, e2, rfl, e4⟩
theorem evRange_ok {M : Memo} (hM : MemoOk P M) {run : RunT} (hr : RunOk P run) {c : Ctx} {f : Operand} {params : Array Tmp} {assign body : Code} {E : Trie Value} {N : Nat} {H : HeapT} {ex : Exit} {E' : Trie Value} {N' : Nat} {H' : HeapT} (hI : Inv c N H) (hE : EB n E N)
    (h : evRange P M run n c f params assign body E N H = some (ex, E', N', H')) :
    Good c N H N' H' ∧ EB n E' N' ∧ ∀ env, Dom env E → AWp false P n (.rangeFunc f params assign body) env N (view c H) (fun ex1 env1 N1 σ1 => ex1 = ex ∧ Dom env1 E' ∧ N1 = N' ∧ (view c H').le σ1) := by
  unfold evRange at h
  split at h
  · rename_i g xs cs hf
    cases hc : callableB P g with
    | false => rw [hc] at h; cases h
    | true =>
      rw [hc, cond_true] at h
      split at h
      · rename_i v1 N1 H1 hcl
        split at h
        · rename_i info st hv
          simp only [Option.some.injEq, Prod.mk.injEq] at h
          obtain ⟨rfl, rfl, rfl, rfl⟩ := h
          let B : LInfo := ⟨n, params, assign, body, pick E (List.range n)⟩
          have hBB : BB (N + 1) ([], .loop B .ready) := ⟨(fun x hx => by cases hx), .loop fun t u hu => ((hE t u (pick_get E _ t u hu).1).2).mono (Nat.le_succ _)⟩
          have hI1 : Inv c (N + 1) (H.put N ([], .loop B .ready)) := hI.new hBB
          have hfb : Bdd N (.func (.func g) xs cs) := by
            cases f with
            | tmp t => exact (hE t _ hf).2
            | const u =>
              simp only [opdT] at hf
              split at hf
              · cases hf; exact .of_flat (by assumption)
              · cases hf
            | global g => cases hf
            | func f => cases hf; exact .func (by simp) (by simp) (by simp)
          obtain ⟨b1, b2⟩ : (∀ (i : Nat) (v : Value), xs[i]? = some v → Bdd N v) ∧ (∀ (i : Nat) (v : Value), cs[i]? = some v → Bdd N v) := by
            cases hfb with
            | flat hh => simp [flat0] at hh
            | func _ q1 q2 => exact ⟨q1, q2⟩
          have hab : ∀ x ∈ xs.toList ++ [.func (.yield N) #[] #[]] ++ cs.toList, Bdd (N + 1) x := by
            intro x hx
            rw [List.mem_append, List.mem_append] at hx
            rcases hx with (hx | hx) | hx
            · obtain ⟨i, hi⟩ := List.getElem?_of_mem hx
              exact (b1 i x (by simpa using hi)).mono (Nat.le_succ _)
            · rw [List.mem_singleton.1 hx]; exact .yield (Nat.lt_succ_self _)
            · obtain ⟨i, hi⟩ := List.getElem?_of_mem hx
              exact (b2 i x (by simpa using hi)).mono (Nat.le_succ _)
          obtain ⟨k1, k2, _⟩ := callWith_ok hM hr c (.func g) _ (N + 1) _ v1 N1 H1 hI1 hab hcl
          have hle : N ≤ N1 := Nat.le_trans (Nat.le_succ _) k2.le
          refine ⟨⟨hle, k2.inv.gone N, fun j hj hjr => ?_, fun j hj hjn => ?_⟩, hE.up hle, fun env hd => ?_⟩
          · rw [Trie.del_get, if_neg (by omega), k2.frame j (by omega) hjr, Trie.put_get, if_neg (by omega)]
          · rw [Trie.del_get, if_neg (by omega)]
            exact k2.none j (by omega) (by rw [Trie.put_get, if_neg (by omega)]; exact hjn)
          · have hpd : ∀ t v, (pick E (List.range n)).get t = some v → env.get t = some v := pick_dom hd _
            refine AWp.forget (env' := pick E (List.range n)) ?_ hpd (AHeap.le_refl _)
            have hf' : (pick E (List.range n)).eval f = some (.func (.func g) xs cs) := by
              cases f with
              | tmp t => exact (pick_get_eq E _ t (List.mem_range.2 (hE t _ hf).1)).trans hf
              | const u => exact hf
              | global g => cases hf
              | func f => exact hf
            refine awp_rangeFunc hf' hc ?_
            rw [← view_new hI ([], .loop B .ready)]
            refine AOk.mono k1 fun v2 N2 σ2 ⟨e1, e2, e3⟩ => ⟨info, st, e3 _ _ hv, rfl, fun t v ht => ?_, e2, ?_⟩
            · rw [pick_get_eq E _ t (List.mem_range.2 (hE t _ ht).1)]; exact ht
            · rw [view_gone]
              intro j bj hj
              unfold AHeap.del at hj ⊢
              split at hj
              · cases hj
              · rename_i e; rw [if_neg e]; exact e3 j bj hj
        · cases h
      · cases h
  · cases h
theorem ev_step {M : Memo} (hM : MemoOk P M) {k : Nat} (ih : RunOk P (ev P M k)) (hloop : LoopOk P (ev P M (k + 1))) : RunOk P (ev P M (k + 1)) := fun rd n c code E N H ex E' N' H' hI hE h0 => by
    have hcall := callWith_ok hM ih
    have h : evCode P M (ev P M k) rd n c code E N H = some (ex, E', N', H') := h0
    unfold evCode at h
    split at h
    · simp only [Option.some.injEq, Prod.mk.injEq] at h
      obtain ⟨rfl, rfl, rfl, rfl⟩ := h
      exact ⟨.same hI, hE, fun env hd => awp_skip ⟨rfl, hd, rfl, AHeap.le_refl _⟩⟩
    · simp only [Option.some.injEq, Prod.mk.injEq] at h
      obtain ⟨rfl, rfl, rfl, rfl⟩ := h
      exact ⟨.same hI, hE, fun env hd => awp_label ⟨rfl, hd, rfl, AHeap.le_refl _⟩⟩
    · simp only [Option.some.injEq, Prod.mk.injEq] at h
      obtain ⟨rfl, rfl, rfl, rfl⟩ := h
      exact ⟨.same hI, hE, fun env hd => awp_exit ⟨rfl, hd, rfl, AHeap.le_refl _⟩⟩
    · simp only [Option.some.injEq, Prod.mk.injEq] at h
      obtain ⟨rfl, rfl, rfl, rfl⟩ := h
      exact ⟨.same hI, hE, fun env hd => awp_ret ⟨rfl, hd, rfl, AHeap.le_refl _⟩⟩
    · rename_i a b
      unfold evSeq at h
      split at h
      · rename_i E1 N1 H1 h1
        obtain ⟨g1, g2, g3⟩ := ih rd n c a E N H _ E1 N1 H1 hI hE h1
        obtain ⟨q1, q2, q3⟩ := ih rd n c b E1 N1 H1 ex E' N' H' g1.inv g2 h
        refine ⟨g1.trans q1, q2, fun env hd => awp_seq ((g3 env hd).mono fun ex1 env1 N2 σ1 ⟨e1, e2, e3, e4⟩ => ?_)⟩
        subst e1; subst e3
        exact (q3 env1 e2).le_heap e4
      · rename_i r hne
        obtain ⟨g1, g2, g3⟩ := ih rd n c a E N H ex E' N' H' hI hE h
        refine ⟨g1, g2, fun env hd => awp_seq ((g3 env hd).mono fun ex1 env1 N2 σ1 ⟨e1, e2, e3, e4⟩ => ?_)⟩
        subst e1; subst e3
        cases ex1 with
        | normal => exact (hne _ _ _ h).elim
        | _ => exact ⟨rfl, e2, rfl, e4⟩
    · rename_i x a b
      unfold evCond at h
      split at h
      · rename_i hx
        obtain ⟨g1, g2, g3⟩ := ih rd n c a E N H ex E' N' H' hI hE h
        exact ⟨g1, g2, fun env hd => awp_cond (t := true) (opdT_dom hd hx) (g3 env hd)⟩
      · rename_i hx
        obtain ⟨g1, g2, g3⟩ := ih rd n c b E N H ex E' N' H' hI hE h
        exact ⟨g1, g2, fun env hd => awp_cond (t := false) (opdT_dom hd hx) (g3 env hd)⟩
      · cases h
    · rename_i id body
      unfold evBlock at h
      split at h
      · rename_i id' E1 N1 H1 h1
        obtain ⟨g1, g2, g3⟩ := ih rd n c body E N H _ E1 N1 H1 hI hE h1
        cases hid0 : Nat.beq id' id with
        | true =>
          rw [hid0, cond_true] at h
          have hid := Nat.eq_of_beq_eq_true hid0
          simp only [Option.some.injEq, Prod.mk.injEq] at h
          obtain ⟨rfl, rfl, rfl, rfl⟩ := h
          refine ⟨g1, g2, fun env hd => awp_block ((g3 env hd).mono fun ex1 env1 N2 σ1 ⟨e1, e2, e3, e4⟩ => ?_)⟩
          subst e1; subst e3; subst hid
          exact inBlock_exit ⟨rfl, e2, rfl, e4⟩
        | false =>
          rw [hid0, cond_false] at h
          have hid : id' ≠ id := fun e => by subst e; rw [Nat.beq_refl] at hid0; cases hid0
          simp only [Option.some.injEq, Prod.mk.injEq] at h
          obtain ⟨rfl, rfl, rfl, rfl⟩ := h
          refine ⟨g1, g2, fun env hd => awp_block ((g3 env hd).mono fun ex1 env1 N2 σ1 ⟨e1, e2, e3, e4⟩ => ?_)⟩
          subst e1; subst e3
          exact inBlock_other hid ⟨rfl, e2, rfl, e4⟩
      · rename_i r hne
        obtain ⟨g1, g2, g3⟩ := ih rd n c body E N H ex E' N' H' hI hE h
        refine ⟨g1, g2, fun env hd => awp_block ((g3 env hd).mono fun ex1 env1 N2 σ1 ⟨e1, e2, e3, e4⟩ => ?_)⟩
        subst e1; subst e3
        cases ex1 with
        | exit id' => exact (hne _ _ _ _ h).elim
        | _ => exact ⟨rfl, e2, rfl, e4⟩
    · rename_i body
      obtain ⟨g1, g2, g3⟩ := hloop rd n c body E N H ex E' N' H' hI hE h0
      exact ⟨g1, g2, fun env hd => awp_loop (g3 env hd)⟩
    · rename_i id ops
      unfold evReg at h
      split at h
      · rename_i r1 r2 r3 hr
        simp only [Option.some.injEq, Prod.mk.injEq] at h
        obtain ⟨rfl, rfl, rfl, rfl⟩ := h
        obtain ⟨g1, g2, g3⟩ := evOps_sound (n := n) hcall ops.toList E N H r1 r2 r3 hr hI hE
        exact ⟨g1, g2, fun env hd => awp_list (g3 _ env hd fun env1 he => ⟨rfl, he, rfl, AHeap.le_refl _⟩)⟩
      · cases h
    · rename_i id ops
      have h : ∃ md, evRegM P M (ev P M k) n md c ops E N H = some (ex, E', N', H') := by
        unfold evRegD at h
        split at h
        · rename_i hh; cases h; exact ⟨true, hh⟩
        · exact ⟨false, h⟩
      obtain ⟨md, h⟩ := h
      unfold evRegM at h
      split at h
      · rename_i E1 N1 H1 fin hdr
        cases hc : (drawnB P ops.toList fin.m && calmB ops fin) with
        | false => rw [hc] at h; cases h
        | true =>
          rw [hc, cond_true] at h
          simp only [Bool.and_eq_true] at hc
          simp only [Option.some.injEq, Prod.mk.injEq] at h
          obtain ⟨rfl, rfl, rfl, rfl⟩ := h
          obtain ⟨g0, g1, g2, g3, g4⟩ := evDraw_sound (n := n) hcall ops.toList 0 E N H ⟨[N], [], [], [], []⟩ E1 N1 H1 fin (by simp) hdr hI hE (Nat.le_refl _) rfl rfl (fun d hd => by cases hd)
          refine ⟨g1, g2, fun env hd => ?_⟩
          have hrd := calmB_sound hc.2
          have hn0 : fin.nf 0 = N := by rw [Acc.nf, g0.get (by simp)]; rfl
          rw [Nat.zero_add] at g3
          have key : AWp rd P n (.region id ops.toList.toArray true) (pick E (List.range n)) N (view c H) (fun ex1 env1 N1' σ1 => ex1 = .normal ∧ Dom env1 E1 ∧ N1' = N1 ∧ (view c H1).le σ1) := by
            refine awp_tb (fun k j => WtA fin k j) fin.m fin.nf hc.1 hn0 ?_
            have := g4 (fun e s => Exit.normal = Exit.normal ∧ Dom e E1 ∧ fin.nf ops.toList.length = N1 ∧ (view c H1).le s) (pick E (List.range n)) hrd (both_pick hE) (fun env' hb => ⟨rfl, hb.dom, g3, AHeap.le_refl _⟩)
            simpa using this
          rw [Array.toArray_toList] at key
          exact key.forget (fun t v ht => hd t v (pick_get E _ t v ht).1) (AHeap.le_refl _)
      · cases h
    · rename_i f params assign body
      cases hrd : rd with
      | true => rw [hrd] at h; cases h
      | false =>
        rw [hrd, cond_false] at h
        exact evRange_ok hM ih hI hE h
    · cases h
theorem ev_both {M : Memo} (hM : MemoOk P M) : ∀ k, RunOk P (ev P M k) ∧ LoopOk P (ev P M k)
  | 0 => ⟨fun rd n c code E N H ex E' N' H' _ _ h => by simp [ev] at h, fun rd n c code E N H ex E' N' H' _ _ h => by simp [ev] at h⟩
  | k + 1 =>
    have hl := ev_loop (ev_both hM k).1 (ev_both hM k).2
    ⟨ev_step hM (ev_both hM k).1 hl, hl⟩
theorem ev_call {M : Memo} (hM : MemoOk P M) (k : Nat) : CallOk P (callWith P M (ev P M k)) := callWith_ok hM (ev_both hM k).1

def ctx0 : Ctx := ⟨fun _ => false, fun _ => false⟩
theorem gives_alone {f : FuncId} {args : List Value} {v : Value} {N' : Nat} {H' : HeapT} (h1 : AOk P f args 0 (view ctx0 .leaf) (fun v1 N1 σ1 => v1 = v ∧ N1 = N' ∧ (view ctx0 H').le σ1)) (ha : args.all flat = true) (hv : flat v = true) (N : Nat) (σ : AHeap) : Gives P f args N σ v := by
  have e0 : view ctx0 (.leaf : HeapT) = none0 := by funext j; simp only [view, Trie.leaf_get]; rfl
  rw [e0] at h1
  intro ι w cargs R hr hargs hk
  refine h1 (fun _ => none) w cargs R (rel_none w) ⟨hargs.1, fun i u u' hu hu' => ?_⟩ fun ι' w' v2 v2' N' σ' ⟨e1, _, _⟩ hvr _ ht => ?_
  · have hf := List.all_eq_true.1 ha u (List.mem_of_getElem? hu)
    exact (flat_iff hf).2 ((flat_iff hf).1 (hargs.2 i u u' hu hu'))
  · subst e1
    have := (flat_iff hv).1 hvr
    subst this
    have hb := ht.below (fun i b h => by simp [none0] at h)
    exact hk ι w' _ _ N σ ⟨rfl, rfl, rfl⟩ (.of_flat hv) (hr.below hb) (Tr.of_below hb)
/-- A closed call, reckoned. -/
def runM (P : Program) (M : Memo) (k : Nat) (f : FuncId) (args : List Value) : Option Value := (callWith P M (ev P M k) ctx0 (.func f) args 0 .leaf).map (·.1)
theorem gives_runM {M : Memo} (hM : MemoOk P M) (k : Nat) {f : FuncId} {args : List Value} {v : Value} (h : runM P M k f args = some v) (ha : args.all flat = true) (hv : flat v = true) (N : Nat) (σ : AHeap) : Gives P f args N σ v := by
  unfold runM at h
  simp only [Option.map_eq_some_iff] at h
  obtain ⟨⟨v1, N1, H1⟩, h, rfl⟩ := h
  have hI : Inv ctx0 0 (.leaf : HeapT) := ⟨(fun j hj => by cases hj), (fun j hj => by cases hj), (fun j b hb => by rw [Trie.leaf_get] at hb; cases hb)⟩
  obtain ⟨h1, _, _⟩ := ev_call hM k ctx0 (.func f) args 0 .leaf v1 N1 H1 hI (fun x hx => .of_flat (List.all_eq_true.1 ha x hx)) h
  exact gives_alone h1 ha hv N σ
abbrev runA (P : Program) (k : Nat) (f : FuncId) (args : List Value) : Option Value := runM P [] k f args
theorem gives_run (k : Nat) {f : FuncId} {args : List Value} {v : Value} (h : runA P k f args = some v) (ha : args.all flat = true) (hv : flat v = true) (N : Nat) (σ : AHeap) : Gives P f args N σ v :=
  gives_runM .nil k h ha hv N σ

/-! ### A long run in pieces -/
abbrev St := Trie Value × Nat × HeapT
def seqL : Code → List Code
  | .seq a b => seqL a ++ seqL b
  | c => [c]
def AWpL (P : Program) (n : Nat) : List Code → Env → Nat → AHeap → (Exit → Env → Nat → AHeap → Prop) → Prop
  | [], env, N, σ, K => K .normal env N σ
  | a :: l, env, N, σ, K => AWp false P n a env N σ fun ex env' N' σ' => match ex with
    | .normal => AWpL P n l env' N' σ' K
    | ex => K ex env' N' σ'
theorem awpL_mono {K K' : Exit → Env → Nat → AHeap → Prop} (hk : ∀ ex env N σ, K ex env N σ → K' ex env N σ) : ∀ (l : List Code) (env : Env) (N : Nat) (σ : AHeap), AWpL P n l env N σ K → AWpL P n l env N σ K'
  | [], env, N, σ, h => hk _ _ _ _ h
  | a :: l, env, N, σ, h => AWp.mono h fun ex env' N' σ' h => by
    cases ex with
    | normal => exact awpL_mono hk l env' N' σ' h
    | _ => exact hk _ _ _ _ h
theorem awpL_append {K : Exit → Env → Nat → AHeap → Prop} : ∀ (l1 l2 : List Code) (env : Env) (N : Nat) (σ : AHeap),
    AWpL P n l1 env N σ (fun ex env' N' σ' => match ex with | .normal => AWpL P n l2 env' N' σ' K | ex => K ex env' N' σ') → AWpL P n (l1 ++ l2) env N σ K
  | [], l2, env, N, σ, h => h
  | a :: l, l2, env, N, σ, h => AWp.mono h fun ex env' N' σ' h => by
    cases ex with
    | normal => exact awpL_append l l2 env' N' σ' h
    | _ => exact h
theorem awpL_split {K : Exit → Env → Nat → AHeap → Prop} : ∀ (l1 l2 : List Code) (env : Env) (N : Nat) (σ : AHeap), AWpL P n (l1 ++ l2) env N σ K →
    AWpL P n l1 env N σ (fun ex env' N' σ' => match ex with | .normal => AWpL P n l2 env' N' σ' K | ex => K ex env' N' σ')
  | [], l2, env, N, σ, h => h
  | a :: l, l2, env, N, σ, h => AWp.mono h fun ex env' N' σ' h => by
    cases ex with
    | normal => exact awpL_split l l2 env' N' σ' h
    | _ => exact h
theorem awp_seqL : ∀ (c : Code) {env : Env} {N : Nat} {σ : AHeap} {K : Exit → Env → Nat → AHeap → Prop}, AWpL P n (seqL c) env N σ K → AWp false P n c env N σ K
  | .seq a b, env, N, σ, K, h => by
    have h1 := awpL_split (seqL a) (seqL b) env N σ h
    refine awp_seq ((awp_seqL a h1).mono fun ex env' N' σ' h => ?_)
    cases ex with
    | normal => exact awp_seqL b h
    | _ => exact h
  | .skip, env, N, σ, K, h | .label _, env, N, σ, K, h | .exit _, env, N, σ, K, h | .ret, env, N, σ, K, h | .cond _ _ _, env, N, σ, K, h | .block _ _, env, N, σ, K, h
  | .loop _, env, N, σ, K, h | .region _ _ _, env, N, σ, K, h | .rangeFunc _ _ _ _, env, N, σ, K, h | .scope _, env, N, σ, K, h | .goto _, env, N, σ, K, h | .refuse _, env, N, σ, K, h => by
    refine AWp.mono h fun ex env' N' σ' h => ?_
    cases ex <;> exact h
def evL (P : Program) (M : Memo) (k n : Nat) (c : Ctx) : List Code → St → Option (Exit × St)
  | [], s => some (.normal, s)
  | a :: l, (E, N, H) => match ev P M k false n c a E N H with
    | some (.normal, E', N', H') => evL P M k n c l (E', N', H')
    | r => r
def Runs (P : Program) (n : Nat) (c : Ctx) (l : List Code) (s : St) (ex : Exit) (r : St) : Prop := Inv c s.2.1 s.2.2 → EB n s.1 s.2.1 →
  Good c s.2.1 s.2.2 r.2.1 r.2.2 ∧ EB n r.1 r.2.1 ∧ ∀ env, Dom env s.1 → AWpL P n l env s.2.1 (view c s.2.2) (fun ex1 env1 N1 σ1 => ex1 = ex ∧ Dom env1 r.1 ∧ N1 = r.2.1 ∧ (view c r.2.2).le σ1)
theorem AWpL.le_heap {σ σ' : AHeap} (hs : σ'.le σ) {K : Exit → Env → Nat → AHeap → Prop} (hk : ∀ ex env N σ σ', σ'.le σ → K ex env N σ' → K ex env N σ) : ∀ {l : List Code} {env : Env} {N : Nat}, AWpL P n l env N σ' K → AWpL P n l env N σ K
  | [], _, _, h => hk _ _ _ _ _ hs h
  | _ :: _, _, _, h => AWp.le_heap h hs
theorem runs_evL {M : Memo} (hM : MemoOk P M) (k : Nat) {c : Ctx} : ∀ {l : List Code} {s r : St} {ex : Exit}, evL P M k n c l s = some (ex, r) → Runs P n c l s ex r
  | [], s, r, ex, h => by
    simp only [evL, Option.some.injEq, Prod.mk.injEq] at h
    obtain ⟨rfl, rfl⟩ := h
    exact fun hI hE => ⟨.same hI, hE, fun env hd => ⟨rfl, hd, rfl, AHeap.le_refl _⟩⟩
  | a :: l, (E, N, H), (E2, N2, H2), ex, h => fun hI hE => by
    unfold evL at h
    split at h
    · rename_i E1 N1 H1 h1
      obtain ⟨g1, g2, g3⟩ := (ev_both hM k).1 false n c a E N H _ E1 N1 H1 hI hE h1
      obtain ⟨q1, q2, q3⟩ := runs_evL hM k h g1.inv g2
      refine ⟨g1.trans q1, q2, fun env hd => AWp.mono (g3 env hd) fun ex1 env1 N3 σ1 ⟨e1, e2, e3, e4⟩ => ?_⟩
      subst e1; subst e3
      exact AWpL.le_heap e4 (fun ex env N σ σ' hs ⟨w1, w2, w3, w4⟩ => ⟨w1, w2, w3, fun i b hb => hs i b (w4 i b hb)⟩) (q3 env1 e2)
    · rename_i hne
      obtain ⟨g1, g2, g3⟩ := (ev_both hM k).1 false n c a E N H ex E2 N2 H2 hI hE h
      refine ⟨g1, g2, fun env hd => AWp.mono (g3 env hd) fun ex1 env1 N3 σ1 ⟨e1, e2, e3, e4⟩ => ?_⟩
      subst e1; subst e3
      cases ex1 with
      | normal => exact (hne _ _ _ h).elim
      | _ => exact ⟨rfl, e2, rfl, e4⟩
theorem runs_append {c : Ctx} {l1 l2 : List Code} {s m r : St} {ex : Exit} (h1 : Runs P n c l1 s .normal m) (h2 : Runs P n c l2 m ex r) : Runs P n c (l1 ++ l2) s ex r := fun hI hE => by
  obtain ⟨g1, g2, g3⟩ := h1 hI hE
  obtain ⟨q1, q2, q3⟩ := h2 g1.inv g2
  refine ⟨g1.trans q1, q2, fun env hd => awpL_append l1 l2 env _ _ (awpL_mono (fun ex1 env1 N3 σ1 ⟨e1, e2, e3, e4⟩ => ?_) l1 env _ _ (g3 env hd))⟩
  subst e1; subst e3
  exact AWpL.le_heap e4 (fun ex env N σ σ' hs ⟨w1, w2, w3, w4⟩ => ⟨w1, w2, w3, fun i b hb => hs i b (w4 i b hb)⟩) (q3 env1 e2)
/-- Statements of a body. -/
def seg (fn : Func) (i m : Nat) : List Code := match fn.body with
  | some c => ((seqL c).drop i).take m
  | none => []
theorem gives_pieces {f : FuncId} {args : List Value} {fn : Func} {l : List Code} {n : Nat} {ex : Exit} {r : St} {v : Value} (hf : P.funcs[f]? = some fn) (hn : fn.ntmps = n) (hb0 : fn.body.map seqL = some l) (hl : Nat.ble args.length n = true)
    (hrun : Runs P n ctx0 l (ofArgs 0 args .leaf, 0, .leaf) ex r) (hex : ex = .normal ∨ ex = .ret) (hres : ressT P fn r.1 (view ctx0 r.2.2) = some v)
    (ha : args.all flat = true) (hv : flat v = true) (N : Nat) (σ : AHeap) : Gives P f args N σ v := by
  have hI : Inv ctx0 0 (.leaf : HeapT) := ⟨(fun j hj => by cases hj), (fun j hj => by cases hj), (fun j b hb => by rw [Trie.leaf_get] at hb; cases hb)⟩
  subst hn
  obtain ⟨code, hb, rfl⟩ := Option.map_eq_some_iff.1 hb0
  have hl : args.length ≤ fn.ntmps := by simpa using hl
  have hE : EB fn.ntmps (ofArgs 0 args .leaf) 0 := by
    intro t u ht
    rcases ofArgs_get args 0 _ t u ht with ⟨_, h2⟩ | ⟨_, h2⟩
    · rw [Nat.sub_zero] at h2
      have := (List.getElem?_eq_some_iff.1 h2).1
      exact ⟨by omega, .of_flat (List.all_eq_true.1 ha u (List.mem_of_getElem? h2))⟩
    · rw [Trie.leaf_get] at h2; cases h2
  have hdom : Dom (initEnv 0 args) (ofArgs 0 args .leaf) := by
    intro t u ht
    rcases ofArgs_get args 0 _ t u ht with ⟨h1, h2⟩ | ⟨_, h2⟩
    · exact initEnv_of args 0 t u h1 h2
    · rw [Trie.leaf_get] at h2; cases h2
  obtain ⟨g1, g2, g3⟩ := hrun hI hE
  refine gives_alone (N' := r.2.1) (H' := r.2.2) (aok_body hf hb rfl hl ((awp_seqL code (g3 _ hdom)).mono fun ex1 env1 N2 σ1 ⟨e1, e2, e3, e4⟩ => ?_)) ha hv N σ
  subst e1; subst e3
  have : resA P fn env1 σ1 = some v := ressT_sound hres e2 e4
  rcases hex with rfl | rfl
  · exact ⟨v, this, rfl, rfl, e4⟩
  · exact ⟨v, this, rfl, rfl, e4⟩
/-! Pieces begin and end in states of few slots and blocks. -/
def keepT {α : Type} (E : Trie α) : List Nat → Trie α
  | [] => .leaf
  | k :: ks => match E.get k with
    | some v => (keepT E ks).put k v
    | none => keepT E ks
def mkT {α : Type} : List (Nat × α) → Trie α
  | [] => .leaf
  | (k, v) :: l => (mkT l).put k v
theorem keepT_get {α : Type} {E : Trie α} : ∀ {ks : List Nat} {j : Nat} {v : α}, (keepT E ks).get j = some v → E.get j = some v
  | [], j, v, h => by rw [keepT, Trie.leaf_get] at h; cases h
  | k :: ks, j, v, h => by
    unfold keepT at h
    split at h
    · rename_i u hu
      rw [Trie.put_get] at h
      split at h
      · rename_i e; subst e; cases h; exact hu
      · exact keepT_get h
    · exact keepT_get h
def evT (P : Program) (M : Memo) (k n : Nat) (l : List Code) (s : St) (ks bs : List Nat) : Option (Exit × St) :=
  (evL P M k n ctx0 l s).map fun r => (r.1, keepT r.2.1 ks, r.2.2.1, keepT r.2.2.2 bs)
theorem runs_evT {M : Memo} (hM : MemoOk P M) (k : Nat) {l : List Code} {s r : St} {ex : Exit} {ks bs : List Nat} (h : evT P M k n l s ks bs = some (ex, r)) : Runs P n ctx0 l s ex r := by
  unfold evT at h
  simp only [Option.map_eq_some_iff] at h
  obtain ⟨⟨ex1, E, N, H⟩, h1, h2⟩ := h
  cases h2
  intro hI hE
  obtain ⟨g1, g2, g3⟩ := runs_evL hM k h1 hI hE
  refine ⟨⟨g1.le, ⟨(fun j hj => by cases hj), (fun j hj => by cases hj), fun j b hb => g1.inv.bdd j b (keepT_get hb)⟩, fun j _ hj => ?_, fun j hj hn => ?_⟩, fun t u ht => g2 t u (keepT_get ht), fun env hd => ?_⟩
  · rcases hj with hj | hj <;> cases hj
  · have := g1.none j hj hn
    cases hk : (keepT H bs).get j with
    | none => rfl
    | some b => have := keepT_get hk; simp_all
  · refine awpL_mono (fun ex1 env1 N1 σ1 ⟨w1, w2, w3, w4⟩ => ⟨w1, fun t v ht => w2 t v (keepT_get ht), w3, fun i b hb => w4 i b ?_⟩) l env _ _ (g3 env hd)
    simp only [view] at hb ⊢
    cases hk : (keepT H bs).get i with
    | none => rw [hk] at hb; cases hb
    | some b2 => rw [hk] at hb; rw [keepT_get hk]; exact hb
end
end
end Go.Abs
