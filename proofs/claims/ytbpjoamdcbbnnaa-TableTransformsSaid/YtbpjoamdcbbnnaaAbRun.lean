/- Abstract states over the machine: closed calls run by reckoning: code and calls. -/
import Derived.Test.YtbpjoamdcbbnnaaAbDr
import Derived.Test.YtbpjoamdcbbnnaaAbRow
namespace Go.Abs
section
variable {P : Program} {n : Nat}

def evOps (P : Program) (n : Nat) (call : CallT) (c : Ctx) (ops : Array Oper) : List Oper → Trie Value → Nat → HeapT → Option (Trie Value × Nat × HeapT)
  | [], E, N, H => some (E, N, H)
  | o :: l, E, N, H =>
    let e := pick E (slotsOf ops o)
    if dstOk n o.dst then
      match wantedA ops e o with
      | some true => match evOp P call c e o.op N H with
        | some (v, N', H') => if bddB N' v then evOps P n call c ops l (putT E o.dst v) N' H' else none
        | none => none
      | some false => evOps P n call c ops l (putT E o.dst undef) N H
      | none => none
    else none
def opdT (E : Trie Value) : Operand → Option Value
  | .tmp t => E.get t
  | .const v => if flat v then some v else none
  | _ => none
abbrev RunT := Ctx → Code → Trie Value → Nat → HeapT → Option (Exit × Trie Value × Nat × HeapT)
def resT (P : Program) (E : Trie Value) (σ : AHeap) : ResultVar → Option Value
  | .tmp t => E.get t
  | .cell a t => match E.get a with
    | some (.pointer (some ⟨i, off, none⟩)) => (σ i).bind fun b => loadA P t b off
    | _ => none
def ressT (P : Program) (fn : Func) (E : Trie Value) (σ : AHeap) : Option Value :=
  (fn.results.toList.mapM (resT P E σ)).map fun l => match l with
    | [v] => v
    | l => .tuple l.toArray
def ofArgs : Nat → List Value → Trie Value → Trie Value
  | _, [], E => E
  | k, v :: l, E => ofArgs (k + 1) l (E.put k v)
/-- Calls whose answers are known. -/
abbrev Memo := List (FuncId × List Value × Value)
def sameV : Value → Value → Bool
  | .int k a, .int k' b => decide (k = k') && decide (a = b)
  | .bool a, .bool b => a == b
  | .slice none 0 0, .slice none 0 0 => true
  | _, _ => false
def sameL : List Value → List Value → Bool
  | [], [] => true
  | u :: us, v :: vs => sameV u v && sameL us vs
  | _, _ => false
theorem sameV_eq {u v : Value} (h : sameV u v = true) : u = v := by
  unfold sameV at h
  split at h
  · simp only [Bool.and_eq_true, decide_eq_true_eq] at h; rw [h.1, h.2]
  · rw [eq_of_beq h]
  · rfl
  · cases h
theorem sameL_eq : ∀ {us vs : List Value}, sameL us vs = true → us = vs
  | [], [], _ => rfl
  | u :: us, v :: vs, h => by
    simp only [sameL, Bool.and_eq_true] at h
    rw [sameV_eq h.1, sameL_eq h.2]
  | [], _ :: _, h => by cases h
  | _ :: _, [], h => by cases h
def lookM : Memo → FuncId → List Value → Option Value
  | [], _, _ => none
  | (g, as, v) :: M, f, xs => bif Nat.beq g f && (sameL as xs && flat v) then some v else lookM M f xs
def MemoOk (P : Program) (M : Memo) : Prop := ∀ e ∈ M, ∀ N σ, Gives P e.1 e.2.1 N σ e.2.2
theorem MemoOk.nil : MemoOk P [] := fun _ h => by cases h
theorem MemoOk.cons {f : FuncId} {as : List Value} {v : Value} {M : Memo} (h : ∀ N σ, Gives P f as N σ v) (hM : MemoOk P M) : MemoOk P ((f, as, v) :: M) := fun e he => by
  rcases List.mem_cons.1 he with rfl | he
  · exact h
  · exact hM e he
theorem lookM_sound : ∀ {M : Memo} {f : FuncId} {xs : List Value} {v : Value}, MemoOk P M → lookM M f xs = some v → (∀ N σ, Gives P f xs N σ v) ∧ flat v = true
  | [], f, xs, v, _, h => by cases h
  | (g, as, u) :: M, f, xs, v, hM, h => by
    unfold lookM at h
    cases hc : (Nat.beq g f && (sameL as xs && flat u)) with
    | false => rw [hc, cond_false] at h; exact lookM_sound (fun e he => hM e (List.mem_cons_of_mem _ he)) h
    | true =>
      rw [hc, cond_true] at h
      simp only [Bool.and_eq_true] at hc
      cases h
      have e1 : g = f := Nat.eq_of_beq_eq_true hc.1
      have e2 := sameL_eq hc.2.1
      subst e1; subst e2
      exact ⟨hM _ List.mem_cons_self, hc.2.2⟩
def callWith (P : Program) (M : Memo) (run : Nat → RunT) : CallT := fun c f args N H =>
  match lookM M f args with
  | some v => some (v, N, H)
  | none =>
  match P.funcs[f]? with
  | some fn => match fn.body with
    | some code =>
      if Nat.ble args.length fn.ntmps then
        match run fn.ntmps c code (ofArgs 0 args .leaf) N H with
        | some (.normal, E', N', H') => (ressT P fn E' (view c H')).bind fun v => if bddB N' v then some (v, N', H') else none
        | some (.ret, E', N', H') => (ressT P fn E' (view c H')).bind fun v => if bddB N' v then some (v, N', H') else none
        | _ => none
      else none
    | none => none
  | none => none
def ev (P : Program) (M : Memo) : Nat → Nat → RunT
  | 0 => fun _ _ _ _ _ _ => none
  | k + 1 => fun n c code E N H => match code with
    | .skip => some (.normal, E, N, H)
    | .label _ => some (.normal, E, N, H)
    | .exit id => some (.exit id, E, N, H)
    | .ret => some (.ret, E, N, H)
    | .seq a b => match ev P M k n c a E N H with
      | some (.normal, E', N', H') => ev P M k n c b E' N' H'
      | r => r
    | .cond x a b => match opdT E x with
      | some (.bool true) => ev P M k n c a E N H
      | some (.bool false) => ev P M k n c b E N H
      | _ => none
    | .block id body => match ev P M k n c body E N H with
      | some (.exit id', E', N', H') => if id' = id then some (.normal, E', N', H') else some (.exit id', E', N', H')
      | r => r
    | .loop body => match ev P M k n c body E N H with
      | some (.normal, E', N', H') => ev P M k n c (.loop body) E' N' H'
      | r => r
    | .region _ ops false => (evOps P n (callWith P M (ev P M k)) c ops ops.toList E N H).map fun r => (.normal, r.1, r.2.1, r.2.2)
    | .region _ ops true => match evDraw P n (callWith P M (ev P M k)) c ops N 0 ops.toList E N H ⟨[N], [], [], [], []⟩ with
      | some (E', N', H', fin) => if drawnB P ops.toList fin.m && calmB ops fin then some (.normal, E', N', H') else none
      | none => none
    | _ => none

theorem evOps_sound {call : CallT} (hcall : CallOk P call) {c : Ctx} {ops : Array Oper} : ∀ (l : List Oper) (E : Trie Value) (N : Nat) (H : HeapT) (E' : Trie Value) (N' : Nat) (H' : HeapT), evOps P n call c ops l E N H = some (E', N', H') → Inv c N H → EB n E N →
    Good c N H N' H' ∧ EB n E' N' ∧ ∀ (K : Env → Nat → AHeap → Prop) (env : Env), Dom env E → (∀ env1, Dom env1 E' → K env1 N' (view c H')) → AList P n ops l env N (view c H) K
  | [], E, N, H, E', N', H', h, hI, hE => by
    simp only [evOps, Option.some.injEq, Prod.mk.injEq] at h
    obtain ⟨rfl, rfl, rfl⟩ := h
    exact ⟨.same hI, hE, fun K env hd hk => al_nil (hk env hd)⟩
  | o :: l, E, N, H, E', N', H', h, hI, hE => by
    simp only [evOps] at h
    split at h
    · rename_i hd
      split at h
      · rename_i hw
        split at h
        · rename_i v N1 H1 hev
          split at h
          · rename_i hb
            obtain ⟨g1, g2⟩ := evOp_sound (n := n) hcall hI (hE.pick _) hev
            obtain ⟨q1, q2, q3⟩ := evOps_sound hcall l _ N1 H1 E' N' H' h g2.inv ((hE.up g2.le).put (bddB_sound hb) hd)
            refine ⟨g2.trans q1, q2, fun K env hdom hk => ?_⟩
            have hpick : ∀ t v, (pick E (slotsOf ops o)).get t = some v → env.get t = some v := fun t v ht => hdom t v (pick_get E _ t v ht).1
            refine al_step (wantedA_mono hw hpick) (dstOk_spec hd) ((g1.env_mono hpick).mono fun v1 N2 σ1 ⟨e1, e2, e3⟩ => ?_)
            subst e1; subst e2
            exact al_forget e3 (q3 K _ (hdom.put _ _) hk)
          · cases h
        · cases h
      · rename_i hw
        obtain ⟨q1, q2, q3⟩ := evOps_sound hcall l _ N H E' N' H' h hI (hE.put (.of_flat rfl) hd)
        refine ⟨q1, q2, fun K env hdom hk => ?_⟩
        have hpick : ∀ t v, (pick E (slotsOf ops o)).get t = some v → env.get t = some v := fun t v ht => hdom t v (pick_get E _ t v ht).1
        exact al_skip (wantedA_mono hw hpick) (dstOk_spec hd) (q3 K _ (hdom.put _ _) hk)
      · cases h
    · cases h

theorem opdT_dom {env : Env} {E : Trie Value} (hd : Dom env E) {x : Operand} {v : Value} (h : opdT E x = some v) : env.eval x = some v := by
  cases x with
  | tmp t => exact hd t v h
  | const u => exact h
  | global g => cases h
  | func f => cases h
theorem loadA_le {σ σ1 : AHeap} (hl : σ.le σ1) {t : TypeId} {i off : Nat} {v : Value} (h : ((σ i).bind fun b => loadA P t b off) = some v) : ((σ1 i).bind fun b => loadA P t b off) = some v := by
  simp only [Option.bind_eq_some_iff] at h ⊢
  obtain ⟨b, hb, hv⟩ := h
  exact ⟨b, hl i b hb, hv⟩
theorem mapM_mono {α β : Type} {f g : α → Option β} (h : ∀ x v, f x = some v → g x = some v) : ∀ (l : List α) (vs : List β), l.mapM f = some vs → l.mapM g = some vs
  | [], vs, hh => by simpa using hh
  | x :: l, vs, hh => by
    simp only [List.mapM_cons] at hh ⊢
    cases hx : f x with
    | none => simp [hx] at hh
    | some v =>
      cases hl : l.mapM f with
      | none => simp [hx, hl] at hh
      | some us =>
        simp [hx, hl] at hh
        subst hh
        rw [h x v hx, mapM_mono h l us hl]; rfl
theorem ressT_sound {fn : Func} {E : Trie Value} {env : Env} {σ σ1 : AHeap} {v : Value} (h : ressT P fn E σ = some v) (hd : Dom env E) (hl : σ.le σ1) : resA P fn env σ1 = some v := by
  unfold ressT at h
  unfold resA
  simp only [Option.map_eq_some_iff] at h ⊢
  obtain ⟨l, h1, h2⟩ := h
  refine ⟨l, mapM_mono (fun r v hv => ?_) _ _ h1, h2⟩
  cases r with
  | tmp t => exact hd t v hv
  | cell a t =>
    simp only [resT] at hv
    split at hv
    · rename_i i off ha
      simp only [resOneA, hd _ _ ha]
      exact loadA_le hl hv
    · cases hv
theorem ofArgs_get : ∀ (l : List Value) (k : Nat) (E : Trie Value) (t : Nat) (v : Value), (ofArgs k l E).get t = some v → (k ≤ t ∧ l[t - k]? = some v) ∨ ((t < k ∨ k + l.length ≤ t) ∧ E.get t = some v)
  | [], k, E, t, v, h => by
    refine .inr ⟨?_, h⟩
    simp; omega
  | u :: l, k, E, t, v, h => by
    rcases ofArgs_get l (k + 1) (E.put k u) t v h with ⟨h1, h2⟩ | ⟨h1, h2⟩
    · refine .inl ⟨by omega, ?_⟩
      rw [show t - k = (t - (k + 1)) + 1 from by omega]; simpa using h2
    · rw [Trie.put_get] at h2
      split at h2
      · rename_i e; subst e; cases h2; exact .inl ⟨Nat.le_refl _, by simp⟩
      · rename_i e
        exact .inr ⟨by simp; omega, h2⟩
theorem initEnv_of : ∀ (l : List Value) (k t : Nat) (v : Value), k ≤ t → l[t - k]? = some v → (initEnv k l).get t = some v
  | [], _, _, _, _, h => by simp at h
  | u :: l, k, t, v, hk, h => by
    simp only [initEnv, Env.get]
    by_cases e : k = t
    · subst e; rw [if_pos rfl]; simpa using h
    · rw [if_neg e]
      refine initEnv_of l (k + 1) t v (by omega) ?_
      rw [show t - k = (t - (k + 1)) + 1 from by omega] at h
      simpa using h

def RunOk (P : Program) (run : Nat → RunT) : Prop := ∀ (n : Nat) (c : Ctx) (code : Code) (E : Trie Value) (N : Nat) (H : HeapT) (ex : Exit) (E' : Trie Value) (N' : Nat) (H' : HeapT), Inv c N H → EB n E N → run n c code E N H = some (ex, E', N', H') →
  Good c N H N' H' ∧ EB n E' N' ∧ ∀ env, Dom env E → AWp P n code env N (view c H) (fun ex1 env1 N1 σ1 => ex1 = ex ∧ Dom env1 E' ∧ N1 = N' ∧ (view c H').le σ1)

theorem callWith_ok {M : Memo} (hM : MemoOk P M) {run : Nat → RunT} (hr : RunOk P run) : CallOk P (callWith P M run) := by
  intro c f args N H v N' H' hI ha h
  unfold callWith at h
  split at h
  · rename_i v0 hm
    simp only [Option.some.injEq, Prod.mk.injEq] at h
    obtain ⟨rfl, rfl, rfl⟩ := h
    obtain ⟨g1, g2⟩ := lookM_sound hM hm
    exact ⟨(g1 N (view c H)).mono fun v1 N1 σ1 ⟨e1, e2, e3⟩ => ⟨e1, e2, by rw [e3]; exact AHeap.le_refl _⟩, .same hI, .of_flat g2⟩
  rename_i hm
  split at h
  · rename_i fn hf
    split at h
    · rename_i code hb
      split at h
      · rename_i hl
        have hl : args.length ≤ fn.ntmps := by simpa using hl
        have hE : EB fn.ntmps (ofArgs 0 args .leaf) N := by
          intro t u ht
          rcases ofArgs_get args 0 _ t u ht with ⟨_, h2⟩ | ⟨_, h2⟩
          · rw [Nat.sub_zero] at h2
            have := (List.getElem?_eq_some_iff.1 h2).1
            exact ⟨by omega, ha u (List.mem_of_getElem? h2)⟩
          · cases h2
        have hdom : Dom (initEnv 0 args) (ofArgs 0 args .leaf) := by
          intro t u ht
          rcases ofArgs_get args 0 _ t u ht with ⟨h1, h2⟩ | ⟨_, h2⟩
          · exact initEnv_of args 0 t u h1 h2
          · cases h2
        have fin : ∀ ex E1 N1 H1, (ex = .normal ∨ ex = .ret) → run fn.ntmps c code (ofArgs 0 args .leaf) N H = some (ex, E1, N1, H1) → ((ressT P fn E1 (view c H1)).bind fun v => if bddB N1 v then some (v, N1, H1) else none) = some (v, N', H') →
            AOk P f args N (view c H) (fun v1 N1 σ1 => v1 = v ∧ N1 = N' ∧ (view c H').le σ1) ∧ Good c N H N' H' ∧ Bdd N' v := by
          intro ex E1 N1 H1 hex hrun hres
          obtain ⟨g1, g2, g3⟩ := hr _ c code _ N H ex E1 N1 H1 hI hE hrun
          simp only [Option.bind_eq_some_iff] at hres
          obtain ⟨v2, h2, h3⟩ := hres
          split at h3
          · rename_i hbd
            simp only [Option.some.injEq, Prod.mk.injEq] at h3
            obtain ⟨rfl, rfl, rfl⟩ := h3
            refine ⟨aok_body hf hb rfl hl ((g3 _ hdom).mono fun ex1 env1 N2 σ1 ⟨e1, e2, e3, e4⟩ => ?_), g1, bddB_sound hbd⟩
            subst e1; subst e3
            have : resA P fn env1 σ1 = some v2 := ressT_sound h2 e2 e4
            rcases hex with rfl | rfl
            · exact ⟨v2, this, rfl, rfl, e4⟩
            · exact ⟨v2, this, rfl, rfl, e4⟩
          · cases h3
        split at h
        · rename_i E1 N1 H1 hrun
          exact fin _ E1 N1 H1 (.inl rfl) hrun h
        · rename_i E1 N1 H1 hrun
          exact fin _ E1 N1 H1 (.inr rfl) hrun h
        · cases h
      · cases h
    · cases h
  · cases h

theorem AWp.le_heap {c : Code} {env : Env} {N : Nat} {σ σ' : AHeap} {K : Exit → Env → Nat → AHeap → Prop} (h : AWp P n c env N σ' K) (hs : σ'.le σ) : AWp P n c env N σ K := h.forget (fun _ _ h => h) hs

def LoopOk (P : Program) (run : Nat → RunT) : Prop := ∀ (n : Nat) (c : Ctx) (body : Code) (E : Trie Value) (N : Nat) (H : HeapT) (ex : Exit) (E' : Trie Value) (N' : Nat) (H' : HeapT), Inv c N H → EB n E N → run n c (.loop body) E N H = some (ex, E', N', H') →
  Good c N H N' H' ∧ EB n E' N' ∧ ∀ env, Dom env E → ALoop P n body env N (view c H) (fun ex1 env1 N1 σ1 => ex1 = ex ∧ Dom env1 E' ∧ N1 = N' ∧ (view c H').le σ1)
theorem ev_loop {M : Memo} {k : Nat} (ih : RunOk P (ev P M k)) (il : LoopOk P (ev P M k)) : LoopOk P (ev P M (k + 1)) := by
  intro n c body E N H ex E' N' H' hI hE h
  simp only [ev] at h
  split at h
  · rename_i E1 N1 H1 h1
    obtain ⟨g1, g2, g3⟩ := ih n c body E N H _ E1 N1 H1 hI hE h1
    obtain ⟨q1, q2, q3⟩ := il n c body E1 N1 H1 ex E' N' H' g1.inv g2 h
    refine ⟨g1.trans q1, q2, fun env hd => aloop_round ((g3 env hd).mono fun ex1 env1 N2 σ1 ⟨e1, e2, e3, e4⟩ => ?_)⟩
    subst e1; subst e3
    exact (q3 env1 e2).forget (fun _ _ h => h) e4
  · rename_i r hne
    obtain ⟨g1, g2, g3⟩ := ih n c body E N H ex E' N' H' hI hE h
    refine ⟨g1, g2, fun env hd => aloop_round ((g3 env hd).mono fun ex1 env1 N2 σ1 ⟨e1, e2, e3, e4⟩ => ?_)⟩
    subst e1; subst e3
    cases ex1 with
    | normal => exact (hne _ _ _ h).elim
    | _ => exact ⟨rfl, e2, rfl, e4⟩
theorem ev_step {M : Memo} (hM : MemoOk P M) {k : Nat} (ih : RunOk P (ev P M k)) (hloop : LoopOk P (ev P M (k + 1))) : RunOk P (ev P M (k + 1)) := fun n c code E N H ex E' N' H' hI hE h => by
    have hcall := callWith_ok hM ih
    unfold ev at h
    split at h
    · simp only [Option.some.injEq, Prod.mk.injEq] at h
      obtain ⟨rfl, rfl, rfl, rfl⟩ := h
      exact ⟨.same hI, hE, fun env hd => awp_skip ⟨rfl, hd, rfl, AHeap.le_refl _⟩⟩
    · simp only [Option.some.injEq, Prod.mk.injEq] at h
      obtain ⟨rfl, rfl, rfl, rfl⟩ := h
      exact ⟨.same hI, hE, fun env hd => awp_label ⟨rfl, hd, rfl, AHeap.le_refl _⟩⟩
    · simp only [Option.some.injEq, Prod.mk.injEq] at h
      obtain ⟨rfl, rfl, rfl, rfl⟩ := h
      exact ⟨.same hI, hE, fun env hd => awp_exit ⟨rfl, hd, rfl, AHeap.le_refl _⟩⟩
    · simp only [Option.some.injEq, Prod.mk.injEq] at h
      obtain ⟨rfl, rfl, rfl, rfl⟩ := h
      exact ⟨.same hI, hE, fun env hd => awp_ret ⟨rfl, hd, rfl, AHeap.le_refl _⟩⟩
    · rename_i a b
      split at h
      · rename_i E1 N1 H1 h1
        obtain ⟨g1, g2, g3⟩ := ih n c a E N H _ E1 N1 H1 hI hE h1
        obtain ⟨q1, q2, q3⟩ := ih n c b E1 N1 H1 ex E' N' H' g1.inv g2 h
        refine ⟨g1.trans q1, q2, fun env hd => awp_seq ((g3 env hd).mono fun ex1 env1 N2 σ1 ⟨e1, e2, e3, e4⟩ => ?_)⟩
        subst e1; subst e3
        exact (q3 env1 e2).le_heap e4
      · rename_i r hne
        obtain ⟨g1, g2, g3⟩ := ih n c a E N H ex E' N' H' hI hE h
        refine ⟨g1, g2, fun env hd => awp_seq ((g3 env hd).mono fun ex1 env1 N2 σ1 ⟨e1, e2, e3, e4⟩ => ?_)⟩
        subst e1; subst e3
        cases ex1 with
        | normal => exact (hne _ _ _ h).elim
        | _ => exact ⟨rfl, e2, rfl, e4⟩
    · rename_i x a b
      split at h
      · rename_i hx
        obtain ⟨g1, g2, g3⟩ := ih n c a E N H ex E' N' H' hI hE h
        exact ⟨g1, g2, fun env hd => awp_cond (t := true) (opdT_dom hd hx) (g3 env hd)⟩
      · rename_i hx
        obtain ⟨g1, g2, g3⟩ := ih n c b E N H ex E' N' H' hI hE h
        exact ⟨g1, g2, fun env hd => awp_cond (t := false) (opdT_dom hd hx) (g3 env hd)⟩
      · cases h
    · rename_i id body
      split at h
      · rename_i id' E1 N1 H1 h1
        obtain ⟨g1, g2, g3⟩ := ih n c body E N H _ E1 N1 H1 hI hE h1
        split at h
        · rename_i hid
          simp only [Option.some.injEq, Prod.mk.injEq] at h
          obtain ⟨rfl, rfl, rfl, rfl⟩ := h
          refine ⟨g1, g2, fun env hd => awp_block ((g3 env hd).mono fun ex1 env1 N2 σ1 ⟨e1, e2, e3, e4⟩ => ?_)⟩
          subst e1; subst e3; subst hid
          exact inBlock_exit ⟨rfl, e2, rfl, e4⟩
        · rename_i hid
          simp only [Option.some.injEq, Prod.mk.injEq] at h
          obtain ⟨rfl, rfl, rfl, rfl⟩ := h
          refine ⟨g1, g2, fun env hd => awp_block ((g3 env hd).mono fun ex1 env1 N2 σ1 ⟨e1, e2, e3, e4⟩ => ?_)⟩
          subst e1; subst e3
          exact inBlock_other hid ⟨rfl, e2, rfl, e4⟩
      · rename_i r hne
        obtain ⟨g1, g2, g3⟩ := ih n c body E N H ex E' N' H' hI hE h
        refine ⟨g1, g2, fun env hd => awp_block ((g3 env hd).mono fun ex1 env1 N2 σ1 ⟨e1, e2, e3, e4⟩ => ?_)⟩
        subst e1; subst e3
        cases ex1 with
        | exit id' => exact (hne _ _ _ _ h).elim
        | _ => exact ⟨rfl, e2, rfl, e4⟩
    · rename_i body
      obtain ⟨g1, g2, g3⟩ := hloop n c body E N H ex E' N' H' hI hE h
      exact ⟨g1, g2, fun env hd => awp_loop (g3 env hd)⟩
    · rename_i id ops
      simp only [Option.map_eq_some_iff, Prod.mk.injEq] at h
      obtain ⟨⟨r1, r2, r3⟩, hr, rfl, rfl, rfl, rfl⟩ := h
      obtain ⟨g1, g2, g3⟩ := evOps_sound (n := n) hcall ops.toList E N H r1 r2 r3 hr hI hE
      exact ⟨g1, g2, fun env hd => awp_list (g3 _ env hd fun env1 he => ⟨rfl, he, rfl, AHeap.le_refl _⟩)⟩
    · rename_i id ops
      split at h
      · rename_i E1 N1 H1 fin hdr
        split at h
        · rename_i hc
          simp only [Bool.and_eq_true] at hc
          simp only [Option.some.injEq, Prod.mk.injEq] at h
          obtain ⟨rfl, rfl, rfl, rfl⟩ := h
          obtain ⟨g0, g1, g2, g3, g4⟩ := evDraw_sound (n := n) hcall ops.toList 0 E N H ⟨[N], [], [], [], []⟩ E1 N1 H1 fin (by simp) hdr hI hE (Nat.le_refl _) rfl rfl (fun d hd => by cases hd)
          refine ⟨g1, g2, fun env hd => ?_⟩
          have hrd := calmB_sound hc.2
          have hn0 : fin.nf 0 = N := by rw [Acc.nf, g0.get (by simp)]; rfl
          rw [Nat.zero_add] at g3
          have key : AWp P n (.region id ops.toList.toArray true) (pick E (List.range n)) N (view c H) (fun ex1 env1 N1' σ1 => ex1 = .normal ∧ Dom env1 E1 ∧ N1' = N1 ∧ (view c H1).le σ1) := by
            refine awp_tb (fun k j => (k, j) ∈ fin.wt) fin.m fin.nf hc.1 hn0 ?_
            have := g4 (fun e s => Exit.normal = Exit.normal ∧ Dom e E1 ∧ fin.nf ops.toList.length = N1 ∧ (view c H1).le s) (pick E (List.range n)) hrd (both_pick hE) (fun env' hb => ⟨rfl, hb.dom, g3, AHeap.le_refl _⟩)
            simpa using this
          rw [Array.toArray_toList] at key
          exact key.forget (fun t v ht => hd t v (pick_get E _ t v ht).1) (AHeap.le_refl _)
        · cases h
      · cases h
    · cases h
theorem ev_both {M : Memo} (hM : MemoOk P M) : ∀ k, RunOk P (ev P M k) ∧ LoopOk P (ev P M k)
  | 0 => ⟨fun n c code E N H ex E' N' H' _ _ h => by simp [ev] at h, fun n c code E N H ex E' N' H' _ _ h => by simp [ev] at h⟩
  | k + 1 =>
    have hl := ev_loop (ev_both hM k).1 (ev_both hM k).2
    ⟨ev_step hM (ev_both hM k).1 hl, hl⟩
theorem ev_call {M : Memo} (hM : MemoOk P M) (k : Nat) : CallOk P (callWith P M (ev P M k)) := callWith_ok hM (ev_both hM k).1

def ctx0 : Ctx := ⟨fun _ => false, fun _ => false⟩
theorem gives_alone {f : FuncId} {args : List Value} {v : Value} {N' : Nat} {H' : HeapT} (h1 : AOk P f args 0 (view ctx0 .leaf) (fun v1 N1 σ1 => v1 = v ∧ N1 = N' ∧ (view ctx0 H').le σ1)) (ha : args.all flat = true) (hv : flat v = true) (N : Nat) (σ : AHeap) : Gives P f args N σ v := by
  have e0 : view ctx0 (.leaf : HeapT) = none0 := by funext j; rfl
  rw [e0] at h1
  intro ι w cargs R hr hargs hk
  refine h1 (fun _ => none) w cargs R (rel_none w) ⟨hargs.1, fun i u u' hu hu' => ?_⟩ fun ι' w' v2 v2' N' σ' ⟨e1, _, _⟩ hvr _ ht => ?_
  · have hf := List.all_eq_true.1 ha u (List.mem_of_getElem? hu)
    exact (flat_iff hf).2 ((flat_iff hf).1 (hargs.2 i u u' hu hu'))
  · subst e1
    have := (flat_iff hv).1 hvr
    subst this
    have hb := ht.below (fun i b h => by simp [none0] at h)
    exact hk ι w' _ _ N σ ⟨rfl, rfl, rfl⟩ (.of_flat hv) (hr.below hb) (Tr.of_below hb)
/-- A closed call, reckoned. -/
def runM (P : Program) (M : Memo) (k : Nat) (f : FuncId) (args : List Value) : Option Value := (callWith P M (ev P M k) ctx0 f args 0 .leaf).map (·.1)
theorem gives_runM {M : Memo} (hM : MemoOk P M) (k : Nat) {f : FuncId} {args : List Value} {v : Value} (h : runM P M k f args = some v) (ha : args.all flat = true) (hv : flat v = true) (N : Nat) (σ : AHeap) : Gives P f args N σ v := by
  unfold runM at h
  simp only [Option.map_eq_some_iff] at h
  obtain ⟨⟨v1, N1, H1⟩, h, rfl⟩ := h
  have hI : Inv ctx0 0 (.leaf : HeapT) := ⟨(fun j hj => by cases hj), (fun j hj => by cases hj), (fun j b hb => by cases hb)⟩
  obtain ⟨h1, _, _⟩ := ev_call hM k ctx0 f args 0 .leaf v1 N1 H1 hI (fun x hx => .of_flat (List.all_eq_true.1 ha x hx)) h
  exact gives_alone h1 ha hv N σ
abbrev runA (P : Program) (k : Nat) (f : FuncId) (args : List Value) : Option Value := runM P [] k f args
theorem gives_run (k : Nat) {f : FuncId} {args : List Value} {v : Value} (h : runA P k f args = some v) (ha : args.all flat = true) (hv : flat v = true) (N : Nat) (σ : AHeap) : Gives P f args N σ v :=
  gives_runM .nil k h ha hv N σ

/-! ### A long run in pieces -/
abbrev St := Trie Value × Nat × HeapT
def seqL : Code → List Code
  | .seq a b => seqL a ++ seqL b
  | c => [c]
def AWpL (P : Program) (n : Nat) : List Code → Env → Nat → AHeap → (Exit → Env → Nat → AHeap → Prop) → Prop
  | [], env, N, σ, K => K .normal env N σ
  | a :: l, env, N, σ, K => AWp P n a env N σ fun ex env' N' σ' => match ex with
    | .normal => AWpL P n l env' N' σ' K
    | ex => K ex env' N' σ'
theorem awpL_mono {K K' : Exit → Env → Nat → AHeap → Prop} (hk : ∀ ex env N σ, K ex env N σ → K' ex env N σ) : ∀ (l : List Code) (env : Env) (N : Nat) (σ : AHeap), AWpL P n l env N σ K → AWpL P n l env N σ K'
  | [], env, N, σ, h => hk _ _ _ _ h
  | a :: l, env, N, σ, h => AWp.mono h fun ex env' N' σ' h => by
    cases ex with
    | normal => exact awpL_mono hk l env' N' σ' h
    | _ => exact hk _ _ _ _ h
theorem awpL_append {K : Exit → Env → Nat → AHeap → Prop} : ∀ (l1 l2 : List Code) (env : Env) (N : Nat) (σ : AHeap),
    AWpL P n l1 env N σ (fun ex env' N' σ' => match ex with | .normal => AWpL P n l2 env' N' σ' K | ex => K ex env' N' σ') → AWpL P n (l1 ++ l2) env N σ K
  | [], l2, env, N, σ, h => h
  | a :: l, l2, env, N, σ, h => AWp.mono h fun ex env' N' σ' h => by
    cases ex with
    | normal => exact awpL_append l l2 env' N' σ' h
    | _ => exact h
theorem awpL_split {K : Exit → Env → Nat → AHeap → Prop} : ∀ (l1 l2 : List Code) (env : Env) (N : Nat) (σ : AHeap), AWpL P n (l1 ++ l2) env N σ K →
    AWpL P n l1 env N σ (fun ex env' N' σ' => match ex with | .normal => AWpL P n l2 env' N' σ' K | ex => K ex env' N' σ')
  | [], l2, env, N, σ, h => h
  | a :: l, l2, env, N, σ, h => AWp.mono h fun ex env' N' σ' h => by
    cases ex with
    | normal => exact awpL_split l l2 env' N' σ' h
    | _ => exact h
theorem awp_seqL : ∀ (c : Code) {env : Env} {N : Nat} {σ : AHeap} {K : Exit → Env → Nat → AHeap → Prop}, AWpL P n (seqL c) env N σ K → AWp P n c env N σ K
  | .seq a b, env, N, σ, K, h => by
    have h1 := awpL_split (seqL a) (seqL b) env N σ h
    refine awp_seq ((awp_seqL a h1).mono fun ex env' N' σ' h => ?_)
    cases ex with
    | normal => exact awp_seqL b h
    | _ => exact h
  | .skip, env, N, σ, K, h | .label _, env, N, σ, K, h | .exit _, env, N, σ, K, h | .ret, env, N, σ, K, h | .cond _ _ _, env, N, σ, K, h | .block _ _, env, N, σ, K, h
  | .loop _, env, N, σ, K, h | .region _ _ _, env, N, σ, K, h | .rangeFunc _ _ _ _, env, N, σ, K, h | .scope _, env, N, σ, K, h | .goto _, env, N, σ, K, h | .refuse _, env, N, σ, K, h => by
    refine AWp.mono h fun ex env' N' σ' h => ?_
    cases ex <;> exact h
def evL (P : Program) (M : Memo) (k n : Nat) (c : Ctx) : List Code → St → Option (Exit × St)
  | [], s => some (.normal, s)
  | a :: l, (E, N, H) => match ev P M k n c a E N H with
    | some (.normal, E', N', H') => evL P M k n c l (E', N', H')
    | r => r
def Runs (P : Program) (n : Nat) (c : Ctx) (l : List Code) (s : St) (ex : Exit) (r : St) : Prop := Inv c s.2.1 s.2.2 → EB n s.1 s.2.1 →
  Good c s.2.1 s.2.2 r.2.1 r.2.2 ∧ EB n r.1 r.2.1 ∧ ∀ env, Dom env s.1 → AWpL P n l env s.2.1 (view c s.2.2) (fun ex1 env1 N1 σ1 => ex1 = ex ∧ Dom env1 r.1 ∧ N1 = r.2.1 ∧ (view c r.2.2).le σ1)
theorem AWpL.le_heap {σ σ' : AHeap} (hs : σ'.le σ) {K : Exit → Env → Nat → AHeap → Prop} (hk : ∀ ex env N σ σ', σ'.le σ → K ex env N σ' → K ex env N σ) : ∀ {l : List Code} {env : Env} {N : Nat}, AWpL P n l env N σ' K → AWpL P n l env N σ K
  | [], _, _, h => hk _ _ _ _ _ hs h
  | _ :: _, _, _, h => AWp.le_heap h hs
theorem runs_evL {M : Memo} (hM : MemoOk P M) (k : Nat) {c : Ctx} : ∀ {l : List Code} {s r : St} {ex : Exit}, evL P M k n c l s = some (ex, r) → Runs P n c l s ex r
  | [], s, r, ex, h => by
    simp only [evL, Option.some.injEq, Prod.mk.injEq] at h
    obtain ⟨rfl, rfl⟩ := h
    exact fun hI hE => ⟨.same hI, hE, fun env hd => ⟨rfl, hd, rfl, AHeap.le_refl _⟩⟩
  | a :: l, (E, N, H), (E2, N2, H2), ex, h => fun hI hE => by
    unfold evL at h
    split at h
    · rename_i E1 N1 H1 h1
      obtain ⟨g1, g2, g3⟩ := (ev_both hM k).1 n c a E N H _ E1 N1 H1 hI hE h1
      obtain ⟨q1, q2, q3⟩ := runs_evL hM k h g1.inv g2
      refine ⟨g1.trans q1, q2, fun env hd => AWp.mono (g3 env hd) fun ex1 env1 N3 σ1 ⟨e1, e2, e3, e4⟩ => ?_⟩
      subst e1; subst e3
      exact AWpL.le_heap e4 (fun ex env N σ σ' hs ⟨w1, w2, w3, w4⟩ => ⟨w1, w2, w3, fun i b hb => hs i b (w4 i b hb)⟩) (q3 env1 e2)
    · rename_i hne
      obtain ⟨g1, g2, g3⟩ := (ev_both hM k).1 n c a E N H ex E2 N2 H2 hI hE h
      refine ⟨g1, g2, fun env hd => AWp.mono (g3 env hd) fun ex1 env1 N3 σ1 ⟨e1, e2, e3, e4⟩ => ?_⟩
      subst e1; subst e3
      cases ex1 with
      | normal => exact (hne _ _ _ h).elim
      | _ => exact ⟨rfl, e2, rfl, e4⟩
theorem runs_append {c : Ctx} {l1 l2 : List Code} {s m r : St} {ex : Exit} (h1 : Runs P n c l1 s .normal m) (h2 : Runs P n c l2 m ex r) : Runs P n c (l1 ++ l2) s ex r := fun hI hE => by
  obtain ⟨g1, g2, g3⟩ := h1 hI hE
  obtain ⟨q1, q2, q3⟩ := h2 g1.inv g2
  refine ⟨g1.trans q1, q2, fun env hd => awpL_append l1 l2 env _ _ (awpL_mono (fun ex1 env1 N3 σ1 ⟨e1, e2, e3, e4⟩ => ?_) l1 env _ _ (g3 env hd))⟩
  subst e1; subst e3
  exact AWpL.le_heap e4 (fun ex env N σ σ' hs ⟨w1, w2, w3, w4⟩ => ⟨w1, w2, w3, fun i b hb => hs i b (w4 i b hb)⟩) (q3 env1 e2)
/-- Statements of a body. -/
def seg (fn : Func) (i m : Nat) : List Code := match fn.body with
  | some c => ((seqL c).drop i).take m
  | none => []
theorem gives_pieces {f : FuncId} {args : List Value} {fn : Func} {l : List Code} {n : Nat} {ex : Exit} {r : St} {v : Value} (hf : P.funcs[f]? = some fn) (hn : fn.ntmps = n) (hb0 : fn.body.map seqL = some l) (hl : Nat.ble args.length n = true)
    (hrun : Runs P n ctx0 l (ofArgs 0 args .leaf, 0, .leaf) ex r) (hex : ex = .normal ∨ ex = .ret) (hres : ressT P fn r.1 (view ctx0 r.2.2) = some v)
    (ha : args.all flat = true) (hv : flat v = true) (N : Nat) (σ : AHeap) : Gives P f args N σ v := by
  have hI : Inv ctx0 0 (.leaf : HeapT) := ⟨(fun j hj => by cases hj), (fun j hj => by cases hj), (fun j b hb => by cases hb)⟩
  subst hn
  obtain ⟨code, hb, rfl⟩ := Option.map_eq_some_iff.1 hb0
  have hl : args.length ≤ fn.ntmps := by simpa using hl
  have hE : EB fn.ntmps (ofArgs 0 args .leaf) 0 := by
    intro t u ht
    rcases ofArgs_get args 0 _ t u ht with ⟨_, h2⟩ | ⟨_, h2⟩
    · rw [Nat.sub_zero] at h2
      have := (List.getElem?_eq_some_iff.1 h2).1
      exact ⟨by omega, .of_flat (List.all_eq_true.1 ha u (List.mem_of_getElem? h2))⟩
    · cases h2
  have hdom : Dom (initEnv 0 args) (ofArgs 0 args .leaf) := by
    intro t u ht
    rcases ofArgs_get args 0 _ t u ht with ⟨h1, h2⟩ | ⟨_, h2⟩
    · exact initEnv_of args 0 t u h1 h2
    · cases h2
  obtain ⟨g1, g2, g3⟩ := hrun hI hE
  refine gives_alone (N' := r.2.1) (H' := r.2.2) (aok_body hf hb rfl hl ((awp_seqL code (g3 _ hdom)).mono fun ex1 env1 N2 σ1 ⟨e1, e2, e3, e4⟩ => ?_)) ha hv N σ
  subst e1; subst e3
  have : resA P fn env1 σ1 = some v := ressT_sound hres e2 e4
  rcases hex with rfl | rfl
  · exact ⟨v, this, rfl, rfl, e4⟩
  · exact ⟨v, this, rfl, rfl, e4⟩
/-! Pieces begin and end in states of few slots and blocks. -/
def keepT {α : Type} (E : Trie α) : List Nat → Trie α
  | [] => .leaf
  | k :: ks => match E.get k with
    | some v => (keepT E ks).put k v
    | none => keepT E ks
def mkT {α : Type} : List (Nat × α) → Trie α
  | [] => .leaf
  | (k, v) :: l => (mkT l).put k v
theorem keepT_get {α : Type} {E : Trie α} : ∀ {ks : List Nat} {j : Nat} {v : α}, (keepT E ks).get j = some v → E.get j = some v
  | [], j, v, h => by cases h
  | k :: ks, j, v, h => by
    unfold keepT at h
    split at h
    · rename_i u hu
      rw [Trie.put_get] at h
      split at h
      · rename_i e; subst e; cases h; exact hu
      · exact keepT_get h
    · exact keepT_get h
def evT (P : Program) (M : Memo) (k n : Nat) (l : List Code) (s : St) (ks bs : List Nat) : Option (Exit × St) :=
  (evL P M k n ctx0 l s).map fun r => (r.1, keepT r.2.1 ks, r.2.2.1, keepT r.2.2.2 bs)
theorem runs_evT {M : Memo} (hM : MemoOk P M) (k : Nat) {l : List Code} {s r : St} {ex : Exit} {ks bs : List Nat} (h : evT P M k n l s ks bs = some (ex, r)) : Runs P n ctx0 l s ex r := by
  unfold evT at h
  simp only [Option.map_eq_some_iff] at h
  obtain ⟨⟨ex1, E, N, H⟩, h1, h2⟩ := h
  cases h2
  intro hI hE
  obtain ⟨g1, g2, g3⟩ := runs_evL hM k h1 hI hE
  refine ⟨⟨g1.le, ⟨(fun j hj => by cases hj), (fun j hj => by cases hj), fun j b hb => g1.inv.bdd j b (keepT_get hb)⟩, fun j _ hj => ?_, fun j hj hn => ?_⟩, fun t u ht => g2 t u (keepT_get ht), fun env hd => ?_⟩
  · rcases hj with hj | hj <;> cases hj
  · have := g1.none j hj hn
    cases hk : (keepT H bs).get j with
    | none => rfl
    | some b => have := keepT_get hk; simp_all
  · refine awpL_mono (fun ex1 env1 N1 σ1 ⟨w1, w2, w3, w4⟩ => ⟨w1, fun t v ht => w2 t v (keepT_get ht), w3, fun i b hb => w4 i b ?_⟩) l env _ _ (g3 env hd)
    simp only [view] at hb ⊢
    cases hk : (keepT H bs).get i with
    | none => rw [hk] at hb; cases hb
    | some b2 => rw [hk] at hb; rw [keepT_get hk]; exact hb
end
end Go.Abs
