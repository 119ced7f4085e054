/- Shaken texts of the layer and of the walks. -/
import Derived.Test.YtfialjllclclkaaFmFxG
set_option linter.unusedVariables false
namespace Go.Abs
noncomputable section
variable {P : Program} {n lf : Nat}

inductive Out where
  | no
  | go (E : Trie Value) (N : Nat) (H : HeapT)
  | ret (E : Trie Value) (N : Nat) (H : HeapT)
  | ex (id : Nat) (E : Trie Value) (N : Nat) (H : HeapT)
def Out.opt : Out → Option (Exit × Trie Value × Nat × HeapT)
  | .no => none
  | .go E N H => some (.normal, E, N, H)
  | .ret E N H => some (.ret, E, N, H)
  | .ex id E N H => some (.exit id, E, N, H)
def Out.then (r : Out) (K : Trie Value → Nat → HeapT → Out) : Out := Out.rec (motive := fun _ => Out) .no (fun E N H => K E N H) (fun E N H => .ret E N H) (fun id E N H => .ex id E N H) r
abbrev OpsF := CallT → Ctx → Trie Value → Nat → HeapT → Out
def stOne (P : Program) (rest : Box OpsF) (o : Oper) : Box OpsF := match stOp P o.op, o.dst with
  | .pur false f, none => ⟨fun call c E N H => Option.rec (motive := fun _ => Out) .no (fun v => rest.un call c E N H) (f E)⟩
  | .pur false f, some d => ⟨fun call c E N H => Option.rec (motive := fun _ => Out) .no (fun v => rest.un call c ((pth d).set E (some v)) N H) (f E)⟩
  | .pur true f, none => ⟨fun call c E N H => Option.rec (motive := fun _ => Out) .no (fun v => Bool.rec (motive := fun _ => Out) .no (rest.un call c E N H) (bddF N v)) (f E)⟩
  | .pur true f, some d => ⟨fun call c E N H => Option.rec (motive := fun _ => Out) .no (fun v => Bool.rec (motive := fun _ => Out) .no (rest.un call c ((pth d).set E (some v)) N H) (bddF N v)) (f E)⟩
  | .mem false f, none => ⟨fun call c E N H => MR.rec (motive := fun _ => Out) .no (fun v N H => forceN N fun N => rest.un call c E N H) (f call c E N H)⟩
  | .mem false f, some d => ⟨fun call c E N H => MR.rec (motive := fun _ => Out) .no (fun v N H => forceN N fun N => rest.un call c ((pth d).set E (some v)) N H) (f call c E N H)⟩
  | .mem true f, none => ⟨fun call c E N H => MR.rec (motive := fun _ => Out) .no (fun v N H => Bool.rec (motive := fun _ => Out) .no (forceN N fun N => rest.un call c E N H) (bddF N v)) (f call c E N H)⟩
  | .mem true f, some d => ⟨fun call c E N H => MR.rec (motive := fun _ => Out) .no (fun v N H => Bool.rec (motive := fun _ => Out) .no (forceN N fun N => rest.un call c ((pth d).set E (some v)) N H) (bddF N v)) (f call c E N H)⟩
def guardF (v : Value) (want : Bool) (a b : Out) : Out := Value.rec (motive_1 := fun _ => Out) (motive_2 := fun _ => PUnit) (motive_3 := fun _ => PUnit) (fun t => Bool.rec (motive := fun _ => Out) (Bool.rec (motive := fun _ => Out) a b want) (Bool.rec (motive := fun _ => Out) b a want) t) (fun _ _ => .no) (fun _ _ => .no) (fun _ _ _ => .no) (fun _ => .no) (fun _ => .no) (fun _ _ _ => .no) (fun _ => .no) (fun _ => .no) (fun _ _ _ _ _ => .no) .no (fun _ _ _ => .no) .no (fun _ _ => .no) (fun _ _ => b) (fun _ _ => .unit) .unit (fun _ _ _ _ => .unit) v
def stSkip (rest : Box OpsF) (o : Oper) : Box OpsF := match o.dst with
  | none => rest
  | some d => ⟨fun call c E N H => rest.un call c ((pth d).set E (some undef)) N H⟩
def stGuard (ops : Array Oper) (o : Oper) (one skip : Box OpsF) : Box OpsF := match o.guard with
  | none => one
  | some (j, want) => match (ops[j]?).bind (·.dst) with
    | none => ⟨fun _ _ _ _ _ => .no⟩
    | some t => ⟨fun call c E N H => Option.rec (motive := fun _ => Out) .no (fun v => guardF v want (one.un call c E N H) (skip.un call c E N H)) ((pth t).get E)⟩
def stOps (P : Program) (n : Nat) (ops : Array Oper) (l : List Oper) : Box OpsF :=
  List.rec (motive := fun _ => Box OpsF) ⟨fun _ _ E N H => .go E N H⟩ (fun o _ ih => Bool.rec (motive := fun _ => Box OpsF) ⟨fun _ _ _ _ _ => .no⟩ (stGuard ops o (stOne P ih o) (stSkip ih o)) (dstOk n o.dst)) l

theorem orec_go {β : Type} {o : Option β} {K : β → Out} {r : Out} (h : Option.rec (motive := fun _ => Out) .no K o = r) (hr : r ≠ .no) : ∃ a, o = some a ∧ K a = r := by
  cases o with
  | none => exact absurd h.symm hr
  | some a => exact ⟨a, rfl, h⟩
theorem mrec_go {o : MR} {K : Value → Nat → HeapT → Out} {r : Out} (h : MR.rec (motive := fun _ => Out) .no K o = r) (hr : r ≠ .no) : ∃ v N H, o = .ok v N H ∧ K v N H = r := by
  cases o with
  | no => exact absurd h.symm hr
  | ok v N H => exact ⟨v, N, H, rfl, h⟩
theorem brec_go {b : Bool} {K : Out} {r : Out} (h : Bool.rec (motive := fun _ => Out) .no K b = r) (hr : r ≠ .no) : b = true ∧ K = r := by
  cases b with
  | false => exact absurd h.symm hr
  | true => exact ⟨rfl, h⟩
def OpsOk (P : Program) (n : Nat) (ops : Array Oper) (l : List Oper) (f : Box OpsF) : Prop := ∀ call c E N H E' N' H', CallOk P call → f.un call c E N H = .go E' N' H' → Inv c N H → EB n E N →
    Good c N H N' H' ∧ EB n E' N' ∧ ∀ (K : Env → Nat → AHeap → Prop) (env : Env), Dom env E → (∀ env1, Dom env1 E' → K env1 N' (view c H')) → AList P n ops l env N (view c H) K
def OneOk (P : Program) (n : Nat) (ops : Array Oper) (o : Oper) (l : List Oper) (f : Box OpsF) : Prop := ∀ call c E N H E' N' H', CallOk P call → f.un call c E N H = .go E' N' H' → Inv c N H → EB n E N →
    Good c N H N' H' ∧ EB n E' N' ∧ ∀ (K : Env → Nat → AHeap → Prop) (env : Env), Dom env E → (∀ env1, Dom env1 E' → K env1 N' (view c H')) → wantedA ops env o = some true → AList P n ops (o :: l) env N (view c H) K
theorem step_ok {ops : Array Oper} {o : Oper} {l : List Oper} {rest : Box OpsF} (hd : dstOk n o.dst = true) (hrest : OpsOk P n ops l rest) {call : CallT} {c : Ctx} {E : Trie Value} {N : Nat} {H : HeapT} {v : Value} {N1 : Nat} {H1 : HeapT} {E' : Trie Value} {N' : Nat} {H' : HeapT} (hcall : CallOk P call)
    (hev : evOp P call c (opdT E) o.op N H = some (v, N1, H1)) (hb : Bdd N1 v) (h : rest.un call c (putT E o.dst v) N1 H1 = .go E' N' H') (hI : Inv c N H) (hE : EB n E N) :
    Good c N H N' H' ∧ EB n E' N' ∧ ∀ (K : Env → Nat → AHeap → Prop) (env : Env), Dom env E → (∀ env1, Dom env1 E' → K env1 N' (view c H')) → wantedA ops env o = some true → AList P n ops (o :: l) env N (view c H) K := by
  rw [evOp_congr (opdT_pick E ops o)] at hev
  obtain ⟨g1, g2⟩ := evOp_sound (n := n) hcall hI (hE.pick _) hev
  obtain ⟨q1, q2, q3⟩ := hrest call c _ N1 H1 E' N' H' hcall h g2.inv ((hE.up g2.le).put hb hd)
  refine ⟨g2.trans q1, q2, fun K env hdom hk hw => ?_⟩
  have hpick := pick_dom hdom (slotsOf ops o)
  refine al_step hw (dstOk_spec hd) ((g1.env_mono hpick).mono fun v1 N2 σ1 ⟨e1, e2, e3⟩ => ?_)
  subst e1; subst e2
  exact al_forget e3 (q3 K _ (hdom.put _ _) hk)
theorem stOne_ok {ops : Array Oper} {o : Oper} {l : List Oper} {rest : Box OpsF} (hd : dstOk n o.dst = true) (hrest : OpsOk P n ops l rest) : OneOk P n ops o l (stOne P rest o) := by
  intro call c E N H E' N' H' hcall h hI hE
  have hop := stOp_ok (P := P) (n := n) o.op
  have hne : Out.go E' N' H' ≠ .no := fun h => by cases h
  unfold stOne at h
  split at h
  · rename_i f e1 e2
    rw [e1] at hop
    obtain ⟨v, hv, h⟩ := orec_go h hne
    obtain ⟨p1, p2⟩ := hop E v hv
    exact step_ok hd hrest hcall (p1 call c N H) (p2 rfl N hE) (by rw [e2]; exact h) hI hE
  · rename_i f d e1 e2
    rw [e1] at hop
    obtain ⟨v, hv, h⟩ := orec_go h hne
    obtain ⟨p1, p2⟩ := hop E v hv
    exact step_ok hd hrest hcall (p1 call c N H) (p2 rfl N hE) (by rw [e2]; exact h) hI hE
  · rename_i f e1 e2
    rw [e1] at hop
    obtain ⟨v, hv, h⟩ := orec_go h hne
    obtain ⟨hb, h⟩ := brec_go h hne
    rw [bddF_eq] at hb
    exact step_ok hd hrest hcall ((hop E v hv).1 call c N H) (bddB_sound hb) (by rw [e2]; exact h) hI hE
  · rename_i f d e1 e2
    rw [e1] at hop
    obtain ⟨v, hv, h⟩ := orec_go h hne
    obtain ⟨hb, h⟩ := brec_go h hne
    rw [bddF_eq] at hb
    exact step_ok hd hrest hcall ((hop E v hv).1 call c N H) (bddB_sound hb) (by rw [e2]; exact h) hI hE
  · rename_i f e1 e2
    rw [e1] at hop
    obtain ⟨v, N1, H1, hv, h⟩ := mrec_go h hne
    obtain ⟨p1, p2⟩ := hop call c E N H v N1 H1 hv
    exact step_ok hd hrest hcall p1 (p2 rfl hcall hI hE) (by rw [e2]; exact h) hI hE
  · rename_i f d e1 e2
    rw [e1] at hop
    obtain ⟨v, N1, H1, hv, h⟩ := mrec_go h hne
    obtain ⟨p1, p2⟩ := hop call c E N H v N1 H1 hv
    exact step_ok hd hrest hcall p1 (p2 rfl hcall hI hE) (by rw [e2]; exact h) hI hE
  · rename_i f e1 e2
    rw [e1] at hop
    obtain ⟨v, N1, H1, hv, h⟩ := mrec_go h hne
    obtain ⟨hb, h⟩ := brec_go h hne
    rw [bddF_eq] at hb
    exact step_ok hd hrest hcall (hop call c E N H v N1 H1 hv).1 (bddB_sound hb) (by rw [e2]; exact h) hI hE
  · rename_i f d e1 e2
    rw [e1] at hop
    obtain ⟨v, N1, H1, hv, h⟩ := mrec_go h hne
    obtain ⟨hb, h⟩ := brec_go h hne
    rw [bddF_eq] at hb
    exact step_ok hd hrest hcall (hop call c E N H v N1 H1 hv).1 (bddB_sound hb) (by rw [e2]; exact h) hI hE
theorem stSkip_ok {ops : Array Oper} {o : Oper} {l : List Oper} {rest : Box OpsF} (hd : dstOk n o.dst = true) (hrest : OpsOk P n ops l rest) {call : CallT} {c : Ctx} {E : Trie Value} {N : Nat} {H : HeapT} {E' : Trie Value} {N' : Nat} {H' : HeapT} (hcall : CallOk P call)
    (h : (stSkip rest o).un call c E N H = .go E' N' H') (hI : Inv c N H) (hE : EB n E N) :
    Good c N H N' H' ∧ EB n E' N' ∧ ∀ (K : Env → Nat → AHeap → Prop) (env : Env), Dom env E → (∀ env1, Dom env1 E' → K env1 N' (view c H')) → wantedA ops env o = some false → AList P n ops (o :: l) env N (view c H) K := by
  have h : rest.un call c (putT E o.dst undef) N H = .go E' N' H' := by
    unfold stSkip at h
    split at h
    · rename_i e; rw [e]; exact h
    · rename_i d e; rw [e]; exact h
  obtain ⟨q1, q2, q3⟩ := hrest call c _ N H E' N' H' hcall h hI (hE.put (.of_flat rfl) hd)
  exact ⟨q1, q2, fun K env hdom hk hw => al_skip hw (dstOk_spec hd) (q3 K _ (hdom.put _ _) hk)⟩
theorem guardF_go {v : Value} {want : Bool} {a b r : Out} (h : guardF v want a b = r) (hr : r ≠ .no) : (∃ t, v = .bool t ∧ (t == want) = true ∧ a = r) ∨ (∃ t, v = .bool t ∧ (t == want) = false ∧ b = r) ∨ (∃ cs, v = .tuple cs ∧ b = r) := by
  cases v with
  | bool t =>
    cases t <;> cases want
    · exact .inl ⟨_, rfl, rfl, h⟩
    · exact .inr (.inl ⟨_, rfl, rfl, h⟩)
    · exact .inr (.inl ⟨_, rfl, rfl, h⟩)
    · exact .inl ⟨_, rfl, rfl, h⟩
  | tuple cs => exact .inr (.inr ⟨cs, rfl, h⟩)
  | _ => exact absurd h.symm hr
theorem stOps_ok {ops : Array Oper} : ∀ l : List Oper, OpsOk P n ops l (stOps P n ops l)
  | [] => fun call c E N H E' N' H' hcall h hI hE => by
    have h : Out.go E N H = .go E' N' H' := h
    cases h
    exact ⟨.same hI, hE, fun K env hd hk => al_nil (hk env hd)⟩
  | o :: l => fun call c E N H E' N' H' hcall h hI hE => by
    have ih := stOps_ok (ops := ops) l
    have hne : Out.go E' N' H' ≠ .no := fun h => by cases h
    have h : Box.un (Bool.rec (motive := fun _ => Box OpsF) ⟨fun _ _ _ _ _ => .no⟩ (stGuard ops o (stOne P (stOps P n ops l) o) (stSkip (stOps P n ops l) o)) (dstOk n o.dst)) call c E N H = .go E' N' H' := h
    cases hd : dstOk n o.dst with
    | false => rw [hd] at h; cases h
    | true =>
      rw [hd] at h
      have h : (stGuard ops o (stOne P (stOps P n ops l) o) (stSkip (stOps P n ops l) o)).un call c E N H = .go E' N' H' := h
      unfold stGuard at h
      split at h
      · rename_i hg
        obtain ⟨q1, q2, q3⟩ := stOne_ok hd ih call c E N H E' N' H' hcall h hI hE
        exact ⟨q1, q2, fun K env hdom hk => q3 K env hdom hk (by simp [wantedA, hg])⟩
      · rename_i j want hg
        split at h
        · cases h
        · rename_i t ht
          obtain ⟨v, hv, h⟩ := orec_go h hne
          rcases guardF_go h hne with ⟨b, rfl, hb, h⟩ | ⟨b, rfl, hb, h⟩ | ⟨cs, rfl, h⟩
          · obtain ⟨q1, q2, q3⟩ := stOne_ok hd ih call c E N H E' N' H' hcall h hI hE
            exact ⟨q1, q2, fun K env hdom hk => q3 K env hdom hk (by simp only [wantedA, hg, ht, hdom t _ hv, hb])⟩
          · obtain ⟨q1, q2, q3⟩ := stSkip_ok hd ih hcall h hI hE
            exact ⟨q1, q2, fun K env hdom hk => q3 K env hdom hk (by simp only [wantedA, hg, ht, hdom t _ hv, hb])⟩
          · obtain ⟨q1, q2, q3⟩ := stSkip_ok hd ih hcall h hI hE
            exact ⟨q1, q2, fun K env hdom hk => q3 K env hdom hk (by simp only [wantedA, hg, ht, hdom t _ hv])⟩

abbrev CodeF := CallT → Bool → Ctx → Trie Value → Nat → HeapT → Out
def LF : Nat := 1000000000
def loopF (f : Trie Value → Nat → HeapT → Out) (k : Nat) : Trie Value → Nat → HeapT → Out :=
  Nat.rec (motive := fun _ => Trie Value → Nat → HeapT → Out) (fun _ _ _ => .no) (fun _ g E N H => Out.rec (motive := fun _ => Out) .no (fun E N H => g E N H) (fun E N H => .ret E N H) (fun id E N H => .ex id E N H) (f E N H)) k
def outOf (o : Option (Trie Value × Nat × HeapT)) (d : Out) : Out := Option.rec (motive := fun _ => Out) d (fun q => Prod.rec (motive := fun _ => Out) (fun E q => Prod.rec (motive := fun _ => Out) (fun N H => forceN N fun N => .go E N H) q) q) o
def rangeF (P : Program) (n : Nat) (f : Operand) (params : Array Tmp) (assign body : Code) (call : CallT) (c : Ctx) (E : Trie Value) (N : Nat) (H : HeapT) : Option (Exit × Trie Value × Nat × HeapT) :=
  match opdT E f with
  | some (.func (.func g) xs cs) =>
    bif callableB P g then
      match call c (.func g) (xs.toList ++ [.func (.yield N) #[] #[]] ++ cs.toList) (N + 1) (H.put N ([], .loop ⟨n, params, assign, body, pick E (List.range n)⟩ .ready)) with
      | some (_, N', H') => match view c H' N with
        | some ⟨[], true, .loop _ st⟩ => some (st.exit, E, N', H'.del N)
        | _ => none
      | none => none
    else none
  | _ => none
def outEx (o : Option (Exit × Trie Value × Nat × HeapT)) : Out := match o with
  | some (.normal, E, N, H) => forceN N fun N => .go E N H
  | some (.ret, E, N, H) => forceN N fun N => .ret E N H
  | some (.exit id, E, N, H) => forceN N fun N => .ex id E N H
  | _ => .no
def goOnly (r : Out) : Out := Out.rec (motive := fun _ => Out) .no (fun E N H => .go E N H) (fun _ _ _ => .no) (fun _ _ _ _ => .no) r
def stCode (P : Program) (lf : Nat) (n : Nat) (code : Code) : Box CodeF :=
  Code.rec (motive := fun _ => Box CodeF)
    ⟨fun _ _ _ E N H => .go E N H⟩
    (fun _ ops draw => Bool.rec (motive := fun _ => Box CodeF) ⟨fun call _ c E N H => goOnly ((stOps P n ops ops.toList).un call c E N H)⟩ ⟨fun call _ c E N H => outOf (drawS P n ops true call c E N H) (outOf (drawS P n ops false call c E N H) .no)⟩ draw)
    (fun _ _ a b => ⟨fun call rd c E N H => Out.rec (motive := fun _ => Out) .no (fun E N H => b.un call rd c E N H) (fun E N H => .ret E N H) (fun id E N H => .ex id E N H) (a.un call rd c E N H)⟩)
    (fun x _ _ a b => ⟨fun call rd c E N H => Option.rec (motive := fun _ => Out) .no (fun v => asBool v .no fun t => Bool.rec (motive := fun _ => Out) (b.un call rd c E N H) (a.un call rd c E N H) t) ((rdB x).un E)⟩)
    (fun id _ a => ⟨fun call rd c E N H => Out.rec (motive := fun _ => Out) .no (fun E N H => .go E N H) (fun E N H => .ret E N H) (fun id' E N H => Bool.rec (motive := fun _ => Out) (.ex id' E N H) (.go E N H) (Nat.beq id' id)) (a.un call rd c E N H)⟩)
    (fun _ a => ⟨fun call rd c E N H => loopF (fun E N H => a.un call rd c E N H) lf E N H⟩)
    (fun f params assign body _ _ => ⟨fun call rd c E N H => Bool.rec (motive := fun _ => Out) (outEx (rangeF P n f params assign body call c E N H)) .no rd⟩)
    (fun id => ⟨fun _ _ _ E N H => .ex id E N H⟩)
    (fun _ _ => ⟨fun _ _ _ _ _ _ => .no⟩)
    (fun _ => ⟨fun _ _ _ E N H => .go E N H⟩)
    (fun _ => ⟨fun _ _ _ _ _ _ => .no⟩)
    ⟨fun _ _ _ E N H => .ret E N H⟩
    (fun _ => ⟨fun _ _ _ _ _ _ => .no⟩)
    code
def runS (P : Program) (call : CallT) : RunT := fun rd n c code E N H => ((stCode P LF n code).un call rd c E N H).opt
def CodeOk (P : Program) (lf n : Nat) (call : CallT) (code : Code) : Prop := ∀ (rd : Bool) (c : Ctx) (E : Trie Value) (N : Nat) (H : HeapT) (ex : Exit) (E' : Trie Value) (N' : Nat) (H' : HeapT), Inv c N H → EB n E N → ((stCode P lf n code).un call rd c E N H).opt = some (ex, E', N', H') →
  Good c N H N' H' ∧ EB n E' N' ∧ ∀ env, Dom env E → AWp rd P n code env N (view c H) (fun ex1 env1 N1 σ1 => ex1 = ex ∧ Dom env1 E' ∧ N1 = N' ∧ (view c H').le σ1)

theorem then_cases {r : Out} {K : Trie Value → Nat → HeapT → Out} {ex : Exit} {E' : Trie Value} {N' : Nat} {H' : HeapT}
    (h : (Out.rec (motive := fun _ => Out) .no (fun E N H => K E N H) (fun E N H => .ret E N H) (fun id E N H => .ex id E N H) r : Out).opt = some (ex, E', N', H')) :
    (∃ E1 N1 H1, r.opt = some (.normal, E1, N1, H1) ∧ (K E1 N1 H1).opt = some (ex, E', N', H')) ∨ (r.opt = some (ex, E', N', H') ∧ ex ≠ .normal) := by
  cases r with
  | no => cases h
  | go E N H => exact .inl ⟨E, N, H, rfl, h⟩
  | ret E N H => cases h; exact .inr ⟨rfl, fun h => by cases h⟩
  | ex id E N H => cases h; exact .inr ⟨rfl, fun h => by cases h⟩
theorem loop_ok {call : CallT} {body : Code} (ih : CodeOk P lf n call body) (rd : Bool) (c : Ctx) : ∀ (k : Nat) (E : Trie Value) (N : Nat) (H : HeapT) (ex : Exit) (E' : Trie Value) (N' : Nat) (H' : HeapT), Inv c N H → EB n E N →
    (loopF (fun E N H => (stCode P lf n body).un call rd c E N H) k E N H).opt = some (ex, E', N', H') →
    Good c N H N' H' ∧ EB n E' N' ∧ ∀ env, Dom env E → ALoop rd P n body env N (view c H) (fun ex1 env1 N1 σ1 => ex1 = ex ∧ Dom env1 E' ∧ N1 = N' ∧ (view c H').le σ1)
  | 0, E, N, H, ex, E', N', H', hI, hE, h => by cases h
  | k + 1, E, N, H, ex, E', N', H', hI, hE, h => by
    rcases then_cases (K := loopF (fun E N H => (stCode P lf n body).un call rd c E N H) k) h with ⟨E1, N1, H1, h1, h2⟩ | ⟨h1, hne⟩
    · obtain ⟨g1, g2, g3⟩ := ih rd c E N H _ E1 N1 H1 hI hE h1
      obtain ⟨q1, q2, q3⟩ := loop_ok ih rd c k E1 N1 H1 ex E' N' H' g1.inv g2 h2
      refine ⟨g1.trans q1, q2, fun env hd => aloop_round ((g3 env hd).mono fun ex1 env1 N2 σ1 ⟨e1, e2, e3, e4⟩ => ?_)⟩
      subst e1; subst e3
      exact (q3 env1 e2).forget (fun _ _ h => h) e4
    · obtain ⟨g1, g2, g3⟩ := ih rd c E N H ex E' N' H' hI hE h1
      refine ⟨g1, g2, fun env hd => aloop_round ((g3 env hd).mono fun ex1 env1 N2 σ1 ⟨e1, e2, e3, e4⟩ => ?_)⟩
      subst e1; subst e3
      cases ex1 with
      | normal => exact (hne rfl).elim
      | _ => exact ⟨rfl, e2, rfl, e4⟩
theorem draw_ok {call : CallT} (hcall : CallOk P call) {id : Nat} {ops : Array Oper} {md : Bool} {rd : Bool} {c : Ctx} {E : Trie Value} {N : Nat} {H : HeapT} {E' : Trie Value} {N' : Nat} {H' : HeapT} (hI : Inv c N H) (hE : EB n E N) (h : drawS P n ops md call c E N H = some (E', N', H')) :
    Good c N H N' H' ∧ EB n E' N' ∧ ∀ env, Dom env E → AWp rd P n (.region id ops true) env N (view c H) (fun ex1 env1 N1 σ1 => ex1 = .normal ∧ Dom env1 E' ∧ N1 = N' ∧ (view c H').le σ1) := by
  obtain ⟨fin, hdr, hc⟩ := drawS_some h
  simp only [Bool.and_eq_true] at hc
  obtain ⟨g0, g1, g2, g3, g4⟩ := evDraw_sound (n := n) hcall ops.toList 0 E N H ⟨[N], [], [], [], []⟩ E' N' H' fin (by simp) hdr hI hE (Nat.le_refl _) rfl rfl (fun d hd => by cases hd)
  refine ⟨g1, g2, fun env hd => ?_⟩
  have hrd := calmB_sound hc.2
  have hn0 : fin.nf 0 = N := by rw [Acc.nf, g0.get (by simp)]; rfl
  rw [Nat.zero_add] at g3
  have key : AWp rd P n (.region id ops.toList.toArray true) (pick E (List.range n)) N (view c H) (fun ex1 env1 N1' σ1 => ex1 = .normal ∧ Dom env1 E' ∧ N1' = N' ∧ (view c H').le σ1) := by
    refine awp_tb (fun k j => WtA fin k j) fin.m fin.nf hc.1 hn0 ?_
    have := g4 (fun e s => Exit.normal = Exit.normal ∧ Dom e E' ∧ fin.nf ops.toList.length = N' ∧ (view c H').le s) (pick E (List.range n)) hrd (both_pick hE) (fun env' hb => ⟨rfl, hb.dom, g3, AHeap.le_refl _⟩)
    simpa using this
  rw [Array.toArray_toList] at key
  exact key.forget (fun t v ht => hd t v (pick_get E _ t v ht).1) (AHeap.le_refl _)
theorem rangeF_ok {call : CallT} (hcall : CallOk P call) {c : Ctx} {f : Operand} {params : Array Tmp} {assign body : Code} {E : Trie Value} {N : Nat} {H : HeapT} {ex : Exit} {E' : Trie Value} {N' : Nat} {H' : HeapT} (hI : Inv c N H) (hE : EB n E N)
    (h : rangeF P n f params assign body call c E N H = some (ex, E', N', H')) :
    Good c N H N' H' ∧ EB n E' N' ∧ ∀ env, Dom env E → AWp false P n (.rangeFunc f params assign body) env N (view c H) (fun ex1 env1 N1 σ1 => ex1 = ex ∧ Dom env1 E' ∧ N1 = N' ∧ (view c H').le σ1) := by
  unfold rangeF at h
  split at h
  · rename_i g xs cs hf
    cases hc : callableB P g with
    | false => rw [hc] at h; cases h
    | true =>
      rw [hc, cond_true] at h
      split at h
      · rename_i v1 N1 H1 hcl
        split at h
        · rename_i info st hv
          simp only [Option.some.injEq, Prod.mk.injEq] at h
          obtain ⟨rfl, rfl, rfl, rfl⟩ := h
          let B : LInfo := ⟨n, params, assign, body, pick E (List.range n)⟩
          have hBB : BB (N + 1) ([], .loop B .ready) := ⟨(fun x hx => by cases hx), .loop fun t u hu => ((hE t u (pick_get E _ t u hu).1).2).mono (Nat.le_succ _)⟩
          have hI1 : Inv c (N + 1) (H.put N ([], .loop B .ready)) := hI.new hBB
          have hfb : Bdd N (.func (.func g) xs cs) := by
            cases f with
            | tmp t => exact (hE t _ hf).2
            | const u =>
              simp only [opdT] at hf
              split at hf
              · cases hf; exact .of_flat (by assumption)
              · cases hf
            | global g => cases hf
            | func f => cases hf; exact .func (by simp) (by simp) (by simp)
          obtain ⟨b1, b2⟩ : (∀ (i : Nat) (v : Value), xs[i]? = some v → Bdd N v) ∧ (∀ (i : Nat) (v : Value), cs[i]? = some v → Bdd N v) := by
            cases hfb with
            | flat hh => simp [flat0] at hh
            | func _ q1 q2 => exact ⟨q1, q2⟩
          have hab : ∀ x ∈ xs.toList ++ [.func (.yield N) #[] #[]] ++ cs.toList, Bdd (N + 1) x := by
            intro x hx
            rw [List.mem_append, List.mem_append] at hx
            rcases hx with (hx | hx) | hx
            · obtain ⟨i, hi⟩ := List.getElem?_of_mem hx
              exact (b1 i x (by simpa using hi)).mono (Nat.le_succ _)
            · rw [List.mem_singleton.1 hx]; exact .yield (Nat.lt_succ_self _)
            · obtain ⟨i, hi⟩ := List.getElem?_of_mem hx
              exact (b2 i x (by simpa using hi)).mono (Nat.le_succ _)
          obtain ⟨k1, k2, _⟩ := hcall c (.func g) _ (N + 1) _ v1 N1 H1 hI1 hab hcl
          have hle : N ≤ N1 := Nat.le_trans (Nat.le_succ _) k2.le
          refine ⟨⟨hle, k2.inv.gone N, fun j hj hjr => ?_, fun j hj hjn => ?_⟩, hE.up hle, fun env hd => ?_⟩
          · rw [Trie.del_get, if_neg (by omega), k2.frame j (by omega) hjr, Trie.put_get, if_neg (by omega)]
          · rw [Trie.del_get, if_neg (by omega)]
            exact k2.none j (by omega) (by rw [Trie.put_get, if_neg (by omega)]; exact hjn)
          · have hpd : ∀ t v, (pick E (List.range n)).get t = some v → env.get t = some v := pick_dom hd _
            refine AWp.forget (env' := pick E (List.range n)) ?_ hpd (AHeap.le_refl _)
            have hf' : (pick E (List.range n)).eval f = some (.func (.func g) xs cs) := by
              cases f with
              | tmp t => exact (pick_get_eq E _ t (List.mem_range.2 (hE t _ hf).1)).trans hf
              | const u => exact hf
              | global g => cases hf
              | func f => exact hf
            refine awp_rangeFunc hf' hc ?_
            rw [← view_new hI ([], .loop B .ready)]
            refine AOk.mono k1 fun v2 N2 σ2 ⟨e1, e2, e3⟩ => ⟨info, st, e3 _ _ hv, rfl, fun t v ht => ?_, e2, ?_⟩
            · rw [pick_get_eq E _ t (List.mem_range.2 (hE t _ ht).1)]; exact ht
            · rw [view_gone]
              intro j bj hj
              unfold AHeap.del at hj ⊢
              split at hj
              · cases hj
              · rename_i e; rw [if_neg e]; exact e3 j bj hj
        · cases h
      · cases h
  · cases h

theorem outOf_opt {o : Option (Trie Value × Nat × HeapT)} {d : Out} {ex : Exit} {E' : Trie Value} {N' : Nat} {H' : HeapT} (h : (outOf o d).opt = some (ex, E', N', H')) : (o = some (E', N', H') ∧ ex = .normal) ∨ (o = none ∧ d.opt = some (ex, E', N', H')) := by
  cases o with
  | none => exact .inr ⟨rfl, h⟩
  | some q =>
    obtain ⟨E, N, H⟩ := q
    have h : (Out.go E N H).opt = some (ex, E', N', H') := h
    cases h
    exact .inl ⟨rfl, rfl⟩
theorem outEx_opt {o : Option (Exit × Trie Value × Nat × HeapT)} {ex : Exit} {E' : Trie Value} {N' : Nat} {H' : HeapT} (h : (outEx o).opt = some (ex, E', N', H')) : o = some (ex, E', N', H') := by
  unfold outEx at h
  split at h
  · cases h; rfl
  · cases h; rfl
  · cases h; rfl
  · cases h
theorem stCode_ok {call : CallT} (hcall : CallOk P call) : ∀ code : Code, CodeOk P lf n call code
  | .skip => fun rd c E N H ex E' N' H' hI hE h => by
    cases h; exact ⟨.same hI, hE, fun env hd => awp_skip ⟨rfl, hd, rfl, AHeap.le_refl _⟩⟩
  | .label _ => fun rd c E N H ex E' N' H' hI hE h => by
    cases h; exact ⟨.same hI, hE, fun env hd => awp_label ⟨rfl, hd, rfl, AHeap.le_refl _⟩⟩
  | .exit _ => fun rd c E N H ex E' N' H' hI hE h => by
    cases h; exact ⟨.same hI, hE, fun env hd => awp_exit ⟨rfl, hd, rfl, AHeap.le_refl _⟩⟩
  | .ret => fun rd c E N H ex E' N' H' hI hE h => by
    cases h; exact ⟨.same hI, hE, fun env hd => awp_ret ⟨rfl, hd, rfl, AHeap.le_refl _⟩⟩
  | .scope _ => fun rd c E N H ex E' N' H' hI hE h => by cases h
  | .goto _ => fun rd c E N H ex E' N' H' hI hE h => by cases h
  | .refuse _ => fun rd c E N H ex E' N' H' hI hE h => by cases h
  | .region id ops true => fun rd c E N H ex E' N' H' hI hE h => by
    rcases outOf_opt h with ⟨h1, rfl⟩ | ⟨_, h1⟩
    · exact draw_ok hcall hI hE h1
    · rcases outOf_opt h1 with ⟨h2, rfl⟩ | ⟨_, h2⟩
      · exact draw_ok hcall hI hE h2
      · cases h2
  | .region id ops false => fun rd c E N H ex E' N' H' hI hE h => by
    have h : (goOnly ((stOps P n ops ops.toList).un call c E N H)).opt = some (ex, E', N', H') := h
    cases hr : (stOps P n ops ops.toList).un call c E N H with
    | no => rw [hr] at h; cases h
    | go E1 N1 H1 =>
      rw [hr] at h; cases h
      obtain ⟨g1, g2, g3⟩ := stOps_ok (P := P) (n := n) (ops := ops) ops.toList call c E N H _ _ _ hcall hr hI hE
      exact ⟨g1, g2, fun env hd => awp_list (g3 _ env hd fun env1 he => ⟨rfl, he, rfl, AHeap.le_refl _⟩)⟩
    | ret E1 N1 H1 => rw [hr] at h; cases h
    | ex id E1 N1 H1 => rw [hr] at h; cases h
  | .seq a b => fun rd c E N H ex E' N' H' hI hE h => by
    rcases then_cases (K := fun E N H => (stCode P lf n b).un call rd c E N H) h with ⟨E1, N1, H1, h1, h2⟩ | ⟨h1, hne⟩
    · obtain ⟨g1, g2, g3⟩ := stCode_ok hcall a rd c E N H _ E1 N1 H1 hI hE h1
      obtain ⟨q1, q2, q3⟩ := stCode_ok hcall b rd c E1 N1 H1 ex E' N' H' g1.inv g2 h2
      refine ⟨g1.trans q1, q2, fun env hd => awp_seq ((g3 env hd).mono fun ex1 env1 N2 σ1 ⟨e1, e2, e3, e4⟩ => ?_)⟩
      subst e1; subst e3
      exact (q3 env1 e2).le_heap e4
    · obtain ⟨g1, g2, g3⟩ := stCode_ok hcall a rd c E N H ex E' N' H' hI hE h1
      refine ⟨g1, g2, fun env hd => awp_seq ((g3 env hd).mono fun ex1 env1 N2 σ1 ⟨e1, e2, e3, e4⟩ => ?_)⟩
      subst e1; subst e3
      cases ex1 with
      | normal => exact (hne rfl).elim
      | _ => exact ⟨rfl, e2, rfl, e4⟩
  | .cond x a b => fun rd c E N H ex E' N' H' hI hE h => by
    have h : (Option.rec (motive := fun _ => Out) .no (fun v => asBool v .no fun t => Bool.rec (motive := fun _ => Out) ((stCode P lf n b).un call rd c E N H) ((stCode P lf n a).un call rd c E N H) t) ((rdB x).un E) : Out).opt = some (ex, E', N', H') := h
    rw [rdB_eq] at h
    cases hx : opdT E x with
    | none => rw [hx] at h; cases h
    | some v =>
      rw [hx] at h
      cases v with
      | bool t =>
        cases t with
        | true =>
          obtain ⟨g1, g2, g3⟩ := stCode_ok hcall a rd c E N H ex E' N' H' hI hE h
          exact ⟨g1, g2, fun env hd => awp_cond (t := true) (opdT_dom hd hx) (g3 env hd)⟩
        | false =>
          obtain ⟨g1, g2, g3⟩ := stCode_ok hcall b rd c E N H ex E' N' H' hI hE h
          exact ⟨g1, g2, fun env hd => awp_cond (t := false) (opdT_dom hd hx) (g3 env hd)⟩
      | _ => cases h
  | .block id body => fun rd c E N H ex E' N' H' hI hE h => by
    have ih := stCode_ok hcall body
    have h : (Out.rec (motive := fun _ => Out) .no (fun E N H => .go E N H) (fun E N H => .ret E N H) (fun id' E N H => Bool.rec (motive := fun _ => Out) (.ex id' E N H) (.go E N H) (Nat.beq id' id)) ((stCode P lf n body).un call rd c E N H) : Out).opt = some (ex, E', N', H') := h
    cases hr : (stCode P lf n body).un call rd c E N H with
    | no => rw [hr] at h; cases h
    | go E1 N1 H1 =>
      rw [hr] at h; cases h
      obtain ⟨g1, g2, g3⟩ := ih rd c E N H .normal E' N' H' hI hE (by rw [hr]; rfl)
      refine ⟨g1, g2, fun env hd => awp_block ((g3 env hd).mono fun ex1 env1 N2 σ1 ⟨e1, e2, e3, e4⟩ => ?_)⟩
      subst e1; subst e3
      exact ⟨rfl, e2, rfl, e4⟩
    | ret E1 N1 H1 =>
      rw [hr] at h; cases h
      obtain ⟨g1, g2, g3⟩ := ih rd c E N H .ret E' N' H' hI hE (by rw [hr]; rfl)
      refine ⟨g1, g2, fun env hd => awp_block ((g3 env hd).mono fun ex1 env1 N2 σ1 ⟨e1, e2, e3, e4⟩ => ?_)⟩
      subst e1; subst e3
      exact ⟨rfl, e2, rfl, e4⟩
    | ex id' E1 N1 H1 =>
      rw [hr] at h
      obtain ⟨g1, g2, g3⟩ := ih rd c E N H (.exit id') E1 N1 H1 hI hE (by rw [hr]; rfl)
      have h : (Bool.rec (motive := fun _ => Out) (.ex id' E1 N1 H1) (.go E1 N1 H1) (Nat.beq id' id) : Out).opt = some (ex, E', N', H') := h
      cases hid0 : Nat.beq id' id with
      | true =>
        rw [hid0] at h; cases h
        have hid := Nat.eq_of_beq_eq_true hid0
        refine ⟨g1, g2, fun env hd => awp_block ((g3 env hd).mono fun ex1 env1 N2 σ1 ⟨e1, e2, e3, e4⟩ => ?_)⟩
        subst e1; subst e3; subst hid
        exact inBlock_exit ⟨rfl, e2, rfl, e4⟩
      | false =>
        rw [hid0] at h; cases h
        have hid : id' ≠ id := Nat.ne_of_beq_eq_false hid0
        refine ⟨g1, g2, fun env hd => awp_block ((g3 env hd).mono fun ex1 env1 N2 σ1 ⟨e1, e2, e3, e4⟩ => ?_)⟩
        subst e1; subst e3
        exact inBlock_other hid ⟨rfl, e2, rfl, e4⟩
  | .loop body => fun rd c E N H ex E' N' H' hI hE h => by
    obtain ⟨g1, g2, g3⟩ := loop_ok (stCode_ok hcall body) rd c lf E N H ex E' N' H' hI hE h
    exact ⟨g1, g2, fun env hd => awp_loop (g3 env hd)⟩
  | .rangeFunc f params assign body => fun rd c E N H ex E' N' H' hI hE h => by
    cases rd with
    | true => cases h
    | false => exact rangeF_ok hcall hI hE (outEx_opt h)
theorem runS_ok {call : CallT} (hcall : CallOk P call) : RunOk P (runS P call) := fun rd _ c code E N H ex E' N' H' hI hE h => stCode_ok hcall code rd c E N H ex E' N' H' hI hE h

def tmpsOf : List ResultVar → Option (List Operand)
  | [] => some []
  | .tmp t :: l => (tmpsOf l).map (.tmp t :: ·)
  | .cell _ _ :: _ => none
def rdV : List Operand → Box (Trie Value → (List Value → Option Value) → Option Value)
  | [] => ⟨fun _ K => K []⟩
  | x :: l => ⟨fun E K => Option.rec (motive := fun _ => Option Value) none (fun v => (rdV l).un E fun vs => K (v :: vs)) ((rdB x).un E)⟩
theorem rdV_some {E : Trie Value} {v : Value} : ∀ {l : List Operand} {K : List Value → Option Value}, (rdV l).un E K = some v → ∃ vs, l.mapM (opdT E) = some vs ∧ K vs = some v
  | [], K, h => ⟨[], rfl, h⟩
  | x :: l, K, h => by
    obtain ⟨a, ha, h⟩ := orec_some h
    rw [rdB_eq] at ha
    obtain ⟨vs, h1, h2⟩ := rdV_some (l := l) h
    exact ⟨a :: vs, by simp [List.mapM_cons, ha, h1], h2⟩
theorem tmpsOf_ok {E : Trie Value} {σ : AHeap} : ∀ {rs : List ResultVar} {xs : List Operand} {vs : List Value}, tmpsOf rs = some xs → xs.mapM (opdT E) = some vs → rs.mapM (resT P E σ) = some vs
  | [], xs, vs, h, hv => by simp [tmpsOf] at h; subst h; exact hv
  | .tmp t :: rs, xs, vs, h, hv => by
    simp only [tmpsOf, Option.map_eq_some_iff] at h
    obtain ⟨ys, h1, rfl⟩ := h
    simp only [List.mapM_cons] at hv ⊢
    cases hx : opdT E (.tmp t) with
    | none => simp [hx] at hv
    | some u =>
      cases hl : ys.mapM (opdT E) with
      | none => simp [hx, hl] at hv
      | some us =>
        simp [hx, hl] at hv; subst hv
        have : resT P E σ (.tmp t) = some u := hx
        rw [this, tmpsOf_ok h1 hl]; rfl
  | .cell a t :: rs, xs, vs, h, hv => by cases h
def resS (P : Program) (fn : Func) : Box (Ctx → Trie Value → Nat → HeapT → Option (Value × Nat × HeapT)) := match tmpsOf fn.results.toList with
  | some [x] => ⟨fun _ E N H => Option.rec (motive := fun _ => Option (Value × Nat × HeapT)) none (fun v => some (v, N, H)) ((rdB x).un E)⟩
  | some xs => ⟨fun _ E N H => Option.rec (motive := fun _ => Option (Value × Nat × HeapT)) none (fun v => some (v, N, H)) ((rdV xs).un E fun vs => some (.tuple ⟨vs⟩))⟩
  | none => ⟨fun c E N H => (ressT P fn E (view c H)).bind fun v => if bddB N v then some (v, N, H) else none⟩
theorem resS_ok {fn : Func} {c : Ctx} {E : Trie Value} {N : Nat} {H : HeapT} {v : Value} {N' : Nat} {H' : HeapT} (h : (resS P fn).un c E N H = some (v, N', H')) : ressT P fn E (view c H) = some v ∧ N' = N ∧ H' = H ∧ (EB n E N → Bdd N v) := by
  unfold resS at h
  split at h
  · rename_i x hx
    obtain ⟨u, hu, h⟩ := orec_some h
    cases h
    rw [rdB_eq] at hu
    have := tmpsOf_ok (P := P) (E := E) (σ := view c H) hx (vs := [v]) (by simp [List.mapM_cons, hu])
    exact ⟨by simp only [ressT, this, Option.map_some], rfl, rfl, fun hE => bdd_opdT hE hu⟩
  · rename_i xs hne hx
    obtain ⟨u, hu, h⟩ := orec_some h
    cases h
    obtain ⟨vs, h1, h2⟩ := rdV_some hu
    cases h2
    have := tmpsOf_ok (P := P) (σ := view c H) hx h1
    refine ⟨?_, rfl, rfl, fun hE => .tuple fun i v hv => bdd_opdTs hE h1 v (List.mem_of_getElem? (by simpa using hv))⟩
    simp only [ressT, this, Option.map_some]
    split
    · rename_i w
      exfalso
      cases xs with
      | nil => simp at h1
      | cons x xs =>
        cases xs with
        | nil => exact hne x rfl
        | cons y ys =>
          simp only [List.mapM_cons] at h1
          cases e1 : opdT E x <;> simp [e1] at h1
          cases e2 : opdT E y <;> simp [e2] at h1
          cases e3 : ys.mapM (opdT E) <;> simp [e3] at h1
    · rfl
  · simp only [Option.bind_eq_some_iff] at h
    obtain ⟨u, hu, h⟩ := h
    split at h
    · rename_i hb
      cases h
      exact ⟨hu, rfl, rfl, fun _ => bddB_sound hb⟩
    · cases h
def ofArgsF (l : List Value) : Nat → Trie Value → Trie Value := List.rec (motive := fun _ => Nat → Trie Value → Trie Value) (fun _ E => E) (fun v _ ih k E => ih (Nat.succ k) ((pth k).set E (some v))) l
theorem ofArgsF_eq : ∀ (l : List Value) (k : Nat) (E : Trie Value), ofArgsF l k E = ofArgs k l E
  | [], _, _ => rfl
  | v :: l, k, E => ofArgsF_eq l (k + 1) _
def stFn (P : Program) (f : FuncId) : Box (CallT → Ctx → List Value → Nat → HeapT → Option (Value × Nat × HeapT)) := match P.funcs[f]? with
  | some fn => match fn.body with
    | some code => ⟨fun call c args N H => Bool.rec (motive := fun _ => Option (Value × Nat × HeapT)) none (Out.rec (motive := fun _ => Option (Value × Nat × HeapT)) none (fun E N H => (resS P fn).un c E N H) (fun E N H => (resS P fn).un c E N H) (fun _ _ _ _ => none) ((stCode P LF fn.ntmps code).un call false c (ofArgsF args 0 .leaf) N H)) (Nat.ble args.length fn.ntmps)⟩
    | none => ⟨fun _ _ _ _ _ => none⟩
  | none => ⟨fun _ _ _ _ _ => none⟩
theorem stFn_ok {call : CallT} (hcall : CallOk P call) {c : Ctx} {f : FuncId} {args : List Value} {N : Nat} {H : HeapT} {v : Value} {N' : Nat} {H' : HeapT} (hI : Inv c N H) (ha : ∀ x ∈ args, Bdd N x) (h : (stFn P f).un call c args N H = some (v, N', H')) :
    AOk P f args N (view c H) (fun v1 N1 σ1 => v1 = v ∧ N1 = N' ∧ (view c H').le σ1) ∧ Good c N H N' H' ∧ Bdd N' v := by
  unfold stFn at h
  split at h
  · rename_i fn hf
    split at h
    · rename_i code hb
      obtain ⟨hl0, h⟩ := brec_some h
      have hl : args.length ≤ fn.ntmps := Nat.le_of_ble_eq_true hl0
      rw [ofArgsF_eq] at h
      have hE : EB fn.ntmps (ofArgs 0 args .leaf) N := by
        intro t u ht
        rcases ofArgs_get args 0 _ t u ht with ⟨_, h2⟩ | ⟨_, h2⟩
        · rw [Nat.sub_zero] at h2
          have := (List.getElem?_eq_some_iff.1 h2).1
          exact ⟨by omega, ha u (List.mem_of_getElem? h2)⟩
        · rw [Trie.leaf_get] at h2; cases h2
      have hdom : Dom (initEnv 0 args) (ofArgs 0 args .leaf) := by
        intro t u ht
        rcases ofArgs_get args 0 _ t u ht with ⟨h1, h2⟩ | ⟨_, h2⟩
        · exact initEnv_of args 0 t u h1 h2
        · rw [Trie.leaf_get] at h2; cases h2
      have fin : ∀ ex E1 N1 H1, (ex = .normal ∨ ex = .ret) → ((stCode P LF fn.ntmps code).un call false c (ofArgs 0 args .leaf) N H).opt = some (ex, E1, N1, H1) → (resS P fn).un c E1 N1 H1 = some (v, N', H') →
          AOk P f args N (view c H) (fun v1 N1 σ1 => v1 = v ∧ N1 = N' ∧ (view c H').le σ1) ∧ Good c N H N' H' ∧ Bdd N' v := by
        intro ex E1 N1 H1 hex hrun hres
        obtain ⟨g1, g2, g3⟩ := stCode_ok hcall code false c _ N H ex E1 N1 H1 hI hE hrun
        obtain ⟨h2, rfl, rfl, h3⟩ := resS_ok (n := fn.ntmps) hres
        refine ⟨aok_body hf hb rfl hl ((g3 _ hdom).mono fun ex1 env1 N2 σ1 ⟨e1, e2, e3, e4⟩ => ?_), g1, h3 g2⟩
        subst e1; subst e3
        have : resA P fn env1 σ1 = some v := ressT_sound h2 e2 e4
        rcases hex with rfl | rfl
        · exact ⟨v, this, rfl, rfl, e4⟩
        · exact ⟨v, this, rfl, rfl, e4⟩
      cases hr : (stCode P LF fn.ntmps code).un call false c (ofArgs 0 args .leaf) N H with
      | no => rw [hr] at h; cases h
      | go E1 N1 H1 => rw [hr] at h; exact fin .normal E1 N1 H1 (.inl rfl) (by rw [hr]; rfl) h
      | ret E1 N1 H1 => rw [hr] at h; exact fin .ret E1 N1 H1 (.inr rfl) (by rw [hr]; rfl) h
      | ex id E1 N1 H1 => rw [hr] at h; cases h
    · cases h
  · cases h
def callS (P : Program) (M : Memo) (k : Nat) : CallT :=
  Nat.rec (motive := fun _ => CallT) (fun _ _ _ _ _ => none) (fun _ call c fn args N H =>
    Fn.rec (motive := fun _ => Option (Value × Nat × HeapT)) (fun f => Option.rec (motive := fun _ => Option (Value × Nat × HeapT)) ((stFn P f).un call c args N H) (fun v => some (v, N, H)) (lookM M f args)) (fun _ => none) (fun _ _ => none) (fun _ _ _ _ => none) (fun i => evRound (runS P call) c i args N H) fn) k
theorem callS_ok {M : Memo} (hM : MemoOk P M) : ∀ k, CallOk P (callS P M k)
  | 0 => fun c fn args N H v N' H' _ _ h => by cases h
  | k + 1 => fun c fn args N H v N' H' hI ha h => by
    have ih := callS_ok hM k
    cases fn with
    | func f =>
      have h : Option.rec (motive := fun _ => Option (Value × Nat × HeapT)) ((stFn P f).un (callS P M k) c args N H) (fun v => some (v, N, H)) (lookM M f args) = some (v, N', H') := h
      cases hm : lookM M f args with
      | none => rw [hm] at h; exact stFn_ok ih hI ha h
      | some v0 =>
        rw [hm] at h; cases h
        obtain ⟨g1, g2⟩ := lookM_sound hM hm
        refine ⟨?_, .same hI, .of_flat g2⟩
        have := g1 N (view c H)
        unfold Gives at this
        exact this.mono fun v1 N1 σ1 ⟨e1, e2, e3⟩ => ⟨e1, e2, by rw [e3]; exact AHeap.le_refl _⟩
    | yield i => exact evRound_ok (runS_ok ih) hI ha h
    | _ => cases h
def runF (P : Program) (M : Memo) (k : Nat) (f : FuncId) (args : List Value) : Option Value := Option.rec (motive := fun _ => Option Value) none (fun q => some q.1) (callS P M k ctx0 (.func f) args 0 .leaf)
theorem gives_runF {M : Memo} (hM : MemoOk P M) (k : Nat) {f : FuncId} {args : List Value} {v : Value} (h : runF P M k f args = some v) (ha : args.all flat = true) (hv : flat v = true) (N : Nat) (σ : AHeap) : Gives P f args N σ v := by
  obtain ⟨⟨v1, N1, H1⟩, h1, h2⟩ := orec_some h
  cases h2
  have hI : Inv ctx0 0 (.leaf : HeapT) := ⟨(fun j hj => by cases hj), (fun j hj => by cases hj), (fun j b hb => by rw [Trie.leaf_get] at hb; cases hb)⟩
  obtain ⟨h3, _, _⟩ := callS_ok hM k ctx0 (.func f) args 0 .leaf v1 N1 H1 hI (fun x hx => .of_flat (List.all_eq_true.1 ha x hx)) h1
  exact gives_alone h3 ha hv N σ
end
end Go.Abs

