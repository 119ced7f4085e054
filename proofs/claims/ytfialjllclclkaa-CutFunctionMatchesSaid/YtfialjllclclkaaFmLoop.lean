/- Shaken texts of the layer and of the walks. -/
import Derived.Test.YtfialjllclclkaaFmOwn
namespace Go.Abs
section
variable {r : Bool} {P : Program} {n : Nat} {env : Env} {N : Nat} {σ : AHeap} {ι : Ren}

def putParams : List Tmp → List Value → Env → Env
  | p :: ps, v :: vs, e => putParams ps vs ((p, v) :: e)
  | _, _, e => e
theorem params_rel {ds : List Deferred} : ∀ (ps : List Tmp) (vs us : List Value) (e : Env) (tmps : Array Value), (∀ p ∈ ps, p < n) → VRels ι vs us → EnvRel ι n ds e { tmps := tmps, defers := ds } →
    EnvRel ι n ds (putParams ps vs e) { tmps := (ps.zip us).foldl (fun t x => t.setIfInBounds x.1 x.2) tmps, defers := ds }
  | [], _, _, e, tmps, _, _, h => h
  | p :: ps, vs, us, e, tmps, hp, hv, h => by
    cases vs with
    | nil => cases hv.of_nil; simpa [putParams] using h
    | cons v vs =>
      obtain ⟨u, us', rfl, h1, h2⟩ := hv.uncons
      simp only [putParams, List.zip_cons_cons, List.foldl_cons]
      exact params_rel ps vs us' _ _ (fun q hq => hp q (by simp [hq])) h2 (h.put (dst := some p) (fun d hd => by cases hd; exact hp p (by simp)) h1)

def RoundQ (i : Nat) (info : LInfo) (K : Value → Nat → AHeap → Prop) : Exit → Env → Nat → AHeap → Prop
  | .normal, _, N, σ => K (.bool true) N (σ.set i ⟨[], true, .loop info .ready⟩)
  | .ret, _, N, σ => K (.bool false) N (σ.set i ⟨[], true, .loop info (.left none)⟩)
  | .exit id, _, N, σ => K (.bool false) N (σ.set i ⟨[], true, .loop info (.left (some id))⟩)
  | _, _, _, _ => False

theorem AHeap.del_le (σ : AHeap) (i : Nat) : (σ.del i).le σ := fun j b h => by
  unfold AHeap.del at h
  split at h
  · cases h
  · exact h
theorem rel_record {ι2 : Ren} {N2 : Nat} {σ2 : AHeap} {w w3 : World} {i : Nat} {b0 : Blk} (hi : σ i = some b0) (ho : b0.own = true) {L : Loc} (hL : ι i = some L)
    (t : Tr ι N σ w ι2 N2 σ2 w3) (r2 : Rel ι2 N2 σ2 w3) (hno : ¬ Own ι2 σ2 L.blk) {q q' : Loop} (h3 : w3.heap[L.blk]? = some (.loop q)) {info : LInfo} {s : LSt} (hq : RecRel ι2 info s q') :
    Rel ι2 N2 (σ2.set i ⟨[], true, .loop info s⟩) (w3.putObj L.blk (.loop q')) ∧ Tr ι N σ w ι2 N2 (σ2.set i ⟨[], true, .loop info s⟩) (w3.putObj L.blk (.loop q')) := by
  have hlt3 : L.blk < w3.heap.size := (Array.getElem?_eq_some_iff.1 h3).1
  have hne : ∀ j b L', σ2 j = some b → ι2 j = some L' → L'.blk ≠ L.blk := fun j b L' hj hL' e => by
    obtain ⟨L2, g1, g2⟩ := r2.blk j b hj
    rw [hL'] at g1; cases g1
    cases hz : b.esz with
    | n k =>
      obtain ⟨_, c, e', fz, g3, _⟩ := g2.rowOf hz
      rw [e, h3] at g3; cases g3
    | loop i' s' =>
      obtain ⟨⟨_, g3⟩, _⟩ := g2.loopOf hz
      exact hno ⟨j, b, L', hj, g3, hL', e⟩
    | map es =>
      obtain ⟨⟨_, g3⟩, _⟩ := g2.mapOf hz
      exact hno ⟨j, b, L', hj, g3, hL', e⟩
  have hown : Own ι σ L.blk := ⟨i, b0, L, hi, ho, hL, rfl⟩
  refine ⟨r2.update (Ext.refl _) r2.dom i ⟨[], true, .loop info s⟩ L (t.ext _ _ hL) ⟨⟨rfl, rfl⟩, q', World.putObj_heap_same hlt3, hq⟩ (fun j b' hj => ?_) (fun j b' L' hji hj hL' => ?_),
    ⟨t.ext, t.old, t.le, t.os, t.tape, t.output, by rw [World.putObj_size]; exact t.size, fun β hb hnb => ?_, fun β hβ => ?_⟩⟩
  · unfold AHeap.set at hj
    by_cases e : j = i
    · rw [if_pos e] at hj; cases hj; exact .inl ⟨e, rfl⟩
    · rw [if_neg e] at hj; exact .inr ⟨e, hj⟩
  · unfold AHeap.set at hj
    rw [if_neg hji] at hj
    have := hne j b' L' hj hL'
    exact ⟨World.putObj_heap_other this, this⟩
  · rw [World.putObj_heap_other (fun e => hnb (by rw [e]; exact hown))]
    exact t.frame β hb hnb
  · obtain ⟨j, b, L', g1, g2, g3, g4⟩ := hβ
    unfold AHeap.set at g1
    by_cases e : j = i
    · subst e
      have := t.ext _ _ hL
      rw [g3] at this; cases this
      exact .inl (g4 ▸ hown)
    · rw [if_neg e] at g1
      exact t.own β ⟨j, b, L', g1, g2, g3, g4⟩
theorem own_del {i : Nat} {β : Nat} (h : Own ι (σ.del i) β) : Own ι σ β := h.le (AHeap.del_le σ i)
theorem Tr.of_del {ι' : Ren} {N' : Nat} {σ' : AHeap} {w w' : World} {i : Nat} (h : Tr ι N (σ.del i) w ι' N' σ' w') : Tr ι N σ w ι' N' σ' w' :=
  ⟨h.ext, h.old, h.le, h.os, h.tape, h.output, h.size, fun β hb ho => h.frame β hb fun h => ho (own_del h), fun β hβ => (h.own β hβ).imp own_del id⟩
theorem Rel.putLoop {w : World} (h : Rel ι N σ w) {l : Nat} {q : Loop} (hl : w.heap[l]? = some (.loop q)) (hno : ¬ Own ι σ l) (q' : Loop) : Rel ι N σ (w.putObj l (.loop q')) := by
  refine ⟨h.dom, fun i b hb => ?_, h.inj⟩
  obtain ⟨L, h1, h2⟩ := h.blk i b hb
  refine ⟨L, h1, h2.same (Ext.refl _) (World.putObj_heap_other ?_)⟩
  intro e
  cases hz : b.esz with
  | n k =>
    obtain ⟨_, c, e', fz, g3, _⟩ := h2.rowOf hz
    rw [e, hl] at g3; cases g3
  | loop i' s' =>
    obtain ⟨⟨_, g3⟩, _⟩ := h2.loopOf hz
    exact hno ⟨i, b, L, hb, g3, h1, e⟩
  | map es =>
    obtain ⟨⟨_, g3⟩, _⟩ := h2.mapOf hz
    exact hno ⟨i, b, L, hb, g3, h1, e⟩
theorem Tr.putLoop {ι' : Ren} {N' : Nat} {σ' : AHeap} {w w' : World} (h : Tr ι N σ w ι' N' σ' w') {l : Nat} (hl : Own ι σ l ∨ w.heap.size ≤ l) (o : Obj) : Tr ι N σ w ι' N' σ' (w'.putObj l o) :=
  ⟨h.ext, h.old, h.le, h.os, h.tape, h.output, by rw [World.putObj_size]; exact h.size, fun β hb hnb => by
    rw [World.putObj_heap_other ?_]
    · exact h.frame β hb hnb
    · rintro rfl
      rcases hl with hl | hl
      · exact hnb hl
      · omega, h.own⟩
theorem OkF.inRound {F : Fence} (h : OkF r F) (l : Nat) : OkF Bool.true (F.inRound l) := by
  rcases h with rfl | ⟨_, l', rfl⟩
  · exact .inr ⟨rfl, l, rfl⟩
  · exact .inr ⟨rfl, l, rfl⟩

theorem step_yield {o : Oper} {f : Operand} {args : Array Operand} {argTypes : Array TypeId} {i : Nat} {info : LInfo} {vs : List Value} {K : Value → Nat → AHeap → Prop}
    (ho : o.op = .call { callee := .value f, args, argTypes }) (hf : env.eval f = some (.func (.yield i) #[] #[])) (ha : args.toList.mapM env.eval = some vs)
    (hb : σ i = some ⟨[], true, .loop info .ready⟩) (hlen : vs.length = info.params.size) (hpar : ∀ p ∈ info.params.toList, p < info.n)
    (h : AWp true P info.n info.assign (putParams info.params.toList vs info.env) N (σ.del i) (fun ex env1 N1 σ1 => ex = .normal ∧ AWp true P info.n info.body env1 N1 σ1 (RoundQ i info K))) : StepQ P n o env N σ K := by
  intro F hF ds ι w a next Q he hr hq
  obtain ⟨L, h1, h2⟩ := hr.blk i _ hb
  obtain ⟨_, r0, g1, g2⟩ := h2.loopOf rfl
  have hblt := h2.lt
  have hno0 : ¬ Own ι (σ.del i) L.blk := by
    rintro ⟨j, b, L', q1, q2, q3, q4⟩
    unfold AHeap.del at q1
    split at q1
    · cases q1
    · rename_i hji
      exact hr.inj j i b _ L' L hji q1 hb q3 h1 (.inl q2) q4
  generalize hp : a.eval f = p
  have hf' := hp ▸ he.eval hf
  have hvs := evals he _ _ ha
  cases hf' with
  | func hy => exact absurd rfl (hy _)
  | yield g =>
    rename_i L'
    rw [h1] at g; cases g
    have hsz : (args.map a.eval).size = r0.params.size := by
      rw [g2.params, ← hlen, hvs.1]; simp
    have hrun : (execOp a.eval o).run P w = .ok (.round L.blk r0.fn ((r0.params.zip (args.map a.eval)).foldl (fun tmps (t, a) => tmps.setIfInBounds t a) r0.tmps) r0.assign r0.body) w := by
      obtain ⟨dst, op, type, pos, after, guard⟩ := o
      simp only at ho; subst ho
      simp [execOp, resolve, Deferred.ofValue, hp, invoke, run_yield g1 hsz]
    refine wpIn_of_run hF (by rw [ho]; simp) hrun ⟨fun hd => absurd hd hF.depth, ?_⟩
    refine roundIn_of_wpIn (hF.fn _) ?_
    rw [g2.assign, g2.body, g2.params]
    have henv : EnvRel ι info.n [] (putParams info.params.toList vs info.env) { tmps := (info.params.zip (args.map a.eval)).foldl (fun tmps (t, a) => tmps.setIfInBounds t a) r0.tmps, defers := [] } := by
      have := params_rel (ι := ι) (ds := []) info.params.toList vs (args.toList.map a.eval) info.env r0.tmps hpar hvs ⟨g2.size, rfl, g2.get⟩
      rw [← Array.foldl_toList, Array.toList_zip, Array.toList_map]
      exact this
    refine h (F.inRound L.blk) (hF.inRound _) [] ι w _ _ henv (hr.forget (AHeap.del_le σ i)) ?_
    intro ms ex ι1 w1 a1 env1 N1 σ1 m ⟨hex, hbody⟩ e1 r1 t1
    subst hex
    have hms : ms = [] := m.1 rfl
    subst hms
    have hno1 : ¬ Own ι1 σ1 L.blk := fun ho => by
      rcases t1.own _ ho with h | h
      · exact hno0 h
      · omega
    have hw1 : w1.heap[L.blk]? = some (.loop r0) := (t1.frame _ hblt hno0).trans g1
    have hlt1 : L.blk < w1.heap.size := (Array.getElem?_eq_some_iff.1 hw1).1
    refine ⟨_, run_beginRound hw1 g2.state, ?_⟩
    refine hbody (F.inRound L.blk) (hF.inRound _) _ ι1 _ a1 _ e1 (r1.putLoop hw1 hno1 _) ?_
    intro ms2 ex2 ι2 w3 a2 env2 N2 σ2 m2 hK e2 r2 t2
    have hms2 : ms2 = [] := m2.1 rfl
    subst hms2
    have hno2 : ¬ Own ι2 σ2 L.blk := fun ho => by
      rcases t2.own _ ho with h | h
      · exact hno1 h
      · rw [World.putObj_size] at h; omega
    have hw3 : w3.heap[L.blk]? = some (.loop { r0 with state := .busy }) := (t2.frame _ (by rw [World.putObj_size]; exact hlt1) hno1).trans (World.putObj_heap_same hlt1)
    have hown : Own ι σ L.blk := ⟨i, _, L, hb, rfl, h1, rfl⟩
    have T : Tr ι N σ w ι2 N2 σ2 w3 := ((Tr.of_del t1).putLoop (.inl hown) _).trans t2
    have recQ : ∀ (s : LSt) (q' : Loop), q' = { r0 with state := (match s with | .ready => .ready | .left _ => .done), pending := s.pending } → RecRel ι2 info s q' := fun s q' hq' => by
      subst hq'
      exact ⟨rfl, rfl, g2.params, g2.assign, g2.body, g2.size, fun t v hv => let ⟨v', f1, f2⟩ := g2.get t v hv; ⟨v', f1, f2.mono T.ext⟩⟩
    cases ex2 with
    | normal =>
      obtain ⟨R, T'⟩ := rel_record hb rfl h1 T r2 hno2 hw3 (recQ .ready _ rfl)
      exact ⟨_, _, run_endRound none hw3, hq ι2 _ (.bool true) (.bool true) N2 _ hK (.bool true) R T'⟩
    | ret =>
      obtain ⟨R, T'⟩ := rel_record hb rfl h1 T r2 hno2 hw3 (recQ (.left none) _ rfl)
      exact ⟨_, _, run_endRound (some .ret) hw3, hq ι2 _ (.bool false) (.bool false) N2 _ hK (.bool false) R T'⟩
    | exit id =>
      obtain ⟨R, T'⟩ := rel_record hb rfl h1 T r2 hno2 hw3 (recQ (.left (some id)) _ rfl)
      exact ⟨_, _, run_endRound (some (.exit id)) hw3, hq ι2 _ (.bool false) (.bool false) N2 _ hK (.bool false) R T'⟩
    | goto l => exact hK.elim
    | panic c => exact hK.elim
    | outgrown => exact hK.elim

def LSt.exit : LSt → Exit
  | .ready => .normal
  | .left none => .ret
  | .left (some id) => .exit id

theorem awp_rangeFunc {f : Operand} {params : Array Tmp} {assign body : Code} {g : FuncId} {xs cs : Array Value} {K : Exit → Env → Nat → AHeap → Prop}
    (hf : env.eval f = some (.func (.func g) xs cs)) (hc : callableB P g = true)
    (h : AOk P g (xs.toList ++ [.func (.yield N) #[] #[]] ++ cs.toList) (N + 1) (σ.set N ⟨[], true, .loop ⟨n, params, assign, body, env⟩ .ready⟩) (fun _ N' σ' => ∃ i' st, σ' N = some ⟨[], true, .loop i' st⟩ ∧ K st.exit env N' (σ'.del N))) :
    AWp false P n (.rangeFunc f params assign body) env N σ K := by
  intro F hF ds ι w a Q he hr hq
  have hF' : F = Fence.wide := hF.resolve_right fun h => by cases h.1
  subst hF'
  generalize hp : a.eval f = p
  have hf' := hp ▸ he.eval hf
  cases hf' with
  | func g0 g1 g2 g3 g4 =>
    rename_i ys dsv
    refine wpIn_rangeFunc fun fn _ => ?_
    let rec0 : Loop := { state := .ready, pending := none, fn := fn, tmps := a.tmps, params := params, assign := assign, body := body, defers := w.heap.size }
    let w1 : World := (w.alloc (.deferred (some []))).alloc (.loop rec0)
    have hsz1 : w1.heap.size = w.heap.size + 2 := by simp [w1]
    have hl1 : w1.heap[w.heap.size + 1]? = some (.loop rec0) := by
      have := World.alloc_heap_new (w.alloc (.deferred (some []))) (.loop rec0)
      rw [World.size_alloc] at this
      exact this
    have hd1 : w1.heap[w.heap.size]? = some (.deferred (some [])) := (Go.RowKit.Below.heap_alloc _ _ _ (by simp)).trans (World.alloc_heap_new w _)
    have hold : ∀ k, k < w.heap.size → w1.heap[k]? = w.heap[k]? := fun k hk => (Go.RowKit.Below.heap_alloc _ _ _ (by simp; omega)).trans (Go.RowKit.Below.heap_alloc _ _ _ hk)
    let L : Loc := ⟨w.heap.size + 1, 0, 0, 0⟩
    let ι1 : Ren := ι.put N L
    have hx : Ext ι ι1 := Ren.ext_put hr.dom _
    have hk : ι1 N = some L := by simp [ι1, Ren.put]
    let B : Blk := ⟨[], true, .loop ⟨n, params, assign, body, env⟩ .ready⟩
    have R1 : Rel ι1 (N + 1) (σ.set N B) w1 := by
      refine hr.update hx (Ren.dom_put hr.dom _) N B L hk ⟨⟨rfl, rfl⟩, rec0, hl1, rfl, rfl, rfl, rfl, rfl, he.size, fun t v hv => ?_⟩ (fun j b' hj => ?_) (fun j b' L' hji hj hL' => ?_)
      · obtain ⟨v', q1, q2⟩ := he.get t v hv; exact ⟨v', q1, q2.mono hx⟩
      · unfold AHeap.set at hj
        by_cases e : j = N
        · rw [if_pos e] at hj; cases hj; exact .inl ⟨e, rfl⟩
        · rw [if_neg e] at hj; exact .inr ⟨e, hj⟩
      · unfold AHeap.set at hj
        rw [if_neg hji] at hj
        obtain ⟨L2, q1, q2⟩ := hr.blk j b' hj
        rw [hL'] at q1; cases q1
        have := q2.lt
        exact ⟨hold _ this, by simp only [L]; omega⟩
    have T1 : Tr ι N σ w ι1 (N + 1) (σ.set N B) w1 := by
      refine ⟨hx, fun i hi => by simp only [ι1, Ren.put]; rw [if_neg (by omega)], Nat.le_succ _, rfl, rfl, rfl, by omega, fun β hb _ => hold β hb, ?_⟩
      rintro β ⟨i, b', L', q1, q2, q3, q4⟩
      unfold AHeap.set at q1
      by_cases e : i = N
      · subst e; rw [hk] at q3; cases q3; exact .inr (by subst q4; simp only [L]; omega)
      · rw [if_neg e] at q1
        obtain ⟨L2, f1, f2⟩ := hr.blk i b' q1
        have := hx _ _ f1
        rw [q3] at this; cases this
        exact .inl ⟨i, b', L', q1, q2, f1, q4⟩
    have hnoD : ¬ Own ι1 (σ.set N B) w.heap.size := by
      rintro ⟨i, b', L', q1, q2, q3, q4⟩
      unfold AHeap.set at q1
      by_cases e : i = N
      · subst e; rw [hk] at q3; cases q3; simp only [L] at q4; omega
      · rw [if_neg e] at q1
        obtain ⟨L2, f1, f2⟩ := hr.blk i b' q1
        have := hx _ _ f1
        rw [q3] at this; cases this
        have := f2.lt
        omega
    refine ⟨w.heap.size + 1, [{ target := .collected w.heap.size, args := #[] }], w1, { target := .fn (.func g) dsv, args := ys ++ #[.func (.yield (w.heap.size + 1)) #[] #[]] }, w1, g,
      ys ++ #[.func (.yield (w.heap.size + 1)) #[] #[]] ++ dsv, w1, run_enterLoop_outer _ _ _ _ _, ?_, fun _ _ => trivial, ?_, fun hd => absurd hd (by simp [Fence.wide]), ?_⟩
    · simp only [resolve, hp]
      simp [Act.eval, go_sem]
    · simp [invoke, run_callFunc hc]
    · refine callsIn_wide.2 (h ι1 w1 _ _ R1 ?_ ?_)
      · have hxs : VRels ι1 xs.toList ys.toList := ⟨by simpa using g1, fun i v v' a b => (g3 i v v' (by simpa using a) (by simpa using b)).mono hx⟩
        have hcs : VRels ι1 cs.toList dsv.toList := ⟨by simpa using g2, fun i v v' a b => (g4 i v v' (by simpa using a) (by simpa using b)).mono hx⟩
        have app : ∀ {a b c d : List Value}, VRels ι1 a c → VRels ι1 b d → VRels ι1 (a ++ b) (c ++ d) := by
          intro a b c d h1 h2
          refine ⟨by simp [h1.1, h2.1], fun j v v' p q => ?_⟩
          by_cases h : j < a.length
          · rw [List.getElem?_append_left h] at p; rw [List.getElem?_append_left (h1.1 ▸ h)] at q
            exact h1.2 j v v' p q
          · rw [List.getElem?_append_right (by omega)] at p; rw [List.getElem?_append_right (by rw [← h1.1]; omega)] at q
            rw [h1.1] at p
            exact h2.2 _ v v' p q
        have := app (app hxs (.cons (.yield hk) .nil)) hcs
        simpa [L] using this
      · intro ι' w' v v' N' σ' ⟨i', st, hst, hK⟩ _ r' t'
        obtain ⟨L2, q1, q2⟩ := r'.blk N _ hst
        have := t'.ext _ _ hk
        rw [q1] at this; cases this
        obtain ⟨_, q, q3, q4⟩ := q2.loopOf rfl
        have hlt' : w.heap.size + 1 < w'.heap.size := (Array.getElem?_eq_some_iff.1 q3).1
        have hns : q.state ≠ .busy := by rw [q4.state]; cases st <;> simp
        have hno : ¬ Own ι' (σ'.del N) (w.heap.size + 1) := by
          rintro ⟨j, b, L', p1, p2, p3, p4⟩
          unfold AHeap.del at p1
          split at p1
          · cases p1
          · rename_i hji
            exact r'.inj j N b _ L' L hji p1 hst p3 q1 (.inl p2) p4
        have R2 : Rel ι' N' (σ'.del N) (w'.putObj (w.heap.size + 1) (.loop { q with state := .exhausted })) := (r'.forget (AHeap.del_le σ' N)).putLoop q3 hno _
        have T2 : Tr ι N σ w ι' N' (σ'.del N) (w'.putObj (w.heap.size + 1) (.loop { q with state := .exhausted })) := ((T1.trans t').forget (AHeap.del_le σ' N)).putLoop (.inr (by omega)) _
        have hD : (w'.putObj (w.heap.size + 1) (.loop { q with state := .exhausted })).heap[w.heap.size]? = some (.deferred (some [])) := by
          rw [World.putObj_heap_other (by omega), t'.frame _ (by omega) hnoD]
          exact hd1
        have M : MarksOk false w.heap.size (w'.putObj (w.heap.size + 1) (.loop { q with state := .exhausted })) [{ target := .collected w.heap.size, args := #[] }] :=
          ⟨(fun h => by cases h), .cons (Nat.le_refl _) hD (fun d hd => by cases hd) .nil⟩
        have E : EnvRel ι' n ([{ target := .collected w.heap.size, args := #[] }] ++ ds) env { a with defers := [{ target := .collected w.heap.size, args := #[] }] ++ a.defers } := by
          refine ⟨he.size, by rw [he.defers], fun t v hv => ?_⟩
          obtain ⟨v', f1, f2⟩ := he.get t v hv
          exact ⟨v', f1, f2.mono T2.ext⟩
        refine ⟨_, _, run_endLoop q3 hns, ?_⟩
        have fin := hq _ st.exit ι' _ _ env N' _ M hK E R2 T2
        rw [q4.pending] at fin ⊢
        cases st with
        | ready => exact fin
        | left j =>
          cases j with
          | none => exact wpIn_ret fin
          | some id => exact wpIn_exit fin
end
end Go.Abs

