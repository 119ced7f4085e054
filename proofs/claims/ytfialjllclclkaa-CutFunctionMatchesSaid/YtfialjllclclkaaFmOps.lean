/- Shaken texts of the layer and of the walks. -/
import Derived.Test.YtfialjllclclkaaFmCore
import Derived.Tactics
import Derived.Laws.CopyRow
import Derived.Laws.AppendOwn
namespace Go.Abs

theorem Addr.add_plain (b o i : Nat) : (⟨b, o, none⟩ : Addr).add i = ⟨b, o + i, none⟩ := by unfold Addr.add; split <;> simp_all

theorem Rel.none_of_le {ι : Ren} {N : Nat} {σ : AHeap} {w : World} (h : Rel ι N σ w) {i : Nat} (hi : N ≤ i) : σ i = none := by
  cases e : σ i with
  | none => rfl
  | some b => obtain ⟨L, h1, _⟩ := h.blk i b e; rw [h.dom i hi] at h1; cases h1
theorem Rel.lt {ι : Ren} {N : Nat} {σ : AHeap} {w : World} (h : Rel ι N σ w) {i : Nat} {b : Blk} (hi : σ i = some b) : i < N := by
  rcases Nat.lt_or_ge i N with h1 | h1
  · exact h1
  · rw [h.none_of_le h1] at hi; cases hi
theorem BlkRel.lt {ι : Ren} {b : Blk} {L : Loc} {w : World} (h : BlkRel ι b L w) : L.blk < w.heap.size := by
  obtain ⟨o, h1, _⟩ := h.obj
  exact (Array.getElem?_eq_some_iff.1 h1).1
theorem BlkRel.same {ι ι' : Ren} {b : Blk} {L : Loc} {w w' : World} (h : BlkRel ι b L w) (hx : Ext ι ι') (hw : w'.heap[L.blk]? = w.heap[L.blk]?) : BlkRel ι' b L w' := by
  unfold BlkRel at h ⊢
  split at h
  · obtain ⟨h0, c, e, fz, h1, h2, h3, h4, h5⟩ := h
    exact ⟨h0, c, e, fz, hw.trans h1, h2, h3, h4, fun j v hv => let ⟨v', g1, g2⟩ := h5 j v hv; ⟨v', g1, g2.mono hx⟩⟩
  · obtain ⟨h0, q, h1, h2⟩ := h
    exact ⟨h0, q, hw.trans h1, h2.state, h2.pending, h2.params, h2.assign, h2.body, h2.size, fun t v hv => let ⟨v', g1, g2⟩ := h2.get t v hv; ⟨v', g1, g2.mono hx⟩⟩
  · obtain ⟨h0, ms, t, h1, h2, h3, h4⟩ := h
    exact ⟨h0, ms, t, hw.trans h1, h2, fun j k v hj => let ⟨e, g1, g2, g3⟩ := h3 j k v hj; ⟨e, g1, g2.mono hx, g3.mono hx⟩, h4⟩

theorem Rel.update {ι ι' : Ren} {N N' : Nat} {σ σ' : AHeap} {w w' : World} (h : Rel ι N σ w) (hx : Ext ι ι') (hdom : ∀ i, N' ≤ i → ι' i = none)
    (k : Nat) (b : Blk) (L : Loc) (hk : ι' k = some L) (hb : BlkRel ι' b L w')
    (hσ : ∀ i b', σ' i = some b' → (i = k ∧ b' = b) ∨ (i ≠ k ∧ σ i = some b'))
    (hsame : ∀ i b' L', i ≠ k → σ' i = some b' → ι i = some L' → w'.heap[L'.blk]? = w.heap[L'.blk]? ∧ L'.blk ≠ L.blk) : Rel ι' N' σ' w' := by
  refine ⟨hdom, fun i b' hi => ?_, fun i j bi bj Li Lj hne hi hj hLi hLj ho => ?_⟩
  · rcases hσ i b' hi with ⟨rfl, rfl⟩ | ⟨hne, ho⟩
    · exact ⟨L, hk, hb⟩
    · obtain ⟨L', h1, h2⟩ := h.blk i b' ho
      exact ⟨L', hx _ _ h1, h2.same hx (hsame i b' L' hne hi h1).1⟩
  · rcases hσ i bi hi with ⟨rfl, rfl⟩ | ⟨hni, hoi⟩ <;> rcases hσ j bj hj with ⟨rfl, rfl⟩ | ⟨hnj, hoj⟩
    · exact absurd rfl hne
    · obtain ⟨L', h1, _⟩ := h.blk j bj hoj
      have : L' = Lj := Option.some.inj ((hx _ _ h1).symm.trans hLj)
      subst this
      rw [hk] at hLi; cases hLi
      exact (hsame j bj L' hnj hj h1).2.symm
    · obtain ⟨L', h1, _⟩ := h.blk i bi hoi
      have : L' = Li := Option.some.inj ((hx _ _ h1).symm.trans hLi)
      subst this
      rw [hk] at hLj; cases hLj
      exact (hsame i bi L' hni hi h1).2
    · obtain ⟨L1, h1, _⟩ := h.blk i bi hoi
      obtain ⟨L2, h2, _⟩ := h.blk j bj hoj
      have e1 : L1 = Li := Option.some.inj ((hx _ _ h1).symm.trans hLi)
      have e2 : L2 = Lj := Option.some.inj ((hx _ _ h2).symm.trans hLj)
      subst e1; subst e2
      exact h.inj i j bi bj L1 L2 hne hoi hoj h1 h2 ho

def Ren.put (ι : Ren) (k : Nat) (L : Loc) : Ren := fun i => if i = k then some L else ι i
theorem Ren.ext_put {ι : Ren} {N : Nat} (h : ∀ i, N ≤ i → ι i = none) (L : Loc) : Ext ι (ι.put N L) := fun i L' hi => by
  unfold Ren.put
  by_cases e : i = N
  · subst e; rw [h i (Nat.le_refl _)] at hi; cases hi
  · rw [if_neg e]; exact hi
theorem Ren.dom_put {ι : Ren} {N : Nat} (h : ∀ i, N ≤ i → ι i = none) (L : Loc) : ∀ i, N + 1 ≤ i → (ι.put N L) i = none := fun i hi => by
  unfold Ren.put
  rw [if_neg (by omega)]; exact h i (by omega)

theorem rel_alloc {ι : Ren} {N : Nat} {σ : AHeap} {w : World} (h : Rel ι N σ w) (vs : List Value) (esz : Nat) (c : Array Value) (e : TypeId)
    (hc : ∀ (j : Nat) (v : Value), vs[j]? = some v → ∃ v', c[j]? = some v' ∧ VRel ι v v') :
    let ι' := ι.put N ⟨w.heap.size, 0, c.size, esz⟩
    Rel ι' (N + 1) (σ.set N ⟨vs, true, esz⟩) (w.alloc (.cells c e)) ∧ Tr ι N σ w ι' (N + 1) (σ.set N ⟨vs, true, esz⟩) (w.alloc (.cells c e)) := by
  intro ι'
  have hx : Ext ι ι' := Ren.ext_put h.dom _
  have hlen : vs.length ≤ c.size := by
    rcases Nat.lt_or_ge c.size vs.length with h1 | h1
    · obtain ⟨v', h2, _⟩ := hc c.size _ (List.getElem?_eq_getElem h1)
      rw [Array.getElem?_eq_none (Nat.le_refl _)] at h2; cases h2
    · exact h1
  have hk : ι' N = some ⟨w.heap.size, 0, c.size, esz⟩ := by simp [ι', Ren.put]
  refine ⟨h.update hx (Ren.dom_put h.dom _) N ⟨vs, true, esz⟩ ⟨w.heap.size, 0, c.size, esz⟩ hk ?_ ?_ ?_, ⟨hx, fun i hi => by simp only [ι', Ren.put]; rw [if_neg (by omega)], Nat.le_succ _, rfl, rfl, rfl, by simp, fun β hb _ => ?_, ?_⟩⟩
  · refine .mk rfl ⟨c, e, (0, 0), heap_alloc_new w _, rfl, by simpa using hlen, fun _ => rfl, fun j v hv => ?_⟩
    obtain ⟨v', h1, h2⟩ := hc j v hv
    exact ⟨v', by simpa using h1, h2.mono hx⟩
  · intro i b' hi
    unfold AHeap.set at hi
    by_cases e : i = N
    · rw [if_pos e] at hi; cases hi; exact .inl ⟨e, rfl⟩
    · rw [if_neg e] at hi; exact .inr ⟨e, hi⟩
  · intro i b' L' hne hi hL
    unfold AHeap.set at hi
    rw [if_neg hne] at hi
    obtain ⟨L2, h1, h2⟩ := h.blk i b' hi
    rw [hL] at h1; cases h1
    have := h2.lt
    exact ⟨Go.RowKit.Below.heap_alloc _ _ _ this, by simp; omega⟩
  · exact Go.RowKit.Below.heap_alloc _ _ _ hb
  · rintro β ⟨i, b', L', h1, h2, h3, h4⟩
    unfold AHeap.set at h1
    by_cases e : i = N
    · subst e; rw [hk] at h3; cases h3; exact .inr (by subst h4; exact Nat.le_refl _)
    · rw [if_neg e] at h1
      obtain ⟨L2, g1, g2⟩ := h.blk i b' h1
      have := hx _ _ g1
      rw [h3] at this; cases this
      exact .inl ⟨i, b', L', h1, h2, g1, h4⟩

theorem rel_write {ι : Ren} {N : Nat} {σ : AHeap} {w w' : World} (h : Rel ι N σ w) {i : Nat} {b : Blk} {L : Loc} (hi : σ i = some b) (hL : ι i = some L) (ho : b.own = true) (hk : b.esz = .n L.esz)
    (vs : List Value) (c : Array Value) (e : TypeId) (hw : w'.heap[L.blk]? = some (.cells c e (0, 0))) (hsz : c.size = L.n) (hlen : L.base + vs.length ≤ L.n)
    (hc : ∀ (j : Nat) (v : Value), vs[j]? = some v → ∃ v', c[L.base + j]? = some v' ∧ VRel ι v v')
    (hoth : ∀ β, β ≠ L.blk → w'.heap[β]? = w.heap[β]?) (h1 : w'.os = w.os) (h2 : w'.tape = w.tape) (h3 : w'.output = w.output) (h4 : w'.heap.size = w.heap.size) :
    Rel ι N (σ.set i ⟨vs, true, b.esz⟩) w' ∧ Tr ι N σ w ι N (σ.set i ⟨vs, true, b.esz⟩) w' := by
  refine ⟨h.update (Ext.refl _) h.dom i ⟨vs, true, b.esz⟩ L hL (.mk hk ⟨c, e, (0, 0), hw, hsz, hlen, fun _ => rfl, hc⟩) ?_ ?_, ⟨Ext.refl _, fun _ _ => rfl, Nat.le_refl _, h1, h2, h3, Nat.le_of_eq h4.symm, fun β hb hno => hoth β fun e => hno ⟨i, b, L, hi, ho, hL, e.symm⟩, ?_⟩⟩
  · intro j b' hj
    unfold AHeap.set at hj
    by_cases e : j = i
    · rw [if_pos e] at hj; cases hj; exact .inl ⟨e, rfl⟩
    · rw [if_neg e] at hj; exact .inr ⟨e, hj⟩
  · intro j b' L' hne hj hL'
    unfold AHeap.set at hj
    rw [if_neg hne] at hj
    have := h.inj j i b' b L' L hne hj hi hL' hL (.inr ho)
    exact ⟨hoth _ this, this⟩
  · rintro β ⟨j, b', L', g1, g2, g3, g4⟩
    unfold AHeap.set at g1
    by_cases e : j = i
    · subst e; rw [hL] at g3; cases g3; exact .inl ⟨j, b, L, hi, ho, hL, g4⟩
    · rw [if_neg e] at g1; exact .inl ⟨j, b', L', g1, g2, g3, g4⟩

theorem rel_move {ι : Ren} {N : Nat} {σ : AHeap} {w w' : World} (h : Rel ι N σ w) {i : Nat} {b : Blk} {L : Loc} (hi : σ i = some b) (hL : ι i = some L) (ho : b.own = true) (hk : b.esz = .n L.esz)
    (x : Nat) (vs : List Value) (c : Array Value) (e : TypeId) (hw : w'.heap[L.blk]? = some (.cells c e (0, 0))) (hsz : c.size = L.n) (hlen : x + vs.length ≤ L.n)
    (hc : ∀ (j : Nat) (v : Value), vs[j]? = some v → ∃ v', c[x + j]? = some v' ∧ VRel ι v v')
    (hoth : ∀ β, β ≠ L.blk → w'.heap[β]? = w.heap[β]?) (h1 : w'.os = w.os) (h2 : w'.tape = w.tape) (h3 : w'.output = w.output) (h4 : w'.heap.size = w.heap.size) :
    let ι' := ι.put N ⟨L.blk, x, L.n, L.esz⟩
    Rel ι' (N + 1) ((σ.del i).set N ⟨vs, true, b.esz⟩) w' ∧ Tr ι N σ w ι' (N + 1) ((σ.del i).set N ⟨vs, true, b.esz⟩) w' := by
  intro ι'
  have hx : Ext ι ι' := Ren.ext_put h.dom _
  have hk2 : ι' N = some ⟨L.blk, x, L.n, L.esz⟩ := by simp [ι', Ren.put]
  have hiN : i ≠ N := by have := h.lt hi; omega
  refine ⟨h.update hx (Ren.dom_put h.dom _) N ⟨vs, true, b.esz⟩ ⟨L.blk, x, L.n, L.esz⟩ hk2 (.mk hk ⟨c, e, (0, 0), hw, hsz, hlen, fun _ => rfl, fun j v hv => ?_⟩) ?_ ?_, ⟨hx, fun i hi => by simp only [ι', Ren.put]; rw [if_neg (by omega)], Nat.le_succ _, h1, h2, h3, Nat.le_of_eq h4.symm, fun β hb hno => hoth β fun e => hno ⟨i, b, L, hi, ho, hL, e.symm⟩, ?_⟩⟩
  · obtain ⟨v', g1, g2⟩ := hc j v hv; exact ⟨v', g1, g2.mono hx⟩
  · intro j b' hj
    unfold AHeap.set at hj
    by_cases e : j = N
    · rw [if_pos e] at hj; cases hj; exact .inl ⟨e, rfl⟩
    · rw [if_neg e] at hj
      unfold AHeap.del at hj
      split at hj
      · cases hj
      · exact .inr ⟨e, hj⟩
  · intro j b' L' hne hj hL'
    unfold AHeap.set at hj
    rw [if_neg hne] at hj
    unfold AHeap.del at hj
    split at hj
    · cases hj
    · rename_i hji
      have := h.inj j i b' b L' L hji hj hi hL' hL (.inr ho)
      exact ⟨hoth _ this, this⟩
  · rintro β ⟨j, b', L', g1, g2, g3, g4⟩
    unfold AHeap.set at g1
    by_cases e : j = N
    · subst e; rw [hk2] at g3; cases g3; exact .inl ⟨i, b, L, hi, ho, hL, g4⟩
    · rw [if_neg e] at g1
      unfold AHeap.del at g1
      split at g1
      · cases g1
      · obtain ⟨L2, f1, f2⟩ := h.blk j b' g1
        have := hx _ _ f1
        rw [g3] at this; cases this
        exact .inl ⟨j, b', L', g1, g2, f1, g4⟩

section
variable {r : Bool} {P : Program} {n : Nat} {env : Env} {N : Nat} {σ : AHeap}

def AList (P : Program) (n : Nat) (ops : Array Oper) (l : List Oper) (env : Env) (N : Nat) (σ : AHeap) (K : Env → Nat → AHeap → Prop) : Prop :=
  ∀ (F : Fence), OkF true F → ∀ (ds : List Deferred) (ι : Ren) (w : World) (a : Act) (Q : Exit → Act → World → Prop), EnvRel ι n ds env a → Rel ι N σ w →
    (∀ ι' w' a' env' N' σ', K env' N' σ' → EnvRel ι' n ds env' a' → Rel ι' N' σ' w' → Tr ι N σ w ι' N' σ' w' → Q .normal a' w') → wpListIn F 0 P ops Q l a w

theorem awp_list {id : Nat} {ops : Array Oper} {K : Exit → Env → Nat → AHeap → Prop} (h : AList P n ops ops.toList env N σ (K .normal)) : AWp r P n (.region id ops false) env N σ K := by
  intro F hF ds ι w a Q he hr hq
  exact wpIn_region_list (h F hF.true ds ι w a Q he hr fun ι1 w1 a1 env1 N1 σ1 k e1 r1 t1 => hq [] _ ι1 w1 a1 env1 N1 σ1 .nil k e1 r1 t1)

def Env.keep (env : Env) (ks : List Nat) : Env := ks.filterMap fun k => (env.get k).map (k, ·)
theorem Env.keep_get (env : Env) : ∀ (ks : List Nat) (t : Nat) (v : Value), (env.keep ks).get t = some v → env.get t = some v
  | [], _, _, h => by cases h
  | k :: ks, t, v, h => by
    unfold Env.keep at h
    simp only [List.filterMap_cons] at h
    cases hk : env.get k with
    | none => simp only [hk, Option.map_none] at h; exact Env.keep_get env ks t v h
    | some u =>
      simp only [hk, Option.map_some, Env.get] at h
      split at h
      · rename_i e; subst e; cases h; exact hk
      · exact Env.keep_get env ks t v h
theorem al_nil {ops : Array Oper} {K : Env → Nat → AHeap → Prop} (h : K env N σ) : AList P n ops [] env N σ K :=
  fun _ _ _ ι w a _ he hr hq => hq ι w a env N σ h he hr (Tr.refl _ _ _ _)
theorem al_end {ops : Array Oper} {K : Env → Nat → AHeap → Prop} (ks : List Nat) (h : K (env.keep ks) N σ) : AList P n ops [] env N σ K :=
  fun _ _ _ ι w a _ hE hr hq => hq ι w a _ N σ h (hE.le (Env.keep_get env ks)) hr (Tr.refl _ _ _ _)
theorem al_forget {ops : Array Oper} {l : List Oper} {σ' : AHeap} {K : Env → Nat → AHeap → Prop} (hs : σ'.le σ) (h : AList P n ops l env N σ' K) : AList P n ops l env N σ K := by
  intro F hF ds ι w a Q hE hR hq
  refine h F hF ds ι w a Q hE (hR.forget hs) fun ι1 w1 a1 env1 N1 σ1 k e1 r1 t1 => hq ι1 w1 a1 env1 N1 σ1 k e1 r1 ?_
  exact ⟨t1.ext, t1.old, t1.le, t1.os, t1.tape, t1.output, t1.size, fun β hb ho => t1.frame β hb fun h => ho (h.le hs), fun β ho => (t1.own β ho).imp (·.le hs) id⟩

theorem al_step {ops : Array Oper} {l : List Oper} {o : Oper} {K : Env → Nat → AHeap → Prop} (hw : wantedA ops env o = some true)
    (hd : ∀ d, o.dst = some d → d < n)
    (h : StepQ P n o env N σ fun v N' σ' => AList P n ops l (env.put o.dst v) N' σ' K) : AList P n ops (o :: l) env N σ K := by
  intro F hF ds ι w a Q he hr hq
  simp only [wpListIn, wantedA_eq hw he, if_true]
  refine h F hF ds ι w a _ Q he hr fun ι1 w1 v v' N1 σ1 k hv r1 t1 => ?_
  exact k F hF ds ι1 w1 (a.put o.dst v') Q ((he.mono t1.ext).put hd hv) r1 fun ι2 w2 a2 env2 N2 σ2 k2 e2 r2 t2 => hq ι2 w2 a2 env2 N2 σ2 k2 e2 r2 (t1.trans t2)
theorem al_skip {ops : Array Oper} {l : List Oper} {o : Oper} {K : Env → Nat → AHeap → Prop} (hw : wantedA ops env o = some false)
    (hd : ∀ d, o.dst = some d → d < n)
    (h : AList P n ops l (env.put o.dst undef) N σ K) : AList P n ops (o :: l) env N σ K := by
  intro F hF ds ι w a Q he hr hq
  simp only [wpListIn, wantedA_eq hw he, Bool.false_eq_true, if_false]
  exact ⟨fun f _ => hF.fn f, h F hF ds ι w (a.put o.dst undef) Q (he.put hd (.of_flat rfl)) hr hq⟩

theorem step_value {o : Oper} {v : Value} {K : Value → Nat → AHeap → Prop} (hd : ∀ c, o.op ≠ .defer c)
    (h : ∀ {ds : List Deferred} (ι : Ren) (a : Act), EnvRel ι n ds env a → ∃ v', (∀ w, (execOp a.eval o).run P w = .ok (.value v') w) ∧ VRel ι v v') (k : K v N σ) : StepQ P n o env N σ K := by
  intro F hF ds ι w a next Q he hr hq
  obtain ⟨v', h1, h2⟩ := h ι a he
  refine wpIn_of_run hF hd (h1 w) ?_
  exact hq ι w v v' N σ k h2 hr (Tr.refl _ _ _ _)

def cmpA (op : BinOp) (x y : Int) : Option Bool :=
  match op with
  | .eql => some (x == y)
  | .neq => some (x != y)
  | .lss => some (decide (x < y))
  | .leq => some (decide (x ≤ y))
  | .gtr => some (decide (x > y))
  | .geq => some (decide (x ≥ y))
  | _ => none
def intA (op : BinOp) (k : IntKind) (x y : Int) : Option Value :=
  match op with
  | .add => some (.int k (k.wrap (x + y)))
  | .sub => some (.int k (k.wrap (x - y)))
  | .mul => some (.int k (k.wrap (x * y)))
  | .quo => if y = 0 then none else some (.int k (k.wrap (x.tdiv y)))
  | .rem => if y = 0 then none else some (.int k (x.tmod y))
  | .and => some (.int k (k.wrap (BitVec.ofInt k.bits x &&& BitVec.ofInt k.bits y).toNat))
  | .or => some (.int k (k.wrap (BitVec.ofInt k.bits x ||| BitVec.ofInt k.bits y).toNat))
  | .xor => some (.int k (k.wrap (BitVec.ofInt k.bits x ^^^ BitVec.ofInt k.bits y).toNat))
  | .andNot => some (.int k (k.wrap (BitVec.ofInt k.bits x &&& ~~~ BitVec.ofInt k.bits y).toNat))
  | _ => (cmpA op x y).map .bool
def shiftA (op : BinOp) (k : IntKind) (x y : Int) : Option Value :=
  if y < 0 then none else
  match op with
  | .shl => some (.int k (k.wrap (x * 2 ^ (min y.toNat k.bits))))
  | .shr => some (.int k (x.fdiv (2 ^ (min y.toNat k.bits))))
  | _ => none
def eqA (P : Program) (t : TypeId) : Value → Value → Option Bool
  | .bool a, .bool b => match P.underlying t with | some .bool => some (a == b) | _ => none
  | .slice none _ _, .slice b _ _ => match P.underlying t with | some (.slice _) => some b.isNone | _ => none
  | .slice (some _) _ _, .slice none _ _ => match P.underlying t with | some (.slice _) => some false | _ => none
  | .nilFunc, .nilFunc => match P.underlying t with | some (.func _ _ _) => some true | _ => none
  | .nilFunc, .func _ _ _ => match P.underlying t with | some (.func _ _ _) => some false | _ => none
  | .func _ _ _, .nilFunc => match P.underlying t with | some (.func _ _ _) => some false | _ => none
  | .pointer none, .pointer b => match P.underlying t with | some (.pointer _) => some b.isNone | _ => none
  | .pointer (some _), .pointer none => match P.underlying t with | some (.pointer _) => some false | _ => none
  | .map none, .map b => match P.underlying t with | some (.map _ _) => some b.isNone | _ => none
  | .map (some _), .map none => match P.underlying t with | some (.map _ _) => some false | _ => none
  | .nilIface, .iface _ _ => match P.underlying t with | some (.interface _) => some false | _ => none
  | .iface _ _, .nilIface => match P.underlying t with | some (.interface _) => some false | _ => none
  | _, _ => none
def binA (P : Program) (op : BinOp) (t : TypeId) (x y : Value) : Option Value :=
  match x, y with
  | .int k a, .int k' b =>
    match op with
    | .shl => shiftA .shl k a b
    | .shr => shiftA .shr k a b
    | op => if k = k' then intA op k a b else none
  | x, y =>
    match op with
    | .eql => (eqA P t x y).map .bool
    | .neq => (eqA P t x y).map fun r => .bool (!r)
    | _ => none

def sizeA (P : Program) (t : TypeId) : Option Nat := (P.info? t).map (·.size)
theorem sizeA_inv {t : TypeId} {s : Nat} (h : sizeA P t = some s) : ∃ inf, P.info? t = some inf ∧ inf.size = s := by simpa [sizeA] using h

def partA (P : Program) (t : TypeId) (cs : Array Value) (off : Nat) : Option Value :=
  match P.underlying t with
  | some (.struct _) | some (.array _ _) => (sizeA P t).map fun s => .agg (cs.extract off (off + s))
  | some _ => cs[off]?
  | none => none

def minmaxA (mx : Bool) : List Value → Option Value
  | .int k x :: rest => rest.foldlM (fun u v => match u, v with
    | .int k x, .int _ y => some (.int k (if mx then (if y > x then y else x) else (if y < x then y else x)))
    | _, _ => none) (.int k x)
  | _ => none

def noYield : Fn → Bool
  | .yield _ => false
  | _ => true
theorem noYield_ne {fn : Fn} (h : noYield fn = true) : ∀ l, fn ≠ .yield l := fun l e => by subst e; cases h
def pureOp (P : Program) (ρ : Operand → Option Value) (op : Op) : Option Value :=
  match op with
  | .move x | .assign x => ρ x
  | .pick c a b => match ρ c with
    | some (.bool t) => if t then ρ a else ρ b
    | _ => none
  | .binOp op t x y _ => (ρ x).bind fun u => (ρ y).bind fun v => binA P op t u v
  | .unOp op _ x => (ρ x).bind fun u =>
    match op, u with
    | .neg, .int k m => intA .sub k 0 m
    | .xor, .int k m => intA .xor k (if k.signed then -1 else k.max) m
    | .not, .bool b => some (.bool !b)
    | _, _ => none
  | .convert src dst x => match P.underlying src, P.underlying dst, ρ x with
    | some _, some (.int k), some (.int _ m) => some (.int k (k.wrap m))
    | _, _, _ => none
  | .extract t ix => match ρ t with
    | some (.tuple vs) => vs[ix]?
    | _ => none
  | .field t x f => match P.underlying t, ρ x with
    | some (.struct fs), some (.agg cs) => (fs[f]?).bind fun fd => partA P fd.type cs fd.offset
    | _, _ => none
  | .index t x ix => match P.underlying t, ρ x, ρ ix with
    | some (.array len e), some (.agg cs), some (.int _ i) => if 0 ≤ i ∧ i < len then (sizeA P e).bind fun s => partA P e cs (i.toNat * s) else none
    | _, _, _ => none
  | .makeFunc fn first captured => if noYield fn then ((first.toList.mapM ρ).bind fun f => (captured.toList.mapM ρ).map fun c => .func fn f.toArray c.toArray) else none
  | .indexAddr t x ix => match P.underlying t, ρ x, ρ ix with
    | some (.slice e), some (.slice (some ⟨b, o, none⟩) len _), some (.int _ i) =>
      if 0 ≤ i ∧ i < len then (sizeA P e).map fun s => .pointer (some ⟨b, o + i.toNat * s, none⟩) else none
    | some (.array len e), some (.pointer (some ⟨b, o, none⟩)), some (.int _ i) =>
      if 0 ≤ i ∧ i < len then (sizeA P e).map fun s => .pointer (some ⟨b, o + i.toNat * s, none⟩) else none
    | _, _, _ => none
  | .fieldAddr t x f => match P.underlying t, ρ x with
    | some (.struct fs), some (.pointer (some ⟨b, o, none⟩)) => (fs[f]?).bind fun fd => (sizeA P fd.type).bind fun s => if s = 0 then none else some (.pointer (some ⟨b, o + fd.offset, none⟩))
    | _, _ => none
  | .nilCheck x => match ρ x with
    | some (.pointer (some ⟨b, o, none⟩)) => some (.pointer (some ⟨b, o, none⟩))
    | some (.func (.func f) xs cs) => some (.func (.func f) xs cs)
    | _ => none
  | .makeInterface t x => match P.underlying t, ρ x with
    | some (.interface _), _ => none
    | some _, some v => some (.iface t v)
    | _, _ => none
  | .call { callee := .builtin .len, args, argTypes } => match argTypes[0]?, (args[0]?).bind ρ with
    | some t, some v => match P.underlying t, v with
      | some (.slice _), .slice _ m _ => some (.int .i64 m)
      | some .string, .string s => some (.int .i64 s.size)
      | some (.array m _), _ => some (.int .i64 m)
      | _, _ => none
    | _, _ => none
  | .call { callee := .builtin .max, args, argTypes := _ } => (args.toList.mapM ρ).bind (minmaxA true)
  | .call { callee := .builtin .min, args, argTypes := _ } => (args.toList.mapM ρ).bind (minmaxA false)
  | _ => none

theorem VRel.int_inv {ι : Ren} {k : IntKind} {m : Int} {v : Value} (h : VRel ι (.int k m) v) : v = .int k m := by cases h; rfl
theorem VRel.bool_inv {ι : Ren} {b : Bool} {v : Value} (h : VRel ι (.bool b) v) : v = .bool b := by cases h; rfl
end
end Go.Abs

