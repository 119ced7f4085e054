/- Shaken texts of the layer and of the walks. -/
import Derived.Test.YtfialjllclclkaaFmOwn
namespace Go.Abs

inductive Bdd (N : Nat) : Value → Prop
  | flat {v : Value} : flat0 v = true → Bdd N v
  | ptr {i off : Nat} : i < N → Bdd N (.pointer (some ⟨i, off, none⟩))
  | slice {i off len cap : Nat} : i < N → Bdd N (.slice (some ⟨i, off, none⟩) len cap)
  | map {i : Nat} : i < N → Bdd N (.map (some i))
  | yield {i : Nat} : i < N → Bdd N (.func (.yield i) #[] #[])
  | func {fn : Fn} {xs cs : Array Value} : (∀ l, fn ≠ .yield l) → (∀ (i : Nat) (v : Value), xs[i]? = some v → Bdd N v) → (∀ (i : Nat) (v : Value), cs[i]? = some v → Bdd N v) → Bdd N (.func fn xs cs)
  | iface {t : TypeId} {v : Value} : Bdd N v → Bdd N (.iface t v)
  | agg {xs : Array Value} : (∀ (i : Nat) (v : Value), xs[i]? = some v → Bdd N v) → Bdd N (.agg xs)
  | tuple {xs : Array Value} : (∀ (i : Nat) (v : Value), xs[i]? = some v → Bdd N v) → Bdd N (.tuple xs)

theorem Bdd.mono {N M : Nat} (h : N ≤ M) {v : Value} (hb : Bdd N v) : Bdd M v := by
  induction hb with
  | flat h => exact .flat h
  | ptr h1 => exact .ptr (by omega)
  | slice h1 => exact .slice (by omega)
  | map h1 => exact .map (by omega)
  | yield h1 => exact .yield (by omega)
  | func z _ _ h1 h2 => exact .func z h1 h2
  | iface _ h1 => exact .iface h1
  | agg _ h1 => exact .agg h1
  | tuple _ h1 => exact .tuple h1
theorem Bdd.of_flat {N : Nat} {v : Value} (h : Abs.flat v = true) : Bdd N v := by
  have key : ∀ cs : Array Value, cs.toList.all flat0 = true → ∀ (i : Nat) (x : Value), cs[i]? = some x → Bdd N x := fun cs hc i x hx => by
    rw [List.all_eq_true] at hc
    exact .flat (hc x (Array.mem_toList_iff.2 (Array.mem_of_getElem? hx)))
  unfold Abs.flat at h
  split at h
  · exact .agg (key _ h)
  · exact .tuple (key _ h)
  · exact .flat h

def Ren.below (ι : Ren) (N : Nat) : Ren := fun j => if j < N then ι j else none
theorem Ren.below_lt {ι : Ren} {N j : Nat} (h : j < N) : ι.below N j = ι j := by simp [Ren.below, h]
theorem Ren.below_some {ι : Ren} {N j : Nat} {L : Loc} (h : ι.below N j = some L) : j < N ∧ ι j = some L := by
  unfold Ren.below at h
  split at h
  · exact ⟨by assumption, h⟩
  · cases h
theorem VRel.cut {ι : Ren} {N : Nat} {v v' : Value} (h : VRel ι v v') (hb : Bdd N v) : VRel (ι.below N) v v' := by
  induction h with
  | bool b => exact .bool b
  | int k n => exact .int k n
  | float k b => exact .float k b
  | complex k x y => exact .complex k x y
  | str s => exact .str s
  | nilp => exact .nilp
  | ptr h =>
    cases hb with
    | flat hf => simp [flat0] at hf
    | ptr hi => exact .ptr (by rw [Ren.below_lt hi]; exact h)
  | nils => exact .nils
  | slice h a b c d =>
    cases hb with
    | flat hf => simp [flat0] at hf
    | slice hi => exact .slice (by rw [Ren.below_lt hi]; exact h) a b c d
  | nilm => exact .nilm
  | map h =>
    cases hb with
    | flat hf => simp [flat0] at hf
    | map hi => exact .map (by rw [Ren.below_lt hi]; exact h)
  | nilc => exact .nilc
  | nilf => exact .nilf
  | yield h =>
    cases hb with
    | flat hf => simp [flat0] at hf
    | yield hi => exact .yield (by rw [Ren.below_lt hi]; exact h)
    | func z => exact absurd rfl (z _)
  | func z a b h1 h2 i1 i2 =>
    cases hb with
    | flat hf => simp [flat0] at hf
    | yield hi => exact absurd rfl (z _)
    | func _ b1 b2 => exact .func z a b (fun i v v' p q => i1 i v v' p q (b1 i v p)) (fun i v v' p q => i2 i v v' p q (b2 i v p))
  | niface => exact .niface
  | iface _ ih =>
    cases hb with
    | flat hf => simp [flat0] at hf
    | iface hb => exact .iface (ih hb)
  | agg a _ ih =>
    cases hb with
    | flat hf => simp [flat0] at hf
    | agg b1 => exact .agg a (fun i v v' p q => ih i v v' p q (b1 i v p))
  | tuple a _ ih =>
    cases hb with
    | flat hf => simp [flat0] at hf
    | tuple b1 => exact .tuple a (fun i v v' p q => ih i v v' p q (b1 i v p))

section
variable {r : Bool} {P : Program} {n : Nat} {env : Env} {N : Nat} {σ : AHeap} {ι : Ren} {ops : Array Oper}

def LoopBdd (M : Nat) (z : ESz) : Prop := (∀ i s, z = .loop i s → ∀ t u, i.env.get t = some u → Bdd M u) ∧ ∀ es, z = .map es → ∀ p ∈ es, Bdd M p.1 ∧ Bdd M p.2
theorem LoopBdd.row (M k : Nat) : LoopBdd M (.n k) := ⟨fun i s e => (by cases e), fun es e => (by cases e)⟩
theorem LoopBdd.loop {M : Nat} {i : LInfo} {s : LSt} (h : ∀ t u, i.env.get t = some u → Bdd M u) : LoopBdd M (.loop i s) := ⟨fun i s e => (by cases e; exact h), fun es e => (by cases e)⟩
theorem LoopBdd.map {M : Nat} {es : List (Value × Value)} (h : ∀ p ∈ es, Bdd M p.1 ∧ Bdd M p.2) : LoopBdd M (.map es) := ⟨fun i s e => (by cases e), fun es e => (by cases e; exact h)⟩
def BlkBdd (M : Nat) (b : Blk) : Prop := (∀ x ∈ b.cells, Bdd M x) ∧ LoopBdd M b.esz
theorem BlkBdd.row {M : Nat} {b : Blk} (h : ∀ x ∈ b.cells, Bdd M x) {k : Nat} (hk : b.esz = .n k) : BlkBdd M b := ⟨h, by rw [hk]; exact .row M k⟩
def Part (F σ : AHeap) (M : Nat) : Prop := ∀ j b, F j = some b → j < M ∧ ((∀ x ∈ b.cells, Bdd M x) ∧ LoopBdd M b.esz) ∧ ∃ b', σ j = some b' ∧ b'.cells = b.cells ∧ b'.esz = b.esz ∧ (b.own = true → b'.own = true) ∧ (b.row ∨ b.own = b'.own)
def After (σ F σ1 σ' : AHeap) (lo hi : Nat) : Prop := ∀ j b, σ' j = some b → (σ j = some b ∧ ∀ bF, F j = some bF → bF.own = false) ∨ (σ1 j = some b ∧ b.own = true ∧ ((lo ≤ j ∧ j < hi) ∨ ∃ bF, F j = some bF))
def Step2 (P : Program) (n : Nat) (o : Oper) (e : Env) (lo hi : Nat) (σ σ' : AHeap) (v : Value) : Prop :=
  (∀ t v, e.get t = some v → Bdd lo v) ∧ ∃ F : AHeap, Part F σ lo ∧ StepQ P n o e lo F (fun v1 N1 σ1 => v1 = v ∧ N1 = hi ∧ After σ F σ1 σ' lo hi)
def Step0 (P : Program) (n : Nat) (o : Oper) (e : Env) (σ : AHeap) (v : Value) : Prop :=
  ∃ F : AHeap, (∀ j b, F j = some b → b.own = false ∧ b.row ∧ ∃ b', σ j = some b' ∧ b'.cells = b.cells ∧ b'.esz = b.esz) ∧ ∀ M, StepQ P n o e M F (fun v1 N1 _ => v1 = v ∧ N1 = M)
def Turn2 (P : Program) (n : Nat) (ops : Array Oper) (vals : List Value) (env : Env) (Nf : Nat → Nat) (st : (Nat → Bool) → AHeap) (S : Nat → Bool) (i : Nat) (o : Oper) : Prop :=
  ∃ e : Env, (∀ t v, e.get t = some v → getS ops vals S (List.range ops.size) env t = some v) ∧ dstOk n o.dst = true ∧
  ((wantedA ops e o = some false ∧ vals.getD i undef = undef ∧ (st (upd S i)).le (st S)) ∨
   (wantedA ops e o = some true ∧ Step2 P n o e (Nf i) (Nf (i + 1)) (st S) (st (upd S i)) (vals.getD i undef)) ∨
   (wantedA ops e o = some true ∧ (st (upd S i)).le (st S) ∧ Step0 P n o e (st S) (vals.getD i undef)))

theorem mono_le {Nf : Nat → Nat} {k : Nat} (h : ∀ i, i < k → Nf i ≤ Nf (i + 1)) : ∀ (j i : Nat), i ≤ j → j ≤ k → Nf i ≤ Nf j := by
  intro j
  induction j with
  | zero => intro i hi _; have : i = 0 := by omega
            subst this; exact Nat.le_refl _
  | succ j ih =>
    intro i hi hj
    by_cases e : i = j + 1
    · subst e; exact Nat.le_refl _
    · exact Nat.le_trans (ih i (by omega) (by omega)) (h j (by omega))

theorem step2_sound {o : Oper} {e : Env} {lo hi M : Nat} {σ0 σ' : AHeap} {v : Value} (h : Step2 P n o e lo hi σ0 σ' v) {r : Bool} {F : Fence} (hF : OkF r F) {ds : List Deferred} {ι : Ren} {a : Act} {w : World} (hlohi : lo ≤ hi) (hhi : hi ≤ M)
    (he : EnvRel ι n ds e a) (hr : Rel ι M σ0 w) (hole : ∀ j, lo ≤ j → j < hi → ι j = none) (next : Act → World → Prop) (Q : Exit → Act → World → Prop)
    (hq : ∀ (ι2 : Ren) (w1 : World) (v' : Value), (∀ j, ¬ (lo ≤ j ∧ j < hi) → ι2 j = ι j) → Ext ι ι2 → VRel ι2 v v' → Rel ι2 M σ' w1 → w1.os = w.os → w1.tape = w.tape → w1.output = w.output → w.heap.size ≤ w1.heap.size →
      (∀ β, β < w.heap.size → ¬ Own ι σ0 β → w1.heap[β]? = w.heap[β]?) → (∀ β, Own ι2 σ' β → Own ι σ0 β ∨ w.heap.size ≤ β) → next (a.put o.dst v') w1) : o.wpIn F 0 P a w next Q := by
  obtain ⟨hbe, G, hG, hstep⟩ := h
  have he2 : EnvRel (ι.below lo) n ds e a := ⟨he.size, he.defers, fun t u hu => let ⟨u', h1, h2⟩ := he.get t u hu; ⟨u', h1, h2.cut (hbe t u hu)⟩⟩
  have hr2 : Rel (ι.below lo) lo G w := by
    refine ⟨fun j hj => by simp [Ren.below]; omega, fun j b hj => ?_, fun j k bj bk Lj Lk hne h1 h2 g1 g2 ho => ?_⟩
    · obtain ⟨hlt, ⟨hbd, hle⟩, b', h1, h2, h3, h4, h5⟩ := hG j b hj
      obtain ⟨L, g1, g2⟩ := hr.blk j b' h1
      refine ⟨L, by rw [Ren.below_lt hlt]; exact g1, ?_⟩
      unfold BlkRel at g2 ⊢
      rw [h3] at g2
      split at g2
      · obtain ⟨p0, c, e0, fz, p1, p2, p3, p4, p5⟩ := g2
        refine ⟨p0, c, e0, fz, p1, p2, by rw [← h2]; exact p3, fun ho => p4 (h4 ho), fun k x hx => ?_⟩
        rw [← h2] at hx
        obtain ⟨x', q1, q2⟩ := p5 k x hx
        exact ⟨x', q1, q2.cut (hbd x (h2 ▸ List.mem_of_getElem? hx))⟩
      · rename_i ii ss hk
        obtain ⟨p0, q, p1, p2⟩ := g2
        refine ⟨⟨by rw [← h2]; exact p0.1, by rcases h5 with ⟨k, h5⟩ | h5; (rw [hk] at h5; cases h5); (rw [h5]; exact p0.2)⟩, q, p1, p2.state, p2.pending, p2.params, p2.assign, p2.body, p2.size, fun t u hu => ?_⟩
        obtain ⟨u', q1, q2⟩ := p2.get t u hu
        exact ⟨u', q1, q2.cut (hle.1 ii ss hk t u hu)⟩
      · rename_i es hk
        obtain ⟨p0, ms, t, p1, p2, p3, p4⟩ := g2
        refine ⟨⟨by rw [← h2]; exact p0.1, by rcases h5 with ⟨k, h5⟩ | h5; (rw [hk] at h5; cases h5); (rw [h5]; exact p0.2)⟩, ms, t, p1, p2, fun j k u hu => ?_, p4⟩
        obtain ⟨e, q1, q2, q3⟩ := p3 j k u hu
        have hb := hle.2 es hk _ (List.mem_of_getElem? hu)
        exact ⟨e, q1, q2.cut hb.1, q3.cut hb.2⟩
    · obtain ⟨_, _, b1, f1, _, _, f4, _⟩ := hG j bj h1
      obtain ⟨_, _, b2, f5, _, _, f8, _⟩ := hG k bk h2
      exact hr.inj j k b1 b2 Lj Lk hne f1 f5 (Ren.below_some g1).2 (Ren.below_some g2).2 (ho.imp f4 f8)
  have hownF : ∀ β, Own (ι.below lo) G β → ∃ m bF b' L, G m = some bF ∧ bF.own = true ∧ σ0 m = some b' ∧ b'.own = true ∧ ι m = some L ∧ L.blk = β := by
    rintro β ⟨m, bF, L, h1, h2, h3, h4⟩
    obtain ⟨_, _, b', f1, _, _, f4, _⟩ := hG m bF h1
    exact ⟨m, bF, b', L, h1, h2, f1, f4 h2, (Ren.below_some h3).2, h4⟩
  refine hstep F hF.true ds (ι.below lo) w a next Q he2 hr2 fun ι1 w1 v1 v' N1 σ1 ⟨hv, hN, hA⟩ hvr r1 t1 => ?_
  subst hv; subst hN
  have hold : ∀ j, j < lo → ι1 j = ι j := fun j hj => (t1.old j hj).trans (Ren.below_lt hj)
  let ι2 : Ren := fun j => if lo ≤ j ∧ j < N1 then ι1 j else ι j
  have e2 : ∀ j, ¬ (lo ≤ j ∧ j < N1) → ι2 j = ι j := fun j hj => by simp only [ι2, if_neg hj]
  have e3 : ∀ j, j < N1 → ι2 j = ι1 j := fun j hj => by
    by_cases h : lo ≤ j
    · simp only [ι2, if_pos (And.intro h hj)]
    · rw [e2 j (by omega), hold j (by omega)]
  have hx : Ext ι ι2 := fun j L hj => by
    by_cases h : lo ≤ j ∧ j < N1
    · rw [hole j h.1 h.2] at hj; cases hj
    · rw [e2 j h]; exact hj
  have hx1 : Ext ι1 ι2 := fun j L hj => by
    by_cases h : j < N1
    · rw [e3 j h]; exact hj
    · rw [r1.dom j (by omega)] at hj; cases hj
  have look : ∀ j b, σ' j = some b → (σ0 j = some b ∧ (∀ bF, G j = some bF → bF.own = false)) ∨ (σ1 j = some b ∧ b.own = true ∧ ι2 j = ι1 j) := by
    intro j b hj
    rcases hA j b hj with h | ⟨h1, h2, h3⟩
    · exact .inl h
    · refine .inr ⟨h1, h2, e3 j ?_⟩
      rcases h3 with h3 | ⟨bF, h3⟩
      · exact h3.2
      · have := (hG j bF h3).1; omega
  have keep : ∀ j b L, σ0 j = some b → (∀ bF, G j = some bF → bF.own = false) → ι j = some L → L.blk < w.heap.size ∧ ¬ Own (ι.below lo) G L.blk := by
    intro j b L hj hno hL
    obtain ⟨L', g1, g2⟩ := hr.blk j b hj
    rw [hL] at g1; cases g1
    refine ⟨g2.lt, fun ho => ?_⟩
    obtain ⟨m, bF, b', Lm, h1, h2, h3, h4, h5, h6⟩ := hownF _ ho
    have hne : m ≠ j := by rintro rfl; rw [hno bF h1] at h2; cases h2
    exact hr.inj m j b' b Lm L hne h3 hj h5 hL (.inl h4) h6
  have ι2_some : ∀ j b L, σ0 j = some b → ι2 j = some L → ι j = some L := by
    intro j b L hj hL
    obtain ⟨L', g1, _⟩ := hr.blk j b hj
    rw [hx _ _ g1] at hL; cases hL; exact g1
  refine hq ι2 w1 v' e2 hx (hvr.mono hx1) ⟨fun j hj => ?_, fun j b hj => ?_, fun j k bj bk Lj Lk hne h1 h2 g1 g2 ho => ?_⟩ t1.os t1.tape t1.output t1.size (fun β hβ hno => t1.frame β hβ fun ho => hno ?_) (fun β ho => ?_)
  · rw [e2 j (by omega)]; exact hr.dom j hj
  · rcases look j b hj with ⟨h1, h2⟩ | ⟨h1, h2, h3⟩
    · obtain ⟨L, g1, g2⟩ := hr.blk j b h1
      obtain ⟨k1, k2⟩ := keep j b L h1 h2 g1
      exact ⟨L, hx _ _ g1, g2.same hx (t1.frame _ k1 k2)⟩
    · obtain ⟨L, g1, g2⟩ := r1.blk j b h1
      exact ⟨L, by rw [h3]; exact g1, g2.same hx1 rfl⟩
  · have cross : ∀ j b k b' Lj Lk, σ1 j = some b → b.own = true → ι1 j = some Lj → σ0 k = some b' → (∀ bF, G k = some bF → bF.own = false) → ι k = some Lk → Lj.blk ≠ Lk.blk := by
      intro j b k b' Lj Lk h1 h2 h3 h4 h5 h6 heq
      obtain ⟨k1, k2⟩ := keep k b' Lk h4 h5 h6
      rcases t1.own Lj.blk ⟨j, b, Lj, h1, h2, h3, rfl⟩ with h | h
      · rw [heq] at h; exact k2 h
      · omega
    rcases look j bj h1 with ⟨p1, p2⟩ | ⟨p1, p2, p3⟩ <;> rcases look k bk h2 with ⟨q1, q2⟩ | ⟨q1, q2, q3⟩
    · exact hr.inj j k bj bk Lj Lk hne p1 q1 (ι2_some j bj Lj p1 g1) (ι2_some k bk Lk q1 g2) ho
    · exact (cross k bk j bj Lk Lj q1 q2 (q3 ▸ g2) p1 p2 (ι2_some j bj Lj p1 g1)).symm
    · exact cross j bj k bk Lj Lk p1 p2 (p3 ▸ g1) q1 q2 (ι2_some k bk Lk q1 g2)
    · exact r1.inj j k bj bk Lj Lk hne p1 q1 (p3 ▸ g1) (q3 ▸ g2) ho
  · obtain ⟨m, bF, b', Lm, h1, h2, h3, h4, h5, h6⟩ := hownF _ ho
    exact ⟨m, b', Lm, h3, h4, h5, h6⟩
  · obtain ⟨j, b, L, h1, h2, h3, h4⟩ := ho
    rcases look j b h1 with ⟨p1, _⟩ | ⟨p1, _, p3⟩
    · exact .inl ⟨j, b, L, p1, h2, ι2_some j b L p1 h3, h4⟩
    · rcases t1.own β ⟨j, b, L, p1, h2, p3 ▸ h3, h4⟩ with h | h
      · obtain ⟨m, bF, b', Lm, q1, q2, q3, q4, q5, q6⟩ := hownF _ h
        exact .inl ⟨m, b', Lm, q3, q4, q5, q6⟩
      · exact .inr h

theorem step0_sound {o : Oper} {e : Env} {M : Nat} {σ0 : AHeap} {v : Value} (h : Step0 P n o e σ0 v) {r : Bool} {F : Fence} (hF : OkF r F) {ds : List Deferred} {ι : Ren} {a : Act} {w : World}
    (he : EnvRel ι n ds e a) (hr : Rel ι M σ0 w) (next : Act → World → Prop) (Q : Exit → Act → World → Prop)
    (hq : ∀ (w1 : World) (v' : Value), VRel ι v v' → Rel ι M σ0 w1 → Tr ι M σ0 w ι M σ0 w1 → next (a.put o.dst v') w1) : o.wpIn F 0 P a w next Q := by
  obtain ⟨G, hG, hstep⟩ := h
  have hr2 : Rel ι M G w := by
    refine ⟨hr.dom, fun j b hj => ?_, fun j k bj bk Lj Lk hne h1 h2 _ _ ho => ?_⟩
    · obtain ⟨h0, hrow, b', h1, h2, h3⟩ := hG j b hj
      obtain ⟨L, g1, g2⟩ := hr.blk j b' h1
      refine ⟨L, g1, ?_⟩
      unfold BlkRel at g2 ⊢
      rw [h3] at g2
      split at g2
      · obtain ⟨p0, c, e0, fz, p1, p2, p3, p4, p5⟩ := g2
        exact ⟨p0, c, e0, fz, p1, p2, by rw [← h2]; exact p3, fun ho => absurd ho (by rw [h0]; simp), fun k x hx => p5 k x (by rw [h2]; exact hx)⟩
      · rename_i hk
        obtain ⟨k, hrow⟩ := hrow
        rw [hk] at hrow; cases hrow
      · rename_i hk
        obtain ⟨k, hrow⟩ := hrow
        rw [hk] at hrow; cases hrow
    · have f1 := (hG j bj h1).1
      have f2 := (hG k bk h2).1
      rcases ho with ho | ho
      · rw [f1] at ho; cases ho
      · rw [f2] at ho; cases ho
  have hno : ∀ β, ¬ Own ι G β := by
    rintro β ⟨j, b, L, h1, h2, _⟩
    rw [(hG j b h1).1] at h2; cases h2
  refine hstep M F hF.true ds ι w a next Q he hr2 fun ι1 w1 v1 v' N1 σ1 ⟨hv, hN⟩ hvr r1 t1 => ?_
  subst hv; subst hN
  have hι : ι1 = ι := by
    funext j
    rcases Nat.lt_or_ge j N1 with h | h
    · exact t1.old j h
    · rw [r1.dom j h, hr.dom j h]
  subst hι
  have hsame : ∀ β, β < w.heap.size → w1.heap[β]? = w.heap[β]? := fun β hβ => t1.frame β hβ (hno β)
  refine hq w1 v' hvr ⟨hr.dom, fun j b hj => ?_, hr.inj⟩ ⟨Ext.refl _, fun _ _ => rfl, Nat.le_refl _, t1.os, t1.tape, t1.output, t1.size, fun β hβ _ => hsame β hβ, fun β ho => .inl ho⟩
  obtain ⟨L, g1, g2⟩ := hr.blk j b hj
  exact ⟨L, g1, g2.same (Ext.refl _) (hsame _ g2.lt)⟩

theorem draw2 {r : Bool} {F : Fence} (hF : OkF r F) {ds : List Deferred} {vals : List Value} {Nf : Nat → Nat} {st : (Nat → Bool) → AHeap} {Q : Exit → Act → World → Prop} {ι0 : Ren} {w0 : World}
    (honce : onceB ops = true) (hN0 : N ≤ Nf 0) (hmono : ∀ i, i < ops.size → Nf i ≤ Nf (i + 1)) (hback : ∀ i, i < ops.size → ∀ j ∈ deps ops i, j < i)
    (hturn : ∀ (i : Nat) (o : Oper) (S : Nat → Bool), ops[i]? = some o → S i = false → (∀ j ∈ deps ops i, S j = true) → (∀ j k, k ∈ deps ops j → S j = true → S k = true) →
      Turn2 P n ops vals env Nf st S i o)
    (hext : ∀ S S' : Nat → Bool, (∀ i, i < ops.size → S i = S' i) → st S = st S')
    (hq : ∀ a w ι, EnvG ι n ds (getS ops vals (fun _ => true) (List.range ops.size) env) a → Rel ι (Nf ops.size) (st fun _ => true) w → Tr ι0 N σ w0 ι (Nf ops.size) (st fun _ => true) w → Q .normal a w) :
    ∀ (fuel : Nat) (listed : Array Bool) (a : Act) (w : World) (ι : Ren), listed.size = ops.size → listed.toList.countP (!·) = fuel →
      (∀ j k, k ∈ deps ops j → listed.getD j false = true → listed.getD k false = true) →
      EnvG ι n ds (getS ops vals (fun j => listed.getD j false) (List.range ops.size) env) a → Rel ι (Nf ops.size) (st fun j => listed.getD j false) w → Tr ι0 N σ w0 ι (Nf ops.size) (st fun j => listed.getD j false) w →
      (∀ i, i < ops.size → listed.getD i false = false → ∀ j, Nf i ≤ j → j < Nf (i + 1) → ι j = none) →
      wpAnyIn F 0 P .any ops Q fuel listed a w := by
  have hall : ∀ (listed : Array Bool), listed.size = ops.size → Region.ready .any ops listed = [] → ∀ i, i < ops.size → listed.getD i false = true := by
    intro listed hs h0 i
    induction i using Nat.strongRecOn with
    | _ i ih =>
      intro hi
      cases hl : listed.getD i false with
      | true => rfl
      | false =>
        have hm : i ∈ Region.ready .any ops listed := by
          refine mem_ready.2 ⟨by simp [hs, hi] at hl ⊢; exact hl, ops[i], Array.getElem?_eq_getElem hi, fun e he hb => ?_⟩
          have hd : e.on ∈ deps ops i := by
            unfold deps
            simp only [Array.getElem?_eq_getElem hi, List.mem_filterMap]
            exact ⟨e, Array.mem_toList_iff.2 he, by simp [hb]⟩
          have := hback i hi e.on hd
          exact ih e.on this (by omega)
        rw [h0] at hm; cases hm
  have getS_ext : ∀ (S S' : Nat → Bool), (∀ i, i < ops.size → S i = S' i) → ∀ (l : List Nat) (x : Nat), (∀ i ∈ l, i < ops.size) → getS ops vals S l env x = getS ops vals S' l env x := by
    intro S S' h l x
    induction l with
    | nil => intro _; rfl
    | cons j l ih =>
      intro hm
      simp only [getS, h j (hm j (by simp)), ih (fun i hi => hm i (by simp [hi]))]
  have done : ∀ (listed : Array Bool) (a : Act) (w : World) (ι : Ren), (∀ i, i < ops.size → listed.getD i false = true) →
      EnvG ι n ds (getS ops vals (fun j => listed.getD j false) (List.range ops.size) env) a → Rel ι (Nf ops.size) (st fun j => listed.getD j false) w → Tr ι0 N σ w0 ι (Nf ops.size) (st fun j => listed.getD j false) w → Q .normal a w := by
    intro listed a w ι hl he hr ht
    have e1 : st (fun j => listed.getD j false) = st (fun _ => true) := hext _ _ fun i hi => hl i hi
    rw [e1] at hr ht
    refine hq a w ι ⟨he.size, he.defers, fun t v hv => he.get t v ?_⟩ hr ht
    rw [← hv]
    exact getS_ext _ _ (fun i hi => hl i hi) _ _ (fun i hi => List.mem_range.1 hi)
  have hle := mono_le hmono
  intro fuel
  induction fuel with
  | zero =>
    intro listed a w ι hs hc hcl he hr ht _
    have hl : ∀ i, i < ops.size → listed.getD i false = true := by
      intro i hi
      have hi' : i < listed.size := by omega
      rw [List.countP_eq_zero] at hc
      have := hc listed[i] (by simp)
      simpa [hi'] using this
    refine ⟨?_, done listed a w ι hl he hr ht⟩
    cases hre : Region.ready .any ops listed with
    | nil => rfl
    | cons i rest =>
      have hm : i ∈ Region.ready .any ops listed := by rw [hre]; simp
      obtain ⟨h1, o, h2, _⟩ := mem_ready.1 hm
      have hi : i < ops.size := (Array.getElem?_eq_some_iff.1 h2).1
      have := hl i hi
      have hi' : i < listed.size := by omega
      simp [hi'] at h1 this
      rw [h1] at this; cases this
  | succ fuel ih =>
    intro listed a w ι hs hc hcl he hr ht hh
    refine ⟨fun h0 => done listed a w ι (hall listed hs h0) he hr ht, fun i hi => ?_⟩
    obtain ⟨hun, o, ho, hedge⟩ := mem_ready.1 hi
    have hio : i < ops.size := (Array.getElem?_eq_some_iff.1 ho).1
    have hil : i < listed.size := by omega
    have hun' : listed.getD i false = false := by simp [hil] at hun ⊢; exact hun
    have hd : ∀ j ∈ deps ops i, listed.getD j false = true := by
      intro j hj
      unfold deps at hj
      rw [ho] at hj
      simp only [List.mem_filterMap] at hj
      obtain ⟨e, he, hb⟩ := hj
      split at hb
      · rename_i hb'; cases hb; exact hedge e (Array.mem_toList_iff.1 he) hb'
      · cases hb
    have hT := hturn i o (fun j => listed.getD j false) ho hun' hd hcl
    -- the state behind
    have hnew : (fun j => (listed.setIfInBounds i true).getD j false) = upd (fun j => listed.getD j false) i := by
      funext j
      unfold upd
      by_cases hj : j = i
      · subst hj; simp [hil]
      · rw [if_neg hj]; exact getD_set_ne false (Ne.symm hj)
    have hcount : (listed.setIfInBounds i true).toList.countP (!·) = fuel := by
      rw [Array.toList_setIfInBounds, List.countP_set (by simpa using hil), hc]
      have : listed.toList[i]'(by simpa using hil) = false := by simpa [hil] using hun
      simp [this]
    have hclosed : ∀ j k, k ∈ deps ops j → (listed.setIfInBounds i true).getD j false = true → (listed.setIfInBounds i true).getD k false = true := by
      intro j k hk hj
      by_cases hji : j = i
      · subst hji; exact getD_set_true (hd k hk)
      · rw [getD_set_ne false (Ne.symm hji)] at hj
        exact getD_set_true (hcl j k hk hj)
    have hsize : (listed.setIfInBounds i true).size = ops.size := by simp [hs]
    have hput : ∀ (ι' : Ren) (v' : Value), Ext ι ι' → VRel ι' (vals.getD i undef) v' → dstOk n o.dst = true →
        EnvG ι' n ds (getS ops vals (upd (fun j => listed.getD j false) i) (List.range ops.size) env) (a.put o.dst v') := by
      intro ι' v' hx hv hdok
      have hdst : dstOf ops i = o.dst := by simp [dstOf, ho]
      cases hdd : o.dst with
      | none =>
        refine ⟨he.size, he.defers, fun t u hu => ?_⟩
        rw [getS_upd honce vals _ i t _ env (List.mem_range.2 hio), hdst, hdd, if_neg (by simp)] at hu
        obtain ⟨u', h1, h2⟩ := he.get t u hu
        exact ⟨u', h1, h2.mono hx⟩
      | some d =>
        have hdn := dstOk_spec hdok d hdd
        refine ⟨by simp [Act.put, he.size], he.defers, fun t u hu => ?_⟩
        rw [getS_upd honce vals _ i t _ env (List.mem_range.2 hio), hdst, hdd] at hu
        by_cases e : d = t
        · subst e
          rw [if_pos rfl] at hu; cases hu
          exact ⟨v', by simp [Act.put, he.size, hdn], hv⟩
        · rw [if_neg (by simpa using e)] at hu
          obtain ⟨u', h1, h2⟩ := he.get t u hu
          exact ⟨u', by simp [Act.put, e, h1], h2.mono hx⟩
    unfold wpOpIn
    simp only [ho]
    have hholes : ∀ ι' : Ren, (∀ j, ¬ (Nf i ≤ j ∧ j < Nf (i + 1)) → ι' j = ι j) → ∀ k, k < ops.size → (listed.setIfInBounds i true).getD k false = false → ∀ j, Nf k ≤ j → j < Nf (k + 1) → ι' j = none := by
      intro ι' h k hk hkf j hj1 hj2
      have hki : k ≠ i := by
        rintro rfl
        simp [hil] at hkf
      rw [getD_set_ne false (Ne.symm hki)] at hkf
      rw [h j ?_]
      · exact hh k hk hkf j hj1 hj2
      · rintro ⟨a1, a2⟩
        rcases Nat.lt_or_ge k i with h1 | h1
        · have := hle i (k + 1) (by omega) (by omega); omega
        · have := hle k (i + 1) (by omega) (by omega); omega
    obtain ⟨e, hke, hdok, hT⟩ := hT
    have henv : EnvRel ι n ds e a := ⟨he.size, he.defers, fun t v hv => he.get t v (hke t v hv)⟩
    rcases hT with ⟨hw, hval, hlest⟩ | ⟨hw, hstep⟩ | ⟨hw, hlest, hstep⟩
    · rw [if_neg (by rw [wantedA_eq hw henv]; simp)]
      refine ⟨fun f _ => hF.fn f, ?_⟩
      refine ih _ _ w ι hsize hcount hclosed ?_ ?_ ?_ (hholes ι fun j _ => rfl)
      · rw [hnew]; exact hput ι undef (Ext.refl _) (by rw [hval]; exact .of_flat rfl) hdok
      · rw [hnew]; exact hr.forget hlest
      · rw [hnew]; exact ht.forget hlest
    · rw [if_pos (wantedA_eq hw henv)]
      have hN1 := hle ops.size (i + 1) (by omega) (Nat.le_refl _)
      refine (step2_sound hstep hF (hmono i hio) hN1 henv hr (fun j h1 h2 => hh i hio hun' j h1 h2) _ _ fun ι2 w1 v' g1 g2 g3 g4 g5 g6 g7 g8 g9 g10 => ?_)
      refine ih _ _ w1 ι2 hsize hcount hclosed ?_ ?_ ?_ (hholes ι2 g1)
      · rw [hnew]; exact hput ι2 v' g2 g3 hdok
      · rw [hnew]; exact g4
      · rw [hnew]
        have h0i := hle i 0 (by omega) (by omega)
        refine ⟨ht.ext.trans g2, fun j hj => (g1 j (by omega)).trans (ht.old j hj), ht.le, g5.trans ht.os, g6.trans ht.tape, g7.trans ht.output, Nat.le_trans ht.size g8, fun β hβ hno => ?_, fun β ho => ?_⟩
        · rw [g9 β (Nat.lt_of_lt_of_le hβ ht.size) (fun ho => ?_), ht.frame β hβ hno]
          rcases ht.own β ho with h1 | h1
          · exact hno h1
          · omega
        · rcases g10 β ho with h1 | h1
          · exact ht.own β h1
          · exact .inr (Nat.le_trans ht.size h1)
    · rw [if_pos (wantedA_eq hw henv)]
      refine (step0_sound hstep hF henv hr _ _ fun w1 v' g3 g4 g5 => ?_)
      refine ih _ _ w1 ι hsize hcount hclosed ?_ ?_ ?_ (hholes ι fun j _ => rfl)
      · rw [hnew]; exact hput ι v' (Ext.refl _) g3 hdok
      · rw [hnew]; exact g4.forget hlest
      · rw [hnew]; exact (ht.trans g5).forget hlest

theorem awp_any {id : Nat} {l : List Oper} {K : Exit → Env → Nat → AHeap → Prop} (e' : Env) (vals : List Value) (Nf : Nat → Nat) (st : (Nat → Bool) → AHeap)
    (hm : P.follows .mixedOrders = true) (honce : onceB l.toArray = true) (hback : (List.range l.length).all (fun i => (deps l.toArray i).all (· < i)) = true)
    (hN0 : Nf 0 = N) (hmono : ∀ i, i < l.length → Nf i ≤ Nf (i + 1)) (hst0 : (st fun _ => false).le σ)
    (hext : ∀ S S' : Nat → Bool, (∀ i, i < l.length → S i = S' i) → st S = st S')
    (hturn : ∀ (i : Nat) (o : Oper) (S : Nat → Bool), l.toArray[i]? = some o → S i = false → (∀ j ∈ deps l.toArray i, S j = true) → (∀ j k, k ∈ deps l.toArray j → S j = true → S k = true) → onceB l.toArray = true →
      Turn2 P n l.toArray vals env Nf st S i o)
    (hend : onceB l.toArray = true → Knows l.toArray vals env (fun _ => true) e') (hk : K .normal e' (Nf l.length) (st fun _ => true)) :
    AWp r P n (.region id l.toArray true) env N σ K := by
  intro F hF ds ι w a Q he hr hq
  subst hN0
  have hsz : l.toArray.size = l.length := by simp
  have hle := mono_le (Nf := Nf) (k := l.length) hmono
  refine wpIn_region_any hm ?_
  have hcnt : (Array.replicate l.toArray.size false).toList.countP (!·) = l.toArray.size := by
    simp [List.countP_replicate]
  have hrep : ∀ j, (Array.replicate l.toArray.size false).getD j false = false := fun j => by
    rcases Nat.lt_or_ge j l.toArray.size with h | h
    · simp at h; simp [h]
    · simp at h; simp [h]
  have hS : (fun j => (Array.replicate l.toArray.size false).getD j false) = fun _ => false := funext hrep
  have h0 : Nf 0 ≤ Nf l.length := hle l.length 0 (by omega) (by omega)
  refine draw2 hF (ds := ds) (N := Nf 0) (σ := σ) (Nf := Nf) (st := st) (vals := vals) (env := env) (n := n) (ι0 := ι) (w0 := w) honce (Nat.le_refl _) (fun i hi => hmono i (by simpa using hi)) ?_ (fun i o S h1 h2 h3 h4 => hturn i o S h1 h2 h3 h4 honce) (fun S S' h => hext S S' fun i hi => h i (by simpa using hi)) ?_ _ _ a _ ι (by simp) hcnt ?_ ?_ ?_ ?_ ?_
  · intro i hi j hj
    rw [List.all_eq_true] at hback
    have h1 := hback i (List.mem_range.2 (by simpa using hi))
    rw [List.all_eq_true] at h1
    simpa using h1 j hj
  · intro a1 w1 ι1 e1 r1 t1
    rw [hsz] at r1 t1
    refine hq [] _ ι1 w1 a1 _ (Nf l.length) _ .nil hk ⟨e1.size, e1.defers, fun t v hv => e1.get t v ?_⟩ r1 t1
    exact hend honce t v hv
  · intro j k _ hj; rw [hrep] at hj; cases hj
  · rw [hS]
    refine ⟨he.size, he.defers, fun t v hv => ?_⟩
    have : ∀ (l' : List Nat), getS l.toArray vals (fun _ => false) l' env t = env.get t := by
      intro l'
      induction l' with
      | nil => rfl
      | cons k l' ih => simp only [getS, Bool.false_eq_true, if_false, ih, ite_self]
    rw [this] at hv
    exact he.get t v hv
  · rw [hS]
    have h1 := (hr.drawn (w.drawn + 1)).forget hst0
    exact ⟨fun i hi => h1.dom i (by simp at hi; omega), h1.blk, h1.inj⟩
  · rw [hS]
    have h1 := (Tr.drawn ι (Nf 0) σ w (w.drawn + 1)).forget hst0
    exact ⟨h1.ext, h1.old, by simp; exact h0, h1.os, h1.tape, h1.output, h1.size, h1.frame, h1.own⟩
  · intro i hi _ j hj _
    exact hr.dom j (by have := hle i 0 (by omega) (by simp at hi; omega); omega)
end
end Go.Abs

