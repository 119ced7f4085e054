/- Abstract states over the machine: what a closed call yields with memory of its own, in any state. -/
import Derived.Test.YtbpjoamdcbbnnaaAbRun
namespace Go.Abs
section
variable {P : Program}

def shiftB (N : Nat) : Value → Value
  | .pointer (some ⟨i, off, none⟩) => .pointer (some ⟨N + i, off, none⟩)
  | .slice (some ⟨i, off, none⟩) len cap => .slice (some ⟨N + i, off, none⟩) len cap
  | v => v
def okS : Value → Bool
  | .pointer (some ⟨_, _, none⟩) => true
  | .slice (some ⟨_, _, none⟩) _ _ => true
  | v => flat0 v
theorem shift_flat {N : Nat} {v : Value} (h : flat0 v = true) : shiftB N v = v := by
  unfold shiftB
  split
  · cases h
  · cases h
  · rfl
theorem vrel_shift {ι ι2 : Ren} {N : Nat} (hx : ∀ i L, ι i = some L → ι2 (N + i) = some L) {v v' : Value} (h : okS v = true) (hr : VRel ι v v') : VRel ι2 (shiftB N v) v' := by
  have fl : ∀ {v v'}, flat0 v = true → VRel ι v v' → VRel ι2 (shiftB N v) v' := fun {v v'} h hr => by
    rw [shift_flat h]
    have hf : flat v = true := by unfold flat; split <;> simp_all [flat0]
    exact (flat_iff hf).2 ((flat_iff hf).1 hr)
  unfold okS at h
  split at h
  · cases hr with | ptr g => exact .ptr (hx _ _ g)
  · cases hr with | slice g a b c d => exact .slice (hx _ _ g) a b c d
  · exact fl h hr
def mergeB (N : Nat) (σ σ0 : AHeap) : AHeap := fun i => if i < N then σ i else (σ0 (i - N)).map fun b => ⟨b.cells.map (shiftB N), b.own, b.esz⟩
theorem merge_le {N : Nat} {σ σ0 : AHeap} (h : ∀ i b, σ i = some b → i < N) : σ.le (mergeB N σ σ0) := fun i b hb => by
  unfold mergeB; rw [if_pos (h i b hb)]; exact hb
theorem merge_at {N i : Nat} {σ σ0 : AHeap} {b : Blk} (h : σ0 i = some b) : mergeB N σ σ0 (N + i) = some ⟨b.cells.map (shiftB N), b.own, b.esz⟩ := by
  unfold mergeB
  rw [if_neg (by omega), Nat.add_sub_cancel_left, h]; rfl

theorem aok_shift {f : FuncId} {args : List Value} {Q : Value → Nat → AHeap → Prop} (h : AOk P f args 0 none0 Q) (ha : args.all flat = true)
    (hQ : ∀ v N0 σ0, Q v N0 σ0 → okS v = true ∧ ∀ i b, σ0 i = some b → b.own = true ∧ ∀ x ∈ b.cells, okS x = true) (N : Nat) (σ : AHeap) (_hN : ∀ i b, σ i = some b → i < N) :
    AOk P f args N σ fun v' N' σ' => ∃ v N0 σ0, Q v N0 σ0 ∧ v' = shiftB N v ∧ N' = N + N0 ∧ σ' = mergeB N σ σ0 := by
  intro ι w cargs R hr hargs hk
  refine h (fun _ => none) w cargs R (rel_none w) ⟨hargs.1, fun i u u' hu hu' => ?_⟩ fun ι' w' v v' N0 σ0 hq hvr hr0 ht => ?_
  · have hf := List.all_eq_true.1 ha u (List.mem_of_getElem? hu)
    exact (flat_iff hf).2 ((flat_iff hf).1 (hargs.2 i u u' hu hu'))
  · obtain ⟨hv, hb⟩ := hQ v N0 σ0 hq
    have hbelow := ht.below (fun i b h => by simp [none0] at h)
    have hr1 := hr.below hbelow
    have hnew : ∀ i b L, σ0 i = some b → ι' i = some L → w.heap.size ≤ L.blk := fun i b L h1 h2 => by
      rcases ht.own L.blk ⟨i, b, L, h1, (hb i b h1).1, h2, rfl⟩ with ⟨j, b', L', g, _⟩ | h
      · simp [none0] at g
      · exact h
    have hold : ∀ i b L, σ i = some b → ι i = some L → L.blk < w.heap.size := fun i b L h1 h2 => by
      obtain ⟨L', g1, g2⟩ := hr.blk i b h1
      rw [h2] at g1; cases g1; exact g2.lt
    let ι2 : Ren := fun i => if i < N then ι i else ι' (i - N)
    have e1 : ∀ i L, ι i = some L → ι2 i = some L := fun i L hi => by
      have : i < N := by
        rcases Nat.lt_or_ge i N with h | h
        · exact h
        · rw [hr.dom i h] at hi; cases hi
      show (if i < N then ι i else ι' (i - N)) = _
      rw [if_pos this]; exact hi
    have e2 : ∀ i L, ι' i = some L → ι2 (N + i) = some L := fun i L hi => by
      show (if N + i < N then ι (N + i) else ι' (N + i - N)) = _
      rw [if_neg (by omega), Nat.add_sub_cancel_left]; exact hi
    have hm : ∀ i b, mergeB N σ σ0 i = some b → (i < N ∧ σ i = some b) ∨ (N ≤ i ∧ ∃ b0, σ0 (i - N) = some b0 ∧ b = ⟨b0.cells.map (shiftB N), b0.own, b0.esz⟩) := fun i b hi => by
      unfold mergeB at hi
      split at hi
      · rename_i h; exact .inl ⟨h, hi⟩
      · rename_i h
        simp only [Option.map_eq_some_iff] at hi
        obtain ⟨b0, g1, g2⟩ := hi
        exact .inr ⟨by omega, b0, g1, g2.symm⟩
    have f1 : ∀ {i L}, i < N → ι2 i = some L → ι i = some L := fun {i L} hi h => by
      have : (if i < N then ι i else ι' (i - N)) = some L := h
      rwa [if_pos hi] at this
    have f2 : ∀ {i L}, N ≤ i → ι2 i = some L → ι' (i - N) = some L := fun {i L} hi h => by
      have : (if i < N then ι i else ι' (i - N)) = some L := h
      rwa [if_neg (by omega)] at this
    refine hk ι2 w' _ v' (N + N0) _ ⟨v, N0, σ0, hq, rfl, rfl, rfl⟩ (vrel_shift e2 hv hvr) ⟨fun i hi => ?_, fun i b hi => ?_, fun i j bi bj Li Lj hne hi hj hLi hLj ho => ?_⟩ ⟨e1, fun i hi => ?_, by omega, ht.os, ht.tape, ht.output, ht.size, fun β hβ _ => ?_, fun β hβ => ?_⟩
    · show (if i < N then ι i else ι' (i - N)) = _
      rw [if_neg (by omega)]; exact hr0.dom _ (by omega)
    · rcases hm i b hi with ⟨h1, h2⟩ | ⟨h1, b0, h2, rfl⟩
      · obtain ⟨L, g1, g2⟩ := hr1.blk i b h2
        exact ⟨L, e1 _ _ g1, g2.same e1 rfl⟩
      · obtain ⟨L, g1, g2⟩ := hr0.blk _ b0 h2
        refine ⟨L, by have := e2 _ _ g1; rwa [show N + (i - N) = i from by omega] at this, g2.esz, ?_⟩
        obtain ⟨c, e, fz, k1, k2, k3, k4, k5⟩ := g2.ex
        refine ⟨c, e, fz, k1, k2, by simpa using k3, k4, fun j v hj => ?_⟩
        simp only [List.getElem?_map, Option.map_eq_some_iff] at hj
        obtain ⟨x, hx, rfl⟩ := hj
        obtain ⟨x', hx', hxr⟩ := k5 j x hx
        exact ⟨x', hx', vrel_shift e2 ((hb _ b0 h2).2 x (List.mem_of_getElem? hx)) hxr⟩
    · rcases hm i bi hi with ⟨h1, h2⟩ | ⟨h1, b0, h2, rfl⟩ <;> rcases hm j bj hj with ⟨k1, k2⟩ | ⟨k1, c0, k2, rfl⟩
      · exact hr1.inj i j bi bj Li Lj hne h2 k2 (f1 h1 hLi) (f1 k1 hLj) ho
      · have a1 := hold i bi Li h2 (f1 h1 hLi)
        have a2 := hnew _ c0 Lj k2 (f2 k1 hLj)
        omega
      · have a1 := hold j bj Lj k2 (f1 k1 hLj)
        have a2 := hnew _ b0 Li h2 (f2 h1 hLi)
        omega
      · exact hr0.inj (i - N) (j - N) b0 c0 Li Lj (by omega) h2 k2 (f2 h1 hLi) (f2 k1 hLj) ho
    · show (if i < N then ι i else ι' (i - N)) = _
      rw [if_pos hi]
    · exact hbelow.block β hβ
    · obtain ⟨i, b, L, g1, g2, g3, g4⟩ := hβ
      rcases hm i b g1 with ⟨h1, h2⟩ | ⟨h1, b0, h2, rfl⟩
      · exact .inl ⟨i, b, L, h2, g2, f1 h1 g3, g4⟩
      · exact .inr (by rw [← g4]; exact hnew _ b0 L h2 (f2 h1 g3))

/-- A closed call, reckoned, with the memory that it makes. -/
def runH (P : Program) (M : Memo) (k : Nat) (f : FuncId) (args : List Value) : Option (Value × Nat × HeapT) := callWith P M (ev P M k) ctx0 f args 0 .leaf
theorem aok_runH {M : Memo} (hM : MemoOk P M) (k : Nat) {f : FuncId} {args : List Value} {v : Value} {N0 : Nat} {H : HeapT} (h : runH P M k f args = some (v, N0, H)) (ha : args.all flat = true) (bs : List Nat)
    (hv : okS v = true) (hH : ∀ i b, (keepT H bs).get i = some b → b.1.all okS = true) (N : Nat) (σ : AHeap) (hN : ∀ i b, σ i = some b → i < N) :
    AOk P f args N σ fun v' N' σ' => v' = shiftB N v ∧ N' = N + N0 ∧ σ' = mergeB N σ (view ctx0 (keepT H bs)) := by
  have hI : Inv ctx0 0 (.leaf : HeapT) := ⟨(fun j hj => by cases hj), (fun j hj => by cases hj), (fun j b hb => by cases hb)⟩
  obtain ⟨h1, _, _⟩ := ev_call hM k ctx0 f args 0 .leaf v N0 H hI (fun x hx => .of_flat (List.all_eq_true.1 ha x hx)) h
  have e0 : view ctx0 (.leaf : HeapT) = none0 := by funext j; rfl
  rw [e0] at h1
  have hle : (view ctx0 (keepT H bs)).le (view ctx0 H) := fun i b hb => by
    simp only [view] at hb ⊢
    cases hk : (keepT H bs).get i with
    | none => rw [hk] at hb; cases hb
    | some b2 => rw [hk] at hb; rw [keepT_get hk]; exact hb
  have h2 : AOk P f args 0 none0 fun v1 N1 σ1 => v1 = v ∧ N1 = N0 ∧ σ1 = view ctx0 (keepT H bs) := by
    intro ι w cargs R hr hargs hk
    refine h1 ι w cargs R hr hargs fun ι' w' v1 v' N' σ' ⟨q1, q2, q3⟩ hvr hr' ht => ?_
    have hl2 : (view ctx0 (keepT H bs)).le σ' := fun i b hb => q3 i b (hle i b hb)
    exact hk ι' w' v1 v' N' _ ⟨q1, q2, rfl⟩ hvr (hr'.forget hl2) ⟨ht.ext, ht.old, ht.le, ht.os, ht.tape, ht.output, ht.size, ht.frame, fun β ⟨i, b, L, g1, g2⟩ => ht.own β ⟨i, b, L, hl2 i b g1, g2⟩⟩
  refine (aok_shift h2 ha (fun v1 N1 σ1 ⟨q1, q2, q3⟩ => ?_) N σ hN).mono fun v' N' σ' ⟨v1, N1, σ1, ⟨q1, q2, q3⟩, g1, g2, g3⟩ => ⟨by rw [g1, q1], by rw [g2, q2], by rw [g3, q3]⟩
  subst q1; subst q3
  refine ⟨hv, fun i b hb => ?_⟩
  simp only [view] at hb
  cases hk : (keepT H bs).get i with
  | none => rw [hk] at hb; cases hb
  | some b2 =>
    rw [hk] at hb
    simp only [ctx0, cond_false, Option.map_some, Option.some.injEq] at hb
    subst hb
    exact ⟨rfl, fun x hx => List.all_eq_true.1 (hH i b2 hk) x hx⟩

/-! Rows of rows, read off a reckoned memory. -/
theorem keepT_mem {α : Type} {E : Trie α} : ∀ {ks : List Nat} {j : Nat} {v : α}, (keepT E ks).get j = some v → j ∈ ks
  | [], j, v, h => by cases h
  | k :: ks, j, v, h => by
    unfold keepT at h
    split at h
    · rw [Trie.put_get] at h
      split at h
      · rename_i e; subst e; exact List.mem_cons_self
      · exact List.mem_cons_of_mem _ (keepT_mem h)
    · exact List.mem_cons_of_mem _ (keepT_mem h)
def okH (H : HeapT) (bs : List Nat) : Bool := bs.all fun i => match H.get i with | some b => b.1.all okS | none => true
theorem okH_sound {H : HeapT} {bs : List Nat} (h : okH H bs = true) (i : Nat) (b : List Value × Nat) (hb : (keepT H bs).get i = some b) : b.1.all okS = true := by
  have := List.all_eq_true.1 h i (keepT_mem hb)
  rw [keepT_get hb] at this
  exact this
def rowOf (H : HeapT) : Value → Option (List Value)
  | .slice none 0 0 => some []
  | .slice (some ⟨i, off, none⟩) len _ => match H.get i with
    | some b => bif Nat.ble (off + len) b.1.length then some ((b.1.drop off).take len) else none
    | none => none
  | _ => none
theorem rowOf_sound {H : HeapT} {v : Value} {cs : List Value} (h : rowOf H v = some cs) (N : Nat) (σ : AHeap) : SlAt (mergeB N σ (view ctx0 H)) (shiftB N v) (cs.map (shiftB N)) := by
  unfold rowOf at h
  split at h
  · cases h; exact .inl ⟨rfl, rfl⟩
  · rename_i i off len cap
    split at h
    · rename_i b hb
      cases hc : Nat.ble (off + len) b.1.length with
      | false => rw [hc] at h; cases h
      | true =>
        rw [hc] at h
        simp only [cond_true, Option.some.injEq] at h
        subst h
        have hle := Nat.le_of_ble_eq_true hc
        have hv : view ctx0 H i = some ⟨b.1, true, b.2⟩ := by simp only [view, hb]; rfl
        refine .inr ⟨N + i, off, cap, _, ?_, merge_at hv, fun j x hx => ?_⟩
        · show Value.slice (some ⟨N + i, off, none⟩) len cap = _
          rw [List.length_map, List.length_take, List.length_drop, Nat.min_eq_left (by omega)]
        · simp only [List.getElem?_map, Option.map_eq_some_iff] at hx ⊢
          obtain ⟨y, hy, rfl⟩ := hx
          rw [List.getElem?_take] at hy
          split at hy
          · rw [List.getElem?_drop] at hy; exact ⟨y, hy, rfl⟩
          · cases hy
    · cases h
  · cases h
/-- A row of rows. -/
def RowRows (σ : AHeap) (v : Value) (rs : List (List Value)) : Prop := ∃ svs, SlAt σ v svs ∧ svs.length = rs.length ∧ ∀ (j : Nat) (sv : Value) (r : List Value), svs[j]? = some sv → rs[j]? = some r → SlAt σ sv r
theorem RowRows.mono {σ σ' : AHeap} {v : Value} {rs : List (List Value)} (h : RowRows σ v rs) (hl : σ.le σ') : RowRows σ' v rs := by
  obtain ⟨svs, h1, h2, h3⟩ := h
  exact ⟨svs, h1.mono hl, h2, fun j sv r g1 g2 => (h3 j sv r g1 g2).mono hl⟩
def rowsB (H : HeapT) : List Value → List (List Value) → Bool
  | [], [] => true
  | sv :: svs, r :: rs => (match rowOf H sv with | some cs => sameL cs r | none => false) && rowsB H svs rs
  | _, _ => false
theorem sameV_flat {u v : Value} (h : sameV u v = true) : flat0 u = true := by
  unfold sameV at h
  split at h
  · rfl
  · rfl
  · rfl
  · cases h
theorem sameL_flat : ∀ {us vs : List Value}, sameL us vs = true → ∀ N, us.map (shiftB N) = vs
  | [], [], _, _ => rfl
  | u :: us, v :: vs, h, N => by
    simp only [sameL, Bool.and_eq_true] at h
    rw [List.map_cons, sameL_flat h.2 N, shift_flat (sameV_flat h.1), sameV_eq h.1]
  | [], _ :: _, h, _ => by cases h
  | _ :: _, [], h, _ => by cases h
theorem rowsB_sound {H : HeapT} (N : Nat) (σ : AHeap) : ∀ {svs : List Value} {rs : List (List Value)}, rowsB H svs rs = true → svs.length = rs.length ∧ ∀ (j : Nat) (sv : Value) (r : List Value), (svs.map (shiftB N))[j]? = some sv → rs[j]? = some r → SlAt (mergeB N σ (view ctx0 H)) sv r
  | [], [], _ => ⟨rfl, fun j sv r h => by simp at h⟩
  | sv :: svs, r :: rs, h => by
    simp only [rowsB, Bool.and_eq_true] at h
    obtain ⟨h1, h2⟩ := h
    obtain ⟨q1, q2⟩ := rowsB_sound (H := H) N σ h2
    refine ⟨by simp [q1], fun j sv' r' g1 g2 => ?_⟩
    cases j with
    | zero =>
      simp at g1 g2
      subst g1; subst g2
      split at h1
      · rename_i cs hcs
        have := rowOf_sound hcs N σ
        rwa [sameL_flat h1 N] at this
      · cases h1
    | succ j => simp at g1 g2; exact q2 j sv' r' (by simpa using g1) g2
  | [], _ :: _, h => by cases h
  | _ :: _, [], h => by cases h
def idsOf : Value → List Nat
  | .slice (some ⟨i, _, none⟩) _ _ => [i]
  | .pointer (some ⟨i, _, none⟩) => [i]
  | _ => []
/-- The reckoned call yields these rows of rows. -/
def runRows (P : Program) (M : Memo) (k : Nat) (f : FuncId) (args : List Value) (rs : List (List Value)) : Bool :=
  match runH P M k f args with
  | some (v, _, H) => match rowOf H v with
    | some svs =>
      let bs := idsOf v ++ svs.flatMap idsOf
      let H' := keepT H bs
      okS v && (okH H bs && (match rowOf H' v with | some svs' => rowsB H' svs' rs | none => false))
    | none => false
  | none => false
theorem aok_runRows {M : Memo} (hM : MemoOk P M) {k : Nat} {f : FuncId} {args : List Value} {rs : List (List Value)} (h : runRows P M k f args rs = true) (ha : args.all flat = true) (N : Nat) (σ : AHeap) (hN : ∀ i b, σ i = some b → i < N) :
    AOk P f args N σ fun v N' σ' => RowRows σ' v rs ∧ N ≤ N' ∧ σ.le σ' := by
  unfold runRows at h
  split at h
  · rename_i v N0 H hrun
    split at h
    · rename_i svs hsv
      simp only [Bool.and_eq_true] at h
      obtain ⟨h1, h2, h3⟩ := h
      split at h3
      · rename_i svs' hs
        refine (aok_runH hM k hrun ha _ h1 (okH_sound h2) N σ hN).mono fun v' N' σ' ⟨e1, e2, e3⟩ => ?_
        obtain ⟨q1, q2⟩ := rowsB_sound N σ h3
        refine ⟨⟨svs'.map (shiftB N), ?_, by simp [q1], ?_⟩, by omega, by rw [e3]; exact merge_le hN⟩
        · rw [e1, e3]; exact rowOf_sound hs N σ
        · rw [e3]; exact q2
      · cases h3
    · cases h
  · cases h
end
end Go.Abs
