/- Shaken texts of the layer and of the walks. -/
import Derived.Test.YtfialjllclclkaaFmMem
import Derived.Laws.MakeOwn
namespace Go.Abs
section
variable {r : Bool} {P : Program} {n : Nat} {env : Env} {N : Nat} {σ : AHeap} {ι : Ren}

def zeroA (P : Program) (t : TypeId) : Option Value := (P.info? t).bind (·.zero)

theorem VRels.of_flat {l : List Value} (h : l.all flat = true) : VRels ι l l :=
  ⟨rfl, fun i v v' a b => by rw [a] at b; cases b; exact .of_flat (List.all_eq_true.1 h v (List.mem_of_getElem? a))⟩

theorem step_new {o : Oper} {vs : List Value} {esz : Nat} {K : Value → Nat → AHeap → Prop}
    (hdf : ∀ c, o.op ≠ .defer c) (h : ∀ {ds : List Deferred} (ι : Ren) (a : Act), EnvRel ι n ds env a → ∃ c e, VRels ι vs c.toList ∧ ∀ w, (execOp a.eval o).run P w = .ok (.value (.pointer (some ⟨w.heap.size, 0, none⟩))) (w.alloc (.cells c e)))
    (k : K (.pointer (some ⟨N, 0, none⟩)) (N + 1) (σ.set N ⟨vs, true, esz⟩)) : StepQ P n o env N σ K := by
  intro F hF ds ι w a next Q he hr hq
  obtain ⟨c, e, h1, h2⟩ := h ι a he
  obtain ⟨r1, t1⟩ := rel_alloc hr vs esz c e fun j v hv => by
    obtain ⟨v', g1, g2⟩ := h1.get hv
    exact ⟨v', by rw [← Array.getElem?_toList]; exact g1, g2⟩
  refine wpIn_of_run hF hdf (h2 w) ?_
  refine hq _ _ _ _ _ _ k ?_ r1 t1
  exact VRel.ptr (L := ⟨w.heap.size, 0, c.size, esz⟩) (off := 0) (by simp [Ren.put])

theorem step_alloc {o : Oper} {t : TypeId} {z : Value} {K : Value → Nat → AHeap → Prop} (esz : Nat) (ho : o.op = .alloc t) (hz : zeroA P t = some z) (hf : (spread z).all flat = true)
    (k : K (.pointer (some ⟨N, 0, none⟩)) (N + 1) (σ.set N ⟨spread z, true, esz⟩)) : StepQ P n o env N σ K := by
  refine step_new (by rw [ho]; simp) (fun ι a he => ⟨z.cells, t, ?_, fun w => ?_⟩) k
  · have : z.cells.toList = spread z := by cases z <;> rfl
    rw [this]; exact .of_flat hf
  · obtain ⟨dst, op, type, pos, after, guard⟩ := o
    simp only at ho; subst ho
    simp only [zeroA, Option.bind_eq_some_iff] at hz
    obtain ⟨inf, h1, h2⟩ := hz
    simp [execOp, Instr.alloc, zeroValue, typeInfo, h1, h2, newVar, newRow]

theorem step_box {o : Oper} {t : TypeId} {x : Operand} {v : Value} {K : Value → Nat → AHeap → Prop} (esz : Nat) (ho : o.op = .box t x) (hx : env.eval x = some v)
    (k : K (.pointer (some ⟨N, 0, none⟩)) (N + 1) (σ.set N ⟨spread v, true, esz⟩)) : StepQ P n o env N σ K := by
  refine step_new (by rw [ho]; simp) (fun ι a he => ⟨(a.eval x).cells, t, (he.eval hx).cells, fun w => ?_⟩) k
  obtain ⟨dst, op, type, pos, after, guard⟩ := o
  simp only at ho; subst ho
  simp [execOp, Instr.box, newVar, newRow]

def fillA (place : Nat → Option (Nat × Nat)) (cells : List Value) : List (Nat × Value) → Option (List Value)
  | [] => some cells
  | (i, v) :: rest =>
    match place i with
    | none => none
    | some (off, size) => if (spread v).length = size ∧ off + size ≤ cells.length then fillA place (splice cells off (spread v)) rest else none

theorem foldl_set (off : Nat) : ∀ (vs : List Value) (k : Nat) (cs : Array Value), off + k + vs.length ≤ cs.size →
    (vs.zipIdx k).foldl (fun cs (c, j) => cs.setIfInBounds (off + j) c) cs = (splice cs.toList (off + k) vs).toArray
  | [], k, cs, _ => by simp [splice]
  | v :: vs, k, cs, h => by
    simp only [List.zipIdx_cons, List.foldl_cons]
    rw [foldl_set off vs (k + 1) _ (by simp at h ⊢; omega)]
    congr 1
    apply List.ext_getElem?
    intro j
    rw [splice_get (by simp at h ⊢; omega), splice_get (by simp at h ⊢; omega)]
    simp only [Array.toList_setIfInBounds, List.length_cons]
    by_cases h1 : off + (k + 1) ≤ j ∧ j < off + (k + 1) + vs.length
    · rw [if_pos h1, if_pos (by omega)]
      rw [show j - (off + k) = (j - (off + (k + 1))) + 1 from by omega]
      simp
    · rw [if_neg h1]
      by_cases h2 : j = off + k
      · subst h2
        rw [if_pos (by omega)]
        have : off + k < cs.size := by simp at h ⊢; omega
        simp [List.getElem?_set]
        exact this
      · rw [if_neg (by omega), List.getElem?_set_ne (by omega)]

theorem fill_rel {place : Nat → Option (Nat × Nat)} : ∀ (parts : List (Nat × Value)) (parts' : List (Nat × Value)) (cs : List Value) (ds : Array Value) (r : List Value),
    VRels ι cs ds.toList → parts.map (·.1) = parts'.map (·.1) → VRels ι (parts.map (·.2)) (parts'.map (·.2)) → fillA place cs parts = some r →
    ∃ r', Instr.fill place ds parts' = some r' ∧ VRels ι r r'.toList
  | [], parts', cs, ds, r, hc, h1, _, h => by
    cases parts' with
    | nil => cases h; exact ⟨ds, rfl, hc⟩
    | cons p l => simp at h1
  | (i, v) :: rest, parts', cs, ds, r, hc, h1, h2, h => by
    cases parts' with
    | nil => simp at h1
    | cons p rest' =>
      obtain ⟨i', v'⟩ := p
      simp only [List.map_cons, List.cons.injEq] at h1
      obtain ⟨rfl, h1⟩ := h1
      simp only [List.map_cons] at h2
      obtain ⟨y, ys, e, hy, hys⟩ := h2.uncons
      simp only [List.cons.injEq] at e
      obtain ⟨rfl, rfl⟩ := e
      simp only [fillA] at h
      simp only [Instr.fill]
      cases hp : place i with
      | none => simp [hp] at h
      | some os =>
        obtain ⟨off, size⟩ := os
        simp only [hp] at h ⊢
        split at h
        · rename_i hb
          obtain ⟨hb1, hb2⟩ := hb
          have hcell := hy.cells
          have hs : v'.cells.size = size := by rw [← hb1, hcell.1]; simp
          have hfit : off + size ≤ ds.size := by rw [hc.1] at hb2; simpa using hb2
          rw [if_neg (by simp [hs]; omega)]
          have hf := foldl_set off v'.cells.toList 0 ds (by simp [hs]; omega)
          have hf' : Array.foldl (fun cs (x : Value × Nat) => cs.setIfInBounds (off + x.2) x.1) ds v'.cells.zipIdx = (splice ds.toList off v'.cells.toList).toArray := by
            rw [← Array.foldl_toList, Array.toList_zipIdx]
            simpa using hf
          have := fill_rel rest rest' _ (splice ds.toList off v'.cells.toList).toArray r ?_ h1 hys h
          · obtain ⟨r', g1, g2⟩ := this
            refine ⟨r', ?_, g2⟩
            rw [← g1]
            congr 1
          · refine ⟨?_, fun j u u' a b => ?_⟩
            · rw [splice_length (by rw [hb1]; exact hb2)]
              rw [splice_length (by simp [hs]; omega), hc.1]
            · rw [splice_get (by rw [hb1]; exact hb2)] at a
              rw [splice_get (by simp [hs]; omega), ← hcell.1] at b
              split at a
              · rename_i hin; rw [if_pos hin] at b; exact hcell.2 _ _ _ a b
              · rename_i hin; rw [if_neg hin] at b; exact hc.2 _ _ _ a b
        · cases h

theorem step_build_struct {o : Oper} {t : TypeId} {parts : Array (Nat × Operand)} {fs : Array Field} {z : Value} {pl : List (Nat × Nat)} {ps : List (Nat × Value)} {r : List Value} {K : Value → Nat → AHeap → Prop}
    (ho : o.op = .build t parts) (hd : P.underlying t = some (.struct fs)) (hz : zeroA P t = some z) (hf : (spread z).all flat = true)
    (hpl : fs.toList.mapM (fun f => (sizeA P f.type).map fun s => (f.offset, s)) = some pl)
    (hps : parts.toList.mapM (fun p => (env.eval p.2).map fun v => (p.1, v)) = some ps)
    (hr : fillA (pl[·]?) (spread z) ps = some r) (k : K (.agg r.toArray) N σ) : StepQ P n o env N σ K := by
  refine step_value (by rw [ho]; simp) (fun ι a he => ?_) k
  have hcells : z.cells.toList = spread z := by cases z <;> rfl
  have hparts : ∀ (l : List (Nat × Operand)) (ps : List (Nat × Value)), l.mapM (fun p => (env.eval p.2).map fun v => (p.1, v)) = some ps →
      ps.map (·.1) = (l.map fun p => (p.1, a.eval p.2)).map (·.1) ∧ VRels ι (ps.map (·.2)) ((l.map fun p => (p.1, a.eval p.2)).map (·.2)) := by
    intro l
    induction l with
    | nil => intro ps h; simp at h; subst h; exact ⟨rfl, VRels.nil⟩
    | cons p l ih =>
      intro ps h
      simp only [List.mapM_cons] at h
      cases hv : env.eval p.2 with
      | none => simp [hv] at h
      | some v =>
        cases hl : l.mapM (fun p => (env.eval p.2).map fun v => (p.1, v)) with
        | none => simp [hv, hl] at h
        | some qs =>
          simp [hv, hl] at h
          subst h
          obtain ⟨e1, e2⟩ := ih qs hl
          exact ⟨by simp at e1 ⊢; exact e1, VRels.cons (he.eval hv) e2⟩
  obtain ⟨e1, e2⟩ := hparts _ _ hps
  have hrunpl : ∀ (l : List Field) (pl : List (Nat × Nat)), l.mapM (fun f => (sizeA P f.type).map fun s => (f.offset, s)) = some pl →
      ∀ w, (l.mapM (fun f => do pure (f.offset, ← sizeOf f.type) : Field → Sem (Nat × Nat))).run P w = .ok pl w := by
    intro l
    induction l with
    | nil => intro pl h w; simp at h; subst h; simp
    | cons f l ih =>
      intro pl h w
      simp only [List.mapM_cons] at h
      cases hs : sizeA P f.type with
      | none => simp [hs] at h
      | some s =>
        cases hl : l.mapM (fun f => (sizeA P f.type).map fun s => (f.offset, s)) with
        | none => simp [hs, hl] at h
        | some qs =>
          simp [hs, hl] at h
          subst h
          simp only [sizeA, Option.map_eq_some_iff] at hs
          obtain ⟨inf, h1, h2⟩ := hs
          have := ih qs hl w
          simp [List.mapM_cons, sizeOf, typeInfo, h1, h2] at this ⊢
          rw [this]; rfl
  obtain ⟨r', g1, g2⟩ := fill_rel ps (parts.toList.map fun p => (p.1, a.eval p.2)) (spread z) z.cells r (by rw [hcells]; exact VRels.of_flat hf) e1 e2 hr
  refine ⟨.agg r', fun w => ?_, .agg ?_ ?_⟩
  · obtain ⟨dst, op, type, pos, after, guard⟩ := o
    simp only at ho; subst ho
    simp only [zeroA, Option.bind_eq_some_iff] at hz
    obtain ⟨inf, h1, h2⟩ := hz
    have hm := hrunpl fs.toList pl hpl w
    have hm' : (fs.mapM (fun f => do pure (f.offset, ← sizeOf f.type) : Field → Sem (Nat × Nat))).run P w = .ok pl.toArray w := by
      rw [Array.mapM_eq_mapM_toList]
      simp only [Sem.run_map, hm, Result.andThen_ok]
    have hg : Instr.fill (fun x => pl.toArray[x]?) z.cells (Array.map (fun p => (p.1, a.eval p.2)) parts).toList = some r' := by
      rw [← g1]; simp
    simp only [execOp, Instr.build, Sem.run_bind, zeroValue, typeInfo, run_program, Result.andThen_ok, h1, Sem.run_pure, h2, run_underlying hd, hm']
    simp only [hg, Sem.run_pure, Result.andThen_ok]
  · simpa using g2.1
  · exact fun i v v' a b => g2.2 i v v' (by simpa using a) (by simpa using b)
end
end Go.Abs

