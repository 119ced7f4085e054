/- Shaken texts of the layer and of the walks. -/
import Derived.Test.YtfialjllclclkaaFmMake
import Derived.IntWalk
namespace Go.Abs
section
variable {r : Bool} {P : Program} {n : Nat} {env : Env} {N : Nat} {σ : AHeap} {ι : Ren}

theorem step_newrow {o : Oper} {vs : List Value} {len esz : Nat} {K : Value → Nat → AHeap → Prop} (hlen : len * esz ≤ vs.length)
    (hdf : ∀ c, o.op ≠ .defer c) (h : ∀ {ds : List Deferred} (ι : Ren) (a : Act), EnvRel ι n ds env a → ∃ c e, VRels ι vs c.toList ∧ ∀ w, (execOp a.eval o).run P w = .ok (.value (.slice (some ⟨w.heap.size, 0, none⟩) len len)) (w.alloc (.cells c e)))
    (k : K (.slice (some ⟨N, 0, none⟩) len len) (N + 1) (σ.set N ⟨vs, true, esz⟩)) : StepQ P n o env N σ K := by
  intro F hF ds ι w a next Q he hr hq
  obtain ⟨c, e, h1, h2⟩ := h ι a he
  obtain ⟨r1, t1⟩ := rel_alloc hr vs esz c e fun j v hv => by
    obtain ⟨v', g1, g2⟩ := h1.get hv
    exact ⟨v', by rw [← Array.getElem?_toList]; exact g1, g2⟩
  refine wpIn_of_run hF hdf (h2 w) ?_
  refine hq _ _ _ _ _ _ k ?_ r1 t1
  exact VRel.slice (L := ⟨w.heap.size, 0, c.size, esz⟩) (off := 0) (by simp [Ren.put]) (.inl (by simp)) (Nat.le_refl _) (Nat.le_refl _) (.inr (by have := h1.1; simp at this ⊢; omega))

def zerosA (z : List Value) (m : Nat) : List Value := (List.range m).map fun i => z.getD (i % z.length) undef

theorem partsA {ds : List Deferred} {a : Act} (he : EnvRel ι n ds env a) : ∀ (l : List (Nat × Operand)) (ps : List (Nat × Value)), l.mapM (fun p => (env.eval p.2).map fun v => (p.1, v)) = some ps →
      ps.map (·.1) = (l.map fun p => (p.1, a.eval p.2)).map (·.1) ∧ VRels ι (ps.map (·.2)) ((l.map fun p => (p.1, a.eval p.2)).map (·.2)) := by
  intro l
  induction l with
  | nil => intro ps h; simp at h; subst h; exact ⟨rfl, VRels.nil⟩
  | cons p l ih =>
    intro ps h
    simp only [List.mapM_cons] at h
    cases hv : env.eval p.2 with
    | none => simp [hv] at h
    | some v =>
      cases hl : l.mapM (fun p => (env.eval p.2).map fun v => (p.1, v)) with
      | none => simp [hv, hl] at h
      | some qs =>
        simp [hv, hl] at h
        subst h
        obtain ⟨e1, e2⟩ := ih qs hl
        exact ⟨by simp at e1 ⊢; exact e1, VRels.cons (he.eval hv) e2⟩

theorem cells_spread (z : Value) : z.cells.toList = spread z := by cases z <;> rfl

theorem zeros_rel {z : Value} (hf : (spread z).all flat = true) (m : Nat) (hm : m ≠ 0 → spread z ≠ []) :
    VRels ι (zerosA (spread z) m) ((Array.range m).map (z.cells[· % z.cells.size]!)).toList := by
  have hc := cells_spread z
  have hs : z.cells.size = (spread z).length := by rw [← hc]; simp
  refine ⟨by simp [zerosA], fun j v v' a b => ?_⟩
  have hj : j < m := by have := (List.getElem?_eq_some_iff.1 a).1; simpa [zerosA] using this
  have hpos : 0 < (spread z).length := List.length_pos_iff.2 (hm (by omega))
  simp only [zerosA, List.getElem?_map, List.getElem?_range hj, Option.map_some, Option.some.injEq] at a
  simp only [Array.toList_map, Array.toList_range, List.getElem?_map, List.getElem?_range hj, Option.map_some, Option.some.injEq] at b
  subst a; subst b
  have hlt : j % (spread z).length < (spread z).length := Nat.mod_lt _ hpos
  have e : z.cells[j % z.cells.size]! = (spread z)[j % (spread z).length] := by
    rw [getElem!_pos _ _ (by rw [hs]; exact hlt)]
    simp only [← hc, hs, Array.getElem_toList]
  rw [e, List.getD_eq_getElem?_getD, List.getElem?_eq_getElem hlt, Option.getD_some]
  exact .of_flat (List.all_eq_true.1 hf _ (List.getElem_mem hlt))

theorem step_buildSlice {o : Oper} {t e : TypeId} {len : Nat} {parts : Array (Nat × Operand)} {inf : TypeInfo} {z : Value} {ps : List (Nat × Value)} {r : List Value} {K : Value → Nat → AHeap → Prop}
    (ho : o.op = .buildSlice t len parts) (hd : P.underlying t = some (.slice e)) (hi : P.info? e = some inf) (hz : inf.zero = some z) (hf : (spread z).all flat = true) (hne : (spread z).length = inf.size) (hp : 0 < inf.size)
    (hsmall : len * inf.size ≤ 16777216)
    (hps : parts.toList.mapM (fun p => (env.eval p.2).map fun v => (p.1, v)) = some ps)
    (hr : fillA (fun i => some (i * inf.size, inf.size)) (zerosA (spread z) (len * inf.size)) ps = some r) (hrl : len * inf.size ≤ r.length)
    (k : K (.slice (some ⟨N, 0, none⟩) len len) (N + 1) (σ.set N ⟨r, true, inf.size⟩)) : StepQ P n o env N σ K := by
  refine step_newrow hrl (by rw [ho]; simp) (fun ι a he => ?_) k
  obtain ⟨e1, e2⟩ := partsA he _ _ hps
  have hzr := zeros_rel (ι := ι) hf (len * inf.size) (fun _ h => by rw [h] at hne; simp at hne; omega)
  obtain ⟨r', g1, g2⟩ := fill_rel ps (parts.toList.map fun p => (p.1, a.eval p.2)) _ _ r hzr e1 e2 hr
  refine ⟨r', e, g2, fun w => ?_⟩
  obtain ⟨dst, op, type, pos, after, guard⟩ := o
  simp only at ho; subst ho
  have hg : Instr.fill (fun i => some (i * inf.size, inf.size)) ((Array.range (len * inf.size)).map (z.cells[· % z.cells.size]!)) (Array.map (fun p => (p.1, a.eval p.2)) parts).toList = some r' := by
    rw [← g1]; simp
  have hnot : ¬ (len * inf.size > 2 ^ 24) := by omega
  by_cases h0 : len * inf.size = 0
  · have hg' : Instr.fill (fun i => some (i * inf.size, inf.size)) #[] (Array.map (fun p => (p.1, a.eval p.2)) parts).toList = some r' := by
      have r0 : Array.range 0 = #[] := rfl
      rw [h0, r0, Array.map_empty] at hg; exact hg
    simp only [Array.toList_map] at hg'
    simp [execOp, Instr.buildSlice, run_underlying hd, sizeOf, typeInfo, hi, h0, show Array.range 0 = #[] from rfl, hg', newRow]
  · simp [execOp, Instr.buildSlice, run_underlying hd, sizeOf, typeInfo, hi, hnot, h0, zeroValue, hz]
    simp only [Array.toList_map] at hg
    simp [hg, newRow]

theorem step_makeSlice {o : Oper} {t e : TypeId} {x y : Operand} {k1 k2 : IntKind} {len : Nat} {inf : TypeInfo} {z : Value} {K : Value → Nat → AHeap → Prop}
    (ho : o.op = .makeSlice t x y) (hd : P.underlying t = some (.slice e)) (hi : P.info? e = some inf) (hz : inf.zero = some z) (hf : (spread z).all flat = true) (hne : (spread z).length = inf.size) (hp : 0 < inf.size)
    (hx : env.eval x = some (.int k1 len)) (hy : env.eval y = some (.int k2 len)) (hsmall : len ≤ 9223372036854775807) (hb : inf.bytes * len ≤ 140737488355328)
    (k : K (.slice (some ⟨N, 0, none⟩) len len) (N + 1) (σ.set N ⟨zerosA (spread z) (len * inf.size), true, inf.size⟩)) : StepQ P n o env N σ K := by
  refine step_newrow (by simp [zerosA]) (by rw [ho]; simp) (fun ι a he => ?_) k
  have hx := (he.eval hx).int_inv
  have hy := (he.eval hy).int_inv
  have hzr := zeros_rel (ι := ι) hf (len * inf.size) (fun _ h => by rw [h] at hne; simp at hne; omega)
  refine ⟨_, e, hzr, fun w => ?_⟩
  obtain ⟨dst, op, type, pos, after, guard⟩ := o
  simp only at ho; subst ho
  have hw : IntKind.i64.wrap (len : Int) = len := IntWalk.i64_in _ (by omega)
  have hnb : ¬ ((inf.bytes : Int) * len > 2 ^ 48) := by
    have : ((inf.bytes * len : Nat) : Int) = (inf.bytes : Int) * len := by simp
    omega
  have hneg : ¬ ((len : Int) < 0) := by omega
  by_cases h0 : len * inf.size = 0
  · have hl0 : len = 0 := by rcases Nat.mul_eq_zero.1 h0 with h | h <;> omega
    subst hl0
    simp only [Int.natCast_zero] at hx hy
    have hw0 : IntKind.i64.wrap 0 = 0 := IntWalk.i64_in _ (by omega)
    simp [execOp, Instr.makeSlice, run_underlying hd, hx, hy, asInt, asIntOf, typeInfo, hi, hw0, sizeOf, newRow, show Array.range 0 = #[] from rfl]
  · simp [execOp, Instr.makeSlice, run_underlying hd, hx, hy, asInt, asIntOf, typeInfo, hi, hw, hneg, sizeOf, zeroValue, hz, newRow]
    simp at hnb
    simp [Int.not_lt.2 hnb]
    exact fun h => absurd h h0

theorem step_build_array {o : Oper} {t e : TypeId} {m : Nat} {parts : Array (Nat × Operand)} {z : Value} {inf : TypeInfo} {ps : List (Nat × Value)} {r : List Value} {K : Value → Nat → AHeap → Prop}
    (ho : o.op = .build t parts) (hd : P.underlying t = some (.array m e)) (hz : zeroA P t = some z) (hf : (spread z).all flat = true) (hi : P.info? e = some inf)
    (hps : parts.toList.mapM (fun p => (env.eval p.2).map fun v => (p.1, v)) = some ps)
    (hr : fillA (fun i => some (i * inf.size, inf.size)) (spread z) ps = some r) (k : K (.agg r.toArray) N σ) : StepQ P n o env N σ K := by
  refine step_value (by rw [ho]; simp) (fun ι a he => ?_) k
  obtain ⟨e1, e2⟩ := partsA he _ _ hps
  obtain ⟨r', g1, g2⟩ := fill_rel ps (parts.toList.map fun p => (p.1, a.eval p.2)) (spread z) z.cells r (by rw [cells_spread]; exact VRels.of_flat hf) e1 e2 hr
  refine ⟨.agg r', fun w => ?_, .agg ?_ ?_⟩
  · obtain ⟨dst, op, type, pos, after, guard⟩ := o
    simp only at ho; subst ho
    simp only [zeroA, Option.bind_eq_some_iff] at hz
    obtain ⟨inf', h1, h2⟩ := hz
    have hg : Instr.fill (fun i => some (i * inf.size, inf.size)) z.cells (Array.map (fun p => (p.1, a.eval p.2)) parts).toList = some r' := by
      rw [← g1]; simp
    simp only [execOp, Instr.build, Sem.run_bind, zeroValue, typeInfo, run_program, Result.andThen_ok, h1, Sem.run_pure, h2, run_underlying hd, sizeOf, hi]
    simp only [hg, Sem.run_pure, Result.andThen_ok]
  · simpa using g2.1
  · exact fun i v v' a b => g2.2 i v v' (by simpa using a) (by simpa using b)

def srcA (σ : AHeap) (size : Nat) : Value → Option (List Value)
  | .slice none 0 0 => some []
  | .slice (some ⟨i, off, none⟩) m _ => if m = 0 then some [] else (σ i).bind fun b => cellsA b off (m * size)
  | _ => none

theorem src_rel {w : World} (hr : Rel ι N σ w) {size m : Nat} {v v' : Value} {l : List Value} (h : srcA σ size v = some l) (hv : VRel ι v v') (hm : Builtin.lenOf v = pure m) :
    Builtin.lenOf v' = pure m ∧ ∃ l', VRels ι l l' ∧ l.length = m * size ∧ ∀ w2 : World, w2.heap = w.heap → (Builtin.firstCells size m v').run P w2 = .ok l'.toArray w2 := by
  unfold srcA at h
  split at h
  · cases h
    cases hv
    refine ⟨hm, [], VRels.nil, ?_, fun w2 _ => rfl⟩
    simp [Builtin.lenOf] at hm
    have := congrArg (fun s : Sem Nat => s.run P w) hm
    simp at this
    simp [← this]
  · rename_i i off k c
    cases hv with
    | slice h1 h2 h3 h4 h5 =>
      rename_i x c' L
      have hk : k = m := by
        simp [Builtin.lenOf] at hm
        have := congrArg (fun s : Sem Nat => s.run P w) hm
        simpa using this
      subst hk
      refine ⟨rfl, ?_⟩
      split at h
      · rename_i h0
        subst h0
        cases h
        exact ⟨[], VRels.nil, by simp, fun w2 _ => by simp [Builtin.firstCells, loadCells, loadCellsFrom]⟩
      · rename_i h0
        simp only [Option.bind_eq_some_iff] at h
        obtain ⟨b, hb, hc⟩ := h
        obtain ⟨L', g1, g2⟩ := hr.blk i b hb
        rw [h1] at g1; cases g1
        obtain ⟨l', f1, f2, f3⟩ := blk_cells g2 hc
        refine ⟨l', f2, f1, fun w2 hw2 => ?_⟩
        have hx : x = L.base + off := by rcases h2 with h2 | ⟨h2, _⟩ <;> omega
        subst hx
        simp only [Builtin.firstCells]
        rw [← f1, f2.1]
        exact run_loadCells_list w2 _ l' fun j u hu => by rw [Addr.add_plain, World.cell?, hw2]; exact f3 j u hu
  · cases h

theorem run_append_at {t ty e : TypeId} {inf : TypeInfo} (ht : P.underlying t = some (.slice e)) (hi : P.info? e = some inf) {w : World}
    {g x sLen sCap : Nat} {cur : Array Value} {te : TypeId} (hg : w.heap[g]? = some (.cells cur te (0, 0))) {src : Value} {m : Nat} {news : List Value}
    (hlen : Builtin.lenOf src = pure m) (hf : (Builtin.firstCells inf.size m src).run P w = .ok news.toArray w) (h1 : ∀ u ∈ news, u.oneCell' = true)
    (hroom : sLen + m ≤ sCap) (hfit : x + sLen * inf.size + news.length ≤ cur.size) :
    (Builtin.append_ #[t, t] ty #[.slice (some ⟨g, x, none⟩) sLen sCap, src]).run P w =
      .ok (.slice (some ⟨g, x, none⟩) (sLen + m) sCap) (w.setRow g (splice cur.toList (x + sLen * inf.size) news).toArray) := by
  have hst := run_storeCells_at P g (x + sLen * inf.size) te news 0 cur w hg (by simpa using hfit) h1
  simp only [Nat.add_zero] at hst
  simp [Builtin.append_, run_underlying ht, sizeOf, typeInfo, hi, hlen, hroom, hf, Addr.add_plain, hst, splice]

theorem run_append_new {t ty e : TypeId} {inf : TypeInfo} {z : Value} (ht : P.underlying t = some (.slice e)) (hi : P.info? e = some inf) (hz : inf.zero = some z) {w : World}
    {s src : Value} {sb : Option Addr} {sLen sCap m : Nat} {olds news : List Value} (hs : s = .slice sb sLen sCap)
    (hlen : Builtin.lenOf src = pure m) (hfo : ∀ w', w'.heap = w.heap → (Builtin.firstCells inf.size sLen s).run P w' = .ok olds.toArray w') (hf : ∀ w', w'.heap = w.heap → (Builtin.firstCells inf.size m src).run P w' = .ok news.toArray w')
    (hg : sCap < sLen + m) (hb : (sLen + m) * inf.bytes ≤ 140737488355328) (h63 : sLen + m ≤ 9223372036854775807) :
    (Builtin.append_ #[t, t] ty #[s, src]).run P w =
      .ok (.slice (some ⟨w.heap.size, 0, none⟩) (sLen + m) (grownCap w (sLen + m) sCap e))
        (w.drew.alloc (.cells (olds.toArray ++ news.toArray ++ Builtin.zeroCells z.cells (grownCap w (sLen + m) sCap e - (sLen + m))) e)) := by
  subst hs
  have hn : ¬ (sLen + m ≤ sCap) := by omega
  have h63' : ¬ (9223372036854775807 < ((sLen : Int) + (m : Int))) := by omega
  have h48' : ¬ (281474976710656 < Builtin.nextslicecap (sLen + m) sCap * inf.bytes) := by have := growslice_fits (bytes := inf.bytes) hg hb; omega
  simp [Builtin.append_, run_underlying ht, sizeOf, typeInfo, zeroValue, hi, hz, hlen, hn, h63', h48', Question.forced, hf w.drew rfl, hfo w.drew rfl, newRow, grownCap]
  congr 2
  apply Array.ext'
  simp [List.append_assoc]
end
end Go.Abs

