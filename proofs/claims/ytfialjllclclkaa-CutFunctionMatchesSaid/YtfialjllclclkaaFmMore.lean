/- Shaken texts of the layer and of the walks. -/
import Derived.Test.YtfialjllclclkaaFmOwn
import Derived.Lib.AppendZeros
namespace Go.Abs
section
variable {P : Program} {n : Nat} {env : Env} {N : Nat} {σ : AHeap} {ι : Ren}

theorem zeroCells_rel {z : Value} (hf : (spread z).all flat = true) (m : Nat) (hne : spread z ≠ []) : VRels ι (zerosA (spread z) m) ((List.range m).map fun i => (spread z).getD (i % (spread z).length) undef) :=
  VRels.of_flat (l := zerosA (spread z) m) (List.all_eq_true.2 fun x hx => by
    simp only [zerosA, List.mem_map] at hx
    obtain ⟨i, _, rfl⟩ := hx
    have : i % (spread z).length < (spread z).length := Nat.mod_lt _ (List.length_pos_iff.2 hne)
    rw [List.getD_eq_getElem?_getD, List.getElem?_eq_getElem this]
    exact List.all_eq_true.1 hf _ (List.getElem_mem this))
theorem zeroCells_list (z : Value) (m : Nat) : (Builtin.zeroCells z.cells m).toList = zerosA (spread z) (m * z.cells.size) := by
  have hz : z.cells.toList = spread z := by cases z <;> rfl
  have hl : (spread z).length = z.cells.size := by rw [← hz]; simp
  unfold Builtin.zeroCells zerosA
  rw [hl]
  simp only [Array.toList_map, Array.toList_range]
  apply List.ext_getElem?
  intro i
  simp only [List.getElem?_map]
  rcases Nat.lt_or_ge i (m * z.cells.size) with h | h
  · rw [List.getElem?_range h]
    have hpos : 0 < z.cells.size := by
      rcases Nat.eq_zero_or_pos z.cells.size with h0 | h0
      · rw [h0] at h; omega
      · exact h0
    have hlt := Nat.mod_lt i hpos
    simp [← hz, hlt]
  · rw [List.getElem?_eq_none (by simpa using h)]
    rfl
theorem step_clear {o : Oper} {t e : TypeId} {x : Operand} {inf : TypeInfo} {z : Value} {i off m c : Nat} {b : Blk} {K : Value → Nat → AHeap → Prop}
    (ho : o.op = .call { callee := .builtin .clear, args := #[x], argTypes := #[t] }) (ht : P.underlying t = some (.slice e)) (hi : P.info? e = some inf) (hz : inf.zero = some z) (hzs : z.cells.size = inf.size)
    (hf : (spread z).all flat = true) (hne : spread z ≠ []) (hsc : (spread z).all (·.oneCell') = true) (hx : env.eval x = some (.slice (some ⟨i, off, none⟩) m c)) (hm : 0 < m) (hb : σ i = some b) (hown : b.own = true)
    (hfit : off + m * inf.size ≤ b.cells.length) (kk : K (.tuple #[]) N (σ.set i ⟨splice b.cells off (zerosA (spread z) (m * inf.size)), true, b.esz⟩)) : StepQ P n o env N σ K := by
  intro F hF ds ι w a next Q he hr hq
  obtain ⟨L, h1, _⟩ := hr.blk i b hb
  generalize hp : a.eval x = p
  have hx' := hp ▸ he.eval hx
  cases hx' with
  | slice g1 g2 g3 g4 g5 =>
    rename_i x0 c' L'
    rw [h1] at g1; cases g1
    have hx0 : x0 = L.base + off := by rcases g2 with g2 | ⟨g2, _⟩ <;> omega
    subst hx0
    have hrel := zeroCells_rel (ι := ι) hf (m * inf.size) hne
    have hlen : (zerosA (spread z) (m * inf.size)).length = m * inf.size := by simp [zerosA]
    obtain ⟨w', q1, q2, q3⟩ := run_storeA (P := P) (vs' := zerosA (spread z) (m * inf.size)) hr hb h1 hown hrel (fun v hv => by
      simp only [zerosA, List.mem_map] at hv
      obtain ⟨j, _, rfl⟩ := hv
      have : j % (spread z).length < (spread z).length := Nat.mod_lt _ (List.length_pos_iff.2 hne)
      rw [List.getD_eq_getElem?_getD, List.getElem?_eq_getElem this]
      exact List.all_eq_true.1 hsc _ (List.getElem_mem this)) (by rw [hlen]; exact hfit)
    have hrun : (execOp a.eval o).run P w = .ok (.value (.tuple #[])) w' := by
      obtain ⟨dst, op, type, pos, after, guard⟩ := o
      simp only at ho; subst ho
      obtain ⟨m', rfl⟩ : ∃ m', m = m' + 1 := ⟨m - 1, by omega⟩
      simp [execOp, resolve, invoke, builtin, hp, Builtin.clear_, run_underlying ht, zeroValue, typeInfo, hi, hz, zeroCells_list, hzs, q1]
    refine wpIn_of_run hF (by rw [ho]; simp) hrun ?_
    exact hq ι w' _ _ _ _ kk (.of_flat rfl) q2 q3
theorem step_clear_none {o : Oper} {t e : TypeId} {x : Operand} {v : Value} {K : Value → Nat → AHeap → Prop}
    (ho : o.op = .call { callee := .builtin .clear, args := #[x], argTypes := #[t] }) (ht : P.underlying t = some (.slice e)) (hx : env.eval x = some v) (hm : lenA v = some 0) (kk : K (.tuple #[]) N σ) : StepQ P n o env N σ K := by
  refine step_value (by rw [ho]; simp) (fun ι a he => ⟨.tuple #[], fun w => ?_, .of_flat rfl⟩) kk
  obtain ⟨dst, op, type, pos, after, guard⟩ := o
  simp only at ho; subst ho
  generalize hp : a.eval x = p
  have hx' := hp ▸ he.eval hx
  cases v <;> simp only [lenA, Option.some.injEq, reduceCtorEq] at hm
  subst hm
  cases hx' <;> simp [execOp, resolve, invoke, builtin, hp, Builtin.clear_, run_underlying ht]
theorem step_append_zeros {o : Oper} {t tn e : TypeId} {x y : Operand} {k kn : IntKind} {inf : TypeInfo} {z : Value} {m : Nat} {K : Value → Nat → AHeap → Prop}
    (ho : o.op = .call { callee := .builtin .append, args := #[x, y], argTypes := #[t, tn] }) (ht : P.underlying t = some (.slice e)) (htn : P.underlying tn = some (.int kn)) (hi : P.info? e = some inf) (hz : inf.zero = some z) (hzs : z.cells.size = inf.size)
    (hf : (spread z).all flat = true) (hne : spread z ≠ []) (hx : env.eval x = some (.slice none 0 0)) (hy : env.eval y = some (.int k m)) (hm : 0 < m) (h63 : m ≤ 9223372036854775807) (h48 : m * inf.bytes ≤ 281474976710656)
    (kk : K (.slice (some ⟨N, 0, none⟩) m m) (N + 1) (σ.set N ⟨zerosA (spread z) (m * inf.size), true, inf.size⟩)) : StepQ P n o env N σ K := by
  intro F hF ds ι w a next Q he hr hq
  have hsz : 0 < inf.size := by
    rw [← hzs]
    have hzl : z.cells.toList = spread z := by cases z <;> rfl
    rcases Nat.eq_zero_or_pos z.cells.size with h | h
    · exact absurd (by rw [← hzl]; exact List.eq_nil_of_length_eq_zero (by simpa using h)) hne
    · exact h
  have hxv := (flat_iff (ι := ι) (v := .slice none 0 0) rfl).1 (he.eval hx)
  have hyv := (flat_iff (ι := ι) (v := .int k m) rfl).1 (he.eval hy)
  have hrun := Lib.run_append_nil_zeros (P := P) w t tn o.type e inf z k kn ht htn hi hz m hm hsz (by omega) h48
  have hcap := grownCap_ge w m 0 e
  obtain ⟨r1, t1⟩ := rel_alloc (hr.drawn (w.drawn + 1)) (zerosA (spread z) (m * inf.size)) inf.size (Builtin.zeroCells z.cells m ++ Builtin.zeroCells z.cells (grownCap w m 0 e - m)) e (fun j v hv => by
    obtain ⟨v', g1, g2⟩ := (zeroCells_rel (ι := ι) hf (m * inf.size) hne).get hv
    refine ⟨v', ?_, g2⟩
    have hl : (Builtin.zeroCells z.cells m).toList = zerosA (spread z) (m * inf.size) := by rw [zeroCells_list, hzs]
    have g1 : (zerosA (spread z) (m * inf.size))[j]? = some v' := g1
    rw [← hl, Array.getElem?_toList] at g1
    rw [Array.getElem?_append_left (Array.getElem?_eq_some_iff.1 g1).1]
    exact g1)
  have hrun2 : (execOp a.eval o).run P w = .ok (.value (.slice (some ⟨w.heap.size, 0, none⟩) m (grownCap w m 0 e))) (w.drew.alloc (.cells (Builtin.zeroCells z.cells m ++ Builtin.zeroCells z.cells (grownCap w m 0 e - m)) e)) := by
    obtain ⟨dst, op, type, pos, after, guard⟩ := o
    simp only at ho hrun; subst ho
    simp only [execOp, resolve, invoke, builtin, Sem.run_bind, Sem.run_pure, Result.andThen_ok, List.map_toArray, List.map_cons, List.map_nil, hxv, hyv, hrun]
  refine wpIn_of_run hF (by rw [ho]; simp) hrun2 ?_
  refine hq _ _ _ _ _ _ kk ?_ r1 ((Tr.drawn ι N σ w (w.drawn + 1)).trans t1)
  refine VRel.slice (L := ⟨w.heap.size, 0, _, inf.size⟩) (off := 0) (by simp only [Ren.put, if_true]; rfl) (.inl (by simp)) (Nat.le_refl _) hcap (.inr ?_)
  have s1 : ∀ k, (Builtin.zeroCells z.cells k).size = k * inf.size := fun k => by
    rw [← Array.length_toList, zeroCells_list, hzs]; simp [zerosA]
  simp only [Nat.zero_add, Array.size_append, s1, ← Nat.add_mul]
  exact Nat.mul_le_mul_right _ (by omega)
end
end Go.Abs

