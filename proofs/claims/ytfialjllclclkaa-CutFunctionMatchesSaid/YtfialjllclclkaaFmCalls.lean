/- Shaken texts of the layer and of the walks. -/
import Derived.Test.YtfialjllclclkaaFmGrow
import Derived.Deep.Quiet
namespace Go.Abs
section
variable {r : Bool} {P : Program} {n : Nat} {env : Env} {N : Nat} {σ : AHeap} {ι : Ren}

def lenA : Value → Option Nat
  | .slice _ m _ => some m
  | _ => none
def rootA : Value → Option (Option (Nat × Nat) × Nat)
  | .slice none 0 0 => some (none, 0)
  | .slice (some ⟨i, off, none⟩) m _ => some (some (i, off), m)
  | _ => none

def killA (σ : AHeap) : Option (Nat × Nat) → AHeap
  | none => σ
  | some (i, _) => σ.del i

theorem append_run {t ty e : TypeId} {inf : TypeInfo} {z : Value} (ht : P.underlying t = some (.slice e)) (hi : P.info? e = some inf) (hz : inf.zero = some z) (hzs : z.cells.size = inf.size)
    {w : World} (hr : Rel ι N σ w) {s x s' x' : Value} {root : Option (Nat × Nat)} {k m : Nat} {olds news : List Value}
    (hs : rootA s = some (root, k)) (hrs : VRel ι s s') (hrx : VRel ι x x') (hx : lenA x = some m) (hm : 0 < m)
    (ho : srcA σ inf.size s = some olds) (hn : srcA σ inf.size x = some news) (hsc : news.all (·.oneCell') = true)
    (hown : ∀ i off, root = some (i, off) → ∃ b, σ i = some b ∧ b.own = true ∧ b.esz = inf.size)
    (hb : (k + m) * inf.bytes ≤ 140737488355328) (h63 : k + m ≤ 140737488355328) :
    ∃ ι' v' w', (Builtin.append_ #[t, t] ty #[s', x']).run P w = .ok v' w' ∧ VRel ι' (.slice (some ⟨N, 0, none⟩) (k + m) (k + m)) v' ∧
      Rel ι' (N + 1) ((killA σ root).set N ⟨olds ++ news, true, inf.size⟩) w' ∧ Tr ι N σ w ι' (N + 1) ((killA σ root).set N ⟨olds ++ news, true, inf.size⟩) w' := by
  have hlx : Builtin.lenOf x = pure m := by
    cases x <;> simp only [lenA, Option.some.injEq, reduceCtorEq] at hx
    subst hx; rfl
  obtain ⟨hlx', news', hvn, hnl, hfn⟩ := src_rel (P := P) hr hn hrx hlx
  have hls : Builtin.lenOf s = pure k := by
    unfold rootA at hs
    split at hs
    · cases hs; rfl
    · cases hs; rfl
    · cases hs
  obtain ⟨hls', olds', hvo, hol, hfo⟩ := src_rel (P := P) hr ho hrs hls
  have hsc' : ∀ v ∈ news', v.oneCell' = true := by
    intro v' hv'
    obtain ⟨j, hj⟩ := List.getElem?_of_mem hv'
    have hlt : j < news.length := by rw [hvn.1]; exact (List.getElem?_eq_some_iff.1 hj).1
    have := hvn.2 j _ v' (List.getElem?_eq_getElem hlt) hj
    rw [this.scal]; exact List.all_eq_true.1 hsc _ (List.getElem_mem hlt)
  have hvall : VRels ι (olds ++ news) (olds' ++ news') := by
    refine ⟨by simp [hvo.1, hvn.1], fun j v v' a b => ?_⟩
    by_cases h : j < olds.length
    · rw [List.getElem?_append_left h] at a; rw [List.getElem?_append_left (hvo.1 ▸ h)] at b
      exact hvo.2 j v v' a b
    · rw [List.getElem?_append_right (by omega)] at a; rw [List.getElem?_append_right (by rw [← hvo.1]; omega)] at b
      rw [hvo.1] at a
      exact hvn.2 _ v v' a b
  -- a new array
  have grow : ∀ (sb : Option Addr) (sCap : Nat), s' = .slice sb k sCap → sCap < k + m →
      ∃ ι' v' w', (Builtin.append_ #[t, t] ty #[s', x']).run P w = .ok v' w' ∧ VRel ι' (.slice (some ⟨N, 0, none⟩) (k + m) (k + m)) v' ∧
      Rel ι' (N + 1) ((killA σ root).set N ⟨olds ++ news, true, inf.size⟩) w' ∧ Tr ι N σ w ι' (N + 1) ((killA σ root).set N ⟨olds ++ news, true, inf.size⟩) w' := by
    intro sb sCap hs' hg
    have hrun := run_append_new (ty := ty) ht hi hz hs' hlx' hfo hfn hg hb (by omega)
    have hcap := grownCap_ge w (k + m) sCap e
    have hsz : (olds'.toArray ++ news'.toArray ++ Builtin.zeroCells z.cells (grownCap w (k + m) sCap e - (k + m))).size = grownCap w (k + m) sCap e * inf.size := by
      simp only [Array.size_append, List.size_toArray, size_zeroCells, hzs, ← hvo.1, ← hvn.1, hol, hnl, ← Nat.add_mul]
      congr 1; omega
    obtain ⟨r1, t1⟩ := rel_alloc (hr.drawn (w.drawn + 1)) (olds ++ news) inf.size (olds'.toArray ++ news'.toArray ++ Builtin.zeroCells z.cells (grownCap w (k + m) sCap e - (k + m))) e (fun j v hv => by
      obtain ⟨v', g1, g2⟩ := hvall.get hv
      refine ⟨v', ?_, g2⟩
      rw [Array.getElem?_append_left (by have := (List.getElem?_eq_some_iff.1 g1).1; simp at this ⊢; omega)]
      simpa using g1)
    have hle : ((killA σ root).set N ⟨olds ++ news, true, inf.size⟩).le (σ.set N ⟨olds ++ news, true, inf.size⟩) := by
      intro i b hib
      unfold AHeap.set at hib ⊢
      split at hib
      · rename_i h; rw [if_pos h]; exact hib
      · rename_i h; rw [if_neg h]
        cases root with
        | none => exact hib
        | some p => simp only [killA, AHeap.del] at hib; split at hib <;> first | cases hib | exact hib
    refine ⟨_, _, _, hrun, ?_, r1.forget hle, ((Tr.drawn ι N σ w (w.drawn + 1)).trans t1).forget hle⟩
    refine VRel.slice (L := ⟨w.heap.size, 0, _, inf.size⟩) (off := 0) (by simp only [Ren.put, if_true]; rfl) (.inl (by simp)) (Nat.le_refl _) hcap ?_
    refine .inr ?_
    simp only [Nat.zero_add]
    rw [← hsz]
    exact Nat.le_refl _
  unfold rootA at hs
  split at hs
  · cases hs
    cases hrs
    exact grow none 0 rfl (by omega)
  · rename_i i off k' c
    cases hs
    cases hrs with
    | slice g1 g2 g3 g4 g5 =>
      rename_i x0 c' L
      by_cases hroom : k + m ≤ c'
      · obtain ⟨b, hbi, hbo, hbe⟩ := hown i off rfl
        obtain ⟨L', f1, f2⟩ := hr.blk i b hbi
        rw [g1] at f1; cases f1
        obtain ⟨cur, te, fz, q1, q2, q3, q4, q5⟩ := f2.ex ⟨_, hbe⟩
        have := q4 hbo
        subst this
        have g5 := g5.resolve_left (by omega)
        have hesz : L.esz = inf.size := f2.esz hbe
        have hfit : x0 + k * inf.size + news'.length ≤ cur.size := by
          rw [← hvn.1, hnl, q2]
          have : (k + m) * inf.size ≤ c' * inf.size := Nat.mul_le_mul_right _ hroom
          rw [Nat.add_mul] at this
          rw [hesz] at g5
          omega
        have hrun := run_append_at (ty := ty) ht hi q1 (x := x0) hlx' (hfn w rfl) hsc' hroom hfit
        have holds : ∀ j v, olds'[j]? = some v → cur[x0 + j]? = some v := by
          intro j v hj
          have hjl : j < k * inf.size := by rw [← hol, hvo.1]; exact (List.getElem?_eq_some_iff.1 hj).1
          have hk0 : k ≠ 0 := by rintro rfl; simp at hjl
          have hx0 : x0 = L.base + off := by rcases g2 with g2 | ⟨g2, _⟩ <;> omega
          simp only [srcA, if_neg hk0, hbi, Option.bind_some] at ho
          obtain ⟨l', p1, p2, p3⟩ := blk_cells f2 ho
          have hfo2 : (Builtin.firstCells inf.size k (.slice (some ⟨L.blk, x0, none⟩) k c')).run P w = .ok l'.toArray w := by
            simp only [Builtin.firstCells]
            rw [← p1, p2.1, hx0]
            exact run_loadCells_list w _ l' fun j u hu => by rw [Addr.add_plain]; exact p3 j u hu
          rw [hfo w rfl] at hfo2
          simp only [Result.ok.injEq, and_true] at hfo2
          have : olds' = l' := by simpa using congrArg Array.toList hfo2
          subst this
          have := p3 j v hj
          rw [hx0]
          simpa [World.cell?, q1] using this
        obtain ⟨r1, t1⟩ := rel_move hr hbi g1 hbo (by rw [hbe, hesz]) x0 (olds ++ news) (splice cur.toList (x0 + k * inf.size) news').toArray te (setRow_heap w L.blk cur _ te _ q1)
          (by simp only [List.size_toArray]; rw [splice_length (by simpa using hfit)]; simpa using q2)
          (by rw [List.length_append, hol, hnl]; have : (k + m) * inf.size ≤ c' * inf.size := Nat.mul_le_mul_right _ hroom; rw [Nat.add_mul] at this; rw [hesz] at g5; omega)
          (fun j v hj => by
            simp only [List.getElem?_toArray]
            rw [splice_get (by simpa using hfit)]
            by_cases h : j < olds.length
            · rw [List.getElem?_append_left h] at hj
              rw [if_neg (by omega)]
              obtain ⟨v', p1, p2⟩ := hvo.get hj
              exact ⟨v', by rw [Array.getElem?_toList]; exact holds j v' p1, p2⟩
            · rw [List.getElem?_append_right (by omega)] at hj
              have hlt := (List.getElem?_eq_some_iff.1 hj).1
              rw [if_pos (by rw [← hvn.1]; omega)]
              rw [show x0 + j - (x0 + k * inf.size) = j - olds.length from by omega]
              exact hvn.get hj)
          (fun β hβ => setRow_other w L.blk β _ hβ) rfl rfl rfl (by simp [World.setRow])
        rw [hbe] at r1 t1
        exact ⟨_, _, _, hrun, VRel.slice (L := ⟨L.blk, x0, L.n, L.esz⟩) (off := 0) (by simp [Ren.put]) (.inl (by simp)) (Nat.le_refl _) hroom (.inr g5), r1, t1⟩
      · exact grow _ c' rfl (by omega)
  · cases hs

theorem step_append {o : Oper} {t e : TypeId} {x y : Operand} {inf : TypeInfo} {z s u : Value} {root : Option (Nat × Nat)} {k m : Nat} {olds news : List Value} {K : Value → Nat → AHeap → Prop}
    (ho : o.op = .call { callee := .builtin .append, args := #[x, y], argTypes := #[t, t] })
    (ht : P.underlying t = some (.slice e)) (hi : P.info? e = some inf) (hz : inf.zero = some z) (hzs : z.cells.size = inf.size)
    (hx : env.eval x = some s) (hy : env.eval y = some u) (hs : rootA s = some (root, k)) (hu : lenA u = some m) (hm : 0 < m)
    (hol : srcA σ inf.size s = some olds) (hn : srcA σ inf.size u = some news) (hsc : news.all (·.oneCell') = true)
    (hown : ∀ i off, root = some (i, off) → ∃ b, σ i = some b ∧ b.own = true ∧ b.esz = inf.size)
    (hb : (k + m) * inf.bytes ≤ 140737488355328) (h63 : k + m ≤ 140737488355328)
    (kk : K (.slice (some ⟨N, 0, none⟩) (k + m) (k + m)) (N + 1) ((killA σ root).set N ⟨olds ++ news, true, inf.size⟩)) : StepQ P n o env N σ K := by
  intro F hF ds ι w a next Q he hr hq
  obtain ⟨ι', v', w', h1, h2, h3, h4⟩ := append_run (ty := o.type) ht hi hz hzs hr hs (he.eval hx) (he.eval hy) hu hm hol hn hsc hown hb h63
  have : (execOp a.eval o).run P w = .ok (.value v') w' := by
    obtain ⟨dst, op, type, pos, after, guard⟩ := o
    simp only at ho; subst ho
    simp [execOp, resolve, invoke, builtin, h1]
  refine wpIn_of_run hF (by rw [ho]; simp) this ?_
  exact hq ι' w' _ v' _ _ kk h2 h3 h4
theorem step_append_none {o : Oper} {t e : TypeId} {x y : Operand} {inf : TypeInfo} {s u : Value} {b : Option Addr} {k c : Nat} {K : Value → Nat → AHeap → Prop}
    (ho : o.op = .call { callee := .builtin .append, args := #[x, y], argTypes := #[t, t] })
    (ht : P.underlying t = some (.slice e)) (hi : P.info? e = some inf)
    (hx : env.eval x = some s) (hy : env.eval y = some u) (hs : s = .slice b k c) (hu : lenA u = some 0)
    (kk : K s N σ) : StepQ P n o env N σ K := by
  refine step_value (by rw [ho]; simp) (fun ι a he => ?_) kk
  refine ⟨a.eval x, fun w => ?_, he.eval hx⟩
  obtain ⟨dst, op, type, pos, after, guard⟩ := o
  simp only at ho; subst ho
  have h1 := he.eval hx
  have h2 := he.eval hy
  subst hs
  have h3 : ∃ b' c', a.eval y = .slice b' 0 c' := by
    cases u <;> simp only [lenA, Option.some.injEq, reduceCtorEq] at hu
    subst hu
    generalize a.eval y = q at h2
    cases h2 <;> exact ⟨_, _, rfl⟩
  obtain ⟨b', c', h3⟩ := h3
  have h4 : ∃ b2 c2, a.eval x = .slice b2 k c2 ∧ k ≤ c2 := by
    generalize a.eval x = q at h1
    cases h1 with
    | nils => exact ⟨_, _, rfl, Nat.le_refl _⟩
    | slice _ _ g3 g4 _ => exact ⟨_, _, rfl, Nat.le_trans g3 g4⟩
  obtain ⟨b2, c2, h4, h5⟩ := h4
  have hf : ∀ w, (Builtin.firstCells inf.size 0 (.slice b' 0 c')).run P w = .ok #[] w := by
    intro w; cases b' <;> simp [Builtin.firstCells, loadCells, loadCellsFrom]
  simp [execOp, resolve, invoke, builtin, h3, h4, Builtin.append_, run_underlying ht, sizeOf, typeInfo, hi, Builtin.lenOf, h5, hf]
  cases b2 <;> simp [storeCells]
end
end Go.Abs

