/- Abstract states over the machine: turns of a drawn region that build, or make a block. -/
import Derived.Test.YtbpjoamdcbbnnaaAbOwn
namespace Go.Abs
section
variable {P : Program} {n : Nat} {env : Env} {N : Nat} {σ : AHeap} {ops : Array Oper} {vals : List Value} {M N' : Nat} {st : (Nat → Bool) → AHeap} {S : Nat → Bool} {i : Nat} {o : Oper} {e : Env}

theorem turn_build_struct {t : TypeId} {fs : Array Field} {parts : Array (Nat × Operand)} {z : Value} {size bytes : Nat} {ps : List (Nat × Value)} {pl : List (Nat × Nat)} {r : List Value} (hk : Knows ops vals env S e) (hd : dstOk n o.dst = true) (hw : wantedA ops e o = some true)
    (ho : o.op = .build t parts) (hu : P.underlying t = some (.struct fs)) (hT : TyI P t z size bytes) (hf : (spread z).all flat = true)
    (hpl : fs.toList.mapM (fun f => (sizeA P f.type).map fun s => (f.offset, s)) = some pl)
    (hps : parts.toList.mapM (fun p => (e.eval p.2).map fun v => (p.1, v)) = some ps)
    (hr : fillA (pl[·]?) (spread z) ps = some r) (hv : vals.getD i undef = .agg r.toArray) (hst : st (upd S i) = st S) : Turn P n ops vals env M N' st S i o := by
  obtain ⟨inf, h1, h2, h3, h4⟩ := hT.ex
  exact ⟨e, hk, hd, .inl ⟨hw, step_build_struct ho hu (by simp [zeroA, h1, h2]) hf hpl hps hr ⟨hv.symm, rfl, by rw [hst]; exact AHeap.le_refl _⟩⟩⟩
/-- A new block, of the name that stands for its operation. -/
theorem new_block {b : Blk} (hfl : b.cells.all flat = true) (hlt : ∀ j b', st S j = some b' → j < N') (hst : st (upd S i) = (st S).set (M + i) b) :
    ∃ b0, ((st S).set N' b) N' = some b0 ∧ b0.cells.all flat = true ∧ st (upd S i) (M + i) = some b0 ∧ ∀ j b', j ≠ M + i → st (upd S i) j = some b' → st S j = some b' ∧ ((st S).set N' b) j = some b' := by
  refine ⟨b, AHeap.set_self _ _ _, hfl, by rw [hst, AHeap.set_self], fun j b' hj hb' => ?_⟩
  rw [hst, AHeap.set_ne _ _ hj] at hb'
  have := hlt j b' hb'
  exact ⟨hb', by rw [AHeap.set_ne _ _ (by omega)]; exact hb'⟩
theorem turn_alloc {t : TypeId} {z : Value} {size bytes : Nat} (esz : Nat) (hk : Knows ops vals env S e) (hd : dstOk n o.dst = true) (hw : wantedA ops e o = some true)
    (ho : o.op = .alloc t) (hT : TyI P t z size bytes) (hf : (spread z).all flat = true) (hv : vals.getD i undef = .pointer (some ⟨M + i, 0, none⟩))
    (hlt : ∀ j b', st S j = some b' → j < N') (hst : st (upd S i) = (st S).set (M + i) ⟨spread z, true, esz⟩) : Turn P n ops vals env M N' st S i o := by
  obtain ⟨inf, h1, h2, h3, h4⟩ := hT.ex
  exact ⟨e, hk, hd, .inr (.inr ⟨hw, step_alloc esz ho (by simp [zeroA, h1, h2]) hf ⟨rfl, .inl ⟨rfl, hv⟩, new_block hf hlt hst⟩⟩)⟩
/-- A call that makes a row. -/
theorem turn_row {args : Array Operand} {argTypes : Array TypeId} {g : FuncId} {vs : List Value} {len cap : Nat} {b : Blk} (hk : Knows ops vals env S e) (hd : dstOk n o.dst = true) (hw : wantedA ops e o = some true)
    (ho : o.op = .call { callee := .value (.func g), args, argTypes }) (ha : args.toList.mapM e.eval = some vs) (hc : callableB P g = true)
    (h : AOk P g vs N' (st S) fun v N1 σ1 => v = .slice (some ⟨N', 0, none⟩) len cap ∧ N1 = N' + 1 ∧ σ1 = (st S).set N' b) (hf : b.cells.all flat = true) (hv : vals.getD i undef = .slice (some ⟨M + i, 0, none⟩) len cap)
    (hlt : ∀ j b', st S j = some b' → j < N') (hst : st (upd S i) = (st S).set (M + i) b) : Turn P n ops vals env M N' st S i o :=
  ⟨e, hk, hd, .inr (.inr ⟨hw, step_call ho rfl ha hc (by
    have h' : AOk P g (#[].toList ++ vs ++ #[].toList) N' (st S) fun v N1 σ1 => v = .slice (some ⟨N', 0, none⟩) len cap ∧ N1 = N' + 1 ∧ σ1 = (st S).set N' b := by simpa using h
    refine h'.mono fun v N1 σ1 ⟨h1, h2, h3⟩ => ⟨h2, .inr ⟨len, cap, h1, hv⟩, ?_⟩
    rw [h3]; exact new_block hf hlt hst)⟩)⟩
end
end Go.Abs
