/- Shaken texts of the layer and of the walks. -/
import Derived.Test.YtfialjllclclkaaFmTb
namespace Go.Abs
section
variable {r : Bool} {P : Program} {n : Nat} {env : Env} {N : Nat} {σ : AHeap} {ops : Array Oper} {N0 : Nat} {Wt : Nat → Nat → Prop} {M : List Nat} {Nf : Nat → Nat} {K : Env → AHeap → Prop}

theorem parts_keep {o : Oper} {e : Env} : ∀ (parts : List (Nat × Operand)) (ps : List (Nat × Value)), (parts.mapM fun p => (e.eval p.2).map fun v => (p.1, v)) = some ps → (∀ p ∈ parts, p.2 ∈ o.op.operands.toList) →
    (parts.mapM fun p => ((e.keep (slotsOf ops o)).eval p.2).map fun v => (p.1, v)) = some ps
  | [], ps, h, _ => by simpa using h
  | p :: parts, ps, h, hm => by
    simp only [List.mapM_cons] at h ⊢
    cases hy : e.eval p.2 with
    | none => simp [hy] at h
    | some v =>
      cases hl : parts.mapM fun p => (e.eval p.2).map fun v => (p.1, v) with
      | none => simp [hy, hl] at h
      | some us =>
        simp [hy, hl] at h
        subst h
        rw [eval_keep (hm p (by simp)) hy, parts_keep parts us hl fun q hq => hm q (by simp [hq])]
        rfl
theorem tb_build {i : Nat} {o : Oper} {l : List Oper} {t : TypeId} {fs : Array Field} {parts : Array (Nat × Operand)} {z : Value} {size bytes : Nat} {ps : List (Nat × Value)} {pl : List (Nat × Nat)} {r : List Value}
    (ho : o.op = .build t parts) (hw : wantedA ops env o = some true) (hd : dstOk n o.dst = true) (hu : P.underlying t = some (.struct fs)) (hT : TyI P t z size bytes) (hf : (spread z).all flat = true)
    (hpl : fs.toList.mapM (fun f => (sizeA P f.type).map fun s => (f.offset, s)) = some pl)
    (hps : parts.toList.mapM (fun p => (env.eval p.2).map fun v => (p.1, v)) = some ps)
    (hr : fillA (pl[·]?) (spread z) ps = some r) (hN : Nf (i + 1) = Nf i)
    (k : TB P n ops N0 Wt M Nf K (i + 1) l (env.put o.dst (.agg r.toArray)) σ) : TB P n ops N0 Wt M Nf K i (o :: l) env σ := by
  obtain ⟨inf, h1, h2, h3, h4⟩ := hT.ex
  have hps' := parts_keep (ops := ops) (o := o) parts.toList ps hps fun p hp => by rw [ho]; simp [Op.operands]; exact ⟨p.1, by simpa using hp⟩
  exact tb_read hd hw hN (fun _ => False) (fun _ h => h.elim) (fun m => step_build_struct ho hu (by simp [zeroA, h1, h2]) hf hpl hps' hr ⟨rfl, rfl⟩) k
end
end Go.Abs

