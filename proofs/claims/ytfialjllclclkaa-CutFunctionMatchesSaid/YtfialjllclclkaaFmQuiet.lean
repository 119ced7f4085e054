/- Shaken texts of the layer and of the walks. -/
import Derived.Test.YtfialjllclclkaaFmEval
namespace Go.Abs
open Go.RowKit (Below)
section
variable {r : Bool} {P : Program} {n : Nat} {env : Env} {N : Nat} {σ : AHeap} {ι : Ren}

open Classical in
noncomputable def ro (σ : AHeap) : AHeap := fun i => (σ i).bind fun b => if b.row then some ⟨b.cells, false, b.esz⟩ else none
theorem ro_some {σ : AHeap} {i : Nat} {b : Blk} (h : ro σ i = some b) : ∃ b0, σ i = some b0 ∧ b0.row ∧ b = ⟨b0.cells, false, b0.esz⟩ := by
  unfold ro at h
  rw [Option.bind_eq_some_iff] at h
  obtain ⟨b0, h1, h2⟩ := h
  split at h2
  · cases h2; exact ⟨b0, h1, by assumption, rfl⟩
  · cases h2
theorem ro_get {σ : AHeap} {i : Nat} {b : Blk} (h : σ i = some b) (hr : b.row) : ro σ i = some ⟨b.cells, false, b.esz⟩ := by
  unfold ro; rw [h, Option.bind_some, if_pos hr]
theorem Rel.ro {w : World} (h : Rel ι N σ w) : Rel ι N (ro σ) w := by
  refine ⟨h.dom, fun i b hb => ?_, fun i j bi bj Li Lj _ hi hj _ _ ho => ?_⟩
  · obtain ⟨b0, h0, hr, rfl⟩ := ro_some hb
    obtain ⟨L, h1, h2⟩ := h.blk i b0 h0
    refine ⟨L, h1, ?_⟩
    obtain ⟨k, hk⟩ := hr
    obtain ⟨q0, c, e, fz, q1, q2, q3, q4, q5⟩ := h2.rowOf hk
    exact .mk (by simp only [hk, q0]) ⟨c, e, fz, q1, q2, q3, fun hf => absurd hf (by simp), q5⟩
  · obtain ⟨b0, _, _, rfl⟩ := ro_some hi
    obtain ⟨b1, _, _, rfl⟩ := ro_some hj
    simp at ho
theorem Rel.below {w w' : World} (h : Rel ι N σ w) (hb : Below w.heap.size w w') : Rel ι N σ w' :=
  ⟨h.dom, fun i b hi => let ⟨L, h1, h2⟩ := h.blk i b hi; ⟨L, h1, h2.same (Ext.refl _) (hb.block _ h2.lt)⟩, h.inj⟩
theorem Tr.of_below {w w' : World} (hb : Below w.heap.size w w') : Tr ι N σ w ι N σ w' :=
  ⟨Ext.refl _, fun _ _ => rfl, Nat.le_refl _, hb.os, hb.tape, hb.output, hb.size, fun β h _ => hb.block β h, fun _ h => .inl h⟩

end
end Go.Abs

