/- Shaken texts of the layer and of the walks. -/
import Derived.Test.YtfialjllclclkaaFmPure
import Derived.Laws.Cells
namespace Go.Abs
section
variable {r : Bool} {P : Program} {n : Nat} {env : Env} {N : Nat} {σ : AHeap} {ι : Ren}

def aggA (P : Program) (t : TypeId) : Option (Option Nat) :=
  match P.underlying t with
  | some (.struct _) | some (.array _ _) => (P.info? t).map fun i => some i.size
  | some _ => some none
  | none => none

def cellsA (b : Blk) (off m : Nat) : Option (List Value) := if off + m ≤ b.cells.length then some ((b.cells.drop off).take m) else none

def loadA (P : Program) (t : TypeId) (b : Blk) (off : Nat) : Option Value :=
  match aggA P t with
  | some none => b.cells[off]?
  | some (some m) => (cellsA b off m).map fun l => .agg l.toArray
  | none => none

theorem blk_cell {b : Blk} {L : Loc} {w : World} (h : BlkRel ι b L w) {off : Nat} {v : Value} (hv : b.cells[off]? = some v) :
    ∃ v', w.cell? ⟨L.blk, L.base + off, none⟩ = some v' ∧ VRel ι v v' := by
  have hne : b.cells ≠ [] := by rintro e; rw [e] at hv; simp at hv
  obtain ⟨c, e, fz, h1, h2, h3, h4, h5⟩ := h.ex ⟨_, h.rowC hne⟩
  obtain ⟨v', g1, g2⟩ := h5 off v hv
  exact ⟨v', by simp [World.cell?, h1, g1], g2⟩

theorem blk_cells {b : Blk} {L : Loc} {w : World} (h : BlkRel ι b L w) {off m : Nat} {l : List Value} (hl : cellsA b off m = some l) :
    ∃ l', l.length = m ∧ VRels ι l l' ∧ (∀ j v, l'[j]? = some v → w.cell? ⟨L.blk, L.base + off + j, none⟩ = some v) := by
  unfold cellsA at hl
  split at hl
  · rename_i hb
    cases hl
    by_cases hne : b.cells = []
    · rw [hne] at hb
      simp at hb
      obtain ⟨rfl, rfl⟩ := hb
      exact ⟨[], rfl, by rw [hne]; exact VRels.nil, fun j v hv => by simp at hv⟩
    obtain ⟨c, e, fz, h1, h2, h3, h4, h5⟩ := h.ex ⟨_, h.rowC hne⟩
    have hlen : ((b.cells.drop off).take m).length = m := by simp; omega
    refine ⟨(c.toList.drop (L.base + off)).take m, hlen, ⟨?_, fun j v v' a b' => ?_⟩, fun j v hv => ?_⟩
    · rw [hlen]; simp; omega
    · have hj : j < m := by have := (List.getElem?_eq_some_iff.1 a).1; omega
      simp only [List.getElem?_take, hj, if_true, List.getElem?_drop] at a b'
      obtain ⟨u, g1, g2⟩ := h5 _ _ a
      have : c.toList[L.base + off + j]? = some u := by rw [Array.getElem?_toList, Nat.add_assoc]; exact g1
      rw [this] at b'; cases b'; exact g2
    · have hj : j < m := by
        have := (List.getElem?_eq_some_iff.1 hv).1
        simp at this; omega
      simp only [List.getElem?_take, hj, if_true, List.getElem?_drop, Array.getElem?_toList] at hv
      simp [World.cell?, h1, hv]
  · cases hl

theorem run_loadA {t : TypeId} {b : Blk} {L : Loc} {w : World} {off : Nat} {v : Value} (h : BlkRel ι b L w) (hv : loadA P t b off = some v) :
    ∃ v', (∀ w2 : World, w2.heap[L.blk]? = w.heap[L.blk]? → (loadVar t ⟨L.blk, L.base + off, none⟩).run P w2 = .ok v' w2) ∧ VRel ι v v' := by
  unfold loadA at hv
  have agg : ∀ d, P.underlying t = some d → (d matches .struct _ | .array _ _) = true → ∀ i, P.info? t = some i → ∀ l, cellsA b off i.size = some l → v = .agg l.toArray →
      ∃ v', (∀ w2 : World, w2.heap[L.blk]? = w.heap[L.blk]? → (loadVar t ⟨L.blk, L.base + off, none⟩).run P w2 = .ok v' w2) ∧ VRel ι v v' := by
    intro d hd hm i hi l hl hve
    obtain ⟨l', g1, g2, g3⟩ := blk_cells h hl
    have hlen : l'.length = i.size := g2.1 ▸ g1
    refine ⟨.agg l'.toArray, fun w2 hw2 => ?_, ?_⟩
    · have hrun : (loadCells (⟨L.blk, L.base + off, none⟩ : Addr) i.size).run P w2 = .ok l'.toArray w2 := by
        rw [← hlen]
        exact run_loadCells_list w2 _ l' fun j v hv => by rw [Addr.add_plain, World.cell?, hw2]; exact g3 j v hv
      unfold loadVar
      cases d <;> simp at hm <;> simp [isAgg, run_underlying hd, sizeOf, typeInfo, hi, hrun]
    · subst hve; exact .agg g2.toArray.1 g2.toArray.2
  split at hv
  · rename_i hag
    obtain ⟨v', g1, g2⟩ := blk_cell h hv
    refine ⟨v', fun w2 hw2 => ?_, g2⟩
    have g1 : w2.cell? ⟨L.blk, L.base + off, none⟩ = some v' := by rw [World.cell?, hw2]; exact g1
    unfold aggA at hag
    split at hag
    · simp at hag
    · simp at hag
    · rename_i d n1 n2 hd
      unfold loadVar
      cases d <;> first
        | exact absurd rfl (n1 _)
        | exact absurd rfl (n2 _ _)
        | simp [isAgg, run_underlying hd, g1]
    · cases hag
  · rename_i m hag
    simp only [Option.map_eq_some_iff] at hv
    obtain ⟨l, hl, hve⟩ := hv
    unfold aggA at hag
    split at hag
    · rename_i fs hd
      simp only [Option.map_eq_some_iff, Option.some.injEq] at hag
      obtain ⟨i, hi, rfl⟩ := hag
      exact agg _ hd rfl i hi l hl hve.symm
    · rename_i m e hd
      simp only [Option.map_eq_some_iff, Option.some.injEq] at hag
      obtain ⟨i, hi, rfl⟩ := hag
      exact agg _ hd rfl i hi l hl hve.symm
    · simp at hag
    · cases hag
  · cases hv

theorem step_load {o : Oper} {t : TypeId} {x : Operand} {i off : Nat} {b : Blk} {v : Value} {K : Value → Nat → AHeap → Prop} (ho : o.op = .load t x)
    (hx : env.eval x = some (.pointer (some ⟨i, off, none⟩))) (hb : σ i = some b) (hv : loadA P t b off = some v) (k : K v N σ) : StepQ P n o env N σ K := by
  intro F hF ds ι w a next Q he hr hq
  obtain ⟨L, h1, h2⟩ := hr.blk i b hb
  obtain ⟨v', g1, g2⟩ := run_loadA h2 hv
  generalize hp : a.eval x = p
  have hx := hp ▸ he.eval hx
  cases hx with
  | ptr h3 =>
    rw [h1] at h3; cases h3
    have : (execOp a.eval o).run P w = .ok (.value v') w := by
      obtain ⟨dst, op, type, pos, after, guard⟩ := o
      simp only at ho; subst ho
      simp [execOp, Instr.loadAt, hp, Instr.sureAddr, g1 w rfl]
    refine wpIn_of_run hF (by rw [ho]; simp) this ?_
    exact hq ι w v v' N σ k g2 hr (Tr.refl _ _ _ _)

def spread : Value → List Value
  | .agg cs => cs.toList
  | v => [v]
def scal (v : Value) : Bool := v.oneCell'
theorem VRel.scal {v v' : Value} (h : VRel ι v v') : v'.oneCell' = v.oneCell' := by cases h <;> rfl
theorem VRel.cells {v v' : Value} (h : VRel ι v v') : VRels ι (spread v) v'.cells.toList := by
  cases h with
  | agg hs hh => exact ⟨by simpa [spread, Value.cells] using hs, fun i v v' a b => hh i v v' (by simpa [spread] using a) (by simpa [Value.cells] using b)⟩
  | bool b => exact VRels.cons (.bool b) VRels.nil
  | int k n => exact VRels.cons (.int k n) VRels.nil
  | float k b => exact VRels.cons (.float k b) VRels.nil
  | complex k x y => exact VRels.cons (.complex k x y) VRels.nil
  | str s => exact VRels.cons (.str s) VRels.nil
  | nilp => exact VRels.cons .nilp VRels.nil
  | ptr h => exact VRels.cons (.ptr h) VRels.nil
  | nils => exact VRels.cons .nils VRels.nil
  | slice h a b c d => exact VRels.cons (.slice h a b c d) VRels.nil
  | nilm => exact VRels.cons .nilm VRels.nil
  | map h => exact VRels.cons (.map h) VRels.nil
  | nilc => exact VRels.cons .nilc VRels.nil
  | nilf => exact VRels.cons .nilf VRels.nil
  | yield h => exact VRels.cons (.yield h) VRels.nil
  | func z a b c d => exact VRels.cons (.func z a b c d) VRels.nil
  | niface => exact VRels.cons .niface VRels.nil
  | iface h => exact VRels.cons (.iface h) VRels.nil
  | tuple a b => exact VRels.cons (.tuple a b) VRels.nil


def splice (l : List Value) (off : Nat) (vs : List Value) : List Value := l.take off ++ vs ++ l.drop (off + vs.length)
theorem splice_length {l vs : List Value} {off : Nat} (h : off + vs.length ≤ l.length) : (splice l off vs).length = l.length := by
  simp [splice]; omega
theorem splice_get {l vs : List Value} {off : Nat} (h : off + vs.length ≤ l.length) (j : Nat) :
    (splice l off vs)[j]? = if off ≤ j ∧ j < off + vs.length then vs[j - off]? else l[j]? := by
  unfold splice
  by_cases h1 : j < off
  · rw [List.getElem?_append_left (by simp; omega), List.getElem?_append_left (by simp; omega), List.getElem?_take, if_pos h1, if_neg (by omega)]
  · by_cases h2 : j < off + vs.length
    · rw [List.getElem?_append_left (by simp; omega), List.getElem?_append_right (by simp; omega), if_pos ⟨by omega, h2⟩]
      congr 1; simp; omega
    · rw [List.getElem?_append_right (by simp; omega), if_neg (by omega), List.getElem?_drop]
      congr 1; simp; omega

theorem run_storeA {w : World} (hr : Rel ι N σ w) {i : Nat} {b : Blk} {L : Loc} (hi : σ i = some b) (hL : ι i = some L) (ho : b.own = true)
    {off : Nat} {vs vs' : List Value} (hv : VRels ι vs vs') (hsc : ∀ v ∈ vs, v.oneCell' = true) (hfit : off + vs.length ≤ b.cells.length) :
    ∃ w', (storeCells ⟨L.blk, L.base + off, none⟩ vs').run P w = .ok () w' ∧ Rel ι N (σ.set i ⟨splice b.cells off vs, true, b.esz⟩) w' ∧ Tr ι N σ w ι N (σ.set i ⟨splice b.cells off vs, true, b.esz⟩) w' := by
  obtain ⟨L', h1, h2⟩ := hr.blk i b hi
  rw [hL] at h1; cases h1
  by_cases hne : b.cells = []
  · have hvs : vs = [] := List.eq_nil_of_length_eq_zero (by rw [hne, List.length_nil] at hfit; omega)
    subst hvs
    have hvs' : vs' = [] := hv.of_nil
    subst hvs'
    have hb : (⟨splice b.cells off [], true, b.esz⟩ : Blk) = b := by
      obtain ⟨c, o, z⟩ := b
      simp only at hne ho
      subst hne; subst ho
      simp [splice]
    have hs : σ.set i ⟨splice b.cells off [], true, b.esz⟩ = σ := by
      rw [hb]
      funext j
      unfold AHeap.set
      split
      · rename_i e; rw [e, hi]
      · rfl
    rw [hs]
    exact ⟨w, by simp [storeCells], hr, Tr.refl _ _ _ _⟩
  have hkk := h2.rowC hne
  obtain ⟨c, e, fz, g1, g2, g3, g4, g5⟩ := h2.ex ⟨_, hkk⟩
  have := g4 ho
  subst this
  have hsc' : ∀ v ∈ vs', v.oneCell' = true := by
    intro v' hv'
    obtain ⟨j, hj⟩ := List.getElem?_of_mem hv'
    have hlt : j < vs.length := by rw [hv.1]; exact (List.getElem?_eq_some_iff.1 hj).1
    have := hv.2 j _ v' (List.getElem?_eq_getElem hlt) hj
    rw [this.scal]; exact hsc _ (List.getElem_mem hlt)
  have hst := run_storeCells_at P L.blk (L.base + off) e vs' 0 c w g1 (by rw [← hv.1]; omega) hsc'
  simp only [Nat.add_zero] at hst
  refine ⟨_, hst, ?_⟩
  have hlen : (splice c.toList (L.base + off) vs').length = c.size := by rw [splice_length (by rw [← hv.1]; simp; omega)]; simp
  refine rel_write hr hi hL ho hkk _ (splice c.toList (L.base + off) vs').toArray e (setRow_heap w L.blk c _ e _ g1) (by simp [hlen, g2]) (by rw [splice_length hfit]; exact g3) (fun j v hj => ?_)
    (fun β hb => setRow_other w L.blk β _ hb) rfl rfl rfl (by simp [World.setRow])
  rw [splice_get hfit] at hj
  simp only [List.getElem?_toArray]
  rw [splice_get (by rw [← hv.1]; simp; omega), ← hv.1]
  split at hj
  · rename_i hin
    rw [if_pos (by omega), show L.base + j - (L.base + off) = j - off from by omega]
    exact hv.get hj
  · rename_i hin
    rw [if_neg (by omega)]
    obtain ⟨v', f1, f2⟩ := g5 j v hj
    exact ⟨v', by rw [Array.getElem?_toList]; exact f1, f2⟩

theorem step_store {o : Oper} {t : TypeId} {x y : Operand} {i off : Nat} {b : Blk} {v : Value} {K : Value → Nat → AHeap → Prop} (ho : o.op = .store t x y)
    (hx : env.eval x = some (.pointer (some ⟨i, off, none⟩))) (hb : σ i = some b) (hy : env.eval y = some v) (hown : b.own = true)
    (hsz : sizeA P t = some (spread v).length) (hsc : (spread v).all (·.oneCell') = true) (hfit : off + (spread v).length ≤ b.cells.length)
    (k : K undef N (σ.set i ⟨splice b.cells off (spread v), true, b.esz⟩)) : StepQ P n o env N σ K := by
  intro F hF ds ι w a next Q he hr hq
  obtain ⟨L, h1, _⟩ := hr.blk i b hb
  generalize hp : a.eval x = p
  have hx := hp ▸ he.eval hx
  have hyv := he.eval hy
  cases hx with
  | ptr h3 =>
    rw [h1] at h3; cases h3
    have hcs := hyv.cells
    obtain ⟨w', g1, g2, g3⟩ := run_storeA (P := P) hr hb h1 hown hcs (fun v hv => List.all_eq_true.1 hsc v hv) hfit
    have : (execOp a.eval o).run P w = .ok .skip w' := by
      obtain ⟨dst, op, type, pos, after, guard⟩ := o
      simp only at ho; subst ho
      simp only [sizeA, Option.map_eq_some_iff] at hsz
      obtain ⟨inf, hinf, hsz⟩ := hsz
      have hl : (a.eval y).cells.size = inf.size := by rw [hsz, hcs.1]; simp
      simp [execOp, Instr.storeAt, hp, Instr.sureAddr, storeVar, sizeOf, typeInfo, hinf, hl, g1]
    refine wpIn_of_run hF (by rw [ho]; simp) this ?_
    exact hq ι w' undef undef N _ k (.of_flat rfl) g2 g3
end
end Go.Abs

