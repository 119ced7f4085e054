/- Shaken texts of the layer and of the walks. -/
import Derived.Test.YtfialjllclclkaaFmRow
import Derived.WideKeyArgs
import Derived.WideKeyArr2
import Derived.ChangeSlices
namespace Go.Abs
open Go.ChangeShapes Go.WideShapes Go.ChangeAt Go.RowKit Go.WideMaps
section
variable {H : Type} {enc : TypeId × Value → H} {P : Program}

theorem trodAll_stays (hl : laidOutB P = true) {W W' : World} (hb : Below W.heap.size W W') : ∀ {ts : List TypeId} {vs : List Value} {ds : List (DataW H)} {ps : List MemPlace}, (ts.all fun t => P.readableRec t && decide (t < P.types.size)) = true →
    DataW.TrodAll enc P W 0 (fun _ => true) true ts vs ds ps → (∀ x ∈ ps, x.block < W.heap.size) → ∀ sp : Nat → Bool, (∀ x ∈ ps, sp x.block = true) → DataW.TrodAll enc P W' 0 sp true ts vs ds ps
  | [], vs, ds, ps, _, h, _, _, _ => by
    obtain ⟨rfl, rfl, rfl⟩ := trodAll_nil h
    exact h
  | t :: ts, vs, ds, ps, ht, h, hlt, sp, hs => by
    obtain ⟨v, vs', d, ds', p, q, rfl, rfl, rfl, h1, h2⟩ := trodAll_cons h
    rw [List.all_cons, Bool.and_eq_true, Bool.and_eq_true, decide_eq_true_eq] at ht
    exact ⟨p, q, WideElems.Trod_stays hl ht.1.1 ht.1.2 h1 (fun x hx => hb.same (hlt x (by simp [hx]))) (fun x hx => hs x (by simp [hx])),
      trodAll_stays hl hb ht.2 h2 (fun x hx => hlt x (by simp [hx])) sp (fun x hx => hs x (by simp [hx])), rfl⟩

def ArgRow (w : World) (v : Value) (cells : List Value) (esz : Nat) : Prop :=
  (v = .slice none 0 0 ∧ cells = []) ∨
  ∃ (a : Addr) (len cap : Nat) (c : Array Value) (e : TypeId) (fz : Nat × Nat), v = .slice (some a) len cap ∧ a.spot = none ∧ len ≤ cap ∧ cells.length = cap * esz ∧ w.heap[a.block]? = some (.cells c e fz) ∧
    (∀ x ∈ cells, flat x = true) ∧ (cells ≠ [] → a.off + cap * esz ≤ c.size ∧ ∀ (j : Nat) (x : Value), cells[j]? = some x → c[a.off + j]? = some x)
def absS (i : Nat) : Value → Value
  | .slice (some _) len cap => .slice (some ⟨i, 0, none⟩) len cap
  | v => v
def sizeOf? (w : World) (b : Nat) : Nat := match w.heap[b]? with
  | some (.cells c _ _) => c.size
  | _ => 0
def locOf (w : World) (r : Value × List Value × Nat) : Option Loc := match r.1 with
  | .slice (some a) _ _ => some ⟨a.block, if r.2.1 = [] then 0 else a.off, sizeOf? w a.block, r.2.2⟩
  | _ => none
def rowsRen (w : World) (rs : List (Value × List Value × Nat)) : Ren := fun i => (rs[i]?).bind (locOf w)
def rowsHeap (rs : List (Value × List Value × Nat)) : AHeap := fun i => (rs[i]?).bind fun r => match r.1 with
  | .slice (some _) _ _ => some ⟨r.2.1, false, r.2.2⟩
  | _ => none
theorem rel_rows {w : World} {rs : List (Value × List Value × Nat)} (h : ∀ r ∈ rs, ArgRow w r.1 r.2.1 r.2.2) : Rel (rowsRen w rs) rs.length (rowsHeap rs) w := by
  refine ⟨fun i hi => by simp [rowsRen, List.getElem?_eq_none hi], fun i b hb => ?_, fun i j bi bj Li Lj _ hi hj _ _ ho => ?_⟩
  · simp only [rowsHeap, Option.bind_eq_some_iff] at hb
    obtain ⟨r, hr, hb⟩ := hb
    obtain ⟨v, cells, esz⟩ := r
    rcases h _ (List.mem_of_getElem? hr) with ⟨h1, _⟩ | ⟨a, len, cap, c, e, fz, h1, h2, h3, h4, h5, h6, h7⟩
    · simp only at h1; subst h1; simp at hb
    · simp only at h1 h4 h6 h7; subst h1
      simp only [Option.some.injEq] at hb
      subst hb
      have hsz : sizeOf? w a.block = c.size := by simp [sizeOf?, h5]
      refine ⟨⟨a.block, if cells = [] then 0 else a.off, c.size, esz⟩, by simp [rowsRen, hr, locOf, hsz], rfl, c, e, fz, h5, rfl, ?_, fun ho => by simp at ho, fun j x hx => ?_⟩
      · by_cases he : cells = []
        · subst he; simp
        · rw [if_neg he, h4]; exact (h7 he).1
      · have hne : cells ≠ [] := by rintro rfl; simp at hx
        rw [if_neg hne]
        exact ⟨x, (h7 hne).2 j x hx, .of_flat (h6 x (List.mem_of_getElem? hx))⟩
  · simp only [rowsHeap, Option.bind_eq_some_iff] at hi hj
    obtain ⟨r, _, hi⟩ := hi
    obtain ⟨r', _, hj⟩ := hj
    split at hi
    · cases hi
      split at hj
      · cases hj; simp at ho
      · cases hj
    · cases hi
theorem vrel_row {w : World} {rs : List (Value × List Value × Nat)} {i : Nat} {v : Value} {cells : List Value} {esz : Nat} (hi : rs[i]? = some (v, cells, esz)) (he : 0 < esz) (h : ArgRow w v cells esz) : VRel (rowsRen w rs) (absS i v) v := by
  rcases h with ⟨h1, _⟩ | ⟨a, len, cap, c, e, fz, h1, h2, h3, h4, h5, h6, h7⟩
  · subst h1; exact .nils
  · subst h1
    obtain ⟨b, o, sp⟩ := a
    simp only at h2; subst h2
    have hsz : sizeOf? w b = c.size := by simp [sizeOf?, h5]
    refine VRel.slice (L := ⟨b, if cells = [] then 0 else o, c.size, esz⟩) (off := 0) (by simp [rowsRen, hi, locOf, hsz]) ?_ h3 (Nat.le_refl _) ?_
    · by_cases hc : cells = []
      · subst hc
        have : cap = 0 := by
          rcases Nat.eq_zero_or_pos cap with h | h
          · exact h
          · have := Nat.mul_pos h he; simp at h4; omega
        exact .inr ⟨by omega, this⟩
      · rw [if_neg hc]; exact .inl rfl
    · by_cases hc : cells = []
      · subst hc
        rcases Nat.eq_zero_or_pos cap with h | h
        · exact .inl h
        · have := Nat.mul_pos h he; simp at h4; omega
      · exact .inr (h7 hc).1
theorem slAt_row {w : World} {rs : List (Value × List Value × Nat)} {i : Nat} {v : Value} {cells : List Value} (hi : rs[i]? = some (v, cells, 1)) (h : ArgRow w v cells 1) :
    ∃ b len cap, v = .slice b len cap ∧ SlAt (rowsHeap rs) (absS i v) (cells.take len) ∧ (cells.take len).length = len := by
  rcases h with ⟨h1, h2⟩ | ⟨a, len, cap, c, e, fz, h1, h2, h3, h4, h5, h6, h7⟩
  · subst h1; subst h2
    exact ⟨_, _, _, rfl, .inl ⟨rfl, rfl⟩, rfl⟩
  · subst h1
    have hl : (cells.take len).length = len := by rw [List.length_take, h4]; omega
    refine ⟨_, _, _, rfl, .inr ⟨i, 0, cap, ⟨cells, false, 1⟩, by rw [hl]; rfl, by simp [rowsHeap, hi]; rfl, fun j x hx => ?_, rfl⟩, hl⟩
    rw [Nat.zero_add]
    rw [List.getElem?_take] at hx
    split at hx
    · exact hx
    · cases hx
theorem calls_rows {f : FuncId} {args : List Value} {cargs : Array Value} (rs : List (Value × List Value × Nat)) {w : World} (hrs : ∀ r ∈ rs, ArgRow w r.1 r.2.1 r.2.2) (hv : VRels (rowsRen w rs) args cargs.toList)
    (h : AOk P f args rs.length (rowsHeap rs) fun v _ _ => v = .bool true) :
    Calls P f cargs w fun e w' => e = .returned (.bool true) ∧ Below w.heap.size w w' := by
  refine h (rowsRen w rs) w cargs _ (rel_rows hrs) hv fun ι' w' v v' N' σ' hv hr _ ht => ?_
  subst hv
  have := (flat_iff (v := .bool true) rfl).1 hr
  subst this
  refine ⟨rfl, ht.below fun i b h => ?_⟩
  simp only [rowsHeap, Option.bind_eq_some_iff] at h
  obtain ⟨r, _, h⟩ := h
  split at h
  · cases h; rfl
  · cases h
theorem row_ints {t e : TypeId} {k : IntKind} {fuel : Nat} {r : Reach} {b0 : Nat} {W : World} {base : Nat} {held : Bool} {v : Value} {x : DataW H × List MemPlace} (ht : P.underlying t = some (.slice e)) (he : P.underlying e = some (.int k)) (hc : P.cellsOf e = 1)
    (hval : Cell.okWide P W r b0 t v) (h : DataW.trod enc P W base (fun _ => true) held fuel t [v] = some x) :
    ∃ zs : List Int, ArgRow W v (zs.map fun z => Value.int k z) 1 ∧ (∀ z ∈ zs, (Lit.int k z).wf = true) ∧ zs.length ≤ maxLen := by
  rcases open_ints ht he hc h with ⟨h1, _⟩ | ⟨a, len, cap, zs, h1, h2, h3, h4, h5, _, h7, h8⟩
  · simp only [List.cons.injEq, and_true] at h1
    exact ⟨[], .inl ⟨h1, rfl⟩, by simp, by simp⟩
  · simp only [List.cons.injEq, and_true] at h1
    subst h1
    simp only [if_true] at h5
    have hok : a.spot = none ∧ ∃ c e fz, W.heap[a.block]? = some (.cells c e fz) := by
      unfold Cell.okWide at hval
      rw [ht] at hval
      simp only [Cell.ok, ht] at hval
      obtain ⟨_, _, hh⟩ := hval
      obtain ⟨_, hs, row, n, hsh, _⟩ := hh
      refine ⟨hs, ?_⟩
      unfold World.shape? at hsh
      split at hsh
      · rename_i c e fz hc; exact ⟨c, e, fz, hc⟩
      · cases hsh
    obtain ⟨hs, c, e', fz, hcell⟩ := hok
    refine ⟨zs, .inr ⟨a, len, cap, c, e', fz, rfl, hs, h3, by simp [h5], hcell, fun x hx => ?_, fun hne => ?_⟩, h8, by omega⟩
    · simp only [List.mem_map] at hx
      obtain ⟨z, _, rfl⟩ := hx; rfl
    · obtain ⟨b, o, sp⟩ := a
      simp only at hs; subst hs
      have key : ∀ j, j < zs.length → c[o + j]? = some (.int k (zs.getD j 0)) := fun j hj => by
        have := h7 j hj
        rw [Addr.add_plain] at this
        simpa [World.cell?, hcell] using this
      have hpos : 0 < zs.length := by
        rcases Nat.eq_zero_or_pos zs.length with h | h
        · exact absurd (by rw [List.eq_nil_of_length_eq_zero h]; rfl) hne
        · exact h
      refine ⟨?_, fun j x hx => ?_⟩
      · have := (Array.getElem?_eq_some_iff.1 (key (zs.length - 1) (by omega))).1
        simp only
        omega
      · simp only [List.getElem?_map, Option.map_eq_some_iff] at hx
        obtain ⟨z, hz, rfl⟩ := hx
        have hj := (List.getElem?_eq_some_iff.1 hz).1
        rw [key j hj, List.getD_eq_getElem?_getD, hz]; rfl
theorem okWide_cells {t : TypeId} {fs : Array Field} {ts : List TypeId} {W : World} {r : Reach} {b0 : Nat} {cs : Array Value} (hu : P.underlying t = some (.struct fs)) (hts : P.cellTypes P.depth t = some ts) (h : Value.okWide P W r b0 t (.agg cs)) :
    ∀ (i : Nat) (v : Value), cs[i]? = some v → ∃ u, ts[i % ts.length]? = some u ∧ Cell.okWide P W r b0 u v := by
  simp only [Value.okWide, hu] at h
  obtain ⟨cs', h1, _, ts', h3, _, h4⟩ := h
  cases h1
  rw [hts] at h3; cases h3
  exact h4
theorem okWide_cell {t e : TypeId} {W : World} {r : Reach} {b0 : Nat} {v : Value} (hu : P.underlying t = some (.slice e)) (h : Value.okWide P W r b0 t v) : Cell.okWide P W r b0 t v := by
  simpa only [Value.okWide, hu] using h
theorem param_ints {t e : TypeId} {k : IntKind} {r : Reach} {b0 : Nat} {W : World} {v : Value} {d : DataW H} {ps : List MemPlace} (ht : P.underlying t = some (.slice e)) (he : P.underlying e = some (.int k)) (hc : P.cellsOf e = 1)
    (hval : Value.okWide P W r b0 t v) (h : DataW.Trod enc P W 0 (fun _ => true) true t v d ps) :
    ∃ zs : List Int, ArgRow W v (zs.map fun z => Value.int k z) 1 ∧ (∀ z ∈ zs, (Lit.int k z).wf = true) ∧ zs.length ≤ maxLen := by
  obtain ⟨a, len, cap, rfl⟩ := okWide_slice ht hval
  obtain ⟨fuel, hf⟩ := h
  exact row_ints ht he hc (okWide_cell ht hval) hf
end
end Go.Abs

