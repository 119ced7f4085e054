/- Shaken texts of the layer and of the walks. -/
import Derived.Test.YtfialjllclclkaaFmArgs
import Derived.ChangeSame
namespace Go.Abs
open Go.ChangeShapes Go.WideShapes Go.ChangeAt Go.RowKit Go.WideMaps
def pairV (k0 k1 : IntKind) (z : Int × Int) : List Value := [.int k0 z.1, .int k1 z.2]
def pairsV (k0 k1 : IntKind) (zs : List (Int × Int)) : List (List Value) := zs.map (pairV k0 k1)
theorem pairs_len (k0 k1 : IntKind) : ∀ zs : List (Int × Int), (pairsV k0 k1 zs).flatten.length = zs.length * 2
  | [] => rfl
  | z :: zs => by
    have := pairs_len k0 k1 zs
    rw [show (pairsV k0 k1 (z :: zs)).flatten = pairV k0 k1 z ++ (pairsV k0 k1 zs).flatten from rfl, List.length_append, this]; simp [pairV]; omega
theorem pairs_get (k0 k1 : IntKind) : ∀ (zs : List (Int × Int)) (j : Nat) (x : Value), (pairsV k0 k1 zs).flatten[j]? = some x → ∃ i z, zs[i]? = some z ∧ ((j = i * 2 ∧ x = .int k0 z.1) ∨ (j = i * 2 + 1 ∧ x = .int k1 z.2))
  | [], j, x, h => by simp [pairsV] at h
  | z :: zs, j, x, h => by
    rw [show (pairsV k0 k1 (z :: zs)).flatten = .int k0 z.1 :: .int k1 z.2 :: (pairsV k0 k1 zs).flatten from rfl] at h
    match j, h with
    | 0, h => simp at h; exact ⟨0, z, rfl, .inl ⟨rfl, h.symm⟩⟩
    | 1, h => simp at h; exact ⟨0, z, rfl, .inr ⟨rfl, h.symm⟩⟩
    | j + 2, h =>
      simp only [List.getElem?_cons_succ] at h
      obtain ⟨i, y, h1, h2⟩ := pairs_get k0 k1 zs j x h
      refine ⟨i + 1, y, by simpa using h1, ?_⟩
      rcases h2 with ⟨h2, h3⟩ | ⟨h2, h3⟩
      · exact .inl ⟨by omega, h3⟩
      · exact .inr ⟨by omega, h3⟩
theorem rowsAt_row {w : World} {rs : List (Value × List Value × Nat)} {i : Nat} {v : Value} {k0 k1 : IntKind} {zs : List (Int × Int)} (hi : rs[i]? = some (v, (pairsV k0 k1 zs).flatten, 2)) (h : ArgRow w v (pairsV k0 k1 zs).flatten 2) :
    ∃ b len cap, v = .slice b len cap ∧ RowsAt (rowsHeap rs) 2 (absS i v) (pairsV k0 k1 (zs.take len)) ∧ (zs.take len).length = len := by
  rcases h with ⟨h1, h2⟩ | ⟨a, len, cap, c, e, fz, h1, h2, h3, h4, h5, h6, h7⟩
  · subst h1
    have : zs = [] := by
      have := pairs_len k0 k1 zs
      rw [h2] at this
      exact List.eq_nil_of_length_eq_zero (by simp at this; omega)
    subst this
    exact ⟨_, _, _, rfl, .inl ⟨rfl, rfl⟩, rfl⟩
  · subst h1
    rw [pairs_len] at h4
    have hl : (zs.take len).length = len := by rw [List.length_take]; omega
    have hl' : (pairsV k0 k1 (zs.take len)).length = len := by simp only [pairsV, List.length_map]; exact hl
    refine ⟨_, _, _, rfl, .inr ⟨i, 0, cap, ⟨(pairsV k0 k1 zs).flatten, false, 2⟩, by rw [hl']; rfl, by simp [rowsHeap, hi]; rfl, fun j r hr => ?_, rfl⟩, hl⟩
    simp only [pairsV, List.getElem?_map, Option.map_eq_some_iff] at hr
    obtain ⟨z, hz, rfl⟩ := hr
    have hj : j < len := by have := (List.getElem?_eq_some_iff.1 hz).1; omega
    have hz' : zs[j]? = some z := by rw [List.getElem?_take, if_pos hj] at hz; exact hz
    have hj2 := (List.getElem?_eq_some_iff.1 hz').1
    simp only [cellsA]
    rw [if_pos (by rw [pairs_len]; omega)]
    have hd : ∀ (m : Nat) (l : List (Int × Int)) (y : Int × Int), l[m]? = some y → ((pairsV k0 k1 l).flatten.drop (m * 2)).take 2 = pairV k0 k1 y := by
      intro m
      induction m with
      | zero =>
        intro l y h
        cases l with
        | nil => cases h
        | cons a l => simp at h; subst h; rfl
      | succ m ih =>
        intro l y h
        cases l with
        | nil => cases h
        | cons a l =>
          rw [show (pairsV k0 k1 (a :: l)).flatten = .int k0 a.1 :: .int k1 a.2 :: (pairsV k0 k1 l).flatten from rfl, show (m + 1) * 2 = m * 2 + 1 + 1 from by omega, List.drop_succ_cons, List.drop_succ_cons]
          exact ih l y (by simpa using h)
    rw [Nat.zero_add, hd j zs z hz']
section
variable {H : Type} {enc : TypeId × Value → H} {P : Program}
def litOf : Option Value → Int
  | some (.int _ n) => n
  | _ => 0
theorem row_pairs {t e : TypeId} {f0 f1 : Field} {k0 k1 : IntKind} {fuel : Nat} {r : Reach} {b0 : Nat} {W : World} {base : Nat} {held : Bool} {v : Value} {x : DataW H × List MemPlace} (ht : P.underlying t = some (.slice e)) (he : P.underlying e = some (.struct #[f0, f1]))
    (u0 : P.underlying f0.type = some (.int k0)) (u1 : P.underlying f1.type = some (.int k1)) (o0 : f0.offset = 0) (o1 : f1.offset = 1) (c0 : P.cellsOf f0.type = 1) (c1 : P.cellsOf f1.type = 1) (hc : P.cellsOf e = 2)
    (hval : Cell.okWide P W r b0 t v) (h : DataW.trod enc P W base (fun _ => true) held fuel t [v] = some x) :
    ∃ zs : List (Int × Int), ArgRow W v (pairsV k0 k1 zs).flatten 2 ∧ (∀ z ∈ zs, (Lit.int k0 z.1).wf = true ∧ (Lit.int k1 z.2).wf = true) ∧ zs.length ≤ maxLen := by
  rcases DataW.trod_slice ht h with ⟨h1, _⟩ | ⟨a, len, cap, elems, rest, n, _, h1, _, hb, hl, hm, hlen, hel, hsp, _⟩
  · simp only [List.cons.injEq, and_true] at h1
    exact ⟨[], .inl ⟨h1, rfl⟩, by simp, by simp⟩
  · simp only [List.cons.injEq, and_true] at h1
    subst h1
    obtain ⟨hrl, hrest⟩ := hsp rfl
    have each : ∀ i, i < cap → ∃ z0 z1, W.cell? ((a.add (i * 2)).add 0) = some (.int k0 z0) ∧ W.cell? ((a.add (i * 2)).add 1) = some (.int k1 z1) ∧ (Lit.int k0 z0).wf = true ∧ (Lit.int k1 z1).wf = true := by
      intro i hi
      have : ∃ y, (W.cells? base (a.add (i * P.cellsOf e)) (P.cellsOf e)).bind (DataW.trod enc P W base (fun _ => true) held n e) = some y := by
        by_cases hil : i < len
        · rw [hel i hil]
          exact ⟨_, List.getElem?_eq_getElem (by omega)⟩
        · have := hrest (i - len) (by omega)
          rw [show len + (i - len) = i by omega] at this
          rw [this]
          exact ⟨_, List.getElem?_eq_getElem (by omega)⟩
      obtain ⟨y, hy⟩ := this
      rw [hc] at hy
      simp only [Option.bind_eq_some_iff] at hy
      obtain ⟨cs, hcs, hy⟩ := hy
      obtain ⟨_, hcl, hcell⟩ := World.cells?_some hcs
      obtain ⟨y0, y1, n', _, _, g0, g1⟩ := trod_struct2 he hy
      rw [o0, c0] at g0
      rw [o1, c1] at g1
      obtain ⟨z0, e0, _, w0⟩ := DataW.trod_int u0 g0
      obtain ⟨z1, e1, _, w1⟩ := DataW.trod_int u1 g1
      match cs, hcl with
      | [p, q], _ =>
        simp at e0 e1
        subst e0; subst e1
        refine ⟨z0, z1, ?_, ?_, w0, w1⟩
        · simpa using hcell 0 (by omega)
        · simpa using hcell 1 (by omega)
    have hok : a.spot = none ∧ ∃ c e fz, W.heap[a.block]? = some (.cells c e fz) := by
      unfold Cell.okWide at hval
      rw [ht] at hval
      simp only [Cell.ok, ht] at hval
      obtain ⟨_, _, hh⟩ := hval
      obtain ⟨_, hs, row, n, hsh, _⟩ := hh
      refine ⟨hs, ?_⟩
      unfold World.shape? at hsh
      split at hsh
      · rename_i c e fz hc; exact ⟨c, e, fz, hc⟩
      · cases hsh
    obtain ⟨hs, c, e', fz, hcell⟩ := hok
    obtain ⟨b, o, sp⟩ := a
    simp only at hs; subst hs
    let zs : List (Int × Int) := (List.range cap).map fun i => (litOf c[o + i * 2]?, litOf c[o + i * 2 + 1]?)
    have hzl : zs.length = cap := by simp [zs]
    have key : ∀ i z, zs[i]? = some z → c[o + i * 2]? = some (.int k0 z.1) ∧ c[o + i * 2 + 1]? = some (.int k1 z.2) ∧ (Lit.int k0 z.1).wf = true ∧ (Lit.int k1 z.2).wf = true := by
      intro i z hz
      have hi : i < cap := by have := (List.getElem?_eq_some_iff.1 hz).1; omega
      obtain ⟨z0, z1, q0, q1, w0, w1⟩ := each i hi
      rw [Addr.add_plain, Addr.add_plain] at q0 q1
      simp only [World.cell?, hcell, Nat.add_zero] at q0 q1
      simp only [zs, List.getElem?_map, List.getElem?_range hi, Option.map_some, Option.some.injEq] at hz
      subst hz
      have q0' : c[o + i * 2]? = some (.int k0 z0) := by simpa using q0
      have q1' : c[o + i * 2 + 1]? = some (.int k1 z1) := by simpa using q1
      simp only [q0', q1', litOf]
      exact ⟨trivial, trivial, w0, w1⟩
    refine ⟨zs, .inr ⟨⟨b, o, none⟩, len, cap, c, e', fz, rfl, rfl, hl, by rw [pairs_len, hzl], hcell, fun y hy => ?_, fun hne => ⟨?_, fun j y hy => ?_⟩⟩, fun z hz => ?_, by omega⟩
    · obtain ⟨j, hj⟩ := List.getElem?_of_mem hy
      obtain ⟨i, z, _, h | h⟩ := pairs_get k0 k1 zs j y hj
      · rw [h.2]; rfl
      · rw [h.2]; rfl
    · have hpos : 0 < cap := by
        rcases Nat.eq_zero_or_pos cap with h | h
        · exact absurd (List.eq_nil_of_length_eq_zero (by rw [pairs_len, hzl, h])) hne
        · exact h
      have hz := List.getElem?_eq_getElem (l := zs) (i := cap - 1) (by omega)
      have := (Array.getElem?_eq_some_iff.1 (key _ _ hz).2.1).1
      simp only
      omega
    · obtain ⟨i, z, hz, h | h⟩ := pairs_get k0 k1 zs j y hy
      · rw [h.1, h.2]; exact (key i z hz).1
      · rw [h.1, h.2]; exact (key i z hz).2.1
    · obtain ⟨i, hi⟩ := List.getElem?_of_mem hz
      exact (key i z hi).2.2
end
end Go.Abs

