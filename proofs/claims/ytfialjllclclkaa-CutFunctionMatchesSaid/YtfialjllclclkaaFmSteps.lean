/- Shaken texts of the layer and of the walks. -/
import Derived.Test.YtfialjllclclkaaFmSimp
namespace Go.Abs
section
variable {r : Bool} {P : Program} {n : Nat} {env : Env} {N : Nat} {σ : AHeap} {ι : Ren} {ops : Array Oper} {l : List Oper} {o : Oper} {K : Env → Nat → AHeap → Prop}

structure TyI (P : Program) (t : TypeId) (z : Value) (size bytes : Nat) : Prop where
  ex : ∃ inf, P.info? t = some inf ∧ inf.zero = some z ∧ inf.size = size ∧ inf.bytes = bytes
theorem TyI.of {t : TypeId} {z : Value} {size bytes : Nat} (h : (P.info? t).map (fun i => (i.zero, i.size, i.bytes)) = some (some z, size, bytes)) : TyI P t z size bytes := by
  simp only [Option.map_eq_some_iff, Prod.mk.injEq] at h
  obtain ⟨inf, h1, h2, h3, h4⟩ := h
  exact ⟨inf, h1, h2, h3, h4⟩
theorem loadA_scalar {t : TypeId} {b : Blk} {off : Nat} {v : Value} (h : aggA P t = some none) (hv : b.cells[off]? = some v) : loadA P t b off = some v := by
  simp only [loadA, h, hv]
theorem loadA_agg {t : TypeId} {b : Blk} {off m : Nat} {l : List Value} (h : aggA P t = some (some m)) (hv : cellsA b off m = some l) : loadA P t b off = some (.agg l.toArray) := by
  simp only [loadA, h, hv, Option.map_some]
theorem al_load {t : TypeId} {x : Operand} {i off : Nat} {b : Blk} {v : Value} (ho : o.op = .load t x) (hw : wantedA ops env o = some true) (hd : dstOk n o.dst = true)
    (hx : env.eval x = some (.pointer (some ⟨i, off, none⟩))) (hb : σ i = some b) (hv : loadA P t b off = some v)
    (k : AList P n ops l (env.put o.dst v) N σ K) : AList P n ops (o :: l) env N σ K :=
  al_step hw (dstOk_spec hd) (step_load ho hx hb hv k)
theorem al_store {t : TypeId} {x y : Operand} {i off : Nat} {b : Blk} {v : Value} (ho : o.op = .store t x y) (hw : wantedA ops env o = some true) (hd : dstOk n o.dst = true)
    (hx : env.eval x = some (.pointer (some ⟨i, off, none⟩))) (hy : env.eval y = some v) (hb : σ i = some b) (hown : b.own = true)
    (hsz : sizeA P t = some (spread v).length) (hsc : (spread v).all (·.oneCell') = true) (hfit : off + (spread v).length ≤ b.cells.length)
    (k : AList P n ops l (env.put o.dst undef) N (σ.set i ⟨splice b.cells off (spread v), true, b.esz⟩) K) : AList P n ops (o :: l) env N σ K :=
  al_step hw (dstOk_spec hd) (step_store ho hx hb hy hown hsz hsc hfit k)
theorem al_alloc {t : TypeId} {z : Value} {size bytes : Nat} (esz : Nat) (ho : o.op = .alloc t) (hw : wantedA ops env o = some true) (hd : dstOk n o.dst = true)
    (hT : TyI P t z size bytes) (hf : (spread z).all flat = true)
    (k : AList P n ops l (env.put o.dst (.pointer (some ⟨N, 0, none⟩))) (N + 1) (σ.set N ⟨spread z, true, esz⟩) K) : AList P n ops (o :: l) env N σ K := by
  obtain ⟨inf, h1, h2, h3, h4⟩ := hT.ex
  exact al_step hw (dstOk_spec hd) (step_alloc esz ho (by simp [zeroA, h1, h2]) hf k)
theorem al_box {t : TypeId} {x : Operand} {v : Value} (esz : Nat) (ho : o.op = .box t x) (hw : wantedA ops env o = some true) (hd : dstOk n o.dst = true) (hx : env.eval x = some v)
    (k : AList P n ops l (env.put o.dst (.pointer (some ⟨N, 0, none⟩))) (N + 1) (σ.set N ⟨spread v, true, esz⟩) K) : AList P n ops (o :: l) env N σ K :=
  al_step hw (dstOk_spec hd) (step_box esz ho hx k)
theorem al_build_array {t e : TypeId} {m : Nat} {parts : Array (Nat × Operand)} {z z' : Value} {size bytes size' bytes' : Nat} {ps : List (Nat × Value)} {r : List Value}
    (ho : o.op = .build t parts) (hw : wantedA ops env o = some true) (hd : dstOk n o.dst = true) (hu : P.underlying t = some (.array m e)) (hT : TyI P t z size bytes) (hf : (spread z).all flat = true) (hE : TyI P e z' size' bytes')
    (hps : parts.toList.mapM (fun p => (env.eval p.2).map fun v => (p.1, v)) = some ps)
    (hr : fillA (fun i => some (i * size', size')) (spread z) ps = some r)
    (k : AList P n ops l (env.put o.dst (.agg r.toArray)) N σ K) : AList P n ops (o :: l) env N σ K := by
  obtain ⟨inf, h1, h2, h3, h4⟩ := hT.ex
  obtain ⟨inf', g1, g2, g3, g4⟩ := hE.ex
  subst g3
  exact al_step hw (dstOk_spec hd) (step_build_array ho hu (by simp [zeroA, h1, h2]) hf g1 hps hr k)
theorem al_buildSlice {t e : TypeId} {len : Nat} {parts : Array (Nat × Operand)} {z : Value} {size bytes : Nat} {ps : List (Nat × Value)} {r : List Value}
    (ho : o.op = .buildSlice t len parts) (hw : wantedA ops env o = some true) (hd : dstOk n o.dst = true) (hu : P.underlying t = some (.slice e)) (hT : TyI P e z size bytes) (hf : (spread z).all flat = true) (hne : (spread z).length = size) (hp : 0 < size)
    (hsmall : len * size ≤ 16777216)
    (hps : parts.toList.mapM (fun p => (env.eval p.2).map fun v => (p.1, v)) = some ps)
    (hr : fillA (fun i => some (i * size, size)) (zerosA (spread z) (len * size)) ps = some r) (hrl : len * size ≤ r.length)
    (k : AList P n ops l (env.put o.dst (.slice (some ⟨N, 0, none⟩) len len)) (N + 1) (σ.set N ⟨r, true, size⟩) K) : AList P n ops (o :: l) env N σ K := by
  obtain ⟨inf, h1, h2, h3, h4⟩ := hT.ex
  subst h3
  exact al_step hw (dstOk_spec hd) (step_buildSlice ho hu h1 h2 hf hne hp hsmall hps hr hrl k)
theorem al_makeSlice {t e : TypeId} {x y : Operand} {k1 k2 : IntKind} {len : Nat} {z : Value} {size bytes : Nat}
    (ho : o.op = .makeSlice t x y) (hw : wantedA ops env o = some true) (hd : dstOk n o.dst = true) (hu : P.underlying t = some (.slice e)) (hT : TyI P e z size bytes) (hf : (spread z).all flat = true) (hne : (spread z).length = size) (hp : 0 < size)
    (hx : env.eval x = some (.int k1 len)) (hy : env.eval y = some (.int k2 len)) (hsmall : len ≤ 9223372036854775807) (hb : bytes * len ≤ 140737488355328)
    (k : AList P n ops l (env.put o.dst (.slice (some ⟨N, 0, none⟩) len len)) (N + 1) (σ.set N ⟨zerosA (spread z) (len * size), true, size⟩) K) : AList P n ops (o :: l) env N σ K := by
  obtain ⟨inf, h1, h2, h3, h4⟩ := hT.ex
  subst h3; subst h4
  exact al_step hw (dstOk_spec hd) (step_makeSlice ho hu h1 h2 hf hne hp hx hy hsmall hb k)
theorem al_append {t e : TypeId} {x y : Operand} {z s u : Value} {size bytes : Nat} {root : Option (Nat × Nat)} {c m : Nat} {olds news : List Value}
    (ho : o.op = .call { callee := .builtin .append, args := #[x, y], argTypes := #[t, t] }) (hw : wantedA ops env o = some true) (hd : dstOk n o.dst = true)
    (ht : P.underlying t = some (.slice e)) (hT : TyI P e z size bytes) (hzs : z.cells.size = size)
    (hx : env.eval x = some s) (hy : env.eval y = some u) (hs : rootA s = some (root, c)) (hu : lenA u = some m) (hm : 0 < m)
    (hol : srcA σ size s = some olds) (hn : srcA σ size u = some news) (hsc : news.all (·.oneCell') = true)
    (hown : ∀ i off, root = some (i, off) → ∃ b, σ i = some b ∧ b.own = true ∧ b.esz = size)
    (hb : (c + m) * bytes ≤ 140737488355328) (h63 : c + m ≤ 140737488355328)
    (k : AList P n ops l (env.put o.dst (.slice (some ⟨N, 0, none⟩) (c + m) (c + m))) (N + 1) ((killA σ root).set N ⟨olds ++ news, true, size⟩) K) : AList P n ops (o :: l) env N σ K := by
  obtain ⟨inf, h1, h2, h3, h4⟩ := hT.ex
  subst h3; subst h4
  exact al_step hw (dstOk_spec hd) (step_append ho ht h1 h2 hzs hx hy hs hu hm hol hn hsc hown hb h63 k)
theorem al_aok {f : Operand} {args : Array Operand} {argTypes : Array TypeId} {g : FuncId} {xs cs : Array Value} {vs : List Value}
    (ho : o.op = .call { callee := .value f, args, argTypes }) (hw : wantedA ops env o = some true) (hd : dstOk n o.dst = true) (hc : callableB P g = true)
    (hf : env.eval f = some (.func (.func g) xs cs)) (ha : args.toList.mapM env.eval = some vs)
    (h : AOk P g (xs.toList ++ vs ++ cs.toList) N σ fun v N' σ' => AList P n ops l (env.put o.dst v) N' σ' K) : AList P n ops (o :: l) env N σ K :=
  al_call hd hw ho hf ha hc h

def SlAt (σ : AHeap) (v : Value) (vs : List Value) : Prop :=
  (v = .slice none 0 0 ∧ vs = []) ∨ ∃ id off cap b, v = .slice (some ⟨id, off, none⟩) vs.length cap ∧ σ id = some b ∧ (∀ (j : Nat) (x : Value), vs[j]? = some x → b.cells[off + j]? = some x) ∧ b.esz = .n 1
theorem SlAt.len {v : Value} {vs : List Value} (h : SlAt σ v vs) : ∃ b c, v = .slice b vs.length c := by
  rcases h with ⟨rfl, rfl⟩ | ⟨id, off, cap, b, rfl, _, _, _⟩
  · exact ⟨_, _, rfl⟩
  · exact ⟨_, _, rfl⟩
theorem SlAt.at {v : Value} {vs : List Value} (h : SlAt σ v vs) {j : Nat} (hj : j < vs.length) :
    ∃ id off cap b, v = .slice (some ⟨id, off, none⟩) vs.length cap ∧ σ id = some b ∧ b.cells[off + j]? = some vs[j] ∧ b.esz = .n 1 := by
  rcases h with ⟨_, rfl⟩ | ⟨id, off, cap, b, h1, h2, h3, h4⟩
  · simp at hj
  · exact ⟨id, off, cap, b, h1, h2, h3 j _ (List.getElem?_eq_getElem hj), h4⟩
theorem SlAt.ro {v : Value} {vs : List Value} (h : SlAt σ v vs) : SlAt (ro σ) v vs := by
  rcases h with h | ⟨id, off, cap, b, h1, h2, h3, h4⟩
  · exact .inl h
  · exact .inr ⟨id, off, cap, ⟨b.cells, false, b.esz⟩, h1, ro_get h2 ⟨_, h4⟩, h3, h4⟩
theorem SlAt.mono {σ' : AHeap} {v : Value} {vs : List Value} (h : SlAt σ v vs) (hl : σ.le σ') : SlAt σ' v vs := by
  rcases h with h | ⟨id, off, cap, b, h1, h2, h3, h4⟩
  · exact .inl h
  · exact .inr ⟨id, off, cap, b, h1, hl _ _ h2, h3, h4⟩

theorem inBlock_exit {id : Nat} {K : Exit → Env → Nat → AHeap → Prop} (h : K .normal env N σ) : InBlock id K (.exit id) env N σ := by simp only [InBlock, if_true]; exact h
theorem inBlock_other {id id' : Nat} {K : Exit → Env → Nat → AHeap → Prop} (hne : id' ≠ id) (h : K (.exit id') env N σ) : InBlock id K (.exit id') env N σ := by simp only [InBlock, if_neg hne]; exact h

theorem splice_one {l : List Value} {off : Nat} {v : Value} (h : off < l.length) : splice l off [v] = l.set off v := by
  apply List.ext_getElem?
  intro j
  rw [splice_get (by simp; omega), List.getElem?_set]
  simp only [List.length_singleton]
  by_cases h1 : off = j
  · subst h1
    rw [if_pos (by omega), if_pos rfl, if_pos h]; simp
  · rw [if_neg (by omega), if_neg h1]
theorem al_store1 {t : TypeId} {x y : Operand} {i off : Nat} {b : Blk} {v : Value} (ho : o.op = .store t x y) (hw : wantedA ops env o = some true) (hd : dstOk n o.dst = true)
    (hx : env.eval x = some (.pointer (some ⟨i, off, none⟩))) (hy : env.eval y = some v) (hb : σ i = some b) (hown : b.own = true)
    (hsz : sizeA P t = some 1) (hsp : spread v = [v]) (hsc : v.oneCell' = true) (hfit : off < b.cells.length)
    (k : AList P n ops l (env.put o.dst undef) N (σ.set i ⟨b.cells.set off v, true, b.esz⟩) K) : AList P n ops (o :: l) env N σ K :=
  al_store ho hw hd hx hy hb hown (by rw [hsp]; exact hsz) (by rw [hsp]; simp [hsc]) (by rw [hsp]; exact hfit) (by rw [hsp, splice_one hfit]; exact k)

theorem SlAt.src {v : Value} {vs : List Value} (h : SlAt σ v vs) : srcA σ 1 v = some vs := by
  rcases h with ⟨rfl, rfl⟩ | ⟨id, off, cap, b, rfl, h2, h3, _⟩
  · rfl
  · by_cases h0 : vs.length = 0
    · have : vs = [] := List.eq_nil_of_length_eq_zero h0
      subst this; rfl
    · simp only [srcA, if_neg h0, h2, Option.bind_some, Nat.mul_one, cellsA]
      have hlast := h3 (vs.length - 1) _ (List.getElem?_eq_getElem (by omega))
      have hlt := (List.getElem?_eq_some_iff.1 hlast).1
      rw [if_pos (by omega)]
      congr 1
      apply List.ext_getElem?
      intro j
      by_cases hj : j < vs.length
      · rw [List.getElem?_take, if_pos hj, List.getElem?_drop, h3 j _ (List.getElem?_eq_getElem hj), List.getElem?_eq_getElem hj]
      · rw [List.getElem?_take, if_neg hj, List.getElem?_eq_none (by omega)]
theorem al_append_none {t e : TypeId} {x y : Operand} {u z : Value} {b : Option Addr} {c m size bytes : Nat} (ho : o.op = .call { callee := .builtin .append, args := #[x, y], argTypes := #[t, t] }) (hw : wantedA ops env o = some true) (hd : dstOk n o.dst = true)
    (ht : P.underlying t = some (.slice e)) (hT : TyI P e z size bytes) (hx : env.eval x = some (.slice b m c)) (hy : env.eval y = some u) (hu : lenA u = some 0)
    (k : AList P n ops l (env.put o.dst (.slice b m c)) N σ K) : AList P n ops (o :: l) env N σ K := by
  obtain ⟨inf, h1, h2, h3, h4⟩ := hT.ex
  exact al_step hw (dstOk_spec hd) (step_append_none ho ht h1 hx hy rfl hu k)

def RowsAt (σ : AHeap) (sz : Nat) (v : Value) (rows : List (List Value)) : Prop :=
  (v = .slice none 0 0 ∧ rows = []) ∨ ∃ id off cap b, v = .slice (some ⟨id, off, none⟩) rows.length cap ∧ σ id = some b ∧ (∀ (j : Nat) (r : List Value), rows[j]? = some r → cellsA b (off + j * sz) sz = some r) ∧ b.esz = .n sz
theorem RowsAt.len {sz : Nat} {v : Value} {rows : List (List Value)} (h : RowsAt σ sz v rows) : ∃ b c, v = .slice b rows.length c := by
  rcases h with ⟨rfl, rfl⟩ | ⟨id, off, cap, b, rfl, _, _, _⟩
  · exact ⟨_, _, rfl⟩
  · exact ⟨_, _, rfl⟩
theorem RowsAt.at {sz : Nat} {v : Value} {rows : List (List Value)} (h : RowsAt σ sz v rows) {j : Nat} (hj : j < rows.length) :
    ∃ id off cap b, v = .slice (some ⟨id, off, none⟩) rows.length cap ∧ σ id = some b ∧ cellsA b (off + j * sz) sz = some rows[j] ∧ b.esz = .n sz := by
  rcases h with ⟨_, rfl⟩ | ⟨id, off, cap, b, h1, h2, h3, h4⟩
  · simp at hj
  · exact ⟨id, off, cap, b, h1, h2, h3 j _ (List.getElem?_eq_getElem hj), h4⟩
theorem RowsAt.mono {σ' : AHeap} {sz : Nat} {v : Value} {rows : List (List Value)} (h : RowsAt σ sz v rows) (hl : σ.le σ') : RowsAt σ' sz v rows := by
  rcases h with h | ⟨id, off, cap, b, h1, h2, h3, h4⟩
  · exact .inl h
  · exact .inr ⟨id, off, cap, b, h1, hl _ _ h2, h3, h4⟩
theorem RowsAt.ro {sz : Nat} {v : Value} {rows : List (List Value)} (h : RowsAt σ sz v rows) : RowsAt (ro σ) sz v rows := by
  rcases h with h | ⟨id, off, cap, b, h1, h2, h3, h4⟩
  · exact .inl h
  · exact .inr ⟨id, off, cap, ⟨b.cells, false, b.esz⟩, h1, ro_get h2 ⟨_, h4⟩, h3, h4⟩
end
end Go.Abs

