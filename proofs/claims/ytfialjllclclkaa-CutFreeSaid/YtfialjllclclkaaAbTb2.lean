/- Abstract states over the machine: slices and appends of many elements in a region that draws its order. -/
import Derived.Test.YtfialjllclclkaaAbTb
namespace Go.Abs
section
variable {r : Bool} {P : Program} {n : Nat} {env : Env} {N : Nat} {σ : AHeap} {ops : Array Oper} {N0 : Nat} {Wt : Nat → Nat → Prop} {M : List Nat} {Nf : Nat → Nat} {K : Env → AHeap → Prop}

theorem boundA_keep {o : Oper} {d a : Nat} {lo : Option Operand} (h : boundA env d lo = some a) (hm : ∀ x, lo = some x → x ∈ o.op.operands.toList) : boundA (env.keep (slotsOf ops o)) d lo = some a := by
  cases lo with
  | none => exact h
  | some x =>
    simp only [boundA] at h ⊢
    cases hx : env.eval x with
    | none => rw [hx] at h; cases h
    | some v => rw [eval_keep (hm x rfl) hx]; rw [hx] at h; exact h
/-- A part of a slice. -/
theorem tb_slice {i : Nat} {o : Oper} {l : List Oper} {t e : TypeId} {x : Operand} {lo hi : Option Operand} {z : Value} {size bytes : Nat} {id off len cap a h : Nat} {b : Blk}
    (ho : o.op = .slice t x lo hi none) (hw : wantedA ops env o = some true) (hd : dstOk n o.dst = true) (ht : P.underlying t = some (.slice e)) (hT : TyI P e z size bytes)
    (hx : env.eval x = some (.slice (some ⟨id, off, none⟩) len cap)) (hb : σ id = some b) (hesz : b.esz = size) (hold : Calm ops N0 Wt i id)
    (hlo0 : boundA env 0 lo = some a) (hhi0 : boundA env len hi = some h) (h1 : a ≤ h) (h2 : h ≤ cap) (hN : Nf (i + 1) = Nf i)
    (k : TB P n ops N0 Wt M Nf K (i + 1) l (env.put o.dst (.slice (some ⟨id, off + a * size, none⟩) (h - a) (cap - a))) σ) : TB P n ops N0 Wt M Nf K i (o :: l) env σ := by
  obtain ⟨inf, q1, q2, q3, q4⟩ := hT.ex
  subst q3
  have hlo := boundA_keep (ops := ops) (o := o) hlo0 fun x hx => by rw [ho]; simp [Op.operands, hx]
  have hhi := boundA_keep (ops := ops) (o := o) hhi0 fun x hx => by rw [ho]; simp [Op.operands, hx]
  obtain ⟨b', g1, g2, g3, _⟩ := viewOf_get (T := Calm ops N0 Wt i) (W := fun _ => False) hold hb (.inl ⟨_, hesz⟩)
  have hx' : (env.keep (slotsOf ops o)).eval x = some (.slice (some ⟨id, off, none⟩) len cap) := eval_keep (by rw [ho]; simp [Op.operands]) hx
  exact tb_read hd hw hN (Calm ops N0 Wt i) (fun _ h => h) (fun m => step_slice ho ht q1 hx' g1 (by rw [g3, hesz]) hlo hhi h1 h2 ⟨rfl, rfl⟩) k
/-- Many elements are appended to an own row. -/
theorem tb_append {i : Nat} {o : Oper} {l : List Oper} {t e : TypeId} {x y : Operand} {z s uv : Value} {size bytes lo c m ju : Nat} {bu : Blk} {olds news : List Value}
    (ho : o.op = .call { callee := .builtin .append, args := #[y, x], argTypes := #[t, t] }) (hw : wantedA ops env o = some true) (hd : dstOk n o.dst = true)
    (ht : P.underlying t = some (.slice e)) (hT : TyI P e z size bytes) (hzc : z.cells.size = size)
    (hy : env.eval y = some s) (hx : env.eval x = some uv) (hσu : σ ju = some bu) (hrowu : bu.row) (hlu : lenA uv = some m) (hm : 0 < m)
    (hnews : ∀ τ : AHeap, (∃ b', τ ju = some b' ∧ b'.cells = bu.cells) → srcA τ size uv = some news) (hnl : news.length = m * size)
    (hsee : Sees ops N0 Nf i ju) (hv1 : news.all (·.oneCell') = true)
    (hown : OwnAt σ lo s olds c size) (hlo : lo ≤ Nf i) (hroot : ∀ j, rootOf s j → Sees ops N0 Nf i j ∧ j < Nf i ∧ (j < N0 → Wt i j)) (hi : i ∈ M) (hN : Nf (i + 1) = Nf i + 1) (hu : ju < Nf i) (hb : (c + m) * bytes ≤ 140737488355328) (h63 : c + m ≤ 140737488355328)
    (hbe : ∀ t v, (env.keep (slotsOf ops o)).get t = some v → Bdd (Nf i) v) (hbc : ∀ x ∈ olds, Bdd (Nf i) x) (hbv : BlkBdd (Nf i) bu)
    (k : ∀ v' σ', v' = .slice (some ⟨Nf i, 0, none⟩) (c + m) (c + m) → OwnAt σ' lo v' (olds ++ news) (c + m) size → (∀ j, ¬ rootOf s j → j ≠ Nf i → σ' j = σ j) →
      TB P n ops N0 Wt M Nf K (i + 1) l (env.put o.dst v') σ') : TB P n ops N0 Wt M Nf K i (o :: l) env σ := by
  obtain ⟨inf, h1, h2, h3, h4⟩ := hT.ex
  have hops : ∀ w, w = x ∨ w = y → w ∈ o.op.operands.toList := fun w hw => by
    rw [ho]; simp [Op.operands, Call.operands]; exact hw.symm
  have hx' := eval_keep (ops := ops) (hops x (.inl rfl)) hx
  have hy' := eval_keep (ops := ops) (hops y (.inr rfl)) hy
  let T : Nat → Prop := fun j => rootOf s j ∨ j = ju
  let W : Nat → Prop := fun j => rootOf s j
  obtain ⟨bv, g1, g2, g3, _⟩ := viewOf_get (T := T) (W := W) (σ := σ) (j := ju) (.inr rfl) hσu (.inl hrowu)
  have hn : srcA (viewOf T W σ) inf.size uv = some news := by rw [h3]; exact hnews _ ⟨bv, g1, g2⟩
  rcases hown with ⟨rfl, rfl, rfl⟩ | ⟨id, cap, p1, rfl, p3, p4, p5⟩
  · have hno : ∀ j, ¬ rootOf (.slice none 0 0) j := fun j ⟨_, _, _, h⟩ => by cases h
    refine ⟨_, σ.set (Nf i) ⟨news, true, size⟩, .chain, T, W, ⟨hd, .inr (.inr (.inr ⟨hw, rfl, hi, by omega, hbe, fun j hj => absurd hj (hno j), fun j _ hj => AHeap.set_ne _ _ (by omega), ?_, ?_, ?_⟩))⟩,
      k (.slice (some ⟨Nf i, 0, none⟩) (0 + m) (0 + m)) _ rfl (.inr ⟨Nf i, 0 + m, hlo, rfl, Nat.le_refl _, AHeap.set_self _ _ _, by rw [List.nil_append, Nat.zero_add]; exact hnl⟩) fun j _ hj => AHeap.set_ne _ _ hj⟩
    · rintro j (h | rfl)
      · exact absurd h (hno j)
      · exact hsee
    · rintro j b (h | rfl) hb
      · exact absurd h (hno j)
      · rw [hσu] at hb; cases hb
        exact hbv
    · refine step_append (root := none) (k := 0) (m := m) (olds := []) (news := news) ho ht h1 h2 (by rw [hzc, h3]) hy' hx' rfl hlu hm rfl hn hv1 (fun i off h => by cases h) (by rw [h4]; exact hb) h63 ⟨rfl, by omega, fun j b hj hw => ?_⟩
      rcases hw with hw | hw
      · exact absurd hw (hno j)
      · have : j = Nf i := by omega
        subst this
        rw [AHeap.set_self] at hj; cases hj
        exact ⟨by rw [AHeap.set_self, h3]; rfl, rfl⟩
  · have hr : rootOf (.slice (some ⟨id, 0, none⟩) c cap) id := ⟨_, _, _, rfl⟩
    have hr1 : ∀ j, rootOf (.slice (some ⟨id, 0, none⟩) c cap) j → j = id := fun j ⟨_, _, _, h⟩ => by cases h; rfl
    obtain ⟨hidS, hidN, hidW⟩ := hroot id hr
    obtain ⟨bi, q1, q2, q3, q4⟩ := viewOf_get (T := T) (W := W) (σ := σ) (j := id) (.inl hr) p4 (.inr hr)
    have hsrc : srcA (viewOf T W σ) inf.size (.slice (some ⟨id, 0, none⟩) c cap) = some olds := by
      by_cases hc : c = 0
      · subst hc
        have : olds = [] := List.eq_nil_of_length_eq_zero (by simpa using p5)
        subst this; rfl
      · simp only [srcA, if_neg hc, q1, Option.bind_some, cellsA, Nat.zero_add, q2, h3]
        rw [if_pos (by omega), ← p5, List.drop_zero, List.take_length]
    refine ⟨_, (σ.del id).set (Nf i) ⟨olds ++ news, true, size⟩, .chain, T, W, ⟨hd, .inr (.inr (.inr ⟨hw, rfl, hi, by omega, hbe, fun j hj => ⟨.inl hj, (hroot j hj).2.2, by rw [hr1 j hj]; exact ⟨_, p4⟩⟩, fun j hj hj2 => ?_, ?_, ?_, ?_⟩))⟩,
      k (.slice (some ⟨Nf i, 0, none⟩) (c + m) (c + m)) _ rfl (.inr ⟨Nf i, c + m, hlo, rfl, Nat.le_refl _, AHeap.set_self _ _ _, by rw [List.length_append, p5, hnl, Nat.add_mul]⟩) fun j hj hj2 => ?_⟩
    · have hne : j ≠ id := fun h => hj (h ▸ hr)
      rw [AHeap.set_ne _ _ (by omega), AHeap.del_ne _ hne]
    · rintro j (h | rfl)
      · exact (hroot j h).1
      · exact hsee
    · rintro j b (h | rfl) hb
      · rw [hr1 j h, p4] at hb; cases hb; exact .row hbc rfl
      · rw [hσu] at hb; cases hb
        exact hbv
    · refine step_append (root := some (id, 0)) (k := c) (m := m) (olds := olds) (news := news) ho ht h1 h2 (by rw [hzc, h3]) hy' hx' rfl hlu hm hsrc hn hv1 (fun i off h => by cases h; exact ⟨bi, q1, by rw [q4 hr], by rw [q3, h3]⟩) (by rw [h4]; exact hb) h63 ⟨rfl, by omega, fun j b hj hw => ?_⟩
      rcases hw with hw | hw
      · rw [hr1 j hw, AHeap.set_ne _ _ (by omega), AHeap.del_self] at hj; cases hj
      · have : j = Nf i := by omega
        subst this
        rw [AHeap.set_self] at hj; cases hj
        exact ⟨by rw [AHeap.set_self, h3], rfl⟩
    · have hne : j ≠ id := fun h => hj (h ▸ hr)
      rw [AHeap.set_ne _ _ hj2, AHeap.del_ne _ hne]
/-- Nothing is appended. -/
theorem tb_append_none {i : Nat} {o : Oper} {l : List Oper} {t e : TypeId} {x y : Operand} {z s uv : Value} {size bytes k c : Nat} {b : Option Addr}
    (ho : o.op = .call { callee := .builtin .append, args := #[y, x], argTypes := #[t, t] }) (hw : wantedA ops env o = some true) (hd : dstOk n o.dst = true)
    (ht : P.underlying t = some (.slice e)) (hT : TyI P e z size bytes)
    (hy : env.eval y = some s) (hs : s = .slice b k c) (hx : env.eval x = some uv) (hlu : lenA uv = some 0) (hN : Nf (i + 1) = Nf i)
    (kk : TB P n ops N0 Wt M Nf K (i + 1) l (env.put o.dst s) σ) : TB P n ops N0 Wt M Nf K i (o :: l) env σ := by
  obtain ⟨inf, h1, h2, h3, h4⟩ := hT.ex
  have hops : ∀ w, w = x ∨ w = y → w ∈ o.op.operands.toList := fun w hw => by
    rw [ho]; simp [Op.operands, Call.operands]; exact hw.symm
  have hx' := eval_keep (ops := ops) (hops x (.inl rfl)) hx
  have hy' := eval_keep (ops := ops) (hops y (.inr rfl)) hy
  exact tb_read hd hw hN (fun _ => False) (fun _ h => h.elim) (fun m => step_append_none ho ht h1 hy' hx' hs hlu ⟨rfl, rfl⟩) kk
/-- An empty row. -/
theorem tb_zero {i : Nat} {o : Oper} {l : List Oper} {t e : TypeId} {z : Value} {size bytes : Nat} (ho : o.op = .buildSlice t 0 #[]) (hw : wantedA ops env o = some true) (hd : dstOk n o.dst = true)
    (ht : P.underlying t = some (.slice e)) (hT : TyI P e z size bytes) (hz : (spread z).all flat = true) (hzl : (spread z).length = size) (hs : 0 < size) (hN : Nf (i + 1) = Nf i + 1)
    (hbe : ∀ t v, (env.keep (slotsOf ops o)).get t = some v → Bdd (Nf i) v)
    (k : TB P n ops N0 Wt M Nf K (i + 1) l (env.put o.dst (.slice (some ⟨Nf i, 0, none⟩) 0 0)) (σ.set (Nf i) ⟨[], true, size⟩)) : TB P n ops N0 Wt M Nf K i (o :: l) env σ := by
  obtain ⟨inf, h1, h2, h3, h4⟩ := hT.ex
  subst h3
  refine tb_make hd hw hN hbe rfl (fun e' he => ?_) k
  subst he
  exact step_buildSlice (len := 0) (ps := []) (r := []) ho ht h1 h2 hz hzl hs (by omega) (by simp) (by simp [fillA, zerosA]) (by simp) ⟨rfl, rfl, by rw [AHeap.set_self]⟩
theorem bdd_of0 {ks : List Nat} {m : Nat} (he : env.keep ks = []) : ∀ t v, (env.keep ks).get t = some v → Bdd m v := fun t v hv => by
  rw [he] at hv; cases hv
theorem xt_zero {m i : Nat} {o : Oper} {l : List Oper} {t e : TypeId} {z : Value} {size bytes : Nat} (hm : Nf i = m) (hN : Nf (i + 1) = m + 1) (ho : o.op = .buildSlice t 0 #[]) (hw : wantedA ops env o = some true) (hd : dstOk n o.dst = true)
    (ht : P.underlying t = some (.slice e)) (hT : TyI P e z size bytes) (hz : (spread z).all flat = true) (hzl : (spread z).length = size) (hs : 0 < size) (hbe : ∀ t v, (env.keep (slotsOf ops o)).get t = some v → Bdd m v)
    (k : TB P n ops N0 Wt M Nf K (i + 1) l (env.put o.dst (.slice (some ⟨m, 0, none⟩) 0 0)) (σ.set m ⟨[], true, size⟩)) : TB P n ops N0 Wt M Nf K i (o :: l) env σ := by
  subst hm
  exact tb_zero ho hw hd ht hT hz hzl hs hN hbe k
theorem xt_append {d r i m : Nat} {o : Oper} {l : List Oper} {t e : TypeId} {x y : Operand} {z s uv : Value} {size bytes lo c q ju : Nat} {bu : Blk} {olds news : List Value} (hm : Nf i = m) (hN : Nf (i + 1) = m + 1)
    (ho : o.op = .call { callee := .builtin .append, args := #[y, x], argTypes := #[t, t] }) (hw : wantedA ops env o = some true) (hd : dstOk n o.dst = true)
    (ht : P.underlying t = some (.slice e)) (hT : TyI P e z size bytes) (hzc : z.cells.size = size)
    (hy : env.eval y = some s) (hx : env.eval x = some uv) (hσu : σ ju = some bu) (hrowu : bu.row) (hlu : lenA uv = some q) (hq : 0 < q)
    (hnews : ∀ τ : AHeap, (∃ b', τ ju = some b' ∧ b'.cells = bu.cells) → srcA τ size uv = some news) (hnl : news.length = q * size) (hju : ju < N0) (hv1 : news.all (·.oneCell') = true)
    (hown : OwnAt σ lo s olds c size) (hlo : lo ≤ m) (hrs : ∀ j, rootOf s j → j = r) (hr0 : N0 ≤ r) (hrm : r < m) (hds : d < ops.size) (hdw : waitsB ops i d = true) (hd1 : Nf d = r) (hd2 : Nf (d + 1) = r + 1)
    (hi : i ∈ M) (hb : (c + q) * bytes ≤ 140737488355328) (h63 : c + q ≤ 140737488355328)
    (hbe : ∀ t v, (env.keep (slotsOf ops o)).get t = some v → Bdd m v) (hbc : ∀ x ∈ olds, Bdd m x) (hbv : BlkBdd m bu)
    (k : ∀ v' σ', v' = .slice (some ⟨m, 0, none⟩) (c + q) (c + q) → OwnAt σ' lo v' (olds ++ news) (c + q) size → (∀ j, ¬ rootOf s j → j ≠ m → σ' j = σ j) →
      TB P n ops N0 Wt M Nf K (i + 1) l (env.put o.dst v') σ') : TB P n ops N0 Wt M Nf K i (o :: l) env σ := by
  subst hm
  refine tb_append ho hw hd ht hT hzc hy hx hσu hrowu hlu hq hnews hnl (.inl hju) hv1 hown hlo (fun j hj => ?_) hi hN (by omega) hb h63 hbe hbc hbv k
  have := hrs j hj
  subst this
  exact ⟨.inr ⟨d, hds, hdw, by omega, by omega⟩, hrm, fun h => by omega⟩
/-- A call with a flat answer that sees blocks which the region has made. -/
theorem tb_call {i : Nat} {o : Oper} {l : List Oper} {args : Array Operand} {argTypes : Array TypeId} {g : FuncId} {vs : List Value} {v : Value} (T : Nat → Prop)
    (ho : o.op = .call { callee := .value (.func g), args, argTypes }) (ha : args.toList.mapM env.eval = some vs) (hT : ∀ j, T j → Sees ops N0 Nf i j) (hTb : ∀ j b, T j → σ j = some b → BlkBdd (Nf i) b)
    (h : Gives P g vs (Nf i) (viewOf T (fun _ => False) σ) v) (hc : callableB P g = true) (hd : dstOk n o.dst = true) (hw : wantedA ops env o = some true) (hi : i ∈ M) (hN : Nf (i + 1) = Nf i)
    (hbe : ∀ t v, (env.keep (slotsOf ops o)).get t = some v → Bdd (Nf i) v)
    (k : TB P n ops N0 Wt M Nf K (i + 1) l (env.put o.dst v) σ) : TB P n ops N0 Wt M Nf K i (o :: l) env σ := by
  have ha' : args.toList.mapM (env.keep (slotsOf ops o)).eval = some vs := mapM_congr_some _ _ ha fun x hx u hu => eval_keep (by rw [ho]; simp [Op.operands, Call.operands] at hx ⊢; exact .inr hx) hu
  refine ⟨v, σ, .chain, T, fun _ => False, ⟨hd, .inr (.inr (.inr ⟨hw, rfl, hi, by omega, hbe, fun j hj => hj.elim, fun j _ _ => rfl, hT, hTb, ?_⟩))⟩, k⟩
  refine step_call ho rfl ha' hc ?_
  have h' : AOk P g (#[].toList ++ vs ++ #[].toList) (Nf i) (viewOf T (fun _ => False) σ) fun v1 N1 σ1 => v1 = v ∧ N1 = Nf i ∧ σ1 = viewOf T (fun _ => False) σ := by
    unfold Gives at h; simpa using h
  exact h'.mono fun v1 N1 σ1 ⟨h1, h2, _⟩ => ⟨h1, by omega, fun j b _ hw => by
    rcases hw with hw | hw
    · exact hw.elim
    · omega⟩
/-- A struct is built. -/
theorem parts_keep {o : Oper} {e : Env} : ∀ (parts : List (Nat × Operand)) (ps : List (Nat × Value)), (parts.mapM fun p => (e.eval p.2).map fun v => (p.1, v)) = some ps → (∀ p ∈ parts, p.2 ∈ o.op.operands.toList) →
    (parts.mapM fun p => ((e.keep (slotsOf ops o)).eval p.2).map fun v => (p.1, v)) = some ps
  | [], ps, h, _ => by simpa using h
  | p :: parts, ps, h, hm => by
    simp only [List.mapM_cons] at h ⊢
    cases hy : e.eval p.2 with
    | none => simp [hy] at h
    | some v =>
      cases hl : parts.mapM fun p => (e.eval p.2).map fun v => (p.1, v) with
      | none => simp [hy, hl] at h
      | some us =>
        simp [hy, hl] at h
        subst h
        rw [eval_keep (hm p (by simp)) hy, parts_keep parts us hl fun q hq => hm q (by simp [hq])]
        rfl
theorem tb_build {i : Nat} {o : Oper} {l : List Oper} {t : TypeId} {fs : Array Field} {parts : Array (Nat × Operand)} {z : Value} {size bytes : Nat} {ps : List (Nat × Value)} {pl : List (Nat × Nat)} {r : List Value}
    (ho : o.op = .build t parts) (hw : wantedA ops env o = some true) (hd : dstOk n o.dst = true) (hu : P.underlying t = some (.struct fs)) (hT : TyI P t z size bytes) (hf : (spread z).all flat = true)
    (hpl : fs.toList.mapM (fun f => (sizeA P f.type).map fun s => (f.offset, s)) = some pl)
    (hps : parts.toList.mapM (fun p => (env.eval p.2).map fun v => (p.1, v)) = some ps)
    (hr : fillA (pl[·]?) (spread z) ps = some r) (hN : Nf (i + 1) = Nf i)
    (k : TB P n ops N0 Wt M Nf K (i + 1) l (env.put o.dst (.agg r.toArray)) σ) : TB P n ops N0 Wt M Nf K i (o :: l) env σ := by
  obtain ⟨inf, h1, h2, h3, h4⟩ := hT.ex
  have hps' := parts_keep (ops := ops) (o := o) parts.toList ps hps fun p hp => by rw [ho]; simp [Op.operands]; exact ⟨p.1, by simpa using hp⟩
  exact tb_read hd hw hN (fun _ => False) (fun _ h => h.elim) (fun m => step_build_struct ho hu (by simp [zeroA, h1, h2]) hf hpl hps' hr ⟨rfl, rfl⟩) k
/-- A row is built. -/
theorem xt_row {m len i : Nat} {o : Oper} {l : List Oper} {t e : TypeId} {parts : Array (Nat × Operand)} {z : Value} {size bytes : Nat} {ps : List (Nat × Value)} {r : List Value} (hm : Nf i = m) (hN : Nf (i + 1) = m + 1)
    (ho : o.op = .buildSlice t len parts) (hw : wantedA ops env o = some true) (hd : dstOk n o.dst = true) (ht : P.underlying t = some (.slice e)) (hT : TyI P e z size bytes) (hf : (spread z).all flat = true) (hne : (spread z).length = size) (hp : 0 < size)
    (hsmall : len * size ≤ 16777216) (hps : parts.toList.mapM (fun p => (env.eval p.2).map fun v => (p.1, v)) = some ps)
    (hr : fillA (fun i => some (i * size, size)) (zerosA (spread z) (len * size)) ps = some r) (hrl : len * size ≤ r.length)
    (hbe : ∀ t v, (env.keep (slotsOf ops o)).get t = some v → Bdd m v)
    (k : TB P n ops N0 Wt M Nf K (i + 1) l (env.put o.dst (.slice (some ⟨m, 0, none⟩) len len)) (σ.set m ⟨r, true, size⟩)) : TB P n ops N0 Wt M Nf K i (o :: l) env σ := by
  obtain ⟨inf, h1, h2, h3, h4⟩ := hT.ex
  subst h3; subst hm
  have hps' := parts_keep (ops := ops) (o := o) parts.toList ps hps fun p hp => by rw [ho]; simp [Op.operands]; exact ⟨p.1, by simpa using hp⟩
  refine tb_make hd hw hN hbe rfl (fun e' he => ?_) k
  subst he
  exact step_buildSlice ho ht h1 h2 hf hne hp hsmall hps' hr hrl ⟨rfl, rfl, by rw [AHeap.set_self]⟩
/-- A block that the operation sees. -/
theorem see_made {i d j : Nat} (hds : d < ops.size) (hdw : waitsB ops i d = true) (h1 : Nf d ≤ j) (h2 : j < Nf (d + 1)) : Sees ops N0 Nf i j := .inr ⟨d, hds, hdw, h1, h2⟩
theorem xt_call {m i : Nat} {o : Oper} {l : List Oper} {args : Array Operand} {argTypes : Array TypeId} {g : FuncId} {vs : List Value} {v : Value} (T : Nat → Prop) (hm : Nf i = m) (hN : Nf (i + 1) = m)
    (ho : o.op = .call { callee := .value (.func g), args, argTypes }) (ha : args.toList.mapM env.eval = some vs) (hT : ∀ j, T j → Sees ops N0 Nf i j) (hTb : ∀ j b, T j → σ j = some b → BlkBdd m b)
    (h : Gives P g vs m (viewOf T (fun _ => False) σ) v) (hc : callableB P g = true) (hd : dstOk n o.dst = true) (hw : wantedA ops env o = some true) (hi : i ∈ M)
    (hbe : ∀ t v, (env.keep (slotsOf ops o)).get t = some v → Bdd m v)
    (k : TB P n ops N0 Wt M Nf K (i + 1) l (env.put o.dst v) σ) : TB P n ops N0 Wt M Nf K i (o :: l) env σ := by
  subst hm
  exact tb_call T ho ha hT hTb h hc hd hw hi hN hbe k
/-- One element, made in the region as a row of one, is appended to an own row. -/
theorem xt_pushS {m d i : Nat} {o : Oper} {l : List Oper} {t e : TypeId} {x y : Operand} {z s : Value} {size bytes lo c u : Nat} {olds news : List Value} (hm : Nf i = m) (hN : Nf (i + 1) = m + 1)
    (ho : o.op = .call { callee := .builtin .append, args := #[y, x], argTypes := #[t, t] }) (hw : wantedA ops env o = some true) (hd : dstOk n o.dst = true)
    (ht : P.underlying t = some (.slice e)) (hT : TyI P e z size bytes) (hzc : z.cells.size = size)
    (hy : env.eval y = some s) (hx : env.eval x = some (.slice (some ⟨u, 0, none⟩) 1 1)) (hσu : σ u = some ⟨news, true, size⟩) (hnl : news.length = size)
    (hds : d < ops.size) (hdw : waitsB ops i d = true) (hd1 : Nf d = u) (hd2 : Nf (d + 1) = u + 1) (hv1 : news.all (·.oneCell') = true)
    (hown : OwnAt σ lo s olds c size) (hlo : lo ≤ m) (hroot : ∀ j, rootOf s j → j < N0 ∧ Wt i j) (hN0 : N0 ≤ m) (hi : i ∈ M) (hu : u < m) (hb : (c + 1) * bytes ≤ 140737488355328) (h63 : c + 1 ≤ 140737488355328)
    (hbe : ∀ t v, (env.keep (slotsOf ops o)).get t = some v → Bdd m v) (hbc : ∀ x ∈ olds, Bdd m x) (hbv : ∀ x ∈ news, Bdd m x)
    (k : ∀ v' σ', v' = .slice (some ⟨m, 0, none⟩) (c + 1) (c + 1) → OwnAt σ' lo v' (olds ++ news) (c + 1) size → (∀ j, ¬ rootOf s j → j ≠ m → σ' j = σ j) →
      TB P n ops N0 Wt M Nf K (i + 1) l (env.put o.dst v') σ') : TB P n ops N0 Wt M Nf K i (o :: l) env σ := by
  subst hm
  refine tb_append (ju := u) (m := 1) ho hw hd ht hT hzc hy hx hσu ⟨_, rfl⟩ rfl (by omega) (fun τ ⟨b', h1, h2⟩ => ?_) (by rw [hnl, Nat.one_mul]) (.inr ⟨d, hds, hdw, by omega, by omega⟩) hv1 hown hlo
    (fun j hj => ⟨.inl (hroot j hj).1, Nat.lt_of_lt_of_le (hroot j hj).1 hN0, fun _ => (hroot j hj).2⟩) hi hN hu hb h63 hbe hbc (.row hbv rfl) k
  simp only [srcA]
  rw [if_neg (by omega), h1, Option.bind_some, cellsA, h2]
  simp only [Nat.one_mul]
  rw [if_pos (by omega), ← hnl, List.drop_zero, List.take_length]
end
end Go.Abs
