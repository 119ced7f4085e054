/- Shaken texts of the layer and of the walks. -/
import Derived.Test.YtfialjllclclkaaFmQuiet2
import Derived.Test.YtfialjllclclkaaFmTb2
namespace Go.Abs
section
variable {r : Bool} {P : Program} {n : Nat} {ops : Array Oper} {env : Env} {N w : Nat} {σ : AHeap} {K : Env → AHeap → Prop} {M : List Nat}
theorem res_c {fn : Func} {a t i off : Nat} {b : Blk} {v : Value} (hr : fn.results = #[.cell a t]) (ha : env.get a = some (.pointer (some ⟨i, off, none⟩))) (hb : σ i = some b) (hl : loadA P t b off = some v) : resA P fn env σ = some v := by
  unfold resA
  rw [hr]
  simp only [List.mapM_cons, List.mapM_nil, resOneA, ha, hb, hl, Option.bind_some, Option.bind_eq_bind, Option.pure_def, Option.map_some]
theorem res_ct {fn : Func} {a t i off d : Nat} {b : Blk} {v u : Value} (hr : fn.results = #[.cell a t, .tmp d]) (ha : env.get a = some (.pointer (some ⟨i, off, none⟩))) (hb : σ i = some b) (hl : loadA P t b off = some v) (hd : env.get d = some u) :
    resA P fn env σ = some (.tuple #[v, u]) := by
  unfold resA
  rw [hr]
  simp only [List.mapM_cons, List.mapM_nil, resOneA, ha, hb, hl, hd, Option.bind_some, Option.bind_eq_bind, Option.pure_def, Option.map_some]
theorem res_tt {fn : Func} {c d : Nat} {v u : Value} (hr : fn.results = #[.tmp c, .tmp d]) (hc : env.get c = some v) (hd : env.get d = some u) : resA P fn env σ = some (.tuple #[v, u]) := by
  unfold resA
  rw [hr]
  simp only [List.mapM_cons, List.mapM_nil, resOneA, hc, hd, Option.bind_some, Option.bind_eq_bind, Option.pure_def, Option.map_some]
def wrL (w : Nat) (M : List Nat) : Nat → Nat → Prop := fun k j => j = w ∧ k ∈ M
def calmL (ops : Array Oper) (i : Nat) (M : List Nat) : Bool := M.all fun k => Nat.beq k i || waitsB ops i k || waitsB ops k i
noncomputable def wv (N w : Nat) (σ : AHeap) : AHeap := viewOf (fun j => j < N ∧ j ≠ w) (fun _ => False) σ
theorem calm_w {i j : Nat} (h1 : j < N) (h2 : j ≠ w) : Calm ops N (wrL w M) i j := ⟨h1, fun _ hw => absurd hw.1 h2⟩
theorem calm_ww {i : Nat} (h1 : w < N) (h : calmL ops i M = true) : Calm ops N (wrL w M) i w := ⟨h1, fun k hk => by
  have := List.all_eq_true.1 h k hk.2
  simp only [Bool.or_eq_true] at this
  rcases this with (h | h) | h
  · exact .inl (Nat.eq_of_beq_eq_true h)
  · exact .inr (.inl h)
  · exact .inr (.inr h)⟩
theorem wv_get (hN : ∀ i b, σ i = some b → i < N) {i : Nat} {b : Blk} (h : σ i = some b) (hw : i ≠ w) (hr : b.row) : ∃ b', wv N w σ i = some b' ∧ b'.cells = b.cells ∧ b'.esz = b.esz := by
  obtain ⟨b', h1, h2, h3, _⟩ := viewOf_get (T := fun j => j < N ∧ j ≠ w) (W := fun _ => False) ⟨hN i b h, hw⟩ h (.inl hr)
  exact ⟨b', h1, h2, h3⟩
theorem SlAt.wv {σ0 : AHeap} (hN : ∀ i b, σ i = some b → i < N) (hle : σ0.le σ) (hw : ∀ b, σ0 w ≠ some b) {v : Value} {vs : List Value} (h : SlAt σ0 v vs) : SlAt (wv N w σ) v vs := by
  rcases h with h | ⟨id, off, cap, b, h1, h2, h3, h4⟩
  · exact .inl h
  · obtain ⟨b', g1, g2, g3⟩ := wv_get (w := w) hN (hle _ _ h2) (fun e => hw b (e ▸ h2)) ⟨_, h4⟩
    exact .inr ⟨id, off, cap, b', h1, g1, by rw [g2]; exact h3, by rw [g3]; exact h4⟩
theorem RowsAt.wv {σ0 : AHeap} (hN : ∀ i b, σ i = some b → i < N) (hle : σ0.le σ) (hw : ∀ b, σ0 w ≠ some b) {sz : Nat} {v : Value} {rows : List (List Value)} (h : RowsAt σ0 sz v rows) : RowsAt (wv N w σ) sz v rows := by
  rcases h with h | ⟨id, off, cap, b, h1, h2, h3, h4⟩
  · exact .inl h
  · obtain ⟨b', g1, g2, g3⟩ := wv_get (w := w) hN (hle _ _ h2) (fun e => hw b (e ▸ h2)) ⟨_, h4⟩
    refine .inr ⟨id, off, cap, b', h1, g1, fun j r hr => ?_, by rw [g3]; exact h4⟩
    have := h3 j r hr
    unfold cellsA at this ⊢
    rw [g2]; exact this
theorem awp_wr {id : Nat} {l : List Oper} {K : Exit → Env → Nat → AHeap → Prop} (ks : List Nat) (w : Nat) (M : List Nat) (hst : drawnB P l M = true)
    (h : (∀ i b, σ i = some b → i < N) → TB P n l.toArray N (wrL w M) M (fun _ => N) (fun e s => K .normal (e.keep ks) N s) 0 l env σ) : AWp r P n (.region id l.toArray true) env N σ K :=
  awp_fresh fun hN => awp_tbk ks (wrL w M) M (fun _ => N) hst rfl (h hN)
theorem tw_pures (k : Nat) {i : Nat} {l : List Oper} {env' : Env} (h : pureSteps P n ops (l.take k) env = some env') (hk : TB P n ops N (wrL w M) M (fun _ => N) K (i + k) (l.drop k) env' σ) : TB P n ops N (wrL w M) M (fun _ => N) K i l env σ :=
  tb_pures k i h (fun _ _ => rfl) hk
theorem tw_load {i : Nat} {o : Oper} {l : List Oper} {t : TypeId} {x : Operand} {id off : Nat} {b : Blk} {v : Value} (hN : ∀ i b, σ i = some b → i < N) (ho : o.op = .load t x) (hw : wantedA ops env o = some true) (hd : dstOk n o.dst = true)
    (hx : env.eval x = some (.pointer (some ⟨id, off, none⟩))) (hb : σ id = some b) (hrow : b.row) (hne : id ≠ w) (hv : loadA P t b off = some v)
    (k : TB P n ops N (wrL w M) M (fun _ => N) K (i + 1) l (env.put o.dst v) σ) : TB P n ops N (wrL w M) M (fun _ => N) K i (o :: l) env σ :=
  tb_load hd hw ho hx hb hrow (calm_w (hN _ _ hb) hne) hv rfl k
theorem tw_loadw {i : Nat} {o : Oper} {l : List Oper} {t : TypeId} {x : Operand} {off : Nat} {b : Blk} {v : Value} (hN : ∀ i b, σ i = some b → i < N) (ho : o.op = .load t x) (hw : wantedA ops env o = some true) (hd : dstOk n o.dst = true)
    (hx : env.eval x = some (.pointer (some ⟨w, off, none⟩))) (hb : σ w = some b) (hrow : b.row) (hc : calmL ops i M = true) (hv : loadA P t b off = some v)
    (k : TB P n ops N (wrL w M) M (fun _ => N) K (i + 1) l (env.put o.dst v) σ) : TB P n ops N (wrL w M) M (fun _ => N) K i (o :: l) env σ :=
  tb_load hd hw ho hx hb hrow (calm_ww (hN _ _ hb) hc) hv rfl k
theorem tw_gives {i : Nat} {o : Oper} {l : List Oper} {f : Operand} {args : Array Operand} {argTypes : Array TypeId} {g : FuncId} {xs cs : Array Value} {vs : List Value} {v : Value}
    (ho : o.op = .call { callee := .value f, args, argTypes }) (hf : env.eval f = some (.func (.func g) xs cs)) (ha : args.toList.mapM env.eval = some vs)
    (h : ∀ m, Gives P g (xs.toList ++ vs ++ cs.toList) m (wv N w σ) v) (hc : callableB P g = true) (hd : dstOk n o.dst = true) (hw : wantedA ops env o = some true)
    (k : TB P n ops N (wrL w M) M (fun _ => N) K (i + 1) l (env.put o.dst v) σ) : TB P n ops N (wrL w M) M (fun _ => N) K i (o :: l) env σ := by
  have ha' : args.toList.mapM (env.keep (slotsOf ops o)).eval = some vs := mapM_congr_some _ _ ha fun x hx u hu => eval_keep (by rw [ho]; simp [Op.operands, Call.operands] at hx ⊢; exact .inr hx) hu
  have hf' : (env.keep (slotsOf ops o)).eval f = some (.func (.func g) xs cs) := eval_keep (by rw [ho]; simp [Op.operands, Call.operands]) hf
  refine tb_read hd hw rfl (fun j => j < N ∧ j ≠ w) (fun _ h => calm_w h.1 h.2) (fun m => step_call ho hf' ha' hc ?_) k
  have := h m
  unfold Gives at this
  exact this.mono fun v1 N1 σ1 ⟨h1, h2, _⟩ => ⟨h1, h2⟩
theorem tw_build {i : Nat} {o : Oper} {l : List Oper} {t : TypeId} {fs : Array Field} {parts : Array (Nat × Operand)} {z : Value} {size bytes : Nat} {ps : List (Nat × Value)} {pl : List (Nat × Nat)} {r : List Value}
    (ho : o.op = .build t parts) (hw : wantedA ops env o = some true) (hd : dstOk n o.dst = true) (hu : P.underlying t = some (.struct fs)) (hT : TyI P t z size bytes) (hf : (spread z).all flat = true)
    (hpl : fs.toList.mapM (fun f => (sizeA P f.type).map fun s => (f.offset, s)) = some pl)
    (hps : parts.toList.mapM (fun p => (env.eval p.2).map fun v => (p.1, v)) = some ps)
    (hr : fillA (pl[·]?) (spread z) ps = some r)
    (k : TB P n ops N (wrL w M) M (fun _ => N) K (i + 1) l (env.put o.dst (.agg r.toArray)) σ) : TB P n ops N (wrL w M) M (fun _ => N) K i (o :: l) env σ :=
  tb_build ho hw hd hu hT hf hpl hps hr rfl k
theorem tw_store {i : Nat} {o : Oper} {l : List Oper} {t : TypeId} {x y : Operand} {off : Nat} {b : Blk} {v : Value} (hN : ∀ i b, σ i = some b → i < N) (ho : o.op = .store t x y) (hw : wantedA ops env o = some true) (hd : dstOk n o.dst = true)
    (hx : env.eval x = some (.pointer (some ⟨w, off, none⟩))) (hy : env.eval y = some v) (hb : σ w = some b) (hrow : b.row) (hown : b.own = true)
    (hsz : sizeA P t = some (spread v).length) (hsc : (spread v).all (·.oneCell') = true) (hfit : off + (spread v).length ≤ b.cells.length) (hi : i ∈ M)
    (hbv : Bdd N v) (hbb : BlkBdd N b)
    (k : (∀ i b', (σ.set w ⟨splice b.cells off (spread v), true, b.esz⟩) i = some b' → i < N) → TB P n ops N (wrL w M) M (fun _ => N) K (i + 1) l (env.put o.dst undef) (σ.set w ⟨splice b.cells off (spread v), true, b.esz⟩)) : TB P n ops N (wrL w M) M (fun _ => N) K i (o :: l) env σ := by
  have hwN := hN _ _ hb
  have hx' : (env.keep (slotsOf ops o)).eval x = some (.pointer (some ⟨w, off, none⟩)) := eval_keep (by rw [ho]; simp [Op.operands]) hx
  have hy' : (env.keep (slotsOf ops o)).eval y = some v := eval_keep (by rw [ho]; simp [Op.operands]) hy
  obtain ⟨b', g1, g2, g3, g4⟩ := viewOf_get (T := fun j => j = w) (W := fun j => j = w) rfl hb (.inl hrow)
  have g4 := g4 rfl
  refine ⟨undef, _, .chain, (fun j => j = w), (fun j => j = w), ⟨hd, .inr (.inr (.inr ⟨hw, rfl, hi, Nat.le_refl _, fun t u ht => ?_, fun j hj => by subst hj; exact ⟨rfl, fun _ => ⟨rfl, hi⟩, b, hb⟩, fun j hj _ => AHeap.set_ne _ _ hj, fun j hj => by subst hj; exact .inl hwN, fun j b2 hj hb2 => by subst hj; rw [hb] at hb2; cases hb2; exact hbb, ?_⟩))⟩, k fun i b' h => by
    unfold AHeap.set at h
    split at h
    · subst_vars; exact hwN
    · exact hN _ _ h⟩
  · have hm := keep_get_mem env _ t u ht
    have hg := Env.keep_get env _ t u ht
    unfold slotsOf at hm
    rw [ho] at hm
    simp only [Op.operands, List.mem_append, List.flatMap_cons, List.flatMap_nil, List.append_nil] at hm
    rcases hm with (hm | hm) | hm
    · cases x with
      | tmp s =>
        simp only [opndTmp, List.mem_singleton] at hm
        subst hm
        have hx : env.get t = some (.pointer (some ⟨w, off, none⟩)) := hx
        rw [hg] at hx; cases hx
        exact .ptr hwN
      | _ => simp [opndTmp] at hm
    · cases y with
      | tmp s =>
        simp only [opndTmp, List.mem_singleton] at hm
        subst hm
        have hy : env.get t = some v := hy
        rw [hg] at hy; cases hy
        exact hbv
      | _ => simp [opndTmp] at hm
    · have hwd := hw
      unfold wantedA at hwd
      cases hgd : o.guard with
      | none => rw [hgd] at hm; simp at hm
      | some q =>
        obtain ⟨j, want⟩ := q
        rw [hgd] at hm hwd
        simp only at hm hwd
        cases ht2 : (ops[j]?).bind (·.dst) with
        | none => rw [ht2] at hwd; cases hwd
        | some s =>
          rw [ht2] at hwd
          simp only [ht2, Option.toList, List.mem_singleton] at hm
          subst hm
          simp only [hg] at hwd
          split at hwd
          · rename_i e; cases e; exact .of_flat rfl
          · cases hwd
          · cases hwd
  · refine step_store ho hx' g1 hy' (g4.trans hown) hsz hsc (by rw [g2]; exact hfit) ⟨rfl, rfl, fun j b2 hb2 hj => ?_⟩
    rcases hj with hj | hj
    · subst hj
      rw [AHeap.set_self] at hb2 ⊢
      cases hb2
      rw [g2, g3]
      exact ⟨rfl, rfl⟩
    · exact absurd (Nat.lt_of_le_of_lt hj.1 hj.2) (Nat.lt_irrefl _)
theorem tw_end {i : Nat} (h : K env σ) : TB P n ops N (wrL w M) M (fun _ => N) K i [] env σ := h
end
end Go.Abs

