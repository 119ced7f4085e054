/- Shaken texts of the layer and of the walks. -/
import Derived.Test.YtfialjllclclkaaFmWr
namespace Go.Abs
section
variable {r : Bool} {P : Program} {n : Nat} {env : Env} {N : Nat} {σ : AHeap} {ops : Array Oper} {N0 : Nat} {Wt : Nat → Nat → Prop} {L M : List Nat} {ws : List (Nat × Nat)} {Nf : Nat → Nat} {K : Env → AHeap → Prop}

def wsW (ws : List (Nat × Nat)) : Nat → Nat → Prop := fun k j => (k, j) ∈ ws
def nfL (N : Nat) (L : List Nat) : Nat → Nat := fun k => N + cntN L k
theorem cntN_zero (L : List Nat) : cntN L 0 = 0 := by
  unfold cntN
  rw [List.filter_eq_nil_iff.2 fun d _ => by simp [Nat.blt]]; rfl
theorem awp_mk {id : Nat} {l : List Oper} {K : Exit → Env → Nat → AHeap → Prop} (ks : List Nat) (L M : List Nat) (ws : List (Nat × Nat)) (hst : drawnB P l M = true)
    (h : (∀ i b, σ i = some b → i < N) → TB P n l.toArray N (wsW ws) M (nfL N L) (fun e s => K .normal (e.keep ks) (N + cntN L l.length) s) 0 l env σ) : AWp r P n (.region id l.toArray true) env N σ K :=
  awp_fresh fun hN => awp_tbk ks (wsW ws) M (nfL N L) hst (by unfold nfL; rw [cntN_zero]; rfl) (h hN)
theorem calm0 {i j : Nat} (h1 : j < N) : Calm ops N (wsW []) i j := ⟨h1, fun _ hk => absurd hk (by unfold wsW; simp)⟩
theorem calm1 {i j : Nat} {p : Nat × Nat} (h1 : j < N) (h2 : j ≠ p.2) : Calm ops N (wsW [p]) i j := ⟨h1, fun k hk => by
  unfold wsW at hk
  rw [List.mem_singleton] at hk
  subst hk; exact absurd rfl h2⟩
theorem calm2 {i j : Nat} {p q : Nat × Nat} (h1 : j < N) (h2 : j ≠ p.2) (h3 : j ≠ q.2) : Calm ops N (wsW [p, q]) i j := ⟨h1, fun k hk => by
  unfold wsW at hk
  simp only [List.mem_cons, List.not_mem_nil, or_false] at hk
  rcases hk with hk | hk <;> subst hk
  · exact absurd rfl h2
  · exact absurd rfl h3⟩
theorem calmA {i j : Nat} (h1 : j < N) (h : (ws.map (·.1)).all (fun k => Nat.beq k i || waitsB ops i k || waitsB ops k i) = true) : Calm ops N (wsW ws) i j := ⟨h1, fun k hk => by
  have := List.all_eq_true.1 h k (List.mem_map.2 ⟨(k, j), hk, rfl⟩)
  simp only [Bool.or_eq_true] at this
  rcases this with (h | h) | h
  · exact .inl (Nat.eq_of_beq_eq_true h)
  · exact .inr (.inl h)
  · exact .inr (.inr h)⟩

theorem tb_store {i w off : Nat} {o : Oper} {l : List Oper} {t : TypeId} {x y : Operand} {b : Blk} {v : Value} (ho : o.op = .store t x y) (hw : wantedA ops env o = some true) (hd : dstOk n o.dst = true)
    (hx : env.eval x = some (.pointer (some ⟨w, off, none⟩))) (hy : env.eval y = some v) (hb : σ w = some b) (hrow : b.row) (hown : b.own = true)
    (hsz : sizeA P t = some (spread v).length) (hsc : (spread v).all (·.oneCell') = true) (hfit : off + (spread v).length ≤ b.cells.length) (hi : i ∈ M) (hN : Nf (i + 1) = Nf i)
    (hsee : Sees ops N0 Nf i w) (hwt : w < N0 → Wt i w) (hwN : w < Nf i) (hbv : Bdd (Nf i) v) (hbb : BlkBdd (Nf i) b)
    (k : TB P n ops N0 Wt M Nf K (i + 1) l (env.put o.dst undef) (σ.set w ⟨splice b.cells off (spread v), true, b.esz⟩)) : TB P n ops N0 Wt M Nf K i (o :: l) env σ := by
  have hx' : (env.keep (slotsOf ops o)).eval x = some (.pointer (some ⟨w, off, none⟩)) := eval_keep (by rw [ho]; simp [Op.operands]) hx
  have hy' : (env.keep (slotsOf ops o)).eval y = some v := eval_keep (by rw [ho]; simp [Op.operands]) hy
  obtain ⟨b', g1, g2, g3, g4⟩ := viewOf_get (T := fun j => j = w) (W := fun j => j = w) rfl hb (.inl hrow)
  have g4 := g4 rfl
  refine ⟨undef, _, .chain, (fun j => j = w), (fun j => j = w), ⟨hd, .inr (.inr (.inr ⟨hw, rfl, hi, by omega, fun t u ht => ?_, fun j hj => by subst hj; exact ⟨rfl, hwt, b, hb⟩, fun j hj _ => AHeap.set_ne _ _ hj, fun j hj => by subst hj; exact hsee, fun j b2 hj hb2 => by subst hj; rw [hb] at hb2; cases hb2; exact hbb, ?_⟩))⟩, k⟩
  · have hm := keep_get_mem env _ t u ht
    have hg := Env.keep_get env _ t u ht
    unfold slotsOf at hm
    rw [ho] at hm
    simp only [Op.operands, List.mem_append, List.flatMap_cons, List.flatMap_nil, List.append_nil] at hm
    rcases hm with (hm | hm) | hm
    · cases x with
      | tmp s =>
        simp only [opndTmp, List.mem_singleton] at hm
        subst hm
        have hx : env.get t = some (.pointer (some ⟨w, off, none⟩)) := hx
        rw [hg] at hx; cases hx
        exact .ptr hwN
      | _ => simp [opndTmp] at hm
    · cases y with
      | tmp s =>
        simp only [opndTmp, List.mem_singleton] at hm
        subst hm
        have hy : env.get t = some v := hy
        rw [hg] at hy; cases hy
        exact hbv
      | _ => simp [opndTmp] at hm
    · have hwd := hw
      unfold wantedA at hwd
      cases hgd : o.guard with
      | none => rw [hgd] at hm; simp at hm
      | some q =>
        obtain ⟨j, want⟩ := q
        rw [hgd] at hm hwd
        simp only at hm hwd
        cases ht2 : (ops[j]?).bind (·.dst) with
        | none => rw [ht2] at hwd; cases hwd
        | some s =>
          rw [ht2] at hwd
          simp only [ht2, Option.toList, List.mem_singleton] at hm
          subst hm
          simp only [hg] at hwd
          split at hwd
          · rename_i e; cases e; exact .of_flat rfl
          · cases hwd
          · cases hwd
  · refine step_store ho hx' g1 hy' (g4.trans hown) hsz hsc (by rw [g2]; exact hfit) ⟨rfl, hN.symm, fun j b2 hb2 hj => ?_⟩
    rcases hj with hj | hj
    · subst hj
      rw [AHeap.set_self] at hb2 ⊢
      cases hb2
      rw [g2, g3]
      exact ⟨rfl, rfl⟩
    · omega
theorem tb_alloc {i : Nat} {o : Oper} {l : List Oper} {t : TypeId} {z : Value} {size bytes : Nat} (esz : Nat) (ho : o.op = .alloc t) (hw : wantedA ops env o = some true) (hd : dstOk n o.dst = true)
    (hT : TyI P t z size bytes) (hf : (spread z).all flat = true) (hN : Nf (i + 1) = Nf i + 1) (hbe : ∀ t v, (env.keep (slotsOf ops o)).get t = some v → Bdd (Nf i) v)
    (k : TB P n ops N0 Wt M Nf K (i + 1) l (env.put o.dst (.pointer (some ⟨Nf i, 0, none⟩))) (σ.set (Nf i) ⟨spread z, true, esz⟩)) : TB P n ops N0 Wt M Nf K i (o :: l) env σ := by
  obtain ⟨inf, h1, h2, h3, h4⟩ := hT.ex
  exact tb_make hd hw hN hbe rfl (fun e' he => step_alloc esz ho (by simp [zeroA, h1, h2]) hf ⟨rfl, rfl, by rw [AHeap.set_self]⟩) k
theorem bdd_none {m : Nat} {o : Oper} (h : slotsOf ops o = []) : ∀ t v, (env.keep (slotsOf ops o)).get t = some v → Bdd m v := fun t v hv => by
  rw [h] at hv; cases hv

theorem mk_pures (k : Nat) {i : Nat} {l : List Oper} {env' : Env} (h : pureSteps P n ops (l.take k) env = some env') (hc : (List.range k).all (fun j => Nat.beq (cntN L (i + j + 1)) (cntN L (i + j))) = true)
    (hk : TB P n ops N (wsW ws) M (nfL N L) K (i + k) (l.drop k) env' σ) : TB P n ops N (wsW ws) M (nfL N L) K i l env σ :=
  tb_pures k i h (fun j hj => congrArg (N + ·) (Nat.eq_of_beq_eq_true (List.all_eq_true.1 hc j (List.mem_range.2 hj)))) hk
theorem mk_load {i : Nat} {o : Oper} {l : List Oper} {t : TypeId} {x : Operand} {id off : Nat} {b : Blk} {v : Value} (ho : o.op = .load t x) (hw : wantedA ops env o = some true) (hd : dstOk n o.dst = true) (hc : cntN L (i + 1) = cntN L i)
    (hx : env.eval x = some (.pointer (some ⟨id, off, none⟩))) (hb : σ id = some b) (hv : loadA P t b off = some v) (hrow : b.row) (hcalm : Calm ops N (wsW ws) i id)
    (k : TB P n ops N (wsW ws) M (nfL N L) K (i + 1) l (env.put o.dst v) σ) : TB P n ops N (wsW ws) M (nfL N L) K i (o :: l) env σ :=
  tb_load hd hw ho hx hb hrow hcalm hv (congrArg (N + ·) hc) k
theorem mk_gives {i : Nat} {o : Oper} {l : List Oper} {f : Operand} {args : Array Operand} {argTypes : Array TypeId} {g : FuncId} {xs cs : Array Value} {vs : List Value} {v : Value} (T : Nat → Prop)
    (ho : o.op = .call { callee := .value f, args, argTypes }) (hf : env.eval f = some (.func (.func g) xs cs)) (ha : args.toList.mapM env.eval = some vs) (hT : ∀ j, T j → Calm ops N (wsW ws) i j)
    (h : ∀ m, Gives P g (xs.toList ++ vs ++ cs.toList) m (viewOf T (fun _ => False) σ) v) (hcb : callableB P g = true) (hd : dstOk n o.dst = true) (hw : wantedA ops env o = some true) (hc : cntN L (i + 1) = cntN L i)
    (k : TB P n ops N (wsW ws) M (nfL N L) K (i + 1) l (env.put o.dst v) σ) : TB P n ops N (wsW ws) M (nfL N L) K i (o :: l) env σ := by
  have ha' : args.toList.mapM (env.keep (slotsOf ops o)).eval = some vs := mapM_congr_some _ _ ha fun x hx u hu => eval_keep (by rw [ho]; simp [Op.operands, Call.operands] at hx ⊢; exact .inr hx) hu
  have hf' : (env.keep (slotsOf ops o)).eval f = some (.func (.func g) xs cs) := eval_keep (by rw [ho]; simp [Op.operands, Call.operands]) hf
  refine tb_read hd hw (congrArg (N + ·) hc) T hT (fun m => step_call ho hf' ha' hcb ?_) k
  have := h m
  unfold Gives at this
  exact this.mono fun v1 N1 σ1 ⟨h1, h2, _⟩ => ⟨h1, h2⟩
theorem mk_alloc {i m : Nat} {o : Oper} {l : List Oper} {t : TypeId} {z : Value} {size bytes : Nat} (esz : Nat) (hm : nfL N L i = m) (ho : o.op = .alloc t) (hw : wantedA ops env o = some true) (hd : dstOk n o.dst = true) (hs : slotsOf ops o = [])
    (hT : TyI P t z size bytes) (hf : (spread z).all flat = true) (hc : cntN L (i + 1) = cntN L i + 1)
    (k : TB P n ops N (wsW ws) M (nfL N L) K (i + 1) l (env.put o.dst (.pointer (some ⟨m, 0, none⟩))) (σ.set m ⟨spread z, true, esz⟩)) : TB P n ops N (wsW ws) M (nfL N L) K i (o :: l) env σ := by
  subst hm
  exact tb_alloc esz ho hw hd hT hf (by unfold nfL; omega) (bdd_none hs) k
theorem mk_storeN {i d w off m : Nat} {o : Oper} {l : List Oper} {t : TypeId} {x y : Operand} {b : Blk} {v : Value} (hm : nfL N L i = m) (ho : o.op = .store t x y) (hw : wantedA ops env o = some true) (hd : dstOk n o.dst = true)
    (hx : env.eval x = some (.pointer (some ⟨w, off, none⟩))) (hy : env.eval y = some v) (hb : σ w = some b) (hrow : b.row) (hown : b.own = true)
    (hsz : sizeA P t = some (spread v).length) (hsc : (spread v).all (·.oneCell') = true) (hfit : off + (spread v).length ≤ b.cells.length) (hi : i ∈ M) (hc : cntN L (i + 1) = cntN L i)
    (hds : d < ops.size) (hdw : waitsB ops i d = true) (hu : nfL N L d = w) (hd1 : cntN L (d + 1) = cntN L d + 1) (hwm : w < m) (hbv : Bdd m v) (hbb : BlkBdd m b)
    (k : TB P n ops N (wsW ws) M (nfL N L) K (i + 1) l (env.put o.dst undef) (σ.set w ⟨splice b.cells off (spread v), true, b.esz⟩)) : TB P n ops N (wsW ws) M (nfL N L) K i (o :: l) env σ := by
  subst hm
  refine tb_store ho hw hd hx hy hb hrow hown hsz hsc hfit hi (congrArg (N + ·) hc) (.inr ⟨d, hds, hdw, Nat.le_of_eq hu, by unfold nfL at hu ⊢; omega⟩) (fun h => by unfold nfL at hu; omega) hwm hbv hbb k
noncomputable def mv (N : Nat) (σ : AHeap) : AHeap := viewOf (fun j => j < N) (fun _ => False) σ
theorem mv_get {σ0 : AHeap} (hN : ∀ i b, σ0 i = some b → i < N) (hle : σ0.le σ) {i : Nat} {b : Blk} (h : σ0 i = some b) (hr : b.row) : ∃ b', mv N σ i = some b' ∧ b'.cells = b.cells ∧ b'.esz = b.esz := by
  obtain ⟨b', h1, h2, h3, _⟩ := viewOf_get (T := fun j => j < N) (W := fun _ => False) (hN i b h) (hle _ _ h) (.inl hr)
  exact ⟨b', h1, h2, h3⟩
theorem SlAt.mv {σ0 : AHeap} {v : Value} {vs : List Value} (h : SlAt σ0 v vs) (hN : ∀ i b, σ0 i = some b → i < N) (hle : σ0.le σ) : SlAt (mv N σ) v vs := by
  rcases h with h | ⟨id, off, cap, b, h1, h2, h3, h4⟩
  · exact .inl h
  · obtain ⟨b', g1, g2, g3⟩ := mv_get hN hle h2 ⟨_, h4⟩
    exact .inr ⟨id, off, cap, b', h1, g1, by rw [g2]; exact h3, by rw [g3]; exact h4⟩
theorem RowsAt.mv {σ0 : AHeap} {sz : Nat} {v : Value} {rows : List (List Value)} (h : RowsAt σ0 sz v rows) (hN : ∀ i b, σ0 i = some b → i < N) (hle : σ0.le σ) : RowsAt (mv N σ) sz v rows := by
  rcases h with h | ⟨id, off, cap, b, h1, h2, h3, h4⟩
  · exact .inl h
  · obtain ⟨b', g1, g2, g3⟩ := mv_get hN hle h2 ⟨_, h4⟩
    refine .inr ⟨id, off, cap, b', h1, g1, fun j r hr => ?_, by rw [g3]; exact h4⟩
    have := h3 j r hr
    unfold cellsA at this ⊢
    rw [g2]; exact this
theorem mk_end {i : Nat} (h : K env σ) : TB P n ops N (wsW ws) M (nfL N L) K i [] env σ := h
end
end Go.Abs

