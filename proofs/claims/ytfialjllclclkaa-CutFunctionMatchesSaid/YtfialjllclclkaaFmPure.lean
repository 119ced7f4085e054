/- Shaken texts of the layer and of the walks. -/
import Derived.Test.YtfialjllclclkaaFmOps
import Derived.Laws.Entries
namespace Go.Abs
section
variable {r : Bool} {P : Program} {n : Nat} {env : Env} {N : Nat} {σ : AHeap} {ι : Ren}

theorem run_eqGuard_int (op : BinOp) (t : TypeId) (x y : Operand) (k k' : IntKind) (a b : Int) (w : World) : (eqGuard op t x y (.int k a) (.int k' b)).run P w = .ok () w := by
  cases op <;> simp [eqGuard]
theorem run_intA {op : BinOp} {k : IntKind} {a b : Int} {r : Value} (h : intA op k a b = some r) (h1 : op ≠ .shl) (h2 : op ≠ .shr) (t : TypeId) (w : World) :
    (binOp op t (.int k a) (.int k b)).run P w = .ok r w ∧ flat r = true := by
  have done_ : ∀ {x y : Value}, some x = some y → flat x = true → (Sem.run P (pure x) w = .ok y w ∧ flat y = true) := fun e f => by cases e; exact ⟨rfl, f⟩
  cases op
  case shl => exact absurd rfl h1
  case shr => exact absurd rfl h2
  case quo =>
    simp only [intA] at h
    split at h
    · simp at h
    · rename_i hz
      simp only [binOp, ne_eq, not_true_eq_false, if_false, Op.intDiv, if_neg hz]
      exact done_ h rfl
  case rem =>
    simp only [intA] at h
    split at h
    · simp at h
    · rename_i hz
      simp only [binOp, ne_eq, not_true_eq_false, if_false, Op.intDiv, if_neg hz]
      exact done_ h rfl
  all_goals
    simp only [intA, cmpA, Option.map_some] at h
    try simp only [binOp, Op.intArith, Op.intBits, Op.intCmp, ne_eq, not_true_eq_false, if_false]
    try exact done_ h rfl
theorem run_shiftA {op : BinOp} {k k' : IntKind} {a b : Int} {r : Value} (hop : op = .shl ∨ op = .shr) (h : shiftA op k a b = some r) (t : TypeId) (w : World) :
    (binOp op t (.int k a) (.int k' b)).run P w = .ok r w ∧ flat r = true := by
  unfold shiftA at h
  split at h
  · cases h
  · rename_i hb
    rcases hop with rfl | rfl <;> simp only [Option.some.injEq] at h <;> subst h <;> refine ⟨?_, rfl⟩ <;> simp only [binOp, Op.shift, if_neg hb] <;> rfl

theorem run_binA_int {op : BinOp} {k k' : IntKind} {a b : Int} {r : Value} {t : TypeId} (h : binA P op t (.int k a) (.int k' b) = some r) (w : World) :
    (binOp op t (.int k a) (.int k' b)).run P w = .ok r w ∧ flat r = true := by
  simp only [binA] at h
  cases op
  case shl => exact run_shiftA (.inl rfl) h t w
  case shr => exact run_shiftA (.inr rfl) h t w
  all_goals
    simp only at h
    split at h
    · rename_i hk; subst hk; exact run_intA h (by simp) (by simp) t w
    · cases h

theorem run_equalIn_flat {t : TypeId} {u v u' v' : Value} {r : Bool} (h : eqA P t u v = some r) (hu : VRel ι u u') (hv : VRel ι v v') (d : Nat) (w : World) :
    (Op.equalIn (d + 1) t u' v').run P w = .ok r w := by
  unfold eqA at h
  split at h
  case h_13 => cases h
  all_goals
    split at h
    · rename_i hd
      cases h
      cases hu <;> cases hv <;> simp only [Op.equalIn, Sem.run_bind, run_underlying hd, Result.andThen_ok, Sem.run_pure] <;> rfl
    · cases h
theorem run_equal_flat {t : TypeId} {u v u' v' : Value} {r : Bool} (h : eqA P t u v = some r) (hu : VRel ι u u') (hv : VRel ι v v') (w : World) :
    (Op.equal t u' v').run P w = .ok r w := run_equalIn_flat h hu hv 9999 w
theorem run_guard_flat {t : TypeId} {u v u' v' : Value} {r : Bool} (h : eqA P t u v = some r) (hu : VRel ι u u') (hv : VRel ι v v') (op : BinOp) (x y : Operand) (w : World) :
    (eqGuard op t x y u' v').run P w = .ok () w := by
  unfold eqA at h
  split at h
  case h_13 => cases h
  all_goals
    cases hu <;> cases hv <;> cases op <;> simp [eqGuard]
theorem binOp_flat {t : TypeId} {u v u' v' : Value} {r : Bool} (h : eqA P t u v = some r) (hu : VRel ι u u') (hv : VRel ι v v') :
    binOp .eql t u' v' = (do pure (.bool (← Op.equal t u' v'))) ∧ binOp .neq t u' v' = (do pure (.bool (!(← Op.equal t u' v')))) := by
  unfold eqA at h
  split at h
  case h_13 => cases h
  all_goals
    cases hu <;> cases hv <;> exact ⟨rfl, rfl⟩

theorem run_binA {op : BinOp} {t : TypeId} {u v u' v' r : Value} (h : binA P op t u v = some r) (hu : VRel ι u u') (hv : VRel ι v v') (x y : Operand) :
    ∃ r', (∀ w, (do eqGuard op t x y u' v'; binOp op t u' v' : Sem Value).run P w = .ok r' w) ∧ VRel ι r r' := by
  by_cases hi : ∃ k a k' b, u = .int k a ∧ v = .int k' b
  · obtain ⟨k, a, k', b, rfl, rfl⟩ := hi
    cases hu; cases hv
    refine ⟨r, fun w => ?_, .of_flat (run_binA_int h default).2⟩
    simp only [Sem.run_bind, run_eqGuard_int, Result.andThen_ok, (run_binA_int h w).1]
  · have hb : binA P op t u v = match op with
        | .eql => (eqA P t u v).map .bool
        | .neq => (eqA P t u v).map fun r => .bool (!r)
        | _ => none := by
      unfold binA
      split
      · exact absurd ⟨_, _, _, _, rfl, rfl⟩ hi
      · cases op <;> rfl
    rw [hb] at h
    cases op <;> simp only [Option.map_eq_some_iff, reduceCtorEq] at h
    case eql =>
      obtain ⟨q, hq, rfl⟩ := h
      refine ⟨.bool q, fun w => ?_, .bool q⟩
      simp only [Sem.run_bind, run_guard_flat hq hu hv, Result.andThen_ok, (binOp_flat hq hu hv).1, run_equal_flat hq hu hv, Sem.run_pure]
    case neq =>
      obtain ⟨q, hq, rfl⟩ := h
      refine ⟨.bool !q, fun w => ?_, .bool _⟩
      simp only [Sem.run_bind, run_guard_flat hq hu hv, Result.andThen_ok, (binOp_flat hq hu hv).2, run_equal_flat hq hu hv, Sem.run_pure]

theorem run_partA {t : TypeId} {cs ds : Array Value} {off : Nat} {r : Value} (h : partA P t cs off = some r) (hs : cs.size = ds.size)
    (hh : ∀ (i : Nat) (v v' : Value), cs[i]? = some v → ds[i]? = some v' → VRel ι v v') :
    ∃ r', (∀ w, (part t ds off).run P w = .ok r' w) ∧ VRel ι r r' := by
  have agg : ∀ (d : TypeDesc), P.underlying t = some d → (d matches .struct _ | .array _ _) = true → ∀ i, P.info? t = some i → r = .agg (cs.extract off (off + i.size)) →
      ∃ r', (∀ w, (part t ds off).run P w = .ok r' w) ∧ VRel ι r r' := by
    intro d hd hm i hi hr
    refine ⟨.agg (ds.extract off (off + i.size)), fun w => ?_, ?_⟩
    · unfold part
      cases d <;> simp at hm <;> simp [isAgg, run_underlying hd, sizeOf, typeInfo, hi]
    · subst hr
      refine .agg (by simp [hs]) fun j v v' a b => ?_
      simp only [Array.getElem?_extract] at a b
      split at a <;> simp_all
      exact hh _ _ _ a b.2
  unfold partA at h
  split at h
  · rename_i fs hd
    simp only [Option.map_eq_some_iff] at h
    obtain ⟨sz, hsz, rfl⟩ := h
    obtain ⟨i, hi, rfl⟩ := sizeA_inv hsz
    exact agg _ hd rfl i hi rfl
  · rename_i m e hd
    simp only [Option.map_eq_some_iff] at h
    obtain ⟨sz, hsz, rfl⟩ := h
    obtain ⟨i, hi, rfl⟩ := sizeA_inv hsz
    exact agg _ hd rfl i hi rfl
  · rename_i d n1 n2 hd
    have hlt : off < cs.size := (Array.getElem?_eq_some_iff.1 h).1
    refine ⟨ds[off]'(hs ▸ hlt), fun w => ?_, hh off _ _ h (Array.getElem?_eq_getElem (hs ▸ hlt))⟩
    unfold part
    have : ds[off]? = some (ds[off]'(hs ▸ hlt)) := Array.getElem?_eq_getElem (hs ▸ hlt)
    cases d <;> first
      | exact absurd rfl (n1 _)
      | exact absurd rfl (n2 _ _)
      | simp [isAgg, run_underlying hd, this]
  · cases h

theorem evals {ds : List Deferred} {a : Act} (he : EnvRel ι n ds env a) : ∀ (l : List Operand) (vs : List Value), l.mapM env.eval = some vs → VRels ι vs (l.map a.eval)
  | [], vs, h => by
    simp only [List.mapM_nil] at h
    cases h; exact VRels.nil
  | x :: l, vs, h => by
    simp only [List.mapM_cons] at h
    cases hx : env.eval x with
    | none => simp [hx] at h
    | some v =>
      cases hl : l.mapM env.eval with
      | none => simp [hx, hl] at h
      | some us =>
        simp [hx, hl] at h
        subst h
        exact VRels.cons (he.eval hx) (evals he l us hl)
theorem VRels.toArray {xs ys : List Value} (h : VRels ι xs ys) : xs.toArray.size = ys.toArray.size ∧ ∀ (i : Nat) (v v' : Value), xs.toArray[i]? = some v → ys.toArray[i]? = some v' → VRel ι v v' :=
  ⟨by simpa using h.1, fun i v v' a b => h.2 i v v' (by simpa using a) (by simpa using b)⟩

theorem run_minmax (mx : Bool) : ∀ (l : List Value) (x r : Value) (l' : List Value) (x' : Value), VRel ι x x' → VRels ι l l' →
    (l.foldlM (fun u v => match u, v with
    | .int k x, .int _ y => some (.int k (if mx then (if y > x then y else x) else (if y < x then y else x)))
    | _, _ => none) x) = some r → (∃ k m, x = .int k m) →
    ∃ r', (∀ w, (l'.foldlM (if mx then Builtin.max2 else Builtin.min2) x').run P w = .ok r' w) ∧ VRel ι r r'
  | [], x, r, l', x', hx, hl, h, _ => by
    cases hl.of_nil
    simp only [List.foldlM_nil] at h
    cases h
    exact ⟨x', fun w => by simp, hx⟩
  | y :: l, x, r, l', x', hx, hl, h, ⟨k, m, hk⟩ => by
    obtain ⟨y', l2, rfl, hy, hl2⟩ := hl.uncons
    subst hk
    cases hx
    simp only [List.foldlM_cons] at h
    cases y with
    | int k2 m2 =>
      cases hy
      obtain ⟨r', h1, h2⟩ := run_minmax mx l _ r l2 _ (.int k _) hl2 h ⟨_, _, rfl⟩
      refine ⟨r', fun w => ?_, h2⟩
      have h1 := h1 w
      cases mx <;> simp only [List.foldlM_cons, Sem.run_bind, Builtin.max2, Builtin.min2, if_true, Bool.false_eq_true, if_false, Sem.run_pure, Result.andThen_ok] at h1 ⊢ <;> exact h1
    | _ => cases h

theorem pureOp_sound {o : Oper} {v : Value} (h : pureOp P env.eval o.op = some v) {ds : List Deferred} {a : Act} (he : EnvRel ι n ds env a) :
    ∃ v', (∀ w, (execOp a.eval o).run P w = .ok (.value v') w) ∧ VRel ι v v' := by
  obtain ⟨dst, op, type, pos, after, guard⟩ := o
  simp only at h
  unfold pureOp at h
  split at h
  · exact ⟨_, fun w => rfl, he.eval h⟩
  · exact ⟨_, fun w => rfl, he.eval h⟩
  · rename_i c x y
    split at h
    · rename_i t hc
      have hc := (he.eval hc).bool_inv
      split at h
      · rename_i ht
        refine ⟨_, fun w => ?_, he.eval h⟩
        simp [execOp, hc, ht, asBool]
      · rename_i ht
        refine ⟨_, fun w => ?_, he.eval h⟩
        simp [execOp, hc, ht, asBool]
    · cases h
  · rename_i op t x y yt
    simp only [Option.bind_eq_some_iff] at h
    obtain ⟨u, hu, v2, hv, hr⟩ := h
    obtain ⟨r', h1, h2⟩ := run_binA hr (he.eval hu) (he.eval hv) x y
    refine ⟨r', fun w => ?_, h2⟩
    have := h1 w
    simp only [execOp, Sem.run_bind] at this ⊢
    simp only [this, Result.andThen_ok, Sem.run_pure]
  · rename_i op t x
    simp only [Option.bind_eq_some_iff] at h
    obtain ⟨u, hu, hr⟩ := h
    have hu := he.eval hu
    split at hr
    · have hu := hu.int_inv
      simp only [intA, Option.some.injEq] at hr
      subst hr
      exact ⟨_, fun w => by simp [execOp, hu, Op.unary, Op.intArith], .int _ _⟩
    · have hu := hu.int_inv
      simp only [intA, Option.some.injEq] at hr
      subst hr
      exact ⟨_, fun w => by simp [execOp, hu, Op.unary, Op.intBits], .int _ _⟩
    · have hu := hu.bool_inv
      cases hr
      exact ⟨_, fun w => by simp [execOp, hu, Op.unary], .bool _⟩
    · cases hr
  · rename_i src dst x
    split at h
    · rename_i d k k' m h1 h2 h3
      cases h
      have h3 := (he.eval h3).int_inv
      refine ⟨_, fun w => ?_, .int _ _⟩
      simp [execOp, convert, run_underlying h1, run_underlying h2, h3, Conv.intToInt]
    · cases h
  · rename_i t ix
    split at h
    · rename_i vs ht
      generalize hq : a.eval t = q
      have ht := hq ▸ he.eval ht
      cases ht with
      | tuple hs hh =>
        rename_i ys
        have hlt : ix < vs.size := (Array.getElem?_eq_some_iff.1 h).1
        have hy : ys[ix]? = some (ys[ix]'(hs ▸ hlt)) := Array.getElem?_eq_getElem (hs ▸ hlt)
        refine ⟨ys[ix]'(hs ▸ hlt), fun w => ?_, hh ix _ _ h hy⟩
        simp [execOp, Instr.extract, hq, hy]
    · cases h
  · rename_i t x f
    split at h
    · rename_i fs cs h1 h2
      simp only [Option.bind_eq_some_iff] at h
      obtain ⟨fd, hfd, hp⟩ := h
      generalize hq : a.eval x = q
      have h2 := hq ▸ he.eval h2
      cases h2 with
      | agg hs hh =>
        obtain ⟨r', g1, g2⟩ := run_partA hp hs hh
        refine ⟨r', fun w => ?_, g2⟩
        simp [execOp, Instr.field, run_underlying h1, hq, asAgg, hfd, g1]
    · cases h
  · rename_i t x ix
    split at h
    · rename_i len e cs k i h1 h2 h3
      split at h
      · rename_i hb
        simp only [Option.bind_eq_some_iff] at h
        obtain ⟨sz, hsz, hp⟩ := h
        obtain ⟨inf, hinf, rfl⟩ := sizeA_inv hsz
        generalize hq : a.eval x = q
        have h2 := hq ▸ he.eval h2
        have h3 := (he.eval h3).int_inv
        cases h2 with
        | agg hs hh =>
          obtain ⟨r', g1, g2⟩ := run_partA hp hs hh
          refine ⟨r', fun w => ?_, g2⟩
          simp [execOp, Instr.index, run_underlying h1, hq, h3, asIntOf, hb, sizeOf, typeInfo, hinf, g1]
      · cases h
    · cases h
  · rename_i fn first captured
    split at h
    case isFalse => cases h
    rename_i hny
    simp only [Option.bind_eq_some_iff, Option.map_eq_some_iff] at h
    obtain ⟨f, hf, c, hc, rfl⟩ := h
    have e1 := (evals he _ _ hf).toArray
    have e2 := (evals he _ _ hc).toArray
    refine ⟨.func fn (first.map a.eval) (captured.map a.eval), fun w => ?_, ?_⟩
    · simp [execOp, Instr.makeFunc]
    · have g1 : (first.toList.map a.eval).toArray = first.map a.eval := by rw [← Array.toList_map, Array.toArray_toList]
      have g2 : (captured.toList.map a.eval).toArray = captured.map a.eval := by rw [← Array.toList_map, Array.toArray_toList]
      rw [g1] at e1; rw [g2] at e2
      exact .func (noYield_ne hny) e1.1 e2.1 e1.2 e2.2
  · rename_i t x ix
    split at h
    · rename_i e b o len cap k i h1 h2 h3
      split at h
      · rename_i hb
        simp only [Option.map_eq_some_iff] at h
        obtain ⟨sz, hsz, rfl⟩ := h
        obtain ⟨inf, hinf, rfl⟩ := sizeA_inv hsz
        generalize hq : a.eval x = q
        have h2 := hq ▸ he.eval h2
        have h3 := (he.eval h3).int_inv
        cases h2 with
        | slice g1 g2 g3 g4 g5 =>
          rename_i x' cap' L
          have hx : x' = L.base + o := by rcases g2 with g2 | ⟨g2, _⟩ <;> omega
          subst hx
          refine ⟨.pointer (some ⟨L.blk, L.base + (o + i.toNat * inf.size), none⟩), fun w => ?_, .ptr g1⟩
          simp [execOp, Instr.indexAt, run_underlying h1, hq, h3, asIntOf, hb, sizeOf, typeInfo, hinf, Addr.add_plain, Nat.add_assoc]
      · cases h
    · rename_i len e b o k i h1 h2 h3
      split at h
      · rename_i hb
        simp only [Option.map_eq_some_iff] at h
        obtain ⟨sz, hsz, rfl⟩ := h
        obtain ⟨inf, hinf, rfl⟩ := sizeA_inv hsz
        generalize hq : a.eval x = q
        have h2 := hq ▸ he.eval h2
        have h3 := (he.eval h3).int_inv
        cases h2 with
        | ptr g1 =>
          rename_i L
          refine ⟨.pointer (some ⟨L.blk, L.base + (o + i.toNat * inf.size), none⟩), fun w => ?_, .ptr g1⟩
          simp [execOp, Instr.indexAt, run_underlying h1, hq, h3, asIntOf, Instr.sureAddr, hb, sizeOf, typeInfo, hinf, Addr.add_plain, Nat.add_assoc]
      · cases h
    · cases h
  · rename_i t x f
    split at h
    · rename_i fs b o h1 h2
      simp only [Option.bind_eq_some_iff] at h
      obtain ⟨fd, hfd, sz, hsz, hp⟩ := h
      obtain ⟨inf, hinf, rfl⟩ := sizeA_inv hsz
      split at hp
      · cases hp
      · rename_i hz
        cases hp
        generalize hq : a.eval x = q
        have h2 := hq ▸ he.eval h2
        cases h2 with
        | ptr g1 =>
          rename_i L
          refine ⟨.pointer (some ⟨L.blk, L.base + (o + fd.offset), none⟩), fun w => ?_, .ptr g1⟩
          simp [execOp, Instr.fieldAt, run_underlying h1, hq, hfd, Instr.sureAddr, fieldPlace, sizeOf, typeInfo, hinf, hz, Addr.add_plain, Nat.add_assoc]
    · cases h
  · rename_i x
    split at h
    · rename_i b o hx
      cases h
      generalize hq : a.eval x = q
      have hx := hq ▸ he.eval hx
      cases hx with
      | ptr g1 => exact ⟨_, fun w => by simp [execOp, hq], .ptr g1⟩
    · rename_i f xs cs hx
      cases h
      generalize hq : a.eval x = q
      have hx := hq ▸ he.eval hx
      cases hx with
      | func g0 g1 g2 g3 g4 => exact ⟨_, fun w => by simp [execOp, hq], .func g0 g1 g2 g3 g4⟩
    · cases h
  · rename_i t x
    split at h
    · cases h
    · rename_i d v2 hne h1 h2
      cases h
      refine ⟨.iface t (a.eval x), fun w => ?_, .iface (he.eval h2)⟩
      simp only [execOp, Instr.makeInterface, Sem.run_bind, run_underlying h1, Result.andThen_ok]
      cases d <;> first
        | exact absurd rfl (hne _)
        | rfl
    · cases h
  · rename_i args argTypes
    split at h
    · rename_i t v2 h1 h2
      simp only [Option.bind_eq_some_iff] at h2
      obtain ⟨x, hx, h2⟩ := h2
      have h2 := he.eval h2
      have hx' : (args.map a.eval)[0]? = some (a.eval x) := by simp [hx]
      split at h
      · rename_i h3 h4
        cases h
        generalize hq : a.eval x = q at *
        refine ⟨_, fun w => ?_, .int _ _⟩
        cases h2 <;> simp [execOp, resolve, invoke, builtin, Builtin.len_, h1, hx', run_underlying h3, goInt]
      · rename_i h3 h4
        cases h
        generalize hq : a.eval x = q at *
        refine ⟨_, fun w => ?_, .int _ _⟩
        cases h2; simp [execOp, resolve, invoke, builtin, Builtin.len_, h1, hx', run_underlying h3, goInt]
      · rename_i h3 h4
        cases h
        refine ⟨_, fun w => ?_, .int _ _⟩
        simp [execOp, resolve, invoke, builtin, Builtin.len_, h1, hx', run_underlying h3, goInt]
      · cases h
    · cases h
  · rename_i args argTypes
    simp only [Option.bind_eq_some_iff] at h
    obtain ⟨vs, hvs, hm⟩ := h
    have hr := evals he _ _ hvs
    unfold minmaxA at hm
    split at hm
    · rename_i k x rest
      obtain ⟨y', l', he', hy, hl⟩ := hr.uncons
      obtain ⟨r', g1, g2⟩ := run_minmax (P := P) true rest _ _ l' y' hy hl hm ⟨_, _, rfl⟩
      refine ⟨r', fun w => ?_, g2⟩
      have := g1 w
      simp only [if_true] at this
      simp [execOp, resolve, invoke, builtin, Builtin.max_, he', this]
    · cases hm
  · rename_i args argTypes
    simp only [Option.bind_eq_some_iff] at h
    obtain ⟨vs, hvs, hm⟩ := h
    have hr := evals he _ _ hvs
    unfold minmaxA at hm
    split at hm
    · rename_i k x rest
      obtain ⟨y', l', he', hy, hl⟩ := hr.uncons
      obtain ⟨r', g1, g2⟩ := run_minmax (P := P) false rest _ _ l' y' hy hl hm ⟨_, _, rfl⟩
      refine ⟨r', fun w => ?_, g2⟩
      have := g1 w
      simp only [Bool.false_eq_true, if_false] at this
      simp [execOp, resolve, invoke, builtin, Builtin.min_, he', this]
    · cases hm
  · cases h
theorem pureOp_plain {op : Op} {v : Value} (h : pureOp P env.eval op = some v) : ∀ c, op ≠ .defer c := fun c e => by subst e; simp [pureOp] at h
end
end Go.Abs

