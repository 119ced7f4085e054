/- Shaken texts of the layer and of the walks. -/
import Derived.Test.YtfialjllclclkaaFmEqs
import Derived.MapKept
import Derived.DeepKeys3
namespace Go.Abs
section
variable {P : Program} {n : Nat} {env : Env} {N : Nat} {σ : AHeap} {ι : Ren}

def keyOk (P : Program) (kt : TypeId) (k : Value) : Bool := flat k && (P.keyTypeAt 30 kt && (k.formed P kt && (P.keyLits 30 kt k.cells.toList).isSome))
theorem run_check {kt : TypeId} {k : Value} (h : keyOk P kt k = true) (em : Bool) (w : World) : (Instr.checkKey em 10000 kt k).run P w = .ok () w := by
  simp only [keyOk, Bool.and_eq_true] at h
  obtain ⟨_, h2, h3, h4⟩ := h
  obtain ⟨la, hla⟩ := Option.isSome_iff_exists.1 h4
  exact run_checkKey_deep em 9970 30 kt h2 w 30 k la h3 hla
def findA (P : Program) (kt : TypeId) (k : Value) : List (Value × Value) → Nat → Option (Option (Nat × Value))
  | [], _ => some none
  | (k', v) :: es, i => bif flat k' then match eqS P 30 kt k k' with
    | some true => some (some (i, v))
    | some false => findA P kt k es (i + 1)
    | none => none
    else none
def FindRel (ι : Ren) : Option (Nat × Value) → Option (Nat × Value) → Prop
  | none, none => True
  | some (i, v), some (j, v') => i = j ∧ VRel ι v v'
  | _, _ => False
theorem run_asking {kt : TypeId} {k : Value} (hk : flat k = true) : ∀ (es : List (Value × Value)) (ms : List MapEntry) (i : Nat) (r : Option (Nat × Value)), ms.length = es.length →
    (∀ (j : Nat) (k v : Value), es[j]? = some (k, v) → ∃ e, ms[j]? = some e ∧ VRel ι k e.key ∧ VRel ι v e.val) → findA P kt k es i = some r →
    ∃ r', (∀ w, (Instr.findAsking kt k ms i).run P w = .ok r' w) ∧ FindRel ι r r'
  | [], [], i, r, _, _, h => by
    cases h
    exact ⟨none, fun w => rfl, trivial⟩
  | [], _ :: _, _, _, hl, _, _ => by cases hl
  | _ :: _, [], _, _, hl, _, _ => by cases hl
  | (k', v) :: es, m :: ms, i, r, hl, he, h => by
    obtain ⟨e, e1, e2, e3⟩ := he 0 k' v rfl
    simp only [List.getElem?_cons_zero, Option.some.injEq] at e1
    subst e1
    simp only [findA] at h
    cases hf : flat k' with
    | false => rw [hf] at h; cases h
    | true =>
      rw [hf, cond_true] at h
      have hrun : ∀ b, eqS P 30 kt k k' = some b → ∀ w, (Op.equal kt k m.key).run P w = .ok b w := fun b hb => run_equalIn_eqS 30 10000 hb (.of_flat hk) e2 (by decide)
      split at h
      · rename_i hb
        cases h
        exact ⟨some (i, m.val), fun w => by simp [Instr.findAsking, hrun _ hb, Result.andThen], rfl, e3⟩
      · rename_i hb
        obtain ⟨r', h1, h2⟩ := run_asking hk es ms (i + 1) r (by simpa using hl) (fun j k v hj => he (j + 1) k v hj) h
        exact ⟨r', fun w => by simp [Instr.findAsking, hrun _ hb, Result.andThen, h1], h2⟩
      · cases h
theorem run_sameIn {kt : TypeId} {d : TypeDesc} {a b : Value} {r : Bool} (hd : P.underlying kt = some d) (h : Instr.sameNow d a b = some r) (D : Nat) (w : World) : (Op.equalIn (D + 1) kt a b).run P w = .ok r w := by
  cases d <;> cases a <;> cases b <;> simp only [Instr.sameNow, reduceCtorEq] at h
  all_goals (try (split at h)) 
  all_goals (first | (cases h; subst_vars; simp [Op.equalIn, run_underlying hd, Result.andThen]) | (cases h))
theorem run_same {kt : TypeId} {d : TypeDesc} {a b : Value} {r : Bool} (hd : P.underlying kt = some d) (h : Instr.sameNow d a b = some r) (w : World) : (Op.equal kt a b).run P w = .ok r w := run_sameIn hd h 9999 w
theorem run_mapAt {w : World} {r : Nat} {es : Array MapEntry} {ck : Nat} (h : w.heap[r]? = some (.map es ck)) : (getObj r).run P w = .ok (.map es ck) w := by simp [getObj, Sem.run, h]
theorem run_mapSet {w : World} {r : Nat} {es : Array MapEntry} {ck : Nat} (o : Obj) (h : w.heap[r]? = some (.map es ck)) : (setObj r o).run P w = .ok () (w.putObj r o) := by simp [setObj, Sem.run, h, World.putObj]
theorem now_asking {kt : TypeId} {d : TypeDesc} {k : Value} (hd : P.underlying kt = some d) : ∀ (ms : List MapEntry) (i : Nat) (r : Option (Nat × Value)), Instr.findNow d k ms i = some r → ∀ w, (Instr.findAsking kt k ms i).run P w = .ok r w
  | [], i, r, h, w => by cases h; rfl
  | m :: ms, i, r, h, w => by
    unfold Instr.findNow at h
    split at h
    · rename_i hs
      cases h
      simp [Instr.findAsking, run_same hd hs, Result.andThen]
    · rename_i hs
      simp [Instr.findAsking, run_same hd hs, Result.andThen, now_asking hd ms (i + 1) r h w]
    · cases h
theorem run_find {kt : TypeId} {d : TypeDesc} {k : Value} {ms : List MapEntry} {r : Option (Nat × Value)} (hd : P.underlying kt = some d) (h : ∀ w, (Instr.findAsking kt k ms 0).run P w = .ok r w) (w : World) : (Instr.findKey kt k ms).run P w = .ok r w := by
  cases hn : Instr.findNow d k ms 0 with
  | none => simp [Instr.findKey, run_underlying hd, hn, Result.andThen, h w]
  | some r2 =>
    have := now_asking hd ms 0 r2 hn w
    rw [h w] at this
    cases this
    simp [Instr.findKey, run_underlying hd, hn, Result.andThen]
def entriesA (σ : AHeap) : Value → Option (List (Value × Value))
  | .map none => some []
  | .map (some i) => (σ i).bind fun b => match b.esz with
    | .map es => some es
    | _ => none
  | _ => none
def lookA (P : Program) (σ : AHeap) (t : TypeId) (m k : Value) (ok : Bool) : Option Value :=
  match P.underlying t, entriesA σ m with
  | some (.map kt et), some es => bif keyOk P kt k then match findA P kt k es 0 with
    | some (some (_, v)) => some (bif ok then .tuple #[v, .bool true] else v)
    | some none => (zeroA P et).bind fun z => bif flat z then some (bif ok then .tuple #[z, .bool false] else z) else none
    | none => none
    else none
  | _, _ => none
theorem VRel.pair {v v' : Value} (h : VRel ι v v') (b : Bool) : VRel ι (.tuple #[v, .bool b]) (.tuple #[v', .bool b]) := by
  refine .tuple rfl fun i u u' h1 h2 => ?_
  match i with
  | 0 => simp at h1 h2; subst h1; subst h2; exact h
  | 1 => simp at h1 h2; subst h1; subst h2; exact .bool b
  | i + 2 => simp at h1
def MapAt (w : World) (p : Value) (ms : Array MapEntry) : Prop := (p = .map none ∧ ms = #[]) ∨ ∃ r ck, p = .map (some r) ∧ w.heap[r]? = some (.map ms ck)
theorem run_lookup_hit {t kt et : TypeId} {p key : Value} {ms : Array MapEntry} {w : World} (ht : P.underlying t = some (.map kt et)) (hp : MapAt w p ms) (hc : ∀ em, (Instr.checkKey em 10000 kt key).run P w = .ok () w) {j : Nat} {v : Value}
    (hf : (Instr.findKey kt key ms.toList).run P w = .ok (some (j, v)) w) (ok : Bool) : (Instr.lookup t p key ok).run P w = .ok (bif ok then .tuple #[v, .bool true] else v) w := by
  rcases hp with ⟨rfl, rfl⟩ | ⟨r, ck, rfl, hw⟩
  · unfold Instr.lookup
    simp only [Sem.run_bind, run_underlying ht, Result.andThen_ok, Sem.run_pure, hc, hf]
    cases ok <;> rfl
  · unfold Instr.lookup
    simp only [Sem.run_bind, run_underlying ht, Result.andThen_ok, run_mapAt hw, Sem.run_pure, hc, hf]
    cases ok <;> rfl
theorem run_lookup_miss {t kt et : TypeId} {p key z : Value} {ms : Array MapEntry} {w : World} (ht : P.underlying t = some (.map kt et)) (hp : MapAt w p ms) (hc : ∀ em, (Instr.checkKey em 10000 kt key).run P w = .ok () w)
    (hf : (Instr.findKey kt key ms.toList).run P w = .ok none w) (hz : (zeroValue et).run P w = .ok z w) (ok : Bool) : (Instr.lookup t p key ok).run P w = .ok (bif ok then .tuple #[z, .bool false] else z) w := by
  rcases hp with ⟨rfl, rfl⟩ | ⟨r, ck, rfl, hw⟩
  · unfold Instr.lookup
    simp only [Sem.run_bind, run_underlying ht, Result.andThen_ok, Sem.run_pure, hc, hf, hz]
    cases ok <;> rfl
  · unfold Instr.lookup
    simp only [Sem.run_bind, run_underlying ht, Result.andThen_ok, run_mapAt hw, Sem.run_pure, hc, hf, hz]
    cases ok <;> rfl
theorem step_lookup {o : Oper} {t : TypeId} {x ix : Operand} {ok : Bool} {m k v : Value} {K : Value → Nat → AHeap → Prop} (ho : o.op = .lookup t x ix ok) (hx : env.eval x = some m) (hk : env.eval ix = some k) (h : lookA P σ t m k ok = some v)
    (kk : K v N σ) : StepQ P n o env N σ K := by
  intro F hF ds ι w a next Q he hr hq
  generalize hp : a.eval x = p
  have hx' := hp ▸ he.eval hx
  have hk' := he.eval hk
  unfold lookA at h
  split at h
  · rename_i kt et es ht hes
    cases hko : keyOk P kt k with
    | false => rw [hko] at h; cases h
    | true =>
      rw [hko, cond_true] at h
      have hfk : flat k = true := by simp only [keyOk, Bool.and_eq_true] at hko; exact hko.1
      have hkk := (flat_iff hfk).1 hk'
      have hd : ∃ d, P.underlying kt = some d := by
        simp only [keyOk, Bool.and_eq_true] at hko
        have := hko.2.1
        unfold Program.keyTypeAt at this
        cases hu : P.underlying kt with
        | none => rw [hu] at this; simp at this
        | some d => exact ⟨d, rfl⟩
      obtain ⟨d, hd⟩ := hd
      have hms : ∃ ms : Array MapEntry, (∃ t, MapRel ι es ms t) ∧ MapAt w p ms := by
        unfold entriesA at hes
        split at hes
        · cases hes
          cases hx'
          exact ⟨#[], ⟨0, rfl, (fun j k v hj => by simp at hj), rfl, fun j e hj => by simp at hj⟩, .inl ⟨rfl, rfl⟩⟩
        · rename_i i
          simp only [Option.bind_eq_some_iff] at hes
          obtain ⟨b, hb, hes⟩ := hes
          split at hes
          · rename_i es' hz
            cases hes
            cases hx' with
            | map h3 =>
              obtain ⟨L, h1, h2⟩ := hr.blk i b hb
              rw [h1] at h3; cases h3
              obtain ⟨_, ms, ck, g1, g2⟩ := h2.mapOf hz
              exact ⟨ms, ⟨ck, g2⟩, .inr ⟨_, ck, rfl, g1⟩⟩
          · cases hes
        · cases hes
      obtain ⟨ms, ⟨ct, hrel⟩, hget⟩ := hms
      have hfind : ∀ r, findA P kt k es 0 = some r → ∃ r', (∀ w, (Instr.findKey kt k ms.toList).run P w = .ok r' w) ∧ FindRel ι r r' := fun r hr => by
        obtain ⟨r', q1, q2⟩ := run_asking hfk es ms.toList 0 r (by simpa using hrel.1) (fun j k v hj => by
          obtain ⟨e, e1, e2⟩ := hrel.2.1 j k v hj
          exact ⟨e, by simpa using e1, e2⟩) hr
        exact ⟨r', fun w => run_find hd q1 w, q2⟩
      have hfin : ∃ v', (Instr.lookup t p (a.eval ix) ok).run P w = .ok v' w ∧ VRel ι v v' := by
        rw [hkk]
        split at h
        · rename_i j u hf
          cases h
          obtain ⟨r', q1, q2⟩ := hfind _ hf
          cases r' with
          | none => exact q2.elim
          | some pr =>
            obtain ⟨j', u'⟩ := pr
            obtain ⟨rfl, hu⟩ := q2
            refine ⟨_, run_lookup_hit ht hget (fun em => run_check hko em w) (q1 w) ok, ?_⟩
            cases ok
            · exact hu
            · exact hu.pair true
        · rename_i hf
          simp only [Option.bind_eq_some_iff] at h
          obtain ⟨z, hz, h⟩ := h
          cases hfz : flat z with
          | false => rw [hfz] at h; cases h
          | true =>
            rw [hfz, cond_true] at h
            cases h
            obtain ⟨r', q1, q2⟩ := hfind _ hf
            cases r' with
            | some pr => exact q2.elim
            | none =>
              simp only [zeroA, Option.bind_eq_some_iff] at hz
              obtain ⟨inf, i1, i2⟩ := hz
              refine ⟨_, run_lookup_miss ht hget (fun em => run_check hko em w) (q1 w) (show (zeroValue et).run P w = .ok z w by simp [zeroValue, typeInfo, i1, i2]) ok, ?_⟩
              cases ok
              · exact .of_flat hfz
              · exact (VRel.of_flat hfz).pair false
        · cases h
      obtain ⟨v', q1, q2⟩ := hfin
      have hrun : (execOp a.eval o).run P w = .ok (.value v') w := by
        obtain ⟨dst, op, type, pos, after, guard⟩ := o
        simp only at ho; subst ho
        simp only [execOp, hp, Sem.run_bind, q1, Result.andThen_ok, Sem.run_pure]
      refine wpIn_of_run hF (by rw [ho]; simp) hrun ?_
      exact hq ι w v v' N σ kk q2 hr (.refl _ _ _ _)
  · cases h
theorem rel_newMap {w : World} (h : Rel ι N σ w) :
    let ι' := ι.put N ⟨w.heap.size, 0, 0, 0⟩
    Rel ι' (N + 1) (σ.set N ⟨[], true, .map []⟩) (w.alloc (.map #[] 0)) ∧ Tr ι N σ w ι' (N + 1) (σ.set N ⟨[], true, .map []⟩) (w.alloc (.map #[] 0)) := by
  intro ι'
  have hx : Ext ι ι' := Ren.ext_put h.dom _
  have hk : ι' N = some ⟨w.heap.size, 0, 0, 0⟩ := by simp [ι', Ren.put]
  refine ⟨h.update hx (Ren.dom_put h.dom _) N ⟨[], true, .map []⟩ ⟨w.heap.size, 0, 0, 0⟩ hk ?_ ?_ ?_, ⟨hx, fun i hi => by simp only [ι', Ren.put]; rw [if_neg (by omega)], Nat.le_succ _, rfl, rfl, rfl, by simp, fun β hb _ => ?_, ?_⟩⟩
  · exact ⟨⟨rfl, rfl⟩, #[], 0, heap_alloc_new w _, rfl, (fun j k v hj => by simp at hj), rfl, fun j e hj => by simp at hj⟩
  · intro i b' hi
    unfold AHeap.set at hi
    by_cases e : i = N
    · rw [if_pos e] at hi; cases hi; exact .inl ⟨e, rfl⟩
    · rw [if_neg e] at hi; exact .inr ⟨e, hi⟩
  · intro i b' L' hne hi hL
    unfold AHeap.set at hi
    rw [if_neg hne] at hi
    obtain ⟨L2, h1, h2⟩ := h.blk i b' hi
    rw [hL] at h1; cases h1
    have := h2.lt
    exact ⟨Go.RowKit.Below.heap_alloc _ _ _ this, by simp; omega⟩
  · exact Go.RowKit.Below.heap_alloc _ _ _ hb
  · rintro β ⟨i, b', L', h1, h2, h3, h4⟩
    unfold AHeap.set at h1
    by_cases e : i = N
    · subst e; rw [hk] at h3; cases h3; exact .inr (by subst h4; exact Nat.le_refl _)
    · rw [if_neg e] at h1
      obtain ⟨L2, g1, g2⟩ := h.blk i b' h1
      have := hx _ _ g1
      rw [h3] at this; cases this
      exact .inl ⟨i, b', L', h1, h2, g1, h4⟩
theorem step_makeMap {o : Oper} {t : TypeId} {K : Value → Nat → AHeap → Prop} (ho : o.op = .makeMap t none) (k : K (.map (some N)) (N + 1) (σ.set N ⟨[], true, .map []⟩)) : StepQ P n o env N σ K := by
  intro F hF ds ι w a next Q he hr hq
  obtain ⟨r1, t1⟩ := rel_newMap hr
  have hrun : (execOp a.eval o).run P w = .ok (.value (.map (some w.heap.size))) (w.alloc (.map #[] 0)) := by
    obtain ⟨dst, op, type, pos, after, guard⟩ := o
    simp only at ho; subst ho
    simp [execOp, Instr.makeMap]
  refine wpIn_of_run hF (by rw [ho]; simp) hrun ?_
  exact hq _ _ _ _ _ _ k (.map (L := ⟨w.heap.size, 0, 0, 0⟩) (by simp [Ren.put])) r1 t1

theorem rel_mapPut {w : World} (h : Rel ι N σ w) {i : Nat} {b : Blk} {L : Loc} (hi : σ i = some b) (hL : ι i = some L) {es es2 : List (Value × Value)} (hk : b.esz = .map es) {ms2 : Array MapEntry} {ck2 : Nat}
    (hm : MapRel ι es2 ms2 ck2) :
    Rel ι N (σ.set i ⟨[], true, .map es2⟩) (w.putObj L.blk (.map ms2 ck2)) ∧ Tr ι N σ w ι N (σ.set i ⟨[], true, .map es2⟩) (w.putObj L.blk (.map ms2 ck2)) := by
  obtain ⟨L', g1, g2⟩ := h.blk i b hi
  rw [hL] at g1; cases g1
  have ho : b.own = true := (g2.mapOf hk).1.2
  have hlt : L.blk < w.heap.size := g2.lt
  refine ⟨h.update (Ext.refl _) h.dom i ⟨[], true, .map es2⟩ L hL ⟨⟨rfl, rfl⟩, ms2, ck2, World.putObj_heap_same hlt, hm⟩ ?_ ?_, ⟨Ext.refl _, fun _ _ => rfl, Nat.le_refl _, rfl, rfl, rfl, by rw [World.putObj_size]; exact Nat.le_refl _, fun β hb hno => World.putObj_heap_other fun e => hno ⟨i, b, L, hi, ho, hL, e.symm⟩, ?_⟩⟩
  · intro j b' hj
    unfold AHeap.set at hj
    by_cases e : j = i
    · rw [if_pos e] at hj; cases hj; exact .inl ⟨e, rfl⟩
    · rw [if_neg e] at hj; exact .inr ⟨e, hj⟩
  · intro j b' L' hne hj hL'
    unfold AHeap.set at hj
    rw [if_neg hne] at hj
    have := h.inj j i b' b L' L hne hj hi hL' hL (.inr ho)
    exact ⟨World.putObj_heap_other this, this⟩
  · rintro β ⟨j, b', L', g1, g2, g3, g4⟩
    unfold AHeap.set at g1
    by_cases e : j = i
    · subst e; rw [hL] at g3; cases g3; exact .inl ⟨j, b, L, hi, ho, hL, g4⟩
    · rw [if_neg e] at g1; exact .inl ⟨j, b', L', g1, g2, g3, g4⟩
def putA (P : Program) (kt : TypeId) (es : List (Value × Value)) (k v : Value) : Option (List (Value × Value)) :=
  bif keyOk P kt k then match findA P kt k es 0 with
    | some (some (i, _)) => match es[i]? with
      | some (k', _) => bif flat k' && Instr.sameBits 10000 k' k then some (es.set i (k, v)) else none
      | none => none
    | some none => some (es ++ [(k, v)])
    | none => none
  else none
theorem step_mapUpdate {o : Oper} {t kt et : TypeId} {x y z : Operand} {i : Nat} {b : Blk} {es es2 : List (Value × Value)} {k v : Value} {K : Value → Nat → AHeap → Prop} (ho : o.op = .mapUpdate t x y z ∨ o.op = .insert t x y z) (ht : P.underlying t = some (.map kt et))
    (hx : env.eval x = some (.map (some i))) (hy : env.eval y = some k) (hz : env.eval z = some v) (hb : σ i = some b) (hbz : b.esz = .map es) (hput : putA P kt es k v = some es2)
    (kk : K undef N (σ.set i ⟨[], true, .map es2⟩)) : StepQ P n o env N σ K := by
  intro F hF ds ι w a next Q he hr hq
  generalize hp : a.eval x = p
  have hx' := hp ▸ he.eval hx
  have hk' := he.eval hy
  have hv' := he.eval hz
  obtain ⟨L, h1, h2⟩ := hr.blk i b hb
  obtain ⟨_, ms, ck, g1, g2⟩ := h2.mapOf hbz
  cases hx' with
  | map h3 =>
    rw [h1] at h3; cases h3
    unfold putA at hput
    cases hko : keyOk P kt k with
    | false => rw [hko] at hput; cases hput
    | true =>
      rw [hko, cond_true] at hput
      have hfk : flat k = true := by simp only [keyOk, Bool.and_eq_true] at hko; exact hko.1
      have hkk := (flat_iff hfk).1 hk'
      have hd : ∃ d, P.underlying kt = some d := by
        simp only [keyOk, Bool.and_eq_true] at hko
        have := hko.2.1
        unfold Program.keyTypeAt at this
        cases hu : P.underlying kt with
        | none => rw [hu] at this; simp at this
        | some d => exact ⟨d, rfl⟩
      obtain ⟨d, hd⟩ := hd
      have hfind : ∀ r, findA P kt k es 0 = some r → ∃ r', (∀ w, (Instr.findKey kt k ms.toList).run P w = .ok r' w) ∧ FindRel ι r r' := fun r hr => by
        obtain ⟨r', q1, q2⟩ := run_asking hfk es ms.toList 0 r (by simpa using g2.1) (fun j k v hj => by
          obtain ⟨e, e1, e2⟩ := g2.2.1 j k v hj
          exact ⟨e, by simpa using e1, e2⟩) hr
        exact ⟨r', fun w => run_find hd q1 w, q2⟩
      have hfin : ∃ ms2 ck2, (Instr.mapUpdate t (.map (some L.blk)) (a.eval y) (a.eval z)).run P w = .ok () (w.putObj L.blk (.map ms2 ck2)) ∧ MapRel ι es2 ms2 ck2 := by
        rw [hkk]
        split at hput
        · rename_i j u hf
          split at hput
          · rename_i k0 v0 hj
            cases hsb : (flat k0 && Instr.sameBits 10000 k0 k) with
            | false => rw [hsb] at hput; cases hput
            | true =>
              rw [hsb, cond_true] at hput
              cases hput
              simp only [Bool.and_eq_true] at hsb
              obtain ⟨r', q1, q2⟩ := hfind _ hf
              cases r' with
              | none => exact q2.elim
              | some pr =>
                obtain ⟨j', u'⟩ := pr
                obtain ⟨rfl, hu⟩ := q2
                obtain ⟨e, e1, e2, e3⟩ := g2.2.1 j k0 v0 hj
                have hke := (flat_iff hsb.1).1 e2
                refine ⟨ms.modify j fun e => { e with key := k, val := a.eval z }, ck, ?_, ?_⟩
                · unfold Instr.mapUpdate
                  simp only [Sem.run_bind, run_underlying ht, Result.andThen_ok, run_mapAt g1, run_check hko, q1, e1, Option.map_some, Option.getD_some, hke, Instr.keyThatStays, hsb.2, if_true, Sem.run_pure, run_mapSet _ g1]
                · refine ⟨by simp [g2.1], fun m k1 v1 hm => ?_, by rw [List.length_set]; exact g2.2.2.1, fun m e' hm => ?_⟩
                  rotate_left
                  · rw [Array.getElem?_modify] at hm
                    split at hm
                    · rename_i hjm
                      subst hjm
                      simp only [e1, Option.map_some, Option.some.injEq] at hm
                      subst hm
                      exact g2.2.2.2 j e e1
                    · exact g2.2.2.2 m e' hm
                  rw [List.getElem?_set] at hm
                  by_cases e : j = m
                  · subst e
                    rw [if_pos rfl] at hm
                    split at hm
                    · cases hm
                      exact ⟨{ e with key := k, val := a.eval z }, by simp [Array.getElem?_modify, e1], .of_flat hfk, hv'⟩
                    · cases hm
                  · rw [if_neg e] at hm
                    obtain ⟨e', f1, f2⟩ := g2.2.1 m k1 v1 hm
                    exact ⟨e', by simp [Array.getElem?_modify, e, f1], f2⟩
          · cases hput
        · rename_i hf
          cases hput
          obtain ⟨r', q1, q2⟩ := hfind _ hf
          cases r' with
          | some pr => exact q2.elim
          | none =>
            refine ⟨ms.push { key := k, val := a.eval z, born := ck }, ck + 1, ?_, ?_⟩
            · unfold Instr.mapUpdate
              simp only [Sem.run_bind, run_underlying ht, Result.andThen_ok, run_mapAt g1, run_check hko, q1, run_mapSet _ g1]
            · refine ⟨by simp [g2.1], fun m k1 v1 hm => ?_, by simp [g2.2.2.1], fun m e' hm => ?_⟩
              rotate_left
              · rw [Array.getElem?_push] at hm
                split at hm
                · rename_i hm2
                  cases hm
                  rw [hm2, g2.1, g2.2.2.1]
                · exact g2.2.2.2 m e' hm
              rw [List.getElem?_append] at hm
              split at hm
              · rename_i hlt
                obtain ⟨e', f1, f2⟩ := g2.2.1 m k1 v1 hm
                exact ⟨e', by rw [Array.getElem?_push, if_neg (by rw [g2.1]; omega)]; exact f1, f2⟩
              · rename_i hge
                have hm0 : m - es.length = 0 := by
                  rcases Nat.eq_zero_or_pos (m - es.length) with h | h
                  · exact h
                  · rw [List.getElem?_eq_none (by simp only [List.length_singleton]; omega)] at hm; cases hm
                rw [hm0] at hm
                simp only [List.getElem?_cons_zero, Option.some.injEq, Prod.mk.injEq] at hm
                obtain ⟨rfl, rfl⟩ := hm
                exact ⟨_, by rw [Array.getElem?_push, if_pos (by rw [g2.1]; omega)], .of_flat hfk, hv'⟩
        · cases hput
      obtain ⟨ms2, ck2, q1, q2⟩ := hfin
      obtain ⟨r1, t1⟩ := rel_mapPut hr hb h1 hbz (ck2 := ck2) q2
      have hrun : (execOp a.eval o).run P w = .ok .skip (w.putObj L.blk (.map ms2 ck2)) := by
        obtain ⟨dst, op, type, pos, after, guard⟩ := o
        simp only at ho
        rcases ho with ho | ho <;> subst ho <;> simp only [execOp, hp, Sem.run_bind, q1, Result.andThen_ok, Sem.run_pure]
      refine wpIn_of_run hF (by rcases ho with ho | ho <;> rw [ho] <;> simp) hrun ?_
      exact hq _ _ undef undef _ _ kk (.of_flat rfl) r1 t1
theorem MapRel.modify {es : List (Value × Value)} {ms : Array MapEntry} {t : Nat} (h : MapRel ι es ms t) {j : Nat} {k v : Value} (f : MapEntry → MapEntry) (hf : ∀ e, (f e).born = e.born)
    (he : ∀ e, ms[j]? = some e → VRel ι k (f e).key ∧ VRel ι v (f e).val) : MapRel ι (es.set j (k, v)) (ms.modify j f) t := by
  refine ⟨by simp [h.1], fun m k1 v1 hm => ?_, by rw [List.length_set]; exact h.2.2.1, fun m e' hm => ?_⟩
  · rw [List.getElem?_set] at hm
    split at hm
    · rename_i hjm
      subst hjm
      split at hm
      · rename_i hlt
        cases hm
        obtain ⟨e, h1⟩ : ∃ e, ms[j]? = some e := ⟨_, Array.getElem?_eq_getElem (by rw [h.1]; exact hlt)⟩
        exact ⟨f e, by simp [Array.getElem?_modify, h1], (he e h1).1, (he e h1).2⟩
      · cases hm
    · rename_i hjm
      obtain ⟨e', f1, f2⟩ := h.2.1 m k1 v1 hm
      exact ⟨e', by simp [Array.getElem?_modify, hjm, f1], f2⟩
  · rw [Array.getElem?_modify] at hm
    split at hm
    · rename_i hjm
      subst hjm
      simp only [Option.map_eq_some_iff] at hm
      obtain ⟨e, h1, rfl⟩ := hm
      rw [hf]; exact h.2.2.2 j e h1
    · exact h.2.2.2 m e' hm
theorem MapRel.push {es : List (Value × Value)} {ms : Array MapEntry} {t : Nat} (h : MapRel ι es ms t) {k v k' v' : Value} (hk : VRel ι k k') (hv : VRel ι v v') : MapRel ι (es ++ [(k, v)]) (ms.push { key := k', val := v', born := t }) (t + 1) := by
  refine ⟨by simp [h.1], fun m k1 v1 hm => ?_, by simp [h.2.2.1], fun m e' hm => ?_⟩
  · rw [List.getElem?_append] at hm
    split at hm
    · rename_i hlt
      obtain ⟨e', f1, f2⟩ := h.2.1 m k1 v1 hm
      exact ⟨e', by rw [Array.getElem?_push, if_neg (by rw [h.1]; omega)]; exact f1, f2⟩
    · rename_i hge
      have hm0 : m - es.length = 0 := by
        rcases Nat.eq_zero_or_pos (m - es.length) with h | h
        · exact h
        · rw [List.getElem?_eq_none (by simp only [List.length_singleton]; omega)] at hm; cases hm
      rw [hm0] at hm
      simp only [List.getElem?_cons_zero, Option.some.injEq, Prod.mk.injEq] at hm
      obtain ⟨rfl, rfl⟩ := hm
      exact ⟨_, by rw [Array.getElem?_push, if_pos (by rw [h.1]; omega)], hk, hv⟩
  · rw [Array.getElem?_push] at hm
    split at hm
    · rename_i hm2
      cases hm
      rw [hm2, h.1, h.2.2.1]
    · exact h.2.2.2 m e' hm
theorem VRel.two {v v' u u' : Value} (h : VRel ι v v') (k : VRel ι u u') : VRel ι (.tuple #[v, u]) (.tuple #[v', u']) := by
  refine .tuple rfl fun i x x' h1 h2 => ?_
  match i with
  | 0 => simp at h1 h2; subst h1; subst h2; exact h
  | 1 => simp at h1 h2; subst h1; subst h2; exact k
  | i + 2 => simp at h1
def entryA (P : Program) (kt et : TypeId) (es : List (Value × Value)) (k : Value) : Option (List (Value × Value) × Value × Nat) :=
  bif keyOk P kt k then match findA P kt k es 0 with
    | some (some (i, v)) => match es[i]? with
      | some (k', v') => bif flat k' && Instr.sameBits 10000 k' k then some (es.set i (k, v'), v, i) else none
      | none => none
    | some none => (zeroA P et).bind fun z => bif flat z then some (es ++ [(k, z)], z, es.length) else none
    | none => none
  else none
theorem step_mapEntry {o : Oper} {t kt et : TypeId} {x y : Operand} {i : Nat} {b : Blk} {es es2 : List (Value × Value)} {k v : Value} {m : Nat} {K : Value → Nat → AHeap → Prop} (ho : o.op = .mapEntry t x y) (ht : P.underlying t = some (.map kt et))
    (hx : env.eval x = some (.map (some i))) (hy : env.eval y = some k) (hb : σ i = some b) (hbz : b.esz = .map es) (hput : entryA P kt et es k = some (es2, v, m))
    (kk : K (.tuple #[v, .int .i64 m]) N (σ.set i ⟨[], true, .map es2⟩)) : StepQ P n o env N σ K := by
  intro F hF ds ι w a next Q he hr hq
  generalize hp : a.eval x = p
  have hx' := hp ▸ he.eval hx
  have hk' := he.eval hy
  obtain ⟨L, h1, h2⟩ := hr.blk i b hb
  obtain ⟨_, ms, ck, g1, g2⟩ := h2.mapOf hbz
  cases hx' with
  | map h3 =>
    rw [h1] at h3; cases h3
    unfold entryA at hput
    cases hko : keyOk P kt k with
    | false => rw [hko] at hput; cases hput
    | true =>
      rw [hko, cond_true] at hput
      have hfk : flat k = true := by simp only [keyOk, Bool.and_eq_true] at hko; exact hko.1
      have hkk := (flat_iff hfk).1 hk'
      have hd : ∃ d, P.underlying kt = some d := by
        simp only [keyOk, Bool.and_eq_true] at hko
        have := hko.2.1
        unfold Program.keyTypeAt at this
        cases hu : P.underlying kt with
        | none => rw [hu] at this; simp at this
        | some d => exact ⟨d, rfl⟩
      obtain ⟨d, hd⟩ := hd
      have hfind : ∀ r, findA P kt k es 0 = some r → ∃ r', (∀ w, (Instr.findKey kt k ms.toList).run P w = .ok r' w) ∧ FindRel ι r r' := fun r hr => by
        obtain ⟨r', q1, q2⟩ := run_asking hfk es ms.toList 0 r (by simpa using g2.1) (fun j k v hj => by
          obtain ⟨e, e1, e2⟩ := g2.2.1 j k v hj
          exact ⟨e, by simpa using e1, e2⟩) hr
        exact ⟨r', fun w => run_find hd q1 w, q2⟩
      have hfin : ∃ ms2 ck2 v', (Instr.mapEntry t (.map (some L.blk)) (a.eval y)).run P w = .ok (.tuple #[v', .int .i64 m]) (w.putObj L.blk (.map ms2 ck2)) ∧ MapRel ι es2 ms2 ck2 ∧ VRel ι v v' := by
        rw [hkk]
        split at hput
        · rename_i j u hf
          split at hput
          · rename_i k0 v0 hj
            cases hsb : (flat k0 && Instr.sameBits 10000 k0 k) with
            | false => rw [hsb] at hput; cases hput
            | true =>
              rw [hsb, cond_true] at hput
              simp only [Option.some.injEq, Prod.mk.injEq] at hput
              obtain ⟨rfl, rfl, rfl⟩ := hput
              simp only [Bool.and_eq_true] at hsb
              obtain ⟨r', q1, q2⟩ := hfind _ hf
              cases r' with
              | none => exact q2.elim
              | some pr =>
                obtain ⟨j', u'⟩ := pr
                obtain ⟨rfl, hu⟩ := q2
                obtain ⟨e, e1, e2, e3⟩ := g2.2.1 j k0 v0 hj
                have hke := (flat_iff hsb.1).1 e2
                have hbn := g2.2.2.2 j e e1
                refine ⟨ms.modify j fun e => { e with key := k }, ck, u', ?_, g2.modify _ (fun _ => rfl) (fun e' h' => ?_), hu⟩
                · unfold Instr.mapEntry
                  simp only [Sem.run_bind, run_underlying ht, Result.andThen_ok, run_mapAt g1, run_check hko, q1, e1, Option.map_some, Option.getD_some, hke, Instr.keyThatStays, hsb.2, if_true, Sem.run_pure, run_mapSet _ g1, hbn, goInt]
                · rw [e1] at h'; cases h'
                  exact ⟨.of_flat hfk, e3⟩
          · cases hput
        · rename_i hf
          simp only [Option.bind_eq_some_iff] at hput
          obtain ⟨z, hz, hput⟩ := hput
          cases hfz : flat z with
          | false => rw [hfz] at hput; cases hput
          | true =>
            rw [hfz, cond_true] at hput
            simp only [Option.some.injEq, Prod.mk.injEq] at hput
            obtain ⟨rfl, rfl, rfl⟩ := hput
            obtain ⟨r', q1, q2⟩ := hfind _ hf
            cases r' with
            | some pr => exact q2.elim
            | none =>
              simp only [zeroA, Option.bind_eq_some_iff] at hz
              obtain ⟨inf, i1, i2⟩ := hz
              refine ⟨ms.push { key := k, val := z, born := ck }, ck + 1, z, ?_, g2.push (.of_flat hfk) (.of_flat hfz), .of_flat hfz⟩
              unfold Instr.mapEntry
              simp only [Sem.run_bind, run_underlying ht, Result.andThen_ok, run_mapAt g1, run_check hko, q1, run_mapSet _ g1, show (zeroValue et).run P w = .ok z w by simp [zeroValue, typeInfo, i1, i2], Sem.run_pure, g2.2.2.1, goInt]
        · cases hput
      obtain ⟨ms2, ck2, v', q1, q2, q3⟩ := hfin
      obtain ⟨r1, t1⟩ := rel_mapPut hr hb h1 hbz (ck2 := ck2) q2
      have hrun : (execOp a.eval o).run P w = .ok (.value (.tuple #[v', .int .i64 m])) (w.putObj L.blk (.map ms2 ck2)) := by
        obtain ⟨dst, op, type, pos, after, guard⟩ := o
        simp only at ho
        subst ho
        simp only [execOp, hp, Sem.run_bind, q1, Result.andThen_ok, Sem.run_pure]
      refine wpIn_of_run hF (by rw [ho]; simp) hrun ?_
      exact hq _ _ _ _ _ _ kk (q3.two (.int _ _)) r1 t1
theorem step_entryStore {o : Oper} {t : TypeId} {x y z : Operand} {i m : Nat} {ik : IntKind} {b : Blk} {es : List (Value × Value)} {k0 v0 v : Value} {K : Value → Nat → AHeap → Prop} (ho : o.op = .entryStore t x y z)
    (hx : env.eval x = some (.map (some i))) (hy : env.eval y = some (.int ik m)) (hz : env.eval z = some v) (hb : σ i = some b) (hbz : b.esz = .map es) (hm : es[m]? = some (k0, v0))
    (kk : K undef N (σ.set i ⟨[], true, .map (es.set m (k0, v))⟩)) : StepQ P n o env N σ K := by
  intro F hF ds ι w a next Q he hr hq
  generalize hp : a.eval x = p
  have hx' := hp ▸ he.eval hx
  have hyv := (flat_iff (ι := ι) (v := .int ik m) rfl).1 (he.eval hy)
  have hv' := he.eval hz
  obtain ⟨L, h1, h2⟩ := hr.blk i b hb
  obtain ⟨_, ms, ck, g1, g2⟩ := h2.mapOf hbz
  cases hx' with
  | map h3 =>
    rw [h1] at h3; cases h3
    obtain ⟨e, e1, e2, e3⟩ := g2.2.1 m k0 v0 hm
    obtain ⟨hlt, hem⟩ := Array.getElem?_eq_some_iff.1 e1
    have hidx : ms.findIdx? (fun e => (e.born : Int) == (m : Int)) = some m := by
      rw [Array.findIdx?_eq_some_iff_getElem]
      refine ⟨hlt, ?_, fun j hj => ?_⟩
      · rw [hem, g2.2.2.2 m e e1]; simp
      · have := g2.2.2.2 j ms[j] (Array.getElem?_eq_getElem (by omega))
        rw [this]; simp; omega
    obtain ⟨r1, t1⟩ := rel_mapPut (ck2 := ck) hr hb h1 hbz (g2.modify (k := k0) (v := v) (fun e => { e with val := a.eval z }) (fun _ => rfl) (fun e' h' => by rw [e1] at h'; cases h'; exact ⟨e2, hv'⟩))
    have hrun : (execOp a.eval o).run P w = .ok .skip (w.putObj L.blk (.map (ms.modify m fun e => { e with val := a.eval z }) ck)) := by
      obtain ⟨dst, op, type, pos, after, guard⟩ := o
      simp only at ho
      subst ho
      simp only [execOp, hp, hyv, Instr.entryStore, Sem.run_bind, run_mapAt g1, Result.andThen_ok, asInt, asIntOf, Sem.run_pure, hidx, run_mapSet _ g1]
    refine wpIn_of_run hF (by rw [ho]; simp) hrun ?_
    exact hq _ _ undef undef _ _ kk (.of_flat rfl) r1 t1
end
end Go.Abs

