/- Shaken texts of the layer and of the walks. -/
import Derived.Test.YtfialjllclclkaaFmTb
import Derived.Laws.StructEq
import Derived.Laws.Strings
namespace Go.Abs
section
variable {r : Bool} {P : Program} {n : Nat} {env : Env} {ι : Ren}

def eqFs (P : Program) (rec : TypeId → Value → Value → Option Bool) (xs ys : Array Value) : List Field → Option Bool
  | [] => some true
  | f :: fs => if f.name = "_" then eqFs P rec xs ys fs else
    match partA P f.type xs f.offset, partA P f.type ys f.offset with
    | some a, some b => match rec f.type a b with
      | some true => eqFs P rec xs ys fs
      | some false => some false
      | none => none
    | _, _ => none
def eqEs (P : Program) (rec : Value → Value → Option Bool) (e : TypeId) (n : Nat) (xs ys : Array Value) : List Nat → Option Bool
  | [] => some true
  | i :: is =>
    match partA P e xs (i * n), partA P e ys (i * n) with
    | some a, some b => match rec a b with
      | some true => eqEs P rec e n xs ys is
      | some false => some false
      | none => none
    | _, _ => none
def eqS (P : Program) : Nat → TypeId → Value → Value → Option Bool
  | 0, _, _, _ => none
  | d + 1, t, u, v => match u, v with
    | .agg xs, .agg ys => match P.underlying t with
      | some (.struct fs) => bif P.stoodInHeld t then none else eqFs P (eqS P d) xs ys fs.toList
      | some (.array len e) => match sizeA P e with
        | some s => eqEs P (eqS P d e) e s xs ys (List.range' 0 len)
        | none => none
      | _ => none
    | .int k a, .int k' b => if k = k' then match P.underlying t with
      | some (.int _) => some (a == b)
      | _ => none
      else none
    | u, v => eqA P t u v
theorem run_eqFs {rec : TypeId → Value → Value → Option Bool} {d : Nat} {xs ys xs' ys' : Array Value}
    (hrec : ∀ {t : TypeId} {u v u' v' : Value} {r : Bool}, rec t u v = some r → VRel ι u u' → VRel ι v v' → ∀ w, (Op.equalIn d t u' v').run P w = .ok r w)
    (hs : xs.size = xs'.size) (hx : ∀ (i : Nat) (v v' : Value), xs[i]? = some v → xs'[i]? = some v' → VRel ι v v')
    (hs2 : ys.size = ys'.size) (hy : ∀ (i : Nat) (v v' : Value), ys[i]? = some v → ys'[i]? = some v' → VRel ι v v') (w : World) :
    ∀ (fs : List Field) (r : Bool), eqFs P rec xs ys fs = some r → (Op.eqFields d xs' ys' fs).run P w = .ok r w
  | [], r, h => by cases h; rfl
  | f :: fs, r, h => by
    have ih := run_eqFs hrec hs hx hs2 hy w fs r
    unfold eqFs at h
    unfold Op.eqFields
    split at h
    · rename_i hn
      rw [if_neg (fun hc => hc hn)]
      exact ih h
    · rename_i hn
      rw [if_pos hn]
      split at h
      · rename_i a b ha hb
        obtain ⟨a', ha1, ha2⟩ := run_partA ha hs hx
        obtain ⟨b', hb1, hb2⟩ := run_partA hb hs2 hy
        split at h
        · rename_i hr
          simp only [Sem.run_bind, ha1 w, hb1 w, Result.andThen_ok, hrec hr ha2 hb2 w, Bool.not_true, Bool.false_eq_true, if_false]
          exact ih h
        · rename_i hr
          cases h
          simp only [Sem.run_bind, ha1 w, hb1 w, Result.andThen_ok, hrec hr ha2 hb2 w, Bool.not_false, if_true, Sem.run_pure]
        · cases h
      · cases h
theorem run_eqEs {rec : Value → Value → Option Bool} {d : Nat} {e : TypeId} {n : Nat} {xs ys xs' ys' : Array Value}
    (hrec : ∀ {u v u' v' : Value} {r : Bool}, rec u v = some r → VRel ι u u' → VRel ι v v' → ∀ w, (Op.equalIn d e u' v').run P w = .ok r w)
    (hs : xs.size = xs'.size) (hx : ∀ (i : Nat) (v v' : Value), xs[i]? = some v → xs'[i]? = some v' → VRel ι v v')
    (hs2 : ys.size = ys'.size) (hy : ∀ (i : Nat) (v v' : Value), ys[i]? = some v → ys'[i]? = some v' → VRel ι v v') (w : World) {K : Option Bool → Sem Bool}
    (hK : ∀ b, K (some b) = pure b) (hK0 : K none = pure true) :
    ∀ (is : List Nat) (r : Bool), eqEs P rec e n xs ys is = some r →
      ((do
        let s ← forIn is ((none, ()) : Option Bool × Unit) (fun i _ => do
          if (!(← Op.equalIn d e (← part e xs' (i * n)) (← part e ys' (i * n)))) = true then pure (.done (some false, ())) else pure (.yield (none, ())))
        K s.1) : Sem Bool).run P w = .ok r w
  | [], r, h => by cases h; simp [hK0]
  | i :: is, r, h => by
    have ih := run_eqEs (n := n) hrec hs hx hs2 hy w hK hK0 is r
    unfold eqEs at h
    split at h
    · rename_i a b ha hb
      obtain ⟨a', ha1, ha2⟩ := run_partA ha hs hx
      obtain ⟨b', hb1, hb2⟩ := run_partA hb hs2 hy
      split at h
      · rename_i hr
        have := ih h
        simp only [Sem.run_bind] at this
        simp only [List.forIn_cons, Sem.run_bind, ha1 w, hb1 w, Result.andThen_ok, hrec hr ha2 hb2 w, Bool.not_true, Bool.false_eq_true, if_false, Sem.run_pure]
        exact this
      · rename_i hr
        cases h
        simp only [List.forIn_cons, Sem.run_bind, ha1 w, hb1 w, Result.andThen_ok, hrec hr ha2 hb2 w, Bool.not_false, if_true, Sem.run_pure, hK]
      · cases h
    · cases h
theorem run_equalIn_eqS : ∀ (d m : Nat) {t : TypeId} {u v u' v' : Value} {r : Bool}, eqS P d t u v = some r → VRel ι u u' → VRel ι v v' → d ≤ m → ∀ w, (Op.equalIn m t u' v').run P w = .ok r w
  | 0, m, t, u, v, u', v', r, h, _, _, _, w => by cases h
  | d + 1, 0, t, u, v, u', v', r, h, hu, hv, hm, w => by omega
  | d + 1, m + 1, t, u, v, u', v', r, h, hu, hv, hm, w => by
    have ih := fun {t : TypeId} {u v u' v' : Value} {r : Bool} (h : eqS P d t u v = some r) (hu : VRel ι u u') (hv : VRel ι v v') => run_equalIn_eqS d m h hu hv (by omega)
    unfold eqS at h
    split at h
    · rename_i xs ys
      cases hu with | agg hs hc => ?_
      cases hv with | agg hs' hc' => ?_
      rename_i xs' ys'
      split at h
      · rename_i fs hd
        cases hst : P.stoodInHeld t with
        | true => rw [hst] at h; cases h
        | false =>
          rw [hst, cond_false] at h
          have hf : P.fieldsOf t = fs := by unfold Program.fieldsOf; rw [hd]
          rw [run_equalIn_struct w m t xs' ys' (by rw [hf]; exact hd) hst, hf]
          exact run_eqFs ih hs hc hs' hc' w _ _ h
      · rename_i len e hd
        split at h
        · rename_i s hsz
          obtain ⟨inf, hi, rfl⟩ := sizeA_inv hsz
          have key := run_eqEs (n := inf.size) (K := fun o => match o with | some b => pure b | none => pure true) ih hs hc hs' hc' w (fun _ => rfl) rfl _ _ h
          simp only [Op.equalIn, Sem.run_bind, run_underlying hd, Result.andThen_ok, show (sizeOf e).run P w = .ok inf.size w by simp [sizeOf, typeInfo, hi], Std.Legacy.Range.forIn_eq_forIn_range', Std.Legacy.Range.size]
          simp only [Sem.run_bind] at key
          have e1 : (len - 0 + 1 - 1) / 1 = len := by omega
          rw [e1]
          refine Eq.trans ?_ key
          congr 1
          funext a w'
          rcases a with ⟨_ | b, ⟨⟩⟩ <;> rfl
        · cases h
      · cases h
    · rename_i k a k' b
      split at h
      · rename_i hk
        subst hk
        split at h
        · rename_i k1 hd
          cases h; cases hu; cases hv
          exact run_equalIn_int w m t k k1 a b hd
        · cases h
      · cases h
    · exact run_equalIn_flat h hu hv m w
theorem run_aggEq {t : TypeId} {us vs : Array Value} {u' v' : Value} {r : Bool} (h : eqS P 30 t (.agg us) (.agg vs) = some r) (hg : P.eqGuardType P.depth t = false) (hu : VRel ι (.agg us) u') (hv : VRel ι (.agg vs) v') (x y : Operand) (w : World) :
    ((do eqGuard .eql t x y u' v'; binOp .eql t u' v' : Sem Value).run P w = .ok (.bool r) w) ∧ ((do eqGuard .neq t x y u' v'; binOp .neq t u' v' : Sem Value).run P w = .ok (.bool !r) w) := by
  have h1 := fun w => run_equalIn_eqS 30 10000 h hu hv (by decide) w
  cases hu with | agg hs hc => ?_
  cases hv with | agg hs' hc' => ?_
  constructor
  · simp only [Sem.run_bind, run_eqGuard_agg w .eql t x y _ _ hg, Result.andThen_ok, run_eql_struct, h1 w]
  · simp only [Sem.run_bind, run_eqGuard_agg w .neq t x y _ _ hg, Result.andThen_ok, run_neq_struct, h1 w]

theorem run_eqGuard_str (op : BinOp) (t : TypeId) (x y : Operand) (a b : ByteArray) (w : World) : (eqGuard op t x y (.string a) (.string b)).run P w = .ok () w := by
  cases op <;> simp [eqGuard]
def pureX (P : Program) (ρ : Operand → Option Value) (op : Op) : Option Value :=
  match op with
  | .binOp o t x y z => match ρ x, ρ y with
    | some (.agg us), some (.agg vs) => bif P.eqGuardType P.depth t then none else match o with
      | .eql => (eqS P 30 t (.agg us) (.agg vs)).map .bool
      | .neq => (eqS P 30 t (.agg us) (.agg vs)).map fun r => .bool (!r)
      | _ => none
    | some (.string us), some (.string vs) => match o with
      | .eql => some (.bool (us.data.toList == vs.data.toList))
      | .neq => some (.bool (!(us.data.toList == vs.data.toList)))
      | _ => none
    | _, _ => pureOp P ρ (.binOp o t x y z)
  | .call { callee := .builtin .cap, args, argTypes } => match argTypes[0]?, (args[0]?).bind ρ with
    | some t, some (.slice none 0 0) => match P.underlying t with
      | some (.slice _) => some (.int .i64 0)
      | _ => none
    | _, _ => none
  | .index t x ix => match P.underlying t, ρ x, ρ ix with
    | some .string, some (.string s), some (.int _ i) => if 0 ≤ i then (s[i.toNat]?).map fun b => .int .u8 b.toNat else none
    | _, _, _ => pureOp P ρ (.index t x ix)
  | op => pureOp P ρ op
theorem pureX_sound {v : Value} {o : Oper} {ds : List Deferred} {a : Act} (h : pureX P env.eval o.op = some v) (he : EnvRel ι n ds env a) : ∃ v', (∀ w, (execOp a.eval o).run P w = .ok (.value v') w) ∧ VRel ι v v' := by
  generalize hop : o.op = op at h
  unfold pureX at h
  split at h
  · rename_i b t x y z
    split at h
    · rename_i us vs hx hy
      cases hg : P.eqGuardType P.depth t with
      | true => rw [hg] at h; cases h
      | false =>
        rw [hg, cond_false] at h
        have hxe := he.eval hx
        have hye := he.eval hy
        split at h
        · simp only [Option.map_eq_some_iff] at h
          obtain ⟨r, hr, rfl⟩ := h
          refine ⟨.bool r, fun w => ?_, .bool r⟩
          have := (run_aggEq hr hg hxe hye x y w).1
          simp only [Sem.run_bind] at this
          simp only [execOp, hop, Sem.run_bind, this, Result.andThen_ok, Sem.run_pure]
        · simp only [Option.map_eq_some_iff] at h
          obtain ⟨r, hr, rfl⟩ := h
          refine ⟨.bool !r, fun w => ?_, .bool _⟩
          have := (run_aggEq hr hg hxe hye x y w).2
          simp only [Sem.run_bind] at this
          simp only [execOp, hop, Sem.run_bind, this, Result.andThen_ok, Sem.run_pure]
        · cases h
    · rename_i us vs hx hy
      have hxe := he.eval hx
      have hye := he.eval hy
      generalize hqx : a.eval x = qx at *
      generalize hqy : a.eval y = qy at *
      cases hxe
      cases hye
      split at h
      · cases h
        refine ⟨_, fun w => ?_, .bool _⟩
        simp only [execOp, hop, hqx, hqy, binOp_string_eql, ByteArray.toList_eq, Sem.run_bind, run_eqGuard_str, Result.andThen_ok, Sem.run_pure]
      · cases h
        refine ⟨_, fun w => ?_, .bool _⟩
        simp only [execOp, hop, hqx, hqy, binOp_string_neq, ByteArray.toList_eq, Sem.run_bind, run_eqGuard_str, Result.andThen_ok, Sem.run_pure]
      · cases h
    · rw [← hop] at h
      exact pureOp_sound h he
  · rename_i args argTypes
    split at h
    · rename_i t h1 h2
      simp only [Option.bind_eq_some_iff] at h2
      obtain ⟨x, hx, h2⟩ := h2
      have h2 := he.eval h2
      have hx' : (args.map a.eval)[0]? = some (a.eval x) := by simp [hx]
      split at h
      · rename_i e h3
        cases h
        generalize hq : a.eval x = q at *
        cases h2
        exact ⟨_, fun w => by simp [execOp, hop, resolve, invoke, builtin, Builtin.cap_, h1, hx', run_underlying h3, goInt], .int _ _⟩
      · cases h
    · cases h
  · rename_i t x ix
    split at h
    · rename_i s k i h1 h2 h3
      split at h
      · rename_i hb
        simp only [Option.map_eq_some_iff] at h
        obtain ⟨b, hs, rfl⟩ := h
        generalize hq : a.eval x = q
        have h2 := hq ▸ he.eval h2
        have h3 := (he.eval h3).int_inv
        cases h2 with
        | str => exact ⟨_, fun w => by simp [execOp, hop, Instr.index, run_underlying h1, hq, h3, asIntOf, hb, hs], .int _ _⟩
      · cases h
    · rw [← hop] at h
      exact pureOp_sound h he
  · rw [← hop] at h
    exact pureOp_sound h he
theorem pureX_plain {ρ : Operand → Option Value} {op : Op} {v : Value} (h : pureX P ρ op = some v) : ∀ c, op ≠ .defer c := fun c e => by subst e; simp [pureX, pureOp] at h
end
end Go.Abs

