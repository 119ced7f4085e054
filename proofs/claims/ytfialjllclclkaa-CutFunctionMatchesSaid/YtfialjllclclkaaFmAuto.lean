/- Shaken texts of the layer and of the walks. -/
import Derived.Test.YtfialjllclclkaaFmMk
namespace Go.Abs
section
variable {P : Program} {n : Nat} {env : Env} {N : Nat} {σ : AHeap} {ops : Array Oper} {l : List Oper} {o : Oper} {K : Env → Nat → AHeap → Prop}
theorem al_boxA {t : TypeId} {x : Operand} {v : Value} (hN : ∀ i b, σ i = some b → i < N) (ho : o.op = .box t x) (hw : wantedA ops env o = some true) (hd : dstOk n o.dst = true) (hx : env.eval x = some v)
    (k : ∀ σ1 : AHeap, σ.le σ1 → σ1 N = some ⟨spread v, true, .n 1⟩ → (∀ i b, σ1 i = some b → i < N + 1) → σ1 = σ.set N ⟨spread v, true, .n 1⟩ → AList P n ops l (env.put o.dst (.pointer (some ⟨N, 0, none⟩))) (N + 1) σ1 K) : AList P n ops (o :: l) env N σ K :=
  al_box 1 ho hw hd hx (k _ (le_new hN (Nat.le_refl _)) (AHeap.set_self _ _ _) (dom_set hN) rfl)
theorem al_allocA {t : TypeId} {z : Value} {size bytes : Nat} (hN : ∀ i b, σ i = some b → i < N) (ho : o.op = .alloc t) (hw : wantedA ops env o = some true) (hd : dstOk n o.dst = true) (hT : TyI P t z size bytes) (hf : (spread z).all flat = true)
    (k : ∀ σ1 : AHeap, σ.le σ1 → σ1 N = some ⟨spread z, true, .n 1⟩ → (∀ i b, σ1 i = some b → i < N + 1) → σ1 = σ.set N ⟨spread z, true, .n 1⟩ → AList P n ops l (env.put o.dst (.pointer (some ⟨N, 0, none⟩))) (N + 1) σ1 K) : AList P n ops (o :: l) env N σ K :=
  al_alloc 1 ho hw hd hT hf (k _ (le_new hN (Nat.le_refl _)) (AHeap.set_self _ _ _) (dom_set hN) rfl)
theorem al_oneA {t e : TypeId} {x : Operand} {z v : Value} {bytes : Nat} (hN : ∀ i b, σ i = some b → i < N) (ho : o.op = .buildSlice t 1 #[(0, x)]) (hw : wantedA ops env o = some true) (hd : dstOk n o.dst = true)
    (ht : P.underlying t = some (.slice e)) (hT : TyI P e z 1 bytes) (hz : spread z = [z]) (hzf : flat z = true) (hx : env.eval x = some v) (hv : spread v = [v])
    (k : ∀ σ1 : AHeap, σ.le σ1 → OwnAt σ1 N (.slice (some ⟨N, 0, none⟩) 1 1) [v] 1 1 → (∀ i b, σ1 i = some b → i < N + 1) → AList P n ops l (env.put o.dst (.slice (some ⟨N, 0, none⟩) 1 1)) (N + 1) σ1 K) : AList P n ops (o :: l) env N σ K := by
  have hr : fillA (fun i => some (i * 1, 1)) (zerosA (spread z) (1 * 1)) [(0, v)] = some [v] := by
    simp [fillA, zerosA, hz, hv, splice]
  refine al_buildSlice (ps := [(0, v)]) (r := [v]) ho hw hd ht hT (by rw [hz]; simp [hzf]) (by rw [hz]; rfl) (by decide) (by decide) (by simp [hx]) hr (by simp) ?_
  exact k _ (le_new hN (Nat.le_refl _)) (.inr ⟨N, 1, Nat.le_refl _, rfl, Nat.le_refl _, AHeap.set_self _ _ _, rfl⟩) (dom_set hN)
theorem al_skipB (hw : wantedA ops env o = some false) (hd : dstOk n o.dst = true) (k : AList P n ops l (env.put o.dst (.tuple #[])) N σ K) : AList P n ops (o :: l) env N σ K := al_skip hw (dstOk_spec hd) k
theorem tq_skipB {i : Nat} {K : Env → AHeap → Prop} (hw : wantedA ops env o = some false) (hd : dstOk n o.dst = true) (k : TB P n ops N noW [] (fun _ => N) K (i + 1) l (env.put o.dst (.tuple #[])) σ) : TB P n ops N noW [] (fun _ => N) K i (o :: l) env σ := tb_skip hd hw rfl k
end
theorem au_add {a b : Int} (h1 : -9223372036854775808 ≤ a + b) (h2 : a + b ≤ 9223372036854775807) : intA .add .i64 a b = some (.int .i64 (a + b)) := i64_add ⟨h1, h2⟩
theorem au_sub {a b : Int} (h1 : -9223372036854775808 ≤ a - b) (h2 : a - b ≤ 9223372036854775807) : intA .sub .i64 a b = some (.int .i64 (a - b)) := i64_sub ⟨h1, h2⟩
theorem au_quo {a b : Int} (h0 : 0 ≤ a) (h1 : 0 < b) (h2 : a ≤ 9223372036854775807) : intA .quo .i64 a b = some (.int .i64 (a / b)) := by
  simp only [intA]
  have h3 : a / b ≤ a := Int.ediv_le_self _ h0
  have h4 : 0 ≤ a / b := Int.ediv_nonneg h0 (by omega)
  rw [if_neg (by omega), Int.tdiv_eq_ediv_of_nonneg h0, IntWalk.i64_in _ (by omega)]
theorem au_rem {a b : Int} (h0 : 0 ≤ a) (h1 : 0 < b) (h2 : b ≤ 9223372036854775807) : intA .rem .i64 a b = some (.int .i64 (a % b)) := by
  simp only [intA]
  rw [if_neg (by omega), Int.tmod_eq_emod_of_nonneg h0]
theorem au_lt {a b : Int} (h : a < b) : (a < b) = True := eq_true h
theorem au_nl {a b : Int} (h : ¬ a < b) : (a < b) = False := eq_false h
theorem au_le {a b : Int} (h : a ≤ b) : (a ≤ b) = True := eq_true h
theorem au_ne {a b : Int} (h : ¬ a ≤ b) : (a ≤ b) = False := eq_false h
theorem au_wu {a : Int} (h0 : 0 ≤ a) (h1 : a < 18446744073709551616) : IntKind.u64.wrap a = a := by rw [IntKind.wrap_u64]; omega
theorem au_wi {a : Int} (h0 : -9223372036854775808 ≤ a) (h1 : a ≤ 9223372036854775807) : IntKind.i64.wrap a = a := IntWalk.i64_in _ ⟨h0, h1⟩
theorem au_tf : (true == false) = false := rfl
theorem au_ft : (false == true) = false := rfl
theorem au_bt {a b : Int} (h : a = b) : (a == b) = true := by simpa using h
theorem au_bf {a b : Int} (h : a ≠ b) : (a == b) = false := by simpa using h
theorem au_nt {a b : Int} (h : a ≠ b) : (a != b) = true := by simpa using h
theorem au_nf {a b : Int} (h : a = b) : (a != b) = false := by simpa using h
end Go.Abs

