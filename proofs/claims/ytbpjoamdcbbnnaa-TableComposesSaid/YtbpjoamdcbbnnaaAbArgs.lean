/- Arguments of a law with memory behind them. -/
import Derived.Test.YtbpjoamdcbbnnaaAbRow
import Derived.WideKeyArgs
import Derived.WideKeyArr2
import Derived.ChangeSlices
namespace Go.Abs
open Go.ChangeShapes Go.WideShapes Go.ChangeAt Go.RowKit Go.WideMaps
theorem words_of : ∀ (zs : List Int), (∀ z ∈ zs, ∃ m : Nat, z = m ∧ m ≤ 18446744073709551615) → ∃ A : List (BitVec 64), (zs.map fun z => Value.int .u64 z) = (A.map fun x => Value.int .u64 x.toNat) ∧ A.length = zs.length
  | [], _ => ⟨[], rfl, rfl⟩
  | z :: zs, h => by
    obtain ⟨A, h1, h2⟩ := words_of zs fun z hz => h z (by simp [hz])
    obtain ⟨m, rfl, hm⟩ := h z (by simp)
    refine ⟨BitVec.ofNat 64 m :: A, ?_, by simp [h2]⟩
    rw [List.map_cons, List.map_cons, h1, BitVec.toNat_ofNat, Nat.mod_eq_of_lt (by omega)]
section
variable {H : Type} {enc : TypeId × Value → H} {P : Program}

/-- Arguments below the heap's old size read as they did. -/
theorem trodAll_stays (hl : laidOutB P = true) {W W' : World} (hb : Below W.heap.size W W') : ∀ {ts : List TypeId} {vs : List Value} {ds : List (DataW H)} {ps : List MemPlace}, (ts.all fun t => P.readableRec t && decide (t < P.types.size)) = true →
    DataW.TrodAll enc P W 0 (fun _ => true) true ts vs ds ps → (∀ x ∈ ps, x.block < W.heap.size) → ∀ sp : Nat → Bool, (∀ x ∈ ps, sp x.block = true) → DataW.TrodAll enc P W' 0 sp true ts vs ds ps
  | [], vs, ds, ps, _, h, _, _, _ => by
    obtain ⟨rfl, rfl, rfl⟩ := trodAll_nil h
    exact h
  | t :: ts, vs, ds, ps, ht, h, hlt, sp, hs => by
    obtain ⟨v, vs', d, ds', p, q, rfl, rfl, rfl, h1, h2⟩ := trodAll_cons h
    rw [List.all_cons, Bool.and_eq_true, Bool.and_eq_true, decide_eq_true_eq] at ht
    exact ⟨p, q, WideElems.Trod_stays hl ht.1.1 ht.1.2 h1 (fun x hx => hb.same (hlt x (by simp [hx]))) (fun x hx => hs x (by simp [hx])),
      trodAll_stays hl hb ht.2 h2 (fun x hx => hlt x (by simp [hx])) sp (fun x hx => hs x (by simp [hx])), rfl⟩

/-- An array of numbers, by value. -/
theorem open_arr_ints {k e : TypeId} {n : Nat} {q : IntKind} (A : ArrKey P k e n) (he : P.underlying e = some (.int q)) {r : Reach} {b0 : Nat} {W : World} {base : Nat} {sp : Nat → Bool} {held : Bool} {v : Value} {d : DataW H} {ps : List MemPlace}
    (hval : Value.okWide P W r b0 k v) (hd : DataW.Trod enc P W base sp held k v d ps) : ∃ zs : List Int, v = .agg (zs.map fun z => Value.int q z).toArray ∧ zs.length = n ∧ (∀ z ∈ zs, (Lit.int q z).wf = true) := by
  obtain ⟨xs, rfl, hn⟩ := okWide_arr A hval
  obtain ⟨fuel, hf⟩ := hd
  cases fuel with
  | zero => simp [DataW.trod] at hf
  | succ m =>
    rw [DataW.trod_step] at hf
    unfold DataW.trodStep at hf
    simp only [A.hu, Value.cells] at hf
    rw [if_pos (by rw [A.size]; simpa using hn)] at hf
    simp only [Option.map_eq_some_iff] at hf
    obtain ⟨ys, hy, _⟩ := hf
    have each : ∀ (L : List Nat) (ys : List (DataW H × List MemPlace)), L.mapM (fun i => DataW.trod enc P W base sp held m e ((xs.toList.drop (i * P.cellsOf e)).take (P.cellsOf e))) = some ys → ∀ i ∈ L, ∃ a, xs[i]? = some (.int q a) ∧ (Lit.int q a).wf = true := by
      intro L
      induction L with
      | nil => intro ys _ i hi; cases hi
      | cons j L ih =>
        intro ys h i hi
        rw [List.mapM_cons] at h
        simp only [bind, Option.bind_eq_some_iff, pure, Option.some.injEq] at h
        obtain ⟨y, hy, ys', hys, _⟩ := h
        rcases List.mem_cons.1 hi with rfl | hi
        · obtain ⟨a, ea, _, wa⟩ := DataW.trod_int he hy
          rw [A.one, Nat.mul_one] at ea
          refine ⟨a, ?_, wa⟩
          have := congrArg (fun l => l[0]?) ea
          simpa using this
        · exact ih ys' hys i hi
    have hall : ∀ i, i < n → ∃ a, xs[i]? = some (.int q a) ∧ (Lit.int q a).wf = true := fun i hi => each _ ys hy i (List.mem_range.2 hi)
    refine ⟨xs.toList.map fun v => match v with | .int _ a => a | _ => 0, ?_, by simpa using hn, fun z hz => ?_⟩
    · congr 1
      apply Array.ext
      · simp
      · intro i h1 h2
        obtain ⟨a, ha, _⟩ := hall i (by omega)
        have := (Array.getElem?_eq_some_iff.1 ha).2
        simp [this]
    · simp only [List.mem_map] at hz
      obtain ⟨v, hv, rfl⟩ := hz
      obtain ⟨i, hi⟩ := List.getElem?_of_mem hv
      have hil : i < n := by have := (List.getElem?_eq_some_iff.1 hi).1; simp at this; omega
      obtain ⟨a, ha, wa⟩ := hall i hil
      rw [Array.getElem?_toList] at hi
      rw [hi] at ha; cases ha
      exact wa
end
end Go.Abs
