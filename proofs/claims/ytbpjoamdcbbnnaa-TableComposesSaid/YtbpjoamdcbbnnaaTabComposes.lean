/- TableComposes returns true for every input and changes nothing: evaluating a composition is evaluating the function at the values of its arguments, and composing with the variables returns the function. -/
import Derived.Test.YtbpjoamdcbbnnaaRows
import Derived.Test.YtbpjoamdcbbnnaaTabE4
import Derived.Test.YtbpjoamdcbbnnaaAbArgs
import Derived.ProofKit
set_option linter.unusedSimpArgs false
set_option linter.unusedVariables false
namespace Go.Proofs.Ytbpjoamdcbbnnaa
open Go.ChangeShapes Go.WideShapes Go.ChangeAt Go.RowKit Go.Abs

theorem Try.own : ownKnob Try.prog.godebug = none := by kernel_rfl
theorem nat_of_wf {k : IntKind} {a : Int} {b : Nat} (h : (Lit.int k a).wf = true) (hb : k.max = b) (hs : k.min = 0) : ∃ n : Nat, a = n ∧ n ≤ b := by
  simp only [Lit.wf, Bool.and_eq_true, decide_eq_true_eq] at h
  exact ⟨a.toNat, by omega, by omega⟩

set_option maxRecDepth 100000 in
theorem composes_lifted (os : Os) (started : os.Started) (H : Type) (enc : TypeId × Value → H) :
    ReturnsInHanded {} Try.checked os 6 .any (Rows.tableComposesSpec.pre6 enc Try.prog Try.f6 Rows.tableComposesRow.domain false) (Rows.tableComposesSpec.post enc Try.prog Try.f6 false true false false) := by
  refine returnsInHanded_of_change (C := Try.checked) Try.own started (by kernel_rfl) Try.func6
    (ChangeSpec.witness6 (enc := enc) (C := Try.checked) false ⟨#[], #[.int .u64 0, .int .u8 0, .int .u8 0, .agg #[.int .u64 0, .int .u64 0, .int .u64 0, .int .u64 0, .int .u64 0, .int .u64 0], .int .u8 0], []⟩ 6 (by kernel_rfl) (by kernel_rfl) (by kernel_rfl) (by kernel_rfl)) ?_
  intro W base args ds gs before hval0 hW hcnd _
  have hval : ∀ (j : Nat) t v, Try.f6.params[j]? = some t → args[j]? = some v → Value.okWide Try.prog W .any base t v := hval0
  have hW' := hW
  obtain ⟨p, q, hA0, hV, rfl, hfz, hnd⟩ := hW
  have hA : DataW.TrodAll enc Try.prog W 0 (fun _ => true) true Try.f6.params.toList args.toList ds p := hA0
  have hK := hA0
  have hlt : ∀ x ∈ p, x.block < W.heap.size := fun x hx => by simpa using hW'.lt x (by simp [hx])
  rw [Try.params6] at hA hval
  obtain ⟨v0, v1, v2, v3, v4, d0, d1, d2, d3, d4, p0, p1, p2, p3, p4, rfl, rfl, rfl, h0, h1, h2, h3, h4⟩ := trodAll_five hA
  obtain ⟨rfl, rfl⟩ := trodVars_none hV
  obtain ⟨x0, rfl, rfl, rfl, w0⟩ := open_int Try.underlying22 (hval 0 22 v0 rfl rfl) h0
  obtain ⟨x1, rfl, rfl, rfl, w1⟩ := open_int Try.underlying5 (hval 1 5 v1 rfl rfl) h1
  obtain ⟨x2, rfl, rfl, rfl, w2⟩ := open_int Try.underlying5 (hval 2 5 v2 rfl rfl) h2
  obtain ⟨zs3, rfl, n3, w3⟩ := open_arr_ints (n := 6) (q := .u64) ⟨Try.underlying52, by kernel_rfl, by kernel_rfl, by kernel_rfl⟩ Try.underlying22 (hval 3 52 v3 rfl rfl) h3
  obtain ⟨x4, rfl, rfl, rfl, w4⟩ := open_int Try.underlying5 (hval 4 5 v4 rfl rfl) h4
  clear hA0 hval0
  simp only [List.append_nil] at hW'
  obtain ⟨A3, hA3, lA3⟩ := words_of zs3 (fun z hz => nat_of_wf (w3 z hz) (b := 18446744073709551615) rfl rfl)
  obtain ⟨a0, e0, l0⟩ := nat_of_wf w0 (b := 18446744073709551615) rfl rfl
  obtain ⟨a1, e1, l1⟩ := nat_of_wf w1 (b := 255) rfl rfl
  obtain ⟨a2, e2, l2⟩ := nat_of_wf w2 (b := 255) rfl rfl
  obtain ⟨a4, e4, l4⟩ := nat_of_wf w4 (b := 255) rfl rfl
  have hE : AOk Try.prog 6 [.int .u64 x0, .int .u8 x1, .int .u8 x2, .agg (zs3.map fun z => Value.int .u64 z).toArray, .int .u8 x4] 0 none0 fun v _ _ => v = .bool true := by
    have h := Composes_gives (BitVec.ofNat 64 a0) a1 a2 (by omega) (by omega) A3 (by omega) a4 (by omega) 0 none0
    rw [BitVec.toNat_ofNat, Nat.mod_eq_of_lt (by omega)] at h
    rw [e0, e1, e2, e4]
    rw [hA3]
    unfold Gives at h
    exact h.mono fun v _ _ h => h.1
  refine (calls_plain (by simp [flat, flat0]) hE W).mono fun e W' ⟨he, hw⟩ => ?_
  subst he
  exact ⟨_, rfl, post_of_below (pv := []) hW' (fun _ _ _ => trodAll_mk1 (shut_bool Try.underlying4 _)) (fun sp hs => trodAll_stays (by kernel_rfl) hw (by kernel_rfl) hK (fun x hx => hlt x (by simpa using hx)) sp (fun x hx => hs x (by simpa using hx))) (fun _ _ => rfl) (by simp)
    hw (ok_one (by kernel_rfl) rfl (okWide_bool_mk Try.underlying4 _))⟩

theorem composes_holds : Rows.TableComposesSaid :=
  OpenClaim.holds_of_wide 6 Try.f6 rfl rfl rfl rfl rfl rfl rfl ⟨rfl, rfl, rfl, rfl, rfl⟩ rfl rfl rfl rfl rfl (by kernel_rfl) Try.func6 (by kernel_rfl)
    (of_decide_eq_true (by kernel_rfl)) (by unfold Func.isWrapper; rw [if_neg (by decide +kernel)]; exact ⟨rfl, rfl⟩)
    (fun os started H enc _ => composes_lifted os started H enc)
end Go.Proofs.Ytbpjoamdcbbnnaa
