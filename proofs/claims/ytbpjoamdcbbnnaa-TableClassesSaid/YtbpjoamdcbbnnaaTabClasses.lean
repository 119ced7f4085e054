/- TableClasses returns true for every two tables and number: two functions of at most 3 variables have the same representative exactly if a transformation takes one to the other, and the representative is its own. -/
import Derived.Test.YtbpjoamdcbbnnaaRows
import Derived.Test.YtbpjoamdcbbnnaaTabE7
import Derived.Test.YtbpjoamdcbbnnaaAbArgs
import Derived.ProofKit
set_option linter.unusedSimpArgs false
set_option linter.unusedVariables false
namespace Go.Proofs.Ytbpjoamdcbbnnaa
open Go.ChangeShapes Go.WideShapes Go.ChangeAt Go.RowKit Go.Abs

theorem Try.own : ownKnob Try.prog.godebug = none := by kernel_rfl
theorem nat_of_wf {k : IntKind} {a : Int} {b : Nat} (h : (Lit.int k a).wf = true) (hb : k.max = b) (hs : k.min = 0) : ∃ n : Nat, a = n ∧ n ≤ b := by
  simp only [Lit.wf, Bool.and_eq_true, decide_eq_true_eq] at h
  exact ⟨a.toNat, by omega, by omega⟩

set_option maxRecDepth 100000 in
theorem classes_lifted (os : Os) (started : os.Started) (H : Type) (enc : TypeId × Value → H) :
    ReturnsInHanded {} Try.checked os 5 .any (Rows.tableClassesSpec.pre6 enc Try.prog Try.f5 Rows.tableClassesRow.domain false) (Rows.tableClassesSpec.post enc Try.prog Try.f5 false true false false) := by
  refine returnsInHanded_of_change (C := Try.checked) Try.own started (by kernel_rfl) Try.func5
    (ChangeSpec.witness6 (enc := enc) (C := Try.checked) false ⟨#[], #[.int .u64 0, .int .u64 0, .int .u8 0], []⟩ 5 (by kernel_rfl) (by kernel_rfl) (by kernel_rfl) (by kernel_rfl)) ?_
  intro W base args ds gs before hval0 hW hcnd _
  have hval : ∀ (j : Nat) t v, Try.f5.params[j]? = some t → args[j]? = some v → Value.okWide Try.prog W .any base t v := hval0
  have hW' := hW
  obtain ⟨p, q, hA0, hV, rfl, hfz, hnd⟩ := hW
  have hA : DataW.TrodAll enc Try.prog W 0 (fun _ => true) true Try.f5.params.toList args.toList ds p := hA0
  have hK := hA0
  have hlt : ∀ x ∈ p, x.block < W.heap.size := fun x hx => by simpa using hW'.lt x (by simp [hx])
  rw [Try.params5] at hA hval
  obtain ⟨v0, v1, v2, d0, d1, d2, p0, p1, p2, rfl, rfl, rfl, h0, h1, h2⟩ := trodAll_three hA
  obtain ⟨rfl, rfl⟩ := trodVars_none hV
  obtain ⟨x0, rfl, rfl, rfl, w0⟩ := open_int Try.underlying22 (hval 0 22 v0 rfl rfl) h0
  obtain ⟨x1, rfl, rfl, rfl, w1⟩ := open_int Try.underlying22 (hval 1 22 v1 rfl rfl) h1
  obtain ⟨x2, rfl, rfl, rfl, w2⟩ := open_int Try.underlying5 (hval 2 5 v2 rfl rfl) h2
  clear hA0 hval0
  simp only [List.append_nil] at hW'
  obtain ⟨a0, e0, l0⟩ := nat_of_wf w0 (b := 18446744073709551615) rfl rfl
  obtain ⟨a1, e1, l1⟩ := nat_of_wf w1 (b := 18446744073709551615) rfl rfl
  obtain ⟨a2, e2, l2⟩ := nat_of_wf w2 (b := 255) rfl rfl
  have hE : AOk Try.prog 5 [.int .u64 x0, .int .u64 x1, .int .u8 x2] 0 none0 fun v _ _ => v = .bool true := by
    have h := Classes_gives (BitVec.ofNat 64 a0) (BitVec.ofNat 64 a1) a2 (by omega) 0 none0
    rw [BitVec.toNat_ofNat, BitVec.toNat_ofNat, Nat.mod_eq_of_lt (by omega), Nat.mod_eq_of_lt (by omega)] at h
    rw [e0, e1, e2]
    unfold Gives at h
    exact h.mono fun v _ _ h => h.1
  refine (calls_plain rfl hE W).mono fun e W' ⟨he, hw⟩ => ?_
  subst he
  exact ⟨_, rfl, post_of_below (pv := []) hW' (fun _ _ _ => trodAll_mk1 (shut_bool Try.underlying4 _)) (fun sp hs => trodAll_stays (by kernel_rfl) hw (by kernel_rfl) hK (fun x hx => by simp at hx) sp (fun x hx => by simp at hx)) (fun _ _ => rfl) (by simp)
    hw (ok_one (by kernel_rfl) rfl (okWide_bool_mk Try.underlying4 _))⟩

theorem classes_holds : Rows.TableClassesSaid :=
  OpenClaim.holds_of_wide 5 Try.f5 rfl rfl rfl rfl rfl rfl rfl ⟨rfl, rfl, rfl, rfl, rfl⟩ rfl rfl rfl rfl rfl (by kernel_rfl) Try.func5 (by kernel_rfl)
    (of_decide_eq_true (by kernel_rfl)) (by unfold Func.isWrapper; rw [if_neg (by decide +kernel)]; exact ⟨rfl, rfl⟩)
    (fun os started H enc _ => classes_lifted os started H enc)
end Go.Proofs.Ytbpjoamdcbbnnaa
