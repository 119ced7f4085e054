/- TableCoverMatches returns true for every input and changes nothing: Cover returns what the reference's returns, and Isop the chapter's error or a cover that the reference accepts as prime and irredundant, for any cubes, any two tables and any integer. -/
import Derived.Test.YtbpjoamdcbbnnaaRows
import Derived.Test.YtbpjoamdcbbnnaaTabE9
import Derived.Test.YtbpjoamdcbbnnaaAbArgs2
import Derived.ProofKit
set_option linter.unusedSimpArgs false
set_option linter.unusedVariables false
namespace Go.Proofs.Ytbpjoamdcbbnnaa
open Go.ChangeShapes Go.WideShapes Go.ChangeAt Go.RowKit Go.Abs

theorem Try.own : ownKnob Try.prog.godebug = none := by kernel_rfl
theorem nat_of_wf {k : IntKind} {a : Int} {b : Nat} (h : (Lit.int k a).wf = true) (hb : k.max = b) (hs : k.min = 0) : ∃ n : Nat, a = n ∧ n ≤ b := by
  simp only [Lit.wf, Bool.and_eq_true, decide_eq_true_eq] at h
  exact ⟨a.toNat, by omega, by omega⟩
theorem cubes_of : ∀ (zs : List (Int × Int)), (∀ z ∈ zs, (Lit.int .u8 z.1).wf = true ∧ (Lit.int .u8 z.2).wf = true) → ∃ l : List (Nat × Nat), pairsV .u8 .u8 zs = cubes l ∧ Small l ∧ ∀ n, pairsV .u8 .u8 (zs.take n) = cubes (l.take n)
  | [], _ => ⟨[], rfl, (fun c hc => by cases hc), fun n => by simp [pairsV, cubes]⟩
  | z :: zs, h => by
    obtain ⟨l, h1, h2, h3⟩ := cubes_of zs fun z hz => h z (by simp [hz])
    obtain ⟨w0, w1⟩ := h z (by simp)
    obtain ⟨a, e0, l0⟩ := nat_of_wf w0 (b := 255) rfl rfl
    obtain ⟨b, e1, l1⟩ := nat_of_wf w1 (b := 255) rfl rfl
    obtain ⟨x, y⟩ := z
    simp only at e0 e1
    subst e0; subst e1
    refine ⟨(a, b) :: l, ?_, fun c hc => ?_, fun n => ?_⟩
    · rw [show pairsV .u8 .u8 (((a : Int), (b : Int)) :: zs) = cubeV (a, b) :: pairsV .u8 .u8 zs from rfl, h1]; rfl
    · rcases List.mem_cons.1 hc with rfl | hc
      · exact ⟨by simp only; omega, by simp only; omega⟩
      · exact h2 c hc
    · cases n with
      | zero => simp [pairsV, cubes]
      | succ n => rw [List.take_succ_cons, List.take_succ_cons, show pairsV .u8 .u8 (((a : Int), (b : Int)) :: zs.take n) = cubeV (a, b) :: pairsV .u8 .u8 (zs.take n) from rfl, h3]; rfl

set_option maxRecDepth 100000 in
theorem cover_lifted (os : Os) (started : os.Started) (H : Type) (enc : TypeId × Value → H) :
    ReturnsInHanded {} Try.checked os 4 .any (Rows.tableCoverMatchesSpec.pre6 enc Try.prog Try.f4 Rows.tableCoverMatchesRow.domain false) (Rows.tableCoverMatchesSpec.post enc Try.prog Try.f4 false true false false) := by
  refine returnsInHanded_of_change (C := Try.checked) Try.own started (by kernel_rfl) Try.func4
    (ChangeSpec.witness6 (enc := enc) (C := Try.checked) false ⟨#[], #[.slice none 0 0, .int .u64 0, .int .u64 0, .int .i64 0], []⟩ 4 (by kernel_rfl) (by kernel_rfl) (by kernel_rfl) (by kernel_rfl)) ?_
  intro W base args ds gs before hval0 hW hcnd _
  have hval : ∀ (j : Nat) t v, Try.f4.params[j]? = some t → args[j]? = some v → Value.okWide Try.prog W .any base t v := hval0
  have hW' := hW
  obtain ⟨p, q, hA0, hV, rfl, hfz, hnd⟩ := hW
  have hA : DataW.TrodAll enc Try.prog W 0 (fun _ => true) true Try.f4.params.toList args.toList ds p := hA0
  have hK := hA0
  have hlt : ∀ x ∈ p, x.block < W.heap.size := fun x hx => by simpa using hW'.lt x (by simp [hx])
  rw [Try.params4] at hA hval
  obtain ⟨v0, v1, v2, v3, d0, d1, d2, d3, p0, p1, p2, p3, rfl, rfl, rfl, h0, h1, h2, h3⟩ := trodAll_four hA
  obtain ⟨rfl, rfl⟩ := trodVars_none hV
  obtain ⟨x1, rfl, rfl, rfl, w1⟩ := open_int Try.underlying22 (hval 1 22 v1 rfl rfl) h1
  obtain ⟨x2, rfl, rfl, rfl, w2⟩ := open_int Try.underlying22 (hval 2 22 v2 rfl rfl) h2
  obtain ⟨x3, rfl, rfl, rfl, w3⟩ := open_int Try.underlying3 (hval 3 3 v3 rfl rfl) h3
  obtain ⟨zs, r0, wz, lz⟩ := param_pairs Try.underlying35 Try.underlying40 Try.underlying5 Try.underlying5 rfl rfl (by kernel_rfl) (by kernel_rfl) (by kernel_rfl) (hval 0 35 v0 rfl rfl) h0
  clear hA0 hval0 hA hval h0 h1 h2 h3
  obtain ⟨a1, e1, l1⟩ := nat_of_wf w1 (b := 18446744073709551615) rfl rfl
  obtain ⟨a2, e2, l2⟩ := nat_of_wf w2 (b := 18446744073709551615) rfl rfl
  obtain ⟨l, hlz, hsm, htk⟩ := cubes_of zs wz
  let rs : List (Value × List Value × Nat) := [(v0, (pairsV .u8 .u8 zs).flatten, 2)]
  obtain ⟨b0, n0, c0, ev, s0, _⟩ := rowsAt_row (rs := rs) (i := 0) rfl r0
  rw [htk] at s0
  have hE : AOk Try.prog 4 [absS 0 v0, .int .u64 x1, .int .u64 x2, .int .i64 x3] rs.length (rowsHeap rs) fun v _ _ => v = .bool true := by
    have h := CoverLaw_gives (l.take n0) (fun c hc => hsm c (List.mem_of_mem_take hc)) (BitVec.ofNat 64 a1) (BitVec.ofNat 64 a2) x3 _ rs.length (rowsHeap rs) s0
    rw [BitVec.toNat_ofNat, Nat.mod_eq_of_lt (by omega), BitVec.toNat_ofNat, Nat.mod_eq_of_lt (by omega)] at h
    rw [e1, e2]
    unfold Gives at h
    exact h.mono fun v _ _ h => h.1
  have hrs : ∀ r ∈ rs, ArgRow W r.1 r.2.1 r.2.2 := by
    intro r hr
    simp only [rs, List.mem_cons, List.not_mem_nil, or_false] at hr
    subst hr
    exact r0
  have hvr : VRels (rowsRen W rs) [absS 0 v0, .int .u64 x1, .int .u64 x2, .int .i64 x3] [v0, .int .u64 x1, .int .u64 x2, .int .i64 x3] :=
    .cons (vrel_row (i := 0) (rs := rs) rfl (by decide) r0) (.cons (.int _ _) (.cons (.int _ _) (.cons (.int _ _) .nil)))
  refine (calls_rows rs hrs (cargs := #[v0, .int .u64 x1, .int .u64 x2, .int .i64 x3]) hvr hE).mono fun e W' ⟨he, hw⟩ => ?_
  subst he
  exact ⟨_, rfl, post_of_below (pv := []) hW' (fun _ _ _ => trodAll_mk1 (shut_bool Try.underlying4 _)) (fun sp hs => trodAll_stays (by kernel_rfl) hw (by kernel_rfl) hK (fun x hx => hlt x (by simpa using hx)) sp (fun x hx => hs x (by simpa using hx))) (fun _ _ => rfl) (by simp)
    hw (ok_one (by kernel_rfl) rfl (okWide_bool_mk Try.underlying4 _))⟩

theorem coverm_holds : Rows.TableCoverMatchesSaid :=
  OpenClaim.holds_of_wide 4 Try.f4 rfl rfl rfl rfl rfl rfl rfl ⟨rfl, rfl, rfl, rfl, rfl⟩ rfl rfl rfl rfl rfl (by kernel_rfl) Try.func4 (by kernel_rfl)
    (of_decide_eq_true (by kernel_rfl)) (by unfold Func.isWrapper; rw [if_neg (by decide +kernel)]; exact ⟨rfl, rfl⟩)
    (fun os started H enc _ => cover_lifted os started H enc)
end Go.Proofs.Ytbpjoamdcbbnnaa
