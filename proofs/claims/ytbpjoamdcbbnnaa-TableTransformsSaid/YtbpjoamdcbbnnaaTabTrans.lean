/- TableTransforms returns true for every table, number and two transformations, and changes nothing: applying a transformation keeps the representative and the number of variables in the support. -/
import Derived.Test.YtbpjoamdcbbnnaaRows
import Derived.Test.YtbpjoamdcbbnnaaTabE8
import Derived.Test.YtbpjoamdcbbnnaaAbArgs
import Derived.ProofKit
import Derived.Lib.SmallJoins
set_option linter.unusedSimpArgs false
set_option linter.unusedVariables false
namespace Go.Proofs.Ytbpjoamdcbbnnaa
open Go.ChangeShapes Go.WideShapes Go.ChangeAt Go.RowKit Go.Abs

theorem Try.own : ownKnob Try.prog.godebug = none := by kernel_rfl
theorem nat_of_wf {k : IntKind} {a : Int} {b : Nat} (h : (Lit.int k a).wf = true) (hb : k.max = b) (hs : k.min = 0) : ∃ n : Nat, a = n ∧ n ≤ b := by
  simp only [Lit.wf, Bool.and_eq_true, decide_eq_true_eq] at h
  exact ⟨a.toNat, by omega, by omega⟩
theorem vrel_agg3 {ι : Ren} {a b c a' b' c' : Value} (h1 : VRel ι a a') (h2 : VRel ι b b') (h3 : VRel ι c c') : VRel ι (.agg #[a, b, c]) (.agg #[a', b', c']) := by
  refine .agg rfl fun i v v' h h' => ?_
  match i, h, h' with
  | 0, h, h' => simp at h h'; subst h; subst h'; exact h1
  | 1, h, h' => simp at h h'; subst h; subst h'; exact h2
  | 2, h, h' => simp at h h'; subst h; subst h'; exact h3
  | i + 3, h, h' => simp at h

set_option maxRecDepth 100000 in
theorem transforms_lifted (os : Os) (started : os.Started) (H : Type) (enc : TypeId × Value → H) :
    ReturnsInHanded {} Try.checked os 12 .any (Rows.tableTransformsSpec.pre6 enc Try.prog Try.f12 Rows.tableTransformsRow.domain false) (Rows.tableTransformsSpec.post enc Try.prog Try.f12 false true false false) := by
  refine returnsInHanded_of_change (C := Try.checked) Try.own started (by kernel_rfl) Try.func12
    (ChangeSpec.witness6 (enc := enc) (C := Try.checked) false ⟨#[], #[.int .u64 0, .int .u8 0, .agg #[.slice none 0 0, .int .u8 0, .bool false], .agg #[.slice none 0 0, .int .u8 0, .bool false]], []⟩ 12 (by kernel_rfl) (by kernel_rfl) (by kernel_rfl) (by kernel_rfl)) ?_
  intro W base args ds gs before hval0 hW hcnd _
  have hval : ∀ (j : Nat) t v, Try.f12.params[j]? = some t → args[j]? = some v → Value.okWide Try.prog W .any base t v := hval0
  have hW' := hW
  obtain ⟨p, q, hA0, hV, rfl, hfz, hnd⟩ := hW
  have hA : DataW.TrodAll enc Try.prog W 0 (fun _ => true) true Try.f12.params.toList args.toList ds p := hA0
  have hK := hA0
  have hlt : ∀ x ∈ p, x.block < W.heap.size := fun x hx => by simpa using hW'.lt x (by simp [hx])
  rw [Try.params12] at hA hval
  obtain ⟨v0, v1, v2, v3, d0, d1, d2, d3, p0, p1, p2, p3, rfl, rfl, rfl, h0, h1, h2, h3⟩ := trodAll_four hA
  obtain ⟨rfl, rfl⟩ := trodVars_none hV
  have k2 := hval 2 58 v2 rfl rfl
  have k3 := hval 3 58 v3 rfl rfl
  obtain ⟨x0, rfl, rfl, rfl, w0⟩ := open_int Try.underlying22 (hval 0 22 v0 rfl rfl) h0
  obtain ⟨x1, rfl, rfl, rfl, w1⟩ := open_int Try.underlying5 (hval 1 5 v1 rfl rfl) h1
  have hts : Try.prog.cellTypes Try.prog.depth 58 = some [23, 5, 4] := by kernel_rfl
  obtain ⟨s0, s1, s2, y0, y1, y2, n, rfl, _, _, g0, g1, g2⟩ := Go.Joins.open_agg3 Try.underlying58 (by kernel_rfl) (by kernel_rfl) k2 h2
  obtain ⟨f, e1, _, wf⟩ := DataW.trod_int Try.underlying5 g1
  obtain ⟨neg, e2, _⟩ := DataW.trod_bool Try.underlying4 g2
  cases e1
  cases e2
  have hcell := okWide_cells Try.underlying58 hts k2
  obtain ⟨u, hu, c0⟩ := hcell 0 s0 rfl
  simp at hu; subst hu
  obtain ⟨zo, ro, wo, lo⟩ := row_ints Try.underlying23 Try.underlying3 (by kernel_rfl) c0 g0
  obtain ⟨s0', s1', s2', y0', y1', y2', n', rfl, _, _, g0', g1', g2'⟩ := Go.Joins.open_agg3 Try.underlying58 (by kernel_rfl) (by kernel_rfl) k3 h3
  obtain ⟨f2, e1, _, wf2⟩ := DataW.trod_int Try.underlying5 g1'
  obtain ⟨neg2, e2, _⟩ := DataW.trod_bool Try.underlying4 g2'
  cases e1
  cases e2
  have hcell' := okWide_cells Try.underlying58 hts k3
  obtain ⟨u', hu', c0'⟩ := hcell' 0 s0' rfl
  simp at hu'; subst hu'
  obtain ⟨za, ra, wa, la⟩ := row_ints Try.underlying23 Try.underlying3 (by kernel_rfl) c0' g0'
  clear hA0 hval0 hA hval h0 h1 h2 h3 g0 g1 g2 hcell g0' g1' g2' hcell'
  obtain ⟨a0, e0, l0⟩ := nat_of_wf w0 (b := 18446744073709551615) rfl rfl
  obtain ⟨a1, e1, l1⟩ := nat_of_wf w1 (b := 255) rfl rfl
  obtain ⟨f', ef, lf⟩ := nat_of_wf wf (b := 255) rfl rfl
  obtain ⟨f2', ef2, lf2⟩ := nat_of_wf wf2 (b := 255) rfl rfl
  have ro : ArgRow W s0 (ints zo) 1 := ro
  have ra : ArgRow W s0' (ints za) 1 := ra
  let rs : List (Value × List Value × Nat) := [(s0, ints zo, 1), (s0', ints za, 1)]
  obtain ⟨bo, no, co, eo, so, so2⟩ := slAt_row (rs := rs) (i := 0) rfl ro
  obtain ⟨ba, na, ca, ea, sa, sa2⟩ := slAt_row (rs := rs) (i := 1) rfl ra
  have so' : SlAt (rowsHeap rs) (absS 0 s0) (ints (zo.take no)) := by simpa [ints, List.map_take] using so
  have sa' : SlAt (rowsHeap rs) (absS 1 s0') (ints (za.take na)) := by simpa [ints, List.map_take] using sa
  have hml : maxLen ≤ 9223372036854775807 := by decide
  have hE : AOk Try.prog 12 [.int .u64 x0, .int .u8 x1, trV (absS 0 s0) f' neg, trV (absS 1 s0') f2' neg2] rs.length (rowsHeap rs) fun v _ _ => v = .bool true := by
    have h := TransformsLaw_gives (BitVec.ofNat 64 a0) a1 (zo.take no) (za.take na) (by rw [List.length_take]; omega) (by rw [List.length_take]; omega) f' f2' (by omega) (by omega) neg neg2 _ _ rs.length (rowsHeap rs) so' sa'
    rw [BitVec.toNat_ofNat, Nat.mod_eq_of_lt (by omega)] at h
    rw [e0, e1]
    unfold Gives at h
    exact h.mono fun v _ _ h => h.1
  have hrs : ∀ r ∈ rs, ArgRow W r.1 r.2.1 r.2.2 := by
    intro r hr
    simp only [rs, List.mem_cons, List.not_mem_nil, or_false] at hr
    rcases hr with rfl | rfl
    · exact ro
    · exact ra
  have hvr : VRels (rowsRen W rs) [.int .u64 x0, .int .u8 x1, trV (absS 0 s0) f' neg, trV (absS 1 s0') f2' neg2] [.int .u64 x0, .int .u8 x1, .agg #[s0, .int .u8 f, .bool neg], .agg #[s0', .int .u8 f2, .bool neg2]] := by
    refine .cons (.int _ _) (.cons (.int _ _) (.cons (vrel_agg3 (vrel_row (i := 0) (rs := rs) rfl (by decide) ro) (by rw [ef]; exact .int _ _) (.bool _)) (.cons (vrel_agg3 (vrel_row (i := 1) (rs := rs) rfl (by decide) ra) (by rw [ef2]; exact .int _ _) (.bool _)) .nil)))
  refine (calls_rows rs hrs (cargs := #[.int .u64 x0, .int .u8 x1, .agg #[s0, .int .u8 f, .bool neg], .agg #[s0', .int .u8 f2, .bool neg2]]) hvr hE).mono fun e W' ⟨he, hw⟩ => ?_
  subst he
  exact ⟨_, rfl, post_of_below (pv := []) hW' (fun _ _ _ => trodAll_mk1 (shut_bool Try.underlying4 _)) (fun sp hs => trodAll_stays (by kernel_rfl) hw (by kernel_rfl) hK (fun x hx => hlt x (by simpa using hx)) sp (fun x hx => hs x (by simpa using hx))) (fun _ _ => rfl) (by simp)
    hw (ok_one (by kernel_rfl) rfl (okWide_bool_mk Try.underlying4 _))⟩

theorem transforms_holds : Rows.TableTransformsSaid :=
  OpenClaim.holds_of_wide 12 Try.f12 rfl rfl rfl rfl rfl rfl rfl ⟨rfl, rfl, rfl, rfl, rfl⟩ rfl rfl rfl rfl rfl (by kernel_rfl) Try.func12 (by kernel_rfl)
    (of_decide_eq_true (by kernel_rfl)) (by unfold Func.isWrapper; rw [if_neg (by decide +kernel)]; exact ⟨rfl, rfl⟩)
    (fun os started H enc _ => transforms_lifted os started H enc)
end Go.Proofs.Ytbpjoamdcbbnnaa
