/- CutFunctionMatches returns true. -/
import Derived.Test.YtfialjllclclkaaRows
import Derived.Test.YtfialjllclclkaaFm4
import Derived.Test.YtfialjllclclkaaFmArgs2
import Derived.ProofKit
import Derived.Lib.SmallJoins
set_option linter.unusedSimpArgs false
set_option linter.unusedVariables false
namespace Go.Proofs.Ytfialjllclclkaa
open Go.ChangeShapes Go.WideShapes Go.ChangeAt Go.RowKit Go.Abs Go.Cut

theorem Try.own : ownKnob Try.prog.godebug = none := by kernel_rfl
theorem vrel_agg4 {ι : Ren} {a b c d a' b' c' d' : Value} (h1 : VRel ι a a') (h2 : VRel ι b b') (h3 : VRel ι c c') (h4 : VRel ι d d') : VRel ι (.agg #[a, b, c, d]) (.agg #[a', b', c', d']) := by
  refine .agg rfl fun i v v' h h' => ?_
  match i, h, h' with
  | 0, h, h' => simp at h h'; subst h; subst h'; exact h1
  | 1, h, h' => simp at h h'; subst h; subst h'; exact h2
  | 2, h, h' => simp at h h'; subst h; subst h'; exact h3
  | 3, h, h' => simp at h h'; subst h; subst h'; exact h4
  | i + 4, h, _ => simp at h

set_option maxRecDepth 100000 in
theorem cutfm_lifted (os : Os) (started : os.Started) (H : Type) (enc : TypeId × Value → H) :
    ReturnsInHanded {} Try.checked os 4 .any (Rows.cutFunctionMatchesSpec.pre6 enc Try.prog Try.f4 Rows.cutFunctionMatchesRow.domain false) (Rows.cutFunctionMatchesSpec.post enc Try.prog Try.f4 false true false false) := by
  refine returnsInHanded_of_change (C := Try.checked) Try.own started (by kernel_rfl) Try.func4
    (ChangeSpec.witness6 (enc := enc) (C := Try.checked) false ⟨#[], #[.agg #[.int .i64 0, .slice none 0 0, .slice none 0 0, .slice none 0 0], .int .i64 0, .slice none 0 0], []⟩ 4 (by kernel_rfl) (by kernel_rfl) (by kernel_rfl) (by kernel_rfl)) ?_
  intro W base args ds gs before hval0 hW hcnd _
  have hval : ∀ (j : Nat) t v, Try.f4.params[j]? = some t → args[j]? = some v → Value.okWide Try.prog W .any base t v := hval0
  have hW' := hW
  obtain ⟨p, q, hA0, hV, rfl, hfz, hnd⟩ := hW
  have hA : DataW.TrodAll enc Try.prog W 0 (fun _ => true) true Try.f4.params.toList args.toList ds p := hA0
  have hK := hA0
  have hlt : ∀ x ∈ p, x.block < W.heap.size := fun x hx => by simpa using hW'.lt x (by simp [hx])
  rw [Try.params4] at hA hval
  obtain ⟨v0, v1, v2, d0, d1, d2, p0, p1, p2, rfl, rfl, rfl, h0, h1, h2⟩ := trodAll_three hA
  obtain ⟨rfl, rfl⟩ := trodVars_none hV
  have k0 := hval 0 26 v0 rfl rfl
  have k2 := hval 2 35 v2 rfl rfl
  obtain ⟨x1, rfl, rfl, rfl, w1⟩ := open_int Try.underlying3 (hval 1 3 v1 rfl rfl) h1
  obtain ⟨s0, s1, s2, s3, y0, y1, y2, y3, n, rfl, _, _, g0, g1, g2, g3⟩ := Go.Joins.open_agg4 Try.underlying26 (by kernel_rfl) (by kernel_rfl) k0 h0
  obtain ⟨inp, e0, _, wf⟩ := DataW.trod_int Try.underlying3 g0
  cases e0
  have hts : Try.prog.cellTypes Try.prog.depth 26 = some [3, 22, 23, 24] := by kernel_rfl
  have hcell := okWide_cells Try.underlying26 hts k0
  obtain ⟨u1, hu1, c1⟩ := hcell 1 s1 rfl
  obtain ⟨u2, hu2, c2⟩ := hcell 2 s2 rfl
  obtain ⟨u3, hu3, c3⟩ := hcell 3 s3 rfl
  simp at hu1 hu2 hu3; subst hu1; subst hu2; subst hu3
  obtain ⟨zl, rl, _, _⟩ := row_pairs Try.underlying22 Try.underlying45 Try.underlying43 Try.underlying5 rfl rfl (by kernel_rfl) (by kernel_rfl) (by kernel_rfl) c1 g1
  obtain ⟨za, ra, _, _⟩ := row_pairs Try.underlying23 Try.underlying47 Try.underlying43 Try.underlying43 rfl rfl (by kernel_rfl) (by kernel_rfl) (by kernel_rfl) c2 g2
  obtain ⟨zo, ro, _, _⟩ := row_ints Try.underlying24 Try.underlying43 (by kernel_rfl) c3 g3
  obtain ⟨zv, rv, _, _⟩ := param_ints Try.underlying35 Try.underlying3 (by kernel_rfl) k2 h2
  clear hA0 hval0 hA hval h0 h1 h2 g0 g1 g2 g3 hcell
  have ro : ArgRow W s3 (ints zo) 1 := ro
  have rv : ArgRow W v2 (ints zv) 1 := rv
  let rs : List (Value × List Value × Nat) := [(s1, (pairsV .i64 .u8 zl).flatten, 2), (s2, (pairsV .i64 .i64 za).flatten, 2), (s3, ints zo, 1), (v2, ints zv, 1)]
  obtain ⟨bl, nl, cl, el, sl, _⟩ := rowsAt_row (rs := rs) (i := 0) rfl rl
  obtain ⟨ba, na, ca, ea, sa, _⟩ := rowsAt_row (rs := rs) (i := 1) rfl ra
  obtain ⟨bo, no, co, eo, so, _⟩ := slAt_row (rs := rs) (i := 2) rfl ro
  obtain ⟨bv, nv, cv, ev, sv, _⟩ := slAt_row (rs := rs) (i := 3) rfl rv
  have so' : SlAt (rowsHeap rs) (absS 2 s3) (ints (zo.take no)) := by simpa [ints, List.map_take] using so
  have sv' : SlAt (rowsHeap rs) (absS 3 v2) (ints (zv.take nv)) := by simpa [ints, List.map_take] using sv
  have hE : AOk Try.prog 4 [.agg #[.int .i64 inp, absS 0 s1, absS 1 s2, absS 2 s3], .int .i64 x1, absS 3 v2] rs.length (rowsHeap rs) fun v _ _ => v = .bool true :=
    (CutFunctionMatches_ok (g := ⟨inp, zl.take nl, za.take na, zo.take no⟩) ⟨_, _, _, rfl, sl, sa, so'⟩ sv').mono fun v _ _ h => h.1
  have hrs : ∀ r ∈ rs, ArgRow W r.1 r.2.1 r.2.2 := by
    intro r hr
    simp only [rs, List.mem_cons, List.not_mem_nil, or_false] at hr
    rcases hr with rfl | rfl | rfl | rfl
    · exact rl
    · exact ra
    · exact ro
    · exact rv
  have hvr : VRels (rowsRen W rs) [.agg #[.int .i64 inp, absS 0 s1, absS 1 s2, absS 2 s3], .int .i64 x1, absS 3 v2] [.agg #[.int .i64 inp, s1, s2, s3], .int .i64 x1, v2] := by
    refine .cons (vrel_agg4 (.int _ _) (vrel_row (i := 0) (rs := rs) rfl (by decide) rl) (vrel_row (i := 1) (rs := rs) rfl (by decide) ra) (vrel_row (i := 2) (rs := rs) rfl (by decide) ro)) (.cons (.int _ _) (.cons (vrel_row (i := 3) (rs := rs) rfl (by decide) rv) .nil))
  refine (calls_rows rs hrs (cargs := #[.agg #[.int .i64 inp, s1, s2, s3], .int .i64 x1, v2]) hvr hE).mono fun e W' ⟨he, hw⟩ => ?_
  subst he
  exact ⟨_, rfl, post_of_below (pv := []) hW' (fun _ _ _ => trodAll_mk1 (shut_bool Try.underlying4 _)) (fun sp hs => trodAll_stays (by kernel_rfl) hw (by kernel_rfl) hK (fun x hx => hlt x (by simpa using hx)) sp (fun x hx => hs x (by simpa using hx))) (fun _ _ => rfl) (by simp)
    hw (ok_one (by kernel_rfl) rfl (okWide_bool_mk Try.underlying4 _))⟩

theorem cutfm_holds : Rows.CutFunctionMatchesSaid :=
  OpenClaim.holds_of_wide 4 Try.f4 rfl rfl rfl rfl rfl rfl rfl ⟨rfl, rfl, rfl, rfl, rfl⟩ rfl rfl rfl rfl rfl (by kernel_rfl) Try.func4 (by kernel_rfl)
    (of_decide_eq_true (by kernel_rfl)) (by unfold Func.isWrapper; rw [if_neg (by decide +kernel)]; exact ⟨rfl, rfl⟩)
    (fun os started H enc _ => cutfm_lifted os started H enc)
end Go.Proofs.Ytfialjllclclkaa
