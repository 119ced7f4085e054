/-
  No cell of these rows narrows 'for every input' (looked for: loops, veiled, ifaces, maps, wideKeys, modest, calm, conditions, laid).
  DERIVED. THE GIVEN ROWS OF THIS SEAT. 8 by the template 'for every input the law returns true; each argument reads behind the call as it read before'; 0 by the template 'total and deterministic' (their statements: YtfialjllclclkaaTotals.lean).
  GIVEN WITH THE SEED: the statements are not yours to turn. If you find one false, say at which input.
  Laid BY PROGRAM, IN A SANDBOX (cutbox-rows.mjs): the forced cells as the released guide's own fill.sh prints them over the translation 44e3c9e602b0d032… (all of the seat's roots in one cut). By AI agents, Wed Nov 11 2026. No macro, syntax, notation, axiom, sorry.
-/
import Derived.Test.YtfialjllclclkaaChecked
import GoSem.Claim
import GoSem.ClaimJoined
import GoSem.ClaimMapViews
import Derived.JoinedTies
import Derived.KernelRfl
namespace Go.Proofs.Ytfialjllclclkaa
/- THE CELL 'sum', in the pinned program and in every row, IS THE sha256 OF THE DUMP (.gsa) THAT YtfialjllclclkaaProg.lean LOADS. Nothing in Lean hashes anything: it is a label: what it is worth is what the hold of that sum in a sandbox is worth. -/
noncomputable def Try.pinned : Pinned := { name := "ytfialjllclclkaa", sum := "44e3c9e602b0d032d2c8e9023720cfdc54fe6087638ce82ad8f34ee7dbb4979a", checked := Try.checked }
namespace Rows
def none {H : Type} : Left H := { results := [], args := [] }

/-- 'netlablaw26.CutMatches': WHATEVER THE INPUT: true; the input reads as it did. -/
def cutMatchesSpec : ChangeSpec := { name := "cutMatches", fn := fun _ => fun
  | [d1, d2] => { results := [.lit (.bool true)], args := [d1, d2] }
  | _ => none }
def cutMatchesRow : OpenClaim := { program := "ytfialjllclclkaa", sum := "44e3c9e602b0d032d2c8e9023720cfdc54fe6087638ce82ad8f34ee7dbb4979a", func := "netlab/netlablaw26.CutMatches", spec := "cutMatches", unfollowed := true, recurses := true, apart := false }
def CutMatchesSaid : Prop := cutMatchesRow.holds Try.pinned (OpenSpec.ofChange cutMatchesSpec)

/-- ITS FALSE NEIGHBOUR: 'it returns false'. Refute it at one input. -/
def cutMatchesWrong : ChangeSpec := { name := "cutMatches", fn := fun _ => fun
  | [d1, d2] => { results := [.lit (.bool false)], args := [d1, d2] }
  | _ => none }
def CutMatchesWrongFalsely : Prop := cutMatchesRow.holds Try.pinned (OpenSpec.ofChange cutMatchesWrong)

/-- 'netlablaw26.CutFunctionMatches': WHATEVER THE INPUT: true; the input reads as it did. -/
def cutFunctionMatchesSpec : ChangeSpec := { name := "cutFunctionMatches", fn := fun _ => fun
  | [d1, d2, d3] => { results := [.lit (.bool true)], args := [d1, d2, d3] }
  | _ => none }
def cutFunctionMatchesRow : OpenClaim := { program := "ytfialjllclclkaa", sum := "44e3c9e602b0d032d2c8e9023720cfdc54fe6087638ce82ad8f34ee7dbb4979a", func := "netlab/netlablaw26.CutFunctionMatches", spec := "cutFunctionMatches", unfollowed := true, recurses := true, apart := false }
def CutFunctionMatchesSaid : Prop := cutFunctionMatchesRow.holds Try.pinned (OpenSpec.ofChange cutFunctionMatchesSpec)

/-- ITS FALSE NEIGHBOUR: 'it returns false'. Refute it at one input. -/
def cutFunctionMatchesWrong : ChangeSpec := { name := "cutFunctionMatches", fn := fun _ => fun
  | [d1, d2, d3] => { results := [.lit (.bool false)], args := [d1, d2, d3] }
  | _ => none }
def CutFunctionMatchesWrongFalsely : Prop := cutFunctionMatchesRow.holds Try.pinned (OpenSpec.ofChange cutFunctionMatchesWrong)

/-- 'netlablaw26.CutExamples': WHATEVER THE INPUT: true; the input reads as it did. -/
def cutExamplesSpec : ChangeSpec := { name := "cutExamples", fn := fun _ => fun
  | [] => { results := [.lit (.bool true)], args := [] }
  | _ => none }
def cutExamplesRow : OpenClaim := { program := "ytfialjllclclkaa", sum := "44e3c9e602b0d032d2c8e9023720cfdc54fe6087638ce82ad8f34ee7dbb4979a", func := "netlab/netlablaw26.CutExamples", spec := "cutExamples", unfollowed := true, recurses := true, apart := false }
def CutExamplesSaid : Prop := cutExamplesRow.holds Try.pinned (OpenSpec.ofChange cutExamplesSpec)

/-- ITS FALSE NEIGHBOUR: 'it returns false'. Refute it at one input. -/
def cutExamplesWrong : ChangeSpec := { name := "cutExamples", fn := fun _ => fun
  | [] => { results := [.lit (.bool false)], args := [] }
  | _ => none }
def CutExamplesWrongFalsely : Prop := cutExamplesRow.holds Try.pinned (OpenSpec.ofChange cutExamplesWrong)

/-- 'netlablaw26.CutIrredundant': WHATEVER THE INPUT: true; the input reads as it did. -/
def cutIrredundantSpec : ChangeSpec := { name := "cutIrredundant", fn := fun _ => fun
  | [d1, d2] => { results := [.lit (.bool true)], args := [d1, d2] }
  | _ => none }
def cutIrredundantRow : OpenClaim := { program := "ytfialjllclclkaa", sum := "44e3c9e602b0d032d2c8e9023720cfdc54fe6087638ce82ad8f34ee7dbb4979a", func := "netlab/netlablaw26.CutIrredundant", spec := "cutIrredundant", unfollowed := true, recurses := true, apart := false }
def CutIrredundantSaid : Prop := cutIrredundantRow.holds Try.pinned (OpenSpec.ofChange cutIrredundantSpec)

/-- ITS FALSE NEIGHBOUR: 'it returns false'. Refute it at one input. -/
def cutIrredundantWrong : ChangeSpec := { name := "cutIrredundant", fn := fun _ => fun
  | [d1, d2] => { results := [.lit (.bool false)], args := [d1, d2] }
  | _ => none }
def CutIrredundantWrongFalsely : Prop := cutIrredundantRow.holds Try.pinned (OpenSpec.ofChange cutIrredundantWrong)

/-- 'netlablaw26.CutComplete': WHATEVER THE INPUT: true; the input reads as it did. -/
def cutCompleteSpec : ChangeSpec := { name := "cutComplete", fn := fun _ => fun
  | [d1, d2, d3, d4] => { results := [.lit (.bool true)], args := [d1, d2, d3, d4] }
  | _ => none }
def cutCompleteRow : OpenClaim := { program := "ytfialjllclclkaa", sum := "44e3c9e602b0d032d2c8e9023720cfdc54fe6087638ce82ad8f34ee7dbb4979a", func := "netlab/netlablaw26.CutComplete", spec := "cutComplete", unfollowed := true, recurses := true, apart := false }
def CutCompleteSaid : Prop := cutCompleteRow.holds Try.pinned (OpenSpec.ofChange cutCompleteSpec)

/-- ITS FALSE NEIGHBOUR: 'it returns false'. Refute it at one input. -/
def cutCompleteWrong : ChangeSpec := { name := "cutComplete", fn := fun _ => fun
  | [d1, d2, d3, d4] => { results := [.lit (.bool false)], args := [d1, d2, d3, d4] }
  | _ => none }
def CutCompleteWrongFalsely : Prop := cutCompleteRow.holds Try.pinned (OpenSpec.ofChange cutCompleteWrong)

/-- 'netlablaw26.CutFree': WHATEVER THE INPUT: true; the input reads as it did. -/
def cutFreeSpec : ChangeSpec := { name := "cutFree", fn := fun _ => fun
  | [d1, d2, d3] => { results := [.lit (.bool true)], args := [d1, d2, d3] }
  | _ => none }
def cutFreeRow : OpenClaim := { program := "ytfialjllclclkaa", sum := "44e3c9e602b0d032d2c8e9023720cfdc54fe6087638ce82ad8f34ee7dbb4979a", func := "netlab/netlablaw26.CutFree", spec := "cutFree", unfollowed := true, recurses := true, apart := false }
def CutFreeSaid : Prop := cutFreeRow.holds Try.pinned (OpenSpec.ofChange cutFreeSpec)

/-- ITS FALSE NEIGHBOUR: 'it returns false'. Refute it at one input. -/
def cutFreeWrong : ChangeSpec := { name := "cutFree", fn := fun _ => fun
  | [d1, d2, d3] => { results := [.lit (.bool false)], args := [d1, d2, d3] }
  | _ => none }
def CutFreeWrongFalsely : Prop := cutFreeRow.holds Try.pinned (OpenSpec.ofChange cutFreeWrong)

/-- 'netlablaw26.CutLimits': WHATEVER THE INPUT: true; the input reads as it did. -/
def cutLimitsSpec : ChangeSpec := { name := "cutLimits", fn := fun _ => fun
  | [d1, d2] => { results := [.lit (.bool true)], args := [d1, d2] }
  | _ => none }
def cutLimitsRow : OpenClaim := { program := "ytfialjllclclkaa", sum := "44e3c9e602b0d032d2c8e9023720cfdc54fe6087638ce82ad8f34ee7dbb4979a", func := "netlab/netlablaw26.CutLimits", spec := "cutLimits", unfollowed := true, recurses := true, apart := false }
def CutLimitsSaid : Prop := cutLimitsRow.holds Try.pinned (OpenSpec.ofChange cutLimitsSpec)

/-- ITS FALSE NEIGHBOUR: 'it returns false'. Refute it at one input. -/
def cutLimitsWrong : ChangeSpec := { name := "cutLimits", fn := fun _ => fun
  | [d1, d2] => { results := [.lit (.bool false)], args := [d1, d2] }
  | _ => none }
def CutLimitsWrongFalsely : Prop := cutLimitsRow.holds Try.pinned (OpenSpec.ofChange cutLimitsWrong)

/-- 'netlablaw26.CutSeparates': WHATEVER THE INPUT: true; the input reads as it did. -/
def cutSeparatesSpec : ChangeSpec := { name := "cutSeparates", fn := fun _ => fun
  | [d1, d2, d3, d4] => { results := [.lit (.bool true)], args := [d1, d2, d3, d4] }
  | _ => none }
def cutSeparatesRow : OpenClaim := { program := "ytfialjllclclkaa", sum := "44e3c9e602b0d032d2c8e9023720cfdc54fe6087638ce82ad8f34ee7dbb4979a", func := "netlab/netlablaw26.CutSeparates", spec := "cutSeparates", unfollowed := true, recurses := true, apart := false }
def CutSeparatesSaid : Prop := cutSeparatesRow.holds Try.pinned (OpenSpec.ofChange cutSeparatesSpec)

/-- ITS FALSE NEIGHBOUR: 'it returns false'. Refute it at one input. -/
def cutSeparatesWrong : ChangeSpec := { name := "cutSeparates", fn := fun _ => fun
  | [d1, d2, d3, d4] => { results := [.lit (.bool false)], args := [d1, d2, d3, d4] }
  | _ => none }
def CutSeparatesWrongFalsely : Prop := cutSeparatesRow.holds Try.pinned (OpenSpec.ofChange cutSeparatesWrong)

/- THE SECOND FORM. 'bulk': how many values and letters a reading holds, each counted each time it is reached (what is shared counts as often as it is met; a slice's spare places count too). A statement '..UptoSaid' is the law's where the arguments, and the package variables that the reading takes, are together of bulk at most 1048576: NARROWER than '..Said'. Prove '..Said' where nothing that the law and all that it calls make is longer than what came in: it says more and counts as full. Else prove '..UptoSaid'. A law counts once. -/
mutual
def uptoBulk {H : Type} : DataW H → Nat
  | .lit (.string bytes) => bytes.length + 1
  | .lit _ => 1
  | .nil => 1
  | .ptr d => uptoBulk d + 1
  | .slice elems spare => uptoBulkAll elems + uptoBulkAll spare + 1
  | .agg parts => uptoBulkAll parts + 1
  | .iface _ d => uptoBulk d + 1
  | .map entries => uptoBulkEntries entries + 1
  | .held _ => 1
def uptoBulkAll {H : Type} : List (DataW H) → Nat
  | [] => 0
  | d :: r => uptoBulk d + uptoBulkAll r
def uptoBulkEntries {H : Type} : List (Lit × DataW H) → Nat
  | [] => 0
  | x :: r => uptoBulkEntry x + uptoBulkEntries r
def uptoBulkEntry {H : Type} : Lit × DataW H → Nat
  | (.string bytes, d) => bytes.length + uptoBulk d + 1
  | (_, d) => uptoBulk d + 1
 end
def uptoSmall : (H : Type) → List (DataW H) → Bool := fun _ ds => decide (uptoBulkAll ds ≤ 1048576)
def OpenSpec.upto (s : _root_.Go.ChangeSpec) : _root_.Go.OpenSpec := { _root_.Go.OpenSpec.ofChange s with cond := some uptoSmall }

/-- 'netlablaw26.CutMatches', WHERE WHAT IT READS IS OF BULK AT MOST 1048576: true; the input reads as it did. -/
def cutMatchesUptoRow : OpenClaim := { program := "ytfialjllclclkaa", sum := "44e3c9e602b0d032d2c8e9023720cfdc54fe6087638ce82ad8f34ee7dbb4979a", func := "netlab/netlablaw26.CutMatches", spec := "cutMatches", unfollowed := true, recurses := true, apart := false, narrowed := true }
def CutMatchesUptoSaid : Prop := cutMatchesUptoRow.holds Try.pinned (OpenSpec.upto cutMatchesSpec)

/-- 'netlablaw26.CutFunctionMatches', WHERE WHAT IT READS IS OF BULK AT MOST 1048576: true; the input reads as it did. -/
def cutFunctionMatchesUptoRow : OpenClaim := { program := "ytfialjllclclkaa", sum := "44e3c9e602b0d032d2c8e9023720cfdc54fe6087638ce82ad8f34ee7dbb4979a", func := "netlab/netlablaw26.CutFunctionMatches", spec := "cutFunctionMatches", unfollowed := true, recurses := true, apart := false, narrowed := true }
def CutFunctionMatchesUptoSaid : Prop := cutFunctionMatchesUptoRow.holds Try.pinned (OpenSpec.upto cutFunctionMatchesSpec)

/-- 'netlablaw26.CutExamples', WHERE WHAT IT READS IS OF BULK AT MOST 1048576: true; the input reads as it did. -/
def cutExamplesUptoRow : OpenClaim := { program := "ytfialjllclclkaa", sum := "44e3c9e602b0d032d2c8e9023720cfdc54fe6087638ce82ad8f34ee7dbb4979a", func := "netlab/netlablaw26.CutExamples", spec := "cutExamples", unfollowed := true, recurses := true, apart := false, narrowed := true }
def CutExamplesUptoSaid : Prop := cutExamplesUptoRow.holds Try.pinned (OpenSpec.upto cutExamplesSpec)

/-- 'netlablaw26.CutIrredundant', WHERE WHAT IT READS IS OF BULK AT MOST 1048576: true; the input reads as it did. -/
def cutIrredundantUptoRow : OpenClaim := { program := "ytfialjllclclkaa", sum := "44e3c9e602b0d032d2c8e9023720cfdc54fe6087638ce82ad8f34ee7dbb4979a", func := "netlab/netlablaw26.CutIrredundant", spec := "cutIrredundant", unfollowed := true, recurses := true, apart := false, narrowed := true }
def CutIrredundantUptoSaid : Prop := cutIrredundantUptoRow.holds Try.pinned (OpenSpec.upto cutIrredundantSpec)

/-- 'netlablaw26.CutComplete', WHERE WHAT IT READS IS OF BULK AT MOST 1048576: true; the input reads as it did. -/
def cutCompleteUptoRow : OpenClaim := { program := "ytfialjllclclkaa", sum := "44e3c9e602b0d032d2c8e9023720cfdc54fe6087638ce82ad8f34ee7dbb4979a", func := "netlab/netlablaw26.CutComplete", spec := "cutComplete", unfollowed := true, recurses := true, apart := false, narrowed := true }
def CutCompleteUptoSaid : Prop := cutCompleteUptoRow.holds Try.pinned (OpenSpec.upto cutCompleteSpec)

/-- 'netlablaw26.CutFree', WHERE WHAT IT READS IS OF BULK AT MOST 1048576: true; the input reads as it did. -/
def cutFreeUptoRow : OpenClaim := { program := "ytfialjllclclkaa", sum := "44e3c9e602b0d032d2c8e9023720cfdc54fe6087638ce82ad8f34ee7dbb4979a", func := "netlab/netlablaw26.CutFree", spec := "cutFree", unfollowed := true, recurses := true, apart := false, narrowed := true }
def CutFreeUptoSaid : Prop := cutFreeUptoRow.holds Try.pinned (OpenSpec.upto cutFreeSpec)

/-- 'netlablaw26.CutLimits', WHERE WHAT IT READS IS OF BULK AT MOST 1048576: true; the input reads as it did. -/
def cutLimitsUptoRow : OpenClaim := { program := "ytfialjllclclkaa", sum := "44e3c9e602b0d032d2c8e9023720cfdc54fe6087638ce82ad8f34ee7dbb4979a", func := "netlab/netlablaw26.CutLimits", spec := "cutLimits", unfollowed := true, recurses := true, apart := false, narrowed := true }
def CutLimitsUptoSaid : Prop := cutLimitsUptoRow.holds Try.pinned (OpenSpec.upto cutLimitsSpec)

/-- 'netlablaw26.CutSeparates', WHERE WHAT IT READS IS OF BULK AT MOST 1048576: true; the input reads as it did. -/
def cutSeparatesUptoRow : OpenClaim := { program := "ytfialjllclclkaa", sum := "44e3c9e602b0d032d2c8e9023720cfdc54fe6087638ce82ad8f34ee7dbb4979a", func := "netlab/netlablaw26.CutSeparates", spec := "cutSeparates", unfollowed := true, recurses := true, apart := false, narrowed := true }
def CutSeparatesUptoSaid : Prop := cutSeparatesUptoRow.holds Try.pinned (OpenSpec.upto cutSeparatesSpec)

end Rows
end Go.Proofs.Ytfialjllclclkaa
