/-
  No cell of these rows narrows 'for every input' (looked for: loops, veiled, ifaces, maps, wideKeys, modest, calm, conditions, laid).
  DERIVED. THE GIVEN ROWS OF THIS SEAT. 11 by the template 'for every input the law returns true; each argument reads behind the call as it read before'; 0 by the template 'total and deterministic' (their statements: YtbpjoamdcbbnnaaTotals.lean).
  GIVEN WITH THE SEED: the statements are not yours to turn. If you find one false, say at which input.
  Laid BY PROGRAM, IN A SANDBOX (cutbox-rows.mjs): the forced cells as the released guide's own fill.sh prints them over the translation c4d64a29d2eb2eb1… (all of the seat's roots in one cut). By AI agents, Wed Nov 11 2026. No macro, syntax, notation, axiom, sorry.
-/
import Derived.Test.YtbpjoamdcbbnnaaChecked
import GoSem.Claim
import GoSem.ClaimJoined
import GoSem.ClaimMapViews
import Derived.JoinedTies
import Derived.KernelRfl
namespace Go.Proofs.Ytbpjoamdcbbnnaa
/- THE CELL 'sum', in the pinned program and in every row, IS THE sha256 OF THE DUMP (.gsa) THAT YtbpjoamdcbbnnaaProg.lean LOADS. Nothing in Lean hashes anything: it is a label: what it is worth is what the hold of that sum in a sandbox is worth. -/
noncomputable def Try.pinned : Pinned := { name := "ytbpjoamdcbbnnaa", sum := "c4d64a29d2eb2eb10f7d28219767fc906980716de8bb1fe418760e422227d956", checked := Try.checked }
namespace Rows
def none {H : Type} : Left H := { results := [], args := [] }

/-- 'netlablaw21.TableCanonMatches': WHATEVER THE INPUT: true; the input reads as it did. -/
def tableCanonMatchesSpec : ChangeSpec := { name := "tableCanonMatches", fn := fun _ => fun
  | [d1, d2] => { results := [.lit (.bool true)], args := [d1, d2] }
  | _ => none }
def tableCanonMatchesRow : OpenClaim := { program := "ytbpjoamdcbbnnaa", sum := "c4d64a29d2eb2eb10f7d28219767fc906980716de8bb1fe418760e422227d956", func := "netlab/netlablaw21.TableCanonMatches", spec := "tableCanonMatches", unfollowed := true, recurses := true, apart := false }
def TableCanonMatchesSaid : Prop := tableCanonMatchesRow.holds Try.pinned (OpenSpec.ofChange tableCanonMatchesSpec)

/-- ITS FALSE NEIGHBOUR: 'it returns false'. Refute it at one input. -/
def tableCanonMatchesWrong : ChangeSpec := { name := "tableCanonMatches", fn := fun _ => fun
  | [d1, d2] => { results := [.lit (.bool false)], args := [d1, d2] }
  | _ => none }
def TableCanonMatchesWrongFalsely : Prop := tableCanonMatchesRow.holds Try.pinned (OpenSpec.ofChange tableCanonMatchesWrong)

/-- 'netlablaw21.TableCoverMatches': WHATEVER THE INPUT: true; the input reads as it did. -/
def tableCoverMatchesSpec : ChangeSpec := { name := "tableCoverMatches", fn := fun _ => fun
  | [d1, d2, d3, d4] => { results := [.lit (.bool true)], args := [d1, d2, d3, d4] }
  | _ => none }
def tableCoverMatchesRow : OpenClaim := { program := "ytbpjoamdcbbnnaa", sum := "c4d64a29d2eb2eb10f7d28219767fc906980716de8bb1fe418760e422227d956", func := "netlab/netlablaw21.TableCoverMatches", spec := "tableCoverMatches", unfollowed := true, recurses := true, apart := false }
def TableCoverMatchesSaid : Prop := tableCoverMatchesRow.holds Try.pinned (OpenSpec.ofChange tableCoverMatchesSpec)

/-- ITS FALSE NEIGHBOUR: 'it returns false'. Refute it at one input. -/
def tableCoverMatchesWrong : ChangeSpec := { name := "tableCoverMatches", fn := fun _ => fun
  | [d1, d2, d3, d4] => { results := [.lit (.bool false)], args := [d1, d2, d3, d4] }
  | _ => none }
def TableCoverMatchesWrongFalsely : Prop := tableCoverMatchesRow.holds Try.pinned (OpenSpec.ofChange tableCoverMatchesWrong)

/-- 'netlablaw21.TableClasses': WHATEVER THE INPUT: true; the input reads as it did. -/
def tableClassesSpec : ChangeSpec := { name := "tableClasses", fn := fun _ => fun
  | [d1, d2, d3] => { results := [.lit (.bool true)], args := [d1, d2, d3] }
  | _ => none }
def tableClassesRow : OpenClaim := { program := "ytbpjoamdcbbnnaa", sum := "c4d64a29d2eb2eb10f7d28219767fc906980716de8bb1fe418760e422227d956", func := "netlab/netlablaw21.TableClasses", spec := "tableClasses", unfollowed := true, recurses := true, apart := false }
def TableClassesSaid : Prop := tableClassesRow.holds Try.pinned (OpenSpec.ofChange tableClassesSpec)

/-- ITS FALSE NEIGHBOUR: 'it returns false'. Refute it at one input. -/
def tableClassesWrong : ChangeSpec := { name := "tableClasses", fn := fun _ => fun
  | [d1, d2, d3] => { results := [.lit (.bool false)], args := [d1, d2, d3] }
  | _ => none }
def TableClassesWrongFalsely : Prop := tableClassesRow.holds Try.pinned (OpenSpec.ofChange tableClassesWrong)

/-- 'netlablaw21.TableComposes': WHATEVER THE INPUT: true; the input reads as it did. -/
def tableComposesSpec : ChangeSpec := { name := "tableComposes", fn := fun _ => fun
  | [d1, d2, d3, d4, d5] => { results := [.lit (.bool true)], args := [d1, d2, d3, d4, d5] }
  | _ => none }
def tableComposesRow : OpenClaim := { program := "ytbpjoamdcbbnnaa", sum := "c4d64a29d2eb2eb10f7d28219767fc906980716de8bb1fe418760e422227d956", func := "netlab/netlablaw21.TableComposes", spec := "tableComposes", unfollowed := true, recurses := true, apart := false }
def TableComposesSaid : Prop := tableComposesRow.holds Try.pinned (OpenSpec.ofChange tableComposesSpec)

/-- ITS FALSE NEIGHBOUR: 'it returns false'. Refute it at one input. -/
def tableComposesWrong : ChangeSpec := { name := "tableComposes", fn := fun _ => fun
  | [d1, d2, d3, d4, d5] => { results := [.lit (.bool false)], args := [d1, d2, d3, d4, d5] }
  | _ => none }
def TableComposesWrongFalsely : Prop := tableComposesRow.holds Try.pinned (OpenSpec.ofChange tableComposesWrong)

/-- 'netlablaw21.TableCovers': WHATEVER THE INPUT: true; the input reads as it did. -/
def tableCoversSpec : ChangeSpec := { name := "tableCovers", fn := fun _ => fun
  | [d1, d2] => { results := [.lit (.bool true)], args := [d1, d2] }
  | _ => none }
def tableCoversRow : OpenClaim := { program := "ytbpjoamdcbbnnaa", sum := "c4d64a29d2eb2eb10f7d28219767fc906980716de8bb1fe418760e422227d956", func := "netlab/netlablaw21.TableCovers", spec := "tableCovers", unfollowed := true, recurses := true, apart := false }
def TableCoversSaid : Prop := tableCoversRow.holds Try.pinned (OpenSpec.ofChange tableCoversSpec)

/-- ITS FALSE NEIGHBOUR: 'it returns false'. Refute it at one input. -/
def tableCoversWrong : ChangeSpec := { name := "tableCovers", fn := fun _ => fun
  | [d1, d2] => { results := [.lit (.bool false)], args := [d1, d2] }
  | _ => none }
def TableCoversWrongFalsely : Prop := tableCoversRow.holds Try.pinned (OpenSpec.ofChange tableCoversWrong)

/-- 'netlablaw21.TableInterval': WHATEVER THE INPUT: true; the input reads as it did. -/
def tableIntervalSpec : ChangeSpec := { name := "tableInterval", fn := fun _ => fun
  | [d1, d2, d3] => { results := [.lit (.bool true)], args := [d1, d2, d3] }
  | _ => none }
def tableIntervalRow : OpenClaim := { program := "ytbpjoamdcbbnnaa", sum := "c4d64a29d2eb2eb10f7d28219767fc906980716de8bb1fe418760e422227d956", func := "netlab/netlablaw21.TableInterval", spec := "tableInterval", unfollowed := true, recurses := true, apart := false }
def TableIntervalSaid : Prop := tableIntervalRow.holds Try.pinned (OpenSpec.ofChange tableIntervalSpec)

/-- ITS FALSE NEIGHBOUR: 'it returns false'. Refute it at one input. -/
def tableIntervalWrong : ChangeSpec := { name := "tableInterval", fn := fun _ => fun
  | [d1, d2, d3] => { results := [.lit (.bool false)], args := [d1, d2, d3] }
  | _ => none }
def TableIntervalWrongFalsely : Prop := tableIntervalRow.holds Try.pinned (OpenSpec.ofChange tableIntervalWrong)

/-- 'netlablaw21.TableSubstitutionMatches': WHATEVER THE INPUT: true; the input reads as it did. -/
def tableSubstitutionMatchesSpec : ChangeSpec := { name := "tableSubstitutionMatches", fn := fun _ => fun
  | [d1, d2, d3, d4, d5] => { results := [.lit (.bool true)], args := [d1, d2, d3, d4, d5] }
  | _ => none }
def tableSubstitutionMatchesRow : OpenClaim := { program := "ytbpjoamdcbbnnaa", sum := "c4d64a29d2eb2eb10f7d28219767fc906980716de8bb1fe418760e422227d956", func := "netlab/netlablaw21.TableSubstitutionMatches", spec := "tableSubstitutionMatches", unfollowed := true, recurses := true, apart := false }
def TableSubstitutionMatchesSaid : Prop := tableSubstitutionMatchesRow.holds Try.pinned (OpenSpec.ofChange tableSubstitutionMatchesSpec)

/-- ITS FALSE NEIGHBOUR: 'it returns false'. Refute it at one input. -/
def tableSubstitutionMatchesWrong : ChangeSpec := { name := "tableSubstitutionMatches", fn := fun _ => fun
  | [d1, d2, d3, d4, d5] => { results := [.lit (.bool false)], args := [d1, d2, d3, d4, d5] }
  | _ => none }
def TableSubstitutionMatchesWrongFalsely : Prop := tableSubstitutionMatchesRow.holds Try.pinned (OpenSpec.ofChange tableSubstitutionMatchesWrong)

/-- 'netlablaw21.TableMatches': WHATEVER THE INPUT: true; the input reads as it did. -/
def tableMatchesSpec : ChangeSpec := { name := "tableMatches", fn := fun _ => fun
  | [d1, d2, d3, d4, d5] => { results := [.lit (.bool true)], args := [d1, d2, d3, d4, d5] }
  | _ => none }
def tableMatchesRow : OpenClaim := { program := "ytbpjoamdcbbnnaa", sum := "c4d64a29d2eb2eb10f7d28219767fc906980716de8bb1fe418760e422227d956", func := "netlab/netlablaw21.TableMatches", spec := "tableMatches", unfollowed := true, recurses := true, apart := false }
def TableMatchesSaid : Prop := tableMatchesRow.holds Try.pinned (OpenSpec.ofChange tableMatchesSpec)

/-- ITS FALSE NEIGHBOUR: 'it returns false'. Refute it at one input. -/
def tableMatchesWrong : ChangeSpec := { name := "tableMatches", fn := fun _ => fun
  | [d1, d2, d3, d4, d5] => { results := [.lit (.bool false)], args := [d1, d2, d3, d4, d5] }
  | _ => none }
def TableMatchesWrongFalsely : Prop := tableMatchesRow.holds Try.pinned (OpenSpec.ofChange tableMatchesWrong)

/-- 'netlablaw21.TableExpansion': WHATEVER THE INPUT: true; the input reads as it did. -/
def tableExpansionSpec : ChangeSpec := { name := "tableExpansion", fn := fun _ => fun
  | [d1, d2, d3] => { results := [.lit (.bool true)], args := [d1, d2, d3] }
  | _ => none }
def tableExpansionRow : OpenClaim := { program := "ytbpjoamdcbbnnaa", sum := "c4d64a29d2eb2eb10f7d28219767fc906980716de8bb1fe418760e422227d956", func := "netlab/netlablaw21.TableExpansion", spec := "tableExpansion", unfollowed := true, recurses := true, apart := false }
def TableExpansionSaid : Prop := tableExpansionRow.holds Try.pinned (OpenSpec.ofChange tableExpansionSpec)

/-- ITS FALSE NEIGHBOUR: 'it returns false'. Refute it at one input. -/
def tableExpansionWrong : ChangeSpec := { name := "tableExpansion", fn := fun _ => fun
  | [d1, d2, d3] => { results := [.lit (.bool false)], args := [d1, d2, d3] }
  | _ => none }
def TableExpansionWrongFalsely : Prop := tableExpansionRow.holds Try.pinned (OpenSpec.ofChange tableExpansionWrong)

/-- 'netlablaw21.TableTransforms': WHATEVER THE INPUT: true; the input reads as it did. -/
def tableTransformsSpec : ChangeSpec := { name := "tableTransforms", fn := fun _ => fun
  | [d1, d2, d3, d4] => { results := [.lit (.bool true)], args := [d1, d2, d3, d4] }
  | _ => none }
def tableTransformsRow : OpenClaim := { program := "ytbpjoamdcbbnnaa", sum := "c4d64a29d2eb2eb10f7d28219767fc906980716de8bb1fe418760e422227d956", func := "netlab/netlablaw21.TableTransforms", spec := "tableTransforms", unfollowed := true, recurses := true, apart := false }
def TableTransformsSaid : Prop := tableTransformsRow.holds Try.pinned (OpenSpec.ofChange tableTransformsSpec)

/-- ITS FALSE NEIGHBOUR: 'it returns false'. Refute it at one input. -/
def tableTransformsWrong : ChangeSpec := { name := "tableTransforms", fn := fun _ => fun
  | [d1, d2, d3, d4] => { results := [.lit (.bool false)], args := [d1, d2, d3, d4] }
  | _ => none }
def TableTransformsWrongFalsely : Prop := tableTransformsRow.holds Try.pinned (OpenSpec.ofChange tableTransformsWrong)

/-- 'netlablaw21.TableExamples': WHATEVER THE INPUT: true; the input reads as it did. -/
def tableExamplesSpec : ChangeSpec := { name := "tableExamples", fn := fun _ => fun
  | [] => { results := [.lit (.bool true)], args := [] }
  | _ => none }
def tableExamplesRow : OpenClaim := { program := "ytbpjoamdcbbnnaa", sum := "c4d64a29d2eb2eb10f7d28219767fc906980716de8bb1fe418760e422227d956", func := "netlab/netlablaw21.TableExamples", spec := "tableExamples", unfollowed := true, recurses := true, apart := false }
def TableExamplesSaid : Prop := tableExamplesRow.holds Try.pinned (OpenSpec.ofChange tableExamplesSpec)

/-- ITS FALSE NEIGHBOUR: 'it returns false'. Refute it at one input. -/
def tableExamplesWrong : ChangeSpec := { name := "tableExamples", fn := fun _ => fun
  | [] => { results := [.lit (.bool false)], args := [] }
  | _ => none }
def TableExamplesWrongFalsely : Prop := tableExamplesRow.holds Try.pinned (OpenSpec.ofChange tableExamplesWrong)

/- THE SECOND FORM. 'bulk': how many values and letters a reading holds, each counted each time it is reached (what is shared counts as often as it is met; a slice's spare places count too). A statement '..UptoSaid' is the law's where the arguments, and the package variables that the reading takes, are together of bulk at most 1048576: NARROWER than '..Said'. Prove '..Said' where nothing that the law and all that it calls make is longer than what came in: it says more and counts as full. Else prove '..UptoSaid'. A law counts once. -/
mutual
def uptoBulk {H : Type} : DataW H → Nat
  | .lit (.string bytes) => bytes.length + 1
  | .lit _ => 1
  | .nil => 1
  | .ptr d => uptoBulk d + 1
  | .slice elems spare => uptoBulkAll elems + uptoBulkAll spare + 1
  | .agg parts => uptoBulkAll parts + 1
  | .iface _ d => uptoBulk d + 1
  | .map entries => uptoBulkEntries entries + 1
  | .held _ => 1
def uptoBulkAll {H : Type} : List (DataW H) → Nat
  | [] => 0
  | d :: r => uptoBulk d + uptoBulkAll r
def uptoBulkEntries {H : Type} : List (Lit × DataW H) → Nat
  | [] => 0
  | x :: r => uptoBulkEntry x + uptoBulkEntries r
def uptoBulkEntry {H : Type} : Lit × DataW H → Nat
  | (.string bytes, d) => bytes.length + uptoBulk d + 1
  | (_, d) => uptoBulk d + 1
 end
def uptoSmall : (H : Type) → List (DataW H) → Bool := fun _ ds => decide (uptoBulkAll ds ≤ 1048576)
def OpenSpec.upto (s : _root_.Go.ChangeSpec) : _root_.Go.OpenSpec := { _root_.Go.OpenSpec.ofChange s with cond := some uptoSmall }

/-- 'netlablaw21.TableCanonMatches', WHERE WHAT IT READS IS OF BULK AT MOST 1048576: true; the input reads as it did. -/
def tableCanonMatchesUptoRow : OpenClaim := { program := "ytbpjoamdcbbnnaa", sum := "c4d64a29d2eb2eb10f7d28219767fc906980716de8bb1fe418760e422227d956", func := "netlab/netlablaw21.TableCanonMatches", spec := "tableCanonMatches", unfollowed := true, recurses := true, apart := false, narrowed := true }
def TableCanonMatchesUptoSaid : Prop := tableCanonMatchesUptoRow.holds Try.pinned (OpenSpec.upto tableCanonMatchesSpec)

/-- 'netlablaw21.TableCoverMatches', WHERE WHAT IT READS IS OF BULK AT MOST 1048576: true; the input reads as it did. -/
def tableCoverMatchesUptoRow : OpenClaim := { program := "ytbpjoamdcbbnnaa", sum := "c4d64a29d2eb2eb10f7d28219767fc906980716de8bb1fe418760e422227d956", func := "netlab/netlablaw21.TableCoverMatches", spec := "tableCoverMatches", unfollowed := true, recurses := true, apart := false, narrowed := true }
def TableCoverMatchesUptoSaid : Prop := tableCoverMatchesUptoRow.holds Try.pinned (OpenSpec.upto tableCoverMatchesSpec)

/-- 'netlablaw21.TableClasses', WHERE WHAT IT READS IS OF BULK AT MOST 1048576: true; the input reads as it did. -/
def tableClassesUptoRow : OpenClaim := { program := "ytbpjoamdcbbnnaa", sum := "c4d64a29d2eb2eb10f7d28219767fc906980716de8bb1fe418760e422227d956", func := "netlab/netlablaw21.TableClasses", spec := "tableClasses", unfollowed := true, recurses := true, apart := false, narrowed := true }
def TableClassesUptoSaid : Prop := tableClassesUptoRow.holds Try.pinned (OpenSpec.upto tableClassesSpec)

/-- 'netlablaw21.TableComposes', WHERE WHAT IT READS IS OF BULK AT MOST 1048576: true; the input reads as it did. -/
def tableComposesUptoRow : OpenClaim := { program := "ytbpjoamdcbbnnaa", sum := "c4d64a29d2eb2eb10f7d28219767fc906980716de8bb1fe418760e422227d956", func := "netlab/netlablaw21.TableComposes", spec := "tableComposes", unfollowed := true, recurses := true, apart := false, narrowed := true }
def TableComposesUptoSaid : Prop := tableComposesUptoRow.holds Try.pinned (OpenSpec.upto tableComposesSpec)

/-- 'netlablaw21.TableCovers', WHERE WHAT IT READS IS OF BULK AT MOST 1048576: true; the input reads as it did. -/
def tableCoversUptoRow : OpenClaim := { program := "ytbpjoamdcbbnnaa", sum := "c4d64a29d2eb2eb10f7d28219767fc906980716de8bb1fe418760e422227d956", func := "netlab/netlablaw21.TableCovers", spec := "tableCovers", unfollowed := true, recurses := true, apart := false, narrowed := true }
def TableCoversUptoSaid : Prop := tableCoversUptoRow.holds Try.pinned (OpenSpec.upto tableCoversSpec)

/-- 'netlablaw21.TableInterval', WHERE WHAT IT READS IS OF BULK AT MOST 1048576: true; the input reads as it did. -/
def tableIntervalUptoRow : OpenClaim := { program := "ytbpjoamdcbbnnaa", sum := "c4d64a29d2eb2eb10f7d28219767fc906980716de8bb1fe418760e422227d956", func := "netlab/netlablaw21.TableInterval", spec := "tableInterval", unfollowed := true, recurses := true, apart := false, narrowed := true }
def TableIntervalUptoSaid : Prop := tableIntervalUptoRow.holds Try.pinned (OpenSpec.upto tableIntervalSpec)

/-- 'netlablaw21.TableSubstitutionMatches', WHERE WHAT IT READS IS OF BULK AT MOST 1048576: true; the input reads as it did. -/
def tableSubstitutionMatchesUptoRow : OpenClaim := { program := "ytbpjoamdcbbnnaa", sum := "c4d64a29d2eb2eb10f7d28219767fc906980716de8bb1fe418760e422227d956", func := "netlab/netlablaw21.TableSubstitutionMatches", spec := "tableSubstitutionMatches", unfollowed := true, recurses := true, apart := false, narrowed := true }
def TableSubstitutionMatchesUptoSaid : Prop := tableSubstitutionMatchesUptoRow.holds Try.pinned (OpenSpec.upto tableSubstitutionMatchesSpec)

/-- 'netlablaw21.TableMatches', WHERE WHAT IT READS IS OF BULK AT MOST 1048576: true; the input reads as it did. -/
def tableMatchesUptoRow : OpenClaim := { program := "ytbpjoamdcbbnnaa", sum := "c4d64a29d2eb2eb10f7d28219767fc906980716de8bb1fe418760e422227d956", func := "netlab/netlablaw21.TableMatches", spec := "tableMatches", unfollowed := true, recurses := true, apart := false, narrowed := true }
def TableMatchesUptoSaid : Prop := tableMatchesUptoRow.holds Try.pinned (OpenSpec.upto tableMatchesSpec)

/-- 'netlablaw21.TableExpansion', WHERE WHAT IT READS IS OF BULK AT MOST 1048576: true; the input reads as it did. -/
def tableExpansionUptoRow : OpenClaim := { program := "ytbpjoamdcbbnnaa", sum := "c4d64a29d2eb2eb10f7d28219767fc906980716de8bb1fe418760e422227d956", func := "netlab/netlablaw21.TableExpansion", spec := "tableExpansion", unfollowed := true, recurses := true, apart := false, narrowed := true }
def TableExpansionUptoSaid : Prop := tableExpansionUptoRow.holds Try.pinned (OpenSpec.upto tableExpansionSpec)

/-- 'netlablaw21.TableTransforms', WHERE WHAT IT READS IS OF BULK AT MOST 1048576: true; the input reads as it did. -/
def tableTransformsUptoRow : OpenClaim := { program := "ytbpjoamdcbbnnaa", sum := "c4d64a29d2eb2eb10f7d28219767fc906980716de8bb1fe418760e422227d956", func := "netlab/netlablaw21.TableTransforms", spec := "tableTransforms", unfollowed := true, recurses := true, apart := false, narrowed := true }
def TableTransformsUptoSaid : Prop := tableTransformsUptoRow.holds Try.pinned (OpenSpec.upto tableTransformsSpec)

/-- 'netlablaw21.TableExamples', WHERE WHAT IT READS IS OF BULK AT MOST 1048576: true; the input reads as it did. -/
def tableExamplesUptoRow : OpenClaim := { program := "ytbpjoamdcbbnnaa", sum := "c4d64a29d2eb2eb10f7d28219767fc906980716de8bb1fe418760e422227d956", func := "netlab/netlablaw21.TableExamples", spec := "tableExamples", unfollowed := true, recurses := true, apart := false, narrowed := true }
def TableExamplesUptoSaid : Prop := tableExamplesUptoRow.holds Try.pinned (OpenSpec.upto tableExamplesSpec)

end Rows
end Go.Proofs.Ytbpjoamdcbbnnaa
