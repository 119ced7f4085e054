/-
  No cell of these rows narrows 'for every input' (looked for: loops, veiled, ifaces, maps, wideKeys, modest, calm, conditions, laid).
  DERIVED. THE GIVEN ROWS OF THIS SEAT. 9 by the template 'for every input the law returns true; each argument reads behind the call as it read before'; 0 by the template 'total and deterministic' (their statements: YtnmbjabbnkbklaaGreatTotals.lean).
  GIVEN WITH THE SEED: the statements are not yours to turn. If you find one false, say at which input.
  Laid BY PROGRAM, IN A SANDBOX (cutbox-rows.mjs): the forced cells as the released guide's own fill.sh prints them over the translation 8fab82877f84fd81… (all of the seat's roots in one cut). By AI agents, Wed Nov 11 2026. No macro, syntax, notation, axiom, sorry.
-/
import Derived.Test.YtnmbjabbnkbklaaGreatChecked
import GoSem.Claim
import GoSem.ClaimJoined
import GoSem.ClaimMapViews
import Derived.JoinedTies
import Derived.KernelRfl
namespace Go.Proofs.YtnmbjabbnkbklaaGreat
/- THE CELL 'sum', in the pinned program and in every row, IS THE sha256 OF THE DUMP (.gsa) THAT YtnmbjabbnkbklaaGreatProg.lean LOADS. Nothing in Lean hashes anything: it is a label: what it is worth is what the hold of that sum in a sandbox is worth. -/
noncomputable def Tryz.pinned : Pinned := { name := "ytnmbjabbnkbklaagreat", sum := "8fab82877f84fd814f663650c04ed5b5988f9b890ba1b6963733bf45484cfe2c", checked := Tryz.checked }
namespace Rows
def none {H : Type} : Left H := { results := [], args := [] }

/-- 'netlablaw27.RewriteMatches': WHATEVER THE INPUT: true; the input reads as it did. -/
def rewriteMatchesSpec : ChangeSpec := { name := "rewriteMatches", fn := fun _ => fun
  | [d] => { results := [.lit (.bool true)], args := [d] }
  | _ => none }
def rewriteMatchesRow : OpenClaim := { program := "ytnmbjabbnkbklaagreat", sum := "8fab82877f84fd814f663650c04ed5b5988f9b890ba1b6963733bf45484cfe2c", func := "netlab/netlablaw27.RewriteMatches", spec := "rewriteMatches", unfollowed := true, recurses := true, plainKeys := false, apart := false }
def RewriteMatchesSaid : Prop := rewriteMatchesRow.holds Tryz.pinned (OpenSpec.ofChange rewriteMatchesSpec)

/-- ITS FALSE NEIGHBOUR: 'it returns false'. Refute it at one input. -/
def rewriteMatchesWrong : ChangeSpec := { name := "rewriteMatches", fn := fun _ => fun
  | [d] => { results := [.lit (.bool false)], args := [d] }
  | _ => none }
def RewriteMatchesWrongFalsely : Prop := rewriteMatchesRow.holds Tryz.pinned (OpenSpec.ofChange rewriteMatchesWrong)

/-- 'netlablaw27.RewriteReduces': WHATEVER THE INPUT: true; the input reads as it did. -/
def rewriteReducesSpec : ChangeSpec := { name := "rewriteReduces", fn := fun _ => fun
  | [d] => { results := [.lit (.bool true)], args := [d] }
  | _ => none }
def rewriteReducesRow : OpenClaim := { program := "ytnmbjabbnkbklaagreat", sum := "8fab82877f84fd814f663650c04ed5b5988f9b890ba1b6963733bf45484cfe2c", func := "netlab/netlablaw27.RewriteReduces", spec := "rewriteReduces", unfollowed := true, recurses := true, plainKeys := false, apart := false }
def RewriteReducesSaid : Prop := rewriteReducesRow.holds Tryz.pinned (OpenSpec.ofChange rewriteReducesSpec)

/-- ITS FALSE NEIGHBOUR: 'it returns false'. Refute it at one input. -/
def rewriteReducesWrong : ChangeSpec := { name := "rewriteReduces", fn := fun _ => fun
  | [d] => { results := [.lit (.bool false)], args := [d] }
  | _ => none }
def RewriteReducesWrongFalsely : Prop := rewriteReducesRow.holds Tryz.pinned (OpenSpec.ofChange rewriteReducesWrong)

/-- 'netlablaw27.RewriteConstants': WHATEVER THE INPUT: true; the input reads as it did. -/
def rewriteConstantsSpec : ChangeSpec := { name := "rewriteConstants", fn := fun _ => fun
  | [d] => { results := [.lit (.bool true)], args := [d] }
  | _ => none }
def rewriteConstantsRow : OpenClaim := { program := "ytnmbjabbnkbklaagreat", sum := "8fab82877f84fd814f663650c04ed5b5988f9b890ba1b6963733bf45484cfe2c", func := "netlab/netlablaw27.RewriteConstants", spec := "rewriteConstants", unfollowed := true, recurses := true, plainKeys := false, apart := false }
def RewriteConstantsSaid : Prop := rewriteConstantsRow.holds Tryz.pinned (OpenSpec.ofChange rewriteConstantsSpec)

/-- ITS FALSE NEIGHBOUR: 'it returns false'. Refute it at one input. -/
def rewriteConstantsWrong : ChangeSpec := { name := "rewriteConstants", fn := fun _ => fun
  | [d] => { results := [.lit (.bool false)], args := [d] }
  | _ => none }
def RewriteConstantsWrongFalsely : Prop := rewriteConstantsRow.holds Tryz.pinned (OpenSpec.ofChange rewriteConstantsWrong)

/-- 'netlablaw27.RewriteGainMatches': WHATEVER THE INPUT: true; the input reads as it did. -/
def rewriteGainMatchesSpec : ChangeSpec := { name := "rewriteGainMatches", fn := fun _ => fun
  | [d1, d2, d3] => { results := [.lit (.bool true)], args := [d1, d2, d3] }
  | _ => none }
def rewriteGainMatchesRow : OpenClaim := { program := "ytnmbjabbnkbklaagreat", sum := "8fab82877f84fd814f663650c04ed5b5988f9b890ba1b6963733bf45484cfe2c", func := "netlab/netlablaw27.RewriteGainMatches", spec := "rewriteGainMatches", unfollowed := true, recurses := true, plainKeys := false, apart := false }
def RewriteGainMatchesSaid : Prop := rewriteGainMatchesRow.holds Tryz.pinned (OpenSpec.ofChange rewriteGainMatchesSpec)

/-- ITS FALSE NEIGHBOUR: 'it returns false'. Refute it at one input. -/
def rewriteGainMatchesWrong : ChangeSpec := { name := "rewriteGainMatches", fn := fun _ => fun
  | [d1, d2, d3] => { results := [.lit (.bool false)], args := [d1, d2, d3] }
  | _ => none }
def RewriteGainMatchesWrongFalsely : Prop := rewriteGainMatchesRow.holds Tryz.pinned (OpenSpec.ofChange rewriteGainMatchesWrong)

/-- 'netlablaw27.RewriteTwice': WHATEVER THE INPUT: true; the input reads as it did. -/
def rewriteTwiceSpec : ChangeSpec := { name := "rewriteTwice", fn := fun _ => fun
  | [d] => { results := [.lit (.bool true)], args := [d] }
  | _ => none }
def rewriteTwiceRow : OpenClaim := { program := "ytnmbjabbnkbklaagreat", sum := "8fab82877f84fd814f663650c04ed5b5988f9b890ba1b6963733bf45484cfe2c", func := "netlab/netlablaw27.RewriteTwice", spec := "rewriteTwice", unfollowed := true, recurses := true, plainKeys := false, apart := false }
def RewriteTwiceSaid : Prop := rewriteTwiceRow.holds Tryz.pinned (OpenSpec.ofChange rewriteTwiceSpec)

/-- ITS FALSE NEIGHBOUR: 'it returns false'. Refute it at one input. -/
def rewriteTwiceWrong : ChangeSpec := { name := "rewriteTwice", fn := fun _ => fun
  | [d] => { results := [.lit (.bool false)], args := [d] }
  | _ => none }
def RewriteTwiceWrongFalsely : Prop := rewriteTwiceRow.holds Tryz.pinned (OpenSpec.ofChange rewriteTwiceWrong)

/-- 'netlablaw27.RewriteCostMatches': WHATEVER THE INPUT: true; the input reads as it did. -/
def rewriteCostMatchesSpec : ChangeSpec := { name := "rewriteCostMatches", fn := fun _ => fun
  | [d1, d2] => { results := [.lit (.bool true)], args := [d1, d2] }
  | _ => none }
def rewriteCostMatchesRow : OpenClaim := { program := "ytnmbjabbnkbklaagreat", sum := "8fab82877f84fd814f663650c04ed5b5988f9b890ba1b6963733bf45484cfe2c", func := "netlab/netlablaw27.RewriteCostMatches", spec := "rewriteCostMatches", unfollowed := true, recurses := true, plainKeys := false, apart := false }
def RewriteCostMatchesSaid : Prop := rewriteCostMatchesRow.holds Tryz.pinned (OpenSpec.ofChange rewriteCostMatchesSpec)

/-- ITS FALSE NEIGHBOUR: 'it returns false'. Refute it at one input. -/
def rewriteCostMatchesWrong : ChangeSpec := { name := "rewriteCostMatches", fn := fun _ => fun
  | [d1, d2] => { results := [.lit (.bool false)], args := [d1, d2] }
  | _ => none }
def RewriteCostMatchesWrongFalsely : Prop := rewriteCostMatchesRow.holds Tryz.pinned (OpenSpec.ofChange rewriteCostMatchesWrong)

/-- 'netlablaw27.RewriteExamples': WHATEVER THE INPUT: true; the input reads as it did. -/
def rewriteExamplesSpec : ChangeSpec := { name := "rewriteExamples", fn := fun _ => fun
  | [] => { results := [.lit (.bool true)], args := [] }
  | _ => none }
def rewriteExamplesRow : OpenClaim := { program := "ytnmbjabbnkbklaagreat", sum := "8fab82877f84fd814f663650c04ed5b5988f9b890ba1b6963733bf45484cfe2c", func := "netlab/netlablaw27.RewriteExamples", spec := "rewriteExamples", unfollowed := true, recurses := true, plainKeys := false, apart := false }
def RewriteExamplesSaid : Prop := rewriteExamplesRow.holds Tryz.pinned (OpenSpec.ofChange rewriteExamplesSpec)

/-- ITS FALSE NEIGHBOUR: 'it returns false'. Refute it at one input. -/
def rewriteExamplesWrong : ChangeSpec := { name := "rewriteExamples", fn := fun _ => fun
  | [] => { results := [.lit (.bool false)], args := [] }
  | _ => none }
def RewriteExamplesWrongFalsely : Prop := rewriteExamplesRow.holds Tryz.pinned (OpenSpec.ofChange rewriteExamplesWrong)

/-- 'netlablaw27.RewriteEquivalent': WHATEVER THE INPUT: true; the input reads as it did. -/
def rewriteEquivalentSpec : ChangeSpec := { name := "rewriteEquivalent", fn := fun _ => fun
  | [d1, d2, d3] => { results := [.lit (.bool true)], args := [d1, d2, d3] }
  | _ => none }
def rewriteEquivalentRow : OpenClaim := { program := "ytnmbjabbnkbklaagreat", sum := "8fab82877f84fd814f663650c04ed5b5988f9b890ba1b6963733bf45484cfe2c", func := "netlab/netlablaw27.RewriteEquivalent", spec := "rewriteEquivalent", unfollowed := true, recurses := true, plainKeys := false, apart := false }
def RewriteEquivalentSaid : Prop := rewriteEquivalentRow.holds Tryz.pinned (OpenSpec.ofChange rewriteEquivalentSpec)

/-- ITS FALSE NEIGHBOUR: 'it returns false'. Refute it at one input. -/
def rewriteEquivalentWrong : ChangeSpec := { name := "rewriteEquivalent", fn := fun _ => fun
  | [d1, d2, d3] => { results := [.lit (.bool false)], args := [d1, d2, d3] }
  | _ => none }
def RewriteEquivalentWrongFalsely : Prop := rewriteEquivalentRow.holds Tryz.pinned (OpenSpec.ofChange rewriteEquivalentWrong)

/-- 'netlablaw27.RewriteCosts': WHATEVER THE INPUT: true; the input reads as it did. -/
def rewriteCostsSpec : ChangeSpec := { name := "rewriteCosts", fn := fun _ => fun
  | [d1, d2, d3, d4] => { results := [.lit (.bool true)], args := [d1, d2, d3, d4] }
  | _ => none }
def rewriteCostsRow : OpenClaim := { program := "ytnmbjabbnkbklaagreat", sum := "8fab82877f84fd814f663650c04ed5b5988f9b890ba1b6963733bf45484cfe2c", func := "netlab/netlablaw27.RewriteCosts", spec := "rewriteCosts", unfollowed := true, recurses := true, plainKeys := false, apart := false }
def RewriteCostsSaid : Prop := rewriteCostsRow.holds Tryz.pinned (OpenSpec.ofChange rewriteCostsSpec)

/-- ITS FALSE NEIGHBOUR: 'it returns false'. Refute it at one input. -/
def rewriteCostsWrong : ChangeSpec := { name := "rewriteCosts", fn := fun _ => fun
  | [d1, d2, d3, d4] => { results := [.lit (.bool false)], args := [d1, d2, d3, d4] }
  | _ => none }
def RewriteCostsWrongFalsely : Prop := rewriteCostsRow.holds Tryz.pinned (OpenSpec.ofChange rewriteCostsWrong)

/- THE SECOND FORM. 'bulk': how many values and letters a reading holds, each counted each time it is reached (what is shared counts as often as it is met; a slice's spare places count too). A statement '..UptoSaid' is the law's where the arguments, and the package variables that the reading takes, are together of bulk at most 1048576: NARROWER than '..Said'. Prove '..Said' where nothing that the law and all that it calls make is longer than what came in: it says more and counts as full. Else prove '..UptoSaid'. A law counts once. -/
mutual
def uptoBulk {H : Type} : DataW H → Nat
  | .lit (.string bytes) => bytes.length + 1
  | .lit _ => 1
  | .nil => 1
  | .ptr d => uptoBulk d + 1
  | .slice elems spare => uptoBulkAll elems + uptoBulkAll spare + 1
  | .agg parts => uptoBulkAll parts + 1
  | .iface _ d => uptoBulk d + 1
  | .map entries => uptoBulkEntries entries + 1
  | .held _ => 1
def uptoBulkAll {H : Type} : List (DataW H) → Nat
  | [] => 0
  | d :: r => uptoBulk d + uptoBulkAll r
def uptoBulkEntries {H : Type} : List (Lit × DataW H) → Nat
  | [] => 0
  | x :: r => uptoBulkEntry x + uptoBulkEntries r
def uptoBulkEntry {H : Type} : Lit × DataW H → Nat
  | (.string bytes, d) => bytes.length + uptoBulk d + 1
  | (_, d) => uptoBulk d + 1
 end
def uptoSmall : (H : Type) → List (DataW H) → Bool := fun _ ds => decide (uptoBulkAll ds ≤ 1048576)
def OpenSpec.upto (s : _root_.Go.ChangeSpec) : _root_.Go.OpenSpec := { _root_.Go.OpenSpec.ofChange s with cond := some uptoSmall }

/-- 'netlablaw27.RewriteMatches', WHERE WHAT IT READS IS OF BULK AT MOST 1048576: true; the input reads as it did. -/
def rewriteMatchesUptoRow : OpenClaim := { program := "ytnmbjabbnkbklaagreat", sum := "8fab82877f84fd814f663650c04ed5b5988f9b890ba1b6963733bf45484cfe2c", func := "netlab/netlablaw27.RewriteMatches", spec := "rewriteMatches", unfollowed := true, recurses := true, plainKeys := false, apart := false, narrowed := true }
def RewriteMatchesUptoSaid : Prop := rewriteMatchesUptoRow.holds Tryz.pinned (OpenSpec.upto rewriteMatchesSpec)

/-- 'netlablaw27.RewriteReduces', WHERE WHAT IT READS IS OF BULK AT MOST 1048576: true; the input reads as it did. -/
def rewriteReducesUptoRow : OpenClaim := { program := "ytnmbjabbnkbklaagreat", sum := "8fab82877f84fd814f663650c04ed5b5988f9b890ba1b6963733bf45484cfe2c", func := "netlab/netlablaw27.RewriteReduces", spec := "rewriteReduces", unfollowed := true, recurses := true, plainKeys := false, apart := false, narrowed := true }
def RewriteReducesUptoSaid : Prop := rewriteReducesUptoRow.holds Tryz.pinned (OpenSpec.upto rewriteReducesSpec)

/-- 'netlablaw27.RewriteConstants', WHERE WHAT IT READS IS OF BULK AT MOST 1048576: true; the input reads as it did. -/
def rewriteConstantsUptoRow : OpenClaim := { program := "ytnmbjabbnkbklaagreat", sum := "8fab82877f84fd814f663650c04ed5b5988f9b890ba1b6963733bf45484cfe2c", func := "netlab/netlablaw27.RewriteConstants", spec := "rewriteConstants", unfollowed := true, recurses := true, plainKeys := false, apart := false, narrowed := true }
def RewriteConstantsUptoSaid : Prop := rewriteConstantsUptoRow.holds Tryz.pinned (OpenSpec.upto rewriteConstantsSpec)

/-- 'netlablaw27.RewriteGainMatches', WHERE WHAT IT READS IS OF BULK AT MOST 1048576: true; the input reads as it did. -/
def rewriteGainMatchesUptoRow : OpenClaim := { program := "ytnmbjabbnkbklaagreat", sum := "8fab82877f84fd814f663650c04ed5b5988f9b890ba1b6963733bf45484cfe2c", func := "netlab/netlablaw27.RewriteGainMatches", spec := "rewriteGainMatches", unfollowed := true, recurses := true, plainKeys := false, apart := false, narrowed := true }
def RewriteGainMatchesUptoSaid : Prop := rewriteGainMatchesUptoRow.holds Tryz.pinned (OpenSpec.upto rewriteGainMatchesSpec)

/-- 'netlablaw27.RewriteTwice', WHERE WHAT IT READS IS OF BULK AT MOST 1048576: true; the input reads as it did. -/
def rewriteTwiceUptoRow : OpenClaim := { program := "ytnmbjabbnkbklaagreat", sum := "8fab82877f84fd814f663650c04ed5b5988f9b890ba1b6963733bf45484cfe2c", func := "netlab/netlablaw27.RewriteTwice", spec := "rewriteTwice", unfollowed := true, recurses := true, plainKeys := false, apart := false, narrowed := true }
def RewriteTwiceUptoSaid : Prop := rewriteTwiceUptoRow.holds Tryz.pinned (OpenSpec.upto rewriteTwiceSpec)

/-- 'netlablaw27.RewriteCostMatches', WHERE WHAT IT READS IS OF BULK AT MOST 1048576: true; the input reads as it did. -/
def rewriteCostMatchesUptoRow : OpenClaim := { program := "ytnmbjabbnkbklaagreat", sum := "8fab82877f84fd814f663650c04ed5b5988f9b890ba1b6963733bf45484cfe2c", func := "netlab/netlablaw27.RewriteCostMatches", spec := "rewriteCostMatches", unfollowed := true, recurses := true, plainKeys := false, apart := false, narrowed := true }
def RewriteCostMatchesUptoSaid : Prop := rewriteCostMatchesUptoRow.holds Tryz.pinned (OpenSpec.upto rewriteCostMatchesSpec)

/-- 'netlablaw27.RewriteExamples', WHERE WHAT IT READS IS OF BULK AT MOST 1048576: true; the input reads as it did. -/
def rewriteExamplesUptoRow : OpenClaim := { program := "ytnmbjabbnkbklaagreat", sum := "8fab82877f84fd814f663650c04ed5b5988f9b890ba1b6963733bf45484cfe2c", func := "netlab/netlablaw27.RewriteExamples", spec := "rewriteExamples", unfollowed := true, recurses := true, plainKeys := false, apart := false, narrowed := true }
def RewriteExamplesUptoSaid : Prop := rewriteExamplesUptoRow.holds Tryz.pinned (OpenSpec.upto rewriteExamplesSpec)

/-- 'netlablaw27.RewriteEquivalent', WHERE WHAT IT READS IS OF BULK AT MOST 1048576: true; the input reads as it did. -/
def rewriteEquivalentUptoRow : OpenClaim := { program := "ytnmbjabbnkbklaagreat", sum := "8fab82877f84fd814f663650c04ed5b5988f9b890ba1b6963733bf45484cfe2c", func := "netlab/netlablaw27.RewriteEquivalent", spec := "rewriteEquivalent", unfollowed := true, recurses := true, plainKeys := false, apart := false, narrowed := true }
def RewriteEquivalentUptoSaid : Prop := rewriteEquivalentUptoRow.holds Tryz.pinned (OpenSpec.upto rewriteEquivalentSpec)

/-- 'netlablaw27.RewriteCosts', WHERE WHAT IT READS IS OF BULK AT MOST 1048576: true; the input reads as it did. -/
def rewriteCostsUptoRow : OpenClaim := { program := "ytnmbjabbnkbklaagreat", sum := "8fab82877f84fd814f663650c04ed5b5988f9b890ba1b6963733bf45484cfe2c", func := "netlab/netlablaw27.RewriteCosts", spec := "rewriteCosts", unfollowed := true, recurses := true, plainKeys := false, apart := false, narrowed := true }
def RewriteCostsUptoSaid : Prop := rewriteCostsUptoRow.holds Tryz.pinned (OpenSpec.upto rewriteCostsSpec)

end Rows
end Go.Proofs.YtnmbjabbnkbklaaGreat
