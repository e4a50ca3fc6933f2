/-
  No cell of these rows narrows 'for every input' (looked for: loops, veiled, ifaces, maps, wideKeys, modest, calm, conditions, laid).
  DERIVED. THE GIVEN ROWS OF THIS SEAT. 5 by the template 'for every input the law returns true; each argument reads behind the call as it read before'; 0 by the template 'total and deterministic' (their statements: YtpchlfmlolkeeaaTotals.lean).
  GIVEN WITH THE SEED: the statements are not yours to turn. If you find one false, say at which input.
  Laid BY PROGRAM, IN A SANDBOX (cutbox-rows.mjs): the forced cells as the released guide's own fill.sh prints them over the translation 4dc905489b2447ea… (all of the seat's roots in one cut). By AI agents, Wed Nov 11 2026. No macro, syntax, notation, axiom, sorry.
-/
import Derived.Test.YtpchlfmlolkeeaaChecked
import GoSem.Claim
import GoSem.ClaimJoined
import GoSem.ClaimMapViews
import Derived.JoinedTies
import Derived.KernelRfl
namespace Go.Proofs.Ytpchlfmlolkeeaa
/- THE CELL 'sum', in the pinned program and in every row, IS THE sha256 OF THE DUMP (.gsa) THAT YtpchlfmlolkeeaaProg.lean LOADS. Nothing in Lean hashes anything: it is a label: what it is worth is what the hold of that sum in a sandbox is worth. -/
noncomputable def Try.pinned : Pinned := { name := "ytpchlfmlolkeeaa", sum := "4dc905489b2447ea26373fb646f56f2fabe88da6a99356dc28bb90d81206b3ab", checked := Try.checked }
namespace Rows
def none {H : Type} : Left H := { results := [], args := [] }

/-- 'ganseylaw23.PermutationsLattice': WHATEVER THE INPUT: true; the input reads as it did. -/
def permutationsLatticeSpec : ChangeSpec := { name := "permutationsLattice", fn := fun _ => fun
  | [d1, d2, d3] => { results := [.lit (.bool true)], args := [d1, d2, d3] }
  | _ => none }
def permutationsLatticeRow : OpenClaim := { program := "ytpchlfmlolkeeaa", sum := "4dc905489b2447ea26373fb646f56f2fabe88da6a99356dc28bb90d81206b3ab", func := "gansey/ganseylaw23.PermutationsLattice", spec := "permutationsLattice", unfollowed := true, recurses := true, apart := false }
def PermutationsLatticeSaid : Prop := permutationsLatticeRow.holds Try.pinned (OpenSpec.ofChange permutationsLatticeSpec)

/-- ITS FALSE NEIGHBOUR: 'it returns false'. Refute it at one input. -/
def permutationsLatticeWrong : ChangeSpec := { name := "permutationsLattice", fn := fun _ => fun
  | [d1, d2, d3] => { results := [.lit (.bool false)], args := [d1, d2, d3] }
  | _ => none }
def PermutationsLatticeWrongFalsely : Prop := permutationsLatticeRow.holds Try.pinned (OpenSpec.ofChange permutationsLatticeWrong)

/-- 'ganseylaw23.PermutationsCross': WHATEVER THE INPUT: true; the input reads as it did. -/
def permutationsCrossSpec : ChangeSpec := { name := "permutationsCross", fn := fun _ => fun
  | [d] => { results := [.lit (.bool true)], args := [d] }
  | _ => none }
def permutationsCrossRow : OpenClaim := { program := "ytpchlfmlolkeeaa", sum := "4dc905489b2447ea26373fb646f56f2fabe88da6a99356dc28bb90d81206b3ab", func := "gansey/ganseylaw23.PermutationsCross", spec := "permutationsCross", unfollowed := true, recurses := true, apart := false }
def PermutationsCrossSaid : Prop := permutationsCrossRow.holds Try.pinned (OpenSpec.ofChange permutationsCrossSpec)

/-- ITS FALSE NEIGHBOUR: 'it returns false'. Refute it at one input. -/
def permutationsCrossWrong : ChangeSpec := { name := "permutationsCross", fn := fun _ => fun
  | [d] => { results := [.lit (.bool false)], args := [d] }
  | _ => none }
def PermutationsCrossWrongFalsely : Prop := permutationsCrossRow.holds Try.pinned (OpenSpec.ofChange permutationsCrossWrong)

/-- 'ganseylaw23.PermutationsBelow': WHATEVER THE INPUT: true; the input reads as it did. -/
def permutationsBelowSpec : ChangeSpec := { name := "permutationsBelow", fn := fun _ => fun
  | [d1, d2, d3] => { results := [.lit (.bool true)], args := [d1, d2, d3] }
  | _ => none }
def permutationsBelowRow : OpenClaim := { program := "ytpchlfmlolkeeaa", sum := "4dc905489b2447ea26373fb646f56f2fabe88da6a99356dc28bb90d81206b3ab", func := "gansey/ganseylaw23.PermutationsBelow", spec := "permutationsBelow", unfollowed := true, recurses := true, apart := false }
def PermutationsBelowSaid : Prop := permutationsBelowRow.holds Try.pinned (OpenSpec.ofChange permutationsBelowSpec)

/-- ITS FALSE NEIGHBOUR: 'it returns false'. Refute it at one input. -/
def permutationsBelowWrong : ChangeSpec := { name := "permutationsBelow", fn := fun _ => fun
  | [d1, d2, d3] => { results := [.lit (.bool false)], args := [d1, d2, d3] }
  | _ => none }
def PermutationsBelowWrongFalsely : Prop := permutationsBelowRow.holds Try.pinned (OpenSpec.ofChange permutationsBelowWrong)

/-- 'ganseylaw23.PermutationsTimes': WHATEVER THE INPUT: true; the input reads as it did. -/
def permutationsTimesSpec : ChangeSpec := { name := "permutationsTimes", fn := fun _ => fun
  | [d1, d2] => { results := [.lit (.bool true)], args := [d1, d2] }
  | _ => none }
def permutationsTimesRow : OpenClaim := { program := "ytpchlfmlolkeeaa", sum := "4dc905489b2447ea26373fb646f56f2fabe88da6a99356dc28bb90d81206b3ab", func := "gansey/ganseylaw23.PermutationsTimes", spec := "permutationsTimes", unfollowed := true, recurses := true, apart := false }
def PermutationsTimesSaid : Prop := permutationsTimesRow.holds Try.pinned (OpenSpec.ofChange permutationsTimesSpec)

/-- ITS FALSE NEIGHBOUR: 'it returns false'. Refute it at one input. -/
def permutationsTimesWrong : ChangeSpec := { name := "permutationsTimes", fn := fun _ => fun
  | [d1, d2] => { results := [.lit (.bool false)], args := [d1, d2] }
  | _ => none }
def PermutationsTimesWrongFalsely : Prop := permutationsTimesRow.holds Try.pinned (OpenSpec.ofChange permutationsTimesWrong)

/-- 'ganseylaw23.PermutationsWord': WHATEVER THE INPUT: true; the input reads as it did. -/
def permutationsWordSpec : ChangeSpec := { name := "permutationsWord", fn := fun _ => fun
  | [d] => { results := [.lit (.bool true)], args := [d] }
  | _ => none }
def permutationsWordRow : OpenClaim := { program := "ytpchlfmlolkeeaa", sum := "4dc905489b2447ea26373fb646f56f2fabe88da6a99356dc28bb90d81206b3ab", func := "gansey/ganseylaw23.PermutationsWord", spec := "permutationsWord", unfollowed := true, recurses := true, apart := false }
def PermutationsWordSaid : Prop := permutationsWordRow.holds Try.pinned (OpenSpec.ofChange permutationsWordSpec)

/-- ITS FALSE NEIGHBOUR: 'it returns false'. Refute it at one input. -/
def permutationsWordWrong : ChangeSpec := { name := "permutationsWord", fn := fun _ => fun
  | [d] => { results := [.lit (.bool false)], args := [d] }
  | _ => none }
def PermutationsWordWrongFalsely : Prop := permutationsWordRow.holds Try.pinned (OpenSpec.ofChange permutationsWordWrong)

/- THE SECOND FORM. 'bulk': how many values and letters a reading holds, each counted each time it is reached (what is shared counts as often as it is met; a slice's spare places count too). A statement '..UptoSaid' is the law's where the arguments, and the package variables that the reading takes, are together of bulk at most 1048576: NARROWER than '..Said'. Prove '..Said' where nothing that the law and all that it calls make is longer than what came in: it says more and counts as full. Else prove '..UptoSaid'. A law counts once. -/
mutual
def uptoBulk {H : Type} : DataW H → Nat
  | .lit (.string bytes) => bytes.length + 1
  | .lit _ => 1
  | .nil => 1
  | .ptr d => uptoBulk d + 1
  | .slice elems spare => uptoBulkAll elems + uptoBulkAll spare + 1
  | .agg parts => uptoBulkAll parts + 1
  | .iface _ d => uptoBulk d + 1
  | .map entries => uptoBulkEntries entries + 1
  | .held _ => 1
def uptoBulkAll {H : Type} : List (DataW H) → Nat
  | [] => 0
  | d :: r => uptoBulk d + uptoBulkAll r
def uptoBulkEntries {H : Type} : List (Lit × DataW H) → Nat
  | [] => 0
  | x :: r => uptoBulkEntry x + uptoBulkEntries r
def uptoBulkEntry {H : Type} : Lit × DataW H → Nat
  | (.string bytes, d) => bytes.length + uptoBulk d + 1
  | (_, d) => uptoBulk d + 1
 end
def uptoSmall : (H : Type) → List (DataW H) → Bool := fun _ ds => decide (uptoBulkAll ds ≤ 1048576)
def OpenSpec.upto (s : _root_.Go.ChangeSpec) : _root_.Go.OpenSpec := { _root_.Go.OpenSpec.ofChange s with cond := some uptoSmall }

/-- 'ganseylaw23.PermutationsLattice', WHERE WHAT IT READS IS OF BULK AT MOST 1048576: true; the input reads as it did. -/
def permutationsLatticeUptoRow : OpenClaim := { program := "ytpchlfmlolkeeaa", sum := "4dc905489b2447ea26373fb646f56f2fabe88da6a99356dc28bb90d81206b3ab", func := "gansey/ganseylaw23.PermutationsLattice", spec := "permutationsLattice", unfollowed := true, recurses := true, apart := false, narrowed := true }
def PermutationsLatticeUptoSaid : Prop := permutationsLatticeUptoRow.holds Try.pinned (OpenSpec.upto permutationsLatticeSpec)

/-- 'ganseylaw23.PermutationsCross', WHERE WHAT IT READS IS OF BULK AT MOST 1048576: true; the input reads as it did. -/
def permutationsCrossUptoRow : OpenClaim := { program := "ytpchlfmlolkeeaa", sum := "4dc905489b2447ea26373fb646f56f2fabe88da6a99356dc28bb90d81206b3ab", func := "gansey/ganseylaw23.PermutationsCross", spec := "permutationsCross", unfollowed := true, recurses := true, apart := false, narrowed := true }
def PermutationsCrossUptoSaid : Prop := permutationsCrossUptoRow.holds Try.pinned (OpenSpec.upto permutationsCrossSpec)

/-- 'ganseylaw23.PermutationsBelow', WHERE WHAT IT READS IS OF BULK AT MOST 1048576: true; the input reads as it did. -/
def permutationsBelowUptoRow : OpenClaim := { program := "ytpchlfmlolkeeaa", sum := "4dc905489b2447ea26373fb646f56f2fabe88da6a99356dc28bb90d81206b3ab", func := "gansey/ganseylaw23.PermutationsBelow", spec := "permutationsBelow", unfollowed := true, recurses := true, apart := false, narrowed := true }
def PermutationsBelowUptoSaid : Prop := permutationsBelowUptoRow.holds Try.pinned (OpenSpec.upto permutationsBelowSpec)

/-- 'ganseylaw23.PermutationsTimes', WHERE WHAT IT READS IS OF BULK AT MOST 1048576: true; the input reads as it did. -/
def permutationsTimesUptoRow : OpenClaim := { program := "ytpchlfmlolkeeaa", sum := "4dc905489b2447ea26373fb646f56f2fabe88da6a99356dc28bb90d81206b3ab", func := "gansey/ganseylaw23.PermutationsTimes", spec := "permutationsTimes", unfollowed := true, recurses := true, apart := false, narrowed := true }
def PermutationsTimesUptoSaid : Prop := permutationsTimesUptoRow.holds Try.pinned (OpenSpec.upto permutationsTimesSpec)

/-- 'ganseylaw23.PermutationsWord', WHERE WHAT IT READS IS OF BULK AT MOST 1048576: true; the input reads as it did. -/
def permutationsWordUptoRow : OpenClaim := { program := "ytpchlfmlolkeeaa", sum := "4dc905489b2447ea26373fb646f56f2fabe88da6a99356dc28bb90d81206b3ab", func := "gansey/ganseylaw23.PermutationsWord", spec := "permutationsWord", unfollowed := true, recurses := true, apart := false, narrowed := true }
def PermutationsWordUptoSaid : Prop := permutationsWordUptoRow.holds Try.pinned (OpenSpec.upto permutationsWordSpec)

end Rows
end Go.Proofs.Ytpchlfmlolkeeaa
