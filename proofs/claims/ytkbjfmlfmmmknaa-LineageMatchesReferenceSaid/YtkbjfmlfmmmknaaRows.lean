/-
  No cell of these rows narrows 'for every input' (looked for: loops, veiled, ifaces, maps, wideKeys, modest, calm, conditions, laid).
  DERIVED. THE GIVEN ROWS OF THIS SEAT. 7 by the template 'for every input the law returns true; each argument reads behind the call as it read before'; 0 by the template 'total and deterministic' (their statements: YtkbjfmlfmmmknaaTotals.lean).
  GIVEN WITH THE SEED: the statements are not yours to turn. If you find one false, say at which input.
  Laid BY PROGRAM, IN A SANDBOX (cutbox-rows.mjs): the forced cells as the released guide's own fill.sh prints them over the translation 9a3b0beafa9afa61… (all of the seat's roots in one cut). By AI agents, Wed Nov 11 2026. No macro, syntax, notation, axiom, sorry.
-/
import Derived.Test.YtkbjfmlfmmmknaaChecked
import GoSem.Claim
import GoSem.ClaimJoined
import GoSem.ClaimMapViews
import Derived.JoinedTies
import Derived.KernelRfl
namespace Go.Proofs.Ytkbjfmlfmmmknaa
/- THE CELL 'sum', in the pinned program and in every row, IS THE sha256 OF THE DUMP (.gsa) THAT YtkbjfmlfmmmknaaProg.lean LOADS. Nothing in Lean hashes anything: it is a label: what it is worth is what the hold of that sum in a sandbox is worth. -/
noncomputable def Try.pinned : Pinned := { name := "ytkbjfmlfmmmknaa", sum := "9a3b0beafa9afa6101e01de4ed1880e6fa75d3b46f208e9b21bfaafc60d9fcfe", checked := Try.checked }
namespace Rows
def none {H : Type} : Left H := { results := [], args := [] }

/-- 'planispherelaw24.LineageMatchesReference': WHATEVER THE INPUT: true; the input reads as it did. -/
def lineageMatchesReferenceSpec : ChangeSpec := { name := "lineageMatchesReference", fn := fun _ => fun
  | [d1, d2] => { results := [.lit (.bool true)], args := [d1, d2] }
  | _ => none }
def lineageMatchesReferenceRow : OpenClaim := { program := "ytkbjfmlfmmmknaa", sum := "9a3b0beafa9afa6101e01de4ed1880e6fa75d3b46f208e9b21bfaafc60d9fcfe", func := "planisphere/planispherelaw24.LineageMatchesReference", spec := "lineageMatchesReference", unfollowed := true, recurses := true, apart := false }
def LineageMatchesReferenceSaid : Prop := lineageMatchesReferenceRow.holds Try.pinned (OpenSpec.ofChange lineageMatchesReferenceSpec)

/-- ITS FALSE NEIGHBOUR: 'it returns false'. Refute it at one input. -/
def lineageMatchesReferenceWrong : ChangeSpec := { name := "lineageMatchesReference", fn := fun _ => fun
  | [d1, d2] => { results := [.lit (.bool false)], args := [d1, d2] }
  | _ => none }
def LineageMatchesReferenceWrongFalsely : Prop := lineageMatchesReferenceRow.holds Try.pinned (OpenSpec.ofChange lineageMatchesReferenceWrong)

/-- 'planispherelaw24.LineageBothWays': WHATEVER THE INPUT: true; the input reads as it did. -/
def lineageBothWaysSpec : ChangeSpec := { name := "lineageBothWays", fn := fun _ => fun
  | [d1, d2, d3] => { results := [.lit (.bool true)], args := [d1, d2, d3] }
  | _ => none }
def lineageBothWaysRow : OpenClaim := { program := "ytkbjfmlfmmmknaa", sum := "9a3b0beafa9afa6101e01de4ed1880e6fa75d3b46f208e9b21bfaafc60d9fcfe", func := "planisphere/planispherelaw24.LineageBothWays", spec := "lineageBothWays", unfollowed := true, recurses := true, apart := false }
def LineageBothWaysSaid : Prop := lineageBothWaysRow.holds Try.pinned (OpenSpec.ofChange lineageBothWaysSpec)

/-- ITS FALSE NEIGHBOUR: 'it returns false'. Refute it at one input. -/
def lineageBothWaysWrong : ChangeSpec := { name := "lineageBothWays", fn := fun _ => fun
  | [d1, d2, d3] => { results := [.lit (.bool false)], args := [d1, d2, d3] }
  | _ => none }
def LineageBothWaysWrongFalsely : Prop := lineageBothWaysRow.holds Try.pinned (OpenSpec.ofChange lineageBothWaysWrong)

/-- 'planispherelaw24.LineageGoesOn': WHATEVER THE INPUT: true; the input reads as it did. -/
def lineageGoesOnSpec : ChangeSpec := { name := "lineageGoesOn", fn := fun _ => fun
  | [d1, d2, d3] => { results := [.lit (.bool true)], args := [d1, d2, d3] }
  | _ => none }
def lineageGoesOnRow : OpenClaim := { program := "ytkbjfmlfmmmknaa", sum := "9a3b0beafa9afa6101e01de4ed1880e6fa75d3b46f208e9b21bfaafc60d9fcfe", func := "planisphere/planispherelaw24.LineageGoesOn", spec := "lineageGoesOn", unfollowed := true, recurses := true, apart := false }
def LineageGoesOnSaid : Prop := lineageGoesOnRow.holds Try.pinned (OpenSpec.ofChange lineageGoesOnSpec)

/-- ITS FALSE NEIGHBOUR: 'it returns false'. Refute it at one input. -/
def lineageGoesOnWrong : ChangeSpec := { name := "lineageGoesOn", fn := fun _ => fun
  | [d1, d2, d3] => { results := [.lit (.bool false)], args := [d1, d2, d3] }
  | _ => none }
def LineageGoesOnWrongFalsely : Prop := lineageGoesOnRow.holds Try.pinned (OpenSpec.ofChange lineageGoesOnWrong)

/-- 'planispherelaw24.LineageJoined': WHATEVER THE INPUT: true; the input reads as it did. -/
def lineageJoinedSpec : ChangeSpec := { name := "lineageJoined", fn := fun _ => fun
  | [d1, d2, d3, d4] => { results := [.lit (.bool true)], args := [d1, d2, d3, d4] }
  | _ => none }
def lineageJoinedRow : OpenClaim := { program := "ytkbjfmlfmmmknaa", sum := "9a3b0beafa9afa6101e01de4ed1880e6fa75d3b46f208e9b21bfaafc60d9fcfe", func := "planisphere/planispherelaw24.LineageJoined", spec := "lineageJoined", unfollowed := true, recurses := true, apart := false }
def LineageJoinedSaid : Prop := lineageJoinedRow.holds Try.pinned (OpenSpec.ofChange lineageJoinedSpec)

/-- ITS FALSE NEIGHBOUR: 'it returns false'. Refute it at one input. -/
def lineageJoinedWrong : ChangeSpec := { name := "lineageJoined", fn := fun _ => fun
  | [d1, d2, d3, d4] => { results := [.lit (.bool false)], args := [d1, d2, d3, d4] }
  | _ => none }
def LineageJoinedWrongFalsely : Prop := lineageJoinedRow.holds Try.pinned (OpenSpec.ofChange lineageJoinedWrong)

/-- 'planispherelaw24.LineageRemoves': WHATEVER THE INPUT: true; the input reads as it did. -/
def lineageRemovesSpec : ChangeSpec := { name := "lineageRemoves", fn := fun _ => fun
  | [d1, d2, d3] => { results := [.lit (.bool true)], args := [d1, d2, d3] }
  | _ => none }
def lineageRemovesRow : OpenClaim := { program := "ytkbjfmlfmmmknaa", sum := "9a3b0beafa9afa6101e01de4ed1880e6fa75d3b46f208e9b21bfaafc60d9fcfe", func := "planisphere/planispherelaw24.LineageRemoves", spec := "lineageRemoves", unfollowed := true, recurses := true, apart := false }
def LineageRemovesSaid : Prop := lineageRemovesRow.holds Try.pinned (OpenSpec.ofChange lineageRemovesSpec)

/-- ITS FALSE NEIGHBOUR: 'it returns false'. Refute it at one input. -/
def lineageRemovesWrong : ChangeSpec := { name := "lineageRemoves", fn := fun _ => fun
  | [d1, d2, d3] => { results := [.lit (.bool false)], args := [d1, d2, d3] }
  | _ => none }
def LineageRemovesWrongFalsely : Prop := lineageRemovesRow.holds Try.pinned (OpenSpec.ofChange lineageRemovesWrong)

/-- 'planispherelaw24.LineageCommutes': WHATEVER THE INPUT: true; the input reads as it did. -/
def lineageCommutesSpec : ChangeSpec := { name := "lineageCommutes", fn := fun _ => fun
  | [d1, d2, d3, d4] => { results := [.lit (.bool true)], args := [d1, d2, d3, d4] }
  | _ => none }
def lineageCommutesRow : OpenClaim := { program := "ytkbjfmlfmmmknaa", sum := "9a3b0beafa9afa6101e01de4ed1880e6fa75d3b46f208e9b21bfaafc60d9fcfe", func := "planisphere/planispherelaw24.LineageCommutes", spec := "lineageCommutes", unfollowed := true, recurses := true, apart := false }
def LineageCommutesSaid : Prop := lineageCommutesRow.holds Try.pinned (OpenSpec.ofChange lineageCommutesSpec)

/-- ITS FALSE NEIGHBOUR: 'it returns false'. Refute it at one input. -/
def lineageCommutesWrong : ChangeSpec := { name := "lineageCommutes", fn := fun _ => fun
  | [d1, d2, d3, d4] => { results := [.lit (.bool false)], args := [d1, d2, d3, d4] }
  | _ => none }
def LineageCommutesWrongFalsely : Prop := lineageCommutesRow.holds Try.pinned (OpenSpec.ofChange lineageCommutesWrong)

/-- 'planispherelaw24.LineageRefuses': WHATEVER THE INPUT: true; the input reads as it did. -/
def lineageRefusesSpec : ChangeSpec := { name := "lineageRefuses", fn := fun _ => fun
  | [d1, d2, d3] => { results := [.lit (.bool true)], args := [d1, d2, d3] }
  | _ => none }
def lineageRefusesRow : OpenClaim := { program := "ytkbjfmlfmmmknaa", sum := "9a3b0beafa9afa6101e01de4ed1880e6fa75d3b46f208e9b21bfaafc60d9fcfe", func := "planisphere/planispherelaw24.LineageRefuses", spec := "lineageRefuses", unfollowed := true, recurses := true, apart := false }
def LineageRefusesSaid : Prop := lineageRefusesRow.holds Try.pinned (OpenSpec.ofChange lineageRefusesSpec)

/-- ITS FALSE NEIGHBOUR: 'it returns false'. Refute it at one input. -/
def lineageRefusesWrong : ChangeSpec := { name := "lineageRefuses", fn := fun _ => fun
  | [d1, d2, d3] => { results := [.lit (.bool false)], args := [d1, d2, d3] }
  | _ => none }
def LineageRefusesWrongFalsely : Prop := lineageRefusesRow.holds Try.pinned (OpenSpec.ofChange lineageRefusesWrong)

/- THE SECOND FORM. 'bulk': how many values and letters a reading holds, each counted each time it is reached (what is shared counts as often as it is met; a slice's spare places count too). A statement '..UptoSaid' is the law's where the arguments, and the package variables that the reading takes, are together of bulk at most 1048576: NARROWER than '..Said'. Prove '..Said' where nothing that the law and all that it calls make is longer than what came in: it says more and counts as full. Else prove '..UptoSaid'. A law counts once. -/
mutual
def uptoBulk {H : Type} : DataW H → Nat
  | .lit (.string bytes) => bytes.length + 1
  | .lit _ => 1
  | .nil => 1
  | .ptr d => uptoBulk d + 1
  | .slice elems spare => uptoBulkAll elems + uptoBulkAll spare + 1
  | .agg parts => uptoBulkAll parts + 1
  | .iface _ d => uptoBulk d + 1
  | .map entries => uptoBulkEntries entries + 1
  | .held _ => 1
def uptoBulkAll {H : Type} : List (DataW H) → Nat
  | [] => 0
  | d :: r => uptoBulk d + uptoBulkAll r
def uptoBulkEntries {H : Type} : List (Lit × DataW H) → Nat
  | [] => 0
  | x :: r => uptoBulkEntry x + uptoBulkEntries r
def uptoBulkEntry {H : Type} : Lit × DataW H → Nat
  | (.string bytes, d) => bytes.length + uptoBulk d + 1
  | (_, d) => uptoBulk d + 1
 end
def uptoSmall : (H : Type) → List (DataW H) → Bool := fun _ ds => decide (uptoBulkAll ds ≤ 1048576)
def OpenSpec.upto (s : _root_.Go.ChangeSpec) : _root_.Go.OpenSpec := { _root_.Go.OpenSpec.ofChange s with cond := some uptoSmall }

/-- 'planispherelaw24.LineageMatchesReference', WHERE WHAT IT READS IS OF BULK AT MOST 1048576: true; the input reads as it did. -/
def lineageMatchesReferenceUptoRow : OpenClaim := { program := "ytkbjfmlfmmmknaa", sum := "9a3b0beafa9afa6101e01de4ed1880e6fa75d3b46f208e9b21bfaafc60d9fcfe", func := "planisphere/planispherelaw24.LineageMatchesReference", spec := "lineageMatchesReference", unfollowed := true, recurses := true, apart := false, narrowed := true }
def LineageMatchesReferenceUptoSaid : Prop := lineageMatchesReferenceUptoRow.holds Try.pinned (OpenSpec.upto lineageMatchesReferenceSpec)

/-- 'planispherelaw24.LineageBothWays', WHERE WHAT IT READS IS OF BULK AT MOST 1048576: true; the input reads as it did. -/
def lineageBothWaysUptoRow : OpenClaim := { program := "ytkbjfmlfmmmknaa", sum := "9a3b0beafa9afa6101e01de4ed1880e6fa75d3b46f208e9b21bfaafc60d9fcfe", func := "planisphere/planispherelaw24.LineageBothWays", spec := "lineageBothWays", unfollowed := true, recurses := true, apart := false, narrowed := true }
def LineageBothWaysUptoSaid : Prop := lineageBothWaysUptoRow.holds Try.pinned (OpenSpec.upto lineageBothWaysSpec)

/-- 'planispherelaw24.LineageGoesOn', WHERE WHAT IT READS IS OF BULK AT MOST 1048576: true; the input reads as it did. -/
def lineageGoesOnUptoRow : OpenClaim := { program := "ytkbjfmlfmmmknaa", sum := "9a3b0beafa9afa6101e01de4ed1880e6fa75d3b46f208e9b21bfaafc60d9fcfe", func := "planisphere/planispherelaw24.LineageGoesOn", spec := "lineageGoesOn", unfollowed := true, recurses := true, apart := false, narrowed := true }
def LineageGoesOnUptoSaid : Prop := lineageGoesOnUptoRow.holds Try.pinned (OpenSpec.upto lineageGoesOnSpec)

/-- 'planispherelaw24.LineageJoined', WHERE WHAT IT READS IS OF BULK AT MOST 1048576: true; the input reads as it did. -/
def lineageJoinedUptoRow : OpenClaim := { program := "ytkbjfmlfmmmknaa", sum := "9a3b0beafa9afa6101e01de4ed1880e6fa75d3b46f208e9b21bfaafc60d9fcfe", func := "planisphere/planispherelaw24.LineageJoined", spec := "lineageJoined", unfollowed := true, recurses := true, apart := false, narrowed := true }
def LineageJoinedUptoSaid : Prop := lineageJoinedUptoRow.holds Try.pinned (OpenSpec.upto lineageJoinedSpec)

/-- 'planispherelaw24.LineageRemoves', WHERE WHAT IT READS IS OF BULK AT MOST 1048576: true; the input reads as it did. -/
def lineageRemovesUptoRow : OpenClaim := { program := "ytkbjfmlfmmmknaa", sum := "9a3b0beafa9afa6101e01de4ed1880e6fa75d3b46f208e9b21bfaafc60d9fcfe", func := "planisphere/planispherelaw24.LineageRemoves", spec := "lineageRemoves", unfollowed := true, recurses := true, apart := false, narrowed := true }
def LineageRemovesUptoSaid : Prop := lineageRemovesUptoRow.holds Try.pinned (OpenSpec.upto lineageRemovesSpec)

/-- 'planispherelaw24.LineageCommutes', WHERE WHAT IT READS IS OF BULK AT MOST 1048576: true; the input reads as it did. -/
def lineageCommutesUptoRow : OpenClaim := { program := "ytkbjfmlfmmmknaa", sum := "9a3b0beafa9afa6101e01de4ed1880e6fa75d3b46f208e9b21bfaafc60d9fcfe", func := "planisphere/planispherelaw24.LineageCommutes", spec := "lineageCommutes", unfollowed := true, recurses := true, apart := false, narrowed := true }
def LineageCommutesUptoSaid : Prop := lineageCommutesUptoRow.holds Try.pinned (OpenSpec.upto lineageCommutesSpec)

/-- 'planispherelaw24.LineageRefuses', WHERE WHAT IT READS IS OF BULK AT MOST 1048576: true; the input reads as it did. -/
def lineageRefusesUptoRow : OpenClaim := { program := "ytkbjfmlfmmmknaa", sum := "9a3b0beafa9afa6101e01de4ed1880e6fa75d3b46f208e9b21bfaafc60d9fcfe", func := "planisphere/planispherelaw24.LineageRefuses", spec := "lineageRefuses", unfollowed := true, recurses := true, apart := false, narrowed := true }
def LineageRefusesUptoSaid : Prop := lineageRefusesUptoRow.holds Try.pinned (OpenSpec.upto lineageRefusesSpec)

end Rows
end Go.Proofs.Ytkbjfmlfmmmknaa
