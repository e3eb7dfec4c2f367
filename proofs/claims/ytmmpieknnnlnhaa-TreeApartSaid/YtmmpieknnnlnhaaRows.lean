/-
  No cell of these rows narrows 'for every input' (looked for: loops, veiled, ifaces, maps, wideKeys, modest, calm, conditions, laid).
  DERIVED. THE GIVEN ROWS OF THIS SEAT. 11 by the template 'for every input the law returns true; each argument reads behind the call as it read before'; 0 by the template 'total and deterministic' (their statements: YtmmpieknnnlnhaaTotals.lean).
  GIVEN WITH THE SEED: the statements are not yours to turn. If you find one false, say at which input.
  Laid BY PROGRAM, IN A SANDBOX (cutbox-rows.mjs): the forced cells as the released guide's own fill.sh prints them over the translation 70f6249bf5586742… (all of the seat's roots in one cut). By AI agents, Wed Nov 11 2026. No macro, syntax, notation, axiom, sorry.
-/
import Derived.Test.YtmmpieknnnlnhaaChecked
import GoSem.Claim
import GoSem.ClaimJoined
import GoSem.ClaimMapViews
import Derived.JoinedTies
import Derived.KernelRfl
namespace Go.Proofs.Ytmmpieknnnlnhaa
/- THE CELL 'sum', in the pinned program and in every row, IS THE sha256 OF THE DUMP (.gsa) THAT YtmmpieknnnlnhaaProg.lean LOADS. Nothing in Lean hashes anything: it is a label: what it is worth is what the hold of that sum in a sandbox is worth. -/
noncomputable def Try.pinned : Pinned := { name := "ytmmpieknnnlnhaa", sum := "70f6249bf5586742e115262b65b2e8f8c09848512077a809738926cd4ca801c8", checked := Try.checked }
namespace Rows
def none {H : Type} : Left H := { results := [], args := [] }

/-- 'catenarylaw12.GraphEnds': WHATEVER THE INPUT: true; the input reads as it did. -/
def graphEndsSpec : ChangeSpec := { name := "graphEnds", fn := fun _ => fun
  | [d1, d2] => { results := [.lit (.bool true)], args := [d1, d2] }
  | _ => none }
def graphEndsRow : OpenClaim := { program := "ytmmpieknnnlnhaa", sum := "70f6249bf5586742e115262b65b2e8f8c09848512077a809738926cd4ca801c8", func := "catenary/catenarylaw12.GraphEnds", spec := "graphEnds", unfollowed := true, recurses := true, plainKeys := false, apart := false }
def GraphEndsSaid : Prop := graphEndsRow.holds Try.pinned (OpenSpec.ofChange graphEndsSpec)

/-- ITS FALSE NEIGHBOUR: 'it returns false'. Refute it at one input. -/
def graphEndsWrong : ChangeSpec := { name := "graphEnds", fn := fun _ => fun
  | [d1, d2] => { results := [.lit (.bool false)], args := [d1, d2] }
  | _ => none }
def GraphEndsWrongFalsely : Prop := graphEndsRow.holds Try.pinned (OpenSpec.ofChange graphEndsWrong)

/-- 'catenarylaw12.GraphPeers': WHATEVER THE INPUT: true; the input reads as it did. -/
def graphPeersSpec : ChangeSpec := { name := "graphPeers", fn := fun _ => fun
  | [d1, d2] => { results := [.lit (.bool true)], args := [d1, d2] }
  | _ => none }
def graphPeersRow : OpenClaim := { program := "ytmmpieknnnlnhaa", sum := "70f6249bf5586742e115262b65b2e8f8c09848512077a809738926cd4ca801c8", func := "catenary/catenarylaw12.GraphPeers", spec := "graphPeers", unfollowed := true, recurses := true, plainKeys := false, apart := false }
def GraphPeersSaid : Prop := graphPeersRow.holds Try.pinned (OpenSpec.ofChange graphPeersSpec)

/-- ITS FALSE NEIGHBOUR: 'it returns false'. Refute it at one input. -/
def graphPeersWrong : ChangeSpec := { name := "graphPeers", fn := fun _ => fun
  | [d1, d2] => { results := [.lit (.bool false)], args := [d1, d2] }
  | _ => none }
def GraphPeersWrongFalsely : Prop := graphPeersRow.holds Try.pinned (OpenSpec.ofChange graphPeersWrong)

/-- 'catenarylaw12.GraphGrows': WHATEVER THE INPUT: true; the input reads as it did. -/
def graphGrowsSpec : ChangeSpec := { name := "graphGrows", fn := fun _ => fun
  | [d1, d2, d3] => { results := [.lit (.bool true)], args := [d1, d2, d3] }
  | _ => none }
def graphGrowsRow : OpenClaim := { program := "ytmmpieknnnlnhaa", sum := "70f6249bf5586742e115262b65b2e8f8c09848512077a809738926cd4ca801c8", func := "catenary/catenarylaw12.GraphGrows", spec := "graphGrows", unfollowed := true, recurses := true, plainKeys := false, apart := false }
def GraphGrowsSaid : Prop := graphGrowsRow.holds Try.pinned (OpenSpec.ofChange graphGrowsSpec)

/-- ITS FALSE NEIGHBOUR: 'it returns false'. Refute it at one input. -/
def graphGrowsWrong : ChangeSpec := { name := "graphGrows", fn := fun _ => fun
  | [d1, d2, d3] => { results := [.lit (.bool false)], args := [d1, d2, d3] }
  | _ => none }
def GraphGrowsWrongFalsely : Prop := graphGrowsRow.holds Try.pinned (OpenSpec.ofChange graphGrowsWrong)

/-- 'catenarylaw12.GraphNames': WHATEVER THE INPUT: true; the input reads as it did. -/
def graphNamesSpec : ChangeSpec := { name := "graphNames", fn := fun _ => fun
  | [] => { results := [.lit (.bool true)], args := [] }
  | _ => none }
def graphNamesRow : OpenClaim := { program := "ytmmpieknnnlnhaa", sum := "70f6249bf5586742e115262b65b2e8f8c09848512077a809738926cd4ca801c8", func := "catenary/catenarylaw12.GraphNames", spec := "graphNames", unfollowed := true, recurses := true, plainKeys := false, apart := false }
def GraphNamesSaid : Prop := graphNamesRow.holds Try.pinned (OpenSpec.ofChange graphNamesSpec)

/-- ITS FALSE NEIGHBOUR: 'it returns false'. Refute it at one input. -/
def graphNamesWrong : ChangeSpec := { name := "graphNames", fn := fun _ => fun
  | [] => { results := [.lit (.bool false)], args := [] }
  | _ => none }
def GraphNamesWrongFalsely : Prop := graphNamesRow.holds Try.pinned (OpenSpec.ofChange graphNamesWrong)

/-- 'catenarylaw28.JudgeAhead': WHATEVER THE INPUT: true; the input reads as it did. -/
def judgeAheadSpec : ChangeSpec := { name := "judgeAhead", fn := fun _ => fun
  | [d1, d2, d3] => { results := [.lit (.bool true)], args := [d1, d2, d3] }
  | _ => none }
def judgeAheadRow : OpenClaim := { program := "ytmmpieknnnlnhaa", sum := "70f6249bf5586742e115262b65b2e8f8c09848512077a809738926cd4ca801c8", func := "catenary/catenarylaw28.JudgeAhead", spec := "judgeAhead", unfollowed := true, recurses := true, plainKeys := false, apart := false }
def JudgeAheadSaid : Prop := judgeAheadRow.holds Try.pinned (OpenSpec.ofChange judgeAheadSpec)

/-- ITS FALSE NEIGHBOUR: 'it returns false'. Refute it at one input. -/
def judgeAheadWrong : ChangeSpec := { name := "judgeAhead", fn := fun _ => fun
  | [d1, d2, d3] => { results := [.lit (.bool false)], args := [d1, d2, d3] }
  | _ => none }
def JudgeAheadWrongFalsely : Prop := judgeAheadRow.holds Try.pinned (OpenSpec.ofChange judgeAheadWrong)

/-- 'catenarylaw28.JudgeCounts': WHATEVER THE INPUT: true; the input reads as it did. -/
def judgeCountsSpec : ChangeSpec := { name := "judgeCounts", fn := fun _ => fun
  | [d1, d2, d3] => { results := [.lit (.bool true)], args := [d1, d2, d3] }
  | _ => none }
def judgeCountsRow : OpenClaim := { program := "ytmmpieknnnlnhaa", sum := "70f6249bf5586742e115262b65b2e8f8c09848512077a809738926cd4ca801c8", func := "catenary/catenarylaw28.JudgeCounts", spec := "judgeCounts", unfollowed := true, recurses := true, plainKeys := false, apart := false }
def JudgeCountsSaid : Prop := judgeCountsRow.holds Try.pinned (OpenSpec.ofChange judgeCountsSpec)

/-- ITS FALSE NEIGHBOUR: 'it returns false'. Refute it at one input. -/
def judgeCountsWrong : ChangeSpec := { name := "judgeCounts", fn := fun _ => fun
  | [d1, d2, d3] => { results := [.lit (.bool false)], args := [d1, d2, d3] }
  | _ => none }
def JudgeCountsWrongFalsely : Prop := judgeCountsRow.holds Try.pinned (OpenSpec.ofChange judgeCountsWrong)

/-- 'catenarylaw20.TreeFinds': WHATEVER THE INPUT: true; the input reads as it did. -/
def treeFindsSpec : ChangeSpec := { name := "treeFinds", fn := fun _ => fun
  | [d1, d2] => { results := [.lit (.bool true)], args := [d1, d2] }
  | _ => none }
def treeFindsRow : OpenClaim := { program := "ytmmpieknnnlnhaa", sum := "70f6249bf5586742e115262b65b2e8f8c09848512077a809738926cd4ca801c8", func := "catenary/catenarylaw20.TreeFinds", spec := "treeFinds", unfollowed := true, recurses := true, plainKeys := false, apart := false }
def TreeFindsSaid : Prop := treeFindsRow.holds Try.pinned (OpenSpec.ofChange treeFindsSpec)

/-- ITS FALSE NEIGHBOUR: 'it returns false'. Refute it at one input. -/
def treeFindsWrong : ChangeSpec := { name := "treeFinds", fn := fun _ => fun
  | [d1, d2] => { results := [.lit (.bool false)], args := [d1, d2] }
  | _ => none }
def TreeFindsWrongFalsely : Prop := treeFindsRow.holds Try.pinned (OpenSpec.ofChange treeFindsWrong)

/-- 'catenarylaw20.TreeBelow': WHATEVER THE INPUT: true; the input reads as it did. -/
def treeBelowSpec : ChangeSpec := { name := "treeBelow", fn := fun _ => fun
  | [d1, d2] => { results := [.lit (.bool true)], args := [d1, d2] }
  | _ => none }
def treeBelowRow : OpenClaim := { program := "ytmmpieknnnlnhaa", sum := "70f6249bf5586742e115262b65b2e8f8c09848512077a809738926cd4ca801c8", func := "catenary/catenarylaw20.TreeBelow", spec := "treeBelow", unfollowed := true, recurses := true, plainKeys := false, apart := false }
def TreeBelowSaid : Prop := treeBelowRow.holds Try.pinned (OpenSpec.ofChange treeBelowSpec)

/-- ITS FALSE NEIGHBOUR: 'it returns false'. Refute it at one input. -/
def treeBelowWrong : ChangeSpec := { name := "treeBelow", fn := fun _ => fun
  | [d1, d2] => { results := [.lit (.bool false)], args := [d1, d2] }
  | _ => none }
def TreeBelowWrongFalsely : Prop := treeBelowRow.holds Try.pinned (OpenSpec.ofChange treeBelowWrong)

/-- 'catenarylaw20.TreeApart': WHATEVER THE INPUT: true; the input reads as it did. -/
def treeApartSpec : ChangeSpec := { name := "treeApart", fn := fun _ => fun
  | [d1, d2] => { results := [.lit (.bool true)], args := [d1, d2] }
  | _ => none }
def treeApartRow : OpenClaim := { program := "ytmmpieknnnlnhaa", sum := "70f6249bf5586742e115262b65b2e8f8c09848512077a809738926cd4ca801c8", func := "catenary/catenarylaw20.TreeApart", spec := "treeApart", unfollowed := true, recurses := true, plainKeys := false, apart := false }
def TreeApartSaid : Prop := treeApartRow.holds Try.pinned (OpenSpec.ofChange treeApartSpec)

/-- ITS FALSE NEIGHBOUR: 'it returns false'. Refute it at one input. -/
def treeApartWrong : ChangeSpec := { name := "treeApart", fn := fun _ => fun
  | [d1, d2] => { results := [.lit (.bool false)], args := [d1, d2] }
  | _ => none }
def TreeApartWrongFalsely : Prop := treeApartRow.holds Try.pinned (OpenSpec.ofChange treeApartWrong)

/-- 'catenarylaw20.TreeNames': WHATEVER THE INPUT: true; the input reads as it did. -/
def treeNamesSpec : ChangeSpec := { name := "treeNames", fn := fun _ => fun
  | [] => { results := [.lit (.bool true)], args := [] }
  | _ => none }
def treeNamesRow : OpenClaim := { program := "ytmmpieknnnlnhaa", sum := "70f6249bf5586742e115262b65b2e8f8c09848512077a809738926cd4ca801c8", func := "catenary/catenarylaw20.TreeNames", spec := "treeNames", unfollowed := true, recurses := true, plainKeys := false, apart := false }
def TreeNamesSaid : Prop := treeNamesRow.holds Try.pinned (OpenSpec.ofChange treeNamesSpec)

/-- ITS FALSE NEIGHBOUR: 'it returns false'. Refute it at one input. -/
def treeNamesWrong : ChangeSpec := { name := "treeNames", fn := fun _ => fun
  | [] => { results := [.lit (.bool false)], args := [] }
  | _ => none }
def TreeNamesWrongFalsely : Prop := treeNamesRow.holds Try.pinned (OpenSpec.ofChange treeNamesWrong)

/-- 'catenarylaw20.TreeShort': WHATEVER THE INPUT: true; the input reads as it did. -/
def treeShortSpec : ChangeSpec := { name := "treeShort", fn := fun _ => fun
  | [d] => { results := [.lit (.bool true)], args := [d] }
  | _ => none }
def treeShortRow : OpenClaim := { program := "ytmmpieknnnlnhaa", sum := "70f6249bf5586742e115262b65b2e8f8c09848512077a809738926cd4ca801c8", func := "catenary/catenarylaw20.TreeShort", spec := "treeShort", unfollowed := true, recurses := true, plainKeys := false, apart := false }
def TreeShortSaid : Prop := treeShortRow.holds Try.pinned (OpenSpec.ofChange treeShortSpec)

/-- ITS FALSE NEIGHBOUR: 'it returns false'. Refute it at one input. -/
def treeShortWrong : ChangeSpec := { name := "treeShort", fn := fun _ => fun
  | [d] => { results := [.lit (.bool false)], args := [d] }
  | _ => none }
def TreeShortWrongFalsely : Prop := treeShortRow.holds Try.pinned (OpenSpec.ofChange treeShortWrong)

/- THE SECOND FORM. 'bulk': how many values and letters a reading holds, each counted each time it is reached (what is shared counts as often as it is met; a slice's spare places count too). A statement '..UptoSaid' is the law's where the arguments, and the package variables that the reading takes, are together of bulk at most 1048576: NARROWER than '..Said'. Prove '..Said' where nothing that the law and all that it calls make is longer than what came in: it says more and counts as full. Else prove '..UptoSaid'. A law counts once. -/
mutual
def uptoBulk {H : Type} : DataW H → Nat
  | .lit (.string bytes) => bytes.length + 1
  | .lit _ => 1
  | .nil => 1
  | .ptr d => uptoBulk d + 1
  | .slice elems spare => uptoBulkAll elems + uptoBulkAll spare + 1
  | .agg parts => uptoBulkAll parts + 1
  | .iface _ d => uptoBulk d + 1
  | .map entries => uptoBulkEntries entries + 1
  | .held _ => 1
def uptoBulkAll {H : Type} : List (DataW H) → Nat
  | [] => 0
  | d :: r => uptoBulk d + uptoBulkAll r
def uptoBulkEntries {H : Type} : List (Lit × DataW H) → Nat
  | [] => 0
  | x :: r => uptoBulkEntry x + uptoBulkEntries r
def uptoBulkEntry {H : Type} : Lit × DataW H → Nat
  | (.string bytes, d) => bytes.length + uptoBulk d + 1
  | (_, d) => uptoBulk d + 1
 end
def uptoSmall : (H : Type) → List (DataW H) → Bool := fun _ ds => decide (uptoBulkAll ds ≤ 1048576)
def OpenSpec.upto (s : _root_.Go.ChangeSpec) : _root_.Go.OpenSpec := { _root_.Go.OpenSpec.ofChange s with cond := some uptoSmall }

/-- 'catenarylaw12.GraphEnds', WHERE WHAT IT READS IS OF BULK AT MOST 1048576: true; the input reads as it did. -/
def graphEndsUptoRow : OpenClaim := { program := "ytmmpieknnnlnhaa", sum := "70f6249bf5586742e115262b65b2e8f8c09848512077a809738926cd4ca801c8", func := "catenary/catenarylaw12.GraphEnds", spec := "graphEnds", unfollowed := true, recurses := true, plainKeys := false, apart := false, narrowed := true }
def GraphEndsUptoSaid : Prop := graphEndsUptoRow.holds Try.pinned (OpenSpec.upto graphEndsSpec)

/-- 'catenarylaw12.GraphPeers', WHERE WHAT IT READS IS OF BULK AT MOST 1048576: true; the input reads as it did. -/
def graphPeersUptoRow : OpenClaim := { program := "ytmmpieknnnlnhaa", sum := "70f6249bf5586742e115262b65b2e8f8c09848512077a809738926cd4ca801c8", func := "catenary/catenarylaw12.GraphPeers", spec := "graphPeers", unfollowed := true, recurses := true, plainKeys := false, apart := false, narrowed := true }
def GraphPeersUptoSaid : Prop := graphPeersUptoRow.holds Try.pinned (OpenSpec.upto graphPeersSpec)

/-- 'catenarylaw12.GraphGrows', WHERE WHAT IT READS IS OF BULK AT MOST 1048576: true; the input reads as it did. -/
def graphGrowsUptoRow : OpenClaim := { program := "ytmmpieknnnlnhaa", sum := "70f6249bf5586742e115262b65b2e8f8c09848512077a809738926cd4ca801c8", func := "catenary/catenarylaw12.GraphGrows", spec := "graphGrows", unfollowed := true, recurses := true, plainKeys := false, apart := false, narrowed := true }
def GraphGrowsUptoSaid : Prop := graphGrowsUptoRow.holds Try.pinned (OpenSpec.upto graphGrowsSpec)

/-- 'catenarylaw12.GraphNames', WHERE WHAT IT READS IS OF BULK AT MOST 1048576: true; the input reads as it did. -/
def graphNamesUptoRow : OpenClaim := { program := "ytmmpieknnnlnhaa", sum := "70f6249bf5586742e115262b65b2e8f8c09848512077a809738926cd4ca801c8", func := "catenary/catenarylaw12.GraphNames", spec := "graphNames", unfollowed := true, recurses := true, plainKeys := false, apart := false, narrowed := true }
def GraphNamesUptoSaid : Prop := graphNamesUptoRow.holds Try.pinned (OpenSpec.upto graphNamesSpec)

/-- 'catenarylaw28.JudgeAhead', WHERE WHAT IT READS IS OF BULK AT MOST 1048576: true; the input reads as it did. -/
def judgeAheadUptoRow : OpenClaim := { program := "ytmmpieknnnlnhaa", sum := "70f6249bf5586742e115262b65b2e8f8c09848512077a809738926cd4ca801c8", func := "catenary/catenarylaw28.JudgeAhead", spec := "judgeAhead", unfollowed := true, recurses := true, plainKeys := false, apart := false, narrowed := true }
def JudgeAheadUptoSaid : Prop := judgeAheadUptoRow.holds Try.pinned (OpenSpec.upto judgeAheadSpec)

/-- 'catenarylaw28.JudgeCounts', WHERE WHAT IT READS IS OF BULK AT MOST 1048576: true; the input reads as it did. -/
def judgeCountsUptoRow : OpenClaim := { program := "ytmmpieknnnlnhaa", sum := "70f6249bf5586742e115262b65b2e8f8c09848512077a809738926cd4ca801c8", func := "catenary/catenarylaw28.JudgeCounts", spec := "judgeCounts", unfollowed := true, recurses := true, plainKeys := false, apart := false, narrowed := true }
def JudgeCountsUptoSaid : Prop := judgeCountsUptoRow.holds Try.pinned (OpenSpec.upto judgeCountsSpec)

/-- 'catenarylaw20.TreeFinds', WHERE WHAT IT READS IS OF BULK AT MOST 1048576: true; the input reads as it did. -/
def treeFindsUptoRow : OpenClaim := { program := "ytmmpieknnnlnhaa", sum := "70f6249bf5586742e115262b65b2e8f8c09848512077a809738926cd4ca801c8", func := "catenary/catenarylaw20.TreeFinds", spec := "treeFinds", unfollowed := true, recurses := true, plainKeys := false, apart := false, narrowed := true }
def TreeFindsUptoSaid : Prop := treeFindsUptoRow.holds Try.pinned (OpenSpec.upto treeFindsSpec)

/-- 'catenarylaw20.TreeBelow', WHERE WHAT IT READS IS OF BULK AT MOST 1048576: true; the input reads as it did. -/
def treeBelowUptoRow : OpenClaim := { program := "ytmmpieknnnlnhaa", sum := "70f6249bf5586742e115262b65b2e8f8c09848512077a809738926cd4ca801c8", func := "catenary/catenarylaw20.TreeBelow", spec := "treeBelow", unfollowed := true, recurses := true, plainKeys := false, apart := false, narrowed := true }
def TreeBelowUptoSaid : Prop := treeBelowUptoRow.holds Try.pinned (OpenSpec.upto treeBelowSpec)

/-- 'catenarylaw20.TreeApart', WHERE WHAT IT READS IS OF BULK AT MOST 1048576: true; the input reads as it did. -/
def treeApartUptoRow : OpenClaim := { program := "ytmmpieknnnlnhaa", sum := "70f6249bf5586742e115262b65b2e8f8c09848512077a809738926cd4ca801c8", func := "catenary/catenarylaw20.TreeApart", spec := "treeApart", unfollowed := true, recurses := true, plainKeys := false, apart := false, narrowed := true }
def TreeApartUptoSaid : Prop := treeApartUptoRow.holds Try.pinned (OpenSpec.upto treeApartSpec)

/-- 'catenarylaw20.TreeNames', WHERE WHAT IT READS IS OF BULK AT MOST 1048576: true; the input reads as it did. -/
def treeNamesUptoRow : OpenClaim := { program := "ytmmpieknnnlnhaa", sum := "70f6249bf5586742e115262b65b2e8f8c09848512077a809738926cd4ca801c8", func := "catenary/catenarylaw20.TreeNames", spec := "treeNames", unfollowed := true, recurses := true, plainKeys := false, apart := false, narrowed := true }
def TreeNamesUptoSaid : Prop := treeNamesUptoRow.holds Try.pinned (OpenSpec.upto treeNamesSpec)

/-- 'catenarylaw20.TreeShort', WHERE WHAT IT READS IS OF BULK AT MOST 1048576: true; the input reads as it did. -/
def treeShortUptoRow : OpenClaim := { program := "ytmmpieknnnlnhaa", sum := "70f6249bf5586742e115262b65b2e8f8c09848512077a809738926cd4ca801c8", func := "catenary/catenarylaw20.TreeShort", spec := "treeShort", unfollowed := true, recurses := true, plainKeys := false, apart := false, narrowed := true }
def TreeShortUptoSaid : Prop := treeShortUptoRow.holds Try.pinned (OpenSpec.upto treeShortSpec)

end Rows
end Go.Proofs.Ytmmpieknnnlnhaa
