/-
  No cell of these rows narrows 'for every input' (looked for: loops, veiled, ifaces, maps, wideKeys, modest, calm, conditions, laid).
  DERIVED. THE GIVEN ROWS OF THIS SEAT. 14 by the template 'for every input the law returns true; each argument reads behind the call as it read before'; 0 by the template 'total and deterministic' (their statements: YtehneliphhgegaaTotals.lean).
  GIVEN WITH THE SEED: the statements are not yours to turn. If you find one false, say at which input.
  Laid BY PROGRAM, IN A SANDBOX (cutbox-rows.mjs): the forced cells as the released guide's own fill.sh prints them over the translation 3850acb10eb97933… (all of the seat's roots in one cut). By AI agents, Wed Nov 11 2026. No macro, syntax, notation, axiom, sorry.
-/
import Derived.Test.YtehneliphhgegaaChecked
import GoSem.Claim
import GoSem.ClaimJoined
import GoSem.ClaimMapViews
import Derived.JoinedTies
import Derived.KernelRfl
namespace Go.Proofs.Ytehneliphhgegaa
/- THE CELL 'sum', in the pinned program and in every row, IS THE sha256 OF THE DUMP (.gsa) THAT YtehneliphhgegaaProg.lean LOADS. Nothing in Lean hashes anything: it is a label: what it is worth is what the hold of that sum in a sandbox is worth. -/
noncomputable def Try.pinned : Pinned := { name := "ytehneliphhgegaa", sum := "3850acb10eb979338d8343e775d5aec492cd643fa644edbb7b657628759f8709", checked := Try.checked }
namespace Rows
def none {H : Type} : Left H := { results := [], args := [] }

/-- 'apographlaw16.RefsTags': WHATEVER THE INPUT: true; the input reads as it did. -/
def refsTagsSpec : ChangeSpec := { name := "refsTags", fn := fun _ => fun
  | [d1, d2, d3] => { results := [.lit (.bool true)], args := [d1, d2, d3] }
  | _ => none }
def refsTagsRow : OpenClaim := { program := "ytehneliphhgegaa", sum := "3850acb10eb979338d8343e775d5aec492cd643fa644edbb7b657628759f8709", func := "apograph/apographlaw16.RefsTags", spec := "refsTags", unfollowed := true, recurses := true, apart := false }
def RefsTagsSaid : Prop := refsTagsRow.holds Try.pinned (OpenSpec.ofChange refsTagsSpec)

/-- ITS FALSE NEIGHBOUR: 'it returns false'. Refute it at one input. -/
def refsTagsWrong : ChangeSpec := { name := "refsTags", fn := fun _ => fun
  | [d1, d2, d3] => { results := [.lit (.bool false)], args := [d1, d2, d3] }
  | _ => none }
def RefsTagsWrongFalsely : Prop := refsTagsRow.holds Try.pinned (OpenSpec.ofChange refsTagsWrong)

/-- 'apographlaw30.WalkPaths': WHATEVER THE INPUT: true; the input reads as it did. -/
def walkPathsSpec : ChangeSpec := { name := "walkPaths", fn := fun _ => fun
  | [d1, d2, d3] => { results := [.lit (.bool true)], args := [d1, d2, d3] }
  | _ => none }
def walkPathsRow : OpenClaim := { program := "ytehneliphhgegaa", sum := "3850acb10eb979338d8343e775d5aec492cd643fa644edbb7b657628759f8709", func := "apograph/apographlaw30.WalkPaths", spec := "walkPaths", unfollowed := true, recurses := true, apart := false }
def WalkPathsSaid : Prop := walkPathsRow.holds Try.pinned (OpenSpec.ofChange walkPathsSpec)

/-- ITS FALSE NEIGHBOUR: 'it returns false'. Refute it at one input. -/
def walkPathsWrong : ChangeSpec := { name := "walkPaths", fn := fun _ => fun
  | [d1, d2, d3] => { results := [.lit (.bool false)], args := [d1, d2, d3] }
  | _ => none }
def WalkPathsWrongFalsely : Prop := walkPathsRow.holds Try.pinned (OpenSpec.ofChange walkPathsWrong)

/-- 'apographlaw16.RefsDo': WHATEVER THE INPUT: true; the input reads as it did. -/
def refsDoSpec : ChangeSpec := { name := "refsDo", fn := fun _ => fun
  | [d1, d2, d3] => { results := [.lit (.bool true)], args := [d1, d2, d3] }
  | _ => none }
def refsDoRow : OpenClaim := { program := "ytehneliphhgegaa", sum := "3850acb10eb979338d8343e775d5aec492cd643fa644edbb7b657628759f8709", func := "apograph/apographlaw16.RefsDo", spec := "refsDo", unfollowed := true, recurses := true, apart := false }
def RefsDoSaid : Prop := refsDoRow.holds Try.pinned (OpenSpec.ofChange refsDoSpec)

/-- ITS FALSE NEIGHBOUR: 'it returns false'. Refute it at one input. -/
def refsDoWrong : ChangeSpec := { name := "refsDo", fn := fun _ => fun
  | [d1, d2, d3] => { results := [.lit (.bool false)], args := [d1, d2, d3] }
  | _ => none }
def RefsDoWrongFalsely : Prop := refsDoRow.holds Try.pinned (OpenSpec.ofChange refsDoWrong)

/-- 'apographlaw16.RefsOwn': WHATEVER THE INPUT: true; the input reads as it did. -/
def refsOwnSpec : ChangeSpec := { name := "refsOwn", fn := fun _ => fun
  | [d1, d2] => { results := [.lit (.bool true)], args := [d1, d2] }
  | _ => none }
def refsOwnRow : OpenClaim := { program := "ytehneliphhgegaa", sum := "3850acb10eb979338d8343e775d5aec492cd643fa644edbb7b657628759f8709", func := "apograph/apographlaw16.RefsOwn", spec := "refsOwn", unfollowed := true, recurses := true, apart := false }
def RefsOwnSaid : Prop := refsOwnRow.holds Try.pinned (OpenSpec.ofChange refsOwnSpec)

/-- ITS FALSE NEIGHBOUR: 'it returns false'. Refute it at one input. -/
def refsOwnWrong : ChangeSpec := { name := "refsOwn", fn := fun _ => fun
  | [d1, d2] => { results := [.lit (.bool false)], args := [d1, d2] }
  | _ => none }
def RefsOwnWrongFalsely : Prop := refsOwnRow.holds Try.pinned (OpenSpec.ofChange refsOwnWrong)

/-- 'apographlaw15.GraphAdds': WHATEVER THE INPUT: true; the input reads as it did. -/
def graphAddsSpec : ChangeSpec := { name := "graphAdds", fn := fun _ => fun
  | [d1, d2] => { results := [.lit (.bool true)], args := [d1, d2] }
  | _ => none }
def graphAddsRow : OpenClaim := { program := "ytehneliphhgegaa", sum := "3850acb10eb979338d8343e775d5aec492cd643fa644edbb7b657628759f8709", func := "apograph/apographlaw15.GraphAdds", spec := "graphAdds", unfollowed := true, recurses := true, apart := false }
def GraphAddsSaid : Prop := graphAddsRow.holds Try.pinned (OpenSpec.ofChange graphAddsSpec)

/-- ITS FALSE NEIGHBOUR: 'it returns false'. Refute it at one input. -/
def graphAddsWrong : ChangeSpec := { name := "graphAdds", fn := fun _ => fun
  | [d1, d2] => { results := [.lit (.bool false)], args := [d1, d2] }
  | _ => none }
def GraphAddsWrongFalsely : Prop := graphAddsRow.holds Try.pinned (OpenSpec.ofChange graphAddsWrong)

/-- 'apographlaw15.GraphBest': WHATEVER THE INPUT: true; the input reads as it did. -/
def graphBestSpec : ChangeSpec := { name := "graphBest", fn := fun _ => fun
  | [d1, d2, d3] => { results := [.lit (.bool true)], args := [d1, d2, d3] }
  | _ => none }
def graphBestRow : OpenClaim := { program := "ytehneliphhgegaa", sum := "3850acb10eb979338d8343e775d5aec492cd643fa644edbb7b657628759f8709", func := "apograph/apographlaw15.GraphBest", spec := "graphBest", unfollowed := true, recurses := true, apart := false }
def GraphBestSaid : Prop := graphBestRow.holds Try.pinned (OpenSpec.ofChange graphBestSpec)

/-- ITS FALSE NEIGHBOUR: 'it returns false'. Refute it at one input. -/
def graphBestWrong : ChangeSpec := { name := "graphBest", fn := fun _ => fun
  | [d1, d2, d3] => { results := [.lit (.bool false)], args := [d1, d2, d3] }
  | _ => none }
def GraphBestWrongFalsely : Prop := graphBestRow.holds Try.pinned (OpenSpec.ofChange graphBestWrong)

/-- 'apographlaw15.GraphGens': WHATEVER THE INPUT: true; the input reads as it did. -/
def graphGensSpec : ChangeSpec := { name := "graphGens", fn := fun _ => fun
  | [d1, d2] => { results := [.lit (.bool true)], args := [d1, d2] }
  | _ => none }
def graphGensRow : OpenClaim := { program := "ytehneliphhgegaa", sum := "3850acb10eb979338d8343e775d5aec492cd643fa644edbb7b657628759f8709", func := "apograph/apographlaw15.GraphGens", spec := "graphGens", unfollowed := true, recurses := true, apart := false }
def GraphGensSaid : Prop := graphGensRow.holds Try.pinned (OpenSpec.ofChange graphGensSpec)

/-- ITS FALSE NEIGHBOUR: 'it returns false'. Refute it at one input. -/
def graphGensWrong : ChangeSpec := { name := "graphGens", fn := fun _ => fun
  | [d1, d2] => { results := [.lit (.bool false)], args := [d1, d2] }
  | _ => none }
def GraphGensWrongFalsely : Prop := graphGensRow.holds Try.pinned (OpenSpec.ofChange graphGensWrong)

/-- 'apographlaw30.WalkKids': WHATEVER THE INPUT: true; the input reads as it did. -/
def walkKidsSpec : ChangeSpec := { name := "walkKids", fn := fun _ => fun
  | [d1, d2] => { results := [.lit (.bool true)], args := [d1, d2] }
  | _ => none }
def walkKidsRow : OpenClaim := { program := "ytehneliphhgegaa", sum := "3850acb10eb979338d8343e775d5aec492cd643fa644edbb7b657628759f8709", func := "apograph/apographlaw30.WalkKids", spec := "walkKids", unfollowed := true, recurses := true, apart := false }
def WalkKidsSaid : Prop := walkKidsRow.holds Try.pinned (OpenSpec.ofChange walkKidsSpec)

/-- ITS FALSE NEIGHBOUR: 'it returns false'. Refute it at one input. -/
def walkKidsWrong : ChangeSpec := { name := "walkKids", fn := fun _ => fun
  | [d1, d2] => { results := [.lit (.bool false)], args := [d1, d2] }
  | _ => none }
def WalkKidsWrongFalsely : Prop := walkKidsRow.holds Try.pinned (OpenSpec.ofChange walkKidsWrong)

/-- 'apographlaw15.GraphBases': WHATEVER THE INPUT: true; the input reads as it did. -/
def graphBasesSpec : ChangeSpec := { name := "graphBases", fn := fun _ => fun
  | [d1, d2, d3, d4] => { results := [.lit (.bool true)], args := [d1, d2, d3, d4] }
  | _ => none }
def graphBasesRow : OpenClaim := { program := "ytehneliphhgegaa", sum := "3850acb10eb979338d8343e775d5aec492cd643fa644edbb7b657628759f8709", func := "apograph/apographlaw15.GraphBases", spec := "graphBases", unfollowed := true, recurses := true, apart := false }
def GraphBasesSaid : Prop := graphBasesRow.holds Try.pinned (OpenSpec.ofChange graphBasesSpec)

/-- ITS FALSE NEIGHBOUR: 'it returns false'. Refute it at one input. -/
def graphBasesWrong : ChangeSpec := { name := "graphBases", fn := fun _ => fun
  | [d1, d2, d3, d4] => { results := [.lit (.bool false)], args := [d1, d2, d3, d4] }
  | _ => none }
def GraphBasesWrongFalsely : Prop := graphBasesRow.holds Try.pinned (OpenSpec.ofChange graphBasesWrong)

/-- 'apographlaw15.GraphOrders': WHATEVER THE INPUT: true; the input reads as it did. -/
def graphOrdersSpec : ChangeSpec := { name := "graphOrders", fn := fun _ => fun
  | [d1, d2, d3, d4] => { results := [.lit (.bool true)], args := [d1, d2, d3, d4] }
  | _ => none }
def graphOrdersRow : OpenClaim := { program := "ytehneliphhgegaa", sum := "3850acb10eb979338d8343e775d5aec492cd643fa644edbb7b657628759f8709", func := "apograph/apographlaw15.GraphOrders", spec := "graphOrders", unfollowed := true, recurses := true, apart := false }
def GraphOrdersSaid : Prop := graphOrdersRow.holds Try.pinned (OpenSpec.ofChange graphOrdersSpec)

/-- ITS FALSE NEIGHBOUR: 'it returns false'. Refute it at one input. -/
def graphOrdersWrong : ChangeSpec := { name := "graphOrders", fn := fun _ => fun
  | [d1, d2, d3, d4] => { results := [.lit (.bool false)], args := [d1, d2, d3, d4] }
  | _ => none }
def GraphOrdersWrongFalsely : Prop := graphOrdersRow.holds Try.pinned (OpenSpec.ofChange graphOrdersWrong)

/-- 'apographlaw30.WalkTopo': WHATEVER THE INPUT: true; the input reads as it did. -/
def walkTopoSpec : ChangeSpec := { name := "walkTopo", fn := fun _ => fun
  | [d1, d2] => { results := [.lit (.bool true)], args := [d1, d2] }
  | _ => none }
def walkTopoRow : OpenClaim := { program := "ytehneliphhgegaa", sum := "3850acb10eb979338d8343e775d5aec492cd643fa644edbb7b657628759f8709", func := "apograph/apographlaw30.WalkTopo", spec := "walkTopo", unfollowed := true, recurses := true, apart := false }
def WalkTopoSaid : Prop := walkTopoRow.holds Try.pinned (OpenSpec.ofChange walkTopoSpec)

/-- ITS FALSE NEIGHBOUR: 'it returns false'. Refute it at one input. -/
def walkTopoWrong : ChangeSpec := { name := "walkTopo", fn := fun _ => fun
  | [d1, d2] => { results := [.lit (.bool false)], args := [d1, d2] }
  | _ => none }
def WalkTopoWrongFalsely : Prop := walkTopoRow.holds Try.pinned (OpenSpec.ofChange walkTopoWrong)

/-- 'apographlaw15.GraphKeeps': WHATEVER THE INPUT: true; the input reads as it did. -/
def graphKeepsSpec : ChangeSpec := { name := "graphKeeps", fn := fun _ => fun
  | [d1, d2, d3] => { results := [.lit (.bool true)], args := [d1, d2, d3] }
  | _ => none }
def graphKeepsRow : OpenClaim := { program := "ytehneliphhgegaa", sum := "3850acb10eb979338d8343e775d5aec492cd643fa644edbb7b657628759f8709", func := "apograph/apographlaw15.GraphKeeps", spec := "graphKeeps", unfollowed := true, recurses := true, apart := false }
def GraphKeepsSaid : Prop := graphKeepsRow.holds Try.pinned (OpenSpec.ofChange graphKeepsSpec)

/-- ITS FALSE NEIGHBOUR: 'it returns false'. Refute it at one input. -/
def graphKeepsWrong : ChangeSpec := { name := "graphKeeps", fn := fun _ => fun
  | [d1, d2, d3] => { results := [.lit (.bool false)], args := [d1, d2, d3] }
  | _ => none }
def GraphKeepsWrongFalsely : Prop := graphKeepsRow.holds Try.pinned (OpenSpec.ofChange graphKeepsWrong)

/-- 'apographlaw30.WalkLines': WHATEVER THE INPUT: true; the input reads as it did. -/
def walkLinesSpec : ChangeSpec := { name := "walkLines", fn := fun _ => fun
  | [d1, d2, d3] => { results := [.lit (.bool true)], args := [d1, d2, d3] }
  | _ => none }
def walkLinesRow : OpenClaim := { program := "ytehneliphhgegaa", sum := "3850acb10eb979338d8343e775d5aec492cd643fa644edbb7b657628759f8709", func := "apograph/apographlaw30.WalkLines", spec := "walkLines", unfollowed := true, recurses := true, apart := false }
def WalkLinesSaid : Prop := walkLinesRow.holds Try.pinned (OpenSpec.ofChange walkLinesSpec)

/-- ITS FALSE NEIGHBOUR: 'it returns false'. Refute it at one input. -/
def walkLinesWrong : ChangeSpec := { name := "walkLines", fn := fun _ => fun
  | [d1, d2, d3] => { results := [.lit (.bool false)], args := [d1, d2, d3] }
  | _ => none }
def WalkLinesWrongFalsely : Prop := walkLinesRow.holds Try.pinned (OpenSpec.ofChange walkLinesWrong)

/-- 'apographlaw30.WalkSteps': WHATEVER THE INPUT: true; the input reads as it did. -/
def walkStepsSpec : ChangeSpec := { name := "walkSteps", fn := fun _ => fun
  | [d1, d2, d3] => { results := [.lit (.bool true)], args := [d1, d2, d3] }
  | _ => none }
def walkStepsRow : OpenClaim := { program := "ytehneliphhgegaa", sum := "3850acb10eb979338d8343e775d5aec492cd643fa644edbb7b657628759f8709", func := "apograph/apographlaw30.WalkSteps", spec := "walkSteps", unfollowed := true, recurses := true, apart := false }
def WalkStepsSaid : Prop := walkStepsRow.holds Try.pinned (OpenSpec.ofChange walkStepsSpec)

/-- ITS FALSE NEIGHBOUR: 'it returns false'. Refute it at one input. -/
def walkStepsWrong : ChangeSpec := { name := "walkSteps", fn := fun _ => fun
  | [d1, d2, d3] => { results := [.lit (.bool false)], args := [d1, d2, d3] }
  | _ => none }
def WalkStepsWrongFalsely : Prop := walkStepsRow.holds Try.pinned (OpenSpec.ofChange walkStepsWrong)

/- THE SECOND FORM. 'bulk': how many values and letters a reading holds, each counted each time it is reached (what is shared counts as often as it is met; a slice's spare places count too). A statement '..UptoSaid' is the law's where the arguments, and the package variables that the reading takes, are together of bulk at most 1048576: NARROWER than '..Said'. Prove '..Said' where nothing that the law and all that it calls make is longer than what came in: it says more and counts as full. Else prove '..UptoSaid'. A law counts once. -/
mutual
def uptoBulk {H : Type} : DataW H → Nat
  | .lit (.string bytes) => bytes.length + 1
  | .lit _ => 1
  | .nil => 1
  | .ptr d => uptoBulk d + 1
  | .slice elems spare => uptoBulkAll elems + uptoBulkAll spare + 1
  | .agg parts => uptoBulkAll parts + 1
  | .iface _ d => uptoBulk d + 1
  | .map entries => uptoBulkEntries entries + 1
  | .held _ => 1
def uptoBulkAll {H : Type} : List (DataW H) → Nat
  | [] => 0
  | d :: r => uptoBulk d + uptoBulkAll r
def uptoBulkEntries {H : Type} : List (Lit × DataW H) → Nat
  | [] => 0
  | x :: r => uptoBulkEntry x + uptoBulkEntries r
def uptoBulkEntry {H : Type} : Lit × DataW H → Nat
  | (.string bytes, d) => bytes.length + uptoBulk d + 1
  | (_, d) => uptoBulk d + 1
 end
def uptoSmall : (H : Type) → List (DataW H) → Bool := fun _ ds => decide (uptoBulkAll ds ≤ 1048576)
def OpenSpec.upto (s : _root_.Go.ChangeSpec) : _root_.Go.OpenSpec := { _root_.Go.OpenSpec.ofChange s with cond := some uptoSmall }

/-- 'apographlaw16.RefsTags', WHERE WHAT IT READS IS OF BULK AT MOST 1048576: true; the input reads as it did. -/
def refsTagsUptoRow : OpenClaim := { program := "ytehneliphhgegaa", sum := "3850acb10eb979338d8343e775d5aec492cd643fa644edbb7b657628759f8709", func := "apograph/apographlaw16.RefsTags", spec := "refsTags", unfollowed := true, recurses := true, apart := false, narrowed := true }
def RefsTagsUptoSaid : Prop := refsTagsUptoRow.holds Try.pinned (OpenSpec.upto refsTagsSpec)

/-- 'apographlaw30.WalkPaths', WHERE WHAT IT READS IS OF BULK AT MOST 1048576: true; the input reads as it did. -/
def walkPathsUptoRow : OpenClaim := { program := "ytehneliphhgegaa", sum := "3850acb10eb979338d8343e775d5aec492cd643fa644edbb7b657628759f8709", func := "apograph/apographlaw30.WalkPaths", spec := "walkPaths", unfollowed := true, recurses := true, apart := false, narrowed := true }
def WalkPathsUptoSaid : Prop := walkPathsUptoRow.holds Try.pinned (OpenSpec.upto walkPathsSpec)

/-- 'apographlaw16.RefsDo', WHERE WHAT IT READS IS OF BULK AT MOST 1048576: true; the input reads as it did. -/
def refsDoUptoRow : OpenClaim := { program := "ytehneliphhgegaa", sum := "3850acb10eb979338d8343e775d5aec492cd643fa644edbb7b657628759f8709", func := "apograph/apographlaw16.RefsDo", spec := "refsDo", unfollowed := true, recurses := true, apart := false, narrowed := true }
def RefsDoUptoSaid : Prop := refsDoUptoRow.holds Try.pinned (OpenSpec.upto refsDoSpec)

/-- 'apographlaw16.RefsOwn', WHERE WHAT IT READS IS OF BULK AT MOST 1048576: true; the input reads as it did. -/
def refsOwnUptoRow : OpenClaim := { program := "ytehneliphhgegaa", sum := "3850acb10eb979338d8343e775d5aec492cd643fa644edbb7b657628759f8709", func := "apograph/apographlaw16.RefsOwn", spec := "refsOwn", unfollowed := true, recurses := true, apart := false, narrowed := true }
def RefsOwnUptoSaid : Prop := refsOwnUptoRow.holds Try.pinned (OpenSpec.upto refsOwnSpec)

/-- 'apographlaw15.GraphAdds', WHERE WHAT IT READS IS OF BULK AT MOST 1048576: true; the input reads as it did. -/
def graphAddsUptoRow : OpenClaim := { program := "ytehneliphhgegaa", sum := "3850acb10eb979338d8343e775d5aec492cd643fa644edbb7b657628759f8709", func := "apograph/apographlaw15.GraphAdds", spec := "graphAdds", unfollowed := true, recurses := true, apart := false, narrowed := true }
def GraphAddsUptoSaid : Prop := graphAddsUptoRow.holds Try.pinned (OpenSpec.upto graphAddsSpec)

/-- 'apographlaw15.GraphBest', WHERE WHAT IT READS IS OF BULK AT MOST 1048576: true; the input reads as it did. -/
def graphBestUptoRow : OpenClaim := { program := "ytehneliphhgegaa", sum := "3850acb10eb979338d8343e775d5aec492cd643fa644edbb7b657628759f8709", func := "apograph/apographlaw15.GraphBest", spec := "graphBest", unfollowed := true, recurses := true, apart := false, narrowed := true }
def GraphBestUptoSaid : Prop := graphBestUptoRow.holds Try.pinned (OpenSpec.upto graphBestSpec)

/-- 'apographlaw15.GraphGens', WHERE WHAT IT READS IS OF BULK AT MOST 1048576: true; the input reads as it did. -/
def graphGensUptoRow : OpenClaim := { program := "ytehneliphhgegaa", sum := "3850acb10eb979338d8343e775d5aec492cd643fa644edbb7b657628759f8709", func := "apograph/apographlaw15.GraphGens", spec := "graphGens", unfollowed := true, recurses := true, apart := false, narrowed := true }
def GraphGensUptoSaid : Prop := graphGensUptoRow.holds Try.pinned (OpenSpec.upto graphGensSpec)

/-- 'apographlaw30.WalkKids', WHERE WHAT IT READS IS OF BULK AT MOST 1048576: true; the input reads as it did. -/
def walkKidsUptoRow : OpenClaim := { program := "ytehneliphhgegaa", sum := "3850acb10eb979338d8343e775d5aec492cd643fa644edbb7b657628759f8709", func := "apograph/apographlaw30.WalkKids", spec := "walkKids", unfollowed := true, recurses := true, apart := false, narrowed := true }
def WalkKidsUptoSaid : Prop := walkKidsUptoRow.holds Try.pinned (OpenSpec.upto walkKidsSpec)

/-- 'apographlaw15.GraphBases', WHERE WHAT IT READS IS OF BULK AT MOST 1048576: true; the input reads as it did. -/
def graphBasesUptoRow : OpenClaim := { program := "ytehneliphhgegaa", sum := "3850acb10eb979338d8343e775d5aec492cd643fa644edbb7b657628759f8709", func := "apograph/apographlaw15.GraphBases", spec := "graphBases", unfollowed := true, recurses := true, apart := false, narrowed := true }
def GraphBasesUptoSaid : Prop := graphBasesUptoRow.holds Try.pinned (OpenSpec.upto graphBasesSpec)

/-- 'apographlaw15.GraphOrders', WHERE WHAT IT READS IS OF BULK AT MOST 1048576: true; the input reads as it did. -/
def graphOrdersUptoRow : OpenClaim := { program := "ytehneliphhgegaa", sum := "3850acb10eb979338d8343e775d5aec492cd643fa644edbb7b657628759f8709", func := "apograph/apographlaw15.GraphOrders", spec := "graphOrders", unfollowed := true, recurses := true, apart := false, narrowed := true }
def GraphOrdersUptoSaid : Prop := graphOrdersUptoRow.holds Try.pinned (OpenSpec.upto graphOrdersSpec)

/-- 'apographlaw30.WalkTopo', WHERE WHAT IT READS IS OF BULK AT MOST 1048576: true; the input reads as it did. -/
def walkTopoUptoRow : OpenClaim := { program := "ytehneliphhgegaa", sum := "3850acb10eb979338d8343e775d5aec492cd643fa644edbb7b657628759f8709", func := "apograph/apographlaw30.WalkTopo", spec := "walkTopo", unfollowed := true, recurses := true, apart := false, narrowed := true }
def WalkTopoUptoSaid : Prop := walkTopoUptoRow.holds Try.pinned (OpenSpec.upto walkTopoSpec)

/-- 'apographlaw15.GraphKeeps', WHERE WHAT IT READS IS OF BULK AT MOST 1048576: true; the input reads as it did. -/
def graphKeepsUptoRow : OpenClaim := { program := "ytehneliphhgegaa", sum := "3850acb10eb979338d8343e775d5aec492cd643fa644edbb7b657628759f8709", func := "apograph/apographlaw15.GraphKeeps", spec := "graphKeeps", unfollowed := true, recurses := true, apart := false, narrowed := true }
def GraphKeepsUptoSaid : Prop := graphKeepsUptoRow.holds Try.pinned (OpenSpec.upto graphKeepsSpec)

/-- 'apographlaw30.WalkLines', WHERE WHAT IT READS IS OF BULK AT MOST 1048576: true; the input reads as it did. -/
def walkLinesUptoRow : OpenClaim := { program := "ytehneliphhgegaa", sum := "3850acb10eb979338d8343e775d5aec492cd643fa644edbb7b657628759f8709", func := "apograph/apographlaw30.WalkLines", spec := "walkLines", unfollowed := true, recurses := true, apart := false, narrowed := true }
def WalkLinesUptoSaid : Prop := walkLinesUptoRow.holds Try.pinned (OpenSpec.upto walkLinesSpec)

/-- 'apographlaw30.WalkSteps', WHERE WHAT IT READS IS OF BULK AT MOST 1048576: true; the input reads as it did. -/
def walkStepsUptoRow : OpenClaim := { program := "ytehneliphhgegaa", sum := "3850acb10eb979338d8343e775d5aec492cd643fa644edbb7b657628759f8709", func := "apograph/apographlaw30.WalkSteps", spec := "walkSteps", unfollowed := true, recurses := true, apart := false, narrowed := true }
def WalkStepsUptoSaid : Prop := walkStepsUptoRow.holds Try.pinned (OpenSpec.upto walkStepsSpec)

end Rows
end Go.Proofs.Ytehneliphhgegaa
