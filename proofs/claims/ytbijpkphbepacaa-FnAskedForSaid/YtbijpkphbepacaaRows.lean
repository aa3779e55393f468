/-
  No cell of these rows narrows 'for every input' (looked for: loops, veiled, ifaces, maps, wideKeys, modest, calm, conditions, laid).
  DERIVED. THE GIVEN ROWS OF THIS SEAT. 10 by the template 'for every input the law returns true; each argument reads behind the call as it read before'; 0 by the template 'total and deterministic' (their statements: YtbijpkphbepacaaTotals.lean).
  GIVEN WITH THE SEED: the statements are not yours to turn. If you find one false, say at which input.
  Laid BY PROGRAM, IN A SANDBOX (cutbox-rows.mjs): the forced cells as the released guide's own fill.sh prints them over the translation e1ecb8cc394c9b57… (all of the seat's roots in one cut). By AI agents, Wed Nov 11 2026. No macro, syntax, notation, axiom, sorry.
-/
import Derived.Test.YtbijpkphbepacaaChecked
import GoSem.Claim
import GoSem.ClaimJoined
import GoSem.ClaimMapViews
import Derived.JoinedTies
import Derived.KernelRfl
namespace Go.Proofs.Ytbijpkphbepacaa
/- THE CELL 'sum', in the pinned program and in every row, IS THE sha256 OF THE DUMP (.gsa) THAT YtbijpkphbepacaaProg.lean LOADS. Nothing in Lean hashes anything: it is a label: what it is worth is what the hold of that sum in a sandbox is worth. -/
noncomputable def Try.pinned : Pinned := { name := "ytbijpkphbepacaa", sum := "e1ecb8cc394c9b5770a905ea218cdd75b1b8b3253b80e3fbdd54e82021409d40", checked := Try.checked }
namespace Rows
def none {H : Type} : Left H := { results := [], args := [] }

/-- 'laws.FnExactTreeOk': WHATEVER THE INPUT: true; the input reads as it did. -/
def fnExactTreeOkSpec : ChangeSpec := { name := "fnExactTreeOk", fn := fun _ => fun
  | [d1, d2] => { results := [.lit (.bool true)], args := [d1, d2] }
  | _ => none }
def fnExactTreeOkRow : OpenClaim := { program := "ytbijpkphbepacaa", sum := "e1ecb8cc394c9b5770a905ea218cdd75b1b8b3253b80e3fbdd54e82021409d40", func := "loop.example/questiongames/laws.FnExactTreeOk", spec := "fnExactTreeOk", recurses := true, apart := false }
def FnExactTreeOkSaid : Prop := fnExactTreeOkRow.holds Try.pinned (OpenSpec.ofChange fnExactTreeOkSpec)

/-- ITS FALSE NEIGHBOUR: 'it returns false'. Refute it at one input. -/
def fnExactTreeOkWrong : ChangeSpec := { name := "fnExactTreeOk", fn := fun _ => fun
  | [d1, d2] => { results := [.lit (.bool false)], args := [d1, d2] }
  | _ => none }
def FnExactTreeOkWrongFalsely : Prop := fnExactTreeOkRow.holds Try.pinned (OpenSpec.ofChange fnExactTreeOkWrong)

/-- 'laws.FnExactWorstOf': WHATEVER THE INPUT: true; the input reads as it did. -/
def fnExactWorstOfSpec : ChangeSpec := { name := "fnExactWorstOf", fn := fun _ => fun
  | [d1, d2] => { results := [.lit (.bool true)], args := [d1, d2] }
  | _ => none }
def fnExactWorstOfRow : OpenClaim := { program := "ytbijpkphbepacaa", sum := "e1ecb8cc394c9b5770a905ea218cdd75b1b8b3253b80e3fbdd54e82021409d40", func := "loop.example/questiongames/laws.FnExactWorstOf", spec := "fnExactWorstOf", recurses := true, apart := false }
def FnExactWorstOfSaid : Prop := fnExactWorstOfRow.holds Try.pinned (OpenSpec.ofChange fnExactWorstOfSpec)

/-- ITS FALSE NEIGHBOUR: 'it returns false'. Refute it at one input. -/
def fnExactWorstOfWrong : ChangeSpec := { name := "fnExactWorstOf", fn := fun _ => fun
  | [d1, d2] => { results := [.lit (.bool false)], args := [d1, d2] }
  | _ => none }
def FnExactWorstOfWrongFalsely : Prop := fnExactWorstOfRow.holds Try.pinned (OpenSpec.ofChange fnExactWorstOfWrong)

/-- 'laws.FnExactAskedFor': WHATEVER THE INPUT: true; the input reads as it did. -/
def fnExactAskedForSpec : ChangeSpec := { name := "fnExactAskedFor", fn := fun _ => fun
  | [d1, d2, d3] => { results := [.lit (.bool true)], args := [d1, d2, d3] }
  | _ => none }
def fnExactAskedForRow : OpenClaim := { program := "ytbijpkphbepacaa", sum := "e1ecb8cc394c9b5770a905ea218cdd75b1b8b3253b80e3fbdd54e82021409d40", func := "loop.example/questiongames/laws.FnExactAskedFor", spec := "fnExactAskedFor", recurses := true, apart := false }
def FnExactAskedForSaid : Prop := fnExactAskedForRow.holds Try.pinned (OpenSpec.ofChange fnExactAskedForSpec)

/-- ITS FALSE NEIGHBOUR: 'it returns false'. Refute it at one input. -/
def fnExactAskedForWrong : ChangeSpec := { name := "fnExactAskedFor", fn := fun _ => fun
  | [d1, d2, d3] => { results := [.lit (.bool false)], args := [d1, d2, d3] }
  | _ => none }
def FnExactAskedForWrongFalsely : Prop := fnExactAskedForRow.holds Try.pinned (OpenSpec.ofChange fnExactAskedForWrong)

/-- 'laws.FnExactDepthsOf': WHATEVER THE INPUT: true; the input reads as it did. -/
def fnExactDepthsOfSpec : ChangeSpec := { name := "fnExactDepthsOf", fn := fun _ => fun
  | [d1, d2] => { results := [.lit (.bool true)], args := [d1, d2] }
  | _ => none }
def fnExactDepthsOfRow : OpenClaim := { program := "ytbijpkphbepacaa", sum := "e1ecb8cc394c9b5770a905ea218cdd75b1b8b3253b80e3fbdd54e82021409d40", func := "loop.example/questiongames/laws.FnExactDepthsOf", spec := "fnExactDepthsOf", recurses := true, apart := false }
def FnExactDepthsOfSaid : Prop := fnExactDepthsOfRow.holds Try.pinned (OpenSpec.ofChange fnExactDepthsOfSpec)

/-- ITS FALSE NEIGHBOUR: 'it returns false'. Refute it at one input. -/
def fnExactDepthsOfWrong : ChangeSpec := { name := "fnExactDepthsOf", fn := fun _ => fun
  | [d1, d2] => { results := [.lit (.bool false)], args := [d1, d2] }
  | _ => none }
def FnExactDepthsOfWrongFalsely : Prop := fnExactDepthsOfRow.holds Try.pinned (OpenSpec.ofChange fnExactDepthsOfWrong)

/-- 'laws.FnExactCostOf': WHATEVER THE INPUT: true; the input reads as it did. -/
def fnExactCostOfSpec : ChangeSpec := { name := "fnExactCostOf", fn := fun _ => fun
  | [d1, d2] => { results := [.lit (.bool true)], args := [d1, d2] }
  | _ => none }
def fnExactCostOfRow : OpenClaim := { program := "ytbijpkphbepacaa", sum := "e1ecb8cc394c9b5770a905ea218cdd75b1b8b3253b80e3fbdd54e82021409d40", func := "loop.example/questiongames/laws.FnExactCostOf", spec := "fnExactCostOf", unfollowed := true, recurses := true, apart := false }
def FnExactCostOfSaid : Prop := fnExactCostOfRow.holds Try.pinned (OpenSpec.ofChange fnExactCostOfSpec)

/-- ITS FALSE NEIGHBOUR: 'it returns false'. Refute it at one input. -/
def fnExactCostOfWrong : ChangeSpec := { name := "fnExactCostOf", fn := fun _ => fun
  | [d1, d2] => { results := [.lit (.bool false)], args := [d1, d2] }
  | _ => none }
def FnExactCostOfWrongFalsely : Prop := fnExactCostOfRow.holds Try.pinned (OpenSpec.ofChange fnExactCostOfWrong)

/-- 'laws.FnHalvesOf': WHATEVER THE INPUT: true; the input reads as it did. -/
def fnHalvesOfSpec : ChangeSpec := { name := "fnHalvesOf", fn := fun _ => fun
  | [d] => { results := [.lit (.bool true)], args := [d] }
  | _ => none }
def fnHalvesOfRow : OpenClaim := { program := "ytbijpkphbepacaa", sum := "e1ecb8cc394c9b5770a905ea218cdd75b1b8b3253b80e3fbdd54e82021409d40", func := "loop.example/questiongames/laws.FnHalvesOf", spec := "fnHalvesOf", recurses := true, apart := false }
def FnHalvesOfSaid : Prop := fnHalvesOfRow.holds Try.pinned (OpenSpec.ofChange fnHalvesOfSpec)

/-- ITS FALSE NEIGHBOUR: 'it returns false'. Refute it at one input. -/
def fnHalvesOfWrong : ChangeSpec := { name := "fnHalvesOf", fn := fun _ => fun
  | [d] => { results := [.lit (.bool false)], args := [d] }
  | _ => none }
def FnHalvesOfWrongFalsely : Prop := fnHalvesOfRow.holds Try.pinned (OpenSpec.ofChange fnHalvesOfWrong)

/-- 'laws.FnTreeOk': WHATEVER THE INPUT: true; the input reads as it did. -/
def fnTreeOkSpec : ChangeSpec := { name := "fnTreeOk", fn := fun _ => fun
  | [d] => { results := [.lit (.bool true)], args := [d] }
  | _ => none }
def fnTreeOkRow : OpenClaim := { program := "ytbijpkphbepacaa", sum := "e1ecb8cc394c9b5770a905ea218cdd75b1b8b3253b80e3fbdd54e82021409d40", func := "loop.example/questiongames/laws.FnTreeOk", spec := "fnTreeOk", recurses := true, apart := false }
def FnTreeOkSaid : Prop := fnTreeOkRow.holds Try.pinned (OpenSpec.ofChange fnTreeOkSpec)

/-- ITS FALSE NEIGHBOUR: 'it returns false'. Refute it at one input. -/
def fnTreeOkWrong : ChangeSpec := { name := "fnTreeOk", fn := fun _ => fun
  | [d] => { results := [.lit (.bool false)], args := [d] }
  | _ => none }
def FnTreeOkWrongFalsely : Prop := fnTreeOkRow.holds Try.pinned (OpenSpec.ofChange fnTreeOkWrong)

/-- 'laws.FnDepthsOf': WHATEVER THE INPUT: true; the input reads as it did. -/
def fnDepthsOfSpec : ChangeSpec := { name := "fnDepthsOf", fn := fun _ => fun
  | [d] => { results := [.lit (.bool true)], args := [d] }
  | _ => none }
def fnDepthsOfRow : OpenClaim := { program := "ytbijpkphbepacaa", sum := "e1ecb8cc394c9b5770a905ea218cdd75b1b8b3253b80e3fbdd54e82021409d40", func := "loop.example/questiongames/laws.FnDepthsOf", spec := "fnDepthsOf", recurses := true, apart := false }
def FnDepthsOfSaid : Prop := fnDepthsOfRow.holds Try.pinned (OpenSpec.ofChange fnDepthsOfSpec)

/-- ITS FALSE NEIGHBOUR: 'it returns false'. Refute it at one input. -/
def fnDepthsOfWrong : ChangeSpec := { name := "fnDepthsOf", fn := fun _ => fun
  | [d] => { results := [.lit (.bool false)], args := [d] }
  | _ => none }
def FnDepthsOfWrongFalsely : Prop := fnDepthsOfRow.holds Try.pinned (OpenSpec.ofChange fnDepthsOfWrong)

/-- 'laws.FnAskedFor': WHATEVER THE INPUT: true; the input reads as it did. -/
def fnAskedForSpec : ChangeSpec := { name := "fnAskedFor", fn := fun _ => fun
  | [d] => { results := [.lit (.bool true)], args := [d] }
  | _ => none }
def fnAskedForRow : OpenClaim := { program := "ytbijpkphbepacaa", sum := "e1ecb8cc394c9b5770a905ea218cdd75b1b8b3253b80e3fbdd54e82021409d40", func := "loop.example/questiongames/laws.FnAskedFor", spec := "fnAskedFor", recurses := true, apart := false }
def FnAskedForSaid : Prop := fnAskedForRow.holds Try.pinned (OpenSpec.ofChange fnAskedForSpec)

/-- ITS FALSE NEIGHBOUR: 'it returns false'. Refute it at one input. -/
def fnAskedForWrong : ChangeSpec := { name := "fnAskedFor", fn := fun _ => fun
  | [d] => { results := [.lit (.bool false)], args := [d] }
  | _ => none }
def FnAskedForWrongFalsely : Prop := fnAskedForRow.holds Try.pinned (OpenSpec.ofChange fnAskedForWrong)

/-- 'laws.FnWorstOf': WHATEVER THE INPUT: true; the input reads as it did. -/
def fnWorstOfSpec : ChangeSpec := { name := "fnWorstOf", fn := fun _ => fun
  | [d] => { results := [.lit (.bool true)], args := [d] }
  | _ => none }
def fnWorstOfRow : OpenClaim := { program := "ytbijpkphbepacaa", sum := "e1ecb8cc394c9b5770a905ea218cdd75b1b8b3253b80e3fbdd54e82021409d40", func := "loop.example/questiongames/laws.FnWorstOf", spec := "fnWorstOf", recurses := true, apart := false }
def FnWorstOfSaid : Prop := fnWorstOfRow.holds Try.pinned (OpenSpec.ofChange fnWorstOfSpec)

/-- ITS FALSE NEIGHBOUR: 'it returns false'. Refute it at one input. -/
def fnWorstOfWrong : ChangeSpec := { name := "fnWorstOf", fn := fun _ => fun
  | [d] => { results := [.lit (.bool false)], args := [d] }
  | _ => none }
def FnWorstOfWrongFalsely : Prop := fnWorstOfRow.holds Try.pinned (OpenSpec.ofChange fnWorstOfWrong)

/- THE SECOND FORM. 'bulk': how many values and letters a reading holds, each counted each time it is reached (what is shared counts as often as it is met; a slice's spare places count too). A statement '..UptoSaid' is the law's where the arguments, and the package variables that the reading takes, are together of bulk at most 1048576: NARROWER than '..Said'. Prove '..Said' where nothing that the law and all that it calls make is longer than what came in: it says more and counts as full. Else prove '..UptoSaid'. A law counts once. -/
mutual
def uptoBulk {H : Type} : DataW H → Nat
  | .lit (.string bytes) => bytes.length + 1
  | .lit _ => 1
  | .nil => 1
  | .ptr d => uptoBulk d + 1
  | .slice elems spare => uptoBulkAll elems + uptoBulkAll spare + 1
  | .agg parts => uptoBulkAll parts + 1
  | .iface _ d => uptoBulk d + 1
  | .map entries => uptoBulkEntries entries + 1
  | .held _ => 1
def uptoBulkAll {H : Type} : List (DataW H) → Nat
  | [] => 0
  | d :: r => uptoBulk d + uptoBulkAll r
def uptoBulkEntries {H : Type} : List (Lit × DataW H) → Nat
  | [] => 0
  | x :: r => uptoBulkEntry x + uptoBulkEntries r
def uptoBulkEntry {H : Type} : Lit × DataW H → Nat
  | (.string bytes, d) => bytes.length + uptoBulk d + 1
  | (_, d) => uptoBulk d + 1
 end
def uptoSmall : (H : Type) → List (DataW H) → Bool := fun _ ds => decide (uptoBulkAll ds ≤ 1048576)
def OpenSpec.upto (s : _root_.Go.ChangeSpec) : _root_.Go.OpenSpec := { _root_.Go.OpenSpec.ofChange s with cond := some uptoSmall }

/-- 'laws.FnExactTreeOk', WHERE WHAT IT READS IS OF BULK AT MOST 1048576: true; the input reads as it did. -/
def fnExactTreeOkUptoRow : OpenClaim := { program := "ytbijpkphbepacaa", sum := "e1ecb8cc394c9b5770a905ea218cdd75b1b8b3253b80e3fbdd54e82021409d40", func := "loop.example/questiongames/laws.FnExactTreeOk", spec := "fnExactTreeOk", recurses := true, apart := false, narrowed := true }
def FnExactTreeOkUptoSaid : Prop := fnExactTreeOkUptoRow.holds Try.pinned (OpenSpec.upto fnExactTreeOkSpec)

/-- 'laws.FnExactWorstOf', WHERE WHAT IT READS IS OF BULK AT MOST 1048576: true; the input reads as it did. -/
def fnExactWorstOfUptoRow : OpenClaim := { program := "ytbijpkphbepacaa", sum := "e1ecb8cc394c9b5770a905ea218cdd75b1b8b3253b80e3fbdd54e82021409d40", func := "loop.example/questiongames/laws.FnExactWorstOf", spec := "fnExactWorstOf", recurses := true, apart := false, narrowed := true }
def FnExactWorstOfUptoSaid : Prop := fnExactWorstOfUptoRow.holds Try.pinned (OpenSpec.upto fnExactWorstOfSpec)

/-- 'laws.FnExactAskedFor', WHERE WHAT IT READS IS OF BULK AT MOST 1048576: true; the input reads as it did. -/
def fnExactAskedForUptoRow : OpenClaim := { program := "ytbijpkphbepacaa", sum := "e1ecb8cc394c9b5770a905ea218cdd75b1b8b3253b80e3fbdd54e82021409d40", func := "loop.example/questiongames/laws.FnExactAskedFor", spec := "fnExactAskedFor", recurses := true, apart := false, narrowed := true }
def FnExactAskedForUptoSaid : Prop := fnExactAskedForUptoRow.holds Try.pinned (OpenSpec.upto fnExactAskedForSpec)

/-- 'laws.FnExactDepthsOf', WHERE WHAT IT READS IS OF BULK AT MOST 1048576: true; the input reads as it did. -/
def fnExactDepthsOfUptoRow : OpenClaim := { program := "ytbijpkphbepacaa", sum := "e1ecb8cc394c9b5770a905ea218cdd75b1b8b3253b80e3fbdd54e82021409d40", func := "loop.example/questiongames/laws.FnExactDepthsOf", spec := "fnExactDepthsOf", recurses := true, apart := false, narrowed := true }
def FnExactDepthsOfUptoSaid : Prop := fnExactDepthsOfUptoRow.holds Try.pinned (OpenSpec.upto fnExactDepthsOfSpec)

/-- 'laws.FnExactCostOf', WHERE WHAT IT READS IS OF BULK AT MOST 1048576: true; the input reads as it did. -/
def fnExactCostOfUptoRow : OpenClaim := { program := "ytbijpkphbepacaa", sum := "e1ecb8cc394c9b5770a905ea218cdd75b1b8b3253b80e3fbdd54e82021409d40", func := "loop.example/questiongames/laws.FnExactCostOf", spec := "fnExactCostOf", unfollowed := true, recurses := true, apart := false, narrowed := true }
def FnExactCostOfUptoSaid : Prop := fnExactCostOfUptoRow.holds Try.pinned (OpenSpec.upto fnExactCostOfSpec)

/-- 'laws.FnHalvesOf', WHERE WHAT IT READS IS OF BULK AT MOST 1048576: true; the input reads as it did. -/
def fnHalvesOfUptoRow : OpenClaim := { program := "ytbijpkphbepacaa", sum := "e1ecb8cc394c9b5770a905ea218cdd75b1b8b3253b80e3fbdd54e82021409d40", func := "loop.example/questiongames/laws.FnHalvesOf", spec := "fnHalvesOf", recurses := true, apart := false, narrowed := true }
def FnHalvesOfUptoSaid : Prop := fnHalvesOfUptoRow.holds Try.pinned (OpenSpec.upto fnHalvesOfSpec)

/-- 'laws.FnTreeOk', WHERE WHAT IT READS IS OF BULK AT MOST 1048576: true; the input reads as it did. -/
def fnTreeOkUptoRow : OpenClaim := { program := "ytbijpkphbepacaa", sum := "e1ecb8cc394c9b5770a905ea218cdd75b1b8b3253b80e3fbdd54e82021409d40", func := "loop.example/questiongames/laws.FnTreeOk", spec := "fnTreeOk", recurses := true, apart := false, narrowed := true }
def FnTreeOkUptoSaid : Prop := fnTreeOkUptoRow.holds Try.pinned (OpenSpec.upto fnTreeOkSpec)

/-- 'laws.FnDepthsOf', WHERE WHAT IT READS IS OF BULK AT MOST 1048576: true; the input reads as it did. -/
def fnDepthsOfUptoRow : OpenClaim := { program := "ytbijpkphbepacaa", sum := "e1ecb8cc394c9b5770a905ea218cdd75b1b8b3253b80e3fbdd54e82021409d40", func := "loop.example/questiongames/laws.FnDepthsOf", spec := "fnDepthsOf", recurses := true, apart := false, narrowed := true }
def FnDepthsOfUptoSaid : Prop := fnDepthsOfUptoRow.holds Try.pinned (OpenSpec.upto fnDepthsOfSpec)

/-- 'laws.FnAskedFor', WHERE WHAT IT READS IS OF BULK AT MOST 1048576: true; the input reads as it did. -/
def fnAskedForUptoRow : OpenClaim := { program := "ytbijpkphbepacaa", sum := "e1ecb8cc394c9b5770a905ea218cdd75b1b8b3253b80e3fbdd54e82021409d40", func := "loop.example/questiongames/laws.FnAskedFor", spec := "fnAskedFor", recurses := true, apart := false, narrowed := true }
def FnAskedForUptoSaid : Prop := fnAskedForUptoRow.holds Try.pinned (OpenSpec.upto fnAskedForSpec)

/-- 'laws.FnWorstOf', WHERE WHAT IT READS IS OF BULK AT MOST 1048576: true; the input reads as it did. -/
def fnWorstOfUptoRow : OpenClaim := { program := "ytbijpkphbepacaa", sum := "e1ecb8cc394c9b5770a905ea218cdd75b1b8b3253b80e3fbdd54e82021409d40", func := "loop.example/questiongames/laws.FnWorstOf", spec := "fnWorstOf", recurses := true, apart := false, narrowed := true }
def FnWorstOfUptoSaid : Prop := fnWorstOfUptoRow.holds Try.pinned (OpenSpec.upto fnWorstOfSpec)

end Rows
end Go.Proofs.Ytbijpkphbepacaa
