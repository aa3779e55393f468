/-
  No cell of these rows narrows 'for every input' (looked for: loops, veiled, ifaces, maps, wideKeys, modest, calm, conditions, laid).
  DERIVED. THE GIVEN ROWS OF THIS SEAT. 9 by the template 'for every input the law returns true; each argument reads behind the call as it read before'; 0 by the template 'total and deterministic' (their statements: YtfhklaoemfhamaaTotals.lean).
  GIVEN WITH THE SEED: the statements are not yours to turn. If you find one false, say at which input.
  Laid BY PROGRAM, IN A SANDBOX (cutbox-rows.mjs): the forced cells as the released guide's own fill.sh prints them over the translation 85ef165a840ac8c8… (all of the seat's roots in one cut). By AI agents, Wed Nov 11 2026. No macro, syntax, notation, axiom, sorry.
-/
import Derived.Test.YtfhklaoemfhamaaChecked
import GoSem.Claim
import GoSem.ClaimJoined
import GoSem.ClaimMapViews
import Derived.JoinedTies
import Derived.KernelRfl
namespace Go.Proofs.Ytfhklaoemfhamaa
/- THE CELL 'sum', in the pinned program and in every row, IS THE sha256 OF THE DUMP (.gsa) THAT YtfhklaoemfhamaaProg.lean LOADS. Nothing in Lean hashes anything: it is a label: what it is worth is what the hold of that sum in a sandbox is worth. -/
noncomputable def Try.pinned : Pinned := { name := "ytfhklaoemfhamaa", sum := "85ef165a840ac8c8a90da8b889a7007fc3d45809416968ca3715cc49cf1d2f20", checked := Try.checked }
namespace Rows
def none {H : Type} : Left H := { results := [], args := [] }

/-- 'laws.FnExactKnownOk': WHATEVER THE INPUT: true; the input reads as it did. -/
def fnExactKnownOkSpec : ChangeSpec := { name := "fnExactKnownOk", fn := fun _ => fun
  | [d] => { results := [.lit (.bool true)], args := [d] }
  | _ => none }
def fnExactKnownOkRow : OpenClaim := { program := "ytfhklaoemfhamaa", sum := "85ef165a840ac8c8a90da8b889a7007fc3d45809416968ca3715cc49cf1d2f20", func := "loop.example/questiongames/laws.FnExactKnownOk", spec := "fnExactKnownOk", unfollowed := true, recurses := true, apart := false }
def FnExactKnownOkSaid : Prop := fnExactKnownOkRow.holds Try.pinned (OpenSpec.ofChange fnExactKnownOkSpec)

/-- ITS FALSE NEIGHBOUR: 'it returns false'. Refute it at one input. -/
def fnExactKnownOkWrong : ChangeSpec := { name := "fnExactKnownOk", fn := fun _ => fun
  | [d] => { results := [.lit (.bool false)], args := [d] }
  | _ => none }
def FnExactKnownOkWrongFalsely : Prop := fnExactKnownOkRow.holds Try.pinned (OpenSpec.ofChange fnExactKnownOkWrong)

/-- 'laws.FnExactSplitOk': WHATEVER THE INPUT: true; the input reads as it did. -/
def fnExactSplitOkSpec : ChangeSpec := { name := "fnExactSplitOk", fn := fun _ => fun
  | [d1, d2] => { results := [.lit (.bool true)], args := [d1, d2] }
  | _ => none }
def fnExactSplitOkRow : OpenClaim := { program := "ytfhklaoemfhamaa", sum := "85ef165a840ac8c8a90da8b889a7007fc3d45809416968ca3715cc49cf1d2f20", func := "loop.example/questiongames/laws.FnExactSplitOk", spec := "fnExactSplitOk", unfollowed := true, recurses := true, apart := false }
def FnExactSplitOkSaid : Prop := fnExactSplitOkRow.holds Try.pinned (OpenSpec.ofChange fnExactSplitOkSpec)

/-- ITS FALSE NEIGHBOUR: 'it returns false'. Refute it at one input. -/
def fnExactSplitOkWrong : ChangeSpec := { name := "fnExactSplitOk", fn := fun _ => fun
  | [d1, d2] => { results := [.lit (.bool false)], args := [d1, d2] }
  | _ => none }
def FnExactSplitOkWrongFalsely : Prop := fnExactSplitOkRow.holds Try.pinned (OpenSpec.ofChange fnExactSplitOkWrong)

/-- 'laws.FnExactWeightOf': WHATEVER THE INPUT: true; the input reads as it did. -/
def fnExactWeightOfSpec : ChangeSpec := { name := "fnExactWeightOf", fn := fun _ => fun
  | [d1, d2] => { results := [.lit (.bool true)], args := [d1, d2] }
  | _ => none }
def fnExactWeightOfRow : OpenClaim := { program := "ytfhklaoemfhamaa", sum := "85ef165a840ac8c8a90da8b889a7007fc3d45809416968ca3715cc49cf1d2f20", func := "loop.example/questiongames/laws.FnExactWeightOf", spec := "fnExactWeightOf", unfollowed := true, recurses := true, apart := false }
def FnExactWeightOfSaid : Prop := fnExactWeightOfRow.holds Try.pinned (OpenSpec.ofChange fnExactWeightOfSpec)

/-- ITS FALSE NEIGHBOUR: 'it returns false'. Refute it at one input. -/
def fnExactWeightOfWrong : ChangeSpec := { name := "fnExactWeightOf", fn := fun _ => fun
  | [d1, d2] => { results := [.lit (.bool false)], args := [d1, d2] }
  | _ => none }
def FnExactWeightOfWrongFalsely : Prop := fnExactWeightOfRow.holds Try.pinned (OpenSpec.ofChange fnExactWeightOfWrong)

/-- 'laws.FnExactBoundFor': WHATEVER THE INPUT: true; the input reads as it did. -/
def fnExactBoundForSpec : ChangeSpec := { name := "fnExactBoundFor", fn := fun _ => fun
  | [d] => { results := [.lit (.bool true)], args := [d] }
  | _ => none }
def fnExactBoundForRow : OpenClaim := { program := "ytfhklaoemfhamaa", sum := "85ef165a840ac8c8a90da8b889a7007fc3d45809416968ca3715cc49cf1d2f20", func := "loop.example/questiongames/laws.FnExactBoundFor", spec := "fnExactBoundFor", unfollowed := true, recurses := true, apart := false }
def FnExactBoundForSaid : Prop := fnExactBoundForRow.holds Try.pinned (OpenSpec.ofChange fnExactBoundForSpec)

/-- ITS FALSE NEIGHBOUR: 'it returns false'. Refute it at one input. -/
def fnExactBoundForWrong : ChangeSpec := { name := "fnExactBoundFor", fn := fun _ => fun
  | [d] => { results := [.lit (.bool false)], args := [d] }
  | _ => none }
def FnExactBoundForWrongFalsely : Prop := fnExactBoundForRow.holds Try.pinned (OpenSpec.ofChange fnExactBoundForWrong)

/-- 'laws.FnExactAfterYes': WHATEVER THE INPUT: true; the input reads as it did. -/
def fnExactAfterYesSpec : ChangeSpec := { name := "fnExactAfterYes", fn := fun _ => fun
  | [d1, d2] => { results := [.lit (.bool true)], args := [d1, d2] }
  | _ => none }
def fnExactAfterYesRow : OpenClaim := { program := "ytfhklaoemfhamaa", sum := "85ef165a840ac8c8a90da8b889a7007fc3d45809416968ca3715cc49cf1d2f20", func := "loop.example/questiongames/laws.FnExactAfterYes", spec := "fnExactAfterYes", unfollowed := true, recurses := true, apart := false }
def FnExactAfterYesSaid : Prop := fnExactAfterYesRow.holds Try.pinned (OpenSpec.ofChange fnExactAfterYesSpec)

/-- ITS FALSE NEIGHBOUR: 'it returns false'. Refute it at one input. -/
def fnExactAfterYesWrong : ChangeSpec := { name := "fnExactAfterYes", fn := fun _ => fun
  | [d1, d2] => { results := [.lit (.bool false)], args := [d1, d2] }
  | _ => none }
def FnExactAfterYesWrongFalsely : Prop := fnExactAfterYesRow.holds Try.pinned (OpenSpec.ofChange fnExactAfterYesWrong)

/-- 'laws.FnExactAfterNo': WHATEVER THE INPUT: true; the input reads as it did. -/
def fnExactAfterNoSpec : ChangeSpec := { name := "fnExactAfterNo", fn := fun _ => fun
  | [d1, d2] => { results := [.lit (.bool true)], args := [d1, d2] }
  | _ => none }
def fnExactAfterNoRow : OpenClaim := { program := "ytfhklaoemfhamaa", sum := "85ef165a840ac8c8a90da8b889a7007fc3d45809416968ca3715cc49cf1d2f20", func := "loop.example/questiongames/laws.FnExactAfterNo", spec := "fnExactAfterNo", unfollowed := true, recurses := true, apart := false }
def FnExactAfterNoSaid : Prop := fnExactAfterNoRow.holds Try.pinned (OpenSpec.ofChange fnExactAfterNoSpec)

/-- ITS FALSE NEIGHBOUR: 'it returns false'. Refute it at one input. -/
def fnExactAfterNoWrong : ChangeSpec := { name := "fnExactAfterNo", fn := fun _ => fun
  | [d1, d2] => { results := [.lit (.bool false)], args := [d1, d2] }
  | _ => none }
def FnExactAfterNoWrongFalsely : Prop := fnExactAfterNoRow.holds Try.pinned (OpenSpec.ofChange fnExactAfterNoWrong)

/-- 'laws.FnKnownOk': WHATEVER THE INPUT: true; the input reads as it did. -/
def fnKnownOkSpec : ChangeSpec := { name := "fnKnownOk", fn := fun _ => fun
  | [d] => { results := [.lit (.bool true)], args := [d] }
  | _ => none }
def fnKnownOkRow : OpenClaim := { program := "ytfhklaoemfhamaa", sum := "85ef165a840ac8c8a90da8b889a7007fc3d45809416968ca3715cc49cf1d2f20", func := "loop.example/questiongames/laws.FnKnownOk", spec := "fnKnownOk", unfollowed := true, recurses := true, apart := false }
def FnKnownOkSaid : Prop := fnKnownOkRow.holds Try.pinned (OpenSpec.ofChange fnKnownOkSpec)

/-- ITS FALSE NEIGHBOUR: 'it returns false'. Refute it at one input. -/
def fnKnownOkWrong : ChangeSpec := { name := "fnKnownOk", fn := fun _ => fun
  | [d] => { results := [.lit (.bool false)], args := [d] }
  | _ => none }
def FnKnownOkWrongFalsely : Prop := fnKnownOkRow.holds Try.pinned (OpenSpec.ofChange fnKnownOkWrong)

/-- 'laws.FnSplitOk': WHATEVER THE INPUT: true; the input reads as it did. -/
def fnSplitOkSpec : ChangeSpec := { name := "fnSplitOk", fn := fun _ => fun
  | [d] => { results := [.lit (.bool true)], args := [d] }
  | _ => none }
def fnSplitOkRow : OpenClaim := { program := "ytfhklaoemfhamaa", sum := "85ef165a840ac8c8a90da8b889a7007fc3d45809416968ca3715cc49cf1d2f20", func := "loop.example/questiongames/laws.FnSplitOk", spec := "fnSplitOk", unfollowed := true, recurses := true, apart := false }
def FnSplitOkSaid : Prop := fnSplitOkRow.holds Try.pinned (OpenSpec.ofChange fnSplitOkSpec)

/-- ITS FALSE NEIGHBOUR: 'it returns false'. Refute it at one input. -/
def fnSplitOkWrong : ChangeSpec := { name := "fnSplitOk", fn := fun _ => fun
  | [d] => { results := [.lit (.bool false)], args := [d] }
  | _ => none }
def FnSplitOkWrongFalsely : Prop := fnSplitOkRow.holds Try.pinned (OpenSpec.ofChange fnSplitOkWrong)

/-- 'laws.FnWeightOf': WHATEVER THE INPUT: true; the input reads as it did. -/
def fnWeightOfSpec : ChangeSpec := { name := "fnWeightOf", fn := fun _ => fun
  | [d] => { results := [.lit (.bool true)], args := [d] }
  | _ => none }
def fnWeightOfRow : OpenClaim := { program := "ytfhklaoemfhamaa", sum := "85ef165a840ac8c8a90da8b889a7007fc3d45809416968ca3715cc49cf1d2f20", func := "loop.example/questiongames/laws.FnWeightOf", spec := "fnWeightOf", unfollowed := true, recurses := true, apart := false }
def FnWeightOfSaid : Prop := fnWeightOfRow.holds Try.pinned (OpenSpec.ofChange fnWeightOfSpec)

/-- ITS FALSE NEIGHBOUR: 'it returns false'. Refute it at one input. -/
def fnWeightOfWrong : ChangeSpec := { name := "fnWeightOf", fn := fun _ => fun
  | [d] => { results := [.lit (.bool false)], args := [d] }
  | _ => none }
def FnWeightOfWrongFalsely : Prop := fnWeightOfRow.holds Try.pinned (OpenSpec.ofChange fnWeightOfWrong)

/- THE SECOND FORM. 'bulk': how many values and letters a reading holds, each counted each time it is reached (what is shared counts as often as it is met; a slice's spare places count too). A statement '..UptoSaid' is the law's where the arguments, and the package variables that the reading takes, are together of bulk at most 1048576: NARROWER than '..Said'. Prove '..Said' where nothing that the law and all that it calls make is longer than what came in: it says more and counts as full. Else prove '..UptoSaid'. A law counts once. -/
mutual
def uptoBulk {H : Type} : DataW H → Nat
  | .lit (.string bytes) => bytes.length + 1
  | .lit _ => 1
  | .nil => 1
  | .ptr d => uptoBulk d + 1
  | .slice elems spare => uptoBulkAll elems + uptoBulkAll spare + 1
  | .agg parts => uptoBulkAll parts + 1
  | .iface _ d => uptoBulk d + 1
  | .map entries => uptoBulkEntries entries + 1
  | .held _ => 1
def uptoBulkAll {H : Type} : List (DataW H) → Nat
  | [] => 0
  | d :: r => uptoBulk d + uptoBulkAll r
def uptoBulkEntries {H : Type} : List (Lit × DataW H) → Nat
  | [] => 0
  | x :: r => uptoBulkEntry x + uptoBulkEntries r
def uptoBulkEntry {H : Type} : Lit × DataW H → Nat
  | (.string bytes, d) => bytes.length + uptoBulk d + 1
  | (_, d) => uptoBulk d + 1
 end
def uptoSmall : (H : Type) → List (DataW H) → Bool := fun _ ds => decide (uptoBulkAll ds ≤ 1048576)
def OpenSpec.upto (s : _root_.Go.ChangeSpec) : _root_.Go.OpenSpec := { _root_.Go.OpenSpec.ofChange s with cond := some uptoSmall }

/-- 'laws.FnExactKnownOk', WHERE WHAT IT READS IS OF BULK AT MOST 1048576: true; the input reads as it did. -/
def fnExactKnownOkUptoRow : OpenClaim := { program := "ytfhklaoemfhamaa", sum := "85ef165a840ac8c8a90da8b889a7007fc3d45809416968ca3715cc49cf1d2f20", func := "loop.example/questiongames/laws.FnExactKnownOk", spec := "fnExactKnownOk", unfollowed := true, recurses := true, apart := false, narrowed := true }
def FnExactKnownOkUptoSaid : Prop := fnExactKnownOkUptoRow.holds Try.pinned (OpenSpec.upto fnExactKnownOkSpec)

/-- 'laws.FnExactSplitOk', WHERE WHAT IT READS IS OF BULK AT MOST 1048576: true; the input reads as it did. -/
def fnExactSplitOkUptoRow : OpenClaim := { program := "ytfhklaoemfhamaa", sum := "85ef165a840ac8c8a90da8b889a7007fc3d45809416968ca3715cc49cf1d2f20", func := "loop.example/questiongames/laws.FnExactSplitOk", spec := "fnExactSplitOk", unfollowed := true, recurses := true, apart := false, narrowed := true }
def FnExactSplitOkUptoSaid : Prop := fnExactSplitOkUptoRow.holds Try.pinned (OpenSpec.upto fnExactSplitOkSpec)

/-- 'laws.FnExactWeightOf', WHERE WHAT IT READS IS OF BULK AT MOST 1048576: true; the input reads as it did. -/
def fnExactWeightOfUptoRow : OpenClaim := { program := "ytfhklaoemfhamaa", sum := "85ef165a840ac8c8a90da8b889a7007fc3d45809416968ca3715cc49cf1d2f20", func := "loop.example/questiongames/laws.FnExactWeightOf", spec := "fnExactWeightOf", unfollowed := true, recurses := true, apart := false, narrowed := true }
def FnExactWeightOfUptoSaid : Prop := fnExactWeightOfUptoRow.holds Try.pinned (OpenSpec.upto fnExactWeightOfSpec)

/-- 'laws.FnExactBoundFor', WHERE WHAT IT READS IS OF BULK AT MOST 1048576: true; the input reads as it did. -/
def fnExactBoundForUptoRow : OpenClaim := { program := "ytfhklaoemfhamaa", sum := "85ef165a840ac8c8a90da8b889a7007fc3d45809416968ca3715cc49cf1d2f20", func := "loop.example/questiongames/laws.FnExactBoundFor", spec := "fnExactBoundFor", unfollowed := true, recurses := true, apart := false, narrowed := true }
def FnExactBoundForUptoSaid : Prop := fnExactBoundForUptoRow.holds Try.pinned (OpenSpec.upto fnExactBoundForSpec)

/-- 'laws.FnExactAfterYes', WHERE WHAT IT READS IS OF BULK AT MOST 1048576: true; the input reads as it did. -/
def fnExactAfterYesUptoRow : OpenClaim := { program := "ytfhklaoemfhamaa", sum := "85ef165a840ac8c8a90da8b889a7007fc3d45809416968ca3715cc49cf1d2f20", func := "loop.example/questiongames/laws.FnExactAfterYes", spec := "fnExactAfterYes", unfollowed := true, recurses := true, apart := false, narrowed := true }
def FnExactAfterYesUptoSaid : Prop := fnExactAfterYesUptoRow.holds Try.pinned (OpenSpec.upto fnExactAfterYesSpec)

/-- 'laws.FnExactAfterNo', WHERE WHAT IT READS IS OF BULK AT MOST 1048576: true; the input reads as it did. -/
def fnExactAfterNoUptoRow : OpenClaim := { program := "ytfhklaoemfhamaa", sum := "85ef165a840ac8c8a90da8b889a7007fc3d45809416968ca3715cc49cf1d2f20", func := "loop.example/questiongames/laws.FnExactAfterNo", spec := "fnExactAfterNo", unfollowed := true, recurses := true, apart := false, narrowed := true }
def FnExactAfterNoUptoSaid : Prop := fnExactAfterNoUptoRow.holds Try.pinned (OpenSpec.upto fnExactAfterNoSpec)

/-- 'laws.FnKnownOk', WHERE WHAT IT READS IS OF BULK AT MOST 1048576: true; the input reads as it did. -/
def fnKnownOkUptoRow : OpenClaim := { program := "ytfhklaoemfhamaa", sum := "85ef165a840ac8c8a90da8b889a7007fc3d45809416968ca3715cc49cf1d2f20", func := "loop.example/questiongames/laws.FnKnownOk", spec := "fnKnownOk", unfollowed := true, recurses := true, apart := false, narrowed := true }
def FnKnownOkUptoSaid : Prop := fnKnownOkUptoRow.holds Try.pinned (OpenSpec.upto fnKnownOkSpec)

/-- 'laws.FnSplitOk', WHERE WHAT IT READS IS OF BULK AT MOST 1048576: true; the input reads as it did. -/
def fnSplitOkUptoRow : OpenClaim := { program := "ytfhklaoemfhamaa", sum := "85ef165a840ac8c8a90da8b889a7007fc3d45809416968ca3715cc49cf1d2f20", func := "loop.example/questiongames/laws.FnSplitOk", spec := "fnSplitOk", unfollowed := true, recurses := true, apart := false, narrowed := true }
def FnSplitOkUptoSaid : Prop := fnSplitOkUptoRow.holds Try.pinned (OpenSpec.upto fnSplitOkSpec)

/-- 'laws.FnWeightOf', WHERE WHAT IT READS IS OF BULK AT MOST 1048576: true; the input reads as it did. -/
def fnWeightOfUptoRow : OpenClaim := { program := "ytfhklaoemfhamaa", sum := "85ef165a840ac8c8a90da8b889a7007fc3d45809416968ca3715cc49cf1d2f20", func := "loop.example/questiongames/laws.FnWeightOf", spec := "fnWeightOf", unfollowed := true, recurses := true, apart := false, narrowed := true }
def FnWeightOfUptoSaid : Prop := fnWeightOfUptoRow.holds Try.pinned (OpenSpec.upto fnWeightOfSpec)

end Rows
end Go.Proofs.Ytfhklaoemfhamaa
