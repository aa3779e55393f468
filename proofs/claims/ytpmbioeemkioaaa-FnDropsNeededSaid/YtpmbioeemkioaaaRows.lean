/-
  No cell of these rows narrows 'for every input' (looked for: loops, veiled, ifaces, maps, wideKeys, modest, calm, conditions, laid).
  DERIVED. THE GIVEN ROWS OF THIS SEAT. 12 by the template 'for every input the law returns true; each argument reads behind the call as it read before'; 0 by the template 'total and deterministic' (their statements: YtpmbioeemkioaaaTotals.lean).
  GIVEN WITH THE SEED: the statements are not yours to turn. If you find one false, say at which input.
  Laid BY PROGRAM, IN A SANDBOX (cutbox-rows.mjs): the forced cells as the released guide's own fill.sh prints them over the translation 6162161b90559de1… (all of the seat's roots in one cut). By AI agents, Wed Nov 11 2026. No macro, syntax, notation, axiom, sorry.
-/
import Derived.Test.YtpmbioeemkioaaaChecked
import GoSem.Claim
import GoSem.ClaimJoined
import GoSem.ClaimMapViews
import Derived.JoinedTies
import Derived.KernelRfl
namespace Go.Proofs.Ytpmbioeemkioaaa
/- THE CELL 'sum', in the pinned program and in every row, IS THE sha256 OF THE DUMP (.gsa) THAT YtpmbioeemkioaaaProg.lean LOADS. Nothing in Lean hashes anything: it is a label: what it is worth is what the hold of that sum in a sandbox is worth. -/
noncomputable def Try.pinned : Pinned := { name := "ytpmbioeemkioaaa", sum := "6162161b90559de1ffde4c2d6d81e3bb9abd5ce1601dc2d640bba531da4eaeb5", checked := Try.checked }
namespace Rows
def none {H : Type} : Left H := { results := [], args := [] }

/-- 'laws.FnExactToldApart': WHATEVER THE INPUT: true; the input reads as it did. -/
def fnExactToldApartSpec : ChangeSpec := { name := "fnExactToldApart", fn := fun _ => fun
  | [d1, d2] => { results := [.lit (.bool true)], args := [d1, d2] }
  | _ => none }
def fnExactToldApartRow : OpenClaim := { program := "ytpmbioeemkioaaa", sum := "6162161b90559de1ffde4c2d6d81e3bb9abd5ce1601dc2d640bba531da4eaeb5", func := "loop.example/questiongames/laws.FnExactToldApart", spec := "fnExactToldApart", apart := false }
def FnExactToldApartSaid : Prop := fnExactToldApartRow.holds Try.pinned (OpenSpec.ofChange fnExactToldApartSpec)

/-- ITS FALSE NEIGHBOUR: 'it returns false'. Refute it at one input. -/
def fnExactToldApartWrong : ChangeSpec := { name := "fnExactToldApart", fn := fun _ => fun
  | [d1, d2] => { results := [.lit (.bool false)], args := [d1, d2] }
  | _ => none }
def FnExactToldApartWrongFalsely : Prop := fnExactToldApartRow.holds Try.pinned (OpenSpec.ofChange fnExactToldApartWrong)

/-- 'laws.FnExactNextDrop': WHATEVER THE INPUT: true; the input reads as it did. -/
def fnExactNextDropSpec : ChangeSpec := { name := "fnExactNextDrop", fn := fun _ => fun
  | [d1, d2, d3, d4] => { results := [.lit (.bool true)], args := [d1, d2, d3, d4] }
  | _ => none }
def fnExactNextDropRow : OpenClaim := { program := "ytpmbioeemkioaaa", sum := "6162161b90559de1ffde4c2d6d81e3bb9abd5ce1601dc2d640bba531da4eaeb5", func := "loop.example/questiongames/laws.FnExactNextDrop", spec := "fnExactNextDrop", apart := false }
def FnExactNextDropSaid : Prop := fnExactNextDropRow.holds Try.pinned (OpenSpec.ofChange fnExactNextDropSpec)

/-- ITS FALSE NEIGHBOUR: 'it returns false'. Refute it at one input. -/
def fnExactNextDropWrong : ChangeSpec := { name := "fnExactNextDrop", fn := fun _ => fun
  | [d1, d2, d3, d4] => { results := [.lit (.bool false)], args := [d1, d2, d3, d4] }
  | _ => none }
def FnExactNextDropWrongFalsely : Prop := fnExactNextDropRow.holds Try.pinned (OpenSpec.ofChange fnExactNextDropWrong)

/-- 'laws.FnExactDropsNeeded': WHATEVER THE INPUT: true; the input reads as it did. -/
def fnExactDropsNeededSpec : ChangeSpec := { name := "fnExactDropsNeeded", fn := fun _ => fun
  | [d1, d2] => { results := [.lit (.bool true)], args := [d1, d2] }
  | _ => none }
def fnExactDropsNeededRow : OpenClaim := { program := "ytpmbioeemkioaaa", sum := "6162161b90559de1ffde4c2d6d81e3bb9abd5ce1601dc2d640bba531da4eaeb5", func := "loop.example/questiongames/laws.FnExactDropsNeeded", spec := "fnExactDropsNeeded", apart := false }
def FnExactDropsNeededSaid : Prop := fnExactDropsNeededRow.holds Try.pinned (OpenSpec.ofChange fnExactDropsNeededSpec)

/-- ITS FALSE NEIGHBOUR: 'it returns false'. Refute it at one input. -/
def fnExactDropsNeededWrong : ChangeSpec := { name := "fnExactDropsNeeded", fn := fun _ => fun
  | [d1, d2] => { results := [.lit (.bool false)], args := [d1, d2] }
  | _ => none }
def FnExactDropsNeededWrongFalsely : Prop := fnExactDropsNeededRow.holds Try.pinned (OpenSpec.ofChange fnExactDropsNeededWrong)

/-- 'laws.FnExactBrokenIn': WHATEVER THE INPUT: true; the input reads as it did. -/
def fnExactBrokenInSpec : ChangeSpec := { name := "fnExactBrokenIn", fn := fun _ => fun
  | [d1, d2, d3, d4] => { results := [.lit (.bool true)], args := [d1, d2, d3, d4] }
  | _ => none }
def fnExactBrokenInRow : OpenClaim := { program := "ytpmbioeemkioaaa", sum := "6162161b90559de1ffde4c2d6d81e3bb9abd5ce1601dc2d640bba531da4eaeb5", func := "loop.example/questiongames/laws.FnExactBrokenIn", spec := "fnExactBrokenIn", apart := false }
def FnExactBrokenInSaid : Prop := fnExactBrokenInRow.holds Try.pinned (OpenSpec.ofChange fnExactBrokenInSpec)

/-- ITS FALSE NEIGHBOUR: 'it returns false'. Refute it at one input. -/
def fnExactBrokenInWrong : ChangeSpec := { name := "fnExactBrokenIn", fn := fun _ => fun
  | [d1, d2, d3, d4] => { results := [.lit (.bool false)], args := [d1, d2, d3, d4] }
  | _ => none }
def FnExactBrokenInWrongFalsely : Prop := fnExactBrokenInRow.holds Try.pinned (OpenSpec.ofChange fnExactBrokenInWrong)

/-- 'laws.FnExactFoundBy': WHATEVER THE INPUT: true; the input reads as it did. -/
def fnExactFoundBySpec : ChangeSpec := { name := "fnExactFoundBy", fn := fun _ => fun
  | [d1, d2, d3, d4] => { results := [.lit (.bool true)], args := [d1, d2, d3, d4] }
  | _ => none }
def fnExactFoundByRow : OpenClaim := { program := "ytpmbioeemkioaaa", sum := "6162161b90559de1ffde4c2d6d81e3bb9abd5ce1601dc2d640bba531da4eaeb5", func := "loop.example/questiongames/laws.FnExactFoundBy", spec := "fnExactFoundBy", apart := false }
def FnExactFoundBySaid : Prop := fnExactFoundByRow.holds Try.pinned (OpenSpec.ofChange fnExactFoundBySpec)

/-- ITS FALSE NEIGHBOUR: 'it returns false'. Refute it at one input. -/
def fnExactFoundByWrong : ChangeSpec := { name := "fnExactFoundBy", fn := fun _ => fun
  | [d1, d2, d3, d4] => { results := [.lit (.bool false)], args := [d1, d2, d3, d4] }
  | _ => none }
def FnExactFoundByWrongFalsely : Prop := fnExactFoundByRow.holds Try.pinned (OpenSpec.ofChange fnExactFoundByWrong)

/-- 'laws.FnExactDropsPlayed': WHATEVER THE INPUT: true; the input reads as it did. -/
def fnExactDropsPlayedSpec : ChangeSpec := { name := "fnExactDropsPlayed", fn := fun _ => fun
  | [d1, d2, d3, d4] => { results := [.lit (.bool true)], args := [d1, d2, d3, d4] }
  | _ => none }
def fnExactDropsPlayedRow : OpenClaim := { program := "ytpmbioeemkioaaa", sum := "6162161b90559de1ffde4c2d6d81e3bb9abd5ce1601dc2d640bba531da4eaeb5", func := "loop.example/questiongames/laws.FnExactDropsPlayed", spec := "fnExactDropsPlayed", apart := false }
def FnExactDropsPlayedSaid : Prop := fnExactDropsPlayedRow.holds Try.pinned (OpenSpec.ofChange fnExactDropsPlayedSpec)

/-- ITS FALSE NEIGHBOUR: 'it returns false'. Refute it at one input. -/
def fnExactDropsPlayedWrong : ChangeSpec := { name := "fnExactDropsPlayed", fn := fun _ => fun
  | [d1, d2, d3, d4] => { results := [.lit (.bool false)], args := [d1, d2, d3, d4] }
  | _ => none }
def FnExactDropsPlayedWrongFalsely : Prop := fnExactDropsPlayedRow.holds Try.pinned (OpenSpec.ofChange fnExactDropsPlayedWrong)

/-- 'laws.FnToldApart': WHATEVER THE INPUT: true; the input reads as it did. -/
def fnToldApartSpec : ChangeSpec := { name := "fnToldApart", fn := fun _ => fun
  | [d] => { results := [.lit (.bool true)], args := [d] }
  | _ => none }
def fnToldApartRow : OpenClaim := { program := "ytpmbioeemkioaaa", sum := "6162161b90559de1ffde4c2d6d81e3bb9abd5ce1601dc2d640bba531da4eaeb5", func := "loop.example/questiongames/laws.FnToldApart", spec := "fnToldApart", apart := false }
def FnToldApartSaid : Prop := fnToldApartRow.holds Try.pinned (OpenSpec.ofChange fnToldApartSpec)

/-- ITS FALSE NEIGHBOUR: 'it returns false'. Refute it at one input. -/
def fnToldApartWrong : ChangeSpec := { name := "fnToldApart", fn := fun _ => fun
  | [d] => { results := [.lit (.bool false)], args := [d] }
  | _ => none }
def FnToldApartWrongFalsely : Prop := fnToldApartRow.holds Try.pinned (OpenSpec.ofChange fnToldApartWrong)

/-- 'laws.FnNextDrop': WHATEVER THE INPUT: true; the input reads as it did. -/
def fnNextDropSpec : ChangeSpec := { name := "fnNextDrop", fn := fun _ => fun
  | [d] => { results := [.lit (.bool true)], args := [d] }
  | _ => none }
def fnNextDropRow : OpenClaim := { program := "ytpmbioeemkioaaa", sum := "6162161b90559de1ffde4c2d6d81e3bb9abd5ce1601dc2d640bba531da4eaeb5", func := "loop.example/questiongames/laws.FnNextDrop", spec := "fnNextDrop", apart := false }
def FnNextDropSaid : Prop := fnNextDropRow.holds Try.pinned (OpenSpec.ofChange fnNextDropSpec)

/-- ITS FALSE NEIGHBOUR: 'it returns false'. Refute it at one input. -/
def fnNextDropWrong : ChangeSpec := { name := "fnNextDrop", fn := fun _ => fun
  | [d] => { results := [.lit (.bool false)], args := [d] }
  | _ => none }
def FnNextDropWrongFalsely : Prop := fnNextDropRow.holds Try.pinned (OpenSpec.ofChange fnNextDropWrong)

/-- 'laws.FnDropsNeeded': WHATEVER THE INPUT: true; the input reads as it did. -/
def fnDropsNeededSpec : ChangeSpec := { name := "fnDropsNeeded", fn := fun _ => fun
  | [d] => { results := [.lit (.bool true)], args := [d] }
  | _ => none }
def fnDropsNeededRow : OpenClaim := { program := "ytpmbioeemkioaaa", sum := "6162161b90559de1ffde4c2d6d81e3bb9abd5ce1601dc2d640bba531da4eaeb5", func := "loop.example/questiongames/laws.FnDropsNeeded", spec := "fnDropsNeeded", apart := false }
def FnDropsNeededSaid : Prop := fnDropsNeededRow.holds Try.pinned (OpenSpec.ofChange fnDropsNeededSpec)

/-- ITS FALSE NEIGHBOUR: 'it returns false'. Refute it at one input. -/
def fnDropsNeededWrong : ChangeSpec := { name := "fnDropsNeeded", fn := fun _ => fun
  | [d] => { results := [.lit (.bool false)], args := [d] }
  | _ => none }
def FnDropsNeededWrongFalsely : Prop := fnDropsNeededRow.holds Try.pinned (OpenSpec.ofChange fnDropsNeededWrong)

/-- 'laws.FnDropsPlayed': WHATEVER THE INPUT: true; the input reads as it did. -/
def fnDropsPlayedSpec : ChangeSpec := { name := "fnDropsPlayed", fn := fun _ => fun
  | [d] => { results := [.lit (.bool true)], args := [d] }
  | _ => none }
def fnDropsPlayedRow : OpenClaim := { program := "ytpmbioeemkioaaa", sum := "6162161b90559de1ffde4c2d6d81e3bb9abd5ce1601dc2d640bba531da4eaeb5", func := "loop.example/questiongames/laws.FnDropsPlayed", spec := "fnDropsPlayed", apart := false }
def FnDropsPlayedSaid : Prop := fnDropsPlayedRow.holds Try.pinned (OpenSpec.ofChange fnDropsPlayedSpec)

/-- ITS FALSE NEIGHBOUR: 'it returns false'. Refute it at one input. -/
def fnDropsPlayedWrong : ChangeSpec := { name := "fnDropsPlayed", fn := fun _ => fun
  | [d] => { results := [.lit (.bool false)], args := [d] }
  | _ => none }
def FnDropsPlayedWrongFalsely : Prop := fnDropsPlayedRow.holds Try.pinned (OpenSpec.ofChange fnDropsPlayedWrong)

/-- 'laws.FnFoundBy': WHATEVER THE INPUT: true; the input reads as it did. -/
def fnFoundBySpec : ChangeSpec := { name := "fnFoundBy", fn := fun _ => fun
  | [d] => { results := [.lit (.bool true)], args := [d] }
  | _ => none }
def fnFoundByRow : OpenClaim := { program := "ytpmbioeemkioaaa", sum := "6162161b90559de1ffde4c2d6d81e3bb9abd5ce1601dc2d640bba531da4eaeb5", func := "loop.example/questiongames/laws.FnFoundBy", spec := "fnFoundBy", apart := false }
def FnFoundBySaid : Prop := fnFoundByRow.holds Try.pinned (OpenSpec.ofChange fnFoundBySpec)

/-- ITS FALSE NEIGHBOUR: 'it returns false'. Refute it at one input. -/
def fnFoundByWrong : ChangeSpec := { name := "fnFoundBy", fn := fun _ => fun
  | [d] => { results := [.lit (.bool false)], args := [d] }
  | _ => none }
def FnFoundByWrongFalsely : Prop := fnFoundByRow.holds Try.pinned (OpenSpec.ofChange fnFoundByWrong)

/-- 'laws.FnBrokenIn': WHATEVER THE INPUT: true; the input reads as it did. -/
def fnBrokenInSpec : ChangeSpec := { name := "fnBrokenIn", fn := fun _ => fun
  | [d] => { results := [.lit (.bool true)], args := [d] }
  | _ => none }
def fnBrokenInRow : OpenClaim := { program := "ytpmbioeemkioaaa", sum := "6162161b90559de1ffde4c2d6d81e3bb9abd5ce1601dc2d640bba531da4eaeb5", func := "loop.example/questiongames/laws.FnBrokenIn", spec := "fnBrokenIn", apart := false }
def FnBrokenInSaid : Prop := fnBrokenInRow.holds Try.pinned (OpenSpec.ofChange fnBrokenInSpec)

/-- ITS FALSE NEIGHBOUR: 'it returns false'. Refute it at one input. -/
def fnBrokenInWrong : ChangeSpec := { name := "fnBrokenIn", fn := fun _ => fun
  | [d] => { results := [.lit (.bool false)], args := [d] }
  | _ => none }
def FnBrokenInWrongFalsely : Prop := fnBrokenInRow.holds Try.pinned (OpenSpec.ofChange fnBrokenInWrong)

/- THE SECOND FORM. 'bulk': how many values and letters a reading holds, each counted each time it is reached (what is shared counts as often as it is met; a slice's spare places count too). A statement '..UptoSaid' is the law's where the arguments, and the package variables that the reading takes, are together of bulk at most 1048576: NARROWER than '..Said'. Prove '..Said' where nothing that the law and all that it calls make is longer than what came in: it says more and counts as full. Else prove '..UptoSaid'. A law counts once. -/
mutual
def uptoBulk {H : Type} : DataW H → Nat
  | .lit (.string bytes) => bytes.length + 1
  | .lit _ => 1
  | .nil => 1
  | .ptr d => uptoBulk d + 1
  | .slice elems spare => uptoBulkAll elems + uptoBulkAll spare + 1
  | .agg parts => uptoBulkAll parts + 1
  | .iface _ d => uptoBulk d + 1
  | .map entries => uptoBulkEntries entries + 1
  | .held _ => 1
def uptoBulkAll {H : Type} : List (DataW H) → Nat
  | [] => 0
  | d :: r => uptoBulk d + uptoBulkAll r
def uptoBulkEntries {H : Type} : List (Lit × DataW H) → Nat
  | [] => 0
  | x :: r => uptoBulkEntry x + uptoBulkEntries r
def uptoBulkEntry {H : Type} : Lit × DataW H → Nat
  | (.string bytes, d) => bytes.length + uptoBulk d + 1
  | (_, d) => uptoBulk d + 1
 end
def uptoSmall : (H : Type) → List (DataW H) → Bool := fun _ ds => decide (uptoBulkAll ds ≤ 1048576)
def OpenSpec.upto (s : _root_.Go.ChangeSpec) : _root_.Go.OpenSpec := { _root_.Go.OpenSpec.ofChange s with cond := some uptoSmall }

/-- 'laws.FnExactToldApart', WHERE WHAT IT READS IS OF BULK AT MOST 1048576: true; the input reads as it did. -/
def fnExactToldApartUptoRow : OpenClaim := { program := "ytpmbioeemkioaaa", sum := "6162161b90559de1ffde4c2d6d81e3bb9abd5ce1601dc2d640bba531da4eaeb5", func := "loop.example/questiongames/laws.FnExactToldApart", spec := "fnExactToldApart", apart := false, narrowed := true }
def FnExactToldApartUptoSaid : Prop := fnExactToldApartUptoRow.holds Try.pinned (OpenSpec.upto fnExactToldApartSpec)

/-- 'laws.FnExactNextDrop', WHERE WHAT IT READS IS OF BULK AT MOST 1048576: true; the input reads as it did. -/
def fnExactNextDropUptoRow : OpenClaim := { program := "ytpmbioeemkioaaa", sum := "6162161b90559de1ffde4c2d6d81e3bb9abd5ce1601dc2d640bba531da4eaeb5", func := "loop.example/questiongames/laws.FnExactNextDrop", spec := "fnExactNextDrop", apart := false, narrowed := true }
def FnExactNextDropUptoSaid : Prop := fnExactNextDropUptoRow.holds Try.pinned (OpenSpec.upto fnExactNextDropSpec)

/-- 'laws.FnExactDropsNeeded', WHERE WHAT IT READS IS OF BULK AT MOST 1048576: true; the input reads as it did. -/
def fnExactDropsNeededUptoRow : OpenClaim := { program := "ytpmbioeemkioaaa", sum := "6162161b90559de1ffde4c2d6d81e3bb9abd5ce1601dc2d640bba531da4eaeb5", func := "loop.example/questiongames/laws.FnExactDropsNeeded", spec := "fnExactDropsNeeded", apart := false, narrowed := true }
def FnExactDropsNeededUptoSaid : Prop := fnExactDropsNeededUptoRow.holds Try.pinned (OpenSpec.upto fnExactDropsNeededSpec)

/-- 'laws.FnExactBrokenIn', WHERE WHAT IT READS IS OF BULK AT MOST 1048576: true; the input reads as it did. -/
def fnExactBrokenInUptoRow : OpenClaim := { program := "ytpmbioeemkioaaa", sum := "6162161b90559de1ffde4c2d6d81e3bb9abd5ce1601dc2d640bba531da4eaeb5", func := "loop.example/questiongames/laws.FnExactBrokenIn", spec := "fnExactBrokenIn", apart := false, narrowed := true }
def FnExactBrokenInUptoSaid : Prop := fnExactBrokenInUptoRow.holds Try.pinned (OpenSpec.upto fnExactBrokenInSpec)

/-- 'laws.FnExactFoundBy', WHERE WHAT IT READS IS OF BULK AT MOST 1048576: true; the input reads as it did. -/
def fnExactFoundByUptoRow : OpenClaim := { program := "ytpmbioeemkioaaa", sum := "6162161b90559de1ffde4c2d6d81e3bb9abd5ce1601dc2d640bba531da4eaeb5", func := "loop.example/questiongames/laws.FnExactFoundBy", spec := "fnExactFoundBy", apart := false, narrowed := true }
def FnExactFoundByUptoSaid : Prop := fnExactFoundByUptoRow.holds Try.pinned (OpenSpec.upto fnExactFoundBySpec)

/-- 'laws.FnExactDropsPlayed', WHERE WHAT IT READS IS OF BULK AT MOST 1048576: true; the input reads as it did. -/
def fnExactDropsPlayedUptoRow : OpenClaim := { program := "ytpmbioeemkioaaa", sum := "6162161b90559de1ffde4c2d6d81e3bb9abd5ce1601dc2d640bba531da4eaeb5", func := "loop.example/questiongames/laws.FnExactDropsPlayed", spec := "fnExactDropsPlayed", apart := false, narrowed := true }
def FnExactDropsPlayedUptoSaid : Prop := fnExactDropsPlayedUptoRow.holds Try.pinned (OpenSpec.upto fnExactDropsPlayedSpec)

/-- 'laws.FnToldApart', WHERE WHAT IT READS IS OF BULK AT MOST 1048576: true; the input reads as it did. -/
def fnToldApartUptoRow : OpenClaim := { program := "ytpmbioeemkioaaa", sum := "6162161b90559de1ffde4c2d6d81e3bb9abd5ce1601dc2d640bba531da4eaeb5", func := "loop.example/questiongames/laws.FnToldApart", spec := "fnToldApart", apart := false, narrowed := true }
def FnToldApartUptoSaid : Prop := fnToldApartUptoRow.holds Try.pinned (OpenSpec.upto fnToldApartSpec)

/-- 'laws.FnNextDrop', WHERE WHAT IT READS IS OF BULK AT MOST 1048576: true; the input reads as it did. -/
def fnNextDropUptoRow : OpenClaim := { program := "ytpmbioeemkioaaa", sum := "6162161b90559de1ffde4c2d6d81e3bb9abd5ce1601dc2d640bba531da4eaeb5", func := "loop.example/questiongames/laws.FnNextDrop", spec := "fnNextDrop", apart := false, narrowed := true }
def FnNextDropUptoSaid : Prop := fnNextDropUptoRow.holds Try.pinned (OpenSpec.upto fnNextDropSpec)

/-- 'laws.FnDropsNeeded', WHERE WHAT IT READS IS OF BULK AT MOST 1048576: true; the input reads as it did. -/
def fnDropsNeededUptoRow : OpenClaim := { program := "ytpmbioeemkioaaa", sum := "6162161b90559de1ffde4c2d6d81e3bb9abd5ce1601dc2d640bba531da4eaeb5", func := "loop.example/questiongames/laws.FnDropsNeeded", spec := "fnDropsNeeded", apart := false, narrowed := true }
def FnDropsNeededUptoSaid : Prop := fnDropsNeededUptoRow.holds Try.pinned (OpenSpec.upto fnDropsNeededSpec)

/-- 'laws.FnDropsPlayed', WHERE WHAT IT READS IS OF BULK AT MOST 1048576: true; the input reads as it did. -/
def fnDropsPlayedUptoRow : OpenClaim := { program := "ytpmbioeemkioaaa", sum := "6162161b90559de1ffde4c2d6d81e3bb9abd5ce1601dc2d640bba531da4eaeb5", func := "loop.example/questiongames/laws.FnDropsPlayed", spec := "fnDropsPlayed", apart := false, narrowed := true }
def FnDropsPlayedUptoSaid : Prop := fnDropsPlayedUptoRow.holds Try.pinned (OpenSpec.upto fnDropsPlayedSpec)

/-- 'laws.FnFoundBy', WHERE WHAT IT READS IS OF BULK AT MOST 1048576: true; the input reads as it did. -/
def fnFoundByUptoRow : OpenClaim := { program := "ytpmbioeemkioaaa", sum := "6162161b90559de1ffde4c2d6d81e3bb9abd5ce1601dc2d640bba531da4eaeb5", func := "loop.example/questiongames/laws.FnFoundBy", spec := "fnFoundBy", apart := false, narrowed := true }
def FnFoundByUptoSaid : Prop := fnFoundByUptoRow.holds Try.pinned (OpenSpec.upto fnFoundBySpec)

/-- 'laws.FnBrokenIn', WHERE WHAT IT READS IS OF BULK AT MOST 1048576: true; the input reads as it did. -/
def fnBrokenInUptoRow : OpenClaim := { program := "ytpmbioeemkioaaa", sum := "6162161b90559de1ffde4c2d6d81e3bb9abd5ce1601dc2d640bba531da4eaeb5", func := "loop.example/questiongames/laws.FnBrokenIn", spec := "fnBrokenIn", apart := false, narrowed := true }
def FnBrokenInUptoSaid : Prop := fnBrokenInUptoRow.holds Try.pinned (OpenSpec.upto fnBrokenInSpec)

end Rows
end Go.Proofs.Ytpmbioeemkioaaa
