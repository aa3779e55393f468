/-
  No cell of these rows narrows 'for every input' (looked for: loops, veiled, ifaces, maps, wideKeys, modest, calm, conditions, laid).
  DERIVED. THE GIVEN ROWS OF THIS SEAT. 10 by the template 'for every input the law returns true; each argument reads behind the call as it read before'; 0 by the template 'total and deterministic' (their statements: YtkkjgcpkimjfkaaTotals.lean).
  GIVEN WITH THE SEED: the statements are not yours to turn. If you find one false, say at which input.
  Laid BY PROGRAM, IN A SANDBOX (cutbox-rows.mjs): the forced cells as the released guide's own fill.sh prints them over the translation ba84cbf3c64061a3… (all of the seat's roots in one cut). By AI agents, Wed Nov 11 2026. No macro, syntax, notation, axiom, sorry.
-/
import Derived.Test.YtkkjgcpkimjfkaaChecked
import GoSem.Claim
import GoSem.ClaimJoined
import GoSem.ClaimMapViews
import Derived.JoinedTies
import Derived.KernelRfl
namespace Go.Proofs.Ytkkjgcpkimjfkaa
/- THE CELL 'sum', in the pinned program and in every row, IS THE sha256 OF THE DUMP (.gsa) THAT YtkkjgcpkimjfkaaProg.lean LOADS. Nothing in Lean hashes anything: it is a label: what it is worth is what the hold of that sum in a sandbox is worth. -/
noncomputable def Try.pinned : Pinned := { name := "ytkkjgcpkimjfkaa", sum := "ba84cbf3c64061a3b7051c69452b25920556fb3ba3d608060238695f1416511c", checked := Try.checked }
namespace Rows
def none {H : Type} : Left H := { results := [], args := [] }

/-- 'laws.FnExactCodeOk': WHATEVER THE INPUT: true; the input reads as it did. -/
def fnExactCodeOkSpec : ChangeSpec := { name := "fnExactCodeOk", fn := fun _ => fun
  | [d1, d2, d3] => { results := [.lit (.bool true)], args := [d1, d2, d3] }
  | _ => none }
def fnExactCodeOkRow : OpenClaim := { program := "ytkkjgcpkimjfkaa", sum := "ba84cbf3c64061a3b7051c69452b25920556fb3ba3d608060238695f1416511c", func := "loop.example/questiongames/laws.FnExactCodeOk", spec := "fnExactCodeOk", unfollowed := true, recurses := true, apart := false }
def FnExactCodeOkSaid : Prop := fnExactCodeOkRow.holds Try.pinned (OpenSpec.ofChange fnExactCodeOkSpec)

/-- ITS FALSE NEIGHBOUR: 'it returns false'. Refute it at one input. -/
def fnExactCodeOkWrong : ChangeSpec := { name := "fnExactCodeOk", fn := fun _ => fun
  | [d1, d2, d3] => { results := [.lit (.bool false)], args := [d1, d2, d3] }
  | _ => none }
def FnExactCodeOkWrongFalsely : Prop := fnExactCodeOkRow.holds Try.pinned (OpenSpec.ofChange fnExactCodeOkWrong)

/-- 'laws.FnExactAnswerTo': WHATEVER THE INPUT: true; the input reads as it did. -/
def fnExactAnswerToSpec : ChangeSpec := { name := "fnExactAnswerTo", fn := fun _ => fun
  | [d1, d2, d3, d4] => { results := [.lit (.bool true)], args := [d1, d2, d3, d4] }
  | _ => none }
def fnExactAnswerToRow : OpenClaim := { program := "ytkkjgcpkimjfkaa", sum := "ba84cbf3c64061a3b7051c69452b25920556fb3ba3d608060238695f1416511c", func := "loop.example/questiongames/laws.FnExactAnswerTo", spec := "fnExactAnswerTo", unfollowed := true, recurses := true, apart := false }
def FnExactAnswerToSaid : Prop := fnExactAnswerToRow.holds Try.pinned (OpenSpec.ofChange fnExactAnswerToSpec)

/-- ITS FALSE NEIGHBOUR: 'it returns false'. Refute it at one input. -/
def fnExactAnswerToWrong : ChangeSpec := { name := "fnExactAnswerTo", fn := fun _ => fun
  | [d1, d2, d3, d4] => { results := [.lit (.bool false)], args := [d1, d2, d3, d4] }
  | _ => none }
def FnExactAnswerToWrongFalsely : Prop := fnExactAnswerToRow.holds Try.pinned (OpenSpec.ofChange fnExactAnswerToWrong)

/-- 'laws.FnExactAllCodes': WHATEVER THE INPUT: true; the input reads as it did. -/
def fnExactAllCodesSpec : ChangeSpec := { name := "fnExactAllCodes", fn := fun _ => fun
  | [d1, d2] => { results := [.lit (.bool true)], args := [d1, d2] }
  | _ => none }
def fnExactAllCodesRow : OpenClaim := { program := "ytkkjgcpkimjfkaa", sum := "ba84cbf3c64061a3b7051c69452b25920556fb3ba3d608060238695f1416511c", func := "loop.example/questiongames/laws.FnExactAllCodes", spec := "fnExactAllCodes", unfollowed := true, recurses := true, apart := false }
def FnExactAllCodesSaid : Prop := fnExactAllCodesRow.holds Try.pinned (OpenSpec.ofChange fnExactAllCodesSpec)

/-- ITS FALSE NEIGHBOUR: 'it returns false'. Refute it at one input. -/
def fnExactAllCodesWrong : ChangeSpec := { name := "fnExactAllCodes", fn := fun _ => fun
  | [d1, d2] => { results := [.lit (.bool false)], args := [d1, d2] }
  | _ => none }
def FnExactAllCodesWrongFalsely : Prop := fnExactAllCodesRow.holds Try.pinned (OpenSpec.ofChange fnExactAllCodesWrong)

/-- 'laws.FnExactGuessesOk': WHATEVER THE INPUT: true; the input reads as it did. -/
def fnExactGuessesOkSpec : ChangeSpec := { name := "fnExactGuessesOk", fn := fun _ => fun
  | [d1, d2, d3] => { results := [.lit (.bool true)], args := [d1, d2, d3] }
  | _ => none }
def fnExactGuessesOkRow : OpenClaim := { program := "ytkkjgcpkimjfkaa", sum := "ba84cbf3c64061a3b7051c69452b25920556fb3ba3d608060238695f1416511c", func := "loop.example/questiongames/laws.FnExactGuessesOk", spec := "fnExactGuessesOk", unfollowed := true, recurses := true, apart := false }
def FnExactGuessesOkSaid : Prop := fnExactGuessesOkRow.holds Try.pinned (OpenSpec.ofChange fnExactGuessesOkSpec)

/-- ITS FALSE NEIGHBOUR: 'it returns false'. Refute it at one input. -/
def fnExactGuessesOkWrong : ChangeSpec := { name := "fnExactGuessesOk", fn := fun _ => fun
  | [d1, d2, d3] => { results := [.lit (.bool false)], args := [d1, d2, d3] }
  | _ => none }
def FnExactGuessesOkWrongFalsely : Prop := fnExactGuessesOkRow.holds Try.pinned (OpenSpec.ofChange fnExactGuessesOkWrong)

/-- 'laws.FnExactFittingCodes': WHATEVER THE INPUT: true; the input reads as it did. -/
def fnExactFittingCodesSpec : ChangeSpec := { name := "fnExactFittingCodes", fn := fun _ => fun
  | [d1, d2, d3] => { results := [.lit (.bool true)], args := [d1, d2, d3] }
  | _ => none }
def fnExactFittingCodesRow : OpenClaim := { program := "ytkkjgcpkimjfkaa", sum := "ba84cbf3c64061a3b7051c69452b25920556fb3ba3d608060238695f1416511c", func := "loop.example/questiongames/laws.FnExactFittingCodes", spec := "fnExactFittingCodes", unfollowed := true, recurses := true, apart := false }
def FnExactFittingCodesSaid : Prop := fnExactFittingCodesRow.holds Try.pinned (OpenSpec.ofChange fnExactFittingCodesSpec)

/-- ITS FALSE NEIGHBOUR: 'it returns false'. Refute it at one input. -/
def fnExactFittingCodesWrong : ChangeSpec := { name := "fnExactFittingCodes", fn := fun _ => fun
  | [d1, d2, d3] => { results := [.lit (.bool false)], args := [d1, d2, d3] }
  | _ => none }
def FnExactFittingCodesWrongFalsely : Prop := fnExactFittingCodesRow.holds Try.pinned (OpenSpec.ofChange fnExactFittingCodesWrong)

/-- 'laws.FnCodeOk': WHATEVER THE INPUT: true; the input reads as it did. -/
def fnCodeOkSpec : ChangeSpec := { name := "fnCodeOk", fn := fun _ => fun
  | [d] => { results := [.lit (.bool true)], args := [d] }
  | _ => none }
def fnCodeOkRow : OpenClaim := { program := "ytkkjgcpkimjfkaa", sum := "ba84cbf3c64061a3b7051c69452b25920556fb3ba3d608060238695f1416511c", func := "loop.example/questiongames/laws.FnCodeOk", spec := "fnCodeOk", unfollowed := true, recurses := true, apart := false }
def FnCodeOkSaid : Prop := fnCodeOkRow.holds Try.pinned (OpenSpec.ofChange fnCodeOkSpec)

/-- ITS FALSE NEIGHBOUR: 'it returns false'. Refute it at one input. -/
def fnCodeOkWrong : ChangeSpec := { name := "fnCodeOk", fn := fun _ => fun
  | [d] => { results := [.lit (.bool false)], args := [d] }
  | _ => none }
def FnCodeOkWrongFalsely : Prop := fnCodeOkRow.holds Try.pinned (OpenSpec.ofChange fnCodeOkWrong)

/-- 'laws.FnAnswerTo': WHATEVER THE INPUT: true; the input reads as it did. -/
def fnAnswerToSpec : ChangeSpec := { name := "fnAnswerTo", fn := fun _ => fun
  | [d] => { results := [.lit (.bool true)], args := [d] }
  | _ => none }
def fnAnswerToRow : OpenClaim := { program := "ytkkjgcpkimjfkaa", sum := "ba84cbf3c64061a3b7051c69452b25920556fb3ba3d608060238695f1416511c", func := "loop.example/questiongames/laws.FnAnswerTo", spec := "fnAnswerTo", unfollowed := true, recurses := true, apart := false }
def FnAnswerToSaid : Prop := fnAnswerToRow.holds Try.pinned (OpenSpec.ofChange fnAnswerToSpec)

/-- ITS FALSE NEIGHBOUR: 'it returns false'. Refute it at one input. -/
def fnAnswerToWrong : ChangeSpec := { name := "fnAnswerTo", fn := fun _ => fun
  | [d] => { results := [.lit (.bool false)], args := [d] }
  | _ => none }
def FnAnswerToWrongFalsely : Prop := fnAnswerToRow.holds Try.pinned (OpenSpec.ofChange fnAnswerToWrong)

/-- 'laws.FnAllCodes': WHATEVER THE INPUT: true; the input reads as it did. -/
def fnAllCodesSpec : ChangeSpec := { name := "fnAllCodes", fn := fun _ => fun
  | [d] => { results := [.lit (.bool true)], args := [d] }
  | _ => none }
def fnAllCodesRow : OpenClaim := { program := "ytkkjgcpkimjfkaa", sum := "ba84cbf3c64061a3b7051c69452b25920556fb3ba3d608060238695f1416511c", func := "loop.example/questiongames/laws.FnAllCodes", spec := "fnAllCodes", unfollowed := true, recurses := true, apart := false }
def FnAllCodesSaid : Prop := fnAllCodesRow.holds Try.pinned (OpenSpec.ofChange fnAllCodesSpec)

/-- ITS FALSE NEIGHBOUR: 'it returns false'. Refute it at one input. -/
def fnAllCodesWrong : ChangeSpec := { name := "fnAllCodes", fn := fun _ => fun
  | [d] => { results := [.lit (.bool false)], args := [d] }
  | _ => none }
def FnAllCodesWrongFalsely : Prop := fnAllCodesRow.holds Try.pinned (OpenSpec.ofChange fnAllCodesWrong)

/-- 'laws.FnGuessesOk': WHATEVER THE INPUT: true; the input reads as it did. -/
def fnGuessesOkSpec : ChangeSpec := { name := "fnGuessesOk", fn := fun _ => fun
  | [d] => { results := [.lit (.bool true)], args := [d] }
  | _ => none }
def fnGuessesOkRow : OpenClaim := { program := "ytkkjgcpkimjfkaa", sum := "ba84cbf3c64061a3b7051c69452b25920556fb3ba3d608060238695f1416511c", func := "loop.example/questiongames/laws.FnGuessesOk", spec := "fnGuessesOk", unfollowed := true, recurses := true, apart := false }
def FnGuessesOkSaid : Prop := fnGuessesOkRow.holds Try.pinned (OpenSpec.ofChange fnGuessesOkSpec)

/-- ITS FALSE NEIGHBOUR: 'it returns false'. Refute it at one input. -/
def fnGuessesOkWrong : ChangeSpec := { name := "fnGuessesOk", fn := fun _ => fun
  | [d] => { results := [.lit (.bool false)], args := [d] }
  | _ => none }
def FnGuessesOkWrongFalsely : Prop := fnGuessesOkRow.holds Try.pinned (OpenSpec.ofChange fnGuessesOkWrong)

/-- 'laws.FnFittingCodes': WHATEVER THE INPUT: true; the input reads as it did. -/
def fnFittingCodesSpec : ChangeSpec := { name := "fnFittingCodes", fn := fun _ => fun
  | [d] => { results := [.lit (.bool true)], args := [d] }
  | _ => none }
def fnFittingCodesRow : OpenClaim := { program := "ytkkjgcpkimjfkaa", sum := "ba84cbf3c64061a3b7051c69452b25920556fb3ba3d608060238695f1416511c", func := "loop.example/questiongames/laws.FnFittingCodes", spec := "fnFittingCodes", unfollowed := true, recurses := true, apart := false }
def FnFittingCodesSaid : Prop := fnFittingCodesRow.holds Try.pinned (OpenSpec.ofChange fnFittingCodesSpec)

/-- ITS FALSE NEIGHBOUR: 'it returns false'. Refute it at one input. -/
def fnFittingCodesWrong : ChangeSpec := { name := "fnFittingCodes", fn := fun _ => fun
  | [d] => { results := [.lit (.bool false)], args := [d] }
  | _ => none }
def FnFittingCodesWrongFalsely : Prop := fnFittingCodesRow.holds Try.pinned (OpenSpec.ofChange fnFittingCodesWrong)

/- THE SECOND FORM. 'bulk': how many values and letters a reading holds, each counted each time it is reached (what is shared counts as often as it is met; a slice's spare places count too). A statement '..UptoSaid' is the law's where the arguments, and the package variables that the reading takes, are together of bulk at most 1048576: NARROWER than '..Said'. Prove '..Said' where nothing that the law and all that it calls make is longer than what came in: it says more and counts as full. Else prove '..UptoSaid'. A law counts once. -/
mutual
def uptoBulk {H : Type} : DataW H → Nat
  | .lit (.string bytes) => bytes.length + 1
  | .lit _ => 1
  | .nil => 1
  | .ptr d => uptoBulk d + 1
  | .slice elems spare => uptoBulkAll elems + uptoBulkAll spare + 1
  | .agg parts => uptoBulkAll parts + 1
  | .iface _ d => uptoBulk d + 1
  | .map entries => uptoBulkEntries entries + 1
  | .held _ => 1
def uptoBulkAll {H : Type} : List (DataW H) → Nat
  | [] => 0
  | d :: r => uptoBulk d + uptoBulkAll r
def uptoBulkEntries {H : Type} : List (Lit × DataW H) → Nat
  | [] => 0
  | x :: r => uptoBulkEntry x + uptoBulkEntries r
def uptoBulkEntry {H : Type} : Lit × DataW H → Nat
  | (.string bytes, d) => bytes.length + uptoBulk d + 1
  | (_, d) => uptoBulk d + 1
 end
def uptoSmall : (H : Type) → List (DataW H) → Bool := fun _ ds => decide (uptoBulkAll ds ≤ 1048576)
def OpenSpec.upto (s : _root_.Go.ChangeSpec) : _root_.Go.OpenSpec := { _root_.Go.OpenSpec.ofChange s with cond := some uptoSmall }

/-- 'laws.FnExactCodeOk', WHERE WHAT IT READS IS OF BULK AT MOST 1048576: true; the input reads as it did. -/
def fnExactCodeOkUptoRow : OpenClaim := { program := "ytkkjgcpkimjfkaa", sum := "ba84cbf3c64061a3b7051c69452b25920556fb3ba3d608060238695f1416511c", func := "loop.example/questiongames/laws.FnExactCodeOk", spec := "fnExactCodeOk", unfollowed := true, recurses := true, apart := false, narrowed := true }
def FnExactCodeOkUptoSaid : Prop := fnExactCodeOkUptoRow.holds Try.pinned (OpenSpec.upto fnExactCodeOkSpec)

/-- 'laws.FnExactAnswerTo', WHERE WHAT IT READS IS OF BULK AT MOST 1048576: true; the input reads as it did. -/
def fnExactAnswerToUptoRow : OpenClaim := { program := "ytkkjgcpkimjfkaa", sum := "ba84cbf3c64061a3b7051c69452b25920556fb3ba3d608060238695f1416511c", func := "loop.example/questiongames/laws.FnExactAnswerTo", spec := "fnExactAnswerTo", unfollowed := true, recurses := true, apart := false, narrowed := true }
def FnExactAnswerToUptoSaid : Prop := fnExactAnswerToUptoRow.holds Try.pinned (OpenSpec.upto fnExactAnswerToSpec)

/-- 'laws.FnExactAllCodes', WHERE WHAT IT READS IS OF BULK AT MOST 1048576: true; the input reads as it did. -/
def fnExactAllCodesUptoRow : OpenClaim := { program := "ytkkjgcpkimjfkaa", sum := "ba84cbf3c64061a3b7051c69452b25920556fb3ba3d608060238695f1416511c", func := "loop.example/questiongames/laws.FnExactAllCodes", spec := "fnExactAllCodes", unfollowed := true, recurses := true, apart := false, narrowed := true }
def FnExactAllCodesUptoSaid : Prop := fnExactAllCodesUptoRow.holds Try.pinned (OpenSpec.upto fnExactAllCodesSpec)

/-- 'laws.FnExactGuessesOk', WHERE WHAT IT READS IS OF BULK AT MOST 1048576: true; the input reads as it did. -/
def fnExactGuessesOkUptoRow : OpenClaim := { program := "ytkkjgcpkimjfkaa", sum := "ba84cbf3c64061a3b7051c69452b25920556fb3ba3d608060238695f1416511c", func := "loop.example/questiongames/laws.FnExactGuessesOk", spec := "fnExactGuessesOk", unfollowed := true, recurses := true, apart := false, narrowed := true }
def FnExactGuessesOkUptoSaid : Prop := fnExactGuessesOkUptoRow.holds Try.pinned (OpenSpec.upto fnExactGuessesOkSpec)

/-- 'laws.FnExactFittingCodes', WHERE WHAT IT READS IS OF BULK AT MOST 1048576: true; the input reads as it did. -/
def fnExactFittingCodesUptoRow : OpenClaim := { program := "ytkkjgcpkimjfkaa", sum := "ba84cbf3c64061a3b7051c69452b25920556fb3ba3d608060238695f1416511c", func := "loop.example/questiongames/laws.FnExactFittingCodes", spec := "fnExactFittingCodes", unfollowed := true, recurses := true, apart := false, narrowed := true }
def FnExactFittingCodesUptoSaid : Prop := fnExactFittingCodesUptoRow.holds Try.pinned (OpenSpec.upto fnExactFittingCodesSpec)

/-- 'laws.FnCodeOk', WHERE WHAT IT READS IS OF BULK AT MOST 1048576: true; the input reads as it did. -/
def fnCodeOkUptoRow : OpenClaim := { program := "ytkkjgcpkimjfkaa", sum := "ba84cbf3c64061a3b7051c69452b25920556fb3ba3d608060238695f1416511c", func := "loop.example/questiongames/laws.FnCodeOk", spec := "fnCodeOk", unfollowed := true, recurses := true, apart := false, narrowed := true }
def FnCodeOkUptoSaid : Prop := fnCodeOkUptoRow.holds Try.pinned (OpenSpec.upto fnCodeOkSpec)

/-- 'laws.FnAnswerTo', WHERE WHAT IT READS IS OF BULK AT MOST 1048576: true; the input reads as it did. -/
def fnAnswerToUptoRow : OpenClaim := { program := "ytkkjgcpkimjfkaa", sum := "ba84cbf3c64061a3b7051c69452b25920556fb3ba3d608060238695f1416511c", func := "loop.example/questiongames/laws.FnAnswerTo", spec := "fnAnswerTo", unfollowed := true, recurses := true, apart := false, narrowed := true }
def FnAnswerToUptoSaid : Prop := fnAnswerToUptoRow.holds Try.pinned (OpenSpec.upto fnAnswerToSpec)

/-- 'laws.FnAllCodes', WHERE WHAT IT READS IS OF BULK AT MOST 1048576: true; the input reads as it did. -/
def fnAllCodesUptoRow : OpenClaim := { program := "ytkkjgcpkimjfkaa", sum := "ba84cbf3c64061a3b7051c69452b25920556fb3ba3d608060238695f1416511c", func := "loop.example/questiongames/laws.FnAllCodes", spec := "fnAllCodes", unfollowed := true, recurses := true, apart := false, narrowed := true }
def FnAllCodesUptoSaid : Prop := fnAllCodesUptoRow.holds Try.pinned (OpenSpec.upto fnAllCodesSpec)

/-- 'laws.FnGuessesOk', WHERE WHAT IT READS IS OF BULK AT MOST 1048576: true; the input reads as it did. -/
def fnGuessesOkUptoRow : OpenClaim := { program := "ytkkjgcpkimjfkaa", sum := "ba84cbf3c64061a3b7051c69452b25920556fb3ba3d608060238695f1416511c", func := "loop.example/questiongames/laws.FnGuessesOk", spec := "fnGuessesOk", unfollowed := true, recurses := true, apart := false, narrowed := true }
def FnGuessesOkUptoSaid : Prop := fnGuessesOkUptoRow.holds Try.pinned (OpenSpec.upto fnGuessesOkSpec)

/-- 'laws.FnFittingCodes', WHERE WHAT IT READS IS OF BULK AT MOST 1048576: true; the input reads as it did. -/
def fnFittingCodesUptoRow : OpenClaim := { program := "ytkkjgcpkimjfkaa", sum := "ba84cbf3c64061a3b7051c69452b25920556fb3ba3d608060238695f1416511c", func := "loop.example/questiongames/laws.FnFittingCodes", spec := "fnFittingCodes", unfollowed := true, recurses := true, apart := false, narrowed := true }
def FnFittingCodesUptoSaid : Prop := fnFittingCodesUptoRow.holds Try.pinned (OpenSpec.upto fnFittingCodesSpec)

end Rows
end Go.Proofs.Ytkkjgcpkimjfkaa
