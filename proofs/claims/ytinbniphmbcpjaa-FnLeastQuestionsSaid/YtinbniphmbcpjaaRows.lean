/-
  No cell of these rows narrows 'for every input' (looked for: loops, veiled, ifaces, maps, wideKeys, modest, calm, conditions, laid).
  DERIVED. THE GIVEN ROWS OF THIS SEAT. 6 by the template 'for every input the law returns true; each argument reads behind the call as it read before'; 0 by the template 'total and deterministic' (their statements: YtinbniphmbcpjaaTotals.lean).
  GIVEN WITH THE SEED: the statements are not yours to turn. If you find one false, say at which input.
  Laid BY PROGRAM, IN A SANDBOX (cutbox-rows.mjs): the forced cells as the released guide's own fill.sh prints them over the translation b0f17456f7a271c8… (all of the seat's roots in one cut). By AI agents, Wed Nov 11 2026. No macro, syntax, notation, axiom, sorry.
-/
import Derived.Test.YtinbniphmbcpjaaChecked
import GoSem.Claim
import GoSem.ClaimJoined
import GoSem.ClaimMapViews
import Derived.JoinedTies
import Derived.KernelRfl
namespace Go.Proofs.Ytinbniphmbcpjaa
/- THE CELL 'sum', in the pinned program and in every row, IS THE sha256 OF THE DUMP (.gsa) THAT YtinbniphmbcpjaaProg.lean LOADS. Nothing in Lean hashes anything: it is a label: what it is worth is what the hold of that sum in a sandbox is worth. -/
noncomputable def Try.pinned : Pinned := { name := "ytinbniphmbcpjaa", sum := "b0f17456f7a271c85db6569a4befe22780e4ec5a660d14a13673aedd53033c22", checked := Try.checked }
namespace Rows
def none {H : Type} : Left H := { results := [], args := [] }

/-- 'laws.FnExactConstants': WHATEVER THE INPUT: true; the input reads as it did. -/
def fnExactConstantsSpec : ChangeSpec := { name := "fnExactConstants", fn := fun _ => fun
  | [] => { results := [.lit (.bool true)], args := [] }
  | _ => none }
def fnExactConstantsRow : OpenClaim := { program := "ytinbniphmbcpjaa", sum := "b0f17456f7a271c85db6569a4befe22780e4ec5a660d14a13673aedd53033c22", func := "loop.example/questiongames/laws.FnExactConstants", spec := "fnExactConstants", apart := false }
def FnExactConstantsSaid : Prop := fnExactConstantsRow.holds Try.pinned (OpenSpec.ofChange fnExactConstantsSpec)

/-- ITS FALSE NEIGHBOUR: 'it returns false'. Refute it at one input. -/
def fnExactConstantsWrong : ChangeSpec := { name := "fnExactConstants", fn := fun _ => fun
  | [] => { results := [.lit (.bool false)], args := [] }
  | _ => none }
def FnExactConstantsWrongFalsely : Prop := fnExactConstantsRow.holds Try.pinned (OpenSpec.ofChange fnExactConstantsWrong)

/-- 'laws.FnExactLeastQuestions': WHATEVER THE INPUT: true; the input reads as it did. -/
def fnExactLeastQuestionsSpec : ChangeSpec := { name := "fnExactLeastQuestions", fn := fun _ => fun
  | [d] => { results := [.lit (.bool true)], args := [d] }
  | _ => none }
def fnExactLeastQuestionsRow : OpenClaim := { program := "ytinbniphmbcpjaa", sum := "b0f17456f7a271c85db6569a4befe22780e4ec5a660d14a13673aedd53033c22", func := "loop.example/questiongames/laws.FnExactLeastQuestions", spec := "fnExactLeastQuestions", apart := false }
def FnExactLeastQuestionsSaid : Prop := fnExactLeastQuestionsRow.holds Try.pinned (OpenSpec.ofChange fnExactLeastQuestionsSpec)

/-- ITS FALSE NEIGHBOUR: 'it returns false'. Refute it at one input. -/
def fnExactLeastQuestionsWrong : ChangeSpec := { name := "fnExactLeastQuestions", fn := fun _ => fun
  | [d] => { results := [.lit (.bool false)], args := [d] }
  | _ => none }
def FnExactLeastQuestionsWrongFalsely : Prop := fnExactLeastQuestionsRow.holds Try.pinned (OpenSpec.ofChange fnExactLeastQuestionsWrong)

/-- 'laws.FnExactHalvesOf': WHATEVER THE INPUT: true; the input reads as it did. -/
def fnExactHalvesOfSpec : ChangeSpec := { name := "fnExactHalvesOf", fn := fun _ => fun
  | [d] => { results := [.lit (.bool true)], args := [d] }
  | _ => none }
def fnExactHalvesOfRow : OpenClaim := { program := "ytinbniphmbcpjaa", sum := "b0f17456f7a271c85db6569a4befe22780e4ec5a660d14a13673aedd53033c22", func := "loop.example/questiongames/laws.FnExactHalvesOf", spec := "fnExactHalvesOf", recurses := true, apart := false }
def FnExactHalvesOfSaid : Prop := fnExactHalvesOfRow.holds Try.pinned (OpenSpec.ofChange fnExactHalvesOfSpec)

/-- ITS FALSE NEIGHBOUR: 'it returns false'. Refute it at one input. -/
def fnExactHalvesOfWrong : ChangeSpec := { name := "fnExactHalvesOf", fn := fun _ => fun
  | [d] => { results := [.lit (.bool false)], args := [d] }
  | _ => none }
def FnExactHalvesOfWrongFalsely : Prop := fnExactHalvesOfRow.holds Try.pinned (OpenSpec.ofChange fnExactHalvesOfWrong)

/-- 'laws.FnExactOftenOk': WHATEVER THE INPUT: true; the input reads as it did. -/
def fnExactOftenOkSpec : ChangeSpec := { name := "fnExactOftenOk", fn := fun _ => fun
  | [d] => { results := [.lit (.bool true)], args := [d] }
  | _ => none }
def fnExactOftenOkRow : OpenClaim := { program := "ytinbniphmbcpjaa", sum := "b0f17456f7a271c85db6569a4befe22780e4ec5a660d14a13673aedd53033c22", func := "loop.example/questiongames/laws.FnExactOftenOk", spec := "fnExactOftenOk", unfollowed := true, recurses := true, apart := false }
def FnExactOftenOkSaid : Prop := fnExactOftenOkRow.holds Try.pinned (OpenSpec.ofChange fnExactOftenOkSpec)

/-- ITS FALSE NEIGHBOUR: 'it returns false'. Refute it at one input. -/
def fnExactOftenOkWrong : ChangeSpec := { name := "fnExactOftenOk", fn := fun _ => fun
  | [d] => { results := [.lit (.bool false)], args := [d] }
  | _ => none }
def FnExactOftenOkWrongFalsely : Prop := fnExactOftenOkRow.holds Try.pinned (OpenSpec.ofChange fnExactOftenOkWrong)

/-- 'laws.FnLeastQuestions': WHATEVER THE INPUT: true; the input reads as it did. -/
def fnLeastQuestionsSpec : ChangeSpec := { name := "fnLeastQuestions", fn := fun _ => fun
  | [d] => { results := [.lit (.bool true)], args := [d] }
  | _ => none }
def fnLeastQuestionsRow : OpenClaim := { program := "ytinbniphmbcpjaa", sum := "b0f17456f7a271c85db6569a4befe22780e4ec5a660d14a13673aedd53033c22", func := "loop.example/questiongames/laws.FnLeastQuestions", spec := "fnLeastQuestions", apart := false }
def FnLeastQuestionsSaid : Prop := fnLeastQuestionsRow.holds Try.pinned (OpenSpec.ofChange fnLeastQuestionsSpec)

/-- ITS FALSE NEIGHBOUR: 'it returns false'. Refute it at one input. -/
def fnLeastQuestionsWrong : ChangeSpec := { name := "fnLeastQuestions", fn := fun _ => fun
  | [d] => { results := [.lit (.bool false)], args := [d] }
  | _ => none }
def FnLeastQuestionsWrongFalsely : Prop := fnLeastQuestionsRow.holds Try.pinned (OpenSpec.ofChange fnLeastQuestionsWrong)

/-- 'laws.FnOftenOk': WHATEVER THE INPUT: true; the input reads as it did. -/
def fnOftenOkSpec : ChangeSpec := { name := "fnOftenOk", fn := fun _ => fun
  | [d] => { results := [.lit (.bool true)], args := [d] }
  | _ => none }
def fnOftenOkRow : OpenClaim := { program := "ytinbniphmbcpjaa", sum := "b0f17456f7a271c85db6569a4befe22780e4ec5a660d14a13673aedd53033c22", func := "loop.example/questiongames/laws.FnOftenOk", spec := "fnOftenOk", unfollowed := true, recurses := true, apart := false }
def FnOftenOkSaid : Prop := fnOftenOkRow.holds Try.pinned (OpenSpec.ofChange fnOftenOkSpec)

/-- ITS FALSE NEIGHBOUR: 'it returns false'. Refute it at one input. -/
def fnOftenOkWrong : ChangeSpec := { name := "fnOftenOk", fn := fun _ => fun
  | [d] => { results := [.lit (.bool false)], args := [d] }
  | _ => none }
def FnOftenOkWrongFalsely : Prop := fnOftenOkRow.holds Try.pinned (OpenSpec.ofChange fnOftenOkWrong)

/- THE SECOND FORM. 'bulk': how many values and letters a reading holds, each counted each time it is reached (what is shared counts as often as it is met; a slice's spare places count too). A statement '..UptoSaid' is the law's where the arguments, and the package variables that the reading takes, are together of bulk at most 1048576: NARROWER than '..Said'. Prove '..Said' where nothing that the law and all that it calls make is longer than what came in: it says more and counts as full. Else prove '..UptoSaid'. A law counts once. -/
mutual
def uptoBulk {H : Type} : DataW H → Nat
  | .lit (.string bytes) => bytes.length + 1
  | .lit _ => 1
  | .nil => 1
  | .ptr d => uptoBulk d + 1
  | .slice elems spare => uptoBulkAll elems + uptoBulkAll spare + 1
  | .agg parts => uptoBulkAll parts + 1
  | .iface _ d => uptoBulk d + 1
  | .map entries => uptoBulkEntries entries + 1
  | .held _ => 1
def uptoBulkAll {H : Type} : List (DataW H) → Nat
  | [] => 0
  | d :: r => uptoBulk d + uptoBulkAll r
def uptoBulkEntries {H : Type} : List (Lit × DataW H) → Nat
  | [] => 0
  | x :: r => uptoBulkEntry x + uptoBulkEntries r
def uptoBulkEntry {H : Type} : Lit × DataW H → Nat
  | (.string bytes, d) => bytes.length + uptoBulk d + 1
  | (_, d) => uptoBulk d + 1
 end
def uptoSmall : (H : Type) → List (DataW H) → Bool := fun _ ds => decide (uptoBulkAll ds ≤ 1048576)
def OpenSpec.upto (s : _root_.Go.ChangeSpec) : _root_.Go.OpenSpec := { _root_.Go.OpenSpec.ofChange s with cond := some uptoSmall }

/-- 'laws.FnExactConstants', WHERE WHAT IT READS IS OF BULK AT MOST 1048576: true; the input reads as it did. -/
def fnExactConstantsUptoRow : OpenClaim := { program := "ytinbniphmbcpjaa", sum := "b0f17456f7a271c85db6569a4befe22780e4ec5a660d14a13673aedd53033c22", func := "loop.example/questiongames/laws.FnExactConstants", spec := "fnExactConstants", apart := false, narrowed := true }
def FnExactConstantsUptoSaid : Prop := fnExactConstantsUptoRow.holds Try.pinned (OpenSpec.upto fnExactConstantsSpec)

/-- 'laws.FnExactLeastQuestions', WHERE WHAT IT READS IS OF BULK AT MOST 1048576: true; the input reads as it did. -/
def fnExactLeastQuestionsUptoRow : OpenClaim := { program := "ytinbniphmbcpjaa", sum := "b0f17456f7a271c85db6569a4befe22780e4ec5a660d14a13673aedd53033c22", func := "loop.example/questiongames/laws.FnExactLeastQuestions", spec := "fnExactLeastQuestions", apart := false, narrowed := true }
def FnExactLeastQuestionsUptoSaid : Prop := fnExactLeastQuestionsUptoRow.holds Try.pinned (OpenSpec.upto fnExactLeastQuestionsSpec)

/-- 'laws.FnExactHalvesOf', WHERE WHAT IT READS IS OF BULK AT MOST 1048576: true; the input reads as it did. -/
def fnExactHalvesOfUptoRow : OpenClaim := { program := "ytinbniphmbcpjaa", sum := "b0f17456f7a271c85db6569a4befe22780e4ec5a660d14a13673aedd53033c22", func := "loop.example/questiongames/laws.FnExactHalvesOf", spec := "fnExactHalvesOf", recurses := true, apart := false, narrowed := true }
def FnExactHalvesOfUptoSaid : Prop := fnExactHalvesOfUptoRow.holds Try.pinned (OpenSpec.upto fnExactHalvesOfSpec)

/-- 'laws.FnExactOftenOk', WHERE WHAT IT READS IS OF BULK AT MOST 1048576: true; the input reads as it did. -/
def fnExactOftenOkUptoRow : OpenClaim := { program := "ytinbniphmbcpjaa", sum := "b0f17456f7a271c85db6569a4befe22780e4ec5a660d14a13673aedd53033c22", func := "loop.example/questiongames/laws.FnExactOftenOk", spec := "fnExactOftenOk", unfollowed := true, recurses := true, apart := false, narrowed := true }
def FnExactOftenOkUptoSaid : Prop := fnExactOftenOkUptoRow.holds Try.pinned (OpenSpec.upto fnExactOftenOkSpec)

/-- 'laws.FnLeastQuestions', WHERE WHAT IT READS IS OF BULK AT MOST 1048576: true; the input reads as it did. -/
def fnLeastQuestionsUptoRow : OpenClaim := { program := "ytinbniphmbcpjaa", sum := "b0f17456f7a271c85db6569a4befe22780e4ec5a660d14a13673aedd53033c22", func := "loop.example/questiongames/laws.FnLeastQuestions", spec := "fnLeastQuestions", apart := false, narrowed := true }
def FnLeastQuestionsUptoSaid : Prop := fnLeastQuestionsUptoRow.holds Try.pinned (OpenSpec.upto fnLeastQuestionsSpec)

/-- 'laws.FnOftenOk', WHERE WHAT IT READS IS OF BULK AT MOST 1048576: true; the input reads as it did. -/
def fnOftenOkUptoRow : OpenClaim := { program := "ytinbniphmbcpjaa", sum := "b0f17456f7a271c85db6569a4befe22780e4ec5a660d14a13673aedd53033c22", func := "loop.example/questiongames/laws.FnOftenOk", spec := "fnOftenOk", unfollowed := true, recurses := true, apart := false, narrowed := true }
def FnOftenOkUptoSaid : Prop := fnOftenOkUptoRow.holds Try.pinned (OpenSpec.upto fnOftenOkSpec)

end Rows
end Go.Proofs.Ytinbniphmbcpjaa
