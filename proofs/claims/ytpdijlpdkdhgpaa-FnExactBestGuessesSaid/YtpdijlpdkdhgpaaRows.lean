/-
  No cell of these rows narrows 'for every input' (looked for: loops, veiled, ifaces, maps, wideKeys, modest, calm, conditions, laid).
  DERIVED. THE GIVEN ROWS OF THIS SEAT. 7 by the template 'for every input the law returns true; each argument reads behind the call as it read before'; 0 by the template 'total and deterministic' (their statements: YtpdijlpdkdhgpaaTotals.lean).
  GIVEN WITH THE SEED: the statements are not yours to turn. If you find one false, say at which input.
  Laid BY PROGRAM, IN A SANDBOX (cutbox-rows.mjs): the forced cells as the released guide's own fill.sh prints them over the translation be6fcfd9cf90ef51… (all of the seat's roots in one cut). By AI agents, Wed Nov 11 2026. No macro, syntax, notation, axiom, sorry.
-/
import Derived.Test.YtpdijlpdkdhgpaaChecked
import GoSem.Claim
import GoSem.ClaimJoined
import GoSem.ClaimMapViews
import Derived.JoinedTies
import Derived.KernelRfl
namespace Go.Proofs.Ytpdijlpdkdhgpaa
/- THE CELL 'sum', in the pinned program and in every row, IS THE sha256 OF THE DUMP (.gsa) THAT YtpdijlpdkdhgpaaProg.lean LOADS. Nothing in Lean hashes anything: it is a label: what it is worth is what the hold of that sum in a sandbox is worth. -/
noncomputable def Try.pinned : Pinned := { name := "ytpdijlpdkdhgpaa", sum := "be6fcfd9cf90ef517efdbdea9b451762f5b795c439ed78c6cbb80c73552626e7", checked := Try.checked }
namespace Rows
def none {H : Type} : Left H := { results := [], args := [] }

/-- 'laws.FnExactPricesOk': WHATEVER THE INPUT: true; the input reads as it did. -/
def fnExactPricesOkSpec : ChangeSpec := { name := "fnExactPricesOk", fn := fun _ => fun
  | [d] => { results := [.lit (.bool true)], args := [d] }
  | _ => none }
def fnExactPricesOkRow : OpenClaim := { program := "ytpdijlpdkdhgpaa", sum := "be6fcfd9cf90ef517efdbdea9b451762f5b795c439ed78c6cbb80c73552626e7", func := "loop.example/questiongames/laws.FnExactPricesOk", spec := "fnExactPricesOk", unfollowed := true, recurses := true, plainKeys := false, apart := false }
def FnExactPricesOkSaid : Prop := fnExactPricesOkRow.holds Try.pinned (OpenSpec.ofChange fnExactPricesOkSpec)

/-- ITS FALSE NEIGHBOUR: 'it returns false'. Refute it at one input. -/
def fnExactPricesOkWrong : ChangeSpec := { name := "fnExactPricesOk", fn := fun _ => fun
  | [d] => { results := [.lit (.bool false)], args := [d] }
  | _ => none }
def FnExactPricesOkWrongFalsely : Prop := fnExactPricesOkRow.holds Try.pinned (OpenSpec.ofChange fnExactPricesOkWrong)

/-- 'laws.FnExactUpwardNeeds': WHATEVER THE INPUT: true; the input reads as it did. -/
def fnExactUpwardNeedsSpec : ChangeSpec := { name := "fnExactUpwardNeeds", fn := fun _ => fun
  | [d] => { results := [.lit (.bool true)], args := [d] }
  | _ => none }
def fnExactUpwardNeedsRow : OpenClaim := { program := "ytpdijlpdkdhgpaa", sum := "be6fcfd9cf90ef517efdbdea9b451762f5b795c439ed78c6cbb80c73552626e7", func := "loop.example/questiongames/laws.FnExactUpwardNeeds", spec := "fnExactUpwardNeeds", unfollowed := true, recurses := true, plainKeys := false, apart := false }
def FnExactUpwardNeedsSaid : Prop := fnExactUpwardNeedsRow.holds Try.pinned (OpenSpec.ofChange fnExactUpwardNeedsSpec)

/-- ITS FALSE NEIGHBOUR: 'it returns false'. Refute it at one input. -/
def fnExactUpwardNeedsWrong : ChangeSpec := { name := "fnExactUpwardNeeds", fn := fun _ => fun
  | [d] => { results := [.lit (.bool false)], args := [d] }
  | _ => none }
def FnExactUpwardNeedsWrongFalsely : Prop := fnExactUpwardNeedsRow.holds Try.pinned (OpenSpec.ofChange fnExactUpwardNeedsWrong)

/-- 'laws.FnExactSureWith': WHATEVER THE INPUT: true; the input reads as it did. -/
def fnExactSureWithSpec : ChangeSpec := { name := "fnExactSureWith", fn := fun _ => fun
  | [d] => { results := [.lit (.bool true)], args := [d] }
  | _ => none }
def fnExactSureWithRow : OpenClaim := { program := "ytpdijlpdkdhgpaa", sum := "be6fcfd9cf90ef517efdbdea9b451762f5b795c439ed78c6cbb80c73552626e7", func := "loop.example/questiongames/laws.FnExactSureWith", spec := "fnExactSureWith", unfollowed := true, recurses := true, plainKeys := false, apart := false }
def FnExactSureWithSaid : Prop := fnExactSureWithRow.holds Try.pinned (OpenSpec.ofChange fnExactSureWithSpec)

/-- ITS FALSE NEIGHBOUR: 'it returns false'. Refute it at one input. -/
def fnExactSureWithWrong : ChangeSpec := { name := "fnExactSureWith", fn := fun _ => fun
  | [d] => { results := [.lit (.bool false)], args := [d] }
  | _ => none }
def FnExactSureWithWrongFalsely : Prop := fnExactSureWithRow.holds Try.pinned (OpenSpec.ofChange fnExactSureWithWrong)

/-- 'laws.FnExactBestGuesses': WHATEVER THE INPUT: true; the input reads as it did. -/
def fnExactBestGuessesSpec : ChangeSpec := { name := "fnExactBestGuesses", fn := fun _ => fun
  | [d] => { results := [.lit (.bool true)], args := [d] }
  | _ => none }
def fnExactBestGuessesRow : OpenClaim := { program := "ytpdijlpdkdhgpaa", sum := "be6fcfd9cf90ef517efdbdea9b451762f5b795c439ed78c6cbb80c73552626e7", func := "loop.example/questiongames/laws.FnExactBestGuesses", spec := "fnExactBestGuesses", unfollowed := true, recurses := true, plainKeys := false, apart := false }
def FnExactBestGuessesSaid : Prop := fnExactBestGuessesRow.holds Try.pinned (OpenSpec.ofChange fnExactBestGuessesSpec)

/-- ITS FALSE NEIGHBOUR: 'it returns false'. Refute it at one input. -/
def fnExactBestGuessesWrong : ChangeSpec := { name := "fnExactBestGuesses", fn := fun _ => fun
  | [d] => { results := [.lit (.bool false)], args := [d] }
  | _ => none }
def FnExactBestGuessesWrongFalsely : Prop := fnExactBestGuessesRow.holds Try.pinned (OpenSpec.ofChange fnExactBestGuessesWrong)

/-- 'laws.FnPricesOk': WHATEVER THE INPUT: true; the input reads as it did. -/
def fnPricesOkSpec : ChangeSpec := { name := "fnPricesOk", fn := fun _ => fun
  | [d] => { results := [.lit (.bool true)], args := [d] }
  | _ => none }
def fnPricesOkRow : OpenClaim := { program := "ytpdijlpdkdhgpaa", sum := "be6fcfd9cf90ef517efdbdea9b451762f5b795c439ed78c6cbb80c73552626e7", func := "loop.example/questiongames/laws.FnPricesOk", spec := "fnPricesOk", unfollowed := true, recurses := true, plainKeys := false, apart := false }
def FnPricesOkSaid : Prop := fnPricesOkRow.holds Try.pinned (OpenSpec.ofChange fnPricesOkSpec)

/-- ITS FALSE NEIGHBOUR: 'it returns false'. Refute it at one input. -/
def fnPricesOkWrong : ChangeSpec := { name := "fnPricesOk", fn := fun _ => fun
  | [d] => { results := [.lit (.bool false)], args := [d] }
  | _ => none }
def FnPricesOkWrongFalsely : Prop := fnPricesOkRow.holds Try.pinned (OpenSpec.ofChange fnPricesOkWrong)

/-- 'laws.FnUpwardNeeds': WHATEVER THE INPUT: true; the input reads as it did. -/
def fnUpwardNeedsSpec : ChangeSpec := { name := "fnUpwardNeeds", fn := fun _ => fun
  | [d] => { results := [.lit (.bool true)], args := [d] }
  | _ => none }
def fnUpwardNeedsRow : OpenClaim := { program := "ytpdijlpdkdhgpaa", sum := "be6fcfd9cf90ef517efdbdea9b451762f5b795c439ed78c6cbb80c73552626e7", func := "loop.example/questiongames/laws.FnUpwardNeeds", spec := "fnUpwardNeeds", unfollowed := true, recurses := true, plainKeys := false, apart := false }
def FnUpwardNeedsSaid : Prop := fnUpwardNeedsRow.holds Try.pinned (OpenSpec.ofChange fnUpwardNeedsSpec)

/-- ITS FALSE NEIGHBOUR: 'it returns false'. Refute it at one input. -/
def fnUpwardNeedsWrong : ChangeSpec := { name := "fnUpwardNeeds", fn := fun _ => fun
  | [d] => { results := [.lit (.bool false)], args := [d] }
  | _ => none }
def FnUpwardNeedsWrongFalsely : Prop := fnUpwardNeedsRow.holds Try.pinned (OpenSpec.ofChange fnUpwardNeedsWrong)

/-- 'laws.FnSureWith': WHATEVER THE INPUT: true; the input reads as it did. -/
def fnSureWithSpec : ChangeSpec := { name := "fnSureWith", fn := fun _ => fun
  | [d] => { results := [.lit (.bool true)], args := [d] }
  | _ => none }
def fnSureWithRow : OpenClaim := { program := "ytpdijlpdkdhgpaa", sum := "be6fcfd9cf90ef517efdbdea9b451762f5b795c439ed78c6cbb80c73552626e7", func := "loop.example/questiongames/laws.FnSureWith", spec := "fnSureWith", unfollowed := true, recurses := true, plainKeys := false, apart := false }
def FnSureWithSaid : Prop := fnSureWithRow.holds Try.pinned (OpenSpec.ofChange fnSureWithSpec)

/-- ITS FALSE NEIGHBOUR: 'it returns false'. Refute it at one input. -/
def fnSureWithWrong : ChangeSpec := { name := "fnSureWith", fn := fun _ => fun
  | [d] => { results := [.lit (.bool false)], args := [d] }
  | _ => none }
def FnSureWithWrongFalsely : Prop := fnSureWithRow.holds Try.pinned (OpenSpec.ofChange fnSureWithWrong)

/- THE SECOND FORM. 'bulk': how many values and letters a reading holds, each counted each time it is reached (what is shared counts as often as it is met; a slice's spare places count too). A statement '..UptoSaid' is the law's where the arguments, and the package variables that the reading takes, are together of bulk at most 1048576: NARROWER than '..Said'. Prove '..Said' where nothing that the law and all that it calls make is longer than what came in: it says more and counts as full. Else prove '..UptoSaid'. A law counts once. -/
mutual
def uptoBulk {H : Type} : DataW H → Nat
  | .lit (.string bytes) => bytes.length + 1
  | .lit _ => 1
  | .nil => 1
  | .ptr d => uptoBulk d + 1
  | .slice elems spare => uptoBulkAll elems + uptoBulkAll spare + 1
  | .agg parts => uptoBulkAll parts + 1
  | .iface _ d => uptoBulk d + 1
  | .map entries => uptoBulkEntries entries + 1
  | .held _ => 1
def uptoBulkAll {H : Type} : List (DataW H) → Nat
  | [] => 0
  | d :: r => uptoBulk d + uptoBulkAll r
def uptoBulkEntries {H : Type} : List (Lit × DataW H) → Nat
  | [] => 0
  | x :: r => uptoBulkEntry x + uptoBulkEntries r
def uptoBulkEntry {H : Type} : Lit × DataW H → Nat
  | (.string bytes, d) => bytes.length + uptoBulk d + 1
  | (_, d) => uptoBulk d + 1
 end
def uptoSmall : (H : Type) → List (DataW H) → Bool := fun _ ds => decide (uptoBulkAll ds ≤ 1048576)
def OpenSpec.upto (s : _root_.Go.ChangeSpec) : _root_.Go.OpenSpec := { _root_.Go.OpenSpec.ofChange s with cond := some uptoSmall }

/-- 'laws.FnExactPricesOk', WHERE WHAT IT READS IS OF BULK AT MOST 1048576: true; the input reads as it did. -/
def fnExactPricesOkUptoRow : OpenClaim := { program := "ytpdijlpdkdhgpaa", sum := "be6fcfd9cf90ef517efdbdea9b451762f5b795c439ed78c6cbb80c73552626e7", func := "loop.example/questiongames/laws.FnExactPricesOk", spec := "fnExactPricesOk", unfollowed := true, recurses := true, plainKeys := false, apart := false, narrowed := true }
def FnExactPricesOkUptoSaid : Prop := fnExactPricesOkUptoRow.holds Try.pinned (OpenSpec.upto fnExactPricesOkSpec)

/-- 'laws.FnExactUpwardNeeds', WHERE WHAT IT READS IS OF BULK AT MOST 1048576: true; the input reads as it did. -/
def fnExactUpwardNeedsUptoRow : OpenClaim := { program := "ytpdijlpdkdhgpaa", sum := "be6fcfd9cf90ef517efdbdea9b451762f5b795c439ed78c6cbb80c73552626e7", func := "loop.example/questiongames/laws.FnExactUpwardNeeds", spec := "fnExactUpwardNeeds", unfollowed := true, recurses := true, plainKeys := false, apart := false, narrowed := true }
def FnExactUpwardNeedsUptoSaid : Prop := fnExactUpwardNeedsUptoRow.holds Try.pinned (OpenSpec.upto fnExactUpwardNeedsSpec)

/-- 'laws.FnExactSureWith', WHERE WHAT IT READS IS OF BULK AT MOST 1048576: true; the input reads as it did. -/
def fnExactSureWithUptoRow : OpenClaim := { program := "ytpdijlpdkdhgpaa", sum := "be6fcfd9cf90ef517efdbdea9b451762f5b795c439ed78c6cbb80c73552626e7", func := "loop.example/questiongames/laws.FnExactSureWith", spec := "fnExactSureWith", unfollowed := true, recurses := true, plainKeys := false, apart := false, narrowed := true }
def FnExactSureWithUptoSaid : Prop := fnExactSureWithUptoRow.holds Try.pinned (OpenSpec.upto fnExactSureWithSpec)

/-- 'laws.FnExactBestGuesses', WHERE WHAT IT READS IS OF BULK AT MOST 1048576: true; the input reads as it did. -/
def fnExactBestGuessesUptoRow : OpenClaim := { program := "ytpdijlpdkdhgpaa", sum := "be6fcfd9cf90ef517efdbdea9b451762f5b795c439ed78c6cbb80c73552626e7", func := "loop.example/questiongames/laws.FnExactBestGuesses", spec := "fnExactBestGuesses", unfollowed := true, recurses := true, plainKeys := false, apart := false, narrowed := true }
def FnExactBestGuessesUptoSaid : Prop := fnExactBestGuessesUptoRow.holds Try.pinned (OpenSpec.upto fnExactBestGuessesSpec)

/-- 'laws.FnPricesOk', WHERE WHAT IT READS IS OF BULK AT MOST 1048576: true; the input reads as it did. -/
def fnPricesOkUptoRow : OpenClaim := { program := "ytpdijlpdkdhgpaa", sum := "be6fcfd9cf90ef517efdbdea9b451762f5b795c439ed78c6cbb80c73552626e7", func := "loop.example/questiongames/laws.FnPricesOk", spec := "fnPricesOk", unfollowed := true, recurses := true, plainKeys := false, apart := false, narrowed := true }
def FnPricesOkUptoSaid : Prop := fnPricesOkUptoRow.holds Try.pinned (OpenSpec.upto fnPricesOkSpec)

/-- 'laws.FnUpwardNeeds', WHERE WHAT IT READS IS OF BULK AT MOST 1048576: true; the input reads as it did. -/
def fnUpwardNeedsUptoRow : OpenClaim := { program := "ytpdijlpdkdhgpaa", sum := "be6fcfd9cf90ef517efdbdea9b451762f5b795c439ed78c6cbb80c73552626e7", func := "loop.example/questiongames/laws.FnUpwardNeeds", spec := "fnUpwardNeeds", unfollowed := true, recurses := true, plainKeys := false, apart := false, narrowed := true }
def FnUpwardNeedsUptoSaid : Prop := fnUpwardNeedsUptoRow.holds Try.pinned (OpenSpec.upto fnUpwardNeedsSpec)

/-- 'laws.FnSureWith', WHERE WHAT IT READS IS OF BULK AT MOST 1048576: true; the input reads as it did. -/
def fnSureWithUptoRow : OpenClaim := { program := "ytpdijlpdkdhgpaa", sum := "be6fcfd9cf90ef517efdbdea9b451762f5b795c439ed78c6cbb80c73552626e7", func := "loop.example/questiongames/laws.FnSureWith", spec := "fnSureWith", unfollowed := true, recurses := true, plainKeys := false, apart := false, narrowed := true }
def FnSureWithUptoSaid : Prop := fnSureWithUptoRow.holds Try.pinned (OpenSpec.upto fnSureWithSpec)

end Rows
end Go.Proofs.Ytpdijlpdkdhgpaa
