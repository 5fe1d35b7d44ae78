/-
  No cell of these rows narrows 'for every input' (looked for: loops, veiled, ifaces, maps, wideKeys, modest, calm, conditions, laid).
  DERIVED. THE GIVEN ROWS OF THIS SEAT. 8 by the template 'for every input the law returns true; each argument reads behind the call as it read before'; 0 by the template 'total and deterministic' (their statements: YtknaadbgljjpiaaTotals.lean).
  GIVEN WITH THE SEED: the statements are not yours to turn. If you find one false, say at which input.
  Laid BY PROGRAM, IN A SANDBOX (cutbox-rows.mjs): the forced cells as the released guide's own fill.sh prints them over the translation aa18af8dc4a5c935… (all of the seat's roots in one cut). By AI agents, Wed Nov 11 2026. No macro, syntax, notation, axiom, sorry.
-/
import Derived.Test.YtknaadbgljjpiaaChecked
import GoSem.Claim
import GoSem.ClaimJoined
import GoSem.ClaimMapViews
import Derived.JoinedTies
import Derived.KernelRfl
namespace Go.Proofs.Ytknaadbgljjpiaa
/- THE CELL 'sum', in the pinned program and in every row, IS THE sha256 OF THE DUMP (.gsa) THAT YtknaadbgljjpiaaProg.lean LOADS. Nothing in Lean hashes anything: it is a label: what it is worth is what the hold of that sum in a sandbox is worth. -/
noncomputable def Try.pinned : Pinned := { name := "ytknaadbgljjpiaa", sum := "aa18af8dc4a5c935e034f0584deb415543537f9413a45a5a4aff435821900636", checked := Try.checked }
namespace Rows
def none {H : Type} : Left H := { results := [], args := [] }

/-- 'laws.FnExactGuardOk': WHATEVER THE INPUT: true; the input reads as it did. -/
def fnExactGuardOkSpec : ChangeSpec := { name := "fnExactGuardOk", fn := fun _ => fun
  | [d1, d2] => { results := [.lit (.bool true)], args := [d1, d2] }
  | _ => none }
def fnExactGuardOkRow : OpenClaim := { program := "ytknaadbgljjpiaa", sum := "aa18af8dc4a5c935e034f0584deb415543537f9413a45a5a4aff435821900636", func := "loop.example/g00986/laws.FnExactGuardOk", spec := "fnExactGuardOk", unfollowed := true, recurses := true, apart := false }
def FnExactGuardOkSaid : Prop := fnExactGuardOkRow.holds Try.pinned (OpenSpec.ofChange fnExactGuardOkSpec)

/-- ITS FALSE NEIGHBOUR: 'it returns false'. Refute it at one input. -/
def fnExactGuardOkWrong : ChangeSpec := { name := "fnExactGuardOk", fn := fun _ => fun
  | [d1, d2] => { results := [.lit (.bool false)], args := [d1, d2] }
  | _ => none }
def FnExactGuardOkWrongFalsely : Prop := fnExactGuardOkRow.holds Try.pinned (OpenSpec.ofChange fnExactGuardOkWrong)

/-- 'laws.FnExactCutNode': WHATEVER THE INPUT: true; the input reads as it did. -/
def fnExactCutNodeSpec : ChangeSpec := { name := "fnExactCutNode", fn := fun _ => fun
  | [d1, d2, d3] => { results := [.lit (.bool true)], args := [d1, d2, d3] }
  | _ => none }
def fnExactCutNodeRow : OpenClaim := { program := "ytknaadbgljjpiaa", sum := "aa18af8dc4a5c935e034f0584deb415543537f9413a45a5a4aff435821900636", func := "loop.example/g00986/laws.FnExactCutNode", spec := "fnExactCutNode", unfollowed := true, recurses := true, apart := false }
def FnExactCutNodeSaid : Prop := fnExactCutNodeRow.holds Try.pinned (OpenSpec.ofChange fnExactCutNodeSpec)

/-- ITS FALSE NEIGHBOUR: 'it returns false'. Refute it at one input. -/
def fnExactCutNodeWrong : ChangeSpec := { name := "fnExactCutNode", fn := fun _ => fun
  | [d1, d2, d3] => { results := [.lit (.bool false)], args := [d1, d2, d3] }
  | _ => none }
def FnExactCutNodeWrongFalsely : Prop := fnExactCutNodeRow.holds Try.pinned (OpenSpec.ofChange fnExactCutNodeWrong)

/-- 'laws.FnExactOpenNode': WHATEVER THE INPUT: true; the input reads as it did. -/
def fnExactOpenNodeSpec : ChangeSpec := { name := "fnExactOpenNode", fn := fun _ => fun
  | [d1, d2, d3] => { results := [.lit (.bool true)], args := [d1, d2, d3] }
  | _ => none }
def fnExactOpenNodeRow : OpenClaim := { program := "ytknaadbgljjpiaa", sum := "aa18af8dc4a5c935e034f0584deb415543537f9413a45a5a4aff435821900636", func := "loop.example/g00986/laws.FnExactOpenNode", spec := "fnExactOpenNode", unfollowed := true, recurses := true, apart := false }
def FnExactOpenNodeSaid : Prop := fnExactOpenNodeRow.holds Try.pinned (OpenSpec.ofChange fnExactOpenNodeSpec)

/-- ITS FALSE NEIGHBOUR: 'it returns false'. Refute it at one input. -/
def fnExactOpenNodeWrong : ChangeSpec := { name := "fnExactOpenNode", fn := fun _ => fun
  | [d1, d2, d3] => { results := [.lit (.bool false)], args := [d1, d2, d3] }
  | _ => none }
def FnExactOpenNodeWrongFalsely : Prop := fnExactOpenNodeRow.holds Try.pinned (OpenSpec.ofChange fnExactOpenNodeWrong)

/-- 'laws.FnGuards': WHATEVER THE INPUT: true; the input reads as it did. -/
def fnGuardsSpec : ChangeSpec := { name := "fnGuards", fn := fun _ => fun
  | [d] => { results := [.lit (.bool true)], args := [d] }
  | _ => none }
def fnGuardsRow : OpenClaim := { program := "ytknaadbgljjpiaa", sum := "aa18af8dc4a5c935e034f0584deb415543537f9413a45a5a4aff435821900636", func := "loop.example/g00986/laws.FnGuards", spec := "fnGuards", unfollowed := true, recurses := true, apart := false }
def FnGuardsSaid : Prop := fnGuardsRow.holds Try.pinned (OpenSpec.ofChange fnGuardsSpec)

/-- ITS FALSE NEIGHBOUR: 'it returns false'. Refute it at one input. -/
def fnGuardsWrong : ChangeSpec := { name := "fnGuards", fn := fun _ => fun
  | [d] => { results := [.lit (.bool false)], args := [d] }
  | _ => none }
def FnGuardsWrongFalsely : Prop := fnGuardsRow.holds Try.pinned (OpenSpec.ofChange fnGuardsWrong)

/-- 'laws.FnExactCanReach': WHATEVER THE INPUT: true; the input reads as it did. -/
def fnExactCanReachSpec : ChangeSpec := { name := "fnExactCanReach", fn := fun _ => fun
  | [d1, d2, d3, d4] => { results := [.lit (.bool true)], args := [d1, d2, d3, d4] }
  | _ => none }
def fnExactCanReachRow : OpenClaim := { program := "ytknaadbgljjpiaa", sum := "aa18af8dc4a5c935e034f0584deb415543537f9413a45a5a4aff435821900636", func := "loop.example/g00986/laws.FnExactCanReach", spec := "fnExactCanReach", unfollowed := true, recurses := true, apart := false }
def FnExactCanReachSaid : Prop := fnExactCanReachRow.holds Try.pinned (OpenSpec.ofChange fnExactCanReachSpec)

/-- ITS FALSE NEIGHBOUR: 'it returns false'. Refute it at one input. -/
def fnExactCanReachWrong : ChangeSpec := { name := "fnExactCanReach", fn := fun _ => fun
  | [d1, d2, d3, d4] => { results := [.lit (.bool false)], args := [d1, d2, d3, d4] }
  | _ => none }
def FnExactCanReachWrongFalsely : Prop := fnExactCanReachRow.holds Try.pinned (OpenSpec.ofChange fnExactCanReachWrong)

/-- 'laws.FnRefusals': WHATEVER THE INPUT: true; the input reads as it did. -/
def fnRefusalsSpec : ChangeSpec := { name := "fnRefusals", fn := fun _ => fun
  | [d] => { results := [.lit (.bool true)], args := [d] }
  | _ => none }
def fnRefusalsRow : OpenClaim := { program := "ytknaadbgljjpiaa", sum := "aa18af8dc4a5c935e034f0584deb415543537f9413a45a5a4aff435821900636", func := "loop.example/g00986/laws.FnRefusals", spec := "fnRefusals", unfollowed := true, recurses := true, apart := false }
def FnRefusalsSaid : Prop := fnRefusalsRow.holds Try.pinned (OpenSpec.ofChange fnRefusalsSpec)

/-- ITS FALSE NEIGHBOUR: 'it returns false'. Refute it at one input. -/
def fnRefusalsWrong : ChangeSpec := { name := "fnRefusals", fn := fun _ => fun
  | [d] => { results := [.lit (.bool false)], args := [d] }
  | _ => none }
def FnRefusalsWrongFalsely : Prop := fnRefusalsRow.holds Try.pinned (OpenSpec.ofChange fnRefusalsWrong)

/-- 'laws.FnExactCutOff': WHATEVER THE INPUT: true; the input reads as it did. -/
def fnExactCutOffSpec : ChangeSpec := { name := "fnExactCutOff", fn := fun _ => fun
  | [d1, d2] => { results := [.lit (.bool true)], args := [d1, d2] }
  | _ => none }
def fnExactCutOffRow : OpenClaim := { program := "ytknaadbgljjpiaa", sum := "aa18af8dc4a5c935e034f0584deb415543537f9413a45a5a4aff435821900636", func := "loop.example/g00986/laws.FnExactCutOff", spec := "fnExactCutOff", unfollowed := true, recurses := true, apart := false }
def FnExactCutOffSaid : Prop := fnExactCutOffRow.holds Try.pinned (OpenSpec.ofChange fnExactCutOffSpec)

/-- ITS FALSE NEIGHBOUR: 'it returns false'. Refute it at one input. -/
def fnExactCutOffWrong : ChangeSpec := { name := "fnExactCutOff", fn := fun _ => fun
  | [d1, d2] => { results := [.lit (.bool false)], args := [d1, d2] }
  | _ => none }
def FnExactCutOffWrongFalsely : Prop := fnExactCutOffRow.holds Try.pinned (OpenSpec.ofChange fnExactCutOffWrong)

/-- 'laws.FnExactAnswerFor': WHATEVER THE INPUT: true; the input reads as it did. -/
def fnExactAnswerForSpec : ChangeSpec := { name := "fnExactAnswerFor", fn := fun _ => fun
  | [d1, d2, d3, d4, d5] => { results := [.lit (.bool true)], args := [d1, d2, d3, d4, d5] }
  | _ => none }
def fnExactAnswerForRow : OpenClaim := { program := "ytknaadbgljjpiaa", sum := "aa18af8dc4a5c935e034f0584deb415543537f9413a45a5a4aff435821900636", func := "loop.example/g00986/laws.FnExactAnswerFor", spec := "fnExactAnswerFor", unfollowed := true, recurses := true, apart := false }
def FnExactAnswerForSaid : Prop := fnExactAnswerForRow.holds Try.pinned (OpenSpec.ofChange fnExactAnswerForSpec)

/-- ITS FALSE NEIGHBOUR: 'it returns false'. Refute it at one input. -/
def fnExactAnswerForWrong : ChangeSpec := { name := "fnExactAnswerFor", fn := fun _ => fun
  | [d1, d2, d3, d4, d5] => { results := [.lit (.bool false)], args := [d1, d2, d3, d4, d5] }
  | _ => none }
def FnExactAnswerForWrongFalsely : Prop := fnExactAnswerForRow.holds Try.pinned (OpenSpec.ofChange fnExactAnswerForWrong)

/- THE SECOND FORM. 'bulk': how many values and letters a reading holds, each counted each time it is reached (what is shared counts as often as it is met; a slice's spare places count too). A statement '..UptoSaid' is the law's where the arguments, and the package variables that the reading takes, are together of bulk at most 1048576: NARROWER than '..Said'. Prove '..Said' where nothing that the law and all that it calls make is longer than what came in: it says more and counts as full. Else prove '..UptoSaid'. A law counts once. -/
mutual
def uptoBulk {H : Type} : DataW H → Nat
  | .lit (.string bytes) => bytes.length + 1
  | .lit _ => 1
  | .nil => 1
  | .ptr d => uptoBulk d + 1
  | .slice elems spare => uptoBulkAll elems + uptoBulkAll spare + 1
  | .agg parts => uptoBulkAll parts + 1
  | .iface _ d => uptoBulk d + 1
  | .map entries => uptoBulkEntries entries + 1
  | .held _ => 1
def uptoBulkAll {H : Type} : List (DataW H) → Nat
  | [] => 0
  | d :: r => uptoBulk d + uptoBulkAll r
def uptoBulkEntries {H : Type} : List (Lit × DataW H) → Nat
  | [] => 0
  | x :: r => uptoBulkEntry x + uptoBulkEntries r
def uptoBulkEntry {H : Type} : Lit × DataW H → Nat
  | (.string bytes, d) => bytes.length + uptoBulk d + 1
  | (_, d) => uptoBulk d + 1
 end
def uptoSmall : (H : Type) → List (DataW H) → Bool := fun _ ds => decide (uptoBulkAll ds ≤ 1048576)
def OpenSpec.upto (s : _root_.Go.ChangeSpec) : _root_.Go.OpenSpec := { _root_.Go.OpenSpec.ofChange s with cond := some uptoSmall }

/-- 'laws.FnExactGuardOk', WHERE WHAT IT READS IS OF BULK AT MOST 1048576: true; the input reads as it did. -/
def fnExactGuardOkUptoRow : OpenClaim := { program := "ytknaadbgljjpiaa", sum := "aa18af8dc4a5c935e034f0584deb415543537f9413a45a5a4aff435821900636", func := "loop.example/g00986/laws.FnExactGuardOk", spec := "fnExactGuardOk", unfollowed := true, recurses := true, apart := false, narrowed := true }
def FnExactGuardOkUptoSaid : Prop := fnExactGuardOkUptoRow.holds Try.pinned (OpenSpec.upto fnExactGuardOkSpec)

/-- 'laws.FnExactCutNode', WHERE WHAT IT READS IS OF BULK AT MOST 1048576: true; the input reads as it did. -/
def fnExactCutNodeUptoRow : OpenClaim := { program := "ytknaadbgljjpiaa", sum := "aa18af8dc4a5c935e034f0584deb415543537f9413a45a5a4aff435821900636", func := "loop.example/g00986/laws.FnExactCutNode", spec := "fnExactCutNode", unfollowed := true, recurses := true, apart := false, narrowed := true }
def FnExactCutNodeUptoSaid : Prop := fnExactCutNodeUptoRow.holds Try.pinned (OpenSpec.upto fnExactCutNodeSpec)

/-- 'laws.FnExactOpenNode', WHERE WHAT IT READS IS OF BULK AT MOST 1048576: true; the input reads as it did. -/
def fnExactOpenNodeUptoRow : OpenClaim := { program := "ytknaadbgljjpiaa", sum := "aa18af8dc4a5c935e034f0584deb415543537f9413a45a5a4aff435821900636", func := "loop.example/g00986/laws.FnExactOpenNode", spec := "fnExactOpenNode", unfollowed := true, recurses := true, apart := false, narrowed := true }
def FnExactOpenNodeUptoSaid : Prop := fnExactOpenNodeUptoRow.holds Try.pinned (OpenSpec.upto fnExactOpenNodeSpec)

/-- 'laws.FnGuards', WHERE WHAT IT READS IS OF BULK AT MOST 1048576: true; the input reads as it did. -/
def fnGuardsUptoRow : OpenClaim := { program := "ytknaadbgljjpiaa", sum := "aa18af8dc4a5c935e034f0584deb415543537f9413a45a5a4aff435821900636", func := "loop.example/g00986/laws.FnGuards", spec := "fnGuards", unfollowed := true, recurses := true, apart := false, narrowed := true }
def FnGuardsUptoSaid : Prop := fnGuardsUptoRow.holds Try.pinned (OpenSpec.upto fnGuardsSpec)

/-- 'laws.FnExactCanReach', WHERE WHAT IT READS IS OF BULK AT MOST 1048576: true; the input reads as it did. -/
def fnExactCanReachUptoRow : OpenClaim := { program := "ytknaadbgljjpiaa", sum := "aa18af8dc4a5c935e034f0584deb415543537f9413a45a5a4aff435821900636", func := "loop.example/g00986/laws.FnExactCanReach", spec := "fnExactCanReach", unfollowed := true, recurses := true, apart := false, narrowed := true }
def FnExactCanReachUptoSaid : Prop := fnExactCanReachUptoRow.holds Try.pinned (OpenSpec.upto fnExactCanReachSpec)

/-- 'laws.FnRefusals', WHERE WHAT IT READS IS OF BULK AT MOST 1048576: true; the input reads as it did. -/
def fnRefusalsUptoRow : OpenClaim := { program := "ytknaadbgljjpiaa", sum := "aa18af8dc4a5c935e034f0584deb415543537f9413a45a5a4aff435821900636", func := "loop.example/g00986/laws.FnRefusals", spec := "fnRefusals", unfollowed := true, recurses := true, apart := false, narrowed := true }
def FnRefusalsUptoSaid : Prop := fnRefusalsUptoRow.holds Try.pinned (OpenSpec.upto fnRefusalsSpec)

/-- 'laws.FnExactCutOff', WHERE WHAT IT READS IS OF BULK AT MOST 1048576: true; the input reads as it did. -/
def fnExactCutOffUptoRow : OpenClaim := { program := "ytknaadbgljjpiaa", sum := "aa18af8dc4a5c935e034f0584deb415543537f9413a45a5a4aff435821900636", func := "loop.example/g00986/laws.FnExactCutOff", spec := "fnExactCutOff", unfollowed := true, recurses := true, apart := false, narrowed := true }
def FnExactCutOffUptoSaid : Prop := fnExactCutOffUptoRow.holds Try.pinned (OpenSpec.upto fnExactCutOffSpec)

/-- 'laws.FnExactAnswerFor', WHERE WHAT IT READS IS OF BULK AT MOST 1048576: true; the input reads as it did. -/
def fnExactAnswerForUptoRow : OpenClaim := { program := "ytknaadbgljjpiaa", sum := "aa18af8dc4a5c935e034f0584deb415543537f9413a45a5a4aff435821900636", func := "loop.example/g00986/laws.FnExactAnswerFor", spec := "fnExactAnswerFor", unfollowed := true, recurses := true, apart := false, narrowed := true }
def FnExactAnswerForUptoSaid : Prop := fnExactAnswerForUptoRow.holds Try.pinned (OpenSpec.upto fnExactAnswerForSpec)

end Rows
end Go.Proofs.Ytknaadbgljjpiaa
