/-
  No cell of these rows narrows 'for every input' (looked for: loops, veiled, ifaces, maps, wideKeys, modest, calm, conditions, laid).
  DERIVED. THE GIVEN ROWS OF THIS SEAT. 5 by the template 'for every input the law returns true; each argument reads behind the call as it read before'; 0 by the template 'total and deterministic' (their statements: YtbfkiggcemlmgaaTotals.lean).
  GIVEN WITH THE SEED: the statements are not yours to turn. If you find one false, say at which input.
  Laid BY PROGRAM, IN A SANDBOX (cutbox-rows.mjs): the forced cells as the released guide's own fill.sh prints them over the translation 7963d9a076c8b749… (all of the seat's roots in one cut). By AI agents, Wed Nov 11 2026. No macro, syntax, notation, axiom, sorry.
-/
import Derived.Test.YtbfkiggcemlmgaaChecked
import GoSem.Claim
import GoSem.ClaimJoined
import GoSem.ClaimMapViews
import Derived.JoinedTies
import Derived.KernelRfl
namespace Go.Proofs.Ytbfkiggcemlmgaa
/- THE CELL 'sum', in the pinned program and in every row, IS THE sha256 OF THE DUMP (.gsa) THAT YtbfkiggcemlmgaaProg.lean LOADS. Nothing in Lean hashes anything: it is a label: what it is worth is what the hold of that sum in a sandbox is worth. -/
noncomputable def Try.pinned : Pinned := { name := "ytbfkiggcemlmgaa", sum := "7963d9a076c8b7492bea2e71ca4c18b8ddb20837a8714f4f9ed6043b450f5729", checked := Try.checked }
namespace Rows
def none {H : Type} : Left H := { results := [], args := [] }

/-- 'laws.FnExactSeverityName': WHATEVER THE INPUT: true; the input reads as it did. -/
def fnExactSeverityNameSpec : ChangeSpec := { name := "fnExactSeverityName", fn := fun _ => fun
  | [d] => { results := [.lit (.bool true)], args := [d] }
  | _ => none }
def fnExactSeverityNameRow : OpenClaim := { program := "ytbfkiggcemlmgaa", sum := "7963d9a076c8b7492bea2e71ca4c18b8ddb20837a8714f4f9ed6043b450f5729", func := "loop.example/g00986/laws.FnExactSeverityName", spec := "fnExactSeverityName", apart := false }
def FnExactSeverityNameSaid : Prop := fnExactSeverityNameRow.holds Try.pinned (OpenSpec.ofChange fnExactSeverityNameSpec)

/-- ITS FALSE NEIGHBOUR: 'it returns false'. Refute it at one input. -/
def fnExactSeverityNameWrong : ChangeSpec := { name := "fnExactSeverityName", fn := fun _ => fun
  | [d] => { results := [.lit (.bool false)], args := [d] }
  | _ => none }
def FnExactSeverityNameWrongFalsely : Prop := fnExactSeverityNameRow.holds Try.pinned (OpenSpec.ofChange fnExactSeverityNameWrong)

/-- 'laws.FnExactLogOk': WHATEVER THE INPUT: true; the input reads as it did. -/
def fnExactLogOkSpec : ChangeSpec := { name := "fnExactLogOk", fn := fun _ => fun
  | [d] => { results := [.lit (.bool true)], args := [d] }
  | _ => none }
def fnExactLogOkRow : OpenClaim := { program := "ytbfkiggcemlmgaa", sum := "7963d9a076c8b7492bea2e71ca4c18b8ddb20837a8714f4f9ed6043b450f5729", func := "loop.example/g00986/laws.FnExactLogOk", spec := "fnExactLogOk", unfollowed := true, recurses := true, apart := false }
def FnExactLogOkSaid : Prop := fnExactLogOkRow.holds Try.pinned (OpenSpec.ofChange fnExactLogOkSpec)

/-- ITS FALSE NEIGHBOUR: 'it returns false'. Refute it at one input. -/
def fnExactLogOkWrong : ChangeSpec := { name := "fnExactLogOk", fn := fun _ => fun
  | [d] => { results := [.lit (.bool false)], args := [d] }
  | _ => none }
def FnExactLogOkWrongFalsely : Prop := fnExactLogOkRow.holds Try.pinned (OpenSpec.ofChange fnExactLogOkWrong)

/-- 'laws.FnExactWorstOf': WHATEVER THE INPUT: true; the input reads as it did. -/
def fnExactWorstOfSpec : ChangeSpec := { name := "fnExactWorstOf", fn := fun _ => fun
  | [d] => { results := [.lit (.bool true)], args := [d] }
  | _ => none }
def fnExactWorstOfRow : OpenClaim := { program := "ytbfkiggcemlmgaa", sum := "7963d9a076c8b7492bea2e71ca4c18b8ddb20837a8714f4f9ed6043b450f5729", func := "loop.example/g00986/laws.FnExactWorstOf", spec := "fnExactWorstOf", unfollowed := true, recurses := true, apart := false }
def FnExactWorstOfSaid : Prop := fnExactWorstOfRow.holds Try.pinned (OpenSpec.ofChange fnExactWorstOfSpec)

/-- ITS FALSE NEIGHBOUR: 'it returns false'. Refute it at one input. -/
def fnExactWorstOfWrong : ChangeSpec := { name := "fnExactWorstOf", fn := fun _ => fun
  | [d] => { results := [.lit (.bool false)], args := [d] }
  | _ => none }
def FnExactWorstOfWrongFalsely : Prop := fnExactWorstOfRow.holds Try.pinned (OpenSpec.ofChange fnExactWorstOfWrong)

/-- 'laws.FnLogs': WHATEVER THE INPUT: true; the input reads as it did. -/
def fnLogsSpec : ChangeSpec := { name := "fnLogs", fn := fun _ => fun
  | [d] => { results := [.lit (.bool true)], args := [d] }
  | _ => none }
def fnLogsRow : OpenClaim := { program := "ytbfkiggcemlmgaa", sum := "7963d9a076c8b7492bea2e71ca4c18b8ddb20837a8714f4f9ed6043b450f5729", func := "loop.example/g00986/laws.FnLogs", spec := "fnLogs", unfollowed := true, recurses := true, apart := false }
def FnLogsSaid : Prop := fnLogsRow.holds Try.pinned (OpenSpec.ofChange fnLogsSpec)

/-- ITS FALSE NEIGHBOUR: 'it returns false'. Refute it at one input. -/
def fnLogsWrong : ChangeSpec := { name := "fnLogs", fn := fun _ => fun
  | [d] => { results := [.lit (.bool false)], args := [d] }
  | _ => none }
def FnLogsWrongFalsely : Prop := fnLogsRow.holds Try.pinned (OpenSpec.ofChange fnLogsWrong)

/-- 'laws.FnExactReportError': WHATEVER THE INPUT: true; the input reads as it did. -/
def fnExactReportErrorSpec : ChangeSpec := { name := "fnExactReportError", fn := fun _ => fun
  | [d1, d2] => { results := [.lit (.bool true)], args := [d1, d2] }
  | _ => none }
def fnExactReportErrorRow : OpenClaim := { program := "ytbfkiggcemlmgaa", sum := "7963d9a076c8b7492bea2e71ca4c18b8ddb20837a8714f4f9ed6043b450f5729", func := "loop.example/g00986/laws.FnExactReportError", spec := "fnExactReportError", unfollowed := true, recurses := true, apart := false }
def FnExactReportErrorSaid : Prop := fnExactReportErrorRow.holds Try.pinned (OpenSpec.ofChange fnExactReportErrorSpec)

/-- ITS FALSE NEIGHBOUR: 'it returns false'. Refute it at one input. -/
def fnExactReportErrorWrong : ChangeSpec := { name := "fnExactReportError", fn := fun _ => fun
  | [d1, d2] => { results := [.lit (.bool false)], args := [d1, d2] }
  | _ => none }
def FnExactReportErrorWrongFalsely : Prop := fnExactReportErrorRow.holds Try.pinned (OpenSpec.ofChange fnExactReportErrorWrong)

/- THE SECOND FORM. 'bulk': how many values and letters a reading holds, each counted each time it is reached (what is shared counts as often as it is met; a slice's spare places count too). A statement '..UptoSaid' is the law's where the arguments, and the package variables that the reading takes, are together of bulk at most 1048576: NARROWER than '..Said'. Prove '..Said' where nothing that the law and all that it calls make is longer than what came in: it says more and counts as full. Else prove '..UptoSaid'. A law counts once. -/
mutual
def uptoBulk {H : Type} : DataW H → Nat
  | .lit (.string bytes) => bytes.length + 1
  | .lit _ => 1
  | .nil => 1
  | .ptr d => uptoBulk d + 1
  | .slice elems spare => uptoBulkAll elems + uptoBulkAll spare + 1
  | .agg parts => uptoBulkAll parts + 1
  | .iface _ d => uptoBulk d + 1
  | .map entries => uptoBulkEntries entries + 1
  | .held _ => 1
def uptoBulkAll {H : Type} : List (DataW H) → Nat
  | [] => 0
  | d :: r => uptoBulk d + uptoBulkAll r
def uptoBulkEntries {H : Type} : List (Lit × DataW H) → Nat
  | [] => 0
  | x :: r => uptoBulkEntry x + uptoBulkEntries r
def uptoBulkEntry {H : Type} : Lit × DataW H → Nat
  | (.string bytes, d) => bytes.length + uptoBulk d + 1
  | (_, d) => uptoBulk d + 1
 end
def uptoSmall : (H : Type) → List (DataW H) → Bool := fun _ ds => decide (uptoBulkAll ds ≤ 1048576)
def OpenSpec.upto (s : _root_.Go.ChangeSpec) : _root_.Go.OpenSpec := { _root_.Go.OpenSpec.ofChange s with cond := some uptoSmall }

/-- 'laws.FnExactSeverityName', WHERE WHAT IT READS IS OF BULK AT MOST 1048576: true; the input reads as it did. -/
def fnExactSeverityNameUptoRow : OpenClaim := { program := "ytbfkiggcemlmgaa", sum := "7963d9a076c8b7492bea2e71ca4c18b8ddb20837a8714f4f9ed6043b450f5729", func := "loop.example/g00986/laws.FnExactSeverityName", spec := "fnExactSeverityName", apart := false, narrowed := true }
def FnExactSeverityNameUptoSaid : Prop := fnExactSeverityNameUptoRow.holds Try.pinned (OpenSpec.upto fnExactSeverityNameSpec)

/-- 'laws.FnExactLogOk', WHERE WHAT IT READS IS OF BULK AT MOST 1048576: true; the input reads as it did. -/
def fnExactLogOkUptoRow : OpenClaim := { program := "ytbfkiggcemlmgaa", sum := "7963d9a076c8b7492bea2e71ca4c18b8ddb20837a8714f4f9ed6043b450f5729", func := "loop.example/g00986/laws.FnExactLogOk", spec := "fnExactLogOk", unfollowed := true, recurses := true, apart := false, narrowed := true }
def FnExactLogOkUptoSaid : Prop := fnExactLogOkUptoRow.holds Try.pinned (OpenSpec.upto fnExactLogOkSpec)

/-- 'laws.FnExactWorstOf', WHERE WHAT IT READS IS OF BULK AT MOST 1048576: true; the input reads as it did. -/
def fnExactWorstOfUptoRow : OpenClaim := { program := "ytbfkiggcemlmgaa", sum := "7963d9a076c8b7492bea2e71ca4c18b8ddb20837a8714f4f9ed6043b450f5729", func := "loop.example/g00986/laws.FnExactWorstOf", spec := "fnExactWorstOf", unfollowed := true, recurses := true, apart := false, narrowed := true }
def FnExactWorstOfUptoSaid : Prop := fnExactWorstOfUptoRow.holds Try.pinned (OpenSpec.upto fnExactWorstOfSpec)

/-- 'laws.FnLogs', WHERE WHAT IT READS IS OF BULK AT MOST 1048576: true; the input reads as it did. -/
def fnLogsUptoRow : OpenClaim := { program := "ytbfkiggcemlmgaa", sum := "7963d9a076c8b7492bea2e71ca4c18b8ddb20837a8714f4f9ed6043b450f5729", func := "loop.example/g00986/laws.FnLogs", spec := "fnLogs", unfollowed := true, recurses := true, apart := false, narrowed := true }
def FnLogsUptoSaid : Prop := fnLogsUptoRow.holds Try.pinned (OpenSpec.upto fnLogsSpec)

/-- 'laws.FnExactReportError', WHERE WHAT IT READS IS OF BULK AT MOST 1048576: true; the input reads as it did. -/
def fnExactReportErrorUptoRow : OpenClaim := { program := "ytbfkiggcemlmgaa", sum := "7963d9a076c8b7492bea2e71ca4c18b8ddb20837a8714f4f9ed6043b450f5729", func := "loop.example/g00986/laws.FnExactReportError", spec := "fnExactReportError", unfollowed := true, recurses := true, apart := false, narrowed := true }
def FnExactReportErrorUptoSaid : Prop := fnExactReportErrorUptoRow.holds Try.pinned (OpenSpec.upto fnExactReportErrorSpec)

end Rows
end Go.Proofs.Ytbfkiggcemlmgaa
