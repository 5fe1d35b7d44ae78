/-
  No cell of these rows narrows 'for every input' (looked for: loops, veiled, ifaces, maps, wideKeys, modest, calm, conditions, laid).
  DERIVED. THE GIVEN ROWS OF THIS SEAT. 5 by the template 'for every input the law returns true; each argument reads behind the call as it read before'; 0 by the template 'total and deterministic' (their statements: YtmbmapbdbbnaeaaTotals.lean).
  GIVEN WITH THE SEED: the statements are not yours to turn. If you find one false, say at which input.
  Laid BY PROGRAM, IN A SANDBOX (cutbox-rows.mjs): the forced cells as the released guide's own fill.sh prints them over the translation 7a774f5411450869… (all of the seat's roots in one cut). By AI agents, Wed Nov 11 2026. No macro, syntax, notation, axiom, sorry.
-/
import Derived.Test.YtmbmapbdbbnaeaaChecked
import GoSem.Claim
import GoSem.ClaimJoined
import GoSem.ClaimMapViews
import Derived.JoinedTies
import Derived.KernelRfl
namespace Go.Proofs.Ytmbmapbdbbnaeaa
/- THE CELL 'sum', in the pinned program and in every row, IS THE sha256 OF THE DUMP (.gsa) THAT YtmbmapbdbbnaeaaProg.lean LOADS. Nothing in Lean hashes anything: it is a label: what it is worth is what the hold of that sum in a sandbox is worth. -/
noncomputable def Try.pinned : Pinned := { name := "ytmbmapbdbbnaeaa", sum := "7a774f541145086947ccd2ba35c350c700dc90e73b199cffd33f93cd23882639", checked := Try.checked }
namespace Rows
def none {H : Type} : Left H := { results := [], args := [] }

/-- 'laws.FnProducers': WHATEVER THE INPUT: true; the input reads as it did. -/
def fnProducersSpec : ChangeSpec := { name := "fnProducers", fn := fun _ => fun
  | [d] => { results := [.lit (.bool true)], args := [d] }
  | _ => none }
def fnProducersRow : OpenClaim := { program := "ytmbmapbdbbnaeaa", sum := "7a774f541145086947ccd2ba35c350c700dc90e73b199cffd33f93cd23882639", func := "loop.example/g00986/laws.FnProducers", spec := "fnProducers", unfollowed := true, recurses := true, apart := false }
def FnProducersSaid : Prop := fnProducersRow.holds Try.pinned (OpenSpec.ofChange fnProducersSpec)

/-- ITS FALSE NEIGHBOUR: 'it returns false'. Refute it at one input. -/
def fnProducersWrong : ChangeSpec := { name := "fnProducers", fn := fun _ => fun
  | [d] => { results := [.lit (.bool false)], args := [d] }
  | _ => none }
def FnProducersWrongFalsely : Prop := fnProducersRow.holds Try.pinned (OpenSpec.ofChange fnProducersWrong)

/-- 'laws.FnExactSeenBefore': WHATEVER THE INPUT: true; the input reads as it did. -/
def fnExactSeenBeforeSpec : ChangeSpec := { name := "fnExactSeenBefore", fn := fun _ => fun
  | [d1, d2] => { results := [.lit (.bool true)], args := [d1, d2] }
  | _ => none }
def fnExactSeenBeforeRow : OpenClaim := { program := "ytmbmapbdbbnaeaa", sum := "7a774f541145086947ccd2ba35c350c700dc90e73b199cffd33f93cd23882639", func := "loop.example/g00986/laws.FnExactSeenBefore", spec := "fnExactSeenBefore", unfollowed := true, recurses := true, apart := false }
def FnExactSeenBeforeSaid : Prop := fnExactSeenBeforeRow.holds Try.pinned (OpenSpec.ofChange fnExactSeenBeforeSpec)

/-- ITS FALSE NEIGHBOUR: 'it returns false'. Refute it at one input. -/
def fnExactSeenBeforeWrong : ChangeSpec := { name := "fnExactSeenBefore", fn := fun _ => fun
  | [d1, d2] => { results := [.lit (.bool false)], args := [d1, d2] }
  | _ => none }
def FnExactSeenBeforeWrongFalsely : Prop := fnExactSeenBeforeRow.holds Try.pinned (OpenSpec.ofChange fnExactSeenBeforeWrong)

/-- 'laws.FnExactApplyWrites': WHATEVER THE INPUT: true; the input reads as it did. -/
def fnExactApplyWritesSpec : ChangeSpec := { name := "fnExactApplyWrites", fn := fun _ => fun
  | [d1, d2] => { results := [.lit (.bool true)], args := [d1, d2] }
  | _ => none }
def fnExactApplyWritesRow : OpenClaim := { program := "ytmbmapbdbbnaeaa", sum := "7a774f541145086947ccd2ba35c350c700dc90e73b199cffd33f93cd23882639", func := "loop.example/g00986/laws.FnExactApplyWrites", spec := "fnExactApplyWrites", unfollowed := true, recurses := true, apart := false }
def FnExactApplyWritesSaid : Prop := fnExactApplyWritesRow.holds Try.pinned (OpenSpec.ofChange fnExactApplyWritesSpec)

/-- ITS FALSE NEIGHBOUR: 'it returns false'. Refute it at one input. -/
def fnExactApplyWritesWrong : ChangeSpec := { name := "fnExactApplyWrites", fn := fun _ => fun
  | [d1, d2] => { results := [.lit (.bool false)], args := [d1, d2] }
  | _ => none }
def FnExactApplyWritesWrongFalsely : Prop := fnExactApplyWritesRow.holds Try.pinned (OpenSpec.ofChange fnExactApplyWritesWrong)

/-- 'laws.FnExactProduce': WHATEVER THE INPUT: true; the input reads as it did. -/
def fnExactProduceSpec : ChangeSpec := { name := "fnExactProduce", fn := fun _ => fun
  | [d1, d2, d3, d4, d5] => { results := [.lit (.bool true)], args := [d1, d2, d3, d4, d5] }
  | _ => none }
def fnExactProduceRow : OpenClaim := { program := "ytmbmapbdbbnaeaa", sum := "7a774f541145086947ccd2ba35c350c700dc90e73b199cffd33f93cd23882639", func := "loop.example/g00986/laws.FnExactProduce", spec := "fnExactProduce", unfollowed := true, recurses := true, apart := false }
def FnExactProduceSaid : Prop := fnExactProduceRow.holds Try.pinned (OpenSpec.ofChange fnExactProduceSpec)

/-- ITS FALSE NEIGHBOUR: 'it returns false'. Refute it at one input. -/
def fnExactProduceWrong : ChangeSpec := { name := "fnExactProduce", fn := fun _ => fun
  | [d1, d2, d3, d4, d5] => { results := [.lit (.bool false)], args := [d1, d2, d3, d4, d5] }
  | _ => none }
def FnExactProduceWrongFalsely : Prop := fnExactProduceRow.holds Try.pinned (OpenSpec.ofChange fnExactProduceWrong)

/-- 'laws.FnExactIsDelivered': WHATEVER THE INPUT: true; the input reads as it did. -/
def fnExactIsDeliveredSpec : ChangeSpec := { name := "fnExactIsDelivered", fn := fun _ => fun
  | [d1, d2, d3] => { results := [.lit (.bool true)], args := [d1, d2, d3] }
  | _ => none }
def fnExactIsDeliveredRow : OpenClaim := { program := "ytmbmapbdbbnaeaa", sum := "7a774f541145086947ccd2ba35c350c700dc90e73b199cffd33f93cd23882639", func := "loop.example/g00986/laws.FnExactIsDelivered", spec := "fnExactIsDelivered", apart := false }
def FnExactIsDeliveredSaid : Prop := fnExactIsDeliveredRow.holds Try.pinned (OpenSpec.ofChange fnExactIsDeliveredSpec)

/-- ITS FALSE NEIGHBOUR: 'it returns false'. Refute it at one input. -/
def fnExactIsDeliveredWrong : ChangeSpec := { name := "fnExactIsDelivered", fn := fun _ => fun
  | [d1, d2, d3] => { results := [.lit (.bool false)], args := [d1, d2, d3] }
  | _ => none }
def FnExactIsDeliveredWrongFalsely : Prop := fnExactIsDeliveredRow.holds Try.pinned (OpenSpec.ofChange fnExactIsDeliveredWrong)

/- THE SECOND FORM. 'bulk': how many values and letters a reading holds, each counted each time it is reached (what is shared counts as often as it is met; a slice's spare places count too). A statement '..UptoSaid' is the law's where the arguments, and the package variables that the reading takes, are together of bulk at most 1048576: NARROWER than '..Said'. Prove '..Said' where nothing that the law and all that it calls make is longer than what came in: it says more and counts as full. Else prove '..UptoSaid'. A law counts once. -/
mutual
def uptoBulk {H : Type} : DataW H → Nat
  | .lit (.string bytes) => bytes.length + 1
  | .lit _ => 1
  | .nil => 1
  | .ptr d => uptoBulk d + 1
  | .slice elems spare => uptoBulkAll elems + uptoBulkAll spare + 1
  | .agg parts => uptoBulkAll parts + 1
  | .iface _ d => uptoBulk d + 1
  | .map entries => uptoBulkEntries entries + 1
  | .held _ => 1
def uptoBulkAll {H : Type} : List (DataW H) → Nat
  | [] => 0
  | d :: r => uptoBulk d + uptoBulkAll r
def uptoBulkEntries {H : Type} : List (Lit × DataW H) → Nat
  | [] => 0
  | x :: r => uptoBulkEntry x + uptoBulkEntries r
def uptoBulkEntry {H : Type} : Lit × DataW H → Nat
  | (.string bytes, d) => bytes.length + uptoBulk d + 1
  | (_, d) => uptoBulk d + 1
 end
def uptoSmall : (H : Type) → List (DataW H) → Bool := fun _ ds => decide (uptoBulkAll ds ≤ 1048576)
def OpenSpec.upto (s : _root_.Go.ChangeSpec) : _root_.Go.OpenSpec := { _root_.Go.OpenSpec.ofChange s with cond := some uptoSmall }

/-- 'laws.FnProducers', WHERE WHAT IT READS IS OF BULK AT MOST 1048576: true; the input reads as it did. -/
def fnProducersUptoRow : OpenClaim := { program := "ytmbmapbdbbnaeaa", sum := "7a774f541145086947ccd2ba35c350c700dc90e73b199cffd33f93cd23882639", func := "loop.example/g00986/laws.FnProducers", spec := "fnProducers", unfollowed := true, recurses := true, apart := false, narrowed := true }
def FnProducersUptoSaid : Prop := fnProducersUptoRow.holds Try.pinned (OpenSpec.upto fnProducersSpec)

/-- 'laws.FnExactSeenBefore', WHERE WHAT IT READS IS OF BULK AT MOST 1048576: true; the input reads as it did. -/
def fnExactSeenBeforeUptoRow : OpenClaim := { program := "ytmbmapbdbbnaeaa", sum := "7a774f541145086947ccd2ba35c350c700dc90e73b199cffd33f93cd23882639", func := "loop.example/g00986/laws.FnExactSeenBefore", spec := "fnExactSeenBefore", unfollowed := true, recurses := true, apart := false, narrowed := true }
def FnExactSeenBeforeUptoSaid : Prop := fnExactSeenBeforeUptoRow.holds Try.pinned (OpenSpec.upto fnExactSeenBeforeSpec)

/-- 'laws.FnExactApplyWrites', WHERE WHAT IT READS IS OF BULK AT MOST 1048576: true; the input reads as it did. -/
def fnExactApplyWritesUptoRow : OpenClaim := { program := "ytmbmapbdbbnaeaa", sum := "7a774f541145086947ccd2ba35c350c700dc90e73b199cffd33f93cd23882639", func := "loop.example/g00986/laws.FnExactApplyWrites", spec := "fnExactApplyWrites", unfollowed := true, recurses := true, apart := false, narrowed := true }
def FnExactApplyWritesUptoSaid : Prop := fnExactApplyWritesUptoRow.holds Try.pinned (OpenSpec.upto fnExactApplyWritesSpec)

/-- 'laws.FnExactProduce', WHERE WHAT IT READS IS OF BULK AT MOST 1048576: true; the input reads as it did. -/
def fnExactProduceUptoRow : OpenClaim := { program := "ytmbmapbdbbnaeaa", sum := "7a774f541145086947ccd2ba35c350c700dc90e73b199cffd33f93cd23882639", func := "loop.example/g00986/laws.FnExactProduce", spec := "fnExactProduce", unfollowed := true, recurses := true, apart := false, narrowed := true }
def FnExactProduceUptoSaid : Prop := fnExactProduceUptoRow.holds Try.pinned (OpenSpec.upto fnExactProduceSpec)

/-- 'laws.FnExactIsDelivered', WHERE WHAT IT READS IS OF BULK AT MOST 1048576: true; the input reads as it did. -/
def fnExactIsDeliveredUptoRow : OpenClaim := { program := "ytmbmapbdbbnaeaa", sum := "7a774f541145086947ccd2ba35c350c700dc90e73b199cffd33f93cd23882639", func := "loop.example/g00986/laws.FnExactIsDelivered", spec := "fnExactIsDelivered", apart := false, narrowed := true }
def FnExactIsDeliveredUptoSaid : Prop := fnExactIsDeliveredUptoRow.holds Try.pinned (OpenSpec.upto fnExactIsDeliveredSpec)

end Rows
end Go.Proofs.Ytmbmapbdbbnaeaa
