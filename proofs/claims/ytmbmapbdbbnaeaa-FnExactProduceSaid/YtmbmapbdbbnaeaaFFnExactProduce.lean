/- The functions of the program, as they compute: printed by a program of the session (wip/gen), each with its contract. -/
import Derived.Test.YtmbmapbdbbnaeaaProg
import Derived.Test.YtmbmapbdbbnaeaaTiAI
import Derived.Test.YtmbmapbdbbnaeaaTiCHX
set_option linter.unusedVariables false
set_option maxRecDepth 100000
namespace Go.Proofs.YtmbmapbdbbnaeaaT
open Go
abbrev I : Ty := .int .i64
noncomputable section
namespace laws_szBoolS
def f (k : Nat) (a0 : List Bool) (a1 : Int) : Option (Int) := brB (iLt (iSub .i64 a1 (rLen a0)) 0) (some (-1)) (some (iSub .i64 a1 (rLen a0)))
def sig : Sig := ⟨63, [.w false [.row .bool], .w false [I]], [(false, [.val I])]⟩
def H : Hints := ⟨[], [], [], [], false, 0, false⟩
def spec : Spec := { sig := sig, fn := fun k (x : List Bool × Int) => f k x.1 x.2 }
theorem ok : Holds Go.Proofs.Try.prog spec := holds_of_run (G := []) holds_nil (by kernel_rfl) H Go.Proofs.Try.func63 (by kernel_rfl) (rfl : Go.Proofs.Try.f63.body = some _) (by kernel_rfl) (by kernel_rfl) fun k x y h => Eq.trans (by kernel_rfl : _ = spec.fn k x) h
end laws_szBoolS

namespace laws_szVectors
def f (k : Nat) (a0_0 : Int) (a0_1 : List Bool) (a0_2 : List Bool) (a1 : Int) : Option (Int) := bnd (laws_szBoolS.f k a0_1 a1) fun y0 => brB (iLt y0 0) (some (-1)) (bnd (laws_szBoolS.f k a0_2 y0) fun y1 => brB (iLt y1 0) (some (-1)) (some y1))
def sig : Sig := ⟨33, [.w true [I, .row .bool, .row .bool], .w false [I]], [(false, [.val I])]⟩
def H : Hints := ⟨[], [], [], [], false, 0, false⟩
def spec : Spec := { sig := sig, fn := fun k (x : Int × List Bool × List Bool × Int) => f k x.1 x.2.1 x.2.2.1 x.2.2.2 }
theorem ok : Holds Go.Proofs.Try.prog spec := holds_of_run (G := [laws_szBoolS.spec]) (holds_cons laws_szBoolS.ok holds_nil) (by kernel_rfl) H Go.Proofs.Try.func33 (by kernel_rfl) (rfl : Go.Proofs.Try.f33.body = some _) (by kernel_rfl) (by kernel_rfl) fun k x y h => Eq.trans (by kernel_rfl : _ = spec.fn k x) h
end laws_szVectors

namespace laws_toIntS
def s0 (k : Nat) (rec0 : (List Int × List Int × Int) → Option (List Int)) (x0 : List Int) (x1 : List Int) (x2 : Int) : Option (List Int) := brB (iLt x2 (rLen x0)) (chk (cIdx x2 (rLen x0)) (chk (cIdx x2 (rLen x1)) (rec0 (x0, rSet x1 x2 (rGet 0 x0 x2), iAdd .i64 x2 1)))) (some x1)
def l0 (k n : Nat) (x0 : List Int) (x1 : List Int) (x2 : Int) : Option (List Int) := iter (fun (rec : (List Int × List Int × Int) → Option (List Int)) (x : List Int × List Int × Int) => s0 k rec x.1 x.2.1 x.2.2) n (x0, x1, x2)
def f (k : Nat) (a0 : List Int) : Option (List Int) := chk (cMake (rLen a0) (rLen a0) 8) (l0 k k a0 (rRep 0 (rLen a0)) 0)
def sig : Sig := ⟨29, [.w false [.row I]], [(false, [.own I])]⟩
def H : Hints := ⟨[(3, ⟨⟨[(0, .w false 1), (3, .w false 1), (4, .w false 1)], []⟩, [], [.val (.row I), .own I, .val I], []⟩)], [], [], [], true, 0, false⟩
def spec : Spec := { sig := sig, fn := fun k (x : List Int) => f k x }
theorem ok : Holds Go.Proofs.Try.prog spec := holds_of_run (G := []) holds_nil (by kernel_rfl) H Go.Proofs.Try.func29 (by kernel_rfl) (rfl : Go.Proofs.Try.f29.body = some _) (by kernel_rfl) (by kernel_rfl) fun k x y h => Eq.trans (by kernel_rfl : _ = spec.fn k x) h
end laws_toIntS

namespace laws_toBoolS
def s0 (k : Nat) (rec0 : (List Bool × List Bool × Int) → Option (List Bool)) (x0 : List Bool) (x1 : List Bool) (x2 : Int) : Option (List Bool) := brB (iLt x2 (rLen x0)) (chk (cIdx x2 (rLen x0)) (chk (cIdx x2 (rLen x1)) (rec0 (x0, rSet x1 x2 (rGet false x0 x2), iAdd .i64 x2 1)))) (some x1)
def l0 (k n : Nat) (x0 : List Bool) (x1 : List Bool) (x2 : Int) : Option (List Bool) := iter (fun (rec : (List Bool × List Bool × Int) → Option (List Bool)) (x : List Bool × List Bool × Int) => s0 k rec x.1 x.2.1 x.2.2) n (x0, x1, x2)
def f (k : Nat) (a0 : List Bool) : Option (List Bool) := chk (cMake (rLen a0) (rLen a0) 1) (l0 k k a0 (rRep false (rLen a0)) 0)
def sig : Sig := ⟨66, [.w false [.row .bool]], [(false, [.own .bool])]⟩
def H : Hints := ⟨[(3, ⟨⟨[(0, .w false 1), (3, .w false 1), (4, .w false 1)], []⟩, [], [.val (.row .bool), .own .bool, .val I], []⟩)], [], [], [], true, 0, false⟩
def spec : Spec := { sig := sig, fn := fun k (x : List Bool) => f k x }
theorem ok : Holds Go.Proofs.Try.prog spec := holds_of_run (G := []) holds_nil (by kernel_rfl) H Go.Proofs.Try.func66 (by kernel_rfl) (rfl : Go.Proofs.Try.f66.body = some _) (by kernel_rfl) (by kernel_rfl) fun k x y h => Eq.trans (by kernel_rfl : _ = spec.fn k x) h
end laws_toBoolS

namespace laws_toVectors
def f (k : Nat) (a0_0 : Int) (a0_1 : List Bool) (a0_2 : List Bool) : Option (Int × List Bool × List Bool) := bnd (laws_toBoolS.f k a0_1) fun y0 => bnd (laws_toBoolS.f k a0_2) fun y1 => some (a0_0, y0, y1)
def sig : Sig := ⟨35, [.w true [I, .row .bool, .row .bool]], [(true, [.val I, .own .bool, .own .bool])]⟩
def H : Hints := ⟨[], [], [], [], true, 0, false⟩
def spec : Spec := { sig := sig, fn := fun k (x : Int × List Bool × List Bool) => f k x.1 x.2.1 x.2.2 }
theorem ok : Holds Go.Proofs.Try.prog spec := holds_of_run (G := [laws_toBoolS.spec]) (holds_cons laws_toBoolS.ok holds_nil) (by kernel_rfl) H Go.Proofs.Try.func35 (by kernel_rfl) (rfl : Go.Proofs.Try.f35.body = some _) (by kernel_rfl) (by kernel_rfl) fun k x y h => Eq.trans (by kernel_rfl : _ = spec.fn k x) h
end laws_toVectors

namespace spec_l01In
def f (k : Nat) (a0 : Int) (a1 : Int) (a2 : Int) : Option (Bool) := brB (iLe a1 a0) (some (iLe a0 a2)) (some false)
def sig : Sig := ⟨64, [.w false [I], .w false [I], .w false [I]], [(false, [.val .bool])]⟩
def H : Hints := ⟨[], [], [], [], false, 0, false⟩
def spec : Spec := { sig := sig, fn := fun k (x : Int × Int × Int) => f k x.1 x.2.1 x.2.2 }
theorem ok : Holds Go.Proofs.Try.prog spec := holds_of_run (G := []) holds_nil (by kernel_rfl) H Go.Proofs.Try.func64 (by kernel_rfl) (rfl : Go.Proofs.Try.f64.body = some _) (by kernel_rfl) (by kernel_rfl) fun k x y h => Eq.trans (by kernel_rfl : _ = spec.fn k x) h
end spec_l01In

namespace spec_IsId
def f (k : Nat) (a0 : Int) : Option (Bool) := bnd (spec_l01In.f k a0 0 255) fun y0 => some y0
def sig : Sig := ⟨88, [.w false [I]], [(false, [.val .bool])]⟩
def H : Hints := ⟨[], [], [], [], false, 0, false⟩
def spec : Spec := { sig := sig, fn := fun k (x : Int) => f k x }
theorem ok : Holds Go.Proofs.Try.prog spec := holds_of_run (G := [spec_l01In.spec]) (holds_cons spec_l01In.ok holds_nil) (by kernel_rfl) H Go.Proofs.Try.func88 (by kernel_rfl) (rfl : Go.Proofs.Try.f88.body = some _) (by kernel_rfl) (by kernel_rfl) fun k x y h => Eq.trans (by kernel_rfl : _ = spec.fn k x) h
end spec_IsId

namespace spec_l04Words
def s0 (k : Nat) (rec0 : (List Int × Int) → Option (Bool)) (x0 : List Int) (x1 : Int) : Option (Bool) := brB (iLt x1 (rLen x0)) (chk (cIdx x1 (rLen x0)) (bnd (spec_l01In.f k (rGet 0 x0 x1) 0 65535) fun y0 => brB (bNot y0) (some false) (rec0 (x0, iAdd .i64 x1 1)))) (some true)
def l0 (k n : Nat) (x0 : List Int) (x1 : Int) : Option (Bool) := iter (fun (rec : (List Int × Int) → Option (Bool)) (x : List Int × Int) => s0 k rec x.1 x.2) n (x0, x1)
def f (k : Nat) (a0 : List Int) : Option (Bool) := l0 k k a0 0
def sig : Sig := ⟨61, [.w false [.row I]], [(false, [.val .bool])]⟩
def H : Hints := ⟨[(2, ⟨⟨[(0, .w false 1), (3, .w false 1)], []⟩, [], [.val (.row I), .val I], []⟩)], [], [], [], false, 0, false⟩
def spec : Spec := { sig := sig, fn := fun k (x : List Int) => f k x }
theorem ok : Holds Go.Proofs.Try.prog spec := holds_of_run (G := [spec_l01In.spec]) (holds_cons spec_l01In.ok holds_nil) (by kernel_rfl) H Go.Proofs.Try.func61 (by kernel_rfl) (rfl : Go.Proofs.Try.f61.body = some _) (by kernel_rfl) (by kernel_rfl) fun k x y h => Eq.trans (by kernel_rfl : _ = spec.fn k x) h
end spec_l04Words

namespace spec_l04Zero
def f (k : Nat) (a0_0 : Int) (a0_1 : Int) (a0_2 : Int) (a0_3 : Int) (a0_4 : Int) (a0_5 : Int) (a0_6 : Int) (a0_7 : List Int) (a1 : Bool) (a2 : Bool) (a3 : Bool) : Option (Bool) := brB a1 (brB a2 (brB a3 (some true) (some (iEq a0_5 0))) (brB (iEq a0_4 0) (brB a3 (some true) (some (iEq a0_5 0))) (some false))) (brB (iEq a0_2 0) (brB a2 (brB a3 (some true) (some (iEq a0_5 0))) (brB (iEq a0_4 0) (brB a3 (some true) (some (iEq a0_5 0))) (some false))) (some false))
def sig : Sig := ⟨89, [.w true [I, I, I, I, I, I, I, .row I], .w false [.bool], .w false [.bool], .w false [.bool]], [(false, [.val .bool])]⟩
def H : Hints := ⟨[], [], [], [], false, 0, false⟩
def spec : Spec := { sig := sig, fn := fun k (x : Int × Int × Int × Int × Int × Int × Int × List Int × Bool × Bool × Bool) => f k x.1 x.2.1 x.2.2.1 x.2.2.2.1 x.2.2.2.2.1 x.2.2.2.2.2.1 x.2.2.2.2.2.2.1 x.2.2.2.2.2.2.2.1 x.2.2.2.2.2.2.2.2.1 x.2.2.2.2.2.2.2.2.2.1 x.2.2.2.2.2.2.2.2.2.2 }
theorem ok : Holds Go.Proofs.Try.prog spec := holds_of_run (G := []) holds_nil (by kernel_rfl) H Go.Proofs.Try.func89 (by kernel_rfl) (rfl : Go.Proofs.Try.f89.body = some _) (by kernel_rfl) (by kernel_rfl) fun k x y h => Eq.trans (by kernel_rfl : _ = spec.fn k x) h
end spec_l04Zero

namespace spec_IsPacket
def f (k : Nat) (a0_0 : Int) (a0_1 : Int) (a0_2 : Int) (a0_3 : Int) (a0_4 : Int) (a0_5 : Int) (a0_6 : Int) (a0_7 : List Int) : Option (Bool) := bnd (spec_IsId.f k a0_1) fun y0 => brB (bNot y0) (some false) (bnd (spec_l04Words.f k a0_7) fun y1 => brB (bNot y1) (some false) (brB (iEq a0_0 1) (bnd (spec_l01In.f k (rLen a0_7) 1 8) fun y2 => brB y2 (bnd (spec_l01In.f k a0_3 0 (iSub .i64 65536 (rLen a0_7))) fun y3 => brB y3 (brB (iEq a0_6 0) (bnd (spec_l04Zero.f k a0_0 a0_1 a0_2 a0_3 a0_4 a0_5 a0_6 a0_7 false false false) fun y4 => some y4) (some false)) (some false)) (some false)) (brB (iEq a0_0 2) (bnd (spec_l01In.f k (rLen a0_7) 1 8) fun y5 => brB y5 (brB (iEq a0_3 0) (brB (iEq a0_6 0) (bnd (spec_l04Zero.f k a0_0 a0_1 a0_2 a0_3 a0_4 a0_5 a0_6 a0_7 false false false) fun y6 => some y6) (some false)) (some false)) (some false)) (brB (iEq a0_0 3) (brB (iEq (rLen a0_7) 0) (bnd (spec_l01In.f k a0_4 1 64) fun y7 => brB y7 (bnd (spec_l01In.f k a0_3 0 (iSub .i64 65536 a0_4)) fun y8 => brB y8 (bnd (spec_l01In.f k a0_5 0 7) fun y9 => brB y9 (brB (iEq a0_6 0) (bnd (spec_l04Zero.f k a0_0 a0_1 a0_2 a0_3 a0_4 a0_5 a0_6 a0_7 false true true) fun y10 => some y10) (some false)) (some false)) (some false)) (some false)) (some false)) (brB (iEq a0_0 4) (brB (iEq (rLen a0_7) 0) (bnd (spec_l01In.f k a0_3 0 63) fun y11 => brB y11 (bnd (spec_IsId.f k a0_2) fun y12 => brB y12 (bnd (spec_l01In.f k a0_5 0 7) fun y13 => brB y13 (brB (iEq a0_6 0) (bnd (spec_l04Zero.f k a0_0 a0_1 a0_2 a0_3 a0_4 a0_5 a0_6 a0_7 true false true) fun y14 => some y14) (some false)) (some false)) (some false)) (some false)) (some false)) (brB (iEq a0_0 5) (brB (iEq (rLen a0_7) 1) (bnd (spec_l01In.f k a0_3 0 63) fun y15 => brB y15 (bnd (spec_IsId.f k a0_2) fun y16 => brB y16 (bnd (spec_l01In.f k a0_5 0 7) fun y17 => brB y17 (brB (iEq a0_6 0) (bnd (spec_l04Zero.f k a0_0 a0_1 a0_2 a0_3 a0_4 a0_5 a0_6 a0_7 true false true) fun y18 => some y18) (some false)) (some false)) (some false)) (some false)) (some false)) (brB (iEq a0_0 6) (brB (iNe a0_3 0) (some false) (bnd (spec_IsId.f k a0_2) fun y19 => brB (bNot y19) (some false) (bnd (spec_l01In.f k a0_5 0 7) fun y20 => brB (bNot y20) (some false) (bnd (spec_l01In.f k a0_6 0 2) fun y21 => brB (bNot y21) (some false) (bnd (spec_l01In.f k a0_4 0 64) fun y22 => brB (bNot y22) (some false) (brB (iEq (rLen a0_7) 0) (some true) (brB (iEq a0_6 0) (some (iLe (rLen a0_7) (iMin 8 a0_4))) (some false)))))))) (some false))))))))
def sig : Sig := ⟨62, [.w true [I, I, I, I, I, I, I, .row I]], [(false, [.val .bool])]⟩
def H : Hints := ⟨[], [], [], [], false, 0, false⟩
def spec : Spec := { sig := sig, fn := fun k (x : Int × Int × Int × Int × Int × Int × Int × List Int) => f k x.1 x.2.1 x.2.2.1 x.2.2.2.1 x.2.2.2.2.1 x.2.2.2.2.2.1 x.2.2.2.2.2.2.1 x.2.2.2.2.2.2.2 }
theorem ok : Holds Go.Proofs.Try.prog spec := holds_of_run (G := [spec_l01In.spec, spec_IsId.spec, spec_l04Words.spec, spec_l04Zero.spec]) (holds_cons spec_l01In.ok (holds_cons spec_IsId.ok (holds_cons spec_l04Words.ok (holds_cons spec_l04Zero.ok holds_nil)))) (by kernel_rfl) H Go.Proofs.Try.func62 (by kernel_rfl) (rfl : Go.Proofs.Try.f62.body = some _) (by kernel_rfl) (by kernel_rfl) fun k x y h => Eq.trans (by kernel_rfl : _ = spec.fn k x) h
end spec_IsPacket

namespace spec_l30Copy
def f (k : Nat) (a0_0 : Int) (a0_1 : List Bool) (a0_2 : List Bool) : Option (Int × List Bool × List Bool) := chk (cLen (rLen (rApp [] a0_1)) 1) (chk (cLen (rLen (rApp [] a0_2)) 1) (some (a0_0, rApp [] a0_1, rApp [] a0_2)))
def sig : Sig := ⟨90, [.w true [I, .row .bool, .row .bool]], [(true, [.val I, .own .bool, .own .bool])]⟩
def H : Hints := ⟨[], [], [(1, [0, 1, 0, 0, 8, 28, 0, 0, 128, 508, 1023, 2047])], [], false, 0, false⟩
def spec : Spec := { sig := sig, fn := fun k (x : Int × List Bool × List Bool) => f k x.1 x.2.1 x.2.2 }
theorem ok : Holds Go.Proofs.Try.prog spec := holds_of_run (G := []) holds_nil (by kernel_rfl) H Go.Proofs.Try.func90 (by kernel_rfl) (rfl : Go.Proofs.Try.f90.body = some _) (by kernel_rfl) (by kernel_rfl) fun k x y h => Eq.trans (by kernel_rfl : _ = spec.fn k x) h
end spec_l30Copy

namespace spec_VectorsOk
def s0 (k : Nat) (rec0 : (Int × Int × List Bool × List Bool) → Option (Bool)) (x0 : Int) (x1 : Int) (x2 : List Bool) (x3 : List Bool) : Option (Bool) := brB (iLt x0 (rLen x2)) (chk (cIdx x0 (rLen x3)) (brB (rGet false x3 x0) (chk (cIdx x0 (rLen x2)) (brB (bNot (rGet false x2 x0)) (some false) (rec0 (iAdd .i64 x0 1, x1, x2, x3)))) (rec0 (iAdd .i64 x0 1, x1, x2, x3)))) (some true)
def l0 (k n : Nat) (x0 : Int) (x1 : Int) (x2 : List Bool) (x3 : List Bool) : Option (Bool) := iter (fun (rec : (Int × Int × List Bool × List Bool) → Option (Bool)) (x : Int × Int × List Bool × List Bool) => s0 k rec x.1 x.2.1 x.2.2.1 x.2.2.2) n (x0, x1, x2, x3)
def f (k : Nat) (a0_0 : Int) (a0_1 : List Bool) (a0_2 : List Bool) : Option (Bool) := bnd (spec_l01In.f k (rLen a0_1) 1 8) fun y0 => brB (bNot y0) (some false) (brB (iNe (rLen a0_2) (rLen a0_1)) (some false) (bnd (spec_l01In.f k a0_0 0 65535) fun y1 => brB (bNot y1) (some false) (l0 k k 0 a0_0 a0_1 a0_2)))
def sig : Sig := ⟨107, [.w true [I, .row .bool, .row .bool]], [(false, [.val .bool])]⟩
def H : Hints := ⟨[(4, ⟨⟨[(1, .ptr 101 0), (3, .w false 1)], [(101, 3)]⟩, [1], [.val I, .val I, .val (.row .bool), .val (.row .bool)], []⟩)], [], [], [], false, 0, false⟩
def spec : Spec := { sig := sig, fn := fun k (x : Int × List Bool × List Bool) => f k x.1 x.2.1 x.2.2 }
theorem ok : Holds Go.Proofs.Try.prog spec := holds_of_run (G := [spec_l01In.spec]) (holds_cons spec_l01In.ok holds_nil) (by kernel_rfl) H Go.Proofs.Try.func107 (by kernel_rfl) (rfl : Go.Proofs.Try.f107.body = some _) (by kernel_rfl) (by kernel_rfl) fun k x y h => Eq.trans (by kernel_rfl : _ = spec.fn k x) h
end spec_VectorsOk

namespace spec_l30Ok
def f (k : Nat) (a0_0 : Int) (a0_1 : List Bool) (a0_2 : List Bool) (a1 : Int) (a2 : Int) : Option (Bool) := bnd (spec_VectorsOk.f k a0_0 a0_1 a0_2) fun y0 => brB y0 (bnd (spec_IsId.f k a1) fun y1 => brB y1 (bnd (spec_l01In.f k a2 0 (iSub .i64 (rLen a0_1) 1)) fun y2 => some y2) (some false)) (some false)
def sig : Sig := ⟨91, [.w true [I, .row .bool, .row .bool], .w false [I], .w false [I]], [(false, [.val .bool])]⟩
def H : Hints := ⟨[], [], [], [], false, 0, false⟩
def spec : Spec := { sig := sig, fn := fun k (x : Int × List Bool × List Bool × Int × Int) => f k x.1 x.2.1 x.2.2.1 x.2.2.2.1 x.2.2.2.2 }
theorem ok : Holds Go.Proofs.Try.prog spec := holds_of_run (G := [spec_l01In.spec, spec_IsId.spec, spec_VectorsOk.spec]) (holds_cons spec_l01In.ok (holds_cons spec_IsId.ok (holds_cons spec_VectorsOk.ok holds_nil))) (by kernel_rfl) H Go.Proofs.Try.func91 (by kernel_rfl) (rfl : Go.Proofs.Try.f91.body = some _) (by kernel_rfl) (by kernel_rfl) fun k x y h => Eq.trans (by kernel_rfl : _ = spec.fn k x) h
end spec_l30Ok

namespace spec_RaiseVector
def f (k : Nat) (a0_0 : Int) (a0_1 : List Bool) (a0_2 : List Bool) (a1 : Int) (a2 : Int) : Option (Int × List Bool × List Bool × Int × Int × Int × Int × Int × Int × Int × List Int × Bool) := bnd (spec_l30Copy.f k a0_0 a0_1 a0_2) fun p => (fun y0 y1 y2 => bnd (spec_l30Ok.f k a0_0 a0_1 a0_2 a1 a2) fun y3 => brB (bNot y3) (some (y0, y1, y2, 0, 0, 0, 0, 0, 0, 0, [], false)) (chk (cIdx a2 (rLen a0_1)) (brB (rGet false a0_1 a2) (chk (cIdx a2 (rLen y2)) (some (y0, y1, rSet y2 a2 true, 0, 0, 0, 0, 0, 0, 0, [], true))) (some (y0, y1, y2, 1, a1, 0, a0_0, 0, 0, 0, [a2], true))))) p.1 p.2.1 p.2.2
def sig : Sig := ⟨65, [.w true [I, .row .bool, .row .bool], .w false [I], .w false [I]], [(true, [.val I, .own .bool, .own .bool]), (true, [.val I, .val I, .val I, .val I, .val I, .val I, .val I, .own I]), (false, [.val .bool])]⟩
def H : Hints := ⟨[], [], [(7, [0, 0, 0, 4, 0, 16, 62, 1, 255, 511])], [], false, 0, false⟩
def spec : Spec := { sig := sig, fn := fun k (x : Int × List Bool × List Bool × Int × Int) => f k x.1 x.2.1 x.2.2.1 x.2.2.2.1 x.2.2.2.2 }
theorem ok : Holds Go.Proofs.Try.prog spec := holds_of_run (G := [spec_l30Copy.spec, spec_l30Ok.spec]) (holds_cons spec_l30Copy.ok (holds_cons spec_l30Ok.ok holds_nil)) (by kernel_rfl) H Go.Proofs.Try.func65 (by kernel_rfl) (rfl : Go.Proofs.Try.f65.body = some _) (by kernel_rfl) (by kernel_rfl) fun k x y h => Eq.trans (by kernel_rfl : _ = spec.fn k x) h
end spec_RaiseVector

namespace spec_Produce
def s0 (k : Nat) (rec0 : (Int × Int × List Int × Int × (List (Int × Int × Int × Int × Int × Int × Int × List Int)) × Int × Int × List Bool × List Bool) → Option (List (Int × Int × Int × Int × Int × Int × Int × List Int) × Bool)) (x0 : Int) (x1 : Int) (x2 : List Int) (x3 : Int) (x4 : List (Int × Int × Int × Int × Int × Int × Int × List Int)) (x5 : Int) (x6 : Int) (x7 : List Bool) (x8 : List Bool) : Option (List (Int × Int × Int × Int × Int × Int × Int × List Int) × Bool) := brB (iLt x5 (rLen x2)) (chk (cSub x5 (iMin (rLen x2) (iAdd .i64 x5 8)) (rLen x2)) (chk (cLen (rLen (rApp [] (rSub x2 x5 (iMin (rLen x2) (iAdd .i64 x5 8))))) 8) (bnd (spec_l01In.f k x1 0 65535) fun y0 => brB (bNot y0) (some ([], false)) (bnd (spec_IsPacket.f k 1 x0 0 (iAdd .i64 x1 x5) 0 0 0 (rApp [] (rSub x2 x5 (iMin (rLen x2) (iAdd .i64 x5 8))))) fun y1 => brB (bNot y1) (some ([], false)) (chk (cLen (rLen (rApp x4 [(1, x0, 0, iAdd .i64 x1 x5, 0, 0, 0, rApp [] (rSub x2 x5 (iMin (rLen x2) (iAdd .i64 x5 8))))])) 80) (rec0 (x0, x1, x2, x3, rApp x4 [(1, x0, 0, iAdd .i64 x1 x5, 0, 0, 0, rApp [] (rSub x2 x5 (iMin (rLen x2) (iAdd .i64 x5 8))))], iAdd .i64 x5 8, x6, x7, x8))))))) (bnd (spec_RaiseVector.f k x6 x7 x8 x0 x3) fun p => (fun y2 y3 y4 y5 y6 y7 y8 y9 y10 y11 y12 y13 => brB (bNot y13) (some ([], false)) (bnd (spec_IsPacket.f k y5 y6 y7 y8 y9 y10 y11 y12) fun y14 => brB (bNot y14) (some ([], false)) (chk (cLen (rLen (rApp x4 [(y5, y6, y7, y8, y9, y10, y11, y12)])) 80) (some (rApp x4 [(y5, y6, y7, y8, y9, y10, y11, y12)], true))))) p.1 p.2.1 p.2.2.1 p.2.2.2.1 p.2.2.2.2.1 p.2.2.2.2.2.1 p.2.2.2.2.2.2.1 p.2.2.2.2.2.2.2.1 p.2.2.2.2.2.2.2.2.1 p.2.2.2.2.2.2.2.2.2.1 p.2.2.2.2.2.2.2.2.2.2.1 p.2.2.2.2.2.2.2.2.2.2.2)
def l0 (k n : Nat) (x0 : Int) (x1 : Int) (x2 : List Int) (x3 : Int) (x4 : List (Int × Int × Int × Int × Int × Int × Int × List Int)) (x5 : Int) (x6 : Int) (x7 : List Bool) (x8 : List Bool) : Option (List (Int × Int × Int × Int × Int × Int × Int × List Int) × Bool) := iter (fun (rec : (Int × Int × List Int × Int × (List (Int × Int × Int × Int × Int × Int × Int × List Int)) × Int × Int × List Bool × List Bool) → Option (List (Int × Int × Int × Int × Int × Int × Int × List Int) × Bool)) (x : Int × Int × List Int × Int × (List (Int × Int × Int × Int × Int × Int × Int × List Int)) × Int × Int × List Bool × List Bool) => s0 k rec x.1 x.2.1 x.2.2.1 x.2.2.2.1 x.2.2.2.2.1 x.2.2.2.2.2.1 x.2.2.2.2.2.2.1 x.2.2.2.2.2.2.2.1 x.2.2.2.2.2.2.2.2) n (x0, x1, x2, x3, x4, x5, x6, x7, x8)
def f (k : Nat) (a0 : Int) (a1 : Int) (a2 : List Int) (a3 : Int) (a4_0 : Int) (a4_1 : List Bool) (a4_2 : List Bool) : Option (List (Int × Int × Int × Int × Int × Int × Int × List Int) × Bool) := l0 k k a0 a1 a2 a3 [] 0 a4_0 a4_1 a4_2
def sig : Sig := ⟨34, [.w false [I], .w false [I], .w false [.row I], .w false [I], .w true [I, .row .bool, .row .bool]], [(false, [.own (.pair I (.pair I (.pair I (.pair I (.pair I (.pair I (.pair I (.row I))))))))]), (false, [.val .bool])]⟩
def H : Hints := ⟨[(3, ⟨⟨[(0, .w false 1), (1, .w false 1), (2, .w false 1), (3, .w false 1), (9, .ptr 109 0), (12, .w false 1), (13, .w false 1)], [(109, 3)]⟩, [9], [.val I, .val I, .val (.row I), .val I, .own (.pair I (.pair I (.pair I (.pair I (.pair I (.pair I (.pair I (.row I)))))))), .val I, .val I, .val (.row .bool), .val (.row .bool)], []⟩)], [], [], [], false, 0, false⟩
def spec : Spec := { sig := sig, fn := fun k (x : Int × Int × List Int × Int × Int × List Bool × List Bool) => f k x.1 x.2.1 x.2.2.1 x.2.2.2.1 x.2.2.2.2.1 x.2.2.2.2.2.1 x.2.2.2.2.2.2 }
theorem ok : Holds Go.Proofs.Try.prog spec := holds_of_run (G := [spec_l01In.spec, spec_IsPacket.spec, spec_RaiseVector.spec]) (holds_cons spec_l01In.ok (holds_cons spec_IsPacket.ok (holds_cons spec_RaiseVector.ok holds_nil))) (by kernel_rfl) H Go.Proofs.Try.func34 (by kernel_rfl) (rfl : Go.Proofs.Try.f34.body = some _) (by kernel_rfl) (by kernel_rfl) fun k x y h => Eq.trans (by kernel_rfl : _ = spec.fn k x) h
end spec_Produce

namespace impl_within
def f (k : Nat) (a0 : Int) (a1 : Int) (a2 : Int) : Option (Bool) := brB (iLe a1 a0) (some (iLe a0 a2)) (some false)
def sig : Sig := ⟨43, [.w false [I], .w false [I], .w false [I]], [(false, [.val .bool])]⟩
def H : Hints := ⟨[], [], [], [], false, 0, false⟩
def spec : Spec := { sig := sig, fn := fun k (x : Int × Int × Int) => f k x.1 x.2.1 x.2.2 }
theorem ok : Holds Go.Proofs.Try.prog spec := holds_of_run (G := []) holds_nil (by kernel_rfl) H Go.Proofs.Try.func43 (by kernel_rfl) (rfl : Go.Proofs.Try.f43.body = some _) (by kernel_rfl) (by kernel_rfl) fun k x y h => Eq.trans (by kernel_rfl : _ = spec.fn k x) h
end impl_within

namespace slices_Chunk_int
def spec : Spec := { sig := ⟨44, [.w false [.row I], .w false [I]], [(false, [.val .bool])]⟩, fn := fun _ _ => none, chunk := some (73, I) }
theorem ok : Holds Go.Proofs.Try.prog spec := chunk_holds (c := 44) (f := 73) (u := I) chunk_raw
end slices_Chunk_int

namespace slices_Clone_int
def f (k : Nat) (a0 : List Int) : Option (List Int) := chk (cLen (rLen a0) 8) (some a0)
def sig : Sig := cloneSig 45 I
def spec : Spec := { sig := sig, fn := fun k (x : List Int) => f k x }
theorem ok : Holds Go.Proofs.Try.prog spec := clone_holds (u := I) (t := 24) (by kernel_rfl) Go.Proofs.Try.func45 (by kernel_rfl) (rfl : Go.Proofs.Try.f45.body = some _) (by kernel_rfl) (by kernel_rfl) Go.Proofs.Try.underlying24 ⟨rfl, rfl, rfl⟩ ⟨rfl, rfl, rfl⟩ ⟨rfl, rfl, _, rfl⟩ (fun l => cLen (rLen l) 8) (fun k => by kernel_rfl) (fun k l => by kernel_rfl)
end slices_Clone_int

namespace impl_IsId
def f (k : Nat) (a0 : Int) : Option (Bool) := bnd (impl_within.f k a0 0 255) fun y0 => some y0
def sig : Sig := ⟨74, [.w false [I]], [(false, [.val .bool])]⟩
def H : Hints := ⟨[], [], [], [], false, 0, false⟩
def spec : Spec := { sig := sig, fn := fun k (x : Int) => f k x }
theorem ok : Holds Go.Proofs.Try.prog spec := holds_of_run (G := [impl_within.spec]) (holds_cons impl_within.ok holds_nil) (by kernel_rfl) H Go.Proofs.Try.func74 (by kernel_rfl) (rfl : Go.Proofs.Try.f74.body = some _) (by kernel_rfl) (by kernel_rfl) fun k x y h => Eq.trans (by kernel_rfl : _ = spec.fn k x) h
end impl_IsId

namespace impl_Packet__words
def f (k : Nat) (a0_0 : Int) (a0_1 : Int) (a0_2 : Int) (a0_3 : Int) (a0_4 : Int) (a0_5 : Int) (a0_6 : Int) (a0_7 : List Int) : Option (Int) := brB (iEq a0_0 3) (some a0_4) (some (rLen a0_7))
def sig : Sig := ⟨93, [.w true [I, I, I, I, I, I, I, .row I]], [(false, [.val I])]⟩
def H : Hints := ⟨[], [], [], [], false, 0, false⟩
def spec : Spec := { sig := sig, fn := fun k (x : Int × Int × Int × Int × Int × Int × Int × List Int) => f k x.1 x.2.1 x.2.2.1 x.2.2.2.1 x.2.2.2.2.1 x.2.2.2.2.2.1 x.2.2.2.2.2.2.1 x.2.2.2.2.2.2.2 }
theorem ok : Holds Go.Proofs.Try.prog spec := holds_of_run (G := []) holds_nil (by kernel_rfl) H Go.Proofs.Try.func93 (by kernel_rfl) (rfl : Go.Proofs.Try.f93.body = some _) (by kernel_rfl) (by kernel_rfl) fun k x y h => Eq.trans (by kernel_rfl : _ = spec.fn k x) h
end impl_Packet__words

namespace impl_Packet__addressOk
def f (k : Nat) (a0_0 : Int) (a0_1 : Int) (a0_2 : Int) (a0_3 : Int) (a0_4 : Int) (a0_5 : Int) (a0_6 : Int) (a0_7 : List Int) : Option (Bool) := brB (iEq a0_0 1) (brB (iEq a0_0 1) (bnd (impl_within.f k a0_3 0 65535) fun y0 => brB y0 (bnd (impl_Packet__words.f k a0_0 a0_1 a0_2 a0_3 a0_4 a0_5 a0_6 a0_7) fun y1 => some (iLe y1 (iSub .i64 65536 a0_3))) (some false)) (brB (iEq a0_0 4) (brB (iEq a0_0 4) (bnd (impl_within.f k a0_3 0 63) fun y2 => some y2) (some (iEq a0_3 0))) (brB (iEq a0_0 5) (bnd (impl_within.f k a0_3 0 63) fun y3 => some y3) (some (iEq a0_3 0))))) (brB (iEq a0_0 3) (bnd (impl_within.f k a0_3 0 65535) fun y4 => brB y4 (bnd (impl_Packet__words.f k a0_0 a0_1 a0_2 a0_3 a0_4 a0_5 a0_6 a0_7) fun y5 => some (iLe y5 (iSub .i64 65536 a0_3))) (some false)) (brB (iEq a0_0 4) (brB (iEq a0_0 4) (bnd (impl_within.f k a0_3 0 63) fun y6 => some y6) (some (iEq a0_3 0))) (brB (iEq a0_0 5) (bnd (impl_within.f k a0_3 0 63) fun y7 => some y7) (some (iEq a0_3 0)))))
def sig : Sig := ⟨75, [.w true [I, I, I, I, I, I, I, .row I]], [(false, [.val .bool])]⟩
def H : Hints := ⟨[], [], [(4, [0, 1, 3, 7, 15, 31, 15, 79, 207, 511, 1023, 2047])], [], false, 0, false⟩
def spec : Spec := { sig := sig, fn := fun k (x : Int × Int × Int × Int × Int × Int × Int × List Int) => f k x.1 x.2.1 x.2.2.1 x.2.2.2.1 x.2.2.2.2.1 x.2.2.2.2.2.1 x.2.2.2.2.2.2.1 x.2.2.2.2.2.2.2 }
theorem ok : Holds Go.Proofs.Try.prog spec := holds_of_run (G := [impl_within.spec, impl_Packet__words.spec]) (holds_cons impl_within.ok (holds_cons impl_Packet__words.ok holds_nil)) (by kernel_rfl) H Go.Proofs.Try.func75 (by kernel_rfl) (rfl : Go.Proofs.Try.f75.body = some _) (by kernel_rfl) (by kernel_rfl) fun k x y h => Eq.trans (by kernel_rfl : _ = spec.fn k x) h
end impl_Packet__addressOk

namespace impl_Packet__lengthOk
def f (k : Nat) (a0_0 : Int) (a0_1 : Int) (a0_2 : Int) (a0_3 : Int) (a0_4 : Int) (a0_5 : Int) (a0_6 : Int) (a0_7 : List Int) : Option (Bool) := brB (iEq a0_0 3) (bnd (impl_within.f k a0_4 1 64) fun y0 => some y0) (brB (iEq a0_0 6) (bnd (impl_within.f k a0_4 0 64) fun y1 => some y1) (some (iEq a0_4 0)))
def sig : Sig := ⟨76, [.w true [I, I, I, I, I, I, I, .row I]], [(false, [.val .bool])]⟩
def H : Hints := ⟨[], [], [], [], false, 0, false⟩
def spec : Spec := { sig := sig, fn := fun k (x : Int × Int × Int × Int × Int × Int × Int × List Int) => f k x.1 x.2.1 x.2.2.1 x.2.2.2.1 x.2.2.2.2.1 x.2.2.2.2.2.1 x.2.2.2.2.2.2.1 x.2.2.2.2.2.2.2 }
theorem ok : Holds Go.Proofs.Try.prog spec := holds_of_run (G := [impl_within.spec]) (holds_cons impl_within.ok holds_nil) (by kernel_rfl) H Go.Proofs.Try.func76 (by kernel_rfl) (rfl : Go.Proofs.Try.f76.body = some _) (by kernel_rfl) (by kernel_rfl) fun k x y h => Eq.trans (by kernel_rfl : _ = spec.fn k x) h
end impl_Packet__lengthOk

namespace impl_isWord
def f (k : Nat) (a0 : Int) : Option (Bool) := bnd (impl_within.f k a0 0 65535) fun y0 => some y0
def sig : Sig := ⟨96, [.w false [I]], [(false, [.val .bool])]⟩
def H : Hints := ⟨[], [], [], [], false, 0, false⟩
def spec : Spec := { sig := sig, fn := fun k (x : Int) => f k x }
theorem ok : Holds Go.Proofs.Try.prog spec := holds_of_run (G := [impl_within.spec]) (holds_cons impl_within.ok holds_nil) (by kernel_rfl) H Go.Proofs.Try.func96 (by kernel_rfl) (rfl : Go.Proofs.Try.f96.body = some _) (by kernel_rfl) (by kernel_rfl) fun k x y h => Eq.trans (by kernel_rfl : _ = spec.fn k x) h
end impl_isWord

namespace impl_Packet__dataOk_1
def f (k : Nat) (a0 : Int) : Option (Bool) := bnd (impl_isWord.f k a0) fun y0 => some (bNot y0)
def sig : Sig := ⟨95, [.w false [I]], [(false, [.val .bool])]⟩
def H : Hints := ⟨[], [], [], [], false, 0, false⟩
def spec : Spec := { sig := sig, fn := fun k (x : Int) => f k x }
theorem ok : Holds Go.Proofs.Try.prog spec := holds_of_run (G := [impl_isWord.spec]) (holds_cons impl_isWord.ok holds_nil) (by kernel_rfl) H Go.Proofs.Try.func95 (by kernel_rfl) (rfl : Go.Proofs.Try.f95.body = some _) (by kernel_rfl) (by kernel_rfl) fun k x y h => Eq.trans (by kernel_rfl : _ = spec.fn k x) h
end impl_Packet__dataOk_1

namespace slices_IndexFunc_int_impl_Packet__dataOk_1
def s0 (k : Nat) (rec0 : (List Int × Int × Int) → Option (Int)) (x0 : List Int) (x1 : Int) (x2 : Int) : Option (Int) := brB (iLt x2 x1) (chk (cIdx x2 (rLen x0)) (bnd (impl_Packet__dataOk_1.f k (rGet 0 x0 x2)) fun y0 => brB y0 (some x2) (rec0 (x0, x1, iAdd .i64 x2 1)))) (some (-1))
def l0 (k n : Nat) (x0 : List Int) (x1 : Int) (x2 : Int) : Option (Int) := iter (fun (rec : (List Int × Int × Int) → Option (Int)) (x : List Int × Int × Int) => s0 k rec x.1 x.2.1 x.2.2) n (x0, x1, x2)
def f (k : Nat) (a0 : List Int) : Option (Int) := l0 k k a0 (rLen a0) 0
def sig : Sig := ⟨108, [.w false [.row I], .fn 95 []], [(false, [.val I])]⟩
def H : Hints := ⟨[(2, ⟨⟨[(0, .w false 1), (1, .fn 95 []), (7, .w false 1), (8, .w false 1)], []⟩, [], [.val (.row I), .val I, .val I], []⟩)], [], [], [], false, 0, false⟩
def spec : Spec := { sig := sig, fn := fun k (x : List Int) => f k x }
theorem ok : Holds Go.Proofs.Try.prog spec := holds_of_run (G := [impl_Packet__dataOk_1.spec]) (holds_cons impl_Packet__dataOk_1.ok holds_nil) (by kernel_rfl) H Go.Proofs.Try.func108 (by kernel_rfl) (rfl : Go.Proofs.Try.f108.body = some _) (by kernel_rfl) (by kernel_rfl) fun k x y h => Eq.trans (by kernel_rfl : _ = spec.fn k x) h
end slices_IndexFunc_int_impl_Packet__dataOk_1

namespace slices_ContainsFunc_int_impl_Packet__dataOk_1
def f (k : Nat) (a0 : List Int) : Option (Bool) := bnd (slices_IndexFunc_int_impl_Packet__dataOk_1.f k a0) fun y0 => some (iLe 0 y0)
def sig : Sig := ⟨94, [.w false [.row I], .fn 95 []], [(false, [.val .bool])]⟩
def H : Hints := ⟨[], [], [], [], false, 0, false⟩
def spec : Spec := { sig := sig, fn := fun k (x : List Int) => f k x }
theorem ok : Holds Go.Proofs.Try.prog spec := holds_of_run (G := [slices_IndexFunc_int_impl_Packet__dataOk_1.spec]) (holds_cons slices_IndexFunc_int_impl_Packet__dataOk_1.ok holds_nil) (by kernel_rfl) H Go.Proofs.Try.func94 (by kernel_rfl) (rfl : Go.Proofs.Try.f94.body = some _) (by kernel_rfl) (by kernel_rfl) fun k x y h => Eq.trans (by kernel_rfl : _ = spec.fn k x) h
end slices_ContainsFunc_int_impl_Packet__dataOk_1

namespace impl_Packet__dataOk
def f (k : Nat) (a0_0 : Int) (a0_1 : Int) (a0_2 : Int) (a0_3 : Int) (a0_4 : Int) (a0_5 : Int) (a0_6 : Int) (a0_7 : List Int) : Option (Bool) := bnd (slices_ContainsFunc_int_impl_Packet__dataOk_1.f k a0_7) fun y0 => brB y0 (some false) (brB (iEq a0_0 1) (bnd (impl_within.f k (rLen a0_7) 1 8) fun y1 => some y1) (brB (iEq a0_0 2) (bnd (impl_within.f k (rLen a0_7) 1 8) fun y2 => some y2) (brB (iEq a0_0 5) (some (iEq (rLen a0_7) 1)) (brB (iEq a0_0 6) (brB (iEq a0_6 0) (brB (iLe (rLen a0_7) 8) (some (iLe (rLen a0_7) a0_4)) (some false)) (some (iEq (rLen a0_7) 0))) (some (iEq (rLen a0_7) 0))))))
def sig : Sig := ⟨77, [.w true [I, I, I, I, I, I, I, .row I]], [(false, [.val .bool])]⟩
def H : Hints := ⟨[], [], [], [], false, 0, false⟩
def spec : Spec := { sig := sig, fn := fun k (x : Int × Int × Int × Int × Int × Int × Int × List Int) => f k x.1 x.2.1 x.2.2.1 x.2.2.2.1 x.2.2.2.2.1 x.2.2.2.2.2.1 x.2.2.2.2.2.2.1 x.2.2.2.2.2.2.2 }
theorem ok : Holds Go.Proofs.Try.prog spec := holds_of_run (G := [impl_within.spec, slices_ContainsFunc_int_impl_Packet__dataOk_1.spec]) (holds_cons impl_within.ok (holds_cons slices_ContainsFunc_int_impl_Packet__dataOk_1.ok holds_nil)) (by kernel_rfl) H Go.Proofs.Try.func77 (by kernel_rfl) (rfl : Go.Proofs.Try.f77.body = some _) (by kernel_rfl) (by kernel_rfl) fun k x y h => Eq.trans (by kernel_rfl : _ = spec.fn k x) h
end impl_Packet__dataOk

namespace impl_IsPacket
def f (k : Nat) (a0_0 : Int) (a0_1 : Int) (a0_2 : Int) (a0_3 : Int) (a0_4 : Int) (a0_5 : Int) (a0_6 : Int) (a0_7 : List Int) : Option (Bool) := bnd (impl_within.f k a0_0 1 6) fun y0 => brB (bNot y0) (some false) (bnd (impl_IsId.f k a0_1) fun y1 => brB (bNot y1) (some false) (bnd (impl_Packet__addressOk.f k a0_0 a0_1 a0_2 a0_3 a0_4 a0_5 a0_6 a0_7) fun y2 => brB (bNot y2) (some false) (bnd (impl_Packet__lengthOk.f k a0_0 a0_1 a0_2 a0_3 a0_4 a0_5 a0_6 a0_7) fun y3 => brB (bNot y3) (some false) (bnd (impl_within.f k a0_0 4 6) fun y4 => brB y4 (bnd (impl_IsId.f k a0_2) fun y5 => brB (bNot y5) (some false) (brB (bNot y4) (brB (iNe a0_2 0) (some false) (bnd (impl_within.f k a0_0 3 6) fun y6 => brB y6 (bnd (impl_within.f k a0_5 0 7) fun y7 => brB (bNot y7) (some false) (brB (bNot y6) (brB (iNe a0_5 0) (some false) (brB (iEq a0_0 6) (bnd (impl_within.f k a0_6 0 2) fun y8 => brB (bNot y8) (some false) (brB (iNe a0_0 6) (brB (iNe a0_6 0) (some false) (bnd (impl_Packet__dataOk.f k a0_0 a0_1 a0_2 a0_3 a0_4 a0_5 a0_6 a0_7) fun y9 => some y9)) (bnd (impl_Packet__dataOk.f k a0_0 a0_1 a0_2 a0_3 a0_4 a0_5 a0_6 a0_7) fun y10 => some y10))) (brB (iNe a0_0 6) (brB (iNe a0_6 0) (some false) (bnd (impl_Packet__dataOk.f k a0_0 a0_1 a0_2 a0_3 a0_4 a0_5 a0_6 a0_7) fun y11 => some y11)) (bnd (impl_Packet__dataOk.f k a0_0 a0_1 a0_2 a0_3 a0_4 a0_5 a0_6 a0_7) fun y12 => some y12)))) (brB (iEq a0_0 6) (bnd (impl_within.f k a0_6 0 2) fun y13 => brB (bNot y13) (some false) (brB (iNe a0_0 6) (brB (iNe a0_6 0) (some false) (bnd (impl_Packet__dataOk.f k a0_0 a0_1 a0_2 a0_3 a0_4 a0_5 a0_6 a0_7) fun y14 => some y14)) (bnd (impl_Packet__dataOk.f k a0_0 a0_1 a0_2 a0_3 a0_4 a0_5 a0_6 a0_7) fun y15 => some y15))) (brB (iNe a0_0 6) (brB (iNe a0_6 0) (some false) (bnd (impl_Packet__dataOk.f k a0_0 a0_1 a0_2 a0_3 a0_4 a0_5 a0_6 a0_7) fun y16 => some y16)) (bnd (impl_Packet__dataOk.f k a0_0 a0_1 a0_2 a0_3 a0_4 a0_5 a0_6 a0_7) fun y17 => some y17))))) (brB (bNot y6) (brB (iNe a0_5 0) (some false) (brB (iEq a0_0 6) (bnd (impl_within.f k a0_6 0 2) fun y18 => brB (bNot y18) (some false) (brB (iNe a0_0 6) (brB (iNe a0_6 0) (some false) (bnd (impl_Packet__dataOk.f k a0_0 a0_1 a0_2 a0_3 a0_4 a0_5 a0_6 a0_7) fun y19 => some y19)) (bnd (impl_Packet__dataOk.f k a0_0 a0_1 a0_2 a0_3 a0_4 a0_5 a0_6 a0_7) fun y20 => some y20))) (brB (iNe a0_0 6) (brB (iNe a0_6 0) (some false) (bnd (impl_Packet__dataOk.f k a0_0 a0_1 a0_2 a0_3 a0_4 a0_5 a0_6 a0_7) fun y21 => some y21)) (bnd (impl_Packet__dataOk.f k a0_0 a0_1 a0_2 a0_3 a0_4 a0_5 a0_6 a0_7) fun y22 => some y22)))) (brB (iEq a0_0 6) (bnd (impl_within.f k a0_6 0 2) fun y23 => brB (bNot y23) (some false) (brB (iNe a0_0 6) (brB (iNe a0_6 0) (some false) (bnd (impl_Packet__dataOk.f k a0_0 a0_1 a0_2 a0_3 a0_4 a0_5 a0_6 a0_7) fun y24 => some y24)) (bnd (impl_Packet__dataOk.f k a0_0 a0_1 a0_2 a0_3 a0_4 a0_5 a0_6 a0_7) fun y25 => some y25))) (brB (iNe a0_0 6) (brB (iNe a0_6 0) (some false) (bnd (impl_Packet__dataOk.f k a0_0 a0_1 a0_2 a0_3 a0_4 a0_5 a0_6 a0_7) fun y26 => some y26)) (bnd (impl_Packet__dataOk.f k a0_0 a0_1 a0_2 a0_3 a0_4 a0_5 a0_6 a0_7) fun y27 => some y27)))))) (bnd (impl_within.f k a0_0 3 6) fun y28 => brB y28 (bnd (impl_within.f k a0_5 0 7) fun y29 => brB (bNot y29) (some false) (brB (bNot y28) (brB (iNe a0_5 0) (some false) (brB (iEq a0_0 6) (bnd (impl_within.f k a0_6 0 2) fun y30 => brB (bNot y30) (some false) (brB (iNe a0_0 6) (brB (iNe a0_6 0) (some false) (bnd (impl_Packet__dataOk.f k a0_0 a0_1 a0_2 a0_3 a0_4 a0_5 a0_6 a0_7) fun y31 => some y31)) (bnd (impl_Packet__dataOk.f k a0_0 a0_1 a0_2 a0_3 a0_4 a0_5 a0_6 a0_7) fun y32 => some y32))) (brB (iNe a0_0 6) (brB (iNe a0_6 0) (some false) (bnd (impl_Packet__dataOk.f k a0_0 a0_1 a0_2 a0_3 a0_4 a0_5 a0_6 a0_7) fun y33 => some y33)) (bnd (impl_Packet__dataOk.f k a0_0 a0_1 a0_2 a0_3 a0_4 a0_5 a0_6 a0_7) fun y34 => some y34)))) (brB (iEq a0_0 6) (bnd (impl_within.f k a0_6 0 2) fun y35 => brB (bNot y35) (some false) (brB (iNe a0_0 6) (brB (iNe a0_6 0) (some false) (bnd (impl_Packet__dataOk.f k a0_0 a0_1 a0_2 a0_3 a0_4 a0_5 a0_6 a0_7) fun y36 => some y36)) (bnd (impl_Packet__dataOk.f k a0_0 a0_1 a0_2 a0_3 a0_4 a0_5 a0_6 a0_7) fun y37 => some y37))) (brB (iNe a0_0 6) (brB (iNe a0_6 0) (some false) (bnd (impl_Packet__dataOk.f k a0_0 a0_1 a0_2 a0_3 a0_4 a0_5 a0_6 a0_7) fun y38 => some y38)) (bnd (impl_Packet__dataOk.f k a0_0 a0_1 a0_2 a0_3 a0_4 a0_5 a0_6 a0_7) fun y39 => some y39))))) (brB (bNot y28) (brB (iNe a0_5 0) (some false) (brB (iEq a0_0 6) (bnd (impl_within.f k a0_6 0 2) fun y40 => brB (bNot y40) (some false) (brB (iNe a0_0 6) (brB (iNe a0_6 0) (some false) (bnd (impl_Packet__dataOk.f k a0_0 a0_1 a0_2 a0_3 a0_4 a0_5 a0_6 a0_7) fun y41 => some y41)) (bnd (impl_Packet__dataOk.f k a0_0 a0_1 a0_2 a0_3 a0_4 a0_5 a0_6 a0_7) fun y42 => some y42))) (brB (iNe a0_0 6) (brB (iNe a0_6 0) (some false) (bnd (impl_Packet__dataOk.f k a0_0 a0_1 a0_2 a0_3 a0_4 a0_5 a0_6 a0_7) fun y43 => some y43)) (bnd (impl_Packet__dataOk.f k a0_0 a0_1 a0_2 a0_3 a0_4 a0_5 a0_6 a0_7) fun y44 => some y44)))) (brB (iEq a0_0 6) (bnd (impl_within.f k a0_6 0 2) fun y45 => brB (bNot y45) (some false) (brB (iNe a0_0 6) (brB (iNe a0_6 0) (some false) (bnd (impl_Packet__dataOk.f k a0_0 a0_1 a0_2 a0_3 a0_4 a0_5 a0_6 a0_7) fun y46 => some y46)) (bnd (impl_Packet__dataOk.f k a0_0 a0_1 a0_2 a0_3 a0_4 a0_5 a0_6 a0_7) fun y47 => some y47))) (brB (iNe a0_0 6) (brB (iNe a0_6 0) (some false) (bnd (impl_Packet__dataOk.f k a0_0 a0_1 a0_2 a0_3 a0_4 a0_5 a0_6 a0_7) fun y48 => some y48)) (bnd (impl_Packet__dataOk.f k a0_0 a0_1 a0_2 a0_3 a0_4 a0_5 a0_6 a0_7) fun y49 => some y49))))))) (brB (bNot y4) (brB (iNe a0_2 0) (some false) (bnd (impl_within.f k a0_0 3 6) fun y50 => brB y50 (bnd (impl_within.f k a0_5 0 7) fun y51 => brB (bNot y51) (some false) (brB (bNot y50) (brB (iNe a0_5 0) (some false) (brB (iEq a0_0 6) (bnd (impl_within.f k a0_6 0 2) fun y52 => brB (bNot y52) (some false) (brB (iNe a0_0 6) (brB (iNe a0_6 0) (some false) (bnd (impl_Packet__dataOk.f k a0_0 a0_1 a0_2 a0_3 a0_4 a0_5 a0_6 a0_7) fun y53 => some y53)) (bnd (impl_Packet__dataOk.f k a0_0 a0_1 a0_2 a0_3 a0_4 a0_5 a0_6 a0_7) fun y54 => some y54))) (brB (iNe a0_0 6) (brB (iNe a0_6 0) (some false) (bnd (impl_Packet__dataOk.f k a0_0 a0_1 a0_2 a0_3 a0_4 a0_5 a0_6 a0_7) fun y55 => some y55)) (bnd (impl_Packet__dataOk.f k a0_0 a0_1 a0_2 a0_3 a0_4 a0_5 a0_6 a0_7) fun y56 => some y56)))) (brB (iEq a0_0 6) (bnd (impl_within.f k a0_6 0 2) fun y57 => brB (bNot y57) (some false) (brB (iNe a0_0 6) (brB (iNe a0_6 0) (some false) (bnd (impl_Packet__dataOk.f k a0_0 a0_1 a0_2 a0_3 a0_4 a0_5 a0_6 a0_7) fun y58 => some y58)) (bnd (impl_Packet__dataOk.f k a0_0 a0_1 a0_2 a0_3 a0_4 a0_5 a0_6 a0_7) fun y59 => some y59))) (brB (iNe a0_0 6) (brB (iNe a0_6 0) (some false) (bnd (impl_Packet__dataOk.f k a0_0 a0_1 a0_2 a0_3 a0_4 a0_5 a0_6 a0_7) fun y60 => some y60)) (bnd (impl_Packet__dataOk.f k a0_0 a0_1 a0_2 a0_3 a0_4 a0_5 a0_6 a0_7) fun y61 => some y61))))) (brB (bNot y50) (brB (iNe a0_5 0) (some false) (brB (iEq a0_0 6) (bnd (impl_within.f k a0_6 0 2) fun y62 => brB (bNot y62) (some false) (brB (iNe a0_0 6) (brB (iNe a0_6 0) (some false) (bnd (impl_Packet__dataOk.f k a0_0 a0_1 a0_2 a0_3 a0_4 a0_5 a0_6 a0_7) fun y63 => some y63)) (bnd (impl_Packet__dataOk.f k a0_0 a0_1 a0_2 a0_3 a0_4 a0_5 a0_6 a0_7) fun y64 => some y64))) (brB (iNe a0_0 6) (brB (iNe a0_6 0) (some false) (bnd (impl_Packet__dataOk.f k a0_0 a0_1 a0_2 a0_3 a0_4 a0_5 a0_6 a0_7) fun y65 => some y65)) (bnd (impl_Packet__dataOk.f k a0_0 a0_1 a0_2 a0_3 a0_4 a0_5 a0_6 a0_7) fun y66 => some y66)))) (brB (iEq a0_0 6) (bnd (impl_within.f k a0_6 0 2) fun y67 => brB (bNot y67) (some false) (brB (iNe a0_0 6) (brB (iNe a0_6 0) (some false) (bnd (impl_Packet__dataOk.f k a0_0 a0_1 a0_2 a0_3 a0_4 a0_5 a0_6 a0_7) fun y68 => some y68)) (bnd (impl_Packet__dataOk.f k a0_0 a0_1 a0_2 a0_3 a0_4 a0_5 a0_6 a0_7) fun y69 => some y69))) (brB (iNe a0_0 6) (brB (iNe a0_6 0) (some false) (bnd (impl_Packet__dataOk.f k a0_0 a0_1 a0_2 a0_3 a0_4 a0_5 a0_6 a0_7) fun y70 => some y70)) (bnd (impl_Packet__dataOk.f k a0_0 a0_1 a0_2 a0_3 a0_4 a0_5 a0_6 a0_7) fun y71 => some y71)))))) (bnd (impl_within.f k a0_0 3 6) fun y72 => brB y72 (bnd (impl_within.f k a0_5 0 7) fun y73 => brB (bNot y73) (some false) (brB (bNot y72) (brB (iNe a0_5 0) (some false) (brB (iEq a0_0 6) (bnd (impl_within.f k a0_6 0 2) fun y74 => brB (bNot y74) (some false) (brB (iNe a0_0 6) (brB (iNe a0_6 0) (some false) (bnd (impl_Packet__dataOk.f k a0_0 a0_1 a0_2 a0_3 a0_4 a0_5 a0_6 a0_7) fun y75 => some y75)) (bnd (impl_Packet__dataOk.f k a0_0 a0_1 a0_2 a0_3 a0_4 a0_5 a0_6 a0_7) fun y76 => some y76))) (brB (iNe a0_0 6) (brB (iNe a0_6 0) (some false) (bnd (impl_Packet__dataOk.f k a0_0 a0_1 a0_2 a0_3 a0_4 a0_5 a0_6 a0_7) fun y77 => some y77)) (bnd (impl_Packet__dataOk.f k a0_0 a0_1 a0_2 a0_3 a0_4 a0_5 a0_6 a0_7) fun y78 => some y78)))) (brB (iEq a0_0 6) (bnd (impl_within.f k a0_6 0 2) fun y79 => brB (bNot y79) (some false) (brB (iNe a0_0 6) (brB (iNe a0_6 0) (some false) (bnd (impl_Packet__dataOk.f k a0_0 a0_1 a0_2 a0_3 a0_4 a0_5 a0_6 a0_7) fun y80 => some y80)) (bnd (impl_Packet__dataOk.f k a0_0 a0_1 a0_2 a0_3 a0_4 a0_5 a0_6 a0_7) fun y81 => some y81))) (brB (iNe a0_0 6) (brB (iNe a0_6 0) (some false) (bnd (impl_Packet__dataOk.f k a0_0 a0_1 a0_2 a0_3 a0_4 a0_5 a0_6 a0_7) fun y82 => some y82)) (bnd (impl_Packet__dataOk.f k a0_0 a0_1 a0_2 a0_3 a0_4 a0_5 a0_6 a0_7) fun y83 => some y83))))) (brB (bNot y72) (brB (iNe a0_5 0) (some false) (brB (iEq a0_0 6) (bnd (impl_within.f k a0_6 0 2) fun y84 => brB (bNot y84) (some false) (brB (iNe a0_0 6) (brB (iNe a0_6 0) (some false) (bnd (impl_Packet__dataOk.f k a0_0 a0_1 a0_2 a0_3 a0_4 a0_5 a0_6 a0_7) fun y85 => some y85)) (bnd (impl_Packet__dataOk.f k a0_0 a0_1 a0_2 a0_3 a0_4 a0_5 a0_6 a0_7) fun y86 => some y86))) (brB (iNe a0_0 6) (brB (iNe a0_6 0) (some false) (bnd (impl_Packet__dataOk.f k a0_0 a0_1 a0_2 a0_3 a0_4 a0_5 a0_6 a0_7) fun y87 => some y87)) (bnd (impl_Packet__dataOk.f k a0_0 a0_1 a0_2 a0_3 a0_4 a0_5 a0_6 a0_7) fun y88 => some y88)))) (brB (iEq a0_0 6) (bnd (impl_within.f k a0_6 0 2) fun y89 => brB (bNot y89) (some false) (brB (iNe a0_0 6) (brB (iNe a0_6 0) (some false) (bnd (impl_Packet__dataOk.f k a0_0 a0_1 a0_2 a0_3 a0_4 a0_5 a0_6 a0_7) fun y90 => some y90)) (bnd (impl_Packet__dataOk.f k a0_0 a0_1 a0_2 a0_3 a0_4 a0_5 a0_6 a0_7) fun y91 => some y91))) (brB (iNe a0_0 6) (brB (iNe a0_6 0) (some false) (bnd (impl_Packet__dataOk.f k a0_0 a0_1 a0_2 a0_3 a0_4 a0_5 a0_6 a0_7) fun y92 => some y92)) (bnd (impl_Packet__dataOk.f k a0_0 a0_1 a0_2 a0_3 a0_4 a0_5 a0_6 a0_7) fun y93 => some y93))))))))))
def sig : Sig := ⟨46, [.w true [I, I, I, I, I, I, I, .row I]], [(false, [.val .bool])]⟩
def H : Hints := ⟨[], [], [], [], false, 0, false⟩
def spec : Spec := { sig := sig, fn := fun k (x : Int × Int × Int × Int × Int × Int × Int × List Int) => f k x.1 x.2.1 x.2.2.1 x.2.2.2.1 x.2.2.2.2.1 x.2.2.2.2.2.1 x.2.2.2.2.2.2.1 x.2.2.2.2.2.2.2 }
theorem ok : Holds Go.Proofs.Try.prog spec := holds_of_run (G := [impl_within.spec, impl_IsId.spec, impl_Packet__addressOk.spec, impl_Packet__lengthOk.spec, impl_Packet__dataOk.spec]) (holds_cons impl_within.ok (holds_cons impl_IsId.ok (holds_cons impl_Packet__addressOk.ok (holds_cons impl_Packet__lengthOk.ok (holds_cons impl_Packet__dataOk.ok holds_nil))))) (by kernel_rfl) H Go.Proofs.Try.func46 (by kernel_rfl) (rfl : Go.Proofs.Try.f46.body = some _) (by kernel_rfl) (by kernel_rfl) fun k x y h => Eq.trans (by kernel_rfl : _ = spec.fn k x) h
end impl_IsPacket

namespace slices_Clone_bool
def f (k : Nat) (a0 : List Bool) : Option (List Bool) := chk (cLen (rLen a0) 1) (some a0)
def sig : Sig := cloneSig 97 .bool
def spec : Spec := { sig := sig, fn := fun k (x : List Bool) => f k x }
theorem ok : Holds Go.Proofs.Try.prog spec := clone_holds (u := .bool) (t := 33) (by kernel_rfl) Go.Proofs.Try.func97 (by kernel_rfl) (rfl : Go.Proofs.Try.f97.body = some _) (by kernel_rfl) (by kernel_rfl) Go.Proofs.Try.underlying33 ⟨rfl, rfl, rfl⟩ ⟨rfl, rfl, rfl⟩ ⟨rfl, rfl, _, rfl⟩ (fun l => cLen (rLen l) 1) (fun k => by kernel_rfl) (fun k l => by kernel_rfl)
end slices_Clone_bool

namespace impl_copyVectors
def f (k : Nat) (a0_0 : Int) (a0_1 : List Bool) (a0_2 : List Bool) : Option (Int × List Bool × List Bool) := bnd (slices_Clone_bool.f k a0_1) fun y0 => bnd (slices_Clone_bool.f k a0_2) fun y1 => some (a0_0, y0, y1)
def sig : Sig := ⟨78, [.w true [I, .row .bool, .row .bool]], [(true, [.val I, .own .bool, .own .bool])]⟩
def H : Hints := ⟨[], [], [(1, [0, 1, 0, 4, 12, 0, 32, 124, 255, 511])], [], true, 0, false⟩
def spec : Spec := { sig := sig, fn := fun k (x : Int × List Bool × List Bool) => f k x.1 x.2.1 x.2.2 }
theorem ok : Holds Go.Proofs.Try.prog spec := holds_of_run (G := [slices_Clone_bool.spec]) (holds_cons slices_Clone_bool.ok holds_nil) (by kernel_rfl) H Go.Proofs.Try.func78 (by kernel_rfl) (rfl : Go.Proofs.Try.f78.body = some _) (by kernel_rfl) (by kernel_rfl) fun k x y h => Eq.trans (by kernel_rfl : _ = spec.fn k x) h
end impl_copyVectors

namespace impl_VectorsOk
def s0 (k : Nat) (rec0 : (List Bool × Int × Int × Int × List Bool × List Bool) → Option (Bool)) (x0 : List Bool) (x1 : Int) (x2 : Int) (x3 : Int) (x4 : List Bool) (x5 : List Bool) : Option (Bool) := brB (iLt x2 x1) (chk (cIdx x2 (rLen x0)) (brB (rGet false x0 x2) (chk (cIdx x2 (rLen x4)) (brB (bNot (rGet false x4 x2)) (some false) (rec0 (x0, x1, iAdd .i64 x2 1, x3, x4, x5)))) (rec0 (x0, x1, iAdd .i64 x2 1, x3, x4, x5)))) (some true)
def l0 (k n : Nat) (x0 : List Bool) (x1 : Int) (x2 : Int) (x3 : Int) (x4 : List Bool) (x5 : List Bool) : Option (Bool) := iter (fun (rec : (List Bool × Int × Int × Int × List Bool × List Bool) → Option (Bool)) (x : List Bool × Int × Int × Int × List Bool × List Bool) => s0 k rec x.1 x.2.1 x.2.2.1 x.2.2.2.1 x.2.2.2.2.1 x.2.2.2.2.2) n (x0, x1, x2, x3, x4, x5)
def f (k : Nat) (a0_0 : Int) (a0_1 : List Bool) (a0_2 : List Bool) : Option (Bool) := bnd (impl_within.f k (rLen a0_1) 1 8) fun y0 => brB (bNot y0) (some false) (brB (iNe (rLen a0_2) (rLen a0_1)) (some false) (bnd (impl_within.f k a0_0 0 65535) fun y1 => brB (bNot y1) (some false) (l0 k k a0_2 (rLen a0_2) 0 a0_0 a0_1 a0_2)))
def sig : Sig := ⟨98, [.w true [I, .row .bool, .row .bool]], [(false, [.val .bool])]⟩
def H : Hints := ⟨[(4, ⟨⟨[(1, .ptr 101 0), (26, .w false 1), (27, .w false 1), (28, .w false 1)], [(101, 3)]⟩, [1], [.val (.row .bool), .val I, .val I, .val I, .val (.row .bool), .val (.row .bool)], []⟩)], [], [], [], false, 0, false⟩
def spec : Spec := { sig := sig, fn := fun k (x : Int × List Bool × List Bool) => f k x.1 x.2.1 x.2.2 }
theorem ok : Holds Go.Proofs.Try.prog spec := holds_of_run (G := [impl_within.spec]) (holds_cons impl_within.ok holds_nil) (by kernel_rfl) H Go.Proofs.Try.func98 (by kernel_rfl) (rfl : Go.Proofs.Try.f98.body = some _) (by kernel_rfl) (by kernel_rfl) fun k x y h => Eq.trans (by kernel_rfl : _ = spec.fn k x) h
end impl_VectorsOk

namespace impl_hasVector
def f (k : Nat) (a0_0 : Int) (a0_1 : List Bool) (a0_2 : List Bool) (a1 : Int) (a2 : Int) : Option (Bool) := bnd (impl_VectorsOk.f k a0_0 a0_1 a0_2) fun y0 => brB y0 (bnd (impl_IsId.f k a1) fun y1 => brB y1 (bnd (impl_within.f k a2 0 (iSub .i64 (rLen a0_1) 1)) fun y2 => some y2) (some false)) (some false)
def sig : Sig := ⟨79, [.w true [I, .row .bool, .row .bool], .w false [I], .w false [I]], [(false, [.val .bool])]⟩
def H : Hints := ⟨[], [], [], [], false, 0, false⟩
def spec : Spec := { sig := sig, fn := fun k (x : Int × List Bool × List Bool × Int × Int) => f k x.1 x.2.1 x.2.2.1 x.2.2.2.1 x.2.2.2.2 }
theorem ok : Holds Go.Proofs.Try.prog spec := holds_of_run (G := [impl_within.spec, impl_IsId.spec, impl_VectorsOk.spec]) (holds_cons impl_within.ok (holds_cons impl_IsId.ok (holds_cons impl_VectorsOk.ok holds_nil))) (by kernel_rfl) H Go.Proofs.Try.func79 (by kernel_rfl) (rfl : Go.Proofs.Try.f79.body = some _) (by kernel_rfl) (by kernel_rfl) fun k x y h => Eq.trans (by kernel_rfl : _ = spec.fn k x) h
end impl_hasVector

namespace impl_call
def f (k : Nat) (a0_0 : Int) (a0_1 : List Bool) (a0_2 : List Bool) (a1 : Int) (a2 : Int) : Option (Int × Int × Int × Int × Int × Int × Int × List Int) := some (1, a1, 0, a0_0, 0, 0, 0, [a2])
def sig : Sig := ⟨80, [.w true [I, .row .bool, .row .bool], .w false [I], .w false [I]], [(true, [.val I, .val I, .val I, .val I, .val I, .val I, .val I, .own I])]⟩
def H : Hints := ⟨[], [], [], [], false, 0, false⟩
def spec : Spec := { sig := sig, fn := fun k (x : Int × List Bool × List Bool × Int × Int) => f k x.1 x.2.1 x.2.2.1 x.2.2.2.1 x.2.2.2.2 }
theorem ok : Holds Go.Proofs.Try.prog spec := holds_of_run (G := []) holds_nil (by kernel_rfl) H Go.Proofs.Try.func80 (by kernel_rfl) (rfl : Go.Proofs.Try.f80.body = some _) (by kernel_rfl) (by kernel_rfl) fun k x y h => Eq.trans (by kernel_rfl : _ = spec.fn k x) h
end impl_call

namespace impl_RaiseVector
def f (k : Nat) (a0_0 : Int) (a0_1 : List Bool) (a0_2 : List Bool) (a1 : Int) (a2 : Int) : Option (Int × List Bool × List Bool × Int × Int × Int × Int × Int × Int × Int × List Int × Bool) := bnd (impl_copyVectors.f k a0_0 a0_1 a0_2) fun p => (fun y0 y1 y2 => bnd (impl_hasVector.f k a0_0 a0_1 a0_2 a1 a2) fun y3 => brB (bNot y3) (some (y0, y1, y2, 0, 0, 0, 0, 0, 0, 0, [], false)) (chk (cIdx a2 (rLen a0_1)) (brB (rGet false a0_1 a2) (chk (cIdx a2 (rLen y2)) (some (y0, y1, rSet y2 a2 true, 0, 0, 0, 0, 0, 0, 0, [], true))) (bnd (impl_call.f k a0_0 a0_1 a0_2 a1 a2) fun p => (fun y4 y5 y6 y7 y8 y9 y10 y11 => some (y0, y1, y2, y4, y5, y6, y7, y8, y9, y10, y11, true)) p.1 p.2.1 p.2.2.1 p.2.2.2.1 p.2.2.2.2.1 p.2.2.2.2.2.1 p.2.2.2.2.2.2.1 p.2.2.2.2.2.2.2)))) p.1 p.2.1 p.2.2
def sig : Sig := ⟨47, [.w true [I, .row .bool, .row .bool], .w false [I], .w false [I]], [(true, [.val I, .own .bool, .own .bool]), (true, [.val I, .val I, .val I, .val I, .val I, .val I, .val I, .own I]), (false, [.val .bool])]⟩
def H : Hints := ⟨[], [], [(7, [0, 0, 0, 0, 14, 31, 63, 127])], [], false, 0, false⟩
def spec : Spec := { sig := sig, fn := fun k (x : Int × List Bool × List Bool × Int × Int) => f k x.1 x.2.1 x.2.2.1 x.2.2.2.1 x.2.2.2.2 }
theorem ok : Holds Go.Proofs.Try.prog spec := holds_of_run (G := [impl_copyVectors.spec, impl_hasVector.spec, impl_call.spec]) (holds_cons impl_copyVectors.ok (holds_cons impl_hasVector.ok (holds_cons impl_call.ok holds_nil))) (by kernel_rfl) H Go.Proofs.Try.func47 (by kernel_rfl) (rfl : Go.Proofs.Try.f47.body = some _) (by kernel_rfl) (by kernel_rfl) fun k x y h => Eq.trans (by kernel_rfl : _ = spec.fn k x) h
end impl_RaiseVector

namespace impl_Produce
def s0 (k : Nat) (a2 : List Int) (a3 : Int) (rec0 : (Int × Int × Int × Int × List Bool × List Bool × (List (Int × Int × Int × Int × Int × Int × Int × List Int)) × Bool × (List (Int × Int × Int × Int × Int × Int × Int × List Int))) → Option (List (Int × Int × Int × Int × Int × Int × Int × List Int) × Bool)) (x0 : Int) (x1 : Int) (x2 : Int) (x3 : Int) (x4 : List Bool) (x5 : List Bool) (x6 : List (Int × Int × Int × Int × Int × Int × Int × List Int)) (x7 : Bool) (x8 : List (Int × Int × Int × Int × Int × Int × Int × List Int)) : Option (List (Int × Int × Int × Int × Int × Int × Int × List Int) × Bool) := brB (iLt x0 (rLen a2)) (bnd (slices_Clone_int.f k (chunkAt a2 x0 8)) fun y1 => bnd (impl_IsPacket.f k 1 x1 0 x2 0 0 0 y1) fun y2 => brB (bNot y2) (some ([], false)) (chk (cLen (rLen (rApp x8 [(1, x1, 0, x2, 0, 0, 0, y1)])) 80) (rec0 (iAdd .i64 x0 8, x1, iAdd .i64 x2 (rLen (chunkAt a2 x0 8)), x3, x4, x5, x6, x7, rApp x8 [(1, x1, 0, x2, 0, 0, 0, y1)])))) (bnd (impl_RaiseVector.f k x3 x4 x5 x1 a3) fun p => (fun y3 y4 y5 y6 y7 y8 y9 y10 y11 y12 y13 y14 => brB (bNot y14) (some ([], false)) (bnd (impl_IsPacket.f k y6 y7 y8 y9 y10 y11 y12 y13) fun y15 => brB (bNot y15) (some ([], false)) (chk (cLen (rLen (rApp x8 [(y6, y7, y8, y9, y10, y11, y12, y13)])) 80) (some (rApp x8 [(y6, y7, y8, y9, y10, y11, y12, y13)], true))))) p.1 p.2.1 p.2.2.1 p.2.2.2.1 p.2.2.2.2.1 p.2.2.2.2.2.1 p.2.2.2.2.2.2.1 p.2.2.2.2.2.2.2.1 p.2.2.2.2.2.2.2.2.1 p.2.2.2.2.2.2.2.2.2.1 p.2.2.2.2.2.2.2.2.2.2.1 p.2.2.2.2.2.2.2.2.2.2.2)
def l0 (k n : Nat) (a2 : List Int) (a3 : Int) (x0 : Int) (x1 : Int) (x2 : Int) (x3 : Int) (x4 : List Bool) (x5 : List Bool) (x6 : List (Int × Int × Int × Int × Int × Int × Int × List Int)) (x7 : Bool) (x8 : List (Int × Int × Int × Int × Int × Int × Int × List Int)) : Option (List (Int × Int × Int × Int × Int × Int × Int × List Int) × Bool) := iter (fun (rec : (Int × Int × Int × Int × List Bool × List Bool × (List (Int × Int × Int × Int × Int × Int × Int × List Int)) × Bool × (List (Int × Int × Int × Int × Int × Int × Int × List Int))) → Option (List (Int × Int × Int × Int × Int × Int × Int × List Int) × Bool)) (x : Int × Int × Int × Int × List Bool × List Bool × (List (Int × Int × Int × Int × Int × Int × Int × List Int)) × Bool × (List (Int × Int × Int × Int × Int × Int × Int × List Int))) => s0 k a2 a3 rec x.1 x.2.1 x.2.2.1 x.2.2.2.1 x.2.2.2.2.1 x.2.2.2.2.2.1 x.2.2.2.2.2.2.1 x.2.2.2.2.2.2.2.1 x.2.2.2.2.2.2.2.2) n (x0, x1, x2, x3, x4, x5, x6, x7, x8)
def s1 (k : Nat) (a2 : List Int) (a3 : Int) (rec1 : (Int × Int × Int × Int × List Bool × List Bool × (List (Int × Int × Int × Int × Int × Int × Int × List Int)) × Bool × (List (Int × Int × Int × Int × Int × Int × Int × List Int))) → Option (List (Int × Int × Int × Int × Int × Int × Int × List Int) × Bool)) (x9 : Int) (x10 : Int) (x11 : Int) (x12 : Int) (x13 : List Bool) (x14 : List Bool) (x15 : List (Int × Int × Int × Int × Int × Int × Int × List Int)) (x16 : Bool) (x17 : List (Int × Int × Int × Int × Int × Int × Int × List Int)) : Option (List (Int × Int × Int × Int × Int × Int × Int × List Int) × Bool) := brB (iLt x9 (rLen a2)) (bnd (slices_Clone_int.f k (chunkAt a2 x9 8)) fun y16 => bnd (impl_IsPacket.f k 1 x10 0 x11 0 0 0 y16) fun y17 => brB (bNot y17) (some ([], false)) (chk (cLen (rLen (rApp x17 [(1, x10, 0, x11, 0, 0, 0, y16)])) 80) (rec1 (iAdd .i64 x9 8, x10, iAdd .i64 x11 (rLen (chunkAt a2 x9 8)), x12, x13, x14, x15, x16, rApp x17 [(1, x10, 0, x11, 0, 0, 0, y16)])))) (bnd (impl_RaiseVector.f k x12 x13 x14 x10 a3) fun p => (fun y18 y19 y20 y21 y22 y23 y24 y25 y26 y27 y28 y29 => brB (bNot y29) (some ([], false)) (bnd (impl_IsPacket.f k y21 y22 y23 y24 y25 y26 y27 y28) fun y30 => brB (bNot y30) (some ([], false)) (chk (cLen (rLen (rApp x17 [(y21, y22, y23, y24, y25, y26, y27, y28)])) 80) (some (rApp x17 [(y21, y22, y23, y24, y25, y26, y27, y28)], true))))) p.1 p.2.1 p.2.2.1 p.2.2.2.1 p.2.2.2.2.1 p.2.2.2.2.2.1 p.2.2.2.2.2.2.1 p.2.2.2.2.2.2.2.1 p.2.2.2.2.2.2.2.2.1 p.2.2.2.2.2.2.2.2.2.1 p.2.2.2.2.2.2.2.2.2.2.1 p.2.2.2.2.2.2.2.2.2.2.2)
def l1 (k n : Nat) (a2 : List Int) (a3 : Int) (x9 : Int) (x10 : Int) (x11 : Int) (x12 : Int) (x13 : List Bool) (x14 : List Bool) (x15 : List (Int × Int × Int × Int × Int × Int × Int × List Int)) (x16 : Bool) (x17 : List (Int × Int × Int × Int × Int × Int × Int × List Int)) : Option (List (Int × Int × Int × Int × Int × Int × Int × List Int) × Bool) := iter (fun (rec : (Int × Int × Int × Int × List Bool × List Bool × (List (Int × Int × Int × Int × Int × Int × Int × List Int)) × Bool × (List (Int × Int × Int × Int × Int × Int × Int × List Int))) → Option (List (Int × Int × Int × Int × Int × Int × Int × List Int) × Bool)) (x : Int × Int × Int × Int × List Bool × List Bool × (List (Int × Int × Int × Int × Int × Int × Int × List Int)) × Bool × (List (Int × Int × Int × Int × Int × Int × Int × List Int))) => s1 k a2 a3 rec x.1 x.2.1 x.2.2.1 x.2.2.2.1 x.2.2.2.2.1 x.2.2.2.2.2.1 x.2.2.2.2.2.2.1 x.2.2.2.2.2.2.2.1 x.2.2.2.2.2.2.2.2) n (x9, x10, x11, x12, x13, x14, x15, x16, x17)
def f (k : Nat) (a0 : Int) (a1 : Int) (a2 : List Int) (a3 : Int) (a4_0 : Int) (a4_1 : List Bool) (a4_2 : List Bool) : Option (List (Int × Int × Int × Int × Int × Int × Int × List Int) × Bool) := bnd (impl_within.f k a1 0 65535) fun y0 => brB (bNot y0) (brB (iLt 0 (rLen a2)) (some ([], false)) (chk (cSub 1 8 65536) (chk (bAnd (cSub 1 8 65536) (cLen (rLen a2) 8)) (l0 k k a2 a3 0 a0 a1 a4_0 a4_1 a4_2 [] false [])))) (chk (cSub 1 8 65536) (chk (bAnd (cSub 1 8 65536) (cLen (rLen a2) 8)) (l1 k k a2 a3 0 a0 a1 a4_0 a4_1 a4_2 [] false [])))
def sig : Sig := ⟨11, [.w false [I], .w false [I], .w false [.row I], .w false [I], .w true [I, .row .bool, .row .bool]], [(false, [.own (.deep none (.pair I (.pair I (.pair I (.pair I (.pair I (.pair I (.pair I (.row I)))))))))]), (false, [.val .bool])]⟩
def H : Hints := ⟨[(5, ⟨⟨[(5, .ptr 105 0), (6, .ptr 106 0), (9, .ptr 109 0), (10, .ptr 110 0), (11, .ptr 111 0), (12, .ptr 112 0)], [(105, 1), (106, 1), (109, 3), (110, 1), (111, 1), (112, 1)]⟩, [5, 6, 9, 10, 11, 12], [.val I, .val I, .val I, .val (.row .bool), .val (.row .bool), .own (.deep none (.pair I (.pair I (.pair I (.pair I (.pair I (.pair I (.pair I (.row I))))))))), .val .bool, .own (.deep none (.pair I (.pair I (.pair I (.pair I (.pair I (.pair I (.pair I (.row I)))))))))], []⟩)], [], [(6, [0, 0, 0, 4, 15, 0, 63]), (9, [0, 0, 2, 7, 0, 0, 32, 112, 15, 511])], [], true, 3, false⟩
def spec : Spec := { sig := sig, fn := fun k (x : Int × Int × List Int × Int × Int × List Bool × List Bool) => f k x.1 x.2.1 x.2.2.1 x.2.2.2.1 x.2.2.2.2.1 x.2.2.2.2.2.1 x.2.2.2.2.2.2 }
theorem ok : Holds Go.Proofs.Try.prog spec := holds_of_run (G := [impl_within.spec, slices_Chunk_int.spec, slices_Clone_int.spec, impl_IsPacket.spec, impl_RaiseVector.spec]) (holds_cons impl_within.ok (holds_cons slices_Chunk_int.ok (holds_cons slices_Clone_int.ok (holds_cons impl_IsPacket.ok (holds_cons impl_RaiseVector.ok holds_nil))))) (by kernel_rfl) H Go.Proofs.Try.func11 (by kernel_rfl) (rfl : Go.Proofs.Try.f11.body = some _) (by kernel_rfl) (by kernel_rfl) fun k x y h => Eq.trans (by kernel_rfl : _ = spec.fn k x) h
end impl_Produce

namespace laws_eqIntS
def s0 (k : Nat) (rec0 : (List Int × List Int × Int) → Option (Bool)) (x0 : List Int) (x1 : List Int) (x2 : Int) : Option (Bool) := brB (iLt x2 (rLen x0)) (chk (cIdx x2 (rLen x0)) (chk (cIdx x2 (rLen x1)) (brB (iNe (rGet 0 x0 x2) (rGet 0 x1 x2)) (some false) (rec0 (x0, x1, iAdd .i64 x2 1))))) (some true)
def l0 (k n : Nat) (x0 : List Int) (x1 : List Int) (x2 : Int) : Option (Bool) := iter (fun (rec : (List Int × List Int × Int) → Option (Bool)) (x : List Int × List Int × Int) => s0 k rec x.1 x.2.1 x.2.2) n (x0, x1, x2)
def f (k : Nat) (a0 : List Int) (a1 : List Int) : Option (Bool) := brB (iNe (rLen a0) (rLen a1)) (some false) (l0 k k a0 a1 0)
def sig : Sig := ⟨30, [.w false [.row I], .w false [.row I]], [(false, [.val .bool])]⟩
def H : Hints := ⟨[(4, ⟨⟨[(0, .w false 1), (1, .w false 1), (5, .w false 1)], []⟩, [], [.val (.row I), .val (.row I), .val I], []⟩)], [], [(6, [0, 0, 3, 7, 0, 0, 48, 112, 255])], [], false, 0, false⟩
def spec : Spec := { sig := sig, fn := fun k (x : List Int × List Int) => f k x.1 x.2 }
theorem ok : Holds Go.Proofs.Try.prog spec := holds_of_run (G := []) holds_nil (by kernel_rfl) H Go.Proofs.Try.func30 (by kernel_rfl) (rfl : Go.Proofs.Try.f30.body = some _) (by kernel_rfl) (by kernel_rfl) fun k x y h => Eq.trans (by kernel_rfl : _ = spec.fn k x) h
end laws_eqIntS

namespace laws_eqPacket
def f (k : Nat) (a0_0 : Int) (a0_1 : Int) (a0_2 : Int) (a0_3 : Int) (a0_4 : Int) (a0_5 : Int) (a0_6 : Int) (a0_7 : List Int) (a1_0 : Int) (a1_1 : Int) (a1_2 : Int) (a1_3 : Int) (a1_4 : Int) (a1_5 : Int) (a1_6 : Int) (a1_7 : List Int) : Option (Bool) := brB (iNe a0_0 a1_0) (some false) (brB (iNe a0_1 a1_1) (some false) (brB (iNe a0_2 a1_2) (some false) (brB (iNe a0_3 a1_3) (some false) (brB (iNe a0_4 a1_4) (some false) (brB (iNe a0_5 a1_5) (some false) (brB (iNe a0_6 a1_6) (some false) (bnd (laws_eqIntS.f k a0_7 a1_7) fun y0 => brB (bNot y0) (some false) (some true))))))))
def sig : Sig := ⟨24, [.w true [I, I, I, I, I, I, I, .row I], .w true [I, I, I, I, I, I, I, .row I]], [(false, [.val .bool])]⟩
def H : Hints := ⟨[], [], [], [], false, 0, false⟩
def spec : Spec := { sig := sig, fn := fun k (x : Int × Int × Int × Int × Int × Int × Int × List Int × Int × Int × Int × Int × Int × Int × Int × List Int) => f k x.1 x.2.1 x.2.2.1 x.2.2.2.1 x.2.2.2.2.1 x.2.2.2.2.2.1 x.2.2.2.2.2.2.1 x.2.2.2.2.2.2.2.1 x.2.2.2.2.2.2.2.2.1 x.2.2.2.2.2.2.2.2.2.1 x.2.2.2.2.2.2.2.2.2.2.1 x.2.2.2.2.2.2.2.2.2.2.2.1 x.2.2.2.2.2.2.2.2.2.2.2.2.1 x.2.2.2.2.2.2.2.2.2.2.2.2.2.1 x.2.2.2.2.2.2.2.2.2.2.2.2.2.2.1 x.2.2.2.2.2.2.2.2.2.2.2.2.2.2.2 }
theorem ok : Holds Go.Proofs.Try.prog spec := holds_of_run (G := [laws_eqIntS.spec]) (holds_cons laws_eqIntS.ok holds_nil) (by kernel_rfl) H Go.Proofs.Try.func24 (by kernel_rfl) (rfl : Go.Proofs.Try.f24.body = some _) (by kernel_rfl) (by kernel_rfl) fun k x y h => Eq.trans (by kernel_rfl : _ = spec.fn k x) h
end laws_eqPacket

namespace laws_eqPacketS
def s0 (k : Nat) (rec0 : ((List (Int × Int × Int × Int × Int × Int × Int × List Int)) × (List (Int × Int × Int × Int × Int × Int × Int × List Int)) × Int) → Option (Bool)) (x0 : List (Int × Int × Int × Int × Int × Int × Int × List Int)) (x1 : List (Int × Int × Int × Int × Int × Int × Int × List Int)) (x2 : Int) : Option (Bool) := brB (iLt x2 (rLen x0)) (chk (cIdx x2 (rLen x0)) (chk (cIdx x2 (rLen x1)) (bnd (laws_eqPacket.f k ((rGet (0, 0, 0, 0, 0, 0, 0, []) x0 x2).1) (((rGet (0, 0, 0, 0, 0, 0, 0, []) x0 x2).2).1) ((((rGet (0, 0, 0, 0, 0, 0, 0, []) x0 x2).2).2).1) (((((rGet (0, 0, 0, 0, 0, 0, 0, []) x0 x2).2).2).2).1) ((((((rGet (0, 0, 0, 0, 0, 0, 0, []) x0 x2).2).2).2).2).1) (((((((rGet (0, 0, 0, 0, 0, 0, 0, []) x0 x2).2).2).2).2).2).1) ((((((((rGet (0, 0, 0, 0, 0, 0, 0, []) x0 x2).2).2).2).2).2).2).1) ((((((((rGet (0, 0, 0, 0, 0, 0, 0, []) x0 x2).2).2).2).2).2).2).2) ((rGet (0, 0, 0, 0, 0, 0, 0, []) x1 x2).1) (((rGet (0, 0, 0, 0, 0, 0, 0, []) x1 x2).2).1) ((((rGet (0, 0, 0, 0, 0, 0, 0, []) x1 x2).2).2).1) (((((rGet (0, 0, 0, 0, 0, 0, 0, []) x1 x2).2).2).2).1) ((((((rGet (0, 0, 0, 0, 0, 0, 0, []) x1 x2).2).2).2).2).1) (((((((rGet (0, 0, 0, 0, 0, 0, 0, []) x1 x2).2).2).2).2).2).1) ((((((((rGet (0, 0, 0, 0, 0, 0, 0, []) x1 x2).2).2).2).2).2).2).1) ((((((((rGet (0, 0, 0, 0, 0, 0, 0, []) x1 x2).2).2).2).2).2).2).2)) fun y0 => brB (bNot y0) (some false) (rec0 (x0, x1, iAdd .i64 x2 1))))) (some true)
def l0 (k n : Nat) (x0 : List (Int × Int × Int × Int × Int × Int × Int × List Int)) (x1 : List (Int × Int × Int × Int × Int × Int × Int × List Int)) (x2 : Int) : Option (Bool) := iter (fun (rec : ((List (Int × Int × Int × Int × Int × Int × Int × List Int)) × (List (Int × Int × Int × Int × Int × Int × Int × List Int)) × Int) → Option (Bool)) (x : (List (Int × Int × Int × Int × Int × Int × Int × List Int)) × (List (Int × Int × Int × Int × Int × Int × Int × List Int)) × Int) => s0 k rec x.1 x.2.1 x.2.2) n (x0, x1, x2)
def f (k : Nat) (a0 : List (Int × Int × Int × Int × Int × Int × Int × List Int)) (a1 : List (Int × Int × Int × Int × Int × Int × Int × List Int)) : Option (Bool) := brB (iNe (rLen a0) (rLen a1)) (some false) (l0 k k a0 a1 0)
def sig : Sig := ⟨23, [.w false [.row (.pair I (.pair I (.pair I (.pair I (.pair I (.pair I (.pair I (.row I))))))))], .w false [.row (.pair I (.pair I (.pair I (.pair I (.pair I (.pair I (.pair I (.row I))))))))]], [(false, [.val .bool])]⟩
def H : Hints := ⟨[(4, ⟨⟨[(0, .w false 1), (1, .w false 1), (5, .w false 1)], []⟩, [], [.val (.row (.pair I (.pair I (.pair I (.pair I (.pair I (.pair I (.pair I (.row I))))))))), .val (.row (.pair I (.pair I (.pair I (.pair I (.pair I (.pair I (.pair I (.row I))))))))), .val I], []⟩)], [], [(6, [0, 0, 3, 7, 0, 0, 48, 112, 255, 511])], [], false, 0, false⟩
def spec : Spec := { sig := sig, fn := fun k (x : List (Int × Int × Int × Int × Int × Int × Int × List Int) × List (Int × Int × Int × Int × Int × Int × Int × List Int)) => f k x.1 x.2 }
theorem ok : Holds Go.Proofs.Try.prog spec := holds_of_run (G := [laws_eqPacket.spec]) (holds_cons laws_eqPacket.ok holds_nil) (by kernel_rfl) H Go.Proofs.Try.func23 (by kernel_rfl) (rfl : Go.Proofs.Try.f23.body = some _) (by kernel_rfl) (by kernel_rfl) fun k x y h => Eq.trans (by kernel_rfl : _ = spec.fn k x) h
end laws_eqPacketS

namespace laws_eqBoolS
def s0 (k : Nat) (rec0 : (List Bool × List Bool × Int) → Option (Bool)) (x0 : List Bool) (x1 : List Bool) (x2 : Int) : Option (Bool) := brB (iLt x2 (rLen x0)) (chk (cIdx x2 (rLen x0)) (chk (cIdx x2 (rLen x1)) (brB (bNe (rGet false x0 x2) (rGet false x1 x2)) (some false) (rec0 (x0, x1, iAdd .i64 x2 1))))) (some true)
def l0 (k n : Nat) (x0 : List Bool) (x1 : List Bool) (x2 : Int) : Option (Bool) := iter (fun (rec : (List Bool × List Bool × Int) → Option (Bool)) (x : List Bool × List Bool × Int) => s0 k rec x.1 x.2.1 x.2.2) n (x0, x1, x2)
def f (k : Nat) (a0 : List Bool) (a1 : List Bool) : Option (Bool) := brB (iNe (rLen a0) (rLen a1)) (some false) (l0 k k a0 a1 0)
def sig : Sig := ⟨67, [.w false [.row .bool], .w false [.row .bool]], [(false, [.val .bool])]⟩
def H : Hints := ⟨[(4, ⟨⟨[(0, .w false 1), (1, .w false 1), (5, .w false 1)], []⟩, [], [.val (.row .bool), .val (.row .bool), .val I], []⟩)], [], [(6, [0, 0, 3, 7, 0, 0, 48, 112, 255])], [], false, 0, false⟩
def spec : Spec := { sig := sig, fn := fun k (x : List Bool × List Bool) => f k x.1 x.2 }
theorem ok : Holds Go.Proofs.Try.prog spec := holds_of_run (G := []) holds_nil (by kernel_rfl) H Go.Proofs.Try.func67 (by kernel_rfl) (rfl : Go.Proofs.Try.f67.body = some _) (by kernel_rfl) (by kernel_rfl) fun k x y h => Eq.trans (by kernel_rfl : _ = spec.fn k x) h
end laws_eqBoolS

namespace laws_eqVectors
def f (k : Nat) (a0_0 : Int) (a0_1 : List Bool) (a0_2 : List Bool) (a1_0 : Int) (a1_1 : List Bool) (a1_2 : List Bool) : Option (Bool) := brB (iNe a0_0 a1_0) (some false) (bnd (laws_eqBoolS.f k a0_1 a1_1) fun y0 => brB (bNot y0) (some false) (bnd (laws_eqBoolS.f k a0_2 a1_2) fun y1 => brB (bNot y1) (some false) (some true)))
def sig : Sig := ⟨36, [.w true [I, .row .bool, .row .bool], .w true [I, .row .bool, .row .bool]], [(false, [.val .bool])]⟩
def H : Hints := ⟨[], [], [], [], false, 0, false⟩
def spec : Spec := { sig := sig, fn := fun k (x : Int × List Bool × List Bool × Int × List Bool × List Bool) => f k x.1 x.2.1 x.2.2.1 x.2.2.2.1 x.2.2.2.2.1 x.2.2.2.2.2 }
theorem ok : Holds Go.Proofs.Try.prog spec := holds_of_run (G := [laws_eqBoolS.spec]) (holds_cons laws_eqBoolS.ok holds_nil) (by kernel_rfl) H Go.Proofs.Try.func36 (by kernel_rfl) (rfl : Go.Proofs.Try.f36.body = some _) (by kernel_rfl) (by kernel_rfl) fun k x y h => Eq.trans (by kernel_rfl : _ = spec.fn k x) h
end laws_eqVectors

namespace laws_markIntS
def s0 (k : Nat) (rec0 : (List Int × Int × Int) → Option (Int × List Int)) (x0 : List Int) (x1 : Int) (x2 : Int) : Option (Int × List Int) := brB (iLt x2 (rLen x0)) (chk (cIdx x2 (rLen x0)) (rec0 (rSet x0 x2 x1, iAdd .i64 x1 1, iAdd .i64 x2 1))) (some (x1, x0))
def l0 (k n : Nat) (x0 : List Int) (x1 : Int) (x2 : Int) : Option (Int × List Int) := iter (fun (rec : (List Int × Int × Int) → Option (Int × List Int)) (x : List Int × Int × Int) => s0 k rec x.1 x.2.1 x.2.2) n (x0, x1, x2)
def f (k : Nat) (a0 : List Int) (a1 : Int) : Option (Int × List Int) := l0 k k a0 a1 0
def sig : Sig := ⟨31, [.mut false [.row I], .w false [I]], [(false, [.val I])]⟩
def H : Hints := ⟨[(2, ⟨⟨[(0, .w false 1), (1, .w false 1), (5, .w false 1)], []⟩, [], [.own I, .val I, .val I], [0]⟩)], [], [], [], true, 0, false⟩
def spec : Spec := { sig := sig, fn := fun k (x : List Int × Int) => f k x.1 x.2 }
theorem ok : Holds Go.Proofs.Try.prog spec := holds_of_run (G := []) holds_nil (by kernel_rfl) H Go.Proofs.Try.func31 (by kernel_rfl) (rfl : Go.Proofs.Try.f31.body = some _) (by kernel_rfl) (by kernel_rfl) fun k x y h => Eq.trans (by kernel_rfl : _ = spec.fn k x) h
end laws_markIntS

namespace laws_markBoolS
def s0 (k : Nat) (rec0 : (List Bool × Int × Int) → Option (Int × List Bool)) (x0 : List Bool) (x1 : Int) (x2 : Int) : Option (Int × List Bool) := brB (iLt x2 (rLen x0)) (chk (cNz 3) (chk (cIdx x2 (rLen x0)) (rec0 (rSet x0 x2 (iEq (iRem x1 3) 0), iAdd .i64 x1 1, iAdd .i64 x2 1)))) (some (x1, x0))
def l0 (k n : Nat) (x0 : List Bool) (x1 : Int) (x2 : Int) : Option (Int × List Bool) := iter (fun (rec : (List Bool × Int × Int) → Option (Int × List Bool)) (x : List Bool × Int × Int) => s0 k rec x.1 x.2.1 x.2.2) n (x0, x1, x2)
def f (k : Nat) (a0 : List Bool) (a1 : Int) : Option (Int × List Bool) := l0 k k a0 a1 0
def sig : Sig := ⟨68, [.mut false [.row .bool], .w false [I]], [(false, [.val I])]⟩
def H : Hints := ⟨[(2, ⟨⟨[(0, .w false 1), (1, .w false 1), (5, .w false 1)], []⟩, [], [.own .bool, .val I, .val I], [0]⟩)], [], [], [], true, 0, false⟩
def spec : Spec := { sig := sig, fn := fun k (x : List Bool × Int) => f k x.1 x.2 }
theorem ok : Holds Go.Proofs.Try.prog spec := holds_of_run (G := []) holds_nil (by kernel_rfl) H Go.Proofs.Try.func68 (by kernel_rfl) (rfl : Go.Proofs.Try.f68.body = some _) (by kernel_rfl) (by kernel_rfl) fun k x y h => Eq.trans (by kernel_rfl : _ = spec.fn k x) h
end laws_markBoolS

namespace laws_markVectors
def f (k : Nat) (a0_0 : Int) (a0_1 : List Bool) (a0_2 : List Bool) (a1 : Int) : Option (Int × List Bool × List Bool) := bnd (laws_markBoolS.f k a0_1 a1) fun p => (fun y0 y1 => bnd (laws_markBoolS.f k a0_2 y0) fun p => (fun y2 y3 => some (y2, y1, y3)) p.1 p.2) p.1 p.2
def sig : Sig := ⟨37, [.mut true [I, .row .bool, .row .bool], .w false [I]], [(false, [.val I])]⟩
def H : Hints := ⟨[], [], [], [], true, 0, false⟩
def spec : Spec := { sig := sig, fn := fun k (x : Int × List Bool × List Bool × Int) => f k x.1 x.2.1 x.2.2.1 x.2.2.2 }
theorem ok : Holds Go.Proofs.Try.prog spec := holds_of_run (G := [laws_markBoolS.spec]) (holds_cons laws_markBoolS.ok holds_nil) (by kernel_rfl) H Go.Proofs.Try.func37 (by kernel_rfl) (rfl : Go.Proofs.Try.f37.body = some _) (by kernel_rfl) (by kernel_rfl) fun k x y h => Eq.trans (by kernel_rfl : _ = spec.fn k x) h
end laws_markVectors

namespace laws_markPacketS
def s0 (k : Nat) (rec0 : ((List (Int × Int × Int × Int × Int × Int × Int × List Int)) × Int × Int) → Option (Int × List (Int × Int × Int × Int × Int × Int × Int × List Int))) (x0 : List (Int × Int × Int × Int × Int × Int × Int × List Int)) (x1 : Int) (x2 : Int) : Option (Int × List (Int × Int × Int × Int × Int × Int × Int × List Int)) := brB (iLt x2 (rLen x0)) (chk (cIdx x2 (rLen x0)) (nam (rSet x0 x2 (x1, ((rGet (0, 0, 0, 0, 0, 0, 0, []) x0 x2).2).1, (((rGet (0, 0, 0, 0, 0, 0, 0, []) x0 x2).2).2).1, ((((rGet (0, 0, 0, 0, 0, 0, 0, []) x0 x2).2).2).2).1, (((((rGet (0, 0, 0, 0, 0, 0, 0, []) x0 x2).2).2).2).2).1, ((((((rGet (0, 0, 0, 0, 0, 0, 0, []) x0 x2).2).2).2).2).2).1, (((((((rGet (0, 0, 0, 0, 0, 0, 0, []) x0 x2).2).2).2).2).2).2).1, (((((((rGet (0, 0, 0, 0, 0, 0, 0, []) x0 x2).2).2).2).2).2).2).2)) fun y0 => chk (cIdx x2 (rLen y0)) (nam (rSet y0 x2 ((rGet (0, 0, 0, 0, 0, 0, 0, []) y0 x2).1, iAdd .i64 x1 1, (((rGet (0, 0, 0, 0, 0, 0, 0, []) y0 x2).2).2).1, ((((rGet (0, 0, 0, 0, 0, 0, 0, []) y0 x2).2).2).2).1, (((((rGet (0, 0, 0, 0, 0, 0, 0, []) y0 x2).2).2).2).2).1, ((((((rGet (0, 0, 0, 0, 0, 0, 0, []) y0 x2).2).2).2).2).2).1, (((((((rGet (0, 0, 0, 0, 0, 0, 0, []) y0 x2).2).2).2).2).2).2).1, (((((((rGet (0, 0, 0, 0, 0, 0, 0, []) y0 x2).2).2).2).2).2).2).2)) fun y1 => chk (cIdx x2 (rLen y1)) (nam (rSet y1 x2 ((rGet (0, 0, 0, 0, 0, 0, 0, []) y1 x2).1, ((rGet (0, 0, 0, 0, 0, 0, 0, []) y1 x2).2).1, iAdd .i64 (iAdd .i64 x1 1) 1, ((((rGet (0, 0, 0, 0, 0, 0, 0, []) y1 x2).2).2).2).1, (((((rGet (0, 0, 0, 0, 0, 0, 0, []) y1 x2).2).2).2).2).1, ((((((rGet (0, 0, 0, 0, 0, 0, 0, []) y1 x2).2).2).2).2).2).1, (((((((rGet (0, 0, 0, 0, 0, 0, 0, []) y1 x2).2).2).2).2).2).2).1, (((((((rGet (0, 0, 0, 0, 0, 0, 0, []) y1 x2).2).2).2).2).2).2).2)) fun y2 => chk (cIdx x2 (rLen y2)) (nam (rSet y2 x2 ((rGet (0, 0, 0, 0, 0, 0, 0, []) y2 x2).1, ((rGet (0, 0, 0, 0, 0, 0, 0, []) y2 x2).2).1, (((rGet (0, 0, 0, 0, 0, 0, 0, []) y2 x2).2).2).1, iAdd .i64 (iAdd .i64 (iAdd .i64 x1 1) 1) 1, (((((rGet (0, 0, 0, 0, 0, 0, 0, []) y2 x2).2).2).2).2).1, ((((((rGet (0, 0, 0, 0, 0, 0, 0, []) y2 x2).2).2).2).2).2).1, (((((((rGet (0, 0, 0, 0, 0, 0, 0, []) y2 x2).2).2).2).2).2).2).1, (((((((rGet (0, 0, 0, 0, 0, 0, 0, []) y2 x2).2).2).2).2).2).2).2)) fun y3 => chk (cIdx x2 (rLen y3)) (nam (rSet y3 x2 ((rGet (0, 0, 0, 0, 0, 0, 0, []) y3 x2).1, ((rGet (0, 0, 0, 0, 0, 0, 0, []) y3 x2).2).1, (((rGet (0, 0, 0, 0, 0, 0, 0, []) y3 x2).2).2).1, ((((rGet (0, 0, 0, 0, 0, 0, 0, []) y3 x2).2).2).2).1, iAdd .i64 (iAdd .i64 (iAdd .i64 (iAdd .i64 x1 1) 1) 1) 1, ((((((rGet (0, 0, 0, 0, 0, 0, 0, []) y3 x2).2).2).2).2).2).1, (((((((rGet (0, 0, 0, 0, 0, 0, 0, []) y3 x2).2).2).2).2).2).2).1, (((((((rGet (0, 0, 0, 0, 0, 0, 0, []) y3 x2).2).2).2).2).2).2).2)) fun y4 => chk (cIdx x2 (rLen y4)) (nam (rSet y4 x2 ((rGet (0, 0, 0, 0, 0, 0, 0, []) y4 x2).1, ((rGet (0, 0, 0, 0, 0, 0, 0, []) y4 x2).2).1, (((rGet (0, 0, 0, 0, 0, 0, 0, []) y4 x2).2).2).1, ((((rGet (0, 0, 0, 0, 0, 0, 0, []) y4 x2).2).2).2).1, (((((rGet (0, 0, 0, 0, 0, 0, 0, []) y4 x2).2).2).2).2).1, iAdd .i64 (iAdd .i64 (iAdd .i64 (iAdd .i64 (iAdd .i64 x1 1) 1) 1) 1) 1, (((((((rGet (0, 0, 0, 0, 0, 0, 0, []) y4 x2).2).2).2).2).2).2).1, (((((((rGet (0, 0, 0, 0, 0, 0, 0, []) y4 x2).2).2).2).2).2).2).2)) fun y5 => chk (cIdx x2 (rLen y5)) (nam (rSet y5 x2 ((rGet (0, 0, 0, 0, 0, 0, 0, []) y5 x2).1, ((rGet (0, 0, 0, 0, 0, 0, 0, []) y5 x2).2).1, (((rGet (0, 0, 0, 0, 0, 0, 0, []) y5 x2).2).2).1, ((((rGet (0, 0, 0, 0, 0, 0, 0, []) y5 x2).2).2).2).1, (((((rGet (0, 0, 0, 0, 0, 0, 0, []) y5 x2).2).2).2).2).1, ((((((rGet (0, 0, 0, 0, 0, 0, 0, []) y5 x2).2).2).2).2).2).1, iAdd .i64 (iAdd .i64 (iAdd .i64 (iAdd .i64 (iAdd .i64 (iAdd .i64 x1 1) 1) 1) 1) 1) 1, (((((((rGet (0, 0, 0, 0, 0, 0, 0, []) y5 x2).2).2).2).2).2).2).2)) fun y6 => chk (cIdx x2 (rLen y6)) (bnd (laws_markIntS.f k ((((((((rGet (0, 0, 0, 0, 0, 0, 0, []) y6 x2).2).2).2).2).2).2).2) (iAdd .i64 (iAdd .i64 (iAdd .i64 (iAdd .i64 (iAdd .i64 (iAdd .i64 (iAdd .i64 x1 1) 1) 1) 1) 1) 1) 1)) fun p => (fun y7 y8 => nam (rSet y6 x2 ((rGet (0, 0, 0, 0, 0, 0, 0, []) y6 x2).1, ((rGet (0, 0, 0, 0, 0, 0, 0, []) y6 x2).2).1, (((rGet (0, 0, 0, 0, 0, 0, 0, []) y6 x2).2).2).1, ((((rGet (0, 0, 0, 0, 0, 0, 0, []) y6 x2).2).2).2).1, (((((rGet (0, 0, 0, 0, 0, 0, 0, []) y6 x2).2).2).2).2).1, ((((((rGet (0, 0, 0, 0, 0, 0, 0, []) y6 x2).2).2).2).2).2).1, (((((((rGet (0, 0, 0, 0, 0, 0, 0, []) y6 x2).2).2).2).2).2).2).1, y8)) fun y9 => rec0 (y9, y7, iAdd .i64 x2 1)) p.1 p.2))))))))) (some (x1, x0))
def l0 (k n : Nat) (x0 : List (Int × Int × Int × Int × Int × Int × Int × List Int)) (x1 : Int) (x2 : Int) : Option (Int × List (Int × Int × Int × Int × Int × Int × Int × List Int)) := iter (fun (rec : ((List (Int × Int × Int × Int × Int × Int × Int × List Int)) × Int × Int) → Option (Int × List (Int × Int × Int × Int × Int × Int × Int × List Int))) (x : (List (Int × Int × Int × Int × Int × Int × Int × List Int)) × Int × Int) => s0 k rec x.1 x.2.1 x.2.2) n (x0, x1, x2)
def f (k : Nat) (a0 : List (Int × Int × Int × Int × Int × Int × Int × List Int)) (a1 : Int) : Option (Int × List (Int × Int × Int × Int × Int × Int × Int × List Int)) := l0 k k a0 a1 0
def sig : Sig := ⟨25, [.mut false [.row (.pair I (.pair I (.pair I (.pair I (.pair I (.pair I (.pair I (.row I))))))))], .w false [I]], [(false, [.val I])]⟩
def H : Hints := ⟨[(2, ⟨⟨[(0, .w false 1), (1, .w false 1), (5, .w false 1)], []⟩, [], [.own (.deep none (.pair I (.pair I (.pair I (.pair I (.pair I (.pair I (.pair I (.row I))))))))), .val I, .val I], [0]⟩)], [], [], [], true, 0, false⟩
def spec : Spec := { sig := sig, fn := fun k (x : List (Int × Int × Int × Int × Int × Int × Int × List Int) × Int) => f k x.1 x.2 }
theorem ok : Holds Go.Proofs.Try.prog spec := holds_of_run (G := [laws_markIntS.spec]) (holds_cons laws_markIntS.ok holds_nil) (by kernel_rfl) H Go.Proofs.Try.func25 (by kernel_rfl) (rfl : Go.Proofs.Try.f25.body = some _) (by kernel_rfl) (by kernel_rfl) fun k x y h => Eq.trans (by kernel_rfl : _ = spec.fn k x) h
end laws_markPacketS

namespace laws_heldIntS
def s0 (k : Nat) (rec0 : (List Int × Int × Int) → Option (Int)) (x0 : List Int) (x1 : Int) (x2 : Int) : Option (Int) := brB (iLt x2 (rLen x0)) (chk (cIdx x2 (rLen x0)) (brB (iNe (rGet 0 x0 x2) x1) (some (-1)) (rec0 (x0, iAdd .i64 x1 1, iAdd .i64 x2 1)))) (some x1)
def l0 (k n : Nat) (x0 : List Int) (x1 : Int) (x2 : Int) : Option (Int) := iter (fun (rec : (List Int × Int × Int) → Option (Int)) (x : List Int × Int × Int) => s0 k rec x.1 x.2.1 x.2.2) n (x0, x1, x2)
def f (k : Nat) (a0 : List Int) (a1 : Int) : Option (Int) := l0 k k a0 a1 0
def sig : Sig := ⟨32, [.w false [.row I], .w false [I]], [(false, [.val I])]⟩
def H : Hints := ⟨[(2, ⟨⟨[(0, .w false 1), (1, .w false 1), (5, .w false 1)], []⟩, [], [.val (.row I), .val I, .val I], []⟩)], [], [], [], false, 0, false⟩
def spec : Spec := { sig := sig, fn := fun k (x : List Int × Int) => f k x.1 x.2 }
theorem ok : Holds Go.Proofs.Try.prog spec := holds_of_run (G := []) holds_nil (by kernel_rfl) H Go.Proofs.Try.func32 (by kernel_rfl) (rfl : Go.Proofs.Try.f32.body = some _) (by kernel_rfl) (by kernel_rfl) fun k x y h => Eq.trans (by kernel_rfl : _ = spec.fn k x) h
end laws_heldIntS

namespace laws_heldPacketS
def s0 (k : Nat) (rec0 : ((List (Int × Int × Int × Int × Int × Int × Int × List Int)) × Int × Int) → Option (Int)) (x0 : List (Int × Int × Int × Int × Int × Int × Int × List Int)) (x1 : Int) (x2 : Int) : Option (Int) := brB (iLt x2 (rLen x0)) (chk (cIdx x2 (rLen x0)) (brB (iNe ((rGet (0, 0, 0, 0, 0, 0, 0, []) x0 x2).1) x1) (some (-1)) (chk (cIdx x2 (rLen x0)) (brB (iNe (((rGet (0, 0, 0, 0, 0, 0, 0, []) x0 x2).2).1) (iAdd .i64 x1 1)) (some (-1)) (chk (cIdx x2 (rLen x0)) (brB (iNe ((((rGet (0, 0, 0, 0, 0, 0, 0, []) x0 x2).2).2).1) (iAdd .i64 (iAdd .i64 x1 1) 1)) (some (-1)) (chk (cIdx x2 (rLen x0)) (brB (iNe (((((rGet (0, 0, 0, 0, 0, 0, 0, []) x0 x2).2).2).2).1) (iAdd .i64 (iAdd .i64 (iAdd .i64 x1 1) 1) 1)) (some (-1)) (chk (cIdx x2 (rLen x0)) (brB (iNe ((((((rGet (0, 0, 0, 0, 0, 0, 0, []) x0 x2).2).2).2).2).1) (iAdd .i64 (iAdd .i64 (iAdd .i64 (iAdd .i64 x1 1) 1) 1) 1)) (some (-1)) (chk (cIdx x2 (rLen x0)) (brB (iNe (((((((rGet (0, 0, 0, 0, 0, 0, 0, []) x0 x2).2).2).2).2).2).1) (iAdd .i64 (iAdd .i64 (iAdd .i64 (iAdd .i64 (iAdd .i64 x1 1) 1) 1) 1) 1)) (some (-1)) (chk (cIdx x2 (rLen x0)) (brB (iNe ((((((((rGet (0, 0, 0, 0, 0, 0, 0, []) x0 x2).2).2).2).2).2).2).1) (iAdd .i64 (iAdd .i64 (iAdd .i64 (iAdd .i64 (iAdd .i64 (iAdd .i64 x1 1) 1) 1) 1) 1) 1)) (some (-1)) (chk (cIdx x2 (rLen x0)) (bnd (laws_heldIntS.f k ((((((((rGet (0, 0, 0, 0, 0, 0, 0, []) x0 x2).2).2).2).2).2).2).2) (iAdd .i64 (iAdd .i64 (iAdd .i64 (iAdd .i64 (iAdd .i64 (iAdd .i64 (iAdd .i64 x1 1) 1) 1) 1) 1) 1) 1)) fun y0 => brB (iLt y0 0) (some (-1)) (rec0 (x0, y0, iAdd .i64 x2 1)))))))))))))))))) (some x1)
def l0 (k n : Nat) (x0 : List (Int × Int × Int × Int × Int × Int × Int × List Int)) (x1 : Int) (x2 : Int) : Option (Int) := iter (fun (rec : ((List (Int × Int × Int × Int × Int × Int × Int × List Int)) × Int × Int) → Option (Int)) (x : (List (Int × Int × Int × Int × Int × Int × Int × List Int)) × Int × Int) => s0 k rec x.1 x.2.1 x.2.2) n (x0, x1, x2)
def f (k : Nat) (a0 : List (Int × Int × Int × Int × Int × Int × Int × List Int)) (a1 : Int) : Option (Int) := l0 k k a0 a1 0
def sig : Sig := ⟨27, [.w false [.row (.pair I (.pair I (.pair I (.pair I (.pair I (.pair I (.pair I (.row I))))))))], .w false [I]], [(false, [.val I])]⟩
def H : Hints := ⟨[(2, ⟨⟨[(0, .w false 1), (1, .w false 1), (5, .w false 1)], []⟩, [], [.val (.row (.pair I (.pair I (.pair I (.pair I (.pair I (.pair I (.pair I (.row I))))))))), .val I, .val I], []⟩)], [], [], [], false, 0, false⟩
def spec : Spec := { sig := sig, fn := fun k (x : List (Int × Int × Int × Int × Int × Int × Int × List Int) × Int) => f k x.1 x.2 }
theorem ok : Holds Go.Proofs.Try.prog spec := holds_of_run (G := [laws_heldIntS.spec]) (holds_cons laws_heldIntS.ok holds_nil) (by kernel_rfl) H Go.Proofs.Try.func27 (by kernel_rfl) (rfl : Go.Proofs.Try.f27.body = some _) (by kernel_rfl) (by kernel_rfl) fun k x y h => Eq.trans (by kernel_rfl : _ = spec.fn k x) h
end laws_heldPacketS

namespace laws_FnExactProduce
def f (k : Nat) (a0 : Int) (a1 : Int) (a2 : List Int) (a3 : Int) (a4_0 : Int) (a4_1 : List Bool) (a4_2 : List Bool) : Option (Bool) := brB (iLt 1048576 (rLen a2)) (some true) (bnd (laws_szVectors.f k a4_0 a4_1 a4_2 1048576) fun y0 => brB (iLt y0 0) (some true) (bnd (laws_toIntS.f k a2) fun y1 => bnd (laws_toVectors.f k a4_0 a4_1 a4_2) fun p => (fun y2 y3 y4 => bnd (spec_Produce.f k a0 a1 y1 a3 y2 y3 y4) fun p => (fun y5 y6 => bnd (laws_toIntS.f k a2) fun y7 => bnd (laws_toVectors.f k a4_0 a4_1 a4_2) fun p => (fun y8 y9 y10 => bnd (impl_Produce.f k a0 a1 y7 a3 y8 y9 y10) fun p => (fun y11 y12 => bnd (laws_eqPacketS.f k y11 y5) fun y13 => brB (bNot y13) (some false) (brB (bNe y12 y6) (some false) (bnd (laws_toIntS.f k a2) fun y14 => bnd (laws_eqIntS.f k y7 y14) fun y15 => brB (bNot y15) (some false) (bnd (laws_toVectors.f k a4_0 a4_1 a4_2) fun p => (fun y16 y17 y18 => bnd (laws_eqVectors.f k y8 y9 y10 y16 y17 y18) fun y19 => brB (bNot y19) (some false) (bnd (laws_markIntS.f k y7 1) fun p => (fun y20 y21 => bnd (laws_markVectors.f k y8 y9 y10 y20) fun p => (fun y22 y23 y24 => brB (iLt y22 0) (some false) (bnd (laws_eqPacketS.f k y11 y5) fun y25 => brB (bNot y25) (some false) (brB (bNe y12 y6) (some false) (bnd (laws_markPacketS.f k y11 1) fun p => (fun y26 y27 => bnd (laws_heldPacketS.f k y27 1) fun y28 => brB (iLt y28 0) (some false) (brB (iNe y28 y26) (some false) (bnd (laws_toIntS.f k a2) fun y29 => bnd (laws_toVectors.f k a4_0 a4_1 a4_2) fun p => (fun y30 y31 y32 => bnd (impl_Produce.f k a0 a1 y29 a3 y30 y31 y32) fun p => (fun y33 y34 => bnd (laws_eqPacketS.f k y33 y5) fun y35 => brB (bNot y35) (some false) (brB (bNe y34 y6) (some false) (bnd (laws_heldPacketS.f k y27 1) fun y36 => brB (iLt y36 0) (some false) (brB (iNe y36 y26) (some false) (some true))))) p.1 p.2) p.1 p.2.1 p.2.2))) p.1 p.2)))) p.1 p.2.1 p.2.2) p.1 p.2)) p.1 p.2.1 p.2.2)))) p.1 p.2) p.1 p.2.1 p.2.2) p.1 p.2) p.1 p.2.1 p.2.2))
def sig : Sig := ⟨6, [.w false [I], .w false [I], .w false [.row I], .w false [I], .w true [I, .row .bool, .row .bool]], [(false, [.val .bool])]⟩
def H : Hints := ⟨[], [], [(7, [0, 0, 0, 4, 0, 0, 44, 127, 255, 511, 511, 1023, 4095]), (15, [0, 0, 2, 7, 15]), (30, [0, 0, 0, 4, 0, 0, 44, 127, 255, 511, 511, 1023, 4095])], [], true, 0, false⟩
def spec : Spec := { sig := sig, fn := fun k (x : Int × Int × List Int × Int × Int × List Bool × List Bool) => f k x.1 x.2.1 x.2.2.1 x.2.2.2.1 x.2.2.2.2.1 x.2.2.2.2.2.1 x.2.2.2.2.2.2 }
theorem ok : Holds Go.Proofs.Try.prog spec := holds_of_run (G := [laws_szVectors.spec, laws_toIntS.spec, laws_toVectors.spec, spec_Produce.spec, impl_Produce.spec, laws_eqIntS.spec, laws_eqPacketS.spec, laws_eqVectors.spec, laws_markIntS.spec, laws_markVectors.spec, laws_markPacketS.spec, laws_heldPacketS.spec]) (holds_cons laws_szVectors.ok (holds_cons laws_toIntS.ok (holds_cons laws_toVectors.ok (holds_cons spec_Produce.ok (holds_cons impl_Produce.ok (holds_cons laws_eqIntS.ok (holds_cons laws_eqPacketS.ok (holds_cons laws_eqVectors.ok (holds_cons laws_markIntS.ok (holds_cons laws_markVectors.ok (holds_cons laws_markPacketS.ok (holds_cons laws_heldPacketS.ok holds_nil)))))))))))) (by kernel_rfl) H Go.Proofs.Try.func6 (by kernel_rfl) (rfl : Go.Proofs.Try.f6.body = some _) (by kernel_rfl) (by kernel_rfl) fun k x y h => Eq.trans (by kernel_rfl : _ = spec.fn k x) h
end laws_FnExactProduce

end
end Go.Proofs.YtmbmapbdbbnaeaaT
