/- The functions of the program, as they compute: printed by a program of the session (wip/gen), each with its contract. -/
import Derived.Test.YtknaadbgljjpiaaProg
import Derived.Test.YtknaadbgljjpiaaTiAI
set_option linter.unusedVariables false
set_option maxRecDepth 100000
namespace Go.Proofs.YtknaadbgljjpiaaT
open Go
abbrev I : Ty := .int .i64
noncomputable section
namespace laws_big
def f (k : Nat) (a0 : List Int) : Option (Bool) := some (iLt 1048576 (rLen a0))
def sig : Sig := ⟨26, [.w false [.row (.int .u8)]], [(false, [.val .bool])]⟩
def H : Hints := ⟨[], [], [], []⟩
def spec : Spec := { sig := sig, fn := fun k (x : List Int) => f k x }
theorem ok : Holds Go.Proofs.Try.prog spec := holds_of_run (G := []) holds_nil (by kernel_rfl) H Go.Proofs.Try.func26 (by kernel_rfl) (rfl : Go.Proofs.Try.f26.body = some _) (by kernel_rfl) (by kernel_rfl) fun k x y h => Eq.trans (by kernel_rfl : _ = spec.fn k x) h
end laws_big

namespace spec_l01New
def s0 (k : Nat) (rec0 : (List Int × Int × Int) → Option (List Int × Int × Int)) (x0 : List Int) (x1 : Int) (x2 : Int) : Option (List Int × Int × Int) := brB (iLt x2 (rLen x0)) (brB (iLt x2 4000) (chk (cIdx x2 (rLen x0)) (rec0 (x0, iBit .and .i64 (iAdd .i64 (iAdd .i64 (iMul .i64 x1 131) (iCnv .i64 (rGet 0 x0 x2))) 7) 1073741823, iAdd .i64 x2 1))) (some (x0, 0, x1))) (some (x0, 0, x1))
def l0 (k n : Nat) (x0 : List Int) (x1 : Int) (x2 : Int) : Option (List Int × Int × Int) := iter (fun (rec : (List Int × Int × Int) → Option (List Int × Int × Int)) (x : List Int × Int × Int) => s0 k rec x.1 x.2.1 x.2.2) n (x0, x1, x2)
def f (k : Nat) (a0 : List Int) : Option (List Int × Int × Int) := l0 k k a0 (iAdd .i64 98663 (rLen a0)) 0
def sig : Sig := ⟨59, [.w false [.row (.int .u8)]], [(true, [.val (.row (.int .u8)), .val I, .val I])]⟩
def H : Hints := ⟨[(3, ⟨⟨[(0, .w false 1), (3, .w false 1), (4, .w false 1)], []⟩, [], [.val (.row (.int .u8)), .val I, .val I], []⟩)], [], [], []⟩
def spec : Spec := { sig := sig, fn := fun k (x : List Int) => f k x, boxed := true }
theorem ok : Holds Go.Proofs.Try.prog spec := holds_of_box rfl (G := []) holds_nil (by kernel_rfl) H Go.Proofs.Try.func59 (by kernel_rfl) (rfl : Go.Proofs.Try.f59.body = some _) (by kernel_rfl) (by kernel_rfl) (by kernel_rfl) fun k x y h => Eq.trans (by kernel_rfl : _ = spec.fn k x) h
end spec_l01New

namespace spec_l01Byte
def f (k : Nat) (a0_0 : List Int) (a0_1 : Int) (a0_2 : Int) : Option (Int × List Int × Int × Int) := chk (cNn 33) (chk (cNn 45) (brB (iLt a0_1 (rLen a0_0)) (chk (cIdx a0_1 (rLen a0_0)) (some (iBit .and .i64 (iAdd .i64 (iBit .and .i64 (iBit .xor .i64 (iShr .i64 (iAdd .i64 (iMul .i64 a0_2 6364136223846793005) 1442695040888963407) 33) (iShr .i64 (iAdd .i64 (iMul .i64 a0_2 6364136223846793005) 1442695040888963407) 45)) 255) (iCnv .i64 (rGet 0 a0_0 a0_1))) 255, a0_0, iAdd .i64 a0_1 1, iAdd .i64 (iMul .i64 a0_2 6364136223846793005) 1442695040888963407))) (some (iBit .and .i64 (iBit .xor .i64 (iShr .i64 (iAdd .i64 (iMul .i64 a0_2 6364136223846793005) 1442695040888963407) 33) (iShr .i64 (iAdd .i64 (iMul .i64 a0_2 6364136223846793005) 1442695040888963407) 45)) 255, a0_0, a0_1, iAdd .i64 (iMul .i64 a0_2 6364136223846793005) 1442695040888963407))))
def sig : Sig := ⟨85, [.ref [.row (.int .u8), I, I]], [(false, [.val I])]⟩
def H : Hints := ⟨[], [], [(2, [0, 1, 3, 7, 15, 0, 32, 96, 224, 480, 1023, 2047, 4095]), (3, [0, 1, 3, 7, 0, 16, 48, 112, 240, 511]), (4, [0, 0, 2, 6, 14, 0, 32, 96, 224, 510, 1022, 2046, 4095, 8191, 16383])], []⟩
def spec : Spec := { sig := sig, fn := fun k (x : List Int × Int × Int) => f k x.1 x.2.1 x.2.2 }
theorem ok : Holds Go.Proofs.Try.prog spec := holds_of_run (G := []) holds_nil (by kernel_rfl) H Go.Proofs.Try.func85 (by kernel_rfl) (rfl : Go.Proofs.Try.f85.body = some _) (by kernel_rfl) (by kernel_rfl) fun k x y h => Eq.trans (by kernel_rfl : _ = spec.fn k x) h
end spec_l01Byte

namespace spec_l01Below
def f (k : Nat) (a1 : Int) (a0_0 : List Int) (a0_1 : Int) (a0_2 : Int) : Option (Int × List Int × Int × Int) := brB (iLe a1 0) (some (0, a0_0, a0_1, a0_2)) (brB (iLe a1 256) (bnd (spec_l01Byte.f k a0_0 a0_1 a0_2) fun (y0, y1, y2, y3) => chk (cNz a1) (some (iRem y0 a1, y1, y2, y3))) (bnd (spec_l01Byte.f k a0_0 a0_1 a0_2) fun (y4, y5, y6, y7) => bnd (spec_l01Byte.f k y5 y6 y7) fun (y8, y9, y10, y11) => bnd (spec_l01Byte.f k y9 y10 y11) fun (y12, y13, y14, y15) => bnd (spec_l01Byte.f k y13 y14 y15) fun (y16, y17, y18, y19) => chk (cNz a1) (some (iRem (iAdd .i64 (iAdd .i64 (iAdd .i64 (iMul .i64 y4 16777216) (iMul .i64 y8 65536)) (iMul .i64 y12 256)) y16) a1, y17, y18, y19))))
def sig : Sig := ⟨62, [.ref [.row (.int .u8), I, I], .w false [I]], [(false, [.val I])]⟩
def H : Hints := ⟨[], [], [], []⟩
def spec : Spec := { sig := sig, fn := fun k (x : Int × List Int × Int × Int) => f k x.1 x.2.1 x.2.2.1 x.2.2.2 }
theorem ok : Holds Go.Proofs.Try.prog spec := holds_of_run (G := [spec_l01Byte.spec]) (holds_cons spec_l01Byte.ok holds_nil) (by kernel_rfl) H Go.Proofs.Try.func62 (by kernel_rfl) (rfl : Go.Proofs.Try.f62.body = some _) (by kernel_rfl) (by kernel_rfl) fun k x y h => Eq.trans (by kernel_rfl : _ = spec.fn k x) h
end spec_l01Below

namespace spec_l01PickInt
def f (k : Nat) (a1 : List Int) (a0_0 : List Int) (a0_1 : Int) (a0_2 : Int) : Option (Int × List Int × Int × Int) := bnd (spec_l01Below.f k (rLen a1) a0_0 a0_1 a0_2) fun (y0, y1, y2, y3) => chk (cIdx y0 (rLen a1)) (some (rGet 0 a1 y0, y1, y2, y3))
def sig : Sig := ⟨83, [.ref [.row (.int .u8), I, I], .w false [.row I]], [(false, [.val I])]⟩
def H : Hints := ⟨[], [], [], []⟩
def spec : Spec := { sig := sig, fn := fun k (x : List Int × List Int × Int × Int) => f k x.1 x.2.1 x.2.2.1 x.2.2.2 }
theorem ok : Holds Go.Proofs.Try.prog spec := holds_of_run (G := [spec_l01Below.spec]) (holds_cons spec_l01Below.ok holds_nil) (by kernel_rfl) H Go.Proofs.Try.func83 (by kernel_rfl) (rfl : Go.Proofs.Try.f83.body = some _) (by kernel_rfl) (by kernel_rfl) fun k x y h => Eq.trans (by kernel_rfl : _ = spec.fn k x) h
end spec_l01PickInt

namespace spec_l01In
def f (k : Nat) (a0 : Int) (a1 : Int) (a2 : Int) : Option (Bool) := brB (iLe a1 a0) (some (iLe a0 a2)) (some false)
def sig : Sig := ⟨77, [.w false [I], .w false [I], .w false [I]], [(false, [.val .bool])]⟩
def H : Hints := ⟨[], [], [], []⟩
def spec : Spec := { sig := sig, fn := fun k (x : Int × Int × Int) => f k x.1 x.2.1 x.2.2 }
theorem ok : Holds Go.Proofs.Try.prog spec := holds_of_run (G := []) holds_nil (by kernel_rfl) H Go.Proofs.Try.func77 (by kernel_rfl) (rfl : Go.Proofs.Try.f77.body = some _) (by kernel_rfl) (by kernel_rfl) fun k x y h => Eq.trans (by kernel_rfl : _ = spec.fn k x) h
end spec_l01In

namespace spec_TreeOk
def s1 (k : Nat) (rec0 : ((List (Int × Int × Int)) × Int) → Option (Bool)) (rec1 : ((List (Int × Int × Int)) × Int × Int × Int × Int × Int) → Option (Bool)) (x2 : List (Int × Int × Int)) (x3 : Int) (x4 : Int) (x5 : Int) (x6 : Int) (x7 : Int) : Option (Bool) := brB (iLt x4 x3) (chk (cIdx x4 (rLen x2)) (brB (iEq ((rGet (0, 0, 0) x2 x4).1) x5) (chk (cIdx x4 (rLen x2)) (brB (iEq (((rGet (0, 0, 0) x2 x4).2).1) x6) (some false) (rec1 (x2, x3, iAdd .i64 x4 1, x5, x6, x7)))) (rec1 (x2, x3, iAdd .i64 x4 1, x5, x6, x7)))) (rec0 (x2, iAdd .i64 x3 1))
def l1 (k n : Nat) (rec0 : ((List (Int × Int × Int)) × Int) → Option (Bool)) (x2 : List (Int × Int × Int)) (x3 : Int) (x4 : Int) (x5 : Int) (x6 : Int) (x7 : Int) : Option (Bool) := iter (fun (rec : ((List (Int × Int × Int)) × Int × Int × Int × Int × Int) → Option (Bool)) (x : (List (Int × Int × Int)) × Int × Int × Int × Int × Int) => s1 k rec0 rec x.1 x.2.1 x.2.2.1 x.2.2.2.1 x.2.2.2.2.1 x.2.2.2.2.2) n (x2, x3, x4, x5, x6, x7)
def s0 (k : Nat) (rec0 : ((List (Int × Int × Int)) × Int) → Option (Bool)) (x0 : List (Int × Int × Int)) (x1 : Int) : Option (Bool) := brB (iLt x1 (rLen x0)) (chk (cIdx x1 (rLen x0)) (bnd (spec_l01In.f k ((rGet (0, 0, 0) x0 x1).1) 0 (iSub .i64 x1 1)) fun y1 => brB (bNot y1) (some false) (chk (cIdx ((rGet (0, 0, 0) x0 x1).1) (rLen x0)) (brB (iNe (((rGet (0, 0, 0) x0 ((rGet (0, 0, 0) x0 x1).1)).2).2) 0) (some false) (bnd (spec_l01In.f k (((rGet (0, 0, 0) x0 x1).2).1) 0 3) fun y2 => brB (bNot y2) (some false) (bnd (spec_l01In.f k (((rGet (0, 0, 0) x0 x1).2).2) 0 4) fun y3 => brB (bNot y3) (some false) (l1 k k rec0 x0 x1 1 ((rGet (0, 0, 0) x0 x1).1) (((rGet (0, 0, 0) x0 x1).2).1) (((rGet (0, 0, 0) x0 x1).2).2)))))))) (some true)
def l0 (k n : Nat) (x0 : List (Int × Int × Int)) (x1 : Int) : Option (Bool) := iter (fun (rec : ((List (Int × Int × Int)) × Int) → Option (Bool)) (x : (List (Int × Int × Int)) × Int) => s0 k rec x.1 x.2) n (x0, x1)
def f (k : Nat) (a0 : List (Int × Int × Int)) : Option (Bool) := bnd (spec_l01In.f k (rLen a0) 1 12) fun y0 => brB (bNot y0) (some false) (chk (cIdx 0 (rLen a0)) (brB (bNot (bAnd (iEq ((rGet (0, 0, 0) a0 0).1) (-1)) (bAnd (iEq (((rGet (0, 0, 0) a0 0).2).1) 0) (bAnd (iEq (((rGet (0, 0, 0) a0 0).2).2) 0) true)))) (some false) (l0 k k a0 1)))
def sig : Sig := ⟨49, [.w false [.row (.pair I (.pair I I))]], [(false, [.val .bool])]⟩
def H : Hints := ⟨[(4, ⟨⟨[(0, .w false 1), (3, .w false 1)], []⟩, [], [.val (.row (.pair I (.pair I I))), .val I], []⟩), (10, ⟨⟨[(0, .w false 1), (3, .w false 1), (4, .ptr 104 0), (5, .w false 1)], [(104, 3)]⟩, [4], [.val (.row (.pair I (.pair I I))), .val I, .val I, .val I, .val I, .val I], []⟩)], [], [(12, [0, 0, 3, 7, 15, 0, 32, 127, 255, 511, 511, 2047, 4095, 8191, 511, 16895, 65535, 131071])], []⟩
def spec : Spec := { sig := sig, fn := fun k (x : List (Int × Int × Int)) => f k x }
theorem ok : Holds Go.Proofs.Try.prog spec := holds_of_run (G := [spec_l01In.spec]) (holds_cons spec_l01In.ok holds_nil) (by kernel_rfl) H Go.Proofs.Try.func49 (by kernel_rfl) (rfl : Go.Proofs.Try.f49.body = some _) (by kernel_rfl) (by kernel_rfl) fun k x y h => Eq.trans (by kernel_rfl : _ = spec.fn k x) h
end spec_TreeOk

namespace spec_l19Tree
def s0 (k : Nat) (rec0 : ((List (Int × Int × Int)) × Int × List Int × Int × Int) → Option (List (Int × Int × Int) × List Int × Int × Int)) (x0 : List (Int × Int × Int)) (x1 : Int) (x2 : List Int) (x3 : Int) (x4 : Int) : Option (List (Int × Int × Int) × List Int × Int × Int) := bnd (spec_l01Below.f k 8 x2 x3 x4) fun (y0, y1, y2, y3) => brB (iLt x1 (iAdd .i64 3 y0)) (bnd (spec_l01Below.f k (rLen x0) y1 y2 y3) fun (y4, y5, y6, y7) => bnd (spec_l01Below.f k 4 y5 y6 y7) fun (y8, y9, y10, y11) => bnd (spec_l01PickInt.f k [0, 0, 1, 1, 2, 4] y9 y10 y11) fun (y12, y13, y14, y15) => chk (cLen (rLen (rApp [] x0)) 24) (chk (cLen (rLen (rApp (rApp [] x0) [(y4, y8, y12)])) 24) (bnd (spec_TreeOk.f k (rApp (rApp [] x0) [(y4, y8, y12)])) fun y16 => brB y16 (rec0 (rApp (rApp [] x0) [(y4, y8, y12)], iAdd .i64 x1 1, y13, y14, y15)) (rec0 (x0, iAdd .i64 x1 1, y13, y14, y15))))) (some (x0, y1, y2, y3))
def l0 (k n : Nat) (x0 : List (Int × Int × Int)) (x1 : Int) (x2 : List Int) (x3 : Int) (x4 : Int) : Option (List (Int × Int × Int) × List Int × Int × Int) := iter (fun (rec : ((List (Int × Int × Int)) × Int × List Int × Int × Int) → Option (List (Int × Int × Int) × List Int × Int × Int)) (x : (List (Int × Int × Int)) × Int × List Int × Int × Int) => s0 k rec x.1 x.2.1 x.2.2.1 x.2.2.2.1 x.2.2.2.2) n (x0, x1, x2, x3, x4)
def f (k : Nat) (a0_0 : List Int) (a0_1 : Int) (a0_2 : Int) : Option (List (Int × Int × Int) × List Int × Int × Int) := l0 k k [((-1), 0, 0)] 0 a0_0 a0_1 a0_2
def sig : Sig := ⟨60, [.ref [.row (.int .u8), I, I]], [(false, [.own (.pair I (.pair I I))])]⟩
def H : Hints := ⟨[(3, ⟨⟨[(0, .ptr 0 0), (3, .w false 1), (4, .w false 1)], [(0, 3)]⟩, [0], [.own (.pair I (.pair I I)), .val I, .val (.row (.int .u8)), .val I, .val I], []⟩)], [], [(6, [0, 0, 3, 0, 8, 31, 63])], []⟩
def spec : Spec := { sig := sig, fn := fun k (x : List Int × Int × Int) => f k x.1 x.2.1 x.2.2 }
theorem ok : Holds Go.Proofs.Try.prog spec := holds_of_run (G := [spec_l01Below.spec, spec_l01PickInt.spec, spec_TreeOk.spec]) (holds_cons spec_l01Below.ok (holds_cons spec_l01PickInt.ok (holds_cons spec_TreeOk.ok holds_nil))) (by kernel_rfl) H Go.Proofs.Try.func60 (by kernel_rfl) (rfl : Go.Proofs.Try.f60.body = some _) (by kernel_rfl) (by kernel_rfl) fun k x y h => Eq.trans (by kernel_rfl : _ = spec.fn k x) h
end spec_l19Tree

namespace spec_l01Once
def f (k : Nat) (a1 : Int) (a0_0 : List Int) (a0_1 : Int) (a0_2 : Int) : Option (Bool × List Int × Int × Int) := bnd (spec_l01Below.f k a1 a0_0 a0_1 a0_2) fun (y0, y1, y2, y3) => some (iEq y0 0, y1, y2, y3)
def sig : Sig := ⟨84, [.ref [.row (.int .u8), I, I], .w false [I]], [(false, [.val .bool])]⟩
def H : Hints := ⟨[], [], [], []⟩
def spec : Spec := { sig := sig, fn := fun k (x : Int × List Int × Int × Int) => f k x.1 x.2.1 x.2.2.1 x.2.2.2 }
theorem ok : Holds Go.Proofs.Try.prog spec := holds_of_run (G := [spec_l01Below.spec]) (holds_cons spec_l01Below.ok holds_nil) (by kernel_rfl) H Go.Proofs.Try.func84 (by kernel_rfl) (rfl : Go.Proofs.Try.f84.body = some _) (by kernel_rfl) (by kernel_rfl) fun k x y h => Eq.trans (by kernel_rfl : _ = spec.fn k x) h
end spec_l01Once

namespace spec_l33Guard
def s0 (k : Nat) (rec0 : ((List (Int × Int × Int)) × Int × List Int × Int × Int × List Bool × List Bool) → Option (List Bool × List Int × Int × Int)) (x0 : List (Int × Int × Int)) (x1 : Int) (x2 : List Int) (x3 : Int) (x4 : Int) (x5 : List Bool) (x6 : List Bool) : Option (List Bool × List Int × Int × Int) := brB (iLt x1 (rLen x0)) (brB (iEq x1 0) (chk (cLen (rLen (rApp x6 [true])) 1) (rec0 (x0, iAdd .i64 x1 1, x2, x3, x4, x5, rApp x6 [true]))) (bnd (spec_l01Once.f k 5 x2 x3 x4) fun (y0, y1, y2, y3) => chk (cLen (rLen (rApp x6 [bNot y0])) 1) (rec0 (x0, iAdd .i64 x1 1, y1, y2, y3, x5, rApp x6 [bNot y0])))) (some (x6, x2, x3, x4))
def l0 (k n : Nat) (x0 : List (Int × Int × Int)) (x1 : Int) (x2 : List Int) (x3 : Int) (x4 : Int) (x5 : List Bool) (x6 : List Bool) : Option (List Bool × List Int × Int × Int) := iter (fun (rec : ((List (Int × Int × Int)) × Int × List Int × Int × Int × List Bool × List Bool) → Option (List Bool × List Int × Int × Int)) (x : (List (Int × Int × Int)) × Int × List Int × Int × Int × List Bool × List Bool) => s0 k rec x.1 x.2.1 x.2.2.1 x.2.2.2.1 x.2.2.2.2.1 x.2.2.2.2.2.1 x.2.2.2.2.2.2) n (x0, x1, x2, x3, x4, x5, x6)
def f (k : Nat) (a1 : List (Int × Int × Int)) (a0_0 : List Int) (a0_1 : Int) (a0_2 : Int) : Option (List Bool × List Int × Int × Int) := l0 k k a1 0 a0_0 a0_1 a0_2 [] []
def sig : Sig := ⟨61, [.ref [.row (.int .u8), I, I], .w false [.row (.pair I (.pair I I))]], [(true, [.own .bool])]⟩
def H : Hints := ⟨[(3, ⟨⟨[(0, .ptr 0 0), (1, .w false 1), (4, .ptr 104 0), (5, .ptr 105 0), (6, .w false 1)], [(0, 3), (104, 1), (105, 1)]⟩, [0, 4, 5], [.val (.row (.pair I (.pair I I))), .val I, .val (.row (.int .u8)), .val I, .val I, .own .bool, .own .bool], []⟩)], [], [(5, [0, 1, 0, 4, 12, 28, 60, 124, 252, 508, 1023, 2047, 4095])], []⟩
def spec : Spec := { sig := sig, fn := fun k (x : List (Int × Int × Int) × List Int × Int × Int) => f k x.1 x.2.1 x.2.2.1 x.2.2.2 }
theorem ok : Holds Go.Proofs.Try.prog spec := holds_of_run (G := [spec_l01Once.spec]) (holds_cons spec_l01Once.ok holds_nil) (by kernel_rfl) H Go.Proofs.Try.func61 (by kernel_rfl) (rfl : Go.Proofs.Try.f61.body = some _) (by kernel_rfl) (by kernel_rfl) fun k x y h => Eq.trans (by kernel_rfl : _ = spec.fn k x) h
end spec_l33Guard

namespace spec_DrawGuard
def f (k : Nat) (a0 : List Int) : Option (List (Int × Int × Int) × List Bool) := bnd (spec_l01New.f k a0) fun (y0, y1, y2) => bnd (spec_l19Tree.f k y0 y1 y2) fun (y3, y4, y5, y6) => bnd (spec_l33Guard.f k y3 y4 y5 y6) fun (y7, y8, y9, y10) => some (y3, y7)
def sig : Sig := ⟨27, [.w false [.row (.int .u8)]], [(false, [.val (.row (.pair I (.pair I I)))]), (true, [.own .bool])]⟩
def H : Hints := ⟨[], [], [], []⟩
def spec : Spec := { sig := sig, fn := fun k (x : List Int) => f k x }
theorem ok : Holds Go.Proofs.Try.prog spec := holds_of_run (G := [spec_l01New.spec, spec_l19Tree.spec, spec_l33Guard.spec]) (holds_cons spec_l01New.ok (holds_cons spec_l19Tree.ok (holds_cons spec_l33Guard.ok holds_nil))) (by kernel_rfl) H Go.Proofs.Try.func27 (by kernel_rfl) (rfl : Go.Proofs.Try.f27.body = some _) (by kernel_rfl) (by kernel_rfl) fun k x y h => Eq.trans (by kernel_rfl : _ = spec.fn k x) h
end spec_DrawGuard

namespace spec_DrawPlaces
def s0 (k : Nat) (rec0 : (List Int × Int × List Int × Int × Int) → Option (List Int)) (x0 : List Int) (x1 : Int) (x2 : List Int) (x3 : Int) (x4 : Int) : Option (List Int) := brB (iLt x1 12) (bnd (spec_l01Below.f k 10000 x2 x3 x4) fun (y3, y4, y5, y6) => chk (cLen (rLen (rApp x0 [y3])) 8) (rec0 (rApp x0 [y3], iAdd .i64 x1 1, y4, y5, y6))) (some x0)
def l0 (k n : Nat) (x0 : List Int) (x1 : Int) (x2 : List Int) (x3 : Int) (x4 : Int) : Option (List Int) := iter (fun (rec : (List Int × Int × List Int × Int × Int) → Option (List Int)) (x : List Int × Int × List Int × Int × Int) => s0 k rec x.1 x.2.1 x.2.2.1 x.2.2.2.1 x.2.2.2.2) n (x0, x1, x2, x3, x4)
def f (k : Nat) (a0 : List Int) : Option (List Int) := bnd (spec_l01New.f k a0) fun (y0, y1, y2) => l0 k k [] 0 y0 y1 y2
def sig : Sig := ⟨28, [.w false [.row (.int .u8)]], [(false, [.own I])]⟩
def H : Hints := ⟨[(4, ⟨⟨[(3, .ptr 103 0), (4, .w false 1), (5, .w false 1)], [(103, 3)]⟩, [3], [.own I, .val I, .val (.row (.int .u8)), .val I, .val I], []⟩)], [], [], []⟩
def spec : Spec := { sig := sig, fn := fun k (x : List Int) => f k x }
theorem ok : Holds Go.Proofs.Try.prog spec := holds_of_run (G := [spec_l01New.spec, spec_l01Below.spec]) (holds_cons spec_l01New.ok (holds_cons spec_l01Below.ok holds_nil)) (by kernel_rfl) H Go.Proofs.Try.func28 (by kernel_rfl) (rfl : Go.Proofs.Try.f28.body = some _) (by kernel_rfl) (by kernel_rfl) fun k x y h => Eq.trans (by kernel_rfl : _ = spec.fn k x) h
end spec_DrawPlaces

namespace slices_Clone_bool
def f (k : Nat) (a0 : List Bool) : Option (List Bool) := chk (cLen (rLen a0) 1) (some a0)
def sig : Sig := cloneSig 82 .bool
def spec : Spec := { sig := sig, fn := fun k (x : List Bool) => f k x }
theorem ok : Holds Go.Proofs.Try.prog spec := clone_holds (u := .bool) (t := 23) (by kernel_rfl) Go.Proofs.Try.func82 (by kernel_rfl) (rfl : Go.Proofs.Try.f82.body = some _) (by kernel_rfl) (by kernel_rfl) Go.Proofs.Try.underlying23 ⟨rfl, rfl, rfl⟩ ⟨rfl, rfl, rfl⟩ ⟨rfl, rfl, _, rfl⟩ (fun l => cLen (rLen l) 1) (fun k => by kernel_rfl) (fun k l => by kernel_rfl)
end slices_Clone_bool

namespace impl_within
def f (k : Nat) (a0 : Int) (a1 : Int) (a2 : Int) : Option (Bool) := brB (iLe a1 a0) (some (iLe a0 a2)) (some false)
def sig : Sig := ⟨71, [.w false [I], .w false [I], .w false [I]], [(false, [.val .bool])]⟩
def H : Hints := ⟨[], [], [], []⟩
def spec : Spec := { sig := sig, fn := fun k (x : Int × Int × Int) => f k x.1 x.2.1 x.2.2 }
theorem ok : Holds Go.Proofs.Try.prog spec := holds_of_run (G := []) holds_nil (by kernel_rfl) H Go.Proofs.Try.func71 (by kernel_rfl) (rfl : Go.Proofs.Try.f71.body = some _) (by kernel_rfl) (by kernel_rfl) fun k x y h => Eq.trans (by kernel_rfl : _ = spec.fn k x) h
end impl_within

namespace impl_TreeOk_1
def f (k : Nat) (a0_0 : Int) (a0_1 : Int) (a0_2 : Int) (a1_0 : Int) (a1_1 : Int) (a1_2 : Int) : Option (Bool × Int × Int × Int) := brB (iEq a0_0 a1_0) (some (iEq a0_1 a1_1, a1_0, a1_1, a1_2)) (some (false, a1_0, a1_1, a1_2))
def sig : Sig := ⟨81, [.w true [I, I, I], .ref [I, I, I]], [(false, [.val .bool])]⟩
def H : Hints := ⟨[], [], [], []⟩
def spec : Spec := { sig := sig, fn := fun k (x : Int × Int × Int × Int × Int × Int) => f k x.1 x.2.1 x.2.2.1 x.2.2.2.1 x.2.2.2.2.1 x.2.2.2.2.2 }
theorem ok : Holds Go.Proofs.Try.prog spec := holds_of_run (G := []) holds_nil (by kernel_rfl) H Go.Proofs.Try.func81 (by kernel_rfl) (rfl : Go.Proofs.Try.f81.body = some _) (by kernel_rfl) (by kernel_rfl) fun k x y h => Eq.trans (by kernel_rfl : _ = spec.fn k x) h
end impl_TreeOk_1

namespace slices_IndexFunc_Node_impl_TreeOk_1
def s0 (k : Nat) (rec0 : ((List (Int × Int × Int)) × Int × Int × Int × Int × Int) → Option (Int × Int × Int × Int)) (x0 : List (Int × Int × Int)) (x1 : Int) (x2 : Int) (x3 : Int) (x4 : Int) (x5 : Int) : Option (Int × Int × Int × Int) := brB (iLt x2 x1) (chk (cIdx x2 (rLen x0)) (bnd (impl_TreeOk_1.f k ((rGet (0, 0, 0) x0 x2).1) (((rGet (0, 0, 0) x0 x2).2).1) (((rGet (0, 0, 0) x0 x2).2).2) x3 x4 x5) fun (y0, y1, y2, y3) => brB y0 (some (x2, y1, y2, y3)) (rec0 (x0, x1, iAdd .i64 x2 1, y1, y2, y3)))) (some ((-1), x3, x4, x5))
def l0 (k n : Nat) (x0 : List (Int × Int × Int)) (x1 : Int) (x2 : Int) (x3 : Int) (x4 : Int) (x5 : Int) : Option (Int × Int × Int × Int) := iter (fun (rec : ((List (Int × Int × Int)) × Int × Int × Int × Int × Int) → Option (Int × Int × Int × Int)) (x : (List (Int × Int × Int)) × Int × Int × Int × Int × Int) => s0 k rec x.1 x.2.1 x.2.2.1 x.2.2.2.1 x.2.2.2.2.1 x.2.2.2.2.2) n (x0, x1, x2, x3, x4, x5)
def f (k : Nat) (a0 : List (Int × Int × Int)) (a1_0 : Int) (a1_1 : Int) (a1_2 : Int) : Option (Int × Int × Int × Int) := l0 k k a0 (rLen a0) 0 a1_0 a1_1 a1_2
def sig : Sig := ⟨97, [.w false [.row (.pair I (.pair I I))], .fnr 81 [I, I, I]], [(false, [.val I])]⟩
def H : Hints := ⟨[(2, ⟨⟨[(0, .w false 1), (1, .fnp 81 1 0), (7, .w false 1), (8, .w false 1)], [(1, 3)]⟩, [1], [.val (.row (.pair I (.pair I I))), .val I, .val I, .val I, .val I, .val I], []⟩)], [], [], []⟩
def spec : Spec := { sig := sig, fn := fun k (x : List (Int × Int × Int) × Int × Int × Int) => f k x.1 x.2.1 x.2.2.1 x.2.2.2 }
theorem ok : Holds Go.Proofs.Try.prog spec := holds_of_run (G := [impl_TreeOk_1.spec]) (holds_cons impl_TreeOk_1.ok holds_nil) (by kernel_rfl) H Go.Proofs.Try.func97 (by kernel_rfl) (rfl : Go.Proofs.Try.f97.body = some _) (by kernel_rfl) (by kernel_rfl) fun k x y h => Eq.trans (by kernel_rfl : _ = spec.fn k x) h
end slices_IndexFunc_Node_impl_TreeOk_1

namespace slices_ContainsFunc_Node_impl_TreeOk_1
def f (k : Nat) (a0 : List (Int × Int × Int)) (a1_0 : Int) (a1_1 : Int) (a1_2 : Int) : Option (Bool × Int × Int × Int) := bnd (slices_IndexFunc_Node_impl_TreeOk_1.f k a0 a1_0 a1_1 a1_2) fun (y0, y1, y2, y3) => some (iLe 0 y0, y1, y2, y3)
def sig : Sig := ⟨80, [.w false [.row (.pair I (.pair I I))], .fnr 81 [I, I, I]], [(false, [.val .bool])]⟩
def H : Hints := ⟨[], [], [], []⟩
def spec : Spec := { sig := sig, fn := fun k (x : List (Int × Int × Int) × Int × Int × Int) => f k x.1 x.2.1 x.2.2.1 x.2.2.2 }
theorem ok : Holds Go.Proofs.Try.prog spec := holds_of_run (G := [slices_IndexFunc_Node_impl_TreeOk_1.spec]) (holds_cons slices_IndexFunc_Node_impl_TreeOk_1.ok holds_nil) (by kernel_rfl) H Go.Proofs.Try.func80 (by kernel_rfl) (rfl : Go.Proofs.Try.f80.body = some _) (by kernel_rfl) (by kernel_rfl) fun k x y h => Eq.trans (by kernel_rfl : _ = spec.fn k x) h
end slices_ContainsFunc_Node_impl_TreeOk_1

namespace impl_TreeOk
def s0 (k : Nat) (rec0 : ((List (Int × Int × Int)) × (List (Int × Int × Int)) × Int × Int) → Option (Bool)) (x0 : List (Int × Int × Int)) (x1 : List (Int × Int × Int)) (x2 : Int) (x3 : Int) : Option (Bool) := brB (iLt x3 x2) (chk (cIdx x3 (rLen x1)) (chk (cSub 0 (iAdd .i64 x3 1) (rLen x0)) (bnd (impl_within.f k ((rGet (0, 0, 0) x1 x3).1) 0 x3) fun y1 => brB (bNot y1) (some false) (chk (cIdx ((rGet (0, 0, 0) x1 x3).1) (rLen (rSub x0 0 (iAdd .i64 x3 1)))) (brB (iNe (((rGet (0, 0, 0) (rSub x0 0 (iAdd .i64 x3 1)) ((rGet (0, 0, 0) x1 x3).1)).2).2) 0) (some false) (bnd (impl_within.f k (((rGet (0, 0, 0) x1 x3).2).1) 0 3) fun y2 => brB (bNot y2) (some false) (bnd (impl_within.f k (((rGet (0, 0, 0) x1 x3).2).2) 0 4) fun y3 => brB (bNot y3) (some false) (bnd (slices_ContainsFunc_Node_impl_TreeOk_1.f k (rSub x0 0 (iAdd .i64 x3 1)) ((rGet (0, 0, 0) x1 x3).1) (((rGet (0, 0, 0) x1 x3).2).1) (((rGet (0, 0, 0) x1 x3).2).2)) fun (y4, y5, y6, y7) => brB y4 (some false) (rec0 (x0, x1, x2, iAdd .i64 x3 1)))))))))) (some true)
def l0 (k n : Nat) (x0 : List (Int × Int × Int)) (x1 : List (Int × Int × Int)) (x2 : Int) (x3 : Int) : Option (Bool) := iter (fun (rec : ((List (Int × Int × Int)) × (List (Int × Int × Int)) × Int × Int) → Option (Bool)) (x : (List (Int × Int × Int)) × (List (Int × Int × Int)) × Int × Int) => s0 k rec x.1 x.2.1 x.2.2.1 x.2.2.2) n (x0, x1, x2, x3)
def f (k : Nat) (a0 : List (Int × Int × Int)) : Option (Bool) := bnd (impl_within.f k (rLen a0) 1 12) fun y0 => brB (bNot y0) (some false) (chk (cIdx 0 (rLen a0)) (brB (bNot (bAnd (iEq ((rGet (0, 0, 0) a0 0).1) (-1)) (bAnd (iEq (((rGet (0, 0, 0) a0 0).2).1) 0) (bAnd (iEq (((rGet (0, 0, 0) a0 0).2).2) 0) true)))) (some false) (chk (cSub 1 (rLen a0) (rLen a0)) (l0 k k a0 (rSub a0 1 (rLen a0)) (rLen (rSub a0 1 (rLen a0))) 0))))
def sig : Sig := ⟨52, [.w false [.row (.pair I (.pair I I))]], [(false, [.val .bool])]⟩
def H : Hints := ⟨[(4, ⟨⟨[(0, .w false 1), (18, .w false 1), (19, .w false 1), (20, .w false 1)], []⟩, [], [.val (.row (.pair I (.pair I I))), .val (.row (.pair I (.pair I I))), .val I, .val I], []⟩)], [], [], []⟩
def spec : Spec := { sig := sig, fn := fun k (x : List (Int × Int × Int)) => f k x }
theorem ok : Holds Go.Proofs.Try.prog spec := holds_of_run (G := [impl_within.spec, slices_ContainsFunc_Node_impl_TreeOk_1.spec]) (holds_cons impl_within.ok (holds_cons slices_ContainsFunc_Node_impl_TreeOk_1.ok holds_nil)) (by kernel_rfl) H Go.Proofs.Try.func52 (by kernel_rfl) (rfl : Go.Proofs.Try.f52.body = some _) (by kernel_rfl) (by kernel_rfl) fun k x y h => Eq.trans (by kernel_rfl : _ = spec.fn k x) h
end impl_TreeOk

namespace impl_GuardOk
def f (k : Nat) (a0 : List (Int × Int × Int)) (a1 : List Bool) : Option (Bool) := bnd (impl_TreeOk.f k a0) fun y0 => brB y0 (brB (iEq (rLen a1) (rLen a0)) (chk (cIdx 0 (rLen a1)) (some (rGet false a1 0))) (some false)) (some false)
def sig : Sig := ⟨16, [.w false [.row (.pair I (.pair I I))], .w true [.row .bool]], [(false, [.val .bool])]⟩
def H : Hints := ⟨[], [], [], []⟩
def spec : Spec := { sig := sig, fn := fun k (x : List (Int × Int × Int) × List Bool) => f k x.1 x.2 }
theorem ok : Holds Go.Proofs.Try.prog spec := holds_of_run (G := [impl_TreeOk.spec]) (holds_cons impl_TreeOk.ok holds_nil) (by kernel_rfl) H Go.Proofs.Try.func16 (by kernel_rfl) (rfl : Go.Proofs.Try.f16.body = some _) (by kernel_rfl) (by kernel_rfl) fun k x y h => Eq.trans (by kernel_rfl : _ = spec.fn k x) h
end impl_GuardOk

namespace impl_setNode
def f (k : Nat) (a0 : List (Int × Int × Int)) (a1 : List Bool) (a2 : Int) (a3 : Bool) : Option (List Bool × Bool) := bnd (slices_Clone_bool.f k a1) fun y0 => bnd (impl_GuardOk.f k a0 a1) fun y1 => brB (bNot y1) (some (y0, false)) (bnd (impl_within.f k a2 1 (iSub .i64 (rLen a0) 1)) fun y2 => brB (bNot y2) (some (y0, false)) (chk (cIdx a2 (rLen a1)) (brB (bEq (rGet false a1 a2) a3) (some (y0, false)) (chk (cIdx a2 (rLen y0)) (some (rSet y0 a2 a3, true))))))
def sig : Sig := ⟨56, [.w false [.row (.pair I (.pair I I))], .w true [.row .bool], .w false [I], .w false [.bool]], [(true, [.own .bool]), (false, [.val .bool])]⟩
def H : Hints := ⟨[], [], [], []⟩
def spec : Spec := { sig := sig, fn := fun k (x : List (Int × Int × Int) × List Bool × Int × Bool) => f k x.1 x.2.1 x.2.2.1 x.2.2.2 }
theorem ok : Holds Go.Proofs.Try.prog spec := holds_of_run (G := [slices_Clone_bool.spec, impl_within.spec, impl_GuardOk.spec]) (holds_cons slices_Clone_bool.ok (holds_cons impl_within.ok (holds_cons impl_GuardOk.ok holds_nil))) (by kernel_rfl) H Go.Proofs.Try.func56 (by kernel_rfl) (rfl : Go.Proofs.Try.f56.body = some _) (by kernel_rfl) (by kernel_rfl) fun k x y h => Eq.trans (by kernel_rfl : _ = spec.fn k x) h
end impl_setNode

namespace impl_CutNode
def f (k : Nat) (a0 : List (Int × Int × Int)) (a1 : List Bool) (a2 : Int) : Option (List Bool × Bool) := bnd (impl_setNode.f k a0 a1 a2 false) fun (y0, y1) => some (y0, y1)
def sig : Sig := ⟨20, [.w false [.row (.pair I (.pair I I))], .w true [.row .bool], .w false [I]], [(true, [.own .bool]), (false, [.val .bool])]⟩
def H : Hints := ⟨[], [], [], []⟩
def spec : Spec := { sig := sig, fn := fun k (x : List (Int × Int × Int) × List Bool × Int) => f k x.1 x.2.1 x.2.2 }
theorem ok : Holds Go.Proofs.Try.prog spec := holds_of_run (G := [impl_setNode.spec]) (holds_cons impl_setNode.ok holds_nil) (by kernel_rfl) H Go.Proofs.Try.func20 (by kernel_rfl) (rfl : Go.Proofs.Try.f20.body = some _) (by kernel_rfl) (by kernel_rfl) fun k x y h => Eq.trans (by kernel_rfl : _ = spec.fn k x) h
end impl_CutNode

namespace impl_isNode
def f (k : Nat) (a0 : List (Int × Int × Int)) (a1 : Int) : Option (Bool) := bnd (impl_TreeOk.f k a0) fun y0 => brB y0 (bnd (impl_within.f k a1 0 (iSub .i64 (rLen a0) 1)) fun y1 => some y1) (some false)
def sig : Sig := ⟨68, [.w false [.row (.pair I (.pair I I))], .w false [I]], [(false, [.val .bool])]⟩
def H : Hints := ⟨[], [], [], []⟩
def spec : Spec := { sig := sig, fn := fun k (x : List (Int × Int × Int) × Int) => f k x.1 x.2 }
theorem ok : Holds Go.Proofs.Try.prog spec := holds_of_run (G := [impl_within.spec, impl_TreeOk.spec]) (holds_cons impl_within.ok (holds_cons impl_TreeOk.ok holds_nil)) (by kernel_rfl) H Go.Proofs.Try.func68 (by kernel_rfl) (rfl : Go.Proofs.Try.f68.body = some _) (by kernel_rfl) (by kernel_rfl) fun k x y h => Eq.trans (by kernel_rfl : _ = spec.fn k x) h
end impl_isNode

namespace slices_Reverse_int
def s0 (k : Nat) (rec0 : (List Int × Int × Int) → Option (List Int)) (x0 : List Int) (x1 : Int) (x2 : Int) : Option (List Int) := brB (iLt x1 x2) (chk (cIdx x2 (rLen x0)) (chk (cIdx x1 (rLen x0)) (chk (cIdx x1 (rLen x0)) (chk (cIdx x2 (rLen (rSet x0 x1 (rGet 0 x0 x2)))) (rec0 (rSet (rSet x0 x1 (rGet 0 x0 x2)) x2 (rGet 0 x0 x1), iAdd .i64 x1 1, iSub .i64 x2 1)))))) (some x0)
def l0 (k n : Nat) (x0 : List Int) (x1 : Int) (x2 : Int) : Option (List Int) := iter (fun (rec : (List Int × Int × Int) → Option (List Int)) (x : List Int × Int × Int) => s0 k rec x.1 x.2.1 x.2.2) n (x0, x1, x2)
def f (k : Nat) (a0 : List Int) : Option (List Int) := l0 k k a0 0 (iSub .i64 (rLen a0) 1)
def sig : Sig := ⟨87, [.mut false [.row I]], []⟩
def H : Hints := ⟨[(1, ⟨⟨[(0, .w false 1), (2, .w false 1), (3, .w false 1)], []⟩, [], [.own I, .val I, .val I], [0]⟩)], [], [(3, [0, 0, 0, 0, 0, 0, 48, 112, 0, 0, 768, 1792, 4083, 8179, 16383, 32767])], []⟩
def spec : Spec := { sig := sig, fn := fun k (x : List Int) => f k x }
theorem ok : Holds Go.Proofs.Try.prog spec := holds_of_run (G := []) holds_nil (by kernel_rfl) H Go.Proofs.Try.func87 (by kernel_rfl) (rfl : Go.Proofs.Try.f87.body = some _) (by kernel_rfl) (by kernel_rfl) fun k x y h => Eq.trans (by kernel_rfl : _ = spec.fn k x) h
end slices_Reverse_int

namespace impl_PathTo
def s0 (k : Nat) (rec0 : ((List (Int × Int × Int)) × Int × List Int) → Option (List Int)) (x0 : List (Int × Int × Int)) (x1 : Int) (x2 : List Int) : Option (List Int) := brB (iLe 0 x1) (chk (cLen (rLen (rApp x2 [x1])) 8) (chk (cIdx x1 (rLen x0)) (rec0 (x0, (rGet (0, 0, 0) x0 x1).1, rApp x2 [x1])))) (bnd (slices_Reverse_int.f k x2) fun y1 => some y1)
def l0 (k n : Nat) (x0 : List (Int × Int × Int)) (x1 : Int) (x2 : List Int) : Option (List Int) := iter (fun (rec : ((List (Int × Int × Int)) × Int × List Int) → Option (List Int)) (x : (List (Int × Int × Int)) × Int × List Int) => s0 k rec x.1 x.2.1 x.2.2) n (x0, x1, x2)
def f (k : Nat) (a0 : List (Int × Int × Int)) (a1 : Int) : Option (List Int) := bnd (impl_isNode.f k a0 a1) fun y0 => brB (bNot y0) (some []) (l0 k k a0 a1 [])
def sig : Sig := ⟨64, [.w false [.row (.pair I (.pair I I))], .w false [I]], [(false, [.own I])]⟩
def H : Hints := ⟨[(4, ⟨⟨[(0, .w false 1), (1, .w false 1), (5, .w false 1)], []⟩, [], [.val (.row (.pair I (.pair I I))), .val I, .own I], []⟩)], [], [], []⟩
def spec : Spec := { sig := sig, fn := fun k (x : List (Int × Int × Int) × Int) => f k x.1 x.2 }
theorem ok : Holds Go.Proofs.Try.prog spec := holds_of_run (G := [impl_isNode.spec, slices_Reverse_int.spec]) (holds_cons impl_isNode.ok (holds_cons slices_Reverse_int.ok holds_nil)) (by kernel_rfl) H Go.Proofs.Try.func64 (by kernel_rfl) (rfl : Go.Proofs.Try.f64.body = some _) (by kernel_rfl) (by kernel_rfl) fun k x y h => Eq.trans (by kernel_rfl : _ = spec.fn k x) h
end impl_PathTo

namespace slices_Clone_int
def f (k : Nat) (a0 : List Int) : Option (List Int) := chk (cLen (rLen a0) 8) (some a0)
def sig : Sig := cloneSig 89 I
def spec : Spec := { sig := sig, fn := fun k (x : List Int) => f k x }
theorem ok : Holds Go.Proofs.Try.prog spec := clone_holds (u := I) (t := 45) (by kernel_rfl) Go.Proofs.Try.func89 (by kernel_rfl) (rfl : Go.Proofs.Try.f89.body = some _) (by kernel_rfl) (by kernel_rfl) Go.Proofs.Try.underlying45 ⟨rfl, rfl, rfl⟩ ⟨rfl, rfl, rfl⟩ ⟨rfl, rfl, _, rfl⟩ (fun l => cLen (rLen l) 8) (fun k => by kernel_rfl) (fun k l => by kernel_rfl)
end slices_Clone_int

namespace impl_PathBetween
def s0 (k : Nat) (rec0 : (List Int × List Int × Int) → Option (List Int)) (x0 : List Int) (x1 : List Int) (x2 : Int) : Option (List Int) := brB (iLt x2 (iMin (rLen x0) (rLen x1))) (chk (cIdx x2 (rLen x0)) (chk (cIdx x2 (rLen x1)) (brB (iEq (rGet 0 x0 x2) (rGet 0 x1 x2)) (rec0 (x0, x1, iAdd .i64 x2 1)) (chk (cSub (iSub .i64 x2 1) (rLen x0) (rLen x0)) (bnd (slices_Clone_int.f k (rSub x0 (iSub .i64 x2 1) (rLen x0))) fun y4 => bnd (slices_Reverse_int.f k y4) fun y5 => chk (cSub x2 (rLen x1) (rLen x1)) (chk (cLen (rLen (rApp y5 (rSub x1 x2 (rLen x1)))) 8) (some (rApp y5 (rSub x1 x2 (rLen x1)))))))))) (chk (cSub (iSub .i64 x2 1) (rLen x0) (rLen x0)) (bnd (slices_Clone_int.f k (rSub x0 (iSub .i64 x2 1) (rLen x0))) fun y6 => bnd (slices_Reverse_int.f k y6) fun y7 => chk (cSub x2 (rLen x1) (rLen x1)) (chk (cLen (rLen (rApp y7 (rSub x1 x2 (rLen x1)))) 8) (some (rApp y7 (rSub x1 x2 (rLen x1)))))))
def l0 (k n : Nat) (x0 : List Int) (x1 : List Int) (x2 : Int) : Option (List Int) := iter (fun (rec : (List Int × List Int × Int) → Option (List Int)) (x : List Int × List Int × Int) => s0 k rec x.1 x.2.1 x.2.2) n (x0, x1, x2)
def f (k : Nat) (a0 : List (Int × Int × Int)) (a1 : Int) (a2 : Int) : Option (List Int) := bnd (impl_isNode.f k a0 a1) fun y0 => brB (bNot y0) (some []) (bnd (impl_isNode.f k a0 a2) fun y1 => brB (bNot y1) (some []) (bnd (impl_PathTo.f k a0 a1) fun y2 => bnd (impl_PathTo.f k a0 a2) fun y3 => l0 k k y2 y3 0))
def sig : Sig := ⟨66, [.w false [.row (.pair I (.pair I I))], .w false [I], .w false [I]], [(false, [.own I])]⟩
def H : Hints := ⟨[(5, ⟨⟨[(7, .w false 1), (8, .w false 1), (9, .w false 1)], []⟩, [], [.own I, .own I, .val I], []⟩)], [], [(5, [0, 0, 2, 0, 8, 30, 63, 127, 255, 255, 1023, 2047, 255, 255, 12543, 28927, 65535, 131071])], []⟩
def spec : Spec := { sig := sig, fn := fun k (x : List (Int × Int × Int) × Int × Int) => f k x.1 x.2.1 x.2.2 }
theorem ok : Holds Go.Proofs.Try.prog spec := holds_of_run (G := [impl_isNode.spec, slices_Reverse_int.spec, impl_PathTo.spec, slices_Clone_int.spec]) (holds_cons impl_isNode.ok (holds_cons slices_Reverse_int.ok (holds_cons impl_PathTo.ok (holds_cons slices_Clone_int.ok holds_nil)))) (by kernel_rfl) H Go.Proofs.Try.func66 (by kernel_rfl) (rfl : Go.Proofs.Try.f66.body = some _) (by kernel_rfl) (by kernel_rfl) fun k x y h => Eq.trans (by kernel_rfl : _ = spec.fn k x) h
end impl_PathBetween

namespace impl_CanReach
def s0 (k : Nat) (rec0 : ((List (Int × Int × Int)) × List Int × Int × List Bool) → Option (Bool)) (x0 : List (Int × Int × Int)) (x1 : List Int) (x2 : Int) (x3 : List Bool) : Option (Bool) := brB (iLt x2 (rLen x1)) (chk (cIdx x2 (rLen x1)) (chk (cIdx (iSub .i64 x2 1) (rLen x1)) (chk (cIdx (rGet 0 x1 (iSub .i64 x2 1)) (rLen x0)) (chk (cIdx x2 (rLen x1)) (brB (iEq ((rGet (0, 0, 0) x0 (rGet 0 x1 (iSub .i64 x2 1))).1) (rGet 0 x1 x2)) (chk (cIdx (iSub .i64 x2 1) (rLen x1)) (chk (cIdx (rGet 0 x1 (iSub .i64 x2 1)) (rLen x3)) (brB (bNot (rGet false x3 (rGet 0 x1 (iSub .i64 x2 1)))) (some false) (rec0 (x0, x1, iAdd .i64 x2 1, x3))))) (chk (cIdx (rGet 0 x1 x2) (rLen x3)) (brB (bNot (rGet false x3 (rGet 0 x1 x2))) (some false) (rec0 (x0, x1, iAdd .i64 x2 1, x3))))))))) (some true)
def l0 (k n : Nat) (x0 : List (Int × Int × Int)) (x1 : List Int) (x2 : Int) (x3 : List Bool) : Option (Bool) := iter (fun (rec : ((List (Int × Int × Int)) × List Int × Int × List Bool) → Option (Bool)) (x : (List (Int × Int × Int)) × List Int × Int × List Bool) => s0 k rec x.1 x.2.1 x.2.2.1 x.2.2.2) n (x0, x1, x2, x3)
def f (k : Nat) (a0 : List (Int × Int × Int)) (a1 : List Bool) (a2 : Int) (a3 : Int) : Option (Bool) := bnd (impl_PathBetween.f k a0 a2 a3) fun y0 => bnd (impl_GuardOk.f k a0 a1) fun y1 => brB (bNot y1) (some false) (brB (iEq (rLen y0) 0) (some false) (l0 k k a0 y0 1 a1))
def sig : Sig := ⟨33, [.w false [.row (.pair I (.pair I I))], .w true [.row .bool], .w false [I], .w false [I]], [(false, [.val .bool])]⟩
def H : Hints := ⟨[(5, ⟨⟨[(0, .w false 1), (5, .ptr 105 0), (9, .w false 1), (10, .w false 1)], [(105, 1)]⟩, [5], [.val (.row (.pair I (.pair I I))), .own I, .val I, .val (.row .bool)], []⟩)], [], [(8, [0, 0, 0, 4, 14, 30, 63, 127, 255, 0, 0, 1536, 3584, 8191])], []⟩
def spec : Spec := { sig := sig, fn := fun k (x : List (Int × Int × Int) × List Bool × Int × Int) => f k x.1 x.2.1 x.2.2.1 x.2.2.2 }
theorem ok : Holds Go.Proofs.Try.prog spec := holds_of_run (G := [impl_GuardOk.spec, impl_PathBetween.spec]) (holds_cons impl_GuardOk.ok (holds_cons impl_PathBetween.ok holds_nil)) (by kernel_rfl) H Go.Proofs.Try.func33 (by kernel_rfl) (rfl : Go.Proofs.Try.f33.body = some _) (by kernel_rfl) (by kernel_rfl) fun k x y h => Eq.trans (by kernel_rfl : _ = spec.fn k x) h
end impl_CanReach

namespace impl_CutOff
def s0 (k : Nat) (rec0 : ((List (Int × Int × Int)) × List Int × Int × Int × List Bool) → Option (List Int)) (x0 : List (Int × Int × Int)) (x1 : List Int) (x2 : Int) (x3 : Int) (x4 : List Bool) : Option (List Int) := brB (iLt x3 x2) (bnd (impl_CanReach.f k x0 x4 0 x3) fun y1 => brB (bNot y1) (chk (cLen (rLen (rApp x1 [x3])) 8) (rec0 (x0, rApp x1 [x3], x2, iAdd .i64 x3 1, x4))) (rec0 (x0, x1, x2, iAdd .i64 x3 1, x4))) (some x1)
def l0 (k n : Nat) (x0 : List (Int × Int × Int)) (x1 : List Int) (x2 : Int) (x3 : Int) (x4 : List Bool) : Option (List Int) := iter (fun (rec : ((List (Int × Int × Int)) × List Int × Int × Int × List Bool) → Option (List Int)) (x : (List (Int × Int × Int)) × List Int × Int × Int × List Bool) => s0 k rec x.1 x.2.1 x.2.2.1 x.2.2.2.1 x.2.2.2.2) n (x0, x1, x2, x3, x4)
def f (k : Nat) (a0 : List (Int × Int × Int)) (a1 : List Bool) : Option (List Int) := bnd (impl_GuardOk.f k a0 a1) fun y0 => brB (bNot y0) (some []) (l0 k k a0 [] (rLen a0) 0 a1)
def sig : Sig := ⟨29, [.w false [.row (.pair I (.pair I I))], .w true [.row .bool]], [(false, [.own I])]⟩
def H : Hints := ⟨[(5, ⟨⟨[(0, .w false 1), (3, .ptr 103 0), (5, .w false 1), (14, .w false 1), (15, .w false 1)], [(103, 1)]⟩, [3], [.val (.row (.pair I (.pair I I))), .own I, .val I, .val I, .val (.row .bool)], []⟩)], [], [], []⟩
def spec : Spec := { sig := sig, fn := fun k (x : List (Int × Int × Int) × List Bool) => f k x.1 x.2 }
theorem ok : Holds Go.Proofs.Try.prog spec := holds_of_run (G := [impl_GuardOk.spec, impl_CanReach.spec]) (holds_cons impl_GuardOk.ok (holds_cons impl_CanReach.ok holds_nil)) (by kernel_rfl) H Go.Proofs.Try.func29 (by kernel_rfl) (rfl : Go.Proofs.Try.f29.body = some _) (by kernel_rfl) (by kernel_rfl) fun k x y h => Eq.trans (by kernel_rfl : _ = spec.fn k x) h
end impl_CutOff

namespace laws_has
def s0 (k : Nat) (rec0 : (List Int × Int × Int) → Option (Bool)) (x0 : List Int) (x1 : Int) (x2 : Int) : Option (Bool) := brB (iLt x2 (rLen x0)) (chk (cIdx x2 (rLen x0)) (brB (iEq (rGet 0 x0 x2) x1) (some true) (rec0 (x0, x1, iAdd .i64 x2 1)))) (some false)
def l0 (k n : Nat) (x0 : List Int) (x1 : Int) (x2 : Int) : Option (Bool) := iter (fun (rec : (List Int × Int × Int) → Option (Bool)) (x : List Int × Int × Int) => s0 k rec x.1 x.2.1 x.2.2) n (x0, x1, x2)
def f (k : Nat) (a0 : List Int) (a1 : Int) : Option (Bool) := l0 k k a0 a1 0
def sig : Sig := ⟨30, [.w false [.row I], .w false [I]], [(false, [.val .bool])]⟩
def H : Hints := ⟨[(2, ⟨⟨[(0, .w false 1), (1, .w false 1), (5, .w false 1)], []⟩, [], [.val (.row I), .val I, .val I], []⟩)], [], [], []⟩
def spec : Spec := { sig := sig, fn := fun k (x : List Int × Int) => f k x.1 x.2 }
theorem ok : Holds Go.Proofs.Try.prog spec := holds_of_run (G := []) holds_nil (by kernel_rfl) H Go.Proofs.Try.func30 (by kernel_rfl) (rfl : Go.Proofs.Try.f30.body = some _) (by kernel_rfl) (by kernel_rfl) fun k x y h => Eq.trans (by kernel_rfl : _ = spec.fn k x) h
end laws_has

namespace slices_Index_int
def s0 (k : Nat) (rec0 : (List Int × Int × Int × Int) → Option (Int)) (x0 : List Int) (x1 : Int) (x2 : Int) (x3 : Int) : Option (Int) := brB (iLt x3 x2) (chk (cIdx x3 (rLen x0)) (brB (iEq x1 (rGet 0 x0 x3)) (some x3) (rec0 (x0, x1, x2, iAdd .i64 x3 1)))) (some (-1))
def l0 (k n : Nat) (x0 : List Int) (x1 : Int) (x2 : Int) (x3 : Int) : Option (Int) := iter (fun (rec : (List Int × Int × Int × Int) → Option (Int)) (x : List Int × Int × Int × Int) => s0 k rec x.1 x.2.1 x.2.2.1 x.2.2.2) n (x0, x1, x2, x3)
def f (k : Nat) (a0 : List Int) (a1 : Int) : Option (Int) := l0 k k a0 a1 (rLen a0) 0
def sig : Sig := ⟨86, [.w false [.row I], .w false [I]], [(false, [.val I])]⟩
def H : Hints := ⟨[(2, ⟨⟨[(0, .w false 1), (1, .w false 1), (7, .w false 1), (8, .w false 1)], []⟩, [], [.val (.row I), .val I, .val I, .val I], []⟩)], [], [], []⟩
def spec : Spec := { sig := sig, fn := fun k (x : List Int × Int) => f k x.1 x.2 }
theorem ok : Holds Go.Proofs.Try.prog spec := holds_of_run (G := []) holds_nil (by kernel_rfl) H Go.Proofs.Try.func86 (by kernel_rfl) (rfl : Go.Proofs.Try.f86.body = some _) (by kernel_rfl) (by kernel_rfl) fun k x y h => Eq.trans (by kernel_rfl : _ = spec.fn k x) h
end slices_Index_int

namespace slices_Contains_int
def f (k : Nat) (a0 : List Int) (a1 : Int) : Option (Bool) := bnd (slices_Index_int.f k a0 a1) fun y0 => some (iLe 0 y0)
def sig : Sig := ⟨63, [.w false [.row I], .w false [I]], [(false, [.val .bool])]⟩
def H : Hints := ⟨[], [], [], []⟩
def spec : Spec := { sig := sig, fn := fun k (x : List Int × Int) => f k x.1 x.2 }
theorem ok : Holds Go.Proofs.Try.prog spec := holds_of_run (G := [slices_Index_int.spec]) (holds_cons slices_Index_int.ok holds_nil) (by kernel_rfl) H Go.Proofs.Try.func63 (by kernel_rfl) (rfl : Go.Proofs.Try.f63.body = some _) (by kernel_rfl) (by kernel_rfl) fun k x y h => Eq.trans (by kernel_rfl : _ = spec.fn k x) h
end slices_Contains_int

namespace impl_IsBelow
def f (k : Nat) (a0 : List (Int × Int × Int)) (a1 : Int) (a2 : Int) : Option (Bool) := bnd (impl_PathTo.f k a0 a1) fun y0 => bnd (slices_Contains_int.f k y0 a2) fun y1 => some y1
def sig : Sig := ⟨31, [.w false [.row (.pair I (.pair I I))], .w false [I], .w false [I]], [(false, [.val .bool])]⟩
def H : Hints := ⟨[], [], [], []⟩
def spec : Spec := { sig := sig, fn := fun k (x : List (Int × Int × Int) × Int × Int) => f k x.1 x.2.1 x.2.2 }
theorem ok : Holds Go.Proofs.Try.prog spec := holds_of_run (G := [impl_PathTo.spec, slices_Contains_int.spec]) (holds_cons impl_PathTo.ok (holds_cons slices_Contains_int.ok holds_nil)) (by kernel_rfl) H Go.Proofs.Try.func31 (by kernel_rfl) (rfl : Go.Proofs.Try.f31.body = some _) (by kernel_rfl) (by kernel_rfl) fun k x y h => Eq.trans (by kernel_rfl : _ = spec.fn k x) h
end impl_IsBelow

namespace impl_OpenNode
def f (k : Nat) (a0 : List (Int × Int × Int)) (a1 : List Bool) (a2 : Int) : Option (List Bool × Bool) := bnd (impl_setNode.f k a0 a1 a2 true) fun (y0, y1) => some (y0, y1)
def sig : Sig := ⟨25, [.w false [.row (.pair I (.pair I I))], .w true [.row .bool], .w false [I]], [(true, [.own .bool]), (false, [.val .bool])]⟩
def H : Hints := ⟨[], [], [], []⟩
def spec : Spec := { sig := sig, fn := fun k (x : List (Int × Int × Int) × List Bool × Int) => f k x.1 x.2.1 x.2.2 }
theorem ok : Holds Go.Proofs.Try.prog spec := holds_of_run (G := [impl_setNode.spec]) (holds_cons impl_setNode.ok holds_nil) (by kernel_rfl) H Go.Proofs.Try.func25 (by kernel_rfl) (rfl : Go.Proofs.Try.f25.body = some _) (by kernel_rfl) (by kernel_rfl) fun k x y h => Eq.trans (by kernel_rfl : _ = spec.fn k x) h
end impl_OpenNode

namespace laws_FnGuards
def s1 (k : Nat) (rec1 : ((List (Int × Int × Int)) × Int × Bool × List Int × Int × List Bool × List Bool × List Bool) → Option (Bool)) (x5 : List (Int × Int × Int)) (x6 : Int) (x7 : Bool) (x8 : List Int) (x9 : Int) (x10 : List Bool) (x11 : List Bool) (x12 : List Bool) : Option (Bool) := brB (iLt x9 (rLen x5)) (bnd (laws_has.f k x8 x9) fun y7 => bnd (impl_IsBelow.f k x5 x9 x6) fun y8 => brB (bNe y7 y8) (some false) (rec1 (x5, x6, x7, x8, iAdd .i64 x9 1, x10, x11, x12))) (bnd (impl_OpenNode.f k x5 x12 x6) fun (y9, y10) => bnd (impl_GuardOk.f k x5 x10) fun y11 => brB y11 (brB x7 (brB y10 (bnd (impl_CutOff.f k x5 x11) fun y12 => brB (iEq (rLen y12) 0) (bnd (impl_CutOff.f k x5 y9) fun y13 => some (iEq (rLen y13) 0)) (some false)) (some false)) (some false)) (some false))
def l1 (k n : Nat) (x5 : List (Int × Int × Int)) (x6 : Int) (x7 : Bool) (x8 : List Int) (x9 : Int) (x10 : List Bool) (x11 : List Bool) (x12 : List Bool) : Option (Bool) := iter (fun (rec : ((List (Int × Int × Int)) × Int × Bool × List Int × Int × List Bool × List Bool × List Bool) → Option (Bool)) (x : (List (Int × Int × Int)) × Int × Bool × List Int × Int × List Bool × List Bool × List Bool) => s1 k rec x.1 x.2.1 x.2.2.1 x.2.2.2.1 x.2.2.2.2.1 x.2.2.2.2.2.1 x.2.2.2.2.2.2.1 x.2.2.2.2.2.2.2) n (x5, x6, x7, x8, x9, x10, x11, x12)
def s0 (k : Nat) (rec0 : ((List (Int × Int × Int)) × Int × Int × List Bool × List Bool) → Option (Bool)) (x0 : List (Int × Int × Int)) (x1 : Int) (x2 : Int) (x3 : List Bool) (x4 : List Bool) : Option (Bool) := brB (iLt x2 (rLen x0)) (chk (cLen (rLen (rApp x4 [true])) 1) (rec0 (x0, x1, iAdd .i64 x2 1, x3, rApp x4 [true]))) (bnd (impl_CutNode.f k x0 x4 x1) fun (y4, y5) => bnd (impl_CutOff.f k x0 y4) fun y6 => l1 k k x0 x1 y5 y6 0 x3 x4 y4)
def l0 (k n : Nat) (x0 : List (Int × Int × Int)) (x1 : Int) (x2 : Int) (x3 : List Bool) (x4 : List Bool) : Option (Bool) := iter (fun (rec : ((List (Int × Int × Int)) × Int × Int × List Bool × List Bool) → Option (Bool)) (x : (List (Int × Int × Int)) × Int × Int × List Bool × List Bool) => s0 k rec x.1 x.2.1 x.2.2.1 x.2.2.2.1 x.2.2.2.2) n (x0, x1, x2, x3, x4)
def f (k : Nat) (a0 : List Int) : Option (Bool) := bnd (laws_big.f k a0) fun y0 => brB y0 (some true) (bnd (spec_DrawGuard.f k a0) fun (y1, y2) => bnd (spec_DrawPlaces.f k a0) fun y3 => brB (iLt (rLen y1) 2) (some true) (chk (cIdx 0 (rLen y3)) (chk (cNz (iSub .i64 (rLen y1) 1)) (l0 k k y1 (iAdd .i64 1 (iRem (rGet 0 y3 0) (iSub .i64 (rLen y1) 1))) 0 y2 []))))
def sig : Sig := ⟨6, [.w false [.row (.int .u8)]], [(false, [.val .bool])]⟩
def H : Hints := ⟨[(10, ⟨⟨[(3, .w false 1), (4, .ptr 104 0), (6, .w false 1), (7, .ptr 107 0), (8, .w false 1)], [(104, 1), (107, 1)]⟩, [4, 7], [.val (.row (.pair I (.pair I I))), .val I, .val I, .own .bool, .own .bool], []⟩), (16, ⟨⟨[(3, .w false 1), (4, .ptr 104 0), (6, .w false 1), (7, .ptr 107 0), (9, .ptr 109 0), (10, .w false 1), (11, .w false 1), (12, .w false 1)], [(104, 1), (107, 1), (109, 1)]⟩, [4, 7, 9], [.val (.row (.pair I (.pair I I))), .val I, .val .bool, .own I, .val I, .own .bool, .own .bool, .own .bool], []⟩)], [], [], []⟩
def spec : Spec := { sig := sig, fn := fun k (x : List Int) => f k x }
theorem ok : Holds Go.Proofs.Try.prog spec := holds_of_run (G := [laws_big.spec, spec_DrawGuard.spec, spec_DrawPlaces.spec, impl_GuardOk.spec, impl_CutNode.spec, impl_CutOff.spec, laws_has.spec, impl_IsBelow.spec, impl_OpenNode.spec]) (holds_cons laws_big.ok (holds_cons spec_DrawGuard.ok (holds_cons spec_DrawPlaces.ok (holds_cons impl_GuardOk.ok (holds_cons impl_CutNode.ok (holds_cons impl_CutOff.ok (holds_cons laws_has.ok (holds_cons impl_IsBelow.ok (holds_cons impl_OpenNode.ok holds_nil))))))))) (by kernel_rfl) H Go.Proofs.Try.func6 (by kernel_rfl) (rfl : Go.Proofs.Try.f6.body = some _) (by kernel_rfl) (by kernel_rfl) fun k x y h => Eq.trans (by kernel_rfl : _ = spec.fn k x) h
end laws_FnGuards

end
end Go.Proofs.YtknaadbgljjpiaaT
