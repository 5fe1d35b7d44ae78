/- The functions of the program, as they compute: printed by a program of the session (wip/gen), each with its contract. -/
import Derived.Test.YtknaadbgljjpiaaProg
import Derived.Test.YtknaadbgljjpiaaTiAI
set_option linter.unusedVariables false
set_option maxRecDepth 100000
namespace Go.Proofs.YtknaadbgljjpiaaT
open Go
abbrev I : Ty := .int .i64
noncomputable section
namespace laws_big
def f (k : Nat) (a0 : List Int) : Option (Bool) := some (iLt 1048576 (rLen a0))
def sig : Sig := ⟨26, [.w false [.row (.int .u8)]], [(false, [.val .bool])]⟩
def H : Hints := ⟨[], [], [], []⟩
def spec : Spec := { sig := sig, fn := fun k (x : List Int) => f k x }
theorem ok : Holds Go.Proofs.Try.prog spec := holds_of_run (G := []) holds_nil (by kernel_rfl) H Go.Proofs.Try.func26 (by kernel_rfl) (rfl : Go.Proofs.Try.f26.body = some _) (by kernel_rfl) (by kernel_rfl) fun k x y h => Eq.trans (by kernel_rfl : _ = spec.fn k x) h
end laws_big

namespace spec_l01New
def s0 (k : Nat) (rec0 : (List Int × Int × Int) → Option (List Int × Int × Int)) (x0 : List Int) (x1 : Int) (x2 : Int) : Option (List Int × Int × Int) := brB (iLt x2 (rLen x0)) (brB (iLt x2 4000) (chk (cIdx x2 (rLen x0)) (rec0 (x0, iBit .and .i64 (iAdd .i64 (iAdd .i64 (iMul .i64 x1 131) (iCnv .i64 (rGet 0 x0 x2))) 7) 1073741823, iAdd .i64 x2 1))) (some (x0, 0, x1))) (some (x0, 0, x1))
def l0 (k n : Nat) (x0 : List Int) (x1 : Int) (x2 : Int) : Option (List Int × Int × Int) := iter (fun (rec : (List Int × Int × Int) → Option (List Int × Int × Int)) (x : List Int × Int × Int) => s0 k rec x.1 x.2.1 x.2.2) n (x0, x1, x2)
def f (k : Nat) (a0 : List Int) : Option (List Int × Int × Int) := l0 k k a0 (iAdd .i64 98663 (rLen a0)) 0
def sig : Sig := ⟨59, [.w false [.row (.int .u8)]], [(true, [.val (.row (.int .u8)), .val I, .val I])]⟩
def H : Hints := ⟨[(3, ⟨⟨[(0, .w false 1), (3, .w false 1), (4, .w false 1)], []⟩, [], [.val (.row (.int .u8)), .val I, .val I], []⟩)], [], [], []⟩
def spec : Spec := { sig := sig, fn := fun k (x : List Int) => f k x, boxed := true }
theorem ok : Holds Go.Proofs.Try.prog spec := holds_of_box rfl (G := []) holds_nil (by kernel_rfl) H Go.Proofs.Try.func59 (by kernel_rfl) (rfl : Go.Proofs.Try.f59.body = some _) (by kernel_rfl) (by kernel_rfl) (by kernel_rfl) fun k x y h => Eq.trans (by kernel_rfl : _ = spec.fn k x) h
end spec_l01New

namespace spec_l01Byte
def f (k : Nat) (a0_0 : List Int) (a0_1 : Int) (a0_2 : Int) : Option (Int × List Int × Int × Int) := chk (cNn 33) (chk (cNn 45) (brB (iLt a0_1 (rLen a0_0)) (chk (cIdx a0_1 (rLen a0_0)) (some (iBit .and .i64 (iAdd .i64 (iBit .and .i64 (iBit .xor .i64 (iShr .i64 (iAdd .i64 (iMul .i64 a0_2 6364136223846793005) 1442695040888963407) 33) (iShr .i64 (iAdd .i64 (iMul .i64 a0_2 6364136223846793005) 1442695040888963407) 45)) 255) (iCnv .i64 (rGet 0 a0_0 a0_1))) 255, a0_0, iAdd .i64 a0_1 1, iAdd .i64 (iMul .i64 a0_2 6364136223846793005) 1442695040888963407))) (some (iBit .and .i64 (iBit .xor .i64 (iShr .i64 (iAdd .i64 (iMul .i64 a0_2 6364136223846793005) 1442695040888963407) 33) (iShr .i64 (iAdd .i64 (iMul .i64 a0_2 6364136223846793005) 1442695040888963407) 45)) 255, a0_0, a0_1, iAdd .i64 (iMul .i64 a0_2 6364136223846793005) 1442695040888963407))))
def sig : Sig := ⟨85, [.ref [.row (.int .u8), I, I]], [(false, [.val I])]⟩
def H : Hints := ⟨[], [], [(2, [0, 1, 3, 7, 15, 0, 32, 96, 224, 480, 1023, 2047, 4095]), (3, [0, 1, 3, 7, 0, 16, 48, 112, 240, 511]), (4, [0, 0, 2, 6, 14, 0, 32, 96, 224, 510, 1022, 2046, 4095, 8191, 16383])], []⟩
def spec : Spec := { sig := sig, fn := fun k (x : List Int × Int × Int) => f k x.1 x.2.1 x.2.2 }
theorem ok : Holds Go.Proofs.Try.prog spec := holds_of_run (G := []) holds_nil (by kernel_rfl) H Go.Proofs.Try.func85 (by kernel_rfl) (rfl : Go.Proofs.Try.f85.body = some _) (by kernel_rfl) (by kernel_rfl) fun k x y h => Eq.trans (by kernel_rfl : _ = spec.fn k x) h
end spec_l01Byte

namespace spec_l01Below
def f (k : Nat) (a1 : Int) (a0_0 : List Int) (a0_1 : Int) (a0_2 : Int) : Option (Int × List Int × Int × Int) := brB (iLe a1 0) (some (0, a0_0, a0_1, a0_2)) (brB (iLe a1 256) (bnd (spec_l01Byte.f k a0_0 a0_1 a0_2) fun (y0, y1, y2, y3) => chk (cNz a1) (some (iRem y0 a1, y1, y2, y3))) (bnd (spec_l01Byte.f k a0_0 a0_1 a0_2) fun (y4, y5, y6, y7) => bnd (spec_l01Byte.f k y5 y6 y7) fun (y8, y9, y10, y11) => bnd (spec_l01Byte.f k y9 y10 y11) fun (y12, y13, y14, y15) => bnd (spec_l01Byte.f k y13 y14 y15) fun (y16, y17, y18, y19) => chk (cNz a1) (some (iRem (iAdd .i64 (iAdd .i64 (iAdd .i64 (iMul .i64 y4 16777216) (iMul .i64 y8 65536)) (iMul .i64 y12 256)) y16) a1, y17, y18, y19))))
def sig : Sig := ⟨62, [.ref [.row (.int .u8), I, I], .w false [I]], [(false, [.val I])]⟩
def H : Hints := ⟨[], [], [], []⟩
def spec : Spec := { sig := sig, fn := fun k (x : Int × List Int × Int × Int) => f k x.1 x.2.1 x.2.2.1 x.2.2.2 }
theorem ok : Holds Go.Proofs.Try.prog spec := holds_of_run (G := [spec_l01Byte.spec]) (holds_cons spec_l01Byte.ok holds_nil) (by kernel_rfl) H Go.Proofs.Try.func62 (by kernel_rfl) (rfl : Go.Proofs.Try.f62.body = some _) (by kernel_rfl) (by kernel_rfl) fun k x y h => Eq.trans (by kernel_rfl : _ = spec.fn k x) h
end spec_l01Below

namespace spec_l01PickInt
def f (k : Nat) (a1 : List Int) (a0_0 : List Int) (a0_1 : Int) (a0_2 : Int) : Option (Int × List Int × Int × Int) := bnd (spec_l01Below.f k (rLen a1) a0_0 a0_1 a0_2) fun (y0, y1, y2, y3) => chk (cIdx y0 (rLen a1)) (some (rGet 0 a1 y0, y1, y2, y3))
def sig : Sig := ⟨83, [.ref [.row (.int .u8), I, I], .w false [.row I]], [(false, [.val I])]⟩
def H : Hints := ⟨[], [], [], []⟩
def spec : Spec := { sig := sig, fn := fun k (x : List Int × List Int × Int × Int) => f k x.1 x.2.1 x.2.2.1 x.2.2.2 }
theorem ok : Holds Go.Proofs.Try.prog spec := holds_of_run (G := [spec_l01Below.spec]) (holds_cons spec_l01Below.ok holds_nil) (by kernel_rfl) H Go.Proofs.Try.func83 (by kernel_rfl) (rfl : Go.Proofs.Try.f83.body = some _) (by kernel_rfl) (by kernel_rfl) fun k x y h => Eq.trans (by kernel_rfl : _ = spec.fn k x) h
end spec_l01PickInt

namespace spec_l01In
def f (k : Nat) (a0 : Int) (a1 : Int) (a2 : Int) : Option (Bool) := brB (iLe a1 a0) (some (iLe a0 a2)) (some false)
def sig : Sig := ⟨77, [.w false [I], .w false [I], .w false [I]], [(false, [.val .bool])]⟩
def H : Hints := ⟨[], [], [], []⟩
def spec : Spec := { sig := sig, fn := fun k (x : Int × Int × Int) => f k x.1 x.2.1 x.2.2 }
theorem ok : Holds Go.Proofs.Try.prog spec := holds_of_run (G := []) holds_nil (by kernel_rfl) H Go.Proofs.Try.func77 (by kernel_rfl) (rfl : Go.Proofs.Try.f77.body = some _) (by kernel_rfl) (by kernel_rfl) fun k x y h => Eq.trans (by kernel_rfl : _ = spec.fn k x) h
end spec_l01In

namespace spec_TreeOk
def s1 (k : Nat) (rec0 : ((List (Int × Int × Int)) × Int) → Option (Bool)) (rec1 : ((List (Int × Int × Int)) × Int × Int × Int × Int × Int) → Option (Bool)) (x2 : List (Int × Int × Int)) (x3 : Int) (x4 : Int) (x5 : Int) (x6 : Int) (x7 : Int) : Option (Bool) := brB (iLt x4 x3) (chk (cIdx x4 (rLen x2)) (brB (iEq ((rGet (0, 0, 0) x2 x4).1) x5) (chk (cIdx x4 (rLen x2)) (brB (iEq (((rGet (0, 0, 0) x2 x4).2).1) x6) (some false) (rec1 (x2, x3, iAdd .i64 x4 1, x5, x6, x7)))) (rec1 (x2, x3, iAdd .i64 x4 1, x5, x6, x7)))) (rec0 (x2, iAdd .i64 x3 1))
def l1 (k n : Nat) (rec0 : ((List (Int × Int × Int)) × Int) → Option (Bool)) (x2 : List (Int × Int × Int)) (x3 : Int) (x4 : Int) (x5 : Int) (x6 : Int) (x7 : Int) : Option (Bool) := iter (fun (rec : ((List (Int × Int × Int)) × Int × Int × Int × Int × Int) → Option (Bool)) (x : (List (Int × Int × Int)) × Int × Int × Int × Int × Int) => s1 k rec0 rec x.1 x.2.1 x.2.2.1 x.2.2.2.1 x.2.2.2.2.1 x.2.2.2.2.2) n (x2, x3, x4, x5, x6, x7)
def s0 (k : Nat) (rec0 : ((List (Int × Int × Int)) × Int) → Option (Bool)) (x0 : List (Int × Int × Int)) (x1 : Int) : Option (Bool) := brB (iLt x1 (rLen x0)) (chk (cIdx x1 (rLen x0)) (bnd (spec_l01In.f k ((rGet (0, 0, 0) x0 x1).1) 0 (iSub .i64 x1 1)) fun y1 => brB (bNot y1) (some false) (chk (cIdx ((rGet (0, 0, 0) x0 x1).1) (rLen x0)) (brB (iNe (((rGet (0, 0, 0) x0 ((rGet (0, 0, 0) x0 x1).1)).2).2) 0) (some false) (bnd (spec_l01In.f k (((rGet (0, 0, 0) x0 x1).2).1) 0 3) fun y2 => brB (bNot y2) (some false) (bnd (spec_l01In.f k (((rGet (0, 0, 0) x0 x1).2).2) 0 4) fun y3 => brB (bNot y3) (some false) (l1 k k rec0 x0 x1 1 ((rGet (0, 0, 0) x0 x1).1) (((rGet (0, 0, 0) x0 x1).2).1) (((rGet (0, 0, 0) x0 x1).2).2)))))))) (some true)
def l0 (k n : Nat) (x0 : List (Int × Int × Int)) (x1 : Int) : Option (Bool) := iter (fun (rec : ((List (Int × Int × Int)) × Int) → Option (Bool)) (x : (List (Int × Int × Int)) × Int) => s0 k rec x.1 x.2) n (x0, x1)
def f (k : Nat) (a0 : List (Int × Int × Int)) : Option (Bool) := bnd (spec_l01In.f k (rLen a0) 1 12) fun y0 => brB (bNot y0) (some false) (chk (cIdx 0 (rLen a0)) (brB (bNot (bAnd (iEq ((rGet (0, 0, 0) a0 0).1) (-1)) (bAnd (iEq (((rGet (0, 0, 0) a0 0).2).1) 0) (bAnd (iEq (((rGet (0, 0, 0) a0 0).2).2) 0) true)))) (some false) (l0 k k a0 1)))
def sig : Sig := ⟨49, [.w false [.row (.pair I (.pair I I))]], [(false, [.val .bool])]⟩
def H : Hints := ⟨[(4, ⟨⟨[(0, .w false 1), (3, .w false 1)], []⟩, [], [.val (.row (.pair I (.pair I I))), .val I], []⟩), (10, ⟨⟨[(0, .w false 1), (3, .w false 1), (4, .ptr 104 0), (5, .w false 1)], [(104, 3)]⟩, [4], [.val (.row (.pair I (.pair I I))), .val I, .val I, .val I, .val I, .val I], []⟩)], [], [(12, [0, 0, 3, 7, 15, 0, 32, 127, 255, 511, 511, 2047, 4095, 8191, 511, 16895, 65535, 131071])], []⟩
def spec : Spec := { sig := sig, fn := fun k (x : List (Int × Int × Int)) => f k x }
theorem ok : Holds Go.Proofs.Try.prog spec := holds_of_run (G := [spec_l01In.spec]) (holds_cons spec_l01In.ok holds_nil) (by kernel_rfl) H Go.Proofs.Try.func49 (by kernel_rfl) (rfl : Go.Proofs.Try.f49.body = some _) (by kernel_rfl) (by kernel_rfl) fun k x y h => Eq.trans (by kernel_rfl : _ = spec.fn k x) h
end spec_TreeOk

namespace spec_l19Tree
def s0 (k : Nat) (rec0 : ((List (Int × Int × Int)) × Int × List Int × Int × Int) → Option (List (Int × Int × Int) × List Int × Int × Int)) (x0 : List (Int × Int × Int)) (x1 : Int) (x2 : List Int) (x3 : Int) (x4 : Int) : Option (List (Int × Int × Int) × List Int × Int × Int) := bnd (spec_l01Below.f k 8 x2 x3 x4) fun (y0, y1, y2, y3) => brB (iLt x1 (iAdd .i64 3 y0)) (bnd (spec_l01Below.f k (rLen x0) y1 y2 y3) fun (y4, y5, y6, y7) => bnd (spec_l01Below.f k 4 y5 y6 y7) fun (y8, y9, y10, y11) => bnd (spec_l01PickInt.f k [0, 0, 1, 1, 2, 4] y9 y10 y11) fun (y12, y13, y14, y15) => chk (cLen (rLen (rApp [] x0)) 24) (chk (cLen (rLen (rApp (rApp [] x0) [(y4, y8, y12)])) 24) (bnd (spec_TreeOk.f k (rApp (rApp [] x0) [(y4, y8, y12)])) fun y16 => brB y16 (rec0 (rApp (rApp [] x0) [(y4, y8, y12)], iAdd .i64 x1 1, y13, y14, y15)) (rec0 (x0, iAdd .i64 x1 1, y13, y14, y15))))) (some (x0, y1, y2, y3))
def l0 (k n : Nat) (x0 : List (Int × Int × Int)) (x1 : Int) (x2 : List Int) (x3 : Int) (x4 : Int) : Option (List (Int × Int × Int) × List Int × Int × Int) := iter (fun (rec : ((List (Int × Int × Int)) × Int × List Int × Int × Int) → Option (List (Int × Int × Int) × List Int × Int × Int)) (x : (List (Int × Int × Int)) × Int × List Int × Int × Int) => s0 k rec x.1 x.2.1 x.2.2.1 x.2.2.2.1 x.2.2.2.2) n (x0, x1, x2, x3, x4)
def f (k : Nat) (a0_0 : List Int) (a0_1 : Int) (a0_2 : Int) : Option (List (Int × Int × Int) × List Int × Int × Int) := l0 k k [((-1), 0, 0)] 0 a0_0 a0_1 a0_2
def sig : Sig := ⟨60, [.ref [.row (.int .u8), I, I]], [(false, [.own (.pair I (.pair I I))])]⟩
def H : Hints := ⟨[(3, ⟨⟨[(0, .ptr 0 0), (3, .w false 1), (4, .w false 1)], [(0, 3)]⟩, [0], [.own (.pair I (.pair I I)), .val I, .val (.row (.int .u8)), .val I, .val I], []⟩)], [], [(6, [0, 0, 3, 0, 8, 31, 63])], []⟩
def spec : Spec := { sig := sig, fn := fun k (x : List Int × Int × Int) => f k x.1 x.2.1 x.2.2 }
theorem ok : Holds Go.Proofs.Try.prog spec := holds_of_run (G := [spec_l01Below.spec, spec_l01PickInt.spec, spec_TreeOk.spec]) (holds_cons spec_l01Below.ok (holds_cons spec_l01PickInt.ok (holds_cons spec_TreeOk.ok holds_nil))) (by kernel_rfl) H Go.Proofs.Try.func60 (by kernel_rfl) (rfl : Go.Proofs.Try.f60.body = some _) (by kernel_rfl) (by kernel_rfl) fun k x y h => Eq.trans (by kernel_rfl : _ = spec.fn k x) h
end spec_l19Tree

namespace spec_l01Once
def f (k : Nat) (a1 : Int) (a0_0 : List Int) (a0_1 : Int) (a0_2 : Int) : Option (Bool × List Int × Int × Int) := bnd (spec_l01Below.f k a1 a0_0 a0_1 a0_2) fun (y0, y1, y2, y3) => some (iEq y0 0, y1, y2, y3)
def sig : Sig := ⟨84, [.ref [.row (.int .u8), I, I], .w false [I]], [(false, [.val .bool])]⟩
def H : Hints := ⟨[], [], [], []⟩
def spec : Spec := { sig := sig, fn := fun k (x : Int × List Int × Int × Int) => f k x.1 x.2.1 x.2.2.1 x.2.2.2 }
theorem ok : Holds Go.Proofs.Try.prog spec := holds_of_run (G := [spec_l01Below.spec]) (holds_cons spec_l01Below.ok holds_nil) (by kernel_rfl) H Go.Proofs.Try.func84 (by kernel_rfl) (rfl : Go.Proofs.Try.f84.body = some _) (by kernel_rfl) (by kernel_rfl) fun k x y h => Eq.trans (by kernel_rfl : _ = spec.fn k x) h
end spec_l01Once

namespace spec_l33Guard
def s0 (k : Nat) (rec0 : ((List (Int × Int × Int)) × Int × List Int × Int × Int × List Bool × List Bool) → Option (List Bool × List Int × Int × Int)) (x0 : List (Int × Int × Int)) (x1 : Int) (x2 : List Int) (x3 : Int) (x4 : Int) (x5 : List Bool) (x6 : List Bool) : Option (List Bool × List Int × Int × Int) := brB (iLt x1 (rLen x0)) (brB (iEq x1 0) (chk (cLen (rLen (rApp x6 [true])) 1) (rec0 (x0, iAdd .i64 x1 1, x2, x3, x4, x5, rApp x6 [true]))) (bnd (spec_l01Once.f k 5 x2 x3 x4) fun (y0, y1, y2, y3) => chk (cLen (rLen (rApp x6 [bNot y0])) 1) (rec0 (x0, iAdd .i64 x1 1, y1, y2, y3, x5, rApp x6 [bNot y0])))) (some (x6, x2, x3, x4))
def l0 (k n : Nat) (x0 : List (Int × Int × Int)) (x1 : Int) (x2 : List Int) (x3 : Int) (x4 : Int) (x5 : List Bool) (x6 : List Bool) : Option (List Bool × List Int × Int × Int) := iter (fun (rec : ((List (Int × Int × Int)) × Int × List Int × Int × Int × List Bool × List Bool) → Option (List Bool × List Int × Int × Int)) (x : (List (Int × Int × Int)) × Int × List Int × Int × Int × List Bool × List Bool) => s0 k rec x.1 x.2.1 x.2.2.1 x.2.2.2.1 x.2.2.2.2.1 x.2.2.2.2.2.1 x.2.2.2.2.2.2) n (x0, x1, x2, x3, x4, x5, x6)
def f (k : Nat) (a1 : List (Int × Int × Int)) (a0_0 : List Int) (a0_1 : Int) (a0_2 : Int) : Option (List Bool × List Int × Int × Int) := l0 k k a1 0 a0_0 a0_1 a0_2 [] []
def sig : Sig := ⟨61, [.ref [.row (.int .u8), I, I], .w false [.row (.pair I (.pair I I))]], [(true, [.own .bool])]⟩
def H : Hints := ⟨[(3, ⟨⟨[(0, .ptr 0 0), (1, .w false 1), (4, .ptr 104 0), (5, .ptr 105 0), (6, .w false 1)], [(0, 3), (104, 1), (105, 1)]⟩, [0, 4, 5], [.val (.row (.pair I (.pair I I))), .val I, .val (.row (.int .u8)), .val I, .val I, .own .bool, .own .bool], []⟩)], [], [(5, [0, 1, 0, 4, 12, 28, 60, 124, 252, 508, 1023, 2047, 4095])], []⟩
def spec : Spec := { sig := sig, fn := fun k (x : List (Int × Int × Int) × List Int × Int × Int) => f k x.1 x.2.1 x.2.2.1 x.2.2.2 }
theorem ok : Holds Go.Proofs.Try.prog spec := holds_of_run (G := [spec_l01Once.spec]) (holds_cons spec_l01Once.ok holds_nil) (by kernel_rfl) H Go.Proofs.Try.func61 (by kernel_rfl) (rfl : Go.Proofs.Try.f61.body = some _) (by kernel_rfl) (by kernel_rfl) fun k x y h => Eq.trans (by kernel_rfl : _ = spec.fn k x) h
end spec_l33Guard

namespace spec_DrawGuard
def f (k : Nat) (a0 : List Int) : Option (List (Int × Int × Int) × List Bool) := bnd (spec_l01New.f k a0) fun (y0, y1, y2) => bnd (spec_l19Tree.f k y0 y1 y2) fun (y3, y4, y5, y6) => bnd (spec_l33Guard.f k y3 y4 y5 y6) fun (y7, y8, y9, y10) => some (y3, y7)
def sig : Sig := ⟨27, [.w false [.row (.int .u8)]], [(false, [.val (.row (.pair I (.pair I I)))]), (true, [.own .bool])]⟩
def H : Hints := ⟨[], [], [], []⟩
def spec : Spec := { sig := sig, fn := fun k (x : List Int) => f k x }
theorem ok : Holds Go.Proofs.Try.prog spec := holds_of_run (G := [spec_l01New.spec, spec_l19Tree.spec, spec_l33Guard.spec]) (holds_cons spec_l01New.ok (holds_cons spec_l19Tree.ok (holds_cons spec_l33Guard.ok holds_nil))) (by kernel_rfl) H Go.Proofs.Try.func27 (by kernel_rfl) (rfl : Go.Proofs.Try.f27.body = some _) (by kernel_rfl) (by kernel_rfl) fun k x y h => Eq.trans (by kernel_rfl : _ = spec.fn k x) h
end spec_DrawGuard

namespace spec_DrawPlaces
def s0 (k : Nat) (rec0 : (List Int × Int × List Int × Int × Int) → Option (List Int)) (x0 : List Int) (x1 : Int) (x2 : List Int) (x3 : Int) (x4 : Int) : Option (List Int) := brB (iLt x1 12) (bnd (spec_l01Below.f k 10000 x2 x3 x4) fun (y3, y4, y5, y6) => chk (cLen (rLen (rApp x0 [y3])) 8) (rec0 (rApp x0 [y3], iAdd .i64 x1 1, y4, y5, y6))) (some x0)
def l0 (k n : Nat) (x0 : List Int) (x1 : Int) (x2 : List Int) (x3 : Int) (x4 : Int) : Option (List Int) := iter (fun (rec : (List Int × Int × List Int × Int × Int) → Option (List Int)) (x : List Int × Int × List Int × Int × Int) => s0 k rec x.1 x.2.1 x.2.2.1 x.2.2.2.1 x.2.2.2.2) n (x0, x1, x2, x3, x4)
def f (k : Nat) (a0 : List Int) : Option (List Int) := bnd (spec_l01New.f k a0) fun (y0, y1, y2) => l0 k k [] 0 y0 y1 y2
def sig : Sig := ⟨28, [.w false [.row (.int .u8)]], [(false, [.own I])]⟩
def H : Hints := ⟨[(4, ⟨⟨[(3, .ptr 103 0), (4, .w false 1), (5, .w false 1)], [(103, 3)]⟩, [3], [.own I, .val I, .val (.row (.int .u8)), .val I, .val I], []⟩)], [], [], []⟩
def spec : Spec := { sig := sig, fn := fun k (x : List Int) => f k x }
theorem ok : Holds Go.Proofs.Try.prog spec := holds_of_run (G := [spec_l01New.spec, spec_l01Below.spec]) (holds_cons spec_l01New.ok (holds_cons spec_l01Below.ok holds_nil)) (by kernel_rfl) H Go.Proofs.Try.func28 (by kernel_rfl) (rfl : Go.Proofs.Try.f28.body = some _) (by kernel_rfl) (by kernel_rfl) fun k x y h => Eq.trans (by kernel_rfl : _ = spec.fn k x) h
end spec_DrawPlaces

namespace impl_within
def f (k : Nat) (a0 : Int) (a1 : Int) (a2 : Int) : Option (Bool) := brB (iLe a1 a0) (some (iLe a0 a2)) (some false)
def sig : Sig := ⟨71, [.w false [I], .w false [I], .w false [I]], [(false, [.val .bool])]⟩
def H : Hints := ⟨[], [], [], []⟩
def spec : Spec := { sig := sig, fn := fun k (x : Int × Int × Int) => f k x.1 x.2.1 x.2.2 }
theorem ok : Holds Go.Proofs.Try.prog spec := holds_of_run (G := []) holds_nil (by kernel_rfl) H Go.Proofs.Try.func71 (by kernel_rfl) (rfl : Go.Proofs.Try.f71.body = some _) (by kernel_rfl) (by kernel_rfl) fun k x y h => Eq.trans (by kernel_rfl : _ = spec.fn k x) h
end impl_within

namespace impl_TreeOk_1
def f (k : Nat) (a0_0 : Int) (a0_1 : Int) (a0_2 : Int) (a1_0 : Int) (a1_1 : Int) (a1_2 : Int) : Option (Bool × Int × Int × Int) := brB (iEq a0_0 a1_0) (some (iEq a0_1 a1_1, a1_0, a1_1, a1_2)) (some (false, a1_0, a1_1, a1_2))
def sig : Sig := ⟨81, [.w true [I, I, I], .ref [I, I, I]], [(false, [.val .bool])]⟩
def H : Hints := ⟨[], [], [], []⟩
def spec : Spec := { sig := sig, fn := fun k (x : Int × Int × Int × Int × Int × Int) => f k x.1 x.2.1 x.2.2.1 x.2.2.2.1 x.2.2.2.2.1 x.2.2.2.2.2 }
theorem ok : Holds Go.Proofs.Try.prog spec := holds_of_run (G := []) holds_nil (by kernel_rfl) H Go.Proofs.Try.func81 (by kernel_rfl) (rfl : Go.Proofs.Try.f81.body = some _) (by kernel_rfl) (by kernel_rfl) fun k x y h => Eq.trans (by kernel_rfl : _ = spec.fn k x) h
end impl_TreeOk_1

namespace slices_IndexFunc_Node_impl_TreeOk_1
def s0 (k : Nat) (rec0 : ((List (Int × Int × Int)) × Int × Int × Int × Int × Int) → Option (Int × Int × Int × Int)) (x0 : List (Int × Int × Int)) (x1 : Int) (x2 : Int) (x3 : Int) (x4 : Int) (x5 : Int) : Option (Int × Int × Int × Int) := brB (iLt x2 x1) (chk (cIdx x2 (rLen x0)) (bnd (impl_TreeOk_1.f k ((rGet (0, 0, 0) x0 x2).1) (((rGet (0, 0, 0) x0 x2).2).1) (((rGet (0, 0, 0) x0 x2).2).2) x3 x4 x5) fun (y0, y1, y2, y3) => brB y0 (some (x2, y1, y2, y3)) (rec0 (x0, x1, iAdd .i64 x2 1, y1, y2, y3)))) (some ((-1), x3, x4, x5))
def l0 (k n : Nat) (x0 : List (Int × Int × Int)) (x1 : Int) (x2 : Int) (x3 : Int) (x4 : Int) (x5 : Int) : Option (Int × Int × Int × Int) := iter (fun (rec : ((List (Int × Int × Int)) × Int × Int × Int × Int × Int) → Option (Int × Int × Int × Int)) (x : (List (Int × Int × Int)) × Int × Int × Int × Int × Int) => s0 k rec x.1 x.2.1 x.2.2.1 x.2.2.2.1 x.2.2.2.2.1 x.2.2.2.2.2) n (x0, x1, x2, x3, x4, x5)
def f (k : Nat) (a0 : List (Int × Int × Int)) (a1_0 : Int) (a1_1 : Int) (a1_2 : Int) : Option (Int × Int × Int × Int) := l0 k k a0 (rLen a0) 0 a1_0 a1_1 a1_2
def sig : Sig := ⟨97, [.w false [.row (.pair I (.pair I I))], .fnr 81 [I, I, I]], [(false, [.val I])]⟩
def H : Hints := ⟨[(2, ⟨⟨[(0, .w false 1), (1, .fnp 81 1 0), (7, .w false 1), (8, .w false 1)], [(1, 3)]⟩, [1], [.val (.row (.pair I (.pair I I))), .val I, .val I, .val I, .val I, .val I], []⟩)], [], [], []⟩
def spec : Spec := { sig := sig, fn := fun k (x : List (Int × Int × Int) × Int × Int × Int) => f k x.1 x.2.1 x.2.2.1 x.2.2.2 }
theorem ok : Holds Go.Proofs.Try.prog spec := holds_of_run (G := [impl_TreeOk_1.spec]) (holds_cons impl_TreeOk_1.ok holds_nil) (by kernel_rfl) H Go.Proofs.Try.func97 (by kernel_rfl) (rfl : Go.Proofs.Try.f97.body = some _) (by kernel_rfl) (by kernel_rfl) fun k x y h => Eq.trans (by kernel_rfl : _ = spec.fn k x) h
end slices_IndexFunc_Node_impl_TreeOk_1

namespace slices_ContainsFunc_Node_impl_TreeOk_1
def f (k : Nat) (a0 : List (Int × Int × Int)) (a1_0 : Int) (a1_1 : Int) (a1_2 : Int) : Option (Bool × Int × Int × Int) := bnd (slices_IndexFunc_Node_impl_TreeOk_1.f k a0 a1_0 a1_1 a1_2) fun (y0, y1, y2, y3) => some (iLe 0 y0, y1, y2, y3)
def sig : Sig := ⟨80, [.w false [.row (.pair I (.pair I I))], .fnr 81 [I, I, I]], [(false, [.val .bool])]⟩
def H : Hints := ⟨[], [], [], []⟩
def spec : Spec := { sig := sig, fn := fun k (x : List (Int × Int × Int) × Int × Int × Int) => f k x.1 x.2.1 x.2.2.1 x.2.2.2 }
theorem ok : Holds Go.Proofs.Try.prog spec := holds_of_run (G := [slices_IndexFunc_Node_impl_TreeOk_1.spec]) (holds_cons slices_IndexFunc_Node_impl_TreeOk_1.ok holds_nil) (by kernel_rfl) H Go.Proofs.Try.func80 (by kernel_rfl) (rfl : Go.Proofs.Try.f80.body = some _) (by kernel_rfl) (by kernel_rfl) fun k x y h => Eq.trans (by kernel_rfl : _ = spec.fn k x) h
end slices_ContainsFunc_Node_impl_TreeOk_1

namespace impl_TreeOk
def s0 (k : Nat) (rec0 : ((List (Int × Int × Int)) × (List (Int × Int × Int)) × Int × Int) → Option (Bool)) (x0 : List (Int × Int × Int)) (x1 : List (Int × Int × Int)) (x2 : Int) (x3 : Int) : Option (Bool) := brB (iLt x3 x2) (chk (cIdx x3 (rLen x1)) (chk (cSub 0 (iAdd .i64 x3 1) (rLen x0)) (bnd (impl_within.f k ((rGet (0, 0, 0) x1 x3).1) 0 x3) fun y1 => brB (bNot y1) (some false) (chk (cIdx ((rGet (0, 0, 0) x1 x3).1) (rLen (rSub x0 0 (iAdd .i64 x3 1)))) (brB (iNe (((rGet (0, 0, 0) (rSub x0 0 (iAdd .i64 x3 1)) ((rGet (0, 0, 0) x1 x3).1)).2).2) 0) (some false) (bnd (impl_within.f k (((rGet (0, 0, 0) x1 x3).2).1) 0 3) fun y2 => brB (bNot y2) (some false) (bnd (impl_within.f k (((rGet (0, 0, 0) x1 x3).2).2) 0 4) fun y3 => brB (bNot y3) (some false) (bnd (slices_ContainsFunc_Node_impl_TreeOk_1.f k (rSub x0 0 (iAdd .i64 x3 1)) ((rGet (0, 0, 0) x1 x3).1) (((rGet (0, 0, 0) x1 x3).2).1) (((rGet (0, 0, 0) x1 x3).2).2)) fun (y4, y5, y6, y7) => brB y4 (some false) (rec0 (x0, x1, x2, iAdd .i64 x3 1)))))))))) (some true)
def l0 (k n : Nat) (x0 : List (Int × Int × Int)) (x1 : List (Int × Int × Int)) (x2 : Int) (x3 : Int) : Option (Bool) := iter (fun (rec : ((List (Int × Int × Int)) × (List (Int × Int × Int)) × Int × Int) → Option (Bool)) (x : (List (Int × Int × Int)) × (List (Int × Int × Int)) × Int × Int) => s0 k rec x.1 x.2.1 x.2.2.1 x.2.2.2) n (x0, x1, x2, x3)
def f (k : Nat) (a0 : List (Int × Int × Int)) : Option (Bool) := bnd (impl_within.f k (rLen a0) 1 12) fun y0 => brB (bNot y0) (some false) (chk (cIdx 0 (rLen a0)) (brB (bNot (bAnd (iEq ((rGet (0, 0, 0) a0 0).1) (-1)) (bAnd (iEq (((rGet (0, 0, 0) a0 0).2).1) 0) (bAnd (iEq (((rGet (0, 0, 0) a0 0).2).2) 0) true)))) (some false) (chk (cSub 1 (rLen a0) (rLen a0)) (l0 k k a0 (rSub a0 1 (rLen a0)) (rLen (rSub a0 1 (rLen a0))) 0))))
def sig : Sig := ⟨52, [.w false [.row (.pair I (.pair I I))]], [(false, [.val .bool])]⟩
def H : Hints := ⟨[(4, ⟨⟨[(0, .w false 1), (18, .w false 1), (19, .w false 1), (20, .w false 1)], []⟩, [], [.val (.row (.pair I (.pair I I))), .val (.row (.pair I (.pair I I))), .val I, .val I], []⟩)], [], [], []⟩
def spec : Spec := { sig := sig, fn := fun k (x : List (Int × Int × Int)) => f k x }
theorem ok : Holds Go.Proofs.Try.prog spec := holds_of_run (G := [impl_within.spec, slices_ContainsFunc_Node_impl_TreeOk_1.spec]) (holds_cons impl_within.ok (holds_cons slices_ContainsFunc_Node_impl_TreeOk_1.ok holds_nil)) (by kernel_rfl) H Go.Proofs.Try.func52 (by kernel_rfl) (rfl : Go.Proofs.Try.f52.body = some _) (by kernel_rfl) (by kernel_rfl) fun k x y h => Eq.trans (by kernel_rfl : _ = spec.fn k x) h
end impl_TreeOk

namespace impl_GuardOk
def f (k : Nat) (a0 : List (Int × Int × Int)) (a1 : List Bool) : Option (Bool) := bnd (impl_TreeOk.f k a0) fun y0 => brB y0 (brB (iEq (rLen a1) (rLen a0)) (chk (cIdx 0 (rLen a1)) (some (rGet false a1 0))) (some false)) (some false)
def sig : Sig := ⟨16, [.w false [.row (.pair I (.pair I I))], .w true [.row .bool]], [(false, [.val .bool])]⟩
def H : Hints := ⟨[], [], [], []⟩
def spec : Spec := { sig := sig, fn := fun k (x : List (Int × Int × Int) × List Bool) => f k x.1 x.2 }
theorem ok : Holds Go.Proofs.Try.prog spec := holds_of_run (G := [impl_TreeOk.spec]) (holds_cons impl_TreeOk.ok holds_nil) (by kernel_rfl) H Go.Proofs.Try.func16 (by kernel_rfl) (rfl : Go.Proofs.Try.f16.body = some _) (by kernel_rfl) (by kernel_rfl) fun k x y h => Eq.trans (by kernel_rfl : _ = spec.fn k x) h
end impl_GuardOk

namespace impl_isNode
def f (k : Nat) (a0 : List (Int × Int × Int)) (a1 : Int) : Option (Bool) := bnd (impl_TreeOk.f k a0) fun y0 => brB y0 (bnd (impl_within.f k a1 0 (iSub .i64 (rLen a0) 1)) fun y1 => some y1) (some false)
def sig : Sig := ⟨68, [.w false [.row (.pair I (.pair I I))], .w false [I]], [(false, [.val .bool])]⟩
def H : Hints := ⟨[], [], [], []⟩
def spec : Spec := { sig := sig, fn := fun k (x : List (Int × Int × Int) × Int) => f k x.1 x.2 }
theorem ok : Holds Go.Proofs.Try.prog spec := holds_of_run (G := [impl_within.spec, impl_TreeOk.spec]) (holds_cons impl_within.ok (holds_cons impl_TreeOk.ok holds_nil)) (by kernel_rfl) H Go.Proofs.Try.func68 (by kernel_rfl) (rfl : Go.Proofs.Try.f68.body = some _) (by kernel_rfl) (by kernel_rfl) fun k x y h => Eq.trans (by kernel_rfl : _ = spec.fn k x) h
end impl_isNode

namespace slices_Reverse_int
def s0 (k : Nat) (rec0 : (List Int × Int × Int) → Option (List Int)) (x0 : List Int) (x1 : Int) (x2 : Int) : Option (List Int) := brB (iLt x1 x2) (chk (cIdx x2 (rLen x0)) (chk (cIdx x1 (rLen x0)) (chk (cIdx x1 (rLen x0)) (chk (cIdx x2 (rLen (rSet x0 x1 (rGet 0 x0 x2)))) (rec0 (rSet (rSet x0 x1 (rGet 0 x0 x2)) x2 (rGet 0 x0 x1), iAdd .i64 x1 1, iSub .i64 x2 1)))))) (some x0)
def l0 (k n : Nat) (x0 : List Int) (x1 : Int) (x2 : Int) : Option (List Int) := iter (fun (rec : (List Int × Int × Int) → Option (List Int)) (x : List Int × Int × Int) => s0 k rec x.1 x.2.1 x.2.2) n (x0, x1, x2)
def f (k : Nat) (a0 : List Int) : Option (List Int) := l0 k k a0 0 (iSub .i64 (rLen a0) 1)
def sig : Sig := ⟨87, [.mut false [.row I]], []⟩
def H : Hints := ⟨[(1, ⟨⟨[(0, .w false 1), (2, .w false 1), (3, .w false 1)], []⟩, [], [.own I, .val I, .val I], [0]⟩)], [], [(3, [0, 0, 0, 0, 0, 0, 48, 112, 0, 0, 768, 1792, 4083, 8179, 16383, 32767])], []⟩
def spec : Spec := { sig := sig, fn := fun k (x : List Int) => f k x }
theorem ok : Holds Go.Proofs.Try.prog spec := holds_of_run (G := []) holds_nil (by kernel_rfl) H Go.Proofs.Try.func87 (by kernel_rfl) (rfl : Go.Proofs.Try.f87.body = some _) (by kernel_rfl) (by kernel_rfl) fun k x y h => Eq.trans (by kernel_rfl : _ = spec.fn k x) h
end slices_Reverse_int

namespace impl_PathTo
def s0 (k : Nat) (rec0 : ((List (Int × Int × Int)) × Int × List Int) → Option (List Int)) (x0 : List (Int × Int × Int)) (x1 : Int) (x2 : List Int) : Option (List Int) := brB (iLe 0 x1) (chk (cLen (rLen (rApp x2 [x1])) 8) (chk (cIdx x1 (rLen x0)) (rec0 (x0, (rGet (0, 0, 0) x0 x1).1, rApp x2 [x1])))) (bnd (slices_Reverse_int.f k x2) fun y1 => some y1)
def l0 (k n : Nat) (x0 : List (Int × Int × Int)) (x1 : Int) (x2 : List Int) : Option (List Int) := iter (fun (rec : ((List (Int × Int × Int)) × Int × List Int) → Option (List Int)) (x : (List (Int × Int × Int)) × Int × List Int) => s0 k rec x.1 x.2.1 x.2.2) n (x0, x1, x2)
def f (k : Nat) (a0 : List (Int × Int × Int)) (a1 : Int) : Option (List Int) := bnd (impl_isNode.f k a0 a1) fun y0 => brB (bNot y0) (some []) (l0 k k a0 a1 [])
def sig : Sig := ⟨64, [.w false [.row (.pair I (.pair I I))], .w false [I]], [(false, [.own I])]⟩
def H : Hints := ⟨[(4, ⟨⟨[(0, .w false 1), (1, .w false 1), (5, .w false 1)], []⟩, [], [.val (.row (.pair I (.pair I I))), .val I, .own I], []⟩)], [], [], []⟩
def spec : Spec := { sig := sig, fn := fun k (x : List (Int × Int × Int) × Int) => f k x.1 x.2 }
theorem ok : Holds Go.Proofs.Try.prog spec := holds_of_run (G := [impl_isNode.spec, slices_Reverse_int.spec]) (holds_cons impl_isNode.ok (holds_cons slices_Reverse_int.ok holds_nil)) (by kernel_rfl) H Go.Proofs.Try.func64 (by kernel_rfl) (rfl : Go.Proofs.Try.f64.body = some _) (by kernel_rfl) (by kernel_rfl) fun k x y h => Eq.trans (by kernel_rfl : _ = spec.fn k x) h
end impl_PathTo

namespace slices_Clone_int
def f (k : Nat) (a0 : List Int) : Option (List Int) := chk (cLen (rLen a0) 8) (some a0)
def sig : Sig := cloneSig 89 I
def spec : Spec := { sig := sig, fn := fun k (x : List Int) => f k x }
theorem ok : Holds Go.Proofs.Try.prog spec := clone_holds (u := I) (t := 45) (by kernel_rfl) Go.Proofs.Try.func89 (by kernel_rfl) (rfl : Go.Proofs.Try.f89.body = some _) (by kernel_rfl) (by kernel_rfl) Go.Proofs.Try.underlying45 ⟨rfl, rfl, rfl⟩ ⟨rfl, rfl, rfl⟩ ⟨rfl, rfl, _, rfl⟩ (fun l => cLen (rLen l) 8) (fun k => by kernel_rfl) (fun k l => by kernel_rfl)
end slices_Clone_int

namespace impl_PathBetween
def s0 (k : Nat) (rec0 : (List Int × List Int × Int) → Option (List Int)) (x0 : List Int) (x1 : List Int) (x2 : Int) : Option (List Int) := brB (iLt x2 (iMin (rLen x0) (rLen x1))) (chk (cIdx x2 (rLen x0)) (chk (cIdx x2 (rLen x1)) (brB (iEq (rGet 0 x0 x2) (rGet 0 x1 x2)) (rec0 (x0, x1, iAdd .i64 x2 1)) (chk (cSub (iSub .i64 x2 1) (rLen x0) (rLen x0)) (bnd (slices_Clone_int.f k (rSub x0 (iSub .i64 x2 1) (rLen x0))) fun y4 => bnd (slices_Reverse_int.f k y4) fun y5 => chk (cSub x2 (rLen x1) (rLen x1)) (chk (cLen (rLen (rApp y5 (rSub x1 x2 (rLen x1)))) 8) (some (rApp y5 (rSub x1 x2 (rLen x1)))))))))) (chk (cSub (iSub .i64 x2 1) (rLen x0) (rLen x0)) (bnd (slices_Clone_int.f k (rSub x0 (iSub .i64 x2 1) (rLen x0))) fun y6 => bnd (slices_Reverse_int.f k y6) fun y7 => chk (cSub x2 (rLen x1) (rLen x1)) (chk (cLen (rLen (rApp y7 (rSub x1 x2 (rLen x1)))) 8) (some (rApp y7 (rSub x1 x2 (rLen x1)))))))
def l0 (k n : Nat) (x0 : List Int) (x1 : List Int) (x2 : Int) : Option (List Int) := iter (fun (rec : (List Int × List Int × Int) → Option (List Int)) (x : List Int × List Int × Int) => s0 k rec x.1 x.2.1 x.2.2) n (x0, x1, x2)
def f (k : Nat) (a0 : List (Int × Int × Int)) (a1 : Int) (a2 : Int) : Option (List Int) := bnd (impl_isNode.f k a0 a1) fun y0 => brB (bNot y0) (some []) (bnd (impl_isNode.f k a0 a2) fun y1 => brB (bNot y1) (some []) (bnd (impl_PathTo.f k a0 a1) fun y2 => bnd (impl_PathTo.f k a0 a2) fun y3 => l0 k k y2 y3 0))
def sig : Sig := ⟨66, [.w false [.row (.pair I (.pair I I))], .w false [I], .w false [I]], [(false, [.own I])]⟩
def H : Hints := ⟨[(5, ⟨⟨[(7, .w false 1), (8, .w false 1), (9, .w false 1)], []⟩, [], [.own I, .own I, .val I], []⟩)], [], [(5, [0, 0, 2, 0, 8, 30, 63, 127, 255, 255, 1023, 2047, 255, 255, 12543, 28927, 65535, 131071])], []⟩
def spec : Spec := { sig := sig, fn := fun k (x : List (Int × Int × Int) × Int × Int) => f k x.1 x.2.1 x.2.2 }
theorem ok : Holds Go.Proofs.Try.prog spec := holds_of_run (G := [impl_isNode.spec, slices_Reverse_int.spec, impl_PathTo.spec, slices_Clone_int.spec]) (holds_cons impl_isNode.ok (holds_cons slices_Reverse_int.ok (holds_cons impl_PathTo.ok (holds_cons slices_Clone_int.ok holds_nil)))) (by kernel_rfl) H Go.Proofs.Try.func66 (by kernel_rfl) (rfl : Go.Proofs.Try.f66.body = some _) (by kernel_rfl) (by kernel_rfl) fun k x y h => Eq.trans (by kernel_rfl : _ = spec.fn k x) h
end impl_PathBetween

namespace impl_CanReach
def s0 (k : Nat) (rec0 : ((List (Int × Int × Int)) × List Int × Int × List Bool) → Option (Bool)) (x0 : List (Int × Int × Int)) (x1 : List Int) (x2 : Int) (x3 : List Bool) : Option (Bool) := brB (iLt x2 (rLen x1)) (chk (cIdx x2 (rLen x1)) (chk (cIdx (iSub .i64 x2 1) (rLen x1)) (chk (cIdx (rGet 0 x1 (iSub .i64 x2 1)) (rLen x0)) (chk (cIdx x2 (rLen x1)) (brB (iEq ((rGet (0, 0, 0) x0 (rGet 0 x1 (iSub .i64 x2 1))).1) (rGet 0 x1 x2)) (chk (cIdx (iSub .i64 x2 1) (rLen x1)) (chk (cIdx (rGet 0 x1 (iSub .i64 x2 1)) (rLen x3)) (brB (bNot (rGet false x3 (rGet 0 x1 (iSub .i64 x2 1)))) (some false) (rec0 (x0, x1, iAdd .i64 x2 1, x3))))) (chk (cIdx (rGet 0 x1 x2) (rLen x3)) (brB (bNot (rGet false x3 (rGet 0 x1 x2))) (some false) (rec0 (x0, x1, iAdd .i64 x2 1, x3))))))))) (some true)
def l0 (k n : Nat) (x0 : List (Int × Int × Int)) (x1 : List Int) (x2 : Int) (x3 : List Bool) : Option (Bool) := iter (fun (rec : ((List (Int × Int × Int)) × List Int × Int × List Bool) → Option (Bool)) (x : (List (Int × Int × Int)) × List Int × Int × List Bool) => s0 k rec x.1 x.2.1 x.2.2.1 x.2.2.2) n (x0, x1, x2, x3)
def f (k : Nat) (a0 : List (Int × Int × Int)) (a1 : List Bool) (a2 : Int) (a3 : Int) : Option (Bool) := bnd (impl_PathBetween.f k a0 a2 a3) fun y0 => bnd (impl_GuardOk.f k a0 a1) fun y1 => brB (bNot y1) (some false) (brB (iEq (rLen y0) 0) (some false) (l0 k k a0 y0 1 a1))
def sig : Sig := ⟨33, [.w false [.row (.pair I (.pair I I))], .w true [.row .bool], .w false [I], .w false [I]], [(false, [.val .bool])]⟩
def H : Hints := ⟨[(5, ⟨⟨[(0, .w false 1), (5, .ptr 105 0), (9, .w false 1), (10, .w false 1)], [(105, 1)]⟩, [5], [.val (.row (.pair I (.pair I I))), .own I, .val I, .val (.row .bool)], []⟩)], [], [(8, [0, 0, 0, 4, 14, 30, 63, 127, 255, 0, 0, 1536, 3584, 8191])], []⟩
def spec : Spec := { sig := sig, fn := fun k (x : List (Int × Int × Int) × List Bool × Int × Int) => f k x.1 x.2.1 x.2.2.1 x.2.2.2 }
theorem ok : Holds Go.Proofs.Try.prog spec := holds_of_run (G := [impl_GuardOk.spec, impl_PathBetween.spec]) (holds_cons impl_GuardOk.ok (holds_cons impl_PathBetween.ok holds_nil)) (by kernel_rfl) H Go.Proofs.Try.func33 (by kernel_rfl) (rfl : Go.Proofs.Try.f33.body = some _) (by kernel_rfl) (by kernel_rfl) fun k x y h => Eq.trans (by kernel_rfl : _ = spec.fn k x) h
end impl_CanReach

namespace spec_l04Data
def s0 (k : Nat) (rec0 : (Int × List Int × Int × List Int × Int × Int) → Option (List Int × List Int × Int × Int)) (x0 : Int) (x1 : List Int) (x2 : Int) (x3 : List Int) (x4 : Int) (x5 : Int) : Option (List Int × List Int × Int × Int) := brB (iLt x2 x0) (bnd (spec_l01Below.f k 256 x3 x4 x5) fun (y0, y1, y2, y3) => bnd (spec_l01Below.f k 65536 y1 y2 y3) fun (y4, y5, y6, y7) => bnd (spec_l01PickInt.f k [0, 1, 65535, y0, y4] y5 y6 y7) fun (y8, y9, y10, y11) => chk (cLen (rLen (rApp x1 [y8])) 8) (rec0 (x0, rApp x1 [y8], iAdd .i64 x2 1, y9, y10, y11))) (some (x1, x3, x4, x5))
def l0 (k n : Nat) (x0 : Int) (x1 : List Int) (x2 : Int) (x3 : List Int) (x4 : Int) (x5 : Int) : Option (List Int × List Int × Int × Int) := iter (fun (rec : (Int × List Int × Int × List Int × Int × Int) → Option (List Int × List Int × Int × Int)) (x : Int × List Int × Int × List Int × Int × Int) => s0 k rec x.1 x.2.1 x.2.2.1 x.2.2.2.1 x.2.2.2.2.1 x.2.2.2.2.2) n (x0, x1, x2, x3, x4, x5)
def f (k : Nat) (a1 : Int) (a0_0 : List Int) (a0_1 : Int) (a0_2 : Int) : Option (List Int × List Int × Int × Int) := l0 k k a1 [] 0 a0_0 a0_1 a0_2
def sig : Sig := ⟨90, [.ref [.row (.int .u8), I, I], .w false [I]], [(false, [.own I])]⟩
def H : Hints := ⟨[(3, ⟨⟨[(0, .ptr 0 0), (1, .w false 1), (5, .w false 1), (6, .w false 1)], [(0, 3)]⟩, [0], [.val I, .own I, .val I, .val (.row (.int .u8)), .val I, .val I], []⟩)], [], [], []⟩
def spec : Spec := { sig := sig, fn := fun k (x : Int × List Int × Int × Int) => f k x.1 x.2.1 x.2.2.1 x.2.2.2 }
theorem ok : Holds Go.Proofs.Try.prog spec := holds_of_run (G := [spec_l01Below.spec, spec_l01PickInt.spec]) (holds_cons spec_l01Below.ok (holds_cons spec_l01PickInt.ok holds_nil)) (by kernel_rfl) H Go.Proofs.Try.func90 (by kernel_rfl) (rfl : Go.Proofs.Try.f90.body = some _) (by kernel_rfl) (by kernel_rfl) fun k x y h => Eq.trans (by kernel_rfl : _ = spec.fn k x) h
end spec_l04Data

namespace spec_l04Packet
def f (k : Nat) (a0_0 : List Int) (a0_1 : Int) (a0_2 : Int) : Option (Int × Int × Int × Int × Int × Int × Int × List Int × List Int × Int × Int) := bnd (spec_l01Below.f k 6 a0_0 a0_1 a0_2) fun (y0, y1, y2, y3) => bnd (spec_l01Below.f k 256 y1 y2 y3) fun (y4, y5, y6, y7) => brB (iEq (iAdd .i64 1 y0) 1) (brB (iEq (iAdd .i64 1 y0) 1) (bnd (spec_l01Below.f k 8 y5 y6 y7) fun (y8, y9, y10, y11) => bnd (spec_l04Data.f k (iAdd .i64 1 y8) y9 y10 y11) fun (y12, y13, y14, y15) => brB (iEq (iAdd .i64 1 y0) 1) (bnd (spec_l01Below.f k 60000 y13 y14 y15) fun (y16, y17, y18, y19) => bnd (spec_l01PickInt.f k [0, 100, 4096, 65528, y16] y17 y18 y19) fun (y20, y21, y22, y23) => some (iAdd .i64 1 y0, y4, 0, y20, 0, 0, 0, y12, y21, y22, y23)) (some (iAdd .i64 1 y0, y4, 0, 0, 0, 0, 0, y12, y13, y14, y15))) (brB (iEq (iAdd .i64 1 y0) 3) (bnd (spec_l01PickInt.f k [1, 4, 8, 20, 64] y5 y6 y7) fun (y24, y25, y26, y27) => bnd (spec_l01Below.f k 60000 y25 y26 y27) fun (y28, y29, y30, y31) => bnd (spec_l01PickInt.f k [0, 100, 4096, 65472, y28] y29 y30 y31) fun (y32, y33, y34, y35) => bnd (spec_l01Below.f k 8 y33 y34 y35) fun (y36, y37, y38, y39) => some (iAdd .i64 1 y0, y4, 0, y32, y24, y36, 0, [], y37, y38, y39)) (brB (iEq (iAdd .i64 1 y0) 4) (brB (iEq (iAdd .i64 1 y0) 4) (bnd (spec_l01Below.f k 256 y5 y6 y7) fun (y40, y41, y42, y43) => bnd (spec_l01Below.f k 64 y41 y42 y43) fun (y44, y45, y46, y47) => bnd (spec_l01Below.f k 8 y45 y46 y47) fun (y48, y49, y50, y51) => brB (iEq (iAdd .i64 1 y0) 5) (bnd (spec_l04Data.f k 1 y49 y50 y51) fun (y52, y53, y54, y55) => some (iAdd .i64 1 y0, y4, y40, y44, 0, y48, 0, y52, y53, y54, y55)) (some (iAdd .i64 1 y0, y4, y40, y44, 0, y48, 0, [], y49, y50, y51))) (brB (iEq (iAdd .i64 1 y0) 6) (bnd (spec_l01Below.f k 256 y5 y6 y7) fun (y56, y57, y58, y59) => bnd (spec_l01Below.f k 8 y57 y58 y59) fun (y60, y61, y62, y63) => bnd (spec_l01PickInt.f k [0, 0, 0, 1, 2] y61 y62 y63) fun (y64, y65, y66, y67) => bnd (spec_l01PickInt.f k [8, 0, 20, 64] y65 y66 y67) fun (y68, y69, y70, y71) => brB (iEq y64 0) (bnd (spec_l01Below.f k 9 y69 y70 y71) fun (y72, y73, y74, y75) => bnd (spec_l04Data.f k (iMin y68 y72) y73 y74 y75) fun (y76, y77, y78, y79) => some (iAdd .i64 1 y0, y4, y56, 0, y68, y60, y64, y76, y77, y78, y79)) (some (iAdd .i64 1 y0, y4, y56, 0, y68, y60, y64, [], y69, y70, y71))) (some (iAdd .i64 1 y0, y4, 0, 0, 0, 0, 0, [], y5, y6, y7)))) (brB (iEq (iAdd .i64 1 y0) 5) (bnd (spec_l01Below.f k 256 y5 y6 y7) fun (y80, y81, y82, y83) => bnd (spec_l01Below.f k 64 y81 y82 y83) fun (y84, y85, y86, y87) => bnd (spec_l01Below.f k 8 y85 y86 y87) fun (y88, y89, y90, y91) => brB (iEq (iAdd .i64 1 y0) 5) (bnd (spec_l04Data.f k 1 y89 y90 y91) fun (y92, y93, y94, y95) => some (iAdd .i64 1 y0, y4, y80, y84, 0, y88, 0, y92, y93, y94, y95)) (some (iAdd .i64 1 y0, y4, y80, y84, 0, y88, 0, [], y89, y90, y91))) (brB (iEq (iAdd .i64 1 y0) 6) (bnd (spec_l01Below.f k 256 y5 y6 y7) fun (y96, y97, y98, y99) => bnd (spec_l01Below.f k 8 y97 y98 y99) fun (y100, y101, y102, y103) => bnd (spec_l01PickInt.f k [0, 0, 0, 1, 2] y101 y102 y103) fun (y104, y105, y106, y107) => bnd (spec_l01PickInt.f k [8, 0, 20, 64] y105 y106 y107) fun (y108, y109, y110, y111) => brB (iEq y104 0) (bnd (spec_l01Below.f k 9 y109 y110 y111) fun (y112, y113, y114, y115) => bnd (spec_l04Data.f k (iMin y108 y112) y113 y114 y115) fun (y116, y117, y118, y119) => some (iAdd .i64 1 y0, y4, y96, 0, y108, y100, y104, y116, y117, y118, y119)) (some (iAdd .i64 1 y0, y4, y96, 0, y108, y100, y104, [], y109, y110, y111))) (some (iAdd .i64 1 y0, y4, 0, 0, 0, 0, 0, [], y5, y6, y7))))))) (brB (iEq (iAdd .i64 1 y0) 2) (bnd (spec_l01Below.f k 8 y5 y6 y7) fun (y120, y121, y122, y123) => bnd (spec_l04Data.f k (iAdd .i64 1 y120) y121 y122 y123) fun (y124, y125, y126, y127) => brB (iEq (iAdd .i64 1 y0) 1) (bnd (spec_l01Below.f k 60000 y125 y126 y127) fun (y128, y129, y130, y131) => bnd (spec_l01PickInt.f k [0, 100, 4096, 65528, y128] y129 y130 y131) fun (y132, y133, y134, y135) => some (iAdd .i64 1 y0, y4, 0, y132, 0, 0, 0, y124, y133, y134, y135)) (some (iAdd .i64 1 y0, y4, 0, 0, 0, 0, 0, y124, y125, y126, y127))) (brB (iEq (iAdd .i64 1 y0) 3) (bnd (spec_l01PickInt.f k [1, 4, 8, 20, 64] y5 y6 y7) fun (y136, y137, y138, y139) => bnd (spec_l01Below.f k 60000 y137 y138 y139) fun (y140, y141, y142, y143) => bnd (spec_l01PickInt.f k [0, 100, 4096, 65472, y140] y141 y142 y143) fun (y144, y145, y146, y147) => bnd (spec_l01Below.f k 8 y145 y146 y147) fun (y148, y149, y150, y151) => some (iAdd .i64 1 y0, y4, 0, y144, y136, y148, 0, [], y149, y150, y151)) (brB (iEq (iAdd .i64 1 y0) 4) (brB (iEq (iAdd .i64 1 y0) 4) (bnd (spec_l01Below.f k 256 y5 y6 y7) fun (y152, y153, y154, y155) => bnd (spec_l01Below.f k 64 y153 y154 y155) fun (y156, y157, y158, y159) => bnd (spec_l01Below.f k 8 y157 y158 y159) fun (y160, y161, y162, y163) => brB (iEq (iAdd .i64 1 y0) 5) (bnd (spec_l04Data.f k 1 y161 y162 y163) fun (y164, y165, y166, y167) => some (iAdd .i64 1 y0, y4, y152, y156, 0, y160, 0, y164, y165, y166, y167)) (some (iAdd .i64 1 y0, y4, y152, y156, 0, y160, 0, [], y161, y162, y163))) (brB (iEq (iAdd .i64 1 y0) 6) (bnd (spec_l01Below.f k 256 y5 y6 y7) fun (y168, y169, y170, y171) => bnd (spec_l01Below.f k 8 y169 y170 y171) fun (y172, y173, y174, y175) => bnd (spec_l01PickInt.f k [0, 0, 0, 1, 2] y173 y174 y175) fun (y176, y177, y178, y179) => bnd (spec_l01PickInt.f k [8, 0, 20, 64] y177 y178 y179) fun (y180, y181, y182, y183) => brB (iEq y176 0) (bnd (spec_l01Below.f k 9 y181 y182 y183) fun (y184, y185, y186, y187) => bnd (spec_l04Data.f k (iMin y180 y184) y185 y186 y187) fun (y188, y189, y190, y191) => some (iAdd .i64 1 y0, y4, y168, 0, y180, y172, y176, y188, y189, y190, y191)) (some (iAdd .i64 1 y0, y4, y168, 0, y180, y172, y176, [], y181, y182, y183))) (some (iAdd .i64 1 y0, y4, 0, 0, 0, 0, 0, [], y5, y6, y7)))) (brB (iEq (iAdd .i64 1 y0) 5) (bnd (spec_l01Below.f k 256 y5 y6 y7) fun (y192, y193, y194, y195) => bnd (spec_l01Below.f k 64 y193 y194 y195) fun (y196, y197, y198, y199) => bnd (spec_l01Below.f k 8 y197 y198 y199) fun (y200, y201, y202, y203) => brB (iEq (iAdd .i64 1 y0) 5) (bnd (spec_l04Data.f k 1 y201 y202 y203) fun (y204, y205, y206, y207) => some (iAdd .i64 1 y0, y4, y192, y196, 0, y200, 0, y204, y205, y206, y207)) (some (iAdd .i64 1 y0, y4, y192, y196, 0, y200, 0, [], y201, y202, y203))) (brB (iEq (iAdd .i64 1 y0) 6) (bnd (spec_l01Below.f k 256 y5 y6 y7) fun (y208, y209, y210, y211) => bnd (spec_l01Below.f k 8 y209 y210 y211) fun (y212, y213, y214, y215) => bnd (spec_l01PickInt.f k [0, 0, 0, 1, 2] y213 y214 y215) fun (y216, y217, y218, y219) => bnd (spec_l01PickInt.f k [8, 0, 20, 64] y217 y218 y219) fun (y220, y221, y222, y223) => brB (iEq y216 0) (bnd (spec_l01Below.f k 9 y221 y222 y223) fun (y224, y225, y226, y227) => bnd (spec_l04Data.f k (iMin y220 y224) y225 y226 y227) fun (y228, y229, y230, y231) => some (iAdd .i64 1 y0, y4, y208, 0, y220, y212, y216, y228, y229, y230, y231)) (some (iAdd .i64 1 y0, y4, y208, 0, y220, y212, y216, [], y221, y222, y223))) (some (iAdd .i64 1 y0, y4, 0, 0, 0, 0, 0, [], y5, y6, y7)))))))
def sig : Sig := ⟨67, [.ref [.row (.int .u8), I, I]], [(true, [.val I, .val I, .val I, .val I, .val I, .val I, .val I, .own I])]⟩
def H : Hints := ⟨[], [], [(25, [0, 0, 2, 0, 8, 30, 63, 127, 255])], []⟩
def spec : Spec := { sig := sig, fn := fun k (x : List Int × Int × Int) => f k x.1 x.2.1 x.2.2 }
theorem ok : Holds Go.Proofs.Try.prog spec := holds_of_run (G := [spec_l01Below.spec, spec_l01PickInt.spec, spec_l04Data.spec]) (holds_cons spec_l01Below.ok (holds_cons spec_l01PickInt.ok (holds_cons spec_l04Data.ok holds_nil))) (by kernel_rfl) H Go.Proofs.Try.func67 (by kernel_rfl) (rfl : Go.Proofs.Try.f67.body = some _) (by kernel_rfl) (by kernel_rfl) fun k x y h => Eq.trans (by kernel_rfl : _ = spec.fn k x) h
end spec_l04Packet

namespace spec_DrawPacket
def f (k : Nat) (a0 : List Int) : Option (Int × Int × Int × Int × Int × Int × Int × List Int) := bnd (spec_l01New.f k a0) fun (y0, y1, y2) => bnd (spec_l04Packet.f k y0 y1 y2) fun (y3, y4, y5, y6, y7, y8, y9, y10, y11, y12, y13) => some (y3, y4, y5, y6, y7, y8, y9, y10)
def sig : Sig := ⟨34, [.w false [.row (.int .u8)]], [(true, [.val I, .val I, .val I, .val I, .val I, .val I, .val I, .own I])]⟩
def H : Hints := ⟨[], [], [], []⟩
def spec : Spec := { sig := sig, fn := fun k (x : List Int) => f k x }
theorem ok : Holds Go.Proofs.Try.prog spec := holds_of_run (G := [spec_l01New.spec, spec_l04Packet.spec]) (holds_cons spec_l01New.ok (holds_cons spec_l04Packet.ok holds_nil)) (by kernel_rfl) H Go.Proofs.Try.func34 (by kernel_rfl) (rfl : Go.Proofs.Try.f34.body = some _) (by kernel_rfl) (by kernel_rfl) fun k x y h => Eq.trans (by kernel_rfl : _ = spec.fn k x) h
end spec_DrawPacket

namespace impl_IsId
def f (k : Nat) (a0 : Int) : Option (Bool) := bnd (impl_within.f k a0 0 255) fun y0 => some y0
def sig : Sig := ⟨72, [.w false [I]], [(false, [.val .bool])]⟩
def H : Hints := ⟨[], [], [], []⟩
def spec : Spec := { sig := sig, fn := fun k (x : Int) => f k x }
theorem ok : Holds Go.Proofs.Try.prog spec := holds_of_run (G := [impl_within.spec]) (holds_cons impl_within.ok holds_nil) (by kernel_rfl) H Go.Proofs.Try.func72 (by kernel_rfl) (rfl : Go.Proofs.Try.f72.body = some _) (by kernel_rfl) (by kernel_rfl) fun k x y h => Eq.trans (by kernel_rfl : _ = spec.fn k x) h
end impl_IsId

namespace impl_Packet__words
def f (k : Nat) (a0_0 : Int) (a0_1 : Int) (a0_2 : Int) (a0_3 : Int) (a0_4 : Int) (a0_5 : Int) (a0_6 : Int) (a0_7 : List Int) : Option (Int) := brB (iEq a0_0 3) (some a0_4) (some (rLen a0_7))
def sig : Sig := ⟨91, [.w true [I, I, I, I, I, I, I, .row I]], [(false, [.val I])]⟩
def H : Hints := ⟨[], [], [], []⟩
def spec : Spec := { sig := sig, fn := fun k (x : Int × Int × Int × Int × Int × Int × Int × List Int) => f k x.1 x.2.1 x.2.2.1 x.2.2.2.1 x.2.2.2.2.1 x.2.2.2.2.2.1 x.2.2.2.2.2.2.1 x.2.2.2.2.2.2.2 }
theorem ok : Holds Go.Proofs.Try.prog spec := holds_of_run (G := []) holds_nil (by kernel_rfl) H Go.Proofs.Try.func91 (by kernel_rfl) (rfl : Go.Proofs.Try.f91.body = some _) (by kernel_rfl) (by kernel_rfl) fun k x y h => Eq.trans (by kernel_rfl : _ = spec.fn k x) h
end impl_Packet__words

namespace impl_Packet__addressOk
def f (k : Nat) (a0_0 : Int) (a0_1 : Int) (a0_2 : Int) (a0_3 : Int) (a0_4 : Int) (a0_5 : Int) (a0_6 : Int) (a0_7 : List Int) : Option (Bool) := brB (iEq a0_0 1) (brB (iEq a0_0 1) (bnd (impl_within.f k a0_3 0 65535) fun y0 => brB y0 (bnd (impl_Packet__words.f k a0_0 a0_1 a0_2 a0_3 a0_4 a0_5 a0_6 a0_7) fun y1 => some (iLe y1 (iSub .i64 65536 a0_3))) (some false)) (brB (iEq a0_0 4) (brB (iEq a0_0 4) (bnd (impl_within.f k a0_3 0 63) fun y2 => some y2) (some (iEq a0_3 0))) (brB (iEq a0_0 5) (bnd (impl_within.f k a0_3 0 63) fun y3 => some y3) (some (iEq a0_3 0))))) (brB (iEq a0_0 3) (bnd (impl_within.f k a0_3 0 65535) fun y4 => brB y4 (bnd (impl_Packet__words.f k a0_0 a0_1 a0_2 a0_3 a0_4 a0_5 a0_6 a0_7) fun y5 => some (iLe y5 (iSub .i64 65536 a0_3))) (some false)) (brB (iEq a0_0 4) (brB (iEq a0_0 4) (bnd (impl_within.f k a0_3 0 63) fun y6 => some y6) (some (iEq a0_3 0))) (brB (iEq a0_0 5) (bnd (impl_within.f k a0_3 0 63) fun y7 => some y7) (some (iEq a0_3 0)))))
def sig : Sig := ⟨73, [.w true [I, I, I, I, I, I, I, .row I]], [(false, [.val .bool])]⟩
def H : Hints := ⟨[], [], [(4, [0, 1, 3, 7, 15, 31, 15, 79, 207, 511, 1023, 2047])], []⟩
def spec : Spec := { sig := sig, fn := fun k (x : Int × Int × Int × Int × Int × Int × Int × List Int) => f k x.1 x.2.1 x.2.2.1 x.2.2.2.1 x.2.2.2.2.1 x.2.2.2.2.2.1 x.2.2.2.2.2.2.1 x.2.2.2.2.2.2.2 }
theorem ok : Holds Go.Proofs.Try.prog spec := holds_of_run (G := [impl_within.spec, impl_Packet__words.spec]) (holds_cons impl_within.ok (holds_cons impl_Packet__words.ok holds_nil)) (by kernel_rfl) H Go.Proofs.Try.func73 (by kernel_rfl) (rfl : Go.Proofs.Try.f73.body = some _) (by kernel_rfl) (by kernel_rfl) fun k x y h => Eq.trans (by kernel_rfl : _ = spec.fn k x) h
end impl_Packet__addressOk

namespace impl_Packet__lengthOk
def f (k : Nat) (a0_0 : Int) (a0_1 : Int) (a0_2 : Int) (a0_3 : Int) (a0_4 : Int) (a0_5 : Int) (a0_6 : Int) (a0_7 : List Int) : Option (Bool) := brB (iEq a0_0 3) (bnd (impl_within.f k a0_4 1 64) fun y0 => some y0) (brB (iEq a0_0 6) (bnd (impl_within.f k a0_4 0 64) fun y1 => some y1) (some (iEq a0_4 0)))
def sig : Sig := ⟨74, [.w true [I, I, I, I, I, I, I, .row I]], [(false, [.val .bool])]⟩
def H : Hints := ⟨[], [], [], []⟩
def spec : Spec := { sig := sig, fn := fun k (x : Int × Int × Int × Int × Int × Int × Int × List Int) => f k x.1 x.2.1 x.2.2.1 x.2.2.2.1 x.2.2.2.2.1 x.2.2.2.2.2.1 x.2.2.2.2.2.2.1 x.2.2.2.2.2.2.2 }
theorem ok : Holds Go.Proofs.Try.prog spec := holds_of_run (G := [impl_within.spec]) (holds_cons impl_within.ok holds_nil) (by kernel_rfl) H Go.Proofs.Try.func74 (by kernel_rfl) (rfl : Go.Proofs.Try.f74.body = some _) (by kernel_rfl) (by kernel_rfl) fun k x y h => Eq.trans (by kernel_rfl : _ = spec.fn k x) h
end impl_Packet__lengthOk

namespace impl_isWord
def f (k : Nat) (a0 : Int) : Option (Bool) := bnd (impl_within.f k a0 0 65535) fun y0 => some y0
def sig : Sig := ⟨94, [.w false [I]], [(false, [.val .bool])]⟩
def H : Hints := ⟨[], [], [], []⟩
def spec : Spec := { sig := sig, fn := fun k (x : Int) => f k x }
theorem ok : Holds Go.Proofs.Try.prog spec := holds_of_run (G := [impl_within.spec]) (holds_cons impl_within.ok holds_nil) (by kernel_rfl) H Go.Proofs.Try.func94 (by kernel_rfl) (rfl : Go.Proofs.Try.f94.body = some _) (by kernel_rfl) (by kernel_rfl) fun k x y h => Eq.trans (by kernel_rfl : _ = spec.fn k x) h
end impl_isWord

namespace impl_Packet__dataOk_1
def f (k : Nat) (a0 : Int) : Option (Bool) := bnd (impl_isWord.f k a0) fun y0 => some (bNot y0)
def sig : Sig := ⟨93, [.w false [I]], [(false, [.val .bool])]⟩
def H : Hints := ⟨[], [], [], []⟩
def spec : Spec := { sig := sig, fn := fun k (x : Int) => f k x }
theorem ok : Holds Go.Proofs.Try.prog spec := holds_of_run (G := [impl_isWord.spec]) (holds_cons impl_isWord.ok holds_nil) (by kernel_rfl) H Go.Proofs.Try.func93 (by kernel_rfl) (rfl : Go.Proofs.Try.f93.body = some _) (by kernel_rfl) (by kernel_rfl) fun k x y h => Eq.trans (by kernel_rfl : _ = spec.fn k x) h
end impl_Packet__dataOk_1

namespace slices_IndexFunc_int_impl_Packet__dataOk_1
def s0 (k : Nat) (rec0 : (List Int × Int × Int) → Option (Int)) (x0 : List Int) (x1 : Int) (x2 : Int) : Option (Int) := brB (iLt x2 x1) (chk (cIdx x2 (rLen x0)) (bnd (impl_Packet__dataOk_1.f k (rGet 0 x0 x2)) fun y0 => brB y0 (some x2) (rec0 (x0, x1, iAdd .i64 x2 1)))) (some (-1))
def l0 (k n : Nat) (x0 : List Int) (x1 : Int) (x2 : Int) : Option (Int) := iter (fun (rec : (List Int × Int × Int) → Option (Int)) (x : List Int × Int × Int) => s0 k rec x.1 x.2.1 x.2.2) n (x0, x1, x2)
def f (k : Nat) (a0 : List Int) : Option (Int) := l0 k k a0 (rLen a0) 0
def sig : Sig := ⟨99, [.w false [.row I], .fn 93 []], [(false, [.val I])]⟩
def H : Hints := ⟨[(2, ⟨⟨[(0, .w false 1), (1, .fn 93 []), (7, .w false 1), (8, .w false 1)], []⟩, [], [.val (.row I), .val I, .val I], []⟩)], [], [], []⟩
def spec : Spec := { sig := sig, fn := fun k (x : List Int) => f k x }
theorem ok : Holds Go.Proofs.Try.prog spec := holds_of_run (G := [impl_Packet__dataOk_1.spec]) (holds_cons impl_Packet__dataOk_1.ok holds_nil) (by kernel_rfl) H Go.Proofs.Try.func99 (by kernel_rfl) (rfl : Go.Proofs.Try.f99.body = some _) (by kernel_rfl) (by kernel_rfl) fun k x y h => Eq.trans (by kernel_rfl : _ = spec.fn k x) h
end slices_IndexFunc_int_impl_Packet__dataOk_1

namespace slices_ContainsFunc_int_impl_Packet__dataOk_1
def f (k : Nat) (a0 : List Int) : Option (Bool) := bnd (slices_IndexFunc_int_impl_Packet__dataOk_1.f k a0) fun y0 => some (iLe 0 y0)
def sig : Sig := ⟨92, [.w false [.row I], .fn 93 []], [(false, [.val .bool])]⟩
def H : Hints := ⟨[], [], [], []⟩
def spec : Spec := { sig := sig, fn := fun k (x : List Int) => f k x }
theorem ok : Holds Go.Proofs.Try.prog spec := holds_of_run (G := [slices_IndexFunc_int_impl_Packet__dataOk_1.spec]) (holds_cons slices_IndexFunc_int_impl_Packet__dataOk_1.ok holds_nil) (by kernel_rfl) H Go.Proofs.Try.func92 (by kernel_rfl) (rfl : Go.Proofs.Try.f92.body = some _) (by kernel_rfl) (by kernel_rfl) fun k x y h => Eq.trans (by kernel_rfl : _ = spec.fn k x) h
end slices_ContainsFunc_int_impl_Packet__dataOk_1

namespace impl_Packet__dataOk
def f (k : Nat) (a0_0 : Int) (a0_1 : Int) (a0_2 : Int) (a0_3 : Int) (a0_4 : Int) (a0_5 : Int) (a0_6 : Int) (a0_7 : List Int) : Option (Bool) := bnd (slices_ContainsFunc_int_impl_Packet__dataOk_1.f k a0_7) fun y0 => brB y0 (some false) (brB (iEq a0_0 1) (bnd (impl_within.f k (rLen a0_7) 1 8) fun y1 => some y1) (brB (iEq a0_0 2) (bnd (impl_within.f k (rLen a0_7) 1 8) fun y2 => some y2) (brB (iEq a0_0 5) (some (iEq (rLen a0_7) 1)) (brB (iEq a0_0 6) (brB (iEq a0_6 0) (brB (iLe (rLen a0_7) 8) (some (iLe (rLen a0_7) a0_4)) (some false)) (some (iEq (rLen a0_7) 0))) (some (iEq (rLen a0_7) 0))))))
def sig : Sig := ⟨75, [.w true [I, I, I, I, I, I, I, .row I]], [(false, [.val .bool])]⟩
def H : Hints := ⟨[], [], [], []⟩
def spec : Spec := { sig := sig, fn := fun k (x : Int × Int × Int × Int × Int × Int × Int × List Int) => f k x.1 x.2.1 x.2.2.1 x.2.2.2.1 x.2.2.2.2.1 x.2.2.2.2.2.1 x.2.2.2.2.2.2.1 x.2.2.2.2.2.2.2 }
theorem ok : Holds Go.Proofs.Try.prog spec := holds_of_run (G := [impl_within.spec, slices_ContainsFunc_int_impl_Packet__dataOk_1.spec]) (holds_cons impl_within.ok (holds_cons slices_ContainsFunc_int_impl_Packet__dataOk_1.ok holds_nil)) (by kernel_rfl) H Go.Proofs.Try.func75 (by kernel_rfl) (rfl : Go.Proofs.Try.f75.body = some _) (by kernel_rfl) (by kernel_rfl) fun k x y h => Eq.trans (by kernel_rfl : _ = spec.fn k x) h
end impl_Packet__dataOk

namespace impl_IsPacket
def f (k : Nat) (a0_0 : Int) (a0_1 : Int) (a0_2 : Int) (a0_3 : Int) (a0_4 : Int) (a0_5 : Int) (a0_6 : Int) (a0_7 : List Int) : Option (Bool) := bnd (impl_within.f k a0_0 1 6) fun y0 => brB (bNot y0) (some false) (bnd (impl_IsId.f k a0_1) fun y1 => brB (bNot y1) (some false) (bnd (impl_Packet__addressOk.f k a0_0 a0_1 a0_2 a0_3 a0_4 a0_5 a0_6 a0_7) fun y2 => brB (bNot y2) (some false) (bnd (impl_Packet__lengthOk.f k a0_0 a0_1 a0_2 a0_3 a0_4 a0_5 a0_6 a0_7) fun y3 => brB (bNot y3) (some false) (bnd (impl_within.f k a0_0 4 6) fun y4 => brB y4 (bnd (impl_IsId.f k a0_2) fun y5 => brB (bNot y5) (some false) (brB (bNot y4) (brB (iNe a0_2 0) (some false) (bnd (impl_within.f k a0_0 3 6) fun y6 => brB y6 (bnd (impl_within.f k a0_5 0 7) fun y7 => brB (bNot y7) (some false) (brB (bNot y6) (brB (iNe a0_5 0) (some false) (brB (iEq a0_0 6) (bnd (impl_within.f k a0_6 0 2) fun y8 => brB (bNot y8) (some false) (brB (iNe a0_0 6) (brB (iNe a0_6 0) (some false) (bnd (impl_Packet__dataOk.f k a0_0 a0_1 a0_2 a0_3 a0_4 a0_5 a0_6 a0_7) fun y9 => some y9)) (bnd (impl_Packet__dataOk.f k a0_0 a0_1 a0_2 a0_3 a0_4 a0_5 a0_6 a0_7) fun y10 => some y10))) (brB (iNe a0_0 6) (brB (iNe a0_6 0) (some false) (bnd (impl_Packet__dataOk.f k a0_0 a0_1 a0_2 a0_3 a0_4 a0_5 a0_6 a0_7) fun y11 => some y11)) (bnd (impl_Packet__dataOk.f k a0_0 a0_1 a0_2 a0_3 a0_4 a0_5 a0_6 a0_7) fun y12 => some y12)))) (brB (iEq a0_0 6) (bnd (impl_within.f k a0_6 0 2) fun y13 => brB (bNot y13) (some false) (brB (iNe a0_0 6) (brB (iNe a0_6 0) (some false) (bnd (impl_Packet__dataOk.f k a0_0 a0_1 a0_2 a0_3 a0_4 a0_5 a0_6 a0_7) fun y14 => some y14)) (bnd (impl_Packet__dataOk.f k a0_0 a0_1 a0_2 a0_3 a0_4 a0_5 a0_6 a0_7) fun y15 => some y15))) (brB (iNe a0_0 6) (brB (iNe a0_6 0) (some false) (bnd (impl_Packet__dataOk.f k a0_0 a0_1 a0_2 a0_3 a0_4 a0_5 a0_6 a0_7) fun y16 => some y16)) (bnd (impl_Packet__dataOk.f k a0_0 a0_1 a0_2 a0_3 a0_4 a0_5 a0_6 a0_7) fun y17 => some y17))))) (brB (bNot y6) (brB (iNe a0_5 0) (some false) (brB (iEq a0_0 6) (bnd (impl_within.f k a0_6 0 2) fun y18 => brB (bNot y18) (some false) (brB (iNe a0_0 6) (brB (iNe a0_6 0) (some false) (bnd (impl_Packet__dataOk.f k a0_0 a0_1 a0_2 a0_3 a0_4 a0_5 a0_6 a0_7) fun y19 => some y19)) (bnd (impl_Packet__dataOk.f k a0_0 a0_1 a0_2 a0_3 a0_4 a0_5 a0_6 a0_7) fun y20 => some y20))) (brB (iNe a0_0 6) (brB (iNe a0_6 0) (some false) (bnd (impl_Packet__dataOk.f k a0_0 a0_1 a0_2 a0_3 a0_4 a0_5 a0_6 a0_7) fun y21 => some y21)) (bnd (impl_Packet__dataOk.f k a0_0 a0_1 a0_2 a0_3 a0_4 a0_5 a0_6 a0_7) fun y22 => some y22)))) (brB (iEq a0_0 6) (bnd (impl_within.f k a0_6 0 2) fun y23 => brB (bNot y23) (some false) (brB (iNe a0_0 6) (brB (iNe a0_6 0) (some false) (bnd (impl_Packet__dataOk.f k a0_0 a0_1 a0_2 a0_3 a0_4 a0_5 a0_6 a0_7) fun y24 => some y24)) (bnd (impl_Packet__dataOk.f k a0_0 a0_1 a0_2 a0_3 a0_4 a0_5 a0_6 a0_7) fun y25 => some y25))) (brB (iNe a0_0 6) (brB (iNe a0_6 0) (some false) (bnd (impl_Packet__dataOk.f k a0_0 a0_1 a0_2 a0_3 a0_4 a0_5 a0_6 a0_7) fun y26 => some y26)) (bnd (impl_Packet__dataOk.f k a0_0 a0_1 a0_2 a0_3 a0_4 a0_5 a0_6 a0_7) fun y27 => some y27)))))) (bnd (impl_within.f k a0_0 3 6) fun y28 => brB y28 (bnd (impl_within.f k a0_5 0 7) fun y29 => brB (bNot y29) (some false) (brB (bNot y28) (brB (iNe a0_5 0) (some false) (brB (iEq a0_0 6) (bnd (impl_within.f k a0_6 0 2) fun y30 => brB (bNot y30) (some false) (brB (iNe a0_0 6) (brB (iNe a0_6 0) (some false) (bnd (impl_Packet__dataOk.f k a0_0 a0_1 a0_2 a0_3 a0_4 a0_5 a0_6 a0_7) fun y31 => some y31)) (bnd (impl_Packet__dataOk.f k a0_0 a0_1 a0_2 a0_3 a0_4 a0_5 a0_6 a0_7) fun y32 => some y32))) (brB (iNe a0_0 6) (brB (iNe a0_6 0) (some false) (bnd (impl_Packet__dataOk.f k a0_0 a0_1 a0_2 a0_3 a0_4 a0_5 a0_6 a0_7) fun y33 => some y33)) (bnd (impl_Packet__dataOk.f k a0_0 a0_1 a0_2 a0_3 a0_4 a0_5 a0_6 a0_7) fun y34 => some y34)))) (brB (iEq a0_0 6) (bnd (impl_within.f k a0_6 0 2) fun y35 => brB (bNot y35) (some false) (brB (iNe a0_0 6) (brB (iNe a0_6 0) (some false) (bnd (impl_Packet__dataOk.f k a0_0 a0_1 a0_2 a0_3 a0_4 a0_5 a0_6 a0_7) fun y36 => some y36)) (bnd (impl_Packet__dataOk.f k a0_0 a0_1 a0_2 a0_3 a0_4 a0_5 a0_6 a0_7) fun y37 => some y37))) (brB (iNe a0_0 6) (brB (iNe a0_6 0) (some false) (bnd (impl_Packet__dataOk.f k a0_0 a0_1 a0_2 a0_3 a0_4 a0_5 a0_6 a0_7) fun y38 => some y38)) (bnd (impl_Packet__dataOk.f k a0_0 a0_1 a0_2 a0_3 a0_4 a0_5 a0_6 a0_7) fun y39 => some y39))))) (brB (bNot y28) (brB (iNe a0_5 0) (some false) (brB (iEq a0_0 6) (bnd (impl_within.f k a0_6 0 2) fun y40 => brB (bNot y40) (some false) (brB (iNe a0_0 6) (brB (iNe a0_6 0) (some false) (bnd (impl_Packet__dataOk.f k a0_0 a0_1 a0_2 a0_3 a0_4 a0_5 a0_6 a0_7) fun y41 => some y41)) (bnd (impl_Packet__dataOk.f k a0_0 a0_1 a0_2 a0_3 a0_4 a0_5 a0_6 a0_7) fun y42 => some y42))) (brB (iNe a0_0 6) (brB (iNe a0_6 0) (some false) (bnd (impl_Packet__dataOk.f k a0_0 a0_1 a0_2 a0_3 a0_4 a0_5 a0_6 a0_7) fun y43 => some y43)) (bnd (impl_Packet__dataOk.f k a0_0 a0_1 a0_2 a0_3 a0_4 a0_5 a0_6 a0_7) fun y44 => some y44)))) (brB (iEq a0_0 6) (bnd (impl_within.f k a0_6 0 2) fun y45 => brB (bNot y45) (some false) (brB (iNe a0_0 6) (brB (iNe a0_6 0) (some false) (bnd (impl_Packet__dataOk.f k a0_0 a0_1 a0_2 a0_3 a0_4 a0_5 a0_6 a0_7) fun y46 => some y46)) (bnd (impl_Packet__dataOk.f k a0_0 a0_1 a0_2 a0_3 a0_4 a0_5 a0_6 a0_7) fun y47 => some y47))) (brB (iNe a0_0 6) (brB (iNe a0_6 0) (some false) (bnd (impl_Packet__dataOk.f k a0_0 a0_1 a0_2 a0_3 a0_4 a0_5 a0_6 a0_7) fun y48 => some y48)) (bnd (impl_Packet__dataOk.f k a0_0 a0_1 a0_2 a0_3 a0_4 a0_5 a0_6 a0_7) fun y49 => some y49))))))) (brB (bNot y4) (brB (iNe a0_2 0) (some false) (bnd (impl_within.f k a0_0 3 6) fun y50 => brB y50 (bnd (impl_within.f k a0_5 0 7) fun y51 => brB (bNot y51) (some false) (brB (bNot y50) (brB (iNe a0_5 0) (some false) (brB (iEq a0_0 6) (bnd (impl_within.f k a0_6 0 2) fun y52 => brB (bNot y52) (some false) (brB (iNe a0_0 6) (brB (iNe a0_6 0) (some false) (bnd (impl_Packet__dataOk.f k a0_0 a0_1 a0_2 a0_3 a0_4 a0_5 a0_6 a0_7) fun y53 => some y53)) (bnd (impl_Packet__dataOk.f k a0_0 a0_1 a0_2 a0_3 a0_4 a0_5 a0_6 a0_7) fun y54 => some y54))) (brB (iNe a0_0 6) (brB (iNe a0_6 0) (some false) (bnd (impl_Packet__dataOk.f k a0_0 a0_1 a0_2 a0_3 a0_4 a0_5 a0_6 a0_7) fun y55 => some y55)) (bnd (impl_Packet__dataOk.f k a0_0 a0_1 a0_2 a0_3 a0_4 a0_5 a0_6 a0_7) fun y56 => some y56)))) (brB (iEq a0_0 6) (bnd (impl_within.f k a0_6 0 2) fun y57 => brB (bNot y57) (some false) (brB (iNe a0_0 6) (brB (iNe a0_6 0) (some false) (bnd (impl_Packet__dataOk.f k a0_0 a0_1 a0_2 a0_3 a0_4 a0_5 a0_6 a0_7) fun y58 => some y58)) (bnd (impl_Packet__dataOk.f k a0_0 a0_1 a0_2 a0_3 a0_4 a0_5 a0_6 a0_7) fun y59 => some y59))) (brB (iNe a0_0 6) (brB (iNe a0_6 0) (some false) (bnd (impl_Packet__dataOk.f k a0_0 a0_1 a0_2 a0_3 a0_4 a0_5 a0_6 a0_7) fun y60 => some y60)) (bnd (impl_Packet__dataOk.f k a0_0 a0_1 a0_2 a0_3 a0_4 a0_5 a0_6 a0_7) fun y61 => some y61))))) (brB (bNot y50) (brB (iNe a0_5 0) (some false) (brB (iEq a0_0 6) (bnd (impl_within.f k a0_6 0 2) fun y62 => brB (bNot y62) (some false) (brB (iNe a0_0 6) (brB (iNe a0_6 0) (some false) (bnd (impl_Packet__dataOk.f k a0_0 a0_1 a0_2 a0_3 a0_4 a0_5 a0_6 a0_7) fun y63 => some y63)) (bnd (impl_Packet__dataOk.f k a0_0 a0_1 a0_2 a0_3 a0_4 a0_5 a0_6 a0_7) fun y64 => some y64))) (brB (iNe a0_0 6) (brB (iNe a0_6 0) (some false) (bnd (impl_Packet__dataOk.f k a0_0 a0_1 a0_2 a0_3 a0_4 a0_5 a0_6 a0_7) fun y65 => some y65)) (bnd (impl_Packet__dataOk.f k a0_0 a0_1 a0_2 a0_3 a0_4 a0_5 a0_6 a0_7) fun y66 => some y66)))) (brB (iEq a0_0 6) (bnd (impl_within.f k a0_6 0 2) fun y67 => brB (bNot y67) (some false) (brB (iNe a0_0 6) (brB (iNe a0_6 0) (some false) (bnd (impl_Packet__dataOk.f k a0_0 a0_1 a0_2 a0_3 a0_4 a0_5 a0_6 a0_7) fun y68 => some y68)) (bnd (impl_Packet__dataOk.f k a0_0 a0_1 a0_2 a0_3 a0_4 a0_5 a0_6 a0_7) fun y69 => some y69))) (brB (iNe a0_0 6) (brB (iNe a0_6 0) (some false) (bnd (impl_Packet__dataOk.f k a0_0 a0_1 a0_2 a0_3 a0_4 a0_5 a0_6 a0_7) fun y70 => some y70)) (bnd (impl_Packet__dataOk.f k a0_0 a0_1 a0_2 a0_3 a0_4 a0_5 a0_6 a0_7) fun y71 => some y71)))))) (bnd (impl_within.f k a0_0 3 6) fun y72 => brB y72 (bnd (impl_within.f k a0_5 0 7) fun y73 => brB (bNot y73) (some false) (brB (bNot y72) (brB (iNe a0_5 0) (some false) (brB (iEq a0_0 6) (bnd (impl_within.f k a0_6 0 2) fun y74 => brB (bNot y74) (some false) (brB (iNe a0_0 6) (brB (iNe a0_6 0) (some false) (bnd (impl_Packet__dataOk.f k a0_0 a0_1 a0_2 a0_3 a0_4 a0_5 a0_6 a0_7) fun y75 => some y75)) (bnd (impl_Packet__dataOk.f k a0_0 a0_1 a0_2 a0_3 a0_4 a0_5 a0_6 a0_7) fun y76 => some y76))) (brB (iNe a0_0 6) (brB (iNe a0_6 0) (some false) (bnd (impl_Packet__dataOk.f k a0_0 a0_1 a0_2 a0_3 a0_4 a0_5 a0_6 a0_7) fun y77 => some y77)) (bnd (impl_Packet__dataOk.f k a0_0 a0_1 a0_2 a0_3 a0_4 a0_5 a0_6 a0_7) fun y78 => some y78)))) (brB (iEq a0_0 6) (bnd (impl_within.f k a0_6 0 2) fun y79 => brB (bNot y79) (some false) (brB (iNe a0_0 6) (brB (iNe a0_6 0) (some false) (bnd (impl_Packet__dataOk.f k a0_0 a0_1 a0_2 a0_3 a0_4 a0_5 a0_6 a0_7) fun y80 => some y80)) (bnd (impl_Packet__dataOk.f k a0_0 a0_1 a0_2 a0_3 a0_4 a0_5 a0_6 a0_7) fun y81 => some y81))) (brB (iNe a0_0 6) (brB (iNe a0_6 0) (some false) (bnd (impl_Packet__dataOk.f k a0_0 a0_1 a0_2 a0_3 a0_4 a0_5 a0_6 a0_7) fun y82 => some y82)) (bnd (impl_Packet__dataOk.f k a0_0 a0_1 a0_2 a0_3 a0_4 a0_5 a0_6 a0_7) fun y83 => some y83))))) (brB (bNot y72) (brB (iNe a0_5 0) (some false) (brB (iEq a0_0 6) (bnd (impl_within.f k a0_6 0 2) fun y84 => brB (bNot y84) (some false) (brB (iNe a0_0 6) (brB (iNe a0_6 0) (some false) (bnd (impl_Packet__dataOk.f k a0_0 a0_1 a0_2 a0_3 a0_4 a0_5 a0_6 a0_7) fun y85 => some y85)) (bnd (impl_Packet__dataOk.f k a0_0 a0_1 a0_2 a0_3 a0_4 a0_5 a0_6 a0_7) fun y86 => some y86))) (brB (iNe a0_0 6) (brB (iNe a0_6 0) (some false) (bnd (impl_Packet__dataOk.f k a0_0 a0_1 a0_2 a0_3 a0_4 a0_5 a0_6 a0_7) fun y87 => some y87)) (bnd (impl_Packet__dataOk.f k a0_0 a0_1 a0_2 a0_3 a0_4 a0_5 a0_6 a0_7) fun y88 => some y88)))) (brB (iEq a0_0 6) (bnd (impl_within.f k a0_6 0 2) fun y89 => brB (bNot y89) (some false) (brB (iNe a0_0 6) (brB (iNe a0_6 0) (some false) (bnd (impl_Packet__dataOk.f k a0_0 a0_1 a0_2 a0_3 a0_4 a0_5 a0_6 a0_7) fun y90 => some y90)) (bnd (impl_Packet__dataOk.f k a0_0 a0_1 a0_2 a0_3 a0_4 a0_5 a0_6 a0_7) fun y91 => some y91))) (brB (iNe a0_0 6) (brB (iNe a0_6 0) (some false) (bnd (impl_Packet__dataOk.f k a0_0 a0_1 a0_2 a0_3 a0_4 a0_5 a0_6 a0_7) fun y92 => some y92)) (bnd (impl_Packet__dataOk.f k a0_0 a0_1 a0_2 a0_3 a0_4 a0_5 a0_6 a0_7) fun y93 => some y93))))))))))
def sig : Sig := ⟨37, [.w true [I, I, I, I, I, I, I, .row I]], [(false, [.val .bool])]⟩
def H : Hints := ⟨[], [], [], []⟩
def spec : Spec := { sig := sig, fn := fun k (x : Int × Int × Int × Int × Int × Int × Int × List Int) => f k x.1 x.2.1 x.2.2.1 x.2.2.2.1 x.2.2.2.2.1 x.2.2.2.2.2.1 x.2.2.2.2.2.2.1 x.2.2.2.2.2.2.2 }
theorem ok : Holds Go.Proofs.Try.prog spec := holds_of_run (G := [impl_within.spec, impl_IsId.spec, impl_Packet__addressOk.spec, impl_Packet__lengthOk.spec, impl_Packet__dataOk.spec]) (holds_cons impl_within.ok (holds_cons impl_IsId.ok (holds_cons impl_Packet__addressOk.ok (holds_cons impl_Packet__lengthOk.ok (holds_cons impl_Packet__dataOk.ok holds_nil))))) (by kernel_rfl) H Go.Proofs.Try.func37 (by kernel_rfl) (rfl : Go.Proofs.Try.f37.body = some _) (by kernel_rfl) (by kernel_rfl) fun k x y h => Eq.trans (by kernel_rfl : _ = spec.fn k x) h
end impl_IsPacket

namespace impl_classOf
def f (k : Nat) (a0 : Int) : Option (Int) := brB (iEq a0 1) (brB (iEq a0 1) (some 0) (brB (iEq a0 6) (some 2) (some 1))) (brB (iEq a0 2) (some 0) (brB (iEq a0 6) (some 2) (some 1)))
def sig : Sig := ⟨70, [.w false [I]], [(false, [.val I])]⟩
def H : Hints := ⟨[], [], [], []⟩
def spec : Spec := { sig := sig, fn := fun k (x : Int) => f k x }
theorem ok : Holds Go.Proofs.Try.prog spec := holds_of_run (G := []) holds_nil (by kernel_rfl) H Go.Proofs.Try.func70 (by kernel_rfl) (rfl : Go.Proofs.Try.f70.body = some _) (by kernel_rfl) (by kernel_rfl) fun k x y h => Eq.trans (by kernel_rfl : _ = spec.fn k x) h
end impl_classOf

namespace impl_ClassOf
def f (k : Nat) (a0_0 : Int) (a0_1 : Int) (a0_2 : Int) (a0_3 : Int) (a0_4 : Int) (a0_5 : Int) (a0_6 : Int) (a0_7 : List Int) : Option (Int) := bnd (impl_IsPacket.f k a0_0 a0_1 a0_2 a0_3 a0_4 a0_5 a0_6 a0_7) fun y0 => brB (bNot y0) (some (-1)) (bnd (impl_classOf.f k a0_0) fun y1 => some y1)
def sig : Sig := ⟨36, [.w true [I, I, I, I, I, I, I, .row I]], [(false, [.val I])]⟩
def H : Hints := ⟨[], [], [], []⟩
def spec : Spec := { sig := sig, fn := fun k (x : Int × Int × Int × Int × Int × Int × Int × List Int) => f k x.1 x.2.1 x.2.2.1 x.2.2.2.1 x.2.2.2.2.1 x.2.2.2.2.2.1 x.2.2.2.2.2.2.1 x.2.2.2.2.2.2.2 }
theorem ok : Holds Go.Proofs.Try.prog spec := holds_of_run (G := [impl_IsPacket.spec, impl_classOf.spec]) (holds_cons impl_IsPacket.ok (holds_cons impl_classOf.ok holds_nil)) (by kernel_rfl) H Go.Proofs.Try.func36 (by kernel_rfl) (rfl : Go.Proofs.Try.f36.body = some _) (by kernel_rfl) (by kernel_rfl) fun k x y h => Eq.trans (by kernel_rfl : _ = spec.fn k x) h
end impl_ClassOf

namespace impl_RefusalOf
def f (k : Nat) (a0_0 : Int) (a0_1 : Int) (a0_2 : Int) (a0_3 : Int) (a0_4 : Int) (a0_5 : Int) (a0_6 : Int) (a0_7 : List Int) (a1 : Int) (a2 : Int) : Option (Int × Int × Int × Int × Int × Int × Int × List Int × Bool) := bnd (impl_ClassOf.f k a0_0 a0_1 a0_2 a0_3 a0_4 a0_5 a0_6 a0_7) fun y0 => brB (iNe y0 1) (some (0, 0, 0, 0, 0, 0, 0, [], false)) (bnd (impl_IsId.f k a1) fun y1 => brB (bNot y1) (some (0, 0, 0, 0, 0, 0, 0, [], false)) (brB (iNe a2 1) (brB (iNe a2 2) (some (0, 0, 0, 0, 0, 0, 0, [], false)) (some (6, a1, a0_1, 0, 0, a0_5, a2, [], true))) (some (6, a1, a0_1, 0, 0, a0_5, a2, [], true))))
def sig : Sig := ⟨69, [.w true [I, I, I, I, I, I, I, .row I], .w false [I], .w false [I]], [(true, [.val I, .val I, .val I, .val I, .val I, .val I, .val I, .own I]), (false, [.val .bool])]⟩
def H : Hints := ⟨[], [], [], []⟩
def spec : Spec := { sig := sig, fn := fun k (x : Int × Int × Int × Int × Int × Int × Int × List Int × Int × Int) => f k x.1 x.2.1 x.2.2.1 x.2.2.2.1 x.2.2.2.2.1 x.2.2.2.2.2.1 x.2.2.2.2.2.2.1 x.2.2.2.2.2.2.2.1 x.2.2.2.2.2.2.2.2.1 x.2.2.2.2.2.2.2.2.2 }
theorem ok : Holds Go.Proofs.Try.prog spec := holds_of_run (G := [impl_IsId.spec, impl_ClassOf.spec]) (holds_cons impl_IsId.ok (holds_cons impl_ClassOf.ok holds_nil)) (by kernel_rfl) H Go.Proofs.Try.func69 (by kernel_rfl) (rfl : Go.Proofs.Try.f69.body = some _) (by kernel_rfl) (by kernel_rfl) fun k x y h => Eq.trans (by kernel_rfl : _ = spec.fn k x) h
end impl_RefusalOf

namespace impl_AnswerFor
def f (k : Nat) (a0 : List (Int × Int × Int)) (a1 : List Bool) (a2_0 : Int) (a2_1 : Int) (a2_2 : Int) (a2_3 : Int) (a2_4 : Int) (a2_5 : Int) (a2_6 : Int) (a2_7 : List Int) (a3 : Int) (a4 : Int) : Option (Int × Int × Int × Int × Int × Int × Int × List Int × Bool) := bnd (impl_GuardOk.f k a0 a1) fun y0 => brB (bNot y0) (some (0, 0, 0, 0, 0, 0, 0, [], false)) (bnd (impl_isNode.f k a0 a3) fun y1 => brB (bNot y1) (some (0, 0, 0, 0, 0, 0, 0, [], false)) (bnd (impl_isNode.f k a0 a4) fun y2 => brB (bNot y2) (some (0, 0, 0, 0, 0, 0, 0, [], false)) (bnd (impl_CanReach.f k a0 a1 a3 a4) fun y3 => brB y3 (some (0, 0, 0, 0, 0, 0, 0, [], false)) (bnd (impl_RefusalOf.f k a2_0 a2_1 a2_2 a2_3 a2_4 a2_5 a2_6 a2_7 a2_1 1) fun (y4, y5, y6, y7, y8, y9, y10, y11, y12) => some (y4, y5, y6, y7, y8, y9, y10, y11, y12)))))
def sig : Sig := ⟨35, [.w false [.row (.pair I (.pair I I))], .w true [.row .bool], .w true [I, I, I, I, I, I, I, .row I], .w false [I], .w false [I]], [(true, [.val I, .val I, .val I, .val I, .val I, .val I, .val I, .own I]), (false, [.val .bool])]⟩
def H : Hints := ⟨[], [], [], []⟩
def spec : Spec := { sig := sig, fn := fun k (x : List (Int × Int × Int) × List Bool × Int × Int × Int × Int × Int × Int × Int × List Int × Int × Int) => f k x.1 x.2.1 x.2.2.1 x.2.2.2.1 x.2.2.2.2.1 x.2.2.2.2.2.1 x.2.2.2.2.2.2.1 x.2.2.2.2.2.2.2.1 x.2.2.2.2.2.2.2.2.1 x.2.2.2.2.2.2.2.2.2.1 x.2.2.2.2.2.2.2.2.2.2.1 x.2.2.2.2.2.2.2.2.2.2.2 }
theorem ok : Holds Go.Proofs.Try.prog spec := holds_of_run (G := [impl_GuardOk.spec, impl_isNode.spec, impl_CanReach.spec, impl_RefusalOf.spec]) (holds_cons impl_GuardOk.ok (holds_cons impl_isNode.ok (holds_cons impl_CanReach.ok (holds_cons impl_RefusalOf.ok holds_nil)))) (by kernel_rfl) H Go.Proofs.Try.func35 (by kernel_rfl) (rfl : Go.Proofs.Try.f35.body = some _) (by kernel_rfl) (by kernel_rfl) fun k x y h => Eq.trans (by kernel_rfl : _ = spec.fn k x) h
end impl_AnswerFor

namespace laws_FnRefusals
def f (k : Nat) (a0 : List Int) : Option (Bool) := bnd (laws_big.f k a0) fun y0 => brB y0 (some true) (bnd (spec_DrawGuard.f k a0) fun (y1, y2) => bnd (spec_DrawPacket.f k a0) fun (y3, y4, y5, y6, y7, y8, y9, y10) => bnd (spec_DrawPlaces.f k a0) fun y11 => chk (cIdx 0 (rLen y11)) (chk (cNz (rLen y1)) (chk (cIdx 1 (rLen y11)) (chk (cNz (rLen y1)) (bnd (impl_AnswerFor.f k y1 y2 y3 y4 y5 y6 y7 y8 y9 y10 (iRem (rGet 0 y11 0) (rLen y1)) (iRem (rGet 0 y11 1) (rLen y1))) fun (y12, y13, y14, y15, y16, y17, y18, y19, y20) => bnd (impl_ClassOf.f k y3 y4 y5 y6 y7 y8 y9 y10) fun y21 => brB (iEq y21 1) (bnd (impl_CanReach.f k y1 y2 (iRem (rGet 0 y11 0) (rLen y1)) (iRem (rGet 0 y11 1) (rLen y1))) fun y22 => brB (bNe y20 (bNot y22)) (some false) (bnd (impl_CanReach.f k y1 y2 (iRem (rGet 0 y11 0) (rLen y1)) (iRem (rGet 0 y11 1) (rLen y1))) fun y23 => bnd (impl_CanReach.f k y1 y2 (iRem (rGet 0 y11 1) (rLen y1)) (iRem (rGet 0 y11 0) (rLen y1))) fun y24 => brB (bEq y23 y24) (bnd (impl_CanReach.f k y1 y2 (iRem (rGet 0 y11 0) (rLen y1)) (iRem (rGet 0 y11 0) (rLen y1))) fun y25 => brB y25 (brB (bNot y20) (some true) (bnd (impl_IsPacket.f k y12 y13 y14 y15 y16 y17 y18 y19) fun y26 => brB y26 (brB (iEq y12 6) (brB (iEq y18 1) (brB (iEq y14 y4) (some (iEq y17 y8)) (some false)) (some false)) (some false)) (some false))) (some false)) (some false))) (brB (bNe y20 false) (some false) (bnd (impl_CanReach.f k y1 y2 (iRem (rGet 0 y11 0) (rLen y1)) (iRem (rGet 0 y11 1) (rLen y1))) fun y27 => bnd (impl_CanReach.f k y1 y2 (iRem (rGet 0 y11 1) (rLen y1)) (iRem (rGet 0 y11 0) (rLen y1))) fun y28 => brB (bEq y27 y28) (bnd (impl_CanReach.f k y1 y2 (iRem (rGet 0 y11 0) (rLen y1)) (iRem (rGet 0 y11 0) (rLen y1))) fun y29 => brB y29 (brB (bNot y20) (some true) (bnd (impl_IsPacket.f k y12 y13 y14 y15 y16 y17 y18 y19) fun y30 => brB y30 (brB (iEq y12 6) (brB (iEq y18 1) (brB (iEq y14 y4) (some (iEq y17 y8)) (some false)) (some false)) (some false)) (some false))) (some false)) (some false))))))))
def sig : Sig := ⟨8, [.w false [.row (.int .u8)]], [(false, [.val .bool])]⟩
def H : Hints := ⟨[], [], [(11, [0, 0, 0, 0, 15, 0, 0, 0, 0, 511, 1023, 2047, 4095, 4095, 4095, 4095, 65535, 131071, 262143, 524287, 1048575, 2097151, 4194303, 8388607, 16777215, 33554431, 67108863, 134217727, 268435455, 536870911, 1073741823, 2147483647, 4294967295, 8589934591, 17179869183, 34359738367, 68719476735, 34359738367, 171798691839, 549755813887, 1099511627775, 2199023255551, 4398046511103, 8796093022207, 4398046511103, 21990232555519, 70368744177663, 140737488355327, 281474976710655, 562949953421311, 1125899906842623])], []⟩
def spec : Spec := { sig := sig, fn := fun k (x : List Int) => f k x }
theorem ok : Holds Go.Proofs.Try.prog spec := holds_of_run (G := [laws_big.spec, spec_DrawGuard.spec, spec_DrawPlaces.spec, impl_CanReach.spec, spec_DrawPacket.spec, impl_IsPacket.spec, impl_ClassOf.spec, impl_AnswerFor.spec]) (holds_cons laws_big.ok (holds_cons spec_DrawGuard.ok (holds_cons spec_DrawPlaces.ok (holds_cons impl_CanReach.ok (holds_cons spec_DrawPacket.ok (holds_cons impl_IsPacket.ok (holds_cons impl_ClassOf.ok (holds_cons impl_AnswerFor.ok holds_nil)))))))) (by kernel_rfl) H Go.Proofs.Try.func8 (by kernel_rfl) (rfl : Go.Proofs.Try.f8.body = some _) (by kernel_rfl) (by kernel_rfl) fun k x y h => Eq.trans (by kernel_rfl : _ = spec.fn k x) h
end laws_FnRefusals

end
end Go.Proofs.YtknaadbgljjpiaaT
