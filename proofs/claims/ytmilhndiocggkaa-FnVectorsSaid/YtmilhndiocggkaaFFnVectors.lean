/- The functions of the program, as they compute: printed by a program of the session (wip/gen), each with its contract. -/
import Derived.Test.YtmilhndiocggkaaProg
import Derived.Test.YtmilhndiocggkaaTiAI
set_option linter.unusedVariables false
set_option maxRecDepth 100000
namespace Go.Proofs.YtmilhndiocggkaaT
open Go
abbrev I : Ty := .int .i64
noncomputable section
namespace laws_big
def f (k : Nat) (a0 : List Int) : Option (Bool) := some (iLt 1048576 (rLen a0))
def sig : Sig := ⟨19, [.w false [.row (.int .u8)]], [(false, [.val .bool])]⟩
def H : Hints := ⟨[], [], [], []⟩
def spec : Spec := { sig := sig, fn := fun k (x : List Int) => f k x }
theorem ok : Holds Go.Proofs.Try.prog spec := holds_of_run (G := []) holds_nil (by kernel_rfl) H Go.Proofs.Try.func19 (by kernel_rfl) (rfl : Go.Proofs.Try.f19.body = some _) (by kernel_rfl) (by kernel_rfl) fun k x y h => Eq.trans (by kernel_rfl : _ = spec.fn k x) h
end laws_big

namespace spec_l01New
def s0 (k : Nat) (rec0 : (List Int × Int × Int) → Option (List Int × Int × Int)) (x0 : List Int) (x1 : Int) (x2 : Int) : Option (List Int × Int × Int) := brB (iLt x2 (rLen x0)) (brB (iLt x2 4000) (chk (cIdx x2 (rLen x0)) (rec0 (x0, iBit .and .i64 (iAdd .i64 (iAdd .i64 (iMul .i64 x1 131) (iCnv .i64 (rGet 0 x0 x2))) 7) 1073741823, iAdd .i64 x2 1))) (some (x0, 0, x1))) (some (x0, 0, x1))
def l0 (k n : Nat) (x0 : List Int) (x1 : Int) (x2 : Int) : Option (List Int × Int × Int) := iter (fun (rec : (List Int × Int × Int) → Option (List Int × Int × Int)) (x : List Int × Int × Int) => s0 k rec x.1 x.2.1 x.2.2) n (x0, x1, x2)
def f (k : Nat) (a0 : List Int) : Option (List Int × Int × Int) := l0 k k a0 (iAdd .i64 98663 (rLen a0)) 0
def sig : Sig := ⟨41, [.w false [.row (.int .u8)]], [(true, [.val (.row (.int .u8)), .val I, .val I])]⟩
def H : Hints := ⟨[(3, ⟨⟨[(0, .w false 1), (3, .w false 1), (4, .w false 1)], []⟩, [], [.val (.row (.int .u8)), .val I, .val I], []⟩)], [], [], []⟩
def spec : Spec := { sig := sig, fn := fun k (x : List Int) => f k x, boxed := true }
theorem ok : Holds Go.Proofs.Try.prog spec := holds_of_box rfl (G := []) holds_nil (by kernel_rfl) H Go.Proofs.Try.func41 (by kernel_rfl) (rfl : Go.Proofs.Try.f41.body = some _) (by kernel_rfl) (by kernel_rfl) (by kernel_rfl) fun k x y h => Eq.trans (by kernel_rfl : _ = spec.fn k x) h
end spec_l01New

namespace spec_l01Byte
def f (k : Nat) (a0_0 : List Int) (a0_1 : Int) (a0_2 : Int) : Option (Int × List Int × Int × Int) := chk (cNn 33) (chk (cNn 45) (brB (iLt a0_1 (rLen a0_0)) (chk (cIdx a0_1 (rLen a0_0)) (some (iBit .and .i64 (iAdd .i64 (iBit .and .i64 (iBit .xor .i64 (iShr .i64 (iAdd .i64 (iMul .i64 a0_2 6364136223846793005) 1442695040888963407) 33) (iShr .i64 (iAdd .i64 (iMul .i64 a0_2 6364136223846793005) 1442695040888963407) 45)) 255) (iCnv .i64 (rGet 0 a0_0 a0_1))) 255, a0_0, iAdd .i64 a0_1 1, iAdd .i64 (iMul .i64 a0_2 6364136223846793005) 1442695040888963407))) (some (iBit .and .i64 (iBit .xor .i64 (iShr .i64 (iAdd .i64 (iMul .i64 a0_2 6364136223846793005) 1442695040888963407) 33) (iShr .i64 (iAdd .i64 (iMul .i64 a0_2 6364136223846793005) 1442695040888963407) 45)) 255, a0_0, a0_1, iAdd .i64 (iMul .i64 a0_2 6364136223846793005) 1442695040888963407))))
def sig : Sig := ⟨56, [.ref [.row (.int .u8), I, I]], [(false, [.val I])]⟩
def H : Hints := ⟨[], [], [(2, [0, 1, 3, 7, 15, 0, 32, 96, 224, 480, 1023, 2047, 4095]), (3, [0, 1, 3, 7, 0, 16, 48, 112, 240, 511]), (4, [0, 0, 2, 6, 14, 0, 32, 96, 224, 510, 1022, 2046, 4095, 8191, 16383])], []⟩
def spec : Spec := { sig := sig, fn := fun k (x : List Int × Int × Int) => f k x.1 x.2.1 x.2.2 }
theorem ok : Holds Go.Proofs.Try.prog spec := holds_of_run (G := []) holds_nil (by kernel_rfl) H Go.Proofs.Try.func56 (by kernel_rfl) (rfl : Go.Proofs.Try.f56.body = some _) (by kernel_rfl) (by kernel_rfl) fun k x y h => Eq.trans (by kernel_rfl : _ = spec.fn k x) h
end spec_l01Byte

namespace spec_l01Below
def f (k : Nat) (a1 : Int) (a0_0 : List Int) (a0_1 : Int) (a0_2 : Int) : Option (Int × List Int × Int × Int) := brB (iLe a1 0) (some (0, a0_0, a0_1, a0_2)) (brB (iLe a1 256) (bnd (spec_l01Byte.f k a0_0 a0_1 a0_2) fun (y0, y1, y2, y3) => chk (cNz a1) (some (iRem y0 a1, y1, y2, y3))) (bnd (spec_l01Byte.f k a0_0 a0_1 a0_2) fun (y4, y5, y6, y7) => bnd (spec_l01Byte.f k y5 y6 y7) fun (y8, y9, y10, y11) => bnd (spec_l01Byte.f k y9 y10 y11) fun (y12, y13, y14, y15) => bnd (spec_l01Byte.f k y13 y14 y15) fun (y16, y17, y18, y19) => chk (cNz a1) (some (iRem (iAdd .i64 (iAdd .i64 (iAdd .i64 (iMul .i64 y4 16777216) (iMul .i64 y8 65536)) (iMul .i64 y12 256)) y16) a1, y17, y18, y19))))
def sig : Sig := ⟨42, [.ref [.row (.int .u8), I, I], .w false [I]], [(false, [.val I])]⟩
def H : Hints := ⟨[], [], [], []⟩
def spec : Spec := { sig := sig, fn := fun k (x : Int × List Int × Int × Int) => f k x.1 x.2.1 x.2.2.1 x.2.2.2 }
theorem ok : Holds Go.Proofs.Try.prog spec := holds_of_run (G := [spec_l01Byte.spec]) (holds_cons spec_l01Byte.ok holds_nil) (by kernel_rfl) H Go.Proofs.Try.func42 (by kernel_rfl) (rfl : Go.Proofs.Try.f42.body = some _) (by kernel_rfl) (by kernel_rfl) fun k x y h => Eq.trans (by kernel_rfl : _ = spec.fn k x) h
end spec_l01Below

namespace spec_l01PickInt
def f (k : Nat) (a1 : List Int) (a0_0 : List Int) (a0_1 : Int) (a0_2 : Int) : Option (Int × List Int × Int × Int) := bnd (spec_l01Below.f k (rLen a1) a0_0 a0_1 a0_2) fun (y0, y1, y2, y3) => chk (cIdx y0 (rLen a1)) (some (rGet 0 a1 y0, y1, y2, y3))
def sig : Sig := ⟨54, [.ref [.row (.int .u8), I, I], .w false [.row I]], [(false, [.val I])]⟩
def H : Hints := ⟨[], [], [], []⟩
def spec : Spec := { sig := sig, fn := fun k (x : List Int × List Int × Int × Int) => f k x.1 x.2.1 x.2.2.1 x.2.2.2 }
theorem ok : Holds Go.Proofs.Try.prog spec := holds_of_run (G := [spec_l01Below.spec]) (holds_cons spec_l01Below.ok holds_nil) (by kernel_rfl) H Go.Proofs.Try.func54 (by kernel_rfl) (rfl : Go.Proofs.Try.f54.body = some _) (by kernel_rfl) (by kernel_rfl) fun k x y h => Eq.trans (by kernel_rfl : _ = spec.fn k x) h
end spec_l01PickInt

namespace spec_l01Once
def f (k : Nat) (a1 : Int) (a0_0 : List Int) (a0_1 : Int) (a0_2 : Int) : Option (Bool × List Int × Int × Int) := bnd (spec_l01Below.f k a1 a0_0 a0_1 a0_2) fun (y0, y1, y2, y3) => some (iEq y0 0, y1, y2, y3)
def sig : Sig := ⟨55, [.ref [.row (.int .u8), I, I], .w false [I]], [(false, [.val .bool])]⟩
def H : Hints := ⟨[], [], [], []⟩
def spec : Spec := { sig := sig, fn := fun k (x : Int × List Int × Int × Int) => f k x.1 x.2.1 x.2.2.1 x.2.2.2 }
theorem ok : Holds Go.Proofs.Try.prog spec := holds_of_run (G := [spec_l01Below.spec]) (holds_cons spec_l01Below.ok holds_nil) (by kernel_rfl) H Go.Proofs.Try.func55 (by kernel_rfl) (rfl : Go.Proofs.Try.f55.body = some _) (by kernel_rfl) (by kernel_rfl) fun k x y h => Eq.trans (by kernel_rfl : _ = spec.fn k x) h
end spec_l01Once

namespace spec_l30Vectors
def s0 (k : Nat) (rec0 : (Int × Int × List Int × Int × Int × Int × List Bool × List Bool × Int × List Bool × List Bool) → Option (Int × List Bool × List Bool × List Int × Int × Int)) (x0 : Int) (x1 : Int) (x2 : List Int) (x3 : Int) (x4 : Int) (x5 : Int) (x6 : List Bool) (x7 : List Bool) (x8 : Int) (x9 : List Bool) (x10 : List Bool) : Option (Int × List Bool × List Bool × List Int × Int × Int) := brB (iLt x1 x0) (bnd (spec_l01Once.f k 2 x2 x3 x4) fun (y8, y9, y10, y11) => chk (cLen (rLen (rApp x9 [y8])) 1) (brB y8 (bnd (spec_l01Once.f k 2 y9 y10 y11) fun (y12, y13, y14, y15) => chk (cLen (rLen (rApp x10 [y12])) 1) (rec0 (x0, iAdd .i64 x1 1, y13, y14, y15, x5, x6, x7, x8, rApp x9 [y8], rApp x10 [y12]))) (chk (cLen (rLen (rApp x10 [false])) 1) (rec0 (x0, iAdd .i64 x1 1, y9, y10, y11, x5, x6, x7, x8, rApp x9 [y8], rApp x10 [false]))))) (some (x8, x9, x10, x2, x3, x4))
def l0 (k n : Nat) (x0 : Int) (x1 : Int) (x2 : List Int) (x3 : Int) (x4 : Int) (x5 : Int) (x6 : List Bool) (x7 : List Bool) (x8 : Int) (x9 : List Bool) (x10 : List Bool) : Option (Int × List Bool × List Bool × List Int × Int × Int) := iter (fun (rec : (Int × Int × List Int × Int × Int × Int × List Bool × List Bool × Int × List Bool × List Bool) → Option (Int × List Bool × List Bool × List Int × Int × Int)) (x : Int × Int × List Int × Int × Int × Int × List Bool × List Bool × Int × List Bool × List Bool) => s0 k rec x.1 x.2.1 x.2.2.1 x.2.2.2.1 x.2.2.2.2.1 x.2.2.2.2.2.1 x.2.2.2.2.2.2.1 x.2.2.2.2.2.2.2.1 x.2.2.2.2.2.2.2.2.1 x.2.2.2.2.2.2.2.2.2.1 x.2.2.2.2.2.2.2.2.2.2) n (x0, x1, x2, x3, x4, x5, x6, x7, x8, x9, x10)
def f (k : Nat) (a0_0 : List Int) (a0_1 : Int) (a0_2 : Int) : Option (Int × List Bool × List Bool × List Int × Int × Int) := bnd (spec_l01PickInt.f k [0, 100, 65535] a0_0 a0_1 a0_2) fun (y0, y1, y2, y3) => bnd (spec_l01Below.f k 8 y1 y2 y3) fun (y4, y5, y6, y7) => l0 k k (iAdd .i64 1 y4) 0 y5 y6 y7 0 [] [] y0 [] []
def sig : Sig := ⟨40, [.ref [.row (.int .u8), I, I]], [(true, [.val I, .own .bool, .own .bool])]⟩
def H : Hints := ⟨[(4, ⟨⟨[(0, .ptr 0 0), (2, .ptr 102 0), (3, .ptr 103 0), (4, .w false 1), (5, .w false 1)], [(0, 3), (102, 3), (103, 3)]⟩, [0, 2, 3], [.val I, .val I, .val (.row (.int .u8)), .val I, .val I, .val I, .own .bool, .own .bool, .val I, .own .bool, .own .bool], []⟩)], [], [(8, [0, 1, 0, 4, 12, 28, 60, 124, 255, 511, 1023])], []⟩
def spec : Spec := { sig := sig, fn := fun k (x : List Int × Int × Int) => f k x.1 x.2.1 x.2.2 }
theorem ok : Holds Go.Proofs.Try.prog spec := holds_of_run (G := [spec_l01Below.spec, spec_l01PickInt.spec, spec_l01Once.spec]) (holds_cons spec_l01Below.ok (holds_cons spec_l01PickInt.ok (holds_cons spec_l01Once.ok holds_nil))) (by kernel_rfl) H Go.Proofs.Try.func40 (by kernel_rfl) (rfl : Go.Proofs.Try.f40.body = some _) (by kernel_rfl) (by kernel_rfl) fun k x y h => Eq.trans (by kernel_rfl : _ = spec.fn k x) h
end spec_l30Vectors

namespace spec_DrawVectors
def f (k : Nat) (a0 : List Int) : Option (Int × List Bool × List Bool) := bnd (spec_l01New.f k a0) fun (y0, y1, y2) => bnd (spec_l30Vectors.f k y0 y1 y2) fun (y3, y4, y5, y6, y7, y8) => some (y3, y4, y5)
def sig : Sig := ⟨20, [.w false [.row (.int .u8)]], [(true, [.val I, .own .bool, .own .bool])]⟩
def H : Hints := ⟨[], [], [], []⟩
def spec : Spec := { sig := sig, fn := fun k (x : List Int) => f k x }
theorem ok : Holds Go.Proofs.Try.prog spec := holds_of_run (G := [spec_l01New.spec, spec_l30Vectors.spec]) (holds_cons spec_l01New.ok (holds_cons spec_l30Vectors.ok holds_nil)) (by kernel_rfl) H Go.Proofs.Try.func20 (by kernel_rfl) (rfl : Go.Proofs.Try.f20.body = some _) (by kernel_rfl) (by kernel_rfl) fun k x y h => Eq.trans (by kernel_rfl : _ = spec.fn k x) h
end spec_DrawVectors

namespace spec_DrawPlaces
def s0 (k : Nat) (rec0 : (List Int × Int × List Int × Int × Int) → Option (List Int)) (x0 : List Int) (x1 : Int) (x2 : List Int) (x3 : Int) (x4 : Int) : Option (List Int) := brB (iLt x1 12) (bnd (spec_l01Below.f k 10000 x2 x3 x4) fun (y3, y4, y5, y6) => chk (cLen (rLen (rApp x0 [y3])) 8) (rec0 (rApp x0 [y3], iAdd .i64 x1 1, y4, y5, y6))) (some x0)
def l0 (k n : Nat) (x0 : List Int) (x1 : Int) (x2 : List Int) (x3 : Int) (x4 : Int) : Option (List Int) := iter (fun (rec : (List Int × Int × List Int × Int × Int) → Option (List Int)) (x : List Int × Int × List Int × Int × Int) => s0 k rec x.1 x.2.1 x.2.2.1 x.2.2.2.1 x.2.2.2.2) n (x0, x1, x2, x3, x4)
def f (k : Nat) (a0 : List Int) : Option (List Int) := bnd (spec_l01New.f k a0) fun (y0, y1, y2) => l0 k k [] 0 y0 y1 y2
def sig : Sig := ⟨21, [.w false [.row (.int .u8)]], [(false, [.own I])]⟩
def H : Hints := ⟨[(4, ⟨⟨[(3, .ptr 103 0), (4, .w false 1), (5, .w false 1)], [(103, 3)]⟩, [3], [.own I, .val I, .val (.row (.int .u8)), .val I, .val I], []⟩)], [], [], []⟩
def spec : Spec := { sig := sig, fn := fun k (x : List Int) => f k x }
theorem ok : Holds Go.Proofs.Try.prog spec := holds_of_run (G := [spec_l01New.spec, spec_l01Below.spec]) (holds_cons spec_l01New.ok (holds_cons spec_l01Below.ok holds_nil)) (by kernel_rfl) H Go.Proofs.Try.func21 (by kernel_rfl) (rfl : Go.Proofs.Try.f21.body = some _) (by kernel_rfl) (by kernel_rfl) fun k x y h => Eq.trans (by kernel_rfl : _ = spec.fn k x) h
end spec_DrawPlaces

namespace slices_Clone_bool
def f (k : Nat) (a0 : List Bool) : Option (List Bool) := chk (cLen (rLen a0) 1) (some a0)
def sig : Sig := cloneSig 57 .bool
def spec : Spec := { sig := sig, fn := fun k (x : List Bool) => f k x }
theorem ok : Holds Go.Proofs.Try.prog spec := clone_holds (u := .bool) (t := 22) (by kernel_rfl) Go.Proofs.Try.func57 (by kernel_rfl) (rfl : Go.Proofs.Try.f57.body = some _) (by kernel_rfl) (by kernel_rfl) Go.Proofs.Try.underlying22 ⟨rfl, rfl, rfl⟩ ⟨rfl, rfl, rfl⟩ ⟨rfl, rfl, _, rfl⟩ (fun l => cLen (rLen l) 1) (fun k => by kernel_rfl) (fun k l => by kernel_rfl)
end slices_Clone_bool

namespace impl_copyVectors
def f (k : Nat) (a0_0 : Int) (a0_1 : List Bool) (a0_2 : List Bool) : Option (Int × List Bool × List Bool) := bnd (slices_Clone_bool.f k a0_1) fun y0 => bnd (slices_Clone_bool.f k a0_2) fun y1 => some (a0_0, y0, y1)
def sig : Sig := ⟨43, [.w true [I, .row .bool, .row .bool]], [(true, [.val I, .own .bool, .own .bool])]⟩
def H : Hints := ⟨[], [], [(1, [0, 1, 0, 4, 12, 0, 32, 124, 255, 511])], []⟩
def spec : Spec := { sig := sig, fn := fun k (x : Int × List Bool × List Bool) => f k x.1 x.2.1 x.2.2 }
theorem ok : Holds Go.Proofs.Try.prog spec := holds_of_run (G := [slices_Clone_bool.spec]) (holds_cons slices_Clone_bool.ok holds_nil) (by kernel_rfl) H Go.Proofs.Try.func43 (by kernel_rfl) (rfl : Go.Proofs.Try.f43.body = some _) (by kernel_rfl) (by kernel_rfl) fun k x y h => Eq.trans (by kernel_rfl : _ = spec.fn k x) h
end impl_copyVectors

namespace impl_within
def f (k : Nat) (a0 : Int) (a1 : Int) (a2 : Int) : Option (Bool) := brB (iLe a1 a0) (some (iLe a0 a2)) (some false)
def sig : Sig := ⟨37, [.w false [I], .w false [I], .w false [I]], [(false, [.val .bool])]⟩
def H : Hints := ⟨[], [], [], []⟩
def spec : Spec := { sig := sig, fn := fun k (x : Int × Int × Int) => f k x.1 x.2.1 x.2.2 }
theorem ok : Holds Go.Proofs.Try.prog spec := holds_of_run (G := []) holds_nil (by kernel_rfl) H Go.Proofs.Try.func37 (by kernel_rfl) (rfl : Go.Proofs.Try.f37.body = some _) (by kernel_rfl) (by kernel_rfl) fun k x y h => Eq.trans (by kernel_rfl : _ = spec.fn k x) h
end impl_within

namespace impl_VectorsOk
def s0 (k : Nat) (rec0 : (List Bool × Int × Int × Int × List Bool × List Bool) → Option (Bool)) (x0 : List Bool) (x1 : Int) (x2 : Int) (x3 : Int) (x4 : List Bool) (x5 : List Bool) : Option (Bool) := brB (iLt x2 x1) (chk (cIdx x2 (rLen x0)) (brB (rGet false x0 x2) (chk (cIdx x2 (rLen x4)) (brB (bNot (rGet false x4 x2)) (some false) (rec0 (x0, x1, iAdd .i64 x2 1, x3, x4, x5)))) (rec0 (x0, x1, iAdd .i64 x2 1, x3, x4, x5)))) (some true)
def l0 (k n : Nat) (x0 : List Bool) (x1 : Int) (x2 : Int) (x3 : Int) (x4 : List Bool) (x5 : List Bool) : Option (Bool) := iter (fun (rec : (List Bool × Int × Int × Int × List Bool × List Bool) → Option (Bool)) (x : List Bool × Int × Int × Int × List Bool × List Bool) => s0 k rec x.1 x.2.1 x.2.2.1 x.2.2.2.1 x.2.2.2.2.1 x.2.2.2.2.2) n (x0, x1, x2, x3, x4, x5)
def f (k : Nat) (a0_0 : Int) (a0_1 : List Bool) (a0_2 : List Bool) : Option (Bool) := bnd (impl_within.f k (rLen a0_1) 1 8) fun y0 => brB (bNot y0) (some false) (brB (iNe (rLen a0_2) (rLen a0_1)) (some false) (bnd (impl_within.f k a0_0 0 65535) fun y1 => brB (bNot y1) (some false) (l0 k k a0_2 (rLen a0_2) 0 a0_0 a0_1 a0_2)))
def sig : Sig := ⟨11, [.w true [I, .row .bool, .row .bool]], [(false, [.val .bool])]⟩
def H : Hints := ⟨[(4, ⟨⟨[(1, .ptr 101 0), (26, .w false 1), (27, .w false 1), (28, .w false 1)], [(101, 3)]⟩, [1], [.val (.row .bool), .val I, .val I, .val I, .val (.row .bool), .val (.row .bool)], []⟩)], [], [], []⟩
def spec : Spec := { sig := sig, fn := fun k (x : Int × List Bool × List Bool) => f k x.1 x.2.1 x.2.2 }
theorem ok : Holds Go.Proofs.Try.prog spec := holds_of_run (G := [impl_within.spec]) (holds_cons impl_within.ok holds_nil) (by kernel_rfl) H Go.Proofs.Try.func11 (by kernel_rfl) (rfl : Go.Proofs.Try.f11.body = some _) (by kernel_rfl) (by kernel_rfl) fun k x y h => Eq.trans (by kernel_rfl : _ = spec.fn k x) h
end impl_VectorsOk

namespace impl_IsId
def f (k : Nat) (a0 : Int) : Option (Bool) := bnd (impl_within.f k a0 0 255) fun y0 => some y0
def sig : Sig := ⟨47, [.w false [I]], [(false, [.val .bool])]⟩
def H : Hints := ⟨[], [], [], []⟩
def spec : Spec := { sig := sig, fn := fun k (x : Int) => f k x }
theorem ok : Holds Go.Proofs.Try.prog spec := holds_of_run (G := [impl_within.spec]) (holds_cons impl_within.ok holds_nil) (by kernel_rfl) H Go.Proofs.Try.func47 (by kernel_rfl) (rfl : Go.Proofs.Try.f47.body = some _) (by kernel_rfl) (by kernel_rfl) fun k x y h => Eq.trans (by kernel_rfl : _ = spec.fn k x) h
end impl_IsId

namespace impl_hasVector
def f (k : Nat) (a0_0 : Int) (a0_1 : List Bool) (a0_2 : List Bool) (a1 : Int) (a2 : Int) : Option (Bool) := bnd (impl_VectorsOk.f k a0_0 a0_1 a0_2) fun y0 => brB y0 (bnd (impl_IsId.f k a1) fun y1 => brB y1 (bnd (impl_within.f k a2 0 (iSub .i64 (rLen a0_1) 1)) fun y2 => some y2) (some false)) (some false)
def sig : Sig := ⟨44, [.w true [I, .row .bool, .row .bool], .w false [I], .w false [I]], [(false, [.val .bool])]⟩
def H : Hints := ⟨[], [], [], []⟩
def spec : Spec := { sig := sig, fn := fun k (x : Int × List Bool × List Bool × Int × Int) => f k x.1 x.2.1 x.2.2.1 x.2.2.2.1 x.2.2.2.2 }
theorem ok : Holds Go.Proofs.Try.prog spec := holds_of_run (G := [impl_within.spec, impl_VectorsOk.spec, impl_IsId.spec]) (holds_cons impl_within.ok (holds_cons impl_VectorsOk.ok (holds_cons impl_IsId.ok holds_nil))) (by kernel_rfl) H Go.Proofs.Try.func44 (by kernel_rfl) (rfl : Go.Proofs.Try.f44.body = some _) (by kernel_rfl) (by kernel_rfl) fun k x y h => Eq.trans (by kernel_rfl : _ = spec.fn k x) h
end impl_hasVector

namespace impl_call
def f (k : Nat) (a0_0 : Int) (a0_1 : List Bool) (a0_2 : List Bool) (a1 : Int) (a2 : Int) : Option (Int × Int × Int × Int × Int × Int × Int × List Int) := some (1, a1, 0, a0_0, 0, 0, 0, [a2])
def sig : Sig := ⟨45, [.w true [I, .row .bool, .row .bool], .w false [I], .w false [I]], [(true, [.val I, .val I, .val I, .val I, .val I, .val I, .val I, .own I])]⟩
def H : Hints := ⟨[], [], [], []⟩
def spec : Spec := { sig := sig, fn := fun k (x : Int × List Bool × List Bool × Int × Int) => f k x.1 x.2.1 x.2.2.1 x.2.2.2.1 x.2.2.2.2 }
theorem ok : Holds Go.Proofs.Try.prog spec := holds_of_run (G := []) holds_nil (by kernel_rfl) H Go.Proofs.Try.func45 (by kernel_rfl) (rfl : Go.Proofs.Try.f45.body = some _) (by kernel_rfl) (by kernel_rfl) fun k x y h => Eq.trans (by kernel_rfl : _ = spec.fn k x) h
end impl_call

namespace impl_SetMask
def f (k : Nat) (a0_0 : Int) (a0_1 : List Bool) (a0_2 : List Bool) (a1 : Int) (a2 : Int) (a3 : Bool) : Option (Int × List Bool × List Bool × Int × Int × Int × Int × Int × Int × Int × List Int × Bool) := bnd (impl_copyVectors.f k a0_0 a0_1 a0_2) fun (y0, y1, y2) => bnd (impl_hasVector.f k a0_0 a0_1 a0_2 a1 a2) fun y3 => brB (bNot y3) (some (y0, y1, y2, 0, 0, 0, 0, 0, 0, 0, [], false)) (chk (cIdx a2 (rLen y1)) (chk (cIdx a2 (rLen a0_2)) (brB (rGet false a0_2 a2) (brB (bNot a3) (chk (cIdx a2 (rLen y2)) (bnd (impl_call.f k a0_0 a0_1 a0_2 a1 a2) fun (y4, y5, y6, y7, y8, y9, y10, y11) => some (y0, rSet y1 a2 a3, rSet y2 a2 false, y4, y5, y6, y7, y8, y9, y10, y11, true))) (some (y0, rSet y1 a2 a3, y2, 0, 0, 0, 0, 0, 0, 0, [], true))) (some (y0, rSet y1 a2 a3, y2, 0, 0, 0, 0, 0, 0, 0, [], true)))))
def sig : Sig := ⟨22, [.w true [I, .row .bool, .row .bool], .w false [I], .w false [I], .w false [.bool]], [(true, [.val I, .own .bool, .own .bool]), (true, [.val I, .val I, .val I, .val I, .val I, .val I, .val I, .own I]), (false, [.val .bool])]⟩
def H : Hints := ⟨[], [], [(7, [0, 0, 0, 0, 14, 31, 63, 127])], []⟩
def spec : Spec := { sig := sig, fn := fun k (x : Int × List Bool × List Bool × Int × Int × Bool) => f k x.1 x.2.1 x.2.2.1 x.2.2.2.1 x.2.2.2.2.1 x.2.2.2.2.2 }
theorem ok : Holds Go.Proofs.Try.prog spec := holds_of_run (G := [impl_copyVectors.spec, impl_hasVector.spec, impl_call.spec]) (holds_cons impl_copyVectors.ok (holds_cons impl_hasVector.ok (holds_cons impl_call.ok holds_nil))) (by kernel_rfl) H Go.Proofs.Try.func22 (by kernel_rfl) (rfl : Go.Proofs.Try.f22.body = some _) (by kernel_rfl) (by kernel_rfl) fun k x y h => Eq.trans (by kernel_rfl : _ = spec.fn k x) h
end impl_SetMask

namespace impl_RaiseVector
def f (k : Nat) (a0_0 : Int) (a0_1 : List Bool) (a0_2 : List Bool) (a1 : Int) (a2 : Int) : Option (Int × List Bool × List Bool × Int × Int × Int × Int × Int × Int × Int × List Int × Bool) := bnd (impl_copyVectors.f k a0_0 a0_1 a0_2) fun (y0, y1, y2) => bnd (impl_hasVector.f k a0_0 a0_1 a0_2 a1 a2) fun y3 => brB (bNot y3) (some (y0, y1, y2, 0, 0, 0, 0, 0, 0, 0, [], false)) (chk (cIdx a2 (rLen a0_1)) (brB (rGet false a0_1 a2) (chk (cIdx a2 (rLen y2)) (some (y0, y1, rSet y2 a2 true, 0, 0, 0, 0, 0, 0, 0, [], true))) (bnd (impl_call.f k a0_0 a0_1 a0_2 a1 a2) fun (y4, y5, y6, y7, y8, y9, y10, y11) => some (y0, y1, y2, y4, y5, y6, y7, y8, y9, y10, y11, true))))
def sig : Sig := ⟨23, [.w true [I, .row .bool, .row .bool], .w false [I], .w false [I]], [(true, [.val I, .own .bool, .own .bool]), (true, [.val I, .val I, .val I, .val I, .val I, .val I, .val I, .own I]), (false, [.val .bool])]⟩
def H : Hints := ⟨[], [], [(7, [0, 0, 0, 0, 14, 31, 63, 127])], []⟩
def spec : Spec := { sig := sig, fn := fun k (x : Int × List Bool × List Bool × Int × Int) => f k x.1 x.2.1 x.2.2.1 x.2.2.2.1 x.2.2.2.2 }
theorem ok : Holds Go.Proofs.Try.prog spec := holds_of_run (G := [impl_copyVectors.spec, impl_hasVector.spec, impl_call.spec]) (holds_cons impl_copyVectors.ok (holds_cons impl_hasVector.ok (holds_cons impl_call.ok holds_nil))) (by kernel_rfl) H Go.Proofs.Try.func23 (by kernel_rfl) (rfl : Go.Proofs.Try.f23.body = some _) (by kernel_rfl) (by kernel_rfl) fun k x y h => Eq.trans (by kernel_rfl : _ = spec.fn k x) h
end impl_RaiseVector

namespace slices_Equal_int
def s0 (k : Nat) (rec0 : (List Int × List Int × Int × Int) → Option (Bool)) (x0 : List Int) (x1 : List Int) (x2 : Int) (x3 : Int) : Option (Bool) := brB (iLt x3 x2) (chk (cIdx x3 (rLen x0)) (chk (cIdx x3 (rLen x1)) (brB (iNe (rGet 0 x0 x3) (rGet 0 x1 x3)) (some false) (rec0 (x0, x1, x2, iAdd .i64 x3 1))))) (some true)
def l0 (k n : Nat) (x0 : List Int) (x1 : List Int) (x2 : Int) (x3 : Int) : Option (Bool) := iter (fun (rec : (List Int × List Int × Int × Int) → Option (Bool)) (x : List Int × List Int × Int × Int) => s0 k rec x.1 x.2.1 x.2.2.1 x.2.2.2) n (x0, x1, x2, x3)
def f (k : Nat) (a0 : List Int) (a1 : List Int) : Option (Bool) := brB (iNe (rLen a0) (rLen a1)) (some false) (l0 k k a0 a1 (rLen a0) 0)
def sig : Sig := ⟨46, [.w false [.row I], .w false [.row I]], [(false, [.val .bool])]⟩
def H : Hints := ⟨[(4, ⟨⟨[(0, .w false 1), (1, .w false 1), (12, .w false 1), (13, .w false 1)], []⟩, [], [.val (.row I), .val (.row I), .val I, .val I], []⟩)], [], [(6, [0, 0, 3, 7, 0, 0, 48, 112, 255])], []⟩
def spec : Spec := { sig := sig, fn := fun k (x : List Int × List Int) => f k x.1 x.2 }
theorem ok : Holds Go.Proofs.Try.prog spec := holds_of_run (G := []) holds_nil (by kernel_rfl) H Go.Proofs.Try.func46 (by kernel_rfl) (rfl : Go.Proofs.Try.f46.body = some _) (by kernel_rfl) (by kernel_rfl) fun k x y h => Eq.trans (by kernel_rfl : _ = spec.fn k x) h
end slices_Equal_int

namespace impl_SamePacket
def f (k : Nat) (a0_0 : Int) (a0_1 : Int) (a0_2 : Int) (a0_3 : Int) (a0_4 : Int) (a0_5 : Int) (a0_6 : Int) (a0_7 : List Int) (a1_0 : Int) (a1_1 : Int) (a1_2 : Int) (a1_3 : Int) (a1_4 : Int) (a1_5 : Int) (a1_6 : Int) (a1_7 : List Int) : Option (Bool) := brB (iEq a0_0 a1_0) (brB (iEq a0_1 a1_1) (brB (iEq a0_2 a1_2) (brB (iEq a0_3 a1_3) (brB (iEq a0_4 a1_4) (brB (iEq a0_5 a1_5) (brB (iEq a0_6 a1_6) (bnd (slices_Equal_int.f k a0_7 a1_7) fun y0 => some y0) (some false)) (some false)) (some false)) (some false)) (some false)) (some false)) (some false)
def sig : Sig := ⟨24, [.w true [I, I, I, I, I, I, I, .row I], .w true [I, I, I, I, I, I, I, .row I]], [(false, [.val .bool])]⟩
def H : Hints := ⟨[], [], [], []⟩
def spec : Spec := { sig := sig, fn := fun k (x : Int × Int × Int × Int × Int × Int × Int × List Int × Int × Int × Int × Int × Int × Int × Int × List Int) => f k x.1 x.2.1 x.2.2.1 x.2.2.2.1 x.2.2.2.2.1 x.2.2.2.2.2.1 x.2.2.2.2.2.2.1 x.2.2.2.2.2.2.2.1 x.2.2.2.2.2.2.2.2.1 x.2.2.2.2.2.2.2.2.2.1 x.2.2.2.2.2.2.2.2.2.2.1 x.2.2.2.2.2.2.2.2.2.2.2.1 x.2.2.2.2.2.2.2.2.2.2.2.2.1 x.2.2.2.2.2.2.2.2.2.2.2.2.2.1 x.2.2.2.2.2.2.2.2.2.2.2.2.2.2.1 x.2.2.2.2.2.2.2.2.2.2.2.2.2.2.2 }
theorem ok : Holds Go.Proofs.Try.prog spec := holds_of_run (G := [slices_Equal_int.spec]) (holds_cons slices_Equal_int.ok holds_nil) (by kernel_rfl) H Go.Proofs.Try.func24 (by kernel_rfl) (rfl : Go.Proofs.Try.f24.body = some _) (by kernel_rfl) (by kernel_rfl) fun k x y h => Eq.trans (by kernel_rfl : _ = spec.fn k x) h
end impl_SamePacket

namespace impl_PendingOf
def s0 (k : Nat) (rec0 : (List Int × List Bool × Int × Int) → Option (List Int)) (x0 : List Int) (x1 : List Bool) (x2 : Int) (x3 : Int) : Option (List Int) := brB (iLt x3 x2) (chk (cIdx x3 (rLen x1)) (brB (rGet false x1 x3) (chk (cLen (rLen (rApp x0 [x3])) 8) (rec0 (rApp x0 [x3], x1, x2, iAdd .i64 x3 1))) (rec0 (x0, x1, x2, iAdd .i64 x3 1)))) (some x0)
def l0 (k n : Nat) (x0 : List Int) (x1 : List Bool) (x2 : Int) (x3 : Int) : Option (List Int) := iter (fun (rec : (List Int × List Bool × Int × Int) → Option (List Int)) (x : List Int × List Bool × Int × Int) => s0 k rec x.1 x.2.1 x.2.2.1 x.2.2.2) n (x0, x1, x2, x3)
def f (k : Nat) (a0_0 : Int) (a0_1 : List Bool) (a0_2 : List Bool) : Option (List Int) := l0 k k [] a0_2 (rLen a0_2) 0
def sig : Sig := ⟨14, [.w true [I, .row .bool, .row .bool]], [(false, [.own I])]⟩
def H : Hints := ⟨[(3, ⟨⟨[(3, .w false 1), (8, .w false 1), (9, .w false 1), (10, .w false 1)], []⟩, [], [.own I, .val (.row .bool), .val I, .val I], []⟩)], [], [], []⟩
def spec : Spec := { sig := sig, fn := fun k (x : Int × List Bool × List Bool) => f k x.1 x.2.1 x.2.2 }
theorem ok : Holds Go.Proofs.Try.prog spec := holds_of_run (G := []) holds_nil (by kernel_rfl) H Go.Proofs.Try.func14 (by kernel_rfl) (rfl : Go.Proofs.Try.f14.body = some _) (by kernel_rfl) (by kernel_rfl) fun k x y h => Eq.trans (by kernel_rfl : _ = spec.fn k x) h
end impl_PendingOf

namespace laws_has
def s0 (k : Nat) (rec0 : (List Int × Int × Int) → Option (Bool)) (x0 : List Int) (x1 : Int) (x2 : Int) : Option (Bool) := brB (iLt x2 (rLen x0)) (chk (cIdx x2 (rLen x0)) (brB (iEq (rGet 0 x0 x2) x1) (some true) (rec0 (x0, x1, iAdd .i64 x2 1)))) (some false)
def l0 (k n : Nat) (x0 : List Int) (x1 : Int) (x2 : Int) : Option (Bool) := iter (fun (rec : (List Int × Int × Int) → Option (Bool)) (x : List Int × Int × Int) => s0 k rec x.1 x.2.1 x.2.2) n (x0, x1, x2)
def f (k : Nat) (a0 : List Int) (a1 : Int) : Option (Bool) := l0 k k a0 a1 0
def sig : Sig := ⟨25, [.w false [.row I], .w false [I]], [(false, [.val .bool])]⟩
def H : Hints := ⟨[(2, ⟨⟨[(0, .w false 1), (1, .w false 1), (5, .w false 1)], []⟩, [], [.val (.row I), .val I, .val I], []⟩)], [], [], []⟩
def spec : Spec := { sig := sig, fn := fun k (x : List Int × Int) => f k x.1 x.2 }
theorem ok : Holds Go.Proofs.Try.prog spec := holds_of_run (G := []) holds_nil (by kernel_rfl) H Go.Proofs.Try.func25 (by kernel_rfl) (rfl : Go.Proofs.Try.f25.body = some _) (by kernel_rfl) (by kernel_rfl) fun k x y h => Eq.trans (by kernel_rfl : _ = spec.fn k x) h
end laws_has

namespace impl_Packet__words
def f (k : Nat) (a0_0 : Int) (a0_1 : Int) (a0_2 : Int) (a0_3 : Int) (a0_4 : Int) (a0_5 : Int) (a0_6 : Int) (a0_7 : List Int) : Option (Int) := brB (iEq a0_0 3) (some a0_4) (some (rLen a0_7))
def sig : Sig := ⟨58, [.w true [I, I, I, I, I, I, I, .row I]], [(false, [.val I])]⟩
def H : Hints := ⟨[], [], [], []⟩
def spec : Spec := { sig := sig, fn := fun k (x : Int × Int × Int × Int × Int × Int × Int × List Int) => f k x.1 x.2.1 x.2.2.1 x.2.2.2.1 x.2.2.2.2.1 x.2.2.2.2.2.1 x.2.2.2.2.2.2.1 x.2.2.2.2.2.2.2 }
theorem ok : Holds Go.Proofs.Try.prog spec := holds_of_run (G := []) holds_nil (by kernel_rfl) H Go.Proofs.Try.func58 (by kernel_rfl) (rfl : Go.Proofs.Try.f58.body = some _) (by kernel_rfl) (by kernel_rfl) fun k x y h => Eq.trans (by kernel_rfl : _ = spec.fn k x) h
end impl_Packet__words

namespace impl_Packet__addressOk
def f (k : Nat) (a0_0 : Int) (a0_1 : Int) (a0_2 : Int) (a0_3 : Int) (a0_4 : Int) (a0_5 : Int) (a0_6 : Int) (a0_7 : List Int) : Option (Bool) := brB (iEq a0_0 1) (brB (iEq a0_0 1) (bnd (impl_within.f k a0_3 0 65535) fun y0 => brB y0 (bnd (impl_Packet__words.f k a0_0 a0_1 a0_2 a0_3 a0_4 a0_5 a0_6 a0_7) fun y1 => some (iLe y1 (iSub .i64 65536 a0_3))) (some false)) (brB (iEq a0_0 4) (brB (iEq a0_0 4) (bnd (impl_within.f k a0_3 0 63) fun y2 => some y2) (some (iEq a0_3 0))) (brB (iEq a0_0 5) (bnd (impl_within.f k a0_3 0 63) fun y3 => some y3) (some (iEq a0_3 0))))) (brB (iEq a0_0 3) (bnd (impl_within.f k a0_3 0 65535) fun y4 => brB y4 (bnd (impl_Packet__words.f k a0_0 a0_1 a0_2 a0_3 a0_4 a0_5 a0_6 a0_7) fun y5 => some (iLe y5 (iSub .i64 65536 a0_3))) (some false)) (brB (iEq a0_0 4) (brB (iEq a0_0 4) (bnd (impl_within.f k a0_3 0 63) fun y6 => some y6) (some (iEq a0_3 0))) (brB (iEq a0_0 5) (bnd (impl_within.f k a0_3 0 63) fun y7 => some y7) (some (iEq a0_3 0)))))
def sig : Sig := ⟨48, [.w true [I, I, I, I, I, I, I, .row I]], [(false, [.val .bool])]⟩
def H : Hints := ⟨[], [], [(4, [0, 1, 3, 7, 15, 31, 15, 79, 207, 511, 1023, 2047])], []⟩
def spec : Spec := { sig := sig, fn := fun k (x : Int × Int × Int × Int × Int × Int × Int × List Int) => f k x.1 x.2.1 x.2.2.1 x.2.2.2.1 x.2.2.2.2.1 x.2.2.2.2.2.1 x.2.2.2.2.2.2.1 x.2.2.2.2.2.2.2 }
theorem ok : Holds Go.Proofs.Try.prog spec := holds_of_run (G := [impl_within.spec, impl_Packet__words.spec]) (holds_cons impl_within.ok (holds_cons impl_Packet__words.ok holds_nil)) (by kernel_rfl) H Go.Proofs.Try.func48 (by kernel_rfl) (rfl : Go.Proofs.Try.f48.body = some _) (by kernel_rfl) (by kernel_rfl) fun k x y h => Eq.trans (by kernel_rfl : _ = spec.fn k x) h
end impl_Packet__addressOk

namespace impl_Packet__lengthOk
def f (k : Nat) (a0_0 : Int) (a0_1 : Int) (a0_2 : Int) (a0_3 : Int) (a0_4 : Int) (a0_5 : Int) (a0_6 : Int) (a0_7 : List Int) : Option (Bool) := brB (iEq a0_0 3) (bnd (impl_within.f k a0_4 1 64) fun y0 => some y0) (brB (iEq a0_0 6) (bnd (impl_within.f k a0_4 0 64) fun y1 => some y1) (some (iEq a0_4 0)))
def sig : Sig := ⟨49, [.w true [I, I, I, I, I, I, I, .row I]], [(false, [.val .bool])]⟩
def H : Hints := ⟨[], [], [], []⟩
def spec : Spec := { sig := sig, fn := fun k (x : Int × Int × Int × Int × Int × Int × Int × List Int) => f k x.1 x.2.1 x.2.2.1 x.2.2.2.1 x.2.2.2.2.1 x.2.2.2.2.2.1 x.2.2.2.2.2.2.1 x.2.2.2.2.2.2.2 }
theorem ok : Holds Go.Proofs.Try.prog spec := holds_of_run (G := [impl_within.spec]) (holds_cons impl_within.ok holds_nil) (by kernel_rfl) H Go.Proofs.Try.func49 (by kernel_rfl) (rfl : Go.Proofs.Try.f49.body = some _) (by kernel_rfl) (by kernel_rfl) fun k x y h => Eq.trans (by kernel_rfl : _ = spec.fn k x) h
end impl_Packet__lengthOk

namespace impl_isWord
def f (k : Nat) (a0 : Int) : Option (Bool) := bnd (impl_within.f k a0 0 65535) fun y0 => some y0
def sig : Sig := ⟨61, [.w false [I]], [(false, [.val .bool])]⟩
def H : Hints := ⟨[], [], [], []⟩
def spec : Spec := { sig := sig, fn := fun k (x : Int) => f k x }
theorem ok : Holds Go.Proofs.Try.prog spec := holds_of_run (G := [impl_within.spec]) (holds_cons impl_within.ok holds_nil) (by kernel_rfl) H Go.Proofs.Try.func61 (by kernel_rfl) (rfl : Go.Proofs.Try.f61.body = some _) (by kernel_rfl) (by kernel_rfl) fun k x y h => Eq.trans (by kernel_rfl : _ = spec.fn k x) h
end impl_isWord

namespace impl_Packet__dataOk_1
def f (k : Nat) (a0 : Int) : Option (Bool) := bnd (impl_isWord.f k a0) fun y0 => some (bNot y0)
def sig : Sig := ⟨60, [.w false [I]], [(false, [.val .bool])]⟩
def H : Hints := ⟨[], [], [], []⟩
def spec : Spec := { sig := sig, fn := fun k (x : Int) => f k x }
theorem ok : Holds Go.Proofs.Try.prog spec := holds_of_run (G := [impl_isWord.spec]) (holds_cons impl_isWord.ok holds_nil) (by kernel_rfl) H Go.Proofs.Try.func60 (by kernel_rfl) (rfl : Go.Proofs.Try.f60.body = some _) (by kernel_rfl) (by kernel_rfl) fun k x y h => Eq.trans (by kernel_rfl : _ = spec.fn k x) h
end impl_Packet__dataOk_1

namespace slices_IndexFunc_int_impl_Packet__dataOk_1
def s0 (k : Nat) (rec0 : (List Int × Int × Int) → Option (Int)) (x0 : List Int) (x1 : Int) (x2 : Int) : Option (Int) := brB (iLt x2 x1) (chk (cIdx x2 (rLen x0)) (bnd (impl_Packet__dataOk_1.f k (rGet 0 x0 x2)) fun y0 => brB y0 (some x2) (rec0 (x0, x1, iAdd .i64 x2 1)))) (some (-1))
def l0 (k n : Nat) (x0 : List Int) (x1 : Int) (x2 : Int) : Option (Int) := iter (fun (rec : (List Int × Int × Int) → Option (Int)) (x : List Int × Int × Int) => s0 k rec x.1 x.2.1 x.2.2) n (x0, x1, x2)
def f (k : Nat) (a0 : List Int) : Option (Int) := l0 k k a0 (rLen a0) 0
def sig : Sig := ⟨63, [.w false [.row I], .fn 60 []], [(false, [.val I])]⟩
def H : Hints := ⟨[(2, ⟨⟨[(0, .w false 1), (1, .fn 60 []), (7, .w false 1), (8, .w false 1)], []⟩, [], [.val (.row I), .val I, .val I], []⟩)], [], [], []⟩
def spec : Spec := { sig := sig, fn := fun k (x : List Int) => f k x }
theorem ok : Holds Go.Proofs.Try.prog spec := holds_of_run (G := [impl_Packet__dataOk_1.spec]) (holds_cons impl_Packet__dataOk_1.ok holds_nil) (by kernel_rfl) H Go.Proofs.Try.func63 (by kernel_rfl) (rfl : Go.Proofs.Try.f63.body = some _) (by kernel_rfl) (by kernel_rfl) fun k x y h => Eq.trans (by kernel_rfl : _ = spec.fn k x) h
end slices_IndexFunc_int_impl_Packet__dataOk_1

namespace slices_ContainsFunc_int_impl_Packet__dataOk_1
def f (k : Nat) (a0 : List Int) : Option (Bool) := bnd (slices_IndexFunc_int_impl_Packet__dataOk_1.f k a0) fun y0 => some (iLe 0 y0)
def sig : Sig := ⟨59, [.w false [.row I], .fn 60 []], [(false, [.val .bool])]⟩
def H : Hints := ⟨[], [], [], []⟩
def spec : Spec := { sig := sig, fn := fun k (x : List Int) => f k x }
theorem ok : Holds Go.Proofs.Try.prog spec := holds_of_run (G := [slices_IndexFunc_int_impl_Packet__dataOk_1.spec]) (holds_cons slices_IndexFunc_int_impl_Packet__dataOk_1.ok holds_nil) (by kernel_rfl) H Go.Proofs.Try.func59 (by kernel_rfl) (rfl : Go.Proofs.Try.f59.body = some _) (by kernel_rfl) (by kernel_rfl) fun k x y h => Eq.trans (by kernel_rfl : _ = spec.fn k x) h
end slices_ContainsFunc_int_impl_Packet__dataOk_1

namespace impl_Packet__dataOk
def f (k : Nat) (a0_0 : Int) (a0_1 : Int) (a0_2 : Int) (a0_3 : Int) (a0_4 : Int) (a0_5 : Int) (a0_6 : Int) (a0_7 : List Int) : Option (Bool) := bnd (slices_ContainsFunc_int_impl_Packet__dataOk_1.f k a0_7) fun y0 => brB y0 (some false) (brB (iEq a0_0 1) (bnd (impl_within.f k (rLen a0_7) 1 8) fun y1 => some y1) (brB (iEq a0_0 2) (bnd (impl_within.f k (rLen a0_7) 1 8) fun y2 => some y2) (brB (iEq a0_0 5) (some (iEq (rLen a0_7) 1)) (brB (iEq a0_0 6) (brB (iEq a0_6 0) (brB (iLe (rLen a0_7) 8) (some (iLe (rLen a0_7) a0_4)) (some false)) (some (iEq (rLen a0_7) 0))) (some (iEq (rLen a0_7) 0))))))
def sig : Sig := ⟨50, [.w true [I, I, I, I, I, I, I, .row I]], [(false, [.val .bool])]⟩
def H : Hints := ⟨[], [], [], []⟩
def spec : Spec := { sig := sig, fn := fun k (x : Int × Int × Int × Int × Int × Int × Int × List Int) => f k x.1 x.2.1 x.2.2.1 x.2.2.2.1 x.2.2.2.2.1 x.2.2.2.2.2.1 x.2.2.2.2.2.2.1 x.2.2.2.2.2.2.2 }
theorem ok : Holds Go.Proofs.Try.prog spec := holds_of_run (G := [impl_within.spec, slices_ContainsFunc_int_impl_Packet__dataOk_1.spec]) (holds_cons impl_within.ok (holds_cons slices_ContainsFunc_int_impl_Packet__dataOk_1.ok holds_nil)) (by kernel_rfl) H Go.Proofs.Try.func50 (by kernel_rfl) (rfl : Go.Proofs.Try.f50.body = some _) (by kernel_rfl) (by kernel_rfl) fun k x y h => Eq.trans (by kernel_rfl : _ = spec.fn k x) h
end impl_Packet__dataOk

namespace impl_IsPacket
def f (k : Nat) (a0_0 : Int) (a0_1 : Int) (a0_2 : Int) (a0_3 : Int) (a0_4 : Int) (a0_5 : Int) (a0_6 : Int) (a0_7 : List Int) : Option (Bool) := bnd (impl_within.f k a0_0 1 6) fun y0 => brB (bNot y0) (some false) (bnd (impl_IsId.f k a0_1) fun y1 => brB (bNot y1) (some false) (bnd (impl_Packet__addressOk.f k a0_0 a0_1 a0_2 a0_3 a0_4 a0_5 a0_6 a0_7) fun y2 => brB (bNot y2) (some false) (bnd (impl_Packet__lengthOk.f k a0_0 a0_1 a0_2 a0_3 a0_4 a0_5 a0_6 a0_7) fun y3 => brB (bNot y3) (some false) (bnd (impl_within.f k a0_0 4 6) fun y4 => brB y4 (bnd (impl_IsId.f k a0_2) fun y5 => brB (bNot y5) (some false) (brB (bNot y4) (brB (iNe a0_2 0) (some false) (bnd (impl_within.f k a0_0 3 6) fun y6 => brB y6 (bnd (impl_within.f k a0_5 0 7) fun y7 => brB (bNot y7) (some false) (brB (bNot y6) (brB (iNe a0_5 0) (some false) (brB (iEq a0_0 6) (bnd (impl_within.f k a0_6 0 2) fun y8 => brB (bNot y8) (some false) (brB (iNe a0_0 6) (brB (iNe a0_6 0) (some false) (bnd (impl_Packet__dataOk.f k a0_0 a0_1 a0_2 a0_3 a0_4 a0_5 a0_6 a0_7) fun y9 => some y9)) (bnd (impl_Packet__dataOk.f k a0_0 a0_1 a0_2 a0_3 a0_4 a0_5 a0_6 a0_7) fun y10 => some y10))) (brB (iNe a0_0 6) (brB (iNe a0_6 0) (some false) (bnd (impl_Packet__dataOk.f k a0_0 a0_1 a0_2 a0_3 a0_4 a0_5 a0_6 a0_7) fun y11 => some y11)) (bnd (impl_Packet__dataOk.f k a0_0 a0_1 a0_2 a0_3 a0_4 a0_5 a0_6 a0_7) fun y12 => some y12)))) (brB (iEq a0_0 6) (bnd (impl_within.f k a0_6 0 2) fun y13 => brB (bNot y13) (some false) (brB (iNe a0_0 6) (brB (iNe a0_6 0) (some false) (bnd (impl_Packet__dataOk.f k a0_0 a0_1 a0_2 a0_3 a0_4 a0_5 a0_6 a0_7) fun y14 => some y14)) (bnd (impl_Packet__dataOk.f k a0_0 a0_1 a0_2 a0_3 a0_4 a0_5 a0_6 a0_7) fun y15 => some y15))) (brB (iNe a0_0 6) (brB (iNe a0_6 0) (some false) (bnd (impl_Packet__dataOk.f k a0_0 a0_1 a0_2 a0_3 a0_4 a0_5 a0_6 a0_7) fun y16 => some y16)) (bnd (impl_Packet__dataOk.f k a0_0 a0_1 a0_2 a0_3 a0_4 a0_5 a0_6 a0_7) fun y17 => some y17))))) (brB (bNot y6) (brB (iNe a0_5 0) (some false) (brB (iEq a0_0 6) (bnd (impl_within.f k a0_6 0 2) fun y18 => brB (bNot y18) (some false) (brB (iNe a0_0 6) (brB (iNe a0_6 0) (some false) (bnd (impl_Packet__dataOk.f k a0_0 a0_1 a0_2 a0_3 a0_4 a0_5 a0_6 a0_7) fun y19 => some y19)) (bnd (impl_Packet__dataOk.f k a0_0 a0_1 a0_2 a0_3 a0_4 a0_5 a0_6 a0_7) fun y20 => some y20))) (brB (iNe a0_0 6) (brB (iNe a0_6 0) (some false) (bnd (impl_Packet__dataOk.f k a0_0 a0_1 a0_2 a0_3 a0_4 a0_5 a0_6 a0_7) fun y21 => some y21)) (bnd (impl_Packet__dataOk.f k a0_0 a0_1 a0_2 a0_3 a0_4 a0_5 a0_6 a0_7) fun y22 => some y22)))) (brB (iEq a0_0 6) (bnd (impl_within.f k a0_6 0 2) fun y23 => brB (bNot y23) (some false) (brB (iNe a0_0 6) (brB (iNe a0_6 0) (some false) (bnd (impl_Packet__dataOk.f k a0_0 a0_1 a0_2 a0_3 a0_4 a0_5 a0_6 a0_7) fun y24 => some y24)) (bnd (impl_Packet__dataOk.f k a0_0 a0_1 a0_2 a0_3 a0_4 a0_5 a0_6 a0_7) fun y25 => some y25))) (brB (iNe a0_0 6) (brB (iNe a0_6 0) (some false) (bnd (impl_Packet__dataOk.f k a0_0 a0_1 a0_2 a0_3 a0_4 a0_5 a0_6 a0_7) fun y26 => some y26)) (bnd (impl_Packet__dataOk.f k a0_0 a0_1 a0_2 a0_3 a0_4 a0_5 a0_6 a0_7) fun y27 => some y27)))))) (bnd (impl_within.f k a0_0 3 6) fun y28 => brB y28 (bnd (impl_within.f k a0_5 0 7) fun y29 => brB (bNot y29) (some false) (brB (bNot y28) (brB (iNe a0_5 0) (some false) (brB (iEq a0_0 6) (bnd (impl_within.f k a0_6 0 2) fun y30 => brB (bNot y30) (some false) (brB (iNe a0_0 6) (brB (iNe a0_6 0) (some false) (bnd (impl_Packet__dataOk.f k a0_0 a0_1 a0_2 a0_3 a0_4 a0_5 a0_6 a0_7) fun y31 => some y31)) (bnd (impl_Packet__dataOk.f k a0_0 a0_1 a0_2 a0_3 a0_4 a0_5 a0_6 a0_7) fun y32 => some y32))) (brB (iNe a0_0 6) (brB (iNe a0_6 0) (some false) (bnd (impl_Packet__dataOk.f k a0_0 a0_1 a0_2 a0_3 a0_4 a0_5 a0_6 a0_7) fun y33 => some y33)) (bnd (impl_Packet__dataOk.f k a0_0 a0_1 a0_2 a0_3 a0_4 a0_5 a0_6 a0_7) fun y34 => some y34)))) (brB (iEq a0_0 6) (bnd (impl_within.f k a0_6 0 2) fun y35 => brB (bNot y35) (some false) (brB (iNe a0_0 6) (brB (iNe a0_6 0) (some false) (bnd (impl_Packet__dataOk.f k a0_0 a0_1 a0_2 a0_3 a0_4 a0_5 a0_6 a0_7) fun y36 => some y36)) (bnd (impl_Packet__dataOk.f k a0_0 a0_1 a0_2 a0_3 a0_4 a0_5 a0_6 a0_7) fun y37 => some y37))) (brB (iNe a0_0 6) (brB (iNe a0_6 0) (some false) (bnd (impl_Packet__dataOk.f k a0_0 a0_1 a0_2 a0_3 a0_4 a0_5 a0_6 a0_7) fun y38 => some y38)) (bnd (impl_Packet__dataOk.f k a0_0 a0_1 a0_2 a0_3 a0_4 a0_5 a0_6 a0_7) fun y39 => some y39))))) (brB (bNot y28) (brB (iNe a0_5 0) (some false) (brB (iEq a0_0 6) (bnd (impl_within.f k a0_6 0 2) fun y40 => brB (bNot y40) (some false) (brB (iNe a0_0 6) (brB (iNe a0_6 0) (some false) (bnd (impl_Packet__dataOk.f k a0_0 a0_1 a0_2 a0_3 a0_4 a0_5 a0_6 a0_7) fun y41 => some y41)) (bnd (impl_Packet__dataOk.f k a0_0 a0_1 a0_2 a0_3 a0_4 a0_5 a0_6 a0_7) fun y42 => some y42))) (brB (iNe a0_0 6) (brB (iNe a0_6 0) (some false) (bnd (impl_Packet__dataOk.f k a0_0 a0_1 a0_2 a0_3 a0_4 a0_5 a0_6 a0_7) fun y43 => some y43)) (bnd (impl_Packet__dataOk.f k a0_0 a0_1 a0_2 a0_3 a0_4 a0_5 a0_6 a0_7) fun y44 => some y44)))) (brB (iEq a0_0 6) (bnd (impl_within.f k a0_6 0 2) fun y45 => brB (bNot y45) (some false) (brB (iNe a0_0 6) (brB (iNe a0_6 0) (some false) (bnd (impl_Packet__dataOk.f k a0_0 a0_1 a0_2 a0_3 a0_4 a0_5 a0_6 a0_7) fun y46 => some y46)) (bnd (impl_Packet__dataOk.f k a0_0 a0_1 a0_2 a0_3 a0_4 a0_5 a0_6 a0_7) fun y47 => some y47))) (brB (iNe a0_0 6) (brB (iNe a0_6 0) (some false) (bnd (impl_Packet__dataOk.f k a0_0 a0_1 a0_2 a0_3 a0_4 a0_5 a0_6 a0_7) fun y48 => some y48)) (bnd (impl_Packet__dataOk.f k a0_0 a0_1 a0_2 a0_3 a0_4 a0_5 a0_6 a0_7) fun y49 => some y49))))))) (brB (bNot y4) (brB (iNe a0_2 0) (some false) (bnd (impl_within.f k a0_0 3 6) fun y50 => brB y50 (bnd (impl_within.f k a0_5 0 7) fun y51 => brB (bNot y51) (some false) (brB (bNot y50) (brB (iNe a0_5 0) (some false) (brB (iEq a0_0 6) (bnd (impl_within.f k a0_6 0 2) fun y52 => brB (bNot y52) (some false) (brB (iNe a0_0 6) (brB (iNe a0_6 0) (some false) (bnd (impl_Packet__dataOk.f k a0_0 a0_1 a0_2 a0_3 a0_4 a0_5 a0_6 a0_7) fun y53 => some y53)) (bnd (impl_Packet__dataOk.f k a0_0 a0_1 a0_2 a0_3 a0_4 a0_5 a0_6 a0_7) fun y54 => some y54))) (brB (iNe a0_0 6) (brB (iNe a0_6 0) (some false) (bnd (impl_Packet__dataOk.f k a0_0 a0_1 a0_2 a0_3 a0_4 a0_5 a0_6 a0_7) fun y55 => some y55)) (bnd (impl_Packet__dataOk.f k a0_0 a0_1 a0_2 a0_3 a0_4 a0_5 a0_6 a0_7) fun y56 => some y56)))) (brB (iEq a0_0 6) (bnd (impl_within.f k a0_6 0 2) fun y57 => brB (bNot y57) (some false) (brB (iNe a0_0 6) (brB (iNe a0_6 0) (some false) (bnd (impl_Packet__dataOk.f k a0_0 a0_1 a0_2 a0_3 a0_4 a0_5 a0_6 a0_7) fun y58 => some y58)) (bnd (impl_Packet__dataOk.f k a0_0 a0_1 a0_2 a0_3 a0_4 a0_5 a0_6 a0_7) fun y59 => some y59))) (brB (iNe a0_0 6) (brB (iNe a0_6 0) (some false) (bnd (impl_Packet__dataOk.f k a0_0 a0_1 a0_2 a0_3 a0_4 a0_5 a0_6 a0_7) fun y60 => some y60)) (bnd (impl_Packet__dataOk.f k a0_0 a0_1 a0_2 a0_3 a0_4 a0_5 a0_6 a0_7) fun y61 => some y61))))) (brB (bNot y50) (brB (iNe a0_5 0) (some false) (brB (iEq a0_0 6) (bnd (impl_within.f k a0_6 0 2) fun y62 => brB (bNot y62) (some false) (brB (iNe a0_0 6) (brB (iNe a0_6 0) (some false) (bnd (impl_Packet__dataOk.f k a0_0 a0_1 a0_2 a0_3 a0_4 a0_5 a0_6 a0_7) fun y63 => some y63)) (bnd (impl_Packet__dataOk.f k a0_0 a0_1 a0_2 a0_3 a0_4 a0_5 a0_6 a0_7) fun y64 => some y64))) (brB (iNe a0_0 6) (brB (iNe a0_6 0) (some false) (bnd (impl_Packet__dataOk.f k a0_0 a0_1 a0_2 a0_3 a0_4 a0_5 a0_6 a0_7) fun y65 => some y65)) (bnd (impl_Packet__dataOk.f k a0_0 a0_1 a0_2 a0_3 a0_4 a0_5 a0_6 a0_7) fun y66 => some y66)))) (brB (iEq a0_0 6) (bnd (impl_within.f k a0_6 0 2) fun y67 => brB (bNot y67) (some false) (brB (iNe a0_0 6) (brB (iNe a0_6 0) (some false) (bnd (impl_Packet__dataOk.f k a0_0 a0_1 a0_2 a0_3 a0_4 a0_5 a0_6 a0_7) fun y68 => some y68)) (bnd (impl_Packet__dataOk.f k a0_0 a0_1 a0_2 a0_3 a0_4 a0_5 a0_6 a0_7) fun y69 => some y69))) (brB (iNe a0_0 6) (brB (iNe a0_6 0) (some false) (bnd (impl_Packet__dataOk.f k a0_0 a0_1 a0_2 a0_3 a0_4 a0_5 a0_6 a0_7) fun y70 => some y70)) (bnd (impl_Packet__dataOk.f k a0_0 a0_1 a0_2 a0_3 a0_4 a0_5 a0_6 a0_7) fun y71 => some y71)))))) (bnd (impl_within.f k a0_0 3 6) fun y72 => brB y72 (bnd (impl_within.f k a0_5 0 7) fun y73 => brB (bNot y73) (some false) (brB (bNot y72) (brB (iNe a0_5 0) (some false) (brB (iEq a0_0 6) (bnd (impl_within.f k a0_6 0 2) fun y74 => brB (bNot y74) (some false) (brB (iNe a0_0 6) (brB (iNe a0_6 0) (some false) (bnd (impl_Packet__dataOk.f k a0_0 a0_1 a0_2 a0_3 a0_4 a0_5 a0_6 a0_7) fun y75 => some y75)) (bnd (impl_Packet__dataOk.f k a0_0 a0_1 a0_2 a0_3 a0_4 a0_5 a0_6 a0_7) fun y76 => some y76))) (brB (iNe a0_0 6) (brB (iNe a0_6 0) (some false) (bnd (impl_Packet__dataOk.f k a0_0 a0_1 a0_2 a0_3 a0_4 a0_5 a0_6 a0_7) fun y77 => some y77)) (bnd (impl_Packet__dataOk.f k a0_0 a0_1 a0_2 a0_3 a0_4 a0_5 a0_6 a0_7) fun y78 => some y78)))) (brB (iEq a0_0 6) (bnd (impl_within.f k a0_6 0 2) fun y79 => brB (bNot y79) (some false) (brB (iNe a0_0 6) (brB (iNe a0_6 0) (some false) (bnd (impl_Packet__dataOk.f k a0_0 a0_1 a0_2 a0_3 a0_4 a0_5 a0_6 a0_7) fun y80 => some y80)) (bnd (impl_Packet__dataOk.f k a0_0 a0_1 a0_2 a0_3 a0_4 a0_5 a0_6 a0_7) fun y81 => some y81))) (brB (iNe a0_0 6) (brB (iNe a0_6 0) (some false) (bnd (impl_Packet__dataOk.f k a0_0 a0_1 a0_2 a0_3 a0_4 a0_5 a0_6 a0_7) fun y82 => some y82)) (bnd (impl_Packet__dataOk.f k a0_0 a0_1 a0_2 a0_3 a0_4 a0_5 a0_6 a0_7) fun y83 => some y83))))) (brB (bNot y72) (brB (iNe a0_5 0) (some false) (brB (iEq a0_0 6) (bnd (impl_within.f k a0_6 0 2) fun y84 => brB (bNot y84) (some false) (brB (iNe a0_0 6) (brB (iNe a0_6 0) (some false) (bnd (impl_Packet__dataOk.f k a0_0 a0_1 a0_2 a0_3 a0_4 a0_5 a0_6 a0_7) fun y85 => some y85)) (bnd (impl_Packet__dataOk.f k a0_0 a0_1 a0_2 a0_3 a0_4 a0_5 a0_6 a0_7) fun y86 => some y86))) (brB (iNe a0_0 6) (brB (iNe a0_6 0) (some false) (bnd (impl_Packet__dataOk.f k a0_0 a0_1 a0_2 a0_3 a0_4 a0_5 a0_6 a0_7) fun y87 => some y87)) (bnd (impl_Packet__dataOk.f k a0_0 a0_1 a0_2 a0_3 a0_4 a0_5 a0_6 a0_7) fun y88 => some y88)))) (brB (iEq a0_0 6) (bnd (impl_within.f k a0_6 0 2) fun y89 => brB (bNot y89) (some false) (brB (iNe a0_0 6) (brB (iNe a0_6 0) (some false) (bnd (impl_Packet__dataOk.f k a0_0 a0_1 a0_2 a0_3 a0_4 a0_5 a0_6 a0_7) fun y90 => some y90)) (bnd (impl_Packet__dataOk.f k a0_0 a0_1 a0_2 a0_3 a0_4 a0_5 a0_6 a0_7) fun y91 => some y91))) (brB (iNe a0_0 6) (brB (iNe a0_6 0) (some false) (bnd (impl_Packet__dataOk.f k a0_0 a0_1 a0_2 a0_3 a0_4 a0_5 a0_6 a0_7) fun y92 => some y92)) (bnd (impl_Packet__dataOk.f k a0_0 a0_1 a0_2 a0_3 a0_4 a0_5 a0_6 a0_7) fun y93 => some y93))))))))))
def sig : Sig := ⟨26, [.w true [I, I, I, I, I, I, I, .row I]], [(false, [.val .bool])]⟩
def H : Hints := ⟨[], [], [], []⟩
def spec : Spec := { sig := sig, fn := fun k (x : Int × Int × Int × Int × Int × Int × Int × List Int) => f k x.1 x.2.1 x.2.2.1 x.2.2.2.1 x.2.2.2.2.1 x.2.2.2.2.2.1 x.2.2.2.2.2.2.1 x.2.2.2.2.2.2.2 }
theorem ok : Holds Go.Proofs.Try.prog spec := holds_of_run (G := [impl_within.spec, impl_IsId.spec, impl_Packet__addressOk.spec, impl_Packet__lengthOk.spec, impl_Packet__dataOk.spec]) (holds_cons impl_within.ok (holds_cons impl_IsId.ok (holds_cons impl_Packet__addressOk.ok (holds_cons impl_Packet__lengthOk.ok (holds_cons impl_Packet__dataOk.ok holds_nil))))) (by kernel_rfl) H Go.Proofs.Try.func26 (by kernel_rfl) (rfl : Go.Proofs.Try.f26.body = some _) (by kernel_rfl) (by kernel_rfl) fun k x y h => Eq.trans (by kernel_rfl : _ = spec.fn k x) h
end impl_IsPacket

namespace laws_sameInts
def s0 (k : Nat) (rec0 : (List Int × List Int × Int) → Option (Bool)) (x0 : List Int) (x1 : List Int) (x2 : Int) : Option (Bool) := brB (iLt x2 (rLen x0)) (chk (cIdx x2 (rLen x0)) (chk (cIdx x2 (rLen x1)) (brB (iNe (rGet 0 x0 x2) (rGet 0 x1 x2)) (some false) (rec0 (x0, x1, iAdd .i64 x2 1))))) (some true)
def l0 (k n : Nat) (x0 : List Int) (x1 : List Int) (x2 : Int) : Option (Bool) := iter (fun (rec : (List Int × List Int × Int) → Option (Bool)) (x : List Int × List Int × Int) => s0 k rec x.1 x.2.1 x.2.2) n (x0, x1, x2)
def f (k : Nat) (a0 : List Int) (a1 : List Int) : Option (Bool) := brB (iNe (rLen a0) (rLen a1)) (some false) (l0 k k a0 a1 0)
def sig : Sig := ⟨27, [.w false [.row I], .w false [.row I]], [(false, [.val .bool])]⟩
def H : Hints := ⟨[(4, ⟨⟨[(0, .w false 1), (1, .w false 1), (5, .w false 1)], []⟩, [], [.val (.row I), .val (.row I), .val I], []⟩)], [], [(6, [0, 0, 3, 7, 0, 0, 48, 112, 255])], []⟩
def spec : Spec := { sig := sig, fn := fun k (x : List Int × List Int) => f k x.1 x.2 }
theorem ok : Holds Go.Proofs.Try.prog spec := holds_of_run (G := []) holds_nil (by kernel_rfl) H Go.Proofs.Try.func27 (by kernel_rfl) (rfl : Go.Proofs.Try.f27.body = some _) (by kernel_rfl) (by kernel_rfl) fun k x y h => Eq.trans (by kernel_rfl : _ = spec.fn k x) h
end laws_sameInts

namespace laws_FnVectors
def f (k : Nat) (a0 : List Int) : Option (Bool) := bnd (laws_big.f k a0) fun y0 => brB y0 (some true) (bnd (spec_DrawVectors.f k a0) fun (y1, y2, y3) => bnd (spec_DrawPlaces.f k a0) fun y4 => chk (cIdx 0 (rLen y4)) (chk (cNz (rLen y2)) (bnd (impl_SetMask.f k y1 y2 y3 33 (iRem (rGet 0 y4 0) (rLen y2)) true) fun (y5, y6, y7, y8, y9, y10, y11, y12, y13, y14, y15, y16) => bnd (impl_RaiseVector.f k y5 y6 y7 33 (iRem (rGet 0 y4 0) (rLen y2))) fun (y17, y18, y19, y20, y21, y22, y23, y24, y25, y26, y27, y28) => bnd (impl_SetMask.f k y17 y18 y19 33 (iRem (rGet 0 y4 0) (rLen y2)) false) fun (y29, y30, y31, y32, y33, y34, y35, y36, y37, y38, y39, y40) => bnd (impl_SetMask.f k y29 y30 y31 33 (iRem (rGet 0 y4 0) (rLen y2)) false) fun (y41, y42, y43, y44, y45, y46, y47, y48, y49, y50, y51, y52) => bnd (impl_VectorsOk.f k y1 y2 y3) fun y53 => brB y53 (brB y16 (brB y28 (brB y40 (brB y52 (bnd (impl_SamePacket.f k y8 y9 y10 y11 y12 y13 y14 y15 0 0 0 0 0 0 0 []) fun y54 => brB y54 (bnd (impl_SamePacket.f k y20 y21 y22 y23 y24 y25 y26 y27 0 0 0 0 0 0 0 []) fun y55 => brB y55 (bnd (impl_PendingOf.f k y17 y18 y19) fun y56 => bnd (laws_has.f k y56 (iRem (rGet 0 y4 0) (rLen y2))) fun y57 => brB y57 (bnd (impl_PendingOf.f k y29 y30 y31) fun y58 => bnd (laws_has.f k y58 (iRem (rGet 0 y4 0) (rLen y2))) fun y59 => brB (bNot y59) (bnd (impl_IsPacket.f k y32 y33 y34 y35 y36 y37 y38 y39) fun y60 => brB y60 (brB (iEq y35 y1) (bnd (laws_sameInts.f k y39 [iRem (rGet 0 y4 0) (rLen y2)]) fun y61 => brB y61 (bnd (impl_SamePacket.f k y44 y45 y46 y47 y48 y49 y50 y51 0 0 0 0 0 0 0 []) fun y62 => brB y62 (bnd (impl_VectorsOk.f k y29 y30 y31) fun y63 => some y63) (some false)) (some false)) (some false)) (some false)) (some false)) (some false)) (some false)) (some false)) (some false)) (some false)) (some false)) (some false)) (some false))))
def sig : Sig := ⟨5, [.w false [.row (.int .u8)]], [(false, [.val .bool])]⟩
def H : Hints := ⟨[], [], [(5, [0, 1, 3, 0, 8, 24, 63, 127])], []⟩
def spec : Spec := { sig := sig, fn := fun k (x : List Int) => f k x }
theorem ok : Holds Go.Proofs.Try.prog spec := holds_of_run (G := [laws_big.spec, spec_DrawVectors.spec, spec_DrawPlaces.spec, impl_VectorsOk.spec, impl_SetMask.spec, impl_RaiseVector.spec, impl_SamePacket.spec, impl_PendingOf.spec, laws_has.spec, impl_IsPacket.spec, laws_sameInts.spec]) (holds_cons laws_big.ok (holds_cons spec_DrawVectors.ok (holds_cons spec_DrawPlaces.ok (holds_cons impl_VectorsOk.ok (holds_cons impl_SetMask.ok (holds_cons impl_RaiseVector.ok (holds_cons impl_SamePacket.ok (holds_cons impl_PendingOf.ok (holds_cons laws_has.ok (holds_cons impl_IsPacket.ok (holds_cons laws_sameInts.ok holds_nil))))))))))) (by kernel_rfl) H Go.Proofs.Try.func5 (by kernel_rfl) (rfl : Go.Proofs.Try.f5.body = some _) (by kernel_rfl) (by kernel_rfl) fun k x y h => Eq.trans (by kernel_rfl : _ = spec.fn k x) h
end laws_FnVectors

end
end Go.Proofs.YtmilhndiocggkaaT
