/- The functions of the program, as they compute: printed by a program of the session (wip/gen), each with its contract. -/
import Derived.Test.YtgcpodpgliifgaaProg
import Derived.Test.YtgcpodpgliifgaaTiAI
set_option linter.unusedVariables false
set_option maxRecDepth 100000
namespace Go.Proofs.YtgcpodpgliifgaaT
open Go
abbrev I : Ty := .int .i64
noncomputable section
namespace laws_big
def f (k : Nat) (a0 : List Int) : Option (Bool) := some (iLt 1048576 (rLen a0))
def sig : Sig := ⟨13, [.w false [.row (.int .u8)]], [(false, [.val .bool])]⟩
def H : Hints := ⟨[], [], [], []⟩
def spec : Spec := { sig := sig, fn := fun k (x : List Int) => f k x }
theorem ok : Holds Go.Proofs.Try.prog spec := holds_of_run (G := []) holds_nil (by kernel_rfl) H Go.Proofs.Try.func13 (by kernel_rfl) (rfl : Go.Proofs.Try.f13.body = some _) (by kernel_rfl) (by kernel_rfl) fun k x y h => Eq.trans (by kernel_rfl : _ = spec.fn k x) h
end laws_big

namespace spec_l01New
def s0 (k : Nat) (rec0 : (List Int × Int × Int) → Option (List Int × Int × Int)) (x0 : List Int) (x1 : Int) (x2 : Int) : Option (List Int × Int × Int) := brB (iLt x2 (rLen x0)) (brB (iLt x2 4000) (chk (cIdx x2 (rLen x0)) (rec0 (x0, iBit .and .i64 (iAdd .i64 (iAdd .i64 (iMul .i64 x1 131) (iCnv .i64 (rGet 0 x0 x2))) 7) 1073741823, iAdd .i64 x2 1))) (some (x0, 0, x1))) (some (x0, 0, x1))
def l0 (k n : Nat) (x0 : List Int) (x1 : Int) (x2 : Int) : Option (List Int × Int × Int) := iter (fun (rec : (List Int × Int × Int) → Option (List Int × Int × Int)) (x : List Int × Int × Int) => s0 k rec x.1 x.2.1 x.2.2) n (x0, x1, x2)
def f (k : Nat) (a0 : List Int) : Option (List Int × Int × Int) := l0 k k a0 (iAdd .i64 98663 (rLen a0)) 0
def sig : Sig := ⟨44, [.w false [.row (.int .u8)]], [(true, [.val (.row (.int .u8)), .val I, .val I])]⟩
def H : Hints := ⟨[(3, ⟨⟨[(0, .w false 1), (3, .w false 1), (4, .w false 1)], []⟩, [], [.val (.row (.int .u8)), .val I, .val I], []⟩)], [], [], []⟩
def spec : Spec := { sig := sig, fn := fun k (x : List Int) => f k x, boxed := true }
theorem ok : Holds Go.Proofs.Try.prog spec := holds_of_box rfl (G := []) holds_nil (by kernel_rfl) H Go.Proofs.Try.func44 (by kernel_rfl) (rfl : Go.Proofs.Try.f44.body = some _) (by kernel_rfl) (by kernel_rfl) (by kernel_rfl) fun k x y h => Eq.trans (by kernel_rfl : _ = spec.fn k x) h
end spec_l01New

namespace spec_l01Byte
def f (k : Nat) (a0_0 : List Int) (a0_1 : Int) (a0_2 : Int) : Option (Int × List Int × Int × Int) := chk (cNn 33) (chk (cNn 45) (brB (iLt a0_1 (rLen a0_0)) (chk (cIdx a0_1 (rLen a0_0)) (some (iBit .and .i64 (iAdd .i64 (iBit .and .i64 (iBit .xor .i64 (iShr .i64 (iAdd .i64 (iMul .i64 a0_2 6364136223846793005) 1442695040888963407) 33) (iShr .i64 (iAdd .i64 (iMul .i64 a0_2 6364136223846793005) 1442695040888963407) 45)) 255) (iCnv .i64 (rGet 0 a0_0 a0_1))) 255, a0_0, iAdd .i64 a0_1 1, iAdd .i64 (iMul .i64 a0_2 6364136223846793005) 1442695040888963407))) (some (iBit .and .i64 (iBit .xor .i64 (iShr .i64 (iAdd .i64 (iMul .i64 a0_2 6364136223846793005) 1442695040888963407) 33) (iShr .i64 (iAdd .i64 (iMul .i64 a0_2 6364136223846793005) 1442695040888963407) 45)) 255, a0_0, a0_1, iAdd .i64 (iMul .i64 a0_2 6364136223846793005) 1442695040888963407))))
def sig : Sig := ⟨64, [.ref [.row (.int .u8), I, I]], [(false, [.val I])]⟩
def H : Hints := ⟨[], [], [(2, [0, 1, 3, 7, 15, 0, 32, 96, 224, 480, 1023, 2047, 4095]), (3, [0, 1, 3, 7, 0, 16, 48, 112, 240, 511]), (4, [0, 0, 2, 6, 14, 0, 32, 96, 224, 510, 1022, 2046, 4095, 8191, 16383])], []⟩
def spec : Spec := { sig := sig, fn := fun k (x : List Int × Int × Int) => f k x.1 x.2.1 x.2.2 }
theorem ok : Holds Go.Proofs.Try.prog spec := holds_of_run (G := []) holds_nil (by kernel_rfl) H Go.Proofs.Try.func64 (by kernel_rfl) (rfl : Go.Proofs.Try.f64.body = some _) (by kernel_rfl) (by kernel_rfl) fun k x y h => Eq.trans (by kernel_rfl : _ = spec.fn k x) h
end spec_l01Byte

namespace spec_l01Below
def f (k : Nat) (a1 : Int) (a0_0 : List Int) (a0_1 : Int) (a0_2 : Int) : Option (Int × List Int × Int × Int) := brB (iLe a1 0) (some (0, a0_0, a0_1, a0_2)) (brB (iLe a1 256) (bnd (spec_l01Byte.f k a0_0 a0_1 a0_2) fun (y0, y1, y2, y3) => chk (cNz a1) (some (iRem y0 a1, y1, y2, y3))) (bnd (spec_l01Byte.f k a0_0 a0_1 a0_2) fun (y4, y5, y6, y7) => bnd (spec_l01Byte.f k y5 y6 y7) fun (y8, y9, y10, y11) => bnd (spec_l01Byte.f k y9 y10 y11) fun (y12, y13, y14, y15) => bnd (spec_l01Byte.f k y13 y14 y15) fun (y16, y17, y18, y19) => chk (cNz a1) (some (iRem (iAdd .i64 (iAdd .i64 (iAdd .i64 (iMul .i64 y4 16777216) (iMul .i64 y8 65536)) (iMul .i64 y12 256)) y16) a1, y17, y18, y19))))
def sig : Sig := ⟨47, [.ref [.row (.int .u8), I, I], .w false [I]], [(false, [.val I])]⟩
def H : Hints := ⟨[], [], [], []⟩
def spec : Spec := { sig := sig, fn := fun k (x : Int × List Int × Int × Int) => f k x.1 x.2.1 x.2.2.1 x.2.2.2 }
theorem ok : Holds Go.Proofs.Try.prog spec := holds_of_run (G := [spec_l01Byte.spec]) (holds_cons spec_l01Byte.ok holds_nil) (by kernel_rfl) H Go.Proofs.Try.func47 (by kernel_rfl) (rfl : Go.Proofs.Try.f47.body = some _) (by kernel_rfl) (by kernel_rfl) fun k x y h => Eq.trans (by kernel_rfl : _ = spec.fn k x) h
end spec_l01Below

namespace spec_l01PickInt
def f (k : Nat) (a1 : List Int) (a0_0 : List Int) (a0_1 : Int) (a0_2 : Int) : Option (Int × List Int × Int × Int) := bnd (spec_l01Below.f k (rLen a1) a0_0 a0_1 a0_2) fun (y0, y1, y2, y3) => chk (cIdx y0 (rLen a1)) (some (rGet 0 a1 y0, y1, y2, y3))
def sig : Sig := ⟨63, [.ref [.row (.int .u8), I, I], .w false [.row I]], [(false, [.val I])]⟩
def H : Hints := ⟨[], [], [], []⟩
def spec : Spec := { sig := sig, fn := fun k (x : List Int × List Int × Int × Int) => f k x.1 x.2.1 x.2.2.1 x.2.2.2 }
theorem ok : Holds Go.Proofs.Try.prog spec := holds_of_run (G := [spec_l01Below.spec]) (holds_cons spec_l01Below.ok holds_nil) (by kernel_rfl) H Go.Proofs.Try.func63 (by kernel_rfl) (rfl : Go.Proofs.Try.f63.body = some _) (by kernel_rfl) (by kernel_rfl) fun k x y h => Eq.trans (by kernel_rfl : _ = spec.fn k x) h
end spec_l01PickInt

namespace spec_l26Read
def f (k : Nat) (a0_0 : List Int) (a0_1 : Int) (a0_2 : Int) : Option (Int × Int × Int × Int × Int × Int × Int × List Int × List Int × Int × Int) := bnd (spec_l01Below.f k 256 a0_0 a0_1 a0_2) fun (y0, y1, y2, y3) => bnd (spec_l01Below.f k 20 y1 y2 y3) fun (y4, y5, y6, y7) => bnd (spec_l01Below.f k 8 y5 y6 y7) fun (y8, y9, y10, y11) => bnd (spec_l01Below.f k 9000 y9 y10 y11) fun (y12, y13, y14, y15) => bnd (spec_l01PickInt.f k [0, 3, 7, 8, 100, y12] y13 y14 y15) fun (y16, y17, y18, y19) => some (3, y0, 0, y16, iAdd .i64 1 y4, y8, 0, [], y17, y18, y19)
def sig : Sig := ⟨45, [.ref [.row (.int .u8), I, I]], [(true, [.val I, .val I, .val I, .val I, .val I, .val I, .val I, .own I])]⟩
def H : Hints := ⟨[], [], [], []⟩
def spec : Spec := { sig := sig, fn := fun k (x : List Int × Int × Int) => f k x.1 x.2.1 x.2.2 }
theorem ok : Holds Go.Proofs.Try.prog spec := holds_of_run (G := [spec_l01Below.spec, spec_l01PickInt.spec]) (holds_cons spec_l01Below.ok (holds_cons spec_l01PickInt.ok holds_nil)) (by kernel_rfl) H Go.Proofs.Try.func45 (by kernel_rfl) (rfl : Go.Proofs.Try.f45.body = some _) (by kernel_rfl) (by kernel_rfl) fun k x y h => Eq.trans (by kernel_rfl : _ = spec.fn k x) h
end spec_l26Read

namespace spec_l04Data
def s0 (k : Nat) (rec0 : (Int × List Int × Int × List Int × Int × Int) → Option (List Int × List Int × Int × Int)) (x0 : Int) (x1 : List Int) (x2 : Int) (x3 : List Int) (x4 : Int) (x5 : Int) : Option (List Int × List Int × Int × Int) := brB (iLt x2 x0) (bnd (spec_l01Below.f k 256 x3 x4 x5) fun (y0, y1, y2, y3) => bnd (spec_l01Below.f k 65536 y1 y2 y3) fun (y4, y5, y6, y7) => bnd (spec_l01PickInt.f k [0, 1, 65535, y0, y4] y5 y6 y7) fun (y8, y9, y10, y11) => chk (cLen (rLen (rApp x1 [y8])) 8) (rec0 (x0, rApp x1 [y8], iAdd .i64 x2 1, y9, y10, y11))) (some (x1, x3, x4, x5))
def l0 (k n : Nat) (x0 : Int) (x1 : List Int) (x2 : Int) (x3 : List Int) (x4 : Int) (x5 : Int) : Option (List Int × List Int × Int × Int) := iter (fun (rec : (Int × List Int × Int × List Int × Int × Int) → Option (List Int × List Int × Int × Int)) (x : Int × List Int × Int × List Int × Int × Int) => s0 k rec x.1 x.2.1 x.2.2.1 x.2.2.2.1 x.2.2.2.2.1 x.2.2.2.2.2) n (x0, x1, x2, x3, x4, x5)
def f (k : Nat) (a1 : Int) (a0_0 : List Int) (a0_1 : Int) (a0_2 : Int) : Option (List Int × List Int × Int × Int) := l0 k k a1 [] 0 a0_0 a0_1 a0_2
def sig : Sig := ⟨46, [.ref [.row (.int .u8), I, I], .w false [I]], [(false, [.own I])]⟩
def H : Hints := ⟨[(3, ⟨⟨[(0, .ptr 0 0), (1, .w false 1), (5, .w false 1), (6, .w false 1)], [(0, 3)]⟩, [0], [.val I, .own I, .val I, .val (.row (.int .u8)), .val I, .val I], []⟩)], [], [], []⟩
def spec : Spec := { sig := sig, fn := fun k (x : Int × List Int × Int × Int) => f k x.1 x.2.1 x.2.2.1 x.2.2.2 }
theorem ok : Holds Go.Proofs.Try.prog spec := holds_of_run (G := [spec_l01Below.spec, spec_l01PickInt.spec]) (holds_cons spec_l01Below.ok (holds_cons spec_l01PickInt.ok holds_nil)) (by kernel_rfl) H Go.Proofs.Try.func46 (by kernel_rfl) (rfl : Go.Proofs.Try.f46.body = some _) (by kernel_rfl) (by kernel_rfl) fun k x y h => Eq.trans (by kernel_rfl : _ = spec.fn k x) h
end spec_l04Data

namespace spec_DrawRead
def f (k : Nat) (a0 : List Int) : Option (Int × Int × Int × Int × Int × Int × Int × List Int × List Int) := bnd (spec_l01New.f k a0) fun (y0, y1, y2) => bnd (spec_l26Read.f k y0 y1 y2) fun (y3, y4, y5, y6, y7, y8, y9, y10, y11, y12, y13) => bnd (spec_l04Data.f k y7 y11 y12 y13) fun (y14, y15, y16, y17) => some (y3, y4, y5, y6, y7, y8, y9, y10, y14)
def sig : Sig := ⟨14, [.w false [.row (.int .u8)]], [(true, [.val I, .val I, .val I, .val I, .val I, .val I, .val I, .own I]), (false, [.own I])]⟩
def H : Hints := ⟨[], [], [(3, [0, 0, 0, 4, 14, 31, 63])], []⟩
def spec : Spec := { sig := sig, fn := fun k (x : List Int) => f k x }
theorem ok : Holds Go.Proofs.Try.prog spec := holds_of_run (G := [spec_l01New.spec, spec_l26Read.spec, spec_l04Data.spec]) (holds_cons spec_l01New.ok (holds_cons spec_l26Read.ok (holds_cons spec_l04Data.ok holds_nil))) (by kernel_rfl) H Go.Proofs.Try.func14 (by kernel_rfl) (rfl : Go.Proofs.Try.f14.body = some _) (by kernel_rfl) (by kernel_rfl) fun k x y h => Eq.trans (by kernel_rfl : _ = spec.fn k x) h
end spec_DrawRead

namespace spec_DrawPlaces
def s0 (k : Nat) (rec0 : (List Int × Int × List Int × Int × Int) → Option (List Int)) (x0 : List Int) (x1 : Int) (x2 : List Int) (x3 : Int) (x4 : Int) : Option (List Int) := brB (iLt x1 12) (bnd (spec_l01Below.f k 10000 x2 x3 x4) fun (y3, y4, y5, y6) => chk (cLen (rLen (rApp x0 [y3])) 8) (rec0 (rApp x0 [y3], iAdd .i64 x1 1, y4, y5, y6))) (some x0)
def l0 (k n : Nat) (x0 : List Int) (x1 : Int) (x2 : List Int) (x3 : Int) (x4 : Int) : Option (List Int) := iter (fun (rec : (List Int × Int × List Int × Int × Int) → Option (List Int)) (x : List Int × Int × List Int × Int × Int) => s0 k rec x.1 x.2.1 x.2.2.1 x.2.2.2.1 x.2.2.2.2) n (x0, x1, x2, x3, x4)
def f (k : Nat) (a0 : List Int) : Option (List Int) := bnd (spec_l01New.f k a0) fun (y0, y1, y2) => l0 k k [] 0 y0 y1 y2
def sig : Sig := ⟨15, [.w false [.row (.int .u8)]], [(false, [.own I])]⟩
def H : Hints := ⟨[(4, ⟨⟨[(3, .ptr 103 0), (4, .w false 1), (5, .w false 1)], [(103, 3)]⟩, [3], [.own I, .val I, .val (.row (.int .u8)), .val I, .val I], []⟩)], [], [], []⟩
def spec : Spec := { sig := sig, fn := fun k (x : List Int) => f k x }
theorem ok : Holds Go.Proofs.Try.prog spec := holds_of_run (G := [spec_l01New.spec, spec_l01Below.spec]) (holds_cons spec_l01New.ok (holds_cons spec_l01Below.ok holds_nil)) (by kernel_rfl) H Go.Proofs.Try.func15 (by kernel_rfl) (rfl : Go.Proofs.Try.f15.body = some _) (by kernel_rfl) (by kernel_rfl) fun k x y h => Eq.trans (by kernel_rfl : _ = spec.fn k x) h
end spec_DrawPlaces

namespace impl_within
def f (k : Nat) (a0 : Int) (a1 : Int) (a2 : Int) : Option (Bool) := brB (iLe a1 a0) (some (iLe a0 a2)) (some false)
def sig : Sig := ⟨41, [.w false [I], .w false [I], .w false [I]], [(false, [.val .bool])]⟩
def H : Hints := ⟨[], [], [], []⟩
def spec : Spec := { sig := sig, fn := fun k (x : Int × Int × Int) => f k x.1 x.2.1 x.2.2 }
theorem ok : Holds Go.Proofs.Try.prog spec := holds_of_run (G := []) holds_nil (by kernel_rfl) H Go.Proofs.Try.func41 (by kernel_rfl) (rfl : Go.Proofs.Try.f41.body = some _) (by kernel_rfl) (by kernel_rfl) fun k x y h => Eq.trans (by kernel_rfl : _ = spec.fn k x) h
end impl_within

namespace impl_IsId
def f (k : Nat) (a0 : Int) : Option (Bool) := bnd (impl_within.f k a0 0 255) fun y0 => some y0
def sig : Sig := ⟨40, [.w false [I]], [(false, [.val .bool])]⟩
def H : Hints := ⟨[], [], [], []⟩
def spec : Spec := { sig := sig, fn := fun k (x : Int) => f k x }
theorem ok : Holds Go.Proofs.Try.prog spec := holds_of_run (G := [impl_within.spec]) (holds_cons impl_within.ok holds_nil) (by kernel_rfl) H Go.Proofs.Try.func40 (by kernel_rfl) (rfl : Go.Proofs.Try.f40.body = some _) (by kernel_rfl) (by kernel_rfl) fun k x y h => Eq.trans (by kernel_rfl : _ = spec.fn k x) h
end impl_IsId

namespace impl_Packet__words
def f (k : Nat) (a0_0 : Int) (a0_1 : Int) (a0_2 : Int) (a0_3 : Int) (a0_4 : Int) (a0_5 : Int) (a0_6 : Int) (a0_7 : List Int) : Option (Int) := brB (iEq a0_0 3) (some a0_4) (some (rLen a0_7))
def sig : Sig := ⟨71, [.w true [I, I, I, I, I, I, I, .row I]], [(false, [.val I])]⟩
def H : Hints := ⟨[], [], [], []⟩
def spec : Spec := { sig := sig, fn := fun k (x : Int × Int × Int × Int × Int × Int × Int × List Int) => f k x.1 x.2.1 x.2.2.1 x.2.2.2.1 x.2.2.2.2.1 x.2.2.2.2.2.1 x.2.2.2.2.2.2.1 x.2.2.2.2.2.2.2 }
theorem ok : Holds Go.Proofs.Try.prog spec := holds_of_run (G := []) holds_nil (by kernel_rfl) H Go.Proofs.Try.func71 (by kernel_rfl) (rfl : Go.Proofs.Try.f71.body = some _) (by kernel_rfl) (by kernel_rfl) fun k x y h => Eq.trans (by kernel_rfl : _ = spec.fn k x) h
end impl_Packet__words

namespace impl_Packet__addressOk
def f (k : Nat) (a0_0 : Int) (a0_1 : Int) (a0_2 : Int) (a0_3 : Int) (a0_4 : Int) (a0_5 : Int) (a0_6 : Int) (a0_7 : List Int) : Option (Bool) := brB (iEq a0_0 1) (brB (iEq a0_0 1) (bnd (impl_within.f k a0_3 0 65535) fun y0 => brB y0 (bnd (impl_Packet__words.f k a0_0 a0_1 a0_2 a0_3 a0_4 a0_5 a0_6 a0_7) fun y1 => some (iLe y1 (iSub .i64 65536 a0_3))) (some false)) (brB (iEq a0_0 4) (brB (iEq a0_0 4) (bnd (impl_within.f k a0_3 0 63) fun y2 => some y2) (some (iEq a0_3 0))) (brB (iEq a0_0 5) (bnd (impl_within.f k a0_3 0 63) fun y3 => some y3) (some (iEq a0_3 0))))) (brB (iEq a0_0 3) (bnd (impl_within.f k a0_3 0 65535) fun y4 => brB y4 (bnd (impl_Packet__words.f k a0_0 a0_1 a0_2 a0_3 a0_4 a0_5 a0_6 a0_7) fun y5 => some (iLe y5 (iSub .i64 65536 a0_3))) (some false)) (brB (iEq a0_0 4) (brB (iEq a0_0 4) (bnd (impl_within.f k a0_3 0 63) fun y6 => some y6) (some (iEq a0_3 0))) (brB (iEq a0_0 5) (bnd (impl_within.f k a0_3 0 63) fun y7 => some y7) (some (iEq a0_3 0)))))
def sig : Sig := ⟨65, [.w true [I, I, I, I, I, I, I, .row I]], [(false, [.val .bool])]⟩
def H : Hints := ⟨[], [], [(4, [0, 1, 3, 7, 15, 31, 15, 79, 207, 511, 1023, 2047])], []⟩
def spec : Spec := { sig := sig, fn := fun k (x : Int × Int × Int × Int × Int × Int × Int × List Int) => f k x.1 x.2.1 x.2.2.1 x.2.2.2.1 x.2.2.2.2.1 x.2.2.2.2.2.1 x.2.2.2.2.2.2.1 x.2.2.2.2.2.2.2 }
theorem ok : Holds Go.Proofs.Try.prog spec := holds_of_run (G := [impl_within.spec, impl_Packet__words.spec]) (holds_cons impl_within.ok (holds_cons impl_Packet__words.ok holds_nil)) (by kernel_rfl) H Go.Proofs.Try.func65 (by kernel_rfl) (rfl : Go.Proofs.Try.f65.body = some _) (by kernel_rfl) (by kernel_rfl) fun k x y h => Eq.trans (by kernel_rfl : _ = spec.fn k x) h
end impl_Packet__addressOk

namespace impl_Packet__lengthOk
def f (k : Nat) (a0_0 : Int) (a0_1 : Int) (a0_2 : Int) (a0_3 : Int) (a0_4 : Int) (a0_5 : Int) (a0_6 : Int) (a0_7 : List Int) : Option (Bool) := brB (iEq a0_0 3) (bnd (impl_within.f k a0_4 1 64) fun y0 => some y0) (brB (iEq a0_0 6) (bnd (impl_within.f k a0_4 0 64) fun y1 => some y1) (some (iEq a0_4 0)))
def sig : Sig := ⟨66, [.w true [I, I, I, I, I, I, I, .row I]], [(false, [.val .bool])]⟩
def H : Hints := ⟨[], [], [], []⟩
def spec : Spec := { sig := sig, fn := fun k (x : Int × Int × Int × Int × Int × Int × Int × List Int) => f k x.1 x.2.1 x.2.2.1 x.2.2.2.1 x.2.2.2.2.1 x.2.2.2.2.2.1 x.2.2.2.2.2.2.1 x.2.2.2.2.2.2.2 }
theorem ok : Holds Go.Proofs.Try.prog spec := holds_of_run (G := [impl_within.spec]) (holds_cons impl_within.ok holds_nil) (by kernel_rfl) H Go.Proofs.Try.func66 (by kernel_rfl) (rfl : Go.Proofs.Try.f66.body = some _) (by kernel_rfl) (by kernel_rfl) fun k x y h => Eq.trans (by kernel_rfl : _ = spec.fn k x) h
end impl_Packet__lengthOk

namespace impl_isWord
def f (k : Nat) (a0 : Int) : Option (Bool) := bnd (impl_within.f k a0 0 65535) fun y0 => some y0
def sig : Sig := ⟨62, [.w false [I]], [(false, [.val .bool])]⟩
def H : Hints := ⟨[], [], [], []⟩
def spec : Spec := { sig := sig, fn := fun k (x : Int) => f k x }
theorem ok : Holds Go.Proofs.Try.prog spec := holds_of_run (G := [impl_within.spec]) (holds_cons impl_within.ok holds_nil) (by kernel_rfl) H Go.Proofs.Try.func62 (by kernel_rfl) (rfl : Go.Proofs.Try.f62.body = some _) (by kernel_rfl) (by kernel_rfl) fun k x y h => Eq.trans (by kernel_rfl : _ = spec.fn k x) h
end impl_isWord

namespace impl_Packet__dataOk_1
def f (k : Nat) (a0 : Int) : Option (Bool) := bnd (impl_isWord.f k a0) fun y0 => some (bNot y0)
def sig : Sig := ⟨72, [.w false [I]], [(false, [.val .bool])]⟩
def H : Hints := ⟨[], [], [], []⟩
def spec : Spec := { sig := sig, fn := fun k (x : Int) => f k x }
theorem ok : Holds Go.Proofs.Try.prog spec := holds_of_run (G := [impl_isWord.spec]) (holds_cons impl_isWord.ok holds_nil) (by kernel_rfl) H Go.Proofs.Try.func72 (by kernel_rfl) (rfl : Go.Proofs.Try.f72.body = some _) (by kernel_rfl) (by kernel_rfl) fun k x y h => Eq.trans (by kernel_rfl : _ = spec.fn k x) h
end impl_Packet__dataOk_1

namespace slices_IndexFunc_int_impl_Packet__dataOk_1
def s0 (k : Nat) (rec0 : (List Int × Int × Int) → Option (Int)) (x0 : List Int) (x1 : Int) (x2 : Int) : Option (Int) := brB (iLt x2 x1) (chk (cIdx x2 (rLen x0)) (bnd (impl_Packet__dataOk_1.f k (rGet 0 x0 x2)) fun y0 => brB y0 (some x2) (rec0 (x0, x1, iAdd .i64 x2 1)))) (some (-1))
def l0 (k n : Nat) (x0 : List Int) (x1 : Int) (x2 : Int) : Option (Int) := iter (fun (rec : (List Int × Int × Int) → Option (Int)) (x : List Int × Int × Int) => s0 k rec x.1 x.2.1 x.2.2) n (x0, x1, x2)
def f (k : Nat) (a0 : List Int) : Option (Int) := l0 k k a0 (rLen a0) 0
def sig : Sig := ⟨70, [.w false [.row I], .fn 72 []], [(false, [.val I])]⟩
def H : Hints := ⟨[(2, ⟨⟨[(0, .w false 1), (1, .fn 72 []), (7, .w false 1), (8, .w false 1)], []⟩, [], [.val (.row I), .val I, .val I], []⟩)], [], [], []⟩
def spec : Spec := { sig := sig, fn := fun k (x : List Int) => f k x }
theorem ok : Holds Go.Proofs.Try.prog spec := holds_of_run (G := [impl_Packet__dataOk_1.spec]) (holds_cons impl_Packet__dataOk_1.ok holds_nil) (by kernel_rfl) H Go.Proofs.Try.func70 (by kernel_rfl) (rfl : Go.Proofs.Try.f70.body = some _) (by kernel_rfl) (by kernel_rfl) fun k x y h => Eq.trans (by kernel_rfl : _ = spec.fn k x) h
end slices_IndexFunc_int_impl_Packet__dataOk_1

namespace slices_ContainsFunc_int_impl_Packet__dataOk_1
def f (k : Nat) (a0 : List Int) : Option (Bool) := bnd (slices_IndexFunc_int_impl_Packet__dataOk_1.f k a0) fun y0 => some (iLe 0 y0)
def sig : Sig := ⟨60, [.w false [.row I], .fn 72 []], [(false, [.val .bool])]⟩
def H : Hints := ⟨[], [], [], []⟩
def spec : Spec := { sig := sig, fn := fun k (x : List Int) => f k x }
theorem ok : Holds Go.Proofs.Try.prog spec := holds_of_run (G := [slices_IndexFunc_int_impl_Packet__dataOk_1.spec]) (holds_cons slices_IndexFunc_int_impl_Packet__dataOk_1.ok holds_nil) (by kernel_rfl) H Go.Proofs.Try.func60 (by kernel_rfl) (rfl : Go.Proofs.Try.f60.body = some _) (by kernel_rfl) (by kernel_rfl) fun k x y h => Eq.trans (by kernel_rfl : _ = spec.fn k x) h
end slices_ContainsFunc_int_impl_Packet__dataOk_1

namespace impl_Packet__dataOk
def f (k : Nat) (a0_0 : Int) (a0_1 : Int) (a0_2 : Int) (a0_3 : Int) (a0_4 : Int) (a0_5 : Int) (a0_6 : Int) (a0_7 : List Int) : Option (Bool) := bnd (slices_ContainsFunc_int_impl_Packet__dataOk_1.f k a0_7) fun y0 => brB y0 (some false) (brB (iEq a0_0 1) (bnd (impl_within.f k (rLen a0_7) 1 8) fun y1 => some y1) (brB (iEq a0_0 2) (bnd (impl_within.f k (rLen a0_7) 1 8) fun y2 => some y2) (brB (iEq a0_0 5) (some (iEq (rLen a0_7) 1)) (brB (iEq a0_0 6) (brB (iEq a0_6 0) (brB (iLe (rLen a0_7) 8) (some (iLe (rLen a0_7) a0_4)) (some false)) (some (iEq (rLen a0_7) 0))) (some (iEq (rLen a0_7) 0))))))
def sig : Sig := ⟨67, [.w true [I, I, I, I, I, I, I, .row I]], [(false, [.val .bool])]⟩
def H : Hints := ⟨[], [], [], []⟩
def spec : Spec := { sig := sig, fn := fun k (x : Int × Int × Int × Int × Int × Int × Int × List Int) => f k x.1 x.2.1 x.2.2.1 x.2.2.2.1 x.2.2.2.2.1 x.2.2.2.2.2.1 x.2.2.2.2.2.2.1 x.2.2.2.2.2.2.2 }
theorem ok : Holds Go.Proofs.Try.prog spec := holds_of_run (G := [impl_within.spec, slices_ContainsFunc_int_impl_Packet__dataOk_1.spec]) (holds_cons impl_within.ok (holds_cons slices_ContainsFunc_int_impl_Packet__dataOk_1.ok holds_nil)) (by kernel_rfl) H Go.Proofs.Try.func67 (by kernel_rfl) (rfl : Go.Proofs.Try.f67.body = some _) (by kernel_rfl) (by kernel_rfl) fun k x y h => Eq.trans (by kernel_rfl : _ = spec.fn k x) h
end impl_Packet__dataOk

namespace impl_IsPacket
def f (k : Nat) (a0_0 : Int) (a0_1 : Int) (a0_2 : Int) (a0_3 : Int) (a0_4 : Int) (a0_5 : Int) (a0_6 : Int) (a0_7 : List Int) : Option (Bool) := bnd (impl_within.f k a0_0 1 6) fun y0 => brB (bNot y0) (some false) (bnd (impl_IsId.f k a0_1) fun y1 => brB (bNot y1) (some false) (bnd (impl_Packet__addressOk.f k a0_0 a0_1 a0_2 a0_3 a0_4 a0_5 a0_6 a0_7) fun y2 => brB (bNot y2) (some false) (bnd (impl_Packet__lengthOk.f k a0_0 a0_1 a0_2 a0_3 a0_4 a0_5 a0_6 a0_7) fun y3 => brB (bNot y3) (some false) (bnd (impl_within.f k a0_0 4 6) fun y4 => brB y4 (bnd (impl_IsId.f k a0_2) fun y5 => brB (bNot y5) (some false) (brB (bNot y4) (brB (iNe a0_2 0) (some false) (bnd (impl_within.f k a0_0 3 6) fun y6 => brB y6 (bnd (impl_within.f k a0_5 0 7) fun y7 => brB (bNot y7) (some false) (brB (bNot y6) (brB (iNe a0_5 0) (some false) (brB (iEq a0_0 6) (bnd (impl_within.f k a0_6 0 2) fun y8 => brB (bNot y8) (some false) (brB (iNe a0_0 6) (brB (iNe a0_6 0) (some false) (bnd (impl_Packet__dataOk.f k a0_0 a0_1 a0_2 a0_3 a0_4 a0_5 a0_6 a0_7) fun y9 => some y9)) (bnd (impl_Packet__dataOk.f k a0_0 a0_1 a0_2 a0_3 a0_4 a0_5 a0_6 a0_7) fun y10 => some y10))) (brB (iNe a0_0 6) (brB (iNe a0_6 0) (some false) (bnd (impl_Packet__dataOk.f k a0_0 a0_1 a0_2 a0_3 a0_4 a0_5 a0_6 a0_7) fun y11 => some y11)) (bnd (impl_Packet__dataOk.f k a0_0 a0_1 a0_2 a0_3 a0_4 a0_5 a0_6 a0_7) fun y12 => some y12)))) (brB (iEq a0_0 6) (bnd (impl_within.f k a0_6 0 2) fun y13 => brB (bNot y13) (some false) (brB (iNe a0_0 6) (brB (iNe a0_6 0) (some false) (bnd (impl_Packet__dataOk.f k a0_0 a0_1 a0_2 a0_3 a0_4 a0_5 a0_6 a0_7) fun y14 => some y14)) (bnd (impl_Packet__dataOk.f k a0_0 a0_1 a0_2 a0_3 a0_4 a0_5 a0_6 a0_7) fun y15 => some y15))) (brB (iNe a0_0 6) (brB (iNe a0_6 0) (some false) (bnd (impl_Packet__dataOk.f k a0_0 a0_1 a0_2 a0_3 a0_4 a0_5 a0_6 a0_7) fun y16 => some y16)) (bnd (impl_Packet__dataOk.f k a0_0 a0_1 a0_2 a0_3 a0_4 a0_5 a0_6 a0_7) fun y17 => some y17))))) (brB (bNot y6) (brB (iNe a0_5 0) (some false) (brB (iEq a0_0 6) (bnd (impl_within.f k a0_6 0 2) fun y18 => brB (bNot y18) (some false) (brB (iNe a0_0 6) (brB (iNe a0_6 0) (some false) (bnd (impl_Packet__dataOk.f k a0_0 a0_1 a0_2 a0_3 a0_4 a0_5 a0_6 a0_7) fun y19 => some y19)) (bnd (impl_Packet__dataOk.f k a0_0 a0_1 a0_2 a0_3 a0_4 a0_5 a0_6 a0_7) fun y20 => some y20))) (brB (iNe a0_0 6) (brB (iNe a0_6 0) (some false) (bnd (impl_Packet__dataOk.f k a0_0 a0_1 a0_2 a0_3 a0_4 a0_5 a0_6 a0_7) fun y21 => some y21)) (bnd (impl_Packet__dataOk.f k a0_0 a0_1 a0_2 a0_3 a0_4 a0_5 a0_6 a0_7) fun y22 => some y22)))) (brB (iEq a0_0 6) (bnd (impl_within.f k a0_6 0 2) fun y23 => brB (bNot y23) (some false) (brB (iNe a0_0 6) (brB (iNe a0_6 0) (some false) (bnd (impl_Packet__dataOk.f k a0_0 a0_1 a0_2 a0_3 a0_4 a0_5 a0_6 a0_7) fun y24 => some y24)) (bnd (impl_Packet__dataOk.f k a0_0 a0_1 a0_2 a0_3 a0_4 a0_5 a0_6 a0_7) fun y25 => some y25))) (brB (iNe a0_0 6) (brB (iNe a0_6 0) (some false) (bnd (impl_Packet__dataOk.f k a0_0 a0_1 a0_2 a0_3 a0_4 a0_5 a0_6 a0_7) fun y26 => some y26)) (bnd (impl_Packet__dataOk.f k a0_0 a0_1 a0_2 a0_3 a0_4 a0_5 a0_6 a0_7) fun y27 => some y27)))))) (bnd (impl_within.f k a0_0 3 6) fun y28 => brB y28 (bnd (impl_within.f k a0_5 0 7) fun y29 => brB (bNot y29) (some false) (brB (bNot y28) (brB (iNe a0_5 0) (some false) (brB (iEq a0_0 6) (bnd (impl_within.f k a0_6 0 2) fun y30 => brB (bNot y30) (some false) (brB (iNe a0_0 6) (brB (iNe a0_6 0) (some false) (bnd (impl_Packet__dataOk.f k a0_0 a0_1 a0_2 a0_3 a0_4 a0_5 a0_6 a0_7) fun y31 => some y31)) (bnd (impl_Packet__dataOk.f k a0_0 a0_1 a0_2 a0_3 a0_4 a0_5 a0_6 a0_7) fun y32 => some y32))) (brB (iNe a0_0 6) (brB (iNe a0_6 0) (some false) (bnd (impl_Packet__dataOk.f k a0_0 a0_1 a0_2 a0_3 a0_4 a0_5 a0_6 a0_7) fun y33 => some y33)) (bnd (impl_Packet__dataOk.f k a0_0 a0_1 a0_2 a0_3 a0_4 a0_5 a0_6 a0_7) fun y34 => some y34)))) (brB (iEq a0_0 6) (bnd (impl_within.f k a0_6 0 2) fun y35 => brB (bNot y35) (some false) (brB (iNe a0_0 6) (brB (iNe a0_6 0) (some false) (bnd (impl_Packet__dataOk.f k a0_0 a0_1 a0_2 a0_3 a0_4 a0_5 a0_6 a0_7) fun y36 => some y36)) (bnd (impl_Packet__dataOk.f k a0_0 a0_1 a0_2 a0_3 a0_4 a0_5 a0_6 a0_7) fun y37 => some y37))) (brB (iNe a0_0 6) (brB (iNe a0_6 0) (some false) (bnd (impl_Packet__dataOk.f k a0_0 a0_1 a0_2 a0_3 a0_4 a0_5 a0_6 a0_7) fun y38 => some y38)) (bnd (impl_Packet__dataOk.f k a0_0 a0_1 a0_2 a0_3 a0_4 a0_5 a0_6 a0_7) fun y39 => some y39))))) (brB (bNot y28) (brB (iNe a0_5 0) (some false) (brB (iEq a0_0 6) (bnd (impl_within.f k a0_6 0 2) fun y40 => brB (bNot y40) (some false) (brB (iNe a0_0 6) (brB (iNe a0_6 0) (some false) (bnd (impl_Packet__dataOk.f k a0_0 a0_1 a0_2 a0_3 a0_4 a0_5 a0_6 a0_7) fun y41 => some y41)) (bnd (impl_Packet__dataOk.f k a0_0 a0_1 a0_2 a0_3 a0_4 a0_5 a0_6 a0_7) fun y42 => some y42))) (brB (iNe a0_0 6) (brB (iNe a0_6 0) (some false) (bnd (impl_Packet__dataOk.f k a0_0 a0_1 a0_2 a0_3 a0_4 a0_5 a0_6 a0_7) fun y43 => some y43)) (bnd (impl_Packet__dataOk.f k a0_0 a0_1 a0_2 a0_3 a0_4 a0_5 a0_6 a0_7) fun y44 => some y44)))) (brB (iEq a0_0 6) (bnd (impl_within.f k a0_6 0 2) fun y45 => brB (bNot y45) (some false) (brB (iNe a0_0 6) (brB (iNe a0_6 0) (some false) (bnd (impl_Packet__dataOk.f k a0_0 a0_1 a0_2 a0_3 a0_4 a0_5 a0_6 a0_7) fun y46 => some y46)) (bnd (impl_Packet__dataOk.f k a0_0 a0_1 a0_2 a0_3 a0_4 a0_5 a0_6 a0_7) fun y47 => some y47))) (brB (iNe a0_0 6) (brB (iNe a0_6 0) (some false) (bnd (impl_Packet__dataOk.f k a0_0 a0_1 a0_2 a0_3 a0_4 a0_5 a0_6 a0_7) fun y48 => some y48)) (bnd (impl_Packet__dataOk.f k a0_0 a0_1 a0_2 a0_3 a0_4 a0_5 a0_6 a0_7) fun y49 => some y49))))))) (brB (bNot y4) (brB (iNe a0_2 0) (some false) (bnd (impl_within.f k a0_0 3 6) fun y50 => brB y50 (bnd (impl_within.f k a0_5 0 7) fun y51 => brB (bNot y51) (some false) (brB (bNot y50) (brB (iNe a0_5 0) (some false) (brB (iEq a0_0 6) (bnd (impl_within.f k a0_6 0 2) fun y52 => brB (bNot y52) (some false) (brB (iNe a0_0 6) (brB (iNe a0_6 0) (some false) (bnd (impl_Packet__dataOk.f k a0_0 a0_1 a0_2 a0_3 a0_4 a0_5 a0_6 a0_7) fun y53 => some y53)) (bnd (impl_Packet__dataOk.f k a0_0 a0_1 a0_2 a0_3 a0_4 a0_5 a0_6 a0_7) fun y54 => some y54))) (brB (iNe a0_0 6) (brB (iNe a0_6 0) (some false) (bnd (impl_Packet__dataOk.f k a0_0 a0_1 a0_2 a0_3 a0_4 a0_5 a0_6 a0_7) fun y55 => some y55)) (bnd (impl_Packet__dataOk.f k a0_0 a0_1 a0_2 a0_3 a0_4 a0_5 a0_6 a0_7) fun y56 => some y56)))) (brB (iEq a0_0 6) (bnd (impl_within.f k a0_6 0 2) fun y57 => brB (bNot y57) (some false) (brB (iNe a0_0 6) (brB (iNe a0_6 0) (some false) (bnd (impl_Packet__dataOk.f k a0_0 a0_1 a0_2 a0_3 a0_4 a0_5 a0_6 a0_7) fun y58 => some y58)) (bnd (impl_Packet__dataOk.f k a0_0 a0_1 a0_2 a0_3 a0_4 a0_5 a0_6 a0_7) fun y59 => some y59))) (brB (iNe a0_0 6) (brB (iNe a0_6 0) (some false) (bnd (impl_Packet__dataOk.f k a0_0 a0_1 a0_2 a0_3 a0_4 a0_5 a0_6 a0_7) fun y60 => some y60)) (bnd (impl_Packet__dataOk.f k a0_0 a0_1 a0_2 a0_3 a0_4 a0_5 a0_6 a0_7) fun y61 => some y61))))) (brB (bNot y50) (brB (iNe a0_5 0) (some false) (brB (iEq a0_0 6) (bnd (impl_within.f k a0_6 0 2) fun y62 => brB (bNot y62) (some false) (brB (iNe a0_0 6) (brB (iNe a0_6 0) (some false) (bnd (impl_Packet__dataOk.f k a0_0 a0_1 a0_2 a0_3 a0_4 a0_5 a0_6 a0_7) fun y63 => some y63)) (bnd (impl_Packet__dataOk.f k a0_0 a0_1 a0_2 a0_3 a0_4 a0_5 a0_6 a0_7) fun y64 => some y64))) (brB (iNe a0_0 6) (brB (iNe a0_6 0) (some false) (bnd (impl_Packet__dataOk.f k a0_0 a0_1 a0_2 a0_3 a0_4 a0_5 a0_6 a0_7) fun y65 => some y65)) (bnd (impl_Packet__dataOk.f k a0_0 a0_1 a0_2 a0_3 a0_4 a0_5 a0_6 a0_7) fun y66 => some y66)))) (brB (iEq a0_0 6) (bnd (impl_within.f k a0_6 0 2) fun y67 => brB (bNot y67) (some false) (brB (iNe a0_0 6) (brB (iNe a0_6 0) (some false) (bnd (impl_Packet__dataOk.f k a0_0 a0_1 a0_2 a0_3 a0_4 a0_5 a0_6 a0_7) fun y68 => some y68)) (bnd (impl_Packet__dataOk.f k a0_0 a0_1 a0_2 a0_3 a0_4 a0_5 a0_6 a0_7) fun y69 => some y69))) (brB (iNe a0_0 6) (brB (iNe a0_6 0) (some false) (bnd (impl_Packet__dataOk.f k a0_0 a0_1 a0_2 a0_3 a0_4 a0_5 a0_6 a0_7) fun y70 => some y70)) (bnd (impl_Packet__dataOk.f k a0_0 a0_1 a0_2 a0_3 a0_4 a0_5 a0_6 a0_7) fun y71 => some y71)))))) (bnd (impl_within.f k a0_0 3 6) fun y72 => brB y72 (bnd (impl_within.f k a0_5 0 7) fun y73 => brB (bNot y73) (some false) (brB (bNot y72) (brB (iNe a0_5 0) (some false) (brB (iEq a0_0 6) (bnd (impl_within.f k a0_6 0 2) fun y74 => brB (bNot y74) (some false) (brB (iNe a0_0 6) (brB (iNe a0_6 0) (some false) (bnd (impl_Packet__dataOk.f k a0_0 a0_1 a0_2 a0_3 a0_4 a0_5 a0_6 a0_7) fun y75 => some y75)) (bnd (impl_Packet__dataOk.f k a0_0 a0_1 a0_2 a0_3 a0_4 a0_5 a0_6 a0_7) fun y76 => some y76))) (brB (iNe a0_0 6) (brB (iNe a0_6 0) (some false) (bnd (impl_Packet__dataOk.f k a0_0 a0_1 a0_2 a0_3 a0_4 a0_5 a0_6 a0_7) fun y77 => some y77)) (bnd (impl_Packet__dataOk.f k a0_0 a0_1 a0_2 a0_3 a0_4 a0_5 a0_6 a0_7) fun y78 => some y78)))) (brB (iEq a0_0 6) (bnd (impl_within.f k a0_6 0 2) fun y79 => brB (bNot y79) (some false) (brB (iNe a0_0 6) (brB (iNe a0_6 0) (some false) (bnd (impl_Packet__dataOk.f k a0_0 a0_1 a0_2 a0_3 a0_4 a0_5 a0_6 a0_7) fun y80 => some y80)) (bnd (impl_Packet__dataOk.f k a0_0 a0_1 a0_2 a0_3 a0_4 a0_5 a0_6 a0_7) fun y81 => some y81))) (brB (iNe a0_0 6) (brB (iNe a0_6 0) (some false) (bnd (impl_Packet__dataOk.f k a0_0 a0_1 a0_2 a0_3 a0_4 a0_5 a0_6 a0_7) fun y82 => some y82)) (bnd (impl_Packet__dataOk.f k a0_0 a0_1 a0_2 a0_3 a0_4 a0_5 a0_6 a0_7) fun y83 => some y83))))) (brB (bNot y72) (brB (iNe a0_5 0) (some false) (brB (iEq a0_0 6) (bnd (impl_within.f k a0_6 0 2) fun y84 => brB (bNot y84) (some false) (brB (iNe a0_0 6) (brB (iNe a0_6 0) (some false) (bnd (impl_Packet__dataOk.f k a0_0 a0_1 a0_2 a0_3 a0_4 a0_5 a0_6 a0_7) fun y85 => some y85)) (bnd (impl_Packet__dataOk.f k a0_0 a0_1 a0_2 a0_3 a0_4 a0_5 a0_6 a0_7) fun y86 => some y86))) (brB (iNe a0_0 6) (brB (iNe a0_6 0) (some false) (bnd (impl_Packet__dataOk.f k a0_0 a0_1 a0_2 a0_3 a0_4 a0_5 a0_6 a0_7) fun y87 => some y87)) (bnd (impl_Packet__dataOk.f k a0_0 a0_1 a0_2 a0_3 a0_4 a0_5 a0_6 a0_7) fun y88 => some y88)))) (brB (iEq a0_0 6) (bnd (impl_within.f k a0_6 0 2) fun y89 => brB (bNot y89) (some false) (brB (iNe a0_0 6) (brB (iNe a0_6 0) (some false) (bnd (impl_Packet__dataOk.f k a0_0 a0_1 a0_2 a0_3 a0_4 a0_5 a0_6 a0_7) fun y90 => some y90)) (bnd (impl_Packet__dataOk.f k a0_0 a0_1 a0_2 a0_3 a0_4 a0_5 a0_6 a0_7) fun y91 => some y91))) (brB (iNe a0_0 6) (brB (iNe a0_6 0) (some false) (bnd (impl_Packet__dataOk.f k a0_0 a0_1 a0_2 a0_3 a0_4 a0_5 a0_6 a0_7) fun y92 => some y92)) (bnd (impl_Packet__dataOk.f k a0_0 a0_1 a0_2 a0_3 a0_4 a0_5 a0_6 a0_7) fun y93 => some y93))))))))))
def sig : Sig := ⟨48, [.w true [I, I, I, I, I, I, I, .row I]], [(false, [.val .bool])]⟩
def H : Hints := ⟨[], [], [], []⟩
def spec : Spec := { sig := sig, fn := fun k (x : Int × Int × Int × Int × Int × Int × Int × List Int) => f k x.1 x.2.1 x.2.2.1 x.2.2.2.1 x.2.2.2.2.1 x.2.2.2.2.2.1 x.2.2.2.2.2.2.1 x.2.2.2.2.2.2.2 }
theorem ok : Holds Go.Proofs.Try.prog spec := holds_of_run (G := [impl_within.spec, impl_IsId.spec, impl_Packet__addressOk.spec, impl_Packet__lengthOk.spec, impl_Packet__dataOk.spec]) (holds_cons impl_within.ok (holds_cons impl_IsId.ok (holds_cons impl_Packet__addressOk.ok (holds_cons impl_Packet__lengthOk.ok (holds_cons impl_Packet__dataOk.ok holds_nil))))) (by kernel_rfl) H Go.Proofs.Try.func48 (by kernel_rfl) (rfl : Go.Proofs.Try.f48.body = some _) (by kernel_rfl) (by kernel_rfl) fun k x y h => Eq.trans (by kernel_rfl : _ = spec.fn k x) h
end impl_IsPacket

namespace impl_areWords_1
def f (k : Nat) (a0 : Int) : Option (Bool) := bnd (impl_isWord.f k a0) fun y0 => some (bNot y0)
def sig : Sig := ⟨61, [.w false [I]], [(false, [.val .bool])]⟩
def H : Hints := ⟨[], [], [], []⟩
def spec : Spec := { sig := sig, fn := fun k (x : Int) => f k x }
theorem ok : Holds Go.Proofs.Try.prog spec := holds_of_run (G := [impl_isWord.spec]) (holds_cons impl_isWord.ok holds_nil) (by kernel_rfl) H Go.Proofs.Try.func61 (by kernel_rfl) (rfl : Go.Proofs.Try.f61.body = some _) (by kernel_rfl) (by kernel_rfl) fun k x y h => Eq.trans (by kernel_rfl : _ = spec.fn k x) h
end impl_areWords_1

namespace slices_IndexFunc_int_impl_areWords_1
def s0 (k : Nat) (rec0 : (List Int × Int × Int) → Option (Int)) (x0 : List Int) (x1 : Int) (x2 : Int) : Option (Int) := brB (iLt x2 x1) (chk (cIdx x2 (rLen x0)) (bnd (impl_areWords_1.f k (rGet 0 x0 x2)) fun y0 => brB y0 (some x2) (rec0 (x0, x1, iAdd .i64 x2 1)))) (some (-1))
def l0 (k n : Nat) (x0 : List Int) (x1 : Int) (x2 : Int) : Option (Int) := iter (fun (rec : (List Int × Int × Int) → Option (Int)) (x : List Int × Int × Int) => s0 k rec x.1 x.2.1 x.2.2) n (x0, x1, x2)
def f (k : Nat) (a0 : List Int) : Option (Int) := l0 k k a0 (rLen a0) 0
def sig : Sig := ⟨70, [.w false [.row I], .fn 61 []], [(false, [.val I])]⟩
def H : Hints := ⟨[(2, ⟨⟨[(0, .w false 1), (1, .fn 61 []), (7, .w false 1), (8, .w false 1)], []⟩, [], [.val (.row I), .val I, .val I], []⟩)], [], [], []⟩
def spec : Spec := { sig := sig, fn := fun k (x : List Int) => f k x }
theorem ok : Holds Go.Proofs.Try.prog spec := holds_of_run (G := [impl_areWords_1.spec]) (holds_cons impl_areWords_1.ok holds_nil) (by kernel_rfl) H Go.Proofs.Try.func70 (by kernel_rfl) (rfl : Go.Proofs.Try.f70.body = some _) (by kernel_rfl) (by kernel_rfl) fun k x y h => Eq.trans (by kernel_rfl : _ = spec.fn k x) h
end slices_IndexFunc_int_impl_areWords_1

namespace slices_ContainsFunc_int_impl_areWords_1
def f (k : Nat) (a0 : List Int) : Option (Bool) := bnd (slices_IndexFunc_int_impl_areWords_1.f k a0) fun y0 => some (iLe 0 y0)
def sig : Sig := ⟨60, [.w false [.row I], .fn 61 []], [(false, [.val .bool])]⟩
def H : Hints := ⟨[], [], [], []⟩
def spec : Spec := { sig := sig, fn := fun k (x : List Int) => f k x }
theorem ok : Holds Go.Proofs.Try.prog spec := holds_of_run (G := [slices_IndexFunc_int_impl_Packet__dataOk_1.spec, slices_IndexFunc_int_impl_areWords_1.spec]) (holds_cons slices_IndexFunc_int_impl_Packet__dataOk_1.ok (holds_cons slices_IndexFunc_int_impl_areWords_1.ok holds_nil)) (by kernel_rfl) H Go.Proofs.Try.func60 (by kernel_rfl) (rfl : Go.Proofs.Try.f60.body = some _) (by kernel_rfl) (by kernel_rfl) fun k x y h => Eq.trans (by kernel_rfl : _ = spec.fn k x) h
end slices_ContainsFunc_int_impl_areWords_1

namespace impl_areWords
def f (k : Nat) (a0 : List Int) : Option (Bool) := bnd (slices_ContainsFunc_int_impl_areWords_1.f k a0) fun y0 => some (bNot y0)
def sig : Sig := ⟨42, [.w false [.row I]], [(false, [.val .bool])]⟩
def H : Hints := ⟨[], [], [], []⟩
def spec : Spec := { sig := sig, fn := fun k (x : List Int) => f k x }
theorem ok : Holds Go.Proofs.Try.prog spec := holds_of_run (G := [slices_ContainsFunc_int_impl_Packet__dataOk_1.spec, slices_ContainsFunc_int_impl_areWords_1.spec]) (holds_cons slices_ContainsFunc_int_impl_Packet__dataOk_1.ok (holds_cons slices_ContainsFunc_int_impl_areWords_1.ok holds_nil)) (by kernel_rfl) H Go.Proofs.Try.func42 (by kernel_rfl) (rfl : Go.Proofs.Try.f42.body = some _) (by kernel_rfl) (by kernel_rfl) fun k x y h => Eq.trans (by kernel_rfl : _ = spec.fn k x) h
end impl_areWords

namespace impl_IsPayload
def f (k : Nat) (a0 : Int) : Option (Bool) := brB (iEq a0 1) (some true) (brB (iEq a0 2) (some true) (brB (iEq a0 4) (some true) (some (iEq a0 8))))
def sig : Sig := ⟨49, [.w false [I]], [(false, [.val .bool])]⟩
def H : Hints := ⟨[], [], [], []⟩
def spec : Spec := { sig := sig, fn := fun k (x : Int) => f k x }
theorem ok : Holds Go.Proofs.Try.prog spec := holds_of_run (G := []) holds_nil (by kernel_rfl) H Go.Proofs.Try.func49 (by kernel_rfl) (rfl : Go.Proofs.Try.f49.body = some _) (by kernel_rfl) (by kernel_rfl) fun k x y h => Eq.trans (by kernel_rfl : _ = spec.fn k x) h
end impl_IsPayload

namespace impl_SplitRange
def s0 (k : Nat) (rec0 : (Int × Int × Int × (List (Int × Int))) → Option (List (Int × Int))) (x0 : Int) (x1 : Int) (x2 : Int) (x3 : List (Int × Int)) : Option (List (Int × Int)) := brB (iLt 0 x1) (chk (cNz x2) (chk (cLen (rLen (rApp x3 [(x0, iMin (iSub .i64 x2 (iRem x0 x2)) x1)])) 16) (rec0 (iAdd .i64 x0 (iMin (iSub .i64 x2 (iRem x0 x2)) x1), iSub .i64 x1 (iMin (iSub .i64 x2 (iRem x0 x2)) x1), x2, rApp x3 [(x0, iMin (iSub .i64 x2 (iRem x0 x2)) x1)])))) (some x3)
def l0 (k n : Nat) (x0 : Int) (x1 : Int) (x2 : Int) (x3 : List (Int × Int)) : Option (List (Int × Int)) := iter (fun (rec : (Int × Int × Int × (List (Int × Int))) → Option (List (Int × Int))) (x : Int × Int × Int × (List (Int × Int))) => s0 k rec x.1 x.2.1 x.2.2.1 x.2.2.2) n (x0, x1, x2, x3)
def f (k : Nat) (a0 : Int) (a1 : Int) (a2 : Int) : Option (List (Int × Int)) := bnd (impl_IsPayload.f k a2) fun y0 => brB (bNot y0) (some []) (bnd (impl_within.f k a1 1 64) fun y1 => brB (bNot y1) (some []) (bnd (impl_within.f k a0 0 (iSub .i64 65536 a1)) fun y2 => brB (bNot y2) (some []) (l0 k k a0 a1 a2 [])))
def sig : Sig := ⟨50, [.w false [I], .w false [I], .w false [I]], [(false, [.own (.pair I I)])]⟩
def H : Hints := ⟨[(4, ⟨⟨[(0, .w false 1), (1, .w false 1), (2, .w false 1), (7, .w false 1)], []⟩, [], [.val I, .val I, .val I, .own (.pair I I)], []⟩)], [], [], []⟩
def spec : Spec := { sig := sig, fn := fun k (x : Int × Int × Int) => f k x.1 x.2.1 x.2.2 }
theorem ok : Holds Go.Proofs.Try.prog spec := holds_of_run (G := [impl_within.spec, impl_IsPayload.spec]) (holds_cons impl_within.ok (holds_cons impl_IsPayload.ok holds_nil)) (by kernel_rfl) H Go.Proofs.Try.func50 (by kernel_rfl) (rfl : Go.Proofs.Try.f50.body = some _) (by kernel_rfl) (by kernel_rfl) fun k x y h => Eq.trans (by kernel_rfl : _ = spec.fn k x) h
end impl_SplitRange

namespace slices_Clone_int
def f (k : Nat) (a0 : List Int) : Option (List Int) := chk (cLen (rLen a0) 8) (some a0)
def sig : Sig := cloneSig 51 I
def spec : Spec := { sig := sig, fn := fun k (x : List Int) => f k x }
theorem ok : Holds Go.Proofs.Try.prog spec := clone_holds (u := I) (t := 22) (by kernel_rfl) Go.Proofs.Try.func51 (by kernel_rfl) (rfl : Go.Proofs.Try.f51.body = some _) (by kernel_rfl) (by kernel_rfl) Go.Proofs.Try.underlying22 ⟨rfl, rfl, rfl⟩ ⟨rfl, rfl, rfl⟩ ⟨rfl, rfl, _, rfl⟩ (fun l => cLen (rLen l) 8) (fun k => by kernel_rfl) (fun k l => by kernel_rfl)
end slices_Clone_int

namespace impl_AnswersTo
def s0 (k : Nat) (rec0 : (Int × List Int × (List (Int × Int × Int × Int × Int × Int × Int × List Int)) × (List (Int × Int)) × Int × Int × Int × Int × Int × Int × Int × Int × Int × List Int) → Option (List (Int × Int × Int × Int × Int × Int × Int × List Int))) (x0 : Int) (x1 : List Int) (x2 : List (Int × Int × Int × Int × Int × Int × Int × List Int)) (x3 : List (Int × Int)) (x4 : Int) (x5 : Int) (x6 : Int) (x7 : Int) (x8 : Int) (x9 : Int) (x10 : Int) (x11 : Int) (x12 : Int) (x13 : List Int) : Option (List (Int × Int × Int × Int × Int × Int × Int × List Int)) := brB (iLt x5 x4) (chk (cIdx x5 (rLen x3)) (chk (cSub (iSub .i64 ((rGet (0, 0) x3 x5).1) x9) (iAdd .i64 (iSub .i64 ((rGet (0, 0) x3 x5).1) x9) ((rGet (0, 0) x3 x5).2)) (rLen x1)) (bnd (slices_Clone_int.f k (rSub x1 (iSub .i64 ((rGet (0, 0) x3 x5).1) x9) (iAdd .i64 (iSub .i64 ((rGet (0, 0) x3 x5).1) x9) ((rGet (0, 0) x3 x5).2)))) fun y5 => chk (cLen (rLen (rApp x2 [(6, x0, x7, 0, iSub .i64 x10 (iSub .i64 ((rGet (0, 0) x3 x5).1) x9), x11, 0, y5)])) 80) (rec0 (x0, x1, rApp x2 [(6, x0, x7, 0, iSub .i64 x10 (iSub .i64 ((rGet (0, 0) x3 x5).1) x9), x11, 0, y5)], x3, x4, iAdd .i64 x5 1, x6, x7, x8, x9, x10, x11, x12, x13))))) (some x2)
def l0 (k n : Nat) (x0 : Int) (x1 : List Int) (x2 : List (Int × Int × Int × Int × Int × Int × Int × List Int)) (x3 : List (Int × Int)) (x4 : Int) (x5 : Int) (x6 : Int) (x7 : Int) (x8 : Int) (x9 : Int) (x10 : Int) (x11 : Int) (x12 : Int) (x13 : List Int) : Option (List (Int × Int × Int × Int × Int × Int × Int × List Int)) := iter (fun (rec : (Int × List Int × (List (Int × Int × Int × Int × Int × Int × Int × List Int)) × (List (Int × Int)) × Int × Int × Int × Int × Int × Int × Int × Int × Int × List Int) → Option (List (Int × Int × Int × Int × Int × Int × Int × List Int))) (x : Int × List Int × (List (Int × Int × Int × Int × Int × Int × Int × List Int)) × (List (Int × Int)) × Int × Int × Int × Int × Int × Int × Int × Int × Int × List Int) => s0 k rec x.1 x.2.1 x.2.2.1 x.2.2.2.1 x.2.2.2.2.1 x.2.2.2.2.2.1 x.2.2.2.2.2.2.1 x.2.2.2.2.2.2.2.1 x.2.2.2.2.2.2.2.2.1 x.2.2.2.2.2.2.2.2.2.1 x.2.2.2.2.2.2.2.2.2.2.1 x.2.2.2.2.2.2.2.2.2.2.2.1 x.2.2.2.2.2.2.2.2.2.2.2.2.1 x.2.2.2.2.2.2.2.2.2.2.2.2.2) n (x0, x1, x2, x3, x4, x5, x6, x7, x8, x9, x10, x11, x12, x13)
def f (k : Nat) (a0_0 : Int) (a0_1 : Int) (a0_2 : Int) (a0_3 : Int) (a0_4 : Int) (a0_5 : Int) (a0_6 : Int) (a0_7 : List Int) (a1 : Int) (a2 : List Int) (a3 : Int) : Option (List (Int × Int × Int × Int × Int × Int × Int × List Int)) := brB (iNe a0_0 3) (some []) (bnd (impl_IsPacket.f k a0_0 a0_1 a0_2 a0_3 a0_4 a0_5 a0_6 a0_7) fun y0 => brB (bNot y0) (some []) (bnd (impl_IsId.f k a1) fun y1 => brB (bNot y1) (some []) (brB (iNe (rLen a2) a0_4) (some []) (bnd (impl_areWords.f k a2) fun y2 => brB (bNot y2) (some []) (bnd (impl_IsPayload.f k a3) fun y3 => brB (bNot y3) (some []) (bnd (impl_SplitRange.f k a0_3 a0_4 a3) fun y4 => l0 k k a1 a2 [] y4 (rLen y4) 0 a0_0 a0_1 a0_2 a0_3 a0_4 a0_5 a0_6 a0_7))))))
def sig : Sig := ⟨16, [.w true [I, I, I, I, I, I, I, .row I], .w false [I], .w false [.row I], .w false [I]], [(false, [.val (.row (.pair I (.pair I (.pair I (.pair I (.pair I (.pair I (.pair I (.row I)))))))))])]⟩
def H : Hints := ⟨[(5, ⟨⟨[(1, .w false 1), (2, .w false 1), (4, .ptr 104 0), (9, .w false 1), (51, .w false 1), (52, .w false 1), (53, .w false 1)], [(104, 8)]⟩, [4], [.val I, .val (.row I), .own (.pair I (.pair I (.pair I (.pair I (.pair I (.pair I (.pair I (.row I)))))))), .own (.pair I I), .val I, .val I, .val I, .val I, .val I, .val I, .val I, .val I, .val I, .val (.row I)], []⟩)], [], [], []⟩
def spec : Spec := { sig := sig, fn := fun k (x : Int × Int × Int × Int × Int × Int × Int × List Int × Int × List Int × Int) => f k x.1 x.2.1 x.2.2.1 x.2.2.2.1 x.2.2.2.2.1 x.2.2.2.2.2.1 x.2.2.2.2.2.2.1 x.2.2.2.2.2.2.2.1 x.2.2.2.2.2.2.2.2.1 x.2.2.2.2.2.2.2.2.2.1 x.2.2.2.2.2.2.2.2.2.2 }
theorem ok : Holds Go.Proofs.Try.prog spec := holds_of_run (G := [impl_IsId.spec, impl_IsPacket.spec, impl_areWords.spec, impl_IsPayload.spec, impl_SplitRange.spec, slices_Clone_int.spec]) (holds_cons impl_IsId.ok (holds_cons impl_IsPacket.ok (holds_cons impl_areWords.ok (holds_cons impl_IsPayload.ok (holds_cons impl_SplitRange.ok (holds_cons slices_Clone_int.ok holds_nil)))))) (by kernel_rfl) H Go.Proofs.Try.func16 (by kernel_rfl) (rfl : Go.Proofs.Try.f16.body = some _) (by kernel_rfl) (by kernel_rfl) fun k x y h => Eq.trans (by kernel_rfl : _ = spec.fn k x) h
end impl_AnswersTo

namespace impl_classOf
def f (k : Nat) (a0 : Int) : Option (Int) := brB (iEq a0 1) (brB (iEq a0 1) (some 0) (brB (iEq a0 6) (some 2) (some 1))) (brB (iEq a0 2) (some 0) (brB (iEq a0 6) (some 2) (some 1)))
def sig : Sig := ⟨68, [.w false [I]], [(false, [.val I])]⟩
def H : Hints := ⟨[], [], [], []⟩
def spec : Spec := { sig := sig, fn := fun k (x : Int) => f k x }
theorem ok : Holds Go.Proofs.Try.prog spec := holds_of_run (G := []) holds_nil (by kernel_rfl) H Go.Proofs.Try.func68 (by kernel_rfl) (rfl : Go.Proofs.Try.f68.body = some _) (by kernel_rfl) (by kernel_rfl) fun k x y h => Eq.trans (by kernel_rfl : _ = spec.fn k x) h
end impl_classOf

namespace impl_ClassOf
def f (k : Nat) (a0_0 : Int) (a0_1 : Int) (a0_2 : Int) (a0_3 : Int) (a0_4 : Int) (a0_5 : Int) (a0_6 : Int) (a0_7 : List Int) : Option (Int) := bnd (impl_IsPacket.f k a0_0 a0_1 a0_2 a0_3 a0_4 a0_5 a0_6 a0_7) fun y0 => brB (bNot y0) (some (-1)) (bnd (impl_classOf.f k a0_0) fun y1 => some y1)
def sig : Sig := ⟨52, [.w true [I, I, I, I, I, I, I, .row I]], [(false, [.val I])]⟩
def H : Hints := ⟨[], [], [], []⟩
def spec : Spec := { sig := sig, fn := fun k (x : Int × Int × Int × Int × Int × Int × Int × List Int) => f k x.1 x.2.1 x.2.2.1 x.2.2.2.1 x.2.2.2.2.1 x.2.2.2.2.2.1 x.2.2.2.2.2.2.1 x.2.2.2.2.2.2.2 }
theorem ok : Holds Go.Proofs.Try.prog spec := holds_of_run (G := [impl_IsPacket.spec, impl_classOf.spec]) (holds_cons impl_IsPacket.ok (holds_cons impl_classOf.ok holds_nil)) (by kernel_rfl) H Go.Proofs.Try.func52 (by kernel_rfl) (rfl : Go.Proofs.Try.f52.body = some _) (by kernel_rfl) (by kernel_rfl) fun k x y h => Eq.trans (by kernel_rfl : _ = spec.fn k x) h
end impl_ClassOf

namespace impl_wanted
def f (k : Nat) (a0_0 : Int) (a0_1 : Int) (a0_2 : Int) (a0_3 : Int) (a0_4 : Int) (a0_5 : Int) (a0_6 : Int) (a0_7 : List Int) : Option (Int) := brB (iEq a0_0 3) (some a0_4) (brB (iEq a0_0 4) (some 1) (some 0))
def sig : Sig := ⟨53, [.w true [I, I, I, I, I, I, I, .row I]], [(false, [.val I])]⟩
def H : Hints := ⟨[], [], [], []⟩
def spec : Spec := { sig := sig, fn := fun k (x : Int × Int × Int × Int × Int × Int × Int × List Int) => f k x.1 x.2.1 x.2.2.1 x.2.2.2.1 x.2.2.2.2.1 x.2.2.2.2.2.1 x.2.2.2.2.2.2.1 x.2.2.2.2.2.2.2 }
theorem ok : Holds Go.Proofs.Try.prog spec := holds_of_run (G := []) holds_nil (by kernel_rfl) H Go.Proofs.Try.func53 (by kernel_rfl) (rfl : Go.Proofs.Try.f53.body = some _) (by kernel_rfl) (by kernel_rfl) fun k x y h => Eq.trans (by kernel_rfl : _ = spec.fn k x) h
end impl_wanted

namespace impl_NewGather
def f (k : Nat) (a0_0 : Int) (a0_1 : Int) (a0_2 : Int) (a0_3 : Int) (a0_4 : Int) (a0_5 : Int) (a0_6 : Int) (a0_7 : List Int) : Option (Int × Int × Int × List Int × Int × Bool) := bnd (impl_ClassOf.f k a0_0 a0_1 a0_2 a0_3 a0_4 a0_5 a0_6 a0_7) fun y0 => brB (iNe y0 1) (some (0, 0, 0, [], 0, false)) (bnd (impl_wanted.f k a0_0 a0_1 a0_2 a0_3 a0_4 a0_5 a0_6 a0_7) fun y1 => some (a0_1, a0_5, y1, [], 0, true))
def sig : Sig := ⟨17, [.w true [I, I, I, I, I, I, I, .row I]], [(true, [.val I, .val I, .val I, .own I, .val I]), (false, [.val .bool])]⟩
def H : Hints := ⟨[], [], [(3, [0, 1, 0, 4, 0, 16, 63, 127, 255])], []⟩
def spec : Spec := { sig := sig, fn := fun k (x : Int × Int × Int × Int × Int × Int × Int × List Int) => f k x.1 x.2.1 x.2.2.1 x.2.2.2.1 x.2.2.2.2.1 x.2.2.2.2.2.1 x.2.2.2.2.2.2.1 x.2.2.2.2.2.2.2 }
theorem ok : Holds Go.Proofs.Try.prog spec := holds_of_run (G := [impl_ClassOf.spec, impl_wanted.spec]) (holds_cons impl_ClassOf.ok (holds_cons impl_wanted.ok holds_nil)) (by kernel_rfl) H Go.Proofs.Try.func17 (by kernel_rfl) (rfl : Go.Proofs.Try.f17.body = some _) (by kernel_rfl) (by kernel_rfl) fun k x y h => Eq.trans (by kernel_rfl : _ = spec.fn k x) h
end impl_NewGather

namespace impl_copyGather
def f (k : Nat) (a0_0 : Int) (a0_1 : Int) (a0_2 : Int) (a0_3 : List Int) (a0_4 : Int) : Option (Int × Int × Int × List Int × Int) := bnd (slices_Clone_int.f k a0_3) fun y0 => some (a0_0, a0_1, a0_2, y0, a0_4)
def sig : Sig := ⟨54, [.w true [I, I, I, .row I, I]], [(true, [.val I, .val I, .val I, .own I, .val I])]⟩
def H : Hints := ⟨[], [], [], []⟩
def spec : Spec := { sig := sig, fn := fun k (x : Int × Int × Int × List Int × Int) => f k x.1 x.2.1 x.2.2.1 x.2.2.2.1 x.2.2.2.2 }
theorem ok : Holds Go.Proofs.Try.prog spec := holds_of_run (G := [slices_Clone_int.spec]) (holds_cons slices_Clone_int.ok holds_nil) (by kernel_rfl) H Go.Proofs.Try.func54 (by kernel_rfl) (rfl : Go.Proofs.Try.f54.body = some _) (by kernel_rfl) (by kernel_rfl) fun k x y h => Eq.trans (by kernel_rfl : _ = spec.fn k x) h
end impl_copyGather

namespace impl_GatherOk
def f (k : Nat) (a0_0 : Int) (a0_1 : Int) (a0_2 : Int) (a0_3 : List Int) (a0_4 : Int) : Option (Bool) := bnd (impl_IsId.f k a0_0) fun y0 => brB y0 (bnd (impl_within.f k a0_1 0 7) fun y1 => brB y1 (bnd (impl_within.f k a0_2 0 64) fun y2 => brB y2 (brB (iLe (rLen a0_3) a0_2) (bnd (impl_areWords.f k a0_3) fun y3 => brB y3 (bnd (impl_within.f k a0_4 0 2) fun y4 => brB y4 (brB (iNe a0_4 1) (some true) (some (iEq (rLen a0_3) a0_2))) (some false)) (some false)) (some false)) (some false)) (some false)) (some false)
def sig : Sig := ⟨11, [.w true [I, I, I, .row I, I]], [(false, [.val .bool])]⟩
def H : Hints := ⟨[], [], [], []⟩
def spec : Spec := { sig := sig, fn := fun k (x : Int × Int × Int × List Int × Int) => f k x.1 x.2.1 x.2.2.1 x.2.2.2.1 x.2.2.2.2 }
theorem ok : Holds Go.Proofs.Try.prog spec := holds_of_run (G := [impl_within.spec, impl_IsId.spec, impl_areWords.spec]) (holds_cons impl_within.ok (holds_cons impl_IsId.ok (holds_cons impl_areWords.ok holds_nil))) (by kernel_rfl) H Go.Proofs.Try.func11 (by kernel_rfl) (rfl : Go.Proofs.Try.f11.body = some _) (by kernel_rfl) (by kernel_rfl) fun k x y h => Eq.trans (by kernel_rfl : _ = spec.fn k x) h
end impl_GatherOk

namespace impl_TakeAnswer
def f (k : Nat) (a0_0 : Int) (a0_1 : Int) (a0_2 : Int) (a0_3 : List Int) (a0_4 : Int) (a1_0 : Int) (a1_1 : Int) (a1_2 : Int) (a1_3 : Int) (a1_4 : Int) (a1_5 : Int) (a1_6 : Int) (a1_7 : List Int) : Option (Int × Int × Int × List Int × Int × Bool) := bnd (impl_copyGather.f k a0_0 a0_1 a0_2 a0_3 a0_4) fun (y0, y1, y2, y3, y4) => bnd (impl_GatherOk.f k a0_0 a0_1 a0_2 a0_3 a0_4) fun y5 => brB (bNot y5) (some (y0, y1, y2, y3, y4, false)) (bnd (impl_IsPacket.f k a1_0 a1_1 a1_2 a1_3 a1_4 a1_5 a1_6 a1_7) fun y6 => brB (bNot y6) (some (y0, y1, y2, y3, y4, false)) (brB (iNe a0_4 0) (some (y0, y1, y2, y3, y4, false)) (brB (iNe a1_0 6) (some (y0, y1, y2, y3, y4, false)) (brB (iNe a1_2 a0_0) (some (y0, y1, y2, y3, y4, false)) (brB (iNe a1_5 a0_1) (some (y0, y1, y2, y3, y4, false)) (brB (iNe a1_6 0) (some (y0, y1, y2, y3, 2, true)) (brB (iNe a1_4 (iSub .i64 a0_2 (rLen a0_3))) (some (y0, y1, y2, y3, y4, false)) (chk (cLen (rLen (rApp y3 a1_7)) 8) (brB (iEq (rLen (rApp y3 a1_7)) y2) (some (y0, y1, y2, rApp y3 a1_7, 1, true)) (some (y0, y1, y2, rApp y3 a1_7, y4, true)))))))))))
def sig : Sig := ⟨21, [.w true [I, I, I, .row I, I], .w true [I, I, I, I, I, I, I, .row I]], [(true, [.val I, .val I, .val I, .own I, .val I]), (false, [.val .bool])]⟩
def H : Hints := ⟨[], [], [], []⟩
def spec : Spec := { sig := sig, fn := fun k (x : Int × Int × Int × List Int × Int × Int × Int × Int × Int × Int × Int × Int × List Int) => f k x.1 x.2.1 x.2.2.1 x.2.2.2.1 x.2.2.2.2.1 x.2.2.2.2.2.1 x.2.2.2.2.2.2.1 x.2.2.2.2.2.2.2.1 x.2.2.2.2.2.2.2.2.1 x.2.2.2.2.2.2.2.2.2.1 x.2.2.2.2.2.2.2.2.2.2.1 x.2.2.2.2.2.2.2.2.2.2.2.1 x.2.2.2.2.2.2.2.2.2.2.2.2 }
theorem ok : Holds Go.Proofs.Try.prog spec := holds_of_run (G := [impl_IsPacket.spec, impl_copyGather.spec, impl_GatherOk.spec]) (holds_cons impl_IsPacket.ok (holds_cons impl_copyGather.ok (holds_cons impl_GatherOk.ok holds_nil))) (by kernel_rfl) H Go.Proofs.Try.func21 (by kernel_rfl) (rfl : Go.Proofs.Try.f21.body = some _) (by kernel_rfl) (by kernel_rfl) fun k x y h => Eq.trans (by kernel_rfl : _ = spec.fn k x) h
end impl_TakeAnswer

namespace impl_GatherAll
def s0 (k : Nat) (rec0 : ((List (Int × Int × Int × Int × Int × Int × Int × List Int)) × Int × Int × Int × Int × Int × List Int × Int × Int × Int × Int × List Int × Int) → Option (Int × Int × Int × List Int × Int)) (x0 : List (Int × Int × Int × Int × Int × Int × Int × List Int)) (x1 : Int) (x2 : Int) (x3 : Int) (x4 : Int) (x5 : Int) (x6 : List Int) (x7 : Int) (x8 : Int) (x9 : Int) (x10 : Int) (x11 : List Int) (x12 : Int) : Option (Int × Int × Int × List Int × Int) := brB (iLt x2 x1) (chk (cIdx x2 (rLen x0)) (bnd (impl_TakeAnswer.f k x8 x9 x10 x11 x12 ((rGet (0, 0, 0, 0, 0, 0, 0, []) x0 x2).1) (((rGet (0, 0, 0, 0, 0, 0, 0, []) x0 x2).2).1) ((((rGet (0, 0, 0, 0, 0, 0, 0, []) x0 x2).2).2).1) (((((rGet (0, 0, 0, 0, 0, 0, 0, []) x0 x2).2).2).2).1) ((((((rGet (0, 0, 0, 0, 0, 0, 0, []) x0 x2).2).2).2).2).1) (((((((rGet (0, 0, 0, 0, 0, 0, 0, []) x0 x2).2).2).2).2).2).1) ((((((((rGet (0, 0, 0, 0, 0, 0, 0, []) x0 x2).2).2).2).2).2).2).1) ((((((((rGet (0, 0, 0, 0, 0, 0, 0, []) x0 x2).2).2).2).2).2).2).2)) fun (y5, y6, y7, y8, y9, y10) => rec0 (x0, x1, iAdd .i64 x2 1, x3, x4, x5, x6, x7, y5, y6, y7, y8, y9))) (some (x8, x9, x10, x11, x12))
def l0 (k n : Nat) (x0 : List (Int × Int × Int × Int × Int × Int × Int × List Int)) (x1 : Int) (x2 : Int) (x3 : Int) (x4 : Int) (x5 : Int) (x6 : List Int) (x7 : Int) (x8 : Int) (x9 : Int) (x10 : Int) (x11 : List Int) (x12 : Int) : Option (Int × Int × Int × List Int × Int) := iter (fun (rec : ((List (Int × Int × Int × Int × Int × Int × Int × List Int)) × Int × Int × Int × Int × Int × List Int × Int × Int × Int × Int × List Int × Int) → Option (Int × Int × Int × List Int × Int)) (x : (List (Int × Int × Int × Int × Int × Int × Int × List Int)) × Int × Int × Int × Int × Int × List Int × Int × Int × Int × Int × List Int × Int) => s0 k rec x.1 x.2.1 x.2.2.1 x.2.2.2.1 x.2.2.2.2.1 x.2.2.2.2.2.1 x.2.2.2.2.2.2.1 x.2.2.2.2.2.2.2.1 x.2.2.2.2.2.2.2.2.1 x.2.2.2.2.2.2.2.2.2.1 x.2.2.2.2.2.2.2.2.2.2.1 x.2.2.2.2.2.2.2.2.2.2.2.1 x.2.2.2.2.2.2.2.2.2.2.2.2) n (x0, x1, x2, x3, x4, x5, x6, x7, x8, x9, x10, x11, x12)
def f (k : Nat) (a0_0 : Int) (a0_1 : Int) (a0_2 : Int) (a0_3 : List Int) (a0_4 : Int) (a1 : List (Int × Int × Int × Int × Int × Int × Int × List Int)) : Option (Int × Int × Int × List Int × Int) := bnd (impl_copyGather.f k a0_0 a0_1 a0_2 a0_3 a0_4) fun (y0, y1, y2, y3, y4) => l0 k k a1 (rLen a1) 0 0 0 0 [] 0 y0 y1 y2 y3 y4
def sig : Sig := ⟨18, [.w true [I, I, I, .row I, I], .w false [.row (.pair I (.pair I (.pair I (.pair I (.pair I (.pair I (.pair I (.row I))))))))]], [(true, [.val I, .val I, .val I, .own I, .val I])]⟩
def H : Hints := ⟨[(3, ⟨⟨[(4, .ptr 104 0), (5, .ptr 105 0), (10, .w false 1), (11, .w false 1), (12, .w false 1)], [(104, 5), (105, 5)]⟩, [4, 5], [.val (.row (.pair I (.pair I (.pair I (.pair I (.pair I (.pair I (.pair I (.row I))))))))), .val I, .val I, .val I, .val I, .val I, .own I, .val I, .val I, .val I, .val I, .own I, .val I], []⟩)], [], [], []⟩
def spec : Spec := { sig := sig, fn := fun k (x : Int × Int × Int × List Int × Int × List (Int × Int × Int × Int × Int × Int × Int × List Int)) => f k x.1 x.2.1 x.2.2.1 x.2.2.2.1 x.2.2.2.2.1 x.2.2.2.2.2 }
theorem ok : Holds Go.Proofs.Try.prog spec := holds_of_run (G := [impl_copyGather.spec, impl_TakeAnswer.spec]) (holds_cons impl_copyGather.ok (holds_cons impl_TakeAnswer.ok holds_nil)) (by kernel_rfl) H Go.Proofs.Try.func18 (by kernel_rfl) (rfl : Go.Proofs.Try.f18.body = some _) (by kernel_rfl) (by kernel_rfl) fun k x y h => Eq.trans (by kernel_rfl : _ = spec.fn k x) h
end impl_GatherAll

namespace laws_sameInts
def s0 (k : Nat) (rec0 : (List Int × List Int × Int) → Option (Bool)) (x0 : List Int) (x1 : List Int) (x2 : Int) : Option (Bool) := brB (iLt x2 (rLen x0)) (chk (cIdx x2 (rLen x0)) (chk (cIdx x2 (rLen x1)) (brB (iNe (rGet 0 x0 x2) (rGet 0 x1 x2)) (some false) (rec0 (x0, x1, iAdd .i64 x2 1))))) (some true)
def l0 (k n : Nat) (x0 : List Int) (x1 : List Int) (x2 : Int) : Option (Bool) := iter (fun (rec : (List Int × List Int × Int) → Option (Bool)) (x : List Int × List Int × Int) => s0 k rec x.1 x.2.1 x.2.2) n (x0, x1, x2)
def f (k : Nat) (a0 : List Int) (a1 : List Int) : Option (Bool) := brB (iNe (rLen a0) (rLen a1)) (some false) (l0 k k a0 a1 0)
def sig : Sig := ⟨19, [.w false [.row I], .w false [.row I]], [(false, [.val .bool])]⟩
def H : Hints := ⟨[(4, ⟨⟨[(0, .w false 1), (1, .w false 1), (5, .w false 1)], []⟩, [], [.val (.row I), .val (.row I), .val I], []⟩)], [], [(6, [0, 0, 3, 7, 0, 0, 48, 112, 255])], []⟩
def spec : Spec := { sig := sig, fn := fun k (x : List Int × List Int) => f k x.1 x.2 }
theorem ok : Holds Go.Proofs.Try.prog spec := holds_of_run (G := []) holds_nil (by kernel_rfl) H Go.Proofs.Try.func19 (by kernel_rfl) (rfl : Go.Proofs.Try.f19.body = some _) (by kernel_rfl) (by kernel_rfl) fun k x y h => Eq.trans (by kernel_rfl : _ = spec.fn k x) h
end laws_sameInts

namespace impl_RefusalOf
def f (k : Nat) (a0_0 : Int) (a0_1 : Int) (a0_2 : Int) (a0_3 : Int) (a0_4 : Int) (a0_5 : Int) (a0_6 : Int) (a0_7 : List Int) (a1 : Int) (a2 : Int) : Option (Int × Int × Int × Int × Int × Int × Int × List Int × Bool) := bnd (impl_ClassOf.f k a0_0 a0_1 a0_2 a0_3 a0_4 a0_5 a0_6 a0_7) fun y0 => brB (iNe y0 1) (some (0, 0, 0, 0, 0, 0, 0, [], false)) (bnd (impl_IsId.f k a1) fun y1 => brB (bNot y1) (some (0, 0, 0, 0, 0, 0, 0, [], false)) (brB (iNe a2 1) (brB (iNe a2 2) (some (0, 0, 0, 0, 0, 0, 0, [], false)) (some (6, a1, a0_1, 0, 0, a0_5, a2, [], true))) (some (6, a1, a0_1, 0, 0, a0_5, a2, [], true))))
def sig : Sig := ⟨20, [.w true [I, I, I, I, I, I, I, .row I], .w false [I], .w false [I]], [(true, [.val I, .val I, .val I, .val I, .val I, .val I, .val I, .own I]), (false, [.val .bool])]⟩
def H : Hints := ⟨[], [], [], []⟩
def spec : Spec := { sig := sig, fn := fun k (x : Int × Int × Int × Int × Int × Int × Int × List Int × Int × Int) => f k x.1 x.2.1 x.2.2.1 x.2.2.2.1 x.2.2.2.2.1 x.2.2.2.2.2.1 x.2.2.2.2.2.2.1 x.2.2.2.2.2.2.2.1 x.2.2.2.2.2.2.2.2.1 x.2.2.2.2.2.2.2.2.2 }
theorem ok : Holds Go.Proofs.Try.prog spec := holds_of_run (G := [impl_IsId.spec, impl_ClassOf.spec]) (holds_cons impl_IsId.ok (holds_cons impl_ClassOf.ok holds_nil)) (by kernel_rfl) H Go.Proofs.Try.func20 (by kernel_rfl) (rfl : Go.Proofs.Try.f20.body = some _) (by kernel_rfl) (by kernel_rfl) fun k x y h => Eq.trans (by kernel_rfl : _ = spec.fn k x) h
end impl_RefusalOf

namespace laws_FnGathers
def f (k : Nat) (a0 : List Int) : Option (Bool) := bnd (laws_big.f k a0) fun y0 => brB y0 (some true) (bnd (spec_DrawRead.f k a0) fun (y1, y2, y3, y4, y5, y6, y7, y8, y9) => bnd (spec_DrawPlaces.f k a0) fun y10 => chk (cIdx 0 (rLen y10)) (chk (cNz 4) (chk (cIdx (iRem (rGet 0 y10 0) 4) (rLen [1, 2, 4, 8])) (bnd (impl_AnswersTo.f k y1 y2 y3 y4 y5 y6 y7 y8 7 y9 (rGet 0 [1, 2, 4, 8] (iRem (rGet 0 y10 0) 4))) fun y11 => bnd (impl_NewGather.f k y1 y2 y3 y4 y5 y6 y7 y8) fun (y12, y13, y14, y15, y16, y17) => bnd (impl_GatherAll.f k y12 y13 y14 y15 y16 y11) fun (y18, y19, y20, y21, y22) => brB (bNot y17) (some false) (brB (iEq (rLen y11) 0) (some false) (bnd (impl_GatherOk.f k y18 y19 y20 y21 y22) fun y23 => brB (bNot y23) (some false) (brB (iNe y22 1) (some false) (bnd (laws_sameInts.f k y21 y9) fun y24 => brB (bNot y24) (some false) (chk (cIdx 1 (rLen y10)) (chk (cNz (rLen y11)) (chk (cSub 0 (iRem (rGet 0 y10 1) (rLen y11)) (rLen y11)) (chk (cLen (rLen (rApp [] (rSub y11 0 (iRem (rGet 0 y10 1) (rLen y11))))) 80) (chk (cSub (iAdd .i64 (iRem (rGet 0 y10 1) (rLen y11)) 1) (rLen y11) (rLen y11)) (chk (cLen (rLen (rApp (rApp [] (rSub y11 0 (iRem (rGet 0 y10 1) (rLen y11)))) (rSub y11 (iAdd .i64 (iRem (rGet 0 y10 1) (rLen y11)) 1) (rLen y11)))) 80) (bnd (impl_GatherAll.f k y12 y13 y14 y15 y16 (rApp (rApp [] (rSub y11 0 (iRem (rGet 0 y10 1) (rLen y11)))) (rSub y11 (iAdd .i64 (iRem (rGet 0 y10 1) (rLen y11)) 1) (rLen y11)))) fun (y25, y26, y27, y28, y29) => bnd (impl_RefusalOf.f k y1 y2 y3 y4 y5 y6 y7 y8 7 2) fun (y30, y31, y32, y33, y34, y35, y36, y37, y38) => bnd (impl_TakeAnswer.f k y12 y13 y14 y15 y16 y30 y31 y32 y33 y34 y35 y36 y37) fun (y39, y40, y41, y42, y43, y44) => chk (cIdx 0 (rLen y11)) (bnd (impl_TakeAnswer.f k y18 y19 y20 y21 y22 ((rGet (0, 0, 0, 0, 0, 0, 0, []) y11 0).1) (((rGet (0, 0, 0, 0, 0, 0, 0, []) y11 0).2).1) ((((rGet (0, 0, 0, 0, 0, 0, 0, []) y11 0).2).2).1) (((((rGet (0, 0, 0, 0, 0, 0, 0, []) y11 0).2).2).2).1) ((((((rGet (0, 0, 0, 0, 0, 0, 0, []) y11 0).2).2).2).2).1) (((((((rGet (0, 0, 0, 0, 0, 0, 0, []) y11 0).2).2).2).2).2).1) ((((((((rGet (0, 0, 0, 0, 0, 0, 0, []) y11 0).2).2).2).2).2).2).1) ((((((((rGet (0, 0, 0, 0, 0, 0, 0, []) y11 0).2).2).2).2).2).2).2)) fun (y45, y46, y47, y48, y49, y50) => brB (iEq y29 0) (brB (iLt (rLen y28) (rLen y9)) (brB y44 (brB (iEq y43 2) (some (bNot y50)) (some false)) (some false)) (some false)) (some false)))))))))))))))))
def sig : Sig := ⟨4, [.w false [.row (.int .u8)]], [(false, [.val .bool])]⟩
def H : Hints := ⟨[], [], [(5, [0, 0, 0, 0, 8, 24, 56, 124, 252, 511, 1023]), (11, [0, 0, 0, 0, 12, 30, 0, 0, 128, 448, 1022, 2047, 0, 8191]), (14, [0, 0, 2, 6, 15, 31, 63, 63, 0, 383, 1023])], []⟩
def spec : Spec := { sig := sig, fn := fun k (x : List Int) => f k x }
theorem ok : Holds Go.Proofs.Try.prog spec := holds_of_run (G := [laws_big.spec, spec_DrawRead.spec, spec_DrawPlaces.spec, impl_AnswersTo.spec, impl_NewGather.spec, impl_GatherOk.spec, impl_TakeAnswer.spec, impl_GatherAll.spec, laws_sameInts.spec, impl_RefusalOf.spec]) (holds_cons laws_big.ok (holds_cons spec_DrawRead.ok (holds_cons spec_DrawPlaces.ok (holds_cons impl_AnswersTo.ok (holds_cons impl_NewGather.ok (holds_cons impl_GatherOk.ok (holds_cons impl_TakeAnswer.ok (holds_cons impl_GatherAll.ok (holds_cons laws_sameInts.ok (holds_cons impl_RefusalOf.ok holds_nil)))))))))) (by kernel_rfl) H Go.Proofs.Try.func4 (by kernel_rfl) (rfl : Go.Proofs.Try.f4.body = some _) (by kernel_rfl) (by kernel_rfl) fun k x y h => Eq.trans (by kernel_rfl : _ = spec.fn k x) h
end laws_FnGathers

end
end Go.Proofs.YtgcpodpgliifgaaT
