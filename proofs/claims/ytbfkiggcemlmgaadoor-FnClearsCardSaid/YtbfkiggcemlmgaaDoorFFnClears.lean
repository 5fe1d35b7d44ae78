/- The functions of the program, as they compute: printed by a program of the session (wip/gen), each with its contract. -/
import Derived.Test.YtbfkiggcemlmgaaDoorProg
import Derived.Test.YtbfkiggcemlmgaaDoorTiAI
set_option linter.unusedVariables false
set_option maxRecDepth 100000
namespace Go.Proofs.YtbfkiggcemlmgaaDoorT
open Go
abbrev I : Ty := .int .i64
noncomputable section
namespace spec_l32Copy
def f (k : Nat) (a0_0 : Int) (a0_1 : Int) (a0_2 : Int) (a0_3 : List Int) : Option (Int × Int × Int × List Int) := chk (cLen (rLen (rApp [] a0_3)) 8) (some (a0_0, a0_1, a0_2, rApp [] a0_3))
def sig : Sig := ⟨29, [.w true [I, I, I, .row I]], [(true, [.val I, .val I, .val I, .own I])]⟩
def H : Hints := ⟨[], [], [], [], false, 0⟩
def spec : Spec := { sig := sig, fn := fun k (x : Int × Int × Int × List Int) => f k x.1 x.2.1 x.2.2.1 x.2.2.2 }
theorem ok : Holds Go.Proofs.Tryd.prog spec := holds_of_run (G := []) holds_nil (by kernel_rfl) H Go.Proofs.Tryd.func29 (by kernel_rfl) (rfl : Go.Proofs.Tryd.f29.body = some _) (by kernel_rfl) (by kernel_rfl) fun k x y h => Eq.trans (by kernel_rfl : _ = spec.fn k x) h
end spec_l32Copy

namespace spec_l01In
def f (k : Nat) (a0 : Int) (a1 : Int) (a2 : Int) : Option (Bool) := brB (iLe a1 a0) (some (iLe a0 a2)) (some false)
def sig : Sig := ⟨31, [.w false [I], .w false [I], .w false [I]], [(false, [.val .bool])]⟩
def H : Hints := ⟨[], [], [], [], false, 0⟩
def spec : Spec := { sig := sig, fn := fun k (x : Int × Int × Int) => f k x.1 x.2.1 x.2.2 }
theorem ok : Holds Go.Proofs.Tryd.prog spec := holds_of_run (G := []) holds_nil (by kernel_rfl) H Go.Proofs.Tryd.func31 (by kernel_rfl) (rfl : Go.Proofs.Tryd.f31.body = some _) (by kernel_rfl) (by kernel_rfl) fun k x y h => Eq.trans (by kernel_rfl : _ = spec.fn k x) h
end spec_l01In

namespace spec_LogOk
def s0 (k : Nat) (rec0 : (Int × Int × Int × Int × List Int) → Option (Bool)) (x0 : Int) (x1 : Int) (x2 : Int) (x3 : Int) (x4 : List Int) : Option (Bool) := brB (iLt x0 16) (chk (cIdx x0 (rLen x4)) (bnd (spec_l01In.f k (rGet 0 x4 x0) 0 2) fun y2 => brB (bNot y2) (some false) (rec0 (iAdd .i64 x0 1, x1, x2, x3, x4)))) (brB (iEq x1 0) (some (iEq x3 (-1))) (bnd (spec_l01In.f k x3 0 15) fun y3 => brB y3 (chk (cNn x3) (some (iEq (iBit .and .i64 (iShr .i64 x1 x3) 1) 1))) (some false)))
def l0 (k n : Nat) (x0 : Int) (x1 : Int) (x2 : Int) (x3 : Int) (x4 : List Int) : Option (Bool) := iter (fun (rec : (Int × Int × Int × Int × List Int) → Option (Bool)) (x : Int × Int × Int × Int × List Int) => s0 k rec x.1 x.2.1 x.2.2.1 x.2.2.2.1 x.2.2.2.2) n (x0, x1, x2, x3, x4)
def f (k : Nat) (a0_0 : Int) (a0_1 : Int) (a0_2 : Int) (a0_3 : List Int) : Option (Bool) := bnd (spec_l01In.f k a0_0 0 65535) fun y0 => brB (bNot y0) (some false) (bnd (spec_l01In.f k a0_1 0 65535) fun y1 => brB (bNot y1) (some false) (brB (iNe (rLen a0_3) 16) (some false) (l0 k k 0 a0_0 a0_1 a0_2 a0_3)))
def sig : Sig := ⟨30, [.w true [I, I, I, .row I]], [(false, [.val .bool])]⟩
def H : Hints := ⟨[(4, ⟨⟨[(1, .ptr 101 0), (3, .w false 1)], [(101, 4)]⟩, [1], [.val I, .val I, .val I, .val I, .val (.row I)], []⟩)], [], [], [], false, 0⟩
def spec : Spec := { sig := sig, fn := fun k (x : Int × Int × Int × List Int) => f k x.1 x.2.1 x.2.2.1 x.2.2.2 }
theorem ok : Holds Go.Proofs.Tryd.prog spec := holds_of_run (G := [spec_l01In.spec]) (holds_cons spec_l01In.ok holds_nil) (by kernel_rfl) H Go.Proofs.Tryd.func30 (by kernel_rfl) (rfl : Go.Proofs.Tryd.f30.body = some _) (by kernel_rfl) (by kernel_rfl) fun k x y h => Eq.trans (by kernel_rfl : _ = spec.fn k x) h
end spec_LogOk

namespace slices_Clone_int
def f (k : Nat) (a0 : List Int) : Option (List Int) := chk (cLen (rLen a0) 8) (some a0)
def sig : Sig := cloneSig 39 I
def spec : Spec := { sig := sig, fn := fun k (x : List Int) => f k x }
theorem ok : Holds Go.Proofs.Tryd.prog spec := clone_holds (u := I) (t := 24) (by kernel_rfl) Go.Proofs.Tryd.func39 (by kernel_rfl) (rfl : Go.Proofs.Tryd.f39.body = some _) (by kernel_rfl) (by kernel_rfl) Go.Proofs.Tryd.underlying24 ⟨rfl, rfl, rfl⟩ ⟨rfl, rfl, rfl⟩ ⟨rfl, rfl, _, rfl⟩ (fun l => cLen (rLen l) 8) (fun k => by kernel_rfl) (fun k l => by kernel_rfl)
end slices_Clone_int

namespace impl_copyLog
def f (k : Nat) (a0_0 : Int) (a0_1 : Int) (a0_2 : Int) (a0_3 : List Int) : Option (Int × Int × Int × List Int) := bnd (slices_Clone_int.f k a0_3) fun y0 => some (a0_0, a0_1, a0_2, y0)
def sig : Sig := ⟨20, [.w true [I, I, I, .row I]], [(true, [.val I, .val I, .val I, .own I])]⟩
def H : Hints := ⟨[], [], [], [], false, 0⟩
def spec : Spec := { sig := sig, fn := fun k (x : Int × Int × Int × List Int) => f k x.1 x.2.1 x.2.2.1 x.2.2.2 }
theorem ok : Holds Go.Proofs.Tryd.prog spec := holds_of_run (G := [slices_Clone_int.spec]) (holds_cons slices_Clone_int.ok holds_nil) (by kernel_rfl) H Go.Proofs.Tryd.func20 (by kernel_rfl) (rfl : Go.Proofs.Tryd.f20.body = some _) (by kernel_rfl) (by kernel_rfl) fun k x y h => Eq.trans (by kernel_rfl : _ = spec.fn k x) h
end impl_copyLog

namespace impl_within
def f (k : Nat) (a0 : Int) (a1 : Int) (a2 : Int) : Option (Bool) := brB (iLe a1 a0) (some (iLe a0 a2)) (some false)
def sig : Sig := ⟨40, [.w false [I], .w false [I], .w false [I]], [(false, [.val .bool])]⟩
def H : Hints := ⟨[], [], [], [], false, 0⟩
def spec : Spec := { sig := sig, fn := fun k (x : Int × Int × Int) => f k x.1 x.2.1 x.2.2 }
theorem ok : Holds Go.Proofs.Tryd.prog spec := holds_of_run (G := []) holds_nil (by kernel_rfl) H Go.Proofs.Tryd.func40 (by kernel_rfl) (rfl : Go.Proofs.Tryd.f40.body = some _) (by kernel_rfl) (by kernel_rfl) fun k x y h => Eq.trans (by kernel_rfl : _ = spec.fn k x) h
end impl_within

namespace impl_isWord
def f (k : Nat) (a0 : Int) : Option (Bool) := bnd (impl_within.f k a0 0 65535) fun y0 => some y0
def sig : Sig := ⟨21, [.w false [I]], [(false, [.val .bool])]⟩
def H : Hints := ⟨[], [], [], [], false, 0⟩
def spec : Spec := { sig := sig, fn := fun k (x : Int) => f k x }
theorem ok : Holds Go.Proofs.Tryd.prog spec := holds_of_run (G := [impl_within.spec]) (holds_cons impl_within.ok holds_nil) (by kernel_rfl) H Go.Proofs.Tryd.func21 (by kernel_rfl) (rfl : Go.Proofs.Tryd.f21.body = some _) (by kernel_rfl) (by kernel_rfl) fun k x y h => Eq.trans (by kernel_rfl : _ = spec.fn k x) h
end impl_isWord

namespace impl_isSeverity
def f (k : Nat) (a0 : Int) : Option (Bool) := bnd (impl_within.f k a0 0 2) fun y0 => some y0
def sig : Sig := ⟨26, [.w false [I]], [(false, [.val .bool])]⟩
def H : Hints := ⟨[], [], [], [], false, 0⟩
def spec : Spec := { sig := sig, fn := fun k (x : Int) => f k x }
theorem ok : Holds Go.Proofs.Tryd.prog spec := holds_of_run (G := [impl_within.spec]) (holds_cons impl_within.ok holds_nil) (by kernel_rfl) H Go.Proofs.Tryd.func26 (by kernel_rfl) (rfl : Go.Proofs.Tryd.f26.body = some _) (by kernel_rfl) (by kernel_rfl) fun k x y h => Eq.trans (by kernel_rfl : _ = spec.fn k x) h
end impl_isSeverity

namespace impl_LogOk_1
def f (k : Nat) (a0 : Int) : Option (Bool) := bnd (impl_isSeverity.f k a0) fun y0 => some (bNot y0)
def sig : Sig := ⟨25, [.w false [I]], [(false, [.val .bool])]⟩
def H : Hints := ⟨[], [], [], [], false, 0⟩
def spec : Spec := { sig := sig, fn := fun k (x : Int) => f k x }
theorem ok : Holds Go.Proofs.Tryd.prog spec := holds_of_run (G := [impl_isSeverity.spec]) (holds_cons impl_isSeverity.ok holds_nil) (by kernel_rfl) H Go.Proofs.Tryd.func25 (by kernel_rfl) (rfl : Go.Proofs.Tryd.f25.body = some _) (by kernel_rfl) (by kernel_rfl) fun k x y h => Eq.trans (by kernel_rfl : _ = spec.fn k x) h
end impl_LogOk_1

namespace slices_IndexFunc_int_impl_LogOk_1
def s0 (k : Nat) (rec0 : (List Int × Int × Int) → Option (Int)) (x0 : List Int) (x1 : Int) (x2 : Int) : Option (Int) := brB (iLt x2 x1) (chk (cIdx x2 (rLen x0)) (bnd (impl_LogOk_1.f k (rGet 0 x0 x2)) fun y0 => brB y0 (some x2) (rec0 (x0, x1, iAdd .i64 x2 1)))) (some (-1))
def l0 (k n : Nat) (x0 : List Int) (x1 : Int) (x2 : Int) : Option (Int) := iter (fun (rec : (List Int × Int × Int) → Option (Int)) (x : List Int × Int × Int) => s0 k rec x.1 x.2.1 x.2.2) n (x0, x1, x2)
def f (k : Nat) (a0 : List Int) : Option (Int) := l0 k k a0 (rLen a0) 0
def sig : Sig := ⟨43, [.w false [.row I], .fn 25 []], [(false, [.val I])]⟩
def H : Hints := ⟨[(2, ⟨⟨[(0, .w false 1), (1, .fn 25 []), (7, .w false 1), (8, .w false 1)], []⟩, [], [.val (.row I), .val I, .val I], []⟩)], [], [], [], false, 0⟩
def spec : Spec := { sig := sig, fn := fun k (x : List Int) => f k x }
theorem ok : Holds Go.Proofs.Tryd.prog spec := holds_of_run (G := [impl_LogOk_1.spec]) (holds_cons impl_LogOk_1.ok holds_nil) (by kernel_rfl) H Go.Proofs.Tryd.func43 (by kernel_rfl) (rfl : Go.Proofs.Tryd.f43.body = some _) (by kernel_rfl) (by kernel_rfl) fun k x y h => Eq.trans (by kernel_rfl : _ = spec.fn k x) h
end slices_IndexFunc_int_impl_LogOk_1

namespace slices_ContainsFunc_int_impl_LogOk_1
def f (k : Nat) (a0 : List Int) : Option (Bool) := bnd (slices_IndexFunc_int_impl_LogOk_1.f k a0) fun y0 => some (iLe 0 y0)
def sig : Sig := ⟨24, [.w false [.row I], .fn 25 []], [(false, [.val .bool])]⟩
def H : Hints := ⟨[], [], [], [], false, 0⟩
def spec : Spec := { sig := sig, fn := fun k (x : List Int) => f k x }
theorem ok : Holds Go.Proofs.Tryd.prog spec := holds_of_run (G := [slices_IndexFunc_int_impl_LogOk_1.spec]) (holds_cons slices_IndexFunc_int_impl_LogOk_1.ok holds_nil) (by kernel_rfl) H Go.Proofs.Tryd.func24 (by kernel_rfl) (rfl : Go.Proofs.Tryd.f24.body = some _) (by kernel_rfl) (by kernel_rfl) fun k x y h => Eq.trans (by kernel_rfl : _ = spec.fn k x) h
end slices_ContainsFunc_int_impl_LogOk_1

namespace impl_isError
def f (k : Nat) (a0 : Int) : Option (Bool) := bnd (impl_within.f k a0 0 15) fun y0 => some y0
def sig : Sig := ⟨27, [.w false [I]], [(false, [.val .bool])]⟩
def H : Hints := ⟨[], [], [], [], false, 0⟩
def spec : Spec := { sig := sig, fn := fun k (x : Int) => f k x }
theorem ok : Holds Go.Proofs.Tryd.prog spec := holds_of_run (G := [impl_within.spec]) (holds_cons impl_within.ok holds_nil) (by kernel_rfl) H Go.Proofs.Tryd.func27 (by kernel_rfl) (rfl : Go.Proofs.Tryd.f27.body = some _) (by kernel_rfl) (by kernel_rfl) fun k x y h => Eq.trans (by kernel_rfl : _ = spec.fn k x) h
end impl_isError

namespace impl_isSet
def f (k : Nat) (a0 : Int) (a1 : Int) : Option (Bool) := chk (cNn (iCnv .u64 a1)) (some (iEq (iBit .and .i64 (iShr .i64 a0 (iCnv .u64 a1)) 1) 1))
def sig : Sig := ⟨22, [.w false [I], .w false [I]], [(false, [.val .bool])]⟩
def H : Hints := ⟨[], [], [], [], false, 0⟩
def spec : Spec := { sig := sig, fn := fun k (x : Int × Int) => f k x.1 x.2 }
theorem ok : Holds Go.Proofs.Tryd.prog spec := holds_of_run (G := []) holds_nil (by kernel_rfl) H Go.Proofs.Tryd.func22 (by kernel_rfl) (rfl : Go.Proofs.Tryd.f22.body = some _) (by kernel_rfl) (by kernel_rfl) fun k x y h => Eq.trans (by kernel_rfl : _ = spec.fn k x) h
end impl_isSet

namespace impl_LogOk
def f (k : Nat) (a0_0 : Int) (a0_1 : Int) (a0_2 : Int) (a0_3 : List Int) : Option (Bool) := bnd (impl_isWord.f k a0_0) fun y0 => brB (bNot y0) (some false) (bnd (impl_isWord.f k a0_1) fun y1 => brB (bNot y1) (some false) (brB (iNe (rLen a0_3) 16) (some false) (bnd (slices_ContainsFunc_int_impl_LogOk_1.f k a0_3) fun y2 => brB y2 (some false) (brB (iEq a0_0 0) (some (iEq a0_2 (-1))) (bnd (impl_isError.f k a0_2) fun y3 => brB y3 (bnd (impl_isSet.f k a0_0 a0_2) fun y4 => some y4) (some false))))))
def sig : Sig := ⟨9, [.w true [I, I, I, .row I]], [(false, [.val .bool])]⟩
def H : Hints := ⟨[], [], [], [], false, 0⟩
def spec : Spec := { sig := sig, fn := fun k (x : Int × Int × Int × List Int) => f k x.1 x.2.1 x.2.2.1 x.2.2.2 }
theorem ok : Holds Go.Proofs.Tryd.prog spec := holds_of_run (G := [impl_isWord.spec, slices_ContainsFunc_int_impl_LogOk_1.spec, impl_isError.spec, impl_isSet.spec]) (holds_cons impl_isWord.ok (holds_cons slices_ContainsFunc_int_impl_LogOk_1.ok (holds_cons impl_isError.ok (holds_cons impl_isSet.ok holds_nil)))) (by kernel_rfl) H Go.Proofs.Tryd.func9 (by kernel_rfl) (rfl : Go.Proofs.Tryd.f9.body = some _) (by kernel_rfl) (by kernel_rfl) fun k x y h => Eq.trans (by kernel_rfl : _ = spec.fn k x) h
end impl_LogOk

namespace bits_TrailingZeros32
def f (k : Nat) (a0 : Int) : Option (Int) := brB (iEq a0 0) (some 32) (chk (cNn 27) (chk (cTab (iShr .u32 (iMul .u32 (iBit .and .u32 a0 (iSub .u32 0 a0)) 125613361) 27) (rLen [0, 1, 28, 2, 29, 14, 24, 3, 30, 22, 20, 15, 25, 17, 4, 8, 31, 27, 13, 23, 21, 19, 16, 7, 26, 12, 18, 6, 11, 5, 10, 9])) (some (iCnv .i64 (rGet 0 [0, 1, 28, 2, 29, 14, 24, 3, 30, 22, 20, 15, 25, 17, 4, 8, 31, 27, 13, 23, 21, 19, 16, 7, 26, 12, 18, 6, 11, 5, 10, 9] (iShr .u32 (iMul .u32 (iBit .and .u32 a0 (iSub .u32 0 a0)) 125613361) 27))))))
def sig : Sig := ⟨41, [.w false [.int .u32]], [(false, [.val I])]⟩
def H : Hints := ⟨[], [], [], [], false, 1⟩
def spec : Spec := { sig := sig, fn := fun k (x : Int) => f k x }
theorem ok : Holds Go.Proofs.Tryd.prog spec := holds_of_run (G := []) holds_nil (by kernel_rfl) H Go.Proofs.Tryd.func41 (by kernel_rfl) (rfl : Go.Proofs.Tryd.f41.body = some _) (by kernel_rfl) (by kernel_rfl) fun k x y h => Eq.trans (by kernel_rfl : _ = spec.fn k x) h
end bits_TrailingZeros32

namespace bits_TrailingZeros64
def f (k : Nat) (a0 : Int) : Option (Int) := brB (iEq a0 0) (some 64) (chk (cNn 58) (chk (cTab (iShr .u64 (iMul .u64 (iBit .and .u64 a0 (iSub .u64 0 a0)) 285870213051353865) 58) (rLen [0, 1, 56, 2, 57, 49, 28, 3, 61, 58, 42, 50, 38, 29, 17, 4, 62, 47, 59, 36, 45, 43, 51, 22, 53, 39, 33, 30, 24, 18, 12, 5, 63, 55, 48, 27, 60, 41, 37, 16, 46, 35, 44, 21, 52, 32, 23, 11, 54, 26, 40, 15, 34, 20, 31, 10, 25, 14, 19, 9, 13, 8, 7, 6])) (some (iCnv .i64 (rGet 0 [0, 1, 56, 2, 57, 49, 28, 3, 61, 58, 42, 50, 38, 29, 17, 4, 62, 47, 59, 36, 45, 43, 51, 22, 53, 39, 33, 30, 24, 18, 12, 5, 63, 55, 48, 27, 60, 41, 37, 16, 46, 35, 44, 21, 52, 32, 23, 11, 54, 26, 40, 15, 34, 20, 31, 10, 25, 14, 19, 9, 13, 8, 7, 6] (iShr .u64 (iMul .u64 (iBit .and .u64 a0 (iSub .u64 0 a0)) 285870213051353865) 58))))))
def sig : Sig := ⟨42, [.w false [.int .u64]], [(false, [.val I])]⟩
def H : Hints := ⟨[], [], [], [], false, 1⟩
def spec : Spec := { sig := sig, fn := fun k (x : Int) => f k x }
theorem ok : Holds Go.Proofs.Tryd.prog spec := holds_of_run (G := []) holds_nil (by kernel_rfl) H Go.Proofs.Tryd.func42 (by kernel_rfl) (rfl : Go.Proofs.Tryd.f42.body = some _) (by kernel_rfl) (by kernel_rfl) fun k x y h => Eq.trans (by kernel_rfl : _ = spec.fn k x) h
end bits_TrailingZeros64

namespace bits_TrailingZeros
def f (k : Nat) (a0 : Int) : Option (Int) := bnd (bits_TrailingZeros64.f k a0) fun y0 => some y0
def sig : Sig := ⟨23, [.w false [.int .u64]], [(false, [.val I])]⟩
def H : Hints := ⟨[], [], [], [], false, 0⟩
def spec : Spec := { sig := sig, fn := fun k (x : Int) => f k x }
theorem ok : Holds Go.Proofs.Tryd.prog spec := holds_of_run (G := [bits_TrailingZeros32.spec, bits_TrailingZeros64.spec]) (holds_cons bits_TrailingZeros32.ok (holds_cons bits_TrailingZeros64.ok holds_nil)) (by kernel_rfl) H Go.Proofs.Tryd.func23 (by kernel_rfl) (rfl : Go.Proofs.Tryd.f23.body = some _) (by kernel_rfl) (by kernel_rfl) fun k x y h => Eq.trans (by kernel_rfl : _ = spec.fn k x) h
end bits_TrailingZeros

namespace impl_ClearErrors
def f (k : Nat) (a0_0 : Int) (a0_1 : Int) (a0_2 : Int) (a0_3 : List Int) (a1 : Int) : Option (Int × Int × Int × List Int) := bnd (impl_copyLog.f k a0_0 a0_1 a0_2 a0_3) fun p => (fun y0 y1 y2 y3 => bnd (impl_LogOk.f k a0_0 a0_1 a0_2 a0_3) fun y4 => brB (bNot y4) (some (y0, y1, y2, y3)) (bnd (impl_isWord.f k a1) fun y5 => brB (bNot y5) (some (y0, y1, y2, y3)) (brB (iEq (iBit .andNot .i64 y0 a1) 0) (some (iBit .andNot .i64 y0 a1, y1, (-1), y3)) (bnd (impl_isSet.f k (iBit .andNot .i64 y0 a1) y2) fun y6 => brB (bNot y6) (bnd (bits_TrailingZeros.f k (iCnv .u64 (iBit .andNot .i64 y0 a1))) fun y7 => some (iBit .andNot .i64 y0 a1, y1, y7, y3)) (some (iBit .andNot .i64 y0 a1, y1, y2, y3)))))) p.1 p.2.1 p.2.2.1 p.2.2.2
def sig : Sig := ⟨8, [.w true [I, I, I, .row I], .w false [I]], [(true, [.val I, .val I, .val I, .own I])]⟩
def H : Hints := ⟨[], [], [], [], false, 0⟩
def spec : Spec := { sig := sig, fn := fun k (x : Int × Int × Int × List Int × Int) => f k x.1 x.2.1 x.2.2.1 x.2.2.2.1 x.2.2.2.2 }
theorem ok : Holds Go.Proofs.Tryd.prog spec := holds_of_run (G := [impl_copyLog.spec, impl_isWord.spec, impl_isSet.spec, impl_LogOk.spec, bits_TrailingZeros.spec]) (holds_cons impl_copyLog.ok (holds_cons impl_isWord.ok (holds_cons impl_isSet.ok (holds_cons impl_LogOk.ok (holds_cons bits_TrailingZeros.ok holds_nil))))) (by kernel_rfl) H Go.Proofs.Tryd.func8 (by kernel_rfl) (rfl : Go.Proofs.Tryd.f8.body = some _) (by kernel_rfl) (by kernel_rfl) fun k x y h => Eq.trans (by kernel_rfl : _ = spec.fn k x) h
end impl_ClearErrors

namespace laws_big
def f (k : Nat) (a0 : List Int) : Option (Bool) := some (iLt 1048576 (rLen a0))
def sig : Sig := ⟨5, [.w false [.row (.int .u8)]], [(false, [.val .bool])]⟩
def H : Hints := ⟨[], [], [], [], false, 0⟩
def spec : Spec := { sig := sig, fn := fun k (x : List Int) => f k x }
theorem ok : Holds Go.Proofs.Tryd.prog spec := holds_of_run (G := []) holds_nil (by kernel_rfl) H Go.Proofs.Tryd.func5 (by kernel_rfl) (rfl : Go.Proofs.Tryd.f5.body = some _) (by kernel_rfl) (by kernel_rfl) fun k x y h => Eq.trans (by kernel_rfl : _ = spec.fn k x) h
end laws_big

namespace spec_l01New
def s0 (k : Nat) (rec0 : (List Int × Int × Int) → Option (List Int × Int × Int)) (x0 : List Int) (x1 : Int) (x2 : Int) : Option (List Int × Int × Int) := brB (iLt x2 (rLen x0)) (brB (iLt x2 4000) (chk (cIdx x2 (rLen x0)) (rec0 (x0, iBit .and .i64 (iAdd .i64 (iAdd .i64 (iMul .i64 x1 131) (iCnv .i64 (rGet 0 x0 x2))) 7) 1073741823, iAdd .i64 x2 1))) (some (x0, 0, x1))) (some (x0, 0, x1))
def l0 (k n : Nat) (x0 : List Int) (x1 : Int) (x2 : Int) : Option (List Int × Int × Int) := iter (fun (rec : (List Int × Int × Int) → Option (List Int × Int × Int)) (x : List Int × Int × Int) => s0 k rec x.1 x.2.1 x.2.2) n (x0, x1, x2)
def f (k : Nat) (a0 : List Int) : Option (List Int × Int × Int) := l0 k k a0 (iAdd .i64 98663 (rLen a0)) 0
def sig : Sig := ⟨18, [.w false [.row (.int .u8)]], [(true, [.val (.row (.int .u8)), .val I, .val I])]⟩
def H : Hints := ⟨[(3, ⟨⟨[(0, .w false 1), (3, .w false 1), (4, .w false 1)], []⟩, [], [.val (.row (.int .u8)), .val I, .val I], []⟩)], [], [], [], false, 0⟩
def spec : Spec := { sig := sig, fn := fun k (x : List Int) => f k x, boxed := true }
theorem ok : Holds Go.Proofs.Tryd.prog spec := holds_of_box rfl (G := []) holds_nil (by kernel_rfl) H Go.Proofs.Tryd.func18 (by kernel_rfl) (rfl : Go.Proofs.Tryd.f18.body = some _) (by kernel_rfl) (by kernel_rfl) (by kernel_rfl) fun k x y h => Eq.trans (by kernel_rfl : _ = spec.fn k x) h
end spec_l01New

namespace spec_l01Byte
def f (k : Nat) (a0_0 : List Int) (a0_1 : Int) (a0_2 : Int) : Option (Int × List Int × Int × Int) := chk (cNn 33) (chk (cNn 45) (brB (iLt a0_1 (rLen a0_0)) (chk (cIdx a0_1 (rLen a0_0)) (some (iBit .and .i64 (iAdd .i64 (iBit .and .i64 (iBit .xor .i64 (iShr .i64 (iAdd .i64 (iMul .i64 a0_2 6364136223846793005) 1442695040888963407) 33) (iShr .i64 (iAdd .i64 (iMul .i64 a0_2 6364136223846793005) 1442695040888963407) 45)) 255) (iCnv .i64 (rGet 0 a0_0 a0_1))) 255, a0_0, iAdd .i64 a0_1 1, iAdd .i64 (iMul .i64 a0_2 6364136223846793005) 1442695040888963407))) (some (iBit .and .i64 (iBit .xor .i64 (iShr .i64 (iAdd .i64 (iMul .i64 a0_2 6364136223846793005) 1442695040888963407) 33) (iShr .i64 (iAdd .i64 (iMul .i64 a0_2 6364136223846793005) 1442695040888963407) 45)) 255, a0_0, a0_1, iAdd .i64 (iMul .i64 a0_2 6364136223846793005) 1442695040888963407))))
def sig : Sig := ⟨38, [.ref [.val (.row (.int .u8)), .val I, .val I]], [(false, [.val I])]⟩
def H : Hints := ⟨[], [], [(2, [0, 1, 3, 7, 15, 0, 32, 96, 224, 480, 1023, 2047, 4095]), (3, [0, 1, 3, 7, 0, 16, 48, 112, 240, 511]), (4, [0, 0, 2, 6, 14, 0, 32, 96, 224, 510, 1022, 2046, 4095, 8191, 16383])], [], false, 0⟩
def spec : Spec := { sig := sig, fn := fun k (x : List Int × Int × Int) => f k x.1 x.2.1 x.2.2 }
theorem ok : Holds Go.Proofs.Tryd.prog spec := holds_of_run (G := []) holds_nil (by kernel_rfl) H Go.Proofs.Tryd.func38 (by kernel_rfl) (rfl : Go.Proofs.Tryd.f38.body = some _) (by kernel_rfl) (by kernel_rfl) fun k x y h => Eq.trans (by kernel_rfl : _ = spec.fn k x) h
end spec_l01Byte

namespace spec_l01Below
def f (k : Nat) (a1 : Int) (a0_0 : List Int) (a0_1 : Int) (a0_2 : Int) : Option (Int × List Int × Int × Int) := brB (iLe a1 0) (some (0, a0_0, a0_1, a0_2)) (brB (iLe a1 256) (bnd (spec_l01Byte.f k a0_0 a0_1 a0_2) fun p => (fun y0 y1 y2 y3 => chk (cNz a1) (some (iRem y0 a1, y1, y2, y3))) p.1 p.2.1 p.2.2.1 p.2.2.2) (bnd (spec_l01Byte.f k a0_0 a0_1 a0_2) fun p => (fun y4 y5 y6 y7 => bnd (spec_l01Byte.f k y5 y6 y7) fun p => (fun y8 y9 y10 y11 => bnd (spec_l01Byte.f k y9 y10 y11) fun p => (fun y12 y13 y14 y15 => bnd (spec_l01Byte.f k y13 y14 y15) fun p => (fun y16 y17 y18 y19 => chk (cNz a1) (some (iRem (iAdd .i64 (iAdd .i64 (iAdd .i64 (iMul .i64 y4 16777216) (iMul .i64 y8 65536)) (iMul .i64 y12 256)) y16) a1, y17, y18, y19))) p.1 p.2.1 p.2.2.1 p.2.2.2) p.1 p.2.1 p.2.2.1 p.2.2.2) p.1 p.2.1 p.2.2.1 p.2.2.2) p.1 p.2.1 p.2.2.1 p.2.2.2))
def sig : Sig := ⟨19, [.ref [.val (.row (.int .u8)), .val I, .val I], .w false [I]], [(false, [.val I])]⟩
def H : Hints := ⟨[], [], [], [], false, 0⟩
def spec : Spec := { sig := sig, fn := fun k (x : Int × List Int × Int × Int) => f k x.1 x.2.1 x.2.2.1 x.2.2.2 }
theorem ok : Holds Go.Proofs.Tryd.prog spec := holds_of_run (G := [spec_l01Byte.spec]) (holds_cons spec_l01Byte.ok holds_nil) (by kernel_rfl) H Go.Proofs.Tryd.func19 (by kernel_rfl) (rfl : Go.Proofs.Tryd.f19.body = some _) (by kernel_rfl) (by kernel_rfl) fun k x y h => Eq.trans (by kernel_rfl : _ = spec.fn k x) h
end spec_l01Below

namespace spec_l01PickInt
def f (k : Nat) (a1 : List Int) (a0_0 : List Int) (a0_1 : Int) (a0_2 : Int) : Option (Int × List Int × Int × Int) := bnd (spec_l01Below.f k (rLen a1) a0_0 a0_1 a0_2) fun p => (fun y0 y1 y2 y3 => chk (cIdx y0 (rLen a1)) (some (rGet 0 a1 y0, y1, y2, y3))) p.1 p.2.1 p.2.2.1 p.2.2.2
def sig : Sig := ⟨36, [.ref [.val (.row (.int .u8)), .val I, .val I], .w false [.row I]], [(false, [.val I])]⟩
def H : Hints := ⟨[], [], [], [], false, 0⟩
def spec : Spec := { sig := sig, fn := fun k (x : List Int × List Int × Int × Int) => f k x.1 x.2.1 x.2.2.1 x.2.2.2 }
theorem ok : Holds Go.Proofs.Tryd.prog spec := holds_of_run (G := [spec_l01Below.spec]) (holds_cons spec_l01Below.ok holds_nil) (by kernel_rfl) H Go.Proofs.Tryd.func36 (by kernel_rfl) (rfl : Go.Proofs.Tryd.f36.body = some _) (by kernel_rfl) (by kernel_rfl) fun k x y h => Eq.trans (by kernel_rfl : _ = spec.fn k x) h
end spec_l01PickInt

namespace spec_ReportError
def f (k : Nat) (a0_0 : Int) (a0_1 : Int) (a0_2 : Int) (a0_3 : List Int) (a1 : Int) : Option (Int × Int × Int × List Int × Int) := bnd (spec_l32Copy.f k a0_0 a0_1 a0_2 a0_3) fun p => (fun y0 y1 y2 y3 => bnd (spec_LogOk.f k a0_0 a0_1 a0_2 a0_3) fun y4 => brB (bNot y4) (some (y0, y1, y2, y3, (-1))) (bnd (spec_l01In.f k a1 0 15) fun y5 => brB (bNot y5) (some (y0, y1, y2, y3, (-1))) (brB (iEq a0_0 0) (chk (cNn a1) (chk (cNn a1) (brB (iEq (iBit .and .i64 (iShr .i64 a0_1 a1) 1) 1) (some (iBit .or .i64 a0_0 (iShl .i64 1 a1), y1, a1, y3, (-1))) (chk (cIdx a1 (rLen a0_3)) (some (iBit .or .i64 a0_0 (iShl .i64 1 a1), y1, a1, y3, rGet 0 a0_3 a1)))))) (chk (cNn a1) (chk (cNn a1) (brB (iEq (iBit .and .i64 (iShr .i64 a0_1 a1) 1) 1) (some (iBit .or .i64 a0_0 (iShl .i64 1 a1), y1, y2, y3, (-1))) (chk (cIdx a1 (rLen a0_3)) (some (iBit .or .i64 a0_0 (iShl .i64 1 a1), y1, y2, y3, rGet 0 a0_3 a1))))))))) p.1 p.2.1 p.2.2.1 p.2.2.2
def sig : Sig := ⟨37, [.w true [I, I, I, .row I], .w false [I]], [(true, [.val I, .val I, .val I, .own I]), (false, [.val I])]⟩
def H : Hints := ⟨[], [], [(6, [0, 1, 0, 4, 15, 31, 63]), (9, [0, 0, 2, 0, 14, 30, 1, 127])], [], false, 0⟩
def spec : Spec := { sig := sig, fn := fun k (x : Int × Int × Int × List Int × Int) => f k x.1 x.2.1 x.2.2.1 x.2.2.2.1 x.2.2.2.2 }
theorem ok : Holds Go.Proofs.Tryd.prog spec := holds_of_run (G := [spec_l32Copy.spec, spec_l01In.spec, spec_LogOk.spec]) (holds_cons spec_l32Copy.ok (holds_cons spec_l01In.ok (holds_cons spec_LogOk.ok holds_nil))) (by kernel_rfl) H Go.Proofs.Tryd.func37 (by kernel_rfl) (rfl : Go.Proofs.Tryd.f37.body = some _) (by kernel_rfl) (by kernel_rfl) fun k x y h => Eq.trans (by kernel_rfl : _ = spec.fn k x) h
end spec_ReportError

namespace spec_l32Log
def s1 (k : Nat) (rec1 : (Int × List Int × Int × Int × Int × Int × Int × List Int × Int × Int × Int × List Int) → Option (Int × Int × Int × List Int × List Int × Int × Int)) (x12 : Int) (x13 : List Int) (x14 : Int) (x15 : Int) (x16 : Int) (x17 : Int) (x18 : Int) (x19 : List Int) (x20 : Int) (x21 : Int) (x22 : Int) (x23 : List Int) : Option (Int × Int × Int × List Int × List Int × Int × Int) := bnd (spec_l01Below.f k 5 x13 x14 x15) fun p => (fun y8 y9 y10 y11 => brB (iLt x12 y8) (bnd (spec_l01Below.f k 16 y9 y10 y11) fun p => (fun y12 y13 y14 y15 => bnd (spec_ReportError.f k x20 x21 x22 x23 y12) fun p => (fun y16 y17 y18 y19 y20 => rec1 (iAdd .i64 x12 1, y13, y14, y15, x16, x17, x18, x19, y16, y17, y18, y19)) p.1 p.2.1 p.2.2.1 p.2.2.2.1 p.2.2.2.2) p.1 p.2.1 p.2.2.1 p.2.2.2) (some (x20, x21, x22, x23, y9, y10, y11))) p.1 p.2.1 p.2.2.1 p.2.2.2
def l1 (k n : Nat) (x12 : Int) (x13 : List Int) (x14 : Int) (x15 : Int) (x16 : Int) (x17 : Int) (x18 : Int) (x19 : List Int) (x20 : Int) (x21 : Int) (x22 : Int) (x23 : List Int) : Option (Int × Int × Int × List Int × List Int × Int × Int) := iter (fun (rec : (Int × List Int × Int × Int × Int × Int × Int × List Int × Int × Int × Int × List Int) → Option (Int × Int × Int × List Int × List Int × Int × Int)) (x : Int × List Int × Int × Int × Int × Int × Int × List Int × Int × Int × Int × List Int) => s1 k rec x.1 x.2.1 x.2.2.1 x.2.2.2.1 x.2.2.2.2.1 x.2.2.2.2.2.1 x.2.2.2.2.2.2.1 x.2.2.2.2.2.2.2.1 x.2.2.2.2.2.2.2.2.1 x.2.2.2.2.2.2.2.2.2.1 x.2.2.2.2.2.2.2.2.2.2.1 x.2.2.2.2.2.2.2.2.2.2.2) n (x12, x13, x14, x15, x16, x17, x18, x19, x20, x21, x22, x23)
def s0 (k : Nat) (rec0 : (Int × List Int × Int × Int × Int × Int × Int × List Int × Int × Int × Int × List Int) → Option (Int × Int × Int × List Int × List Int × Int × Int)) (x0 : Int) (x1 : List Int) (x2 : Int) (x3 : Int) (x4 : Int) (x5 : Int) (x6 : Int) (x7 : List Int) (x8 : Int) (x9 : Int) (x10 : Int) (x11 : List Int) : Option (Int × Int × Int × List Int × List Int × Int × Int) := brB (iLt x0 16) (bnd (spec_l01Below.f k 3 x1 x2 x3) fun p => (fun y4 y5 y6 y7 => chk (cLen (rLen (rApp x11 [y4])) 8) (rec0 (iAdd .i64 x0 1, y5, y6, y7, x4, x5, x6, x7, x8, x9, x10, rApp x11 [y4]))) p.1 p.2.1 p.2.2.1 p.2.2.2) (l1 k k 0 x1 x2 x3 x4 x5 x6 x7 x8 x9 x10 x11)
def l0 (k n : Nat) (x0 : Int) (x1 : List Int) (x2 : Int) (x3 : Int) (x4 : Int) (x5 : Int) (x6 : Int) (x7 : List Int) (x8 : Int) (x9 : Int) (x10 : Int) (x11 : List Int) : Option (Int × Int × Int × List Int × List Int × Int × Int) := iter (fun (rec : (Int × List Int × Int × Int × Int × Int × Int × List Int × Int × Int × Int × List Int) → Option (Int × Int × Int × List Int × List Int × Int × Int)) (x : Int × List Int × Int × Int × Int × Int × Int × List Int × Int × Int × Int × List Int) => s0 k rec x.1 x.2.1 x.2.2.1 x.2.2.2.1 x.2.2.2.2.1 x.2.2.2.2.2.1 x.2.2.2.2.2.2.1 x.2.2.2.2.2.2.2.1 x.2.2.2.2.2.2.2.2.1 x.2.2.2.2.2.2.2.2.2.1 x.2.2.2.2.2.2.2.2.2.2.1 x.2.2.2.2.2.2.2.2.2.2.2) n (x0, x1, x2, x3, x4, x5, x6, x7, x8, x9, x10, x11)
def f (k : Nat) (a0_0 : List Int) (a0_1 : Int) (a0_2 : Int) : Option (Int × Int × Int × List Int × List Int × Int × Int) := bnd (spec_l01PickInt.f k [0, 1, 4369, 65535] a0_0 a0_1 a0_2) fun p => (fun y0 y1 y2 y3 => l0 k k 0 y1 y2 y3 0 0 0 [] 0 y0 (-1) []) p.1 p.2.1 p.2.2.1 p.2.2.2
def sig : Sig := ⟨17, [.ref [.val (.row (.int .u8)), .val I, .val I]], [(true, [.val I, .val I, .val I, .own I])]⟩
def H : Hints := ⟨[(3, ⟨⟨[(0, .ptr 0 0), (2, .ptr 102 0), (3, .ptr 103 0), (4, .w false 1)], [(0, 3), (102, 4), (103, 4)]⟩, [0, 2, 3], [.val I, .val (.row (.int .u8)), .val I, .val I, .val I, .val I, .val I, .own I, .val I, .val I, .val I, .own I], []⟩), (7, ⟨⟨[(0, .ptr 0 0), (2, .ptr 102 0), (3, .ptr 103 0), (5, .w false 1)], [(0, 3), (102, 4), (103, 4)]⟩, [0, 2, 3], [.val I, .val (.row (.int .u8)), .val I, .val I, .val I, .val I, .val I, .own I, .val I, .val I, .val I, .own I], []⟩)], [], [(5, [0, 1, 0, 4, 12, 31, 63, 127]), (9, [0, 0, 2, 7, 15, 31, 31, 63])], [], false, 0⟩
def spec : Spec := { sig := sig, fn := fun k (x : List Int × Int × Int) => f k x.1 x.2.1 x.2.2 }
theorem ok : Holds Go.Proofs.Tryd.prog spec := holds_of_run (G := [spec_l01Below.spec, spec_l01PickInt.spec, spec_ReportError.spec]) (holds_cons spec_l01Below.ok (holds_cons spec_l01PickInt.ok (holds_cons spec_ReportError.ok holds_nil))) (by kernel_rfl) H Go.Proofs.Tryd.func17 (by kernel_rfl) (rfl : Go.Proofs.Tryd.f17.body = some _) (by kernel_rfl) (by kernel_rfl) fun k x y h => Eq.trans (by kernel_rfl : _ = spec.fn k x) h
end spec_l32Log

namespace spec_DrawLog
def f (k : Nat) (a0 : List Int) : Option (Int × Int × Int × List Int) := bnd (spec_l01New.f k a0) fun p => (fun y0 y1 y2 => bnd (spec_l32Log.f k y0 y1 y2) fun p => (fun y3 y4 y5 y6 y7 y8 y9 => some (y3, y4, y5, y6)) p.1 p.2.1 p.2.2.1 p.2.2.2.1 p.2.2.2.2.1 p.2.2.2.2.2.1 p.2.2.2.2.2.2) p.1 p.2.1 p.2.2
def sig : Sig := ⟨6, [.w false [.row (.int .u8)]], [(true, [.val I, .val I, .val I, .own I])]⟩
def H : Hints := ⟨[], [], [], [], false, 0⟩
def spec : Spec := { sig := sig, fn := fun k (x : List Int) => f k x }
theorem ok : Holds Go.Proofs.Tryd.prog spec := holds_of_run (G := [spec_l01New.spec, spec_l32Log.spec]) (holds_cons spec_l01New.ok (holds_cons spec_l32Log.ok holds_nil)) (by kernel_rfl) H Go.Proofs.Tryd.func6 (by kernel_rfl) (rfl : Go.Proofs.Tryd.f6.body = some _) (by kernel_rfl) (by kernel_rfl) fun k x y h => Eq.trans (by kernel_rfl : _ = spec.fn k x) h
end spec_DrawLog

namespace spec_DrawPlaces
def s0 (k : Nat) (rec0 : (List Int × Int × List Int × Int × Int) → Option (List Int)) (x0 : List Int) (x1 : Int) (x2 : List Int) (x3 : Int) (x4 : Int) : Option (List Int) := brB (iLt x1 12) (bnd (spec_l01Below.f k 10000 x2 x3 x4) fun p => (fun y3 y4 y5 y6 => chk (cLen (rLen (rApp x0 [y3])) 8) (rec0 (rApp x0 [y3], iAdd .i64 x1 1, y4, y5, y6))) p.1 p.2.1 p.2.2.1 p.2.2.2) (some x0)
def l0 (k n : Nat) (x0 : List Int) (x1 : Int) (x2 : List Int) (x3 : Int) (x4 : Int) : Option (List Int) := iter (fun (rec : (List Int × Int × List Int × Int × Int) → Option (List Int)) (x : List Int × Int × List Int × Int × Int) => s0 k rec x.1 x.2.1 x.2.2.1 x.2.2.2.1 x.2.2.2.2) n (x0, x1, x2, x3, x4)
def f (k : Nat) (a0 : List Int) : Option (List Int) := bnd (spec_l01New.f k a0) fun p => (fun y0 y1 y2 => l0 k k [] 0 y0 y1 y2) p.1 p.2.1 p.2.2
def sig : Sig := ⟨7, [.w false [.row (.int .u8)]], [(false, [.own I])]⟩
def H : Hints := ⟨[(4, ⟨⟨[(3, .ptr 103 0), (4, .w false 1), (5, .w false 1)], [(103, 3)]⟩, [3], [.own I, .val I, .val (.row (.int .u8)), .val I, .val I], []⟩)], [], [], [], false, 0⟩
def spec : Spec := { sig := sig, fn := fun k (x : List Int) => f k x }
theorem ok : Holds Go.Proofs.Tryd.prog spec := holds_of_run (G := [spec_l01New.spec, spec_l01Below.spec]) (holds_cons spec_l01New.ok (holds_cons spec_l01Below.ok holds_nil)) (by kernel_rfl) H Go.Proofs.Tryd.func7 (by kernel_rfl) (rfl : Go.Proofs.Tryd.f7.body = some _) (by kernel_rfl) (by kernel_rfl) fun k x y h => Eq.trans (by kernel_rfl : _ = spec.fn k x) h
end spec_DrawPlaces

namespace impl_WorstOf
def s0 (k : Nat) (rec0 : (Int × List Int × Int × Int × Int × Int × Int × List Int) → Option (Int)) (x0 : Int) (x1 : List Int) (x2 : Int) (x3 : Int) (x4 : Int) (x5 : Int) (x6 : Int) (x7 : List Int) : Option (Int) := brB (iLt x3 x2) (chk (cIdx x3 (rLen x1)) (bnd (impl_isSet.f k x4 x3) fun y1 => brB y1 (bnd (impl_isSet.f k x5 x3) fun y2 => brB (bNot y2) (rec0 (iMax x0 (rGet 0 x1 x3), x1, x2, iAdd .i64 x3 1, x4, x5, x6, x7)) (rec0 (x0, x1, x2, iAdd .i64 x3 1, x4, x5, x6, x7))) (rec0 (x0, x1, x2, iAdd .i64 x3 1, x4, x5, x6, x7)))) (some x0)
def l0 (k n : Nat) (x0 : Int) (x1 : List Int) (x2 : Int) (x3 : Int) (x4 : Int) (x5 : Int) (x6 : Int) (x7 : List Int) : Option (Int) := iter (fun (rec : (Int × List Int × Int × Int × Int × Int × Int × List Int) → Option (Int)) (x : Int × List Int × Int × Int × Int × Int × Int × List Int) => s0 k rec x.1 x.2.1 x.2.2.1 x.2.2.2.1 x.2.2.2.2.1 x.2.2.2.2.2.1 x.2.2.2.2.2.2.1 x.2.2.2.2.2.2.2) n (x0, x1, x2, x3, x4, x5, x6, x7)
def f (k : Nat) (a0_0 : Int) (a0_1 : Int) (a0_2 : Int) (a0_3 : List Int) : Option (Int) := bnd (impl_LogOk.f k a0_0 a0_1 a0_2 a0_3) fun y0 => brB (bNot y0) (some (-1)) (l0 k k (-1) a0_3 (rLen a0_3) 0 a0_0 a0_1 a0_2 a0_3)
def sig : Sig := ⟨10, [.w true [I, I, I, .row I]], [(false, [.val I])]⟩
def H : Hints := ⟨[(5, ⟨⟨[(1, .ptr 101 0), (3, .w false 1), (11, .w false 1), (12, .w false 1), (13, .w false 1)], [(101, 4)]⟩, [1], [.val I, .val (.row I), .val I, .val I, .val I, .val I, .val I, .val (.row I)], []⟩)], [], [], [], false, 0⟩
def spec : Spec := { sig := sig, fn := fun k (x : Int × Int × Int × List Int) => f k x.1 x.2.1 x.2.2.1 x.2.2.2 }
theorem ok : Holds Go.Proofs.Tryd.prog spec := holds_of_run (G := [impl_isSet.spec, impl_LogOk.spec]) (holds_cons impl_isSet.ok (holds_cons impl_LogOk.ok holds_nil)) (by kernel_rfl) H Go.Proofs.Tryd.func10 (by kernel_rfl) (rfl : Go.Proofs.Tryd.f10.body = some _) (by kernel_rfl) (by kernel_rfl) fun k x y h => Eq.trans (by kernel_rfl : _ = spec.fn k x) h
end impl_WorstOf

namespace laws_FnClears
def f (k : Nat) (a0 : List Int) : Option (Bool) := bnd (laws_big.f k a0) fun y0 => brB y0 (some true) (bnd (spec_DrawLog.f k a0) fun p => (fun y1 y2 y3 y4 => bnd (spec_DrawPlaces.f k a0) fun y5 => chk (cIdx 0 (rLen y5)) (chk (cNz 65536) (bnd (impl_ClearErrors.f k y1 y2 y3 y4 (iRem (iMul .i64 (rGet 0 y5 0) 7) 65536)) fun p => (fun y6 y7 y8 y9 => bnd (impl_ClearErrors.f k y1 y2 y3 y4 65535) fun p => (fun y10 y11 y12 y13 => bnd (impl_LogOk.f k y6 y7 y8 y9) fun y14 => brB y14 (brB (iEq (iBit .and .i64 y6 (iRem (iMul .i64 (rGet 0 y5 0) 7) 65536)) 0) (brB (iEq (iBit .or .i64 y6 (iRem (iMul .i64 (rGet 0 y5 0) 7) 65536)) (iBit .or .i64 y1 (iRem (iMul .i64 (rGet 0 y5 0) 7) 65536))) (brB (iEq y10 0) (brB (iEq y12 (-1)) (bnd (impl_WorstOf.f k y10 y11 y12 y13) fun y15 => brB (iEq y15 (-1)) (bnd (impl_ClearErrors.f k y6 y7 y8 y9 (iRem (iMul .i64 (rGet 0 y5 0) 7) 65536)) fun p => (fun y16 y17 y18 y19 => some (iEq y16 y6)) p.1 p.2.1 p.2.2.1 p.2.2.2) (some false)) (some false)) (some false)) (some false)) (some false)) (some false)) p.1 p.2.1 p.2.2.1 p.2.2.2) p.1 p.2.1 p.2.2.1 p.2.2.2))) p.1 p.2.1 p.2.2.1 p.2.2.2)
def sig : Sig := ⟨3, [.w false [.row (.int .u8)]], [(false, [.val .bool])]⟩
def H : Hints := ⟨[], [], [(8, [0, 1, 3, 7, 15, 7, 63, 127, 255, 511, 1023, 2047, 1023, 8191, 1023, 17407, 1023, 115711, 262143, 524287, 1048575, 2097151, 4194303, 8388607, 16777215, 33554431, 67108863, 134217727, 268435455, 536870911, 1073741823, 2147483647, 4294967295, 8589934591, 17179869183, 34359738367, 68719476735, 68719476735, 274877906943, 549755813887, 68719476735, 1168231104511, 4398046511103, 8796093022207, 17592186044415])], [], false, 0⟩
def spec : Spec := { sig := sig, fn := fun k (x : List Int) => f k x }
theorem ok : Holds Go.Proofs.Tryd.prog spec := holds_of_run (G := [impl_LogOk.spec, impl_ClearErrors.spec, laws_big.spec, spec_DrawLog.spec, spec_DrawPlaces.spec, impl_WorstOf.spec]) (holds_cons impl_LogOk.ok (holds_cons impl_ClearErrors.ok (holds_cons laws_big.ok (holds_cons spec_DrawLog.ok (holds_cons spec_DrawPlaces.ok (holds_cons impl_WorstOf.ok holds_nil)))))) (by kernel_rfl) H Go.Proofs.Tryd.func3 (by kernel_rfl) (rfl : Go.Proofs.Tryd.f3.body = some _) (by kernel_rfl) (by kernel_rfl) fun k x y h => Eq.trans (by kernel_rfl : _ = spec.fn k x) h
end laws_FnClears

end
end Go.Proofs.YtbfkiggcemlmgaaDoorT
