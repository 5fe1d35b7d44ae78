/- The functions of the program, as they compute: printed by a program of the session (wip/gen), each with its contract. -/
import Derived.Test.YtbfkiggcemlmgaaDoorProg
import Derived.Test.YtbfkiggcemlmgaaDoorTiAI
set_option linter.unusedVariables false
set_option maxRecDepth 100000
namespace Go.Proofs.YtbfkiggcemlmgaaDoorT
open Go
abbrev I : Ty := .int .i64
noncomputable section
namespace laws_szIntS
def f (k : Nat) (a0 : List Int) (a1 : Int) : Option (Int) := brB (iLt (iSub .i64 a1 (rLen a0)) 0) (some (-1)) (some (iSub .i64 a1 (rLen a0)))
def sig : Sig := ⟨28, [.w false [.row I], .w false [I]], [(false, [.val I])]⟩
def H : Hints := ⟨[], [], [], [], false, 0⟩
def spec : Spec := { sig := sig, fn := fun k (x : List Int × Int) => f k x.1 x.2 }
theorem ok : Holds Go.Proofs.Tryd.prog spec := holds_of_run (G := []) holds_nil (by kernel_rfl) H Go.Proofs.Tryd.func28 (by kernel_rfl) (rfl : Go.Proofs.Tryd.f28.body = some _) (by kernel_rfl) (by kernel_rfl) fun k x y h => Eq.trans (by kernel_rfl : _ = spec.fn k x) h
end laws_szIntS

namespace laws_szLog
def f (k : Nat) (a0_0 : Int) (a0_1 : Int) (a0_2 : Int) (a0_3 : List Int) (a1 : Int) : Option (Int) := bnd (laws_szIntS.f k a0_3 a1) fun y0 => brB (iLt y0 0) (some (-1)) (some y0)
def sig : Sig := ⟨11, [.w true [I, I, I, .row I], .w false [I]], [(false, [.val I])]⟩
def H : Hints := ⟨[], [], [], [], false, 0⟩
def spec : Spec := { sig := sig, fn := fun k (x : Int × Int × Int × List Int × Int) => f k x.1 x.2.1 x.2.2.1 x.2.2.2.1 x.2.2.2.2 }
theorem ok : Holds Go.Proofs.Tryd.prog spec := holds_of_run (G := [laws_szIntS.spec]) (holds_cons laws_szIntS.ok holds_nil) (by kernel_rfl) H Go.Proofs.Tryd.func11 (by kernel_rfl) (rfl : Go.Proofs.Tryd.f11.body = some _) (by kernel_rfl) (by kernel_rfl) fun k x y h => Eq.trans (by kernel_rfl : _ = spec.fn k x) h
end laws_szLog

namespace laws_toIntS
def s0 (k : Nat) (rec0 : (List Int × List Int × Int) → Option (List Int)) (x0 : List Int) (x1 : List Int) (x2 : Int) : Option (List Int) := brB (iLt x2 (rLen x0)) (chk (cIdx x2 (rLen x0)) (chk (cIdx x2 (rLen x1)) (rec0 (x0, rSet x1 x2 (rGet 0 x0 x2), iAdd .i64 x2 1)))) (some x1)
def l0 (k n : Nat) (x0 : List Int) (x1 : List Int) (x2 : Int) : Option (List Int) := iter (fun (rec : (List Int × List Int × Int) → Option (List Int)) (x : List Int × List Int × Int) => s0 k rec x.1 x.2.1 x.2.2) n (x0, x1, x2)
def f (k : Nat) (a0 : List Int) : Option (List Int) := chk (cMake (rLen a0) (rLen a0) 8) (l0 k k a0 (rRep 0 (rLen a0)) 0)
def sig : Sig := ⟨32, [.w false [.row I]], [(false, [.own I])]⟩
def H : Hints := ⟨[(3, ⟨⟨[(0, .w false 1), (3, .w false 1), (4, .w false 1)], []⟩, [], [.val (.row I), .own I, .val I], []⟩)], [], [], [], true, 0⟩
def spec : Spec := { sig := sig, fn := fun k (x : List Int) => f k x }
theorem ok : Holds Go.Proofs.Tryd.prog spec := holds_of_run (G := []) holds_nil (by kernel_rfl) H Go.Proofs.Tryd.func32 (by kernel_rfl) (rfl : Go.Proofs.Tryd.f32.body = some _) (by kernel_rfl) (by kernel_rfl) fun k x y h => Eq.trans (by kernel_rfl : _ = spec.fn k x) h
end laws_toIntS

namespace laws_toLog
def f (k : Nat) (a0_0 : Int) (a0_1 : Int) (a0_2 : Int) (a0_3 : List Int) : Option (Int × Int × Int × List Int) := bnd (laws_toIntS.f k a0_3) fun y0 => some (a0_0, a0_1, a0_2, y0)
def sig : Sig := ⟨13, [.w true [I, I, I, .row I]], [(true, [.val I, .val I, .val I, .own I])]⟩
def H : Hints := ⟨[], [], [], [], true, 0⟩
def spec : Spec := { sig := sig, fn := fun k (x : Int × Int × Int × List Int) => f k x.1 x.2.1 x.2.2.1 x.2.2.2 }
theorem ok : Holds Go.Proofs.Tryd.prog spec := holds_of_run (G := [laws_toIntS.spec]) (holds_cons laws_toIntS.ok holds_nil) (by kernel_rfl) H Go.Proofs.Tryd.func13 (by kernel_rfl) (rfl : Go.Proofs.Tryd.f13.body = some _) (by kernel_rfl) (by kernel_rfl) fun k x y h => Eq.trans (by kernel_rfl : _ = spec.fn k x) h
end laws_toLog

namespace spec_l32Copy
def f (k : Nat) (a0_0 : Int) (a0_1 : Int) (a0_2 : Int) (a0_3 : List Int) : Option (Int × Int × Int × List Int) := chk (cLen (rLen (rApp [] a0_3)) 8) (some (a0_0, a0_1, a0_2, rApp [] a0_3))
def sig : Sig := ⟨29, [.w true [I, I, I, .row I]], [(true, [.val I, .val I, .val I, .own I])]⟩
def H : Hints := ⟨[], [], [], [], false, 0⟩
def spec : Spec := { sig := sig, fn := fun k (x : Int × Int × Int × List Int) => f k x.1 x.2.1 x.2.2.1 x.2.2.2 }
theorem ok : Holds Go.Proofs.Tryd.prog spec := holds_of_run (G := []) holds_nil (by kernel_rfl) H Go.Proofs.Tryd.func29 (by kernel_rfl) (rfl : Go.Proofs.Tryd.f29.body = some _) (by kernel_rfl) (by kernel_rfl) fun k x y h => Eq.trans (by kernel_rfl : _ = spec.fn k x) h
end spec_l32Copy

namespace spec_l01In
def f (k : Nat) (a0 : Int) (a1 : Int) (a2 : Int) : Option (Bool) := brB (iLe a1 a0) (some (iLe a0 a2)) (some false)
def sig : Sig := ⟨31, [.w false [I], .w false [I], .w false [I]], [(false, [.val .bool])]⟩
def H : Hints := ⟨[], [], [], [], false, 0⟩
def spec : Spec := { sig := sig, fn := fun k (x : Int × Int × Int) => f k x.1 x.2.1 x.2.2 }
theorem ok : Holds Go.Proofs.Tryd.prog spec := holds_of_run (G := []) holds_nil (by kernel_rfl) H Go.Proofs.Tryd.func31 (by kernel_rfl) (rfl : Go.Proofs.Tryd.f31.body = some _) (by kernel_rfl) (by kernel_rfl) fun k x y h => Eq.trans (by kernel_rfl : _ = spec.fn k x) h
end spec_l01In

namespace spec_LogOk
def s0 (k : Nat) (rec0 : (Int × Int × Int × Int × List Int) → Option (Bool)) (x0 : Int) (x1 : Int) (x2 : Int) (x3 : Int) (x4 : List Int) : Option (Bool) := brB (iLt x0 16) (chk (cIdx x0 (rLen x4)) (bnd (spec_l01In.f k (rGet 0 x4 x0) 0 2) fun y2 => brB (bNot y2) (some false) (rec0 (iAdd .i64 x0 1, x1, x2, x3, x4)))) (brB (iEq x1 0) (some (iEq x3 (-1))) (bnd (spec_l01In.f k x3 0 15) fun y3 => brB y3 (chk (cNn x3) (some (iEq (iBit .and .i64 (iShr .i64 x1 x3) 1) 1))) (some false)))
def l0 (k n : Nat) (x0 : Int) (x1 : Int) (x2 : Int) (x3 : Int) (x4 : List Int) : Option (Bool) := iter (fun (rec : (Int × Int × Int × Int × List Int) → Option (Bool)) (x : Int × Int × Int × Int × List Int) => s0 k rec x.1 x.2.1 x.2.2.1 x.2.2.2.1 x.2.2.2.2) n (x0, x1, x2, x3, x4)
def f (k : Nat) (a0_0 : Int) (a0_1 : Int) (a0_2 : Int) (a0_3 : List Int) : Option (Bool) := bnd (spec_l01In.f k a0_0 0 65535) fun y0 => brB (bNot y0) (some false) (bnd (spec_l01In.f k a0_1 0 65535) fun y1 => brB (bNot y1) (some false) (brB (iNe (rLen a0_3) 16) (some false) (l0 k k 0 a0_0 a0_1 a0_2 a0_3)))
def sig : Sig := ⟨30, [.w true [I, I, I, .row I]], [(false, [.val .bool])]⟩
def H : Hints := ⟨[(4, ⟨⟨[(1, .ptr 101 0), (3, .w false 1)], [(101, 4)]⟩, [1], [.val I, .val I, .val I, .val I, .val (.row I)], []⟩)], [], [], [], false, 0⟩
def spec : Spec := { sig := sig, fn := fun k (x : Int × Int × Int × List Int) => f k x.1 x.2.1 x.2.2.1 x.2.2.2 }
theorem ok : Holds Go.Proofs.Tryd.prog spec := holds_of_run (G := [spec_l01In.spec]) (holds_cons spec_l01In.ok holds_nil) (by kernel_rfl) H Go.Proofs.Tryd.func30 (by kernel_rfl) (rfl : Go.Proofs.Tryd.f30.body = some _) (by kernel_rfl) (by kernel_rfl) fun k x y h => Eq.trans (by kernel_rfl : _ = spec.fn k x) h
end spec_LogOk

namespace spec_ClearErrors
def s0 (k : Nat) (rec0 : (Int × Int × Int × Int × List Int × Int × Int × Int × List Int) → Option (Int × Int × Int × List Int)) (x0 : Int) (x1 : Int) (x2 : Int) (x3 : Int) (x4 : List Int) (x5 : Int) (x6 : Int) (x7 : Int) (x8 : List Int) : Option (Int × Int × Int × List Int) := brB (iLe 0 x0) (chk (cNn x0) (brB (iEq (iBit .and .i64 (iShr .i64 x5 x0) 1) 1) (rec0 (iSub .i64 x0 1, x1, x2, x3, x4, x5, x6, x0, x8)) (rec0 (iSub .i64 x0 1, x1, x2, x3, x4, x5, x6, x7, x8)))) (some (x5, x6, x7, x8))
def l0 (k n : Nat) (x0 : Int) (x1 : Int) (x2 : Int) (x3 : Int) (x4 : List Int) (x5 : Int) (x6 : Int) (x7 : Int) (x8 : List Int) : Option (Int × Int × Int × List Int) := iter (fun (rec : (Int × Int × Int × Int × List Int × Int × Int × Int × List Int) → Option (Int × Int × Int × List Int)) (x : Int × Int × Int × Int × List Int × Int × Int × Int × List Int) => s0 k rec x.1 x.2.1 x.2.2.1 x.2.2.2.1 x.2.2.2.2.1 x.2.2.2.2.2.1 x.2.2.2.2.2.2.1 x.2.2.2.2.2.2.2.1 x.2.2.2.2.2.2.2.2) n (x0, x1, x2, x3, x4, x5, x6, x7, x8)
def f (k : Nat) (a0_0 : Int) (a0_1 : Int) (a0_2 : Int) (a0_3 : List Int) (a1 : Int) : Option (Int × Int × Int × List Int) := bnd (spec_l32Copy.f k a0_0 a0_1 a0_2 a0_3) fun p => (fun y0 y1 y2 y3 => bnd (spec_LogOk.f k a0_0 a0_1 a0_2 a0_3) fun y4 => brB (bNot y4) (some (y0, y1, y2, y3)) (bnd (spec_l01In.f k a1 0 65535) fun y5 => brB (bNot y5) (some (y0, y1, y2, y3)) (brB (iEq (iBit .andNot .i64 a0_0 a1) 0) (some (iBit .andNot .i64 a0_0 a1, y1, (-1), y3)) (chk (cNn a0_2) (brB (iEq (iBit .and .i64 (iShr .i64 (iBit .andNot .i64 a0_0 a1) a0_2) 1) 1) (some (iBit .andNot .i64 a0_0 a1, y1, y2, y3)) (l0 k k 15 0 0 0 [] (iBit .andNot .i64 a0_0 a1) y1 y2 y3)))))) p.1 p.2.1 p.2.2.1 p.2.2.2
def sig : Sig := ⟨12, [.w true [I, I, I, .row I], .w false [I]], [(true, [.val I, .val I, .val I, .own I])]⟩
def H : Hints := ⟨[(11, ⟨⟨[(4, .ptr 104 0), (5, .ptr 105 0), (6, .w false 1)], [(104, 4), (105, 4)]⟩, [4, 5], [.val I, .val I, .val I, .val I, .own I, .val I, .val I, .val I, .own I], []⟩)], [], [], [], false, 0⟩
def spec : Spec := { sig := sig, fn := fun k (x : Int × Int × Int × List Int × Int) => f k x.1 x.2.1 x.2.2.1 x.2.2.2.1 x.2.2.2.2 }
theorem ok : Holds Go.Proofs.Tryd.prog spec := holds_of_run (G := [spec_l32Copy.spec, spec_l01In.spec, spec_LogOk.spec]) (holds_cons spec_l32Copy.ok (holds_cons spec_l01In.ok (holds_cons spec_LogOk.ok holds_nil))) (by kernel_rfl) H Go.Proofs.Tryd.func12 (by kernel_rfl) (rfl : Go.Proofs.Tryd.f12.body = some _) (by kernel_rfl) (by kernel_rfl) fun k x y h => Eq.trans (by kernel_rfl : _ = spec.fn k x) h
end spec_ClearErrors

namespace slices_Clone_int
def f (k : Nat) (a0 : List Int) : Option (List Int) := chk (cLen (rLen a0) 8) (some a0)
def sig : Sig := cloneSig 39 I
def spec : Spec := { sig := sig, fn := fun k (x : List Int) => f k x }
theorem ok : Holds Go.Proofs.Tryd.prog spec := clone_holds (u := I) (t := 24) (by kernel_rfl) Go.Proofs.Tryd.func39 (by kernel_rfl) (rfl : Go.Proofs.Tryd.f39.body = some _) (by kernel_rfl) (by kernel_rfl) Go.Proofs.Tryd.underlying24 ⟨rfl, rfl, rfl⟩ ⟨rfl, rfl, rfl⟩ ⟨rfl, rfl, _, rfl⟩ (fun l => cLen (rLen l) 8) (fun k => by kernel_rfl) (fun k l => by kernel_rfl)
end slices_Clone_int

namespace impl_copyLog
def f (k : Nat) (a0_0 : Int) (a0_1 : Int) (a0_2 : Int) (a0_3 : List Int) : Option (Int × Int × Int × List Int) := bnd (slices_Clone_int.f k a0_3) fun y0 => some (a0_0, a0_1, a0_2, y0)
def sig : Sig := ⟨20, [.w true [I, I, I, .row I]], [(true, [.val I, .val I, .val I, .own I])]⟩
def H : Hints := ⟨[], [], [], [], false, 0⟩
def spec : Spec := { sig := sig, fn := fun k (x : Int × Int × Int × List Int) => f k x.1 x.2.1 x.2.2.1 x.2.2.2 }
theorem ok : Holds Go.Proofs.Tryd.prog spec := holds_of_run (G := [slices_Clone_int.spec]) (holds_cons slices_Clone_int.ok holds_nil) (by kernel_rfl) H Go.Proofs.Tryd.func20 (by kernel_rfl) (rfl : Go.Proofs.Tryd.f20.body = some _) (by kernel_rfl) (by kernel_rfl) fun k x y h => Eq.trans (by kernel_rfl : _ = spec.fn k x) h
end impl_copyLog

namespace impl_within
def f (k : Nat) (a0 : Int) (a1 : Int) (a2 : Int) : Option (Bool) := brB (iLe a1 a0) (some (iLe a0 a2)) (some false)
def sig : Sig := ⟨40, [.w false [I], .w false [I], .w false [I]], [(false, [.val .bool])]⟩
def H : Hints := ⟨[], [], [], [], false, 0⟩
def spec : Spec := { sig := sig, fn := fun k (x : Int × Int × Int) => f k x.1 x.2.1 x.2.2 }
theorem ok : Holds Go.Proofs.Tryd.prog spec := holds_of_run (G := []) holds_nil (by kernel_rfl) H Go.Proofs.Tryd.func40 (by kernel_rfl) (rfl : Go.Proofs.Tryd.f40.body = some _) (by kernel_rfl) (by kernel_rfl) fun k x y h => Eq.trans (by kernel_rfl : _ = spec.fn k x) h
end impl_within

namespace impl_isWord
def f (k : Nat) (a0 : Int) : Option (Bool) := bnd (impl_within.f k a0 0 65535) fun y0 => some y0
def sig : Sig := ⟨21, [.w false [I]], [(false, [.val .bool])]⟩
def H : Hints := ⟨[], [], [], [], false, 0⟩
def spec : Spec := { sig := sig, fn := fun k (x : Int) => f k x }
theorem ok : Holds Go.Proofs.Tryd.prog spec := holds_of_run (G := [impl_within.spec]) (holds_cons impl_within.ok holds_nil) (by kernel_rfl) H Go.Proofs.Tryd.func21 (by kernel_rfl) (rfl : Go.Proofs.Tryd.f21.body = some _) (by kernel_rfl) (by kernel_rfl) fun k x y h => Eq.trans (by kernel_rfl : _ = spec.fn k x) h
end impl_isWord

namespace impl_isSeverity
def f (k : Nat) (a0 : Int) : Option (Bool) := bnd (impl_within.f k a0 0 2) fun y0 => some y0
def sig : Sig := ⟨26, [.w false [I]], [(false, [.val .bool])]⟩
def H : Hints := ⟨[], [], [], [], false, 0⟩
def spec : Spec := { sig := sig, fn := fun k (x : Int) => f k x }
theorem ok : Holds Go.Proofs.Tryd.prog spec := holds_of_run (G := [impl_within.spec]) (holds_cons impl_within.ok holds_nil) (by kernel_rfl) H Go.Proofs.Tryd.func26 (by kernel_rfl) (rfl : Go.Proofs.Tryd.f26.body = some _) (by kernel_rfl) (by kernel_rfl) fun k x y h => Eq.trans (by kernel_rfl : _ = spec.fn k x) h
end impl_isSeverity

namespace impl_LogOk_1
def f (k : Nat) (a0 : Int) : Option (Bool) := bnd (impl_isSeverity.f k a0) fun y0 => some (bNot y0)
def sig : Sig := ⟨25, [.w false [I]], [(false, [.val .bool])]⟩
def H : Hints := ⟨[], [], [], [], false, 0⟩
def spec : Spec := { sig := sig, fn := fun k (x : Int) => f k x }
theorem ok : Holds Go.Proofs.Tryd.prog spec := holds_of_run (G := [impl_isSeverity.spec]) (holds_cons impl_isSeverity.ok holds_nil) (by kernel_rfl) H Go.Proofs.Tryd.func25 (by kernel_rfl) (rfl : Go.Proofs.Tryd.f25.body = some _) (by kernel_rfl) (by kernel_rfl) fun k x y h => Eq.trans (by kernel_rfl : _ = spec.fn k x) h
end impl_LogOk_1

namespace slices_IndexFunc_int_impl_LogOk_1
def s0 (k : Nat) (rec0 : (List Int × Int × Int) → Option (Int)) (x0 : List Int) (x1 : Int) (x2 : Int) : Option (Int) := brB (iLt x2 x1) (chk (cIdx x2 (rLen x0)) (bnd (impl_LogOk_1.f k (rGet 0 x0 x2)) fun y0 => brB y0 (some x2) (rec0 (x0, x1, iAdd .i64 x2 1)))) (some (-1))
def l0 (k n : Nat) (x0 : List Int) (x1 : Int) (x2 : Int) : Option (Int) := iter (fun (rec : (List Int × Int × Int) → Option (Int)) (x : List Int × Int × Int) => s0 k rec x.1 x.2.1 x.2.2) n (x0, x1, x2)
def f (k : Nat) (a0 : List Int) : Option (Int) := l0 k k a0 (rLen a0) 0
def sig : Sig := ⟨43, [.w false [.row I], .fn 25 []], [(false, [.val I])]⟩
def H : Hints := ⟨[(2, ⟨⟨[(0, .w false 1), (1, .fn 25 []), (7, .w false 1), (8, .w false 1)], []⟩, [], [.val (.row I), .val I, .val I], []⟩)], [], [], [], false, 0⟩
def spec : Spec := { sig := sig, fn := fun k (x : List Int) => f k x }
theorem ok : Holds Go.Proofs.Tryd.prog spec := holds_of_run (G := [impl_LogOk_1.spec]) (holds_cons impl_LogOk_1.ok holds_nil) (by kernel_rfl) H Go.Proofs.Tryd.func43 (by kernel_rfl) (rfl : Go.Proofs.Tryd.f43.body = some _) (by kernel_rfl) (by kernel_rfl) fun k x y h => Eq.trans (by kernel_rfl : _ = spec.fn k x) h
end slices_IndexFunc_int_impl_LogOk_1

namespace slices_ContainsFunc_int_impl_LogOk_1
def f (k : Nat) (a0 : List Int) : Option (Bool) := bnd (slices_IndexFunc_int_impl_LogOk_1.f k a0) fun y0 => some (iLe 0 y0)
def sig : Sig := ⟨24, [.w false [.row I], .fn 25 []], [(false, [.val .bool])]⟩
def H : Hints := ⟨[], [], [], [], false, 0⟩
def spec : Spec := { sig := sig, fn := fun k (x : List Int) => f k x }
theorem ok : Holds Go.Proofs.Tryd.prog spec := holds_of_run (G := [slices_IndexFunc_int_impl_LogOk_1.spec]) (holds_cons slices_IndexFunc_int_impl_LogOk_1.ok holds_nil) (by kernel_rfl) H Go.Proofs.Tryd.func24 (by kernel_rfl) (rfl : Go.Proofs.Tryd.f24.body = some _) (by kernel_rfl) (by kernel_rfl) fun k x y h => Eq.trans (by kernel_rfl : _ = spec.fn k x) h
end slices_ContainsFunc_int_impl_LogOk_1

namespace impl_isError
def f (k : Nat) (a0 : Int) : Option (Bool) := bnd (impl_within.f k a0 0 15) fun y0 => some y0
def sig : Sig := ⟨27, [.w false [I]], [(false, [.val .bool])]⟩
def H : Hints := ⟨[], [], [], [], false, 0⟩
def spec : Spec := { sig := sig, fn := fun k (x : Int) => f k x }
theorem ok : Holds Go.Proofs.Tryd.prog spec := holds_of_run (G := [impl_within.spec]) (holds_cons impl_within.ok holds_nil) (by kernel_rfl) H Go.Proofs.Tryd.func27 (by kernel_rfl) (rfl : Go.Proofs.Tryd.f27.body = some _) (by kernel_rfl) (by kernel_rfl) fun k x y h => Eq.trans (by kernel_rfl : _ = spec.fn k x) h
end impl_isError

namespace impl_isSet
def f (k : Nat) (a0 : Int) (a1 : Int) : Option (Bool) := chk (cNn (iCnv .u64 a1)) (some (iEq (iBit .and .i64 (iShr .i64 a0 (iCnv .u64 a1)) 1) 1))
def sig : Sig := ⟨22, [.w false [I], .w false [I]], [(false, [.val .bool])]⟩
def H : Hints := ⟨[], [], [], [], false, 0⟩
def spec : Spec := { sig := sig, fn := fun k (x : Int × Int) => f k x.1 x.2 }
theorem ok : Holds Go.Proofs.Tryd.prog spec := holds_of_run (G := []) holds_nil (by kernel_rfl) H Go.Proofs.Tryd.func22 (by kernel_rfl) (rfl : Go.Proofs.Tryd.f22.body = some _) (by kernel_rfl) (by kernel_rfl) fun k x y h => Eq.trans (by kernel_rfl : _ = spec.fn k x) h
end impl_isSet

namespace impl_LogOk
def f (k : Nat) (a0_0 : Int) (a0_1 : Int) (a0_2 : Int) (a0_3 : List Int) : Option (Bool) := bnd (impl_isWord.f k a0_0) fun y0 => brB (bNot y0) (some false) (bnd (impl_isWord.f k a0_1) fun y1 => brB (bNot y1) (some false) (brB (iNe (rLen a0_3) 16) (some false) (bnd (slices_ContainsFunc_int_impl_LogOk_1.f k a0_3) fun y2 => brB y2 (some false) (brB (iEq a0_0 0) (some (iEq a0_2 (-1))) (bnd (impl_isError.f k a0_2) fun y3 => brB y3 (bnd (impl_isSet.f k a0_0 a0_2) fun y4 => some y4) (some false))))))
def sig : Sig := ⟨9, [.w true [I, I, I, .row I]], [(false, [.val .bool])]⟩
def H : Hints := ⟨[], [], [], [], false, 0⟩
def spec : Spec := { sig := sig, fn := fun k (x : Int × Int × Int × List Int) => f k x.1 x.2.1 x.2.2.1 x.2.2.2 }
theorem ok : Holds Go.Proofs.Tryd.prog spec := holds_of_run (G := [impl_isWord.spec, slices_ContainsFunc_int_impl_LogOk_1.spec, impl_isError.spec, impl_isSet.spec]) (holds_cons impl_isWord.ok (holds_cons slices_ContainsFunc_int_impl_LogOk_1.ok (holds_cons impl_isError.ok (holds_cons impl_isSet.ok holds_nil)))) (by kernel_rfl) H Go.Proofs.Tryd.func9 (by kernel_rfl) (rfl : Go.Proofs.Tryd.f9.body = some _) (by kernel_rfl) (by kernel_rfl) fun k x y h => Eq.trans (by kernel_rfl : _ = spec.fn k x) h
end impl_LogOk

namespace bits_TrailingZeros32
def f (k : Nat) (a0 : Int) : Option (Int) := brB (iEq a0 0) (some 32) (chk (cNn 27) (chk (cTab (iShr .u32 (iMul .u32 (iBit .and .u32 a0 (iSub .u32 0 a0)) 125613361) 27) (rLen [0, 1, 28, 2, 29, 14, 24, 3, 30, 22, 20, 15, 25, 17, 4, 8, 31, 27, 13, 23, 21, 19, 16, 7, 26, 12, 18, 6, 11, 5, 10, 9])) (some (iCnv .i64 (rGet 0 [0, 1, 28, 2, 29, 14, 24, 3, 30, 22, 20, 15, 25, 17, 4, 8, 31, 27, 13, 23, 21, 19, 16, 7, 26, 12, 18, 6, 11, 5, 10, 9] (iShr .u32 (iMul .u32 (iBit .and .u32 a0 (iSub .u32 0 a0)) 125613361) 27))))))
def sig : Sig := ⟨41, [.w false [.int .u32]], [(false, [.val I])]⟩
def H : Hints := ⟨[], [], [], [], false, 1⟩
def spec : Spec := { sig := sig, fn := fun k (x : Int) => f k x }
theorem ok : Holds Go.Proofs.Tryd.prog spec := holds_of_run (G := []) holds_nil (by kernel_rfl) H Go.Proofs.Tryd.func41 (by kernel_rfl) (rfl : Go.Proofs.Tryd.f41.body = some _) (by kernel_rfl) (by kernel_rfl) fun k x y h => Eq.trans (by kernel_rfl : _ = spec.fn k x) h
end bits_TrailingZeros32

namespace bits_TrailingZeros64
def f (k : Nat) (a0 : Int) : Option (Int) := brB (iEq a0 0) (some 64) (chk (cNn 58) (chk (cTab (iShr .u64 (iMul .u64 (iBit .and .u64 a0 (iSub .u64 0 a0)) 285870213051353865) 58) (rLen [0, 1, 56, 2, 57, 49, 28, 3, 61, 58, 42, 50, 38, 29, 17, 4, 62, 47, 59, 36, 45, 43, 51, 22, 53, 39, 33, 30, 24, 18, 12, 5, 63, 55, 48, 27, 60, 41, 37, 16, 46, 35, 44, 21, 52, 32, 23, 11, 54, 26, 40, 15, 34, 20, 31, 10, 25, 14, 19, 9, 13, 8, 7, 6])) (some (iCnv .i64 (rGet 0 [0, 1, 56, 2, 57, 49, 28, 3, 61, 58, 42, 50, 38, 29, 17, 4, 62, 47, 59, 36, 45, 43, 51, 22, 53, 39, 33, 30, 24, 18, 12, 5, 63, 55, 48, 27, 60, 41, 37, 16, 46, 35, 44, 21, 52, 32, 23, 11, 54, 26, 40, 15, 34, 20, 31, 10, 25, 14, 19, 9, 13, 8, 7, 6] (iShr .u64 (iMul .u64 (iBit .and .u64 a0 (iSub .u64 0 a0)) 285870213051353865) 58))))))
def sig : Sig := ⟨42, [.w false [.int .u64]], [(false, [.val I])]⟩
def H : Hints := ⟨[], [], [], [], false, 1⟩
def spec : Spec := { sig := sig, fn := fun k (x : Int) => f k x }
theorem ok : Holds Go.Proofs.Tryd.prog spec := holds_of_run (G := []) holds_nil (by kernel_rfl) H Go.Proofs.Tryd.func42 (by kernel_rfl) (rfl : Go.Proofs.Tryd.f42.body = some _) (by kernel_rfl) (by kernel_rfl) fun k x y h => Eq.trans (by kernel_rfl : _ = spec.fn k x) h
end bits_TrailingZeros64

namespace bits_TrailingZeros
def f (k : Nat) (a0 : Int) : Option (Int) := bnd (bits_TrailingZeros64.f k a0) fun y0 => some y0
def sig : Sig := ⟨23, [.w false [.int .u64]], [(false, [.val I])]⟩
def H : Hints := ⟨[], [], [], [], false, 0⟩
def spec : Spec := { sig := sig, fn := fun k (x : Int) => f k x }
theorem ok : Holds Go.Proofs.Tryd.prog spec := holds_of_run (G := [bits_TrailingZeros32.spec, bits_TrailingZeros64.spec]) (holds_cons bits_TrailingZeros32.ok (holds_cons bits_TrailingZeros64.ok holds_nil)) (by kernel_rfl) H Go.Proofs.Tryd.func23 (by kernel_rfl) (rfl : Go.Proofs.Tryd.f23.body = some _) (by kernel_rfl) (by kernel_rfl) fun k x y h => Eq.trans (by kernel_rfl : _ = spec.fn k x) h
end bits_TrailingZeros

namespace impl_ClearErrors
def f (k : Nat) (a0_0 : Int) (a0_1 : Int) (a0_2 : Int) (a0_3 : List Int) (a1 : Int) : Option (Int × Int × Int × List Int) := bnd (impl_copyLog.f k a0_0 a0_1 a0_2 a0_3) fun p => (fun y0 y1 y2 y3 => bnd (impl_LogOk.f k a0_0 a0_1 a0_2 a0_3) fun y4 => brB (bNot y4) (some (y0, y1, y2, y3)) (bnd (impl_isWord.f k a1) fun y5 => brB (bNot y5) (some (y0, y1, y2, y3)) (brB (iEq (iBit .andNot .i64 y0 a1) 0) (some (iBit .andNot .i64 y0 a1, y1, (-1), y3)) (bnd (impl_isSet.f k (iBit .andNot .i64 y0 a1) y2) fun y6 => brB (bNot y6) (bnd (bits_TrailingZeros.f k (iCnv .u64 (iBit .andNot .i64 y0 a1))) fun y7 => some (iBit .andNot .i64 y0 a1, y1, y7, y3)) (some (iBit .andNot .i64 y0 a1, y1, y2, y3)))))) p.1 p.2.1 p.2.2.1 p.2.2.2
def sig : Sig := ⟨8, [.w true [I, I, I, .row I], .w false [I]], [(true, [.val I, .val I, .val I, .own I])]⟩
def H : Hints := ⟨[], [], [], [], false, 0⟩
def spec : Spec := { sig := sig, fn := fun k (x : Int × Int × Int × List Int × Int) => f k x.1 x.2.1 x.2.2.1 x.2.2.2.1 x.2.2.2.2 }
theorem ok : Holds Go.Proofs.Tryd.prog spec := holds_of_run (G := [impl_copyLog.spec, impl_isWord.spec, impl_isSet.spec, impl_LogOk.spec, bits_TrailingZeros.spec]) (holds_cons impl_copyLog.ok (holds_cons impl_isWord.ok (holds_cons impl_isSet.ok (holds_cons impl_LogOk.ok (holds_cons bits_TrailingZeros.ok holds_nil))))) (by kernel_rfl) H Go.Proofs.Tryd.func8 (by kernel_rfl) (rfl : Go.Proofs.Tryd.f8.body = some _) (by kernel_rfl) (by kernel_rfl) fun k x y h => Eq.trans (by kernel_rfl : _ = spec.fn k x) h
end impl_ClearErrors

namespace laws_eqIntS
def s0 (k : Nat) (rec0 : (List Int × List Int × Int) → Option (Bool)) (x0 : List Int) (x1 : List Int) (x2 : Int) : Option (Bool) := brB (iLt x2 (rLen x0)) (chk (cIdx x2 (rLen x0)) (chk (cIdx x2 (rLen x1)) (brB (iNe (rGet 0 x0 x2) (rGet 0 x1 x2)) (some false) (rec0 (x0, x1, iAdd .i64 x2 1))))) (some true)
def l0 (k n : Nat) (x0 : List Int) (x1 : List Int) (x2 : Int) : Option (Bool) := iter (fun (rec : (List Int × List Int × Int) → Option (Bool)) (x : List Int × List Int × Int) => s0 k rec x.1 x.2.1 x.2.2) n (x0, x1, x2)
def f (k : Nat) (a0 : List Int) (a1 : List Int) : Option (Bool) := brB (iNe (rLen a0) (rLen a1)) (some false) (l0 k k a0 a1 0)
def sig : Sig := ⟨33, [.w false [.row I], .w false [.row I]], [(false, [.val .bool])]⟩
def H : Hints := ⟨[(4, ⟨⟨[(0, .w false 1), (1, .w false 1), (5, .w false 1)], []⟩, [], [.val (.row I), .val (.row I), .val I], []⟩)], [], [(6, [0, 0, 3, 7, 0, 0, 48, 112, 255])], [], false, 0⟩
def spec : Spec := { sig := sig, fn := fun k (x : List Int × List Int) => f k x.1 x.2 }
theorem ok : Holds Go.Proofs.Tryd.prog spec := holds_of_run (G := []) holds_nil (by kernel_rfl) H Go.Proofs.Tryd.func33 (by kernel_rfl) (rfl : Go.Proofs.Tryd.f33.body = some _) (by kernel_rfl) (by kernel_rfl) fun k x y h => Eq.trans (by kernel_rfl : _ = spec.fn k x) h
end laws_eqIntS

namespace laws_eqLog
def f (k : Nat) (a0_0 : Int) (a0_1 : Int) (a0_2 : Int) (a0_3 : List Int) (a1_0 : Int) (a1_1 : Int) (a1_2 : Int) (a1_3 : List Int) : Option (Bool) := brB (iNe a0_0 a1_0) (some false) (brB (iNe a0_1 a1_1) (some false) (brB (iNe a0_2 a1_2) (some false) (bnd (laws_eqIntS.f k a0_3 a1_3) fun y0 => brB (bNot y0) (some false) (some true))))
def sig : Sig := ⟨14, [.w true [I, I, I, .row I], .w true [I, I, I, .row I]], [(false, [.val .bool])]⟩
def H : Hints := ⟨[], [], [], [], false, 0⟩
def spec : Spec := { sig := sig, fn := fun k (x : Int × Int × Int × List Int × Int × Int × Int × List Int) => f k x.1 x.2.1 x.2.2.1 x.2.2.2.1 x.2.2.2.2.1 x.2.2.2.2.2.1 x.2.2.2.2.2.2.1 x.2.2.2.2.2.2.2 }
theorem ok : Holds Go.Proofs.Tryd.prog spec := holds_of_run (G := [laws_eqIntS.spec]) (holds_cons laws_eqIntS.ok holds_nil) (by kernel_rfl) H Go.Proofs.Tryd.func14 (by kernel_rfl) (rfl : Go.Proofs.Tryd.f14.body = some _) (by kernel_rfl) (by kernel_rfl) fun k x y h => Eq.trans (by kernel_rfl : _ = spec.fn k x) h
end laws_eqLog

namespace laws_markIntS
def s0 (k : Nat) (rec0 : (List Int × Int × Int) → Option (Int × List Int)) (x0 : List Int) (x1 : Int) (x2 : Int) : Option (Int × List Int) := brB (iLt x2 (rLen x0)) (chk (cIdx x2 (rLen x0)) (rec0 (rSet x0 x2 x1, iAdd .i64 x1 1, iAdd .i64 x2 1))) (some (x1, x0))
def l0 (k n : Nat) (x0 : List Int) (x1 : Int) (x2 : Int) : Option (Int × List Int) := iter (fun (rec : (List Int × Int × Int) → Option (Int × List Int)) (x : List Int × Int × Int) => s0 k rec x.1 x.2.1 x.2.2) n (x0, x1, x2)
def f (k : Nat) (a0 : List Int) (a1 : Int) : Option (Int × List Int) := l0 k k a0 a1 0
def sig : Sig := ⟨34, [.mut false [.row I], .w false [I]], [(false, [.val I])]⟩
def H : Hints := ⟨[(2, ⟨⟨[(0, .w false 1), (1, .w false 1), (5, .w false 1)], []⟩, [], [.own I, .val I, .val I], [0]⟩)], [], [], [], true, 0⟩
def spec : Spec := { sig := sig, fn := fun k (x : List Int × Int) => f k x.1 x.2 }
theorem ok : Holds Go.Proofs.Tryd.prog spec := holds_of_run (G := []) holds_nil (by kernel_rfl) H Go.Proofs.Tryd.func34 (by kernel_rfl) (rfl : Go.Proofs.Tryd.f34.body = some _) (by kernel_rfl) (by kernel_rfl) fun k x y h => Eq.trans (by kernel_rfl : _ = spec.fn k x) h
end laws_markIntS

namespace laws_markLog
def f (k : Nat) (a0_0 : Int) (a0_1 : Int) (a0_2 : Int) (a0_3 : List Int) (a1 : Int) : Option (Int × List Int) := bnd (laws_markIntS.f k a0_3 a1) fun p => (fun y0 y1 => some (y0, y1)) p.1 p.2
def sig : Sig := ⟨15, [.mut true [I, I, I, .row I], .w false [I]], [(false, [.val I])]⟩
def H : Hints := ⟨[], [], [], [], true, 0⟩
def spec : Spec := { sig := sig, fn := fun k (x : Int × Int × Int × List Int × Int) => f k x.1 x.2.1 x.2.2.1 x.2.2.2.1 x.2.2.2.2 }
theorem ok : Holds Go.Proofs.Tryd.prog spec := holds_of_run (G := [laws_markIntS.spec]) (holds_cons laws_markIntS.ok holds_nil) (by kernel_rfl) H Go.Proofs.Tryd.func15 (by kernel_rfl) (rfl : Go.Proofs.Tryd.f15.body = some _) (by kernel_rfl) (by kernel_rfl) fun k x y h => Eq.trans (by kernel_rfl : _ = spec.fn k x) h
end laws_markLog

namespace laws_heldIntS
def s0 (k : Nat) (rec0 : (List Int × Int × Int) → Option (Int)) (x0 : List Int) (x1 : Int) (x2 : Int) : Option (Int) := brB (iLt x2 (rLen x0)) (chk (cIdx x2 (rLen x0)) (brB (iNe (rGet 0 x0 x2) x1) (some (-1)) (rec0 (x0, iAdd .i64 x1 1, iAdd .i64 x2 1)))) (some x1)
def l0 (k n : Nat) (x0 : List Int) (x1 : Int) (x2 : Int) : Option (Int) := iter (fun (rec : (List Int × Int × Int) → Option (Int)) (x : List Int × Int × Int) => s0 k rec x.1 x.2.1 x.2.2) n (x0, x1, x2)
def f (k : Nat) (a0 : List Int) (a1 : Int) : Option (Int) := l0 k k a0 a1 0
def sig : Sig := ⟨35, [.w false [.row I], .w false [I]], [(false, [.val I])]⟩
def H : Hints := ⟨[(2, ⟨⟨[(0, .w false 1), (1, .w false 1), (5, .w false 1)], []⟩, [], [.val (.row I), .val I, .val I], []⟩)], [], [], [], false, 0⟩
def spec : Spec := { sig := sig, fn := fun k (x : List Int × Int) => f k x.1 x.2 }
theorem ok : Holds Go.Proofs.Tryd.prog spec := holds_of_run (G := []) holds_nil (by kernel_rfl) H Go.Proofs.Tryd.func35 (by kernel_rfl) (rfl : Go.Proofs.Tryd.f35.body = some _) (by kernel_rfl) (by kernel_rfl) fun k x y h => Eq.trans (by kernel_rfl : _ = spec.fn k x) h
end laws_heldIntS

namespace laws_heldLog
def f (k : Nat) (a0_0 : Int) (a0_1 : Int) (a0_2 : Int) (a0_3 : List Int) (a1 : Int) : Option (Int) := bnd (laws_heldIntS.f k a0_3 a1) fun y0 => brB (iLt y0 0) (some (-1)) (some y0)
def sig : Sig := ⟨16, [.w true [I, I, I, .row I], .w false [I]], [(false, [.val I])]⟩
def H : Hints := ⟨[], [], [], [], false, 0⟩
def spec : Spec := { sig := sig, fn := fun k (x : Int × Int × Int × List Int × Int) => f k x.1 x.2.1 x.2.2.1 x.2.2.2.1 x.2.2.2.2 }
theorem ok : Holds Go.Proofs.Tryd.prog spec := holds_of_run (G := [laws_heldIntS.spec]) (holds_cons laws_heldIntS.ok holds_nil) (by kernel_rfl) H Go.Proofs.Tryd.func16 (by kernel_rfl) (rfl : Go.Proofs.Tryd.f16.body = some _) (by kernel_rfl) (by kernel_rfl) fun k x y h => Eq.trans (by kernel_rfl : _ = spec.fn k x) h
end laws_heldLog

namespace laws_FnExactClearErrors
def f (k : Nat) (a0_0 : Int) (a0_1 : Int) (a0_2 : Int) (a0_3 : List Int) (a1 : Int) : Option (Bool) := bnd (laws_szLog.f k a0_0 a0_1 a0_2 a0_3 1048576) fun y0 => brB (iLt y0 0) (some true) (bnd (laws_toLog.f k a0_0 a0_1 a0_2 a0_3) fun p => (fun y1 y2 y3 y4 => bnd (spec_ClearErrors.f k y1 y2 y3 y4 a1) fun p => (fun y5 y6 y7 y8 => bnd (laws_toLog.f k a0_0 a0_1 a0_2 a0_3) fun p => (fun y9 y10 y11 y12 => bnd (impl_ClearErrors.f k y9 y10 y11 y12 a1) fun p => (fun y13 y14 y15 y16 => bnd (laws_eqLog.f k y13 y14 y15 y16 y5 y6 y7 y8) fun y17 => brB (bNot y17) (some false) (bnd (laws_toLog.f k a0_0 a0_1 a0_2 a0_3) fun p => (fun y18 y19 y20 y21 => bnd (laws_eqLog.f k y9 y10 y11 y12 y18 y19 y20 y21) fun y22 => brB (bNot y22) (some false) (bnd (laws_markLog.f k y9 y10 y11 y12 1) fun p => (fun y23 y24 => brB (iLt y23 0) (some false) (bnd (laws_eqLog.f k y13 y14 y15 y16 y5 y6 y7 y8) fun y25 => brB (bNot y25) (some false) (bnd (laws_markLog.f k y13 y14 y15 y16 1) fun p => (fun y26 y27 => bnd (laws_heldLog.f k y13 y14 y15 y27 1) fun y28 => brB (iLt y28 0) (some false) (brB (iNe y28 y26) (some false) (bnd (laws_toLog.f k a0_0 a0_1 a0_2 a0_3) fun p => (fun y29 y30 y31 y32 => bnd (impl_ClearErrors.f k y29 y30 y31 y32 a1) fun p => (fun y33 y34 y35 y36 => bnd (laws_eqLog.f k y33 y34 y35 y36 y5 y6 y7 y8) fun y37 => brB (bNot y37) (some false) (bnd (laws_heldLog.f k y13 y14 y15 y27 1) fun y38 => brB (iLt y38 0) (some false) (brB (iNe y38 y26) (some false) (some true)))) p.1 p.2.1 p.2.2.1 p.2.2.2) p.1 p.2.1 p.2.2.1 p.2.2.2))) p.1 p.2))) p.1 p.2)) p.1 p.2.1 p.2.2.1 p.2.2.2)) p.1 p.2.1 p.2.2.1 p.2.2.2) p.1 p.2.1 p.2.2.1 p.2.2.2) p.1 p.2.1 p.2.2.1 p.2.2.2) p.1 p.2.1 p.2.2.1 p.2.2.2)
def sig : Sig := ⟨4, [.w true [I, I, I, .row I], .w false [I]], [(false, [.val .bool])]⟩
def H : Hints := ⟨[], [], [(10, [0, 0, 2, 7, 15])], [], true, 0⟩
def spec : Spec := { sig := sig, fn := fun k (x : Int × Int × Int × List Int × Int) => f k x.1 x.2.1 x.2.2.1 x.2.2.2.1 x.2.2.2.2 }
theorem ok : Holds Go.Proofs.Tryd.prog spec := holds_of_run (G := [laws_szLog.spec, laws_toLog.spec, spec_ClearErrors.spec, impl_ClearErrors.spec, laws_eqLog.spec, laws_markLog.spec, laws_heldLog.spec]) (holds_cons laws_szLog.ok (holds_cons laws_toLog.ok (holds_cons spec_ClearErrors.ok (holds_cons impl_ClearErrors.ok (holds_cons laws_eqLog.ok (holds_cons laws_markLog.ok (holds_cons laws_heldLog.ok holds_nil))))))) (by kernel_rfl) H Go.Proofs.Tryd.func4 (by kernel_rfl) (rfl : Go.Proofs.Tryd.f4.body = some _) (by kernel_rfl) (by kernel_rfl) fun k x y h => Eq.trans (by kernel_rfl : _ = spec.fn k x) h
end laws_FnExactClearErrors

end
end Go.Proofs.YtbfkiggcemlmgaaDoorT
