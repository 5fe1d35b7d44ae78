/- The functions of the program, as they compute: printed by a program of the session (wip/gen), each with its contract. -/
import Derived.Test.YtknaadbgljjpiaaProg
import Derived.Test.YtknaadbgljjpiaaTiAI
set_option linter.unusedVariables false
set_option maxRecDepth 100000
namespace Go.Proofs.YtknaadbgljjpiaaT
open Go
abbrev I : Ty := .int .i64
namespace laws_szNodeS
def f (k : Nat) (a0 : List (Int × Int × Int)) (a1 : Int) : Option (Int) := brB (iLt (iSub .i64 a1 (rLen a0)) 0) (some (-1)) (some (iSub .i64 a1 (rLen a0)))
def sig : Sig := ⟨11, [.w false [.row (.pair I (.pair I I))], .w false [I]], [(false, [.val I])]⟩
def H : Hints := ⟨[], [], [], []⟩
def spec : Spec := ⟨sig, fun k (x : List (Int × Int × Int) × Int) => f k x.1 x.2⟩
theorem ok : Holds Go.Proofs.Try.prog spec := holds_of_run (G := []) holds_nil (by kernel_rfl) H Go.Proofs.Try.func11 (by kernel_rfl) (rfl : Go.Proofs.Try.f11.body = some _) (by kernel_rfl) (by kernel_rfl) fun k x y h => Eq.trans (by kernel_rfl : _ = spec.fn k x) h
end laws_szNodeS

namespace laws_szBoolS
def f (k : Nat) (a0 : List Bool) (a1 : Int) : Option (Int) := brB (iLt (iSub .i64 a1 (rLen a0)) 0) (some (-1)) (some (iSub .i64 a1 (rLen a0)))
def sig : Sig := ⟨48, [.w false [.row .bool], .w false [I]], [(false, [.val I])]⟩
def H : Hints := ⟨[], [], [], []⟩
def spec : Spec := ⟨sig, fun k (x : List Bool × Int) => f k x.1 x.2⟩
theorem ok : Holds Go.Proofs.Try.prog spec := holds_of_run (G := []) holds_nil (by kernel_rfl) H Go.Proofs.Try.func48 (by kernel_rfl) (rfl : Go.Proofs.Try.f48.body = some _) (by kernel_rfl) (by kernel_rfl) fun k x y h => Eq.trans (by kernel_rfl : _ = spec.fn k x) h
end laws_szBoolS

namespace laws_szGuard
def f (k : Nat) (a0 : List Bool) (a1 : Int) : Option (Int) := bnd (laws_szBoolS.f k a0 a1) fun y0 => brB (iLt y0 0) (some (-1)) (some y0)
def sig : Sig := ⟨12, [.w true [.row .bool], .w false [I]], [(false, [.val I])]⟩
def H : Hints := ⟨[], [], [], []⟩
def spec : Spec := ⟨sig, fun k (x : List Bool × Int) => f k x.1 x.2⟩
theorem ok : Holds Go.Proofs.Try.prog spec := holds_of_run (G := [laws_szBoolS.spec]) (holds_cons laws_szBoolS.ok holds_nil) (by kernel_rfl) H Go.Proofs.Try.func12 (by kernel_rfl) (rfl : Go.Proofs.Try.f12.body = some _) (by kernel_rfl) (by kernel_rfl) fun k x y h => Eq.trans (by kernel_rfl : _ = spec.fn k x) h
end laws_szGuard

namespace laws_toNode
def f (k : Nat) (a0_0 : Int) (a0_1 : Int) (a0_2 : Int) : Option (Int × Int × Int) := some (a0_0, a0_1, a0_2)
def sig : Sig := ⟨50, [.w true [I, I, I]], [(true, [.val I, .val I, .val I])]⟩
def H : Hints := ⟨[], [], [], []⟩
def spec : Spec := ⟨sig, fun k (x : Int × Int × Int) => f k x.1 x.2.1 x.2.2⟩
theorem ok : Holds Go.Proofs.Try.prog spec := holds_of_run (G := []) holds_nil (by kernel_rfl) H Go.Proofs.Try.func50 (by kernel_rfl) (rfl : Go.Proofs.Try.f50.body = some _) (by kernel_rfl) (by kernel_rfl) fun k x y h => Eq.trans (by kernel_rfl : _ = spec.fn k x) h
end laws_toNode

namespace laws_toNodeS
def s0 (k : Nat) (rec0 : ((List (Int × Int × Int)) × (List (Int × Int × Int)) × Int) → Option (List (Int × Int × Int))) (x0 : List (Int × Int × Int)) (x1 : List (Int × Int × Int)) (x2 : Int) : Option (List (Int × Int × Int)) := brB (iLt x2 (rLen x0)) (chk (cIdx x2 (rLen x0)) (bnd (laws_toNode.f k ((rGet (0, 0, 0) x0 x2).1) (((rGet (0, 0, 0) x0 x2).2).1) (((rGet (0, 0, 0) x0 x2).2).2)) fun (y0, y1, y2) => chk (cIdx x2 (rLen x1)) (rec0 (x0, rSet x1 x2 (y0, y1, y2), iAdd .i64 x2 1)))) (some x1)
def l0 (k n : Nat) (x0 : List (Int × Int × Int)) (x1 : List (Int × Int × Int)) (x2 : Int) : Option (List (Int × Int × Int)) := iter (fun (rec : ((List (Int × Int × Int)) × (List (Int × Int × Int)) × Int) → Option (List (Int × Int × Int))) (x : (List (Int × Int × Int)) × (List (Int × Int × Int)) × Int) => s0 k rec x.1 x.2.1 x.2.2) n (x0, x1, x2)
def f (k : Nat) (a0 : List (Int × Int × Int)) : Option (List (Int × Int × Int)) := chk (cMake (rLen a0) (rLen a0) 24) (l0 k k a0 (rRep (0, 0, 0) (rLen a0)) 0)
def sig : Sig := ⟨14, [.w false [.row (.pair I (.pair I I))]], [(false, [.own (.pair I (.pair I I))])]⟩
def H : Hints := ⟨[(3, ⟨⟨[(0, .w false 1), (3, .w false 1), (4, .w false 1)], []⟩, [], [.val (.row (.pair I (.pair I I))), .own (.pair I (.pair I I)), .val I], []⟩)], [], [], []⟩
def spec : Spec := ⟨sig, fun k (x : List (Int × Int × Int)) => f k x⟩
theorem ok : Holds Go.Proofs.Try.prog spec := holds_of_run (G := [laws_toNode.spec]) (holds_cons laws_toNode.ok holds_nil) (by kernel_rfl) H Go.Proofs.Try.func14 (by kernel_rfl) (rfl : Go.Proofs.Try.f14.body = some _) (by kernel_rfl) (by kernel_rfl) fun k x y h => Eq.trans (by kernel_rfl : _ = spec.fn k x) h
end laws_toNodeS

namespace laws_toBoolS
def s0 (k : Nat) (rec0 : (List Bool × List Bool × Int) → Option (List Bool)) (x0 : List Bool) (x1 : List Bool) (x2 : Int) : Option (List Bool) := brB (iLt x2 (rLen x0)) (chk (cIdx x2 (rLen x0)) (chk (cIdx x2 (rLen x1)) (rec0 (x0, rSet x1 x2 (rGet false x0 x2), iAdd .i64 x2 1)))) (some x1)
def l0 (k n : Nat) (x0 : List Bool) (x1 : List Bool) (x2 : Int) : Option (List Bool) := iter (fun (rec : (List Bool × List Bool × Int) → Option (List Bool)) (x : List Bool × List Bool × Int) => s0 k rec x.1 x.2.1 x.2.2) n (x0, x1, x2)
def f (k : Nat) (a0 : List Bool) : Option (List Bool) := chk (cMake (rLen a0) (rLen a0) 1) (l0 k k a0 (rRep false (rLen a0)) 0)
def sig : Sig := ⟨51, [.w false [.row .bool]], [(false, [.own .bool])]⟩
def H : Hints := ⟨[(3, ⟨⟨[(0, .w false 1), (3, .w false 1), (4, .w false 1)], []⟩, [], [.val (.row .bool), .own .bool, .val I], []⟩)], [], [], []⟩
def spec : Spec := ⟨sig, fun k (x : List Bool) => f k x⟩
theorem ok : Holds Go.Proofs.Try.prog spec := holds_of_run (G := []) holds_nil (by kernel_rfl) H Go.Proofs.Try.func51 (by kernel_rfl) (rfl : Go.Proofs.Try.f51.body = some _) (by kernel_rfl) (by kernel_rfl) fun k x y h => Eq.trans (by kernel_rfl : _ = spec.fn k x) h
end laws_toBoolS

namespace laws_toGuard
def f (k : Nat) (a0 : List Bool) : Option (List Bool) := bnd (laws_toBoolS.f k a0) fun y0 => some y0
def sig : Sig := ⟨15, [.w true [.row .bool]], [(true, [.own .bool])]⟩
def H : Hints := ⟨[], [], [], []⟩
def spec : Spec := ⟨sig, fun k (x : List Bool) => f k x⟩
theorem ok : Holds Go.Proofs.Try.prog spec := holds_of_run (G := [laws_toBoolS.spec]) (holds_cons laws_toBoolS.ok holds_nil) (by kernel_rfl) H Go.Proofs.Try.func15 (by kernel_rfl) (rfl : Go.Proofs.Try.f15.body = some _) (by kernel_rfl) (by kernel_rfl) fun k x y h => Eq.trans (by kernel_rfl : _ = spec.fn k x) h
end laws_toGuard

namespace spec_l01In
def f (k : Nat) (a0 : Int) (a1 : Int) (a2 : Int) : Option (Bool) := brB (iLe a1 a0) (some (iLe a0 a2)) (some false)
def sig : Sig := ⟨77, [.w false [I], .w false [I], .w false [I]], [(false, [.val .bool])]⟩
def H : Hints := ⟨[], [], [], []⟩
def spec : Spec := ⟨sig, fun k (x : Int × Int × Int) => f k x.1 x.2.1 x.2.2⟩
theorem ok : Holds Go.Proofs.Try.prog spec := holds_of_run (G := []) holds_nil (by kernel_rfl) H Go.Proofs.Try.func77 (by kernel_rfl) (rfl : Go.Proofs.Try.f77.body = some _) (by kernel_rfl) (by kernel_rfl) fun k x y h => Eq.trans (by kernel_rfl : _ = spec.fn k x) h
end spec_l01In

namespace spec_TreeOk
def s1 (k : Nat) (rec0 : ((List (Int × Int × Int)) × Int) → Option (Bool)) (rec1 : ((List (Int × Int × Int)) × Int × Int × Int × Int × Int) → Option (Bool)) (x2 : List (Int × Int × Int)) (x3 : Int) (x4 : Int) (x5 : Int) (x6 : Int) (x7 : Int) : Option (Bool) := brB (iLt x4 x3) (chk (cIdx x4 (rLen x2)) (brB (iEq ((rGet (0, 0, 0) x2 x4).1) x5) (chk (cIdx x4 (rLen x2)) (brB (iEq (((rGet (0, 0, 0) x2 x4).2).1) x6) (some false) (rec1 (x2, x3, iAdd .i64 x4 1, x5, x6, x7)))) (rec1 (x2, x3, iAdd .i64 x4 1, x5, x6, x7)))) (rec0 (x2, iAdd .i64 x3 1))
def l1 (k n : Nat) (rec0 : ((List (Int × Int × Int)) × Int) → Option (Bool)) (x2 : List (Int × Int × Int)) (x3 : Int) (x4 : Int) (x5 : Int) (x6 : Int) (x7 : Int) : Option (Bool) := iter (fun (rec : ((List (Int × Int × Int)) × Int × Int × Int × Int × Int) → Option (Bool)) (x : (List (Int × Int × Int)) × Int × Int × Int × Int × Int) => s1 k rec0 rec x.1 x.2.1 x.2.2.1 x.2.2.2.1 x.2.2.2.2.1 x.2.2.2.2.2) n (x2, x3, x4, x5, x6, x7)
def s0 (k : Nat) (rec0 : ((List (Int × Int × Int)) × Int) → Option (Bool)) (x0 : List (Int × Int × Int)) (x1 : Int) : Option (Bool) := brB (iLt x1 (rLen x0)) (chk (cIdx x1 (rLen x0)) (bnd (spec_l01In.f k ((rGet (0, 0, 0) x0 x1).1) 0 (iSub .i64 x1 1)) fun y1 => brB (bNot y1) (some false) (chk (cIdx ((rGet (0, 0, 0) x0 x1).1) (rLen x0)) (brB (iNe (((rGet (0, 0, 0) x0 ((rGet (0, 0, 0) x0 x1).1)).2).2) 0) (some false) (bnd (spec_l01In.f k (((rGet (0, 0, 0) x0 x1).2).1) 0 3) fun y2 => brB (bNot y2) (some false) (bnd (spec_l01In.f k (((rGet (0, 0, 0) x0 x1).2).2) 0 4) fun y3 => brB (bNot y3) (some false) (l1 k k rec0 x0 x1 1 ((rGet (0, 0, 0) x0 x1).1) (((rGet (0, 0, 0) x0 x1).2).1) (((rGet (0, 0, 0) x0 x1).2).2)))))))) (some true)
def l0 (k n : Nat) (x0 : List (Int × Int × Int)) (x1 : Int) : Option (Bool) := iter (fun (rec : ((List (Int × Int × Int)) × Int) → Option (Bool)) (x : (List (Int × Int × Int)) × Int) => s0 k rec x.1 x.2) n (x0, x1)
def f (k : Nat) (a0 : List (Int × Int × Int)) : Option (Bool) := bnd (spec_l01In.f k (rLen a0) 1 12) fun y0 => brB (bNot y0) (some false) (chk (cIdx 0 (rLen a0)) (brB (bNot (bAnd (iEq ((rGet (0, 0, 0) a0 0).1) (-1)) (bAnd (iEq (((rGet (0, 0, 0) a0 0).2).1) 0) (bAnd (iEq (((rGet (0, 0, 0) a0 0).2).2) 0) true)))) (some false) (l0 k k a0 1)))
def sig : Sig := ⟨49, [.w false [.row (.pair I (.pair I I))]], [(false, [.val .bool])]⟩
def H : Hints := ⟨[(4, ⟨⟨[(0, .w false 1), (3, .w false 1)], []⟩, [], [.val (.row (.pair I (.pair I I))), .val I], []⟩), (10, ⟨⟨[(0, .w false 1), (3, .w false 1), (4, .ptr 104 0), (5, .w false 1)], [(104, 3)]⟩, [4], [.val (.row (.pair I (.pair I I))), .val I, .val I, .val I, .val I, .val I], []⟩)], [], [(12, [0, 0, 3, 7, 15, 0, 32, 127, 255, 511, 511, 2047, 4095, 8191, 511, 16895, 65535, 131071])], []⟩
def spec : Spec := ⟨sig, fun k (x : List (Int × Int × Int)) => f k x⟩
theorem ok : Holds Go.Proofs.Try.prog spec := holds_of_run (G := [spec_l01In.spec]) (holds_cons spec_l01In.ok holds_nil) (by kernel_rfl) H Go.Proofs.Try.func49 (by kernel_rfl) (rfl : Go.Proofs.Try.f49.body = some _) (by kernel_rfl) (by kernel_rfl) fun k x y h => Eq.trans (by kernel_rfl : _ = spec.fn k x) h
end spec_TreeOk

namespace spec_GuardOk
def f (k : Nat) (a0 : List (Int × Int × Int)) (a1 : List Bool) : Option (Bool) := bnd (spec_TreeOk.f k a0) fun y0 => brB y0 (brB (iEq (rLen a1) (rLen a0)) (chk (cIdx 0 (rLen a1)) (some (rGet false a1 0))) (some false)) (some false)
def sig : Sig := ⟨13, [.w false [.row (.pair I (.pair I I))], .w true [.row .bool]], [(false, [.val .bool])]⟩
def H : Hints := ⟨[], [], [], []⟩
def spec : Spec := ⟨sig, fun k (x : List (Int × Int × Int) × List Bool) => f k x.1 x.2⟩
theorem ok : Holds Go.Proofs.Try.prog spec := holds_of_run (G := [spec_TreeOk.spec]) (holds_cons spec_TreeOk.ok holds_nil) (by kernel_rfl) H Go.Proofs.Try.func13 (by kernel_rfl) (rfl : Go.Proofs.Try.f13.body = some _) (by kernel_rfl) (by kernel_rfl) fun k x y h => Eq.trans (by kernel_rfl : _ = spec.fn k x) h
end spec_GuardOk

namespace impl_within
def f (k : Nat) (a0 : Int) (a1 : Int) (a2 : Int) : Option (Bool) := brB (iLe a1 a0) (some (iLe a0 a2)) (some false)
def sig : Sig := ⟨71, [.w false [I], .w false [I], .w false [I]], [(false, [.val .bool])]⟩
def H : Hints := ⟨[], [], [], []⟩
def spec : Spec := ⟨sig, fun k (x : Int × Int × Int) => f k x.1 x.2.1 x.2.2⟩
theorem ok : Holds Go.Proofs.Try.prog spec := holds_of_run (G := []) holds_nil (by kernel_rfl) H Go.Proofs.Try.func71 (by kernel_rfl) (rfl : Go.Proofs.Try.f71.body = some _) (by kernel_rfl) (by kernel_rfl) fun k x y h => Eq.trans (by kernel_rfl : _ = spec.fn k x) h
end impl_within

namespace impl_TreeOk_1
def f (k : Nat) (a0_0 : Int) (a0_1 : Int) (a0_2 : Int) (a1_0 : Int) (a1_1 : Int) (a1_2 : Int) : Option (Bool × Int × Int × Int) := brB (iEq a0_0 a1_0) (some (iEq a0_1 a1_1, a1_0, a1_1, a1_2)) (some (false, a1_0, a1_1, a1_2))
def sig : Sig := ⟨81, [.w true [I, I, I], .ref [I, I, I]], [(false, [.val .bool])]⟩
def H : Hints := ⟨[], [], [], []⟩
def spec : Spec := ⟨sig, fun k (x : Int × Int × Int × Int × Int × Int) => f k x.1 x.2.1 x.2.2.1 x.2.2.2.1 x.2.2.2.2.1 x.2.2.2.2.2⟩
theorem ok : Holds Go.Proofs.Try.prog spec := holds_of_run (G := []) holds_nil (by kernel_rfl) H Go.Proofs.Try.func81 (by kernel_rfl) (rfl : Go.Proofs.Try.f81.body = some _) (by kernel_rfl) (by kernel_rfl) fun k x y h => Eq.trans (by kernel_rfl : _ = spec.fn k x) h
end impl_TreeOk_1

namespace slices_IndexFunc_Node_impl_TreeOk_1
def s0 (k : Nat) (rec0 : ((List (Int × Int × Int)) × Int × Int × Int × Int × Int) → Option (Int × Int × Int × Int)) (x0 : List (Int × Int × Int)) (x1 : Int) (x2 : Int) (x3 : Int) (x4 : Int) (x5 : Int) : Option (Int × Int × Int × Int) := brB (iLt x2 x1) (chk (cIdx x2 (rLen x0)) (bnd (impl_TreeOk_1.f k ((rGet (0, 0, 0) x0 x2).1) (((rGet (0, 0, 0) x0 x2).2).1) (((rGet (0, 0, 0) x0 x2).2).2) x3 x4 x5) fun (y0, y1, y2, y3) => brB y0 (some (x2, y1, y2, y3)) (rec0 (x0, x1, iAdd .i64 x2 1, y1, y2, y3)))) (some ((-1), x3, x4, x5))
def l0 (k n : Nat) (x0 : List (Int × Int × Int)) (x1 : Int) (x2 : Int) (x3 : Int) (x4 : Int) (x5 : Int) : Option (Int × Int × Int × Int) := iter (fun (rec : ((List (Int × Int × Int)) × Int × Int × Int × Int × Int) → Option (Int × Int × Int × Int)) (x : (List (Int × Int × Int)) × Int × Int × Int × Int × Int) => s0 k rec x.1 x.2.1 x.2.2.1 x.2.2.2.1 x.2.2.2.2.1 x.2.2.2.2.2) n (x0, x1, x2, x3, x4, x5)
def f (k : Nat) (a0 : List (Int × Int × Int)) (a1_0 : Int) (a1_1 : Int) (a1_2 : Int) : Option (Int × Int × Int × Int) := l0 k k a0 (rLen a0) 0 a1_0 a1_1 a1_2
def sig : Sig := ⟨97, [.w false [.row (.pair I (.pair I I))], .fnr 81 [I, I, I]], [(false, [.val I])]⟩
def H : Hints := ⟨[(2, ⟨⟨[(0, .w false 1), (1, .fnp 81 1 0), (7, .w false 1), (8, .w false 1)], [(1, 3)]⟩, [1], [.val (.row (.pair I (.pair I I))), .val I, .val I, .val I, .val I, .val I], []⟩)], [], [], []⟩
def spec : Spec := ⟨sig, fun k (x : List (Int × Int × Int) × Int × Int × Int) => f k x.1 x.2.1 x.2.2.1 x.2.2.2⟩
theorem ok : Holds Go.Proofs.Try.prog spec := holds_of_run (G := [impl_TreeOk_1.spec]) (holds_cons impl_TreeOk_1.ok holds_nil) (by kernel_rfl) H Go.Proofs.Try.func97 (by kernel_rfl) (rfl : Go.Proofs.Try.f97.body = some _) (by kernel_rfl) (by kernel_rfl) fun k x y h => Eq.trans (by kernel_rfl : _ = spec.fn k x) h
end slices_IndexFunc_Node_impl_TreeOk_1

namespace slices_ContainsFunc_Node_impl_TreeOk_1
def f (k : Nat) (a0 : List (Int × Int × Int)) (a1_0 : Int) (a1_1 : Int) (a1_2 : Int) : Option (Bool × Int × Int × Int) := bnd (slices_IndexFunc_Node_impl_TreeOk_1.f k a0 a1_0 a1_1 a1_2) fun (y0, y1, y2, y3) => some (iLe 0 y0, y1, y2, y3)
def sig : Sig := ⟨80, [.w false [.row (.pair I (.pair I I))], .fnr 81 [I, I, I]], [(false, [.val .bool])]⟩
def H : Hints := ⟨[], [], [], []⟩
def spec : Spec := ⟨sig, fun k (x : List (Int × Int × Int) × Int × Int × Int) => f k x.1 x.2.1 x.2.2.1 x.2.2.2⟩
theorem ok : Holds Go.Proofs.Try.prog spec := holds_of_run (G := [slices_IndexFunc_Node_impl_TreeOk_1.spec]) (holds_cons slices_IndexFunc_Node_impl_TreeOk_1.ok holds_nil) (by kernel_rfl) H Go.Proofs.Try.func80 (by kernel_rfl) (rfl : Go.Proofs.Try.f80.body = some _) (by kernel_rfl) (by kernel_rfl) fun k x y h => Eq.trans (by kernel_rfl : _ = spec.fn k x) h
end slices_ContainsFunc_Node_impl_TreeOk_1

namespace impl_TreeOk
def s0 (k : Nat) (rec0 : ((List (Int × Int × Int)) × (List (Int × Int × Int)) × Int × Int) → Option (Bool)) (x0 : List (Int × Int × Int)) (x1 : List (Int × Int × Int)) (x2 : Int) (x3 : Int) : Option (Bool) := brB (iLt x3 x2) (chk (cIdx x3 (rLen x1)) (chk (cSub 0 (iAdd .i64 x3 1) (rLen x0)) (bnd (impl_within.f k ((rGet (0, 0, 0) x1 x3).1) 0 x3) fun y1 => brB (bNot y1) (some false) (chk (cIdx ((rGet (0, 0, 0) x1 x3).1) (rLen (rSub x0 0 (iAdd .i64 x3 1)))) (brB (iNe (((rGet (0, 0, 0) (rSub x0 0 (iAdd .i64 x3 1)) ((rGet (0, 0, 0) x1 x3).1)).2).2) 0) (some false) (bnd (impl_within.f k (((rGet (0, 0, 0) x1 x3).2).1) 0 3) fun y2 => brB (bNot y2) (some false) (bnd (impl_within.f k (((rGet (0, 0, 0) x1 x3).2).2) 0 4) fun y3 => brB (bNot y3) (some false) (bnd (slices_ContainsFunc_Node_impl_TreeOk_1.f k (rSub x0 0 (iAdd .i64 x3 1)) ((rGet (0, 0, 0) x1 x3).1) (((rGet (0, 0, 0) x1 x3).2).1) (((rGet (0, 0, 0) x1 x3).2).2)) fun (y4, y5, y6, y7) => brB y4 (some false) (rec0 (x0, x1, x2, iAdd .i64 x3 1)))))))))) (some true)
def l0 (k n : Nat) (x0 : List (Int × Int × Int)) (x1 : List (Int × Int × Int)) (x2 : Int) (x3 : Int) : Option (Bool) := iter (fun (rec : ((List (Int × Int × Int)) × (List (Int × Int × Int)) × Int × Int) → Option (Bool)) (x : (List (Int × Int × Int)) × (List (Int × Int × Int)) × Int × Int) => s0 k rec x.1 x.2.1 x.2.2.1 x.2.2.2) n (x0, x1, x2, x3)
def f (k : Nat) (a0 : List (Int × Int × Int)) : Option (Bool) := bnd (impl_within.f k (rLen a0) 1 12) fun y0 => brB (bNot y0) (some false) (chk (cIdx 0 (rLen a0)) (brB (bNot (bAnd (iEq ((rGet (0, 0, 0) a0 0).1) (-1)) (bAnd (iEq (((rGet (0, 0, 0) a0 0).2).1) 0) (bAnd (iEq (((rGet (0, 0, 0) a0 0).2).2) 0) true)))) (some false) (chk (cSub 1 (rLen a0) (rLen a0)) (l0 k k a0 (rSub a0 1 (rLen a0)) (rLen (rSub a0 1 (rLen a0))) 0))))
def sig : Sig := ⟨52, [.w false [.row (.pair I (.pair I I))]], [(false, [.val .bool])]⟩
def H : Hints := ⟨[(4, ⟨⟨[(0, .w false 1), (18, .w false 1), (19, .w false 1), (20, .w false 1)], []⟩, [], [.val (.row (.pair I (.pair I I))), .val (.row (.pair I (.pair I I))), .val I, .val I], []⟩)], [], [], []⟩
def spec : Spec := ⟨sig, fun k (x : List (Int × Int × Int)) => f k x⟩
theorem ok : Holds Go.Proofs.Try.prog spec := holds_of_run (G := [impl_within.spec, slices_ContainsFunc_Node_impl_TreeOk_1.spec]) (holds_cons impl_within.ok (holds_cons slices_ContainsFunc_Node_impl_TreeOk_1.ok holds_nil)) (by kernel_rfl) H Go.Proofs.Try.func52 (by kernel_rfl) (rfl : Go.Proofs.Try.f52.body = some _) (by kernel_rfl) (by kernel_rfl) fun k x y h => Eq.trans (by kernel_rfl : _ = spec.fn k x) h
end impl_TreeOk

namespace impl_GuardOk
def f (k : Nat) (a0 : List (Int × Int × Int)) (a1 : List Bool) : Option (Bool) := bnd (impl_TreeOk.f k a0) fun y0 => brB y0 (brB (iEq (rLen a1) (rLen a0)) (chk (cIdx 0 (rLen a1)) (some (rGet false a1 0))) (some false)) (some false)
def sig : Sig := ⟨16, [.w false [.row (.pair I (.pair I I))], .w true [.row .bool]], [(false, [.val .bool])]⟩
def H : Hints := ⟨[], [], [], []⟩
def spec : Spec := ⟨sig, fun k (x : List (Int × Int × Int) × List Bool) => f k x.1 x.2⟩
theorem ok : Holds Go.Proofs.Try.prog spec := holds_of_run (G := [impl_TreeOk.spec]) (holds_cons impl_TreeOk.ok holds_nil) (by kernel_rfl) H Go.Proofs.Try.func16 (by kernel_rfl) (rfl : Go.Proofs.Try.f16.body = some _) (by kernel_rfl) (by kernel_rfl) fun k x y h => Eq.trans (by kernel_rfl : _ = spec.fn k x) h
end impl_GuardOk

namespace laws_eqNode
def f (k : Nat) (a0_0 : Int) (a0_1 : Int) (a0_2 : Int) (a1_0 : Int) (a1_1 : Int) (a1_2 : Int) : Option (Bool) := brB (iNe a0_0 a1_0) (some false) (brB (iNe a0_1 a1_1) (some false) (brB (iNe a0_2 a1_2) (some false) (some true)))
def sig : Sig := ⟨53, [.w true [I, I, I], .w true [I, I, I]], [(false, [.val .bool])]⟩
def H : Hints := ⟨[], [], [], []⟩
def spec : Spec := ⟨sig, fun k (x : Int × Int × Int × Int × Int × Int) => f k x.1 x.2.1 x.2.2.1 x.2.2.2.1 x.2.2.2.2.1 x.2.2.2.2.2⟩
theorem ok : Holds Go.Proofs.Try.prog spec := holds_of_run (G := []) holds_nil (by kernel_rfl) H Go.Proofs.Try.func53 (by kernel_rfl) (rfl : Go.Proofs.Try.f53.body = some _) (by kernel_rfl) (by kernel_rfl) fun k x y h => Eq.trans (by kernel_rfl : _ = spec.fn k x) h
end laws_eqNode

namespace laws_eqNodeS
def s0 (k : Nat) (rec0 : ((List (Int × Int × Int)) × (List (Int × Int × Int)) × Int) → Option (Bool)) (x0 : List (Int × Int × Int)) (x1 : List (Int × Int × Int)) (x2 : Int) : Option (Bool) := brB (iLt x2 (rLen x0)) (chk (cIdx x2 (rLen x0)) (chk (cIdx x2 (rLen x1)) (bnd (laws_eqNode.f k ((rGet (0, 0, 0) x0 x2).1) (((rGet (0, 0, 0) x0 x2).2).1) (((rGet (0, 0, 0) x0 x2).2).2) ((rGet (0, 0, 0) x1 x2).1) (((rGet (0, 0, 0) x1 x2).2).1) (((rGet (0, 0, 0) x1 x2).2).2)) fun y0 => brB (bNot y0) (some false) (rec0 (x0, x1, iAdd .i64 x2 1))))) (some true)
def l0 (k n : Nat) (x0 : List (Int × Int × Int)) (x1 : List (Int × Int × Int)) (x2 : Int) : Option (Bool) := iter (fun (rec : ((List (Int × Int × Int)) × (List (Int × Int × Int)) × Int) → Option (Bool)) (x : (List (Int × Int × Int)) × (List (Int × Int × Int)) × Int) => s0 k rec x.1 x.2.1 x.2.2) n (x0, x1, x2)
def f (k : Nat) (a0 : List (Int × Int × Int)) (a1 : List (Int × Int × Int)) : Option (Bool) := brB (iNe (rLen a0) (rLen a1)) (some false) (l0 k k a0 a1 0)
def sig : Sig := ⟨17, [.w false [.row (.pair I (.pair I I))], .w false [.row (.pair I (.pair I I))]], [(false, [.val .bool])]⟩
def H : Hints := ⟨[(4, ⟨⟨[(0, .w false 1), (1, .w false 1), (5, .w false 1)], []⟩, [], [.val (.row (.pair I (.pair I I))), .val (.row (.pair I (.pair I I))), .val I], []⟩)], [], [(6, [0, 0, 3, 7, 0, 0, 48, 112, 255, 511])], []⟩
def spec : Spec := ⟨sig, fun k (x : List (Int × Int × Int) × List (Int × Int × Int)) => f k x.1 x.2⟩
theorem ok : Holds Go.Proofs.Try.prog spec := holds_of_run (G := [laws_eqNode.spec]) (holds_cons laws_eqNode.ok holds_nil) (by kernel_rfl) H Go.Proofs.Try.func17 (by kernel_rfl) (rfl : Go.Proofs.Try.f17.body = some _) (by kernel_rfl) (by kernel_rfl) fun k x y h => Eq.trans (by kernel_rfl : _ = spec.fn k x) h
end laws_eqNodeS

namespace laws_eqBoolS
def s0 (k : Nat) (rec0 : (List Bool × List Bool × Int) → Option (Bool)) (x0 : List Bool) (x1 : List Bool) (x2 : Int) : Option (Bool) := brB (iLt x2 (rLen x0)) (chk (cIdx x2 (rLen x0)) (chk (cIdx x2 (rLen x1)) (brB (bNe (rGet false x0 x2) (rGet false x1 x2)) (some false) (rec0 (x0, x1, iAdd .i64 x2 1))))) (some true)
def l0 (k n : Nat) (x0 : List Bool) (x1 : List Bool) (x2 : Int) : Option (Bool) := iter (fun (rec : (List Bool × List Bool × Int) → Option (Bool)) (x : List Bool × List Bool × Int) => s0 k rec x.1 x.2.1 x.2.2) n (x0, x1, x2)
def f (k : Nat) (a0 : List Bool) (a1 : List Bool) : Option (Bool) := brB (iNe (rLen a0) (rLen a1)) (some false) (l0 k k a0 a1 0)
def sig : Sig := ⟨54, [.w false [.row .bool], .w false [.row .bool]], [(false, [.val .bool])]⟩
def H : Hints := ⟨[(4, ⟨⟨[(0, .w false 1), (1, .w false 1), (5, .w false 1)], []⟩, [], [.val (.row .bool), .val (.row .bool), .val I], []⟩)], [], [(6, [0, 0, 3, 7, 0, 0, 48, 112, 255])], []⟩
def spec : Spec := ⟨sig, fun k (x : List Bool × List Bool) => f k x.1 x.2⟩
theorem ok : Holds Go.Proofs.Try.prog spec := holds_of_run (G := []) holds_nil (by kernel_rfl) H Go.Proofs.Try.func54 (by kernel_rfl) (rfl : Go.Proofs.Try.f54.body = some _) (by kernel_rfl) (by kernel_rfl) fun k x y h => Eq.trans (by kernel_rfl : _ = spec.fn k x) h
end laws_eqBoolS

namespace laws_eqGuard
def f (k : Nat) (a0 : List Bool) (a1 : List Bool) : Option (Bool) := bnd (laws_eqBoolS.f k a0 a1) fun y0 => brB (bNot y0) (some false) (some true)
def sig : Sig := ⟨18, [.w true [.row .bool], .w true [.row .bool]], [(false, [.val .bool])]⟩
def H : Hints := ⟨[], [], [], []⟩
def spec : Spec := ⟨sig, fun k (x : List Bool × List Bool) => f k x.1 x.2⟩
theorem ok : Holds Go.Proofs.Try.prog spec := holds_of_run (G := [laws_eqBoolS.spec]) (holds_cons laws_eqBoolS.ok holds_nil) (by kernel_rfl) H Go.Proofs.Try.func18 (by kernel_rfl) (rfl : Go.Proofs.Try.f18.body = some _) (by kernel_rfl) (by kernel_rfl) fun k x y h => Eq.trans (by kernel_rfl : _ = spec.fn k x) h
end laws_eqGuard

namespace spec_l33Set
def f (k : Nat) (a0 : List (Int × Int × Int)) (a1 : List Bool) (a2 : Int) (a3 : Bool) : Option (List Bool × Bool) := chk (cLen (rLen (rApp [] a1)) 1) (bnd (spec_GuardOk.f k a0 a1) fun y0 => brB (bNot y0) (some (rApp [] a1, false)) (bnd (spec_l01In.f k a2 1 (iSub .i64 (rLen a0) 1)) fun y1 => brB (bNot y1) (some (rApp [] a1, false)) (chk (cIdx a2 (rLen a1)) (brB (bEq (rGet false a1 a2) a3) (some (rApp [] a1, false)) (chk (cIdx a2 (rLen (rApp [] a1))) (some (rSet (rApp [] a1) a2 a3, true)))))))
def sig : Sig := ⟨55, [.w false [.row (.pair I (.pair I I))], .w true [.row .bool], .w false [I], .w false [.bool]], [(true, [.own .bool]), (false, [.val .bool])]⟩
def H : Hints := ⟨[], [], [], []⟩
def spec : Spec := ⟨sig, fun k (x : List (Int × Int × Int) × List Bool × Int × Bool) => f k x.1 x.2.1 x.2.2.1 x.2.2.2⟩
theorem ok : Holds Go.Proofs.Try.prog spec := holds_of_run (G := [spec_l01In.spec, spec_GuardOk.spec]) (holds_cons spec_l01In.ok (holds_cons spec_GuardOk.ok holds_nil)) (by kernel_rfl) H Go.Proofs.Try.func55 (by kernel_rfl) (rfl : Go.Proofs.Try.f55.body = some _) (by kernel_rfl) (by kernel_rfl) fun k x y h => Eq.trans (by kernel_rfl : _ = spec.fn k x) h
end spec_l33Set

namespace slices_Clone_bool
def f (k : Nat) (a0 : List Bool) : Option (List Bool) := chk (cLen (rLen a0) 1) (some a0)
def sig : Sig := cloneSig 82 .bool
def spec : Spec := ⟨sig, fun k (x : List Bool) => f k x⟩
theorem ok : Holds Go.Proofs.Try.prog spec := clone_holds (u := .bool) (t := 23) (by kernel_rfl) Go.Proofs.Try.func82 (by kernel_rfl) (rfl : Go.Proofs.Try.f82.body = some _) (by kernel_rfl) (by kernel_rfl) Go.Proofs.Try.underlying23 ⟨rfl, rfl, rfl⟩ ⟨rfl, rfl, rfl⟩ ⟨rfl, rfl, _, rfl⟩ (fun l => cLen (rLen l) 1) (fun k => by kernel_rfl) (fun k l => by kernel_rfl)
end slices_Clone_bool

namespace impl_setNode
def f (k : Nat) (a0 : List (Int × Int × Int)) (a1 : List Bool) (a2 : Int) (a3 : Bool) : Option (List Bool × Bool) := bnd (slices_Clone_bool.f k a1) fun y0 => bnd (impl_GuardOk.f k a0 a1) fun y1 => brB (bNot y1) (some (y0, false)) (bnd (impl_within.f k a2 1 (iSub .i64 (rLen a0) 1)) fun y2 => brB (bNot y2) (some (y0, false)) (chk (cIdx a2 (rLen a1)) (brB (bEq (rGet false a1 a2) a3) (some (y0, false)) (chk (cIdx a2 (rLen y0)) (some (rSet y0 a2 a3, true))))))
def sig : Sig := ⟨56, [.w false [.row (.pair I (.pair I I))], .w true [.row .bool], .w false [I], .w false [.bool]], [(true, [.own .bool]), (false, [.val .bool])]⟩
def H : Hints := ⟨[], [], [], []⟩
def spec : Spec := ⟨sig, fun k (x : List (Int × Int × Int) × List Bool × Int × Bool) => f k x.1 x.2.1 x.2.2.1 x.2.2.2⟩
theorem ok : Holds Go.Proofs.Try.prog spec := holds_of_run (G := [impl_within.spec, impl_GuardOk.spec, slices_Clone_bool.spec]) (holds_cons impl_within.ok (holds_cons impl_GuardOk.ok (holds_cons slices_Clone_bool.ok holds_nil))) (by kernel_rfl) H Go.Proofs.Try.func56 (by kernel_rfl) (rfl : Go.Proofs.Try.f56.body = some _) (by kernel_rfl) (by kernel_rfl) fun k x y h => Eq.trans (by kernel_rfl : _ = spec.fn k x) h
end impl_setNode

namespace laws_markNodeS
def s0 (k : Nat) (rec0 : ((List (Int × Int × Int)) × Int × Int) → Option (Int × List (Int × Int × Int))) (x0 : List (Int × Int × Int)) (x1 : Int) (x2 : Int) : Option (Int × List (Int × Int × Int)) := brB (iLt x2 (rLen x0)) (chk (cIdx x2 (rLen x0)) (chk (cIdx x2 (rLen (rSet x0 x2 (x1, ((rGet (0, 0, 0) x0 x2).2).1, ((rGet (0, 0, 0) x0 x2).2).2)))) (chk (cIdx x2 (rLen (rSet (rSet x0 x2 (x1, ((rGet (0, 0, 0) x0 x2).2).1, ((rGet (0, 0, 0) x0 x2).2).2)) x2 ((rGet (0, 0, 0) (rSet x0 x2 (x1, ((rGet (0, 0, 0) x0 x2).2).1, ((rGet (0, 0, 0) x0 x2).2).2)) x2).1, iAdd .i64 x1 1, ((rGet (0, 0, 0) (rSet x0 x2 (x1, ((rGet (0, 0, 0) x0 x2).2).1, ((rGet (0, 0, 0) x0 x2).2).2)) x2).2).2)))) (rec0 (rSet (rSet (rSet x0 x2 (x1, ((rGet (0, 0, 0) x0 x2).2).1, ((rGet (0, 0, 0) x0 x2).2).2)) x2 ((rGet (0, 0, 0) (rSet x0 x2 (x1, ((rGet (0, 0, 0) x0 x2).2).1, ((rGet (0, 0, 0) x0 x2).2).2)) x2).1, iAdd .i64 x1 1, ((rGet (0, 0, 0) (rSet x0 x2 (x1, ((rGet (0, 0, 0) x0 x2).2).1, ((rGet (0, 0, 0) x0 x2).2).2)) x2).2).2)) x2 ((rGet (0, 0, 0) (rSet (rSet x0 x2 (x1, ((rGet (0, 0, 0) x0 x2).2).1, ((rGet (0, 0, 0) x0 x2).2).2)) x2 ((rGet (0, 0, 0) (rSet x0 x2 (x1, ((rGet (0, 0, 0) x0 x2).2).1, ((rGet (0, 0, 0) x0 x2).2).2)) x2).1, iAdd .i64 x1 1, ((rGet (0, 0, 0) (rSet x0 x2 (x1, ((rGet (0, 0, 0) x0 x2).2).1, ((rGet (0, 0, 0) x0 x2).2).2)) x2).2).2)) x2).1, ((rGet (0, 0, 0) (rSet (rSet x0 x2 (x1, ((rGet (0, 0, 0) x0 x2).2).1, ((rGet (0, 0, 0) x0 x2).2).2)) x2 ((rGet (0, 0, 0) (rSet x0 x2 (x1, ((rGet (0, 0, 0) x0 x2).2).1, ((rGet (0, 0, 0) x0 x2).2).2)) x2).1, iAdd .i64 x1 1, ((rGet (0, 0, 0) (rSet x0 x2 (x1, ((rGet (0, 0, 0) x0 x2).2).1, ((rGet (0, 0, 0) x0 x2).2).2)) x2).2).2)) x2).2).1, iAdd .i64 (iAdd .i64 x1 1) 1), iAdd .i64 (iAdd .i64 (iAdd .i64 x1 1) 1) 1, iAdd .i64 x2 1))))) (some (x1, x0))
def l0 (k n : Nat) (x0 : List (Int × Int × Int)) (x1 : Int) (x2 : Int) : Option (Int × List (Int × Int × Int)) := iter (fun (rec : ((List (Int × Int × Int)) × Int × Int) → Option (Int × List (Int × Int × Int))) (x : (List (Int × Int × Int)) × Int × Int) => s0 k rec x.1 x.2.1 x.2.2) n (x0, x1, x2)
def f (k : Nat) (a0 : List (Int × Int × Int)) (a1 : Int) : Option (Int × List (Int × Int × Int)) := l0 k k a0 a1 0
def sig : Sig := ⟨21, [.mut false [.row (.pair I (.pair I I))], .w false [I]], [(false, [.val I])]⟩
def H : Hints := ⟨[(2, ⟨⟨[(0, .w false 1), (1, .w false 1), (5, .w false 1)], []⟩, [], [.own (.pair I (.pair I I)), .val I, .val I], [0]⟩)], [], [], []⟩
def spec : Spec := ⟨sig, fun k (x : List (Int × Int × Int) × Int) => f k x.1 x.2⟩
theorem ok : Holds Go.Proofs.Try.prog spec := holds_of_run (G := []) holds_nil (by kernel_rfl) H Go.Proofs.Try.func21 (by kernel_rfl) (rfl : Go.Proofs.Try.f21.body = some _) (by kernel_rfl) (by kernel_rfl) fun k x y h => Eq.trans (by kernel_rfl : _ = spec.fn k x) h
end laws_markNodeS

namespace laws_markBoolS
def s0 (k : Nat) (rec0 : (List Bool × Int × Int) → Option (Int × List Bool)) (x0 : List Bool) (x1 : Int) (x2 : Int) : Option (Int × List Bool) := brB (iLt x2 (rLen x0)) (chk (cNz 3) (chk (cIdx x2 (rLen x0)) (rec0 (rSet x0 x2 (iEq (iRem x1 3) 0), iAdd .i64 x1 1, iAdd .i64 x2 1)))) (some (x1, x0))
def l0 (k n : Nat) (x0 : List Bool) (x1 : Int) (x2 : Int) : Option (Int × List Bool) := iter (fun (rec : (List Bool × Int × Int) → Option (Int × List Bool)) (x : List Bool × Int × Int) => s0 k rec x.1 x.2.1 x.2.2) n (x0, x1, x2)
def f (k : Nat) (a0 : List Bool) (a1 : Int) : Option (Int × List Bool) := l0 k k a0 a1 0
def sig : Sig := ⟨57, [.mut false [.row .bool], .w false [I]], [(false, [.val I])]⟩
def H : Hints := ⟨[(2, ⟨⟨[(0, .w false 1), (1, .w false 1), (5, .w false 1)], []⟩, [], [.own .bool, .val I, .val I], [0]⟩)], [], [], []⟩
def spec : Spec := ⟨sig, fun k (x : List Bool × Int) => f k x.1 x.2⟩
theorem ok : Holds Go.Proofs.Try.prog spec := holds_of_run (G := []) holds_nil (by kernel_rfl) H Go.Proofs.Try.func57 (by kernel_rfl) (rfl : Go.Proofs.Try.f57.body = some _) (by kernel_rfl) (by kernel_rfl) fun k x y h => Eq.trans (by kernel_rfl : _ = spec.fn k x) h
end laws_markBoolS

namespace laws_markGuard
def f (k : Nat) (a0 : List Bool) (a1 : Int) : Option (Int × List Bool) := bnd (laws_markBoolS.f k a0 a1) fun (y0, y1) => some (y0, y1)
def sig : Sig := ⟨22, [.mut true [.row .bool], .w false [I]], [(false, [.val I])]⟩
def H : Hints := ⟨[], [], [], []⟩
def spec : Spec := ⟨sig, fun k (x : List Bool × Int) => f k x.1 x.2⟩
theorem ok : Holds Go.Proofs.Try.prog spec := holds_of_run (G := [laws_markBoolS.spec]) (holds_cons laws_markBoolS.ok holds_nil) (by kernel_rfl) H Go.Proofs.Try.func22 (by kernel_rfl) (rfl : Go.Proofs.Try.f22.body = some _) (by kernel_rfl) (by kernel_rfl) fun k x y h => Eq.trans (by kernel_rfl : _ = spec.fn k x) h
end laws_markGuard

namespace laws_heldBoolS
def s0 (k : Nat) (rec0 : (List Bool × Int × Int) → Option (Int)) (x0 : List Bool) (x1 : Int) (x2 : Int) : Option (Int) := brB (iLt x2 (rLen x0)) (chk (cIdx x2 (rLen x0)) (chk (cNz 3) (brB (bNe (rGet false x0 x2) (iEq (iRem x1 3) 0)) (some (-1)) (rec0 (x0, iAdd .i64 x1 1, iAdd .i64 x2 1))))) (some x1)
def l0 (k n : Nat) (x0 : List Bool) (x1 : Int) (x2 : Int) : Option (Int) := iter (fun (rec : (List Bool × Int × Int) → Option (Int)) (x : List Bool × Int × Int) => s0 k rec x.1 x.2.1 x.2.2) n (x0, x1, x2)
def f (k : Nat) (a0 : List Bool) (a1 : Int) : Option (Int) := l0 k k a0 a1 0
def sig : Sig := ⟨58, [.w false [.row .bool], .w false [I]], [(false, [.val I])]⟩
def H : Hints := ⟨[(2, ⟨⟨[(0, .w false 1), (1, .w false 1), (5, .w false 1)], []⟩, [], [.val (.row .bool), .val I, .val I], []⟩)], [], [], []⟩
def spec : Spec := ⟨sig, fun k (x : List Bool × Int) => f k x.1 x.2⟩
theorem ok : Holds Go.Proofs.Try.prog spec := holds_of_run (G := []) holds_nil (by kernel_rfl) H Go.Proofs.Try.func58 (by kernel_rfl) (rfl : Go.Proofs.Try.f58.body = some _) (by kernel_rfl) (by kernel_rfl) fun k x y h => Eq.trans (by kernel_rfl : _ = spec.fn k x) h
end laws_heldBoolS

namespace laws_heldGuard
def f (k : Nat) (a0 : List Bool) (a1 : Int) : Option (Int) := bnd (laws_heldBoolS.f k a0 a1) fun y0 => brB (iLt y0 0) (some (-1)) (some y0)
def sig : Sig := ⟨23, [.w true [.row .bool], .w false [I]], [(false, [.val I])]⟩
def H : Hints := ⟨[], [], [], []⟩
def spec : Spec := ⟨sig, fun k (x : List Bool × Int) => f k x.1 x.2⟩
theorem ok : Holds Go.Proofs.Try.prog spec := holds_of_run (G := [laws_heldBoolS.spec]) (holds_cons laws_heldBoolS.ok holds_nil) (by kernel_rfl) H Go.Proofs.Try.func23 (by kernel_rfl) (rfl : Go.Proofs.Try.f23.body = some _) (by kernel_rfl) (by kernel_rfl) fun k x y h => Eq.trans (by kernel_rfl : _ = spec.fn k x) h
end laws_heldGuard

namespace spec_OpenNode
def f (k : Nat) (a0 : List (Int × Int × Int)) (a1 : List Bool) (a2 : Int) : Option (List Bool × Bool) := bnd (spec_l33Set.f k a0 a1 a2 true) fun (y0, y1) => some (y0, y1)
def sig : Sig := ⟨24, [.w false [.row (.pair I (.pair I I))], .w true [.row .bool], .w false [I]], [(true, [.own .bool]), (false, [.val .bool])]⟩
def H : Hints := ⟨[], [], [], []⟩
def spec : Spec := ⟨sig, fun k (x : List (Int × Int × Int) × List Bool × Int) => f k x.1 x.2.1 x.2.2⟩
theorem ok : Holds Go.Proofs.Try.prog spec := holds_of_run (G := [spec_l33Set.spec]) (holds_cons spec_l33Set.ok holds_nil) (by kernel_rfl) H Go.Proofs.Try.func24 (by kernel_rfl) (rfl : Go.Proofs.Try.f24.body = some _) (by kernel_rfl) (by kernel_rfl) fun k x y h => Eq.trans (by kernel_rfl : _ = spec.fn k x) h
end spec_OpenNode

namespace impl_OpenNode
def f (k : Nat) (a0 : List (Int × Int × Int)) (a1 : List Bool) (a2 : Int) : Option (List Bool × Bool) := bnd (impl_setNode.f k a0 a1 a2 true) fun (y0, y1) => some (y0, y1)
def sig : Sig := ⟨25, [.w false [.row (.pair I (.pair I I))], .w true [.row .bool], .w false [I]], [(true, [.own .bool]), (false, [.val .bool])]⟩
def H : Hints := ⟨[], [], [], []⟩
def spec : Spec := ⟨sig, fun k (x : List (Int × Int × Int) × List Bool × Int) => f k x.1 x.2.1 x.2.2⟩
theorem ok : Holds Go.Proofs.Try.prog spec := holds_of_run (G := [impl_setNode.spec]) (holds_cons impl_setNode.ok holds_nil) (by kernel_rfl) H Go.Proofs.Try.func25 (by kernel_rfl) (rfl : Go.Proofs.Try.f25.body = some _) (by kernel_rfl) (by kernel_rfl) fun k x y h => Eq.trans (by kernel_rfl : _ = spec.fn k x) h
end impl_OpenNode

namespace laws_FnExactOpenNode
def f (k : Nat) (a0 : List (Int × Int × Int)) (a1 : List Bool) (a2 : Int) : Option (Bool) := bnd (laws_szNodeS.f k a0 1048576) fun y0 => brB (iLt y0 0) (some true) (bnd (laws_szGuard.f k a1 y0) fun y1 => brB (iLt y1 0) (some true) (bnd (laws_toNodeS.f k a0) fun y2 => bnd (laws_toGuard.f k a1) fun y3 => bnd (spec_OpenNode.f k y2 y3 a2) fun (y4, y5) => bnd (laws_toNodeS.f k a0) fun y6 => bnd (laws_toGuard.f k a1) fun y7 => bnd (impl_OpenNode.f k y6 y7 a2) fun (y8, y9) => bnd (laws_eqGuard.f k y8 y4) fun y10 => brB (bNot y10) (some false) (brB (bNe y9 y5) (some false) (bnd (laws_toNodeS.f k a0) fun y11 => bnd (laws_eqNodeS.f k y6 y11) fun y12 => brB (bNot y12) (some false) (bnd (laws_toGuard.f k a1) fun y13 => bnd (laws_eqGuard.f k y7 y13) fun y14 => brB (bNot y14) (some false) (bnd (laws_markNodeS.f k y6 1) fun (y15, y16) => bnd (laws_markGuard.f k y7 y15) fun (y17, y18) => brB (iLt y17 0) (some false) (bnd (laws_eqGuard.f k y8 y4) fun y19 => brB (bNot y19) (some false) (brB (bNe y9 y5) (some false) (bnd (laws_markGuard.f k y8 1) fun (y20, y21) => bnd (laws_heldGuard.f k y21 1) fun y22 => brB (iLt y22 0) (some false) (brB (iNe y22 y20) (some false) (bnd (laws_toNodeS.f k a0) fun y23 => bnd (laws_toGuard.f k a1) fun y24 => bnd (impl_OpenNode.f k y23 y24 a2) fun (y25, y26) => bnd (laws_eqGuard.f k y25 y4) fun y27 => brB (bNot y27) (some false) (brB (bNe y26 y5) (some false) (bnd (laws_heldGuard.f k y21 1) fun y28 => brB (iLt y28 0) (some false) (brB (iNe y28 y20) (some false) (some true)))))))))))))))
def sig : Sig := ⟨5, [.w false [.row (.pair I (.pair I I))], .w true [.row .bool], .w false [I]], [(false, [.val .bool])]⟩
def H : Hints := ⟨[], [], [(8, [0, 1, 0, 7, 0, 31, 63, 127, 127, 0, 767, 2047]), (16, [0, 0, 2, 7, 15]), (31, [0, 1, 0, 7, 0, 31, 63, 127, 127, 0, 767, 2047])], []⟩
def spec : Spec := ⟨sig, fun k (x : List (Int × Int × Int) × List Bool × Int) => f k x.1 x.2.1 x.2.2⟩
theorem ok : Holds Go.Proofs.Try.prog spec := holds_of_run (G := [laws_szNodeS.spec, laws_szGuard.spec, laws_toNodeS.spec, laws_toGuard.spec, laws_eqNodeS.spec, laws_eqGuard.spec, laws_markNodeS.spec, laws_markGuard.spec, laws_heldGuard.spec, spec_OpenNode.spec, impl_OpenNode.spec]) (holds_cons laws_szNodeS.ok (holds_cons laws_szGuard.ok (holds_cons laws_toNodeS.ok (holds_cons laws_toGuard.ok (holds_cons laws_eqNodeS.ok (holds_cons laws_eqGuard.ok (holds_cons laws_markNodeS.ok (holds_cons laws_markGuard.ok (holds_cons laws_heldGuard.ok (holds_cons spec_OpenNode.ok (holds_cons impl_OpenNode.ok holds_nil))))))))))) (by kernel_rfl) H Go.Proofs.Try.func5 (by kernel_rfl) (rfl : Go.Proofs.Try.f5.body = some _) (by kernel_rfl) (by kernel_rfl) fun k x y h => Eq.trans (by kernel_rfl : _ = spec.fn k x) h
end laws_FnExactOpenNode

end Go.Proofs.YtknaadbgljjpiaaT
