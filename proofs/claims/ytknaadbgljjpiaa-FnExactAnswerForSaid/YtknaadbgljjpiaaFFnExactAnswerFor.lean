/- The functions of the program, as they compute: printed by a program of the session (wip/gen), each with its contract. -/
import Derived.Test.YtknaadbgljjpiaaProg
import Derived.Test.YtknaadbgljjpiaaTiAI
set_option linter.unusedVariables false
set_option maxRecDepth 100000
namespace Go.Proofs.YtknaadbgljjpiaaT
open Go
abbrev I : Ty := .int .i64
noncomputable section
namespace laws_szNodeS
def f (k : Nat) (a0 : List (Int × Int × Int)) (a1 : Int) : Option (Int) := brB (iLt (iSub .i64 a1 (rLen a0)) 0) (some (-1)) (some (iSub .i64 a1 (rLen a0)))
def sig : Sig := ⟨11, [.w false [.row (.pair I (.pair I I))], .w false [I]], [(false, [.val I])]⟩
def H : Hints := ⟨[], [], [], []⟩
def spec : Spec := ⟨sig, fun k (x : List (Int × Int × Int) × Int) => f k x.1 x.2⟩
theorem ok : Holds Go.Proofs.Try.prog spec := holds_of_run (G := []) holds_nil (by kernel_rfl) H Go.Proofs.Try.func11 (by kernel_rfl) (rfl : Go.Proofs.Try.f11.body = some _) (by kernel_rfl) (by kernel_rfl) fun k x y h => Eq.trans (by kernel_rfl : _ = spec.fn k x) h
end laws_szNodeS

namespace laws_szBoolS
def f (k : Nat) (a0 : List Bool) (a1 : Int) : Option (Int) := brB (iLt (iSub .i64 a1 (rLen a0)) 0) (some (-1)) (some (iSub .i64 a1 (rLen a0)))
def sig : Sig := ⟨48, [.w false [.row .bool], .w false [I]], [(false, [.val I])]⟩
def H : Hints := ⟨[], [], [], []⟩
def spec : Spec := ⟨sig, fun k (x : List Bool × Int) => f k x.1 x.2⟩
theorem ok : Holds Go.Proofs.Try.prog spec := holds_of_run (G := []) holds_nil (by kernel_rfl) H Go.Proofs.Try.func48 (by kernel_rfl) (rfl : Go.Proofs.Try.f48.body = some _) (by kernel_rfl) (by kernel_rfl) fun k x y h => Eq.trans (by kernel_rfl : _ = spec.fn k x) h
end laws_szBoolS

namespace laws_szGuard
def f (k : Nat) (a0 : List Bool) (a1 : Int) : Option (Int) := bnd (laws_szBoolS.f k a0 a1) fun y0 => brB (iLt y0 0) (some (-1)) (some y0)
def sig : Sig := ⟨12, [.w true [.row .bool], .w false [I]], [(false, [.val I])]⟩
def H : Hints := ⟨[], [], [], []⟩
def spec : Spec := ⟨sig, fun k (x : List Bool × Int) => f k x.1 x.2⟩
theorem ok : Holds Go.Proofs.Try.prog spec := holds_of_run (G := [laws_szBoolS.spec]) (holds_cons laws_szBoolS.ok holds_nil) (by kernel_rfl) H Go.Proofs.Try.func12 (by kernel_rfl) (rfl : Go.Proofs.Try.f12.body = some _) (by kernel_rfl) (by kernel_rfl) fun k x y h => Eq.trans (by kernel_rfl : _ = spec.fn k x) h
end laws_szGuard

namespace laws_toNode
def f (k : Nat) (a0_0 : Int) (a0_1 : Int) (a0_2 : Int) : Option (Int × Int × Int) := some (a0_0, a0_1, a0_2)
def sig : Sig := ⟨50, [.w true [I, I, I]], [(true, [.val I, .val I, .val I])]⟩
def H : Hints := ⟨[], [], [], []⟩
def spec : Spec := ⟨sig, fun k (x : Int × Int × Int) => f k x.1 x.2.1 x.2.2⟩
theorem ok : Holds Go.Proofs.Try.prog spec := holds_of_run (G := []) holds_nil (by kernel_rfl) H Go.Proofs.Try.func50 (by kernel_rfl) (rfl : Go.Proofs.Try.f50.body = some _) (by kernel_rfl) (by kernel_rfl) fun k x y h => Eq.trans (by kernel_rfl : _ = spec.fn k x) h
end laws_toNode

namespace laws_toNodeS
def s0 (k : Nat) (rec0 : ((List (Int × Int × Int)) × (List (Int × Int × Int)) × Int) → Option (List (Int × Int × Int))) (x0 : List (Int × Int × Int)) (x1 : List (Int × Int × Int)) (x2 : Int) : Option (List (Int × Int × Int)) := brB (iLt x2 (rLen x0)) (chk (cIdx x2 (rLen x0)) (bnd (laws_toNode.f k ((rGet (0, 0, 0) x0 x2).1) (((rGet (0, 0, 0) x0 x2).2).1) (((rGet (0, 0, 0) x0 x2).2).2)) fun (y0, y1, y2) => chk (cIdx x2 (rLen x1)) (rec0 (x0, rSet x1 x2 (y0, y1, y2), iAdd .i64 x2 1)))) (some x1)
def l0 (k n : Nat) (x0 : List (Int × Int × Int)) (x1 : List (Int × Int × Int)) (x2 : Int) : Option (List (Int × Int × Int)) := iter (fun (rec : ((List (Int × Int × Int)) × (List (Int × Int × Int)) × Int) → Option (List (Int × Int × Int))) (x : (List (Int × Int × Int)) × (List (Int × Int × Int)) × Int) => s0 k rec x.1 x.2.1 x.2.2) n (x0, x1, x2)
def f (k : Nat) (a0 : List (Int × Int × Int)) : Option (List (Int × Int × Int)) := chk (cMake (rLen a0) (rLen a0) 24) (l0 k k a0 (rRep (0, 0, 0) (rLen a0)) 0)
def sig : Sig := ⟨14, [.w false [.row (.pair I (.pair I I))]], [(false, [.own (.pair I (.pair I I))])]⟩
def H : Hints := ⟨[(3, ⟨⟨[(0, .w false 1), (3, .w false 1), (4, .w false 1)], []⟩, [], [.val (.row (.pair I (.pair I I))), .own (.pair I (.pair I I)), .val I], []⟩)], [], [], []⟩
def spec : Spec := ⟨sig, fun k (x : List (Int × Int × Int)) => f k x⟩
theorem ok : Holds Go.Proofs.Try.prog spec := holds_of_run (G := [laws_toNode.spec]) (holds_cons laws_toNode.ok holds_nil) (by kernel_rfl) H Go.Proofs.Try.func14 (by kernel_rfl) (rfl : Go.Proofs.Try.f14.body = some _) (by kernel_rfl) (by kernel_rfl) fun k x y h => Eq.trans (by kernel_rfl : _ = spec.fn k x) h
end laws_toNodeS

namespace laws_toBoolS
def s0 (k : Nat) (rec0 : (List Bool × List Bool × Int) → Option (List Bool)) (x0 : List Bool) (x1 : List Bool) (x2 : Int) : Option (List Bool) := brB (iLt x2 (rLen x0)) (chk (cIdx x2 (rLen x0)) (chk (cIdx x2 (rLen x1)) (rec0 (x0, rSet x1 x2 (rGet false x0 x2), iAdd .i64 x2 1)))) (some x1)
def l0 (k n : Nat) (x0 : List Bool) (x1 : List Bool) (x2 : Int) : Option (List Bool) := iter (fun (rec : (List Bool × List Bool × Int) → Option (List Bool)) (x : List Bool × List Bool × Int) => s0 k rec x.1 x.2.1 x.2.2) n (x0, x1, x2)
def f (k : Nat) (a0 : List Bool) : Option (List Bool) := chk (cMake (rLen a0) (rLen a0) 1) (l0 k k a0 (rRep false (rLen a0)) 0)
def sig : Sig := ⟨51, [.w false [.row .bool]], [(false, [.own .bool])]⟩
def H : Hints := ⟨[(3, ⟨⟨[(0, .w false 1), (3, .w false 1), (4, .w false 1)], []⟩, [], [.val (.row .bool), .own .bool, .val I], []⟩)], [], [], []⟩
def spec : Spec := ⟨sig, fun k (x : List Bool) => f k x⟩
theorem ok : Holds Go.Proofs.Try.prog spec := holds_of_run (G := []) holds_nil (by kernel_rfl) H Go.Proofs.Try.func51 (by kernel_rfl) (rfl : Go.Proofs.Try.f51.body = some _) (by kernel_rfl) (by kernel_rfl) fun k x y h => Eq.trans (by kernel_rfl : _ = spec.fn k x) h
end laws_toBoolS

namespace laws_toGuard
def f (k : Nat) (a0 : List Bool) : Option (List Bool) := bnd (laws_toBoolS.f k a0) fun y0 => some y0
def sig : Sig := ⟨15, [.w true [.row .bool]], [(true, [.own .bool])]⟩
def H : Hints := ⟨[], [], [], []⟩
def spec : Spec := ⟨sig, fun k (x : List Bool) => f k x⟩
theorem ok : Holds Go.Proofs.Try.prog spec := holds_of_run (G := [laws_toBoolS.spec]) (holds_cons laws_toBoolS.ok holds_nil) (by kernel_rfl) H Go.Proofs.Try.func15 (by kernel_rfl) (rfl : Go.Proofs.Try.f15.body = some _) (by kernel_rfl) (by kernel_rfl) fun k x y h => Eq.trans (by kernel_rfl : _ = spec.fn k x) h
end laws_toGuard

namespace spec_l01In
def f (k : Nat) (a0 : Int) (a1 : Int) (a2 : Int) : Option (Bool) := brB (iLe a1 a0) (some (iLe a0 a2)) (some false)
def sig : Sig := ⟨77, [.w false [I], .w false [I], .w false [I]], [(false, [.val .bool])]⟩
def H : Hints := ⟨[], [], [], []⟩
def spec : Spec := ⟨sig, fun k (x : Int × Int × Int) => f k x.1 x.2.1 x.2.2⟩
theorem ok : Holds Go.Proofs.Try.prog spec := holds_of_run (G := []) holds_nil (by kernel_rfl) H Go.Proofs.Try.func77 (by kernel_rfl) (rfl : Go.Proofs.Try.f77.body = some _) (by kernel_rfl) (by kernel_rfl) fun k x y h => Eq.trans (by kernel_rfl : _ = spec.fn k x) h
end spec_l01In

namespace spec_TreeOk
def s1 (k : Nat) (rec0 : ((List (Int × Int × Int)) × Int) → Option (Bool)) (rec1 : ((List (Int × Int × Int)) × Int × Int × Int × Int × Int) → Option (Bool)) (x2 : List (Int × Int × Int)) (x3 : Int) (x4 : Int) (x5 : Int) (x6 : Int) (x7 : Int) : Option (Bool) := brB (iLt x4 x3) (chk (cIdx x4 (rLen x2)) (brB (iEq ((rGet (0, 0, 0) x2 x4).1) x5) (chk (cIdx x4 (rLen x2)) (brB (iEq (((rGet (0, 0, 0) x2 x4).2).1) x6) (some false) (rec1 (x2, x3, iAdd .i64 x4 1, x5, x6, x7)))) (rec1 (x2, x3, iAdd .i64 x4 1, x5, x6, x7)))) (rec0 (x2, iAdd .i64 x3 1))
def l1 (k n : Nat) (rec0 : ((List (Int × Int × Int)) × Int) → Option (Bool)) (x2 : List (Int × Int × Int)) (x3 : Int) (x4 : Int) (x5 : Int) (x6 : Int) (x7 : Int) : Option (Bool) := iter (fun (rec : ((List (Int × Int × Int)) × Int × Int × Int × Int × Int) → Option (Bool)) (x : (List (Int × Int × Int)) × Int × Int × Int × Int × Int) => s1 k rec0 rec x.1 x.2.1 x.2.2.1 x.2.2.2.1 x.2.2.2.2.1 x.2.2.2.2.2) n (x2, x3, x4, x5, x6, x7)
def s0 (k : Nat) (rec0 : ((List (Int × Int × Int)) × Int) → Option (Bool)) (x0 : List (Int × Int × Int)) (x1 : Int) : Option (Bool) := brB (iLt x1 (rLen x0)) (chk (cIdx x1 (rLen x0)) (bnd (spec_l01In.f k ((rGet (0, 0, 0) x0 x1).1) 0 (iSub .i64 x1 1)) fun y1 => brB (bNot y1) (some false) (chk (cIdx ((rGet (0, 0, 0) x0 x1).1) (rLen x0)) (brB (iNe (((rGet (0, 0, 0) x0 ((rGet (0, 0, 0) x0 x1).1)).2).2) 0) (some false) (bnd (spec_l01In.f k (((rGet (0, 0, 0) x0 x1).2).1) 0 3) fun y2 => brB (bNot y2) (some false) (bnd (spec_l01In.f k (((rGet (0, 0, 0) x0 x1).2).2) 0 4) fun y3 => brB (bNot y3) (some false) (l1 k k rec0 x0 x1 1 ((rGet (0, 0, 0) x0 x1).1) (((rGet (0, 0, 0) x0 x1).2).1) (((rGet (0, 0, 0) x0 x1).2).2)))))))) (some true)
def l0 (k n : Nat) (x0 : List (Int × Int × Int)) (x1 : Int) : Option (Bool) := iter (fun (rec : ((List (Int × Int × Int)) × Int) → Option (Bool)) (x : (List (Int × Int × Int)) × Int) => s0 k rec x.1 x.2) n (x0, x1)
def f (k : Nat) (a0 : List (Int × Int × Int)) : Option (Bool) := bnd (spec_l01In.f k (rLen a0) 1 12) fun y0 => brB (bNot y0) (some false) (chk (cIdx 0 (rLen a0)) (brB (bNot (bAnd (iEq ((rGet (0, 0, 0) a0 0).1) (-1)) (bAnd (iEq (((rGet (0, 0, 0) a0 0).2).1) 0) (bAnd (iEq (((rGet (0, 0, 0) a0 0).2).2) 0) true)))) (some false) (l0 k k a0 1)))
def sig : Sig := ⟨49, [.w false [.row (.pair I (.pair I I))]], [(false, [.val .bool])]⟩
def H : Hints := ⟨[(4, ⟨⟨[(0, .w false 1), (3, .w false 1)], []⟩, [], [.val (.row (.pair I (.pair I I))), .val I], []⟩), (10, ⟨⟨[(0, .w false 1), (3, .w false 1), (4, .ptr 104 0), (5, .w false 1)], [(104, 3)]⟩, [4], [.val (.row (.pair I (.pair I I))), .val I, .val I, .val I, .val I, .val I], []⟩)], [], [(12, [0, 0, 3, 7, 15, 0, 32, 127, 255, 511, 511, 2047, 4095, 8191, 511, 16895, 65535, 131071])], []⟩
def spec : Spec := ⟨sig, fun k (x : List (Int × Int × Int)) => f k x⟩
theorem ok : Holds Go.Proofs.Try.prog spec := holds_of_run (G := [spec_l01In.spec]) (holds_cons spec_l01In.ok holds_nil) (by kernel_rfl) H Go.Proofs.Try.func49 (by kernel_rfl) (rfl : Go.Proofs.Try.f49.body = some _) (by kernel_rfl) (by kernel_rfl) fun k x y h => Eq.trans (by kernel_rfl : _ = spec.fn k x) h
end spec_TreeOk

namespace spec_GuardOk
def f (k : Nat) (a0 : List (Int × Int × Int)) (a1 : List Bool) : Option (Bool) := bnd (spec_TreeOk.f k a0) fun y0 => brB y0 (brB (iEq (rLen a1) (rLen a0)) (chk (cIdx 0 (rLen a1)) (some (rGet false a1 0))) (some false)) (some false)
def sig : Sig := ⟨13, [.w false [.row (.pair I (.pair I I))], .w true [.row .bool]], [(false, [.val .bool])]⟩
def H : Hints := ⟨[], [], [], []⟩
def spec : Spec := ⟨sig, fun k (x : List (Int × Int × Int) × List Bool) => f k x.1 x.2⟩
theorem ok : Holds Go.Proofs.Try.prog spec := holds_of_run (G := [spec_TreeOk.spec]) (holds_cons spec_TreeOk.ok holds_nil) (by kernel_rfl) H Go.Proofs.Try.func13 (by kernel_rfl) (rfl : Go.Proofs.Try.f13.body = some _) (by kernel_rfl) (by kernel_rfl) fun k x y h => Eq.trans (by kernel_rfl : _ = spec.fn k x) h
end spec_GuardOk

namespace impl_within
def f (k : Nat) (a0 : Int) (a1 : Int) (a2 : Int) : Option (Bool) := brB (iLe a1 a0) (some (iLe a0 a2)) (some false)
def sig : Sig := ⟨71, [.w false [I], .w false [I], .w false [I]], [(false, [.val .bool])]⟩
def H : Hints := ⟨[], [], [], []⟩
def spec : Spec := ⟨sig, fun k (x : Int × Int × Int) => f k x.1 x.2.1 x.2.2⟩
theorem ok : Holds Go.Proofs.Try.prog spec := holds_of_run (G := []) holds_nil (by kernel_rfl) H Go.Proofs.Try.func71 (by kernel_rfl) (rfl : Go.Proofs.Try.f71.body = some _) (by kernel_rfl) (by kernel_rfl) fun k x y h => Eq.trans (by kernel_rfl : _ = spec.fn k x) h
end impl_within

namespace impl_TreeOk_1
def f (k : Nat) (a0_0 : Int) (a0_1 : Int) (a0_2 : Int) (a1_0 : Int) (a1_1 : Int) (a1_2 : Int) : Option (Bool × Int × Int × Int) := brB (iEq a0_0 a1_0) (some (iEq a0_1 a1_1, a1_0, a1_1, a1_2)) (some (false, a1_0, a1_1, a1_2))
def sig : Sig := ⟨81, [.w true [I, I, I], .ref [I, I, I]], [(false, [.val .bool])]⟩
def H : Hints := ⟨[], [], [], []⟩
def spec : Spec := ⟨sig, fun k (x : Int × Int × Int × Int × Int × Int) => f k x.1 x.2.1 x.2.2.1 x.2.2.2.1 x.2.2.2.2.1 x.2.2.2.2.2⟩
theorem ok : Holds Go.Proofs.Try.prog spec := holds_of_run (G := []) holds_nil (by kernel_rfl) H Go.Proofs.Try.func81 (by kernel_rfl) (rfl : Go.Proofs.Try.f81.body = some _) (by kernel_rfl) (by kernel_rfl) fun k x y h => Eq.trans (by kernel_rfl : _ = spec.fn k x) h
end impl_TreeOk_1

namespace slices_IndexFunc_Node_impl_TreeOk_1
def s0 (k : Nat) (rec0 : ((List (Int × Int × Int)) × Int × Int × Int × Int × Int) → Option (Int × Int × Int × Int)) (x0 : List (Int × Int × Int)) (x1 : Int) (x2 : Int) (x3 : Int) (x4 : Int) (x5 : Int) : Option (Int × Int × Int × Int) := brB (iLt x2 x1) (chk (cIdx x2 (rLen x0)) (bnd (impl_TreeOk_1.f k ((rGet (0, 0, 0) x0 x2).1) (((rGet (0, 0, 0) x0 x2).2).1) (((rGet (0, 0, 0) x0 x2).2).2) x3 x4 x5) fun (y0, y1, y2, y3) => brB y0 (some (x2, y1, y2, y3)) (rec0 (x0, x1, iAdd .i64 x2 1, y1, y2, y3)))) (some ((-1), x3, x4, x5))
def l0 (k n : Nat) (x0 : List (Int × Int × Int)) (x1 : Int) (x2 : Int) (x3 : Int) (x4 : Int) (x5 : Int) : Option (Int × Int × Int × Int) := iter (fun (rec : ((List (Int × Int × Int)) × Int × Int × Int × Int × Int) → Option (Int × Int × Int × Int)) (x : (List (Int × Int × Int)) × Int × Int × Int × Int × Int) => s0 k rec x.1 x.2.1 x.2.2.1 x.2.2.2.1 x.2.2.2.2.1 x.2.2.2.2.2) n (x0, x1, x2, x3, x4, x5)
def f (k : Nat) (a0 : List (Int × Int × Int)) (a1_0 : Int) (a1_1 : Int) (a1_2 : Int) : Option (Int × Int × Int × Int) := l0 k k a0 (rLen a0) 0 a1_0 a1_1 a1_2
def sig : Sig := ⟨97, [.w false [.row (.pair I (.pair I I))], .fnr 81 [I, I, I]], [(false, [.val I])]⟩
def H : Hints := ⟨[(2, ⟨⟨[(0, .w false 1), (1, .fnp 81 1 0), (7, .w false 1), (8, .w false 1)], [(1, 3)]⟩, [1], [.val (.row (.pair I (.pair I I))), .val I, .val I, .val I, .val I, .val I], []⟩)], [], [], []⟩
def spec : Spec := ⟨sig, fun k (x : List (Int × Int × Int) × Int × Int × Int) => f k x.1 x.2.1 x.2.2.1 x.2.2.2⟩
theorem ok : Holds Go.Proofs.Try.prog spec := holds_of_run (G := [impl_TreeOk_1.spec]) (holds_cons impl_TreeOk_1.ok holds_nil) (by kernel_rfl) H Go.Proofs.Try.func97 (by kernel_rfl) (rfl : Go.Proofs.Try.f97.body = some _) (by kernel_rfl) (by kernel_rfl) fun k x y h => Eq.trans (by kernel_rfl : _ = spec.fn k x) h
end slices_IndexFunc_Node_impl_TreeOk_1

namespace slices_ContainsFunc_Node_impl_TreeOk_1
def f (k : Nat) (a0 : List (Int × Int × Int)) (a1_0 : Int) (a1_1 : Int) (a1_2 : Int) : Option (Bool × Int × Int × Int) := bnd (slices_IndexFunc_Node_impl_TreeOk_1.f k a0 a1_0 a1_1 a1_2) fun (y0, y1, y2, y3) => some (iLe 0 y0, y1, y2, y3)
def sig : Sig := ⟨80, [.w false [.row (.pair I (.pair I I))], .fnr 81 [I, I, I]], [(false, [.val .bool])]⟩
def H : Hints := ⟨[], [], [], []⟩
def spec : Spec := ⟨sig, fun k (x : List (Int × Int × Int) × Int × Int × Int) => f k x.1 x.2.1 x.2.2.1 x.2.2.2⟩
theorem ok : Holds Go.Proofs.Try.prog spec := holds_of_run (G := [slices_IndexFunc_Node_impl_TreeOk_1.spec]) (holds_cons slices_IndexFunc_Node_impl_TreeOk_1.ok holds_nil) (by kernel_rfl) H Go.Proofs.Try.func80 (by kernel_rfl) (rfl : Go.Proofs.Try.f80.body = some _) (by kernel_rfl) (by kernel_rfl) fun k x y h => Eq.trans (by kernel_rfl : _ = spec.fn k x) h
end slices_ContainsFunc_Node_impl_TreeOk_1

namespace impl_TreeOk
def s0 (k : Nat) (rec0 : ((List (Int × Int × Int)) × (List (Int × Int × Int)) × Int × Int) → Option (Bool)) (x0 : List (Int × Int × Int)) (x1 : List (Int × Int × Int)) (x2 : Int) (x3 : Int) : Option (Bool) := brB (iLt x3 x2) (chk (cIdx x3 (rLen x1)) (chk (cSub 0 (iAdd .i64 x3 1) (rLen x0)) (bnd (impl_within.f k ((rGet (0, 0, 0) x1 x3).1) 0 x3) fun y1 => brB (bNot y1) (some false) (chk (cIdx ((rGet (0, 0, 0) x1 x3).1) (rLen (rSub x0 0 (iAdd .i64 x3 1)))) (brB (iNe (((rGet (0, 0, 0) (rSub x0 0 (iAdd .i64 x3 1)) ((rGet (0, 0, 0) x1 x3).1)).2).2) 0) (some false) (bnd (impl_within.f k (((rGet (0, 0, 0) x1 x3).2).1) 0 3) fun y2 => brB (bNot y2) (some false) (bnd (impl_within.f k (((rGet (0, 0, 0) x1 x3).2).2) 0 4) fun y3 => brB (bNot y3) (some false) (bnd (slices_ContainsFunc_Node_impl_TreeOk_1.f k (rSub x0 0 (iAdd .i64 x3 1)) ((rGet (0, 0, 0) x1 x3).1) (((rGet (0, 0, 0) x1 x3).2).1) (((rGet (0, 0, 0) x1 x3).2).2)) fun (y4, y5, y6, y7) => brB y4 (some false) (rec0 (x0, x1, x2, iAdd .i64 x3 1)))))))))) (some true)
def l0 (k n : Nat) (x0 : List (Int × Int × Int)) (x1 : List (Int × Int × Int)) (x2 : Int) (x3 : Int) : Option (Bool) := iter (fun (rec : ((List (Int × Int × Int)) × (List (Int × Int × Int)) × Int × Int) → Option (Bool)) (x : (List (Int × Int × Int)) × (List (Int × Int × Int)) × Int × Int) => s0 k rec x.1 x.2.1 x.2.2.1 x.2.2.2) n (x0, x1, x2, x3)
def f (k : Nat) (a0 : List (Int × Int × Int)) : Option (Bool) := bnd (impl_within.f k (rLen a0) 1 12) fun y0 => brB (bNot y0) (some false) (chk (cIdx 0 (rLen a0)) (brB (bNot (bAnd (iEq ((rGet (0, 0, 0) a0 0).1) (-1)) (bAnd (iEq (((rGet (0, 0, 0) a0 0).2).1) 0) (bAnd (iEq (((rGet (0, 0, 0) a0 0).2).2) 0) true)))) (some false) (chk (cSub 1 (rLen a0) (rLen a0)) (l0 k k a0 (rSub a0 1 (rLen a0)) (rLen (rSub a0 1 (rLen a0))) 0))))
def sig : Sig := ⟨52, [.w false [.row (.pair I (.pair I I))]], [(false, [.val .bool])]⟩
def H : Hints := ⟨[(4, ⟨⟨[(0, .w false 1), (18, .w false 1), (19, .w false 1), (20, .w false 1)], []⟩, [], [.val (.row (.pair I (.pair I I))), .val (.row (.pair I (.pair I I))), .val I, .val I], []⟩)], [], [], []⟩
def spec : Spec := ⟨sig, fun k (x : List (Int × Int × Int)) => f k x⟩
theorem ok : Holds Go.Proofs.Try.prog spec := holds_of_run (G := [impl_within.spec, slices_ContainsFunc_Node_impl_TreeOk_1.spec]) (holds_cons impl_within.ok (holds_cons slices_ContainsFunc_Node_impl_TreeOk_1.ok holds_nil)) (by kernel_rfl) H Go.Proofs.Try.func52 (by kernel_rfl) (rfl : Go.Proofs.Try.f52.body = some _) (by kernel_rfl) (by kernel_rfl) fun k x y h => Eq.trans (by kernel_rfl : _ = spec.fn k x) h
end impl_TreeOk

namespace impl_GuardOk
def f (k : Nat) (a0 : List (Int × Int × Int)) (a1 : List Bool) : Option (Bool) := bnd (impl_TreeOk.f k a0) fun y0 => brB y0 (brB (iEq (rLen a1) (rLen a0)) (chk (cIdx 0 (rLen a1)) (some (rGet false a1 0))) (some false)) (some false)
def sig : Sig := ⟨16, [.w false [.row (.pair I (.pair I I))], .w true [.row .bool]], [(false, [.val .bool])]⟩
def H : Hints := ⟨[], [], [], []⟩
def spec : Spec := ⟨sig, fun k (x : List (Int × Int × Int) × List Bool) => f k x.1 x.2⟩
theorem ok : Holds Go.Proofs.Try.prog spec := holds_of_run (G := [impl_TreeOk.spec]) (holds_cons impl_TreeOk.ok holds_nil) (by kernel_rfl) H Go.Proofs.Try.func16 (by kernel_rfl) (rfl : Go.Proofs.Try.f16.body = some _) (by kernel_rfl) (by kernel_rfl) fun k x y h => Eq.trans (by kernel_rfl : _ = spec.fn k x) h
end impl_GuardOk

namespace laws_eqNode
def f (k : Nat) (a0_0 : Int) (a0_1 : Int) (a0_2 : Int) (a1_0 : Int) (a1_1 : Int) (a1_2 : Int) : Option (Bool) := brB (iNe a0_0 a1_0) (some false) (brB (iNe a0_1 a1_1) (some false) (brB (iNe a0_2 a1_2) (some false) (some true)))
def sig : Sig := ⟨53, [.w true [I, I, I], .w true [I, I, I]], [(false, [.val .bool])]⟩
def H : Hints := ⟨[], [], [], []⟩
def spec : Spec := ⟨sig, fun k (x : Int × Int × Int × Int × Int × Int) => f k x.1 x.2.1 x.2.2.1 x.2.2.2.1 x.2.2.2.2.1 x.2.2.2.2.2⟩
theorem ok : Holds Go.Proofs.Try.prog spec := holds_of_run (G := []) holds_nil (by kernel_rfl) H Go.Proofs.Try.func53 (by kernel_rfl) (rfl : Go.Proofs.Try.f53.body = some _) (by kernel_rfl) (by kernel_rfl) fun k x y h => Eq.trans (by kernel_rfl : _ = spec.fn k x) h
end laws_eqNode

namespace laws_eqNodeS
def s0 (k : Nat) (rec0 : ((List (Int × Int × Int)) × (List (Int × Int × Int)) × Int) → Option (Bool)) (x0 : List (Int × Int × Int)) (x1 : List (Int × Int × Int)) (x2 : Int) : Option (Bool) := brB (iLt x2 (rLen x0)) (chk (cIdx x2 (rLen x0)) (chk (cIdx x2 (rLen x1)) (bnd (laws_eqNode.f k ((rGet (0, 0, 0) x0 x2).1) (((rGet (0, 0, 0) x0 x2).2).1) (((rGet (0, 0, 0) x0 x2).2).2) ((rGet (0, 0, 0) x1 x2).1) (((rGet (0, 0, 0) x1 x2).2).1) (((rGet (0, 0, 0) x1 x2).2).2)) fun y0 => brB (bNot y0) (some false) (rec0 (x0, x1, iAdd .i64 x2 1))))) (some true)
def l0 (k n : Nat) (x0 : List (Int × Int × Int)) (x1 : List (Int × Int × Int)) (x2 : Int) : Option (Bool) := iter (fun (rec : ((List (Int × Int × Int)) × (List (Int × Int × Int)) × Int) → Option (Bool)) (x : (List (Int × Int × Int)) × (List (Int × Int × Int)) × Int) => s0 k rec x.1 x.2.1 x.2.2) n (x0, x1, x2)
def f (k : Nat) (a0 : List (Int × Int × Int)) (a1 : List (Int × Int × Int)) : Option (Bool) := brB (iNe (rLen a0) (rLen a1)) (some false) (l0 k k a0 a1 0)
def sig : Sig := ⟨17, [.w false [.row (.pair I (.pair I I))], .w false [.row (.pair I (.pair I I))]], [(false, [.val .bool])]⟩
def H : Hints := ⟨[(4, ⟨⟨[(0, .w false 1), (1, .w false 1), (5, .w false 1)], []⟩, [], [.val (.row (.pair I (.pair I I))), .val (.row (.pair I (.pair I I))), .val I], []⟩)], [], [(6, [0, 0, 3, 7, 0, 0, 48, 112, 255, 511])], []⟩
def spec : Spec := ⟨sig, fun k (x : List (Int × Int × Int) × List (Int × Int × Int)) => f k x.1 x.2⟩
theorem ok : Holds Go.Proofs.Try.prog spec := holds_of_run (G := [laws_eqNode.spec]) (holds_cons laws_eqNode.ok holds_nil) (by kernel_rfl) H Go.Proofs.Try.func17 (by kernel_rfl) (rfl : Go.Proofs.Try.f17.body = some _) (by kernel_rfl) (by kernel_rfl) fun k x y h => Eq.trans (by kernel_rfl : _ = spec.fn k x) h
end laws_eqNodeS

namespace laws_eqBoolS
def s0 (k : Nat) (rec0 : (List Bool × List Bool × Int) → Option (Bool)) (x0 : List Bool) (x1 : List Bool) (x2 : Int) : Option (Bool) := brB (iLt x2 (rLen x0)) (chk (cIdx x2 (rLen x0)) (chk (cIdx x2 (rLen x1)) (brB (bNe (rGet false x0 x2) (rGet false x1 x2)) (some false) (rec0 (x0, x1, iAdd .i64 x2 1))))) (some true)
def l0 (k n : Nat) (x0 : List Bool) (x1 : List Bool) (x2 : Int) : Option (Bool) := iter (fun (rec : (List Bool × List Bool × Int) → Option (Bool)) (x : List Bool × List Bool × Int) => s0 k rec x.1 x.2.1 x.2.2) n (x0, x1, x2)
def f (k : Nat) (a0 : List Bool) (a1 : List Bool) : Option (Bool) := brB (iNe (rLen a0) (rLen a1)) (some false) (l0 k k a0 a1 0)
def sig : Sig := ⟨54, [.w false [.row .bool], .w false [.row .bool]], [(false, [.val .bool])]⟩
def H : Hints := ⟨[(4, ⟨⟨[(0, .w false 1), (1, .w false 1), (5, .w false 1)], []⟩, [], [.val (.row .bool), .val (.row .bool), .val I], []⟩)], [], [(6, [0, 0, 3, 7, 0, 0, 48, 112, 255])], []⟩
def spec : Spec := ⟨sig, fun k (x : List Bool × List Bool) => f k x.1 x.2⟩
theorem ok : Holds Go.Proofs.Try.prog spec := holds_of_run (G := []) holds_nil (by kernel_rfl) H Go.Proofs.Try.func54 (by kernel_rfl) (rfl : Go.Proofs.Try.f54.body = some _) (by kernel_rfl) (by kernel_rfl) fun k x y h => Eq.trans (by kernel_rfl : _ = spec.fn k x) h
end laws_eqBoolS

namespace laws_eqGuard
def f (k : Nat) (a0 : List Bool) (a1 : List Bool) : Option (Bool) := bnd (laws_eqBoolS.f k a0 a1) fun y0 => brB (bNot y0) (some false) (some true)
def sig : Sig := ⟨18, [.w true [.row .bool], .w true [.row .bool]], [(false, [.val .bool])]⟩
def H : Hints := ⟨[], [], [], []⟩
def spec : Spec := ⟨sig, fun k (x : List Bool × List Bool) => f k x.1 x.2⟩
theorem ok : Holds Go.Proofs.Try.prog spec := holds_of_run (G := [laws_eqBoolS.spec]) (holds_cons laws_eqBoolS.ok holds_nil) (by kernel_rfl) H Go.Proofs.Try.func18 (by kernel_rfl) (rfl : Go.Proofs.Try.f18.body = some _) (by kernel_rfl) (by kernel_rfl) fun k x y h => Eq.trans (by kernel_rfl : _ = spec.fn k x) h
end laws_eqGuard

namespace laws_markNodeS
def s0 (k : Nat) (rec0 : ((List (Int × Int × Int)) × Int × Int) → Option (Int × List (Int × Int × Int))) (x0 : List (Int × Int × Int)) (x1 : Int) (x2 : Int) : Option (Int × List (Int × Int × Int)) := brB (iLt x2 (rLen x0)) (chk (cIdx x2 (rLen x0)) (chk (cIdx x2 (rLen (rSet x0 x2 (x1, ((rGet (0, 0, 0) x0 x2).2).1, ((rGet (0, 0, 0) x0 x2).2).2)))) (chk (cIdx x2 (rLen (rSet (rSet x0 x2 (x1, ((rGet (0, 0, 0) x0 x2).2).1, ((rGet (0, 0, 0) x0 x2).2).2)) x2 ((rGet (0, 0, 0) (rSet x0 x2 (x1, ((rGet (0, 0, 0) x0 x2).2).1, ((rGet (0, 0, 0) x0 x2).2).2)) x2).1, iAdd .i64 x1 1, ((rGet (0, 0, 0) (rSet x0 x2 (x1, ((rGet (0, 0, 0) x0 x2).2).1, ((rGet (0, 0, 0) x0 x2).2).2)) x2).2).2)))) (rec0 (rSet (rSet (rSet x0 x2 (x1, ((rGet (0, 0, 0) x0 x2).2).1, ((rGet (0, 0, 0) x0 x2).2).2)) x2 ((rGet (0, 0, 0) (rSet x0 x2 (x1, ((rGet (0, 0, 0) x0 x2).2).1, ((rGet (0, 0, 0) x0 x2).2).2)) x2).1, iAdd .i64 x1 1, ((rGet (0, 0, 0) (rSet x0 x2 (x1, ((rGet (0, 0, 0) x0 x2).2).1, ((rGet (0, 0, 0) x0 x2).2).2)) x2).2).2)) x2 ((rGet (0, 0, 0) (rSet (rSet x0 x2 (x1, ((rGet (0, 0, 0) x0 x2).2).1, ((rGet (0, 0, 0) x0 x2).2).2)) x2 ((rGet (0, 0, 0) (rSet x0 x2 (x1, ((rGet (0, 0, 0) x0 x2).2).1, ((rGet (0, 0, 0) x0 x2).2).2)) x2).1, iAdd .i64 x1 1, ((rGet (0, 0, 0) (rSet x0 x2 (x1, ((rGet (0, 0, 0) x0 x2).2).1, ((rGet (0, 0, 0) x0 x2).2).2)) x2).2).2)) x2).1, ((rGet (0, 0, 0) (rSet (rSet x0 x2 (x1, ((rGet (0, 0, 0) x0 x2).2).1, ((rGet (0, 0, 0) x0 x2).2).2)) x2 ((rGet (0, 0, 0) (rSet x0 x2 (x1, ((rGet (0, 0, 0) x0 x2).2).1, ((rGet (0, 0, 0) x0 x2).2).2)) x2).1, iAdd .i64 x1 1, ((rGet (0, 0, 0) (rSet x0 x2 (x1, ((rGet (0, 0, 0) x0 x2).2).1, ((rGet (0, 0, 0) x0 x2).2).2)) x2).2).2)) x2).2).1, iAdd .i64 (iAdd .i64 x1 1) 1), iAdd .i64 (iAdd .i64 (iAdd .i64 x1 1) 1) 1, iAdd .i64 x2 1))))) (some (x1, x0))
def l0 (k n : Nat) (x0 : List (Int × Int × Int)) (x1 : Int) (x2 : Int) : Option (Int × List (Int × Int × Int)) := iter (fun (rec : ((List (Int × Int × Int)) × Int × Int) → Option (Int × List (Int × Int × Int))) (x : (List (Int × Int × Int)) × Int × Int) => s0 k rec x.1 x.2.1 x.2.2) n (x0, x1, x2)
def f (k : Nat) (a0 : List (Int × Int × Int)) (a1 : Int) : Option (Int × List (Int × Int × Int)) := l0 k k a0 a1 0
def sig : Sig := ⟨21, [.mut false [.row (.pair I (.pair I I))], .w false [I]], [(false, [.val I])]⟩
def H : Hints := ⟨[(2, ⟨⟨[(0, .w false 1), (1, .w false 1), (5, .w false 1)], []⟩, [], [.own (.pair I (.pair I I)), .val I, .val I], [0]⟩)], [], [], []⟩
def spec : Spec := ⟨sig, fun k (x : List (Int × Int × Int) × Int) => f k x.1 x.2⟩
theorem ok : Holds Go.Proofs.Try.prog spec := holds_of_run (G := []) holds_nil (by kernel_rfl) H Go.Proofs.Try.func21 (by kernel_rfl) (rfl : Go.Proofs.Try.f21.body = some _) (by kernel_rfl) (by kernel_rfl) fun k x y h => Eq.trans (by kernel_rfl : _ = spec.fn k x) h
end laws_markNodeS

namespace laws_markBoolS
def s0 (k : Nat) (rec0 : (List Bool × Int × Int) → Option (Int × List Bool)) (x0 : List Bool) (x1 : Int) (x2 : Int) : Option (Int × List Bool) := brB (iLt x2 (rLen x0)) (chk (cNz 3) (chk (cIdx x2 (rLen x0)) (rec0 (rSet x0 x2 (iEq (iRem x1 3) 0), iAdd .i64 x1 1, iAdd .i64 x2 1)))) (some (x1, x0))
def l0 (k n : Nat) (x0 : List Bool) (x1 : Int) (x2 : Int) : Option (Int × List Bool) := iter (fun (rec : (List Bool × Int × Int) → Option (Int × List Bool)) (x : List Bool × Int × Int) => s0 k rec x.1 x.2.1 x.2.2) n (x0, x1, x2)
def f (k : Nat) (a0 : List Bool) (a1 : Int) : Option (Int × List Bool) := l0 k k a0 a1 0
def sig : Sig := ⟨57, [.mut false [.row .bool], .w false [I]], [(false, [.val I])]⟩
def H : Hints := ⟨[(2, ⟨⟨[(0, .w false 1), (1, .w false 1), (5, .w false 1)], []⟩, [], [.own .bool, .val I, .val I], [0]⟩)], [], [], []⟩
def spec : Spec := ⟨sig, fun k (x : List Bool × Int) => f k x.1 x.2⟩
theorem ok : Holds Go.Proofs.Try.prog spec := holds_of_run (G := []) holds_nil (by kernel_rfl) H Go.Proofs.Try.func57 (by kernel_rfl) (rfl : Go.Proofs.Try.f57.body = some _) (by kernel_rfl) (by kernel_rfl) fun k x y h => Eq.trans (by kernel_rfl : _ = spec.fn k x) h
end laws_markBoolS

namespace laws_markGuard
def f (k : Nat) (a0 : List Bool) (a1 : Int) : Option (Int × List Bool) := bnd (laws_markBoolS.f k a0 a1) fun (y0, y1) => some (y0, y1)
def sig : Sig := ⟨22, [.mut true [.row .bool], .w false [I]], [(false, [.val I])]⟩
def H : Hints := ⟨[], [], [], []⟩
def spec : Spec := ⟨sig, fun k (x : List Bool × Int) => f k x.1 x.2⟩
theorem ok : Holds Go.Proofs.Try.prog spec := holds_of_run (G := [laws_markBoolS.spec]) (holds_cons laws_markBoolS.ok holds_nil) (by kernel_rfl) H Go.Proofs.Try.func22 (by kernel_rfl) (rfl : Go.Proofs.Try.f22.body = some _) (by kernel_rfl) (by kernel_rfl) fun k x y h => Eq.trans (by kernel_rfl : _ = spec.fn k x) h
end laws_markGuard

namespace spec_l19Ok
def f (k : Nat) (a0 : List (Int × Int × Int)) (a1 : Int) : Option (Bool) := bnd (spec_TreeOk.f k a0) fun y0 => brB y0 (bnd (spec_l01In.f k a1 0 (iSub .i64 (rLen a0) 1)) fun y1 => some y1) (some false)
def sig : Sig := ⟨98, [.w false [.row (.pair I (.pair I I))], .w false [I]], [(false, [.val .bool])]⟩
def H : Hints := ⟨[], [], [], []⟩
def spec : Spec := ⟨sig, fun k (x : List (Int × Int × Int) × Int) => f k x.1 x.2⟩
theorem ok : Holds Go.Proofs.Try.prog spec := holds_of_run (G := [spec_l01In.spec, spec_TreeOk.spec]) (holds_cons spec_l01In.ok (holds_cons spec_TreeOk.ok holds_nil)) (by kernel_rfl) H Go.Proofs.Try.func98 (by kernel_rfl) (rfl : Go.Proofs.Try.f98.body = some _) (by kernel_rfl) (by kernel_rfl) fun k x y h => Eq.trans (by kernel_rfl : _ = spec.fn k x) h
end spec_l19Ok

namespace spec_PathTo
def s0 (k : Nat) (rec0 : ((List (Int × Int × Int)) × Int × List Int) → Option (List Int)) (x0 : List (Int × Int × Int)) (x1 : Int) (x2 : List Int) : Option (List Int) := brB (iLe 0 x1) (chk (cLen (rLen (rApp [x1] x2)) 8) (chk (cIdx x1 (rLen x0)) (rec0 (x0, (rGet (0, 0, 0) x0 x1).1, rApp [x1] x2)))) (some x2)
def l0 (k n : Nat) (x0 : List (Int × Int × Int)) (x1 : Int) (x2 : List Int) : Option (List Int) := iter (fun (rec : ((List (Int × Int × Int)) × Int × List Int) → Option (List Int)) (x : (List (Int × Int × Int)) × Int × List Int) => s0 k rec x.1 x.2.1 x.2.2) n (x0, x1, x2)
def f (k : Nat) (a0 : List (Int × Int × Int)) (a1 : Int) : Option (List Int) := bnd (spec_l19Ok.f k a0 a1) fun y0 => brB (bNot y0) (some []) (l0 k k a0 a1 [])
def sig : Sig := ⟨88, [.w false [.row (.pair I (.pair I I))], .w false [I]], [(false, [.own I])]⟩
def H : Hints := ⟨[(4, ⟨⟨[(0, .w false 1), (1, .w false 1), (5, .w false 1)], []⟩, [], [.val (.row (.pair I (.pair I I))), .val I, .own I], []⟩)], [], [], []⟩
def spec : Spec := ⟨sig, fun k (x : List (Int × Int × Int) × Int) => f k x.1 x.2⟩
theorem ok : Holds Go.Proofs.Try.prog spec := holds_of_run (G := [spec_l19Ok.spec]) (holds_cons spec_l19Ok.ok holds_nil) (by kernel_rfl) H Go.Proofs.Try.func88 (by kernel_rfl) (rfl : Go.Proofs.Try.f88.body = some _) (by kernel_rfl) (by kernel_rfl) fun k x y h => Eq.trans (by kernel_rfl : _ = spec.fn k x) h
end spec_PathTo

namespace spec_PathBetween
def s1 (k : Nat) (rec1 : (List Int × List Int × List Int × Int × Int) → Option (List Int)) (x4 : List Int) (x5 : List Int) (x6 : List Int) (x7 : Int) (x8 : Int) : Option (List Int) := brB (iLe (iSub .i64 x7 1) x8) (chk (cIdx x8 (rLen x4)) (chk (cLen (rLen (rApp x6 [rGet 0 x4 x8])) 8) (rec1 (x4, x5, rApp x6 [rGet 0 x4 x8], x7, iSub .i64 x8 1)))) (chk (cSub x7 (rLen x5) (rLen x5)) (chk (cLen (rLen (rApp x6 (rSub x5 x7 (rLen x5)))) 8) (some (rApp x6 (rSub x5 x7 (rLen x5))))))
def l1 (k n : Nat) (x4 : List Int) (x5 : List Int) (x6 : List Int) (x7 : Int) (x8 : Int) : Option (List Int) := iter (fun (rec : (List Int × List Int × List Int × Int × Int) → Option (List Int)) (x : List Int × List Int × List Int × Int × Int) => s1 k rec x.1 x.2.1 x.2.2.1 x.2.2.2.1 x.2.2.2.2) n (x4, x5, x6, x7, x8)
def s2 (k : Nat) (rec2 : (List Int × List Int × List Int × Int × Int) → Option (List Int)) (x9 : List Int) (x10 : List Int) (x11 : List Int) (x12 : Int) (x13 : Int) : Option (List Int) := brB (iLe (iSub .i64 x12 1) x13) (chk (cIdx x13 (rLen x9)) (chk (cLen (rLen (rApp x11 [rGet 0 x9 x13])) 8) (rec2 (x9, x10, rApp x11 [rGet 0 x9 x13], x12, iSub .i64 x13 1)))) (chk (cSub x12 (rLen x10) (rLen x10)) (chk (cLen (rLen (rApp x11 (rSub x10 x12 (rLen x10)))) 8) (some (rApp x11 (rSub x10 x12 (rLen x10))))))
def l2 (k n : Nat) (x9 : List Int) (x10 : List Int) (x11 : List Int) (x12 : Int) (x13 : Int) : Option (List Int) := iter (fun (rec : (List Int × List Int × List Int × Int × Int) → Option (List Int)) (x : List Int × List Int × List Int × Int × Int) => s2 k rec x.1 x.2.1 x.2.2.1 x.2.2.2.1 x.2.2.2.2) n (x9, x10, x11, x12, x13)
def s3 (k : Nat) (rec3 : (List Int × List Int × List Int × Int × Int) → Option (List Int)) (x14 : List Int) (x15 : List Int) (x16 : List Int) (x17 : Int) (x18 : Int) : Option (List Int) := brB (iLe (iSub .i64 x17 1) x18) (chk (cIdx x18 (rLen x14)) (chk (cLen (rLen (rApp x16 [rGet 0 x14 x18])) 8) (rec3 (x14, x15, rApp x16 [rGet 0 x14 x18], x17, iSub .i64 x18 1)))) (chk (cSub x17 (rLen x15) (rLen x15)) (chk (cLen (rLen (rApp x16 (rSub x15 x17 (rLen x15)))) 8) (some (rApp x16 (rSub x15 x17 (rLen x15))))))
def l3 (k n : Nat) (x14 : List Int) (x15 : List Int) (x16 : List Int) (x17 : Int) (x18 : Int) : Option (List Int) := iter (fun (rec : (List Int × List Int × List Int × Int × Int) → Option (List Int)) (x : List Int × List Int × List Int × Int × Int) => s3 k rec x.1 x.2.1 x.2.2.1 x.2.2.2.1 x.2.2.2.2) n (x14, x15, x16, x17, x18)
def s0 (k : Nat) (rec0 : (List Int × List Int × List Int × Int) → Option (List Int)) (x0 : List Int) (x1 : List Int) (x2 : List Int) (x3 : Int) : Option (List Int) := brB (iLt x3 (rLen x0)) (brB (iLt x3 (rLen x1)) (chk (cIdx x3 (rLen x0)) (chk (cIdx x3 (rLen x1)) (brB (iEq (rGet 0 x0 x3) (rGet 0 x1 x3)) (rec0 (x0, x1, x2, iAdd .i64 x3 1)) (l1 k k x0 x1 x2 x3 (iSub .i64 (rLen x0) 1))))) (l2 k k x0 x1 x2 x3 (iSub .i64 (rLen x0) 1))) (l3 k k x0 x1 x2 x3 (iSub .i64 (rLen x0) 1))
def l0 (k n : Nat) (x0 : List Int) (x1 : List Int) (x2 : List Int) (x3 : Int) : Option (List Int) := iter (fun (rec : (List Int × List Int × List Int × Int) → Option (List Int)) (x : List Int × List Int × List Int × Int) => s0 k rec x.1 x.2.1 x.2.2.1 x.2.2.2) n (x0, x1, x2, x3)
def f (k : Nat) (a0 : List (Int × Int × Int)) (a1 : Int) (a2 : Int) : Option (List Int) := bnd (spec_PathTo.f k a0 a1) fun y0 => bnd (spec_PathTo.f k a0 a2) fun y1 => brB (iEq (rLen y0) 0) (some []) (brB (iEq (rLen y1) 0) (some []) (l0 k k y0 y1 [] 0))
def sig : Sig := ⟨65, [.w false [.row (.pair I (.pair I I))], .w false [I], .w false [I]], [(false, [.own I])]⟩
def H : Hints := ⟨[(7, ⟨⟨[(7, .w false 1), (8, .w false 1), (9, .w false 1), (10, .w false 1)], []⟩, [], [.own I, .own I, .own I, .val I], []⟩), (10, ⟨⟨[(7, .w false 1), (8, .w false 1), (9, .w false 1), (10, .w false 1), (11, .w false 1)], []⟩, [], [.own I, .own I, .own I, .val I, .val I], []⟩)], [], [(7, [0, 0, 2, 7, 15, 31, 31, 95, 255, 511, 1023, 2047, 2047, 8191, 16383, 2047, 2047, 100351, 231423, 524287, 1048575])], []⟩
def spec : Spec := ⟨sig, fun k (x : List (Int × Int × Int) × Int × Int) => f k x.1 x.2.1 x.2.2⟩
theorem ok : Holds Go.Proofs.Try.prog spec := holds_of_run (G := [spec_PathTo.spec]) (holds_cons spec_PathTo.ok holds_nil) (by kernel_rfl) H Go.Proofs.Try.func65 (by kernel_rfl) (rfl : Go.Proofs.Try.f65.body = some _) (by kernel_rfl) (by kernel_rfl) fun k x y h => Eq.trans (by kernel_rfl : _ = spec.fn k x) h
end spec_PathBetween

namespace spec_CanReach
def s0 (k : Nat) (rec0 : ((List (Int × Int × Int)) × List Int × Int × List Bool) → Option (Bool)) (x0 : List (Int × Int × Int)) (x1 : List Int) (x2 : Int) (x3 : List Bool) : Option (Bool) := brB (iLt (iAdd .i64 x2 1) (rLen x1)) (chk (cIdx x2 (rLen x1)) (chk (cIdx (iAdd .i64 x2 1) (rLen x1)) (chk (cIdx (rGet 0 x1 (iAdd .i64 x2 1)) (rLen x0)) (chk (cIdx x2 (rLen x1)) (brB (iEq ((rGet (0, 0, 0) x0 (rGet 0 x1 (iAdd .i64 x2 1))).1) (rGet 0 x1 x2)) (chk (cIdx (iAdd .i64 x2 1) (rLen x1)) (chk (cIdx (rGet 0 x1 (iAdd .i64 x2 1)) (rLen x3)) (brB (bNot (rGet false x3 (rGet 0 x1 (iAdd .i64 x2 1)))) (some false) (rec0 (x0, x1, iAdd .i64 x2 1, x3))))) (chk (cIdx (rGet 0 x1 x2) (rLen x3)) (brB (bNot (rGet false x3 (rGet 0 x1 x2))) (some false) (rec0 (x0, x1, iAdd .i64 x2 1, x3))))))))) (some true)
def l0 (k n : Nat) (x0 : List (Int × Int × Int)) (x1 : List Int) (x2 : Int) (x3 : List Bool) : Option (Bool) := iter (fun (rec : ((List (Int × Int × Int)) × List Int × Int × List Bool) → Option (Bool)) (x : (List (Int × Int × Int)) × List Int × Int × List Bool) => s0 k rec x.1 x.2.1 x.2.2.1 x.2.2.2) n (x0, x1, x2, x3)
def f (k : Nat) (a0 : List (Int × Int × Int)) (a1 : List Bool) (a2 : Int) (a3 : Int) : Option (Bool) := bnd (spec_PathBetween.f k a0 a2 a3) fun y0 => bnd (spec_GuardOk.f k a0 a1) fun y1 => brB (bNot y1) (some false) (brB (iEq (rLen y0) 0) (some false) (l0 k k a0 y0 0 a1))
def sig : Sig := ⟨32, [.w false [.row (.pair I (.pair I I))], .w true [.row .bool], .w false [I], .w false [I]], [(false, [.val .bool])]⟩
def H : Hints := ⟨[(5, ⟨⟨[(0, .w false 1), (5, .ptr 105 0), (9, .w false 1), (10, .w false 1)], [(105, 1)]⟩, [5], [.val (.row (.pair I (.pair I I))), .own I, .val I, .val (.row .bool)], []⟩)], [], [(8, [0, 0, 0, 4, 14, 30, 63, 127, 255, 0, 0, 1536, 3584, 8191])], []⟩
def spec : Spec := ⟨sig, fun k (x : List (Int × Int × Int) × List Bool × Int × Int) => f k x.1 x.2.1 x.2.2.1 x.2.2.2⟩
theorem ok : Holds Go.Proofs.Try.prog spec := holds_of_run (G := [spec_GuardOk.spec, spec_PathBetween.spec]) (holds_cons spec_GuardOk.ok (holds_cons spec_PathBetween.ok holds_nil)) (by kernel_rfl) H Go.Proofs.Try.func32 (by kernel_rfl) (rfl : Go.Proofs.Try.f32.body = some _) (by kernel_rfl) (by kernel_rfl) fun k x y h => Eq.trans (by kernel_rfl : _ = spec.fn k x) h
end spec_CanReach

namespace impl_isNode
def f (k : Nat) (a0 : List (Int × Int × Int)) (a1 : Int) : Option (Bool) := bnd (impl_TreeOk.f k a0) fun y0 => brB y0 (bnd (impl_within.f k a1 0 (iSub .i64 (rLen a0) 1)) fun y1 => some y1) (some false)
def sig : Sig := ⟨68, [.w false [.row (.pair I (.pair I I))], .w false [I]], [(false, [.val .bool])]⟩
def H : Hints := ⟨[], [], [], []⟩
def spec : Spec := ⟨sig, fun k (x : List (Int × Int × Int) × Int) => f k x.1 x.2⟩
theorem ok : Holds Go.Proofs.Try.prog spec := holds_of_run (G := [impl_within.spec, impl_TreeOk.spec]) (holds_cons impl_within.ok (holds_cons impl_TreeOk.ok holds_nil)) (by kernel_rfl) H Go.Proofs.Try.func68 (by kernel_rfl) (rfl : Go.Proofs.Try.f68.body = some _) (by kernel_rfl) (by kernel_rfl) fun k x y h => Eq.trans (by kernel_rfl : _ = spec.fn k x) h
end impl_isNode

namespace slices_Reverse_int
def s0 (k : Nat) (rec0 : (List Int × Int × Int) → Option (List Int)) (x0 : List Int) (x1 : Int) (x2 : Int) : Option (List Int) := brB (iLt x1 x2) (chk (cIdx x2 (rLen x0)) (chk (cIdx x1 (rLen x0)) (chk (cIdx x1 (rLen x0)) (chk (cIdx x2 (rLen (rSet x0 x1 (rGet 0 x0 x2)))) (rec0 (rSet (rSet x0 x1 (rGet 0 x0 x2)) x2 (rGet 0 x0 x1), iAdd .i64 x1 1, iSub .i64 x2 1)))))) (some x0)
def l0 (k n : Nat) (x0 : List Int) (x1 : Int) (x2 : Int) : Option (List Int) := iter (fun (rec : (List Int × Int × Int) → Option (List Int)) (x : List Int × Int × Int) => s0 k rec x.1 x.2.1 x.2.2) n (x0, x1, x2)
def f (k : Nat) (a0 : List Int) : Option (List Int) := l0 k k a0 0 (iSub .i64 (rLen a0) 1)
def sig : Sig := ⟨87, [.mut false [.row I]], []⟩
def H : Hints := ⟨[(1, ⟨⟨[(0, .w false 1), (2, .w false 1), (3, .w false 1)], []⟩, [], [.own I, .val I, .val I], [0]⟩)], [], [(3, [0, 0, 0, 0, 0, 0, 48, 112, 0, 0, 768, 1792, 4083, 8179, 16383, 32767])], []⟩
def spec : Spec := ⟨sig, fun k (x : List Int) => f k x⟩
theorem ok : Holds Go.Proofs.Try.prog spec := holds_of_run (G := []) holds_nil (by kernel_rfl) H Go.Proofs.Try.func87 (by kernel_rfl) (rfl : Go.Proofs.Try.f87.body = some _) (by kernel_rfl) (by kernel_rfl) fun k x y h => Eq.trans (by kernel_rfl : _ = spec.fn k x) h
end slices_Reverse_int

namespace impl_PathTo
def s0 (k : Nat) (rec0 : ((List (Int × Int × Int)) × Int × List Int) → Option (List Int)) (x0 : List (Int × Int × Int)) (x1 : Int) (x2 : List Int) : Option (List Int) := brB (iLe 0 x1) (chk (cLen (rLen (rApp x2 [x1])) 8) (chk (cIdx x1 (rLen x0)) (rec0 (x0, (rGet (0, 0, 0) x0 x1).1, rApp x2 [x1])))) (bnd (slices_Reverse_int.f k x2) fun y1 => some y1)
def l0 (k n : Nat) (x0 : List (Int × Int × Int)) (x1 : Int) (x2 : List Int) : Option (List Int) := iter (fun (rec : ((List (Int × Int × Int)) × Int × List Int) → Option (List Int)) (x : (List (Int × Int × Int)) × Int × List Int) => s0 k rec x.1 x.2.1 x.2.2) n (x0, x1, x2)
def f (k : Nat) (a0 : List (Int × Int × Int)) (a1 : Int) : Option (List Int) := bnd (impl_isNode.f k a0 a1) fun y0 => brB (bNot y0) (some []) (l0 k k a0 a1 [])
def sig : Sig := ⟨64, [.w false [.row (.pair I (.pair I I))], .w false [I]], [(false, [.own I])]⟩
def H : Hints := ⟨[(4, ⟨⟨[(0, .w false 1), (1, .w false 1), (5, .w false 1)], []⟩, [], [.val (.row (.pair I (.pair I I))), .val I, .own I], []⟩)], [], [], []⟩
def spec : Spec := ⟨sig, fun k (x : List (Int × Int × Int) × Int) => f k x.1 x.2⟩
theorem ok : Holds Go.Proofs.Try.prog spec := holds_of_run (G := [impl_isNode.spec, slices_Reverse_int.spec]) (holds_cons impl_isNode.ok (holds_cons slices_Reverse_int.ok holds_nil)) (by kernel_rfl) H Go.Proofs.Try.func64 (by kernel_rfl) (rfl : Go.Proofs.Try.f64.body = some _) (by kernel_rfl) (by kernel_rfl) fun k x y h => Eq.trans (by kernel_rfl : _ = spec.fn k x) h
end impl_PathTo

namespace slices_Clone_int
def f (k : Nat) (a0 : List Int) : Option (List Int) := chk (cLen (rLen a0) 8) (some a0)
def sig : Sig := cloneSig 89 I
def spec : Spec := ⟨sig, fun k (x : List Int) => f k x⟩
theorem ok : Holds Go.Proofs.Try.prog spec := clone_holds (u := I) (t := 45) (by kernel_rfl) Go.Proofs.Try.func89 (by kernel_rfl) (rfl : Go.Proofs.Try.f89.body = some _) (by kernel_rfl) (by kernel_rfl) Go.Proofs.Try.underlying45 ⟨rfl, rfl, rfl⟩ ⟨rfl, rfl, rfl⟩ ⟨rfl, rfl, _, rfl⟩ (fun l => cLen (rLen l) 8) (fun k => by kernel_rfl) (fun k l => by kernel_rfl)
end slices_Clone_int

namespace impl_PathBetween
def s0 (k : Nat) (rec0 : (List Int × List Int × Int) → Option (List Int)) (x0 : List Int) (x1 : List Int) (x2 : Int) : Option (List Int) := brB (iLt x2 (iMin (rLen x0) (rLen x1))) (chk (cIdx x2 (rLen x0)) (chk (cIdx x2 (rLen x1)) (brB (iEq (rGet 0 x0 x2) (rGet 0 x1 x2)) (rec0 (x0, x1, iAdd .i64 x2 1)) (chk (cSub (iSub .i64 x2 1) (rLen x0) (rLen x0)) (bnd (slices_Clone_int.f k (rSub x0 (iSub .i64 x2 1) (rLen x0))) fun y4 => bnd (slices_Reverse_int.f k y4) fun y5 => chk (cSub x2 (rLen x1) (rLen x1)) (chk (cLen (rLen (rApp y5 (rSub x1 x2 (rLen x1)))) 8) (some (rApp y5 (rSub x1 x2 (rLen x1)))))))))) (chk (cSub (iSub .i64 x2 1) (rLen x0) (rLen x0)) (bnd (slices_Clone_int.f k (rSub x0 (iSub .i64 x2 1) (rLen x0))) fun y6 => bnd (slices_Reverse_int.f k y6) fun y7 => chk (cSub x2 (rLen x1) (rLen x1)) (chk (cLen (rLen (rApp y7 (rSub x1 x2 (rLen x1)))) 8) (some (rApp y7 (rSub x1 x2 (rLen x1)))))))
def l0 (k n : Nat) (x0 : List Int) (x1 : List Int) (x2 : Int) : Option (List Int) := iter (fun (rec : (List Int × List Int × Int) → Option (List Int)) (x : List Int × List Int × Int) => s0 k rec x.1 x.2.1 x.2.2) n (x0, x1, x2)
def f (k : Nat) (a0 : List (Int × Int × Int)) (a1 : Int) (a2 : Int) : Option (List Int) := bnd (impl_isNode.f k a0 a1) fun y0 => brB (bNot y0) (some []) (bnd (impl_isNode.f k a0 a2) fun y1 => brB (bNot y1) (some []) (bnd (impl_PathTo.f k a0 a1) fun y2 => bnd (impl_PathTo.f k a0 a2) fun y3 => l0 k k y2 y3 0))
def sig : Sig := ⟨66, [.w false [.row (.pair I (.pair I I))], .w false [I], .w false [I]], [(false, [.own I])]⟩
def H : Hints := ⟨[(5, ⟨⟨[(7, .w false 1), (8, .w false 1), (9, .w false 1)], []⟩, [], [.own I, .own I, .val I], []⟩)], [], [(5, [0, 0, 2, 0, 8, 30, 63, 127, 255, 255, 1023, 2047, 255, 255, 12543, 28927, 65535, 131071])], []⟩
def spec : Spec := ⟨sig, fun k (x : List (Int × Int × Int) × Int × Int) => f k x.1 x.2.1 x.2.2⟩
theorem ok : Holds Go.Proofs.Try.prog spec := holds_of_run (G := [impl_isNode.spec, slices_Reverse_int.spec, impl_PathTo.spec, slices_Clone_int.spec]) (holds_cons impl_isNode.ok (holds_cons slices_Reverse_int.ok (holds_cons impl_PathTo.ok (holds_cons slices_Clone_int.ok holds_nil)))) (by kernel_rfl) H Go.Proofs.Try.func66 (by kernel_rfl) (rfl : Go.Proofs.Try.f66.body = some _) (by kernel_rfl) (by kernel_rfl) fun k x y h => Eq.trans (by kernel_rfl : _ = spec.fn k x) h
end impl_PathBetween

namespace impl_CanReach
def s0 (k : Nat) (rec0 : ((List (Int × Int × Int)) × List Int × Int × List Bool) → Option (Bool)) (x0 : List (Int × Int × Int)) (x1 : List Int) (x2 : Int) (x3 : List Bool) : Option (Bool) := brB (iLt x2 (rLen x1)) (chk (cIdx x2 (rLen x1)) (chk (cIdx (iSub .i64 x2 1) (rLen x1)) (chk (cIdx (rGet 0 x1 (iSub .i64 x2 1)) (rLen x0)) (chk (cIdx x2 (rLen x1)) (brB (iEq ((rGet (0, 0, 0) x0 (rGet 0 x1 (iSub .i64 x2 1))).1) (rGet 0 x1 x2)) (chk (cIdx (iSub .i64 x2 1) (rLen x1)) (chk (cIdx (rGet 0 x1 (iSub .i64 x2 1)) (rLen x3)) (brB (bNot (rGet false x3 (rGet 0 x1 (iSub .i64 x2 1)))) (some false) (rec0 (x0, x1, iAdd .i64 x2 1, x3))))) (chk (cIdx (rGet 0 x1 x2) (rLen x3)) (brB (bNot (rGet false x3 (rGet 0 x1 x2))) (some false) (rec0 (x0, x1, iAdd .i64 x2 1, x3))))))))) (some true)
def l0 (k n : Nat) (x0 : List (Int × Int × Int)) (x1 : List Int) (x2 : Int) (x3 : List Bool) : Option (Bool) := iter (fun (rec : ((List (Int × Int × Int)) × List Int × Int × List Bool) → Option (Bool)) (x : (List (Int × Int × Int)) × List Int × Int × List Bool) => s0 k rec x.1 x.2.1 x.2.2.1 x.2.2.2) n (x0, x1, x2, x3)
def f (k : Nat) (a0 : List (Int × Int × Int)) (a1 : List Bool) (a2 : Int) (a3 : Int) : Option (Bool) := bnd (impl_PathBetween.f k a0 a2 a3) fun y0 => bnd (impl_GuardOk.f k a0 a1) fun y1 => brB (bNot y1) (some false) (brB (iEq (rLen y0) 0) (some false) (l0 k k a0 y0 1 a1))
def sig : Sig := ⟨33, [.w false [.row (.pair I (.pair I I))], .w true [.row .bool], .w false [I], .w false [I]], [(false, [.val .bool])]⟩
def H : Hints := ⟨[(5, ⟨⟨[(0, .w false 1), (5, .ptr 105 0), (9, .w false 1), (10, .w false 1)], [(105, 1)]⟩, [5], [.val (.row (.pair I (.pair I I))), .own I, .val I, .val (.row .bool)], []⟩)], [], [(8, [0, 0, 0, 4, 14, 30, 63, 127, 255, 0, 0, 1536, 3584, 8191])], []⟩
def spec : Spec := ⟨sig, fun k (x : List (Int × Int × Int) × List Bool × Int × Int) => f k x.1 x.2.1 x.2.2.1 x.2.2.2⟩
theorem ok : Holds Go.Proofs.Try.prog spec := holds_of_run (G := [impl_GuardOk.spec, impl_PathBetween.spec]) (holds_cons impl_GuardOk.ok (holds_cons impl_PathBetween.ok holds_nil)) (by kernel_rfl) H Go.Proofs.Try.func33 (by kernel_rfl) (rfl : Go.Proofs.Try.f33.body = some _) (by kernel_rfl) (by kernel_rfl) fun k x y h => Eq.trans (by kernel_rfl : _ = spec.fn k x) h
end impl_CanReach

namespace laws_eqIntS
def s0 (k : Nat) (rec0 : (List Int × List Int × Int) → Option (Bool)) (x0 : List Int) (x1 : List Int) (x2 : Int) : Option (Bool) := brB (iLt x2 (rLen x0)) (chk (cIdx x2 (rLen x0)) (chk (cIdx x2 (rLen x1)) (brB (iNe (rGet 0 x0 x2) (rGet 0 x1 x2)) (some false) (rec0 (x0, x1, iAdd .i64 x2 1))))) (some true)
def l0 (k n : Nat) (x0 : List Int) (x1 : List Int) (x2 : Int) : Option (Bool) := iter (fun (rec : (List Int × List Int × Int) → Option (Bool)) (x : List Int × List Int × Int) => s0 k rec x.1 x.2.1 x.2.2) n (x0, x1, x2)
def f (k : Nat) (a0 : List Int) (a1 : List Int) : Option (Bool) := brB (iNe (rLen a0) (rLen a1)) (some false) (l0 k k a0 a1 0)
def sig : Sig := ⟨39, [.w false [.row I], .w false [.row I]], [(false, [.val .bool])]⟩
def H : Hints := ⟨[(4, ⟨⟨[(0, .w false 1), (1, .w false 1), (5, .w false 1)], []⟩, [], [.val (.row I), .val (.row I), .val I], []⟩)], [], [(6, [0, 0, 3, 7, 0, 0, 48, 112, 255])], []⟩
def spec : Spec := ⟨sig, fun k (x : List Int × List Int) => f k x.1 x.2⟩
theorem ok : Holds Go.Proofs.Try.prog spec := holds_of_run (G := []) holds_nil (by kernel_rfl) H Go.Proofs.Try.func39 (by kernel_rfl) (rfl : Go.Proofs.Try.f39.body = some _) (by kernel_rfl) (by kernel_rfl) fun k x y h => Eq.trans (by kernel_rfl : _ = spec.fn k x) h
end laws_eqIntS

namespace laws_markIntS
def s0 (k : Nat) (rec0 : (List Int × Int × Int) → Option (Int × List Int)) (x0 : List Int) (x1 : Int) (x2 : Int) : Option (Int × List Int) := brB (iLt x2 (rLen x0)) (chk (cIdx x2 (rLen x0)) (rec0 (rSet x0 x2 x1, iAdd .i64 x1 1, iAdd .i64 x2 1))) (some (x1, x0))
def l0 (k n : Nat) (x0 : List Int) (x1 : Int) (x2 : Int) : Option (Int × List Int) := iter (fun (rec : (List Int × Int × Int) → Option (Int × List Int)) (x : List Int × Int × Int) => s0 k rec x.1 x.2.1 x.2.2) n (x0, x1, x2)
def f (k : Nat) (a0 : List Int) (a1 : Int) : Option (Int × List Int) := l0 k k a0 a1 0
def sig : Sig := ⟨40, [.mut false [.row I], .w false [I]], [(false, [.val I])]⟩
def H : Hints := ⟨[(2, ⟨⟨[(0, .w false 1), (1, .w false 1), (5, .w false 1)], []⟩, [], [.own I, .val I, .val I], [0]⟩)], [], [], []⟩
def spec : Spec := ⟨sig, fun k (x : List Int × Int) => f k x.1 x.2⟩
theorem ok : Holds Go.Proofs.Try.prog spec := holds_of_run (G := []) holds_nil (by kernel_rfl) H Go.Proofs.Try.func40 (by kernel_rfl) (rfl : Go.Proofs.Try.f40.body = some _) (by kernel_rfl) (by kernel_rfl) fun k x y h => Eq.trans (by kernel_rfl : _ = spec.fn k x) h
end laws_markIntS

namespace laws_heldIntS
def s0 (k : Nat) (rec0 : (List Int × Int × Int) → Option (Int)) (x0 : List Int) (x1 : Int) (x2 : Int) : Option (Int) := brB (iLt x2 (rLen x0)) (chk (cIdx x2 (rLen x0)) (brB (iNe (rGet 0 x0 x2) x1) (some (-1)) (rec0 (x0, iAdd .i64 x1 1, iAdd .i64 x2 1)))) (some x1)
def l0 (k n : Nat) (x0 : List Int) (x1 : Int) (x2 : Int) : Option (Int) := iter (fun (rec : (List Int × Int × Int) → Option (Int)) (x : List Int × Int × Int) => s0 k rec x.1 x.2.1 x.2.2) n (x0, x1, x2)
def f (k : Nat) (a0 : List Int) (a1 : Int) : Option (Int) := l0 k k a0 a1 0
def sig : Sig := ⟨41, [.w false [.row I], .w false [I]], [(false, [.val I])]⟩
def H : Hints := ⟨[(2, ⟨⟨[(0, .w false 1), (1, .w false 1), (5, .w false 1)], []⟩, [], [.val (.row I), .val I, .val I], []⟩)], [], [], []⟩
def spec : Spec := ⟨sig, fun k (x : List Int × Int) => f k x.1 x.2⟩
theorem ok : Holds Go.Proofs.Try.prog spec := holds_of_run (G := []) holds_nil (by kernel_rfl) H Go.Proofs.Try.func41 (by kernel_rfl) (rfl : Go.Proofs.Try.f41.body = some _) (by kernel_rfl) (by kernel_rfl) fun k x y h => Eq.trans (by kernel_rfl : _ = spec.fn k x) h
end laws_heldIntS

namespace laws_szIntS
def f (k : Nat) (a0 : List Int) (a1 : Int) : Option (Int) := brB (iLt (iSub .i64 a1 (rLen a0)) 0) (some (-1)) (some (iSub .i64 a1 (rLen a0)))
def sig : Sig := ⟨76, [.w false [.row I], .w false [I]], [(false, [.val I])]⟩
def H : Hints := ⟨[], [], [], []⟩
def spec : Spec := ⟨sig, fun k (x : List Int × Int) => f k x.1 x.2⟩
theorem ok : Holds Go.Proofs.Try.prog spec := holds_of_run (G := []) holds_nil (by kernel_rfl) H Go.Proofs.Try.func76 (by kernel_rfl) (rfl : Go.Proofs.Try.f76.body = some _) (by kernel_rfl) (by kernel_rfl) fun k x y h => Eq.trans (by kernel_rfl : _ = spec.fn k x) h
end laws_szIntS

namespace laws_szPacket
def f (k : Nat) (a0_0 : Int) (a0_1 : Int) (a0_2 : Int) (a0_3 : Int) (a0_4 : Int) (a0_5 : Int) (a0_6 : Int) (a0_7 : List Int) (a1 : Int) : Option (Int) := bnd (laws_szIntS.f k a0_7 a1) fun y0 => brB (iLt y0 0) (some (-1)) (some y0)
def sig : Sig := ⟨42, [.w true [I, I, I, I, I, I, I, .row I], .w false [I]], [(false, [.val I])]⟩
def H : Hints := ⟨[], [], [], []⟩
def spec : Spec := ⟨sig, fun k (x : Int × Int × Int × Int × Int × Int × Int × List Int × Int) => f k x.1 x.2.1 x.2.2.1 x.2.2.2.1 x.2.2.2.2.1 x.2.2.2.2.2.1 x.2.2.2.2.2.2.1 x.2.2.2.2.2.2.2.1 x.2.2.2.2.2.2.2.2⟩
theorem ok : Holds Go.Proofs.Try.prog spec := holds_of_run (G := [laws_szIntS.spec]) (holds_cons laws_szIntS.ok holds_nil) (by kernel_rfl) H Go.Proofs.Try.func42 (by kernel_rfl) (rfl : Go.Proofs.Try.f42.body = some _) (by kernel_rfl) (by kernel_rfl) fun k x y h => Eq.trans (by kernel_rfl : _ = spec.fn k x) h
end laws_szPacket

namespace laws_toIntS
def s0 (k : Nat) (rec0 : (List Int × List Int × Int) → Option (List Int)) (x0 : List Int) (x1 : List Int) (x2 : Int) : Option (List Int) := brB (iLt x2 (rLen x0)) (chk (cIdx x2 (rLen x0)) (chk (cIdx x2 (rLen x1)) (rec0 (x0, rSet x1 x2 (rGet 0 x0 x2), iAdd .i64 x2 1)))) (some x1)
def l0 (k n : Nat) (x0 : List Int) (x1 : List Int) (x2 : Int) : Option (List Int) := iter (fun (rec : (List Int × List Int × Int) → Option (List Int)) (x : List Int × List Int × Int) => s0 k rec x.1 x.2.1 x.2.2) n (x0, x1, x2)
def f (k : Nat) (a0 : List Int) : Option (List Int) := chk (cMake (rLen a0) (rLen a0) 8) (l0 k k a0 (rRep 0 (rLen a0)) 0)
def sig : Sig := ⟨79, [.w false [.row I]], [(false, [.own I])]⟩
def H : Hints := ⟨[(3, ⟨⟨[(0, .w false 1), (3, .w false 1), (4, .w false 1)], []⟩, [], [.val (.row I), .own I, .val I], []⟩)], [], [], []⟩
def spec : Spec := ⟨sig, fun k (x : List Int) => f k x⟩
theorem ok : Holds Go.Proofs.Try.prog spec := holds_of_run (G := []) holds_nil (by kernel_rfl) H Go.Proofs.Try.func79 (by kernel_rfl) (rfl : Go.Proofs.Try.f79.body = some _) (by kernel_rfl) (by kernel_rfl) fun k x y h => Eq.trans (by kernel_rfl : _ = spec.fn k x) h
end laws_toIntS

namespace laws_toPacket
def f (k : Nat) (a0_0 : Int) (a0_1 : Int) (a0_2 : Int) (a0_3 : Int) (a0_4 : Int) (a0_5 : Int) (a0_6 : Int) (a0_7 : List Int) : Option (Int × Int × Int × Int × Int × Int × Int × List Int) := bnd (laws_toIntS.f k a0_7) fun y0 => some (a0_0, a0_1, a0_2, a0_3, a0_4, a0_5, a0_6, y0)
def sig : Sig := ⟨44, [.w true [I, I, I, I, I, I, I, .row I]], [(true, [.val I, .val I, .val I, .val I, .val I, .val I, .val I, .own I])]⟩
def H : Hints := ⟨[], [], [], []⟩
def spec : Spec := ⟨sig, fun k (x : Int × Int × Int × Int × Int × Int × Int × List Int) => f k x.1 x.2.1 x.2.2.1 x.2.2.2.1 x.2.2.2.2.1 x.2.2.2.2.2.1 x.2.2.2.2.2.2.1 x.2.2.2.2.2.2.2⟩
theorem ok : Holds Go.Proofs.Try.prog spec := holds_of_run (G := [laws_toIntS.spec]) (holds_cons laws_toIntS.ok holds_nil) (by kernel_rfl) H Go.Proofs.Try.func44 (by kernel_rfl) (rfl : Go.Proofs.Try.f44.body = some _) (by kernel_rfl) (by kernel_rfl) fun k x y h => Eq.trans (by kernel_rfl : _ = spec.fn k x) h
end laws_toPacket

namespace spec_IsId
def f (k : Nat) (a0 : Int) : Option (Bool) := bnd (spec_l01In.f k a0 0 255) fun y0 => some y0
def sig : Sig := ⟨96, [.w false [I]], [(false, [.val .bool])]⟩
def H : Hints := ⟨[], [], [], []⟩
def spec : Spec := ⟨sig, fun k (x : Int) => f k x⟩
theorem ok : Holds Go.Proofs.Try.prog spec := holds_of_run (G := [spec_l01In.spec]) (holds_cons spec_l01In.ok holds_nil) (by kernel_rfl) H Go.Proofs.Try.func96 (by kernel_rfl) (rfl : Go.Proofs.Try.f96.body = some _) (by kernel_rfl) (by kernel_rfl) fun k x y h => Eq.trans (by kernel_rfl : _ = spec.fn k x) h
end spec_IsId

namespace spec_l04Words
def s0 (k : Nat) (rec0 : (List Int × Int) → Option (Bool)) (x0 : List Int) (x1 : Int) : Option (Bool) := brB (iLt x1 (rLen x0)) (chk (cIdx x1 (rLen x0)) (bnd (spec_l01In.f k (rGet 0 x0 x1) 0 65535) fun y0 => brB (bNot y0) (some false) (rec0 (x0, iAdd .i64 x1 1)))) (some true)
def l0 (k n : Nat) (x0 : List Int) (x1 : Int) : Option (Bool) := iter (fun (rec : (List Int × Int) → Option (Bool)) (x : List Int × Int) => s0 k rec x.1 x.2) n (x0, x1)
def f (k : Nat) (a0 : List Int) : Option (Bool) := l0 k k a0 0
def sig : Sig := ⟨101, [.w false [.row I]], [(false, [.val .bool])]⟩
def H : Hints := ⟨[(2, ⟨⟨[(0, .w false 1), (3, .w false 1)], []⟩, [], [.val (.row I), .val I], []⟩)], [], [], []⟩
def spec : Spec := ⟨sig, fun k (x : List Int) => f k x⟩
theorem ok : Holds Go.Proofs.Try.prog spec := holds_of_run (G := [spec_l01In.spec]) (holds_cons spec_l01In.ok holds_nil) (by kernel_rfl) H Go.Proofs.Try.func101 (by kernel_rfl) (rfl : Go.Proofs.Try.f101.body = some _) (by kernel_rfl) (by kernel_rfl) fun k x y h => Eq.trans (by kernel_rfl : _ = spec.fn k x) h
end spec_l04Words

namespace spec_l04Zero
def f (k : Nat) (a0_0 : Int) (a0_1 : Int) (a0_2 : Int) (a0_3 : Int) (a0_4 : Int) (a0_5 : Int) (a0_6 : Int) (a0_7 : List Int) (a1 : Bool) (a2 : Bool) (a3 : Bool) : Option (Bool) := brB a1 (brB a2 (brB a3 (some true) (some (iEq a0_5 0))) (brB (iEq a0_4 0) (brB a3 (some true) (some (iEq a0_5 0))) (some false))) (brB (iEq a0_2 0) (brB a2 (brB a3 (some true) (some (iEq a0_5 0))) (brB (iEq a0_4 0) (brB a3 (some true) (some (iEq a0_5 0))) (some false))) (some false))
def sig : Sig := ⟨102, [.w true [I, I, I, I, I, I, I, .row I], .w false [.bool], .w false [.bool], .w false [.bool]], [(false, [.val .bool])]⟩
def H : Hints := ⟨[], [], [], []⟩
def spec : Spec := ⟨sig, fun k (x : Int × Int × Int × Int × Int × Int × Int × List Int × Bool × Bool × Bool) => f k x.1 x.2.1 x.2.2.1 x.2.2.2.1 x.2.2.2.2.1 x.2.2.2.2.2.1 x.2.2.2.2.2.2.1 x.2.2.2.2.2.2.2.1 x.2.2.2.2.2.2.2.2.1 x.2.2.2.2.2.2.2.2.2.1 x.2.2.2.2.2.2.2.2.2.2⟩
theorem ok : Holds Go.Proofs.Try.prog spec := holds_of_run (G := []) holds_nil (by kernel_rfl) H Go.Proofs.Try.func102 (by kernel_rfl) (rfl : Go.Proofs.Try.f102.body = some _) (by kernel_rfl) (by kernel_rfl) fun k x y h => Eq.trans (by kernel_rfl : _ = spec.fn k x) h
end spec_l04Zero

namespace spec_IsPacket
def f (k : Nat) (a0_0 : Int) (a0_1 : Int) (a0_2 : Int) (a0_3 : Int) (a0_4 : Int) (a0_5 : Int) (a0_6 : Int) (a0_7 : List Int) : Option (Bool) := bnd (spec_IsId.f k a0_1) fun y0 => brB (bNot y0) (some false) (bnd (spec_l04Words.f k a0_7) fun y1 => brB (bNot y1) (some false) (brB (iEq a0_0 1) (bnd (spec_l01In.f k (rLen a0_7) 1 8) fun y2 => brB y2 (bnd (spec_l01In.f k a0_3 0 (iSub .i64 65536 (rLen a0_7))) fun y3 => brB y3 (brB (iEq a0_6 0) (bnd (spec_l04Zero.f k a0_0 a0_1 a0_2 a0_3 a0_4 a0_5 a0_6 a0_7 false false false) fun y4 => some y4) (some false)) (some false)) (some false)) (brB (iEq a0_0 2) (bnd (spec_l01In.f k (rLen a0_7) 1 8) fun y5 => brB y5 (brB (iEq a0_3 0) (brB (iEq a0_6 0) (bnd (spec_l04Zero.f k a0_0 a0_1 a0_2 a0_3 a0_4 a0_5 a0_6 a0_7 false false false) fun y6 => some y6) (some false)) (some false)) (some false)) (brB (iEq a0_0 3) (brB (iEq (rLen a0_7) 0) (bnd (spec_l01In.f k a0_4 1 64) fun y7 => brB y7 (bnd (spec_l01In.f k a0_3 0 (iSub .i64 65536 a0_4)) fun y8 => brB y8 (bnd (spec_l01In.f k a0_5 0 7) fun y9 => brB y9 (brB (iEq a0_6 0) (bnd (spec_l04Zero.f k a0_0 a0_1 a0_2 a0_3 a0_4 a0_5 a0_6 a0_7 false true true) fun y10 => some y10) (some false)) (some false)) (some false)) (some false)) (some false)) (brB (iEq a0_0 4) (brB (iEq (rLen a0_7) 0) (bnd (spec_l01In.f k a0_3 0 63) fun y11 => brB y11 (bnd (spec_IsId.f k a0_2) fun y12 => brB y12 (bnd (spec_l01In.f k a0_5 0 7) fun y13 => brB y13 (brB (iEq a0_6 0) (bnd (spec_l04Zero.f k a0_0 a0_1 a0_2 a0_3 a0_4 a0_5 a0_6 a0_7 true false true) fun y14 => some y14) (some false)) (some false)) (some false)) (some false)) (some false)) (brB (iEq a0_0 5) (brB (iEq (rLen a0_7) 1) (bnd (spec_l01In.f k a0_3 0 63) fun y15 => brB y15 (bnd (spec_IsId.f k a0_2) fun y16 => brB y16 (bnd (spec_l01In.f k a0_5 0 7) fun y17 => brB y17 (brB (iEq a0_6 0) (bnd (spec_l04Zero.f k a0_0 a0_1 a0_2 a0_3 a0_4 a0_5 a0_6 a0_7 true false true) fun y18 => some y18) (some false)) (some false)) (some false)) (some false)) (some false)) (brB (iEq a0_0 6) (brB (iNe a0_3 0) (some false) (bnd (spec_IsId.f k a0_2) fun y19 => brB (bNot y19) (some false) (bnd (spec_l01In.f k a0_5 0 7) fun y20 => brB (bNot y20) (some false) (bnd (spec_l01In.f k a0_6 0 2) fun y21 => brB (bNot y21) (some false) (bnd (spec_l01In.f k a0_4 0 64) fun y22 => brB (bNot y22) (some false) (brB (iEq (rLen a0_7) 0) (some true) (brB (iEq a0_6 0) (some (iLe (rLen a0_7) (iMin 8 a0_4))) (some false)))))))) (some false))))))))
def sig : Sig := ⟨100, [.w true [I, I, I, I, I, I, I, .row I]], [(false, [.val .bool])]⟩
def H : Hints := ⟨[], [], [], []⟩
def spec : Spec := ⟨sig, fun k (x : Int × Int × Int × Int × Int × Int × Int × List Int) => f k x.1 x.2.1 x.2.2.1 x.2.2.2.1 x.2.2.2.2.1 x.2.2.2.2.2.1 x.2.2.2.2.2.2.1 x.2.2.2.2.2.2.2⟩
theorem ok : Holds Go.Proofs.Try.prog spec := holds_of_run (G := [spec_l01In.spec, spec_IsId.spec, spec_l04Words.spec, spec_l04Zero.spec]) (holds_cons spec_l01In.ok (holds_cons spec_IsId.ok (holds_cons spec_l04Words.ok (holds_cons spec_l04Zero.ok holds_nil)))) (by kernel_rfl) H Go.Proofs.Try.func100 (by kernel_rfl) (rfl : Go.Proofs.Try.f100.body = some _) (by kernel_rfl) (by kernel_rfl) fun k x y h => Eq.trans (by kernel_rfl : _ = spec.fn k x) h
end spec_IsPacket

namespace spec_ClassOf
def f (k : Nat) (a0_0 : Int) (a0_1 : Int) (a0_2 : Int) (a0_3 : Int) (a0_4 : Int) (a0_5 : Int) (a0_6 : Int) (a0_7 : List Int) : Option (Int) := bnd (spec_IsPacket.f k a0_0 a0_1 a0_2 a0_3 a0_4 a0_5 a0_6 a0_7) fun y0 => brB (bNot y0) (some (-1)) (brB (iEq a0_0 1) (brB (iEq a0_0 1) (some 0) (brB (iEq a0_0 6) (some 2) (some 1))) (brB (iEq a0_0 2) (some 0) (brB (iEq a0_0 6) (some 2) (some 1))))
def sig : Sig := ⟨95, [.w true [I, I, I, I, I, I, I, .row I]], [(false, [.val I])]⟩
def H : Hints := ⟨[], [], [], []⟩
def spec : Spec := ⟨sig, fun k (x : Int × Int × Int × Int × Int × Int × Int × List Int) => f k x.1 x.2.1 x.2.2.1 x.2.2.2.1 x.2.2.2.2.1 x.2.2.2.2.2.1 x.2.2.2.2.2.2.1 x.2.2.2.2.2.2.2⟩
theorem ok : Holds Go.Proofs.Try.prog spec := holds_of_run (G := [spec_IsPacket.spec]) (holds_cons spec_IsPacket.ok holds_nil) (by kernel_rfl) H Go.Proofs.Try.func95 (by kernel_rfl) (rfl : Go.Proofs.Try.f95.body = some _) (by kernel_rfl) (by kernel_rfl) fun k x y h => Eq.trans (by kernel_rfl : _ = spec.fn k x) h
end spec_ClassOf

namespace spec_RefusalOf
def f (k : Nat) (a0_0 : Int) (a0_1 : Int) (a0_2 : Int) (a0_3 : Int) (a0_4 : Int) (a0_5 : Int) (a0_6 : Int) (a0_7 : List Int) (a1 : Int) (a2 : Int) : Option (Int × Int × Int × Int × Int × Int × Int × List Int × Bool) := bnd (spec_ClassOf.f k a0_0 a0_1 a0_2 a0_3 a0_4 a0_5 a0_6 a0_7) fun y0 => brB (iNe y0 1) (some (0, 0, 0, 0, 0, 0, 0, [], false)) (bnd (spec_IsId.f k a1) fun y1 => brB (bNot y1) (some (0, 0, 0, 0, 0, 0, 0, [], false)) (bnd (spec_l01In.f k a2 1 2) fun y2 => brB (bNot y2) (some (0, 0, 0, 0, 0, 0, 0, [], false)) (some (6, a1, a0_1, 0, 0, a0_5, a2, [], true))))
def sig : Sig := ⟨78, [.w true [I, I, I, I, I, I, I, .row I], .w false [I], .w false [I]], [(true, [.val I, .val I, .val I, .val I, .val I, .val I, .val I, .own I]), (false, [.val .bool])]⟩
def H : Hints := ⟨[], [], [], []⟩
def spec : Spec := ⟨sig, fun k (x : Int × Int × Int × Int × Int × Int × Int × List Int × Int × Int) => f k x.1 x.2.1 x.2.2.1 x.2.2.2.1 x.2.2.2.2.1 x.2.2.2.2.2.1 x.2.2.2.2.2.2.1 x.2.2.2.2.2.2.2.1 x.2.2.2.2.2.2.2.2.1 x.2.2.2.2.2.2.2.2.2⟩
theorem ok : Holds Go.Proofs.Try.prog spec := holds_of_run (G := [spec_l01In.spec, spec_IsId.spec, spec_ClassOf.spec]) (holds_cons spec_l01In.ok (holds_cons spec_IsId.ok (holds_cons spec_ClassOf.ok holds_nil))) (by kernel_rfl) H Go.Proofs.Try.func78 (by kernel_rfl) (rfl : Go.Proofs.Try.f78.body = some _) (by kernel_rfl) (by kernel_rfl) fun k x y h => Eq.trans (by kernel_rfl : _ = spec.fn k x) h
end spec_RefusalOf

namespace spec_AnswerFor
def f (k : Nat) (a0 : List (Int × Int × Int)) (a1 : List Bool) (a2_0 : Int) (a2_1 : Int) (a2_2 : Int) (a2_3 : Int) (a2_4 : Int) (a2_5 : Int) (a2_6 : Int) (a2_7 : List Int) (a3 : Int) (a4 : Int) : Option (Int × Int × Int × Int × Int × Int × Int × List Int × Bool) := bnd (spec_GuardOk.f k a0 a1) fun y0 => brB (bNot y0) (some (0, 0, 0, 0, 0, 0, 0, [], false)) (bnd (spec_l01In.f k a3 0 (iSub .i64 (rLen a0) 1)) fun y1 => brB (bNot y1) (some (0, 0, 0, 0, 0, 0, 0, [], false)) (bnd (spec_l01In.f k a4 0 (iSub .i64 (rLen a0) 1)) fun y2 => brB (bNot y2) (some (0, 0, 0, 0, 0, 0, 0, [], false)) (bnd (spec_CanReach.f k a0 a1 a3 a4) fun y3 => brB y3 (some (0, 0, 0, 0, 0, 0, 0, [], false)) (bnd (spec_RefusalOf.f k a2_0 a2_1 a2_2 a2_3 a2_4 a2_5 a2_6 a2_7 a2_1 1) fun (y4, y5, y6, y7, y8, y9, y10, y11, y12) => some (y4, y5, y6, y7, y8, y9, y10, y11, y12)))))
def sig : Sig := ⟨43, [.w false [.row (.pair I (.pair I I))], .w true [.row .bool], .w true [I, I, I, I, I, I, I, .row I], .w false [I], .w false [I]], [(true, [.val I, .val I, .val I, .val I, .val I, .val I, .val I, .own I]), (false, [.val .bool])]⟩
def H : Hints := ⟨[], [], [], []⟩
def spec : Spec := ⟨sig, fun k (x : List (Int × Int × Int) × List Bool × Int × Int × Int × Int × Int × Int × Int × List Int × Int × Int) => f k x.1 x.2.1 x.2.2.1 x.2.2.2.1 x.2.2.2.2.1 x.2.2.2.2.2.1 x.2.2.2.2.2.2.1 x.2.2.2.2.2.2.2.1 x.2.2.2.2.2.2.2.2.1 x.2.2.2.2.2.2.2.2.2.1 x.2.2.2.2.2.2.2.2.2.2.1 x.2.2.2.2.2.2.2.2.2.2.2⟩
theorem ok : Holds Go.Proofs.Try.prog spec := holds_of_run (G := [spec_l01In.spec, spec_GuardOk.spec, spec_CanReach.spec, spec_RefusalOf.spec]) (holds_cons spec_l01In.ok (holds_cons spec_GuardOk.ok (holds_cons spec_CanReach.ok (holds_cons spec_RefusalOf.ok holds_nil)))) (by kernel_rfl) H Go.Proofs.Try.func43 (by kernel_rfl) (rfl : Go.Proofs.Try.f43.body = some _) (by kernel_rfl) (by kernel_rfl) fun k x y h => Eq.trans (by kernel_rfl : _ = spec.fn k x) h
end spec_AnswerFor

namespace impl_IsId
def f (k : Nat) (a0 : Int) : Option (Bool) := bnd (impl_within.f k a0 0 255) fun y0 => some y0
def sig : Sig := ⟨72, [.w false [I]], [(false, [.val .bool])]⟩
def H : Hints := ⟨[], [], [], []⟩
def spec : Spec := ⟨sig, fun k (x : Int) => f k x⟩
theorem ok : Holds Go.Proofs.Try.prog spec := holds_of_run (G := [impl_within.spec]) (holds_cons impl_within.ok holds_nil) (by kernel_rfl) H Go.Proofs.Try.func72 (by kernel_rfl) (rfl : Go.Proofs.Try.f72.body = some _) (by kernel_rfl) (by kernel_rfl) fun k x y h => Eq.trans (by kernel_rfl : _ = spec.fn k x) h
end impl_IsId

namespace impl_Packet__words
def f (k : Nat) (a0_0 : Int) (a0_1 : Int) (a0_2 : Int) (a0_3 : Int) (a0_4 : Int) (a0_5 : Int) (a0_6 : Int) (a0_7 : List Int) : Option (Int) := brB (iEq a0_0 3) (some a0_4) (some (rLen a0_7))
def sig : Sig := ⟨91, [.w true [I, I, I, I, I, I, I, .row I]], [(false, [.val I])]⟩
def H : Hints := ⟨[], [], [], []⟩
def spec : Spec := ⟨sig, fun k (x : Int × Int × Int × Int × Int × Int × Int × List Int) => f k x.1 x.2.1 x.2.2.1 x.2.2.2.1 x.2.2.2.2.1 x.2.2.2.2.2.1 x.2.2.2.2.2.2.1 x.2.2.2.2.2.2.2⟩
theorem ok : Holds Go.Proofs.Try.prog spec := holds_of_run (G := []) holds_nil (by kernel_rfl) H Go.Proofs.Try.func91 (by kernel_rfl) (rfl : Go.Proofs.Try.f91.body = some _) (by kernel_rfl) (by kernel_rfl) fun k x y h => Eq.trans (by kernel_rfl : _ = spec.fn k x) h
end impl_Packet__words

namespace impl_Packet__addressOk
def f (k : Nat) (a0_0 : Int) (a0_1 : Int) (a0_2 : Int) (a0_3 : Int) (a0_4 : Int) (a0_5 : Int) (a0_6 : Int) (a0_7 : List Int) : Option (Bool) := brB (iEq a0_0 1) (brB (iEq a0_0 1) (bnd (impl_within.f k a0_3 0 65535) fun y0 => brB y0 (bnd (impl_Packet__words.f k a0_0 a0_1 a0_2 a0_3 a0_4 a0_5 a0_6 a0_7) fun y1 => some (iLe y1 (iSub .i64 65536 a0_3))) (some false)) (brB (iEq a0_0 4) (brB (iEq a0_0 4) (bnd (impl_within.f k a0_3 0 63) fun y2 => some y2) (some (iEq a0_3 0))) (brB (iEq a0_0 5) (bnd (impl_within.f k a0_3 0 63) fun y3 => some y3) (some (iEq a0_3 0))))) (brB (iEq a0_0 3) (bnd (impl_within.f k a0_3 0 65535) fun y4 => brB y4 (bnd (impl_Packet__words.f k a0_0 a0_1 a0_2 a0_3 a0_4 a0_5 a0_6 a0_7) fun y5 => some (iLe y5 (iSub .i64 65536 a0_3))) (some false)) (brB (iEq a0_0 4) (brB (iEq a0_0 4) (bnd (impl_within.f k a0_3 0 63) fun y6 => some y6) (some (iEq a0_3 0))) (brB (iEq a0_0 5) (bnd (impl_within.f k a0_3 0 63) fun y7 => some y7) (some (iEq a0_3 0)))))
def sig : Sig := ⟨73, [.w true [I, I, I, I, I, I, I, .row I]], [(false, [.val .bool])]⟩
def H : Hints := ⟨[], [], [(4, [0, 1, 3, 7, 15, 31, 15, 79, 207, 511, 1023, 2047])], []⟩
def spec : Spec := ⟨sig, fun k (x : Int × Int × Int × Int × Int × Int × Int × List Int) => f k x.1 x.2.1 x.2.2.1 x.2.2.2.1 x.2.2.2.2.1 x.2.2.2.2.2.1 x.2.2.2.2.2.2.1 x.2.2.2.2.2.2.2⟩
theorem ok : Holds Go.Proofs.Try.prog spec := holds_of_run (G := [impl_within.spec, impl_Packet__words.spec]) (holds_cons impl_within.ok (holds_cons impl_Packet__words.ok holds_nil)) (by kernel_rfl) H Go.Proofs.Try.func73 (by kernel_rfl) (rfl : Go.Proofs.Try.f73.body = some _) (by kernel_rfl) (by kernel_rfl) fun k x y h => Eq.trans (by kernel_rfl : _ = spec.fn k x) h
end impl_Packet__addressOk

namespace impl_Packet__lengthOk
def f (k : Nat) (a0_0 : Int) (a0_1 : Int) (a0_2 : Int) (a0_3 : Int) (a0_4 : Int) (a0_5 : Int) (a0_6 : Int) (a0_7 : List Int) : Option (Bool) := brB (iEq a0_0 3) (bnd (impl_within.f k a0_4 1 64) fun y0 => some y0) (brB (iEq a0_0 6) (bnd (impl_within.f k a0_4 0 64) fun y1 => some y1) (some (iEq a0_4 0)))
def sig : Sig := ⟨74, [.w true [I, I, I, I, I, I, I, .row I]], [(false, [.val .bool])]⟩
def H : Hints := ⟨[], [], [], []⟩
def spec : Spec := ⟨sig, fun k (x : Int × Int × Int × Int × Int × Int × Int × List Int) => f k x.1 x.2.1 x.2.2.1 x.2.2.2.1 x.2.2.2.2.1 x.2.2.2.2.2.1 x.2.2.2.2.2.2.1 x.2.2.2.2.2.2.2⟩
theorem ok : Holds Go.Proofs.Try.prog spec := holds_of_run (G := [impl_within.spec]) (holds_cons impl_within.ok holds_nil) (by kernel_rfl) H Go.Proofs.Try.func74 (by kernel_rfl) (rfl : Go.Proofs.Try.f74.body = some _) (by kernel_rfl) (by kernel_rfl) fun k x y h => Eq.trans (by kernel_rfl : _ = spec.fn k x) h
end impl_Packet__lengthOk

namespace impl_isWord
def f (k : Nat) (a0 : Int) : Option (Bool) := bnd (impl_within.f k a0 0 65535) fun y0 => some y0
def sig : Sig := ⟨94, [.w false [I]], [(false, [.val .bool])]⟩
def H : Hints := ⟨[], [], [], []⟩
def spec : Spec := ⟨sig, fun k (x : Int) => f k x⟩
theorem ok : Holds Go.Proofs.Try.prog spec := holds_of_run (G := [impl_within.spec]) (holds_cons impl_within.ok holds_nil) (by kernel_rfl) H Go.Proofs.Try.func94 (by kernel_rfl) (rfl : Go.Proofs.Try.f94.body = some _) (by kernel_rfl) (by kernel_rfl) fun k x y h => Eq.trans (by kernel_rfl : _ = spec.fn k x) h
end impl_isWord

namespace impl_Packet__dataOk_1
def f (k : Nat) (a0 : Int) : Option (Bool) := bnd (impl_isWord.f k a0) fun y0 => some (bNot y0)
def sig : Sig := ⟨93, [.w false [I]], [(false, [.val .bool])]⟩
def H : Hints := ⟨[], [], [], []⟩
def spec : Spec := ⟨sig, fun k (x : Int) => f k x⟩
theorem ok : Holds Go.Proofs.Try.prog spec := holds_of_run (G := [impl_isWord.spec]) (holds_cons impl_isWord.ok holds_nil) (by kernel_rfl) H Go.Proofs.Try.func93 (by kernel_rfl) (rfl : Go.Proofs.Try.f93.body = some _) (by kernel_rfl) (by kernel_rfl) fun k x y h => Eq.trans (by kernel_rfl : _ = spec.fn k x) h
end impl_Packet__dataOk_1

namespace slices_IndexFunc_int_impl_Packet__dataOk_1
def s0 (k : Nat) (rec0 : (List Int × Int × Int) → Option (Int)) (x0 : List Int) (x1 : Int) (x2 : Int) : Option (Int) := brB (iLt x2 x1) (chk (cIdx x2 (rLen x0)) (bnd (impl_Packet__dataOk_1.f k (rGet 0 x0 x2)) fun y0 => brB y0 (some x2) (rec0 (x0, x1, iAdd .i64 x2 1)))) (some (-1))
def l0 (k n : Nat) (x0 : List Int) (x1 : Int) (x2 : Int) : Option (Int) := iter (fun (rec : (List Int × Int × Int) → Option (Int)) (x : List Int × Int × Int) => s0 k rec x.1 x.2.1 x.2.2) n (x0, x1, x2)
def f (k : Nat) (a0 : List Int) : Option (Int) := l0 k k a0 (rLen a0) 0
def sig : Sig := ⟨99, [.w false [.row I], .fn 93 []], [(false, [.val I])]⟩
def H : Hints := ⟨[(2, ⟨⟨[(0, .w false 1), (1, .fn 93 []), (7, .w false 1), (8, .w false 1)], []⟩, [], [.val (.row I), .val I, .val I], []⟩)], [], [], []⟩
def spec : Spec := ⟨sig, fun k (x : List Int) => f k x⟩
theorem ok : Holds Go.Proofs.Try.prog spec := holds_of_run (G := [impl_Packet__dataOk_1.spec]) (holds_cons impl_Packet__dataOk_1.ok holds_nil) (by kernel_rfl) H Go.Proofs.Try.func99 (by kernel_rfl) (rfl : Go.Proofs.Try.f99.body = some _) (by kernel_rfl) (by kernel_rfl) fun k x y h => Eq.trans (by kernel_rfl : _ = spec.fn k x) h
end slices_IndexFunc_int_impl_Packet__dataOk_1

namespace slices_ContainsFunc_int_impl_Packet__dataOk_1
def f (k : Nat) (a0 : List Int) : Option (Bool) := bnd (slices_IndexFunc_int_impl_Packet__dataOk_1.f k a0) fun y0 => some (iLe 0 y0)
def sig : Sig := ⟨92, [.w false [.row I], .fn 93 []], [(false, [.val .bool])]⟩
def H : Hints := ⟨[], [], [], []⟩
def spec : Spec := ⟨sig, fun k (x : List Int) => f k x⟩
theorem ok : Holds Go.Proofs.Try.prog spec := holds_of_run (G := [slices_IndexFunc_int_impl_Packet__dataOk_1.spec]) (holds_cons slices_IndexFunc_int_impl_Packet__dataOk_1.ok holds_nil) (by kernel_rfl) H Go.Proofs.Try.func92 (by kernel_rfl) (rfl : Go.Proofs.Try.f92.body = some _) (by kernel_rfl) (by kernel_rfl) fun k x y h => Eq.trans (by kernel_rfl : _ = spec.fn k x) h
end slices_ContainsFunc_int_impl_Packet__dataOk_1

namespace impl_Packet__dataOk
def f (k : Nat) (a0_0 : Int) (a0_1 : Int) (a0_2 : Int) (a0_3 : Int) (a0_4 : Int) (a0_5 : Int) (a0_6 : Int) (a0_7 : List Int) : Option (Bool) := bnd (slices_ContainsFunc_int_impl_Packet__dataOk_1.f k a0_7) fun y0 => brB y0 (some false) (brB (iEq a0_0 1) (bnd (impl_within.f k (rLen a0_7) 1 8) fun y1 => some y1) (brB (iEq a0_0 2) (bnd (impl_within.f k (rLen a0_7) 1 8) fun y2 => some y2) (brB (iEq a0_0 5) (some (iEq (rLen a0_7) 1)) (brB (iEq a0_0 6) (brB (iEq a0_6 0) (brB (iLe (rLen a0_7) 8) (some (iLe (rLen a0_7) a0_4)) (some false)) (some (iEq (rLen a0_7) 0))) (some (iEq (rLen a0_7) 0))))))
def sig : Sig := ⟨75, [.w true [I, I, I, I, I, I, I, .row I]], [(false, [.val .bool])]⟩
def H : Hints := ⟨[], [], [], []⟩
def spec : Spec := ⟨sig, fun k (x : Int × Int × Int × Int × Int × Int × Int × List Int) => f k x.1 x.2.1 x.2.2.1 x.2.2.2.1 x.2.2.2.2.1 x.2.2.2.2.2.1 x.2.2.2.2.2.2.1 x.2.2.2.2.2.2.2⟩
theorem ok : Holds Go.Proofs.Try.prog spec := holds_of_run (G := [impl_within.spec, slices_ContainsFunc_int_impl_Packet__dataOk_1.spec]) (holds_cons impl_within.ok (holds_cons slices_ContainsFunc_int_impl_Packet__dataOk_1.ok holds_nil)) (by kernel_rfl) H Go.Proofs.Try.func75 (by kernel_rfl) (rfl : Go.Proofs.Try.f75.body = some _) (by kernel_rfl) (by kernel_rfl) fun k x y h => Eq.trans (by kernel_rfl : _ = spec.fn k x) h
end impl_Packet__dataOk

namespace impl_IsPacket
def f (k : Nat) (a0_0 : Int) (a0_1 : Int) (a0_2 : Int) (a0_3 : Int) (a0_4 : Int) (a0_5 : Int) (a0_6 : Int) (a0_7 : List Int) : Option (Bool) := bnd (impl_within.f k a0_0 1 6) fun y0 => brB (bNot y0) (some false) (bnd (impl_IsId.f k a0_1) fun y1 => brB (bNot y1) (some false) (bnd (impl_Packet__addressOk.f k a0_0 a0_1 a0_2 a0_3 a0_4 a0_5 a0_6 a0_7) fun y2 => brB (bNot y2) (some false) (bnd (impl_Packet__lengthOk.f k a0_0 a0_1 a0_2 a0_3 a0_4 a0_5 a0_6 a0_7) fun y3 => brB (bNot y3) (some false) (bnd (impl_within.f k a0_0 4 6) fun y4 => brB y4 (bnd (impl_IsId.f k a0_2) fun y5 => brB (bNot y5) (some false) (brB (bNot y4) (brB (iNe a0_2 0) (some false) (bnd (impl_within.f k a0_0 3 6) fun y6 => brB y6 (bnd (impl_within.f k a0_5 0 7) fun y7 => brB (bNot y7) (some false) (brB (bNot y6) (brB (iNe a0_5 0) (some false) (brB (iEq a0_0 6) (bnd (impl_within.f k a0_6 0 2) fun y8 => brB (bNot y8) (some false) (brB (iNe a0_0 6) (brB (iNe a0_6 0) (some false) (bnd (impl_Packet__dataOk.f k a0_0 a0_1 a0_2 a0_3 a0_4 a0_5 a0_6 a0_7) fun y9 => some y9)) (bnd (impl_Packet__dataOk.f k a0_0 a0_1 a0_2 a0_3 a0_4 a0_5 a0_6 a0_7) fun y10 => some y10))) (brB (iNe a0_0 6) (brB (iNe a0_6 0) (some false) (bnd (impl_Packet__dataOk.f k a0_0 a0_1 a0_2 a0_3 a0_4 a0_5 a0_6 a0_7) fun y11 => some y11)) (bnd (impl_Packet__dataOk.f k a0_0 a0_1 a0_2 a0_3 a0_4 a0_5 a0_6 a0_7) fun y12 => some y12)))) (brB (iEq a0_0 6) (bnd (impl_within.f k a0_6 0 2) fun y13 => brB (bNot y13) (some false) (brB (iNe a0_0 6) (brB (iNe a0_6 0) (some false) (bnd (impl_Packet__dataOk.f k a0_0 a0_1 a0_2 a0_3 a0_4 a0_5 a0_6 a0_7) fun y14 => some y14)) (bnd (impl_Packet__dataOk.f k a0_0 a0_1 a0_2 a0_3 a0_4 a0_5 a0_6 a0_7) fun y15 => some y15))) (brB (iNe a0_0 6) (brB (iNe a0_6 0) (some false) (bnd (impl_Packet__dataOk.f k a0_0 a0_1 a0_2 a0_3 a0_4 a0_5 a0_6 a0_7) fun y16 => some y16)) (bnd (impl_Packet__dataOk.f k a0_0 a0_1 a0_2 a0_3 a0_4 a0_5 a0_6 a0_7) fun y17 => some y17))))) (brB (bNot y6) (brB (iNe a0_5 0) (some false) (brB (iEq a0_0 6) (bnd (impl_within.f k a0_6 0 2) fun y18 => brB (bNot y18) (some false) (brB (iNe a0_0 6) (brB (iNe a0_6 0) (some false) (bnd (impl_Packet__dataOk.f k a0_0 a0_1 a0_2 a0_3 a0_4 a0_5 a0_6 a0_7) fun y19 => some y19)) (bnd (impl_Packet__dataOk.f k a0_0 a0_1 a0_2 a0_3 a0_4 a0_5 a0_6 a0_7) fun y20 => some y20))) (brB (iNe a0_0 6) (brB (iNe a0_6 0) (some false) (bnd (impl_Packet__dataOk.f k a0_0 a0_1 a0_2 a0_3 a0_4 a0_5 a0_6 a0_7) fun y21 => some y21)) (bnd (impl_Packet__dataOk.f k a0_0 a0_1 a0_2 a0_3 a0_4 a0_5 a0_6 a0_7) fun y22 => some y22)))) (brB (iEq a0_0 6) (bnd (impl_within.f k a0_6 0 2) fun y23 => brB (bNot y23) (some false) (brB (iNe a0_0 6) (brB (iNe a0_6 0) (some false) (bnd (impl_Packet__dataOk.f k a0_0 a0_1 a0_2 a0_3 a0_4 a0_5 a0_6 a0_7) fun y24 => some y24)) (bnd (impl_Packet__dataOk.f k a0_0 a0_1 a0_2 a0_3 a0_4 a0_5 a0_6 a0_7) fun y25 => some y25))) (brB (iNe a0_0 6) (brB (iNe a0_6 0) (some false) (bnd (impl_Packet__dataOk.f k a0_0 a0_1 a0_2 a0_3 a0_4 a0_5 a0_6 a0_7) fun y26 => some y26)) (bnd (impl_Packet__dataOk.f k a0_0 a0_1 a0_2 a0_3 a0_4 a0_5 a0_6 a0_7) fun y27 => some y27)))))) (bnd (impl_within.f k a0_0 3 6) fun y28 => brB y28 (bnd (impl_within.f k a0_5 0 7) fun y29 => brB (bNot y29) (some false) (brB (bNot y28) (brB (iNe a0_5 0) (some false) (brB (iEq a0_0 6) (bnd (impl_within.f k a0_6 0 2) fun y30 => brB (bNot y30) (some false) (brB (iNe a0_0 6) (brB (iNe a0_6 0) (some false) (bnd (impl_Packet__dataOk.f k a0_0 a0_1 a0_2 a0_3 a0_4 a0_5 a0_6 a0_7) fun y31 => some y31)) (bnd (impl_Packet__dataOk.f k a0_0 a0_1 a0_2 a0_3 a0_4 a0_5 a0_6 a0_7) fun y32 => some y32))) (brB (iNe a0_0 6) (brB (iNe a0_6 0) (some false) (bnd (impl_Packet__dataOk.f k a0_0 a0_1 a0_2 a0_3 a0_4 a0_5 a0_6 a0_7) fun y33 => some y33)) (bnd (impl_Packet__dataOk.f k a0_0 a0_1 a0_2 a0_3 a0_4 a0_5 a0_6 a0_7) fun y34 => some y34)))) (brB (iEq a0_0 6) (bnd (impl_within.f k a0_6 0 2) fun y35 => brB (bNot y35) (some false) (brB (iNe a0_0 6) (brB (iNe a0_6 0) (some false) (bnd (impl_Packet__dataOk.f k a0_0 a0_1 a0_2 a0_3 a0_4 a0_5 a0_6 a0_7) fun y36 => some y36)) (bnd (impl_Packet__dataOk.f k a0_0 a0_1 a0_2 a0_3 a0_4 a0_5 a0_6 a0_7) fun y37 => some y37))) (brB (iNe a0_0 6) (brB (iNe a0_6 0) (some false) (bnd (impl_Packet__dataOk.f k a0_0 a0_1 a0_2 a0_3 a0_4 a0_5 a0_6 a0_7) fun y38 => some y38)) (bnd (impl_Packet__dataOk.f k a0_0 a0_1 a0_2 a0_3 a0_4 a0_5 a0_6 a0_7) fun y39 => some y39))))) (brB (bNot y28) (brB (iNe a0_5 0) (some false) (brB (iEq a0_0 6) (bnd (impl_within.f k a0_6 0 2) fun y40 => brB (bNot y40) (some false) (brB (iNe a0_0 6) (brB (iNe a0_6 0) (some false) (bnd (impl_Packet__dataOk.f k a0_0 a0_1 a0_2 a0_3 a0_4 a0_5 a0_6 a0_7) fun y41 => some y41)) (bnd (impl_Packet__dataOk.f k a0_0 a0_1 a0_2 a0_3 a0_4 a0_5 a0_6 a0_7) fun y42 => some y42))) (brB (iNe a0_0 6) (brB (iNe a0_6 0) (some false) (bnd (impl_Packet__dataOk.f k a0_0 a0_1 a0_2 a0_3 a0_4 a0_5 a0_6 a0_7) fun y43 => some y43)) (bnd (impl_Packet__dataOk.f k a0_0 a0_1 a0_2 a0_3 a0_4 a0_5 a0_6 a0_7) fun y44 => some y44)))) (brB (iEq a0_0 6) (bnd (impl_within.f k a0_6 0 2) fun y45 => brB (bNot y45) (some false) (brB (iNe a0_0 6) (brB (iNe a0_6 0) (some false) (bnd (impl_Packet__dataOk.f k a0_0 a0_1 a0_2 a0_3 a0_4 a0_5 a0_6 a0_7) fun y46 => some y46)) (bnd (impl_Packet__dataOk.f k a0_0 a0_1 a0_2 a0_3 a0_4 a0_5 a0_6 a0_7) fun y47 => some y47))) (brB (iNe a0_0 6) (brB (iNe a0_6 0) (some false) (bnd (impl_Packet__dataOk.f k a0_0 a0_1 a0_2 a0_3 a0_4 a0_5 a0_6 a0_7) fun y48 => some y48)) (bnd (impl_Packet__dataOk.f k a0_0 a0_1 a0_2 a0_3 a0_4 a0_5 a0_6 a0_7) fun y49 => some y49))))))) (brB (bNot y4) (brB (iNe a0_2 0) (some false) (bnd (impl_within.f k a0_0 3 6) fun y50 => brB y50 (bnd (impl_within.f k a0_5 0 7) fun y51 => brB (bNot y51) (some false) (brB (bNot y50) (brB (iNe a0_5 0) (some false) (brB (iEq a0_0 6) (bnd (impl_within.f k a0_6 0 2) fun y52 => brB (bNot y52) (some false) (brB (iNe a0_0 6) (brB (iNe a0_6 0) (some false) (bnd (impl_Packet__dataOk.f k a0_0 a0_1 a0_2 a0_3 a0_4 a0_5 a0_6 a0_7) fun y53 => some y53)) (bnd (impl_Packet__dataOk.f k a0_0 a0_1 a0_2 a0_3 a0_4 a0_5 a0_6 a0_7) fun y54 => some y54))) (brB (iNe a0_0 6) (brB (iNe a0_6 0) (some false) (bnd (impl_Packet__dataOk.f k a0_0 a0_1 a0_2 a0_3 a0_4 a0_5 a0_6 a0_7) fun y55 => some y55)) (bnd (impl_Packet__dataOk.f k a0_0 a0_1 a0_2 a0_3 a0_4 a0_5 a0_6 a0_7) fun y56 => some y56)))) (brB (iEq a0_0 6) (bnd (impl_within.f k a0_6 0 2) fun y57 => brB (bNot y57) (some false) (brB (iNe a0_0 6) (brB (iNe a0_6 0) (some false) (bnd (impl_Packet__dataOk.f k a0_0 a0_1 a0_2 a0_3 a0_4 a0_5 a0_6 a0_7) fun y58 => some y58)) (bnd (impl_Packet__dataOk.f k a0_0 a0_1 a0_2 a0_3 a0_4 a0_5 a0_6 a0_7) fun y59 => some y59))) (brB (iNe a0_0 6) (brB (iNe a0_6 0) (some false) (bnd (impl_Packet__dataOk.f k a0_0 a0_1 a0_2 a0_3 a0_4 a0_5 a0_6 a0_7) fun y60 => some y60)) (bnd (impl_Packet__dataOk.f k a0_0 a0_1 a0_2 a0_3 a0_4 a0_5 a0_6 a0_7) fun y61 => some y61))))) (brB (bNot y50) (brB (iNe a0_5 0) (some false) (brB (iEq a0_0 6) (bnd (impl_within.f k a0_6 0 2) fun y62 => brB (bNot y62) (some false) (brB (iNe a0_0 6) (brB (iNe a0_6 0) (some false) (bnd (impl_Packet__dataOk.f k a0_0 a0_1 a0_2 a0_3 a0_4 a0_5 a0_6 a0_7) fun y63 => some y63)) (bnd (impl_Packet__dataOk.f k a0_0 a0_1 a0_2 a0_3 a0_4 a0_5 a0_6 a0_7) fun y64 => some y64))) (brB (iNe a0_0 6) (brB (iNe a0_6 0) (some false) (bnd (impl_Packet__dataOk.f k a0_0 a0_1 a0_2 a0_3 a0_4 a0_5 a0_6 a0_7) fun y65 => some y65)) (bnd (impl_Packet__dataOk.f k a0_0 a0_1 a0_2 a0_3 a0_4 a0_5 a0_6 a0_7) fun y66 => some y66)))) (brB (iEq a0_0 6) (bnd (impl_within.f k a0_6 0 2) fun y67 => brB (bNot y67) (some false) (brB (iNe a0_0 6) (brB (iNe a0_6 0) (some false) (bnd (impl_Packet__dataOk.f k a0_0 a0_1 a0_2 a0_3 a0_4 a0_5 a0_6 a0_7) fun y68 => some y68)) (bnd (impl_Packet__dataOk.f k a0_0 a0_1 a0_2 a0_3 a0_4 a0_5 a0_6 a0_7) fun y69 => some y69))) (brB (iNe a0_0 6) (brB (iNe a0_6 0) (some false) (bnd (impl_Packet__dataOk.f k a0_0 a0_1 a0_2 a0_3 a0_4 a0_5 a0_6 a0_7) fun y70 => some y70)) (bnd (impl_Packet__dataOk.f k a0_0 a0_1 a0_2 a0_3 a0_4 a0_5 a0_6 a0_7) fun y71 => some y71)))))) (bnd (impl_within.f k a0_0 3 6) fun y72 => brB y72 (bnd (impl_within.f k a0_5 0 7) fun y73 => brB (bNot y73) (some false) (brB (bNot y72) (brB (iNe a0_5 0) (some false) (brB (iEq a0_0 6) (bnd (impl_within.f k a0_6 0 2) fun y74 => brB (bNot y74) (some false) (brB (iNe a0_0 6) (brB (iNe a0_6 0) (some false) (bnd (impl_Packet__dataOk.f k a0_0 a0_1 a0_2 a0_3 a0_4 a0_5 a0_6 a0_7) fun y75 => some y75)) (bnd (impl_Packet__dataOk.f k a0_0 a0_1 a0_2 a0_3 a0_4 a0_5 a0_6 a0_7) fun y76 => some y76))) (brB (iNe a0_0 6) (brB (iNe a0_6 0) (some false) (bnd (impl_Packet__dataOk.f k a0_0 a0_1 a0_2 a0_3 a0_4 a0_5 a0_6 a0_7) fun y77 => some y77)) (bnd (impl_Packet__dataOk.f k a0_0 a0_1 a0_2 a0_3 a0_4 a0_5 a0_6 a0_7) fun y78 => some y78)))) (brB (iEq a0_0 6) (bnd (impl_within.f k a0_6 0 2) fun y79 => brB (bNot y79) (some false) (brB (iNe a0_0 6) (brB (iNe a0_6 0) (some false) (bnd (impl_Packet__dataOk.f k a0_0 a0_1 a0_2 a0_3 a0_4 a0_5 a0_6 a0_7) fun y80 => some y80)) (bnd (impl_Packet__dataOk.f k a0_0 a0_1 a0_2 a0_3 a0_4 a0_5 a0_6 a0_7) fun y81 => some y81))) (brB (iNe a0_0 6) (brB (iNe a0_6 0) (some false) (bnd (impl_Packet__dataOk.f k a0_0 a0_1 a0_2 a0_3 a0_4 a0_5 a0_6 a0_7) fun y82 => some y82)) (bnd (impl_Packet__dataOk.f k a0_0 a0_1 a0_2 a0_3 a0_4 a0_5 a0_6 a0_7) fun y83 => some y83))))) (brB (bNot y72) (brB (iNe a0_5 0) (some false) (brB (iEq a0_0 6) (bnd (impl_within.f k a0_6 0 2) fun y84 => brB (bNot y84) (some false) (brB (iNe a0_0 6) (brB (iNe a0_6 0) (some false) (bnd (impl_Packet__dataOk.f k a0_0 a0_1 a0_2 a0_3 a0_4 a0_5 a0_6 a0_7) fun y85 => some y85)) (bnd (impl_Packet__dataOk.f k a0_0 a0_1 a0_2 a0_3 a0_4 a0_5 a0_6 a0_7) fun y86 => some y86))) (brB (iNe a0_0 6) (brB (iNe a0_6 0) (some false) (bnd (impl_Packet__dataOk.f k a0_0 a0_1 a0_2 a0_3 a0_4 a0_5 a0_6 a0_7) fun y87 => some y87)) (bnd (impl_Packet__dataOk.f k a0_0 a0_1 a0_2 a0_3 a0_4 a0_5 a0_6 a0_7) fun y88 => some y88)))) (brB (iEq a0_0 6) (bnd (impl_within.f k a0_6 0 2) fun y89 => brB (bNot y89) (some false) (brB (iNe a0_0 6) (brB (iNe a0_6 0) (some false) (bnd (impl_Packet__dataOk.f k a0_0 a0_1 a0_2 a0_3 a0_4 a0_5 a0_6 a0_7) fun y90 => some y90)) (bnd (impl_Packet__dataOk.f k a0_0 a0_1 a0_2 a0_3 a0_4 a0_5 a0_6 a0_7) fun y91 => some y91))) (brB (iNe a0_0 6) (brB (iNe a0_6 0) (some false) (bnd (impl_Packet__dataOk.f k a0_0 a0_1 a0_2 a0_3 a0_4 a0_5 a0_6 a0_7) fun y92 => some y92)) (bnd (impl_Packet__dataOk.f k a0_0 a0_1 a0_2 a0_3 a0_4 a0_5 a0_6 a0_7) fun y93 => some y93))))))))))
def sig : Sig := ⟨37, [.w true [I, I, I, I, I, I, I, .row I]], [(false, [.val .bool])]⟩
def H : Hints := ⟨[], [], [], []⟩
def spec : Spec := ⟨sig, fun k (x : Int × Int × Int × Int × Int × Int × Int × List Int) => f k x.1 x.2.1 x.2.2.1 x.2.2.2.1 x.2.2.2.2.1 x.2.2.2.2.2.1 x.2.2.2.2.2.2.1 x.2.2.2.2.2.2.2⟩
theorem ok : Holds Go.Proofs.Try.prog spec := holds_of_run (G := [impl_within.spec, impl_IsId.spec, impl_Packet__addressOk.spec, impl_Packet__lengthOk.spec, impl_Packet__dataOk.spec]) (holds_cons impl_within.ok (holds_cons impl_IsId.ok (holds_cons impl_Packet__addressOk.ok (holds_cons impl_Packet__lengthOk.ok (holds_cons impl_Packet__dataOk.ok holds_nil))))) (by kernel_rfl) H Go.Proofs.Try.func37 (by kernel_rfl) (rfl : Go.Proofs.Try.f37.body = some _) (by kernel_rfl) (by kernel_rfl) fun k x y h => Eq.trans (by kernel_rfl : _ = spec.fn k x) h
end impl_IsPacket

namespace impl_classOf
def f (k : Nat) (a0 : Int) : Option (Int) := brB (iEq a0 1) (brB (iEq a0 1) (some 0) (brB (iEq a0 6) (some 2) (some 1))) (brB (iEq a0 2) (some 0) (brB (iEq a0 6) (some 2) (some 1)))
def sig : Sig := ⟨70, [.w false [I]], [(false, [.val I])]⟩
def H : Hints := ⟨[], [], [], []⟩
def spec : Spec := ⟨sig, fun k (x : Int) => f k x⟩
theorem ok : Holds Go.Proofs.Try.prog spec := holds_of_run (G := []) holds_nil (by kernel_rfl) H Go.Proofs.Try.func70 (by kernel_rfl) (rfl : Go.Proofs.Try.f70.body = some _) (by kernel_rfl) (by kernel_rfl) fun k x y h => Eq.trans (by kernel_rfl : _ = spec.fn k x) h
end impl_classOf

namespace impl_ClassOf
def f (k : Nat) (a0_0 : Int) (a0_1 : Int) (a0_2 : Int) (a0_3 : Int) (a0_4 : Int) (a0_5 : Int) (a0_6 : Int) (a0_7 : List Int) : Option (Int) := bnd (impl_IsPacket.f k a0_0 a0_1 a0_2 a0_3 a0_4 a0_5 a0_6 a0_7) fun y0 => brB (bNot y0) (some (-1)) (bnd (impl_classOf.f k a0_0) fun y1 => some y1)
def sig : Sig := ⟨36, [.w true [I, I, I, I, I, I, I, .row I]], [(false, [.val I])]⟩
def H : Hints := ⟨[], [], [], []⟩
def spec : Spec := ⟨sig, fun k (x : Int × Int × Int × Int × Int × Int × Int × List Int) => f k x.1 x.2.1 x.2.2.1 x.2.2.2.1 x.2.2.2.2.1 x.2.2.2.2.2.1 x.2.2.2.2.2.2.1 x.2.2.2.2.2.2.2⟩
theorem ok : Holds Go.Proofs.Try.prog spec := holds_of_run (G := [impl_IsPacket.spec, impl_classOf.spec]) (holds_cons impl_IsPacket.ok (holds_cons impl_classOf.ok holds_nil)) (by kernel_rfl) H Go.Proofs.Try.func36 (by kernel_rfl) (rfl : Go.Proofs.Try.f36.body = some _) (by kernel_rfl) (by kernel_rfl) fun k x y h => Eq.trans (by kernel_rfl : _ = spec.fn k x) h
end impl_ClassOf

namespace impl_RefusalOf
def f (k : Nat) (a0_0 : Int) (a0_1 : Int) (a0_2 : Int) (a0_3 : Int) (a0_4 : Int) (a0_5 : Int) (a0_6 : Int) (a0_7 : List Int) (a1 : Int) (a2 : Int) : Option (Int × Int × Int × Int × Int × Int × Int × List Int × Bool) := bnd (impl_ClassOf.f k a0_0 a0_1 a0_2 a0_3 a0_4 a0_5 a0_6 a0_7) fun y0 => brB (iNe y0 1) (some (0, 0, 0, 0, 0, 0, 0, [], false)) (bnd (impl_IsId.f k a1) fun y1 => brB (bNot y1) (some (0, 0, 0, 0, 0, 0, 0, [], false)) (brB (iNe a2 1) (brB (iNe a2 2) (some (0, 0, 0, 0, 0, 0, 0, [], false)) (some (6, a1, a0_1, 0, 0, a0_5, a2, [], true))) (some (6, a1, a0_1, 0, 0, a0_5, a2, [], true))))
def sig : Sig := ⟨69, [.w true [I, I, I, I, I, I, I, .row I], .w false [I], .w false [I]], [(true, [.val I, .val I, .val I, .val I, .val I, .val I, .val I, .own I]), (false, [.val .bool])]⟩
def H : Hints := ⟨[], [], [], []⟩
def spec : Spec := ⟨sig, fun k (x : Int × Int × Int × Int × Int × Int × Int × List Int × Int × Int) => f k x.1 x.2.1 x.2.2.1 x.2.2.2.1 x.2.2.2.2.1 x.2.2.2.2.2.1 x.2.2.2.2.2.2.1 x.2.2.2.2.2.2.2.1 x.2.2.2.2.2.2.2.2.1 x.2.2.2.2.2.2.2.2.2⟩
theorem ok : Holds Go.Proofs.Try.prog spec := holds_of_run (G := [impl_IsId.spec, impl_ClassOf.spec]) (holds_cons impl_IsId.ok (holds_cons impl_ClassOf.ok holds_nil)) (by kernel_rfl) H Go.Proofs.Try.func69 (by kernel_rfl) (rfl : Go.Proofs.Try.f69.body = some _) (by kernel_rfl) (by kernel_rfl) fun k x y h => Eq.trans (by kernel_rfl : _ = spec.fn k x) h
end impl_RefusalOf

namespace impl_AnswerFor
def f (k : Nat) (a0 : List (Int × Int × Int)) (a1 : List Bool) (a2_0 : Int) (a2_1 : Int) (a2_2 : Int) (a2_3 : Int) (a2_4 : Int) (a2_5 : Int) (a2_6 : Int) (a2_7 : List Int) (a3 : Int) (a4 : Int) : Option (Int × Int × Int × Int × Int × Int × Int × List Int × Bool) := bnd (impl_GuardOk.f k a0 a1) fun y0 => brB (bNot y0) (some (0, 0, 0, 0, 0, 0, 0, [], false)) (bnd (impl_isNode.f k a0 a3) fun y1 => brB (bNot y1) (some (0, 0, 0, 0, 0, 0, 0, [], false)) (bnd (impl_isNode.f k a0 a4) fun y2 => brB (bNot y2) (some (0, 0, 0, 0, 0, 0, 0, [], false)) (bnd (impl_CanReach.f k a0 a1 a3 a4) fun y3 => brB y3 (some (0, 0, 0, 0, 0, 0, 0, [], false)) (bnd (impl_RefusalOf.f k a2_0 a2_1 a2_2 a2_3 a2_4 a2_5 a2_6 a2_7 a2_1 1) fun (y4, y5, y6, y7, y8, y9, y10, y11, y12) => some (y4, y5, y6, y7, y8, y9, y10, y11, y12)))))
def sig : Sig := ⟨35, [.w false [.row (.pair I (.pair I I))], .w true [.row .bool], .w true [I, I, I, I, I, I, I, .row I], .w false [I], .w false [I]], [(true, [.val I, .val I, .val I, .val I, .val I, .val I, .val I, .own I]), (false, [.val .bool])]⟩
def H : Hints := ⟨[], [], [], []⟩
def spec : Spec := ⟨sig, fun k (x : List (Int × Int × Int) × List Bool × Int × Int × Int × Int × Int × Int × Int × List Int × Int × Int) => f k x.1 x.2.1 x.2.2.1 x.2.2.2.1 x.2.2.2.2.1 x.2.2.2.2.2.1 x.2.2.2.2.2.2.1 x.2.2.2.2.2.2.2.1 x.2.2.2.2.2.2.2.2.1 x.2.2.2.2.2.2.2.2.2.1 x.2.2.2.2.2.2.2.2.2.2.1 x.2.2.2.2.2.2.2.2.2.2.2⟩
theorem ok : Holds Go.Proofs.Try.prog spec := holds_of_run (G := [impl_GuardOk.spec, impl_isNode.spec, impl_CanReach.spec, impl_RefusalOf.spec]) (holds_cons impl_GuardOk.ok (holds_cons impl_isNode.ok (holds_cons impl_CanReach.ok (holds_cons impl_RefusalOf.ok holds_nil)))) (by kernel_rfl) H Go.Proofs.Try.func35 (by kernel_rfl) (rfl : Go.Proofs.Try.f35.body = some _) (by kernel_rfl) (by kernel_rfl) fun k x y h => Eq.trans (by kernel_rfl : _ = spec.fn k x) h
end impl_AnswerFor

namespace laws_eqPacket
def f (k : Nat) (a0_0 : Int) (a0_1 : Int) (a0_2 : Int) (a0_3 : Int) (a0_4 : Int) (a0_5 : Int) (a0_6 : Int) (a0_7 : List Int) (a1_0 : Int) (a1_1 : Int) (a1_2 : Int) (a1_3 : Int) (a1_4 : Int) (a1_5 : Int) (a1_6 : Int) (a1_7 : List Int) : Option (Bool) := brB (iNe a0_0 a1_0) (some false) (brB (iNe a0_1 a1_1) (some false) (brB (iNe a0_2 a1_2) (some false) (brB (iNe a0_3 a1_3) (some false) (brB (iNe a0_4 a1_4) (some false) (brB (iNe a0_5 a1_5) (some false) (brB (iNe a0_6 a1_6) (some false) (bnd (laws_eqIntS.f k a0_7 a1_7) fun y0 => brB (bNot y0) (some false) (some true))))))))
def sig : Sig := ⟨45, [.w true [I, I, I, I, I, I, I, .row I], .w true [I, I, I, I, I, I, I, .row I]], [(false, [.val .bool])]⟩
def H : Hints := ⟨[], [], [], []⟩
def spec : Spec := ⟨sig, fun k (x : Int × Int × Int × Int × Int × Int × Int × List Int × Int × Int × Int × Int × Int × Int × Int × List Int) => f k x.1 x.2.1 x.2.2.1 x.2.2.2.1 x.2.2.2.2.1 x.2.2.2.2.2.1 x.2.2.2.2.2.2.1 x.2.2.2.2.2.2.2.1 x.2.2.2.2.2.2.2.2.1 x.2.2.2.2.2.2.2.2.2.1 x.2.2.2.2.2.2.2.2.2.2.1 x.2.2.2.2.2.2.2.2.2.2.2.1 x.2.2.2.2.2.2.2.2.2.2.2.2.1 x.2.2.2.2.2.2.2.2.2.2.2.2.2.1 x.2.2.2.2.2.2.2.2.2.2.2.2.2.2.1 x.2.2.2.2.2.2.2.2.2.2.2.2.2.2.2⟩
theorem ok : Holds Go.Proofs.Try.prog spec := holds_of_run (G := [laws_eqIntS.spec]) (holds_cons laws_eqIntS.ok holds_nil) (by kernel_rfl) H Go.Proofs.Try.func45 (by kernel_rfl) (rfl : Go.Proofs.Try.f45.body = some _) (by kernel_rfl) (by kernel_rfl) fun k x y h => Eq.trans (by kernel_rfl : _ = spec.fn k x) h
end laws_eqPacket

namespace laws_markPacket
def f (k : Nat) (a0_0 : Int) (a0_1 : Int) (a0_2 : Int) (a0_3 : Int) (a0_4 : Int) (a0_5 : Int) (a0_6 : Int) (a0_7 : List Int) (a1 : Int) : Option (Int × List Int) := bnd (laws_markIntS.f k a0_7 a1) fun (y0, y1) => some (y0, y1)
def sig : Sig := ⟨46, [.mut true [I, I, I, I, I, I, I, .row I], .w false [I]], [(false, [.val I])]⟩
def H : Hints := ⟨[], [], [], []⟩
def spec : Spec := ⟨sig, fun k (x : Int × Int × Int × Int × Int × Int × Int × List Int × Int) => f k x.1 x.2.1 x.2.2.1 x.2.2.2.1 x.2.2.2.2.1 x.2.2.2.2.2.1 x.2.2.2.2.2.2.1 x.2.2.2.2.2.2.2.1 x.2.2.2.2.2.2.2.2⟩
theorem ok : Holds Go.Proofs.Try.prog spec := holds_of_run (G := [laws_markIntS.spec]) (holds_cons laws_markIntS.ok holds_nil) (by kernel_rfl) H Go.Proofs.Try.func46 (by kernel_rfl) (rfl : Go.Proofs.Try.f46.body = some _) (by kernel_rfl) (by kernel_rfl) fun k x y h => Eq.trans (by kernel_rfl : _ = spec.fn k x) h
end laws_markPacket

namespace laws_heldPacket
def f (k : Nat) (a0_0 : Int) (a0_1 : Int) (a0_2 : Int) (a0_3 : Int) (a0_4 : Int) (a0_5 : Int) (a0_6 : Int) (a0_7 : List Int) (a1 : Int) : Option (Int) := bnd (laws_heldIntS.f k a0_7 a1) fun y0 => brB (iLt y0 0) (some (-1)) (some y0)
def sig : Sig := ⟨47, [.w true [I, I, I, I, I, I, I, .row I], .w false [I]], [(false, [.val I])]⟩
def H : Hints := ⟨[], [], [], []⟩
def spec : Spec := ⟨sig, fun k (x : Int × Int × Int × Int × Int × Int × Int × List Int × Int) => f k x.1 x.2.1 x.2.2.1 x.2.2.2.1 x.2.2.2.2.1 x.2.2.2.2.2.1 x.2.2.2.2.2.2.1 x.2.2.2.2.2.2.2.1 x.2.2.2.2.2.2.2.2⟩
theorem ok : Holds Go.Proofs.Try.prog spec := holds_of_run (G := [laws_heldIntS.spec]) (holds_cons laws_heldIntS.ok holds_nil) (by kernel_rfl) H Go.Proofs.Try.func47 (by kernel_rfl) (rfl : Go.Proofs.Try.f47.body = some _) (by kernel_rfl) (by kernel_rfl) fun k x y h => Eq.trans (by kernel_rfl : _ = spec.fn k x) h
end laws_heldPacket

namespace laws_FnExactAnswerFor
def f (k : Nat) (a0 : List (Int × Int × Int)) (a1 : List Bool) (a2_0 : Int) (a2_1 : Int) (a2_2 : Int) (a2_3 : Int) (a2_4 : Int) (a2_5 : Int) (a2_6 : Int) (a2_7 : List Int) (a3 : Int) (a4 : Int) : Option (Bool) := bnd (laws_szNodeS.f k a0 1048576) fun y0 => brB (iLt y0 0) (some true) (bnd (laws_szGuard.f k a1 y0) fun y1 => brB (iLt y1 0) (some true) (bnd (laws_szPacket.f k a2_0 a2_1 a2_2 a2_3 a2_4 a2_5 a2_6 a2_7 y1) fun y2 => brB (iLt y2 0) (some true) (bnd (laws_toNodeS.f k a0) fun y3 => bnd (laws_toGuard.f k a1) fun y4 => bnd (laws_toPacket.f k a2_0 a2_1 a2_2 a2_3 a2_4 a2_5 a2_6 a2_7) fun (y5, y6, y7, y8, y9, y10, y11, y12) => bnd (spec_AnswerFor.f k y3 y4 y5 y6 y7 y8 y9 y10 y11 y12 a3 a4) fun (y13, y14, y15, y16, y17, y18, y19, y20, y21) => bnd (laws_toNodeS.f k a0) fun y22 => bnd (laws_toGuard.f k a1) fun y23 => bnd (laws_toPacket.f k a2_0 a2_1 a2_2 a2_3 a2_4 a2_5 a2_6 a2_7) fun (y24, y25, y26, y27, y28, y29, y30, y31) => bnd (impl_AnswerFor.f k y22 y23 y24 y25 y26 y27 y28 y29 y30 y31 a3 a4) fun (y32, y33, y34, y35, y36, y37, y38, y39, y40) => bnd (laws_eqPacket.f k y32 y33 y34 y35 y36 y37 y38 y39 y13 y14 y15 y16 y17 y18 y19 y20) fun y41 => brB (bNot y41) (some false) (brB (bNe y40 y21) (some false) (bnd (laws_toNodeS.f k a0) fun y42 => bnd (laws_eqNodeS.f k y22 y42) fun y43 => brB (bNot y43) (some false) (bnd (laws_toGuard.f k a1) fun y44 => bnd (laws_eqGuard.f k y23 y44) fun y45 => brB (bNot y45) (some false) (bnd (laws_toPacket.f k a2_0 a2_1 a2_2 a2_3 a2_4 a2_5 a2_6 a2_7) fun (y46, y47, y48, y49, y50, y51, y52, y53) => bnd (laws_eqPacket.f k y24 y25 y26 y27 y28 y29 y30 y31 y46 y47 y48 y49 y50 y51 y52 y53) fun y54 => brB (bNot y54) (some false) (bnd (laws_markNodeS.f k y22 1) fun (y55, y56) => bnd (laws_markGuard.f k y23 y55) fun (y57, y58) => bnd (laws_markPacket.f k y24 y25 y26 y27 y28 y29 y30 y31 y57) fun (y59, y60) => brB (iLt y59 0) (some false) (bnd (laws_eqPacket.f k y32 y33 y34 y35 y36 y37 y38 y39 y13 y14 y15 y16 y17 y18 y19 y20) fun y61 => brB (bNot y61) (some false) (brB (bNe y40 y21) (some false) (bnd (laws_markPacket.f k y32 y33 y34 y35 y36 y37 y38 y39 1) fun (y62, y63) => bnd (laws_heldPacket.f k y32 y33 y34 y35 y36 y37 y38 y63 1) fun y64 => brB (iLt y64 0) (some false) (brB (iNe y64 y62) (some false) (bnd (laws_toNodeS.f k a0) fun y65 => bnd (laws_toGuard.f k a1) fun y66 => bnd (laws_toPacket.f k a2_0 a2_1 a2_2 a2_3 a2_4 a2_5 a2_6 a2_7) fun (y67, y68, y69, y70, y71, y72, y73, y74) => bnd (impl_AnswerFor.f k y65 y66 y67 y68 y69 y70 y71 y72 y73 y74 a3 a4) fun (y75, y76, y77, y78, y79, y80, y81, y82, y83) => bnd (laws_eqPacket.f k y75 y76 y77 y78 y79 y80 y81 y82 y13 y14 y15 y16 y17 y18 y19 y20) fun y84 => brB (bNot y84) (some false) (brB (bNe y83 y21) (some false) (bnd (laws_heldPacket.f k y32 y33 y34 y35 y36 y37 y38 y63 1) fun y85 => brB (iLt y85 0) (some false) (brB (iNe y85 y62) (some false) (some true)))))))))))))))))
def sig : Sig := ⟨10, [.w false [.row (.pair I (.pair I I))], .w true [.row .bool], .w true [I, I, I, I, I, I, I, .row I], .w false [I], .w false [I]], [(false, [.val .bool])]⟩
def H : Hints := ⟨[], [], [(11, [0, 1, 0, 7, 0, 31, 0, 0, 255, 511, 1023, 1023, 0, 6143, 16383]), (20, [0, 0, 2, 7, 15]), (22, [0, 0, 2, 7, 15]), (38, [0, 1, 0, 7, 0, 31, 0, 0, 255, 511, 1023, 1023, 0, 6143, 16383])], []⟩
def spec : Spec := ⟨sig, fun k (x : List (Int × Int × Int) × List Bool × Int × Int × Int × Int × Int × Int × Int × List Int × Int × Int) => f k x.1 x.2.1 x.2.2.1 x.2.2.2.1 x.2.2.2.2.1 x.2.2.2.2.2.1 x.2.2.2.2.2.2.1 x.2.2.2.2.2.2.2.1 x.2.2.2.2.2.2.2.2.1 x.2.2.2.2.2.2.2.2.2.1 x.2.2.2.2.2.2.2.2.2.2.1 x.2.2.2.2.2.2.2.2.2.2.2⟩
theorem ok : Holds Go.Proofs.Try.prog spec := holds_of_run (G := [laws_szNodeS.spec, laws_szGuard.spec, laws_toNodeS.spec, laws_toGuard.spec, laws_eqNodeS.spec, laws_eqGuard.spec, laws_markNodeS.spec, laws_markGuard.spec, laws_szPacket.spec, laws_toPacket.spec, spec_AnswerFor.spec, impl_AnswerFor.spec, laws_eqPacket.spec, laws_markPacket.spec, laws_heldPacket.spec]) (holds_cons laws_szNodeS.ok (holds_cons laws_szGuard.ok (holds_cons laws_toNodeS.ok (holds_cons laws_toGuard.ok (holds_cons laws_eqNodeS.ok (holds_cons laws_eqGuard.ok (holds_cons laws_markNodeS.ok (holds_cons laws_markGuard.ok (holds_cons laws_szPacket.ok (holds_cons laws_toPacket.ok (holds_cons spec_AnswerFor.ok (holds_cons impl_AnswerFor.ok (holds_cons laws_eqPacket.ok (holds_cons laws_markPacket.ok (holds_cons laws_heldPacket.ok holds_nil))))))))))))))) (by kernel_rfl) H Go.Proofs.Try.func10 (by kernel_rfl) (rfl : Go.Proofs.Try.f10.body = some _) (by kernel_rfl) (by kernel_rfl) fun k x y h => Eq.trans (by kernel_rfl : _ = spec.fn k x) h
end laws_FnExactAnswerFor

end
end Go.Proofs.YtknaadbgljjpiaaT
