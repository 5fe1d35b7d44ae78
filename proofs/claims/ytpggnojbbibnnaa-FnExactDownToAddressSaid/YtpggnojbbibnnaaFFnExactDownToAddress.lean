/- The functions of the program, as they compute: printed by a program of the session (wip/gen), each with its contract. -/
import Derived.Test.YtpggnojbbibnnaaProg
import Derived.Test.YtpggnojbbibnnaaTiAI
set_option linter.unusedVariables false
set_option maxRecDepth 100000
namespace Go.Proofs.YtpggnojbbibnnaaT
open Go
abbrev I : Ty := .int .i64
noncomputable section
namespace laws_szNodeS
def f (k : Nat) (a0 : List (Int × Int × Int)) (a1 : Int) : Option (Int) := brB (iLt (iSub .i64 a1 (rLen a0)) 0) (some (-1)) (some (iSub .i64 a1 (rLen a0)))
def sig : Sig := ⟨18, [.w false [.row (.pair I (.pair I I))], .w false [I]], [(false, [.val I])]⟩
def H : Hints := ⟨[], [], [], []⟩
def spec : Spec := { sig := sig, fn := fun k (x : List (Int × Int × Int) × Int) => f k x.1 x.2 }
theorem ok : Holds Go.Proofs.Try.prog spec := holds_of_run (G := []) holds_nil (by kernel_rfl) H Go.Proofs.Try.func18 (by kernel_rfl) (rfl : Go.Proofs.Try.f18.body = some _) (by kernel_rfl) (by kernel_rfl) fun k x y h => Eq.trans (by kernel_rfl : _ = spec.fn k x) h
end laws_szNodeS

namespace laws_szBarS
def f (k : Nat) (a0 : List (Int × Int)) (a1 : Int) : Option (Int) := brB (iLt (iSub .i64 a1 (rLen a0)) 0) (some (-1)) (some (iSub .i64 a1 (rLen a0)))
def sig : Sig := ⟨19, [.w false [.row (.pair I I)], .w false [I]], [(false, [.val I])]⟩
def H : Hints := ⟨[], [], [], []⟩
def spec : Spec := { sig := sig, fn := fun k (x : List (Int × Int) × Int) => f k x.1 x.2 }
theorem ok : Holds Go.Proofs.Try.prog spec := holds_of_run (G := []) holds_nil (by kernel_rfl) H Go.Proofs.Try.func19 (by kernel_rfl) (rfl : Go.Proofs.Try.f19.body = some _) (by kernel_rfl) (by kernel_rfl) fun k x y h => Eq.trans (by kernel_rfl : _ = spec.fn k x) h
end laws_szBarS

namespace laws_toNode
def f (k : Nat) (a0_0 : Int) (a0_1 : Int) (a0_2 : Int) : Option (Int × Int × Int) := some (a0_0, a0_1, a0_2)
def sig : Sig := ⟨50, [.w true [I, I, I]], [(true, [.val I, .val I, .val I])]⟩
def H : Hints := ⟨[], [], [], []⟩
def spec : Spec := { sig := sig, fn := fun k (x : Int × Int × Int) => f k x.1 x.2.1 x.2.2 }
theorem ok : Holds Go.Proofs.Try.prog spec := holds_of_run (G := []) holds_nil (by kernel_rfl) H Go.Proofs.Try.func50 (by kernel_rfl) (rfl : Go.Proofs.Try.f50.body = some _) (by kernel_rfl) (by kernel_rfl) fun k x y h => Eq.trans (by kernel_rfl : _ = spec.fn k x) h
end laws_toNode

namespace laws_toNodeS
def s0 (k : Nat) (rec0 : ((List (Int × Int × Int)) × (List (Int × Int × Int)) × Int) → Option (List (Int × Int × Int))) (x0 : List (Int × Int × Int)) (x1 : List (Int × Int × Int)) (x2 : Int) : Option (List (Int × Int × Int)) := brB (iLt x2 (rLen x0)) (chk (cIdx x2 (rLen x0)) (bnd (laws_toNode.f k ((rGet (0, 0, 0) x0 x2).1) (((rGet (0, 0, 0) x0 x2).2).1) (((rGet (0, 0, 0) x0 x2).2).2)) fun (y0, y1, y2) => chk (cIdx x2 (rLen x1)) (rec0 (x0, rSet x1 x2 (y0, y1, y2), iAdd .i64 x2 1)))) (some x1)
def l0 (k n : Nat) (x0 : List (Int × Int × Int)) (x1 : List (Int × Int × Int)) (x2 : Int) : Option (List (Int × Int × Int)) := iter (fun (rec : ((List (Int × Int × Int)) × (List (Int × Int × Int)) × Int) → Option (List (Int × Int × Int))) (x : (List (Int × Int × Int)) × (List (Int × Int × Int)) × Int) => s0 k rec x.1 x.2.1 x.2.2) n (x0, x1, x2)
def f (k : Nat) (a0 : List (Int × Int × Int)) : Option (List (Int × Int × Int)) := chk (cMake (rLen a0) (rLen a0) 24) (l0 k k a0 (rRep (0, 0, 0) (rLen a0)) 0)
def sig : Sig := ⟨21, [.w false [.row (.pair I (.pair I I))]], [(false, [.own (.pair I (.pair I I))])]⟩
def H : Hints := ⟨[(3, ⟨⟨[(0, .w false 1), (3, .w false 1), (4, .w false 1)], []⟩, [], [.val (.row (.pair I (.pair I I))), .own (.pair I (.pair I I)), .val I], []⟩)], [], [], []⟩
def spec : Spec := { sig := sig, fn := fun k (x : List (Int × Int × Int)) => f k x }
theorem ok : Holds Go.Proofs.Try.prog spec := holds_of_run (G := [laws_toNode.spec]) (holds_cons laws_toNode.ok holds_nil) (by kernel_rfl) H Go.Proofs.Try.func21 (by kernel_rfl) (rfl : Go.Proofs.Try.f21.body = some _) (by kernel_rfl) (by kernel_rfl) fun k x y h => Eq.trans (by kernel_rfl : _ = spec.fn k x) h
end laws_toNodeS

namespace laws_toBar
def f (k : Nat) (a0_0 : Int) (a0_1 : Int) : Option (Int × Int) := some (a0_0, a0_1)
def sig : Sig := ⟨51, [.w true [I, I]], [(true, [.val I, .val I])]⟩
def H : Hints := ⟨[], [], [], []⟩
def spec : Spec := { sig := sig, fn := fun k (x : Int × Int) => f k x.1 x.2 }
theorem ok : Holds Go.Proofs.Try.prog spec := holds_of_run (G := []) holds_nil (by kernel_rfl) H Go.Proofs.Try.func51 (by kernel_rfl) (rfl : Go.Proofs.Try.f51.body = some _) (by kernel_rfl) (by kernel_rfl) fun k x y h => Eq.trans (by kernel_rfl : _ = spec.fn k x) h
end laws_toBar

namespace laws_toBarS
def s0 (k : Nat) (rec0 : ((List (Int × Int)) × (List (Int × Int)) × Int) → Option (List (Int × Int))) (x0 : List (Int × Int)) (x1 : List (Int × Int)) (x2 : Int) : Option (List (Int × Int)) := brB (iLt x2 (rLen x0)) (chk (cIdx x2 (rLen x0)) (bnd (laws_toBar.f k ((rGet (0, 0) x0 x2).1) ((rGet (0, 0) x0 x2).2)) fun (y0, y1) => chk (cIdx x2 (rLen x1)) (rec0 (x0, rSet x1 x2 (y0, y1), iAdd .i64 x2 1)))) (some x1)
def l0 (k n : Nat) (x0 : List (Int × Int)) (x1 : List (Int × Int)) (x2 : Int) : Option (List (Int × Int)) := iter (fun (rec : ((List (Int × Int)) × (List (Int × Int)) × Int) → Option (List (Int × Int))) (x : (List (Int × Int)) × (List (Int × Int)) × Int) => s0 k rec x.1 x.2.1 x.2.2) n (x0, x1, x2)
def f (k : Nat) (a0 : List (Int × Int)) : Option (List (Int × Int)) := chk (cMake (rLen a0) (rLen a0) 16) (l0 k k a0 (rRep (0, 0) (rLen a0)) 0)
def sig : Sig := ⟨22, [.w false [.row (.pair I I)]], [(false, [.own (.pair I I)])]⟩
def H : Hints := ⟨[(3, ⟨⟨[(0, .w false 1), (3, .w false 1), (4, .w false 1)], []⟩, [], [.val (.row (.pair I I)), .own (.pair I I), .val I], []⟩)], [], [], []⟩
def spec : Spec := { sig := sig, fn := fun k (x : List (Int × Int)) => f k x }
theorem ok : Holds Go.Proofs.Try.prog spec := holds_of_run (G := [laws_toBar.spec]) (holds_cons laws_toBar.ok holds_nil) (by kernel_rfl) H Go.Proofs.Try.func22 (by kernel_rfl) (rfl : Go.Proofs.Try.f22.body = some _) (by kernel_rfl) (by kernel_rfl) fun k x y h => Eq.trans (by kernel_rfl : _ = spec.fn k x) h
end laws_toBarS

namespace spec_l01In
def f (k : Nat) (a0 : Int) (a1 : Int) (a2 : Int) : Option (Bool) := brB (iLe a1 a0) (some (iLe a0 a2)) (some false)
def sig : Sig := ⟨54, [.w false [I], .w false [I], .w false [I]], [(false, [.val .bool])]⟩
def H : Hints := ⟨[], [], [], []⟩
def spec : Spec := { sig := sig, fn := fun k (x : Int × Int × Int) => f k x.1 x.2.1 x.2.2 }
theorem ok : Holds Go.Proofs.Try.prog spec := holds_of_run (G := []) holds_nil (by kernel_rfl) H Go.Proofs.Try.func54 (by kernel_rfl) (rfl : Go.Proofs.Try.f54.body = some _) (by kernel_rfl) (by kernel_rfl) fun k x y h => Eq.trans (by kernel_rfl : _ = spec.fn k x) h
end spec_l01In

namespace spec_TreeOk
def s1 (k : Nat) (rec0 : ((List (Int × Int × Int)) × Int) → Option (Bool)) (rec1 : ((List (Int × Int × Int)) × Int × Int × Int × Int × Int) → Option (Bool)) (x2 : List (Int × Int × Int)) (x3 : Int) (x4 : Int) (x5 : Int) (x6 : Int) (x7 : Int) : Option (Bool) := brB (iLt x4 x3) (chk (cIdx x4 (rLen x2)) (brB (iEq ((rGet (0, 0, 0) x2 x4).1) x5) (chk (cIdx x4 (rLen x2)) (brB (iEq (((rGet (0, 0, 0) x2 x4).2).1) x6) (some false) (rec1 (x2, x3, iAdd .i64 x4 1, x5, x6, x7)))) (rec1 (x2, x3, iAdd .i64 x4 1, x5, x6, x7)))) (rec0 (x2, iAdd .i64 x3 1))
def l1 (k n : Nat) (rec0 : ((List (Int × Int × Int)) × Int) → Option (Bool)) (x2 : List (Int × Int × Int)) (x3 : Int) (x4 : Int) (x5 : Int) (x6 : Int) (x7 : Int) : Option (Bool) := iter (fun (rec : ((List (Int × Int × Int)) × Int × Int × Int × Int × Int) → Option (Bool)) (x : (List (Int × Int × Int)) × Int × Int × Int × Int × Int) => s1 k rec0 rec x.1 x.2.1 x.2.2.1 x.2.2.2.1 x.2.2.2.2.1 x.2.2.2.2.2) n (x2, x3, x4, x5, x6, x7)
def s0 (k : Nat) (rec0 : ((List (Int × Int × Int)) × Int) → Option (Bool)) (x0 : List (Int × Int × Int)) (x1 : Int) : Option (Bool) := brB (iLt x1 (rLen x0)) (chk (cIdx x1 (rLen x0)) (bnd (spec_l01In.f k ((rGet (0, 0, 0) x0 x1).1) 0 (iSub .i64 x1 1)) fun y1 => brB (bNot y1) (some false) (chk (cIdx ((rGet (0, 0, 0) x0 x1).1) (rLen x0)) (brB (iNe (((rGet (0, 0, 0) x0 ((rGet (0, 0, 0) x0 x1).1)).2).2) 0) (some false) (bnd (spec_l01In.f k (((rGet (0, 0, 0) x0 x1).2).1) 0 3) fun y2 => brB (bNot y2) (some false) (bnd (spec_l01In.f k (((rGet (0, 0, 0) x0 x1).2).2) 0 4) fun y3 => brB (bNot y3) (some false) (l1 k k rec0 x0 x1 1 ((rGet (0, 0, 0) x0 x1).1) (((rGet (0, 0, 0) x0 x1).2).1) (((rGet (0, 0, 0) x0 x1).2).2)))))))) (some true)
def l0 (k n : Nat) (x0 : List (Int × Int × Int)) (x1 : Int) : Option (Bool) := iter (fun (rec : ((List (Int × Int × Int)) × Int) → Option (Bool)) (x : (List (Int × Int × Int)) × Int) => s0 k rec x.1 x.2) n (x0, x1)
def f (k : Nat) (a0 : List (Int × Int × Int)) : Option (Bool) := bnd (spec_l01In.f k (rLen a0) 1 12) fun y0 => brB (bNot y0) (some false) (chk (cIdx 0 (rLen a0)) (brB (bNot (bAnd (iEq ((rGet (0, 0, 0) a0 0).1) (-1)) (bAnd (iEq (((rGet (0, 0, 0) a0 0).2).1) 0) (bAnd (iEq (((rGet (0, 0, 0) a0 0).2).2) 0) true)))) (some false) (l0 k k a0 1)))
def sig : Sig := ⟨48, [.w false [.row (.pair I (.pair I I))]], [(false, [.val .bool])]⟩
def H : Hints := ⟨[(4, ⟨⟨[(0, .w false 1), (3, .w false 1)], []⟩, [], [.val (.row (.pair I (.pair I I))), .val I], []⟩), (10, ⟨⟨[(0, .w false 1), (3, .w false 1), (4, .ptr 104 0), (5, .w false 1)], [(104, 3)]⟩, [4], [.val (.row (.pair I (.pair I I))), .val I, .val I, .val I, .val I, .val I], []⟩)], [], [(12, [0, 0, 3, 7, 15, 0, 32, 127, 255, 511, 511, 2047, 4095, 8191, 511, 16895, 65535, 131071])], []⟩
def spec : Spec := { sig := sig, fn := fun k (x : List (Int × Int × Int)) => f k x }
theorem ok : Holds Go.Proofs.Try.prog spec := holds_of_run (G := [spec_l01In.spec]) (holds_cons spec_l01In.ok holds_nil) (by kernel_rfl) H Go.Proofs.Try.func48 (by kernel_rfl) (rfl : Go.Proofs.Try.f48.body = some _) (by kernel_rfl) (by kernel_rfl) fun k x y h => Eq.trans (by kernel_rfl : _ = spec.fn k x) h
end spec_TreeOk

namespace spec_l19Ok
def f (k : Nat) (a0 : List (Int × Int × Int)) (a1 : Int) : Option (Bool) := bnd (spec_TreeOk.f k a0) fun y0 => brB y0 (bnd (spec_l01In.f k a1 0 (iSub .i64 (rLen a0) 1)) fun y1 => some y1) (some false)
def sig : Sig := ⟨70, [.w false [.row (.pair I (.pair I I))], .w false [I]], [(false, [.val .bool])]⟩
def H : Hints := ⟨[], [], [], []⟩
def spec : Spec := { sig := sig, fn := fun k (x : List (Int × Int × Int) × Int) => f k x.1 x.2 }
theorem ok : Holds Go.Proofs.Try.prog spec := holds_of_run (G := [spec_l01In.spec, spec_TreeOk.spec]) (holds_cons spec_l01In.ok (holds_cons spec_TreeOk.ok holds_nil)) (by kernel_rfl) H Go.Proofs.Try.func70 (by kernel_rfl) (rfl : Go.Proofs.Try.f70.body = some _) (by kernel_rfl) (by kernel_rfl) fun k x y h => Eq.trans (by kernel_rfl : _ = spec.fn k x) h
end spec_l19Ok

namespace spec_ChildrenOf
def s1 (k : Nat) (rec0 : ((List (Int × Int × Int)) × Int × (List Int) × Int) → Option (List Int)) (rec1 : ((List (Int × Int × Int)) × Int × List Int × Int × Int) → Option (List Int)) (x4 : List (Int × Int × Int)) (x5 : Int) (x6 : List Int) (x7 : Int) (x8 : Int) : Option (List Int) := brB (iLt x8 (rLen x4)) (chk (cIdx x8 (rLen x4)) (brB (iEq ((rGet (0, 0, 0) x4 x8).1) x5) (chk (cIdx x8 (rLen x4)) (brB (iEq (((rGet (0, 0, 0) x4 x8).2).1) x7) (chk (cLen (rLen (rApp x6 [x8])) 8) (rec1 (x4, x5, rApp x6 [x8], x7, iAdd .i64 x8 1))) (rec1 (x4, x5, x6, x7, iAdd .i64 x8 1)))) (rec1 (x4, x5, x6, x7, iAdd .i64 x8 1)))) (rec0 (x4, x5, x6, iAdd .i64 x7 1))
def l1 (k n : Nat) (rec0 : ((List (Int × Int × Int)) × Int × (List Int) × Int) → Option (List Int)) (x4 : List (Int × Int × Int)) (x5 : Int) (x6 : List Int) (x7 : Int) (x8 : Int) : Option (List Int) := iter (fun (rec : ((List (Int × Int × Int)) × Int × List Int × Int × Int) → Option (List Int)) (x : (List (Int × Int × Int)) × Int × List Int × Int × Int) => s1 k rec0 rec x.1 x.2.1 x.2.2.1 x.2.2.2.1 x.2.2.2.2) n (x4, x5, x6, x7, x8)
def s0 (k : Nat) (rec0 : ((List (Int × Int × Int)) × Int × List Int × Int) → Option (List Int)) (x0 : List (Int × Int × Int)) (x1 : Int) (x2 : List Int) (x3 : Int) : Option (List Int) := brB (iLe x3 3) (l1 k k rec0 x0 x1 x2 x3 1) (some x2)
def l0 (k n : Nat) (x0 : List (Int × Int × Int)) (x1 : Int) (x2 : List Int) (x3 : Int) : Option (List Int) := iter (fun (rec : ((List (Int × Int × Int)) × Int × List Int × Int) → Option (List Int)) (x : (List (Int × Int × Int)) × Int × List Int × Int) => s0 k rec x.1 x.2.1 x.2.2.1 x.2.2.2) n (x0, x1, x2, x3)
def f (k : Nat) (a0 : List (Int × Int × Int)) (a1 : Int) : Option (List Int) := bnd (spec_l19Ok.f k a0 a1) fun y0 => brB (bNot y0) (some []) (l0 k k a0 a1 [] 0)
def sig : Sig := ⟨58, [.w false [.row (.pair I (.pair I I))], .w false [I]], [(false, [.own I])]⟩
def H : Hints := ⟨[(5, ⟨⟨[(0, .w false 1), (1, .w false 1), (5, .w false 1), (6, .w false 1)], []⟩, [], [.val (.row (.pair I (.pair I I))), .val I, .own I, .val I], []⟩), (8, ⟨⟨[(0, .w false 1), (1, .w false 1), (5, .w false 1), (6, .w false 1), (7, .w false 1)], []⟩, [], [.val (.row (.pair I (.pair I I))), .val I, .own I, .val I, .val I], []⟩)], [], [], []⟩
def spec : Spec := { sig := sig, fn := fun k (x : List (Int × Int × Int) × Int) => f k x.1 x.2 }
theorem ok : Holds Go.Proofs.Try.prog spec := holds_of_run (G := [spec_l19Ok.spec]) (holds_cons spec_l19Ok.ok holds_nil) (by kernel_rfl) H Go.Proofs.Try.func58 (by kernel_rfl) (rfl : Go.Proofs.Try.f58.body = some _) (by kernel_rfl) (by kernel_rfl) fun k x y h => Eq.trans (by kernel_rfl : _ = spec.fn k x) h
end spec_ChildrenOf

namespace spec_l24Far
def f (k : Nat) (a0 : Int) (a1 : Int) : Option (Int) := some (iSub .u64 (iCnv .u64 a1) (iCnv .u64 a0))
def sig : Sig := ⟨69, [.w false [I], .w false [I]], [(false, [.val (.int .u64)])]⟩
def H : Hints := ⟨[], [], [], []⟩
def spec : Spec := { sig := sig, fn := fun k (x : Int × Int) => f k x.1 x.2 }
theorem ok : Holds Go.Proofs.Try.prog spec := holds_of_run (G := []) holds_nil (by kernel_rfl) H Go.Proofs.Try.func69 (by kernel_rfl) (rfl : Go.Proofs.Try.f69.body = some _) (by kernel_rfl) (by kernel_rfl) fun k x y h => Eq.trans (by kernel_rfl : _ = spec.fn k x) h
end spec_l24Far

namespace spec_l25Covers
def f (k : Nat) (a0_0 : Int) (a0_1 : Int) (a1 : Int) : Option (Bool) := brB (iLt 0 a0_0) (brB (iLe a0_1 a1) (bnd (spec_l24Far.f k a0_1 a1) fun y0 => some (iLt y0 (iCnv .u64 a0_0))) (some false)) (some false)
def sig : Sig := ⟨55, [.w true [I, I], .w false [I]], [(false, [.val .bool])]⟩
def H : Hints := ⟨[], [], [(1, [0, 1, 3, 7, 15, 15, 47, 127, 255, 511, 1023, 2047, 1023, 8191, 1023, 17407, 50175, 131071, 262143, 524287])], []⟩
def spec : Spec := { sig := sig, fn := fun k (x : Int × Int × Int) => f k x.1 x.2.1 x.2.2 }
theorem ok : Holds Go.Proofs.Try.prog spec := holds_of_run (G := [spec_l24Far.spec]) (holds_cons spec_l24Far.ok holds_nil) (by kernel_rfl) H Go.Proofs.Try.func55 (by kernel_rfl) (rfl : Go.Proofs.Try.f55.body = some _) (by kernel_rfl) (by kernel_rfl) fun k x y h => Eq.trans (by kernel_rfl : _ = spec.fn k x) h
end spec_l25Covers

namespace spec_l25Down
def s1 (k : Nat) (rec0 : ((List (Int × Int × Int)) × (List (Int × Int)) × Int × Int × List Int) → Option (List Int)) (rec1 : ((List (Int × Int × Int)) × (List (Int × Int)) × Int × List Int × List Int × Int × Int) → Option (List Int)) (x5 : List (Int × Int × Int)) (x6 : List (Int × Int)) (x7 : Int) (x8 : List Int) (x9 : List Int) (x10 : Int) (x11 : Int) : Option (List Int) := brB (iLe 0 x11) (chk (cIdx x11 (rLen x9)) (chk (cIdx (rGet 0 x9 x11) (rLen x6)) (bnd (spec_l25Covers.f k ((rGet (0, 0) x6 (rGet 0 x9 x11)).1) ((rGet (0, 0) x6 (rGet 0 x9 x11)).2) x7) fun y1 => brB y1 (chk (cIdx x11 (rLen x9)) (rec1 (x5, x6, x7, x8, x9, rGet 0 x9 x11, iSub .i64 x11 1))) (rec1 (x5, x6, x7, x8, x9, x10, iSub .i64 x11 1))))) (brB (iLt x10 0) (some []) (chk (cLen (rLen (rApp x8 [x10])) 8) (rec0 (x5, x6, x10, x7, rApp x8 [x10]))))
def l1 (k n : Nat) (rec0 : ((List (Int × Int × Int)) × (List (Int × Int)) × Int × Int × List Int) → Option (List Int)) (x5 : List (Int × Int × Int)) (x6 : List (Int × Int)) (x7 : Int) (x8 : List Int) (x9 : List Int) (x10 : Int) (x11 : Int) : Option (List Int) := iter (fun (rec : ((List (Int × Int × Int)) × (List (Int × Int)) × Int × List Int × List Int × Int × Int) → Option (List Int)) (x : (List (Int × Int × Int)) × (List (Int × Int)) × Int × List Int × List Int × Int × Int) => s1 k rec0 rec x.1 x.2.1 x.2.2.1 x.2.2.2.1 x.2.2.2.2.1 x.2.2.2.2.2.1 x.2.2.2.2.2.2) n (x5, x6, x7, x8, x9, x10, x11)
def s0 (k : Nat) (rec0 : ((List (Int × Int × Int)) × (List (Int × Int)) × Int × Int × List Int) → Option (List Int)) (x0 : List (Int × Int × Int)) (x1 : List (Int × Int)) (x2 : Int) (x3 : Int) (x4 : List Int) : Option (List Int) := chk (cIdx x2 (rLen x0)) (brB (iEq (((rGet (0, 0, 0) x0 x2).2).2) 0) (bnd (spec_ChildrenOf.f k x0 x2) fun y0 => l1 k k rec0 x0 x1 x3 x4 y0 (-1) (iSub .i64 (rLen y0) 1)) (some x4))
def l0 (k n : Nat) (x0 : List (Int × Int × Int)) (x1 : List (Int × Int)) (x2 : Int) (x3 : Int) (x4 : List Int) : Option (List Int) := iter (fun (rec : ((List (Int × Int × Int)) × (List (Int × Int)) × Int × Int × List Int) → Option (List Int)) (x : (List (Int × Int × Int)) × (List (Int × Int)) × Int × Int × List Int) => s0 k rec x.1 x.2.1 x.2.2.1 x.2.2.2.1 x.2.2.2.2) n (x0, x1, x2, x3, x4)
def f (k : Nat) (a0 : List (Int × Int × Int)) (a1 : List (Int × Int)) (a2 : Int) (a3 : Int) : Option (List Int) := l0 k k a0 a1 a2 a3 [a2]
def sig : Sig := ⟨49, [.w false [.row (.pair I (.pair I I))], .w false [.row (.pair I I)], .w false [I], .w false [I]], [(false, [.own I])]⟩
def H : Hints := ⟨[(2, ⟨⟨[(0, .w false 1), (1, .w false 1), (2, .w false 1), (3, .w false 1), (9, .w false 1)], []⟩, [], [.val (.row (.pair I (.pair I I))), .val (.row (.pair I I)), .val I, .val I, .own I], []⟩), (6, ⟨⟨[(0, .w false 1), (1, .w false 1), (3, .w false 1), (9, .w false 1), (10, .w false 1), (11, .w false 1), (12, .w false 1)], []⟩, [], [.val (.row (.pair I (.pair I I))), .val (.row (.pair I I)), .val I, .own I, .own I, .val I, .val I], []⟩)], [], [], []⟩
def spec : Spec := { sig := sig, fn := fun k (x : List (Int × Int × Int) × List (Int × Int) × Int × Int) => f k x.1 x.2.1 x.2.2.1 x.2.2.2 }
theorem ok : Holds Go.Proofs.Try.prog spec := holds_of_run (G := [spec_ChildrenOf.spec, spec_l25Covers.spec]) (holds_cons spec_ChildrenOf.ok (holds_cons spec_l25Covers.ok holds_nil)) (by kernel_rfl) H Go.Proofs.Try.func49 (by kernel_rfl) (rfl : Go.Proofs.Try.f49.body = some _) (by kernel_rfl) (by kernel_rfl) fun k x y h => Eq.trans (by kernel_rfl : _ = spec.fn k x) h
end spec_l25Down

namespace spec_DownToAddress
def f (k : Nat) (a0 : List (Int × Int × Int)) (a1 : List (Int × Int)) (a2 : Int) : Option (List Int) := bnd (spec_TreeOk.f k a0) fun y0 => brB (bNot y0) (some []) (brB (iNe (rLen a1) (rLen a0)) (some []) (bnd (spec_l25Down.f k a0 a1 0 a2) fun y1 => some y1))
def sig : Sig := ⟨20, [.w false [.row (.pair I (.pair I I))], .w false [.row (.pair I I)], .w false [I]], [(false, [.own I])]⟩
def H : Hints := ⟨[], [], [], []⟩
def spec : Spec := { sig := sig, fn := fun k (x : List (Int × Int × Int) × List (Int × Int) × Int) => f k x.1 x.2.1 x.2.2 }
theorem ok : Holds Go.Proofs.Try.prog spec := holds_of_run (G := [spec_TreeOk.spec, spec_l25Down.spec]) (holds_cons spec_TreeOk.ok (holds_cons spec_l25Down.ok holds_nil)) (by kernel_rfl) H Go.Proofs.Try.func20 (by kernel_rfl) (rfl : Go.Proofs.Try.f20.body = some _) (by kernel_rfl) (by kernel_rfl) fun k x y h => Eq.trans (by kernel_rfl : _ = spec.fn k x) h
end spec_DownToAddress

namespace impl_within
def f (k : Nat) (a0 : Int) (a1 : Int) (a2 : Int) : Option (Bool) := brB (iLe a1 a0) (some (iLe a0 a2)) (some false)
def sig : Sig := ⟨47, [.w false [I], .w false [I], .w false [I]], [(false, [.val .bool])]⟩
def H : Hints := ⟨[], [], [], []⟩
def spec : Spec := { sig := sig, fn := fun k (x : Int × Int × Int) => f k x.1 x.2.1 x.2.2 }
theorem ok : Holds Go.Proofs.Try.prog spec := holds_of_run (G := []) holds_nil (by kernel_rfl) H Go.Proofs.Try.func47 (by kernel_rfl) (rfl : Go.Proofs.Try.f47.body = some _) (by kernel_rfl) (by kernel_rfl) fun k x y h => Eq.trans (by kernel_rfl : _ = spec.fn k x) h
end impl_within

namespace impl_TreeOk_1
def f (k : Nat) (a0_0 : Int) (a0_1 : Int) (a0_2 : Int) (a1_0 : Int) (a1_1 : Int) (a1_2 : Int) : Option (Bool × Int × Int × Int) := brB (iEq a0_0 a1_0) (some (iEq a0_1 a1_1, a1_0, a1_1, a1_2)) (some (false, a1_0, a1_1, a1_2))
def sig : Sig := ⟨72, [.w true [I, I, I], .ref [I, I, I]], [(false, [.val .bool])]⟩
def H : Hints := ⟨[], [], [], []⟩
def spec : Spec := { sig := sig, fn := fun k (x : Int × Int × Int × Int × Int × Int) => f k x.1 x.2.1 x.2.2.1 x.2.2.2.1 x.2.2.2.2.1 x.2.2.2.2.2 }
theorem ok : Holds Go.Proofs.Try.prog spec := holds_of_run (G := []) holds_nil (by kernel_rfl) H Go.Proofs.Try.func72 (by kernel_rfl) (rfl : Go.Proofs.Try.f72.body = some _) (by kernel_rfl) (by kernel_rfl) fun k x y h => Eq.trans (by kernel_rfl : _ = spec.fn k x) h
end impl_TreeOk_1

namespace slices_IndexFunc_Node_impl_TreeOk_1
def s0 (k : Nat) (rec0 : ((List (Int × Int × Int)) × Int × Int × Int × Int × Int) → Option (Int × Int × Int × Int)) (x0 : List (Int × Int × Int)) (x1 : Int) (x2 : Int) (x3 : Int) (x4 : Int) (x5 : Int) : Option (Int × Int × Int × Int) := brB (iLt x2 x1) (chk (cIdx x2 (rLen x0)) (bnd (impl_TreeOk_1.f k ((rGet (0, 0, 0) x0 x2).1) (((rGet (0, 0, 0) x0 x2).2).1) (((rGet (0, 0, 0) x0 x2).2).2) x3 x4 x5) fun (y0, y1, y2, y3) => brB y0 (some (x2, y1, y2, y3)) (rec0 (x0, x1, iAdd .i64 x2 1, y1, y2, y3)))) (some ((-1), x3, x4, x5))
def l0 (k n : Nat) (x0 : List (Int × Int × Int)) (x1 : Int) (x2 : Int) (x3 : Int) (x4 : Int) (x5 : Int) : Option (Int × Int × Int × Int) := iter (fun (rec : ((List (Int × Int × Int)) × Int × Int × Int × Int × Int) → Option (Int × Int × Int × Int)) (x : (List (Int × Int × Int)) × Int × Int × Int × Int × Int) => s0 k rec x.1 x.2.1 x.2.2.1 x.2.2.2.1 x.2.2.2.2.1 x.2.2.2.2.2) n (x0, x1, x2, x3, x4, x5)
def f (k : Nat) (a0 : List (Int × Int × Int)) (a1_0 : Int) (a1_1 : Int) (a1_2 : Int) : Option (Int × Int × Int × Int) := l0 k k a0 (rLen a0) 0 a1_0 a1_1 a1_2
def sig : Sig := ⟨78, [.w false [.row (.pair I (.pair I I))], .fnr 72 [I, I, I]], [(false, [.val I])]⟩
def H : Hints := ⟨[(2, ⟨⟨[(0, .w false 1), (1, .fnp 72 2 0), (7, .w false 1), (8, .w false 1)], [(2, 3)]⟩, [1], [.val (.row (.pair I (.pair I I))), .val I, .val I, .val I, .val I, .val I], []⟩)], [], [], []⟩
def spec : Spec := { sig := sig, fn := fun k (x : List (Int × Int × Int) × Int × Int × Int) => f k x.1 x.2.1 x.2.2.1 x.2.2.2 }
theorem ok : Holds Go.Proofs.Try.prog spec := holds_of_run (G := [impl_TreeOk_1.spec]) (holds_cons impl_TreeOk_1.ok holds_nil) (by kernel_rfl) H Go.Proofs.Try.func78 (by kernel_rfl) (rfl : Go.Proofs.Try.f78.body = some _) (by kernel_rfl) (by kernel_rfl) fun k x y h => Eq.trans (by kernel_rfl : _ = spec.fn k x) h
end slices_IndexFunc_Node_impl_TreeOk_1

namespace slices_ContainsFunc_Node_impl_TreeOk_1
def f (k : Nat) (a0 : List (Int × Int × Int)) (a1_0 : Int) (a1_1 : Int) (a1_2 : Int) : Option (Bool × Int × Int × Int) := bnd (slices_IndexFunc_Node_impl_TreeOk_1.f k a0 a1_0 a1_1 a1_2) fun (y0, y1, y2, y3) => some (iLe 0 y0, y1, y2, y3)
def sig : Sig := ⟨71, [.w false [.row (.pair I (.pair I I))], .fnr 72 [I, I, I]], [(false, [.val .bool])]⟩
def H : Hints := ⟨[], [], [], []⟩
def spec : Spec := { sig := sig, fn := fun k (x : List (Int × Int × Int) × Int × Int × Int) => f k x.1 x.2.1 x.2.2.1 x.2.2.2 }
theorem ok : Holds Go.Proofs.Try.prog spec := holds_of_run (G := [slices_IndexFunc_Node_impl_TreeOk_1.spec]) (holds_cons slices_IndexFunc_Node_impl_TreeOk_1.ok holds_nil) (by kernel_rfl) H Go.Proofs.Try.func71 (by kernel_rfl) (rfl : Go.Proofs.Try.f71.body = some _) (by kernel_rfl) (by kernel_rfl) fun k x y h => Eq.trans (by kernel_rfl : _ = spec.fn k x) h
end slices_ContainsFunc_Node_impl_TreeOk_1

namespace impl_TreeOk
def s0 (k : Nat) (rec0 : ((List (Int × Int × Int)) × (List (Int × Int × Int)) × Int × Int) → Option (Bool)) (x0 : List (Int × Int × Int)) (x1 : List (Int × Int × Int)) (x2 : Int) (x3 : Int) : Option (Bool) := brB (iLt x3 x2) (chk (cIdx x3 (rLen x1)) (chk (cSub 0 (iAdd .i64 x3 1) (rLen x0)) (bnd (impl_within.f k ((rGet (0, 0, 0) x1 x3).1) 0 x3) fun y1 => brB (bNot y1) (some false) (chk (cIdx ((rGet (0, 0, 0) x1 x3).1) (rLen (rSub x0 0 (iAdd .i64 x3 1)))) (brB (iNe (((rGet (0, 0, 0) (rSub x0 0 (iAdd .i64 x3 1)) ((rGet (0, 0, 0) x1 x3).1)).2).2) 0) (some false) (bnd (impl_within.f k (((rGet (0, 0, 0) x1 x3).2).1) 0 3) fun y2 => brB (bNot y2) (some false) (bnd (impl_within.f k (((rGet (0, 0, 0) x1 x3).2).2) 0 4) fun y3 => brB (bNot y3) (some false) (bnd (slices_ContainsFunc_Node_impl_TreeOk_1.f k (rSub x0 0 (iAdd .i64 x3 1)) ((rGet (0, 0, 0) x1 x3).1) (((rGet (0, 0, 0) x1 x3).2).1) (((rGet (0, 0, 0) x1 x3).2).2)) fun (y4, y5, y6, y7) => brB y4 (some false) (rec0 (x0, x1, x2, iAdd .i64 x3 1)))))))))) (some true)
def l0 (k n : Nat) (x0 : List (Int × Int × Int)) (x1 : List (Int × Int × Int)) (x2 : Int) (x3 : Int) : Option (Bool) := iter (fun (rec : ((List (Int × Int × Int)) × (List (Int × Int × Int)) × Int × Int) → Option (Bool)) (x : (List (Int × Int × Int)) × (List (Int × Int × Int)) × Int × Int) => s0 k rec x.1 x.2.1 x.2.2.1 x.2.2.2) n (x0, x1, x2, x3)
def f (k : Nat) (a0 : List (Int × Int × Int)) : Option (Bool) := bnd (impl_within.f k (rLen a0) 1 12) fun y0 => brB (bNot y0) (some false) (chk (cIdx 0 (rLen a0)) (brB (bNot (bAnd (iEq ((rGet (0, 0, 0) a0 0).1) (-1)) (bAnd (iEq (((rGet (0, 0, 0) a0 0).2).1) 0) (bAnd (iEq (((rGet (0, 0, 0) a0 0).2).2) 0) true)))) (some false) (chk (cSub 1 (rLen a0) (rLen a0)) (l0 k k a0 (rSub a0 1 (rLen a0)) (rLen (rSub a0 1 (rLen a0))) 0))))
def sig : Sig := ⟨59, [.w false [.row (.pair I (.pair I I))]], [(false, [.val .bool])]⟩
def H : Hints := ⟨[(4, ⟨⟨[(0, .w false 1), (18, .w false 1), (19, .w false 1), (20, .w false 1)], []⟩, [], [.val (.row (.pair I (.pair I I))), .val (.row (.pair I (.pair I I))), .val I, .val I], []⟩)], [], [], []⟩
def spec : Spec := { sig := sig, fn := fun k (x : List (Int × Int × Int)) => f k x }
theorem ok : Holds Go.Proofs.Try.prog spec := holds_of_run (G := [impl_within.spec, slices_ContainsFunc_Node_impl_TreeOk_1.spec]) (holds_cons impl_within.ok (holds_cons slices_ContainsFunc_Node_impl_TreeOk_1.ok holds_nil)) (by kernel_rfl) H Go.Proofs.Try.func59 (by kernel_rfl) (rfl : Go.Proofs.Try.f59.body = some _) (by kernel_rfl) (by kernel_rfl) fun k x y h => Eq.trans (by kernel_rfl : _ = spec.fn k x) h
end impl_TreeOk

namespace impl_areWindows
def f (k : Nat) (a0 : List (Int × Int × Int)) (a1 : List (Int × Int)) : Option (Bool) := bnd (impl_TreeOk.f k a0) fun y0 => brB y0 (some (iEq (rLen a1) (rLen a0))) (some false)
def sig : Sig := ⟨41, [.w false [.row (.pair I (.pair I I))], .w false [.row (.pair I I)]], [(false, [.val .bool])]⟩
def H : Hints := ⟨[], [], [], []⟩
def spec : Spec := { sig := sig, fn := fun k (x : List (Int × Int × Int) × List (Int × Int)) => f k x.1 x.2 }
theorem ok : Holds Go.Proofs.Try.prog spec := holds_of_run (G := [impl_TreeOk.spec]) (holds_cons impl_TreeOk.ok holds_nil) (by kernel_rfl) H Go.Proofs.Try.func41 (by kernel_rfl) (rfl : Go.Proofs.Try.f41.body = some _) (by kernel_rfl) (by kernel_rfl) fun k x y h => Eq.trans (by kernel_rfl : _ = spec.fn k x) h
end impl_areWindows

namespace impl_isBridge
def f (k : Nat) (a0 : List (Int × Int × Int)) (a1 : Int) : Option (Bool) := chk (cIdx a1 (rLen a0)) (some (iEq (((rGet (0, 0, 0) a0 a1).2).2) 0))
def sig : Sig := ⟨42, [.w false [.row (.pair I (.pair I I))], .w false [I]], [(false, [.val .bool])]⟩
def H : Hints := ⟨[], [], [], []⟩
def spec : Spec := { sig := sig, fn := fun k (x : List (Int × Int × Int) × Int) => f k x.1 x.2 }
theorem ok : Holds Go.Proofs.Try.prog spec := holds_of_run (G := []) holds_nil (by kernel_rfl) H Go.Proofs.Try.func42 (by kernel_rfl) (rfl : Go.Proofs.Try.f42.body = some _) (by kernel_rfl) (by kernel_rfl) fun k x y h => Eq.trans (by kernel_rfl : _ = spec.fn k x) h
end impl_isBridge

namespace impl_isNode
def f (k : Nat) (a0 : List (Int × Int × Int)) (a1 : Int) : Option (Bool) := bnd (impl_TreeOk.f k a0) fun y0 => brB y0 (bnd (impl_within.f k a1 0 (iSub .i64 (rLen a0) 1)) fun y1 => some y1) (some false)
def sig : Sig := ⟨45, [.w false [.row (.pair I (.pair I I))], .w false [I]], [(false, [.val .bool])]⟩
def H : Hints := ⟨[], [], [], []⟩
def spec : Spec := { sig := sig, fn := fun k (x : List (Int × Int × Int) × Int) => f k x.1 x.2 }
theorem ok : Holds Go.Proofs.Try.prog spec := holds_of_run (G := [impl_within.spec, impl_TreeOk.spec]) (holds_cons impl_within.ok (holds_cons impl_TreeOk.ok holds_nil)) (by kernel_rfl) H Go.Proofs.Try.func45 (by kernel_rfl) (rfl : Go.Proofs.Try.f45.body = some _) (by kernel_rfl) (by kernel_rfl) fun k x y h => Eq.trans (by kernel_rfl : _ = spec.fn k x) h
end impl_isNode

namespace bits_Len32
def f (k : Nat) (a0 : Int) : Option (Int) := brB (iLe 65536 a0) (chk (cNn 16) (brB (iLe 256 (iShr .u32 a0 16)) (chk (cNn 8) (chk (cIdx (iCnv .u8 (iShr .u32 (iShr .u32 a0 16) 8)) (sLen (ByteArray.mk #[0, 1, 2, 2, 3, 3, 3, 3, 4, 4, 4, 4, 4, 4, 4, 4, 5, 5, 5, 5, 5, 5, 5, 5, 5, 5, 5, 5, 5, 5, 5, 5, 6, 6, 6, 6, 6, 6, 6, 6, 6, 6, 6, 6, 6, 6, 6, 6, 6, 6, 6, 6, 6, 6, 6, 6, 6, 6, 6, 6, 6, 6, 6, 6, 7, 7, 7, 7, 7, 7, 7, 7, 7, 7, 7, 7, 7, 7, 7, 7, 7, 7, 7, 7, 7, 7, 7, 7, 7, 7, 7, 7, 7, 7, 7, 7, 7, 7, 7, 7, 7, 7, 7, 7, 7, 7, 7, 7, 7, 7, 7, 7, 7, 7, 7, 7, 7, 7, 7, 7, 7, 7, 7, 7, 7, 7, 7, 7, 8, 8, 8, 8, 8, 8, 8, 8, 8, 8, 8, 8, 8, 8, 8, 8, 8, 8, 8, 8, 8, 8, 8, 8, 8, 8, 8, 8, 8, 8, 8, 8, 8, 8, 8, 8, 8, 8, 8, 8, 8, 8, 8, 8, 8, 8, 8, 8, 8, 8, 8, 8, 8, 8, 8, 8, 8, 8, 8, 8, 8, 8, 8, 8, 8, 8, 8, 8, 8, 8, 8, 8, 8, 8, 8, 8, 8, 8, 8, 8, 8, 8, 8, 8, 8, 8, 8, 8, 8, 8, 8, 8, 8, 8, 8, 8, 8, 8, 8, 8, 8, 8, 8, 8, 8, 8, 8, 8, 8, 8, 8, 8, 8, 8, 8, 8, 8, 8, 8, 8, 8, 8, 8, 8, 8, 8, 8, 8]))) (some (iAdd .i64 (iAdd .i64 16 8) (iCnv .i64 (sGet (ByteArray.mk #[0, 1, 2, 2, 3, 3, 3, 3, 4, 4, 4, 4, 4, 4, 4, 4, 5, 5, 5, 5, 5, 5, 5, 5, 5, 5, 5, 5, 5, 5, 5, 5, 6, 6, 6, 6, 6, 6, 6, 6, 6, 6, 6, 6, 6, 6, 6, 6, 6, 6, 6, 6, 6, 6, 6, 6, 6, 6, 6, 6, 6, 6, 6, 6, 7, 7, 7, 7, 7, 7, 7, 7, 7, 7, 7, 7, 7, 7, 7, 7, 7, 7, 7, 7, 7, 7, 7, 7, 7, 7, 7, 7, 7, 7, 7, 7, 7, 7, 7, 7, 7, 7, 7, 7, 7, 7, 7, 7, 7, 7, 7, 7, 7, 7, 7, 7, 7, 7, 7, 7, 7, 7, 7, 7, 7, 7, 7, 7, 8, 8, 8, 8, 8, 8, 8, 8, 8, 8, 8, 8, 8, 8, 8, 8, 8, 8, 8, 8, 8, 8, 8, 8, 8, 8, 8, 8, 8, 8, 8, 8, 8, 8, 8, 8, 8, 8, 8, 8, 8, 8, 8, 8, 8, 8, 8, 8, 8, 8, 8, 8, 8, 8, 8, 8, 8, 8, 8, 8, 8, 8, 8, 8, 8, 8, 8, 8, 8, 8, 8, 8, 8, 8, 8, 8, 8, 8, 8, 8, 8, 8, 8, 8, 8, 8, 8, 8, 8, 8, 8, 8, 8, 8, 8, 8, 8, 8, 8, 8, 8, 8, 8, 8, 8, 8, 8, 8, 8, 8, 8, 8, 8, 8, 8, 8, 8, 8, 8, 8, 8, 8, 8, 8, 8, 8, 8, 8]) (iCnv .u8 (iShr .u32 (iShr .u32 a0 16) 8)))))))) (chk (cIdx (iCnv .u8 (iShr .u32 a0 16)) (sLen (ByteArray.mk #[0, 1, 2, 2, 3, 3, 3, 3, 4, 4, 4, 4, 4, 4, 4, 4, 5, 5, 5, 5, 5, 5, 5, 5, 5, 5, 5, 5, 5, 5, 5, 5, 6, 6, 6, 6, 6, 6, 6, 6, 6, 6, 6, 6, 6, 6, 6, 6, 6, 6, 6, 6, 6, 6, 6, 6, 6, 6, 6, 6, 6, 6, 6, 6, 7, 7, 7, 7, 7, 7, 7, 7, 7, 7, 7, 7, 7, 7, 7, 7, 7, 7, 7, 7, 7, 7, 7, 7, 7, 7, 7, 7, 7, 7, 7, 7, 7, 7, 7, 7, 7, 7, 7, 7, 7, 7, 7, 7, 7, 7, 7, 7, 7, 7, 7, 7, 7, 7, 7, 7, 7, 7, 7, 7, 7, 7, 7, 7, 8, 8, 8, 8, 8, 8, 8, 8, 8, 8, 8, 8, 8, 8, 8, 8, 8, 8, 8, 8, 8, 8, 8, 8, 8, 8, 8, 8, 8, 8, 8, 8, 8, 8, 8, 8, 8, 8, 8, 8, 8, 8, 8, 8, 8, 8, 8, 8, 8, 8, 8, 8, 8, 8, 8, 8, 8, 8, 8, 8, 8, 8, 8, 8, 8, 8, 8, 8, 8, 8, 8, 8, 8, 8, 8, 8, 8, 8, 8, 8, 8, 8, 8, 8, 8, 8, 8, 8, 8, 8, 8, 8, 8, 8, 8, 8, 8, 8, 8, 8, 8, 8, 8, 8, 8, 8, 8, 8, 8, 8, 8, 8, 8, 8, 8, 8, 8, 8, 8, 8, 8, 8, 8, 8, 8, 8, 8, 8]))) (some (iAdd .i64 16 (iCnv .i64 (sGet (ByteArray.mk #[0, 1, 2, 2, 3, 3, 3, 3, 4, 4, 4, 4, 4, 4, 4, 4, 5, 5, 5, 5, 5, 5, 5, 5, 5, 5, 5, 5, 5, 5, 5, 5, 6, 6, 6, 6, 6, 6, 6, 6, 6, 6, 6, 6, 6, 6, 6, 6, 6, 6, 6, 6, 6, 6, 6, 6, 6, 6, 6, 6, 6, 6, 6, 6, 7, 7, 7, 7, 7, 7, 7, 7, 7, 7, 7, 7, 7, 7, 7, 7, 7, 7, 7, 7, 7, 7, 7, 7, 7, 7, 7, 7, 7, 7, 7, 7, 7, 7, 7, 7, 7, 7, 7, 7, 7, 7, 7, 7, 7, 7, 7, 7, 7, 7, 7, 7, 7, 7, 7, 7, 7, 7, 7, 7, 7, 7, 7, 7, 8, 8, 8, 8, 8, 8, 8, 8, 8, 8, 8, 8, 8, 8, 8, 8, 8, 8, 8, 8, 8, 8, 8, 8, 8, 8, 8, 8, 8, 8, 8, 8, 8, 8, 8, 8, 8, 8, 8, 8, 8, 8, 8, 8, 8, 8, 8, 8, 8, 8, 8, 8, 8, 8, 8, 8, 8, 8, 8, 8, 8, 8, 8, 8, 8, 8, 8, 8, 8, 8, 8, 8, 8, 8, 8, 8, 8, 8, 8, 8, 8, 8, 8, 8, 8, 8, 8, 8, 8, 8, 8, 8, 8, 8, 8, 8, 8, 8, 8, 8, 8, 8, 8, 8, 8, 8, 8, 8, 8, 8, 8, 8, 8, 8, 8, 8, 8, 8, 8, 8, 8, 8, 8, 8, 8, 8, 8, 8]) (iCnv .u8 (iShr .u32 a0 16))))))))) (brB (iLe 256 a0) (chk (cNn 8) (chk (cIdx (iCnv .u8 (iShr .u32 a0 8)) (sLen (ByteArray.mk #[0, 1, 2, 2, 3, 3, 3, 3, 4, 4, 4, 4, 4, 4, 4, 4, 5, 5, 5, 5, 5, 5, 5, 5, 5, 5, 5, 5, 5, 5, 5, 5, 6, 6, 6, 6, 6, 6, 6, 6, 6, 6, 6, 6, 6, 6, 6, 6, 6, 6, 6, 6, 6, 6, 6, 6, 6, 6, 6, 6, 6, 6, 6, 6, 7, 7, 7, 7, 7, 7, 7, 7, 7, 7, 7, 7, 7, 7, 7, 7, 7, 7, 7, 7, 7, 7, 7, 7, 7, 7, 7, 7, 7, 7, 7, 7, 7, 7, 7, 7, 7, 7, 7, 7, 7, 7, 7, 7, 7, 7, 7, 7, 7, 7, 7, 7, 7, 7, 7, 7, 7, 7, 7, 7, 7, 7, 7, 7, 8, 8, 8, 8, 8, 8, 8, 8, 8, 8, 8, 8, 8, 8, 8, 8, 8, 8, 8, 8, 8, 8, 8, 8, 8, 8, 8, 8, 8, 8, 8, 8, 8, 8, 8, 8, 8, 8, 8, 8, 8, 8, 8, 8, 8, 8, 8, 8, 8, 8, 8, 8, 8, 8, 8, 8, 8, 8, 8, 8, 8, 8, 8, 8, 8, 8, 8, 8, 8, 8, 8, 8, 8, 8, 8, 8, 8, 8, 8, 8, 8, 8, 8, 8, 8, 8, 8, 8, 8, 8, 8, 8, 8, 8, 8, 8, 8, 8, 8, 8, 8, 8, 8, 8, 8, 8, 8, 8, 8, 8, 8, 8, 8, 8, 8, 8, 8, 8, 8, 8, 8, 8, 8, 8, 8, 8, 8, 8]))) (some (iAdd .i64 (iAdd .i64 0 8) (iCnv .i64 (sGet (ByteArray.mk #[0, 1, 2, 2, 3, 3, 3, 3, 4, 4, 4, 4, 4, 4, 4, 4, 5, 5, 5, 5, 5, 5, 5, 5, 5, 5, 5, 5, 5, 5, 5, 5, 6, 6, 6, 6, 6, 6, 6, 6, 6, 6, 6, 6, 6, 6, 6, 6, 6, 6, 6, 6, 6, 6, 6, 6, 6, 6, 6, 6, 6, 6, 6, 6, 7, 7, 7, 7, 7, 7, 7, 7, 7, 7, 7, 7, 7, 7, 7, 7, 7, 7, 7, 7, 7, 7, 7, 7, 7, 7, 7, 7, 7, 7, 7, 7, 7, 7, 7, 7, 7, 7, 7, 7, 7, 7, 7, 7, 7, 7, 7, 7, 7, 7, 7, 7, 7, 7, 7, 7, 7, 7, 7, 7, 7, 7, 7, 7, 8, 8, 8, 8, 8, 8, 8, 8, 8, 8, 8, 8, 8, 8, 8, 8, 8, 8, 8, 8, 8, 8, 8, 8, 8, 8, 8, 8, 8, 8, 8, 8, 8, 8, 8, 8, 8, 8, 8, 8, 8, 8, 8, 8, 8, 8, 8, 8, 8, 8, 8, 8, 8, 8, 8, 8, 8, 8, 8, 8, 8, 8, 8, 8, 8, 8, 8, 8, 8, 8, 8, 8, 8, 8, 8, 8, 8, 8, 8, 8, 8, 8, 8, 8, 8, 8, 8, 8, 8, 8, 8, 8, 8, 8, 8, 8, 8, 8, 8, 8, 8, 8, 8, 8, 8, 8, 8, 8, 8, 8, 8, 8, 8, 8, 8, 8, 8, 8, 8, 8, 8, 8, 8, 8, 8, 8, 8, 8]) (iCnv .u8 (iShr .u32 a0 8)))))))) (chk (cIdx (iCnv .u8 a0) (sLen (ByteArray.mk #[0, 1, 2, 2, 3, 3, 3, 3, 4, 4, 4, 4, 4, 4, 4, 4, 5, 5, 5, 5, 5, 5, 5, 5, 5, 5, 5, 5, 5, 5, 5, 5, 6, 6, 6, 6, 6, 6, 6, 6, 6, 6, 6, 6, 6, 6, 6, 6, 6, 6, 6, 6, 6, 6, 6, 6, 6, 6, 6, 6, 6, 6, 6, 6, 7, 7, 7, 7, 7, 7, 7, 7, 7, 7, 7, 7, 7, 7, 7, 7, 7, 7, 7, 7, 7, 7, 7, 7, 7, 7, 7, 7, 7, 7, 7, 7, 7, 7, 7, 7, 7, 7, 7, 7, 7, 7, 7, 7, 7, 7, 7, 7, 7, 7, 7, 7, 7, 7, 7, 7, 7, 7, 7, 7, 7, 7, 7, 7, 8, 8, 8, 8, 8, 8, 8, 8, 8, 8, 8, 8, 8, 8, 8, 8, 8, 8, 8, 8, 8, 8, 8, 8, 8, 8, 8, 8, 8, 8, 8, 8, 8, 8, 8, 8, 8, 8, 8, 8, 8, 8, 8, 8, 8, 8, 8, 8, 8, 8, 8, 8, 8, 8, 8, 8, 8, 8, 8, 8, 8, 8, 8, 8, 8, 8, 8, 8, 8, 8, 8, 8, 8, 8, 8, 8, 8, 8, 8, 8, 8, 8, 8, 8, 8, 8, 8, 8, 8, 8, 8, 8, 8, 8, 8, 8, 8, 8, 8, 8, 8, 8, 8, 8, 8, 8, 8, 8, 8, 8, 8, 8, 8, 8, 8, 8, 8, 8, 8, 8, 8, 8, 8, 8, 8, 8, 8, 8]))) (some (iAdd .i64 0 (iCnv .i64 (sGet (ByteArray.mk #[0, 1, 2, 2, 3, 3, 3, 3, 4, 4, 4, 4, 4, 4, 4, 4, 5, 5, 5, 5, 5, 5, 5, 5, 5, 5, 5, 5, 5, 5, 5, 5, 6, 6, 6, 6, 6, 6, 6, 6, 6, 6, 6, 6, 6, 6, 6, 6, 6, 6, 6, 6, 6, 6, 6, 6, 6, 6, 6, 6, 6, 6, 6, 6, 7, 7, 7, 7, 7, 7, 7, 7, 7, 7, 7, 7, 7, 7, 7, 7, 7, 7, 7, 7, 7, 7, 7, 7, 7, 7, 7, 7, 7, 7, 7, 7, 7, 7, 7, 7, 7, 7, 7, 7, 7, 7, 7, 7, 7, 7, 7, 7, 7, 7, 7, 7, 7, 7, 7, 7, 7, 7, 7, 7, 7, 7, 7, 7, 8, 8, 8, 8, 8, 8, 8, 8, 8, 8, 8, 8, 8, 8, 8, 8, 8, 8, 8, 8, 8, 8, 8, 8, 8, 8, 8, 8, 8, 8, 8, 8, 8, 8, 8, 8, 8, 8, 8, 8, 8, 8, 8, 8, 8, 8, 8, 8, 8, 8, 8, 8, 8, 8, 8, 8, 8, 8, 8, 8, 8, 8, 8, 8, 8, 8, 8, 8, 8, 8, 8, 8, 8, 8, 8, 8, 8, 8, 8, 8, 8, 8, 8, 8, 8, 8, 8, 8, 8, 8, 8, 8, 8, 8, 8, 8, 8, 8, 8, 8, 8, 8, 8, 8, 8, 8, 8, 8, 8, 8, 8, 8, 8, 8, 8, 8, 8, 8, 8, 8, 8, 8, 8, 8, 8, 8, 8, 8]) (iCnv .u8 a0)))))))
def sig : Sig := ⟨89, [.w false [.int .u32]], [(false, [.val I])]⟩
def H : Hints := ⟨[], [], [], []⟩
def spec : Spec := { sig := sig, fn := fun k (x : Int) => f k x }
theorem ok : Holds Go.Proofs.Try.prog spec := holds_of_run (G := []) holds_nil (by kernel_rfl) H Go.Proofs.Try.func89 (by kernel_rfl) (rfl : Go.Proofs.Try.f89.body = some _) (by kernel_rfl) (by kernel_rfl) fun k x y h => Eq.trans (by kernel_rfl : _ = spec.fn k x) h
end bits_Len32

namespace bits_Len64
def f (k : Nat) (a0 : Int) : Option (Int) := brB (iLe 4294967296 a0) (chk (cNn 32) (brB (iLe 65536 (iShr .u64 a0 32)) (chk (cNn 16) (brB (iLe 256 (iShr .u64 (iShr .u64 a0 32) 16)) (chk (cNn 8) (chk (cIdx (iCnv .u8 (iShr .u64 (iShr .u64 (iShr .u64 a0 32) 16) 8)) (sLen (ByteArray.mk #[0, 1, 2, 2, 3, 3, 3, 3, 4, 4, 4, 4, 4, 4, 4, 4, 5, 5, 5, 5, 5, 5, 5, 5, 5, 5, 5, 5, 5, 5, 5, 5, 6, 6, 6, 6, 6, 6, 6, 6, 6, 6, 6, 6, 6, 6, 6, 6, 6, 6, 6, 6, 6, 6, 6, 6, 6, 6, 6, 6, 6, 6, 6, 6, 7, 7, 7, 7, 7, 7, 7, 7, 7, 7, 7, 7, 7, 7, 7, 7, 7, 7, 7, 7, 7, 7, 7, 7, 7, 7, 7, 7, 7, 7, 7, 7, 7, 7, 7, 7, 7, 7, 7, 7, 7, 7, 7, 7, 7, 7, 7, 7, 7, 7, 7, 7, 7, 7, 7, 7, 7, 7, 7, 7, 7, 7, 7, 7, 8, 8, 8, 8, 8, 8, 8, 8, 8, 8, 8, 8, 8, 8, 8, 8, 8, 8, 8, 8, 8, 8, 8, 8, 8, 8, 8, 8, 8, 8, 8, 8, 8, 8, 8, 8, 8, 8, 8, 8, 8, 8, 8, 8, 8, 8, 8, 8, 8, 8, 8, 8, 8, 8, 8, 8, 8, 8, 8, 8, 8, 8, 8, 8, 8, 8, 8, 8, 8, 8, 8, 8, 8, 8, 8, 8, 8, 8, 8, 8, 8, 8, 8, 8, 8, 8, 8, 8, 8, 8, 8, 8, 8, 8, 8, 8, 8, 8, 8, 8, 8, 8, 8, 8, 8, 8, 8, 8, 8, 8, 8, 8, 8, 8, 8, 8, 8, 8, 8, 8, 8, 8, 8, 8, 8, 8, 8, 8]))) (some (iAdd .i64 (iAdd .i64 (iAdd .i64 32 16) 8) (iCnv .i64 (sGet (ByteArray.mk #[0, 1, 2, 2, 3, 3, 3, 3, 4, 4, 4, 4, 4, 4, 4, 4, 5, 5, 5, 5, 5, 5, 5, 5, 5, 5, 5, 5, 5, 5, 5, 5, 6, 6, 6, 6, 6, 6, 6, 6, 6, 6, 6, 6, 6, 6, 6, 6, 6, 6, 6, 6, 6, 6, 6, 6, 6, 6, 6, 6, 6, 6, 6, 6, 7, 7, 7, 7, 7, 7, 7, 7, 7, 7, 7, 7, 7, 7, 7, 7, 7, 7, 7, 7, 7, 7, 7, 7, 7, 7, 7, 7, 7, 7, 7, 7, 7, 7, 7, 7, 7, 7, 7, 7, 7, 7, 7, 7, 7, 7, 7, 7, 7, 7, 7, 7, 7, 7, 7, 7, 7, 7, 7, 7, 7, 7, 7, 7, 8, 8, 8, 8, 8, 8, 8, 8, 8, 8, 8, 8, 8, 8, 8, 8, 8, 8, 8, 8, 8, 8, 8, 8, 8, 8, 8, 8, 8, 8, 8, 8, 8, 8, 8, 8, 8, 8, 8, 8, 8, 8, 8, 8, 8, 8, 8, 8, 8, 8, 8, 8, 8, 8, 8, 8, 8, 8, 8, 8, 8, 8, 8, 8, 8, 8, 8, 8, 8, 8, 8, 8, 8, 8, 8, 8, 8, 8, 8, 8, 8, 8, 8, 8, 8, 8, 8, 8, 8, 8, 8, 8, 8, 8, 8, 8, 8, 8, 8, 8, 8, 8, 8, 8, 8, 8, 8, 8, 8, 8, 8, 8, 8, 8, 8, 8, 8, 8, 8, 8, 8, 8, 8, 8, 8, 8, 8, 8]) (iCnv .u8 (iShr .u64 (iShr .u64 (iShr .u64 a0 32) 16) 8)))))))) (chk (cIdx (iCnv .u8 (iShr .u64 (iShr .u64 a0 32) 16)) (sLen (ByteArray.mk #[0, 1, 2, 2, 3, 3, 3, 3, 4, 4, 4, 4, 4, 4, 4, 4, 5, 5, 5, 5, 5, 5, 5, 5, 5, 5, 5, 5, 5, 5, 5, 5, 6, 6, 6, 6, 6, 6, 6, 6, 6, 6, 6, 6, 6, 6, 6, 6, 6, 6, 6, 6, 6, 6, 6, 6, 6, 6, 6, 6, 6, 6, 6, 6, 7, 7, 7, 7, 7, 7, 7, 7, 7, 7, 7, 7, 7, 7, 7, 7, 7, 7, 7, 7, 7, 7, 7, 7, 7, 7, 7, 7, 7, 7, 7, 7, 7, 7, 7, 7, 7, 7, 7, 7, 7, 7, 7, 7, 7, 7, 7, 7, 7, 7, 7, 7, 7, 7, 7, 7, 7, 7, 7, 7, 7, 7, 7, 7, 8, 8, 8, 8, 8, 8, 8, 8, 8, 8, 8, 8, 8, 8, 8, 8, 8, 8, 8, 8, 8, 8, 8, 8, 8, 8, 8, 8, 8, 8, 8, 8, 8, 8, 8, 8, 8, 8, 8, 8, 8, 8, 8, 8, 8, 8, 8, 8, 8, 8, 8, 8, 8, 8, 8, 8, 8, 8, 8, 8, 8, 8, 8, 8, 8, 8, 8, 8, 8, 8, 8, 8, 8, 8, 8, 8, 8, 8, 8, 8, 8, 8, 8, 8, 8, 8, 8, 8, 8, 8, 8, 8, 8, 8, 8, 8, 8, 8, 8, 8, 8, 8, 8, 8, 8, 8, 8, 8, 8, 8, 8, 8, 8, 8, 8, 8, 8, 8, 8, 8, 8, 8, 8, 8, 8, 8, 8, 8]))) (some (iAdd .i64 (iAdd .i64 32 16) (iCnv .i64 (sGet (ByteArray.mk #[0, 1, 2, 2, 3, 3, 3, 3, 4, 4, 4, 4, 4, 4, 4, 4, 5, 5, 5, 5, 5, 5, 5, 5, 5, 5, 5, 5, 5, 5, 5, 5, 6, 6, 6, 6, 6, 6, 6, 6, 6, 6, 6, 6, 6, 6, 6, 6, 6, 6, 6, 6, 6, 6, 6, 6, 6, 6, 6, 6, 6, 6, 6, 6, 7, 7, 7, 7, 7, 7, 7, 7, 7, 7, 7, 7, 7, 7, 7, 7, 7, 7, 7, 7, 7, 7, 7, 7, 7, 7, 7, 7, 7, 7, 7, 7, 7, 7, 7, 7, 7, 7, 7, 7, 7, 7, 7, 7, 7, 7, 7, 7, 7, 7, 7, 7, 7, 7, 7, 7, 7, 7, 7, 7, 7, 7, 7, 7, 8, 8, 8, 8, 8, 8, 8, 8, 8, 8, 8, 8, 8, 8, 8, 8, 8, 8, 8, 8, 8, 8, 8, 8, 8, 8, 8, 8, 8, 8, 8, 8, 8, 8, 8, 8, 8, 8, 8, 8, 8, 8, 8, 8, 8, 8, 8, 8, 8, 8, 8, 8, 8, 8, 8, 8, 8, 8, 8, 8, 8, 8, 8, 8, 8, 8, 8, 8, 8, 8, 8, 8, 8, 8, 8, 8, 8, 8, 8, 8, 8, 8, 8, 8, 8, 8, 8, 8, 8, 8, 8, 8, 8, 8, 8, 8, 8, 8, 8, 8, 8, 8, 8, 8, 8, 8, 8, 8, 8, 8, 8, 8, 8, 8, 8, 8, 8, 8, 8, 8, 8, 8, 8, 8, 8, 8, 8, 8]) (iCnv .u8 (iShr .u64 (iShr .u64 a0 32) 16))))))))) (brB (iLe 256 (iShr .u64 a0 32)) (chk (cNn 8) (chk (cIdx (iCnv .u8 (iShr .u64 (iShr .u64 a0 32) 8)) (sLen (ByteArray.mk #[0, 1, 2, 2, 3, 3, 3, 3, 4, 4, 4, 4, 4, 4, 4, 4, 5, 5, 5, 5, 5, 5, 5, 5, 5, 5, 5, 5, 5, 5, 5, 5, 6, 6, 6, 6, 6, 6, 6, 6, 6, 6, 6, 6, 6, 6, 6, 6, 6, 6, 6, 6, 6, 6, 6, 6, 6, 6, 6, 6, 6, 6, 6, 6, 7, 7, 7, 7, 7, 7, 7, 7, 7, 7, 7, 7, 7, 7, 7, 7, 7, 7, 7, 7, 7, 7, 7, 7, 7, 7, 7, 7, 7, 7, 7, 7, 7, 7, 7, 7, 7, 7, 7, 7, 7, 7, 7, 7, 7, 7, 7, 7, 7, 7, 7, 7, 7, 7, 7, 7, 7, 7, 7, 7, 7, 7, 7, 7, 8, 8, 8, 8, 8, 8, 8, 8, 8, 8, 8, 8, 8, 8, 8, 8, 8, 8, 8, 8, 8, 8, 8, 8, 8, 8, 8, 8, 8, 8, 8, 8, 8, 8, 8, 8, 8, 8, 8, 8, 8, 8, 8, 8, 8, 8, 8, 8, 8, 8, 8, 8, 8, 8, 8, 8, 8, 8, 8, 8, 8, 8, 8, 8, 8, 8, 8, 8, 8, 8, 8, 8, 8, 8, 8, 8, 8, 8, 8, 8, 8, 8, 8, 8, 8, 8, 8, 8, 8, 8, 8, 8, 8, 8, 8, 8, 8, 8, 8, 8, 8, 8, 8, 8, 8, 8, 8, 8, 8, 8, 8, 8, 8, 8, 8, 8, 8, 8, 8, 8, 8, 8, 8, 8, 8, 8, 8, 8]))) (some (iAdd .i64 (iAdd .i64 32 8) (iCnv .i64 (sGet (ByteArray.mk #[0, 1, 2, 2, 3, 3, 3, 3, 4, 4, 4, 4, 4, 4, 4, 4, 5, 5, 5, 5, 5, 5, 5, 5, 5, 5, 5, 5, 5, 5, 5, 5, 6, 6, 6, 6, 6, 6, 6, 6, 6, 6, 6, 6, 6, 6, 6, 6, 6, 6, 6, 6, 6, 6, 6, 6, 6, 6, 6, 6, 6, 6, 6, 6, 7, 7, 7, 7, 7, 7, 7, 7, 7, 7, 7, 7, 7, 7, 7, 7, 7, 7, 7, 7, 7, 7, 7, 7, 7, 7, 7, 7, 7, 7, 7, 7, 7, 7, 7, 7, 7, 7, 7, 7, 7, 7, 7, 7, 7, 7, 7, 7, 7, 7, 7, 7, 7, 7, 7, 7, 7, 7, 7, 7, 7, 7, 7, 7, 8, 8, 8, 8, 8, 8, 8, 8, 8, 8, 8, 8, 8, 8, 8, 8, 8, 8, 8, 8, 8, 8, 8, 8, 8, 8, 8, 8, 8, 8, 8, 8, 8, 8, 8, 8, 8, 8, 8, 8, 8, 8, 8, 8, 8, 8, 8, 8, 8, 8, 8, 8, 8, 8, 8, 8, 8, 8, 8, 8, 8, 8, 8, 8, 8, 8, 8, 8, 8, 8, 8, 8, 8, 8, 8, 8, 8, 8, 8, 8, 8, 8, 8, 8, 8, 8, 8, 8, 8, 8, 8, 8, 8, 8, 8, 8, 8, 8, 8, 8, 8, 8, 8, 8, 8, 8, 8, 8, 8, 8, 8, 8, 8, 8, 8, 8, 8, 8, 8, 8, 8, 8, 8, 8, 8, 8, 8, 8]) (iCnv .u8 (iShr .u64 (iShr .u64 a0 32) 8)))))))) (chk (cIdx (iCnv .u8 (iShr .u64 a0 32)) (sLen (ByteArray.mk #[0, 1, 2, 2, 3, 3, 3, 3, 4, 4, 4, 4, 4, 4, 4, 4, 5, 5, 5, 5, 5, 5, 5, 5, 5, 5, 5, 5, 5, 5, 5, 5, 6, 6, 6, 6, 6, 6, 6, 6, 6, 6, 6, 6, 6, 6, 6, 6, 6, 6, 6, 6, 6, 6, 6, 6, 6, 6, 6, 6, 6, 6, 6, 6, 7, 7, 7, 7, 7, 7, 7, 7, 7, 7, 7, 7, 7, 7, 7, 7, 7, 7, 7, 7, 7, 7, 7, 7, 7, 7, 7, 7, 7, 7, 7, 7, 7, 7, 7, 7, 7, 7, 7, 7, 7, 7, 7, 7, 7, 7, 7, 7, 7, 7, 7, 7, 7, 7, 7, 7, 7, 7, 7, 7, 7, 7, 7, 7, 8, 8, 8, 8, 8, 8, 8, 8, 8, 8, 8, 8, 8, 8, 8, 8, 8, 8, 8, 8, 8, 8, 8, 8, 8, 8, 8, 8, 8, 8, 8, 8, 8, 8, 8, 8, 8, 8, 8, 8, 8, 8, 8, 8, 8, 8, 8, 8, 8, 8, 8, 8, 8, 8, 8, 8, 8, 8, 8, 8, 8, 8, 8, 8, 8, 8, 8, 8, 8, 8, 8, 8, 8, 8, 8, 8, 8, 8, 8, 8, 8, 8, 8, 8, 8, 8, 8, 8, 8, 8, 8, 8, 8, 8, 8, 8, 8, 8, 8, 8, 8, 8, 8, 8, 8, 8, 8, 8, 8, 8, 8, 8, 8, 8, 8, 8, 8, 8, 8, 8, 8, 8, 8, 8, 8, 8, 8, 8]))) (some (iAdd .i64 32 (iCnv .i64 (sGet (ByteArray.mk #[0, 1, 2, 2, 3, 3, 3, 3, 4, 4, 4, 4, 4, 4, 4, 4, 5, 5, 5, 5, 5, 5, 5, 5, 5, 5, 5, 5, 5, 5, 5, 5, 6, 6, 6, 6, 6, 6, 6, 6, 6, 6, 6, 6, 6, 6, 6, 6, 6, 6, 6, 6, 6, 6, 6, 6, 6, 6, 6, 6, 6, 6, 6, 6, 7, 7, 7, 7, 7, 7, 7, 7, 7, 7, 7, 7, 7, 7, 7, 7, 7, 7, 7, 7, 7, 7, 7, 7, 7, 7, 7, 7, 7, 7, 7, 7, 7, 7, 7, 7, 7, 7, 7, 7, 7, 7, 7, 7, 7, 7, 7, 7, 7, 7, 7, 7, 7, 7, 7, 7, 7, 7, 7, 7, 7, 7, 7, 7, 8, 8, 8, 8, 8, 8, 8, 8, 8, 8, 8, 8, 8, 8, 8, 8, 8, 8, 8, 8, 8, 8, 8, 8, 8, 8, 8, 8, 8, 8, 8, 8, 8, 8, 8, 8, 8, 8, 8, 8, 8, 8, 8, 8, 8, 8, 8, 8, 8, 8, 8, 8, 8, 8, 8, 8, 8, 8, 8, 8, 8, 8, 8, 8, 8, 8, 8, 8, 8, 8, 8, 8, 8, 8, 8, 8, 8, 8, 8, 8, 8, 8, 8, 8, 8, 8, 8, 8, 8, 8, 8, 8, 8, 8, 8, 8, 8, 8, 8, 8, 8, 8, 8, 8, 8, 8, 8, 8, 8, 8, 8, 8, 8, 8, 8, 8, 8, 8, 8, 8, 8, 8, 8, 8, 8, 8, 8, 8]) (iCnv .u8 (iShr .u64 a0 32)))))))))) (brB (iLe 65536 a0) (chk (cNn 16) (brB (iLe 256 (iShr .u64 a0 16)) (chk (cNn 8) (chk (cIdx (iCnv .u8 (iShr .u64 (iShr .u64 a0 16) 8)) (sLen (ByteArray.mk #[0, 1, 2, 2, 3, 3, 3, 3, 4, 4, 4, 4, 4, 4, 4, 4, 5, 5, 5, 5, 5, 5, 5, 5, 5, 5, 5, 5, 5, 5, 5, 5, 6, 6, 6, 6, 6, 6, 6, 6, 6, 6, 6, 6, 6, 6, 6, 6, 6, 6, 6, 6, 6, 6, 6, 6, 6, 6, 6, 6, 6, 6, 6, 6, 7, 7, 7, 7, 7, 7, 7, 7, 7, 7, 7, 7, 7, 7, 7, 7, 7, 7, 7, 7, 7, 7, 7, 7, 7, 7, 7, 7, 7, 7, 7, 7, 7, 7, 7, 7, 7, 7, 7, 7, 7, 7, 7, 7, 7, 7, 7, 7, 7, 7, 7, 7, 7, 7, 7, 7, 7, 7, 7, 7, 7, 7, 7, 7, 8, 8, 8, 8, 8, 8, 8, 8, 8, 8, 8, 8, 8, 8, 8, 8, 8, 8, 8, 8, 8, 8, 8, 8, 8, 8, 8, 8, 8, 8, 8, 8, 8, 8, 8, 8, 8, 8, 8, 8, 8, 8, 8, 8, 8, 8, 8, 8, 8, 8, 8, 8, 8, 8, 8, 8, 8, 8, 8, 8, 8, 8, 8, 8, 8, 8, 8, 8, 8, 8, 8, 8, 8, 8, 8, 8, 8, 8, 8, 8, 8, 8, 8, 8, 8, 8, 8, 8, 8, 8, 8, 8, 8, 8, 8, 8, 8, 8, 8, 8, 8, 8, 8, 8, 8, 8, 8, 8, 8, 8, 8, 8, 8, 8, 8, 8, 8, 8, 8, 8, 8, 8, 8, 8, 8, 8, 8, 8]))) (some (iAdd .i64 (iAdd .i64 (iAdd .i64 0 16) 8) (iCnv .i64 (sGet (ByteArray.mk #[0, 1, 2, 2, 3, 3, 3, 3, 4, 4, 4, 4, 4, 4, 4, 4, 5, 5, 5, 5, 5, 5, 5, 5, 5, 5, 5, 5, 5, 5, 5, 5, 6, 6, 6, 6, 6, 6, 6, 6, 6, 6, 6, 6, 6, 6, 6, 6, 6, 6, 6, 6, 6, 6, 6, 6, 6, 6, 6, 6, 6, 6, 6, 6, 7, 7, 7, 7, 7, 7, 7, 7, 7, 7, 7, 7, 7, 7, 7, 7, 7, 7, 7, 7, 7, 7, 7, 7, 7, 7, 7, 7, 7, 7, 7, 7, 7, 7, 7, 7, 7, 7, 7, 7, 7, 7, 7, 7, 7, 7, 7, 7, 7, 7, 7, 7, 7, 7, 7, 7, 7, 7, 7, 7, 7, 7, 7, 7, 8, 8, 8, 8, 8, 8, 8, 8, 8, 8, 8, 8, 8, 8, 8, 8, 8, 8, 8, 8, 8, 8, 8, 8, 8, 8, 8, 8, 8, 8, 8, 8, 8, 8, 8, 8, 8, 8, 8, 8, 8, 8, 8, 8, 8, 8, 8, 8, 8, 8, 8, 8, 8, 8, 8, 8, 8, 8, 8, 8, 8, 8, 8, 8, 8, 8, 8, 8, 8, 8, 8, 8, 8, 8, 8, 8, 8, 8, 8, 8, 8, 8, 8, 8, 8, 8, 8, 8, 8, 8, 8, 8, 8, 8, 8, 8, 8, 8, 8, 8, 8, 8, 8, 8, 8, 8, 8, 8, 8, 8, 8, 8, 8, 8, 8, 8, 8, 8, 8, 8, 8, 8, 8, 8, 8, 8, 8, 8]) (iCnv .u8 (iShr .u64 (iShr .u64 a0 16) 8)))))))) (chk (cIdx (iCnv .u8 (iShr .u64 a0 16)) (sLen (ByteArray.mk #[0, 1, 2, 2, 3, 3, 3, 3, 4, 4, 4, 4, 4, 4, 4, 4, 5, 5, 5, 5, 5, 5, 5, 5, 5, 5, 5, 5, 5, 5, 5, 5, 6, 6, 6, 6, 6, 6, 6, 6, 6, 6, 6, 6, 6, 6, 6, 6, 6, 6, 6, 6, 6, 6, 6, 6, 6, 6, 6, 6, 6, 6, 6, 6, 7, 7, 7, 7, 7, 7, 7, 7, 7, 7, 7, 7, 7, 7, 7, 7, 7, 7, 7, 7, 7, 7, 7, 7, 7, 7, 7, 7, 7, 7, 7, 7, 7, 7, 7, 7, 7, 7, 7, 7, 7, 7, 7, 7, 7, 7, 7, 7, 7, 7, 7, 7, 7, 7, 7, 7, 7, 7, 7, 7, 7, 7, 7, 7, 8, 8, 8, 8, 8, 8, 8, 8, 8, 8, 8, 8, 8, 8, 8, 8, 8, 8, 8, 8, 8, 8, 8, 8, 8, 8, 8, 8, 8, 8, 8, 8, 8, 8, 8, 8, 8, 8, 8, 8, 8, 8, 8, 8, 8, 8, 8, 8, 8, 8, 8, 8, 8, 8, 8, 8, 8, 8, 8, 8, 8, 8, 8, 8, 8, 8, 8, 8, 8, 8, 8, 8, 8, 8, 8, 8, 8, 8, 8, 8, 8, 8, 8, 8, 8, 8, 8, 8, 8, 8, 8, 8, 8, 8, 8, 8, 8, 8, 8, 8, 8, 8, 8, 8, 8, 8, 8, 8, 8, 8, 8, 8, 8, 8, 8, 8, 8, 8, 8, 8, 8, 8, 8, 8, 8, 8, 8, 8]))) (some (iAdd .i64 (iAdd .i64 0 16) (iCnv .i64 (sGet (ByteArray.mk #[0, 1, 2, 2, 3, 3, 3, 3, 4, 4, 4, 4, 4, 4, 4, 4, 5, 5, 5, 5, 5, 5, 5, 5, 5, 5, 5, 5, 5, 5, 5, 5, 6, 6, 6, 6, 6, 6, 6, 6, 6, 6, 6, 6, 6, 6, 6, 6, 6, 6, 6, 6, 6, 6, 6, 6, 6, 6, 6, 6, 6, 6, 6, 6, 7, 7, 7, 7, 7, 7, 7, 7, 7, 7, 7, 7, 7, 7, 7, 7, 7, 7, 7, 7, 7, 7, 7, 7, 7, 7, 7, 7, 7, 7, 7, 7, 7, 7, 7, 7, 7, 7, 7, 7, 7, 7, 7, 7, 7, 7, 7, 7, 7, 7, 7, 7, 7, 7, 7, 7, 7, 7, 7, 7, 7, 7, 7, 7, 8, 8, 8, 8, 8, 8, 8, 8, 8, 8, 8, 8, 8, 8, 8, 8, 8, 8, 8, 8, 8, 8, 8, 8, 8, 8, 8, 8, 8, 8, 8, 8, 8, 8, 8, 8, 8, 8, 8, 8, 8, 8, 8, 8, 8, 8, 8, 8, 8, 8, 8, 8, 8, 8, 8, 8, 8, 8, 8, 8, 8, 8, 8, 8, 8, 8, 8, 8, 8, 8, 8, 8, 8, 8, 8, 8, 8, 8, 8, 8, 8, 8, 8, 8, 8, 8, 8, 8, 8, 8, 8, 8, 8, 8, 8, 8, 8, 8, 8, 8, 8, 8, 8, 8, 8, 8, 8, 8, 8, 8, 8, 8, 8, 8, 8, 8, 8, 8, 8, 8, 8, 8, 8, 8, 8, 8, 8, 8]) (iCnv .u8 (iShr .u64 a0 16))))))))) (brB (iLe 256 a0) (chk (cNn 8) (chk (cIdx (iCnv .u8 (iShr .u64 a0 8)) (sLen (ByteArray.mk #[0, 1, 2, 2, 3, 3, 3, 3, 4, 4, 4, 4, 4, 4, 4, 4, 5, 5, 5, 5, 5, 5, 5, 5, 5, 5, 5, 5, 5, 5, 5, 5, 6, 6, 6, 6, 6, 6, 6, 6, 6, 6, 6, 6, 6, 6, 6, 6, 6, 6, 6, 6, 6, 6, 6, 6, 6, 6, 6, 6, 6, 6, 6, 6, 7, 7, 7, 7, 7, 7, 7, 7, 7, 7, 7, 7, 7, 7, 7, 7, 7, 7, 7, 7, 7, 7, 7, 7, 7, 7, 7, 7, 7, 7, 7, 7, 7, 7, 7, 7, 7, 7, 7, 7, 7, 7, 7, 7, 7, 7, 7, 7, 7, 7, 7, 7, 7, 7, 7, 7, 7, 7, 7, 7, 7, 7, 7, 7, 8, 8, 8, 8, 8, 8, 8, 8, 8, 8, 8, 8, 8, 8, 8, 8, 8, 8, 8, 8, 8, 8, 8, 8, 8, 8, 8, 8, 8, 8, 8, 8, 8, 8, 8, 8, 8, 8, 8, 8, 8, 8, 8, 8, 8, 8, 8, 8, 8, 8, 8, 8, 8, 8, 8, 8, 8, 8, 8, 8, 8, 8, 8, 8, 8, 8, 8, 8, 8, 8, 8, 8, 8, 8, 8, 8, 8, 8, 8, 8, 8, 8, 8, 8, 8, 8, 8, 8, 8, 8, 8, 8, 8, 8, 8, 8, 8, 8, 8, 8, 8, 8, 8, 8, 8, 8, 8, 8, 8, 8, 8, 8, 8, 8, 8, 8, 8, 8, 8, 8, 8, 8, 8, 8, 8, 8, 8, 8]))) (some (iAdd .i64 (iAdd .i64 0 8) (iCnv .i64 (sGet (ByteArray.mk #[0, 1, 2, 2, 3, 3, 3, 3, 4, 4, 4, 4, 4, 4, 4, 4, 5, 5, 5, 5, 5, 5, 5, 5, 5, 5, 5, 5, 5, 5, 5, 5, 6, 6, 6, 6, 6, 6, 6, 6, 6, 6, 6, 6, 6, 6, 6, 6, 6, 6, 6, 6, 6, 6, 6, 6, 6, 6, 6, 6, 6, 6, 6, 6, 7, 7, 7, 7, 7, 7, 7, 7, 7, 7, 7, 7, 7, 7, 7, 7, 7, 7, 7, 7, 7, 7, 7, 7, 7, 7, 7, 7, 7, 7, 7, 7, 7, 7, 7, 7, 7, 7, 7, 7, 7, 7, 7, 7, 7, 7, 7, 7, 7, 7, 7, 7, 7, 7, 7, 7, 7, 7, 7, 7, 7, 7, 7, 7, 8, 8, 8, 8, 8, 8, 8, 8, 8, 8, 8, 8, 8, 8, 8, 8, 8, 8, 8, 8, 8, 8, 8, 8, 8, 8, 8, 8, 8, 8, 8, 8, 8, 8, 8, 8, 8, 8, 8, 8, 8, 8, 8, 8, 8, 8, 8, 8, 8, 8, 8, 8, 8, 8, 8, 8, 8, 8, 8, 8, 8, 8, 8, 8, 8, 8, 8, 8, 8, 8, 8, 8, 8, 8, 8, 8, 8, 8, 8, 8, 8, 8, 8, 8, 8, 8, 8, 8, 8, 8, 8, 8, 8, 8, 8, 8, 8, 8, 8, 8, 8, 8, 8, 8, 8, 8, 8, 8, 8, 8, 8, 8, 8, 8, 8, 8, 8, 8, 8, 8, 8, 8, 8, 8, 8, 8, 8, 8]) (iCnv .u8 (iShr .u64 a0 8)))))))) (chk (cIdx (iCnv .u8 a0) (sLen (ByteArray.mk #[0, 1, 2, 2, 3, 3, 3, 3, 4, 4, 4, 4, 4, 4, 4, 4, 5, 5, 5, 5, 5, 5, 5, 5, 5, 5, 5, 5, 5, 5, 5, 5, 6, 6, 6, 6, 6, 6, 6, 6, 6, 6, 6, 6, 6, 6, 6, 6, 6, 6, 6, 6, 6, 6, 6, 6, 6, 6, 6, 6, 6, 6, 6, 6, 7, 7, 7, 7, 7, 7, 7, 7, 7, 7, 7, 7, 7, 7, 7, 7, 7, 7, 7, 7, 7, 7, 7, 7, 7, 7, 7, 7, 7, 7, 7, 7, 7, 7, 7, 7, 7, 7, 7, 7, 7, 7, 7, 7, 7, 7, 7, 7, 7, 7, 7, 7, 7, 7, 7, 7, 7, 7, 7, 7, 7, 7, 7, 7, 8, 8, 8, 8, 8, 8, 8, 8, 8, 8, 8, 8, 8, 8, 8, 8, 8, 8, 8, 8, 8, 8, 8, 8, 8, 8, 8, 8, 8, 8, 8, 8, 8, 8, 8, 8, 8, 8, 8, 8, 8, 8, 8, 8, 8, 8, 8, 8, 8, 8, 8, 8, 8, 8, 8, 8, 8, 8, 8, 8, 8, 8, 8, 8, 8, 8, 8, 8, 8, 8, 8, 8, 8, 8, 8, 8, 8, 8, 8, 8, 8, 8, 8, 8, 8, 8, 8, 8, 8, 8, 8, 8, 8, 8, 8, 8, 8, 8, 8, 8, 8, 8, 8, 8, 8, 8, 8, 8, 8, 8, 8, 8, 8, 8, 8, 8, 8, 8, 8, 8, 8, 8, 8, 8, 8, 8, 8, 8]))) (some (iAdd .i64 0 (iCnv .i64 (sGet (ByteArray.mk #[0, 1, 2, 2, 3, 3, 3, 3, 4, 4, 4, 4, 4, 4, 4, 4, 5, 5, 5, 5, 5, 5, 5, 5, 5, 5, 5, 5, 5, 5, 5, 5, 6, 6, 6, 6, 6, 6, 6, 6, 6, 6, 6, 6, 6, 6, 6, 6, 6, 6, 6, 6, 6, 6, 6, 6, 6, 6, 6, 6, 6, 6, 6, 6, 7, 7, 7, 7, 7, 7, 7, 7, 7, 7, 7, 7, 7, 7, 7, 7, 7, 7, 7, 7, 7, 7, 7, 7, 7, 7, 7, 7, 7, 7, 7, 7, 7, 7, 7, 7, 7, 7, 7, 7, 7, 7, 7, 7, 7, 7, 7, 7, 7, 7, 7, 7, 7, 7, 7, 7, 7, 7, 7, 7, 7, 7, 7, 7, 8, 8, 8, 8, 8, 8, 8, 8, 8, 8, 8, 8, 8, 8, 8, 8, 8, 8, 8, 8, 8, 8, 8, 8, 8, 8, 8, 8, 8, 8, 8, 8, 8, 8, 8, 8, 8, 8, 8, 8, 8, 8, 8, 8, 8, 8, 8, 8, 8, 8, 8, 8, 8, 8, 8, 8, 8, 8, 8, 8, 8, 8, 8, 8, 8, 8, 8, 8, 8, 8, 8, 8, 8, 8, 8, 8, 8, 8, 8, 8, 8, 8, 8, 8, 8, 8, 8, 8, 8, 8, 8, 8, 8, 8, 8, 8, 8, 8, 8, 8, 8, 8, 8, 8, 8, 8, 8, 8, 8, 8, 8, 8, 8, 8, 8, 8, 8, 8, 8, 8, 8, 8, 8, 8, 8, 8, 8, 8]) (iCnv .u8 a0))))))))
def sig : Sig := ⟨90, [.w false [.int .u64]], [(false, [.val I])]⟩
def H : Hints := ⟨[], [], [], []⟩
def spec : Spec := { sig := sig, fn := fun k (x : Int) => f k x }
theorem ok : Holds Go.Proofs.Try.prog spec := holds_of_run (G := []) holds_nil (by kernel_rfl) H Go.Proofs.Try.func90 (by kernel_rfl) (rfl : Go.Proofs.Try.f90.body = some _) (by kernel_rfl) (by kernel_rfl) fun k x y h => Eq.trans (by kernel_rfl : _ = spec.fn k x) h
end bits_Len64

namespace bits_Len
def f (k : Nat) (a0 : Int) : Option (Int) := bnd (bits_Len64.f k a0) fun y0 => some y0
def sig : Sig := ⟨76, [.w false [.int .u64]], [(false, [.val I])]⟩
def H : Hints := ⟨[], [], [], []⟩
def spec : Spec := { sig := sig, fn := fun k (x : Int) => f k x }
theorem ok : Holds Go.Proofs.Try.prog spec := holds_of_run (G := [bits_Len32.spec, bits_Len64.spec]) (holds_cons bits_Len32.ok (holds_cons bits_Len64.ok holds_nil)) (by kernel_rfl) H Go.Proofs.Try.func76 (by kernel_rfl) (rfl : Go.Proofs.Try.f76.body = some _) (by kernel_rfl) (by kernel_rfl) fun k x y h => Eq.trans (by kernel_rfl : _ = spec.fn k x) h
end bits_Len

namespace cmp_isNaN_isNaN_int
def f (k : Nat) (a0 : Int) : Option (Bool) := some (iNe a0 a0)
def sig : Sig := ⟨77, [.w false [I]], [(false, [.val .bool])]⟩
def H : Hints := ⟨[], [], [], []⟩
def spec : Spec := { sig := sig, fn := fun k (x : Int) => f k x }
theorem ok : Holds Go.Proofs.Try.prog spec := holds_of_run (G := []) holds_nil (by kernel_rfl) H Go.Proofs.Try.func77 (by kernel_rfl) (rfl : Go.Proofs.Try.f77.body = some _) (by kernel_rfl) (by kernel_rfl) fun k x y h => Eq.trans (by kernel_rfl : _ = spec.fn k x) h
end cmp_isNaN_isNaN_int

namespace cmp_Compare_Compare_int
def f (k : Nat) (a0 : Int) (a1 : Int) : Option (Int) := bnd (cmp_isNaN_isNaN_int.f k a0) fun y0 => bnd (cmp_isNaN_isNaN_int.f k a1) fun y1 => brB y0 (brB y1 (some 0) (some (-1))) (brB y1 (some 1) (brB (iLt a0 a1) (some (-1)) (brB (iLt a1 a0) (some 1) (some 0))))
def sig : Sig := ⟨65, [.w false [I], .w false [I]], [(false, [.val I])]⟩
def H : Hints := ⟨[], [], [], []⟩
def spec : Spec := { sig := sig, fn := fun k (x : Int × Int) => f k x.1 x.2 }
theorem ok : Holds Go.Proofs.Try.prog spec := holds_of_run (G := [cmp_isNaN_isNaN_int.spec]) (holds_cons cmp_isNaN_isNaN_int.ok holds_nil) (by kernel_rfl) H Go.Proofs.Try.func65 (by kernel_rfl) (rfl : Go.Proofs.Try.f65.body = some _) (by kernel_rfl) (by kernel_rfl) fun k x y h => Eq.trans (by kernel_rfl : _ = spec.fn k x) h
end cmp_Compare_Compare_int

namespace impl_ChildrenOf_1
def f (k : Nat) (a0 : Int) (a1 : Int) (a2 : List (Int × Int × Int)) : Option (Int × List (Int × Int × Int)) := chk (cIdx a0 (rLen a2)) (chk (cIdx a1 (rLen a2)) (bnd (cmp_Compare_Compare_int.f k (((rGet (0, 0, 0) a2 a0).2).1) (((rGet (0, 0, 0) a2 a1).2).1)) fun y0 => some (y0, a2)))
def sig : Sig := ⟨74, [.w false [I], .w false [I], .ref [.row (.pair I (.pair I I))]], [(false, [.val I])]⟩
def H : Hints := ⟨[], [], [(1, [0, 0, 3, 7, 15, 0, 0, 96, 224, 480, 1023, 2047])], []⟩
def spec : Spec := { sig := sig, fn := fun k (x : Int × Int × List (Int × Int × Int)) => f k x.1 x.2.1 x.2.2 }
theorem ok : Holds Go.Proofs.Try.prog spec := holds_of_run (G := [cmp_Compare_Compare_int.spec]) (holds_cons cmp_Compare_Compare_int.ok holds_nil) (by kernel_rfl) H Go.Proofs.Try.func74 (by kernel_rfl) (rfl : Go.Proofs.Try.f74.body = some _) (by kernel_rfl) (by kernel_rfl) fun k x y h => Eq.trans (by kernel_rfl : _ = spec.fn k x) h
end impl_ChildrenOf_1

namespace slices_insertionSortCmpFunc_insertionSortCmpFunc_int_impl_ChildrenOf_1
def s1 (k : Nat) (rec0 : ((List Int) × Int × Int × Int × List (Int × Int × Int)) → Option ((List (Int × Int × Int)) × List Int)) (rec1 : (List Int × Int × Int × Int × Int × (List (Int × Int × Int))) → Option (List (Int × Int × Int) × List Int)) (x5 : List Int) (x6 : Int) (x7 : Int) (x8 : Int) (x9 : Int) (x10 : List (Int × Int × Int)) : Option (List (Int × Int × Int) × List Int) := brB (iLt x6 x9) (chk (cIdx x9 (rLen x5)) (chk (cIdx (iSub .i64 x9 1) (rLen x5)) (bnd (impl_ChildrenOf_1.f k (rGet 0 x5 x9) (rGet 0 x5 (iSub .i64 x9 1)) x10) fun (y0, y1) => brB (iLt y0 0) (chk (cIdx (iSub .i64 x9 1) (rLen x5)) (chk (cIdx x9 (rLen x5)) (chk (cIdx x9 (rLen x5)) (chk (cIdx (iSub .i64 x9 1) (rLen (rSet x5 x9 (rGet 0 x5 (iSub .i64 x9 1))))) (rec1 (rSet (rSet x5 x9 (rGet 0 x5 (iSub .i64 x9 1))) (iSub .i64 x9 1) (rGet 0 x5 x9), x6, x7, x8, iSub .i64 x9 1, y1)))))) (rec0 (x5, x6, x7, iAdd .i64 x8 1, y1))))) (rec0 (x5, x6, x7, iAdd .i64 x8 1, x10))
def l1 (k n : Nat) (rec0 : ((List Int) × Int × Int × Int × List (Int × Int × Int)) → Option ((List (Int × Int × Int)) × List Int)) (x5 : List Int) (x6 : Int) (x7 : Int) (x8 : Int) (x9 : Int) (x10 : List (Int × Int × Int)) : Option (List (Int × Int × Int) × List Int) := iter (fun (rec : (List Int × Int × Int × Int × Int × (List (Int × Int × Int))) → Option (List (Int × Int × Int) × List Int)) (x : List Int × Int × Int × Int × Int × (List (Int × Int × Int))) => s1 k rec0 rec x.1 x.2.1 x.2.2.1 x.2.2.2.1 x.2.2.2.2.1 x.2.2.2.2.2) n (x5, x6, x7, x8, x9, x10)
def s0 (k : Nat) (rec0 : (List Int × Int × Int × Int × (List (Int × Int × Int))) → Option (List (Int × Int × Int) × List Int)) (x0 : List Int) (x1 : Int) (x2 : Int) (x3 : Int) (x4 : List (Int × Int × Int)) : Option (List (Int × Int × Int) × List Int) := brB (iLt x3 x2) (l1 k k rec0 x0 x1 x2 x3 x3 x4) (some (x4, x0))
def l0 (k n : Nat) (x0 : List Int) (x1 : Int) (x2 : Int) (x3 : Int) (x4 : List (Int × Int × Int)) : Option (List (Int × Int × Int) × List Int) := iter (fun (rec : (List Int × Int × Int × Int × (List (Int × Int × Int))) → Option (List (Int × Int × Int) × List Int)) (x : List Int × Int × Int × Int × (List (Int × Int × Int))) => s0 k rec x.1 x.2.1 x.2.2.1 x.2.2.2.1 x.2.2.2.2) n (x0, x1, x2, x3, x4)
def f (k : Nat) (a0 : List Int) (a1 : Int) (a2 : Int) (a3 : List (Int × Int × Int)) : Option (List (Int × Int × Int) × List Int) := l0 k k a0 a1 a2 (iAdd .i64 a1 1) a3
def sig : Sig := ⟨81, [.mut false [.row I], .w false [I], .w false [I], .fnr 74 [.row (.pair I (.pair I I))]], []⟩
def H : Hints := ⟨[(1, ⟨⟨[(0, .w false 1), (1, .w false 1), (2, .w false 1), (3, .fnp 74 6 0), (8, .w false 1)], [(6, 1)]⟩, [3], [.own I, .val I, .val I, .val I, .val (.row (.pair I (.pair I I)))], [0]⟩), (4, ⟨⟨[(0, .w false 1), (1, .w false 1), (2, .w false 1), (3, .fnp 74 6 0), (8, .w false 1), (9, .w false 1)], [(6, 1)]⟩, [3], [.own I, .val I, .val I, .val I, .val I, .val (.row (.pair I (.pair I I)))], [0]⟩)], [], [(4, [0, 0, 3, 7, 15, 15, 15, 111, 239, 15, 15, 1039, 3599, 7695, 16383, 32767, 65535]), (6, [0, 0, 0, 0, 8, 0, 0, 64, 224, 480, 0, 0, 3072, 7168, 16355, 32739, 65535, 131071])], []⟩
def spec : Spec := { sig := sig, fn := fun k (x : List Int × Int × Int × List (Int × Int × Int)) => f k x.1 x.2.1 x.2.2.1 x.2.2.2 }
theorem ok : Holds Go.Proofs.Try.prog spec := holds_of_run (G := [impl_ChildrenOf_1.spec]) (holds_cons impl_ChildrenOf_1.ok holds_nil) (by kernel_rfl) H Go.Proofs.Try.func81 (by kernel_rfl) (rfl : Go.Proofs.Try.f81.body = some _) (by kernel_rfl) (by kernel_rfl) fun k x y h => Eq.trans (by kernel_rfl : _ = spec.fn k x) h
end slices_insertionSortCmpFunc_insertionSortCmpFunc_int_impl_ChildrenOf_1

namespace slices_order2CmpFunc_order2CmpFunc_int_impl_ChildrenOf_1
def f (k : Nat) (a0 : List Int) (a1 : Int) (a2 : Int) (a3 : Int) (a4 : List (Int × Int × Int)) : Option (Int × Int × Int × List (Int × Int × Int)) := chk (cIdx a2 (rLen a0)) (chk (cIdx a1 (rLen a0)) (bnd (impl_ChildrenOf_1.f k (rGet 0 a0 a2) (rGet 0 a0 a1) a4) fun (y0, y1) => brB (iLt y0 0) (some (a2, a1, iAdd .i64 a3 1, y1)) (some (a1, a2, a3, y1))))
def sig : Sig := ⟨96, [.w false [.row I], .w false [I], .w false [I], .ref [I], .fnr 74 [.row (.pair I (.pair I I))]], [(false, [.val I]), (false, [.val I])]⟩
def H : Hints := ⟨[], [], [(1, [0, 0, 0, 6, 14, 0, 0, 96, 224, 511, 1023])], []⟩
def spec : Spec := { sig := sig, fn := fun k (x : List Int × Int × Int × Int × List (Int × Int × Int)) => f k x.1 x.2.1 x.2.2.1 x.2.2.2.1 x.2.2.2.2 }
theorem ok : Holds Go.Proofs.Try.prog spec := holds_of_run (G := [impl_ChildrenOf_1.spec]) (holds_cons impl_ChildrenOf_1.ok holds_nil) (by kernel_rfl) H Go.Proofs.Try.func96 (by kernel_rfl) (rfl : Go.Proofs.Try.f96.body = some _) (by kernel_rfl) (by kernel_rfl) fun k x y h => Eq.trans (by kernel_rfl : _ = spec.fn k x) h
end slices_order2CmpFunc_order2CmpFunc_int_impl_ChildrenOf_1

namespace slices_medianCmpFunc_medianCmpFunc_int_impl_ChildrenOf_1
def f (k : Nat) (a0 : List Int) (a1 : Int) (a2 : Int) (a3 : Int) (a4 : Int) (a5 : List (Int × Int × Int)) : Option (Int × Int × List (Int × Int × Int)) := bnd (slices_order2CmpFunc_order2CmpFunc_int_impl_ChildrenOf_1.f k a0 a1 a2 a4 a5) fun (y0, y1, y2, y3) => bnd (slices_order2CmpFunc_order2CmpFunc_int_impl_ChildrenOf_1.f k a0 y1 a3 y2 y3) fun (y4, y5, y6, y7) => bnd (slices_order2CmpFunc_order2CmpFunc_int_impl_ChildrenOf_1.f k a0 y0 y4 y6 y7) fun (y8, y9, y10, y11) => some (y9, y10, y11)
def sig : Sig := ⟨95, [.w false [.row I], .w false [I], .w false [I], .w false [I], .ref [I], .fnr 74 [.row (.pair I (.pair I I))]], [(false, [.val I])]⟩
def H : Hints := ⟨[], [], [], []⟩
def spec : Spec := { sig := sig, fn := fun k (x : List Int × Int × Int × Int × Int × List (Int × Int × Int)) => f k x.1 x.2.1 x.2.2.1 x.2.2.2.1 x.2.2.2.2.1 x.2.2.2.2.2 }
theorem ok : Holds Go.Proofs.Try.prog spec := holds_of_run (G := [slices_order2CmpFunc_order2CmpFunc_int_impl_ChildrenOf_1.spec]) (holds_cons slices_order2CmpFunc_order2CmpFunc_int_impl_ChildrenOf_1.ok holds_nil) (by kernel_rfl) H Go.Proofs.Try.func95 (by kernel_rfl) (rfl : Go.Proofs.Try.f95.body = some _) (by kernel_rfl) (by kernel_rfl) fun k x y h => Eq.trans (by kernel_rfl : _ = spec.fn k x) h
end slices_medianCmpFunc_medianCmpFunc_int_impl_ChildrenOf_1

namespace slices_medianAdjacentCmpFunc_medianAdjacentCmpFunc_int_impl_ChildrenOf_1
def f (k : Nat) (a0 : List Int) (a1 : Int) (a2 : Int) (a3 : List (Int × Int × Int)) : Option (Int × Int × List (Int × Int × Int)) := bnd (slices_medianCmpFunc_medianCmpFunc_int_impl_ChildrenOf_1.f k a0 (iSub .i64 a1 1) a1 (iAdd .i64 a1 1) a2 a3) fun (y0, y1, y2) => some (y0, y1, y2)
def sig : Sig := ⟨94, [.w false [.row I], .w false [I], .ref [I], .fnr 74 [.row (.pair I (.pair I I))]], [(false, [.val I])]⟩
def H : Hints := ⟨[], [], [], []⟩
def spec : Spec := { sig := sig, fn := fun k (x : List Int × Int × Int × List (Int × Int × Int)) => f k x.1 x.2.1 x.2.2.1 x.2.2.2 }
theorem ok : Holds Go.Proofs.Try.prog spec := holds_of_run (G := [slices_medianCmpFunc_medianCmpFunc_int_impl_ChildrenOf_1.spec]) (holds_cons slices_medianCmpFunc_medianCmpFunc_int_impl_ChildrenOf_1.ok holds_nil) (by kernel_rfl) H Go.Proofs.Try.func94 (by kernel_rfl) (rfl : Go.Proofs.Try.f94.body = some _) (by kernel_rfl) (by kernel_rfl) fun k x y h => Eq.trans (by kernel_rfl : _ = spec.fn k x) h
end slices_medianAdjacentCmpFunc_medianAdjacentCmpFunc_int_impl_ChildrenOf_1

namespace slices_choosePivotCmpFunc_choosePivotCmpFunc_int_impl_ChildrenOf_1
def f (k : Nat) (a0 : List Int) (a1 : Int) (a2 : Int) (a3 : List (Int × Int × Int)) : Option (Int × Int × List (Int × Int × Int)) := chk (cNz 4) (chk (cNz 4) (chk (cNz 4) (brB (iLe 8 (iSub .i64 a2 a1)) (brB (iLe 50 (iSub .i64 a2 a1)) (bnd (slices_medianAdjacentCmpFunc_medianAdjacentCmpFunc_int_impl_ChildrenOf_1.f k a0 (iAdd .i64 a1 (iMul .i64 (iQuo .i64 (iSub .i64 a2 a1) 4) 1)) 0 a3) fun (y0, y1, y2) => bnd (slices_medianAdjacentCmpFunc_medianAdjacentCmpFunc_int_impl_ChildrenOf_1.f k a0 (iAdd .i64 a1 (iMul .i64 (iQuo .i64 (iSub .i64 a2 a1) 4) 2)) y1 y2) fun (y3, y4, y5) => bnd (slices_medianAdjacentCmpFunc_medianAdjacentCmpFunc_int_impl_ChildrenOf_1.f k a0 (iAdd .i64 a1 (iMul .i64 (iQuo .i64 (iSub .i64 a2 a1) 4) 3)) y4 y5) fun (y6, y7, y8) => bnd (slices_medianCmpFunc_medianCmpFunc_int_impl_ChildrenOf_1.f k a0 y0 y3 y6 y7 y8) fun (y9, y10, y11) => brB (iEq y10 0) (some (y9, 1, y11)) (brB (iEq y10 12) (some (y9, 2, y11)) (some (y9, 0, y11)))) (bnd (slices_medianCmpFunc_medianCmpFunc_int_impl_ChildrenOf_1.f k a0 (iAdd .i64 a1 (iMul .i64 (iQuo .i64 (iSub .i64 a2 a1) 4) 1)) (iAdd .i64 a1 (iMul .i64 (iQuo .i64 (iSub .i64 a2 a1) 4) 2)) (iAdd .i64 a1 (iMul .i64 (iQuo .i64 (iSub .i64 a2 a1) 4) 3)) 0 a3) fun (y12, y13, y14) => brB (iEq y13 0) (some (y12, 1, y14)) (brB (iEq y13 12) (some (y12, 2, y14)) (some (y12, 0, y14))))) (brB (iEq 0 0) (some (iAdd .i64 a1 (iMul .i64 (iQuo .i64 (iSub .i64 a2 a1) 4) 2), 1, a3)) (brB (iEq 0 12) (some (iAdd .i64 a1 (iMul .i64 (iQuo .i64 (iSub .i64 a2 a1) 4) 2), 2, a3)) (some (iAdd .i64 a1 (iMul .i64 (iQuo .i64 (iSub .i64 a2 a1) 4) 2), 0, a3)))))))
def sig : Sig := ⟨84, [.w false [.row I], .w false [I], .w false [I], .fnr 74 [.row (.pair I (.pair I I))]], [(false, [.val I]), (false, [.val I])]⟩
def H : Hints := ⟨[], [], [], []⟩
def spec : Spec := { sig := sig, fn := fun k (x : List Int × Int × Int × List (Int × Int × Int)) => f k x.1 x.2.1 x.2.2.1 x.2.2.2 }
theorem ok : Holds Go.Proofs.Try.prog spec := holds_of_run (G := [slices_medianCmpFunc_medianCmpFunc_int_impl_ChildrenOf_1.spec, slices_medianAdjacentCmpFunc_medianAdjacentCmpFunc_int_impl_ChildrenOf_1.spec]) (holds_cons slices_medianCmpFunc_medianCmpFunc_int_impl_ChildrenOf_1.ok (holds_cons slices_medianAdjacentCmpFunc_medianAdjacentCmpFunc_int_impl_ChildrenOf_1.ok holds_nil)) (by kernel_rfl) H Go.Proofs.Try.func84 (by kernel_rfl) (rfl : Go.Proofs.Try.f84.body = some _) (by kernel_rfl) (by kernel_rfl) fun k x y h => Eq.trans (by kernel_rfl : _ = spec.fn k x) h
end slices_choosePivotCmpFunc_choosePivotCmpFunc_int_impl_ChildrenOf_1

namespace slices_pdqsortCmpFunc_pdqsortCmpFunc_int_impl_ChildrenOf_1
def s0 (k : Nat) (rec0 : (List Int × Int × Int × Int × Bool × Bool × (List (Int × Int × Int))) → Option (List (Int × Int × Int) × List Int)) (x0 : List Int) (x1 : Int) (x2 : Int) (x3 : Int) (x4 : Bool) (x5 : Bool) (x6 : List (Int × Int × Int)) : Option (List (Int × Int × Int) × List Int) := brB (iLe (iSub .i64 x2 x1) 12) (bnd (slices_insertionSortCmpFunc_insertionSortCmpFunc_int_impl_ChildrenOf_1.f k x0 x1 x2 x6) fun (y0, y1) => some (y0, y1)) (brB (iEq x3 0) none (brB (bNot x4) none (bnd (slices_choosePivotCmpFunc_choosePivotCmpFunc_int_impl_ChildrenOf_1.f k x0 x1 x2 x6) fun (y2, y3, y4) => brB (iEq y3 2) none (brB x4 (brB x5 (brB (iEq y3 1) none (brB (iLt 0 x1) (chk (cIdx (iSub .i64 x1 1) (rLen x0)) (chk (cIdx y2 (rLen x0)) (bnd (impl_ChildrenOf_1.f k (rGet 0 x0 (iSub .i64 x1 1)) (rGet 0 x0 y2) y4) fun (y5, y6) => brB (bNot (iLt y5 0)) none none))) none)) (brB (iLt 0 x1) (chk (cIdx (iSub .i64 x1 1) (rLen x0)) (chk (cIdx y2 (rLen x0)) (bnd (impl_ChildrenOf_1.f k (rGet 0 x0 (iSub .i64 x1 1)) (rGet 0 x0 y2) y4) fun (y7, y8) => brB (bNot (iLt y7 0)) none none))) none)) (brB (iLt 0 x1) (chk (cIdx (iSub .i64 x1 1) (rLen x0)) (chk (cIdx y2 (rLen x0)) (bnd (impl_ChildrenOf_1.f k (rGet 0 x0 (iSub .i64 x1 1)) (rGet 0 x0 y2) y4) fun (y9, y10) => brB (bNot (iLt y9 0)) none none))) none)))))
def l0 (k n : Nat) (x0 : List Int) (x1 : Int) (x2 : Int) (x3 : Int) (x4 : Bool) (x5 : Bool) (x6 : List (Int × Int × Int)) : Option (List (Int × Int × Int) × List Int) := iter (fun (rec : (List Int × Int × Int × Int × Bool × Bool × (List (Int × Int × Int))) → Option (List (Int × Int × Int) × List Int)) (x : List Int × Int × Int × Int × Bool × Bool × (List (Int × Int × Int))) => s0 k rec x.1 x.2.1 x.2.2.1 x.2.2.2.1 x.2.2.2.2.1 x.2.2.2.2.2.1 x.2.2.2.2.2.2) n (x0, x1, x2, x3, x4, x5, x6)
def f (k : Nat) (a0 : List Int) (a1 : Int) (a2 : Int) (a3 : Int) (a4 : List (Int × Int × Int)) : Option (List (Int × Int × Int) × List Int) := l0 k k a0 a1 a2 a3 true true a4
def sig : Sig := ⟨75, [.mut false [.row I], .w false [I], .w false [I], .w false [I], .fnr 74 [.row (.pair I (.pair I I))]], []⟩
def H : Hints := ⟨[(2, ⟨⟨[(0, .w false 1), (1, .w false 1), (2, .w false 1), (3, .w false 1), (4, .fnp 74 8 0), (10, .w false 1), (11, .w false 1)], [(8, 1)]⟩, [4], [.own I, .val I, .val I, .val I, .val .bool, .val .bool, .val (.row (.pair I (.pair I I)))], [0]⟩)], [], [(17, [0, 1, 3, 7, 7, 7, 39, 119, 247, 7, 7, 1543, 3591, 8191, 16383, 32767, 65535])], []⟩
def spec : Spec := { sig := sig, fn := fun k (x : List Int × Int × Int × Int × List (Int × Int × Int)) => f k x.1 x.2.1 x.2.2.1 x.2.2.2.1 x.2.2.2.2 }
theorem ok : Holds Go.Proofs.Try.prog spec := holds_of_run (G := [impl_ChildrenOf_1.spec, slices_insertionSortCmpFunc_insertionSortCmpFunc_int_impl_ChildrenOf_1.spec, slices_choosePivotCmpFunc_choosePivotCmpFunc_int_impl_ChildrenOf_1.spec]) (holds_cons impl_ChildrenOf_1.ok (holds_cons slices_insertionSortCmpFunc_insertionSortCmpFunc_int_impl_ChildrenOf_1.ok (holds_cons slices_choosePivotCmpFunc_choosePivotCmpFunc_int_impl_ChildrenOf_1.ok holds_nil))) (by kernel_rfl) H Go.Proofs.Try.func75 (by kernel_rfl) (rfl : Go.Proofs.Try.f75.body = some _) (by kernel_rfl) (by kernel_rfl) fun k x y h => Eq.trans (by kernel_rfl : _ = spec.fn k x) h
end slices_pdqsortCmpFunc_pdqsortCmpFunc_int_impl_ChildrenOf_1

namespace slices_SortFunc_int_impl_ChildrenOf_1
def f (k : Nat) (a0 : List Int) (a1 : List (Int × Int × Int)) : Option (List (Int × Int × Int) × List Int) := bnd (bits_Len.f k (iCnv .u64 (rLen a0))) fun y0 => bnd (slices_pdqsortCmpFunc_pdqsortCmpFunc_int_impl_ChildrenOf_1.f k a0 0 (rLen a0) y0 a1) fun (y1, y2) => some (y1, y2)
def sig : Sig := ⟨62, [.mut false [.row I], .fnr 74 [.row (.pair I (.pair I I))]], []⟩
def H : Hints := ⟨[], [], [], []⟩
def spec : Spec := { sig := sig, fn := fun k (x : List Int × List (Int × Int × Int)) => f k x.1 x.2 }
theorem ok : Holds Go.Proofs.Try.prog spec := holds_of_run (G := [bits_Len.spec, slices_pdqsortCmpFunc_pdqsortCmpFunc_int_impl_ChildrenOf_1.spec]) (holds_cons bits_Len.ok (holds_cons slices_pdqsortCmpFunc_pdqsortCmpFunc_int_impl_ChildrenOf_1.ok holds_nil)) (by kernel_rfl) H Go.Proofs.Try.func62 (by kernel_rfl) (rfl : Go.Proofs.Try.f62.body = some _) (by kernel_rfl) (by kernel_rfl) fun k x y h => Eq.trans (by kernel_rfl : _ = spec.fn k x) h
end slices_SortFunc_int_impl_ChildrenOf_1

namespace impl_ChildrenOf
def s0 (k : Nat) (rec0 : (Int × List Int × (List (Int × Int × Int)) × Int × Int × (List (Int × Int × Int))) → Option (List Int)) (x0 : Int) (x1 : List Int) (x2 : List (Int × Int × Int)) (x3 : Int) (x4 : Int) (x5 : List (Int × Int × Int)) : Option (List Int) := brB (iLt x4 x3) (chk (cIdx x4 (rLen x2)) (brB (iEq ((rGet (0, 0, 0) x2 x4).1) x0) (chk (cLen (rLen (rApp x1 [x4])) 8) (rec0 (x0, rApp x1 [x4], x2, x3, iAdd .i64 x4 1, x5))) (rec0 (x0, x1, x2, x3, iAdd .i64 x4 1, x5)))) (bnd (slices_SortFunc_int_impl_ChildrenOf_1.f k x1 x5) fun (y1, y2) => some y2)
def l0 (k n : Nat) (x0 : Int) (x1 : List Int) (x2 : List (Int × Int × Int)) (x3 : Int) (x4 : Int) (x5 : List (Int × Int × Int)) : Option (List Int) := iter (fun (rec : (Int × List Int × (List (Int × Int × Int)) × Int × Int × (List (Int × Int × Int))) → Option (List Int)) (x : Int × List Int × (List (Int × Int × Int)) × Int × Int × (List (Int × Int × Int))) => s0 k rec x.1 x.2.1 x.2.2.1 x.2.2.2.1 x.2.2.2.2.1 x.2.2.2.2.2) n (x0, x1, x2, x3, x4, x5)
def f (k : Nat) (a0 : List (Int × Int × Int)) (a1 : Int) : Option (List Int) := bnd (impl_isNode.f k a0 a1) fun y0 => brB (bNot y0) (some []) (l0 k k a1 [] a0 (rLen a0) 0 a0)
def sig : Sig := ⟨61, [.w false [.row (.pair I (.pair I I))], .w false [I]], [(false, [.own I])]⟩
def H : Hints := ⟨[(5, ⟨⟨[(1, .w false 1), (2, .ptr 102 0), (5, .w false 1), (14, .w false 1), (15, .w false 1), (16, .w false 1)], [(102, 1)]⟩, [2], [.val I, .own I, .val (.row (.pair I (.pair I I))), .val I, .val I, .val (.row (.pair I (.pair I I)))], []⟩)], [], [], []⟩
def spec : Spec := { sig := sig, fn := fun k (x : List (Int × Int × Int) × Int) => f k x.1 x.2 }
theorem ok : Holds Go.Proofs.Try.prog spec := holds_of_run (G := [impl_isNode.spec, slices_SortFunc_int_impl_ChildrenOf_1.spec]) (holds_cons impl_isNode.ok (holds_cons slices_SortFunc_int_impl_ChildrenOf_1.ok holds_nil)) (by kernel_rfl) H Go.Proofs.Try.func61 (by kernel_rfl) (rfl : Go.Proofs.Try.f61.body = some _) (by kernel_rfl) (by kernel_rfl) fun k x y h => Eq.trans (by kernel_rfl : _ = spec.fn k x) h
end impl_ChildrenOf

namespace impl_Bar__covers
def f (k : Nat) (a0_0 : Int) (a0_1 : Int) (a1 : Int) : Option (Bool) := brB (iLt 0 a0_0) (brB (iLe a0_1 a1) (some (iLt (iSub .u64 (iCnv .u64 a1) (iCnv .u64 a0_1)) (iCnv .u64 a0_0))) (some false)) (some false)
def sig : Sig := ⟨43, [.w true [I, I], .w false [I]], [(false, [.val .bool])]⟩
def H : Hints := ⟨[], [], [], []⟩
def spec : Spec := { sig := sig, fn := fun k (x : Int × Int × Int) => f k x.1 x.2.1 x.2.2 }
theorem ok : Holds Go.Proofs.Try.prog spec := holds_of_run (G := []) holds_nil (by kernel_rfl) H Go.Proofs.Try.func43 (by kernel_rfl) (rfl : Go.Proofs.Try.f43.body = some _) (by kernel_rfl) (by kernel_rfl) fun k x y h => Eq.trans (by kernel_rfl : _ = spec.fn k x) h
end impl_Bar__covers

namespace impl_downFrom_1
def f (k : Nat) (a0 : Int) (a1 : List (Int × Int)) (a2 : Int) : Option (Bool × List (Int × Int) × Int) := chk (cIdx a0 (rLen a1)) (bnd (impl_Bar__covers.f k ((rGet (0, 0) a1 a0).1) ((rGet (0, 0) a1 a0).2) a2) fun y0 => some (y0, a1, a2))
def sig : Sig := ⟨68, [.w false [I], .ref [.row (.pair I I)], .ref [I]], [(false, [.val .bool])]⟩
def H : Hints := ⟨[], [], [(1, [0, 0, 3, 7, 0, 31, 63])], []⟩
def spec : Spec := { sig := sig, fn := fun k (x : Int × List (Int × Int) × Int) => f k x.1 x.2.1 x.2.2 }
theorem ok : Holds Go.Proofs.Try.prog spec := holds_of_run (G := [impl_Bar__covers.spec]) (holds_cons impl_Bar__covers.ok holds_nil) (by kernel_rfl) H Go.Proofs.Try.func68 (by kernel_rfl) (rfl : Go.Proofs.Try.f68.body = some _) (by kernel_rfl) (by kernel_rfl) fun k x y h => Eq.trans (by kernel_rfl : _ = spec.fn k x) h
end impl_downFrom_1

namespace slices_IndexFunc_int_impl_downFrom_1
def s0 (k : Nat) (rec0 : (List Int × Int × Int × (List (Int × Int)) × Int) → Option (Int × List (Int × Int) × Int)) (x0 : List Int) (x1 : Int) (x2 : Int) (x3 : List (Int × Int)) (x4 : Int) : Option (Int × List (Int × Int) × Int) := brB (iLt x2 x1) (chk (cIdx x2 (rLen x0)) (bnd (impl_downFrom_1.f k (rGet 0 x0 x2) x3 x4) fun (y0, y1, y2) => brB y0 (some (x2, y1, y2)) (rec0 (x0, x1, iAdd .i64 x2 1, y1, y2)))) (some ((-1), x3, x4))
def l0 (k n : Nat) (x0 : List Int) (x1 : Int) (x2 : Int) (x3 : List (Int × Int)) (x4 : Int) : Option (Int × List (Int × Int) × Int) := iter (fun (rec : (List Int × Int × Int × (List (Int × Int)) × Int) → Option (Int × List (Int × Int) × Int)) (x : List Int × Int × Int × (List (Int × Int)) × Int) => s0 k rec x.1 x.2.1 x.2.2.1 x.2.2.2.1 x.2.2.2.2) n (x0, x1, x2, x3, x4)
def f (k : Nat) (a0 : List Int) (a1_0 : List (Int × Int)) (a1_1 : Int) : Option (Int × List (Int × Int) × Int) := l0 k k a0 (rLen a0) 0 a1_0 a1_1
def sig : Sig := ⟨67, [.w false [.row I], .fnr2 68 [.row (.pair I I)] [I]], [(false, [.val I])]⟩
def H : Hints := ⟨[(2, ⟨⟨[(0, .w false 1), (1, .fnp2 68 2 3), (7, .w false 1), (8, .w false 1)], [(2, 1), (3, 1)]⟩, [1], [.val (.row I), .val I, .val I, .val (.row (.pair I I)), .val I], []⟩)], [], [], []⟩
def spec : Spec := { sig := sig, fn := fun k (x : List Int × List (Int × Int) × Int) => f k x.1 x.2.1 x.2.2 }
theorem ok : Holds Go.Proofs.Try.prog spec := holds_of_run (G := [impl_downFrom_1.spec]) (holds_cons impl_downFrom_1.ok holds_nil) (by kernel_rfl) H Go.Proofs.Try.func67 (by kernel_rfl) (rfl : Go.Proofs.Try.f67.body = some _) (by kernel_rfl) (by kernel_rfl) fun k x y h => Eq.trans (by kernel_rfl : _ = spec.fn k x) h
end slices_IndexFunc_int_impl_downFrom_1

namespace impl_downFrom
def s0 (k : Nat) (rec0 : ((List (Int × Int × Int)) × Int × List Int × (List (Int × Int)) × Int) → Option (List Int)) (x0 : List (Int × Int × Int)) (x1 : Int) (x2 : List Int) (x3 : List (Int × Int)) (x4 : Int) : Option (List Int) := bnd (impl_isBridge.f k x0 x1) fun y0 => brB y0 (bnd (impl_ChildrenOf.f k x0 x1) fun y1 => bnd (slices_IndexFunc_int_impl_downFrom_1.f k y1 x3 x4) fun (y2, y3, y4) => brB (iLt y2 0) (some []) (chk (cIdx y2 (rLen y1)) (chk (cLen (rLen (rApp x2 [rGet 0 y1 y2])) 8) (rec0 (x0, rGet 0 y1 y2, rApp x2 [rGet 0 y1 y2], y3, y4))))) (some x2)
def l0 (k n : Nat) (x0 : List (Int × Int × Int)) (x1 : Int) (x2 : List Int) (x3 : List (Int × Int)) (x4 : Int) : Option (List Int) := iter (fun (rec : ((List (Int × Int × Int)) × Int × List Int × (List (Int × Int)) × Int) → Option (List Int)) (x : (List (Int × Int × Int)) × Int × List Int × (List (Int × Int)) × Int) => s0 k rec x.1 x.2.1 x.2.2.1 x.2.2.2.1 x.2.2.2.2) n (x0, x1, x2, x3, x4)
def f (k : Nat) (a0 : List (Int × Int × Int)) (a1 : List (Int × Int)) (a2 : Int) (a3 : Int) : Option (List Int) := l0 k k a0 a2 [a2] a1 a3
def sig : Sig := ⟨44, [.w false [.row (.pair I (.pair I I))], .w false [.row (.pair I I)], .w false [I], .w false [I]], [(false, [.own I])]⟩
def H : Hints := ⟨[(2, ⟨⟨[(0, .w false 1), (2, .w false 1), (5, .ptr 105 0), (7, .ptr 107 0), (9, .w false 1)], [(105, 1), (107, 1)]⟩, [5, 7], [.val (.row (.pair I (.pair I I))), .val I, .own I, .val (.row (.pair I I)), .val I], []⟩)], [], [], []⟩
def spec : Spec := { sig := sig, fn := fun k (x : List (Int × Int × Int) × List (Int × Int) × Int × Int) => f k x.1 x.2.1 x.2.2.1 x.2.2.2 }
theorem ok : Holds Go.Proofs.Try.prog spec := holds_of_run (G := [impl_isBridge.spec, impl_ChildrenOf.spec, slices_IndexFunc_int_impl_downFrom_1.spec]) (holds_cons impl_isBridge.ok (holds_cons impl_ChildrenOf.ok (holds_cons slices_IndexFunc_int_impl_downFrom_1.ok holds_nil))) (by kernel_rfl) H Go.Proofs.Try.func44 (by kernel_rfl) (rfl : Go.Proofs.Try.f44.body = some _) (by kernel_rfl) (by kernel_rfl) fun k x y h => Eq.trans (by kernel_rfl : _ = spec.fn k x) h
end impl_downFrom

namespace impl_DownToAddress
def f (k : Nat) (a0 : List (Int × Int × Int)) (a1 : List (Int × Int)) (a2 : Int) : Option (List Int) := bnd (impl_areWindows.f k a0 a1) fun y0 => brB (bNot y0) (some []) (bnd (impl_downFrom.f k a0 a1 0 a2) fun y1 => some y1)
def sig : Sig := ⟨14, [.w false [.row (.pair I (.pair I I))], .w false [.row (.pair I I)], .w false [I]], [(false, [.own I])]⟩
def H : Hints := ⟨[], [], [], []⟩
def spec : Spec := { sig := sig, fn := fun k (x : List (Int × Int × Int) × List (Int × Int) × Int) => f k x.1 x.2.1 x.2.2 }
theorem ok : Holds Go.Proofs.Try.prog spec := holds_of_run (G := [impl_areWindows.spec, impl_downFrom.spec]) (holds_cons impl_areWindows.ok (holds_cons impl_downFrom.ok holds_nil)) (by kernel_rfl) H Go.Proofs.Try.func14 (by kernel_rfl) (rfl : Go.Proofs.Try.f14.body = some _) (by kernel_rfl) (by kernel_rfl) fun k x y h => Eq.trans (by kernel_rfl : _ = spec.fn k x) h
end impl_DownToAddress

namespace laws_eqIntS
def s0 (k : Nat) (rec0 : (List Int × List Int × Int) → Option (Bool)) (x0 : List Int) (x1 : List Int) (x2 : Int) : Option (Bool) := brB (iLt x2 (rLen x0)) (chk (cIdx x2 (rLen x0)) (chk (cIdx x2 (rLen x1)) (brB (iNe (rGet 0 x0 x2) (rGet 0 x1 x2)) (some false) (rec0 (x0, x1, iAdd .i64 x2 1))))) (some true)
def l0 (k n : Nat) (x0 : List Int) (x1 : List Int) (x2 : Int) : Option (Bool) := iter (fun (rec : (List Int × List Int × Int) → Option (Bool)) (x : List Int × List Int × Int) => s0 k rec x.1 x.2.1 x.2.2) n (x0, x1, x2)
def f (k : Nat) (a0 : List Int) (a1 : List Int) : Option (Bool) := brB (iNe (rLen a0) (rLen a1)) (some false) (l0 k k a0 a1 0)
def sig : Sig := ⟨23, [.w false [.row I], .w false [.row I]], [(false, [.val .bool])]⟩
def H : Hints := ⟨[(4, ⟨⟨[(0, .w false 1), (1, .w false 1), (5, .w false 1)], []⟩, [], [.val (.row I), .val (.row I), .val I], []⟩)], [], [(6, [0, 0, 3, 7, 0, 0, 48, 112, 255])], []⟩
def spec : Spec := { sig := sig, fn := fun k (x : List Int × List Int) => f k x.1 x.2 }
theorem ok : Holds Go.Proofs.Try.prog spec := holds_of_run (G := []) holds_nil (by kernel_rfl) H Go.Proofs.Try.func23 (by kernel_rfl) (rfl : Go.Proofs.Try.f23.body = some _) (by kernel_rfl) (by kernel_rfl) fun k x y h => Eq.trans (by kernel_rfl : _ = spec.fn k x) h
end laws_eqIntS

namespace laws_eqNode
def f (k : Nat) (a0_0 : Int) (a0_1 : Int) (a0_2 : Int) (a1_0 : Int) (a1_1 : Int) (a1_2 : Int) : Option (Bool) := brB (iNe a0_0 a1_0) (some false) (brB (iNe a0_1 a1_1) (some false) (brB (iNe a0_2 a1_2) (some false) (some true)))
def sig : Sig := ⟨52, [.w true [I, I, I], .w true [I, I, I]], [(false, [.val .bool])]⟩
def H : Hints := ⟨[], [], [], []⟩
def spec : Spec := { sig := sig, fn := fun k (x : Int × Int × Int × Int × Int × Int) => f k x.1 x.2.1 x.2.2.1 x.2.2.2.1 x.2.2.2.2.1 x.2.2.2.2.2 }
theorem ok : Holds Go.Proofs.Try.prog spec := holds_of_run (G := []) holds_nil (by kernel_rfl) H Go.Proofs.Try.func52 (by kernel_rfl) (rfl : Go.Proofs.Try.f52.body = some _) (by kernel_rfl) (by kernel_rfl) fun k x y h => Eq.trans (by kernel_rfl : _ = spec.fn k x) h
end laws_eqNode

namespace laws_eqNodeS
def s0 (k : Nat) (rec0 : ((List (Int × Int × Int)) × (List (Int × Int × Int)) × Int) → Option (Bool)) (x0 : List (Int × Int × Int)) (x1 : List (Int × Int × Int)) (x2 : Int) : Option (Bool) := brB (iLt x2 (rLen x0)) (chk (cIdx x2 (rLen x0)) (chk (cIdx x2 (rLen x1)) (bnd (laws_eqNode.f k ((rGet (0, 0, 0) x0 x2).1) (((rGet (0, 0, 0) x0 x2).2).1) (((rGet (0, 0, 0) x0 x2).2).2) ((rGet (0, 0, 0) x1 x2).1) (((rGet (0, 0, 0) x1 x2).2).1) (((rGet (0, 0, 0) x1 x2).2).2)) fun y0 => brB (bNot y0) (some false) (rec0 (x0, x1, iAdd .i64 x2 1))))) (some true)
def l0 (k n : Nat) (x0 : List (Int × Int × Int)) (x1 : List (Int × Int × Int)) (x2 : Int) : Option (Bool) := iter (fun (rec : ((List (Int × Int × Int)) × (List (Int × Int × Int)) × Int) → Option (Bool)) (x : (List (Int × Int × Int)) × (List (Int × Int × Int)) × Int) => s0 k rec x.1 x.2.1 x.2.2) n (x0, x1, x2)
def f (k : Nat) (a0 : List (Int × Int × Int)) (a1 : List (Int × Int × Int)) : Option (Bool) := brB (iNe (rLen a0) (rLen a1)) (some false) (l0 k k a0 a1 0)
def sig : Sig := ⟨24, [.w false [.row (.pair I (.pair I I))], .w false [.row (.pair I (.pair I I))]], [(false, [.val .bool])]⟩
def H : Hints := ⟨[(4, ⟨⟨[(0, .w false 1), (1, .w false 1), (5, .w false 1)], []⟩, [], [.val (.row (.pair I (.pair I I))), .val (.row (.pair I (.pair I I))), .val I], []⟩)], [], [(6, [0, 0, 3, 7, 0, 0, 48, 112, 255, 511])], []⟩
def spec : Spec := { sig := sig, fn := fun k (x : List (Int × Int × Int) × List (Int × Int × Int)) => f k x.1 x.2 }
theorem ok : Holds Go.Proofs.Try.prog spec := holds_of_run (G := [laws_eqNode.spec]) (holds_cons laws_eqNode.ok holds_nil) (by kernel_rfl) H Go.Proofs.Try.func24 (by kernel_rfl) (rfl : Go.Proofs.Try.f24.body = some _) (by kernel_rfl) (by kernel_rfl) fun k x y h => Eq.trans (by kernel_rfl : _ = spec.fn k x) h
end laws_eqNodeS

namespace laws_eqBar
def f (k : Nat) (a0_0 : Int) (a0_1 : Int) (a1_0 : Int) (a1_1 : Int) : Option (Bool) := brB (iNe a0_0 a1_0) (some false) (brB (iNe a0_1 a1_1) (some false) (some true))
def sig : Sig := ⟨53, [.w true [I, I], .w true [I, I]], [(false, [.val .bool])]⟩
def H : Hints := ⟨[], [], [], []⟩
def spec : Spec := { sig := sig, fn := fun k (x : Int × Int × Int × Int) => f k x.1 x.2.1 x.2.2.1 x.2.2.2 }
theorem ok : Holds Go.Proofs.Try.prog spec := holds_of_run (G := []) holds_nil (by kernel_rfl) H Go.Proofs.Try.func53 (by kernel_rfl) (rfl : Go.Proofs.Try.f53.body = some _) (by kernel_rfl) (by kernel_rfl) fun k x y h => Eq.trans (by kernel_rfl : _ = spec.fn k x) h
end laws_eqBar

namespace laws_eqBarS
def s0 (k : Nat) (rec0 : ((List (Int × Int)) × (List (Int × Int)) × Int) → Option (Bool)) (x0 : List (Int × Int)) (x1 : List (Int × Int)) (x2 : Int) : Option (Bool) := brB (iLt x2 (rLen x0)) (chk (cIdx x2 (rLen x0)) (chk (cIdx x2 (rLen x1)) (bnd (laws_eqBar.f k ((rGet (0, 0) x0 x2).1) ((rGet (0, 0) x0 x2).2) ((rGet (0, 0) x1 x2).1) ((rGet (0, 0) x1 x2).2)) fun y0 => brB (bNot y0) (some false) (rec0 (x0, x1, iAdd .i64 x2 1))))) (some true)
def l0 (k n : Nat) (x0 : List (Int × Int)) (x1 : List (Int × Int)) (x2 : Int) : Option (Bool) := iter (fun (rec : ((List (Int × Int)) × (List (Int × Int)) × Int) → Option (Bool)) (x : (List (Int × Int)) × (List (Int × Int)) × Int) => s0 k rec x.1 x.2.1 x.2.2) n (x0, x1, x2)
def f (k : Nat) (a0 : List (Int × Int)) (a1 : List (Int × Int)) : Option (Bool) := brB (iNe (rLen a0) (rLen a1)) (some false) (l0 k k a0 a1 0)
def sig : Sig := ⟨25, [.w false [.row (.pair I I)], .w false [.row (.pair I I)]], [(false, [.val .bool])]⟩
def H : Hints := ⟨[(4, ⟨⟨[(0, .w false 1), (1, .w false 1), (5, .w false 1)], []⟩, [], [.val (.row (.pair I I)), .val (.row (.pair I I)), .val I], []⟩)], [], [(6, [0, 0, 3, 7, 0, 0, 48, 112, 255, 511])], []⟩
def spec : Spec := { sig := sig, fn := fun k (x : List (Int × Int) × List (Int × Int)) => f k x.1 x.2 }
theorem ok : Holds Go.Proofs.Try.prog spec := holds_of_run (G := [laws_eqBar.spec]) (holds_cons laws_eqBar.ok holds_nil) (by kernel_rfl) H Go.Proofs.Try.func25 (by kernel_rfl) (rfl : Go.Proofs.Try.f25.body = some _) (by kernel_rfl) (by kernel_rfl) fun k x y h => Eq.trans (by kernel_rfl : _ = spec.fn k x) h
end laws_eqBarS

namespace laws_markNodeS
def s0 (k : Nat) (rec0 : ((List (Int × Int × Int)) × Int × Int) → Option (Int × List (Int × Int × Int))) (x0 : List (Int × Int × Int)) (x1 : Int) (x2 : Int) : Option (Int × List (Int × Int × Int)) := brB (iLt x2 (rLen x0)) (chk (cIdx x2 (rLen x0)) (chk (cIdx x2 (rLen (rSet x0 x2 (x1, ((rGet (0, 0, 0) x0 x2).2).1, ((rGet (0, 0, 0) x0 x2).2).2)))) (chk (cIdx x2 (rLen (rSet (rSet x0 x2 (x1, ((rGet (0, 0, 0) x0 x2).2).1, ((rGet (0, 0, 0) x0 x2).2).2)) x2 ((rGet (0, 0, 0) (rSet x0 x2 (x1, ((rGet (0, 0, 0) x0 x2).2).1, ((rGet (0, 0, 0) x0 x2).2).2)) x2).1, iAdd .i64 x1 1, ((rGet (0, 0, 0) (rSet x0 x2 (x1, ((rGet (0, 0, 0) x0 x2).2).1, ((rGet (0, 0, 0) x0 x2).2).2)) x2).2).2)))) (rec0 (rSet (rSet (rSet x0 x2 (x1, ((rGet (0, 0, 0) x0 x2).2).1, ((rGet (0, 0, 0) x0 x2).2).2)) x2 ((rGet (0, 0, 0) (rSet x0 x2 (x1, ((rGet (0, 0, 0) x0 x2).2).1, ((rGet (0, 0, 0) x0 x2).2).2)) x2).1, iAdd .i64 x1 1, ((rGet (0, 0, 0) (rSet x0 x2 (x1, ((rGet (0, 0, 0) x0 x2).2).1, ((rGet (0, 0, 0) x0 x2).2).2)) x2).2).2)) x2 ((rGet (0, 0, 0) (rSet (rSet x0 x2 (x1, ((rGet (0, 0, 0) x0 x2).2).1, ((rGet (0, 0, 0) x0 x2).2).2)) x2 ((rGet (0, 0, 0) (rSet x0 x2 (x1, ((rGet (0, 0, 0) x0 x2).2).1, ((rGet (0, 0, 0) x0 x2).2).2)) x2).1, iAdd .i64 x1 1, ((rGet (0, 0, 0) (rSet x0 x2 (x1, ((rGet (0, 0, 0) x0 x2).2).1, ((rGet (0, 0, 0) x0 x2).2).2)) x2).2).2)) x2).1, ((rGet (0, 0, 0) (rSet (rSet x0 x2 (x1, ((rGet (0, 0, 0) x0 x2).2).1, ((rGet (0, 0, 0) x0 x2).2).2)) x2 ((rGet (0, 0, 0) (rSet x0 x2 (x1, ((rGet (0, 0, 0) x0 x2).2).1, ((rGet (0, 0, 0) x0 x2).2).2)) x2).1, iAdd .i64 x1 1, ((rGet (0, 0, 0) (rSet x0 x2 (x1, ((rGet (0, 0, 0) x0 x2).2).1, ((rGet (0, 0, 0) x0 x2).2).2)) x2).2).2)) x2).2).1, iAdd .i64 (iAdd .i64 x1 1) 1), iAdd .i64 (iAdd .i64 (iAdd .i64 x1 1) 1) 1, iAdd .i64 x2 1))))) (some (x1, x0))
def l0 (k n : Nat) (x0 : List (Int × Int × Int)) (x1 : Int) (x2 : Int) : Option (Int × List (Int × Int × Int)) := iter (fun (rec : ((List (Int × Int × Int)) × Int × Int) → Option (Int × List (Int × Int × Int))) (x : (List (Int × Int × Int)) × Int × Int) => s0 k rec x.1 x.2.1 x.2.2) n (x0, x1, x2)
def f (k : Nat) (a0 : List (Int × Int × Int)) (a1 : Int) : Option (Int × List (Int × Int × Int)) := l0 k k a0 a1 0
def sig : Sig := ⟨26, [.mut false [.row (.pair I (.pair I I))], .w false [I]], [(false, [.val I])]⟩
def H : Hints := ⟨[(2, ⟨⟨[(0, .w false 1), (1, .w false 1), (5, .w false 1)], []⟩, [], [.own (.pair I (.pair I I)), .val I, .val I], [0]⟩)], [], [], []⟩
def spec : Spec := { sig := sig, fn := fun k (x : List (Int × Int × Int) × Int) => f k x.1 x.2 }
theorem ok : Holds Go.Proofs.Try.prog spec := holds_of_run (G := []) holds_nil (by kernel_rfl) H Go.Proofs.Try.func26 (by kernel_rfl) (rfl : Go.Proofs.Try.f26.body = some _) (by kernel_rfl) (by kernel_rfl) fun k x y h => Eq.trans (by kernel_rfl : _ = spec.fn k x) h
end laws_markNodeS

namespace laws_markBarS
def s0 (k : Nat) (rec0 : ((List (Int × Int)) × Int × Int) → Option (Int × List (Int × Int))) (x0 : List (Int × Int)) (x1 : Int) (x2 : Int) : Option (Int × List (Int × Int)) := brB (iLt x2 (rLen x0)) (chk (cIdx x2 (rLen x0)) (chk (cIdx x2 (rLen (rSet x0 x2 (x1, (rGet (0, 0) x0 x2).2)))) (rec0 (rSet (rSet x0 x2 (x1, (rGet (0, 0) x0 x2).2)) x2 ((rGet (0, 0) (rSet x0 x2 (x1, (rGet (0, 0) x0 x2).2)) x2).1, iAdd .i64 x1 1), iAdd .i64 (iAdd .i64 x1 1) 1, iAdd .i64 x2 1)))) (some (x1, x0))
def l0 (k n : Nat) (x0 : List (Int × Int)) (x1 : Int) (x2 : Int) : Option (Int × List (Int × Int)) := iter (fun (rec : ((List (Int × Int)) × Int × Int) → Option (Int × List (Int × Int))) (x : (List (Int × Int)) × Int × Int) => s0 k rec x.1 x.2.1 x.2.2) n (x0, x1, x2)
def f (k : Nat) (a0 : List (Int × Int)) (a1 : Int) : Option (Int × List (Int × Int)) := l0 k k a0 a1 0
def sig : Sig := ⟨27, [.mut false [.row (.pair I I)], .w false [I]], [(false, [.val I])]⟩
def H : Hints := ⟨[(2, ⟨⟨[(0, .w false 1), (1, .w false 1), (5, .w false 1)], []⟩, [], [.own (.pair I I), .val I, .val I], [0]⟩)], [], [], []⟩
def spec : Spec := { sig := sig, fn := fun k (x : List (Int × Int) × Int) => f k x.1 x.2 }
theorem ok : Holds Go.Proofs.Try.prog spec := holds_of_run (G := []) holds_nil (by kernel_rfl) H Go.Proofs.Try.func27 (by kernel_rfl) (rfl : Go.Proofs.Try.f27.body = some _) (by kernel_rfl) (by kernel_rfl) fun k x y h => Eq.trans (by kernel_rfl : _ = spec.fn k x) h
end laws_markBarS

namespace laws_markIntS
def s0 (k : Nat) (rec0 : (List Int × Int × Int) → Option (Int × List Int)) (x0 : List Int) (x1 : Int) (x2 : Int) : Option (Int × List Int) := brB (iLt x2 (rLen x0)) (chk (cIdx x2 (rLen x0)) (rec0 (rSet x0 x2 x1, iAdd .i64 x1 1, iAdd .i64 x2 1))) (some (x1, x0))
def l0 (k n : Nat) (x0 : List Int) (x1 : Int) (x2 : Int) : Option (Int × List Int) := iter (fun (rec : (List Int × Int × Int) → Option (Int × List Int)) (x : List Int × Int × Int) => s0 k rec x.1 x.2.1 x.2.2) n (x0, x1, x2)
def f (k : Nat) (a0 : List Int) (a1 : Int) : Option (Int × List Int) := l0 k k a0 a1 0
def sig : Sig := ⟨28, [.mut false [.row I], .w false [I]], [(false, [.val I])]⟩
def H : Hints := ⟨[(2, ⟨⟨[(0, .w false 1), (1, .w false 1), (5, .w false 1)], []⟩, [], [.own I, .val I, .val I], [0]⟩)], [], [], []⟩
def spec : Spec := { sig := sig, fn := fun k (x : List Int × Int) => f k x.1 x.2 }
theorem ok : Holds Go.Proofs.Try.prog spec := holds_of_run (G := []) holds_nil (by kernel_rfl) H Go.Proofs.Try.func28 (by kernel_rfl) (rfl : Go.Proofs.Try.f28.body = some _) (by kernel_rfl) (by kernel_rfl) fun k x y h => Eq.trans (by kernel_rfl : _ = spec.fn k x) h
end laws_markIntS

namespace laws_heldIntS
def s0 (k : Nat) (rec0 : (List Int × Int × Int) → Option (Int)) (x0 : List Int) (x1 : Int) (x2 : Int) : Option (Int) := brB (iLt x2 (rLen x0)) (chk (cIdx x2 (rLen x0)) (brB (iNe (rGet 0 x0 x2) x1) (some (-1)) (rec0 (x0, iAdd .i64 x1 1, iAdd .i64 x2 1)))) (some x1)
def l0 (k n : Nat) (x0 : List Int) (x1 : Int) (x2 : Int) : Option (Int) := iter (fun (rec : (List Int × Int × Int) → Option (Int)) (x : List Int × Int × Int) => s0 k rec x.1 x.2.1 x.2.2) n (x0, x1, x2)
def f (k : Nat) (a0 : List Int) (a1 : Int) : Option (Int) := l0 k k a0 a1 0
def sig : Sig := ⟨29, [.w false [.row I], .w false [I]], [(false, [.val I])]⟩
def H : Hints := ⟨[(2, ⟨⟨[(0, .w false 1), (1, .w false 1), (5, .w false 1)], []⟩, [], [.val (.row I), .val I, .val I], []⟩)], [], [], []⟩
def spec : Spec := { sig := sig, fn := fun k (x : List Int × Int) => f k x.1 x.2 }
theorem ok : Holds Go.Proofs.Try.prog spec := holds_of_run (G := []) holds_nil (by kernel_rfl) H Go.Proofs.Try.func29 (by kernel_rfl) (rfl : Go.Proofs.Try.f29.body = some _) (by kernel_rfl) (by kernel_rfl) fun k x y h => Eq.trans (by kernel_rfl : _ = spec.fn k x) h
end laws_heldIntS

namespace laws_FnExactDownToAddress
def f (k : Nat) (a0 : List (Int × Int × Int)) (a1 : List (Int × Int)) (a2 : Int) : Option (Bool) := bnd (laws_szNodeS.f k a0 1048576) fun y0 => brB (iLt y0 0) (some true) (bnd (laws_szBarS.f k a1 y0) fun y1 => brB (iLt y1 0) (some true) (bnd (laws_toNodeS.f k a0) fun y2 => bnd (laws_toBarS.f k a1) fun y3 => bnd (spec_DownToAddress.f k y2 y3 a2) fun y4 => bnd (laws_toNodeS.f k a0) fun y5 => bnd (laws_toBarS.f k a1) fun y6 => bnd (impl_DownToAddress.f k y5 y6 a2) fun y7 => bnd (laws_eqIntS.f k y7 y4) fun y8 => brB (bNot y8) (some false) (bnd (laws_toNodeS.f k a0) fun y9 => bnd (laws_eqNodeS.f k y5 y9) fun y10 => brB (bNot y10) (some false) (bnd (laws_toBarS.f k a1) fun y11 => bnd (laws_eqBarS.f k y6 y11) fun y12 => brB (bNot y12) (some false) (bnd (laws_markNodeS.f k y5 1) fun (y13, y14) => bnd (laws_markBarS.f k y6 y13) fun (y15, y16) => brB (iLt y15 0) (some false) (bnd (laws_eqIntS.f k y7 y4) fun y17 => brB (bNot y17) (some false) (bnd (laws_markIntS.f k y7 1) fun (y18, y19) => bnd (laws_heldIntS.f k y19 1) fun y20 => brB (iLt y20 0) (some false) (brB (iNe y20 y18) (some false) (bnd (laws_toNodeS.f k a0) fun y21 => bnd (laws_toBarS.f k a1) fun y22 => bnd (impl_DownToAddress.f k y21 y22 a2) fun y23 => bnd (laws_eqIntS.f k y23 y4) fun y24 => brB (bNot y24) (some false) (bnd (laws_heldIntS.f k y19 1) fun y25 => brB (iLt y25 0) (some false) (brB (iNe y25 y18) (some false) (some true))))))))))))
def sig : Sig := ⟨4, [.w false [.row (.pair I (.pair I I))], .w false [.row (.pair I I)], .w false [I]], [(false, [.val .bool])]⟩
def H : Hints := ⟨[], [], [], []⟩
def spec : Spec := { sig := sig, fn := fun k (x : List (Int × Int × Int) × List (Int × Int) × Int) => f k x.1 x.2.1 x.2.2 }
theorem ok : Holds Go.Proofs.Try.prog spec := holds_of_run (G := [laws_szNodeS.spec, laws_szBarS.spec, laws_toNodeS.spec, laws_toBarS.spec, spec_DownToAddress.spec, impl_DownToAddress.spec, laws_eqIntS.spec, laws_eqNodeS.spec, laws_eqBarS.spec, laws_markNodeS.spec, laws_markBarS.spec, laws_markIntS.spec, laws_heldIntS.spec]) (holds_cons laws_szNodeS.ok (holds_cons laws_szBarS.ok (holds_cons laws_toNodeS.ok (holds_cons laws_toBarS.ok (holds_cons spec_DownToAddress.ok (holds_cons impl_DownToAddress.ok (holds_cons laws_eqIntS.ok (holds_cons laws_eqNodeS.ok (holds_cons laws_eqBarS.ok (holds_cons laws_markNodeS.ok (holds_cons laws_markBarS.ok (holds_cons laws_markIntS.ok (holds_cons laws_heldIntS.ok holds_nil))))))))))))) (by kernel_rfl) H Go.Proofs.Try.func4 (by kernel_rfl) (rfl : Go.Proofs.Try.f4.body = some _) (by kernel_rfl) (by kernel_rfl) fun k x y h => Eq.trans (by kernel_rfl : _ = spec.fn k x) h
end laws_FnExactDownToAddress

end
end Go.Proofs.YtpggnojbbibnnaaT
