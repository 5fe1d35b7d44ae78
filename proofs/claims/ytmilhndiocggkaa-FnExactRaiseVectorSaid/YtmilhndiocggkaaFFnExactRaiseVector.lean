/- The functions of the program, as they compute: printed by a program of the session (wip/gen), each with its contract. -/
import Derived.Test.YtmilhndiocggkaaProg
import Derived.Test.YtmilhndiocggkaaTiAI
set_option linter.unusedVariables false
set_option maxRecDepth 100000
namespace Go.Proofs.YtmilhndiocggkaaT
open Go
abbrev I : Ty := .int .i64
namespace laws_szBoolS
def f (k : Nat) (a0 : List Bool) (a1 : Int) : Option (Int) := brB (iLt (iSub .i64 a1 (rLen a0)) 0) (some (-1)) (some (iSub .i64 a1 (rLen a0)))
def sig : Sig := ⟨34, [.w false [.row .bool], .w false [I]], [(false, [.val I])]⟩
def H : Hints := ⟨[], [], [], []⟩
def spec : Spec := ⟨sig, fun k (x : List Bool × Int) => f k x.1 x.2⟩
theorem ok : Holds Go.Proofs.Try.prog spec := holds_of_run (G := []) holds_nil (by kernel_rfl) H Go.Proofs.Try.func34 (by kernel_rfl) (rfl : Go.Proofs.Try.f34.body = some _) (by kernel_rfl) (by kernel_rfl) fun k x y h => Eq.trans (by kernel_rfl : _ = spec.fn k x) h
end laws_szBoolS

namespace laws_szVectors
def f (k : Nat) (a0_0 : Int) (a0_1 : List Bool) (a0_2 : List Bool) (a1 : Int) : Option (Int) := bnd (laws_szBoolS.f k a0_1 a1) fun y0 => brB (iLt y0 0) (some (-1)) (bnd (laws_szBoolS.f k a0_2 y0) fun y1 => brB (iLt y1 0) (some (-1)) (some y1))
def sig : Sig := ⟨8, [.w true [I, .row .bool, .row .bool], .w false [I]], [(false, [.val I])]⟩
def H : Hints := ⟨[], [], [], []⟩
def spec : Spec := ⟨sig, fun k (x : Int × List Bool × List Bool × Int) => f k x.1 x.2.1 x.2.2.1 x.2.2.2⟩
theorem ok : Holds Go.Proofs.Try.prog spec := holds_of_run (G := [laws_szBoolS.spec]) (holds_cons laws_szBoolS.ok holds_nil) (by kernel_rfl) H Go.Proofs.Try.func8 (by kernel_rfl) (rfl : Go.Proofs.Try.f8.body = some _) (by kernel_rfl) (by kernel_rfl) fun k x y h => Eq.trans (by kernel_rfl : _ = spec.fn k x) h
end laws_szVectors

namespace laws_toBoolS
def s0 (k : Nat) (rec0 : (List Bool × List Bool × Int) → Option (List Bool)) (x0 : List Bool) (x1 : List Bool) (x2 : Int) : Option (List Bool) := brB (iLt x2 (rLen x0)) (chk (cIdx x2 (rLen x0)) (chk (cIdx x2 (rLen x1)) (rec0 (x0, rSet x1 x2 (rGet false x0 x2), iAdd .i64 x2 1)))) (some x1)
def l0 (k n : Nat) (x0 : List Bool) (x1 : List Bool) (x2 : Int) : Option (List Bool) := iter (fun (rec : (List Bool × List Bool × Int) → Option (List Bool)) (x : List Bool × List Bool × Int) => s0 k rec x.1 x.2.1 x.2.2) n (x0, x1, x2)
def f (k : Nat) (a0 : List Bool) : Option (List Bool) := chk (cMake (rLen a0) (rLen a0) 1) (l0 k k a0 (rRep false (rLen a0)) 0)
def sig : Sig := ⟨36, [.w false [.row .bool]], [(false, [.own .bool])]⟩
def H : Hints := ⟨[(3, ⟨⟨[(0, .w false 1), (3, .w false 1), (4, .w false 1)], []⟩, [], [.val (.row .bool), .own .bool, .val I], []⟩)], [], [], []⟩
def spec : Spec := ⟨sig, fun k (x : List Bool) => f k x⟩
theorem ok : Holds Go.Proofs.Try.prog spec := holds_of_run (G := []) holds_nil (by kernel_rfl) H Go.Proofs.Try.func36 (by kernel_rfl) (rfl : Go.Proofs.Try.f36.body = some _) (by kernel_rfl) (by kernel_rfl) fun k x y h => Eq.trans (by kernel_rfl : _ = spec.fn k x) h
end laws_toBoolS

namespace laws_toVectors
def f (k : Nat) (a0_0 : Int) (a0_1 : List Bool) (a0_2 : List Bool) : Option (Int × List Bool × List Bool) := bnd (laws_toBoolS.f k a0_1) fun y0 => bnd (laws_toBoolS.f k a0_2) fun y1 => some (a0_0, y0, y1)
def sig : Sig := ⟨10, [.w true [I, .row .bool, .row .bool]], [(true, [.val I, .own .bool, .own .bool])]⟩
def H : Hints := ⟨[], [], [], []⟩
def spec : Spec := ⟨sig, fun k (x : Int × List Bool × List Bool) => f k x.1 x.2.1 x.2.2⟩
theorem ok : Holds Go.Proofs.Try.prog spec := holds_of_run (G := [laws_toBoolS.spec]) (holds_cons laws_toBoolS.ok holds_nil) (by kernel_rfl) H Go.Proofs.Try.func10 (by kernel_rfl) (rfl : Go.Proofs.Try.f10.body = some _) (by kernel_rfl) (by kernel_rfl) fun k x y h => Eq.trans (by kernel_rfl : _ = spec.fn k x) h
end laws_toVectors

namespace spec_l30Copy
def f (k : Nat) (a0_0 : Int) (a0_1 : List Bool) (a0_2 : List Bool) : Option (Int × List Bool × List Bool) := chk (cLen (rLen (rApp [] a0_1)) 1) (chk (cLen (rLen (rApp [] a0_2)) 1) (some (a0_0, rApp [] a0_1, rApp [] a0_2)))
def sig : Sig := ⟨51, [.w true [I, .row .bool, .row .bool]], [(true, [.val I, .own .bool, .own .bool])]⟩
def H : Hints := ⟨[], [], [(1, [0, 1, 0, 0, 8, 28, 0, 0, 128, 508, 1023, 2047])], []⟩
def spec : Spec := ⟨sig, fun k (x : Int × List Bool × List Bool) => f k x.1 x.2.1 x.2.2⟩
theorem ok : Holds Go.Proofs.Try.prog spec := holds_of_run (G := []) holds_nil (by kernel_rfl) H Go.Proofs.Try.func51 (by kernel_rfl) (rfl : Go.Proofs.Try.f51.body = some _) (by kernel_rfl) (by kernel_rfl) fun k x y h => Eq.trans (by kernel_rfl : _ = spec.fn k x) h
end spec_l30Copy

namespace spec_l01In
def f (k : Nat) (a0 : Int) (a1 : Int) (a2 : Int) : Option (Bool) := brB (iLe a1 a0) (some (iLe a0 a2)) (some false)
def sig : Sig := ⟨35, [.w false [I], .w false [I], .w false [I]], [(false, [.val .bool])]⟩
def H : Hints := ⟨[], [], [], []⟩
def spec : Spec := ⟨sig, fun k (x : Int × Int × Int) => f k x.1 x.2.1 x.2.2⟩
theorem ok : Holds Go.Proofs.Try.prog spec := holds_of_run (G := []) holds_nil (by kernel_rfl) H Go.Proofs.Try.func35 (by kernel_rfl) (rfl : Go.Proofs.Try.f35.body = some _) (by kernel_rfl) (by kernel_rfl) fun k x y h => Eq.trans (by kernel_rfl : _ = spec.fn k x) h
end spec_l01In

namespace spec_VectorsOk
def s0 (k : Nat) (rec0 : (Int × Int × List Bool × List Bool) → Option (Bool)) (x0 : Int) (x1 : Int) (x2 : List Bool) (x3 : List Bool) : Option (Bool) := brB (iLt x0 (rLen x2)) (chk (cIdx x0 (rLen x3)) (brB (rGet false x3 x0) (chk (cIdx x0 (rLen x2)) (brB (bNot (rGet false x2 x0)) (some false) (rec0 (iAdd .i64 x0 1, x1, x2, x3)))) (rec0 (iAdd .i64 x0 1, x1, x2, x3)))) (some true)
def l0 (k n : Nat) (x0 : Int) (x1 : Int) (x2 : List Bool) (x3 : List Bool) : Option (Bool) := iter (fun (rec : (Int × Int × List Bool × List Bool) → Option (Bool)) (x : Int × Int × List Bool × List Bool) => s0 k rec x.1 x.2.1 x.2.2.1 x.2.2.2) n (x0, x1, x2, x3)
def f (k : Nat) (a0_0 : Int) (a0_1 : List Bool) (a0_2 : List Bool) : Option (Bool) := bnd (spec_l01In.f k (rLen a0_1) 1 8) fun y0 => brB (bNot y0) (some false) (brB (iNe (rLen a0_2) (rLen a0_1)) (some false) (bnd (spec_l01In.f k a0_0 0 65535) fun y1 => brB (bNot y1) (some false) (l0 k k 0 a0_0 a0_1 a0_2)))
def sig : Sig := ⟨9, [.w true [I, .row .bool, .row .bool]], [(false, [.val .bool])]⟩
def H : Hints := ⟨[(4, ⟨⟨[(1, .ptr 101 0), (3, .w false 1)], [(101, 3)]⟩, [1], [.val I, .val I, .val (.row .bool), .val (.row .bool)], []⟩)], [], [], []⟩
def spec : Spec := ⟨sig, fun k (x : Int × List Bool × List Bool) => f k x.1 x.2.1 x.2.2⟩
theorem ok : Holds Go.Proofs.Try.prog spec := holds_of_run (G := [spec_l01In.spec]) (holds_cons spec_l01In.ok holds_nil) (by kernel_rfl) H Go.Proofs.Try.func9 (by kernel_rfl) (rfl : Go.Proofs.Try.f9.body = some _) (by kernel_rfl) (by kernel_rfl) fun k x y h => Eq.trans (by kernel_rfl : _ = spec.fn k x) h
end spec_VectorsOk

namespace spec_IsId
def f (k : Nat) (a0 : Int) : Option (Bool) := bnd (spec_l01In.f k a0 0 255) fun y0 => some y0
def sig : Sig := ⟨62, [.w false [I]], [(false, [.val .bool])]⟩
def H : Hints := ⟨[], [], [], []⟩
def spec : Spec := ⟨sig, fun k (x : Int) => f k x⟩
theorem ok : Holds Go.Proofs.Try.prog spec := holds_of_run (G := [spec_l01In.spec]) (holds_cons spec_l01In.ok holds_nil) (by kernel_rfl) H Go.Proofs.Try.func62 (by kernel_rfl) (rfl : Go.Proofs.Try.f62.body = some _) (by kernel_rfl) (by kernel_rfl) fun k x y h => Eq.trans (by kernel_rfl : _ = spec.fn k x) h
end spec_IsId

namespace spec_l30Ok
def f (k : Nat) (a0_0 : Int) (a0_1 : List Bool) (a0_2 : List Bool) (a1 : Int) (a2 : Int) : Option (Bool) := bnd (spec_VectorsOk.f k a0_0 a0_1 a0_2) fun y0 => brB y0 (bnd (spec_IsId.f k a1) fun y1 => brB y1 (bnd (spec_l01In.f k a2 0 (iSub .i64 (rLen a0_1) 1)) fun y2 => some y2) (some false)) (some false)
def sig : Sig := ⟨52, [.w true [I, .row .bool, .row .bool], .w false [I], .w false [I]], [(false, [.val .bool])]⟩
def H : Hints := ⟨[], [], [], []⟩
def spec : Spec := ⟨sig, fun k (x : Int × List Bool × List Bool × Int × Int) => f k x.1 x.2.1 x.2.2.1 x.2.2.2.1 x.2.2.2.2⟩
theorem ok : Holds Go.Proofs.Try.prog spec := holds_of_run (G := [spec_l01In.spec, spec_VectorsOk.spec, spec_IsId.spec]) (holds_cons spec_l01In.ok (holds_cons spec_VectorsOk.ok (holds_cons spec_IsId.ok holds_nil))) (by kernel_rfl) H Go.Proofs.Try.func52 (by kernel_rfl) (rfl : Go.Proofs.Try.f52.body = some _) (by kernel_rfl) (by kernel_rfl) fun k x y h => Eq.trans (by kernel_rfl : _ = spec.fn k x) h
end spec_l30Ok

namespace spec_RaiseVector
def f (k : Nat) (a0_0 : Int) (a0_1 : List Bool) (a0_2 : List Bool) (a1 : Int) (a2 : Int) : Option (Int × List Bool × List Bool × Int × Int × Int × Int × Int × Int × Int × List Int × Bool) := bnd (spec_l30Copy.f k a0_0 a0_1 a0_2) fun (y0, y1, y2) => bnd (spec_l30Ok.f k a0_0 a0_1 a0_2 a1 a2) fun y3 => brB (bNot y3) (some (y0, y1, y2, 0, 0, 0, 0, 0, 0, 0, [], false)) (chk (cIdx a2 (rLen a0_1)) (brB (rGet false a0_1 a2) (chk (cIdx a2 (rLen y2)) (some (y0, y1, rSet y2 a2 true, 0, 0, 0, 0, 0, 0, 0, [], true))) (some (y0, y1, y2, 1, a1, 0, a0_0, 0, 0, 0, [a2], true))))
def sig : Sig := ⟨28, [.w true [I, .row .bool, .row .bool], .w false [I], .w false [I]], [(true, [.val I, .own .bool, .own .bool]), (true, [.val I, .val I, .val I, .val I, .val I, .val I, .val I, .own I]), (false, [.val .bool])]⟩
def H : Hints := ⟨[], [], [(7, [0, 0, 0, 4, 0, 16, 62, 1, 255, 511])], []⟩
def spec : Spec := ⟨sig, fun k (x : Int × List Bool × List Bool × Int × Int) => f k x.1 x.2.1 x.2.2.1 x.2.2.2.1 x.2.2.2.2⟩
theorem ok : Holds Go.Proofs.Try.prog spec := holds_of_run (G := [spec_l30Copy.spec, spec_l30Ok.spec]) (holds_cons spec_l30Copy.ok (holds_cons spec_l30Ok.ok holds_nil)) (by kernel_rfl) H Go.Proofs.Try.func28 (by kernel_rfl) (rfl : Go.Proofs.Try.f28.body = some _) (by kernel_rfl) (by kernel_rfl) fun k x y h => Eq.trans (by kernel_rfl : _ = spec.fn k x) h
end spec_RaiseVector

namespace slices_Clone_bool
def f (k : Nat) (a0 : List Bool) : Option (List Bool) := chk (cLen (rLen a0) 1) (some a0)
def sig : Sig := cloneSig 57 .bool
def spec : Spec := ⟨sig, fun k (x : List Bool) => f k x⟩
theorem ok : Holds Go.Proofs.Try.prog spec := clone_holds (u := .bool) (t := 22) (by kernel_rfl) Go.Proofs.Try.func57 (by kernel_rfl) (rfl : Go.Proofs.Try.f57.body = some _) (by kernel_rfl) (by kernel_rfl) Go.Proofs.Try.underlying22 ⟨rfl, rfl, rfl⟩ ⟨rfl, rfl, rfl⟩ ⟨rfl, rfl, _, rfl⟩ (fun l => cLen (rLen l) 1) (fun k => by kernel_rfl) (fun k l => by kernel_rfl)
end slices_Clone_bool

namespace impl_copyVectors
def f (k : Nat) (a0_0 : Int) (a0_1 : List Bool) (a0_2 : List Bool) : Option (Int × List Bool × List Bool) := bnd (slices_Clone_bool.f k a0_1) fun y0 => bnd (slices_Clone_bool.f k a0_2) fun y1 => some (a0_0, y0, y1)
def sig : Sig := ⟨43, [.w true [I, .row .bool, .row .bool]], [(true, [.val I, .own .bool, .own .bool])]⟩
def H : Hints := ⟨[], [], [(1, [0, 1, 0, 4, 12, 0, 32, 124, 255, 511])], []⟩
def spec : Spec := ⟨sig, fun k (x : Int × List Bool × List Bool) => f k x.1 x.2.1 x.2.2⟩
theorem ok : Holds Go.Proofs.Try.prog spec := holds_of_run (G := [slices_Clone_bool.spec]) (holds_cons slices_Clone_bool.ok holds_nil) (by kernel_rfl) H Go.Proofs.Try.func43 (by kernel_rfl) (rfl : Go.Proofs.Try.f43.body = some _) (by kernel_rfl) (by kernel_rfl) fun k x y h => Eq.trans (by kernel_rfl : _ = spec.fn k x) h
end impl_copyVectors

namespace impl_within
def f (k : Nat) (a0 : Int) (a1 : Int) (a2 : Int) : Option (Bool) := brB (iLe a1 a0) (some (iLe a0 a2)) (some false)
def sig : Sig := ⟨37, [.w false [I], .w false [I], .w false [I]], [(false, [.val .bool])]⟩
def H : Hints := ⟨[], [], [], []⟩
def spec : Spec := ⟨sig, fun k (x : Int × Int × Int) => f k x.1 x.2.1 x.2.2⟩
theorem ok : Holds Go.Proofs.Try.prog spec := holds_of_run (G := []) holds_nil (by kernel_rfl) H Go.Proofs.Try.func37 (by kernel_rfl) (rfl : Go.Proofs.Try.f37.body = some _) (by kernel_rfl) (by kernel_rfl) fun k x y h => Eq.trans (by kernel_rfl : _ = spec.fn k x) h
end impl_within

namespace impl_VectorsOk
def s0 (k : Nat) (rec0 : (List Bool × Int × Int × Int × List Bool × List Bool) → Option (Bool)) (x0 : List Bool) (x1 : Int) (x2 : Int) (x3 : Int) (x4 : List Bool) (x5 : List Bool) : Option (Bool) := brB (iLt x2 x1) (chk (cIdx x2 (rLen x0)) (brB (rGet false x0 x2) (chk (cIdx x2 (rLen x4)) (brB (bNot (rGet false x4 x2)) (some false) (rec0 (x0, x1, iAdd .i64 x2 1, x3, x4, x5)))) (rec0 (x0, x1, iAdd .i64 x2 1, x3, x4, x5)))) (some true)
def l0 (k n : Nat) (x0 : List Bool) (x1 : Int) (x2 : Int) (x3 : Int) (x4 : List Bool) (x5 : List Bool) : Option (Bool) := iter (fun (rec : (List Bool × Int × Int × Int × List Bool × List Bool) → Option (Bool)) (x : List Bool × Int × Int × Int × List Bool × List Bool) => s0 k rec x.1 x.2.1 x.2.2.1 x.2.2.2.1 x.2.2.2.2.1 x.2.2.2.2.2) n (x0, x1, x2, x3, x4, x5)
def f (k : Nat) (a0_0 : Int) (a0_1 : List Bool) (a0_2 : List Bool) : Option (Bool) := bnd (impl_within.f k (rLen a0_1) 1 8) fun y0 => brB (bNot y0) (some false) (brB (iNe (rLen a0_2) (rLen a0_1)) (some false) (bnd (impl_within.f k a0_0 0 65535) fun y1 => brB (bNot y1) (some false) (l0 k k a0_2 (rLen a0_2) 0 a0_0 a0_1 a0_2)))
def sig : Sig := ⟨11, [.w true [I, .row .bool, .row .bool]], [(false, [.val .bool])]⟩
def H : Hints := ⟨[(4, ⟨⟨[(1, .ptr 101 0), (26, .w false 1), (27, .w false 1), (28, .w false 1)], [(101, 3)]⟩, [1], [.val (.row .bool), .val I, .val I, .val I, .val (.row .bool), .val (.row .bool)], []⟩)], [], [], []⟩
def spec : Spec := ⟨sig, fun k (x : Int × List Bool × List Bool) => f k x.1 x.2.1 x.2.2⟩
theorem ok : Holds Go.Proofs.Try.prog spec := holds_of_run (G := [impl_within.spec]) (holds_cons impl_within.ok holds_nil) (by kernel_rfl) H Go.Proofs.Try.func11 (by kernel_rfl) (rfl : Go.Proofs.Try.f11.body = some _) (by kernel_rfl) (by kernel_rfl) fun k x y h => Eq.trans (by kernel_rfl : _ = spec.fn k x) h
end impl_VectorsOk

namespace impl_IsId
def f (k : Nat) (a0 : Int) : Option (Bool) := bnd (impl_within.f k a0 0 255) fun y0 => some y0
def sig : Sig := ⟨47, [.w false [I]], [(false, [.val .bool])]⟩
def H : Hints := ⟨[], [], [], []⟩
def spec : Spec := ⟨sig, fun k (x : Int) => f k x⟩
theorem ok : Holds Go.Proofs.Try.prog spec := holds_of_run (G := [impl_within.spec]) (holds_cons impl_within.ok holds_nil) (by kernel_rfl) H Go.Proofs.Try.func47 (by kernel_rfl) (rfl : Go.Proofs.Try.f47.body = some _) (by kernel_rfl) (by kernel_rfl) fun k x y h => Eq.trans (by kernel_rfl : _ = spec.fn k x) h
end impl_IsId

namespace impl_hasVector
def f (k : Nat) (a0_0 : Int) (a0_1 : List Bool) (a0_2 : List Bool) (a1 : Int) (a2 : Int) : Option (Bool) := bnd (impl_VectorsOk.f k a0_0 a0_1 a0_2) fun y0 => brB y0 (bnd (impl_IsId.f k a1) fun y1 => brB y1 (bnd (impl_within.f k a2 0 (iSub .i64 (rLen a0_1) 1)) fun y2 => some y2) (some false)) (some false)
def sig : Sig := ⟨44, [.w true [I, .row .bool, .row .bool], .w false [I], .w false [I]], [(false, [.val .bool])]⟩
def H : Hints := ⟨[], [], [], []⟩
def spec : Spec := ⟨sig, fun k (x : Int × List Bool × List Bool × Int × Int) => f k x.1 x.2.1 x.2.2.1 x.2.2.2.1 x.2.2.2.2⟩
theorem ok : Holds Go.Proofs.Try.prog spec := holds_of_run (G := [impl_within.spec, impl_VectorsOk.spec, impl_IsId.spec]) (holds_cons impl_within.ok (holds_cons impl_VectorsOk.ok (holds_cons impl_IsId.ok holds_nil))) (by kernel_rfl) H Go.Proofs.Try.func44 (by kernel_rfl) (rfl : Go.Proofs.Try.f44.body = some _) (by kernel_rfl) (by kernel_rfl) fun k x y h => Eq.trans (by kernel_rfl : _ = spec.fn k x) h
end impl_hasVector

namespace impl_call
def f (k : Nat) (a0_0 : Int) (a0_1 : List Bool) (a0_2 : List Bool) (a1 : Int) (a2 : Int) : Option (Int × Int × Int × Int × Int × Int × Int × List Int) := some (1, a1, 0, a0_0, 0, 0, 0, [a2])
def sig : Sig := ⟨45, [.w true [I, .row .bool, .row .bool], .w false [I], .w false [I]], [(true, [.val I, .val I, .val I, .val I, .val I, .val I, .val I, .own I])]⟩
def H : Hints := ⟨[], [], [], []⟩
def spec : Spec := ⟨sig, fun k (x : Int × List Bool × List Bool × Int × Int) => f k x.1 x.2.1 x.2.2.1 x.2.2.2.1 x.2.2.2.2⟩
theorem ok : Holds Go.Proofs.Try.prog spec := holds_of_run (G := []) holds_nil (by kernel_rfl) H Go.Proofs.Try.func45 (by kernel_rfl) (rfl : Go.Proofs.Try.f45.body = some _) (by kernel_rfl) (by kernel_rfl) fun k x y h => Eq.trans (by kernel_rfl : _ = spec.fn k x) h
end impl_call

namespace impl_RaiseVector
def f (k : Nat) (a0_0 : Int) (a0_1 : List Bool) (a0_2 : List Bool) (a1 : Int) (a2 : Int) : Option (Int × List Bool × List Bool × Int × Int × Int × Int × Int × Int × Int × List Int × Bool) := bnd (impl_copyVectors.f k a0_0 a0_1 a0_2) fun (y0, y1, y2) => bnd (impl_hasVector.f k a0_0 a0_1 a0_2 a1 a2) fun y3 => brB (bNot y3) (some (y0, y1, y2, 0, 0, 0, 0, 0, 0, 0, [], false)) (chk (cIdx a2 (rLen a0_1)) (brB (rGet false a0_1 a2) (chk (cIdx a2 (rLen y2)) (some (y0, y1, rSet y2 a2 true, 0, 0, 0, 0, 0, 0, 0, [], true))) (bnd (impl_call.f k a0_0 a0_1 a0_2 a1 a2) fun (y4, y5, y6, y7, y8, y9, y10, y11) => some (y0, y1, y2, y4, y5, y6, y7, y8, y9, y10, y11, true))))
def sig : Sig := ⟨23, [.w true [I, .row .bool, .row .bool], .w false [I], .w false [I]], [(true, [.val I, .own .bool, .own .bool]), (true, [.val I, .val I, .val I, .val I, .val I, .val I, .val I, .own I]), (false, [.val .bool])]⟩
def H : Hints := ⟨[], [], [(7, [0, 0, 0, 0, 14, 31, 63, 127])], []⟩
def spec : Spec := ⟨sig, fun k (x : Int × List Bool × List Bool × Int × Int) => f k x.1 x.2.1 x.2.2.1 x.2.2.2.1 x.2.2.2.2⟩
theorem ok : Holds Go.Proofs.Try.prog spec := holds_of_run (G := [impl_copyVectors.spec, impl_hasVector.spec, impl_call.spec]) (holds_cons impl_copyVectors.ok (holds_cons impl_hasVector.ok (holds_cons impl_call.ok holds_nil))) (by kernel_rfl) H Go.Proofs.Try.func23 (by kernel_rfl) (rfl : Go.Proofs.Try.f23.body = some _) (by kernel_rfl) (by kernel_rfl) fun k x y h => Eq.trans (by kernel_rfl : _ = spec.fn k x) h
end impl_RaiseVector

namespace laws_eqBoolS
def s0 (k : Nat) (rec0 : (List Bool × List Bool × Int) → Option (Bool)) (x0 : List Bool) (x1 : List Bool) (x2 : Int) : Option (Bool) := brB (iLt x2 (rLen x0)) (chk (cIdx x2 (rLen x0)) (chk (cIdx x2 (rLen x1)) (brB (bNe (rGet false x0 x2) (rGet false x1 x2)) (some false) (rec0 (x0, x1, iAdd .i64 x2 1))))) (some true)
def l0 (k n : Nat) (x0 : List Bool) (x1 : List Bool) (x2 : Int) : Option (Bool) := iter (fun (rec : (List Bool × List Bool × Int) → Option (Bool)) (x : List Bool × List Bool × Int) => s0 k rec x.1 x.2.1 x.2.2) n (x0, x1, x2)
def f (k : Nat) (a0 : List Bool) (a1 : List Bool) : Option (Bool) := brB (iNe (rLen a0) (rLen a1)) (some false) (l0 k k a0 a1 0)
def sig : Sig := ⟨38, [.w false [.row .bool], .w false [.row .bool]], [(false, [.val .bool])]⟩
def H : Hints := ⟨[(4, ⟨⟨[(0, .w false 1), (1, .w false 1), (5, .w false 1)], []⟩, [], [.val (.row .bool), .val (.row .bool), .val I], []⟩)], [], [(6, [0, 0, 3, 7, 0, 0, 48, 112, 255])], []⟩
def spec : Spec := ⟨sig, fun k (x : List Bool × List Bool) => f k x.1 x.2⟩
theorem ok : Holds Go.Proofs.Try.prog spec := holds_of_run (G := []) holds_nil (by kernel_rfl) H Go.Proofs.Try.func38 (by kernel_rfl) (rfl : Go.Proofs.Try.f38.body = some _) (by kernel_rfl) (by kernel_rfl) fun k x y h => Eq.trans (by kernel_rfl : _ = spec.fn k x) h
end laws_eqBoolS

namespace laws_eqVectors
def f (k : Nat) (a0_0 : Int) (a0_1 : List Bool) (a0_2 : List Bool) (a1_0 : Int) (a1_1 : List Bool) (a1_2 : List Bool) : Option (Bool) := brB (iNe a0_0 a1_0) (some false) (bnd (laws_eqBoolS.f k a0_1 a1_1) fun y0 => brB (bNot y0) (some false) (bnd (laws_eqBoolS.f k a0_2 a1_2) fun y1 => brB (bNot y1) (some false) (some true)))
def sig : Sig := ⟨12, [.w true [I, .row .bool, .row .bool], .w true [I, .row .bool, .row .bool]], [(false, [.val .bool])]⟩
def H : Hints := ⟨[], [], [], []⟩
def spec : Spec := ⟨sig, fun k (x : Int × List Bool × List Bool × Int × List Bool × List Bool) => f k x.1 x.2.1 x.2.2.1 x.2.2.2.1 x.2.2.2.2.1 x.2.2.2.2.2⟩
theorem ok : Holds Go.Proofs.Try.prog spec := holds_of_run (G := [laws_eqBoolS.spec]) (holds_cons laws_eqBoolS.ok holds_nil) (by kernel_rfl) H Go.Proofs.Try.func12 (by kernel_rfl) (rfl : Go.Proofs.Try.f12.body = some _) (by kernel_rfl) (by kernel_rfl) fun k x y h => Eq.trans (by kernel_rfl : _ = spec.fn k x) h
end laws_eqVectors

namespace laws_eqIntS
def s0 (k : Nat) (rec0 : (List Int × List Int × Int) → Option (Bool)) (x0 : List Int) (x1 : List Int) (x2 : Int) : Option (Bool) := brB (iLt x2 (rLen x0)) (chk (cIdx x2 (rLen x0)) (chk (cIdx x2 (rLen x1)) (brB (iNe (rGet 0 x0 x2) (rGet 0 x1 x2)) (some false) (rec0 (x0, x1, iAdd .i64 x2 1))))) (some true)
def l0 (k n : Nat) (x0 : List Int) (x1 : List Int) (x2 : Int) : Option (Bool) := iter (fun (rec : (List Int × List Int × Int) → Option (Bool)) (x : List Int × List Int × Int) => s0 k rec x.1 x.2.1 x.2.2) n (x0, x1, x2)
def f (k : Nat) (a0 : List Int) (a1 : List Int) : Option (Bool) := brB (iNe (rLen a0) (rLen a1)) (some false) (l0 k k a0 a1 0)
def sig : Sig := ⟨15, [.w false [.row I], .w false [.row I]], [(false, [.val .bool])]⟩
def H : Hints := ⟨[(4, ⟨⟨[(0, .w false 1), (1, .w false 1), (5, .w false 1)], []⟩, [], [.val (.row I), .val (.row I), .val I], []⟩)], [], [(6, [0, 0, 3, 7, 0, 0, 48, 112, 255])], []⟩
def spec : Spec := ⟨sig, fun k (x : List Int × List Int) => f k x.1 x.2⟩
theorem ok : Holds Go.Proofs.Try.prog spec := holds_of_run (G := []) holds_nil (by kernel_rfl) H Go.Proofs.Try.func15 (by kernel_rfl) (rfl : Go.Proofs.Try.f15.body = some _) (by kernel_rfl) (by kernel_rfl) fun k x y h => Eq.trans (by kernel_rfl : _ = spec.fn k x) h
end laws_eqIntS

namespace laws_eqPacket
def f (k : Nat) (a0_0 : Int) (a0_1 : Int) (a0_2 : Int) (a0_3 : Int) (a0_4 : Int) (a0_5 : Int) (a0_6 : Int) (a0_7 : List Int) (a1_0 : Int) (a1_1 : Int) (a1_2 : Int) (a1_3 : Int) (a1_4 : Int) (a1_5 : Int) (a1_6 : Int) (a1_7 : List Int) : Option (Bool) := brB (iNe a0_0 a1_0) (some false) (brB (iNe a0_1 a1_1) (some false) (brB (iNe a0_2 a1_2) (some false) (brB (iNe a0_3 a1_3) (some false) (brB (iNe a0_4 a1_4) (some false) (brB (iNe a0_5 a1_5) (some false) (brB (iNe a0_6 a1_6) (some false) (bnd (laws_eqIntS.f k a0_7 a1_7) fun y0 => brB (bNot y0) (some false) (some true))))))))
def sig : Sig := ⟨29, [.w true [I, I, I, I, I, I, I, .row I], .w true [I, I, I, I, I, I, I, .row I]], [(false, [.val .bool])]⟩
def H : Hints := ⟨[], [], [], []⟩
def spec : Spec := ⟨sig, fun k (x : Int × Int × Int × Int × Int × Int × Int × List Int × Int × Int × Int × Int × Int × Int × Int × List Int) => f k x.1 x.2.1 x.2.2.1 x.2.2.2.1 x.2.2.2.2.1 x.2.2.2.2.2.1 x.2.2.2.2.2.2.1 x.2.2.2.2.2.2.2.1 x.2.2.2.2.2.2.2.2.1 x.2.2.2.2.2.2.2.2.2.1 x.2.2.2.2.2.2.2.2.2.2.1 x.2.2.2.2.2.2.2.2.2.2.2.1 x.2.2.2.2.2.2.2.2.2.2.2.2.1 x.2.2.2.2.2.2.2.2.2.2.2.2.2.1 x.2.2.2.2.2.2.2.2.2.2.2.2.2.2.1 x.2.2.2.2.2.2.2.2.2.2.2.2.2.2.2⟩
theorem ok : Holds Go.Proofs.Try.prog spec := holds_of_run (G := [laws_eqIntS.spec]) (holds_cons laws_eqIntS.ok holds_nil) (by kernel_rfl) H Go.Proofs.Try.func29 (by kernel_rfl) (rfl : Go.Proofs.Try.f29.body = some _) (by kernel_rfl) (by kernel_rfl) fun k x y h => Eq.trans (by kernel_rfl : _ = spec.fn k x) h
end laws_eqPacket

namespace laws_markBoolS
def s0 (k : Nat) (rec0 : (List Bool × Int × Int) → Option (Int × List Bool)) (x0 : List Bool) (x1 : Int) (x2 : Int) : Option (Int × List Bool) := brB (iLt x2 (rLen x0)) (chk (cNz 3) (chk (cIdx x2 (rLen x0)) (rec0 (rSet x0 x2 (iEq (iRem x1 3) 0), iAdd .i64 x1 1, iAdd .i64 x2 1)))) (some (x1, x0))
def l0 (k n : Nat) (x0 : List Bool) (x1 : Int) (x2 : Int) : Option (Int × List Bool) := iter (fun (rec : (List Bool × Int × Int) → Option (Int × List Bool)) (x : List Bool × Int × Int) => s0 k rec x.1 x.2.1 x.2.2) n (x0, x1, x2)
def f (k : Nat) (a0 : List Bool) (a1 : Int) : Option (Int × List Bool) := l0 k k a0 a1 0
def sig : Sig := ⟨39, [.mut false [.row .bool], .w false [I]], [(false, [.val I])]⟩
def H : Hints := ⟨[(2, ⟨⟨[(0, .w false 1), (1, .w false 1), (5, .w false 1)], []⟩, [], [.own .bool, .val I, .val I], [0]⟩)], [], [], []⟩
def spec : Spec := ⟨sig, fun k (x : List Bool × Int) => f k x.1 x.2⟩
theorem ok : Holds Go.Proofs.Try.prog spec := holds_of_run (G := []) holds_nil (by kernel_rfl) H Go.Proofs.Try.func39 (by kernel_rfl) (rfl : Go.Proofs.Try.f39.body = some _) (by kernel_rfl) (by kernel_rfl) fun k x y h => Eq.trans (by kernel_rfl : _ = spec.fn k x) h
end laws_markBoolS

namespace laws_markVectors
def f (k : Nat) (a0_0 : Int) (a0_1 : List Bool) (a0_2 : List Bool) (a1 : Int) : Option (Int × List Bool × List Bool) := bnd (laws_markBoolS.f k a0_1 a1) fun (y0, y1) => bnd (laws_markBoolS.f k a0_2 y0) fun (y2, y3) => some (y2, y1, y3)
def sig : Sig := ⟨16, [.mut true [I, .row .bool, .row .bool], .w false [I]], [(false, [.val I])]⟩
def H : Hints := ⟨[], [], [], []⟩
def spec : Spec := ⟨sig, fun k (x : Int × List Bool × List Bool × Int) => f k x.1 x.2.1 x.2.2.1 x.2.2.2⟩
theorem ok : Holds Go.Proofs.Try.prog spec := holds_of_run (G := [laws_markBoolS.spec]) (holds_cons laws_markBoolS.ok holds_nil) (by kernel_rfl) H Go.Proofs.Try.func16 (by kernel_rfl) (rfl : Go.Proofs.Try.f16.body = some _) (by kernel_rfl) (by kernel_rfl) fun k x y h => Eq.trans (by kernel_rfl : _ = spec.fn k x) h
end laws_markVectors

namespace laws_markIntS
def s0 (k : Nat) (rec0 : (List Int × Int × Int) → Option (Int × List Int)) (x0 : List Int) (x1 : Int) (x2 : Int) : Option (Int × List Int) := brB (iLt x2 (rLen x0)) (chk (cIdx x2 (rLen x0)) (rec0 (rSet x0 x2 x1, iAdd .i64 x1 1, iAdd .i64 x2 1))) (some (x1, x0))
def l0 (k n : Nat) (x0 : List Int) (x1 : Int) (x2 : Int) : Option (Int × List Int) := iter (fun (rec : (List Int × Int × Int) → Option (Int × List Int)) (x : List Int × Int × Int) => s0 k rec x.1 x.2.1 x.2.2) n (x0, x1, x2)
def f (k : Nat) (a0 : List Int) (a1 : Int) : Option (Int × List Int) := l0 k k a0 a1 0
def sig : Sig := ⟨17, [.mut false [.row I], .w false [I]], [(false, [.val I])]⟩
def H : Hints := ⟨[(2, ⟨⟨[(0, .w false 1), (1, .w false 1), (5, .w false 1)], []⟩, [], [.own I, .val I, .val I], [0]⟩)], [], [], []⟩
def spec : Spec := ⟨sig, fun k (x : List Int × Int) => f k x.1 x.2⟩
theorem ok : Holds Go.Proofs.Try.prog spec := holds_of_run (G := []) holds_nil (by kernel_rfl) H Go.Proofs.Try.func17 (by kernel_rfl) (rfl : Go.Proofs.Try.f17.body = some _) (by kernel_rfl) (by kernel_rfl) fun k x y h => Eq.trans (by kernel_rfl : _ = spec.fn k x) h
end laws_markIntS

namespace laws_markPacket
def f (k : Nat) (a0_0 : Int) (a0_1 : Int) (a0_2 : Int) (a0_3 : Int) (a0_4 : Int) (a0_5 : Int) (a0_6 : Int) (a0_7 : List Int) (a1 : Int) : Option (Int × List Int) := bnd (laws_markIntS.f k a0_7 a1) fun (y0, y1) => some (y0, y1)
def sig : Sig := ⟨30, [.mut true [I, I, I, I, I, I, I, .row I], .w false [I]], [(false, [.val I])]⟩
def H : Hints := ⟨[], [], [], []⟩
def spec : Spec := ⟨sig, fun k (x : Int × Int × Int × Int × Int × Int × Int × List Int × Int) => f k x.1 x.2.1 x.2.2.1 x.2.2.2.1 x.2.2.2.2.1 x.2.2.2.2.2.1 x.2.2.2.2.2.2.1 x.2.2.2.2.2.2.2.1 x.2.2.2.2.2.2.2.2⟩
theorem ok : Holds Go.Proofs.Try.prog spec := holds_of_run (G := [laws_markIntS.spec]) (holds_cons laws_markIntS.ok holds_nil) (by kernel_rfl) H Go.Proofs.Try.func30 (by kernel_rfl) (rfl : Go.Proofs.Try.f30.body = some _) (by kernel_rfl) (by kernel_rfl) fun k x y h => Eq.trans (by kernel_rfl : _ = spec.fn k x) h
end laws_markPacket

namespace laws_heldBoolS
def s0 (k : Nat) (rec0 : (List Bool × Int × Int) → Option (Int)) (x0 : List Bool) (x1 : Int) (x2 : Int) : Option (Int) := brB (iLt x2 (rLen x0)) (chk (cIdx x2 (rLen x0)) (chk (cNz 3) (brB (bNe (rGet false x0 x2) (iEq (iRem x1 3) 0)) (some (-1)) (rec0 (x0, iAdd .i64 x1 1, iAdd .i64 x2 1))))) (some x1)
def l0 (k n : Nat) (x0 : List Bool) (x1 : Int) (x2 : Int) : Option (Int) := iter (fun (rec : (List Bool × Int × Int) → Option (Int)) (x : List Bool × Int × Int) => s0 k rec x.1 x.2.1 x.2.2) n (x0, x1, x2)
def f (k : Nat) (a0 : List Bool) (a1 : Int) : Option (Int) := l0 k k a0 a1 0
def sig : Sig := ⟨53, [.w false [.row .bool], .w false [I]], [(false, [.val I])]⟩
def H : Hints := ⟨[(2, ⟨⟨[(0, .w false 1), (1, .w false 1), (5, .w false 1)], []⟩, [], [.val (.row .bool), .val I, .val I], []⟩)], [], [], []⟩
def spec : Spec := ⟨sig, fun k (x : List Bool × Int) => f k x.1 x.2⟩
theorem ok : Holds Go.Proofs.Try.prog spec := holds_of_run (G := []) holds_nil (by kernel_rfl) H Go.Proofs.Try.func53 (by kernel_rfl) (rfl : Go.Proofs.Try.f53.body = some _) (by kernel_rfl) (by kernel_rfl) fun k x y h => Eq.trans (by kernel_rfl : _ = spec.fn k x) h
end laws_heldBoolS

namespace laws_heldVectors
def f (k : Nat) (a0_0 : Int) (a0_1 : List Bool) (a0_2 : List Bool) (a1 : Int) : Option (Int) := bnd (laws_heldBoolS.f k a0_1 a1) fun y0 => brB (iLt y0 0) (some (-1)) (bnd (laws_heldBoolS.f k a0_2 y0) fun y1 => brB (iLt y1 0) (some (-1)) (some y1))
def sig : Sig := ⟨31, [.w true [I, .row .bool, .row .bool], .w false [I]], [(false, [.val I])]⟩
def H : Hints := ⟨[], [], [], []⟩
def spec : Spec := ⟨sig, fun k (x : Int × List Bool × List Bool × Int) => f k x.1 x.2.1 x.2.2.1 x.2.2.2⟩
theorem ok : Holds Go.Proofs.Try.prog spec := holds_of_run (G := [laws_heldBoolS.spec]) (holds_cons laws_heldBoolS.ok holds_nil) (by kernel_rfl) H Go.Proofs.Try.func31 (by kernel_rfl) (rfl : Go.Proofs.Try.f31.body = some _) (by kernel_rfl) (by kernel_rfl) fun k x y h => Eq.trans (by kernel_rfl : _ = spec.fn k x) h
end laws_heldVectors

namespace laws_heldIntS
def s0 (k : Nat) (rec0 : (List Int × Int × Int) → Option (Int)) (x0 : List Int) (x1 : Int) (x2 : Int) : Option (Int) := brB (iLt x2 (rLen x0)) (chk (cIdx x2 (rLen x0)) (brB (iNe (rGet 0 x0 x2) x1) (some (-1)) (rec0 (x0, iAdd .i64 x1 1, iAdd .i64 x2 1)))) (some x1)
def l0 (k n : Nat) (x0 : List Int) (x1 : Int) (x2 : Int) : Option (Int) := iter (fun (rec : (List Int × Int × Int) → Option (Int)) (x : List Int × Int × Int) => s0 k rec x.1 x.2.1 x.2.2) n (x0, x1, x2)
def f (k : Nat) (a0 : List Int) (a1 : Int) : Option (Int) := l0 k k a0 a1 0
def sig : Sig := ⟨18, [.w false [.row I], .w false [I]], [(false, [.val I])]⟩
def H : Hints := ⟨[(2, ⟨⟨[(0, .w false 1), (1, .w false 1), (5, .w false 1)], []⟩, [], [.val (.row I), .val I, .val I], []⟩)], [], [], []⟩
def spec : Spec := ⟨sig, fun k (x : List Int × Int) => f k x.1 x.2⟩
theorem ok : Holds Go.Proofs.Try.prog spec := holds_of_run (G := []) holds_nil (by kernel_rfl) H Go.Proofs.Try.func18 (by kernel_rfl) (rfl : Go.Proofs.Try.f18.body = some _) (by kernel_rfl) (by kernel_rfl) fun k x y h => Eq.trans (by kernel_rfl : _ = spec.fn k x) h
end laws_heldIntS

namespace laws_heldPacket
def f (k : Nat) (a0_0 : Int) (a0_1 : Int) (a0_2 : Int) (a0_3 : Int) (a0_4 : Int) (a0_5 : Int) (a0_6 : Int) (a0_7 : List Int) (a1 : Int) : Option (Int) := bnd (laws_heldIntS.f k a0_7 a1) fun y0 => brB (iLt y0 0) (some (-1)) (some y0)
def sig : Sig := ⟨32, [.w true [I, I, I, I, I, I, I, .row I], .w false [I]], [(false, [.val I])]⟩
def H : Hints := ⟨[], [], [], []⟩
def spec : Spec := ⟨sig, fun k (x : Int × Int × Int × Int × Int × Int × Int × List Int × Int) => f k x.1 x.2.1 x.2.2.1 x.2.2.2.1 x.2.2.2.2.1 x.2.2.2.2.2.1 x.2.2.2.2.2.2.1 x.2.2.2.2.2.2.2.1 x.2.2.2.2.2.2.2.2⟩
theorem ok : Holds Go.Proofs.Try.prog spec := holds_of_run (G := [laws_heldIntS.spec]) (holds_cons laws_heldIntS.ok holds_nil) (by kernel_rfl) H Go.Proofs.Try.func32 (by kernel_rfl) (rfl : Go.Proofs.Try.f32.body = some _) (by kernel_rfl) (by kernel_rfl) fun k x y h => Eq.trans (by kernel_rfl : _ = spec.fn k x) h
end laws_heldPacket

namespace laws_FnExactRaiseVector
def f (k : Nat) (a0_0 : Int) (a0_1 : List Bool) (a0_2 : List Bool) (a1 : Int) (a2 : Int) : Option (Bool) := bnd (laws_szVectors.f k a0_0 a0_1 a0_2 1048576) fun y0 => brB (iLt y0 0) (some true) (bnd (laws_toVectors.f k a0_0 a0_1 a0_2) fun (y1, y2, y3) => bnd (spec_RaiseVector.f k y1 y2 y3 a1 a2) fun (y4, y5, y6, y7, y8, y9, y10, y11, y12, y13, y14, y15) => bnd (laws_toVectors.f k a0_0 a0_1 a0_2) fun (y16, y17, y18) => bnd (impl_RaiseVector.f k y16 y17 y18 a1 a2) fun (y19, y20, y21, y22, y23, y24, y25, y26, y27, y28, y29, y30) => bnd (laws_eqVectors.f k y19 y20 y21 y4 y5 y6) fun y31 => brB (bNot y31) (some false) (bnd (laws_eqPacket.f k y22 y23 y24 y25 y26 y27 y28 y29 y7 y8 y9 y10 y11 y12 y13 y14) fun y32 => brB (bNot y32) (some false) (brB (bNe y30 y15) (some false) (bnd (laws_toVectors.f k a0_0 a0_1 a0_2) fun (y33, y34, y35) => bnd (laws_eqVectors.f k y16 y17 y18 y33 y34 y35) fun y36 => brB (bNot y36) (some false) (bnd (laws_markVectors.f k y16 y17 y18 1) fun (y37, y38, y39) => brB (iLt y37 0) (some false) (bnd (laws_eqVectors.f k y19 y20 y21 y4 y5 y6) fun y40 => brB (bNot y40) (some false) (bnd (laws_eqPacket.f k y22 y23 y24 y25 y26 y27 y28 y29 y7 y8 y9 y10 y11 y12 y13 y14) fun y41 => brB (bNot y41) (some false) (brB (bNe y30 y15) (some false) (bnd (laws_markVectors.f k y19 y20 y21 1) fun (y42, y43, y44) => bnd (laws_markPacket.f k y22 y23 y24 y25 y26 y27 y28 y29 y42) fun (y45, y46) => bnd (laws_heldVectors.f k y19 y43 y44 1) fun y47 => brB (iLt y47 0) (some false) (bnd (laws_heldPacket.f k y22 y23 y24 y25 y26 y27 y28 y46 y47) fun y48 => brB (iLt y48 0) (some false) (brB (iNe y48 y45) (some false) (bnd (laws_toVectors.f k a0_0 a0_1 a0_2) fun (y49, y50, y51) => bnd (impl_RaiseVector.f k y49 y50 y51 a1 a2) fun (y52, y53, y54, y55, y56, y57, y58, y59, y60, y61, y62, y63) => bnd (laws_eqVectors.f k y52 y53 y54 y4 y5 y6) fun y64 => brB (bNot y64) (some false) (bnd (laws_eqPacket.f k y55 y56 y57 y58 y59 y60 y61 y62 y7 y8 y9 y10 y11 y12 y13 y14) fun y65 => brB (bNot y65) (some false) (brB (bNe y63 y15) (some false) (bnd (laws_heldVectors.f k y19 y43 y44 1) fun y66 => brB (iLt y66 0) (some false) (bnd (laws_heldPacket.f k y22 y23 y24 y25 y26 y27 y28 y46 y66) fun y67 => brB (iLt y67 0) (some false) (brB (iNe y67 y45) (some false) (some true))))))))))))))))))
def sig : Sig := ⟨6, [.w true [I, .row .bool, .row .bool], .w false [I], .w false [I]], [(false, [.val .bool])]⟩
def H : Hints := ⟨[], [], [(10, [0, 0, 2, 7, 15])], []⟩
def spec : Spec := ⟨sig, fun k (x : Int × List Bool × List Bool × Int × Int) => f k x.1 x.2.1 x.2.2.1 x.2.2.2.1 x.2.2.2.2⟩
theorem ok : Holds Go.Proofs.Try.prog spec := holds_of_run (G := [laws_szVectors.spec, laws_toVectors.spec, spec_RaiseVector.spec, impl_RaiseVector.spec, laws_eqVectors.spec, laws_eqPacket.spec, laws_markVectors.spec, laws_markPacket.spec, laws_heldVectors.spec, laws_heldPacket.spec]) (holds_cons laws_szVectors.ok (holds_cons laws_toVectors.ok (holds_cons spec_RaiseVector.ok (holds_cons impl_RaiseVector.ok (holds_cons laws_eqVectors.ok (holds_cons laws_eqPacket.ok (holds_cons laws_markVectors.ok (holds_cons laws_markPacket.ok (holds_cons laws_heldVectors.ok (holds_cons laws_heldPacket.ok holds_nil)))))))))) (by kernel_rfl) H Go.Proofs.Try.func6 (by kernel_rfl) (rfl : Go.Proofs.Try.f6.body = some _) (by kernel_rfl) (by kernel_rfl) fun k x y h => Eq.trans (by kernel_rfl : _ = spec.fn k x) h
end laws_FnExactRaiseVector

end Go.Proofs.YtmilhndiocggkaaT
