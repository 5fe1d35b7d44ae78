/- The functions of the program, as they compute: printed by a program of the session (wip/gen), each with its contract. -/
import Derived.Test.YtgcpodpgliifgaaProg
import Derived.Test.YtgcpodpgliifgaaTiAI
set_option linter.unusedVariables false
set_option maxRecDepth 100000
namespace Go.Proofs.YtgcpodpgliifgaaT
open Go
abbrev I : Ty := .int .i64
noncomputable section
namespace laws_szIntS
def f (k : Nat) (a0 : List Int) (a1 : Int) : Option (Int) := brB (iLt (iSub .i64 a1 (rLen a0)) 0) (some (-1)) (some (iSub .i64 a1 (rLen a0)))
def sig : Sig := ⟨35, [.w false [.row I], .w false [I]], [(false, [.val I])]⟩
def H : Hints := ⟨[], [], [], [], false⟩
def spec : Spec := { sig := sig, fn := fun k (x : List Int × Int) => f k x.1 x.2 }
theorem ok : Holds Go.Proofs.Try.prog spec := holds_of_run (G := []) holds_nil (by kernel_rfl) H Go.Proofs.Try.func35 (by kernel_rfl) (rfl : Go.Proofs.Try.f35.body = some _) (by kernel_rfl) (by kernel_rfl) fun k x y h => Eq.trans (by kernel_rfl : _ = spec.fn k x) h
end laws_szIntS

namespace laws_szGather
def f (k : Nat) (a0_0 : Int) (a0_1 : Int) (a0_2 : Int) (a0_3 : List Int) (a0_4 : Int) (a1 : Int) : Option (Int) := bnd (laws_szIntS.f k a0_3 a1) fun y0 => brB (iLt y0 0) (some (-1)) (some y0)
def sig : Sig := ⟨8, [.w true [I, I, I, .row I, I], .w false [I]], [(false, [.val I])]⟩
def H : Hints := ⟨[], [], [], [], false⟩
def spec : Spec := { sig := sig, fn := fun k (x : Int × Int × Int × List Int × Int × Int) => f k x.1 x.2.1 x.2.2.1 x.2.2.2.1 x.2.2.2.2.1 x.2.2.2.2.2 }
theorem ok : Holds Go.Proofs.Try.prog spec := holds_of_run (G := [laws_szIntS.spec]) (holds_cons laws_szIntS.ok holds_nil) (by kernel_rfl) H Go.Proofs.Try.func8 (by kernel_rfl) (rfl : Go.Proofs.Try.f8.body = some _) (by kernel_rfl) (by kernel_rfl) fun k x y h => Eq.trans (by kernel_rfl : _ = spec.fn k x) h
end laws_szGather

namespace laws_szPacket
def f (k : Nat) (a0_0 : Int) (a0_1 : Int) (a0_2 : Int) (a0_3 : Int) (a0_4 : Int) (a0_5 : Int) (a0_6 : Int) (a0_7 : List Int) (a1 : Int) : Option (Int) := bnd (laws_szIntS.f k a0_7 a1) fun y0 => brB (iLt y0 0) (some (-1)) (some y0)
def sig : Sig := ⟨22, [.w true [I, I, I, I, I, I, I, .row I], .w false [I]], [(false, [.val I])]⟩
def H : Hints := ⟨[], [], [], [], false⟩
def spec : Spec := { sig := sig, fn := fun k (x : Int × Int × Int × Int × Int × Int × Int × List Int × Int) => f k x.1 x.2.1 x.2.2.1 x.2.2.2.1 x.2.2.2.2.1 x.2.2.2.2.2.1 x.2.2.2.2.2.2.1 x.2.2.2.2.2.2.2.1 x.2.2.2.2.2.2.2.2 }
theorem ok : Holds Go.Proofs.Try.prog spec := holds_of_run (G := [laws_szIntS.spec]) (holds_cons laws_szIntS.ok holds_nil) (by kernel_rfl) H Go.Proofs.Try.func22 (by kernel_rfl) (rfl : Go.Proofs.Try.f22.body = some _) (by kernel_rfl) (by kernel_rfl) fun k x y h => Eq.trans (by kernel_rfl : _ = spec.fn k x) h
end laws_szPacket

namespace laws_szPacketS
def s0 (k : Nat) (rec0 : ((List (Int × Int × Int × Int × Int × Int × Int × List Int)) × Int × Int) → Option (Int)) (x0 : List (Int × Int × Int × Int × Int × Int × Int × List Int)) (x1 : Int) (x2 : Int) : Option (Int) := brB (iLt x2 (rLen x0)) (chk (cIdx x2 (rLen x0)) (bnd (laws_szPacket.f k ((rGet (0, 0, 0, 0, 0, 0, 0, []) x0 x2).1) (((rGet (0, 0, 0, 0, 0, 0, 0, []) x0 x2).2).1) ((((rGet (0, 0, 0, 0, 0, 0, 0, []) x0 x2).2).2).1) (((((rGet (0, 0, 0, 0, 0, 0, 0, []) x0 x2).2).2).2).1) ((((((rGet (0, 0, 0, 0, 0, 0, 0, []) x0 x2).2).2).2).2).1) (((((((rGet (0, 0, 0, 0, 0, 0, 0, []) x0 x2).2).2).2).2).2).1) ((((((((rGet (0, 0, 0, 0, 0, 0, 0, []) x0 x2).2).2).2).2).2).2).1) ((((((((rGet (0, 0, 0, 0, 0, 0, 0, []) x0 x2).2).2).2).2).2).2).2) x1) fun y0 => brB (iLt y0 0) (some (-1)) (rec0 (x0, y0, iAdd .i64 x2 1)))) (some x1)
def l0 (k n : Nat) (x0 : List (Int × Int × Int × Int × Int × Int × Int × List Int)) (x1 : Int) (x2 : Int) : Option (Int) := iter (fun (rec : ((List (Int × Int × Int × Int × Int × Int × Int × List Int)) × Int × Int) → Option (Int)) (x : (List (Int × Int × Int × Int × Int × Int × Int × List Int)) × Int × Int) => s0 k rec x.1 x.2.1 x.2.2) n (x0, x1, x2)
def f (k : Nat) (a0 : List (Int × Int × Int × Int × Int × Int × Int × List Int)) (a1 : Int) : Option (Int) := brB (iLt (iSub .i64 a1 (rLen a0)) 0) (some (-1)) (l0 k k a0 (iSub .i64 a1 (rLen a0)) 0)
def sig : Sig := ⟨30, [.w false [.row (.pair I (.pair I (.pair I (.pair I (.pair I (.pair I (.pair I (.row I))))))))], .w false [I]], [(false, [.val I])]⟩
def H : Hints := ⟨[(5, ⟨⟨[(0, .w false 1), (1, .w false 1), (5, .w false 1)], []⟩, [], [.val (.row (.pair I (.pair I (.pair I (.pair I (.pair I (.pair I (.pair I (.row I))))))))), .val I, .val I], []⟩)], [], [], [], false⟩
def spec : Spec := { sig := sig, fn := fun k (x : List (Int × Int × Int × Int × Int × Int × Int × List Int) × Int) => f k x.1 x.2 }
theorem ok : Holds Go.Proofs.Try.prog spec := holds_of_run (G := [laws_szPacket.spec]) (holds_cons laws_szPacket.ok holds_nil) (by kernel_rfl) H Go.Proofs.Try.func30 (by kernel_rfl) (rfl : Go.Proofs.Try.f30.body = some _) (by kernel_rfl) (by kernel_rfl) fun k x y h => Eq.trans (by kernel_rfl : _ = spec.fn k x) h
end laws_szPacketS

namespace laws_toIntS
def s0 (k : Nat) (rec0 : (List Int × List Int × Int) → Option (List Int)) (x0 : List Int) (x1 : List Int) (x2 : Int) : Option (List Int) := brB (iLt x2 (rLen x0)) (chk (cIdx x2 (rLen x0)) (chk (cIdx x2 (rLen x1)) (rec0 (x0, rSet x1 x2 (rGet 0 x0 x2), iAdd .i64 x2 1)))) (some x1)
def l0 (k n : Nat) (x0 : List Int) (x1 : List Int) (x2 : Int) : Option (List Int) := iter (fun (rec : (List Int × List Int × Int) → Option (List Int)) (x : List Int × List Int × Int) => s0 k rec x.1 x.2.1 x.2.2) n (x0, x1, x2)
def f (k : Nat) (a0 : List Int) : Option (List Int) := chk (cMake (rLen a0) (rLen a0) 8) (l0 k k a0 (rRep 0 (rLen a0)) 0)
def sig : Sig := ⟨39, [.w false [.row I]], [(false, [.own I])]⟩
def H : Hints := ⟨[(3, ⟨⟨[(0, .w false 1), (3, .w false 1), (4, .w false 1)], []⟩, [], [.val (.row I), .own I, .val I], []⟩)], [], [], [], true⟩
def spec : Spec := { sig := sig, fn := fun k (x : List Int) => f k x }
theorem ok : Holds Go.Proofs.Try.prog spec := holds_of_run (G := []) holds_nil (by kernel_rfl) H Go.Proofs.Try.func39 (by kernel_rfl) (rfl : Go.Proofs.Try.f39.body = some _) (by kernel_rfl) (by kernel_rfl) fun k x y h => Eq.trans (by kernel_rfl : _ = spec.fn k x) h
end laws_toIntS

namespace laws_toGather
def f (k : Nat) (a0_0 : Int) (a0_1 : Int) (a0_2 : Int) (a0_3 : List Int) (a0_4 : Int) : Option (Int × Int × Int × List Int × Int) := bnd (laws_toIntS.f k a0_3) fun y0 => some (a0_0, a0_1, a0_2, y0, a0_4)
def sig : Sig := ⟨10, [.w true [I, I, I, .row I, I]], [(true, [.val I, .val I, .val I, .own I, .val I])]⟩
def H : Hints := ⟨[], [], [], [], true⟩
def spec : Spec := { sig := sig, fn := fun k (x : Int × Int × Int × List Int × Int) => f k x.1 x.2.1 x.2.2.1 x.2.2.2.1 x.2.2.2.2 }
theorem ok : Holds Go.Proofs.Try.prog spec := holds_of_run (G := [laws_toIntS.spec]) (holds_cons laws_toIntS.ok holds_nil) (by kernel_rfl) H Go.Proofs.Try.func10 (by kernel_rfl) (rfl : Go.Proofs.Try.f10.body = some _) (by kernel_rfl) (by kernel_rfl) fun k x y h => Eq.trans (by kernel_rfl : _ = spec.fn k x) h
end laws_toGather

namespace laws_toPacket
def f (k : Nat) (a0_0 : Int) (a0_1 : Int) (a0_2 : Int) (a0_3 : Int) (a0_4 : Int) (a0_5 : Int) (a0_6 : Int) (a0_7 : List Int) : Option (Int × Int × Int × Int × Int × Int × Int × List Int) := bnd (laws_toIntS.f k a0_7) fun y0 => some (a0_0, a0_1, a0_2, a0_3, a0_4, a0_5, a0_6, y0)
def sig : Sig := ⟨24, [.w true [I, I, I, I, I, I, I, .row I]], [(true, [.val I, .val I, .val I, .val I, .val I, .val I, .val I, .own I])]⟩
def H : Hints := ⟨[], [], [], [], true⟩
def spec : Spec := { sig := sig, fn := fun k (x : Int × Int × Int × Int × Int × Int × Int × List Int) => f k x.1 x.2.1 x.2.2.1 x.2.2.2.1 x.2.2.2.2.1 x.2.2.2.2.2.1 x.2.2.2.2.2.2.1 x.2.2.2.2.2.2.2 }
theorem ok : Holds Go.Proofs.Try.prog spec := holds_of_run (G := [laws_toIntS.spec]) (holds_cons laws_toIntS.ok holds_nil) (by kernel_rfl) H Go.Proofs.Try.func24 (by kernel_rfl) (rfl : Go.Proofs.Try.f24.body = some _) (by kernel_rfl) (by kernel_rfl) fun k x y h => Eq.trans (by kernel_rfl : _ = spec.fn k x) h
end laws_toPacket

namespace laws_toPacketS
def s0 (k : Nat) (rec0 : ((List (Int × Int × Int × Int × Int × Int × Int × List Int)) × (List (Int × Int × Int × Int × Int × Int × Int × List Int)) × Int) → Option (List (Int × Int × Int × Int × Int × Int × Int × List Int))) (x0 : List (Int × Int × Int × Int × Int × Int × Int × List Int)) (x1 : List (Int × Int × Int × Int × Int × Int × Int × List Int)) (x2 : Int) : Option (List (Int × Int × Int × Int × Int × Int × Int × List Int)) := brB (iLt x2 (rLen x0)) (chk (cIdx x2 (rLen x0)) (bnd (laws_toPacket.f k ((rGet (0, 0, 0, 0, 0, 0, 0, []) x0 x2).1) (((rGet (0, 0, 0, 0, 0, 0, 0, []) x0 x2).2).1) ((((rGet (0, 0, 0, 0, 0, 0, 0, []) x0 x2).2).2).1) (((((rGet (0, 0, 0, 0, 0, 0, 0, []) x0 x2).2).2).2).1) ((((((rGet (0, 0, 0, 0, 0, 0, 0, []) x0 x2).2).2).2).2).1) (((((((rGet (0, 0, 0, 0, 0, 0, 0, []) x0 x2).2).2).2).2).2).1) ((((((((rGet (0, 0, 0, 0, 0, 0, 0, []) x0 x2).2).2).2).2).2).2).1) ((((((((rGet (0, 0, 0, 0, 0, 0, 0, []) x0 x2).2).2).2).2).2).2).2)) fun p => (fun y0 y1 y2 y3 y4 y5 y6 y7 => chk (cIdx x2 (rLen x1)) (nam (rSet x1 x2 (y0, y1, y2, y3, y4, y5, y6, y7)) fun y8 => rec0 (x0, y8, iAdd .i64 x2 1))) p.1 p.2.1 p.2.2.1 p.2.2.2.1 p.2.2.2.2.1 p.2.2.2.2.2.1 p.2.2.2.2.2.2.1 p.2.2.2.2.2.2.2)) (some x1)
def l0 (k n : Nat) (x0 : List (Int × Int × Int × Int × Int × Int × Int × List Int)) (x1 : List (Int × Int × Int × Int × Int × Int × Int × List Int)) (x2 : Int) : Option (List (Int × Int × Int × Int × Int × Int × Int × List Int)) := iter (fun (rec : ((List (Int × Int × Int × Int × Int × Int × Int × List Int)) × (List (Int × Int × Int × Int × Int × Int × Int × List Int)) × Int) → Option (List (Int × Int × Int × Int × Int × Int × Int × List Int))) (x : (List (Int × Int × Int × Int × Int × Int × Int × List Int)) × (List (Int × Int × Int × Int × Int × Int × Int × List Int)) × Int) => s0 k rec x.1 x.2.1 x.2.2) n (x0, x1, x2)
def f (k : Nat) (a0 : List (Int × Int × Int × Int × Int × Int × Int × List Int)) : Option (List (Int × Int × Int × Int × Int × Int × Int × List Int)) := chk (cMake (rLen a0) (rLen a0) 80) (l0 k k a0 (rRep (0, 0, 0, 0, 0, 0, 0, []) (rLen a0)) 0)
def sig : Sig := ⟨32, [.w false [.row (.pair I (.pair I (.pair I (.pair I (.pair I (.pair I (.pair I (.row I))))))))]], [(false, [.own (.deep none (.pair I (.pair I (.pair I (.pair I (.pair I (.pair I (.pair I (.row I)))))))))])]⟩
def H : Hints := ⟨[(3, ⟨⟨[(0, .w false 1), (3, .w false 1), (4, .w false 1)], []⟩, [], [.val (.row (.pair I (.pair I (.pair I (.pair I (.pair I (.pair I (.pair I (.row I))))))))), .own (.deep none (.pair I (.pair I (.pair I (.pair I (.pair I (.pair I (.pair I (.row I))))))))), .val I], []⟩)], [], [], [], true⟩
def spec : Spec := { sig := sig, fn := fun k (x : List (Int × Int × Int × Int × Int × Int × Int × List Int)) => f k x }
theorem ok : Holds Go.Proofs.Try.prog spec := holds_of_run (G := [laws_toPacket.spec]) (holds_cons laws_toPacket.ok holds_nil) (by kernel_rfl) H Go.Proofs.Try.func32 (by kernel_rfl) (rfl : Go.Proofs.Try.f32.body = some _) (by kernel_rfl) (by kernel_rfl) fun k x y h => Eq.trans (by kernel_rfl : _ = spec.fn k x) h
end laws_toPacketS

namespace spec_l27Copy
def f (k : Nat) (a0_0 : Int) (a0_1 : Int) (a0_2 : Int) (a0_3 : List Int) (a0_4 : Int) : Option (Int × Int × Int × List Int × Int) := chk (cLen (rLen (rApp [] a0_3)) 8) (some (a0_0, a0_1, a0_2, rApp [] a0_3, a0_4))
def sig : Sig := ⟨58, [.w true [I, I, I, .row I, I]], [(true, [.val I, .val I, .val I, .own I, .val I])]⟩
def H : Hints := ⟨[], [], [], [], false⟩
def spec : Spec := { sig := sig, fn := fun k (x : Int × Int × Int × List Int × Int) => f k x.1 x.2.1 x.2.2.1 x.2.2.2.1 x.2.2.2.2 }
theorem ok : Holds Go.Proofs.Try.prog spec := holds_of_run (G := []) holds_nil (by kernel_rfl) H Go.Proofs.Try.func58 (by kernel_rfl) (rfl : Go.Proofs.Try.f58.body = some _) (by kernel_rfl) (by kernel_rfl) fun k x y h => Eq.trans (by kernel_rfl : _ = spec.fn k x) h
end spec_l27Copy

namespace spec_l01In
def f (k : Nat) (a0 : Int) (a1 : Int) (a2 : Int) : Option (Bool) := brB (iLe a1 a0) (some (iLe a0 a2)) (some false)
def sig : Sig := ⟨37, [.w false [I], .w false [I], .w false [I]], [(false, [.val .bool])]⟩
def H : Hints := ⟨[], [], [], [], false⟩
def spec : Spec := { sig := sig, fn := fun k (x : Int × Int × Int) => f k x.1 x.2.1 x.2.2 }
theorem ok : Holds Go.Proofs.Try.prog spec := holds_of_run (G := []) holds_nil (by kernel_rfl) H Go.Proofs.Try.func37 (by kernel_rfl) (rfl : Go.Proofs.Try.f37.body = some _) (by kernel_rfl) (by kernel_rfl) fun k x y h => Eq.trans (by kernel_rfl : _ = spec.fn k x) h
end spec_l01In

namespace spec_IsId
def f (k : Nat) (a0 : Int) : Option (Bool) := bnd (spec_l01In.f k a0 0 255) fun y0 => some y0
def sig : Sig := ⟨36, [.w false [I]], [(false, [.val .bool])]⟩
def H : Hints := ⟨[], [], [], [], false⟩
def spec : Spec := { sig := sig, fn := fun k (x : Int) => f k x }
theorem ok : Holds Go.Proofs.Try.prog spec := holds_of_run (G := [spec_l01In.spec]) (holds_cons spec_l01In.ok holds_nil) (by kernel_rfl) H Go.Proofs.Try.func36 (by kernel_rfl) (rfl : Go.Proofs.Try.f36.body = some _) (by kernel_rfl) (by kernel_rfl) fun k x y h => Eq.trans (by kernel_rfl : _ = spec.fn k x) h
end spec_IsId

namespace spec_l04Words
def s0 (k : Nat) (rec0 : (List Int × Int) → Option (Bool)) (x0 : List Int) (x1 : Int) : Option (Bool) := brB (iLt x1 (rLen x0)) (chk (cIdx x1 (rLen x0)) (bnd (spec_l01In.f k (rGet 0 x0 x1) 0 65535) fun y0 => brB (bNot y0) (some false) (rec0 (x0, iAdd .i64 x1 1)))) (some true)
def l0 (k n : Nat) (x0 : List Int) (x1 : Int) : Option (Bool) := iter (fun (rec : (List Int × Int) → Option (Bool)) (x : List Int × Int) => s0 k rec x.1 x.2) n (x0, x1)
def f (k : Nat) (a0 : List Int) : Option (Bool) := l0 k k a0 0
def sig : Sig := ⟨38, [.w false [.row I]], [(false, [.val .bool])]⟩
def H : Hints := ⟨[(2, ⟨⟨[(0, .w false 1), (3, .w false 1)], []⟩, [], [.val (.row I), .val I], []⟩)], [], [], [], false⟩
def spec : Spec := { sig := sig, fn := fun k (x : List Int) => f k x }
theorem ok : Holds Go.Proofs.Try.prog spec := holds_of_run (G := [spec_l01In.spec]) (holds_cons spec_l01In.ok holds_nil) (by kernel_rfl) H Go.Proofs.Try.func38 (by kernel_rfl) (rfl : Go.Proofs.Try.f38.body = some _) (by kernel_rfl) (by kernel_rfl) fun k x y h => Eq.trans (by kernel_rfl : _ = spec.fn k x) h
end spec_l04Words

namespace spec_GatherOk
def f (k : Nat) (a0_0 : Int) (a0_1 : Int) (a0_2 : Int) (a0_3 : List Int) (a0_4 : Int) : Option (Bool) := bnd (spec_IsId.f k a0_0) fun y0 => brB y0 (bnd (spec_l01In.f k a0_1 0 7) fun y1 => brB y1 (bnd (spec_l01In.f k a0_2 0 64) fun y2 => brB y2 (brB (iLe (rLen a0_3) a0_2) (bnd (spec_l04Words.f k a0_3) fun y3 => brB y3 (bnd (spec_l01In.f k a0_4 0 2) fun y4 => brB y4 (brB (iNe a0_4 1) (some true) (some (iEq (rLen a0_3) a0_2))) (some false)) (some false)) (some false)) (some false)) (some false)) (some false)
def sig : Sig := ⟨9, [.w true [I, I, I, .row I, I]], [(false, [.val .bool])]⟩
def H : Hints := ⟨[], [], [], [], false⟩
def spec : Spec := { sig := sig, fn := fun k (x : Int × Int × Int × List Int × Int) => f k x.1 x.2.1 x.2.2.1 x.2.2.2.1 x.2.2.2.2 }
theorem ok : Holds Go.Proofs.Try.prog spec := holds_of_run (G := [spec_l01In.spec, spec_IsId.spec, spec_l04Words.spec]) (holds_cons spec_l01In.ok (holds_cons spec_IsId.ok (holds_cons spec_l04Words.ok holds_nil))) (by kernel_rfl) H Go.Proofs.Try.func9 (by kernel_rfl) (rfl : Go.Proofs.Try.f9.body = some _) (by kernel_rfl) (by kernel_rfl) fun k x y h => Eq.trans (by kernel_rfl : _ = spec.fn k x) h
end spec_GatherOk

namespace spec_l04Zero
def f (k : Nat) (a0_0 : Int) (a0_1 : Int) (a0_2 : Int) (a0_3 : Int) (a0_4 : Int) (a0_5 : Int) (a0_6 : Int) (a0_7 : List Int) (a1 : Bool) (a2 : Bool) (a3 : Bool) : Option (Bool) := brB a1 (brB a2 (brB a3 (some true) (some (iEq a0_5 0))) (brB (iEq a0_4 0) (brB a3 (some true) (some (iEq a0_5 0))) (some false))) (brB (iEq a0_2 0) (brB a2 (brB a3 (some true) (some (iEq a0_5 0))) (brB (iEq a0_4 0) (brB a3 (some true) (some (iEq a0_5 0))) (some false))) (some false))
def sig : Sig := ⟨69, [.w true [I, I, I, I, I, I, I, .row I], .w false [.bool], .w false [.bool], .w false [.bool]], [(false, [.val .bool])]⟩
def H : Hints := ⟨[], [], [], [], false⟩
def spec : Spec := { sig := sig, fn := fun k (x : Int × Int × Int × Int × Int × Int × Int × List Int × Bool × Bool × Bool) => f k x.1 x.2.1 x.2.2.1 x.2.2.2.1 x.2.2.2.2.1 x.2.2.2.2.2.1 x.2.2.2.2.2.2.1 x.2.2.2.2.2.2.2.1 x.2.2.2.2.2.2.2.2.1 x.2.2.2.2.2.2.2.2.2.1 x.2.2.2.2.2.2.2.2.2.2 }
theorem ok : Holds Go.Proofs.Try.prog spec := holds_of_run (G := []) holds_nil (by kernel_rfl) H Go.Proofs.Try.func69 (by kernel_rfl) (rfl : Go.Proofs.Try.f69.body = some _) (by kernel_rfl) (by kernel_rfl) fun k x y h => Eq.trans (by kernel_rfl : _ = spec.fn k x) h
end spec_l04Zero

namespace spec_IsPacket
def f (k : Nat) (a0_0 : Int) (a0_1 : Int) (a0_2 : Int) (a0_3 : Int) (a0_4 : Int) (a0_5 : Int) (a0_6 : Int) (a0_7 : List Int) : Option (Bool) := bnd (spec_IsId.f k a0_1) fun y0 => brB (bNot y0) (some false) (bnd (spec_l04Words.f k a0_7) fun y1 => brB (bNot y1) (some false) (brB (iEq a0_0 1) (bnd (spec_l01In.f k (rLen a0_7) 1 8) fun y2 => brB y2 (bnd (spec_l01In.f k a0_3 0 (iSub .i64 65536 (rLen a0_7))) fun y3 => brB y3 (brB (iEq a0_6 0) (bnd (spec_l04Zero.f k a0_0 a0_1 a0_2 a0_3 a0_4 a0_5 a0_6 a0_7 false false false) fun y4 => some y4) (some false)) (some false)) (some false)) (brB (iEq a0_0 2) (bnd (spec_l01In.f k (rLen a0_7) 1 8) fun y5 => brB y5 (brB (iEq a0_3 0) (brB (iEq a0_6 0) (bnd (spec_l04Zero.f k a0_0 a0_1 a0_2 a0_3 a0_4 a0_5 a0_6 a0_7 false false false) fun y6 => some y6) (some false)) (some false)) (some false)) (brB (iEq a0_0 3) (brB (iEq (rLen a0_7) 0) (bnd (spec_l01In.f k a0_4 1 64) fun y7 => brB y7 (bnd (spec_l01In.f k a0_3 0 (iSub .i64 65536 a0_4)) fun y8 => brB y8 (bnd (spec_l01In.f k a0_5 0 7) fun y9 => brB y9 (brB (iEq a0_6 0) (bnd (spec_l04Zero.f k a0_0 a0_1 a0_2 a0_3 a0_4 a0_5 a0_6 a0_7 false true true) fun y10 => some y10) (some false)) (some false)) (some false)) (some false)) (some false)) (brB (iEq a0_0 4) (brB (iEq (rLen a0_7) 0) (bnd (spec_l01In.f k a0_3 0 63) fun y11 => brB y11 (bnd (spec_IsId.f k a0_2) fun y12 => brB y12 (bnd (spec_l01In.f k a0_5 0 7) fun y13 => brB y13 (brB (iEq a0_6 0) (bnd (spec_l04Zero.f k a0_0 a0_1 a0_2 a0_3 a0_4 a0_5 a0_6 a0_7 true false true) fun y14 => some y14) (some false)) (some false)) (some false)) (some false)) (some false)) (brB (iEq a0_0 5) (brB (iEq (rLen a0_7) 1) (bnd (spec_l01In.f k a0_3 0 63) fun y15 => brB y15 (bnd (spec_IsId.f k a0_2) fun y16 => brB y16 (bnd (spec_l01In.f k a0_5 0 7) fun y17 => brB y17 (brB (iEq a0_6 0) (bnd (spec_l04Zero.f k a0_0 a0_1 a0_2 a0_3 a0_4 a0_5 a0_6 a0_7 true false true) fun y18 => some y18) (some false)) (some false)) (some false)) (some false)) (some false)) (brB (iEq a0_0 6) (brB (iNe a0_3 0) (some false) (bnd (spec_IsId.f k a0_2) fun y19 => brB (bNot y19) (some false) (bnd (spec_l01In.f k a0_5 0 7) fun y20 => brB (bNot y20) (some false) (bnd (spec_l01In.f k a0_6 0 2) fun y21 => brB (bNot y21) (some false) (bnd (spec_l01In.f k a0_4 0 64) fun y22 => brB (bNot y22) (some false) (brB (iEq (rLen a0_7) 0) (some true) (brB (iEq a0_6 0) (some (iLe (rLen a0_7) (iMin 8 a0_4))) (some false)))))))) (some false))))))))
def sig : Sig := ⟨59, [.w true [I, I, I, I, I, I, I, .row I]], [(false, [.val .bool])]⟩
def H : Hints := ⟨[], [], [], [], false⟩
def spec : Spec := { sig := sig, fn := fun k (x : Int × Int × Int × Int × Int × Int × Int × List Int) => f k x.1 x.2.1 x.2.2.1 x.2.2.2.1 x.2.2.2.2.1 x.2.2.2.2.2.1 x.2.2.2.2.2.2.1 x.2.2.2.2.2.2.2 }
theorem ok : Holds Go.Proofs.Try.prog spec := holds_of_run (G := [spec_l01In.spec, spec_IsId.spec, spec_l04Words.spec, spec_l04Zero.spec]) (holds_cons spec_l01In.ok (holds_cons spec_IsId.ok (holds_cons spec_l04Words.ok (holds_cons spec_l04Zero.ok holds_nil)))) (by kernel_rfl) H Go.Proofs.Try.func59 (by kernel_rfl) (rfl : Go.Proofs.Try.f59.body = some _) (by kernel_rfl) (by kernel_rfl) fun k x y h => Eq.trans (by kernel_rfl : _ = spec.fn k x) h
end spec_IsPacket

namespace spec_TakeAnswer
def f (k : Nat) (a0_0 : Int) (a0_1 : Int) (a0_2 : Int) (a0_3 : List Int) (a0_4 : Int) (a1_0 : Int) (a1_1 : Int) (a1_2 : Int) (a1_3 : Int) (a1_4 : Int) (a1_5 : Int) (a1_6 : Int) (a1_7 : List Int) : Option (Int × Int × Int × List Int × Int × Bool) := bnd (spec_l27Copy.f k a0_0 a0_1 a0_2 a0_3 a0_4) fun p => (fun y0 y1 y2 y3 y4 => bnd (spec_GatherOk.f k a0_0 a0_1 a0_2 a0_3 a0_4) fun y5 => brB (bNot y5) (some (y0, y1, y2, y3, y4, false)) (bnd (spec_IsPacket.f k a1_0 a1_1 a1_2 a1_3 a1_4 a1_5 a1_6 a1_7) fun y6 => brB (bNot y6) (some (y0, y1, y2, y3, y4, false)) (brB (iNe a0_4 0) (some (y0, y1, y2, y3, y4, false)) (brB (iNe a1_0 6) (some (y0, y1, y2, y3, y4, false)) (brB (iNe a1_2 a0_0) (some (y0, y1, y2, y3, y4, false)) (brB (iNe a1_5 a0_1) (some (y0, y1, y2, y3, y4, false)) (brB (iNe a1_6 0) (some (y0, y1, y2, y3, 2, true)) (brB (iNe a1_4 (iSub .i64 a0_2 (rLen a0_3))) (some (y0, y1, y2, y3, y4, false)) (chk (cLen (rLen (rApp y3 a1_7)) 8) (brB (iEq (rLen (rApp y3 a1_7)) a0_2) (some (y0, y1, y2, rApp y3 a1_7, 1, true)) (some (y0, y1, y2, rApp y3 a1_7, y4, true)))))))))))) p.1 p.2.1 p.2.2.1 p.2.2.2.1 p.2.2.2.2
def sig : Sig := ⟨29, [.w true [I, I, I, .row I, I], .w true [I, I, I, I, I, I, I, .row I]], [(true, [.val I, .val I, .val I, .own I, .val I]), (false, [.val .bool])]⟩
def H : Hints := ⟨[], [], [], [], false⟩
def spec : Spec := { sig := sig, fn := fun k (x : Int × Int × Int × List Int × Int × Int × Int × Int × Int × Int × Int × Int × List Int) => f k x.1 x.2.1 x.2.2.1 x.2.2.2.1 x.2.2.2.2.1 x.2.2.2.2.2.1 x.2.2.2.2.2.2.1 x.2.2.2.2.2.2.2.1 x.2.2.2.2.2.2.2.2.1 x.2.2.2.2.2.2.2.2.2.1 x.2.2.2.2.2.2.2.2.2.2.1 x.2.2.2.2.2.2.2.2.2.2.2.1 x.2.2.2.2.2.2.2.2.2.2.2.2 }
theorem ok : Holds Go.Proofs.Try.prog spec := holds_of_run (G := [spec_l27Copy.spec, spec_GatherOk.spec, spec_IsPacket.spec]) (holds_cons spec_l27Copy.ok (holds_cons spec_GatherOk.ok (holds_cons spec_IsPacket.ok holds_nil))) (by kernel_rfl) H Go.Proofs.Try.func29 (by kernel_rfl) (rfl : Go.Proofs.Try.f29.body = some _) (by kernel_rfl) (by kernel_rfl) fun k x y h => Eq.trans (by kernel_rfl : _ = spec.fn k x) h
end spec_TakeAnswer

namespace spec_GatherAll
def s0 (k : Nat) (rec0 : ((List (Int × Int × Int × Int × Int × Int × Int × List Int)) × Int × Int × Int × Int × List Int × Int × Int × Int × Int × List Int × Int) → Option (Int × Int × Int × List Int × Int)) (x0 : List (Int × Int × Int × Int × Int × Int × Int × List Int)) (x1 : Int) (x2 : Int) (x3 : Int) (x4 : Int) (x5 : List Int) (x6 : Int) (x7 : Int) (x8 : Int) (x9 : Int) (x10 : List Int) (x11 : Int) : Option (Int × Int × Int × List Int × Int) := brB (iLt x1 (rLen x0)) (chk (cIdx x1 (rLen x0)) (bnd (spec_TakeAnswer.f k x7 x8 x9 x10 x11 ((rGet (0, 0, 0, 0, 0, 0, 0, []) x0 x1).1) (((rGet (0, 0, 0, 0, 0, 0, 0, []) x0 x1).2).1) ((((rGet (0, 0, 0, 0, 0, 0, 0, []) x0 x1).2).2).1) (((((rGet (0, 0, 0, 0, 0, 0, 0, []) x0 x1).2).2).2).1) ((((((rGet (0, 0, 0, 0, 0, 0, 0, []) x0 x1).2).2).2).2).1) (((((((rGet (0, 0, 0, 0, 0, 0, 0, []) x0 x1).2).2).2).2).2).1) ((((((((rGet (0, 0, 0, 0, 0, 0, 0, []) x0 x1).2).2).2).2).2).2).1) ((((((((rGet (0, 0, 0, 0, 0, 0, 0, []) x0 x1).2).2).2).2).2).2).2)) fun p => (fun y5 y6 y7 y8 y9 y10 => rec0 (x0, iAdd .i64 x1 1, x2, x3, x4, x5, x6, y5, y6, y7, y8, y9)) p.1 p.2.1 p.2.2.1 p.2.2.2.1 p.2.2.2.2.1 p.2.2.2.2.2)) (some (x7, x8, x9, x10, x11))
def l0 (k n : Nat) (x0 : List (Int × Int × Int × Int × Int × Int × Int × List Int)) (x1 : Int) (x2 : Int) (x3 : Int) (x4 : Int) (x5 : List Int) (x6 : Int) (x7 : Int) (x8 : Int) (x9 : Int) (x10 : List Int) (x11 : Int) : Option (Int × Int × Int × List Int × Int) := iter (fun (rec : ((List (Int × Int × Int × Int × Int × Int × Int × List Int)) × Int × Int × Int × Int × List Int × Int × Int × Int × Int × List Int × Int) → Option (Int × Int × Int × List Int × Int)) (x : (List (Int × Int × Int × Int × Int × Int × Int × List Int)) × Int × Int × Int × Int × List Int × Int × Int × Int × Int × List Int × Int) => s0 k rec x.1 x.2.1 x.2.2.1 x.2.2.2.1 x.2.2.2.2.1 x.2.2.2.2.2.1 x.2.2.2.2.2.2.1 x.2.2.2.2.2.2.2.1 x.2.2.2.2.2.2.2.2.1 x.2.2.2.2.2.2.2.2.2.1 x.2.2.2.2.2.2.2.2.2.2.1 x.2.2.2.2.2.2.2.2.2.2.2) n (x0, x1, x2, x3, x4, x5, x6, x7, x8, x9, x10, x11)
def f (k : Nat) (a0_0 : Int) (a0_1 : Int) (a0_2 : Int) (a0_3 : List Int) (a0_4 : Int) (a1 : List (Int × Int × Int × Int × Int × Int × Int × List Int)) : Option (Int × Int × Int × List Int × Int) := bnd (spec_l27Copy.f k a0_0 a0_1 a0_2 a0_3 a0_4) fun p => (fun y0 y1 y2 y3 y4 => l0 k k a1 0 0 0 0 [] 0 y0 y1 y2 y3 y4) p.1 p.2.1 p.2.2.1 p.2.2.2.1 p.2.2.2.2
def sig : Sig := ⟨31, [.w true [I, I, I, .row I, I], .w false [.row (.pair I (.pair I (.pair I (.pair I (.pair I (.pair I (.pair I (.row I))))))))]], [(true, [.val I, .val I, .val I, .own I, .val I])]⟩
def H : Hints := ⟨[(3, ⟨⟨[(1, .w false 1), (4, .ptr 104 0), (5, .ptr 105 0), (6, .w false 1)], [(104, 5), (105, 5)]⟩, [4, 5], [.val (.row (.pair I (.pair I (.pair I (.pair I (.pair I (.pair I (.pair I (.row I))))))))), .val I, .val I, .val I, .val I, .own I, .val I, .val I, .val I, .val I, .own I, .val I], []⟩)], [], [(5, [0, 0, 0, 6, 14, 31, 63, 127, 127, 255])], [], false⟩
def spec : Spec := { sig := sig, fn := fun k (x : Int × Int × Int × List Int × Int × List (Int × Int × Int × Int × Int × Int × Int × List Int)) => f k x.1 x.2.1 x.2.2.1 x.2.2.2.1 x.2.2.2.2.1 x.2.2.2.2.2 }
theorem ok : Holds Go.Proofs.Try.prog spec := holds_of_run (G := [spec_l27Copy.spec, spec_TakeAnswer.spec]) (holds_cons spec_l27Copy.ok (holds_cons spec_TakeAnswer.ok holds_nil)) (by kernel_rfl) H Go.Proofs.Try.func31 (by kernel_rfl) (rfl : Go.Proofs.Try.f31.body = some _) (by kernel_rfl) (by kernel_rfl) fun k x y h => Eq.trans (by kernel_rfl : _ = spec.fn k x) h
end spec_GatherAll

namespace slices_Clone_int
def f (k : Nat) (a0 : List Int) : Option (List Int) := chk (cLen (rLen a0) 8) (some a0)
def sig : Sig := cloneSig 51 I
def spec : Spec := { sig := sig, fn := fun k (x : List Int) => f k x }
theorem ok : Holds Go.Proofs.Try.prog spec := clone_holds (u := I) (t := 22) (by kernel_rfl) Go.Proofs.Try.func51 (by kernel_rfl) (rfl : Go.Proofs.Try.f51.body = some _) (by kernel_rfl) (by kernel_rfl) Go.Proofs.Try.underlying22 ⟨rfl, rfl, rfl⟩ ⟨rfl, rfl, rfl⟩ ⟨rfl, rfl, _, rfl⟩ (fun l => cLen (rLen l) 8) (fun k => by kernel_rfl) (fun k l => by kernel_rfl)
end slices_Clone_int

namespace impl_copyGather
def f (k : Nat) (a0_0 : Int) (a0_1 : Int) (a0_2 : Int) (a0_3 : List Int) (a0_4 : Int) : Option (Int × Int × Int × List Int × Int) := bnd (slices_Clone_int.f k a0_3) fun y0 => some (a0_0, a0_1, a0_2, y0, a0_4)
def sig : Sig := ⟨54, [.w true [I, I, I, .row I, I]], [(true, [.val I, .val I, .val I, .own I, .val I])]⟩
def H : Hints := ⟨[], [], [], [], true⟩
def spec : Spec := { sig := sig, fn := fun k (x : Int × Int × Int × List Int × Int) => f k x.1 x.2.1 x.2.2.1 x.2.2.2.1 x.2.2.2.2 }
theorem ok : Holds Go.Proofs.Try.prog spec := holds_of_run (G := [slices_Clone_int.spec]) (holds_cons slices_Clone_int.ok holds_nil) (by kernel_rfl) H Go.Proofs.Try.func54 (by kernel_rfl) (rfl : Go.Proofs.Try.f54.body = some _) (by kernel_rfl) (by kernel_rfl) fun k x y h => Eq.trans (by kernel_rfl : _ = spec.fn k x) h
end impl_copyGather

namespace impl_within
def f (k : Nat) (a0 : Int) (a1 : Int) (a2 : Int) : Option (Bool) := brB (iLe a1 a0) (some (iLe a0 a2)) (some false)
def sig : Sig := ⟨41, [.w false [I], .w false [I], .w false [I]], [(false, [.val .bool])]⟩
def H : Hints := ⟨[], [], [], [], false⟩
def spec : Spec := { sig := sig, fn := fun k (x : Int × Int × Int) => f k x.1 x.2.1 x.2.2 }
theorem ok : Holds Go.Proofs.Try.prog spec := holds_of_run (G := []) holds_nil (by kernel_rfl) H Go.Proofs.Try.func41 (by kernel_rfl) (rfl : Go.Proofs.Try.f41.body = some _) (by kernel_rfl) (by kernel_rfl) fun k x y h => Eq.trans (by kernel_rfl : _ = spec.fn k x) h
end impl_within

namespace impl_IsId
def f (k : Nat) (a0 : Int) : Option (Bool) := bnd (impl_within.f k a0 0 255) fun y0 => some y0
def sig : Sig := ⟨40, [.w false [I]], [(false, [.val .bool])]⟩
def H : Hints := ⟨[], [], [], [], false⟩
def spec : Spec := { sig := sig, fn := fun k (x : Int) => f k x }
theorem ok : Holds Go.Proofs.Try.prog spec := holds_of_run (G := [impl_within.spec]) (holds_cons impl_within.ok holds_nil) (by kernel_rfl) H Go.Proofs.Try.func40 (by kernel_rfl) (rfl : Go.Proofs.Try.f40.body = some _) (by kernel_rfl) (by kernel_rfl) fun k x y h => Eq.trans (by kernel_rfl : _ = spec.fn k x) h
end impl_IsId

namespace impl_isWord
def f (k : Nat) (a0 : Int) : Option (Bool) := bnd (impl_within.f k a0 0 65535) fun y0 => some y0
def sig : Sig := ⟨62, [.w false [I]], [(false, [.val .bool])]⟩
def H : Hints := ⟨[], [], [], [], false⟩
def spec : Spec := { sig := sig, fn := fun k (x : Int) => f k x }
theorem ok : Holds Go.Proofs.Try.prog spec := holds_of_run (G := [impl_within.spec]) (holds_cons impl_within.ok holds_nil) (by kernel_rfl) H Go.Proofs.Try.func62 (by kernel_rfl) (rfl : Go.Proofs.Try.f62.body = some _) (by kernel_rfl) (by kernel_rfl) fun k x y h => Eq.trans (by kernel_rfl : _ = spec.fn k x) h
end impl_isWord

namespace impl_areWords_1
def f (k : Nat) (a0 : Int) : Option (Bool) := bnd (impl_isWord.f k a0) fun y0 => some (bNot y0)
def sig : Sig := ⟨61, [.w false [I]], [(false, [.val .bool])]⟩
def H : Hints := ⟨[], [], [], [], false⟩
def spec : Spec := { sig := sig, fn := fun k (x : Int) => f k x }
theorem ok : Holds Go.Proofs.Try.prog spec := holds_of_run (G := [impl_isWord.spec]) (holds_cons impl_isWord.ok holds_nil) (by kernel_rfl) H Go.Proofs.Try.func61 (by kernel_rfl) (rfl : Go.Proofs.Try.f61.body = some _) (by kernel_rfl) (by kernel_rfl) fun k x y h => Eq.trans (by kernel_rfl : _ = spec.fn k x) h
end impl_areWords_1

namespace slices_IndexFunc_int_impl_areWords_1
def s0 (k : Nat) (rec0 : (List Int × Int × Int) → Option (Int)) (x0 : List Int) (x1 : Int) (x2 : Int) : Option (Int) := brB (iLt x2 x1) (chk (cIdx x2 (rLen x0)) (bnd (impl_areWords_1.f k (rGet 0 x0 x2)) fun y0 => brB y0 (some x2) (rec0 (x0, x1, iAdd .i64 x2 1)))) (some (-1))
def l0 (k n : Nat) (x0 : List Int) (x1 : Int) (x2 : Int) : Option (Int) := iter (fun (rec : (List Int × Int × Int) → Option (Int)) (x : List Int × Int × Int) => s0 k rec x.1 x.2.1 x.2.2) n (x0, x1, x2)
def f (k : Nat) (a0 : List Int) : Option (Int) := l0 k k a0 (rLen a0) 0
def sig : Sig := ⟨70, [.w false [.row I], .fn 61 []], [(false, [.val I])]⟩
def H : Hints := ⟨[(2, ⟨⟨[(0, .w false 1), (1, .fn 61 []), (7, .w false 1), (8, .w false 1)], []⟩, [], [.val (.row I), .val I, .val I], []⟩)], [], [], [], false⟩
def spec : Spec := { sig := sig, fn := fun k (x : List Int) => f k x }
theorem ok : Holds Go.Proofs.Try.prog spec := holds_of_run (G := [impl_areWords_1.spec]) (holds_cons impl_areWords_1.ok holds_nil) (by kernel_rfl) H Go.Proofs.Try.func70 (by kernel_rfl) (rfl : Go.Proofs.Try.f70.body = some _) (by kernel_rfl) (by kernel_rfl) fun k x y h => Eq.trans (by kernel_rfl : _ = spec.fn k x) h
end slices_IndexFunc_int_impl_areWords_1

namespace slices_ContainsFunc_int_impl_areWords_1
def f (k : Nat) (a0 : List Int) : Option (Bool) := bnd (slices_IndexFunc_int_impl_areWords_1.f k a0) fun y0 => some (iLe 0 y0)
def sig : Sig := ⟨60, [.w false [.row I], .fn 61 []], [(false, [.val .bool])]⟩
def H : Hints := ⟨[], [], [], [], false⟩
def spec : Spec := { sig := sig, fn := fun k (x : List Int) => f k x }
theorem ok : Holds Go.Proofs.Try.prog spec := holds_of_run (G := [slices_IndexFunc_int_impl_areWords_1.spec]) (holds_cons slices_IndexFunc_int_impl_areWords_1.ok holds_nil) (by kernel_rfl) H Go.Proofs.Try.func60 (by kernel_rfl) (rfl : Go.Proofs.Try.f60.body = some _) (by kernel_rfl) (by kernel_rfl) fun k x y h => Eq.trans (by kernel_rfl : _ = spec.fn k x) h
end slices_ContainsFunc_int_impl_areWords_1

namespace impl_areWords
def f (k : Nat) (a0 : List Int) : Option (Bool) := bnd (slices_ContainsFunc_int_impl_areWords_1.f k a0) fun y0 => some (bNot y0)
def sig : Sig := ⟨42, [.w false [.row I]], [(false, [.val .bool])]⟩
def H : Hints := ⟨[], [], [], [], false⟩
def spec : Spec := { sig := sig, fn := fun k (x : List Int) => f k x }
theorem ok : Holds Go.Proofs.Try.prog spec := holds_of_run (G := [slices_ContainsFunc_int_impl_areWords_1.spec]) (holds_cons slices_ContainsFunc_int_impl_areWords_1.ok holds_nil) (by kernel_rfl) H Go.Proofs.Try.func42 (by kernel_rfl) (rfl : Go.Proofs.Try.f42.body = some _) (by kernel_rfl) (by kernel_rfl) fun k x y h => Eq.trans (by kernel_rfl : _ = spec.fn k x) h
end impl_areWords

namespace impl_GatherOk
def f (k : Nat) (a0_0 : Int) (a0_1 : Int) (a0_2 : Int) (a0_3 : List Int) (a0_4 : Int) : Option (Bool) := bnd (impl_IsId.f k a0_0) fun y0 => brB y0 (bnd (impl_within.f k a0_1 0 7) fun y1 => brB y1 (bnd (impl_within.f k a0_2 0 64) fun y2 => brB y2 (brB (iLe (rLen a0_3) a0_2) (bnd (impl_areWords.f k a0_3) fun y3 => brB y3 (bnd (impl_within.f k a0_4 0 2) fun y4 => brB y4 (brB (iNe a0_4 1) (some true) (some (iEq (rLen a0_3) a0_2))) (some false)) (some false)) (some false)) (some false)) (some false)) (some false)
def sig : Sig := ⟨11, [.w true [I, I, I, .row I, I]], [(false, [.val .bool])]⟩
def H : Hints := ⟨[], [], [], [], false⟩
def spec : Spec := { sig := sig, fn := fun k (x : Int × Int × Int × List Int × Int) => f k x.1 x.2.1 x.2.2.1 x.2.2.2.1 x.2.2.2.2 }
theorem ok : Holds Go.Proofs.Try.prog spec := holds_of_run (G := [impl_within.spec, impl_IsId.spec, impl_areWords.spec]) (holds_cons impl_within.ok (holds_cons impl_IsId.ok (holds_cons impl_areWords.ok holds_nil))) (by kernel_rfl) H Go.Proofs.Try.func11 (by kernel_rfl) (rfl : Go.Proofs.Try.f11.body = some _) (by kernel_rfl) (by kernel_rfl) fun k x y h => Eq.trans (by kernel_rfl : _ = spec.fn k x) h
end impl_GatherOk

namespace impl_Packet__words
def f (k : Nat) (a0_0 : Int) (a0_1 : Int) (a0_2 : Int) (a0_3 : Int) (a0_4 : Int) (a0_5 : Int) (a0_6 : Int) (a0_7 : List Int) : Option (Int) := brB (iEq a0_0 3) (some a0_4) (some (rLen a0_7))
def sig : Sig := ⟨71, [.w true [I, I, I, I, I, I, I, .row I]], [(false, [.val I])]⟩
def H : Hints := ⟨[], [], [], [], false⟩
def spec : Spec := { sig := sig, fn := fun k (x : Int × Int × Int × Int × Int × Int × Int × List Int) => f k x.1 x.2.1 x.2.2.1 x.2.2.2.1 x.2.2.2.2.1 x.2.2.2.2.2.1 x.2.2.2.2.2.2.1 x.2.2.2.2.2.2.2 }
theorem ok : Holds Go.Proofs.Try.prog spec := holds_of_run (G := []) holds_nil (by kernel_rfl) H Go.Proofs.Try.func71 (by kernel_rfl) (rfl : Go.Proofs.Try.f71.body = some _) (by kernel_rfl) (by kernel_rfl) fun k x y h => Eq.trans (by kernel_rfl : _ = spec.fn k x) h
end impl_Packet__words

namespace impl_Packet__addressOk
def f (k : Nat) (a0_0 : Int) (a0_1 : Int) (a0_2 : Int) (a0_3 : Int) (a0_4 : Int) (a0_5 : Int) (a0_6 : Int) (a0_7 : List Int) : Option (Bool) := brB (iEq a0_0 1) (brB (iEq a0_0 1) (bnd (impl_within.f k a0_3 0 65535) fun y0 => brB y0 (bnd (impl_Packet__words.f k a0_0 a0_1 a0_2 a0_3 a0_4 a0_5 a0_6 a0_7) fun y1 => some (iLe y1 (iSub .i64 65536 a0_3))) (some false)) (brB (iEq a0_0 4) (brB (iEq a0_0 4) (bnd (impl_within.f k a0_3 0 63) fun y2 => some y2) (some (iEq a0_3 0))) (brB (iEq a0_0 5) (bnd (impl_within.f k a0_3 0 63) fun y3 => some y3) (some (iEq a0_3 0))))) (brB (iEq a0_0 3) (bnd (impl_within.f k a0_3 0 65535) fun y4 => brB y4 (bnd (impl_Packet__words.f k a0_0 a0_1 a0_2 a0_3 a0_4 a0_5 a0_6 a0_7) fun y5 => some (iLe y5 (iSub .i64 65536 a0_3))) (some false)) (brB (iEq a0_0 4) (brB (iEq a0_0 4) (bnd (impl_within.f k a0_3 0 63) fun y6 => some y6) (some (iEq a0_3 0))) (brB (iEq a0_0 5) (bnd (impl_within.f k a0_3 0 63) fun y7 => some y7) (some (iEq a0_3 0)))))
def sig : Sig := ⟨65, [.w true [I, I, I, I, I, I, I, .row I]], [(false, [.val .bool])]⟩
def H : Hints := ⟨[], [], [(4, [0, 1, 3, 7, 15, 31, 15, 79, 207, 511, 1023, 2047])], [], false⟩
def spec : Spec := { sig := sig, fn := fun k (x : Int × Int × Int × Int × Int × Int × Int × List Int) => f k x.1 x.2.1 x.2.2.1 x.2.2.2.1 x.2.2.2.2.1 x.2.2.2.2.2.1 x.2.2.2.2.2.2.1 x.2.2.2.2.2.2.2 }
theorem ok : Holds Go.Proofs.Try.prog spec := holds_of_run (G := [impl_within.spec, impl_Packet__words.spec]) (holds_cons impl_within.ok (holds_cons impl_Packet__words.ok holds_nil)) (by kernel_rfl) H Go.Proofs.Try.func65 (by kernel_rfl) (rfl : Go.Proofs.Try.f65.body = some _) (by kernel_rfl) (by kernel_rfl) fun k x y h => Eq.trans (by kernel_rfl : _ = spec.fn k x) h
end impl_Packet__addressOk

namespace impl_Packet__lengthOk
def f (k : Nat) (a0_0 : Int) (a0_1 : Int) (a0_2 : Int) (a0_3 : Int) (a0_4 : Int) (a0_5 : Int) (a0_6 : Int) (a0_7 : List Int) : Option (Bool) := brB (iEq a0_0 3) (bnd (impl_within.f k a0_4 1 64) fun y0 => some y0) (brB (iEq a0_0 6) (bnd (impl_within.f k a0_4 0 64) fun y1 => some y1) (some (iEq a0_4 0)))
def sig : Sig := ⟨66, [.w true [I, I, I, I, I, I, I, .row I]], [(false, [.val .bool])]⟩
def H : Hints := ⟨[], [], [], [], false⟩
def spec : Spec := { sig := sig, fn := fun k (x : Int × Int × Int × Int × Int × Int × Int × List Int) => f k x.1 x.2.1 x.2.2.1 x.2.2.2.1 x.2.2.2.2.1 x.2.2.2.2.2.1 x.2.2.2.2.2.2.1 x.2.2.2.2.2.2.2 }
theorem ok : Holds Go.Proofs.Try.prog spec := holds_of_run (G := [impl_within.spec]) (holds_cons impl_within.ok holds_nil) (by kernel_rfl) H Go.Proofs.Try.func66 (by kernel_rfl) (rfl : Go.Proofs.Try.f66.body = some _) (by kernel_rfl) (by kernel_rfl) fun k x y h => Eq.trans (by kernel_rfl : _ = spec.fn k x) h
end impl_Packet__lengthOk

namespace impl_Packet__dataOk_1
def f (k : Nat) (a0 : Int) : Option (Bool) := bnd (impl_isWord.f k a0) fun y0 => some (bNot y0)
def sig : Sig := ⟨72, [.w false [I]], [(false, [.val .bool])]⟩
def H : Hints := ⟨[], [], [], [], false⟩
def spec : Spec := { sig := sig, fn := fun k (x : Int) => f k x }
theorem ok : Holds Go.Proofs.Try.prog spec := holds_of_run (G := [impl_isWord.spec]) (holds_cons impl_isWord.ok holds_nil) (by kernel_rfl) H Go.Proofs.Try.func72 (by kernel_rfl) (rfl : Go.Proofs.Try.f72.body = some _) (by kernel_rfl) (by kernel_rfl) fun k x y h => Eq.trans (by kernel_rfl : _ = spec.fn k x) h
end impl_Packet__dataOk_1

namespace slices_IndexFunc_int_impl_Packet__dataOk_1
def s0 (k : Nat) (rec0 : (List Int × Int × Int) → Option (Int)) (x0 : List Int) (x1 : Int) (x2 : Int) : Option (Int) := brB (iLt x2 x1) (chk (cIdx x2 (rLen x0)) (bnd (impl_Packet__dataOk_1.f k (rGet 0 x0 x2)) fun y0 => brB y0 (some x2) (rec0 (x0, x1, iAdd .i64 x2 1)))) (some (-1))
def l0 (k n : Nat) (x0 : List Int) (x1 : Int) (x2 : Int) : Option (Int) := iter (fun (rec : (List Int × Int × Int) → Option (Int)) (x : List Int × Int × Int) => s0 k rec x.1 x.2.1 x.2.2) n (x0, x1, x2)
def f (k : Nat) (a0 : List Int) : Option (Int) := l0 k k a0 (rLen a0) 0
def sig : Sig := ⟨70, [.w false [.row I], .fn 72 []], [(false, [.val I])]⟩
def H : Hints := ⟨[(2, ⟨⟨[(0, .w false 1), (1, .fn 72 []), (7, .w false 1), (8, .w false 1)], []⟩, [], [.val (.row I), .val I, .val I], []⟩)], [], [], [], false⟩
def spec : Spec := { sig := sig, fn := fun k (x : List Int) => f k x }
theorem ok : Holds Go.Proofs.Try.prog spec := holds_of_run (G := [impl_Packet__dataOk_1.spec]) (holds_cons impl_Packet__dataOk_1.ok holds_nil) (by kernel_rfl) H Go.Proofs.Try.func70 (by kernel_rfl) (rfl : Go.Proofs.Try.f70.body = some _) (by kernel_rfl) (by kernel_rfl) fun k x y h => Eq.trans (by kernel_rfl : _ = spec.fn k x) h
end slices_IndexFunc_int_impl_Packet__dataOk_1

namespace slices_ContainsFunc_int_impl_Packet__dataOk_1
def f (k : Nat) (a0 : List Int) : Option (Bool) := bnd (slices_IndexFunc_int_impl_Packet__dataOk_1.f k a0) fun y0 => some (iLe 0 y0)
def sig : Sig := ⟨60, [.w false [.row I], .fn 72 []], [(false, [.val .bool])]⟩
def H : Hints := ⟨[], [], [], [], false⟩
def spec : Spec := { sig := sig, fn := fun k (x : List Int) => f k x }
theorem ok : Holds Go.Proofs.Try.prog spec := holds_of_run (G := [slices_IndexFunc_int_impl_areWords_1.spec, slices_IndexFunc_int_impl_Packet__dataOk_1.spec]) (holds_cons slices_IndexFunc_int_impl_areWords_1.ok (holds_cons slices_IndexFunc_int_impl_Packet__dataOk_1.ok holds_nil)) (by kernel_rfl) H Go.Proofs.Try.func60 (by kernel_rfl) (rfl : Go.Proofs.Try.f60.body = some _) (by kernel_rfl) (by kernel_rfl) fun k x y h => Eq.trans (by kernel_rfl : _ = spec.fn k x) h
end slices_ContainsFunc_int_impl_Packet__dataOk_1

namespace impl_Packet__dataOk
def f (k : Nat) (a0_0 : Int) (a0_1 : Int) (a0_2 : Int) (a0_3 : Int) (a0_4 : Int) (a0_5 : Int) (a0_6 : Int) (a0_7 : List Int) : Option (Bool) := bnd (slices_ContainsFunc_int_impl_Packet__dataOk_1.f k a0_7) fun y0 => brB y0 (some false) (brB (iEq a0_0 1) (bnd (impl_within.f k (rLen a0_7) 1 8) fun y1 => some y1) (brB (iEq a0_0 2) (bnd (impl_within.f k (rLen a0_7) 1 8) fun y2 => some y2) (brB (iEq a0_0 5) (some (iEq (rLen a0_7) 1)) (brB (iEq a0_0 6) (brB (iEq a0_6 0) (brB (iLe (rLen a0_7) 8) (some (iLe (rLen a0_7) a0_4)) (some false)) (some (iEq (rLen a0_7) 0))) (some (iEq (rLen a0_7) 0))))))
def sig : Sig := ⟨67, [.w true [I, I, I, I, I, I, I, .row I]], [(false, [.val .bool])]⟩
def H : Hints := ⟨[], [], [], [], false⟩
def spec : Spec := { sig := sig, fn := fun k (x : Int × Int × Int × Int × Int × Int × Int × List Int) => f k x.1 x.2.1 x.2.2.1 x.2.2.2.1 x.2.2.2.2.1 x.2.2.2.2.2.1 x.2.2.2.2.2.2.1 x.2.2.2.2.2.2.2 }
theorem ok : Holds Go.Proofs.Try.prog spec := holds_of_run (G := [impl_within.spec, slices_ContainsFunc_int_impl_areWords_1.spec, slices_ContainsFunc_int_impl_Packet__dataOk_1.spec]) (holds_cons impl_within.ok (holds_cons slices_ContainsFunc_int_impl_areWords_1.ok (holds_cons slices_ContainsFunc_int_impl_Packet__dataOk_1.ok holds_nil))) (by kernel_rfl) H Go.Proofs.Try.func67 (by kernel_rfl) (rfl : Go.Proofs.Try.f67.body = some _) (by kernel_rfl) (by kernel_rfl) fun k x y h => Eq.trans (by kernel_rfl : _ = spec.fn k x) h
end impl_Packet__dataOk

namespace impl_IsPacket
def f (k : Nat) (a0_0 : Int) (a0_1 : Int) (a0_2 : Int) (a0_3 : Int) (a0_4 : Int) (a0_5 : Int) (a0_6 : Int) (a0_7 : List Int) : Option (Bool) := bnd (impl_within.f k a0_0 1 6) fun y0 => brB (bNot y0) (some false) (bnd (impl_IsId.f k a0_1) fun y1 => brB (bNot y1) (some false) (bnd (impl_Packet__addressOk.f k a0_0 a0_1 a0_2 a0_3 a0_4 a0_5 a0_6 a0_7) fun y2 => brB (bNot y2) (some false) (bnd (impl_Packet__lengthOk.f k a0_0 a0_1 a0_2 a0_3 a0_4 a0_5 a0_6 a0_7) fun y3 => brB (bNot y3) (some false) (bnd (impl_within.f k a0_0 4 6) fun y4 => brB y4 (bnd (impl_IsId.f k a0_2) fun y5 => brB (bNot y5) (some false) (brB (bNot y4) (brB (iNe a0_2 0) (some false) (bnd (impl_within.f k a0_0 3 6) fun y6 => brB y6 (bnd (impl_within.f k a0_5 0 7) fun y7 => brB (bNot y7) (some false) (brB (bNot y6) (brB (iNe a0_5 0) (some false) (brB (iEq a0_0 6) (bnd (impl_within.f k a0_6 0 2) fun y8 => brB (bNot y8) (some false) (brB (iNe a0_0 6) (brB (iNe a0_6 0) (some false) (bnd (impl_Packet__dataOk.f k a0_0 a0_1 a0_2 a0_3 a0_4 a0_5 a0_6 a0_7) fun y9 => some y9)) (bnd (impl_Packet__dataOk.f k a0_0 a0_1 a0_2 a0_3 a0_4 a0_5 a0_6 a0_7) fun y10 => some y10))) (brB (iNe a0_0 6) (brB (iNe a0_6 0) (some false) (bnd (impl_Packet__dataOk.f k a0_0 a0_1 a0_2 a0_3 a0_4 a0_5 a0_6 a0_7) fun y11 => some y11)) (bnd (impl_Packet__dataOk.f k a0_0 a0_1 a0_2 a0_3 a0_4 a0_5 a0_6 a0_7) fun y12 => some y12)))) (brB (iEq a0_0 6) (bnd (impl_within.f k a0_6 0 2) fun y13 => brB (bNot y13) (some false) (brB (iNe a0_0 6) (brB (iNe a0_6 0) (some false) (bnd (impl_Packet__dataOk.f k a0_0 a0_1 a0_2 a0_3 a0_4 a0_5 a0_6 a0_7) fun y14 => some y14)) (bnd (impl_Packet__dataOk.f k a0_0 a0_1 a0_2 a0_3 a0_4 a0_5 a0_6 a0_7) fun y15 => some y15))) (brB (iNe a0_0 6) (brB (iNe a0_6 0) (some false) (bnd (impl_Packet__dataOk.f k a0_0 a0_1 a0_2 a0_3 a0_4 a0_5 a0_6 a0_7) fun y16 => some y16)) (bnd (impl_Packet__dataOk.f k a0_0 a0_1 a0_2 a0_3 a0_4 a0_5 a0_6 a0_7) fun y17 => some y17))))) (brB (bNot y6) (brB (iNe a0_5 0) (some false) (brB (iEq a0_0 6) (bnd (impl_within.f k a0_6 0 2) fun y18 => brB (bNot y18) (some false) (brB (iNe a0_0 6) (brB (iNe a0_6 0) (some false) (bnd (impl_Packet__dataOk.f k a0_0 a0_1 a0_2 a0_3 a0_4 a0_5 a0_6 a0_7) fun y19 => some y19)) (bnd (impl_Packet__dataOk.f k a0_0 a0_1 a0_2 a0_3 a0_4 a0_5 a0_6 a0_7) fun y20 => some y20))) (brB (iNe a0_0 6) (brB (iNe a0_6 0) (some false) (bnd (impl_Packet__dataOk.f k a0_0 a0_1 a0_2 a0_3 a0_4 a0_5 a0_6 a0_7) fun y21 => some y21)) (bnd (impl_Packet__dataOk.f k a0_0 a0_1 a0_2 a0_3 a0_4 a0_5 a0_6 a0_7) fun y22 => some y22)))) (brB (iEq a0_0 6) (bnd (impl_within.f k a0_6 0 2) fun y23 => brB (bNot y23) (some false) (brB (iNe a0_0 6) (brB (iNe a0_6 0) (some false) (bnd (impl_Packet__dataOk.f k a0_0 a0_1 a0_2 a0_3 a0_4 a0_5 a0_6 a0_7) fun y24 => some y24)) (bnd (impl_Packet__dataOk.f k a0_0 a0_1 a0_2 a0_3 a0_4 a0_5 a0_6 a0_7) fun y25 => some y25))) (brB (iNe a0_0 6) (brB (iNe a0_6 0) (some false) (bnd (impl_Packet__dataOk.f k a0_0 a0_1 a0_2 a0_3 a0_4 a0_5 a0_6 a0_7) fun y26 => some y26)) (bnd (impl_Packet__dataOk.f k a0_0 a0_1 a0_2 a0_3 a0_4 a0_5 a0_6 a0_7) fun y27 => some y27)))))) (bnd (impl_within.f k a0_0 3 6) fun y28 => brB y28 (bnd (impl_within.f k a0_5 0 7) fun y29 => brB (bNot y29) (some false) (brB (bNot y28) (brB (iNe a0_5 0) (some false) (brB (iEq a0_0 6) (bnd (impl_within.f k a0_6 0 2) fun y30 => brB (bNot y30) (some false) (brB (iNe a0_0 6) (brB (iNe a0_6 0) (some false) (bnd (impl_Packet__dataOk.f k a0_0 a0_1 a0_2 a0_3 a0_4 a0_5 a0_6 a0_7) fun y31 => some y31)) (bnd (impl_Packet__dataOk.f k a0_0 a0_1 a0_2 a0_3 a0_4 a0_5 a0_6 a0_7) fun y32 => some y32))) (brB (iNe a0_0 6) (brB (iNe a0_6 0) (some false) (bnd (impl_Packet__dataOk.f k a0_0 a0_1 a0_2 a0_3 a0_4 a0_5 a0_6 a0_7) fun y33 => some y33)) (bnd (impl_Packet__dataOk.f k a0_0 a0_1 a0_2 a0_3 a0_4 a0_5 a0_6 a0_7) fun y34 => some y34)))) (brB (iEq a0_0 6) (bnd (impl_within.f k a0_6 0 2) fun y35 => brB (bNot y35) (some false) (brB (iNe a0_0 6) (brB (iNe a0_6 0) (some false) (bnd (impl_Packet__dataOk.f k a0_0 a0_1 a0_2 a0_3 a0_4 a0_5 a0_6 a0_7) fun y36 => some y36)) (bnd (impl_Packet__dataOk.f k a0_0 a0_1 a0_2 a0_3 a0_4 a0_5 a0_6 a0_7) fun y37 => some y37))) (brB (iNe a0_0 6) (brB (iNe a0_6 0) (some false) (bnd (impl_Packet__dataOk.f k a0_0 a0_1 a0_2 a0_3 a0_4 a0_5 a0_6 a0_7) fun y38 => some y38)) (bnd (impl_Packet__dataOk.f k a0_0 a0_1 a0_2 a0_3 a0_4 a0_5 a0_6 a0_7) fun y39 => some y39))))) (brB (bNot y28) (brB (iNe a0_5 0) (some false) (brB (iEq a0_0 6) (bnd (impl_within.f k a0_6 0 2) fun y40 => brB (bNot y40) (some false) (brB (iNe a0_0 6) (brB (iNe a0_6 0) (some false) (bnd (impl_Packet__dataOk.f k a0_0 a0_1 a0_2 a0_3 a0_4 a0_5 a0_6 a0_7) fun y41 => some y41)) (bnd (impl_Packet__dataOk.f k a0_0 a0_1 a0_2 a0_3 a0_4 a0_5 a0_6 a0_7) fun y42 => some y42))) (brB (iNe a0_0 6) (brB (iNe a0_6 0) (some false) (bnd (impl_Packet__dataOk.f k a0_0 a0_1 a0_2 a0_3 a0_4 a0_5 a0_6 a0_7) fun y43 => some y43)) (bnd (impl_Packet__dataOk.f k a0_0 a0_1 a0_2 a0_3 a0_4 a0_5 a0_6 a0_7) fun y44 => some y44)))) (brB (iEq a0_0 6) (bnd (impl_within.f k a0_6 0 2) fun y45 => brB (bNot y45) (some false) (brB (iNe a0_0 6) (brB (iNe a0_6 0) (some false) (bnd (impl_Packet__dataOk.f k a0_0 a0_1 a0_2 a0_3 a0_4 a0_5 a0_6 a0_7) fun y46 => some y46)) (bnd (impl_Packet__dataOk.f k a0_0 a0_1 a0_2 a0_3 a0_4 a0_5 a0_6 a0_7) fun y47 => some y47))) (brB (iNe a0_0 6) (brB (iNe a0_6 0) (some false) (bnd (impl_Packet__dataOk.f k a0_0 a0_1 a0_2 a0_3 a0_4 a0_5 a0_6 a0_7) fun y48 => some y48)) (bnd (impl_Packet__dataOk.f k a0_0 a0_1 a0_2 a0_3 a0_4 a0_5 a0_6 a0_7) fun y49 => some y49))))))) (brB (bNot y4) (brB (iNe a0_2 0) (some false) (bnd (impl_within.f k a0_0 3 6) fun y50 => brB y50 (bnd (impl_within.f k a0_5 0 7) fun y51 => brB (bNot y51) (some false) (brB (bNot y50) (brB (iNe a0_5 0) (some false) (brB (iEq a0_0 6) (bnd (impl_within.f k a0_6 0 2) fun y52 => brB (bNot y52) (some false) (brB (iNe a0_0 6) (brB (iNe a0_6 0) (some false) (bnd (impl_Packet__dataOk.f k a0_0 a0_1 a0_2 a0_3 a0_4 a0_5 a0_6 a0_7) fun y53 => some y53)) (bnd (impl_Packet__dataOk.f k a0_0 a0_1 a0_2 a0_3 a0_4 a0_5 a0_6 a0_7) fun y54 => some y54))) (brB (iNe a0_0 6) (brB (iNe a0_6 0) (some false) (bnd (impl_Packet__dataOk.f k a0_0 a0_1 a0_2 a0_3 a0_4 a0_5 a0_6 a0_7) fun y55 => some y55)) (bnd (impl_Packet__dataOk.f k a0_0 a0_1 a0_2 a0_3 a0_4 a0_5 a0_6 a0_7) fun y56 => some y56)))) (brB (iEq a0_0 6) (bnd (impl_within.f k a0_6 0 2) fun y57 => brB (bNot y57) (some false) (brB (iNe a0_0 6) (brB (iNe a0_6 0) (some false) (bnd (impl_Packet__dataOk.f k a0_0 a0_1 a0_2 a0_3 a0_4 a0_5 a0_6 a0_7) fun y58 => some y58)) (bnd (impl_Packet__dataOk.f k a0_0 a0_1 a0_2 a0_3 a0_4 a0_5 a0_6 a0_7) fun y59 => some y59))) (brB (iNe a0_0 6) (brB (iNe a0_6 0) (some false) (bnd (impl_Packet__dataOk.f k a0_0 a0_1 a0_2 a0_3 a0_4 a0_5 a0_6 a0_7) fun y60 => some y60)) (bnd (impl_Packet__dataOk.f k a0_0 a0_1 a0_2 a0_3 a0_4 a0_5 a0_6 a0_7) fun y61 => some y61))))) (brB (bNot y50) (brB (iNe a0_5 0) (some false) (brB (iEq a0_0 6) (bnd (impl_within.f k a0_6 0 2) fun y62 => brB (bNot y62) (some false) (brB (iNe a0_0 6) (brB (iNe a0_6 0) (some false) (bnd (impl_Packet__dataOk.f k a0_0 a0_1 a0_2 a0_3 a0_4 a0_5 a0_6 a0_7) fun y63 => some y63)) (bnd (impl_Packet__dataOk.f k a0_0 a0_1 a0_2 a0_3 a0_4 a0_5 a0_6 a0_7) fun y64 => some y64))) (brB (iNe a0_0 6) (brB (iNe a0_6 0) (some false) (bnd (impl_Packet__dataOk.f k a0_0 a0_1 a0_2 a0_3 a0_4 a0_5 a0_6 a0_7) fun y65 => some y65)) (bnd (impl_Packet__dataOk.f k a0_0 a0_1 a0_2 a0_3 a0_4 a0_5 a0_6 a0_7) fun y66 => some y66)))) (brB (iEq a0_0 6) (bnd (impl_within.f k a0_6 0 2) fun y67 => brB (bNot y67) (some false) (brB (iNe a0_0 6) (brB (iNe a0_6 0) (some false) (bnd (impl_Packet__dataOk.f k a0_0 a0_1 a0_2 a0_3 a0_4 a0_5 a0_6 a0_7) fun y68 => some y68)) (bnd (impl_Packet__dataOk.f k a0_0 a0_1 a0_2 a0_3 a0_4 a0_5 a0_6 a0_7) fun y69 => some y69))) (brB (iNe a0_0 6) (brB (iNe a0_6 0) (some false) (bnd (impl_Packet__dataOk.f k a0_0 a0_1 a0_2 a0_3 a0_4 a0_5 a0_6 a0_7) fun y70 => some y70)) (bnd (impl_Packet__dataOk.f k a0_0 a0_1 a0_2 a0_3 a0_4 a0_5 a0_6 a0_7) fun y71 => some y71)))))) (bnd (impl_within.f k a0_0 3 6) fun y72 => brB y72 (bnd (impl_within.f k a0_5 0 7) fun y73 => brB (bNot y73) (some false) (brB (bNot y72) (brB (iNe a0_5 0) (some false) (brB (iEq a0_0 6) (bnd (impl_within.f k a0_6 0 2) fun y74 => brB (bNot y74) (some false) (brB (iNe a0_0 6) (brB (iNe a0_6 0) (some false) (bnd (impl_Packet__dataOk.f k a0_0 a0_1 a0_2 a0_3 a0_4 a0_5 a0_6 a0_7) fun y75 => some y75)) (bnd (impl_Packet__dataOk.f k a0_0 a0_1 a0_2 a0_3 a0_4 a0_5 a0_6 a0_7) fun y76 => some y76))) (brB (iNe a0_0 6) (brB (iNe a0_6 0) (some false) (bnd (impl_Packet__dataOk.f k a0_0 a0_1 a0_2 a0_3 a0_4 a0_5 a0_6 a0_7) fun y77 => some y77)) (bnd (impl_Packet__dataOk.f k a0_0 a0_1 a0_2 a0_3 a0_4 a0_5 a0_6 a0_7) fun y78 => some y78)))) (brB (iEq a0_0 6) (bnd (impl_within.f k a0_6 0 2) fun y79 => brB (bNot y79) (some false) (brB (iNe a0_0 6) (brB (iNe a0_6 0) (some false) (bnd (impl_Packet__dataOk.f k a0_0 a0_1 a0_2 a0_3 a0_4 a0_5 a0_6 a0_7) fun y80 => some y80)) (bnd (impl_Packet__dataOk.f k a0_0 a0_1 a0_2 a0_3 a0_4 a0_5 a0_6 a0_7) fun y81 => some y81))) (brB (iNe a0_0 6) (brB (iNe a0_6 0) (some false) (bnd (impl_Packet__dataOk.f k a0_0 a0_1 a0_2 a0_3 a0_4 a0_5 a0_6 a0_7) fun y82 => some y82)) (bnd (impl_Packet__dataOk.f k a0_0 a0_1 a0_2 a0_3 a0_4 a0_5 a0_6 a0_7) fun y83 => some y83))))) (brB (bNot y72) (brB (iNe a0_5 0) (some false) (brB (iEq a0_0 6) (bnd (impl_within.f k a0_6 0 2) fun y84 => brB (bNot y84) (some false) (brB (iNe a0_0 6) (brB (iNe a0_6 0) (some false) (bnd (impl_Packet__dataOk.f k a0_0 a0_1 a0_2 a0_3 a0_4 a0_5 a0_6 a0_7) fun y85 => some y85)) (bnd (impl_Packet__dataOk.f k a0_0 a0_1 a0_2 a0_3 a0_4 a0_5 a0_6 a0_7) fun y86 => some y86))) (brB (iNe a0_0 6) (brB (iNe a0_6 0) (some false) (bnd (impl_Packet__dataOk.f k a0_0 a0_1 a0_2 a0_3 a0_4 a0_5 a0_6 a0_7) fun y87 => some y87)) (bnd (impl_Packet__dataOk.f k a0_0 a0_1 a0_2 a0_3 a0_4 a0_5 a0_6 a0_7) fun y88 => some y88)))) (brB (iEq a0_0 6) (bnd (impl_within.f k a0_6 0 2) fun y89 => brB (bNot y89) (some false) (brB (iNe a0_0 6) (brB (iNe a0_6 0) (some false) (bnd (impl_Packet__dataOk.f k a0_0 a0_1 a0_2 a0_3 a0_4 a0_5 a0_6 a0_7) fun y90 => some y90)) (bnd (impl_Packet__dataOk.f k a0_0 a0_1 a0_2 a0_3 a0_4 a0_5 a0_6 a0_7) fun y91 => some y91))) (brB (iNe a0_0 6) (brB (iNe a0_6 0) (some false) (bnd (impl_Packet__dataOk.f k a0_0 a0_1 a0_2 a0_3 a0_4 a0_5 a0_6 a0_7) fun y92 => some y92)) (bnd (impl_Packet__dataOk.f k a0_0 a0_1 a0_2 a0_3 a0_4 a0_5 a0_6 a0_7) fun y93 => some y93))))))))))
def sig : Sig := ⟨48, [.w true [I, I, I, I, I, I, I, .row I]], [(false, [.val .bool])]⟩
def H : Hints := ⟨[], [], [], [], false⟩
def spec : Spec := { sig := sig, fn := fun k (x : Int × Int × Int × Int × Int × Int × Int × List Int) => f k x.1 x.2.1 x.2.2.1 x.2.2.2.1 x.2.2.2.2.1 x.2.2.2.2.2.1 x.2.2.2.2.2.2.1 x.2.2.2.2.2.2.2 }
theorem ok : Holds Go.Proofs.Try.prog spec := holds_of_run (G := [impl_within.spec, impl_IsId.spec, impl_Packet__addressOk.spec, impl_Packet__lengthOk.spec, impl_Packet__dataOk.spec]) (holds_cons impl_within.ok (holds_cons impl_IsId.ok (holds_cons impl_Packet__addressOk.ok (holds_cons impl_Packet__lengthOk.ok (holds_cons impl_Packet__dataOk.ok holds_nil))))) (by kernel_rfl) H Go.Proofs.Try.func48 (by kernel_rfl) (rfl : Go.Proofs.Try.f48.body = some _) (by kernel_rfl) (by kernel_rfl) fun k x y h => Eq.trans (by kernel_rfl : _ = spec.fn k x) h
end impl_IsPacket

namespace impl_TakeAnswer
def f (k : Nat) (a0_0 : Int) (a0_1 : Int) (a0_2 : Int) (a0_3 : List Int) (a0_4 : Int) (a1_0 : Int) (a1_1 : Int) (a1_2 : Int) (a1_3 : Int) (a1_4 : Int) (a1_5 : Int) (a1_6 : Int) (a1_7 : List Int) : Option (Int × Int × Int × List Int × Int × Bool) := bnd (impl_copyGather.f k a0_0 a0_1 a0_2 a0_3 a0_4) fun p => (fun y0 y1 y2 y3 y4 => bnd (impl_GatherOk.f k a0_0 a0_1 a0_2 a0_3 a0_4) fun y5 => brB (bNot y5) (some (y0, y1, y2, y3, y4, false)) (bnd (impl_IsPacket.f k a1_0 a1_1 a1_2 a1_3 a1_4 a1_5 a1_6 a1_7) fun y6 => brB (bNot y6) (some (y0, y1, y2, y3, y4, false)) (brB (iNe a0_4 0) (some (y0, y1, y2, y3, y4, false)) (brB (iNe a1_0 6) (some (y0, y1, y2, y3, y4, false)) (brB (iNe a1_2 a0_0) (some (y0, y1, y2, y3, y4, false)) (brB (iNe a1_5 a0_1) (some (y0, y1, y2, y3, y4, false)) (brB (iNe a1_6 0) (some (y0, y1, y2, y3, 2, true)) (brB (iNe a1_4 (iSub .i64 a0_2 (rLen a0_3))) (some (y0, y1, y2, y3, y4, false)) (chk (cLen (rLen (rApp y3 a1_7)) 8) (brB (iEq (rLen (rApp y3 a1_7)) y2) (some (y0, y1, y2, rApp y3 a1_7, 1, true)) (some (y0, y1, y2, rApp y3 a1_7, y4, true)))))))))))) p.1 p.2.1 p.2.2.1 p.2.2.2.1 p.2.2.2.2
def sig : Sig := ⟨21, [.w true [I, I, I, .row I, I], .w true [I, I, I, I, I, I, I, .row I]], [(true, [.val I, .val I, .val I, .own I, .val I]), (false, [.val .bool])]⟩
def H : Hints := ⟨[], [], [], [], false⟩
def spec : Spec := { sig := sig, fn := fun k (x : Int × Int × Int × List Int × Int × Int × Int × Int × Int × Int × Int × Int × List Int) => f k x.1 x.2.1 x.2.2.1 x.2.2.2.1 x.2.2.2.2.1 x.2.2.2.2.2.1 x.2.2.2.2.2.2.1 x.2.2.2.2.2.2.2.1 x.2.2.2.2.2.2.2.2.1 x.2.2.2.2.2.2.2.2.2.1 x.2.2.2.2.2.2.2.2.2.2.1 x.2.2.2.2.2.2.2.2.2.2.2.1 x.2.2.2.2.2.2.2.2.2.2.2.2 }
theorem ok : Holds Go.Proofs.Try.prog spec := holds_of_run (G := [impl_copyGather.spec, impl_GatherOk.spec, impl_IsPacket.spec]) (holds_cons impl_copyGather.ok (holds_cons impl_GatherOk.ok (holds_cons impl_IsPacket.ok holds_nil))) (by kernel_rfl) H Go.Proofs.Try.func21 (by kernel_rfl) (rfl : Go.Proofs.Try.f21.body = some _) (by kernel_rfl) (by kernel_rfl) fun k x y h => Eq.trans (by kernel_rfl : _ = spec.fn k x) h
end impl_TakeAnswer

namespace impl_GatherAll
def s0 (k : Nat) (rec0 : ((List (Int × Int × Int × Int × Int × Int × Int × List Int)) × Int × Int × Int × Int × Int × List Int × Int × Int × Int × Int × List Int × Int) → Option (Int × Int × Int × List Int × Int)) (x0 : List (Int × Int × Int × Int × Int × Int × Int × List Int)) (x1 : Int) (x2 : Int) (x3 : Int) (x4 : Int) (x5 : Int) (x6 : List Int) (x7 : Int) (x8 : Int) (x9 : Int) (x10 : Int) (x11 : List Int) (x12 : Int) : Option (Int × Int × Int × List Int × Int) := brB (iLt x2 x1) (chk (cIdx x2 (rLen x0)) (bnd (impl_TakeAnswer.f k x8 x9 x10 x11 x12 ((rGet (0, 0, 0, 0, 0, 0, 0, []) x0 x2).1) (((rGet (0, 0, 0, 0, 0, 0, 0, []) x0 x2).2).1) ((((rGet (0, 0, 0, 0, 0, 0, 0, []) x0 x2).2).2).1) (((((rGet (0, 0, 0, 0, 0, 0, 0, []) x0 x2).2).2).2).1) ((((((rGet (0, 0, 0, 0, 0, 0, 0, []) x0 x2).2).2).2).2).1) (((((((rGet (0, 0, 0, 0, 0, 0, 0, []) x0 x2).2).2).2).2).2).1) ((((((((rGet (0, 0, 0, 0, 0, 0, 0, []) x0 x2).2).2).2).2).2).2).1) ((((((((rGet (0, 0, 0, 0, 0, 0, 0, []) x0 x2).2).2).2).2).2).2).2)) fun p => (fun y5 y6 y7 y8 y9 y10 => rec0 (x0, x1, iAdd .i64 x2 1, x3, x4, x5, x6, x7, y5, y6, y7, y8, y9)) p.1 p.2.1 p.2.2.1 p.2.2.2.1 p.2.2.2.2.1 p.2.2.2.2.2)) (some (x8, x9, x10, x11, x12))
def l0 (k n : Nat) (x0 : List (Int × Int × Int × Int × Int × Int × Int × List Int)) (x1 : Int) (x2 : Int) (x3 : Int) (x4 : Int) (x5 : Int) (x6 : List Int) (x7 : Int) (x8 : Int) (x9 : Int) (x10 : Int) (x11 : List Int) (x12 : Int) : Option (Int × Int × Int × List Int × Int) := iter (fun (rec : ((List (Int × Int × Int × Int × Int × Int × Int × List Int)) × Int × Int × Int × Int × Int × List Int × Int × Int × Int × Int × List Int × Int) → Option (Int × Int × Int × List Int × Int)) (x : (List (Int × Int × Int × Int × Int × Int × Int × List Int)) × Int × Int × Int × Int × Int × List Int × Int × Int × Int × Int × List Int × Int) => s0 k rec x.1 x.2.1 x.2.2.1 x.2.2.2.1 x.2.2.2.2.1 x.2.2.2.2.2.1 x.2.2.2.2.2.2.1 x.2.2.2.2.2.2.2.1 x.2.2.2.2.2.2.2.2.1 x.2.2.2.2.2.2.2.2.2.1 x.2.2.2.2.2.2.2.2.2.2.1 x.2.2.2.2.2.2.2.2.2.2.2.1 x.2.2.2.2.2.2.2.2.2.2.2.2) n (x0, x1, x2, x3, x4, x5, x6, x7, x8, x9, x10, x11, x12)
def f (k : Nat) (a0_0 : Int) (a0_1 : Int) (a0_2 : Int) (a0_3 : List Int) (a0_4 : Int) (a1 : List (Int × Int × Int × Int × Int × Int × Int × List Int)) : Option (Int × Int × Int × List Int × Int) := bnd (impl_copyGather.f k a0_0 a0_1 a0_2 a0_3 a0_4) fun p => (fun y0 y1 y2 y3 y4 => l0 k k a1 (rLen a1) 0 0 0 0 [] 0 y0 y1 y2 y3 y4) p.1 p.2.1 p.2.2.1 p.2.2.2.1 p.2.2.2.2
def sig : Sig := ⟨18, [.w true [I, I, I, .row I, I], .w false [.row (.pair I (.pair I (.pair I (.pair I (.pair I (.pair I (.pair I (.row I))))))))]], [(true, [.val I, .val I, .val I, .own I, .val I])]⟩
def H : Hints := ⟨[(3, ⟨⟨[(4, .ptr 104 0), (5, .ptr 105 0), (10, .w false 1), (11, .w false 1), (12, .w false 1)], [(104, 5), (105, 5)]⟩, [4, 5], [.val (.row (.pair I (.pair I (.pair I (.pair I (.pair I (.pair I (.pair I (.row I))))))))), .val I, .val I, .val I, .val I, .val I, .own I, .val I, .val I, .val I, .val I, .own I, .val I], []⟩)], [], [], [], false⟩
def spec : Spec := { sig := sig, fn := fun k (x : Int × Int × Int × List Int × Int × List (Int × Int × Int × Int × Int × Int × Int × List Int)) => f k x.1 x.2.1 x.2.2.1 x.2.2.2.1 x.2.2.2.2.1 x.2.2.2.2.2 }
theorem ok : Holds Go.Proofs.Try.prog spec := holds_of_run (G := [impl_copyGather.spec, impl_TakeAnswer.spec]) (holds_cons impl_copyGather.ok (holds_cons impl_TakeAnswer.ok holds_nil)) (by kernel_rfl) H Go.Proofs.Try.func18 (by kernel_rfl) (rfl : Go.Proofs.Try.f18.body = some _) (by kernel_rfl) (by kernel_rfl) fun k x y h => Eq.trans (by kernel_rfl : _ = spec.fn k x) h
end impl_GatherAll

namespace laws_eqIntS
def s0 (k : Nat) (rec0 : (List Int × List Int × Int) → Option (Bool)) (x0 : List Int) (x1 : List Int) (x2 : Int) : Option (Bool) := brB (iLt x2 (rLen x0)) (chk (cIdx x2 (rLen x0)) (chk (cIdx x2 (rLen x1)) (brB (iNe (rGet 0 x0 x2) (rGet 0 x1 x2)) (some false) (rec0 (x0, x1, iAdd .i64 x2 1))))) (some true)
def l0 (k n : Nat) (x0 : List Int) (x1 : List Int) (x2 : Int) : Option (Bool) := iter (fun (rec : (List Int × List Int × Int) → Option (Bool)) (x : List Int × List Int × Int) => s0 k rec x.1 x.2.1 x.2.2) n (x0, x1, x2)
def f (k : Nat) (a0 : List Int) (a1 : List Int) : Option (Bool) := brB (iNe (rLen a0) (rLen a1)) (some false) (l0 k k a0 a1 0)
def sig : Sig := ⟨43, [.w false [.row I], .w false [.row I]], [(false, [.val .bool])]⟩
def H : Hints := ⟨[(4, ⟨⟨[(0, .w false 1), (1, .w false 1), (5, .w false 1)], []⟩, [], [.val (.row I), .val (.row I), .val I], []⟩)], [], [(6, [0, 0, 3, 7, 0, 0, 48, 112, 255])], [], false⟩
def spec : Spec := { sig := sig, fn := fun k (x : List Int × List Int) => f k x.1 x.2 }
theorem ok : Holds Go.Proofs.Try.prog spec := holds_of_run (G := []) holds_nil (by kernel_rfl) H Go.Proofs.Try.func43 (by kernel_rfl) (rfl : Go.Proofs.Try.f43.body = some _) (by kernel_rfl) (by kernel_rfl) fun k x y h => Eq.trans (by kernel_rfl : _ = spec.fn k x) h
end laws_eqIntS

namespace laws_eqGather
def f (k : Nat) (a0_0 : Int) (a0_1 : Int) (a0_2 : Int) (a0_3 : List Int) (a0_4 : Int) (a1_0 : Int) (a1_1 : Int) (a1_2 : Int) (a1_3 : List Int) (a1_4 : Int) : Option (Bool) := brB (iNe a0_0 a1_0) (some false) (brB (iNe a0_1 a1_1) (some false) (brB (iNe a0_2 a1_2) (some false) (bnd (laws_eqIntS.f k a0_3 a1_3) fun y0 => brB (bNot y0) (some false) (brB (iNe a0_4 a1_4) (some false) (some true)))))
def sig : Sig := ⟨12, [.w true [I, I, I, .row I, I], .w true [I, I, I, .row I, I]], [(false, [.val .bool])]⟩
def H : Hints := ⟨[], [], [], [], false⟩
def spec : Spec := { sig := sig, fn := fun k (x : Int × Int × Int × List Int × Int × Int × Int × Int × List Int × Int) => f k x.1 x.2.1 x.2.2.1 x.2.2.2.1 x.2.2.2.2.1 x.2.2.2.2.2.1 x.2.2.2.2.2.2.1 x.2.2.2.2.2.2.2.1 x.2.2.2.2.2.2.2.2.1 x.2.2.2.2.2.2.2.2.2 }
theorem ok : Holds Go.Proofs.Try.prog spec := holds_of_run (G := [laws_eqIntS.spec]) (holds_cons laws_eqIntS.ok holds_nil) (by kernel_rfl) H Go.Proofs.Try.func12 (by kernel_rfl) (rfl : Go.Proofs.Try.f12.body = some _) (by kernel_rfl) (by kernel_rfl) fun k x y h => Eq.trans (by kernel_rfl : _ = spec.fn k x) h
end laws_eqGather

namespace laws_eqPacket
def f (k : Nat) (a0_0 : Int) (a0_1 : Int) (a0_2 : Int) (a0_3 : Int) (a0_4 : Int) (a0_5 : Int) (a0_6 : Int) (a0_7 : List Int) (a1_0 : Int) (a1_1 : Int) (a1_2 : Int) (a1_3 : Int) (a1_4 : Int) (a1_5 : Int) (a1_6 : Int) (a1_7 : List Int) : Option (Bool) := brB (iNe a0_0 a1_0) (some false) (brB (iNe a0_1 a1_1) (some false) (brB (iNe a0_2 a1_2) (some false) (brB (iNe a0_3 a1_3) (some false) (brB (iNe a0_4 a1_4) (some false) (brB (iNe a0_5 a1_5) (some false) (brB (iNe a0_6 a1_6) (some false) (bnd (laws_eqIntS.f k a0_7 a1_7) fun y0 => brB (bNot y0) (some false) (some true))))))))
def sig : Sig := ⟨25, [.w true [I, I, I, I, I, I, I, .row I], .w true [I, I, I, I, I, I, I, .row I]], [(false, [.val .bool])]⟩
def H : Hints := ⟨[], [], [], [], false⟩
def spec : Spec := { sig := sig, fn := fun k (x : Int × Int × Int × Int × Int × Int × Int × List Int × Int × Int × Int × Int × Int × Int × Int × List Int) => f k x.1 x.2.1 x.2.2.1 x.2.2.2.1 x.2.2.2.2.1 x.2.2.2.2.2.1 x.2.2.2.2.2.2.1 x.2.2.2.2.2.2.2.1 x.2.2.2.2.2.2.2.2.1 x.2.2.2.2.2.2.2.2.2.1 x.2.2.2.2.2.2.2.2.2.2.1 x.2.2.2.2.2.2.2.2.2.2.2.1 x.2.2.2.2.2.2.2.2.2.2.2.2.1 x.2.2.2.2.2.2.2.2.2.2.2.2.2.1 x.2.2.2.2.2.2.2.2.2.2.2.2.2.2.1 x.2.2.2.2.2.2.2.2.2.2.2.2.2.2.2 }
theorem ok : Holds Go.Proofs.Try.prog spec := holds_of_run (G := [laws_eqIntS.spec]) (holds_cons laws_eqIntS.ok holds_nil) (by kernel_rfl) H Go.Proofs.Try.func25 (by kernel_rfl) (rfl : Go.Proofs.Try.f25.body = some _) (by kernel_rfl) (by kernel_rfl) fun k x y h => Eq.trans (by kernel_rfl : _ = spec.fn k x) h
end laws_eqPacket

namespace laws_eqPacketS
def s0 (k : Nat) (rec0 : ((List (Int × Int × Int × Int × Int × Int × Int × List Int)) × (List (Int × Int × Int × Int × Int × Int × Int × List Int)) × Int) → Option (Bool)) (x0 : List (Int × Int × Int × Int × Int × Int × Int × List Int)) (x1 : List (Int × Int × Int × Int × Int × Int × Int × List Int)) (x2 : Int) : Option (Bool) := brB (iLt x2 (rLen x0)) (chk (cIdx x2 (rLen x0)) (chk (cIdx x2 (rLen x1)) (bnd (laws_eqPacket.f k ((rGet (0, 0, 0, 0, 0, 0, 0, []) x0 x2).1) (((rGet (0, 0, 0, 0, 0, 0, 0, []) x0 x2).2).1) ((((rGet (0, 0, 0, 0, 0, 0, 0, []) x0 x2).2).2).1) (((((rGet (0, 0, 0, 0, 0, 0, 0, []) x0 x2).2).2).2).1) ((((((rGet (0, 0, 0, 0, 0, 0, 0, []) x0 x2).2).2).2).2).1) (((((((rGet (0, 0, 0, 0, 0, 0, 0, []) x0 x2).2).2).2).2).2).1) ((((((((rGet (0, 0, 0, 0, 0, 0, 0, []) x0 x2).2).2).2).2).2).2).1) ((((((((rGet (0, 0, 0, 0, 0, 0, 0, []) x0 x2).2).2).2).2).2).2).2) ((rGet (0, 0, 0, 0, 0, 0, 0, []) x1 x2).1) (((rGet (0, 0, 0, 0, 0, 0, 0, []) x1 x2).2).1) ((((rGet (0, 0, 0, 0, 0, 0, 0, []) x1 x2).2).2).1) (((((rGet (0, 0, 0, 0, 0, 0, 0, []) x1 x2).2).2).2).1) ((((((rGet (0, 0, 0, 0, 0, 0, 0, []) x1 x2).2).2).2).2).1) (((((((rGet (0, 0, 0, 0, 0, 0, 0, []) x1 x2).2).2).2).2).2).1) ((((((((rGet (0, 0, 0, 0, 0, 0, 0, []) x1 x2).2).2).2).2).2).2).1) ((((((((rGet (0, 0, 0, 0, 0, 0, 0, []) x1 x2).2).2).2).2).2).2).2)) fun y0 => brB (bNot y0) (some false) (rec0 (x0, x1, iAdd .i64 x2 1))))) (some true)
def l0 (k n : Nat) (x0 : List (Int × Int × Int × Int × Int × Int × Int × List Int)) (x1 : List (Int × Int × Int × Int × Int × Int × Int × List Int)) (x2 : Int) : Option (Bool) := iter (fun (rec : ((List (Int × Int × Int × Int × Int × Int × Int × List Int)) × (List (Int × Int × Int × Int × Int × Int × Int × List Int)) × Int) → Option (Bool)) (x : (List (Int × Int × Int × Int × Int × Int × Int × List Int)) × (List (Int × Int × Int × Int × Int × Int × Int × List Int)) × Int) => s0 k rec x.1 x.2.1 x.2.2) n (x0, x1, x2)
def f (k : Nat) (a0 : List (Int × Int × Int × Int × Int × Int × Int × List Int)) (a1 : List (Int × Int × Int × Int × Int × Int × Int × List Int)) : Option (Bool) := brB (iNe (rLen a0) (rLen a1)) (some false) (l0 k k a0 a1 0)
def sig : Sig := ⟨33, [.w false [.row (.pair I (.pair I (.pair I (.pair I (.pair I (.pair I (.pair I (.row I))))))))], .w false [.row (.pair I (.pair I (.pair I (.pair I (.pair I (.pair I (.pair I (.row I))))))))]], [(false, [.val .bool])]⟩
def H : Hints := ⟨[(4, ⟨⟨[(0, .w false 1), (1, .w false 1), (5, .w false 1)], []⟩, [], [.val (.row (.pair I (.pair I (.pair I (.pair I (.pair I (.pair I (.pair I (.row I))))))))), .val (.row (.pair I (.pair I (.pair I (.pair I (.pair I (.pair I (.pair I (.row I))))))))), .val I], []⟩)], [], [(6, [0, 0, 3, 7, 0, 0, 48, 112, 255, 511])], [], false⟩
def spec : Spec := { sig := sig, fn := fun k (x : List (Int × Int × Int × Int × Int × Int × Int × List Int) × List (Int × Int × Int × Int × Int × Int × Int × List Int)) => f k x.1 x.2 }
theorem ok : Holds Go.Proofs.Try.prog spec := holds_of_run (G := [laws_eqPacket.spec]) (holds_cons laws_eqPacket.ok holds_nil) (by kernel_rfl) H Go.Proofs.Try.func33 (by kernel_rfl) (rfl : Go.Proofs.Try.f33.body = some _) (by kernel_rfl) (by kernel_rfl) fun k x y h => Eq.trans (by kernel_rfl : _ = spec.fn k x) h
end laws_eqPacketS

namespace laws_markIntS
def s0 (k : Nat) (rec0 : (List Int × Int × Int) → Option (Int × List Int)) (x0 : List Int) (x1 : Int) (x2 : Int) : Option (Int × List Int) := brB (iLt x2 (rLen x0)) (chk (cIdx x2 (rLen x0)) (rec0 (rSet x0 x2 x1, iAdd .i64 x1 1, iAdd .i64 x2 1))) (some (x1, x0))
def l0 (k n : Nat) (x0 : List Int) (x1 : Int) (x2 : Int) : Option (Int × List Int) := iter (fun (rec : (List Int × Int × Int) → Option (Int × List Int)) (x : List Int × Int × Int) => s0 k rec x.1 x.2.1 x.2.2) n (x0, x1, x2)
def f (k : Nat) (a0 : List Int) (a1 : Int) : Option (Int × List Int) := l0 k k a0 a1 0
def sig : Sig := ⟨56, [.mut false [.row I], .w false [I]], [(false, [.val I])]⟩
def H : Hints := ⟨[(2, ⟨⟨[(0, .w false 1), (1, .w false 1), (5, .w false 1)], []⟩, [], [.own I, .val I, .val I], [0]⟩)], [], [], [], true⟩
def spec : Spec := { sig := sig, fn := fun k (x : List Int × Int) => f k x.1 x.2 }
theorem ok : Holds Go.Proofs.Try.prog spec := holds_of_run (G := []) holds_nil (by kernel_rfl) H Go.Proofs.Try.func56 (by kernel_rfl) (rfl : Go.Proofs.Try.f56.body = some _) (by kernel_rfl) (by kernel_rfl) fun k x y h => Eq.trans (by kernel_rfl : _ = spec.fn k x) h
end laws_markIntS

namespace laws_markGather
def f (k : Nat) (a0_0 : Int) (a0_1 : Int) (a0_2 : Int) (a0_3 : List Int) (a0_4 : Int) (a1 : Int) : Option (Int × List Int) := bnd (laws_markIntS.f k a0_3 a1) fun p => (fun y0 y1 => some (y0, y1)) p.1 p.2
def sig : Sig := ⟨27, [.mut true [I, I, I, .row I, I], .w false [I]], [(false, [.val I])]⟩
def H : Hints := ⟨[], [], [], [], true⟩
def spec : Spec := { sig := sig, fn := fun k (x : Int × Int × Int × List Int × Int × Int) => f k x.1 x.2.1 x.2.2.1 x.2.2.2.1 x.2.2.2.2.1 x.2.2.2.2.2 }
theorem ok : Holds Go.Proofs.Try.prog spec := holds_of_run (G := [laws_markIntS.spec]) (holds_cons laws_markIntS.ok holds_nil) (by kernel_rfl) H Go.Proofs.Try.func27 (by kernel_rfl) (rfl : Go.Proofs.Try.f27.body = some _) (by kernel_rfl) (by kernel_rfl) fun k x y h => Eq.trans (by kernel_rfl : _ = spec.fn k x) h
end laws_markGather

namespace laws_markPacketS
def s0 (k : Nat) (rec0 : ((List (Int × Int × Int × Int × Int × Int × Int × List Int)) × Int × Int) → Option (Int × List (Int × Int × Int × Int × Int × Int × Int × List Int))) (x0 : List (Int × Int × Int × Int × Int × Int × Int × List Int)) (x1 : Int) (x2 : Int) : Option (Int × List (Int × Int × Int × Int × Int × Int × Int × List Int)) := brB (iLt x2 (rLen x0)) (chk (cIdx x2 (rLen x0)) (nam (rSet x0 x2 (x1, ((rGet (0, 0, 0, 0, 0, 0, 0, []) x0 x2).2).1, (((rGet (0, 0, 0, 0, 0, 0, 0, []) x0 x2).2).2).1, ((((rGet (0, 0, 0, 0, 0, 0, 0, []) x0 x2).2).2).2).1, (((((rGet (0, 0, 0, 0, 0, 0, 0, []) x0 x2).2).2).2).2).1, ((((((rGet (0, 0, 0, 0, 0, 0, 0, []) x0 x2).2).2).2).2).2).1, (((((((rGet (0, 0, 0, 0, 0, 0, 0, []) x0 x2).2).2).2).2).2).2).1, (((((((rGet (0, 0, 0, 0, 0, 0, 0, []) x0 x2).2).2).2).2).2).2).2)) fun y0 => chk (cIdx x2 (rLen y0)) (nam (rSet y0 x2 ((rGet (0, 0, 0, 0, 0, 0, 0, []) y0 x2).1, iAdd .i64 x1 1, (((rGet (0, 0, 0, 0, 0, 0, 0, []) y0 x2).2).2).1, ((((rGet (0, 0, 0, 0, 0, 0, 0, []) y0 x2).2).2).2).1, (((((rGet (0, 0, 0, 0, 0, 0, 0, []) y0 x2).2).2).2).2).1, ((((((rGet (0, 0, 0, 0, 0, 0, 0, []) y0 x2).2).2).2).2).2).1, (((((((rGet (0, 0, 0, 0, 0, 0, 0, []) y0 x2).2).2).2).2).2).2).1, (((((((rGet (0, 0, 0, 0, 0, 0, 0, []) y0 x2).2).2).2).2).2).2).2)) fun y1 => chk (cIdx x2 (rLen y1)) (nam (rSet y1 x2 ((rGet (0, 0, 0, 0, 0, 0, 0, []) y1 x2).1, ((rGet (0, 0, 0, 0, 0, 0, 0, []) y1 x2).2).1, iAdd .i64 (iAdd .i64 x1 1) 1, ((((rGet (0, 0, 0, 0, 0, 0, 0, []) y1 x2).2).2).2).1, (((((rGet (0, 0, 0, 0, 0, 0, 0, []) y1 x2).2).2).2).2).1, ((((((rGet (0, 0, 0, 0, 0, 0, 0, []) y1 x2).2).2).2).2).2).1, (((((((rGet (0, 0, 0, 0, 0, 0, 0, []) y1 x2).2).2).2).2).2).2).1, (((((((rGet (0, 0, 0, 0, 0, 0, 0, []) y1 x2).2).2).2).2).2).2).2)) fun y2 => chk (cIdx x2 (rLen y2)) (nam (rSet y2 x2 ((rGet (0, 0, 0, 0, 0, 0, 0, []) y2 x2).1, ((rGet (0, 0, 0, 0, 0, 0, 0, []) y2 x2).2).1, (((rGet (0, 0, 0, 0, 0, 0, 0, []) y2 x2).2).2).1, iAdd .i64 (iAdd .i64 (iAdd .i64 x1 1) 1) 1, (((((rGet (0, 0, 0, 0, 0, 0, 0, []) y2 x2).2).2).2).2).1, ((((((rGet (0, 0, 0, 0, 0, 0, 0, []) y2 x2).2).2).2).2).2).1, (((((((rGet (0, 0, 0, 0, 0, 0, 0, []) y2 x2).2).2).2).2).2).2).1, (((((((rGet (0, 0, 0, 0, 0, 0, 0, []) y2 x2).2).2).2).2).2).2).2)) fun y3 => chk (cIdx x2 (rLen y3)) (nam (rSet y3 x2 ((rGet (0, 0, 0, 0, 0, 0, 0, []) y3 x2).1, ((rGet (0, 0, 0, 0, 0, 0, 0, []) y3 x2).2).1, (((rGet (0, 0, 0, 0, 0, 0, 0, []) y3 x2).2).2).1, ((((rGet (0, 0, 0, 0, 0, 0, 0, []) y3 x2).2).2).2).1, iAdd .i64 (iAdd .i64 (iAdd .i64 (iAdd .i64 x1 1) 1) 1) 1, ((((((rGet (0, 0, 0, 0, 0, 0, 0, []) y3 x2).2).2).2).2).2).1, (((((((rGet (0, 0, 0, 0, 0, 0, 0, []) y3 x2).2).2).2).2).2).2).1, (((((((rGet (0, 0, 0, 0, 0, 0, 0, []) y3 x2).2).2).2).2).2).2).2)) fun y4 => chk (cIdx x2 (rLen y4)) (nam (rSet y4 x2 ((rGet (0, 0, 0, 0, 0, 0, 0, []) y4 x2).1, ((rGet (0, 0, 0, 0, 0, 0, 0, []) y4 x2).2).1, (((rGet (0, 0, 0, 0, 0, 0, 0, []) y4 x2).2).2).1, ((((rGet (0, 0, 0, 0, 0, 0, 0, []) y4 x2).2).2).2).1, (((((rGet (0, 0, 0, 0, 0, 0, 0, []) y4 x2).2).2).2).2).1, iAdd .i64 (iAdd .i64 (iAdd .i64 (iAdd .i64 (iAdd .i64 x1 1) 1) 1) 1) 1, (((((((rGet (0, 0, 0, 0, 0, 0, 0, []) y4 x2).2).2).2).2).2).2).1, (((((((rGet (0, 0, 0, 0, 0, 0, 0, []) y4 x2).2).2).2).2).2).2).2)) fun y5 => chk (cIdx x2 (rLen y5)) (nam (rSet y5 x2 ((rGet (0, 0, 0, 0, 0, 0, 0, []) y5 x2).1, ((rGet (0, 0, 0, 0, 0, 0, 0, []) y5 x2).2).1, (((rGet (0, 0, 0, 0, 0, 0, 0, []) y5 x2).2).2).1, ((((rGet (0, 0, 0, 0, 0, 0, 0, []) y5 x2).2).2).2).1, (((((rGet (0, 0, 0, 0, 0, 0, 0, []) y5 x2).2).2).2).2).1, ((((((rGet (0, 0, 0, 0, 0, 0, 0, []) y5 x2).2).2).2).2).2).1, iAdd .i64 (iAdd .i64 (iAdd .i64 (iAdd .i64 (iAdd .i64 (iAdd .i64 x1 1) 1) 1) 1) 1) 1, (((((((rGet (0, 0, 0, 0, 0, 0, 0, []) y5 x2).2).2).2).2).2).2).2)) fun y6 => chk (cIdx x2 (rLen y6)) (bnd (laws_markIntS.f k ((((((((rGet (0, 0, 0, 0, 0, 0, 0, []) y6 x2).2).2).2).2).2).2).2) (iAdd .i64 (iAdd .i64 (iAdd .i64 (iAdd .i64 (iAdd .i64 (iAdd .i64 (iAdd .i64 x1 1) 1) 1) 1) 1) 1) 1)) fun p => (fun y7 y8 => nam (rSet y6 x2 ((rGet (0, 0, 0, 0, 0, 0, 0, []) y6 x2).1, ((rGet (0, 0, 0, 0, 0, 0, 0, []) y6 x2).2).1, (((rGet (0, 0, 0, 0, 0, 0, 0, []) y6 x2).2).2).1, ((((rGet (0, 0, 0, 0, 0, 0, 0, []) y6 x2).2).2).2).1, (((((rGet (0, 0, 0, 0, 0, 0, 0, []) y6 x2).2).2).2).2).1, ((((((rGet (0, 0, 0, 0, 0, 0, 0, []) y6 x2).2).2).2).2).2).1, (((((((rGet (0, 0, 0, 0, 0, 0, 0, []) y6 x2).2).2).2).2).2).2).1, y8)) fun y9 => rec0 (y9, y7, iAdd .i64 x2 1)) p.1 p.2))))))))) (some (x1, x0))
def l0 (k n : Nat) (x0 : List (Int × Int × Int × Int × Int × Int × Int × List Int)) (x1 : Int) (x2 : Int) : Option (Int × List (Int × Int × Int × Int × Int × Int × Int × List Int)) := iter (fun (rec : ((List (Int × Int × Int × Int × Int × Int × Int × List Int)) × Int × Int) → Option (Int × List (Int × Int × Int × Int × Int × Int × Int × List Int))) (x : (List (Int × Int × Int × Int × Int × Int × Int × List Int)) × Int × Int) => s0 k rec x.1 x.2.1 x.2.2) n (x0, x1, x2)
def f (k : Nat) (a0 : List (Int × Int × Int × Int × Int × Int × Int × List Int)) (a1 : Int) : Option (Int × List (Int × Int × Int × Int × Int × Int × Int × List Int)) := l0 k k a0 a1 0
def sig : Sig := ⟨34, [.mut false [.row (.pair I (.pair I (.pair I (.pair I (.pair I (.pair I (.pair I (.row I))))))))], .w false [I]], [(false, [.val I])]⟩
def H : Hints := ⟨[(2, ⟨⟨[(0, .w false 1), (1, .w false 1), (5, .w false 1)], []⟩, [], [.own (.deep none (.pair I (.pair I (.pair I (.pair I (.pair I (.pair I (.pair I (.row I))))))))), .val I, .val I], [0]⟩)], [], [], [], true⟩
def spec : Spec := { sig := sig, fn := fun k (x : List (Int × Int × Int × Int × Int × Int × Int × List Int) × Int) => f k x.1 x.2 }
theorem ok : Holds Go.Proofs.Try.prog spec := holds_of_run (G := [laws_markIntS.spec]) (holds_cons laws_markIntS.ok holds_nil) (by kernel_rfl) H Go.Proofs.Try.func34 (by kernel_rfl) (rfl : Go.Proofs.Try.f34.body = some _) (by kernel_rfl) (by kernel_rfl) fun k x y h => Eq.trans (by kernel_rfl : _ = spec.fn k x) h
end laws_markPacketS

namespace laws_heldIntS
def s0 (k : Nat) (rec0 : (List Int × Int × Int) → Option (Int)) (x0 : List Int) (x1 : Int) (x2 : Int) : Option (Int) := brB (iLt x2 (rLen x0)) (chk (cIdx x2 (rLen x0)) (brB (iNe (rGet 0 x0 x2) x1) (some (-1)) (rec0 (x0, iAdd .i64 x1 1, iAdd .i64 x2 1)))) (some x1)
def l0 (k n : Nat) (x0 : List Int) (x1 : Int) (x2 : Int) : Option (Int) := iter (fun (rec : (List Int × Int × Int) → Option (Int)) (x : List Int × Int × Int) => s0 k rec x.1 x.2.1 x.2.2) n (x0, x1, x2)
def f (k : Nat) (a0 : List Int) (a1 : Int) : Option (Int) := l0 k k a0 a1 0
def sig : Sig := ⟨57, [.w false [.row I], .w false [I]], [(false, [.val I])]⟩
def H : Hints := ⟨[(2, ⟨⟨[(0, .w false 1), (1, .w false 1), (5, .w false 1)], []⟩, [], [.val (.row I), .val I, .val I], []⟩)], [], [], [], false⟩
def spec : Spec := { sig := sig, fn := fun k (x : List Int × Int) => f k x.1 x.2 }
theorem ok : Holds Go.Proofs.Try.prog spec := holds_of_run (G := []) holds_nil (by kernel_rfl) H Go.Proofs.Try.func57 (by kernel_rfl) (rfl : Go.Proofs.Try.f57.body = some _) (by kernel_rfl) (by kernel_rfl) fun k x y h => Eq.trans (by kernel_rfl : _ = spec.fn k x) h
end laws_heldIntS

namespace laws_heldGather
def f (k : Nat) (a0_0 : Int) (a0_1 : Int) (a0_2 : Int) (a0_3 : List Int) (a0_4 : Int) (a1 : Int) : Option (Int) := bnd (laws_heldIntS.f k a0_3 a1) fun y0 => brB (iLt y0 0) (some (-1)) (some y0)
def sig : Sig := ⟨28, [.w true [I, I, I, .row I, I], .w false [I]], [(false, [.val I])]⟩
def H : Hints := ⟨[], [], [], [], false⟩
def spec : Spec := { sig := sig, fn := fun k (x : Int × Int × Int × List Int × Int × Int) => f k x.1 x.2.1 x.2.2.1 x.2.2.2.1 x.2.2.2.2.1 x.2.2.2.2.2 }
theorem ok : Holds Go.Proofs.Try.prog spec := holds_of_run (G := [laws_heldIntS.spec]) (holds_cons laws_heldIntS.ok holds_nil) (by kernel_rfl) H Go.Proofs.Try.func28 (by kernel_rfl) (rfl : Go.Proofs.Try.f28.body = some _) (by kernel_rfl) (by kernel_rfl) fun k x y h => Eq.trans (by kernel_rfl : _ = spec.fn k x) h
end laws_heldGather

namespace laws_FnExactGatherAll
def f (k : Nat) (a0_0 : Int) (a0_1 : Int) (a0_2 : Int) (a0_3 : List Int) (a0_4 : Int) (a1 : List (Int × Int × Int × Int × Int × Int × Int × List Int)) : Option (Bool) := bnd (laws_szGather.f k a0_0 a0_1 a0_2 a0_3 a0_4 1048576) fun y0 => brB (iLt y0 0) (some true) (bnd (laws_szPacketS.f k a1 y0) fun y1 => brB (iLt y1 0) (some true) (bnd (laws_toGather.f k a0_0 a0_1 a0_2 a0_3 a0_4) fun p => (fun y2 y3 y4 y5 y6 => bnd (laws_toPacketS.f k a1) fun y7 => bnd (spec_GatherAll.f k y2 y3 y4 y5 y6 y7) fun p => (fun y8 y9 y10 y11 y12 => bnd (laws_toGather.f k a0_0 a0_1 a0_2 a0_3 a0_4) fun p => (fun y13 y14 y15 y16 y17 => bnd (laws_toPacketS.f k a1) fun y18 => bnd (impl_GatherAll.f k y13 y14 y15 y16 y17 y18) fun p => (fun y19 y20 y21 y22 y23 => bnd (laws_eqGather.f k y19 y20 y21 y22 y23 y8 y9 y10 y11 y12) fun y24 => brB (bNot y24) (some false) (bnd (laws_toGather.f k a0_0 a0_1 a0_2 a0_3 a0_4) fun p => (fun y25 y26 y27 y28 y29 => bnd (laws_eqGather.f k y13 y14 y15 y16 y17 y25 y26 y27 y28 y29) fun y30 => brB (bNot y30) (some false) (bnd (laws_toPacketS.f k a1) fun y31 => bnd (laws_eqPacketS.f k y18 y31) fun y32 => brB (bNot y32) (some false) (bnd (laws_markGather.f k y13 y14 y15 y16 y17 1) fun p => (fun y33 y34 => bnd (laws_markPacketS.f k y18 y33) fun p => (fun y35 y36 => brB (iLt y35 0) (some false) (bnd (laws_eqGather.f k y19 y20 y21 y22 y23 y8 y9 y10 y11 y12) fun y37 => brB (bNot y37) (some false) (bnd (laws_markGather.f k y19 y20 y21 y22 y23 1) fun p => (fun y38 y39 => bnd (laws_heldGather.f k y19 y20 y21 y39 y23 1) fun y40 => brB (iLt y40 0) (some false) (brB (iNe y40 y38) (some false) (bnd (laws_toGather.f k a0_0 a0_1 a0_2 a0_3 a0_4) fun p => (fun y41 y42 y43 y44 y45 => bnd (laws_toPacketS.f k a1) fun y46 => bnd (impl_GatherAll.f k y41 y42 y43 y44 y45 y46) fun p => (fun y47 y48 y49 y50 y51 => bnd (laws_eqGather.f k y47 y48 y49 y50 y51 y8 y9 y10 y11 y12) fun y52 => brB (bNot y52) (some false) (bnd (laws_heldGather.f k y19 y20 y21 y39 y23 1) fun y53 => brB (iLt y53 0) (some false) (brB (iNe y53 y38) (some false) (some true)))) p.1 p.2.1 p.2.2.1 p.2.2.2.1 p.2.2.2.2) p.1 p.2.1 p.2.2.1 p.2.2.2.1 p.2.2.2.2))) p.1 p.2))) p.1 p.2) p.1 p.2))) p.1 p.2.1 p.2.2.1 p.2.2.2.1 p.2.2.2.2)) p.1 p.2.1 p.2.2.1 p.2.2.2.1 p.2.2.2.2) p.1 p.2.1 p.2.2.1 p.2.2.2.1 p.2.2.2.2) p.1 p.2.1 p.2.2.1 p.2.2.2.1 p.2.2.2.2) p.1 p.2.1 p.2.2.1 p.2.2.2.1 p.2.2.2.2))
def sig : Sig := ⟨7, [.w true [I, I, I, .row I, I], .w false [.row (.pair I (.pair I (.pair I (.pair I (.pair I (.pair I (.pair I (.row I))))))))]], [(false, [.val .bool])]⟩
def H : Hints := ⟨[], [], [(14, [0, 0, 2, 7, 15])], [], true⟩
def spec : Spec := { sig := sig, fn := fun k (x : Int × Int × Int × List Int × Int × List (Int × Int × Int × Int × Int × Int × Int × List Int)) => f k x.1 x.2.1 x.2.2.1 x.2.2.2.1 x.2.2.2.2.1 x.2.2.2.2.2 }
theorem ok : Holds Go.Proofs.Try.prog spec := holds_of_run (G := [laws_szGather.spec, laws_szPacketS.spec, laws_toGather.spec, laws_toPacketS.spec, spec_GatherAll.spec, impl_GatherAll.spec, laws_eqGather.spec, laws_eqPacketS.spec, laws_markGather.spec, laws_markPacketS.spec, laws_heldGather.spec]) (holds_cons laws_szGather.ok (holds_cons laws_szPacketS.ok (holds_cons laws_toGather.ok (holds_cons laws_toPacketS.ok (holds_cons spec_GatherAll.ok (holds_cons impl_GatherAll.ok (holds_cons laws_eqGather.ok (holds_cons laws_eqPacketS.ok (holds_cons laws_markGather.ok (holds_cons laws_markPacketS.ok (holds_cons laws_heldGather.ok holds_nil))))))))))) (by kernel_rfl) H Go.Proofs.Try.func7 (by kernel_rfl) (rfl : Go.Proofs.Try.f7.body = some _) (by kernel_rfl) (by kernel_rfl) fun k x y h => Eq.trans (by kernel_rfl : _ = spec.fn k x) h
end laws_FnExactGatherAll

end
end Go.Proofs.YtgcpodpgliifgaaT
