/- The functions of the program, as they compute: printed by a program of the session (wip/gen), each with its contract. -/
import Derived.Test.YtbmfjpflhbhhdaaProg
import Derived.Test.YtbmfjpflhbhhdaaTiAI
set_option linter.unusedVariables false
set_option maxRecDepth 100000
namespace Go.Proofs.YtbmfjpflhbhhdaaT
open Go
abbrev I : Ty := .int .i64
noncomputable section
namespace laws_szBoolS
def f (k : Nat) (a0 : List Bool) (a1 : Int) : Option (Int) := brB (iLt (iSub .i64 a1 (rLen a0)) 0) (some (-1)) (some (iSub .i64 a1 (rLen a0)))
def sig : Sig := ⟨97, [.w false [.row .bool], .w false [I]], [(false, [.val I])]⟩
def H : Hints := ⟨[], [], [], [], false⟩
def spec : Spec := { sig := sig, fn := fun k (x : List Bool × Int) => f k x.1 x.2 }
theorem ok : Holds Go.Proofs.Try.prog spec := holds_of_run (G := []) holds_nil (by kernel_rfl) H Go.Proofs.Try.func97 (by kernel_rfl) (rfl : Go.Proofs.Try.f97.body = some _) (by kernel_rfl) (by kernel_rfl) fun k x y h => Eq.trans (by kernel_rfl : _ = spec.fn k x) h
end laws_szBoolS

namespace laws_szTags
def f (k : Nat) (a0 : List Bool) (a1 : Int) : Option (Int) := bnd (laws_szBoolS.f k a0 a1) fun y0 => brB (iLt y0 0) (some (-1)) (some y0)
def sig : Sig := ⟨47, [.w true [.row .bool], .w false [I]], [(false, [.val I])]⟩
def H : Hints := ⟨[], [], [], [], false⟩
def spec : Spec := { sig := sig, fn := fun k (x : List Bool × Int) => f k x.1 x.2 }
theorem ok : Holds Go.Proofs.Try.prog spec := holds_of_run (G := [laws_szBoolS.spec]) (holds_cons laws_szBoolS.ok holds_nil) (by kernel_rfl) H Go.Proofs.Try.func47 (by kernel_rfl) (rfl : Go.Proofs.Try.f47.body = some _) (by kernel_rfl) (by kernel_rfl) fun k x y h => Eq.trans (by kernel_rfl : _ = spec.fn k x) h
end laws_szTags

namespace laws_szIntS
def f (k : Nat) (a0 : List Int) (a1 : Int) : Option (Int) := brB (iLt (iSub .i64 a1 (rLen a0)) 0) (some (-1)) (some (iSub .i64 a1 (rLen a0)))
def sig : Sig := ⟨89, [.w false [.row I], .w false [I]], [(false, [.val I])]⟩
def H : Hints := ⟨[], [], [], [], false⟩
def spec : Spec := { sig := sig, fn := fun k (x : List Int × Int) => f k x.1 x.2 }
theorem ok : Holds Go.Proofs.Try.prog spec := holds_of_run (G := []) holds_nil (by kernel_rfl) H Go.Proofs.Try.func89 (by kernel_rfl) (rfl : Go.Proofs.Try.f89.body = some _) (by kernel_rfl) (by kernel_rfl) fun k x y h => Eq.trans (by kernel_rfl : _ = spec.fn k x) h
end laws_szIntS

namespace laws_szGather
def f (k : Nat) (a0_0 : Int) (a0_1 : Int) (a0_2 : Int) (a0_3 : List Int) (a0_4 : Int) (a1 : Int) : Option (Int) := bnd (laws_szIntS.f k a0_3 a1) fun y0 => brB (iLt y0 0) (some (-1)) (some y0)
def sig : Sig := ⟨99, [.w true [I, I, I, .row I, I], .w false [I]], [(false, [.val I])]⟩
def H : Hints := ⟨[], [], [], [], false⟩
def spec : Spec := { sig := sig, fn := fun k (x : Int × Int × Int × List Int × Int × Int) => f k x.1 x.2.1 x.2.2.1 x.2.2.2.1 x.2.2.2.2.1 x.2.2.2.2.2 }
theorem ok : Holds Go.Proofs.Try.prog spec := holds_of_run (G := [laws_szIntS.spec]) (holds_cons laws_szIntS.ok holds_nil) (by kernel_rfl) H Go.Proofs.Try.func99 (by kernel_rfl) (rfl : Go.Proofs.Try.f99.body = some _) (by kernel_rfl) (by kernel_rfl) fun k x y h => Eq.trans (by kernel_rfl : _ = spec.fn k x) h
end laws_szGather

namespace laws_szWaiting
def f (k : Nat) (a0_0 : Int) (a0_1 : Int) (a0_2 : Int) (a0_3 : List Int) (a0_4 : Int) (a0_5 : Int) (a1 : Int) : Option (Int) := bnd (laws_szGather.f k a0_0 a0_1 a0_2 a0_3 a0_4 a1) fun y0 => brB (iLt y0 0) (some (-1)) (some y0)
def sig : Sig := ⟨98, [.w true [I, I, I, .row I, I, I], .w false [I]], [(false, [.val I])]⟩
def H : Hints := ⟨[], [], [], [], false⟩
def spec : Spec := { sig := sig, fn := fun k (x : Int × Int × Int × List Int × Int × Int × Int) => f k x.1 x.2.1 x.2.2.1 x.2.2.2.1 x.2.2.2.2.1 x.2.2.2.2.2.1 x.2.2.2.2.2.2 }
theorem ok : Holds Go.Proofs.Try.prog spec := holds_of_run (G := [laws_szGather.spec]) (holds_cons laws_szGather.ok holds_nil) (by kernel_rfl) H Go.Proofs.Try.func98 (by kernel_rfl) (rfl : Go.Proofs.Try.f98.body = some _) (by kernel_rfl) (by kernel_rfl) fun k x y h => Eq.trans (by kernel_rfl : _ = spec.fn k x) h
end laws_szWaiting

namespace laws_szWaitingS
def s0 (k : Nat) (rec0 : ((List (Int × Int × Int × (List Int) × Int × Int)) × Int × Int) → Option (Int)) (x0 : List (Int × Int × Int × (List Int) × Int × Int)) (x1 : Int) (x2 : Int) : Option (Int) := brB (iLt x2 (rLen x0)) (chk (cIdx x2 (rLen x0)) (bnd (laws_szWaiting.f k ((rGet (0, 0, 0, [], 0, 0) x0 x2).1) (((rGet (0, 0, 0, [], 0, 0) x0 x2).2).1) ((((rGet (0, 0, 0, [], 0, 0) x0 x2).2).2).1) (((((rGet (0, 0, 0, [], 0, 0) x0 x2).2).2).2).1) ((((((rGet (0, 0, 0, [], 0, 0) x0 x2).2).2).2).2).1) ((((((rGet (0, 0, 0, [], 0, 0) x0 x2).2).2).2).2).2) x1) fun y0 => brB (iLt y0 0) (some (-1)) (rec0 (x0, y0, iAdd .i64 x2 1)))) (some x1)
def l0 (k n : Nat) (x0 : List (Int × Int × Int × (List Int) × Int × Int)) (x1 : Int) (x2 : Int) : Option (Int) := iter (fun (rec : ((List (Int × Int × Int × (List Int) × Int × Int)) × Int × Int) → Option (Int)) (x : (List (Int × Int × Int × (List Int) × Int × Int)) × Int × Int) => s0 k rec x.1 x.2.1 x.2.2) n (x0, x1, x2)
def f (k : Nat) (a0 : List (Int × Int × Int × (List Int) × Int × Int)) (a1 : Int) : Option (Int) := brB (iLt (iSub .i64 a1 (rLen a0)) 0) (some (-1)) (l0 k k a0 (iSub .i64 a1 (rLen a0)) 0)
def sig : Sig := ⟨48, [.w false [.row (.pair I (.pair I (.pair I (.pair (.row I) (.pair I I)))))], .w false [I]], [(false, [.val I])]⟩
def H : Hints := ⟨[(5, ⟨⟨[(0, .w false 1), (1, .w false 1), (5, .w false 1)], []⟩, [], [.val (.row (.pair I (.pair I (.pair I (.pair (.row I) (.pair I I)))))), .val I, .val I], []⟩)], [], [], [], false⟩
def spec : Spec := { sig := sig, fn := fun k (x : List (Int × Int × Int × (List Int) × Int × Int) × Int) => f k x.1 x.2 }
theorem ok : Holds Go.Proofs.Try.prog spec := holds_of_run (G := [laws_szWaiting.spec]) (holds_cons laws_szWaiting.ok holds_nil) (by kernel_rfl) H Go.Proofs.Try.func48 (by kernel_rfl) (rfl : Go.Proofs.Try.f48.body = some _) (by kernel_rfl) (by kernel_rfl) fun k x y h => Eq.trans (by kernel_rfl : _ = spec.fn k x) h
end laws_szWaitingS

namespace laws_szGatherS
def s0 (k : Nat) (rec0 : ((List (Int × Int × Int × (List Int) × Int)) × Int × Int) → Option (Int)) (x0 : List (Int × Int × Int × (List Int) × Int)) (x1 : Int) (x2 : Int) : Option (Int) := brB (iLt x2 (rLen x0)) (chk (cIdx x2 (rLen x0)) (bnd (laws_szGather.f k ((rGet (0, 0, 0, [], 0) x0 x2).1) (((rGet (0, 0, 0, [], 0) x0 x2).2).1) ((((rGet (0, 0, 0, [], 0) x0 x2).2).2).1) (((((rGet (0, 0, 0, [], 0) x0 x2).2).2).2).1) (((((rGet (0, 0, 0, [], 0) x0 x2).2).2).2).2) x1) fun y0 => brB (iLt y0 0) (some (-1)) (rec0 (x0, y0, iAdd .i64 x2 1)))) (some x1)
def l0 (k n : Nat) (x0 : List (Int × Int × Int × (List Int) × Int)) (x1 : Int) (x2 : Int) : Option (Int) := iter (fun (rec : ((List (Int × Int × Int × (List Int) × Int)) × Int × Int) → Option (Int)) (x : (List (Int × Int × Int × (List Int) × Int)) × Int × Int) => s0 k rec x.1 x.2.1 x.2.2) n (x0, x1, x2)
def f (k : Nat) (a0 : List (Int × Int × Int × (List Int) × Int)) (a1 : Int) : Option (Int) := brB (iLt (iSub .i64 a1 (rLen a0)) 0) (some (-1)) (l0 k k a0 (iSub .i64 a1 (rLen a0)) 0)
def sig : Sig := ⟨49, [.w false [.row (.pair I (.pair I (.pair I (.pair (.row I) I))))], .w false [I]], [(false, [.val I])]⟩
def H : Hints := ⟨[(5, ⟨⟨[(0, .w false 1), (1, .w false 1), (5, .w false 1)], []⟩, [], [.val (.row (.pair I (.pair I (.pair I (.pair (.row I) I))))), .val I, .val I], []⟩)], [], [], [], false⟩
def spec : Spec := { sig := sig, fn := fun k (x : List (Int × Int × Int × (List Int) × Int) × Int) => f k x.1 x.2 }
theorem ok : Holds Go.Proofs.Try.prog spec := holds_of_run (G := [laws_szGather.spec]) (holds_cons laws_szGather.ok holds_nil) (by kernel_rfl) H Go.Proofs.Try.func49 (by kernel_rfl) (rfl : Go.Proofs.Try.f49.body = some _) (by kernel_rfl) (by kernel_rfl) fun k x y h => Eq.trans (by kernel_rfl : _ = spec.fn k x) h
end laws_szGatherS

namespace laws_szRequester
def f (k : Nat) (a0_0 : Int) (a0_1 : List Bool) (a0_2 : List (Int × Int × Int × (List Int) × Int × Int)) (a0_3 : List (Int × Int × Int × (List Int) × Int)) (a1 : Int) : Option (Int) := bnd (laws_szTags.f k a0_1 a1) fun y0 => brB (iLt y0 0) (some (-1)) (bnd (laws_szWaitingS.f k a0_2 y0) fun y1 => brB (iLt y1 0) (some (-1)) (bnd (laws_szGatherS.f k a0_3 y1) fun y2 => brB (iLt y2 0) (some (-1)) (some y2)))
def sig : Sig := ⟨15, [.w true [I, .row .bool, .row (.pair I (.pair I (.pair I (.pair (.row I) (.pair I I))))), .row (.pair I (.pair I (.pair I (.pair (.row I) I))))], .w false [I]], [(false, [.val I])]⟩
def H : Hints := ⟨[], [], [], [], false⟩
def spec : Spec := { sig := sig, fn := fun k (x : Int × List Bool × List (Int × Int × Int × (List Int) × Int × Int) × List (Int × Int × Int × (List Int) × Int) × Int) => f k x.1 x.2.1 x.2.2.1 x.2.2.2.1 x.2.2.2.2 }
theorem ok : Holds Go.Proofs.Try.prog spec := holds_of_run (G := [laws_szTags.spec, laws_szWaitingS.spec, laws_szGatherS.spec]) (holds_cons laws_szTags.ok (holds_cons laws_szWaitingS.ok (holds_cons laws_szGatherS.ok holds_nil))) (by kernel_rfl) H Go.Proofs.Try.func15 (by kernel_rfl) (rfl : Go.Proofs.Try.f15.body = some _) (by kernel_rfl) (by kernel_rfl) fun k x y h => Eq.trans (by kernel_rfl : _ = spec.fn k x) h
end laws_szRequester

namespace laws_toBoolS
def s0 (k : Nat) (rec0 : (List Bool × List Bool × Int) → Option (List Bool)) (x0 : List Bool) (x1 : List Bool) (x2 : Int) : Option (List Bool) := brB (iLt x2 (rLen x0)) (chk (cIdx x2 (rLen x0)) (chk (cIdx x2 (rLen x1)) (rec0 (x0, rSet x1 x2 (rGet false x0 x2), iAdd .i64 x2 1)))) (some x1)
def l0 (k n : Nat) (x0 : List Bool) (x1 : List Bool) (x2 : Int) : Option (List Bool) := iter (fun (rec : (List Bool × List Bool × Int) → Option (List Bool)) (x : List Bool × List Bool × Int) => s0 k rec x.1 x.2.1 x.2.2) n (x0, x1, x2)
def f (k : Nat) (a0 : List Bool) : Option (List Bool) := chk (cMake (rLen a0) (rLen a0) 1) (l0 k k a0 (rRep false (rLen a0)) 0)
def sig : Sig := ⟨101, [.w false [.row .bool]], [(false, [.own .bool])]⟩
def H : Hints := ⟨[(3, ⟨⟨[(0, .w false 1), (3, .w false 1), (4, .w false 1)], []⟩, [], [.val (.row .bool), .own .bool, .val I], []⟩)], [], [], [], true⟩
def spec : Spec := { sig := sig, fn := fun k (x : List Bool) => f k x }
theorem ok : Holds Go.Proofs.Try.prog spec := holds_of_run (G := []) holds_nil (by kernel_rfl) H Go.Proofs.Try.func101 (by kernel_rfl) (rfl : Go.Proofs.Try.f101.body = some _) (by kernel_rfl) (by kernel_rfl) fun k x y h => Eq.trans (by kernel_rfl : _ = spec.fn k x) h
end laws_toBoolS

namespace laws_toTags
def f (k : Nat) (a0 : List Bool) : Option (List Bool) := bnd (laws_toBoolS.f k a0) fun y0 => some y0
def sig : Sig := ⟨55, [.w true [.row .bool]], [(true, [.own .bool])]⟩
def H : Hints := ⟨[], [], [], [], true⟩
def spec : Spec := { sig := sig, fn := fun k (x : List Bool) => f k x }
theorem ok : Holds Go.Proofs.Try.prog spec := holds_of_run (G := [laws_toBoolS.spec]) (holds_cons laws_toBoolS.ok holds_nil) (by kernel_rfl) H Go.Proofs.Try.func55 (by kernel_rfl) (rfl : Go.Proofs.Try.f55.body = some _) (by kernel_rfl) (by kernel_rfl) fun k x y h => Eq.trans (by kernel_rfl : _ = spec.fn k x) h
end laws_toTags

namespace laws_toIntS
def s0 (k : Nat) (rec0 : (List Int × List Int × Int) → Option (List Int)) (x0 : List Int) (x1 : List Int) (x2 : Int) : Option (List Int) := brB (iLt x2 (rLen x0)) (chk (cIdx x2 (rLen x0)) (chk (cIdx x2 (rLen x1)) (rec0 (x0, rSet x1 x2 (rGet 0 x0 x2), iAdd .i64 x2 1)))) (some x1)
def l0 (k n : Nat) (x0 : List Int) (x1 : List Int) (x2 : Int) : Option (List Int) := iter (fun (rec : (List Int × List Int × Int) → Option (List Int)) (x : List Int × List Int × Int) => s0 k rec x.1 x.2.1 x.2.2) n (x0, x1, x2)
def f (k : Nat) (a0 : List Int) : Option (List Int) := chk (cMake (rLen a0) (rLen a0) 8) (l0 k k a0 (rRep 0 (rLen a0)) 0)
def sig : Sig := ⟨91, [.w false [.row I]], [(false, [.own I])]⟩
def H : Hints := ⟨[(3, ⟨⟨[(0, .w false 1), (3, .w false 1), (4, .w false 1)], []⟩, [], [.val (.row I), .own I, .val I], []⟩)], [], [], [], true⟩
def spec : Spec := { sig := sig, fn := fun k (x : List Int) => f k x }
theorem ok : Holds Go.Proofs.Try.prog spec := holds_of_run (G := []) holds_nil (by kernel_rfl) H Go.Proofs.Try.func91 (by kernel_rfl) (rfl : Go.Proofs.Try.f91.body = some _) (by kernel_rfl) (by kernel_rfl) fun k x y h => Eq.trans (by kernel_rfl : _ = spec.fn k x) h
end laws_toIntS

namespace laws_toGather
def f (k : Nat) (a0_0 : Int) (a0_1 : Int) (a0_2 : Int) (a0_3 : List Int) (a0_4 : Int) : Option (Int × Int × Int × List Int × Int) := bnd (laws_toIntS.f k a0_3) fun y0 => some (a0_0, a0_1, a0_2, y0, a0_4)
def sig : Sig := ⟨103, [.w true [I, I, I, .row I, I]], [(true, [.val I, .val I, .val I, .own I, .val I])]⟩
def H : Hints := ⟨[], [], [], [], true⟩
def spec : Spec := { sig := sig, fn := fun k (x : Int × Int × Int × List Int × Int) => f k x.1 x.2.1 x.2.2.1 x.2.2.2.1 x.2.2.2.2 }
theorem ok : Holds Go.Proofs.Try.prog spec := holds_of_run (G := [laws_toIntS.spec]) (holds_cons laws_toIntS.ok holds_nil) (by kernel_rfl) H Go.Proofs.Try.func103 (by kernel_rfl) (rfl : Go.Proofs.Try.f103.body = some _) (by kernel_rfl) (by kernel_rfl) fun k x y h => Eq.trans (by kernel_rfl : _ = spec.fn k x) h
end laws_toGather

namespace laws_toWaiting
def f (k : Nat) (a0_0 : Int) (a0_1 : Int) (a0_2 : Int) (a0_3 : List Int) (a0_4 : Int) (a0_5 : Int) : Option (Int × Int × Int × List Int × Int × Int) := bnd (laws_toGather.f k a0_0 a0_1 a0_2 a0_3 a0_4) fun p => (fun y0 y1 y2 y3 y4 => some (y0, y1, y2, y3, y4, a0_5)) p.1 p.2.1 p.2.2.1 p.2.2.2.1 p.2.2.2.2
def sig : Sig := ⟨102, [.w true [I, I, I, .row I, I, I]], [(true, [.val I, .val I, .val I, .own I, .val I, .val I])]⟩
def H : Hints := ⟨[], [], [], [], true⟩
def spec : Spec := { sig := sig, fn := fun k (x : Int × Int × Int × List Int × Int × Int) => f k x.1 x.2.1 x.2.2.1 x.2.2.2.1 x.2.2.2.2.1 x.2.2.2.2.2 }
theorem ok : Holds Go.Proofs.Try.prog spec := holds_of_run (G := [laws_toGather.spec]) (holds_cons laws_toGather.ok holds_nil) (by kernel_rfl) H Go.Proofs.Try.func102 (by kernel_rfl) (rfl : Go.Proofs.Try.f102.body = some _) (by kernel_rfl) (by kernel_rfl) fun k x y h => Eq.trans (by kernel_rfl : _ = spec.fn k x) h
end laws_toWaiting

namespace laws_toWaitingS
def s0 (k : Nat) (rec0 : ((List (Int × Int × Int × (List Int) × Int × Int)) × (List (Int × Int × Int × (List Int) × Int × Int)) × Int) → Option (List (Int × Int × Int × (List Int) × Int × Int))) (x0 : List (Int × Int × Int × (List Int) × Int × Int)) (x1 : List (Int × Int × Int × (List Int) × Int × Int)) (x2 : Int) : Option (List (Int × Int × Int × (List Int) × Int × Int)) := brB (iLt x2 (rLen x0)) (chk (cIdx x2 (rLen x0)) (bnd (laws_toWaiting.f k ((rGet (0, 0, 0, [], 0, 0) x0 x2).1) (((rGet (0, 0, 0, [], 0, 0) x0 x2).2).1) ((((rGet (0, 0, 0, [], 0, 0) x0 x2).2).2).1) (((((rGet (0, 0, 0, [], 0, 0) x0 x2).2).2).2).1) ((((((rGet (0, 0, 0, [], 0, 0) x0 x2).2).2).2).2).1) ((((((rGet (0, 0, 0, [], 0, 0) x0 x2).2).2).2).2).2)) fun p => (fun y0 y1 y2 y3 y4 y5 => chk (cIdx x2 (rLen x1)) (nam (rSet x1 x2 (y0, y1, y2, y3, y4, y5)) fun y6 => rec0 (x0, y6, iAdd .i64 x2 1))) p.1 p.2.1 p.2.2.1 p.2.2.2.1 p.2.2.2.2.1 p.2.2.2.2.2)) (some x1)
def l0 (k n : Nat) (x0 : List (Int × Int × Int × (List Int) × Int × Int)) (x1 : List (Int × Int × Int × (List Int) × Int × Int)) (x2 : Int) : Option (List (Int × Int × Int × (List Int) × Int × Int)) := iter (fun (rec : ((List (Int × Int × Int × (List Int) × Int × Int)) × (List (Int × Int × Int × (List Int) × Int × Int)) × Int) → Option (List (Int × Int × Int × (List Int) × Int × Int))) (x : (List (Int × Int × Int × (List Int) × Int × Int)) × (List (Int × Int × Int × (List Int) × Int × Int)) × Int) => s0 k rec x.1 x.2.1 x.2.2) n (x0, x1, x2)
def f (k : Nat) (a0 : List (Int × Int × Int × (List Int) × Int × Int)) : Option (List (Int × Int × Int × (List Int) × Int × Int)) := chk (cMake (rLen a0) (rLen a0) 64) (l0 k k a0 (rRep (0, 0, 0, [], 0, 0) (rLen a0)) 0)
def sig : Sig := ⟨56, [.w false [.row (.pair I (.pair I (.pair I (.pair (.row I) (.pair I I)))))]], [(false, [.own (.deep none (.pair I (.pair I (.pair I (.pair (.row I) (.pair I I))))))])]⟩
def H : Hints := ⟨[(3, ⟨⟨[(0, .w false 1), (3, .w false 1), (4, .w false 1)], []⟩, [], [.val (.row (.pair I (.pair I (.pair I (.pair (.row I) (.pair I I)))))), .own (.deep none (.pair I (.pair I (.pair I (.pair (.row I) (.pair I I)))))), .val I], []⟩)], [], [], [], true⟩
def spec : Spec := { sig := sig, fn := fun k (x : List (Int × Int × Int × (List Int) × Int × Int)) => f k x }
theorem ok : Holds Go.Proofs.Try.prog spec := holds_of_run (G := [laws_toWaiting.spec]) (holds_cons laws_toWaiting.ok holds_nil) (by kernel_rfl) H Go.Proofs.Try.func56 (by kernel_rfl) (rfl : Go.Proofs.Try.f56.body = some _) (by kernel_rfl) (by kernel_rfl) fun k x y h => Eq.trans (by kernel_rfl : _ = spec.fn k x) h
end laws_toWaitingS

namespace laws_toGatherS
def s0 (k : Nat) (rec0 : ((List (Int × Int × Int × (List Int) × Int)) × (List (Int × Int × Int × (List Int) × Int)) × Int) → Option (List (Int × Int × Int × (List Int) × Int))) (x0 : List (Int × Int × Int × (List Int) × Int)) (x1 : List (Int × Int × Int × (List Int) × Int)) (x2 : Int) : Option (List (Int × Int × Int × (List Int) × Int)) := brB (iLt x2 (rLen x0)) (chk (cIdx x2 (rLen x0)) (bnd (laws_toGather.f k ((rGet (0, 0, 0, [], 0) x0 x2).1) (((rGet (0, 0, 0, [], 0) x0 x2).2).1) ((((rGet (0, 0, 0, [], 0) x0 x2).2).2).1) (((((rGet (0, 0, 0, [], 0) x0 x2).2).2).2).1) (((((rGet (0, 0, 0, [], 0) x0 x2).2).2).2).2)) fun p => (fun y0 y1 y2 y3 y4 => chk (cIdx x2 (rLen x1)) (nam (rSet x1 x2 (y0, y1, y2, y3, y4)) fun y5 => rec0 (x0, y5, iAdd .i64 x2 1))) p.1 p.2.1 p.2.2.1 p.2.2.2.1 p.2.2.2.2)) (some x1)
def l0 (k n : Nat) (x0 : List (Int × Int × Int × (List Int) × Int)) (x1 : List (Int × Int × Int × (List Int) × Int)) (x2 : Int) : Option (List (Int × Int × Int × (List Int) × Int)) := iter (fun (rec : ((List (Int × Int × Int × (List Int) × Int)) × (List (Int × Int × Int × (List Int) × Int)) × Int) → Option (List (Int × Int × Int × (List Int) × Int))) (x : (List (Int × Int × Int × (List Int) × Int)) × (List (Int × Int × Int × (List Int) × Int)) × Int) => s0 k rec x.1 x.2.1 x.2.2) n (x0, x1, x2)
def f (k : Nat) (a0 : List (Int × Int × Int × (List Int) × Int)) : Option (List (Int × Int × Int × (List Int) × Int)) := chk (cMake (rLen a0) (rLen a0) 56) (l0 k k a0 (rRep (0, 0, 0, [], 0) (rLen a0)) 0)
def sig : Sig := ⟨57, [.w false [.row (.pair I (.pair I (.pair I (.pair (.row I) I))))]], [(false, [.own (.deep none (.pair I (.pair I (.pair I (.pair (.row I) I)))))])]⟩
def H : Hints := ⟨[(3, ⟨⟨[(0, .w false 1), (3, .w false 1), (4, .w false 1)], []⟩, [], [.val (.row (.pair I (.pair I (.pair I (.pair (.row I) I))))), .own (.deep none (.pair I (.pair I (.pair I (.pair (.row I) I))))), .val I], []⟩)], [], [], [], true⟩
def spec : Spec := { sig := sig, fn := fun k (x : List (Int × Int × Int × (List Int) × Int)) => f k x }
theorem ok : Holds Go.Proofs.Try.prog spec := holds_of_run (G := [laws_toGather.spec]) (holds_cons laws_toGather.ok holds_nil) (by kernel_rfl) H Go.Proofs.Try.func57 (by kernel_rfl) (rfl : Go.Proofs.Try.f57.body = some _) (by kernel_rfl) (by kernel_rfl) fun k x y h => Eq.trans (by kernel_rfl : _ = spec.fn k x) h
end laws_toGatherS

namespace laws_toRequester
def f (k : Nat) (a0_0 : Int) (a0_1 : List Bool) (a0_2 : List (Int × Int × Int × (List Int) × Int × Int)) (a0_3 : List (Int × Int × Int × (List Int) × Int)) : Option (Int × List Bool × List (Int × Int × Int × (List Int) × Int × Int) × List (Int × Int × Int × (List Int) × Int)) := bnd (laws_toTags.f k a0_1) fun y0 => bnd (laws_toWaitingS.f k a0_2) fun y1 => bnd (laws_toGatherS.f k a0_3) fun y2 => some (a0_0, y0, y1, y2)
def sig : Sig := ⟨17, [.w true [I, .row .bool, .row (.pair I (.pair I (.pair I (.pair (.row I) (.pair I I))))), .row (.pair I (.pair I (.pair I (.pair (.row I) I))))]], [(true, [.val I, .own .bool, .own (.deep none (.pair I (.pair I (.pair I (.pair (.row I) (.pair I I)))))), .own (.deep none (.pair I (.pair I (.pair I (.pair (.row I) I)))))])]⟩
def H : Hints := ⟨[], [], [], [], true⟩
def spec : Spec := { sig := sig, fn := fun k (x : Int × List Bool × List (Int × Int × Int × (List Int) × Int × Int) × List (Int × Int × Int × (List Int) × Int)) => f k x.1 x.2.1 x.2.2.1 x.2.2.2 }
theorem ok : Holds Go.Proofs.Try.prog spec := holds_of_run (G := [laws_toTags.spec, laws_toWaitingS.spec, laws_toGatherS.spec]) (holds_cons laws_toTags.ok (holds_cons laws_toWaitingS.ok (holds_cons laws_toGatherS.ok holds_nil))) (by kernel_rfl) H Go.Proofs.Try.func17 (by kernel_rfl) (rfl : Go.Proofs.Try.f17.body = some _) (by kernel_rfl) (by kernel_rfl) fun k x y h => Eq.trans (by kernel_rfl : _ = spec.fn k x) h
end laws_toRequester

namespace spec_l28Copy
def f (k : Nat) (a0 : List Bool) : Option (List Bool) := chk (cLen (rLen (rApp [] a0)) 1) (some (rApp [] a0))
def sig : Sig := ⟨118, [.w true [.row .bool]], [(true, [.own .bool])]⟩
def H : Hints := ⟨[], [], [], [], false⟩
def spec : Spec := { sig := sig, fn := fun k (x : List Bool) => f k x }
theorem ok : Holds Go.Proofs.Try.prog spec := holds_of_run (G := []) holds_nil (by kernel_rfl) H Go.Proofs.Try.func118 (by kernel_rfl) (rfl : Go.Proofs.Try.f118.body = some _) (by kernel_rfl) (by kernel_rfl) fun k x y h => Eq.trans (by kernel_rfl : _ = spec.fn k x) h
end spec_l28Copy

namespace spec_l27Copy
def f (k : Nat) (a0_0 : Int) (a0_1 : Int) (a0_2 : Int) (a0_3 : List Int) (a0_4 : Int) : Option (Int × Int × Int × List Int × Int) := chk (cLen (rLen (rApp [] a0_3)) 8) (some (a0_0, a0_1, a0_2, rApp [] a0_3, a0_4))
def sig : Sig := ⟨119, [.w true [I, I, I, .row I, I]], [(true, [.val I, .val I, .val I, .own I, .val I])]⟩
def H : Hints := ⟨[], [], [], [], false⟩
def spec : Spec := { sig := sig, fn := fun k (x : Int × Int × Int × List Int × Int) => f k x.1 x.2.1 x.2.2.1 x.2.2.2.1 x.2.2.2.2 }
theorem ok : Holds Go.Proofs.Try.prog spec := holds_of_run (G := []) holds_nil (by kernel_rfl) H Go.Proofs.Try.func119 (by kernel_rfl) (rfl : Go.Proofs.Try.f119.body = some _) (by kernel_rfl) (by kernel_rfl) fun k x y h => Eq.trans (by kernel_rfl : _ = spec.fn k x) h
end spec_l27Copy

namespace spec_l29Copy
def s1 (k : Nat) (rec1 : (Int × Int × List Bool × (List (Int × Int × Int × (List Int) × Int × Int)) × (List (Int × Int × Int × (List Int) × Int)) × Int × List Bool × (List (Int × Int × Int × (List Int) × Int × Int)) × (List (Int × Int × Int × (List Int) × Int)) × Int × List Bool × (List (Int × Int × Int × (List Int) × Int × Int)) × (List (Int × Int × Int × (List Int) × Int))) → Option (Int × List Bool × List (Int × Int × Int × (List Int) × Int × Int) × List (Int × Int × Int × (List Int) × Int))) (x13 : Int) (x14 : Int) (x15 : List Bool) (x16 : List (Int × Int × Int × (List Int) × Int × Int)) (x17 : List (Int × Int × Int × (List Int) × Int)) (x18 : Int) (x19 : List Bool) (x20 : List (Int × Int × Int × (List Int) × Int × Int)) (x21 : List (Int × Int × Int × (List Int) × Int)) (x22 : Int) (x23 : List Bool) (x24 : List (Int × Int × Int × (List Int) × Int × Int)) (x25 : List (Int × Int × Int × (List Int) × Int)) : Option (Int × List Bool × List (Int × Int × Int × (List Int) × Int × Int) × List (Int × Int × Int × (List Int) × Int)) := brB (iLt x13 (rLen x17)) (chk (cIdx x13 (rLen x17)) (bnd (spec_l27Copy.f k ((rGet (0, 0, 0, [], 0) x17 x13).1) (((rGet (0, 0, 0, [], 0) x17 x13).2).1) ((((rGet (0, 0, 0, [], 0) x17 x13).2).2).1) (((((rGet (0, 0, 0, [], 0) x17 x13).2).2).2).1) (((((rGet (0, 0, 0, [], 0) x17 x13).2).2).2).2)) fun p => (fun y6 y7 y8 y9 y10 => chk (cLen (rLen (rApp x25 [(y6, y7, y8, y9, y10)])) 56) (rec1 (iAdd .i64 x13 1, x14, x15, x16, x17, x18, x19, x20, x21, x22, x23, x24, rApp x25 [(y6, y7, y8, y9, y10)]))) p.1 p.2.1 p.2.2.1 p.2.2.2.1 p.2.2.2.2)) (some (x22, x23, x24, x25))
def l1 (k n : Nat) (x13 : Int) (x14 : Int) (x15 : List Bool) (x16 : List (Int × Int × Int × (List Int) × Int × Int)) (x17 : List (Int × Int × Int × (List Int) × Int)) (x18 : Int) (x19 : List Bool) (x20 : List (Int × Int × Int × (List Int) × Int × Int)) (x21 : List (Int × Int × Int × (List Int) × Int)) (x22 : Int) (x23 : List Bool) (x24 : List (Int × Int × Int × (List Int) × Int × Int)) (x25 : List (Int × Int × Int × (List Int) × Int)) : Option (Int × List Bool × List (Int × Int × Int × (List Int) × Int × Int) × List (Int × Int × Int × (List Int) × Int)) := iter (fun (rec : (Int × Int × List Bool × (List (Int × Int × Int × (List Int) × Int × Int)) × (List (Int × Int × Int × (List Int) × Int)) × Int × List Bool × (List (Int × Int × Int × (List Int) × Int × Int)) × (List (Int × Int × Int × (List Int) × Int)) × Int × List Bool × (List (Int × Int × Int × (List Int) × Int × Int)) × (List (Int × Int × Int × (List Int) × Int))) → Option (Int × List Bool × List (Int × Int × Int × (List Int) × Int × Int) × List (Int × Int × Int × (List Int) × Int))) (x : Int × Int × List Bool × (List (Int × Int × Int × (List Int) × Int × Int)) × (List (Int × Int × Int × (List Int) × Int)) × Int × List Bool × (List (Int × Int × Int × (List Int) × Int × Int)) × (List (Int × Int × Int × (List Int) × Int)) × Int × List Bool × (List (Int × Int × Int × (List Int) × Int × Int)) × (List (Int × Int × Int × (List Int) × Int))) => s1 k rec x.1 x.2.1 x.2.2.1 x.2.2.2.1 x.2.2.2.2.1 x.2.2.2.2.2.1 x.2.2.2.2.2.2.1 x.2.2.2.2.2.2.2.1 x.2.2.2.2.2.2.2.2.1 x.2.2.2.2.2.2.2.2.2.1 x.2.2.2.2.2.2.2.2.2.2.1 x.2.2.2.2.2.2.2.2.2.2.2.1 x.2.2.2.2.2.2.2.2.2.2.2.2) n (x13, x14, x15, x16, x17, x18, x19, x20, x21, x22, x23, x24, x25)
def s0 (k : Nat) (rec0 : (Int × Int × List Bool × (List (Int × Int × Int × (List Int) × Int × Int)) × (List (Int × Int × Int × (List Int) × Int)) × Int × List Bool × (List (Int × Int × Int × (List Int) × Int × Int)) × (List (Int × Int × Int × (List Int) × Int)) × Int × List Bool × (List (Int × Int × Int × (List Int) × Int × Int)) × (List (Int × Int × Int × (List Int) × Int))) → Option (Int × List Bool × List (Int × Int × Int × (List Int) × Int × Int) × List (Int × Int × Int × (List Int) × Int))) (x0 : Int) (x1 : Int) (x2 : List Bool) (x3 : List (Int × Int × Int × (List Int) × Int × Int)) (x4 : List (Int × Int × Int × (List Int) × Int)) (x5 : Int) (x6 : List Bool) (x7 : List (Int × Int × Int × (List Int) × Int × Int)) (x8 : List (Int × Int × Int × (List Int) × Int)) (x9 : Int) (x10 : List Bool) (x11 : List (Int × Int × Int × (List Int) × Int × Int)) (x12 : List (Int × Int × Int × (List Int) × Int)) : Option (Int × List Bool × List (Int × Int × Int × (List Int) × Int × Int) × List (Int × Int × Int × (List Int) × Int)) := brB (iLt x0 (rLen x3)) (chk (cIdx x0 (rLen x3)) (bnd (spec_l27Copy.f k ((rGet (0, 0, 0, [], 0, 0) x3 x0).1) (((rGet (0, 0, 0, [], 0, 0) x3 x0).2).1) ((((rGet (0, 0, 0, [], 0, 0) x3 x0).2).2).1) (((((rGet (0, 0, 0, [], 0, 0) x3 x0).2).2).2).1) ((((((rGet (0, 0, 0, [], 0, 0) x3 x0).2).2).2).2).1)) fun p => (fun y1 y2 y3 y4 y5 => chk (cIdx x0 (rLen x3)) (chk (cLen (rLen (rApp x11 [(y1, y2, y3, y4, y5, (((((rGet (0, 0, 0, [], 0, 0) x3 x0).2).2).2).2).2)])) 64) (rec0 (iAdd .i64 x0 1, x1, x2, x3, x4, x5, x6, x7, x8, x9, x10, rApp x11 [(y1, y2, y3, y4, y5, (((((rGet (0, 0, 0, [], 0, 0) x3 x0).2).2).2).2).2)], x12)))) p.1 p.2.1 p.2.2.1 p.2.2.2.1 p.2.2.2.2)) (l1 k k 0 x1 x2 x3 x4 x5 x6 x7 x8 x9 x10 x11 x12)
def l0 (k n : Nat) (x0 : Int) (x1 : Int) (x2 : List Bool) (x3 : List (Int × Int × Int × (List Int) × Int × Int)) (x4 : List (Int × Int × Int × (List Int) × Int)) (x5 : Int) (x6 : List Bool) (x7 : List (Int × Int × Int × (List Int) × Int × Int)) (x8 : List (Int × Int × Int × (List Int) × Int)) (x9 : Int) (x10 : List Bool) (x11 : List (Int × Int × Int × (List Int) × Int × Int)) (x12 : List (Int × Int × Int × (List Int) × Int)) : Option (Int × List Bool × List (Int × Int × Int × (List Int) × Int × Int) × List (Int × Int × Int × (List Int) × Int)) := iter (fun (rec : (Int × Int × List Bool × (List (Int × Int × Int × (List Int) × Int × Int)) × (List (Int × Int × Int × (List Int) × Int)) × Int × List Bool × (List (Int × Int × Int × (List Int) × Int × Int)) × (List (Int × Int × Int × (List Int) × Int)) × Int × List Bool × (List (Int × Int × Int × (List Int) × Int × Int)) × (List (Int × Int × Int × (List Int) × Int))) → Option (Int × List Bool × List (Int × Int × Int × (List Int) × Int × Int) × List (Int × Int × Int × (List Int) × Int))) (x : Int × Int × List Bool × (List (Int × Int × Int × (List Int) × Int × Int)) × (List (Int × Int × Int × (List Int) × Int)) × Int × List Bool × (List (Int × Int × Int × (List Int) × Int × Int)) × (List (Int × Int × Int × (List Int) × Int)) × Int × List Bool × (List (Int × Int × Int × (List Int) × Int × Int)) × (List (Int × Int × Int × (List Int) × Int))) => s0 k rec x.1 x.2.1 x.2.2.1 x.2.2.2.1 x.2.2.2.2.1 x.2.2.2.2.2.1 x.2.2.2.2.2.2.1 x.2.2.2.2.2.2.2.1 x.2.2.2.2.2.2.2.2.1 x.2.2.2.2.2.2.2.2.2.1 x.2.2.2.2.2.2.2.2.2.2.1 x.2.2.2.2.2.2.2.2.2.2.2.1 x.2.2.2.2.2.2.2.2.2.2.2.2) n (x0, x1, x2, x3, x4, x5, x6, x7, x8, x9, x10, x11, x12)
def f (k : Nat) (a0_0 : Int) (a0_1 : List Bool) (a0_2 : List (Int × Int × Int × (List Int) × Int × Int)) (a0_3 : List (Int × Int × Int × (List Int) × Int)) : Option (Int × List Bool × List (Int × Int × Int × (List Int) × Int × Int) × List (Int × Int × Int × (List Int) × Int)) := bnd (spec_l28Copy.f k a0_1) fun y0 => l0 k k 0 a0_0 a0_1 a0_2 a0_3 0 [] [] [] a0_0 y0 [] []
def sig : Sig := ⟨81, [.w true [I, .row .bool, .row (.pair I (.pair I (.pair I (.pair (.row I) (.pair I I))))), .row (.pair I (.pair I (.pair I (.pair (.row I) I))))]], [(true, [.val I, .own .bool, .own (.pair I (.pair I (.pair I (.pair (.row I) (.pair I I))))), .own (.pair I (.pair I (.pair I (.pair (.row I) I))))])]⟩
def H : Hints := ⟨[(3, ⟨⟨[(1, .ptr 101 0), (2, .ptr 102 0), (3, .ptr 103 0), (4, .w false 1)], [(101, 4), (102, 4), (103, 4)]⟩, [1, 2, 3], [.val I, .val I, .val (.row .bool), .val (.row (.pair I (.pair I (.pair I (.pair (.row I) (.pair I I)))))), .val (.row (.pair I (.pair I (.pair I (.pair (.row I) I))))), .val I, .own .bool, .own (.pair I (.pair I (.pair I (.pair (.row I) (.pair I I))))), .own (.pair I (.pair I (.pair I (.pair (.row I) I)))), .val I, .own .bool, .own (.pair I (.pair I (.pair I (.pair (.row I) (.pair I I))))), .own (.pair I (.pair I (.pair I (.pair (.row I) I))))], []⟩), (7, ⟨⟨[(1, .ptr 101 0), (2, .ptr 102 0), (3, .ptr 103 0), (5, .w false 1)], [(101, 4), (102, 4), (103, 4)]⟩, [1, 2, 3], [.val I, .val I, .val (.row .bool), .val (.row (.pair I (.pair I (.pair I (.pair (.row I) (.pair I I)))))), .val (.row (.pair I (.pair I (.pair I (.pair (.row I) I))))), .val I, .own .bool, .own (.pair I (.pair I (.pair I (.pair (.row I) (.pair I I))))), .own (.pair I (.pair I (.pair I (.pair (.row I) I)))), .val I, .own .bool, .own (.pair I (.pair I (.pair I (.pair (.row I) (.pair I I))))), .own (.pair I (.pair I (.pair I (.pair (.row I) I))))], []⟩)], [], [(1, [0, 1, 0, 4, 12, 31, 0, 127]), (5, [0, 1, 0, 4, 0, 28, 60, 124, 252, 0, 512, 0, 3584, 7680, 15872, 32764, 65532, 131071, 262143, 524287]), (9, [0, 1, 0, 4, 0, 28, 60, 124, 252, 511, 1023, 2047])], [], false⟩
def spec : Spec := { sig := sig, fn := fun k (x : Int × List Bool × List (Int × Int × Int × (List Int) × Int × Int) × List (Int × Int × Int × (List Int) × Int)) => f k x.1 x.2.1 x.2.2.1 x.2.2.2 }
theorem ok : Holds Go.Proofs.Try.prog spec := holds_of_run (G := [spec_l28Copy.spec, spec_l27Copy.spec]) (holds_cons spec_l28Copy.ok (holds_cons spec_l27Copy.ok holds_nil)) (by kernel_rfl) H Go.Proofs.Try.func81 (by kernel_rfl) (rfl : Go.Proofs.Try.f81.body = some _) (by kernel_rfl) (by kernel_rfl) fun k x y h => Eq.trans (by kernel_rfl : _ = spec.fn k x) h
end spec_l29Copy

namespace spec_l01In
def f (k : Nat) (a0 : Int) (a1 : Int) (a2 : Int) : Option (Bool) := brB (iLe a1 a0) (some (iLe a0 a2)) (some false)
def sig : Sig := ⟨54, [.w false [I], .w false [I], .w false [I]], [(false, [.val .bool])]⟩
def H : Hints := ⟨[], [], [], [], false⟩
def spec : Spec := { sig := sig, fn := fun k (x : Int × Int × Int) => f k x.1 x.2.1 x.2.2 }
theorem ok : Holds Go.Proofs.Try.prog spec := holds_of_run (G := []) holds_nil (by kernel_rfl) H Go.Proofs.Try.func54 (by kernel_rfl) (rfl : Go.Proofs.Try.f54.body = some _) (by kernel_rfl) (by kernel_rfl) fun k x y h => Eq.trans (by kernel_rfl : _ = spec.fn k x) h
end spec_l01In

namespace spec_IsId
def f (k : Nat) (a0 : Int) : Option (Bool) := bnd (spec_l01In.f k a0 0 255) fun y0 => some y0
def sig : Sig := ⟨50, [.w false [I]], [(false, [.val .bool])]⟩
def H : Hints := ⟨[], [], [], [], false⟩
def spec : Spec := { sig := sig, fn := fun k (x : Int) => f k x }
theorem ok : Holds Go.Proofs.Try.prog spec := holds_of_run (G := [spec_l01In.spec]) (holds_cons spec_l01In.ok holds_nil) (by kernel_rfl) H Go.Proofs.Try.func50 (by kernel_rfl) (rfl : Go.Proofs.Try.f50.body = some _) (by kernel_rfl) (by kernel_rfl) fun k x y h => Eq.trans (by kernel_rfl : _ = spec.fn k x) h
end spec_IsId

namespace spec_TagsOk
def f (k : Nat) (a0 : List Bool) : Option (Bool) := some (iEq (rLen a0) 8)
def sig : Sig := ⟨51, [.w true [.row .bool]], [(false, [.val .bool])]⟩
def H : Hints := ⟨[], [], [], [], false⟩
def spec : Spec := { sig := sig, fn := fun k (x : List Bool) => f k x }
theorem ok : Holds Go.Proofs.Try.prog spec := holds_of_run (G := []) holds_nil (by kernel_rfl) H Go.Proofs.Try.func51 (by kernel_rfl) (rfl : Go.Proofs.Try.f51.body = some _) (by kernel_rfl) (by kernel_rfl) fun k x y h => Eq.trans (by kernel_rfl : _ = spec.fn k x) h
end spec_TagsOk

namespace spec_CountBusy
def s0 (k : Nat) (rec0 : (Int × Int × List Bool) → Option (Int)) (x0 : Int) (x1 : Int) (x2 : List Bool) : Option (Int) := brB (iLt x1 (rLen x2)) (chk (cIdx x1 (rLen x2)) (brB (rGet false x2 x1) (rec0 (iAdd .i64 x0 1, iAdd .i64 x1 1, x2)) (rec0 (x0, iAdd .i64 x1 1, x2)))) (some x0)
def l0 (k n : Nat) (x0 : Int) (x1 : Int) (x2 : List Bool) : Option (Int) := iter (fun (rec : (Int × Int × List Bool) → Option (Int)) (x : Int × Int × List Bool) => s0 k rec x.1 x.2.1 x.2.2) n (x0, x1, x2)
def f (k : Nat) (a0 : List Bool) : Option (Int) := l0 k k 0 0 a0
def sig : Sig := ⟨52, [.w true [.row .bool]], [(false, [.val I])]⟩
def H : Hints := ⟨[(3, ⟨⟨[(1, .ptr 101 0), (3, .w false 1), (4, .w false 1)], [(101, 1)]⟩, [1], [.val I, .val I, .val (.row .bool)], []⟩)], [], [], [], false⟩
def spec : Spec := { sig := sig, fn := fun k (x : List Bool) => f k x }
theorem ok : Holds Go.Proofs.Try.prog spec := holds_of_run (G := []) holds_nil (by kernel_rfl) H Go.Proofs.Try.func52 (by kernel_rfl) (rfl : Go.Proofs.Try.f52.body = some _) (by kernel_rfl) (by kernel_rfl) fun k x y h => Eq.trans (by kernel_rfl : _ = spec.fn k x) h
end spec_CountBusy

namespace spec_l04Words
def s0 (k : Nat) (rec0 : (List Int × Int) → Option (Bool)) (x0 : List Int) (x1 : Int) : Option (Bool) := brB (iLt x1 (rLen x0)) (chk (cIdx x1 (rLen x0)) (bnd (spec_l01In.f k (rGet 0 x0 x1) 0 65535) fun y0 => brB (bNot y0) (some false) (rec0 (x0, iAdd .i64 x1 1)))) (some true)
def l0 (k n : Nat) (x0 : List Int) (x1 : Int) : Option (Bool) := iter (fun (rec : (List Int × Int) → Option (Bool)) (x : List Int × Int) => s0 k rec x.1 x.2) n (x0, x1)
def f (k : Nat) (a0 : List Int) : Option (Bool) := l0 k k a0 0
def sig : Sig := ⟨100, [.w false [.row I]], [(false, [.val .bool])]⟩
def H : Hints := ⟨[(2, ⟨⟨[(0, .w false 1), (3, .w false 1)], []⟩, [], [.val (.row I), .val I], []⟩)], [], [], [], false⟩
def spec : Spec := { sig := sig, fn := fun k (x : List Int) => f k x }
theorem ok : Holds Go.Proofs.Try.prog spec := holds_of_run (G := [spec_l01In.spec]) (holds_cons spec_l01In.ok holds_nil) (by kernel_rfl) H Go.Proofs.Try.func100 (by kernel_rfl) (rfl : Go.Proofs.Try.f100.body = some _) (by kernel_rfl) (by kernel_rfl) fun k x y h => Eq.trans (by kernel_rfl : _ = spec.fn k x) h
end spec_l04Words

namespace spec_GatherOk
def f (k : Nat) (a0_0 : Int) (a0_1 : Int) (a0_2 : Int) (a0_3 : List Int) (a0_4 : Int) : Option (Bool) := bnd (spec_IsId.f k a0_0) fun y0 => brB y0 (bnd (spec_l01In.f k a0_1 0 7) fun y1 => brB y1 (bnd (spec_l01In.f k a0_2 0 64) fun y2 => brB y2 (brB (iLe (rLen a0_3) a0_2) (bnd (spec_l04Words.f k a0_3) fun y3 => brB y3 (bnd (spec_l01In.f k a0_4 0 2) fun y4 => brB y4 (brB (iNe a0_4 1) (some true) (some (iEq (rLen a0_3) a0_2))) (some false)) (some false)) (some false)) (some false)) (some false)) (some false)
def sig : Sig := ⟨53, [.w true [I, I, I, .row I, I]], [(false, [.val .bool])]⟩
def H : Hints := ⟨[], [], [], [], false⟩
def spec : Spec := { sig := sig, fn := fun k (x : Int × Int × Int × List Int × Int) => f k x.1 x.2.1 x.2.2.1 x.2.2.2.1 x.2.2.2.2 }
theorem ok : Holds Go.Proofs.Try.prog spec := holds_of_run (G := [spec_l01In.spec, spec_IsId.spec, spec_l04Words.spec]) (holds_cons spec_l01In.ok (holds_cons spec_IsId.ok (holds_cons spec_l04Words.ok holds_nil))) (by kernel_rfl) H Go.Proofs.Try.func53 (by kernel_rfl) (rfl : Go.Proofs.Try.f53.body = some _) (by kernel_rfl) (by kernel_rfl) fun k x y h => Eq.trans (by kernel_rfl : _ = spec.fn k x) h
end spec_GatherOk

namespace spec_RequesterOk
def s2 (k : Nat) (rec1 : (Int × Int × (List Bool) × (List (Int × Int × Int × (List Int) × Int × Int)) × List (Int × Int × Int × (List Int) × Int)) → Option (Bool)) (rec2 : (Int × Int × Int × List Bool × (List (Int × Int × Int × (List Int) × Int × Int)) × (List (Int × Int × Int × (List Int) × Int)) × Int × Int × Int × List Int × Int) → Option (Bool)) (x10 : Int) (x11 : Int) (x12 : Int) (x13 : List Bool) (x14 : List (Int × Int × Int × (List Int) × Int × Int)) (x15 : List (Int × Int × Int × (List Int) × Int)) (x16 : Int) (x17 : Int) (x18 : Int) (x19 : List Int) (x20 : Int) : Option (Bool) := brB (iLt x11 x10) (chk (cIdx x11 (rLen x14)) (brB (iEq (((rGet (0, 0, 0, [], 0, 0) x14 x11).2).1) x17) (some false) (rec2 (x10, iAdd .i64 x11 1, x12, x13, x14, x15, x16, x17, x18, x19, x20)))) (rec1 (iAdd .i64 x10 1, x12, x13, x14, x15))
def l2 (k n : Nat) (rec1 : (Int × Int × (List Bool) × (List (Int × Int × Int × (List Int) × Int × Int)) × List (Int × Int × Int × (List Int) × Int)) → Option (Bool)) (x10 : Int) (x11 : Int) (x12 : Int) (x13 : List Bool) (x14 : List (Int × Int × Int × (List Int) × Int × Int)) (x15 : List (Int × Int × Int × (List Int) × Int)) (x16 : Int) (x17 : Int) (x18 : Int) (x19 : List Int) (x20 : Int) : Option (Bool) := iter (fun (rec : (Int × Int × Int × List Bool × (List (Int × Int × Int × (List Int) × Int × Int)) × (List (Int × Int × Int × (List Int) × Int)) × Int × Int × Int × List Int × Int) → Option (Bool)) (x : Int × Int × Int × List Bool × (List (Int × Int × Int × (List Int) × Int × Int)) × (List (Int × Int × Int × (List Int) × Int)) × Int × Int × Int × List Int × Int) => s2 k rec1 rec x.1 x.2.1 x.2.2.1 x.2.2.2.1 x.2.2.2.2.1 x.2.2.2.2.2.1 x.2.2.2.2.2.2.1 x.2.2.2.2.2.2.2.1 x.2.2.2.2.2.2.2.2.1 x.2.2.2.2.2.2.2.2.2.1 x.2.2.2.2.2.2.2.2.2.2) n (x10, x11, x12, x13, x14, x15, x16, x17, x18, x19, x20)
def s1 (k : Nat) (rec1 : (Int × Int × List Bool × (List (Int × Int × Int × (List Int) × Int × Int)) × (List (Int × Int × Int × (List Int) × Int))) → Option (Bool)) (x5 : Int) (x6 : Int) (x7 : List Bool) (x8 : List (Int × Int × Int × (List Int) × Int × Int)) (x9 : List (Int × Int × Int × (List Int) × Int)) : Option (Bool) := brB (iLt x5 (rLen x8)) (chk (cIdx x5 (rLen x8)) (bnd (spec_GatherOk.f k ((rGet (0, 0, 0, [], 0, 0) x8 x5).1) (((rGet (0, 0, 0, [], 0, 0) x8 x5).2).1) ((((rGet (0, 0, 0, [], 0, 0) x8 x5).2).2).1) (((((rGet (0, 0, 0, [], 0, 0) x8 x5).2).2).2).1) ((((((rGet (0, 0, 0, [], 0, 0) x8 x5).2).2).2).2).1)) fun y4 => brB (bNot y4) (some false) (brB (iNe ((rGet (0, 0, 0, [], 0, 0) x8 x5).1) x6) (some false) (brB (iNe ((((((rGet (0, 0, 0, [], 0, 0) x8 x5).2).2).2).2).1) 0) (some false) (chk (cIdx x5 (rLen x8)) (bnd (spec_l01In.f k ((((((rGet (0, 0, 0, [], 0, 0) x8 x5).2).2).2).2).2) 0 50) fun y5 => brB (bNot y5) (some false) (chk (cIdx (((rGet (0, 0, 0, [], 0, 0) x8 x5).2).1) (rLen x7)) (brB (bNot (rGet false x7 (((rGet (0, 0, 0, [], 0, 0) x8 x5).2).1))) (some false) (l2 k k rec1 x5 0 x6 x7 x8 x9 ((rGet (0, 0, 0, [], 0, 0) x8 x5).1) (((rGet (0, 0, 0, [], 0, 0) x8 x5).2).1) ((((rGet (0, 0, 0, [], 0, 0) x8 x5).2).2).1) (((((rGet (0, 0, 0, [], 0, 0) x8 x5).2).2).2).1) ((((((rGet (0, 0, 0, [], 0, 0) x8 x5).2).2).2).2).1)))))))))) (some true)
def l1 (k n : Nat) (x5 : Int) (x6 : Int) (x7 : List Bool) (x8 : List (Int × Int × Int × (List Int) × Int × Int)) (x9 : List (Int × Int × Int × (List Int) × Int)) : Option (Bool) := iter (fun (rec : (Int × Int × List Bool × (List (Int × Int × Int × (List Int) × Int × Int)) × (List (Int × Int × Int × (List Int) × Int))) → Option (Bool)) (x : Int × Int × List Bool × (List (Int × Int × Int × (List Int) × Int × Int)) × (List (Int × Int × Int × (List Int) × Int))) => s1 k rec x.1 x.2.1 x.2.2.1 x.2.2.2.1 x.2.2.2.2) n (x5, x6, x7, x8, x9)
def s0 (k : Nat) (rec0 : (Int × Int × List Bool × (List (Int × Int × Int × (List Int) × Int × Int)) × (List (Int × Int × Int × (List Int) × Int))) → Option (Bool)) (x0 : Int) (x1 : Int) (x2 : List Bool) (x3 : List (Int × Int × Int × (List Int) × Int × Int)) (x4 : List (Int × Int × Int × (List Int) × Int)) : Option (Bool) := brB (iLt x0 (rLen x4)) (chk (cIdx x0 (rLen x4)) (bnd (spec_GatherOk.f k ((rGet (0, 0, 0, [], 0) x4 x0).1) (((rGet (0, 0, 0, [], 0) x4 x0).2).1) ((((rGet (0, 0, 0, [], 0) x4 x0).2).2).1) (((((rGet (0, 0, 0, [], 0) x4 x0).2).2).2).1) (((((rGet (0, 0, 0, [], 0) x4 x0).2).2).2).2)) fun y3 => brB (bNot y3) (some false) (rec0 (iAdd .i64 x0 1, x1, x2, x3, x4)))) (l1 k k 0 x1 x2 x3 x4)
def l0 (k n : Nat) (x0 : Int) (x1 : Int) (x2 : List Bool) (x3 : List (Int × Int × Int × (List Int) × Int × Int)) (x4 : List (Int × Int × Int × (List Int) × Int)) : Option (Bool) := iter (fun (rec : (Int × Int × List Bool × (List (Int × Int × Int × (List Int) × Int × Int)) × (List (Int × Int × Int × (List Int) × Int))) → Option (Bool)) (x : Int × Int × List Bool × (List (Int × Int × Int × (List Int) × Int × Int)) × (List (Int × Int × Int × (List Int) × Int))) => s0 k rec x.1 x.2.1 x.2.2.1 x.2.2.2.1 x.2.2.2.2) n (x0, x1, x2, x3, x4)
def f (k : Nat) (a0_0 : Int) (a0_1 : List Bool) (a0_2 : List (Int × Int × Int × (List Int) × Int × Int)) (a0_3 : List (Int × Int × Int × (List Int) × Int)) : Option (Bool) := bnd (spec_IsId.f k a0_0) fun y0 => brB (bNot y0) (some false) (bnd (spec_TagsOk.f k a0_1) fun y1 => brB (bNot y1) (some false) (brB (iLt 1000 (rLen a0_3)) (some false) (bnd (spec_CountBusy.f k a0_1) fun y2 => brB (iNe y2 (rLen a0_2)) (some false) (l0 k k 0 a0_0 a0_1 a0_2 a0_3))))
def sig : Sig := ⟨16, [.w true [I, .row .bool, .row (.pair I (.pair I (.pair I (.pair (.row I) (.pair I I))))), .row (.pair I (.pair I (.pair I (.pair (.row I) I))))]], [(false, [.val .bool])]⟩
def H : Hints := ⟨[(4, ⟨⟨[(1, .ptr 101 0), (3, .w false 1)], [(101, 4)]⟩, [1], [.val I, .val I, .val (.row .bool), .val (.row (.pair I (.pair I (.pair I (.pair (.row I) (.pair I I)))))), .val (.row (.pair I (.pair I (.pair I (.pair (.row I) I)))))], []⟩), (9, ⟨⟨[(1, .ptr 101 0), (4, .w false 1)], [(101, 4)]⟩, [1], [.val I, .val I, .val (.row .bool), .val (.row (.pair I (.pair I (.pair I (.pair (.row I) (.pair I I)))))), .val (.row (.pair I (.pair I (.pair I (.pair (.row I) I)))))], []⟩), (15, ⟨⟨[(1, .ptr 101 0), (4, .w false 1), (5, .ptr 105 0), (6, .w false 1)], [(101, 4), (105, 5)]⟩, [1, 5], [.val I, .val I, .val I, .val (.row .bool), .val (.row (.pair I (.pair I (.pair I (.pair (.row I) (.pair I I)))))), .val (.row (.pair I (.pair I (.pair I (.pair (.row I) I))))), .val I, .val I, .val I, .val (.row I), .val I], []⟩)], [], [(1, [0, 1, 3, 7, 15, 31, 63, 127, 255, 511, 1023, 2047, 4095, 8191, 16383, 32767, 65535, 131071, 262143, 524287, 131071, 1179647, 3276799, 8388607, 16777215]), (17, [0, 1, 0, 7, 15, 31, 63, 0, 128, 511])], [], false⟩
def spec : Spec := { sig := sig, fn := fun k (x : Int × List Bool × List (Int × Int × Int × (List Int) × Int × Int) × List (Int × Int × Int × (List Int) × Int)) => f k x.1 x.2.1 x.2.2.1 x.2.2.2 }
theorem ok : Holds Go.Proofs.Try.prog spec := holds_of_run (G := [spec_l01In.spec, spec_IsId.spec, spec_TagsOk.spec, spec_CountBusy.spec, spec_GatherOk.spec]) (holds_cons spec_l01In.ok (holds_cons spec_IsId.ok (holds_cons spec_TagsOk.ok (holds_cons spec_CountBusy.ok (holds_cons spec_GatherOk.ok holds_nil))))) (by kernel_rfl) H Go.Proofs.Try.func16 (by kernel_rfl) (rfl : Go.Proofs.Try.f16.body = some _) (by kernel_rfl) (by kernel_rfl) fun k x y h => Eq.trans (by kernel_rfl : _ = spec.fn k x) h
end spec_RequesterOk

namespace spec_TakeTag
def s0 (k : Nat) (rec0 : (Int × List Bool × List Bool × List Bool) → Option (List Bool × Int)) (x0 : Int) (x1 : List Bool) (x2 : List Bool) (x3 : List Bool) : Option (List Bool × Int) := brB (iLt x0 (rLen x1)) (bnd (spec_TagsOk.f k x1) fun y1 => brB y1 (chk (cIdx x0 (rLen x1)) (brB (bNot (rGet false x1 x0)) (chk (cIdx x0 (rLen x3)) (some (rSet x3 x0 true, x0))) (rec0 (iAdd .i64 x0 1, x1, x2, x3)))) (some (x3, (-1)))) (some (x3, (-1)))
def l0 (k n : Nat) (x0 : Int) (x1 : List Bool) (x2 : List Bool) (x3 : List Bool) : Option (List Bool × Int) := iter (fun (rec : (Int × List Bool × List Bool × List Bool) → Option (List Bool × Int)) (x : Int × List Bool × List Bool × List Bool) => s0 k rec x.1 x.2.1 x.2.2.1 x.2.2.2) n (x0, x1, x2, x3)
def f (k : Nat) (a0 : List Bool) : Option (List Bool × Int) := bnd (spec_l28Copy.f k a0) fun y0 => l0 k k 0 a0 [] y0
def sig : Sig := ⟨83, [.w true [.row .bool]], [(true, [.own .bool]), (false, [.val I])]⟩
def H : Hints := ⟨[(3, ⟨⟨[(1, .ptr 101 0), (2, .ptr 102 0), (4, .ptr 104 0), (5, .w false 1)], [(101, 1), (102, 1), (104, 1)]⟩, [1, 2, 4], [.val I, .val (.row .bool), .own .bool, .own .bool], []⟩)], [], [], [], false⟩
def spec : Spec := { sig := sig, fn := fun k (x : List Bool) => f k x }
theorem ok : Holds Go.Proofs.Try.prog spec := holds_of_run (G := [spec_l28Copy.spec, spec_TagsOk.spec]) (holds_cons spec_l28Copy.ok (holds_cons spec_TagsOk.ok holds_nil)) (by kernel_rfl) H Go.Proofs.Try.func83 (by kernel_rfl) (rfl : Go.Proofs.Try.f83.body = some _) (by kernel_rfl) (by kernel_rfl) fun k x y h => Eq.trans (by kernel_rfl : _ = spec.fn k x) h
end spec_TakeTag

namespace spec_l04Zero
def f (k : Nat) (a0_0 : Int) (a0_1 : Int) (a0_2 : Int) (a0_3 : Int) (a0_4 : Int) (a0_5 : Int) (a0_6 : Int) (a0_7 : List Int) (a1 : Bool) (a2 : Bool) (a3 : Bool) : Option (Bool) := brB a1 (brB a2 (brB a3 (some true) (some (iEq a0_5 0))) (brB (iEq a0_4 0) (brB a3 (some true) (some (iEq a0_5 0))) (some false))) (brB (iEq a0_2 0) (brB a2 (brB a3 (some true) (some (iEq a0_5 0))) (brB (iEq a0_4 0) (brB a3 (some true) (some (iEq a0_5 0))) (some false))) (some false))
def sig : Sig := ⟨121, [.w true [I, I, I, I, I, I, I, .row I], .w false [.bool], .w false [.bool], .w false [.bool]], [(false, [.val .bool])]⟩
def H : Hints := ⟨[], [], [], [], false⟩
def spec : Spec := { sig := sig, fn := fun k (x : Int × Int × Int × Int × Int × Int × Int × List Int × Bool × Bool × Bool) => f k x.1 x.2.1 x.2.2.1 x.2.2.2.1 x.2.2.2.2.1 x.2.2.2.2.2.1 x.2.2.2.2.2.2.1 x.2.2.2.2.2.2.2.1 x.2.2.2.2.2.2.2.2.1 x.2.2.2.2.2.2.2.2.2.1 x.2.2.2.2.2.2.2.2.2.2 }
theorem ok : Holds Go.Proofs.Try.prog spec := holds_of_run (G := []) holds_nil (by kernel_rfl) H Go.Proofs.Try.func121 (by kernel_rfl) (rfl : Go.Proofs.Try.f121.body = some _) (by kernel_rfl) (by kernel_rfl) fun k x y h => Eq.trans (by kernel_rfl : _ = spec.fn k x) h
end spec_l04Zero

namespace spec_IsPacket
def f (k : Nat) (a0_0 : Int) (a0_1 : Int) (a0_2 : Int) (a0_3 : Int) (a0_4 : Int) (a0_5 : Int) (a0_6 : Int) (a0_7 : List Int) : Option (Bool) := bnd (spec_IsId.f k a0_1) fun y0 => brB (bNot y0) (some false) (bnd (spec_l04Words.f k a0_7) fun y1 => brB (bNot y1) (some false) (brB (iEq a0_0 1) (bnd (spec_l01In.f k (rLen a0_7) 1 8) fun y2 => brB y2 (bnd (spec_l01In.f k a0_3 0 (iSub .i64 65536 (rLen a0_7))) fun y3 => brB y3 (brB (iEq a0_6 0) (bnd (spec_l04Zero.f k a0_0 a0_1 a0_2 a0_3 a0_4 a0_5 a0_6 a0_7 false false false) fun y4 => some y4) (some false)) (some false)) (some false)) (brB (iEq a0_0 2) (bnd (spec_l01In.f k (rLen a0_7) 1 8) fun y5 => brB y5 (brB (iEq a0_3 0) (brB (iEq a0_6 0) (bnd (spec_l04Zero.f k a0_0 a0_1 a0_2 a0_3 a0_4 a0_5 a0_6 a0_7 false false false) fun y6 => some y6) (some false)) (some false)) (some false)) (brB (iEq a0_0 3) (brB (iEq (rLen a0_7) 0) (bnd (spec_l01In.f k a0_4 1 64) fun y7 => brB y7 (bnd (spec_l01In.f k a0_3 0 (iSub .i64 65536 a0_4)) fun y8 => brB y8 (bnd (spec_l01In.f k a0_5 0 7) fun y9 => brB y9 (brB (iEq a0_6 0) (bnd (spec_l04Zero.f k a0_0 a0_1 a0_2 a0_3 a0_4 a0_5 a0_6 a0_7 false true true) fun y10 => some y10) (some false)) (some false)) (some false)) (some false)) (some false)) (brB (iEq a0_0 4) (brB (iEq (rLen a0_7) 0) (bnd (spec_l01In.f k a0_3 0 63) fun y11 => brB y11 (bnd (spec_IsId.f k a0_2) fun y12 => brB y12 (bnd (spec_l01In.f k a0_5 0 7) fun y13 => brB y13 (brB (iEq a0_6 0) (bnd (spec_l04Zero.f k a0_0 a0_1 a0_2 a0_3 a0_4 a0_5 a0_6 a0_7 true false true) fun y14 => some y14) (some false)) (some false)) (some false)) (some false)) (some false)) (brB (iEq a0_0 5) (brB (iEq (rLen a0_7) 1) (bnd (spec_l01In.f k a0_3 0 63) fun y15 => brB y15 (bnd (spec_IsId.f k a0_2) fun y16 => brB y16 (bnd (spec_l01In.f k a0_5 0 7) fun y17 => brB y17 (brB (iEq a0_6 0) (bnd (spec_l04Zero.f k a0_0 a0_1 a0_2 a0_3 a0_4 a0_5 a0_6 a0_7 true false true) fun y18 => some y18) (some false)) (some false)) (some false)) (some false)) (some false)) (brB (iEq a0_0 6) (brB (iNe a0_3 0) (some false) (bnd (spec_IsId.f k a0_2) fun y19 => brB (bNot y19) (some false) (bnd (spec_l01In.f k a0_5 0 7) fun y20 => brB (bNot y20) (some false) (bnd (spec_l01In.f k a0_6 0 2) fun y21 => brB (bNot y21) (some false) (bnd (spec_l01In.f k a0_4 0 64) fun y22 => brB (bNot y22) (some false) (brB (iEq (rLen a0_7) 0) (some true) (brB (iEq a0_6 0) (some (iLe (rLen a0_7) (iMin 8 a0_4))) (some false)))))))) (some false))))))))
def sig : Sig := ⟨84, [.w true [I, I, I, I, I, I, I, .row I]], [(false, [.val .bool])]⟩
def H : Hints := ⟨[], [], [], [], false⟩
def spec : Spec := { sig := sig, fn := fun k (x : Int × Int × Int × Int × Int × Int × Int × List Int) => f k x.1 x.2.1 x.2.2.1 x.2.2.2.1 x.2.2.2.2.1 x.2.2.2.2.2.1 x.2.2.2.2.2.2.1 x.2.2.2.2.2.2.2 }
theorem ok : Holds Go.Proofs.Try.prog spec := holds_of_run (G := [spec_l01In.spec, spec_IsId.spec, spec_l04Words.spec, spec_l04Zero.spec]) (holds_cons spec_l01In.ok (holds_cons spec_IsId.ok (holds_cons spec_l04Words.ok (holds_cons spec_l04Zero.ok holds_nil)))) (by kernel_rfl) H Go.Proofs.Try.func84 (by kernel_rfl) (rfl : Go.Proofs.Try.f84.body = some _) (by kernel_rfl) (by kernel_rfl) fun k x y h => Eq.trans (by kernel_rfl : _ = spec.fn k x) h
end spec_IsPacket

namespace spec_ClassOf
def f (k : Nat) (a0_0 : Int) (a0_1 : Int) (a0_2 : Int) (a0_3 : Int) (a0_4 : Int) (a0_5 : Int) (a0_6 : Int) (a0_7 : List Int) : Option (Int) := bnd (spec_IsPacket.f k a0_0 a0_1 a0_2 a0_3 a0_4 a0_5 a0_6 a0_7) fun y0 => brB (bNot y0) (some (-1)) (brB (iEq a0_0 1) (brB (iEq a0_0 1) (some 0) (brB (iEq a0_0 6) (some 2) (some 1))) (brB (iEq a0_0 2) (some 0) (brB (iEq a0_0 6) (some 2) (some 1))))
def sig : Sig := ⟨122, [.w true [I, I, I, I, I, I, I, .row I]], [(false, [.val I])]⟩
def H : Hints := ⟨[], [], [], [], false⟩
def spec : Spec := { sig := sig, fn := fun k (x : Int × Int × Int × Int × Int × Int × Int × List Int) => f k x.1 x.2.1 x.2.2.1 x.2.2.2.1 x.2.2.2.2.1 x.2.2.2.2.2.1 x.2.2.2.2.2.2.1 x.2.2.2.2.2.2.2 }
theorem ok : Holds Go.Proofs.Try.prog spec := holds_of_run (G := [spec_IsPacket.spec]) (holds_cons spec_IsPacket.ok holds_nil) (by kernel_rfl) H Go.Proofs.Try.func122 (by kernel_rfl) (rfl : Go.Proofs.Try.f122.body = some _) (by kernel_rfl) (by kernel_rfl) fun k x y h => Eq.trans (by kernel_rfl : _ = spec.fn k x) h
end spec_ClassOf

namespace spec_NewGather
def f (k : Nat) (a0_0 : Int) (a0_1 : Int) (a0_2 : Int) (a0_3 : Int) (a0_4 : Int) (a0_5 : Int) (a0_6 : Int) (a0_7 : List Int) : Option (Int × Int × Int × List Int × Int × Bool) := bnd (spec_ClassOf.f k a0_0 a0_1 a0_2 a0_3 a0_4 a0_5 a0_6 a0_7) fun y0 => brB (iNe y0 1) (some (0, 0, 0, [], 0, false)) (brB (iEq a0_0 4) (some (a0_1, a0_5, 1, [], 0, true)) (some (a0_1, a0_5, a0_4, [], 0, true)))
def sig : Sig := ⟨85, [.w true [I, I, I, I, I, I, I, .row I]], [(true, [.val I, .val I, .val I, .own I, .val I]), (false, [.val .bool])]⟩
def H : Hints := ⟨[], [], [], [], false⟩
def spec : Spec := { sig := sig, fn := fun k (x : Int × Int × Int × Int × Int × Int × Int × List Int) => f k x.1 x.2.1 x.2.2.1 x.2.2.2.1 x.2.2.2.2.1 x.2.2.2.2.2.1 x.2.2.2.2.2.2.1 x.2.2.2.2.2.2.2 }
theorem ok : Holds Go.Proofs.Try.prog spec := holds_of_run (G := [spec_ClassOf.spec]) (holds_cons spec_ClassOf.ok holds_nil) (by kernel_rfl) H Go.Proofs.Try.func85 (by kernel_rfl) (rfl : Go.Proofs.Try.f85.body = some _) (by kernel_rfl) (by kernel_rfl) fun k x y h => Eq.trans (by kernel_rfl : _ = spec.fn k x) h
end spec_NewGather

namespace spec_BeginRead
def f (k : Nat) (a0_0 : Int) (a0_1 : List Bool) (a0_2 : List (Int × Int × Int × (List Int) × Int × Int)) (a0_3 : List (Int × Int × Int × (List Int) × Int)) (a1 : Int) (a2 : Int) : Option (Int × List Bool × List (Int × Int × Int × (List Int) × Int × Int) × List (Int × Int × Int × (List Int) × Int) × Int × Int × Int × Int × Int × Int × Int × List Int × Bool) := bnd (spec_l29Copy.f k a0_0 a0_1 a0_2 a0_3) fun p => (fun y0 y1 y2 y3 => bnd (spec_RequesterOk.f k a0_0 a0_1 a0_2 a0_3) fun y4 => brB (bNot y4) (some (y0, y1, y2, y3, 0, 0, 0, 0, 0, 0, 0, [], false)) (bnd (spec_TakeTag.f k a0_1) fun p => (fun y5 y6 => brB (iLt y6 0) (some (y0, y1, y2, y3, 0, 0, 0, 0, 0, 0, 0, [], false)) (bnd (spec_IsPacket.f k 3 a0_0 0 a1 a2 y6 0 []) fun y7 => brB (bNot y7) (some (y0, y1, y2, y3, 0, 0, 0, 0, 0, 0, 0, [], false)) (bnd (spec_NewGather.f k 3 a0_0 0 a1 a2 y6 0 []) fun p => (fun y8 y9 y10 y11 y12 y13 => chk (cLen (rLen (rApp y2 [(y8, y9, y10, y11, y12, 0)])) 64) (some (y0, y5, rApp y2 [(y8, y9, y10, y11, y12, 0)], y3, 3, a0_0, 0, a1, a2, y6, 0, [], true))) p.1 p.2.1 p.2.2.1 p.2.2.2.1 p.2.2.2.2.1 p.2.2.2.2.2))) p.1 p.2)) p.1 p.2.1 p.2.2.1 p.2.2.2
def sig : Sig := ⟨29, [.w true [I, .row .bool, .row (.pair I (.pair I (.pair I (.pair (.row I) (.pair I I))))), .row (.pair I (.pair I (.pair I (.pair (.row I) I))))], .w false [I], .w false [I]], [(true, [.val I, .own .bool, .own (.pair I (.pair I (.pair I (.pair (.row I) (.pair I I))))), .own (.pair I (.pair I (.pair I (.pair (.row I) I))))]), (true, [.val I, .val I, .val I, .val I, .val I, .val I, .val I, .own I]), (false, [.val .bool])]⟩
def H : Hints := ⟨[], [], [(11, [0, 0, 1, 7, 15])], [], false⟩
def spec : Spec := { sig := sig, fn := fun k (x : Int × List Bool × List (Int × Int × Int × (List Int) × Int × Int) × List (Int × Int × Int × (List Int) × Int) × Int × Int) => f k x.1 x.2.1 x.2.2.1 x.2.2.2.1 x.2.2.2.2.1 x.2.2.2.2.2 }
theorem ok : Holds Go.Proofs.Try.prog spec := holds_of_run (G := [spec_l29Copy.spec, spec_RequesterOk.spec, spec_TakeTag.spec, spec_IsPacket.spec, spec_NewGather.spec]) (holds_cons spec_l29Copy.ok (holds_cons spec_RequesterOk.ok (holds_cons spec_TakeTag.ok (holds_cons spec_IsPacket.ok (holds_cons spec_NewGather.ok holds_nil))))) (by kernel_rfl) H Go.Proofs.Try.func29 (by kernel_rfl) (rfl : Go.Proofs.Try.f29.body = some _) (by kernel_rfl) (by kernel_rfl) fun k x y h => Eq.trans (by kernel_rfl : _ = spec.fn k x) h
end spec_BeginRead

namespace slices_Clone_bool
def f (k : Nat) (a0 : List Bool) : Option (List Bool) := chk (cLen (rLen a0) 1) (some a0)
def sig : Sig := cloneSig 124 .bool
def spec : Spec := { sig := sig, fn := fun k (x : List Bool) => f k x }
theorem ok : Holds Go.Proofs.Try.prog spec := clone_holds (u := .bool) (t := 22) (by kernel_rfl) Go.Proofs.Try.func124 (by kernel_rfl) (rfl : Go.Proofs.Try.f124.body = some _) (by kernel_rfl) (by kernel_rfl) Go.Proofs.Try.underlying22 ⟨rfl, rfl, rfl⟩ ⟨rfl, rfl, rfl⟩ ⟨rfl, rfl, _, rfl⟩ (fun l => cLen (rLen l) 1) (fun k => by kernel_rfl) (fun k l => by kernel_rfl)
end slices_Clone_bool

namespace impl_copyTags
def f (k : Nat) (a0 : List Bool) : Option (List Bool) := bnd (slices_Clone_bool.f k a0) fun y0 => some y0
def sig : Sig := ⟨106, [.w true [.row .bool]], [(true, [.own .bool])]⟩
def H : Hints := ⟨[], [], [], [], true⟩
def spec : Spec := { sig := sig, fn := fun k (x : List Bool) => f k x }
theorem ok : Holds Go.Proofs.Try.prog spec := holds_of_run (G := [slices_Clone_bool.spec]) (holds_cons slices_Clone_bool.ok holds_nil) (by kernel_rfl) H Go.Proofs.Try.func106 (by kernel_rfl) (rfl : Go.Proofs.Try.f106.body = some _) (by kernel_rfl) (by kernel_rfl) fun k x y h => Eq.trans (by kernel_rfl : _ = spec.fn k x) h
end impl_copyTags

namespace slices_Clone_int
def f (k : Nat) (a0 : List Int) : Option (List Int) := chk (cLen (rLen a0) 8) (some a0)
def sig : Sig := cloneSig 76 I
def spec : Spec := { sig := sig, fn := fun k (x : List Int) => f k x }
theorem ok : Holds Go.Proofs.Try.prog spec := clone_holds (u := I) (t := 47) (by kernel_rfl) Go.Proofs.Try.func76 (by kernel_rfl) (rfl : Go.Proofs.Try.f76.body = some _) (by kernel_rfl) (by kernel_rfl) Go.Proofs.Try.underlying47 ⟨rfl, rfl, rfl⟩ ⟨rfl, rfl, rfl⟩ ⟨rfl, rfl, _, rfl⟩ (fun l => cLen (rLen l) 8) (fun k => by kernel_rfl) (fun k l => by kernel_rfl)
end slices_Clone_int

namespace impl_copyGather
def f (k : Nat) (a0_0 : Int) (a0_1 : Int) (a0_2 : Int) (a0_3 : List Int) (a0_4 : Int) : Option (Int × Int × Int × List Int × Int) := bnd (slices_Clone_int.f k a0_3) fun y0 => some (a0_0, a0_1, a0_2, y0, a0_4)
def sig : Sig := ⟨107, [.w true [I, I, I, .row I, I]], [(true, [.val I, .val I, .val I, .own I, .val I])]⟩
def H : Hints := ⟨[], [], [], [], true⟩
def spec : Spec := { sig := sig, fn := fun k (x : Int × Int × Int × List Int × Int) => f k x.1 x.2.1 x.2.2.1 x.2.2.2.1 x.2.2.2.2 }
theorem ok : Holds Go.Proofs.Try.prog spec := holds_of_run (G := [slices_Clone_int.spec]) (holds_cons slices_Clone_int.ok holds_nil) (by kernel_rfl) H Go.Proofs.Try.func107 (by kernel_rfl) (rfl : Go.Proofs.Try.f107.body = some _) (by kernel_rfl) (by kernel_rfl) fun k x y h => Eq.trans (by kernel_rfl : _ = spec.fn k x) h
end impl_copyGather

namespace impl_copyRequester
def s1 (k : Nat) (rec1 : ((List (Int × Int × Int × (List Int) × Int)) × Int × Int × Int × List Bool × (List (Int × Int × Int × (List Int) × Int × Int)) × (List (Int × Int × Int × (List Int) × Int)) × Int × List Bool × (List (Int × Int × Int × (List Int) × Int × Int)) × (List (Int × Int × Int × (List Int) × Int))) → Option (Int × List Bool × List (Int × Int × Int × (List Int) × Int × Int) × List (Int × Int × Int × (List Int) × Int))) (x15 : List (Int × Int × Int × (List Int) × Int)) (x16 : Int) (x17 : Int) (x18 : Int) (x19 : List Bool) (x20 : List (Int × Int × Int × (List Int) × Int × Int)) (x21 : List (Int × Int × Int × (List Int) × Int)) (x22 : Int) (x23 : List Bool) (x24 : List (Int × Int × Int × (List Int) × Int × Int)) (x25 : List (Int × Int × Int × (List Int) × Int)) : Option (Int × List Bool × List (Int × Int × Int × (List Int) × Int × Int) × List (Int × Int × Int × (List Int) × Int)) := brB (iLt x17 x16) (chk (cIdx x17 (rLen x15)) (bnd (impl_copyGather.f k ((rGet (0, 0, 0, [], 0) x15 x17).1) (((rGet (0, 0, 0, [], 0) x15 x17).2).1) ((((rGet (0, 0, 0, [], 0) x15 x17).2).2).1) (((((rGet (0, 0, 0, [], 0) x15 x17).2).2).2).1) (((((rGet (0, 0, 0, [], 0) x15 x17).2).2).2).2)) fun p => (fun y6 y7 y8 y9 y10 => chk (cLen (rLen (rApp x25 [(y6, y7, y8, y9, y10)])) 56) (rec1 (x15, x16, iAdd .i64 x17 1, x18, x19, x20, x21, x22, x23, x24, rApp x25 [(y6, y7, y8, y9, y10)]))) p.1 p.2.1 p.2.2.1 p.2.2.2.1 p.2.2.2.2)) (some (x22, x23, x24, x25))
def l1 (k n : Nat) (x15 : List (Int × Int × Int × (List Int) × Int)) (x16 : Int) (x17 : Int) (x18 : Int) (x19 : List Bool) (x20 : List (Int × Int × Int × (List Int) × Int × Int)) (x21 : List (Int × Int × Int × (List Int) × Int)) (x22 : Int) (x23 : List Bool) (x24 : List (Int × Int × Int × (List Int) × Int × Int)) (x25 : List (Int × Int × Int × (List Int) × Int)) : Option (Int × List Bool × List (Int × Int × Int × (List Int) × Int × Int) × List (Int × Int × Int × (List Int) × Int)) := iter (fun (rec : ((List (Int × Int × Int × (List Int) × Int)) × Int × Int × Int × List Bool × (List (Int × Int × Int × (List Int) × Int × Int)) × (List (Int × Int × Int × (List Int) × Int)) × Int × List Bool × (List (Int × Int × Int × (List Int) × Int × Int)) × (List (Int × Int × Int × (List Int) × Int))) → Option (Int × List Bool × List (Int × Int × Int × (List Int) × Int × Int) × List (Int × Int × Int × (List Int) × Int))) (x : (List (Int × Int × Int × (List Int) × Int)) × Int × Int × Int × List Bool × (List (Int × Int × Int × (List Int) × Int × Int)) × (List (Int × Int × Int × (List Int) × Int)) × Int × List Bool × (List (Int × Int × Int × (List Int) × Int × Int)) × (List (Int × Int × Int × (List Int) × Int))) => s1 k rec x.1 x.2.1 x.2.2.1 x.2.2.2.1 x.2.2.2.2.1 x.2.2.2.2.2.1 x.2.2.2.2.2.2.1 x.2.2.2.2.2.2.2.1 x.2.2.2.2.2.2.2.2.1 x.2.2.2.2.2.2.2.2.2.1 x.2.2.2.2.2.2.2.2.2.2) n (x15, x16, x17, x18, x19, x20, x21, x22, x23, x24, x25)
def s0 (k : Nat) (rec0 : ((List (Int × Int × Int × (List Int) × Int × Int)) × Int × Int × Int × List Bool × (List (Int × Int × Int × (List Int) × Int × Int)) × (List (Int × Int × Int × (List Int) × Int)) × Int × List Bool × (List (Int × Int × Int × (List Int) × Int × Int)) × (List (Int × Int × Int × (List Int) × Int)) × Int × List Bool × (List (Int × Int × Int × (List Int) × Int × Int)) × (List (Int × Int × Int × (List Int) × Int))) → Option (Int × List Bool × List (Int × Int × Int × (List Int) × Int × Int) × List (Int × Int × Int × (List Int) × Int))) (x0 : List (Int × Int × Int × (List Int) × Int × Int)) (x1 : Int) (x2 : Int) (x3 : Int) (x4 : List Bool) (x5 : List (Int × Int × Int × (List Int) × Int × Int)) (x6 : List (Int × Int × Int × (List Int) × Int)) (x7 : Int) (x8 : List Bool) (x9 : List (Int × Int × Int × (List Int) × Int × Int)) (x10 : List (Int × Int × Int × (List Int) × Int)) (x11 : Int) (x12 : List Bool) (x13 : List (Int × Int × Int × (List Int) × Int × Int)) (x14 : List (Int × Int × Int × (List Int) × Int)) : Option (Int × List Bool × List (Int × Int × Int × (List Int) × Int × Int) × List (Int × Int × Int × (List Int) × Int)) := brB (iLt x2 x1) (chk (cIdx x2 (rLen x0)) (bnd (impl_copyGather.f k ((rGet (0, 0, 0, [], 0, 0) x0 x2).1) (((rGet (0, 0, 0, [], 0, 0) x0 x2).2).1) ((((rGet (0, 0, 0, [], 0, 0) x0 x2).2).2).1) (((((rGet (0, 0, 0, [], 0, 0) x0 x2).2).2).2).1) ((((((rGet (0, 0, 0, [], 0, 0) x0 x2).2).2).2).2).1)) fun p => (fun y1 y2 y3 y4 y5 => chk (cLen (rLen (rApp x13 [(y1, y2, y3, y4, y5, (((((rGet (0, 0, 0, [], 0, 0) x0 x2).2).2).2).2).2)])) 64) (rec0 (x0, x1, iAdd .i64 x2 1, x3, x4, x5, x6, x7, x8, x9, x10, x11, x12, rApp x13 [(y1, y2, y3, y4, y5, (((((rGet (0, 0, 0, [], 0, 0) x0 x2).2).2).2).2).2)], x14))) p.1 p.2.1 p.2.2.1 p.2.2.2.1 p.2.2.2.2)) (l1 k k x6 (rLen x6) 0 x7 x8 x9 x10 x11 x12 x13 x14)
def l0 (k n : Nat) (x0 : List (Int × Int × Int × (List Int) × Int × Int)) (x1 : Int) (x2 : Int) (x3 : Int) (x4 : List Bool) (x5 : List (Int × Int × Int × (List Int) × Int × Int)) (x6 : List (Int × Int × Int × (List Int) × Int)) (x7 : Int) (x8 : List Bool) (x9 : List (Int × Int × Int × (List Int) × Int × Int)) (x10 : List (Int × Int × Int × (List Int) × Int)) (x11 : Int) (x12 : List Bool) (x13 : List (Int × Int × Int × (List Int) × Int × Int)) (x14 : List (Int × Int × Int × (List Int) × Int)) : Option (Int × List Bool × List (Int × Int × Int × (List Int) × Int × Int) × List (Int × Int × Int × (List Int) × Int)) := iter (fun (rec : ((List (Int × Int × Int × (List Int) × Int × Int)) × Int × Int × Int × List Bool × (List (Int × Int × Int × (List Int) × Int × Int)) × (List (Int × Int × Int × (List Int) × Int)) × Int × List Bool × (List (Int × Int × Int × (List Int) × Int × Int)) × (List (Int × Int × Int × (List Int) × Int)) × Int × List Bool × (List (Int × Int × Int × (List Int) × Int × Int)) × (List (Int × Int × Int × (List Int) × Int))) → Option (Int × List Bool × List (Int × Int × Int × (List Int) × Int × Int) × List (Int × Int × Int × (List Int) × Int))) (x : (List (Int × Int × Int × (List Int) × Int × Int)) × Int × Int × Int × List Bool × (List (Int × Int × Int × (List Int) × Int × Int)) × (List (Int × Int × Int × (List Int) × Int)) × Int × List Bool × (List (Int × Int × Int × (List Int) × Int × Int)) × (List (Int × Int × Int × (List Int) × Int)) × Int × List Bool × (List (Int × Int × Int × (List Int) × Int × Int)) × (List (Int × Int × Int × (List Int) × Int))) => s0 k rec x.1 x.2.1 x.2.2.1 x.2.2.2.1 x.2.2.2.2.1 x.2.2.2.2.2.1 x.2.2.2.2.2.2.1 x.2.2.2.2.2.2.2.1 x.2.2.2.2.2.2.2.2.1 x.2.2.2.2.2.2.2.2.2.1 x.2.2.2.2.2.2.2.2.2.2.1 x.2.2.2.2.2.2.2.2.2.2.2.1 x.2.2.2.2.2.2.2.2.2.2.2.2.1 x.2.2.2.2.2.2.2.2.2.2.2.2.2.1 x.2.2.2.2.2.2.2.2.2.2.2.2.2.2) n (x0, x1, x2, x3, x4, x5, x6, x7, x8, x9, x10, x11, x12, x13, x14)
def f (k : Nat) (a0_0 : Int) (a0_1 : List Bool) (a0_2 : List (Int × Int × Int × (List Int) × Int × Int)) (a0_3 : List (Int × Int × Int × (List Int) × Int)) : Option (Int × List Bool × List (Int × Int × Int × (List Int) × Int × Int) × List (Int × Int × Int × (List Int) × Int)) := bnd (impl_copyTags.f k a0_1) fun y0 => l0 k k a0_2 (rLen a0_2) 0 a0_0 a0_1 a0_2 a0_3 0 [] [] [] a0_0 y0 [] []
def sig : Sig := ⟨67, [.w true [I, .row .bool, .row (.pair I (.pair I (.pair I (.pair (.row I) (.pair I I))))), .row (.pair I (.pair I (.pair I (.pair (.row I) I))))]], [(true, [.val I, .own .bool, .own (.deep none (.pair I (.pair I (.pair I (.pair (.row I) (.pair I I)))))), .own (.deep none (.pair I (.pair I (.pair I (.pair (.row I) I)))))])]⟩
def H : Hints := ⟨[(3, ⟨⟨[(1, .ptr 101 0), (2, .ptr 102 0), (3, .ptr 103 0), (15, .w false 1), (16, .w false 1), (17, .w false 1)], [(101, 4), (102, 4), (103, 4)]⟩, [1, 2, 3], [.val (.row (.pair I (.pair I (.pair I (.pair (.row I) (.pair I I)))))), .val I, .val I, .val I, .val (.row .bool), .val (.row (.pair I (.pair I (.pair I (.pair (.row I) (.pair I I)))))), .val (.row (.pair I (.pair I (.pair I (.pair (.row I) I))))), .val I, .own .bool, .own (.deep none (.pair I (.pair I (.pair I (.pair (.row I) (.pair I I)))))), .own (.deep none (.pair I (.pair I (.pair I (.pair (.row I) I))))), .val I, .own .bool, .own (.deep none (.pair I (.pair I (.pair I (.pair (.row I) (.pair I I)))))), .own (.deep none (.pair I (.pair I (.pair I (.pair (.row I) I)))))], []⟩), (8, ⟨⟨[(2, .ptr 102 0), (3, .ptr 103 0), (34, .w false 1), (35, .w false 1), (36, .w false 1)], [(102, 4), (103, 4)]⟩, [2, 3], [.val (.row (.pair I (.pair I (.pair I (.pair (.row I) I))))), .val I, .val I, .val I, .own .bool, .own (.deep none (.pair I (.pair I (.pair I (.pair (.row I) (.pair I I)))))), .own (.deep none (.pair I (.pair I (.pair I (.pair (.row I) I))))), .val I, .own .bool, .own (.deep none (.pair I (.pair I (.pair I (.pair (.row I) (.pair I I)))))), .own (.deep none (.pair I (.pair I (.pair I (.pair (.row I) I)))))], []⟩)], [], [(1, [0, 1, 0, 4, 12, 31, 0, 127]), (5, [0, 1, 0, 4, 12, 0, 32, 124, 252, 511, 1023, 2047]), (10, [0, 1, 0, 4, 12, 31, 63, 127])], [], true⟩
def spec : Spec := { sig := sig, fn := fun k (x : Int × List Bool × List (Int × Int × Int × (List Int) × Int × Int) × List (Int × Int × Int × (List Int) × Int)) => f k x.1 x.2.1 x.2.2.1 x.2.2.2 }
theorem ok : Holds Go.Proofs.Try.prog spec := holds_of_run (G := [impl_copyTags.spec, impl_copyGather.spec]) (holds_cons impl_copyTags.ok (holds_cons impl_copyGather.ok holds_nil)) (by kernel_rfl) H Go.Proofs.Try.func67 (by kernel_rfl) (rfl : Go.Proofs.Try.f67.body = some _) (by kernel_rfl) (by kernel_rfl) fun k x y h => Eq.trans (by kernel_rfl : _ = spec.fn k x) h
end impl_copyRequester

namespace slices_Index_bool
def s0 (k : Nat) (rec0 : (List Bool × Bool × Int × Int) → Option (Int)) (x0 : List Bool) (x1 : Bool) (x2 : Int) (x3 : Int) : Option (Int) := brB (iLt x3 x2) (chk (cIdx x3 (rLen x0)) (brB (bEq x1 (rGet false x0 x3)) (some x3) (rec0 (x0, x1, x2, iAdd .i64 x3 1)))) (some (-1))
def l0 (k n : Nat) (x0 : List Bool) (x1 : Bool) (x2 : Int) (x3 : Int) : Option (Int) := iter (fun (rec : (List Bool × Bool × Int × Int) → Option (Int)) (x : List Bool × Bool × Int × Int) => s0 k rec x.1 x.2.1 x.2.2.1 x.2.2.2) n (x0, x1, x2, x3)
def f (k : Nat) (a0 : List Bool) (a1 : Bool) : Option (Int) := l0 k k a0 a1 (rLen a0) 0
def sig : Sig := ⟨109, [.w false [.row .bool], .w false [.bool]], [(false, [.val I])]⟩
def H : Hints := ⟨[(2, ⟨⟨[(0, .w false 1), (1, .w false 1), (7, .w false 1), (8, .w false 1)], []⟩, [], [.val (.row .bool), .val .bool, .val I, .val I], []⟩)], [], [], [], false⟩
def spec : Spec := { sig := sig, fn := fun k (x : List Bool × Bool) => f k x.1 x.2 }
theorem ok : Holds Go.Proofs.Try.prog spec := holds_of_run (G := []) holds_nil (by kernel_rfl) H Go.Proofs.Try.func109 (by kernel_rfl) (rfl : Go.Proofs.Try.f109.body = some _) (by kernel_rfl) (by kernel_rfl) fun k x y h => Eq.trans (by kernel_rfl : _ = spec.fn k x) h
end slices_Index_bool

namespace impl_TagsOk
def f (k : Nat) (a0 : List Bool) : Option (Bool) := some (iEq (rLen a0) 8)
def sig : Sig := ⟨59, [.w true [.row .bool]], [(false, [.val .bool])]⟩
def H : Hints := ⟨[], [], [], [], false⟩
def spec : Spec := { sig := sig, fn := fun k (x : List Bool) => f k x }
theorem ok : Holds Go.Proofs.Try.prog spec := holds_of_run (G := []) holds_nil (by kernel_rfl) H Go.Proofs.Try.func59 (by kernel_rfl) (rfl : Go.Proofs.Try.f59.body = some _) (by kernel_rfl) (by kernel_rfl) fun k x y h => Eq.trans (by kernel_rfl : _ = spec.fn k x) h
end impl_TagsOk

namespace impl_TakeTag
def f (k : Nat) (a0 : List Bool) : Option (List Bool × Int) := bnd (impl_copyTags.f k a0) fun y0 => bnd (slices_Index_bool.f k a0 false) fun y1 => bnd (impl_TagsOk.f k a0) fun y2 => brB (bNot y2) (some (y0, (-1))) (brB (iLt y1 0) (some (y0, (-1))) (chk (cIdx y1 (rLen y0)) (some (rSet y0 y1 true, y1))))
def sig : Sig := ⟨70, [.w true [.row .bool]], [(true, [.own .bool]), (false, [.val I])]⟩
def H : Hints := ⟨[], [], [], [], false⟩
def spec : Spec := { sig := sig, fn := fun k (x : List Bool) => f k x }
theorem ok : Holds Go.Proofs.Try.prog spec := holds_of_run (G := [impl_copyTags.spec, slices_Index_bool.spec, impl_TagsOk.spec]) (holds_cons impl_copyTags.ok (holds_cons slices_Index_bool.ok (holds_cons impl_TagsOk.ok holds_nil))) (by kernel_rfl) H Go.Proofs.Try.func70 (by kernel_rfl) (rfl : Go.Proofs.Try.f70.body = some _) (by kernel_rfl) (by kernel_rfl) fun k x y h => Eq.trans (by kernel_rfl : _ = spec.fn k x) h
end impl_TakeTag

namespace impl_within
def f (k : Nat) (a0 : Int) (a1 : Int) (a2 : Int) : Option (Bool) := brB (iLe a1 a0) (some (iLe a0 a2)) (some false)
def sig : Sig := ⟨63, [.w false [I], .w false [I], .w false [I]], [(false, [.val .bool])]⟩
def H : Hints := ⟨[], [], [], [], false⟩
def spec : Spec := { sig := sig, fn := fun k (x : Int × Int × Int) => f k x.1 x.2.1 x.2.2 }
theorem ok : Holds Go.Proofs.Try.prog spec := holds_of_run (G := []) holds_nil (by kernel_rfl) H Go.Proofs.Try.func63 (by kernel_rfl) (rfl : Go.Proofs.Try.f63.body = some _) (by kernel_rfl) (by kernel_rfl) fun k x y h => Eq.trans (by kernel_rfl : _ = spec.fn k x) h
end impl_within

namespace impl_IsId
def f (k : Nat) (a0 : Int) : Option (Bool) := bnd (impl_within.f k a0 0 255) fun y0 => some y0
def sig : Sig := ⟨58, [.w false [I]], [(false, [.val .bool])]⟩
def H : Hints := ⟨[], [], [], [], false⟩
def spec : Spec := { sig := sig, fn := fun k (x : Int) => f k x }
theorem ok : Holds Go.Proofs.Try.prog spec := holds_of_run (G := [impl_within.spec]) (holds_cons impl_within.ok holds_nil) (by kernel_rfl) H Go.Proofs.Try.func58 (by kernel_rfl) (rfl : Go.Proofs.Try.f58.body = some _) (by kernel_rfl) (by kernel_rfl) fun k x y h => Eq.trans (by kernel_rfl : _ = spec.fn k x) h
end impl_IsId

namespace impl_isWord
def f (k : Nat) (a0 : Int) : Option (Bool) := bnd (impl_within.f k a0 0 65535) fun y0 => some y0
def sig : Sig := ⟨117, [.w false [I]], [(false, [.val .bool])]⟩
def H : Hints := ⟨[], [], [], [], false⟩
def spec : Spec := { sig := sig, fn := fun k (x : Int) => f k x }
theorem ok : Holds Go.Proofs.Try.prog spec := holds_of_run (G := [impl_within.spec]) (holds_cons impl_within.ok holds_nil) (by kernel_rfl) H Go.Proofs.Try.func117 (by kernel_rfl) (rfl : Go.Proofs.Try.f117.body = some _) (by kernel_rfl) (by kernel_rfl) fun k x y h => Eq.trans (by kernel_rfl : _ = spec.fn k x) h
end impl_isWord

namespace impl_areWords_1
def f (k : Nat) (a0 : Int) : Option (Bool) := bnd (impl_isWord.f k a0) fun y0 => some (bNot y0)
def sig : Sig := ⟨116, [.w false [I]], [(false, [.val .bool])]⟩
def H : Hints := ⟨[], [], [], [], false⟩
def spec : Spec := { sig := sig, fn := fun k (x : Int) => f k x }
theorem ok : Holds Go.Proofs.Try.prog spec := holds_of_run (G := [impl_isWord.spec]) (holds_cons impl_isWord.ok holds_nil) (by kernel_rfl) H Go.Proofs.Try.func116 (by kernel_rfl) (rfl : Go.Proofs.Try.f116.body = some _) (by kernel_rfl) (by kernel_rfl) fun k x y h => Eq.trans (by kernel_rfl : _ = spec.fn k x) h
end impl_areWords_1

namespace slices_IndexFunc_int_impl_areWords_1
def s0 (k : Nat) (rec0 : (List Int × Int × Int) → Option (Int)) (x0 : List Int) (x1 : Int) (x2 : Int) : Option (Int) := brB (iLt x2 x1) (chk (cIdx x2 (rLen x0)) (bnd (impl_areWords_1.f k (rGet 0 x0 x2)) fun y0 => brB y0 (some x2) (rec0 (x0, x1, iAdd .i64 x2 1)))) (some (-1))
def l0 (k n : Nat) (x0 : List Int) (x1 : Int) (x2 : Int) : Option (Int) := iter (fun (rec : (List Int × Int × Int) → Option (Int)) (x : List Int × Int × Int) => s0 k rec x.1 x.2.1 x.2.2) n (x0, x1, x2)
def f (k : Nat) (a0 : List Int) : Option (Int) := l0 k k a0 (rLen a0) 0
def sig : Sig := ⟨128, [.w false [.row I], .fn 116 []], [(false, [.val I])]⟩
def H : Hints := ⟨[(2, ⟨⟨[(0, .w false 1), (1, .fn 116 []), (7, .w false 1), (8, .w false 1)], []⟩, [], [.val (.row I), .val I, .val I], []⟩)], [], [], [], false⟩
def spec : Spec := { sig := sig, fn := fun k (x : List Int) => f k x }
theorem ok : Holds Go.Proofs.Try.prog spec := holds_of_run (G := [impl_areWords_1.spec]) (holds_cons impl_areWords_1.ok holds_nil) (by kernel_rfl) H Go.Proofs.Try.func128 (by kernel_rfl) (rfl : Go.Proofs.Try.f128.body = some _) (by kernel_rfl) (by kernel_rfl) fun k x y h => Eq.trans (by kernel_rfl : _ = spec.fn k x) h
end slices_IndexFunc_int_impl_areWords_1

namespace slices_ContainsFunc_int_impl_areWords_1
def f (k : Nat) (a0 : List Int) : Option (Bool) := bnd (slices_IndexFunc_int_impl_areWords_1.f k a0) fun y0 => some (iLe 0 y0)
def sig : Sig := ⟨115, [.w false [.row I], .fn 116 []], [(false, [.val .bool])]⟩
def H : Hints := ⟨[], [], [], [], false⟩
def spec : Spec := { sig := sig, fn := fun k (x : List Int) => f k x }
theorem ok : Holds Go.Proofs.Try.prog spec := holds_of_run (G := [slices_IndexFunc_int_impl_areWords_1.spec]) (holds_cons slices_IndexFunc_int_impl_areWords_1.ok holds_nil) (by kernel_rfl) H Go.Proofs.Try.func115 (by kernel_rfl) (rfl : Go.Proofs.Try.f115.body = some _) (by kernel_rfl) (by kernel_rfl) fun k x y h => Eq.trans (by kernel_rfl : _ = spec.fn k x) h
end slices_ContainsFunc_int_impl_areWords_1

namespace impl_areWords
def f (k : Nat) (a0 : List Int) : Option (Bool) := bnd (slices_ContainsFunc_int_impl_areWords_1.f k a0) fun y0 => some (bNot y0)
def sig : Sig := ⟨73, [.w false [.row I]], [(false, [.val .bool])]⟩
def H : Hints := ⟨[], [], [], [], false⟩
def spec : Spec := { sig := sig, fn := fun k (x : List Int) => f k x }
theorem ok : Holds Go.Proofs.Try.prog spec := holds_of_run (G := [slices_ContainsFunc_int_impl_areWords_1.spec]) (holds_cons slices_ContainsFunc_int_impl_areWords_1.ok holds_nil) (by kernel_rfl) H Go.Proofs.Try.func73 (by kernel_rfl) (rfl : Go.Proofs.Try.f73.body = some _) (by kernel_rfl) (by kernel_rfl) fun k x y h => Eq.trans (by kernel_rfl : _ = spec.fn k x) h
end impl_areWords

namespace impl_GatherOk
def f (k : Nat) (a0_0 : Int) (a0_1 : Int) (a0_2 : Int) (a0_3 : List Int) (a0_4 : Int) : Option (Bool) := bnd (impl_IsId.f k a0_0) fun y0 => brB y0 (bnd (impl_within.f k a0_1 0 7) fun y1 => brB y1 (bnd (impl_within.f k a0_2 0 64) fun y2 => brB y2 (brB (iLe (rLen a0_3) a0_2) (bnd (impl_areWords.f k a0_3) fun y3 => brB y3 (bnd (impl_within.f k a0_4 0 2) fun y4 => brB y4 (brB (iNe a0_4 1) (some true) (some (iEq (rLen a0_3) a0_2))) (some false)) (some false)) (some false)) (some false)) (some false)) (some false)
def sig : Sig := ⟨62, [.w true [I, I, I, .row I, I]], [(false, [.val .bool])]⟩
def H : Hints := ⟨[], [], [], [], false⟩
def spec : Spec := { sig := sig, fn := fun k (x : Int × Int × Int × List Int × Int) => f k x.1 x.2.1 x.2.2.1 x.2.2.2.1 x.2.2.2.2 }
theorem ok : Holds Go.Proofs.Try.prog spec := holds_of_run (G := [impl_within.spec, impl_IsId.spec, impl_areWords.spec]) (holds_cons impl_within.ok (holds_cons impl_IsId.ok (holds_cons impl_areWords.ok holds_nil))) (by kernel_rfl) H Go.Proofs.Try.func62 (by kernel_rfl) (rfl : Go.Proofs.Try.f62.body = some _) (by kernel_rfl) (by kernel_rfl) fun k x y h => Eq.trans (by kernel_rfl : _ = spec.fn k x) h
end impl_GatherOk

namespace impl_RequesterOk_1
def f (k : Nat) (a0_0 : Int) (a0_1 : Int) (a0_2 : Int) (a0_3 : List Int) (a0_4 : Int) : Option (Bool) := bnd (impl_GatherOk.f k a0_0 a0_1 a0_2 a0_3 a0_4) fun y0 => some (bNot y0)
def sig : Sig := ⟨61, [.w true [I, I, I, .row I, I]], [(false, [.val .bool])]⟩
def H : Hints := ⟨[], [], [], [], false⟩
def spec : Spec := { sig := sig, fn := fun k (x : Int × Int × Int × List Int × Int) => f k x.1 x.2.1 x.2.2.1 x.2.2.2.1 x.2.2.2.2 }
theorem ok : Holds Go.Proofs.Try.prog spec := holds_of_run (G := [impl_GatherOk.spec]) (holds_cons impl_GatherOk.ok holds_nil) (by kernel_rfl) H Go.Proofs.Try.func61 (by kernel_rfl) (rfl : Go.Proofs.Try.f61.body = some _) (by kernel_rfl) (by kernel_rfl) fun k x y h => Eq.trans (by kernel_rfl : _ = spec.fn k x) h
end impl_RequesterOk_1

namespace slices_IndexFunc_Gather_impl_RequesterOk_1
def s0 (k : Nat) (rec0 : ((List (Int × Int × Int × (List Int) × Int)) × Int × Int) → Option (Int)) (x0 : List (Int × Int × Int × (List Int) × Int)) (x1 : Int) (x2 : Int) : Option (Int) := brB (iLt x2 x1) (chk (cIdx x2 (rLen x0)) (bnd (impl_RequesterOk_1.f k ((rGet (0, 0, 0, [], 0) x0 x2).1) (((rGet (0, 0, 0, [], 0) x0 x2).2).1) ((((rGet (0, 0, 0, [], 0) x0 x2).2).2).1) (((((rGet (0, 0, 0, [], 0) x0 x2).2).2).2).1) (((((rGet (0, 0, 0, [], 0) x0 x2).2).2).2).2)) fun y0 => brB y0 (some x2) (rec0 (x0, x1, iAdd .i64 x2 1)))) (some (-1))
def l0 (k n : Nat) (x0 : List (Int × Int × Int × (List Int) × Int)) (x1 : Int) (x2 : Int) : Option (Int) := iter (fun (rec : ((List (Int × Int × Int × (List Int) × Int)) × Int × Int) → Option (Int)) (x : (List (Int × Int × Int × (List Int) × Int)) × Int × Int) => s0 k rec x.1 x.2.1 x.2.2) n (x0, x1, x2)
def f (k : Nat) (a0 : List (Int × Int × Int × (List Int) × Int)) : Option (Int) := l0 k k a0 (rLen a0) 0
def sig : Sig := ⟨104, [.w false [.row (.pair I (.pair I (.pair I (.pair (.row I) I))))], .fn 61 []], [(false, [.val I])]⟩
def H : Hints := ⟨[(2, ⟨⟨[(0, .w false 1), (1, .fn 61 []), (7, .w false 1), (8, .w false 1)], []⟩, [], [.val (.row (.pair I (.pair I (.pair I (.pair (.row I) I))))), .val I, .val I], []⟩)], [], [], [], false⟩
def spec : Spec := { sig := sig, fn := fun k (x : List (Int × Int × Int × (List Int) × Int)) => f k x }
theorem ok : Holds Go.Proofs.Try.prog spec := holds_of_run (G := [impl_RequesterOk_1.spec]) (holds_cons impl_RequesterOk_1.ok holds_nil) (by kernel_rfl) H Go.Proofs.Try.func104 (by kernel_rfl) (rfl : Go.Proofs.Try.f104.body = some _) (by kernel_rfl) (by kernel_rfl) fun k x y h => Eq.trans (by kernel_rfl : _ = spec.fn k x) h
end slices_IndexFunc_Gather_impl_RequesterOk_1

namespace slices_ContainsFunc_Gather_impl_RequesterOk_1
def f (k : Nat) (a0 : List (Int × Int × Int × (List Int) × Int)) : Option (Bool) := bnd (slices_IndexFunc_Gather_impl_RequesterOk_1.f k a0) fun y0 => some (iLe 0 y0)
def sig : Sig := ⟨60, [.w false [.row (.pair I (.pair I (.pair I (.pair (.row I) I))))], .fn 61 []], [(false, [.val .bool])]⟩
def H : Hints := ⟨[], [], [], [], false⟩
def spec : Spec := { sig := sig, fn := fun k (x : List (Int × Int × Int × (List Int) × Int)) => f k x }
theorem ok : Holds Go.Proofs.Try.prog spec := holds_of_run (G := [slices_IndexFunc_Gather_impl_RequesterOk_1.spec]) (holds_cons slices_IndexFunc_Gather_impl_RequesterOk_1.ok holds_nil) (by kernel_rfl) H Go.Proofs.Try.func60 (by kernel_rfl) (rfl : Go.Proofs.Try.f60.body = some _) (by kernel_rfl) (by kernel_rfl) fun k x y h => Eq.trans (by kernel_rfl : _ = spec.fn k x) h
end slices_ContainsFunc_Gather_impl_RequesterOk_1

namespace impl_NewTags
def f (k : Nat) : Option (List Bool) := chk (cMake 8 8 1) (some (rRep false 8))
def sig : Sig := ⟨37, [], [(true, [.own .bool])]⟩
def H : Hints := ⟨[], [], [], [], false⟩
def spec : Spec := { sig := sig, fn := fun k (x : Unit) => f k }
theorem ok : Holds Go.Proofs.Try.prog spec := holds_of_run (G := []) holds_nil (by kernel_rfl) H Go.Proofs.Try.func37 (by kernel_rfl) (rfl : Go.Proofs.Try.f37.body = some _) (by kernel_rfl) (by kernel_rfl) fun k x y h => Eq.trans (by kernel_rfl : _ = spec.fn k x) h
end impl_NewTags

namespace slices_Equal_bool
def s0 (k : Nat) (rec0 : (List Bool × List Bool × Int × Int) → Option (Bool)) (x0 : List Bool) (x1 : List Bool) (x2 : Int) (x3 : Int) : Option (Bool) := brB (iLt x3 x2) (chk (cIdx x3 (rLen x0)) (chk (cIdx x3 (rLen x1)) (brB (bNe (rGet false x0 x3) (rGet false x1 x3)) (some false) (rec0 (x0, x1, x2, iAdd .i64 x3 1))))) (some true)
def l0 (k n : Nat) (x0 : List Bool) (x1 : List Bool) (x2 : Int) (x3 : Int) : Option (Bool) := iter (fun (rec : (List Bool × List Bool × Int × Int) → Option (Bool)) (x : List Bool × List Bool × Int × Int) => s0 k rec x.1 x.2.1 x.2.2.1 x.2.2.2) n (x0, x1, x2, x3)
def f (k : Nat) (a0 : List Bool) (a1 : List Bool) : Option (Bool) := brB (iNe (rLen a0) (rLen a1)) (some false) (l0 k k a0 a1 (rLen a0) 0)
def sig : Sig := ⟨64, [.w false [.row .bool], .w false [.row .bool]], [(false, [.val .bool])]⟩
def H : Hints := ⟨[(4, ⟨⟨[(0, .w false 1), (1, .w false 1), (12, .w false 1), (13, .w false 1)], []⟩, [], [.val (.row .bool), .val (.row .bool), .val I, .val I], []⟩)], [], [(6, [0, 0, 3, 7, 0, 0, 48, 112, 255])], [], false⟩
def spec : Spec := { sig := sig, fn := fun k (x : List Bool × List Bool) => f k x.1 x.2 }
theorem ok : Holds Go.Proofs.Try.prog spec := holds_of_run (G := []) holds_nil (by kernel_rfl) H Go.Proofs.Try.func64 (by kernel_rfl) (rfl : Go.Proofs.Try.f64.body = some _) (by kernel_rfl) (by kernel_rfl) fun k x y h => Eq.trans (by kernel_rfl : _ = spec.fn k x) h
end slices_Equal_bool

namespace impl_RequesterOk
def s0 (k : Nat) (rec0 : ((List (Int × Int × Int × (List Int) × Int × Int)) × Int × Int × Int × List Bool × (List (Int × Int × Int × (List Int) × Int × Int)) × (List (Int × Int × Int × (List Int) × Int)) × List Bool) → Option (Bool)) (x0 : List (Int × Int × Int × (List Int) × Int × Int)) (x1 : Int) (x2 : Int) (x3 : Int) (x4 : List Bool) (x5 : List (Int × Int × Int × (List Int) × Int × Int)) (x6 : List (Int × Int × Int × (List Int) × Int)) (x7 : List Bool) : Option (Bool) := brB (iLt x2 x1) (chk (cIdx x2 (rLen x0)) (bnd (impl_GatherOk.f k ((rGet (0, 0, 0, [], 0, 0) x0 x2).1) (((rGet (0, 0, 0, [], 0, 0) x0 x2).2).1) ((((rGet (0, 0, 0, [], 0, 0) x0 x2).2).2).1) (((((rGet (0, 0, 0, [], 0, 0) x0 x2).2).2).2).1) ((((((rGet (0, 0, 0, [], 0, 0) x0 x2).2).2).2).2).1)) fun y4 => brB (bNot y4) (some false) (brB (iNe ((rGet (0, 0, 0, [], 0, 0) x0 x2).1) x3) (some false) (brB (iNe ((((((rGet (0, 0, 0, [], 0, 0) x0 x2).2).2).2).2).1) 0) (some false) (bnd (impl_within.f k ((((((rGet (0, 0, 0, [], 0, 0) x0 x2).2).2).2).2).2) 0 50) fun y5 => brB (bNot y5) (some false) (chk (cIdx (((rGet (0, 0, 0, [], 0, 0) x0 x2).2).1) (rLen x7)) (brB (rGet false x7 (((rGet (0, 0, 0, [], 0, 0) x0 x2).2).1)) (some false) (chk (cIdx (((rGet (0, 0, 0, [], 0, 0) x0 x2).2).1) (rLen x7)) (rec0 (x0, x1, iAdd .i64 x2 1, x3, x4, x5, x6, rSet x7 (((rGet (0, 0, 0, [], 0, 0) x0 x2).2).1) true)))))))))) (bnd (slices_Equal_bool.f k x7 x4) fun y6 => some y6)
def l0 (k n : Nat) (x0 : List (Int × Int × Int × (List Int) × Int × Int)) (x1 : Int) (x2 : Int) (x3 : Int) (x4 : List Bool) (x5 : List (Int × Int × Int × (List Int) × Int × Int)) (x6 : List (Int × Int × Int × (List Int) × Int)) (x7 : List Bool) : Option (Bool) := iter (fun (rec : ((List (Int × Int × Int × (List Int) × Int × Int)) × Int × Int × Int × List Bool × (List (Int × Int × Int × (List Int) × Int × Int)) × (List (Int × Int × Int × (List Int) × Int)) × List Bool) → Option (Bool)) (x : (List (Int × Int × Int × (List Int) × Int × Int)) × Int × Int × Int × List Bool × (List (Int × Int × Int × (List Int) × Int × Int)) × (List (Int × Int × Int × (List Int) × Int)) × List Bool) => s0 k rec x.1 x.2.1 x.2.2.1 x.2.2.2.1 x.2.2.2.2.1 x.2.2.2.2.2.1 x.2.2.2.2.2.2.1 x.2.2.2.2.2.2.2) n (x0, x1, x2, x3, x4, x5, x6, x7)
def f (k : Nat) (a0_0 : Int) (a0_1 : List Bool) (a0_2 : List (Int × Int × Int × (List Int) × Int × Int)) (a0_3 : List (Int × Int × Int × (List Int) × Int)) : Option (Bool) := bnd (impl_IsId.f k a0_0) fun y0 => brB (bNot y0) (some false) (bnd (impl_TagsOk.f k a0_1) fun y1 => brB (bNot y1) (some false) (brB (iLt 1000 (rLen a0_3)) (some false) (bnd (slices_ContainsFunc_Gather_impl_RequesterOk_1.f k a0_3) fun y2 => brB y2 (some false) (bnd (impl_NewTags.f k) fun y3 => l0 k k a0_2 (rLen a0_2) 0 a0_0 a0_1 a0_2 a0_3 y3))))
def sig : Sig := ⟨18, [.w true [I, .row .bool, .row (.pair I (.pair I (.pair I (.pair (.row I) (.pair I I))))), .row (.pair I (.pair I (.pair I (.pair (.row I) I))))]], [(false, [.val .bool])]⟩
def H : Hints := ⟨[(5, ⟨⟨[(1, .ptr 101 0), (3, .ptr 103 0), (30, .w false 1), (31, .w false 1), (32, .w false 1)], [(101, 4), (103, 1)]⟩, [1, 3], [.val (.row (.pair I (.pair I (.pair I (.pair (.row I) (.pair I I)))))), .val I, .val I, .val I, .val (.row .bool), .val (.row (.pair I (.pair I (.pair I (.pair (.row I) (.pair I I)))))), .val (.row (.pair I (.pair I (.pair I (.pair (.row I) I))))), .own .bool], []⟩)], [], [], [], false⟩
def spec : Spec := { sig := sig, fn := fun k (x : Int × List Bool × List (Int × Int × Int × (List Int) × Int × Int) × List (Int × Int × Int × (List Int) × Int)) => f k x.1 x.2.1 x.2.2.1 x.2.2.2 }
theorem ok : Holds Go.Proofs.Try.prog spec := holds_of_run (G := [impl_TagsOk.spec, impl_within.spec, impl_IsId.spec, impl_GatherOk.spec, slices_ContainsFunc_Gather_impl_RequesterOk_1.spec, impl_NewTags.spec, slices_Equal_bool.spec]) (holds_cons impl_TagsOk.ok (holds_cons impl_within.ok (holds_cons impl_IsId.ok (holds_cons impl_GatherOk.ok (holds_cons slices_ContainsFunc_Gather_impl_RequesterOk_1.ok (holds_cons impl_NewTags.ok (holds_cons slices_Equal_bool.ok holds_nil))))))) (by kernel_rfl) H Go.Proofs.Try.func18 (by kernel_rfl) (rfl : Go.Proofs.Try.f18.body = some _) (by kernel_rfl) (by kernel_rfl) fun k x y h => Eq.trans (by kernel_rfl : _ = spec.fn k x) h
end impl_RequesterOk

namespace impl_Packet__words
def f (k : Nat) (a0_0 : Int) (a0_1 : Int) (a0_2 : Int) (a0_3 : Int) (a0_4 : Int) (a0_5 : Int) (a0_6 : Int) (a0_7 : List Int) : Option (Int) := brB (iEq a0_0 3) (some a0_4) (some (rLen a0_7))
def sig : Sig := ⟨125, [.w true [I, I, I, I, I, I, I, .row I]], [(false, [.val I])]⟩
def H : Hints := ⟨[], [], [], [], false⟩
def spec : Spec := { sig := sig, fn := fun k (x : Int × Int × Int × Int × Int × Int × Int × List Int) => f k x.1 x.2.1 x.2.2.1 x.2.2.2.1 x.2.2.2.2.1 x.2.2.2.2.2.1 x.2.2.2.2.2.2.1 x.2.2.2.2.2.2.2 }
theorem ok : Holds Go.Proofs.Try.prog spec := holds_of_run (G := []) holds_nil (by kernel_rfl) H Go.Proofs.Try.func125 (by kernel_rfl) (rfl : Go.Proofs.Try.f125.body = some _) (by kernel_rfl) (by kernel_rfl) fun k x y h => Eq.trans (by kernel_rfl : _ = spec.fn k x) h
end impl_Packet__words

namespace impl_Packet__addressOk
def f (k : Nat) (a0_0 : Int) (a0_1 : Int) (a0_2 : Int) (a0_3 : Int) (a0_4 : Int) (a0_5 : Int) (a0_6 : Int) (a0_7 : List Int) : Option (Bool) := brB (iEq a0_0 1) (brB (iEq a0_0 1) (bnd (impl_within.f k a0_3 0 65535) fun y0 => brB y0 (bnd (impl_Packet__words.f k a0_0 a0_1 a0_2 a0_3 a0_4 a0_5 a0_6 a0_7) fun y1 => some (iLe y1 (iSub .i64 65536 a0_3))) (some false)) (brB (iEq a0_0 4) (brB (iEq a0_0 4) (bnd (impl_within.f k a0_3 0 63) fun y2 => some y2) (some (iEq a0_3 0))) (brB (iEq a0_0 5) (bnd (impl_within.f k a0_3 0 63) fun y3 => some y3) (some (iEq a0_3 0))))) (brB (iEq a0_0 3) (bnd (impl_within.f k a0_3 0 65535) fun y4 => brB y4 (bnd (impl_Packet__words.f k a0_0 a0_1 a0_2 a0_3 a0_4 a0_5 a0_6 a0_7) fun y5 => some (iLe y5 (iSub .i64 65536 a0_3))) (some false)) (brB (iEq a0_0 4) (brB (iEq a0_0 4) (bnd (impl_within.f k a0_3 0 63) fun y6 => some y6) (some (iEq a0_3 0))) (brB (iEq a0_0 5) (bnd (impl_within.f k a0_3 0 63) fun y7 => some y7) (some (iEq a0_3 0)))))
def sig : Sig := ⟨110, [.w true [I, I, I, I, I, I, I, .row I]], [(false, [.val .bool])]⟩
def H : Hints := ⟨[], [], [(4, [0, 1, 3, 7, 15, 31, 15, 79, 207, 511, 1023, 2047])], [], false⟩
def spec : Spec := { sig := sig, fn := fun k (x : Int × Int × Int × Int × Int × Int × Int × List Int) => f k x.1 x.2.1 x.2.2.1 x.2.2.2.1 x.2.2.2.2.1 x.2.2.2.2.2.1 x.2.2.2.2.2.2.1 x.2.2.2.2.2.2.2 }
theorem ok : Holds Go.Proofs.Try.prog spec := holds_of_run (G := [impl_within.spec, impl_Packet__words.spec]) (holds_cons impl_within.ok (holds_cons impl_Packet__words.ok holds_nil)) (by kernel_rfl) H Go.Proofs.Try.func110 (by kernel_rfl) (rfl : Go.Proofs.Try.f110.body = some _) (by kernel_rfl) (by kernel_rfl) fun k x y h => Eq.trans (by kernel_rfl : _ = spec.fn k x) h
end impl_Packet__addressOk

namespace impl_Packet__lengthOk
def f (k : Nat) (a0_0 : Int) (a0_1 : Int) (a0_2 : Int) (a0_3 : Int) (a0_4 : Int) (a0_5 : Int) (a0_6 : Int) (a0_7 : List Int) : Option (Bool) := brB (iEq a0_0 3) (bnd (impl_within.f k a0_4 1 64) fun y0 => some y0) (brB (iEq a0_0 6) (bnd (impl_within.f k a0_4 0 64) fun y1 => some y1) (some (iEq a0_4 0)))
def sig : Sig := ⟨111, [.w true [I, I, I, I, I, I, I, .row I]], [(false, [.val .bool])]⟩
def H : Hints := ⟨[], [], [], [], false⟩
def spec : Spec := { sig := sig, fn := fun k (x : Int × Int × Int × Int × Int × Int × Int × List Int) => f k x.1 x.2.1 x.2.2.1 x.2.2.2.1 x.2.2.2.2.1 x.2.2.2.2.2.1 x.2.2.2.2.2.2.1 x.2.2.2.2.2.2.2 }
theorem ok : Holds Go.Proofs.Try.prog spec := holds_of_run (G := [impl_within.spec]) (holds_cons impl_within.ok holds_nil) (by kernel_rfl) H Go.Proofs.Try.func111 (by kernel_rfl) (rfl : Go.Proofs.Try.f111.body = some _) (by kernel_rfl) (by kernel_rfl) fun k x y h => Eq.trans (by kernel_rfl : _ = spec.fn k x) h
end impl_Packet__lengthOk

namespace impl_Packet__dataOk_1
def f (k : Nat) (a0 : Int) : Option (Bool) := bnd (impl_isWord.f k a0) fun y0 => some (bNot y0)
def sig : Sig := ⟨126, [.w false [I]], [(false, [.val .bool])]⟩
def H : Hints := ⟨[], [], [], [], false⟩
def spec : Spec := { sig := sig, fn := fun k (x : Int) => f k x }
theorem ok : Holds Go.Proofs.Try.prog spec := holds_of_run (G := [impl_isWord.spec]) (holds_cons impl_isWord.ok holds_nil) (by kernel_rfl) H Go.Proofs.Try.func126 (by kernel_rfl) (rfl : Go.Proofs.Try.f126.body = some _) (by kernel_rfl) (by kernel_rfl) fun k x y h => Eq.trans (by kernel_rfl : _ = spec.fn k x) h
end impl_Packet__dataOk_1

namespace slices_IndexFunc_int_impl_Packet__dataOk_1
def s0 (k : Nat) (rec0 : (List Int × Int × Int) → Option (Int)) (x0 : List Int) (x1 : Int) (x2 : Int) : Option (Int) := brB (iLt x2 x1) (chk (cIdx x2 (rLen x0)) (bnd (impl_Packet__dataOk_1.f k (rGet 0 x0 x2)) fun y0 => brB y0 (some x2) (rec0 (x0, x1, iAdd .i64 x2 1)))) (some (-1))
def l0 (k n : Nat) (x0 : List Int) (x1 : Int) (x2 : Int) : Option (Int) := iter (fun (rec : (List Int × Int × Int) → Option (Int)) (x : List Int × Int × Int) => s0 k rec x.1 x.2.1 x.2.2) n (x0, x1, x2)
def f (k : Nat) (a0 : List Int) : Option (Int) := l0 k k a0 (rLen a0) 0
def sig : Sig := ⟨128, [.w false [.row I], .fn 126 []], [(false, [.val I])]⟩
def H : Hints := ⟨[(2, ⟨⟨[(0, .w false 1), (1, .fn 126 []), (7, .w false 1), (8, .w false 1)], []⟩, [], [.val (.row I), .val I, .val I], []⟩)], [], [], [], false⟩
def spec : Spec := { sig := sig, fn := fun k (x : List Int) => f k x }
theorem ok : Holds Go.Proofs.Try.prog spec := holds_of_run (G := [impl_Packet__dataOk_1.spec]) (holds_cons impl_Packet__dataOk_1.ok holds_nil) (by kernel_rfl) H Go.Proofs.Try.func128 (by kernel_rfl) (rfl : Go.Proofs.Try.f128.body = some _) (by kernel_rfl) (by kernel_rfl) fun k x y h => Eq.trans (by kernel_rfl : _ = spec.fn k x) h
end slices_IndexFunc_int_impl_Packet__dataOk_1

namespace slices_ContainsFunc_int_impl_Packet__dataOk_1
def f (k : Nat) (a0 : List Int) : Option (Bool) := bnd (slices_IndexFunc_int_impl_Packet__dataOk_1.f k a0) fun y0 => some (iLe 0 y0)
def sig : Sig := ⟨115, [.w false [.row I], .fn 126 []], [(false, [.val .bool])]⟩
def H : Hints := ⟨[], [], [], [], false⟩
def spec : Spec := { sig := sig, fn := fun k (x : List Int) => f k x }
theorem ok : Holds Go.Proofs.Try.prog spec := holds_of_run (G := [slices_IndexFunc_int_impl_areWords_1.spec, slices_IndexFunc_int_impl_Packet__dataOk_1.spec]) (holds_cons slices_IndexFunc_int_impl_areWords_1.ok (holds_cons slices_IndexFunc_int_impl_Packet__dataOk_1.ok holds_nil)) (by kernel_rfl) H Go.Proofs.Try.func115 (by kernel_rfl) (rfl : Go.Proofs.Try.f115.body = some _) (by kernel_rfl) (by kernel_rfl) fun k x y h => Eq.trans (by kernel_rfl : _ = spec.fn k x) h
end slices_ContainsFunc_int_impl_Packet__dataOk_1

namespace impl_Packet__dataOk
def f (k : Nat) (a0_0 : Int) (a0_1 : Int) (a0_2 : Int) (a0_3 : Int) (a0_4 : Int) (a0_5 : Int) (a0_6 : Int) (a0_7 : List Int) : Option (Bool) := bnd (slices_ContainsFunc_int_impl_Packet__dataOk_1.f k a0_7) fun y0 => brB y0 (some false) (brB (iEq a0_0 1) (bnd (impl_within.f k (rLen a0_7) 1 8) fun y1 => some y1) (brB (iEq a0_0 2) (bnd (impl_within.f k (rLen a0_7) 1 8) fun y2 => some y2) (brB (iEq a0_0 5) (some (iEq (rLen a0_7) 1)) (brB (iEq a0_0 6) (brB (iEq a0_6 0) (brB (iLe (rLen a0_7) 8) (some (iLe (rLen a0_7) a0_4)) (some false)) (some (iEq (rLen a0_7) 0))) (some (iEq (rLen a0_7) 0))))))
def sig : Sig := ⟨112, [.w true [I, I, I, I, I, I, I, .row I]], [(false, [.val .bool])]⟩
def H : Hints := ⟨[], [], [], [], false⟩
def spec : Spec := { sig := sig, fn := fun k (x : Int × Int × Int × Int × Int × Int × Int × List Int) => f k x.1 x.2.1 x.2.2.1 x.2.2.2.1 x.2.2.2.2.1 x.2.2.2.2.2.1 x.2.2.2.2.2.2.1 x.2.2.2.2.2.2.2 }
theorem ok : Holds Go.Proofs.Try.prog spec := holds_of_run (G := [impl_within.spec, slices_ContainsFunc_int_impl_areWords_1.spec, slices_ContainsFunc_int_impl_Packet__dataOk_1.spec]) (holds_cons impl_within.ok (holds_cons slices_ContainsFunc_int_impl_areWords_1.ok (holds_cons slices_ContainsFunc_int_impl_Packet__dataOk_1.ok holds_nil))) (by kernel_rfl) H Go.Proofs.Try.func112 (by kernel_rfl) (rfl : Go.Proofs.Try.f112.body = some _) (by kernel_rfl) (by kernel_rfl) fun k x y h => Eq.trans (by kernel_rfl : _ = spec.fn k x) h
end impl_Packet__dataOk

namespace impl_IsPacket
def f (k : Nat) (a0_0 : Int) (a0_1 : Int) (a0_2 : Int) (a0_3 : Int) (a0_4 : Int) (a0_5 : Int) (a0_6 : Int) (a0_7 : List Int) : Option (Bool) := bnd (impl_within.f k a0_0 1 6) fun y0 => brB (bNot y0) (some false) (bnd (impl_IsId.f k a0_1) fun y1 => brB (bNot y1) (some false) (bnd (impl_Packet__addressOk.f k a0_0 a0_1 a0_2 a0_3 a0_4 a0_5 a0_6 a0_7) fun y2 => brB (bNot y2) (some false) (bnd (impl_Packet__lengthOk.f k a0_0 a0_1 a0_2 a0_3 a0_4 a0_5 a0_6 a0_7) fun y3 => brB (bNot y3) (some false) (bnd (impl_within.f k a0_0 4 6) fun y4 => brB y4 (bnd (impl_IsId.f k a0_2) fun y5 => brB (bNot y5) (some false) (brB (bNot y4) (brB (iNe a0_2 0) (some false) (bnd (impl_within.f k a0_0 3 6) fun y6 => brB y6 (bnd (impl_within.f k a0_5 0 7) fun y7 => brB (bNot y7) (some false) (brB (bNot y6) (brB (iNe a0_5 0) (some false) (brB (iEq a0_0 6) (bnd (impl_within.f k a0_6 0 2) fun y8 => brB (bNot y8) (some false) (brB (iNe a0_0 6) (brB (iNe a0_6 0) (some false) (bnd (impl_Packet__dataOk.f k a0_0 a0_1 a0_2 a0_3 a0_4 a0_5 a0_6 a0_7) fun y9 => some y9)) (bnd (impl_Packet__dataOk.f k a0_0 a0_1 a0_2 a0_3 a0_4 a0_5 a0_6 a0_7) fun y10 => some y10))) (brB (iNe a0_0 6) (brB (iNe a0_6 0) (some false) (bnd (impl_Packet__dataOk.f k a0_0 a0_1 a0_2 a0_3 a0_4 a0_5 a0_6 a0_7) fun y11 => some y11)) (bnd (impl_Packet__dataOk.f k a0_0 a0_1 a0_2 a0_3 a0_4 a0_5 a0_6 a0_7) fun y12 => some y12)))) (brB (iEq a0_0 6) (bnd (impl_within.f k a0_6 0 2) fun y13 => brB (bNot y13) (some false) (brB (iNe a0_0 6) (brB (iNe a0_6 0) (some false) (bnd (impl_Packet__dataOk.f k a0_0 a0_1 a0_2 a0_3 a0_4 a0_5 a0_6 a0_7) fun y14 => some y14)) (bnd (impl_Packet__dataOk.f k a0_0 a0_1 a0_2 a0_3 a0_4 a0_5 a0_6 a0_7) fun y15 => some y15))) (brB (iNe a0_0 6) (brB (iNe a0_6 0) (some false) (bnd (impl_Packet__dataOk.f k a0_0 a0_1 a0_2 a0_3 a0_4 a0_5 a0_6 a0_7) fun y16 => some y16)) (bnd (impl_Packet__dataOk.f k a0_0 a0_1 a0_2 a0_3 a0_4 a0_5 a0_6 a0_7) fun y17 => some y17))))) (brB (bNot y6) (brB (iNe a0_5 0) (some false) (brB (iEq a0_0 6) (bnd (impl_within.f k a0_6 0 2) fun y18 => brB (bNot y18) (some false) (brB (iNe a0_0 6) (brB (iNe a0_6 0) (some false) (bnd (impl_Packet__dataOk.f k a0_0 a0_1 a0_2 a0_3 a0_4 a0_5 a0_6 a0_7) fun y19 => some y19)) (bnd (impl_Packet__dataOk.f k a0_0 a0_1 a0_2 a0_3 a0_4 a0_5 a0_6 a0_7) fun y20 => some y20))) (brB (iNe a0_0 6) (brB (iNe a0_6 0) (some false) (bnd (impl_Packet__dataOk.f k a0_0 a0_1 a0_2 a0_3 a0_4 a0_5 a0_6 a0_7) fun y21 => some y21)) (bnd (impl_Packet__dataOk.f k a0_0 a0_1 a0_2 a0_3 a0_4 a0_5 a0_6 a0_7) fun y22 => some y22)))) (brB (iEq a0_0 6) (bnd (impl_within.f k a0_6 0 2) fun y23 => brB (bNot y23) (some false) (brB (iNe a0_0 6) (brB (iNe a0_6 0) (some false) (bnd (impl_Packet__dataOk.f k a0_0 a0_1 a0_2 a0_3 a0_4 a0_5 a0_6 a0_7) fun y24 => some y24)) (bnd (impl_Packet__dataOk.f k a0_0 a0_1 a0_2 a0_3 a0_4 a0_5 a0_6 a0_7) fun y25 => some y25))) (brB (iNe a0_0 6) (brB (iNe a0_6 0) (some false) (bnd (impl_Packet__dataOk.f k a0_0 a0_1 a0_2 a0_3 a0_4 a0_5 a0_6 a0_7) fun y26 => some y26)) (bnd (impl_Packet__dataOk.f k a0_0 a0_1 a0_2 a0_3 a0_4 a0_5 a0_6 a0_7) fun y27 => some y27)))))) (bnd (impl_within.f k a0_0 3 6) fun y28 => brB y28 (bnd (impl_within.f k a0_5 0 7) fun y29 => brB (bNot y29) (some false) (brB (bNot y28) (brB (iNe a0_5 0) (some false) (brB (iEq a0_0 6) (bnd (impl_within.f k a0_6 0 2) fun y30 => brB (bNot y30) (some false) (brB (iNe a0_0 6) (brB (iNe a0_6 0) (some false) (bnd (impl_Packet__dataOk.f k a0_0 a0_1 a0_2 a0_3 a0_4 a0_5 a0_6 a0_7) fun y31 => some y31)) (bnd (impl_Packet__dataOk.f k a0_0 a0_1 a0_2 a0_3 a0_4 a0_5 a0_6 a0_7) fun y32 => some y32))) (brB (iNe a0_0 6) (brB (iNe a0_6 0) (some false) (bnd (impl_Packet__dataOk.f k a0_0 a0_1 a0_2 a0_3 a0_4 a0_5 a0_6 a0_7) fun y33 => some y33)) (bnd (impl_Packet__dataOk.f k a0_0 a0_1 a0_2 a0_3 a0_4 a0_5 a0_6 a0_7) fun y34 => some y34)))) (brB (iEq a0_0 6) (bnd (impl_within.f k a0_6 0 2) fun y35 => brB (bNot y35) (some false) (brB (iNe a0_0 6) (brB (iNe a0_6 0) (some false) (bnd (impl_Packet__dataOk.f k a0_0 a0_1 a0_2 a0_3 a0_4 a0_5 a0_6 a0_7) fun y36 => some y36)) (bnd (impl_Packet__dataOk.f k a0_0 a0_1 a0_2 a0_3 a0_4 a0_5 a0_6 a0_7) fun y37 => some y37))) (brB (iNe a0_0 6) (brB (iNe a0_6 0) (some false) (bnd (impl_Packet__dataOk.f k a0_0 a0_1 a0_2 a0_3 a0_4 a0_5 a0_6 a0_7) fun y38 => some y38)) (bnd (impl_Packet__dataOk.f k a0_0 a0_1 a0_2 a0_3 a0_4 a0_5 a0_6 a0_7) fun y39 => some y39))))) (brB (bNot y28) (brB (iNe a0_5 0) (some false) (brB (iEq a0_0 6) (bnd (impl_within.f k a0_6 0 2) fun y40 => brB (bNot y40) (some false) (brB (iNe a0_0 6) (brB (iNe a0_6 0) (some false) (bnd (impl_Packet__dataOk.f k a0_0 a0_1 a0_2 a0_3 a0_4 a0_5 a0_6 a0_7) fun y41 => some y41)) (bnd (impl_Packet__dataOk.f k a0_0 a0_1 a0_2 a0_3 a0_4 a0_5 a0_6 a0_7) fun y42 => some y42))) (brB (iNe a0_0 6) (brB (iNe a0_6 0) (some false) (bnd (impl_Packet__dataOk.f k a0_0 a0_1 a0_2 a0_3 a0_4 a0_5 a0_6 a0_7) fun y43 => some y43)) (bnd (impl_Packet__dataOk.f k a0_0 a0_1 a0_2 a0_3 a0_4 a0_5 a0_6 a0_7) fun y44 => some y44)))) (brB (iEq a0_0 6) (bnd (impl_within.f k a0_6 0 2) fun y45 => brB (bNot y45) (some false) (brB (iNe a0_0 6) (brB (iNe a0_6 0) (some false) (bnd (impl_Packet__dataOk.f k a0_0 a0_1 a0_2 a0_3 a0_4 a0_5 a0_6 a0_7) fun y46 => some y46)) (bnd (impl_Packet__dataOk.f k a0_0 a0_1 a0_2 a0_3 a0_4 a0_5 a0_6 a0_7) fun y47 => some y47))) (brB (iNe a0_0 6) (brB (iNe a0_6 0) (some false) (bnd (impl_Packet__dataOk.f k a0_0 a0_1 a0_2 a0_3 a0_4 a0_5 a0_6 a0_7) fun y48 => some y48)) (bnd (impl_Packet__dataOk.f k a0_0 a0_1 a0_2 a0_3 a0_4 a0_5 a0_6 a0_7) fun y49 => some y49))))))) (brB (bNot y4) (brB (iNe a0_2 0) (some false) (bnd (impl_within.f k a0_0 3 6) fun y50 => brB y50 (bnd (impl_within.f k a0_5 0 7) fun y51 => brB (bNot y51) (some false) (brB (bNot y50) (brB (iNe a0_5 0) (some false) (brB (iEq a0_0 6) (bnd (impl_within.f k a0_6 0 2) fun y52 => brB (bNot y52) (some false) (brB (iNe a0_0 6) (brB (iNe a0_6 0) (some false) (bnd (impl_Packet__dataOk.f k a0_0 a0_1 a0_2 a0_3 a0_4 a0_5 a0_6 a0_7) fun y53 => some y53)) (bnd (impl_Packet__dataOk.f k a0_0 a0_1 a0_2 a0_3 a0_4 a0_5 a0_6 a0_7) fun y54 => some y54))) (brB (iNe a0_0 6) (brB (iNe a0_6 0) (some false) (bnd (impl_Packet__dataOk.f k a0_0 a0_1 a0_2 a0_3 a0_4 a0_5 a0_6 a0_7) fun y55 => some y55)) (bnd (impl_Packet__dataOk.f k a0_0 a0_1 a0_2 a0_3 a0_4 a0_5 a0_6 a0_7) fun y56 => some y56)))) (brB (iEq a0_0 6) (bnd (impl_within.f k a0_6 0 2) fun y57 => brB (bNot y57) (some false) (brB (iNe a0_0 6) (brB (iNe a0_6 0) (some false) (bnd (impl_Packet__dataOk.f k a0_0 a0_1 a0_2 a0_3 a0_4 a0_5 a0_6 a0_7) fun y58 => some y58)) (bnd (impl_Packet__dataOk.f k a0_0 a0_1 a0_2 a0_3 a0_4 a0_5 a0_6 a0_7) fun y59 => some y59))) (brB (iNe a0_0 6) (brB (iNe a0_6 0) (some false) (bnd (impl_Packet__dataOk.f k a0_0 a0_1 a0_2 a0_3 a0_4 a0_5 a0_6 a0_7) fun y60 => some y60)) (bnd (impl_Packet__dataOk.f k a0_0 a0_1 a0_2 a0_3 a0_4 a0_5 a0_6 a0_7) fun y61 => some y61))))) (brB (bNot y50) (brB (iNe a0_5 0) (some false) (brB (iEq a0_0 6) (bnd (impl_within.f k a0_6 0 2) fun y62 => brB (bNot y62) (some false) (brB (iNe a0_0 6) (brB (iNe a0_6 0) (some false) (bnd (impl_Packet__dataOk.f k a0_0 a0_1 a0_2 a0_3 a0_4 a0_5 a0_6 a0_7) fun y63 => some y63)) (bnd (impl_Packet__dataOk.f k a0_0 a0_1 a0_2 a0_3 a0_4 a0_5 a0_6 a0_7) fun y64 => some y64))) (brB (iNe a0_0 6) (brB (iNe a0_6 0) (some false) (bnd (impl_Packet__dataOk.f k a0_0 a0_1 a0_2 a0_3 a0_4 a0_5 a0_6 a0_7) fun y65 => some y65)) (bnd (impl_Packet__dataOk.f k a0_0 a0_1 a0_2 a0_3 a0_4 a0_5 a0_6 a0_7) fun y66 => some y66)))) (brB (iEq a0_0 6) (bnd (impl_within.f k a0_6 0 2) fun y67 => brB (bNot y67) (some false) (brB (iNe a0_0 6) (brB (iNe a0_6 0) (some false) (bnd (impl_Packet__dataOk.f k a0_0 a0_1 a0_2 a0_3 a0_4 a0_5 a0_6 a0_7) fun y68 => some y68)) (bnd (impl_Packet__dataOk.f k a0_0 a0_1 a0_2 a0_3 a0_4 a0_5 a0_6 a0_7) fun y69 => some y69))) (brB (iNe a0_0 6) (brB (iNe a0_6 0) (some false) (bnd (impl_Packet__dataOk.f k a0_0 a0_1 a0_2 a0_3 a0_4 a0_5 a0_6 a0_7) fun y70 => some y70)) (bnd (impl_Packet__dataOk.f k a0_0 a0_1 a0_2 a0_3 a0_4 a0_5 a0_6 a0_7) fun y71 => some y71)))))) (bnd (impl_within.f k a0_0 3 6) fun y72 => brB y72 (bnd (impl_within.f k a0_5 0 7) fun y73 => brB (bNot y73) (some false) (brB (bNot y72) (brB (iNe a0_5 0) (some false) (brB (iEq a0_0 6) (bnd (impl_within.f k a0_6 0 2) fun y74 => brB (bNot y74) (some false) (brB (iNe a0_0 6) (brB (iNe a0_6 0) (some false) (bnd (impl_Packet__dataOk.f k a0_0 a0_1 a0_2 a0_3 a0_4 a0_5 a0_6 a0_7) fun y75 => some y75)) (bnd (impl_Packet__dataOk.f k a0_0 a0_1 a0_2 a0_3 a0_4 a0_5 a0_6 a0_7) fun y76 => some y76))) (brB (iNe a0_0 6) (brB (iNe a0_6 0) (some false) (bnd (impl_Packet__dataOk.f k a0_0 a0_1 a0_2 a0_3 a0_4 a0_5 a0_6 a0_7) fun y77 => some y77)) (bnd (impl_Packet__dataOk.f k a0_0 a0_1 a0_2 a0_3 a0_4 a0_5 a0_6 a0_7) fun y78 => some y78)))) (brB (iEq a0_0 6) (bnd (impl_within.f k a0_6 0 2) fun y79 => brB (bNot y79) (some false) (brB (iNe a0_0 6) (brB (iNe a0_6 0) (some false) (bnd (impl_Packet__dataOk.f k a0_0 a0_1 a0_2 a0_3 a0_4 a0_5 a0_6 a0_7) fun y80 => some y80)) (bnd (impl_Packet__dataOk.f k a0_0 a0_1 a0_2 a0_3 a0_4 a0_5 a0_6 a0_7) fun y81 => some y81))) (brB (iNe a0_0 6) (brB (iNe a0_6 0) (some false) (bnd (impl_Packet__dataOk.f k a0_0 a0_1 a0_2 a0_3 a0_4 a0_5 a0_6 a0_7) fun y82 => some y82)) (bnd (impl_Packet__dataOk.f k a0_0 a0_1 a0_2 a0_3 a0_4 a0_5 a0_6 a0_7) fun y83 => some y83))))) (brB (bNot y72) (brB (iNe a0_5 0) (some false) (brB (iEq a0_0 6) (bnd (impl_within.f k a0_6 0 2) fun y84 => brB (bNot y84) (some false) (brB (iNe a0_0 6) (brB (iNe a0_6 0) (some false) (bnd (impl_Packet__dataOk.f k a0_0 a0_1 a0_2 a0_3 a0_4 a0_5 a0_6 a0_7) fun y85 => some y85)) (bnd (impl_Packet__dataOk.f k a0_0 a0_1 a0_2 a0_3 a0_4 a0_5 a0_6 a0_7) fun y86 => some y86))) (brB (iNe a0_0 6) (brB (iNe a0_6 0) (some false) (bnd (impl_Packet__dataOk.f k a0_0 a0_1 a0_2 a0_3 a0_4 a0_5 a0_6 a0_7) fun y87 => some y87)) (bnd (impl_Packet__dataOk.f k a0_0 a0_1 a0_2 a0_3 a0_4 a0_5 a0_6 a0_7) fun y88 => some y88)))) (brB (iEq a0_0 6) (bnd (impl_within.f k a0_6 0 2) fun y89 => brB (bNot y89) (some false) (brB (iNe a0_0 6) (brB (iNe a0_6 0) (some false) (bnd (impl_Packet__dataOk.f k a0_0 a0_1 a0_2 a0_3 a0_4 a0_5 a0_6 a0_7) fun y90 => some y90)) (bnd (impl_Packet__dataOk.f k a0_0 a0_1 a0_2 a0_3 a0_4 a0_5 a0_6 a0_7) fun y91 => some y91))) (brB (iNe a0_0 6) (brB (iNe a0_6 0) (some false) (bnd (impl_Packet__dataOk.f k a0_0 a0_1 a0_2 a0_3 a0_4 a0_5 a0_6 a0_7) fun y92 => some y92)) (bnd (impl_Packet__dataOk.f k a0_0 a0_1 a0_2 a0_3 a0_4 a0_5 a0_6 a0_7) fun y93 => some y93))))))))))
def sig : Sig := ⟨71, [.w true [I, I, I, I, I, I, I, .row I]], [(false, [.val .bool])]⟩
def H : Hints := ⟨[], [], [], [], false⟩
def spec : Spec := { sig := sig, fn := fun k (x : Int × Int × Int × Int × Int × Int × Int × List Int) => f k x.1 x.2.1 x.2.2.1 x.2.2.2.1 x.2.2.2.2.1 x.2.2.2.2.2.1 x.2.2.2.2.2.2.1 x.2.2.2.2.2.2.2 }
theorem ok : Holds Go.Proofs.Try.prog spec := holds_of_run (G := [impl_within.spec, impl_IsId.spec, impl_Packet__addressOk.spec, impl_Packet__lengthOk.spec, impl_Packet__dataOk.spec]) (holds_cons impl_within.ok (holds_cons impl_IsId.ok (holds_cons impl_Packet__addressOk.ok (holds_cons impl_Packet__lengthOk.ok (holds_cons impl_Packet__dataOk.ok holds_nil))))) (by kernel_rfl) H Go.Proofs.Try.func71 (by kernel_rfl) (rfl : Go.Proofs.Try.f71.body = some _) (by kernel_rfl) (by kernel_rfl) fun k x y h => Eq.trans (by kernel_rfl : _ = spec.fn k x) h
end impl_IsPacket

namespace impl_classOf
def f (k : Nat) (a0 : Int) : Option (Int) := brB (iEq a0 1) (brB (iEq a0 1) (some 0) (brB (iEq a0 6) (some 2) (some 1))) (brB (iEq a0 2) (some 0) (brB (iEq a0 6) (some 2) (some 1)))
def sig : Sig := ⟨127, [.w false [I]], [(false, [.val I])]⟩
def H : Hints := ⟨[], [], [], [], false⟩
def spec : Spec := { sig := sig, fn := fun k (x : Int) => f k x }
theorem ok : Holds Go.Proofs.Try.prog spec := holds_of_run (G := []) holds_nil (by kernel_rfl) H Go.Proofs.Try.func127 (by kernel_rfl) (rfl : Go.Proofs.Try.f127.body = some _) (by kernel_rfl) (by kernel_rfl) fun k x y h => Eq.trans (by kernel_rfl : _ = spec.fn k x) h
end impl_classOf

namespace impl_ClassOf
def f (k : Nat) (a0_0 : Int) (a0_1 : Int) (a0_2 : Int) (a0_3 : Int) (a0_4 : Int) (a0_5 : Int) (a0_6 : Int) (a0_7 : List Int) : Option (Int) := bnd (impl_IsPacket.f k a0_0 a0_1 a0_2 a0_3 a0_4 a0_5 a0_6 a0_7) fun y0 => brB (bNot y0) (some (-1)) (bnd (impl_classOf.f k a0_0) fun y1 => some y1)
def sig : Sig := ⟨113, [.w true [I, I, I, I, I, I, I, .row I]], [(false, [.val I])]⟩
def H : Hints := ⟨[], [], [], [], false⟩
def spec : Spec := { sig := sig, fn := fun k (x : Int × Int × Int × Int × Int × Int × Int × List Int) => f k x.1 x.2.1 x.2.2.1 x.2.2.2.1 x.2.2.2.2.1 x.2.2.2.2.2.1 x.2.2.2.2.2.2.1 x.2.2.2.2.2.2.2 }
theorem ok : Holds Go.Proofs.Try.prog spec := holds_of_run (G := [impl_IsPacket.spec, impl_classOf.spec]) (holds_cons impl_IsPacket.ok (holds_cons impl_classOf.ok holds_nil)) (by kernel_rfl) H Go.Proofs.Try.func113 (by kernel_rfl) (rfl : Go.Proofs.Try.f113.body = some _) (by kernel_rfl) (by kernel_rfl) fun k x y h => Eq.trans (by kernel_rfl : _ = spec.fn k x) h
end impl_ClassOf

namespace impl_wanted
def f (k : Nat) (a0_0 : Int) (a0_1 : Int) (a0_2 : Int) (a0_3 : Int) (a0_4 : Int) (a0_5 : Int) (a0_6 : Int) (a0_7 : List Int) : Option (Int) := brB (iEq a0_0 3) (some a0_4) (brB (iEq a0_0 4) (some 1) (some 0))
def sig : Sig := ⟨114, [.w true [I, I, I, I, I, I, I, .row I]], [(false, [.val I])]⟩
def H : Hints := ⟨[], [], [], [], false⟩
def spec : Spec := { sig := sig, fn := fun k (x : Int × Int × Int × Int × Int × Int × Int × List Int) => f k x.1 x.2.1 x.2.2.1 x.2.2.2.1 x.2.2.2.2.1 x.2.2.2.2.2.1 x.2.2.2.2.2.2.1 x.2.2.2.2.2.2.2 }
theorem ok : Holds Go.Proofs.Try.prog spec := holds_of_run (G := []) holds_nil (by kernel_rfl) H Go.Proofs.Try.func114 (by kernel_rfl) (rfl : Go.Proofs.Try.f114.body = some _) (by kernel_rfl) (by kernel_rfl) fun k x y h => Eq.trans (by kernel_rfl : _ = spec.fn k x) h
end impl_wanted

namespace impl_NewGather
def f (k : Nat) (a0_0 : Int) (a0_1 : Int) (a0_2 : Int) (a0_3 : Int) (a0_4 : Int) (a0_5 : Int) (a0_6 : Int) (a0_7 : List Int) : Option (Int × Int × Int × List Int × Int × Bool) := bnd (impl_ClassOf.f k a0_0 a0_1 a0_2 a0_3 a0_4 a0_5 a0_6 a0_7) fun y0 => brB (iNe y0 1) (some (0, 0, 0, [], 0, false)) (bnd (impl_wanted.f k a0_0 a0_1 a0_2 a0_3 a0_4 a0_5 a0_6 a0_7) fun y1 => some (a0_1, a0_5, y1, [], 0, true))
def sig : Sig := ⟨72, [.w true [I, I, I, I, I, I, I, .row I]], [(true, [.val I, .val I, .val I, .own I, .val I]), (false, [.val .bool])]⟩
def H : Hints := ⟨[], [], [(3, [0, 1, 0, 4, 0, 16, 63, 127, 255])], [], false⟩
def spec : Spec := { sig := sig, fn := fun k (x : Int × Int × Int × Int × Int × Int × Int × List Int) => f k x.1 x.2.1 x.2.2.1 x.2.2.2.1 x.2.2.2.2.1 x.2.2.2.2.2.1 x.2.2.2.2.2.2.1 x.2.2.2.2.2.2.2 }
theorem ok : Holds Go.Proofs.Try.prog spec := holds_of_run (G := [impl_ClassOf.spec, impl_wanted.spec]) (holds_cons impl_ClassOf.ok (holds_cons impl_wanted.ok holds_nil)) (by kernel_rfl) H Go.Proofs.Try.func72 (by kernel_rfl) (rfl : Go.Proofs.Try.f72.body = some _) (by kernel_rfl) (by kernel_rfl) fun k x y h => Eq.trans (by kernel_rfl : _ = spec.fn k x) h
end impl_NewGather

namespace impl_BeginRead
def f (k : Nat) (a0_0 : Int) (a0_1 : List Bool) (a0_2 : List (Int × Int × Int × (List Int) × Int × Int)) (a0_3 : List (Int × Int × Int × (List Int) × Int)) (a1 : Int) (a2 : Int) : Option (Int × List Bool × List (Int × Int × Int × (List Int) × Int × Int) × List (Int × Int × Int × (List Int) × Int) × Int × Int × Int × Int × Int × Int × Int × List Int × Bool) := bnd (impl_copyRequester.f k a0_0 a0_1 a0_2 a0_3) fun p => (fun y0 y1 y2 y3 => bnd (impl_TakeTag.f k a0_1) fun p => (fun y4 y5 => bnd (impl_RequesterOk.f k a0_0 a0_1 a0_2 a0_3) fun y6 => brB (bNot y6) (some (y0, y1, y2, y3, 0, 0, 0, 0, 0, 0, 0, [], false)) (brB (iLt y5 0) (some (y0, y1, y2, y3, 0, 0, 0, 0, 0, 0, 0, [], false)) (bnd (impl_IsPacket.f k 3 a0_0 0 a1 a2 y5 0 []) fun y7 => brB (bNot y7) (some (y0, y1, y2, y3, 0, 0, 0, 0, 0, 0, 0, [], false)) (bnd (impl_NewGather.f k 3 a0_0 0 a1 a2 y5 0 []) fun p => (fun y8 y9 y10 y11 y12 y13 => chk (cLen (rLen (rApp y2 [(y8, y9, y10, y11, y12, 0)])) 64) (some (y0, y4, rApp y2 [(y8, y9, y10, y11, y12, 0)], y3, 3, a0_0, 0, a1, a2, y5, 0, [], true))) p.1 p.2.1 p.2.2.1 p.2.2.2.1 p.2.2.2.2.1 p.2.2.2.2.2)))) p.1 p.2) p.1 p.2.1 p.2.2.1 p.2.2.2
def sig : Sig := ⟨24, [.w true [I, .row .bool, .row (.pair I (.pair I (.pair I (.pair (.row I) (.pair I I))))), .row (.pair I (.pair I (.pair I (.pair (.row I) I))))], .w false [I], .w false [I]], [(true, [.val I, .own .bool, .own (.deep none (.pair I (.pair I (.pair I (.pair (.row I) (.pair I I)))))), .own (.deep none (.pair I (.pair I (.pair I (.pair (.row I) I)))))]), (true, [.val I, .val I, .val I, .val I, .val I, .val I, .val I, .own I]), (false, [.val .bool])]⟩
def H : Hints := ⟨[], [], [(7, [0, 0, 2, 0, 8, 24, 62, 7, 255, 511, 1023]), (8, [0, 0, 1, 7, 15])], [], true⟩
def spec : Spec := { sig := sig, fn := fun k (x : Int × List Bool × List (Int × Int × Int × (List Int) × Int × Int) × List (Int × Int × Int × (List Int) × Int) × Int × Int) => f k x.1 x.2.1 x.2.2.1 x.2.2.2.1 x.2.2.2.2.1 x.2.2.2.2.2 }
theorem ok : Holds Go.Proofs.Try.prog spec := holds_of_run (G := [impl_copyRequester.spec, impl_TakeTag.spec, impl_RequesterOk.spec, impl_IsPacket.spec, impl_NewGather.spec]) (holds_cons impl_copyRequester.ok (holds_cons impl_TakeTag.ok (holds_cons impl_RequesterOk.ok (holds_cons impl_IsPacket.ok (holds_cons impl_NewGather.ok holds_nil))))) (by kernel_rfl) H Go.Proofs.Try.func24 (by kernel_rfl) (rfl : Go.Proofs.Try.f24.body = some _) (by kernel_rfl) (by kernel_rfl) fun k x y h => Eq.trans (by kernel_rfl : _ = spec.fn k x) h
end impl_BeginRead

namespace laws_eqBoolS
def s0 (k : Nat) (rec0 : (List Bool × List Bool × Int) → Option (Bool)) (x0 : List Bool) (x1 : List Bool) (x2 : Int) : Option (Bool) := brB (iLt x2 (rLen x0)) (chk (cIdx x2 (rLen x0)) (chk (cIdx x2 (rLen x1)) (brB (bNe (rGet false x0 x2) (rGet false x1 x2)) (some false) (rec0 (x0, x1, iAdd .i64 x2 1))))) (some true)
def l0 (k n : Nat) (x0 : List Bool) (x1 : List Bool) (x2 : Int) : Option (Bool) := iter (fun (rec : (List Bool × List Bool × Int) → Option (Bool)) (x : List Bool × List Bool × Int) => s0 k rec x.1 x.2.1 x.2.2) n (x0, x1, x2)
def f (k : Nat) (a0 : List Bool) (a1 : List Bool) : Option (Bool) := brB (iNe (rLen a0) (rLen a1)) (some false) (l0 k k a0 a1 0)
def sig : Sig := ⟨92, [.w false [.row .bool], .w false [.row .bool]], [(false, [.val .bool])]⟩
def H : Hints := ⟨[(4, ⟨⟨[(0, .w false 1), (1, .w false 1), (5, .w false 1)], []⟩, [], [.val (.row .bool), .val (.row .bool), .val I], []⟩)], [], [(6, [0, 0, 3, 7, 0, 0, 48, 112, 255])], [], false⟩
def spec : Spec := { sig := sig, fn := fun k (x : List Bool × List Bool) => f k x.1 x.2 }
theorem ok : Holds Go.Proofs.Try.prog spec := holds_of_run (G := []) holds_nil (by kernel_rfl) H Go.Proofs.Try.func92 (by kernel_rfl) (rfl : Go.Proofs.Try.f92.body = some _) (by kernel_rfl) (by kernel_rfl) fun k x y h => Eq.trans (by kernel_rfl : _ = spec.fn k x) h
end laws_eqBoolS

namespace laws_eqTags
def f (k : Nat) (a0 : List Bool) (a1 : List Bool) : Option (Bool) := bnd (laws_eqBoolS.f k a0 a1) fun y0 => brB (bNot y0) (some false) (some true)
def sig : Sig := ⟨38, [.w true [.row .bool], .w true [.row .bool]], [(false, [.val .bool])]⟩
def H : Hints := ⟨[], [], [], [], false⟩
def spec : Spec := { sig := sig, fn := fun k (x : List Bool × List Bool) => f k x.1 x.2 }
theorem ok : Holds Go.Proofs.Try.prog spec := holds_of_run (G := [laws_eqBoolS.spec]) (holds_cons laws_eqBoolS.ok holds_nil) (by kernel_rfl) H Go.Proofs.Try.func38 (by kernel_rfl) (rfl : Go.Proofs.Try.f38.body = some _) (by kernel_rfl) (by kernel_rfl) fun k x y h => Eq.trans (by kernel_rfl : _ = spec.fn k x) h
end laws_eqTags

namespace laws_eqIntS
def s0 (k : Nat) (rec0 : (List Int × List Int × Int) → Option (Bool)) (x0 : List Int) (x1 : List Int) (x2 : Int) : Option (Bool) := brB (iLt x2 (rLen x0)) (chk (cIdx x2 (rLen x0)) (chk (cIdx x2 (rLen x1)) (brB (iNe (rGet 0 x0 x2) (rGet 0 x1 x2)) (some false) (rec0 (x0, x1, iAdd .i64 x2 1))))) (some true)
def l0 (k n : Nat) (x0 : List Int) (x1 : List Int) (x2 : Int) : Option (Bool) := iter (fun (rec : (List Int × List Int × Int) → Option (Bool)) (x : List Int × List Int × Int) => s0 k rec x.1 x.2.1 x.2.2) n (x0, x1, x2)
def f (k : Nat) (a0 : List Int) (a1 : List Int) : Option (Bool) := brB (iNe (rLen a0) (rLen a1)) (some false) (l0 k k a0 a1 0)
def sig : Sig := ⟨86, [.w false [.row I], .w false [.row I]], [(false, [.val .bool])]⟩
def H : Hints := ⟨[(4, ⟨⟨[(0, .w false 1), (1, .w false 1), (5, .w false 1)], []⟩, [], [.val (.row I), .val (.row I), .val I], []⟩)], [], [(6, [0, 0, 3, 7, 0, 0, 48, 112, 255])], [], false⟩
def spec : Spec := { sig := sig, fn := fun k (x : List Int × List Int) => f k x.1 x.2 }
theorem ok : Holds Go.Proofs.Try.prog spec := holds_of_run (G := []) holds_nil (by kernel_rfl) H Go.Proofs.Try.func86 (by kernel_rfl) (rfl : Go.Proofs.Try.f86.body = some _) (by kernel_rfl) (by kernel_rfl) fun k x y h => Eq.trans (by kernel_rfl : _ = spec.fn k x) h
end laws_eqIntS

namespace laws_eqGather
def f (k : Nat) (a0_0 : Int) (a0_1 : Int) (a0_2 : Int) (a0_3 : List Int) (a0_4 : Int) (a1_0 : Int) (a1_1 : Int) (a1_2 : Int) (a1_3 : List Int) (a1_4 : Int) : Option (Bool) := brB (iNe a0_0 a1_0) (some false) (brB (iNe a0_1 a1_1) (some false) (brB (iNe a0_2 a1_2) (some false) (bnd (laws_eqIntS.f k a0_3 a1_3) fun y0 => brB (bNot y0) (some false) (brB (iNe a0_4 a1_4) (some false) (some true)))))
def sig : Sig := ⟨94, [.w true [I, I, I, .row I, I], .w true [I, I, I, .row I, I]], [(false, [.val .bool])]⟩
def H : Hints := ⟨[], [], [], [], false⟩
def spec : Spec := { sig := sig, fn := fun k (x : Int × Int × Int × List Int × Int × Int × Int × Int × List Int × Int) => f k x.1 x.2.1 x.2.2.1 x.2.2.2.1 x.2.2.2.2.1 x.2.2.2.2.2.1 x.2.2.2.2.2.2.1 x.2.2.2.2.2.2.2.1 x.2.2.2.2.2.2.2.2.1 x.2.2.2.2.2.2.2.2.2 }
theorem ok : Holds Go.Proofs.Try.prog spec := holds_of_run (G := [laws_eqIntS.spec]) (holds_cons laws_eqIntS.ok holds_nil) (by kernel_rfl) H Go.Proofs.Try.func94 (by kernel_rfl) (rfl : Go.Proofs.Try.f94.body = some _) (by kernel_rfl) (by kernel_rfl) fun k x y h => Eq.trans (by kernel_rfl : _ = spec.fn k x) h
end laws_eqGather

namespace laws_eqWaiting
def f (k : Nat) (a0_0 : Int) (a0_1 : Int) (a0_2 : Int) (a0_3 : List Int) (a0_4 : Int) (a0_5 : Int) (a1_0 : Int) (a1_1 : Int) (a1_2 : Int) (a1_3 : List Int) (a1_4 : Int) (a1_5 : Int) : Option (Bool) := bnd (laws_eqGather.f k a0_0 a0_1 a0_2 a0_3 a0_4 a1_0 a1_1 a1_2 a1_3 a1_4) fun y0 => brB (bNot y0) (some false) (brB (iNe a0_5 a1_5) (some false) (some true))
def sig : Sig := ⟨93, [.w true [I, I, I, .row I, I, I], .w true [I, I, I, .row I, I, I]], [(false, [.val .bool])]⟩
def H : Hints := ⟨[], [], [], [], false⟩
def spec : Spec := { sig := sig, fn := fun k (x : Int × Int × Int × List Int × Int × Int × Int × Int × Int × List Int × Int × Int) => f k x.1 x.2.1 x.2.2.1 x.2.2.2.1 x.2.2.2.2.1 x.2.2.2.2.2.1 x.2.2.2.2.2.2.1 x.2.2.2.2.2.2.2.1 x.2.2.2.2.2.2.2.2.1 x.2.2.2.2.2.2.2.2.2.1 x.2.2.2.2.2.2.2.2.2.2.1 x.2.2.2.2.2.2.2.2.2.2.2 }
theorem ok : Holds Go.Proofs.Try.prog spec := holds_of_run (G := [laws_eqGather.spec]) (holds_cons laws_eqGather.ok holds_nil) (by kernel_rfl) H Go.Proofs.Try.func93 (by kernel_rfl) (rfl : Go.Proofs.Try.f93.body = some _) (by kernel_rfl) (by kernel_rfl) fun k x y h => Eq.trans (by kernel_rfl : _ = spec.fn k x) h
end laws_eqWaiting

namespace laws_eqWaitingS
def s0 (k : Nat) (rec0 : ((List (Int × Int × Int × (List Int) × Int × Int)) × (List (Int × Int × Int × (List Int) × Int × Int)) × Int) → Option (Bool)) (x0 : List (Int × Int × Int × (List Int) × Int × Int)) (x1 : List (Int × Int × Int × (List Int) × Int × Int)) (x2 : Int) : Option (Bool) := brB (iLt x2 (rLen x0)) (chk (cIdx x2 (rLen x0)) (chk (cIdx x2 (rLen x1)) (bnd (laws_eqWaiting.f k ((rGet (0, 0, 0, [], 0, 0) x0 x2).1) (((rGet (0, 0, 0, [], 0, 0) x0 x2).2).1) ((((rGet (0, 0, 0, [], 0, 0) x0 x2).2).2).1) (((((rGet (0, 0, 0, [], 0, 0) x0 x2).2).2).2).1) ((((((rGet (0, 0, 0, [], 0, 0) x0 x2).2).2).2).2).1) ((((((rGet (0, 0, 0, [], 0, 0) x0 x2).2).2).2).2).2) ((rGet (0, 0, 0, [], 0, 0) x1 x2).1) (((rGet (0, 0, 0, [], 0, 0) x1 x2).2).1) ((((rGet (0, 0, 0, [], 0, 0) x1 x2).2).2).1) (((((rGet (0, 0, 0, [], 0, 0) x1 x2).2).2).2).1) ((((((rGet (0, 0, 0, [], 0, 0) x1 x2).2).2).2).2).1) ((((((rGet (0, 0, 0, [], 0, 0) x1 x2).2).2).2).2).2)) fun y0 => brB (bNot y0) (some false) (rec0 (x0, x1, iAdd .i64 x2 1))))) (some true)
def l0 (k n : Nat) (x0 : List (Int × Int × Int × (List Int) × Int × Int)) (x1 : List (Int × Int × Int × (List Int) × Int × Int)) (x2 : Int) : Option (Bool) := iter (fun (rec : ((List (Int × Int × Int × (List Int) × Int × Int)) × (List (Int × Int × Int × (List Int) × Int × Int)) × Int) → Option (Bool)) (x : (List (Int × Int × Int × (List Int) × Int × Int)) × (List (Int × Int × Int × (List Int) × Int × Int)) × Int) => s0 k rec x.1 x.2.1 x.2.2) n (x0, x1, x2)
def f (k : Nat) (a0 : List (Int × Int × Int × (List Int) × Int × Int)) (a1 : List (Int × Int × Int × (List Int) × Int × Int)) : Option (Bool) := brB (iNe (rLen a0) (rLen a1)) (some false) (l0 k k a0 a1 0)
def sig : Sig := ⟨39, [.w false [.row (.pair I (.pair I (.pair I (.pair (.row I) (.pair I I)))))], .w false [.row (.pair I (.pair I (.pair I (.pair (.row I) (.pair I I)))))]], [(false, [.val .bool])]⟩
def H : Hints := ⟨[(4, ⟨⟨[(0, .w false 1), (1, .w false 1), (5, .w false 1)], []⟩, [], [.val (.row (.pair I (.pair I (.pair I (.pair (.row I) (.pair I I)))))), .val (.row (.pair I (.pair I (.pair I (.pair (.row I) (.pair I I)))))), .val I], []⟩)], [], [(6, [0, 0, 3, 7, 0, 0, 48, 112, 255, 511])], [], false⟩
def spec : Spec := { sig := sig, fn := fun k (x : List (Int × Int × Int × (List Int) × Int × Int) × List (Int × Int × Int × (List Int) × Int × Int)) => f k x.1 x.2 }
theorem ok : Holds Go.Proofs.Try.prog spec := holds_of_run (G := [laws_eqWaiting.spec]) (holds_cons laws_eqWaiting.ok holds_nil) (by kernel_rfl) H Go.Proofs.Try.func39 (by kernel_rfl) (rfl : Go.Proofs.Try.f39.body = some _) (by kernel_rfl) (by kernel_rfl) fun k x y h => Eq.trans (by kernel_rfl : _ = spec.fn k x) h
end laws_eqWaitingS

namespace laws_eqGatherS
def s0 (k : Nat) (rec0 : ((List (Int × Int × Int × (List Int) × Int)) × (List (Int × Int × Int × (List Int) × Int)) × Int) → Option (Bool)) (x0 : List (Int × Int × Int × (List Int) × Int)) (x1 : List (Int × Int × Int × (List Int) × Int)) (x2 : Int) : Option (Bool) := brB (iLt x2 (rLen x0)) (chk (cIdx x2 (rLen x0)) (chk (cIdx x2 (rLen x1)) (bnd (laws_eqGather.f k ((rGet (0, 0, 0, [], 0) x0 x2).1) (((rGet (0, 0, 0, [], 0) x0 x2).2).1) ((((rGet (0, 0, 0, [], 0) x0 x2).2).2).1) (((((rGet (0, 0, 0, [], 0) x0 x2).2).2).2).1) (((((rGet (0, 0, 0, [], 0) x0 x2).2).2).2).2) ((rGet (0, 0, 0, [], 0) x1 x2).1) (((rGet (0, 0, 0, [], 0) x1 x2).2).1) ((((rGet (0, 0, 0, [], 0) x1 x2).2).2).1) (((((rGet (0, 0, 0, [], 0) x1 x2).2).2).2).1) (((((rGet (0, 0, 0, [], 0) x1 x2).2).2).2).2)) fun y0 => brB (bNot y0) (some false) (rec0 (x0, x1, iAdd .i64 x2 1))))) (some true)
def l0 (k n : Nat) (x0 : List (Int × Int × Int × (List Int) × Int)) (x1 : List (Int × Int × Int × (List Int) × Int)) (x2 : Int) : Option (Bool) := iter (fun (rec : ((List (Int × Int × Int × (List Int) × Int)) × (List (Int × Int × Int × (List Int) × Int)) × Int) → Option (Bool)) (x : (List (Int × Int × Int × (List Int) × Int)) × (List (Int × Int × Int × (List Int) × Int)) × Int) => s0 k rec x.1 x.2.1 x.2.2) n (x0, x1, x2)
def f (k : Nat) (a0 : List (Int × Int × Int × (List Int) × Int)) (a1 : List (Int × Int × Int × (List Int) × Int)) : Option (Bool) := brB (iNe (rLen a0) (rLen a1)) (some false) (l0 k k a0 a1 0)
def sig : Sig := ⟨40, [.w false [.row (.pair I (.pair I (.pair I (.pair (.row I) I))))], .w false [.row (.pair I (.pair I (.pair I (.pair (.row I) I))))]], [(false, [.val .bool])]⟩
def H : Hints := ⟨[(4, ⟨⟨[(0, .w false 1), (1, .w false 1), (5, .w false 1)], []⟩, [], [.val (.row (.pair I (.pair I (.pair I (.pair (.row I) I))))), .val (.row (.pair I (.pair I (.pair I (.pair (.row I) I))))), .val I], []⟩)], [], [(6, [0, 0, 3, 7, 0, 0, 48, 112, 255, 511])], [], false⟩
def spec : Spec := { sig := sig, fn := fun k (x : List (Int × Int × Int × (List Int) × Int) × List (Int × Int × Int × (List Int) × Int)) => f k x.1 x.2 }
theorem ok : Holds Go.Proofs.Try.prog spec := holds_of_run (G := [laws_eqGather.spec]) (holds_cons laws_eqGather.ok holds_nil) (by kernel_rfl) H Go.Proofs.Try.func40 (by kernel_rfl) (rfl : Go.Proofs.Try.f40.body = some _) (by kernel_rfl) (by kernel_rfl) fun k x y h => Eq.trans (by kernel_rfl : _ = spec.fn k x) h
end laws_eqGatherS

namespace laws_eqRequester
def f (k : Nat) (a0_0 : Int) (a0_1 : List Bool) (a0_2 : List (Int × Int × Int × (List Int) × Int × Int)) (a0_3 : List (Int × Int × Int × (List Int) × Int)) (a1_0 : Int) (a1_1 : List Bool) (a1_2 : List (Int × Int × Int × (List Int) × Int × Int)) (a1_3 : List (Int × Int × Int × (List Int) × Int)) : Option (Bool) := brB (iNe a0_0 a1_0) (some false) (bnd (laws_eqTags.f k a0_1 a1_1) fun y0 => brB (bNot y0) (some false) (bnd (laws_eqWaitingS.f k a0_2 a1_2) fun y1 => brB (bNot y1) (some false) (bnd (laws_eqGatherS.f k a0_3 a1_3) fun y2 => brB (bNot y2) (some false) (some true))))
def sig : Sig := ⟨12, [.w true [I, .row .bool, .row (.pair I (.pair I (.pair I (.pair (.row I) (.pair I I))))), .row (.pair I (.pair I (.pair I (.pair (.row I) I))))], .w true [I, .row .bool, .row (.pair I (.pair I (.pair I (.pair (.row I) (.pair I I))))), .row (.pair I (.pair I (.pair I (.pair (.row I) I))))]], [(false, [.val .bool])]⟩
def H : Hints := ⟨[], [], [], [], false⟩
def spec : Spec := { sig := sig, fn := fun k (x : Int × List Bool × List (Int × Int × Int × (List Int) × Int × Int) × List (Int × Int × Int × (List Int) × Int) × Int × List Bool × List (Int × Int × Int × (List Int) × Int × Int) × List (Int × Int × Int × (List Int) × Int)) => f k x.1 x.2.1 x.2.2.1 x.2.2.2.1 x.2.2.2.2.1 x.2.2.2.2.2.1 x.2.2.2.2.2.2.1 x.2.2.2.2.2.2.2 }
theorem ok : Holds Go.Proofs.Try.prog spec := holds_of_run (G := [laws_eqTags.spec, laws_eqWaitingS.spec, laws_eqGatherS.spec]) (holds_cons laws_eqTags.ok (holds_cons laws_eqWaitingS.ok (holds_cons laws_eqGatherS.ok holds_nil))) (by kernel_rfl) H Go.Proofs.Try.func12 (by kernel_rfl) (rfl : Go.Proofs.Try.f12.body = some _) (by kernel_rfl) (by kernel_rfl) fun k x y h => Eq.trans (by kernel_rfl : _ = spec.fn k x) h
end laws_eqRequester

namespace laws_eqPacket
def f (k : Nat) (a0_0 : Int) (a0_1 : Int) (a0_2 : Int) (a0_3 : Int) (a0_4 : Int) (a0_5 : Int) (a0_6 : Int) (a0_7 : List Int) (a1_0 : Int) (a1_1 : Int) (a1_2 : Int) (a1_3 : Int) (a1_4 : Int) (a1_5 : Int) (a1_6 : Int) (a1_7 : List Int) : Option (Bool) := brB (iNe a0_0 a1_0) (some false) (brB (iNe a0_1 a1_1) (some false) (brB (iNe a0_2 a1_2) (some false) (brB (iNe a0_3 a1_3) (some false) (brB (iNe a0_4 a1_4) (some false) (brB (iNe a0_5 a1_5) (some false) (brB (iNe a0_6 a1_6) (some false) (bnd (laws_eqIntS.f k a0_7 a1_7) fun y0 => brB (bNot y0) (some false) (some true))))))))
def sig : Sig := ⟨30, [.w true [I, I, I, I, I, I, I, .row I], .w true [I, I, I, I, I, I, I, .row I]], [(false, [.val .bool])]⟩
def H : Hints := ⟨[], [], [], [], false⟩
def spec : Spec := { sig := sig, fn := fun k (x : Int × Int × Int × Int × Int × Int × Int × List Int × Int × Int × Int × Int × Int × Int × Int × List Int) => f k x.1 x.2.1 x.2.2.1 x.2.2.2.1 x.2.2.2.2.1 x.2.2.2.2.2.1 x.2.2.2.2.2.2.1 x.2.2.2.2.2.2.2.1 x.2.2.2.2.2.2.2.2.1 x.2.2.2.2.2.2.2.2.2.1 x.2.2.2.2.2.2.2.2.2.2.1 x.2.2.2.2.2.2.2.2.2.2.2.1 x.2.2.2.2.2.2.2.2.2.2.2.2.1 x.2.2.2.2.2.2.2.2.2.2.2.2.2.1 x.2.2.2.2.2.2.2.2.2.2.2.2.2.2.1 x.2.2.2.2.2.2.2.2.2.2.2.2.2.2.2 }
theorem ok : Holds Go.Proofs.Try.prog spec := holds_of_run (G := [laws_eqIntS.spec]) (holds_cons laws_eqIntS.ok holds_nil) (by kernel_rfl) H Go.Proofs.Try.func30 (by kernel_rfl) (rfl : Go.Proofs.Try.f30.body = some _) (by kernel_rfl) (by kernel_rfl) fun k x y h => Eq.trans (by kernel_rfl : _ = spec.fn k x) h
end laws_eqPacket

namespace laws_markBoolS
def s0 (k : Nat) (rec0 : (List Bool × Int × Int) → Option (Int × List Bool)) (x0 : List Bool) (x1 : Int) (x2 : Int) : Option (Int × List Bool) := brB (iLt x2 (rLen x0)) (chk (cNz 3) (chk (cIdx x2 (rLen x0)) (rec0 (rSet x0 x2 (iEq (iRem x1 3) 0), iAdd .i64 x1 1, iAdd .i64 x2 1)))) (some (x1, x0))
def l0 (k n : Nat) (x0 : List Bool) (x1 : Int) (x2 : Int) : Option (Int × List Bool) := iter (fun (rec : (List Bool × Int × Int) → Option (Int × List Bool)) (x : List Bool × Int × Int) => s0 k rec x.1 x.2.1 x.2.2) n (x0, x1, x2)
def f (k : Nat) (a0 : List Bool) (a1 : Int) : Option (Int × List Bool) := l0 k k a0 a1 0
def sig : Sig := ⟨95, [.mut false [.row .bool], .w false [I]], [(false, [.val I])]⟩
def H : Hints := ⟨[(2, ⟨⟨[(0, .w false 1), (1, .w false 1), (5, .w false 1)], []⟩, [], [.own .bool, .val I, .val I], [0]⟩)], [], [], [], true⟩
def spec : Spec := { sig := sig, fn := fun k (x : List Bool × Int) => f k x.1 x.2 }
theorem ok : Holds Go.Proofs.Try.prog spec := holds_of_run (G := []) holds_nil (by kernel_rfl) H Go.Proofs.Try.func95 (by kernel_rfl) (rfl : Go.Proofs.Try.f95.body = some _) (by kernel_rfl) (by kernel_rfl) fun k x y h => Eq.trans (by kernel_rfl : _ = spec.fn k x) h
end laws_markBoolS

namespace laws_markTags
def f (k : Nat) (a0 : List Bool) (a1 : Int) : Option (Int × List Bool) := bnd (laws_markBoolS.f k a0 a1) fun p => (fun y0 y1 => some (y0, y1)) p.1 p.2
def sig : Sig := ⟨41, [.mut true [.row .bool], .w false [I]], [(false, [.val I])]⟩
def H : Hints := ⟨[], [], [], [], true⟩
def spec : Spec := { sig := sig, fn := fun k (x : List Bool × Int) => f k x.1 x.2 }
theorem ok : Holds Go.Proofs.Try.prog spec := holds_of_run (G := [laws_markBoolS.spec]) (holds_cons laws_markBoolS.ok holds_nil) (by kernel_rfl) H Go.Proofs.Try.func41 (by kernel_rfl) (rfl : Go.Proofs.Try.f41.body = some _) (by kernel_rfl) (by kernel_rfl) fun k x y h => Eq.trans (by kernel_rfl : _ = spec.fn k x) h
end laws_markTags

namespace laws_markIntS
def s0 (k : Nat) (rec0 : (List Int × Int × Int) → Option (Int × List Int)) (x0 : List Int) (x1 : Int) (x2 : Int) : Option (Int × List Int) := brB (iLt x2 (rLen x0)) (chk (cIdx x2 (rLen x0)) (rec0 (rSet x0 x2 x1, iAdd .i64 x1 1, iAdd .i64 x2 1))) (some (x1, x0))
def l0 (k n : Nat) (x0 : List Int) (x1 : Int) (x2 : Int) : Option (Int × List Int) := iter (fun (rec : (List Int × Int × Int) → Option (Int × List Int)) (x : List Int × Int × Int) => s0 k rec x.1 x.2.1 x.2.2) n (x0, x1, x2)
def f (k : Nat) (a0 : List Int) (a1 : Int) : Option (Int × List Int) := l0 k k a0 a1 0
def sig : Sig := ⟨87, [.mut false [.row I], .w false [I]], [(false, [.val I])]⟩
def H : Hints := ⟨[(2, ⟨⟨[(0, .w false 1), (1, .w false 1), (5, .w false 1)], []⟩, [], [.own I, .val I, .val I], [0]⟩)], [], [], [], true⟩
def spec : Spec := { sig := sig, fn := fun k (x : List Int × Int) => f k x.1 x.2 }
theorem ok : Holds Go.Proofs.Try.prog spec := holds_of_run (G := []) holds_nil (by kernel_rfl) H Go.Proofs.Try.func87 (by kernel_rfl) (rfl : Go.Proofs.Try.f87.body = some _) (by kernel_rfl) (by kernel_rfl) fun k x y h => Eq.trans (by kernel_rfl : _ = spec.fn k x) h
end laws_markIntS

namespace laws_markWaitingS
def s0 (k : Nat) (rec0 : ((List (Int × Int × Int × (List Int) × Int × Int)) × Int × Int) → Option (Int × List (Int × Int × Int × (List Int) × Int × Int))) (x0 : List (Int × Int × Int × (List Int) × Int × Int)) (x1 : Int) (x2 : Int) : Option (Int × List (Int × Int × Int × (List Int) × Int × Int)) := brB (iLt x2 (rLen x0)) (chk (cIdx x2 (rLen x0)) (nam (rSet x0 x2 (x1, ((rGet (0, 0, 0, [], 0, 0) x0 x2).2).1, (((rGet (0, 0, 0, [], 0, 0) x0 x2).2).2).1, ((((rGet (0, 0, 0, [], 0, 0) x0 x2).2).2).2).1, (((((rGet (0, 0, 0, [], 0, 0) x0 x2).2).2).2).2).1, (((((rGet (0, 0, 0, [], 0, 0) x0 x2).2).2).2).2).2)) fun y0 => chk (cIdx x2 (rLen y0)) (nam (rSet y0 x2 ((rGet (0, 0, 0, [], 0, 0) y0 x2).1, iAdd .i64 x1 1, (((rGet (0, 0, 0, [], 0, 0) y0 x2).2).2).1, ((((rGet (0, 0, 0, [], 0, 0) y0 x2).2).2).2).1, (((((rGet (0, 0, 0, [], 0, 0) y0 x2).2).2).2).2).1, (((((rGet (0, 0, 0, [], 0, 0) y0 x2).2).2).2).2).2)) fun y1 => chk (cIdx x2 (rLen y1)) (nam (rSet y1 x2 ((rGet (0, 0, 0, [], 0, 0) y1 x2).1, ((rGet (0, 0, 0, [], 0, 0) y1 x2).2).1, iAdd .i64 (iAdd .i64 x1 1) 1, ((((rGet (0, 0, 0, [], 0, 0) y1 x2).2).2).2).1, (((((rGet (0, 0, 0, [], 0, 0) y1 x2).2).2).2).2).1, (((((rGet (0, 0, 0, [], 0, 0) y1 x2).2).2).2).2).2)) fun y2 => chk (cIdx x2 (rLen y2)) (bnd (laws_markIntS.f k (((((rGet (0, 0, 0, [], 0, 0) y2 x2).2).2).2).1) (iAdd .i64 (iAdd .i64 (iAdd .i64 x1 1) 1) 1)) fun p => (fun y3 y4 => nam (rSet y2 x2 ((rGet (0, 0, 0, [], 0, 0) y2 x2).1, ((rGet (0, 0, 0, [], 0, 0) y2 x2).2).1, (((rGet (0, 0, 0, [], 0, 0) y2 x2).2).2).1, y4, (((((rGet (0, 0, 0, [], 0, 0) y2 x2).2).2).2).2).1, (((((rGet (0, 0, 0, [], 0, 0) y2 x2).2).2).2).2).2)) fun y5 => chk (cIdx x2 (rLen y5)) (nam (rSet y5 x2 ((rGet (0, 0, 0, [], 0, 0) y5 x2).1, ((rGet (0, 0, 0, [], 0, 0) y5 x2).2).1, (((rGet (0, 0, 0, [], 0, 0) y5 x2).2).2).1, ((((rGet (0, 0, 0, [], 0, 0) y5 x2).2).2).2).1, y3, (((((rGet (0, 0, 0, [], 0, 0) y5 x2).2).2).2).2).2)) fun y6 => chk (cIdx x2 (rLen y6)) (nam (rSet y6 x2 ((rGet (0, 0, 0, [], 0, 0) y6 x2).1, ((rGet (0, 0, 0, [], 0, 0) y6 x2).2).1, (((rGet (0, 0, 0, [], 0, 0) y6 x2).2).2).1, ((((rGet (0, 0, 0, [], 0, 0) y6 x2).2).2).2).1, (((((rGet (0, 0, 0, [], 0, 0) y6 x2).2).2).2).2).1, iAdd .i64 y3 1)) fun y7 => rec0 (y7, iAdd .i64 (iAdd .i64 y3 1) 1, iAdd .i64 x2 1)))) p.1 p.2))))) (some (x1, x0))
def l0 (k n : Nat) (x0 : List (Int × Int × Int × (List Int) × Int × Int)) (x1 : Int) (x2 : Int) : Option (Int × List (Int × Int × Int × (List Int) × Int × Int)) := iter (fun (rec : ((List (Int × Int × Int × (List Int) × Int × Int)) × Int × Int) → Option (Int × List (Int × Int × Int × (List Int) × Int × Int))) (x : (List (Int × Int × Int × (List Int) × Int × Int)) × Int × Int) => s0 k rec x.1 x.2.1 x.2.2) n (x0, x1, x2)
def f (k : Nat) (a0 : List (Int × Int × Int × (List Int) × Int × Int)) (a1 : Int) : Option (Int × List (Int × Int × Int × (List Int) × Int × Int)) := l0 k k a0 a1 0
def sig : Sig := ⟨42, [.mut false [.row (.pair I (.pair I (.pair I (.pair (.row I) (.pair I I)))))], .w false [I]], [(false, [.val I])]⟩
def H : Hints := ⟨[(2, ⟨⟨[(0, .w false 1), (1, .w false 1), (5, .w false 1)], []⟩, [], [.own (.deep none (.pair I (.pair I (.pair I (.pair (.row I) (.pair I I)))))), .val I, .val I], [0]⟩)], [], [], [], true⟩
def spec : Spec := { sig := sig, fn := fun k (x : List (Int × Int × Int × (List Int) × Int × Int) × Int) => f k x.1 x.2 }
theorem ok : Holds Go.Proofs.Try.prog spec := holds_of_run (G := [laws_markIntS.spec]) (holds_cons laws_markIntS.ok holds_nil) (by kernel_rfl) H Go.Proofs.Try.func42 (by kernel_rfl) (rfl : Go.Proofs.Try.f42.body = some _) (by kernel_rfl) (by kernel_rfl) fun k x y h => Eq.trans (by kernel_rfl : _ = spec.fn k x) h
end laws_markWaitingS

namespace laws_markGatherS
def s0 (k : Nat) (rec0 : ((List (Int × Int × Int × (List Int) × Int)) × Int × Int) → Option (Int × List (Int × Int × Int × (List Int) × Int))) (x0 : List (Int × Int × Int × (List Int) × Int)) (x1 : Int) (x2 : Int) : Option (Int × List (Int × Int × Int × (List Int) × Int)) := brB (iLt x2 (rLen x0)) (chk (cIdx x2 (rLen x0)) (nam (rSet x0 x2 (x1, ((rGet (0, 0, 0, [], 0) x0 x2).2).1, (((rGet (0, 0, 0, [], 0) x0 x2).2).2).1, ((((rGet (0, 0, 0, [], 0) x0 x2).2).2).2).1, ((((rGet (0, 0, 0, [], 0) x0 x2).2).2).2).2)) fun y0 => chk (cIdx x2 (rLen y0)) (nam (rSet y0 x2 ((rGet (0, 0, 0, [], 0) y0 x2).1, iAdd .i64 x1 1, (((rGet (0, 0, 0, [], 0) y0 x2).2).2).1, ((((rGet (0, 0, 0, [], 0) y0 x2).2).2).2).1, ((((rGet (0, 0, 0, [], 0) y0 x2).2).2).2).2)) fun y1 => chk (cIdx x2 (rLen y1)) (nam (rSet y1 x2 ((rGet (0, 0, 0, [], 0) y1 x2).1, ((rGet (0, 0, 0, [], 0) y1 x2).2).1, iAdd .i64 (iAdd .i64 x1 1) 1, ((((rGet (0, 0, 0, [], 0) y1 x2).2).2).2).1, ((((rGet (0, 0, 0, [], 0) y1 x2).2).2).2).2)) fun y2 => chk (cIdx x2 (rLen y2)) (bnd (laws_markIntS.f k (((((rGet (0, 0, 0, [], 0) y2 x2).2).2).2).1) (iAdd .i64 (iAdd .i64 (iAdd .i64 x1 1) 1) 1)) fun p => (fun y3 y4 => nam (rSet y2 x2 ((rGet (0, 0, 0, [], 0) y2 x2).1, ((rGet (0, 0, 0, [], 0) y2 x2).2).1, (((rGet (0, 0, 0, [], 0) y2 x2).2).2).1, y4, ((((rGet (0, 0, 0, [], 0) y2 x2).2).2).2).2)) fun y5 => chk (cIdx x2 (rLen y5)) (nam (rSet y5 x2 ((rGet (0, 0, 0, [], 0) y5 x2).1, ((rGet (0, 0, 0, [], 0) y5 x2).2).1, (((rGet (0, 0, 0, [], 0) y5 x2).2).2).1, ((((rGet (0, 0, 0, [], 0) y5 x2).2).2).2).1, y3)) fun y6 => rec0 (y6, iAdd .i64 y3 1, iAdd .i64 x2 1))) p.1 p.2))))) (some (x1, x0))
def l0 (k n : Nat) (x0 : List (Int × Int × Int × (List Int) × Int)) (x1 : Int) (x2 : Int) : Option (Int × List (Int × Int × Int × (List Int) × Int)) := iter (fun (rec : ((List (Int × Int × Int × (List Int) × Int)) × Int × Int) → Option (Int × List (Int × Int × Int × (List Int) × Int))) (x : (List (Int × Int × Int × (List Int) × Int)) × Int × Int) => s0 k rec x.1 x.2.1 x.2.2) n (x0, x1, x2)
def f (k : Nat) (a0 : List (Int × Int × Int × (List Int) × Int)) (a1 : Int) : Option (Int × List (Int × Int × Int × (List Int) × Int)) := l0 k k a0 a1 0
def sig : Sig := ⟨43, [.mut false [.row (.pair I (.pair I (.pair I (.pair (.row I) I))))], .w false [I]], [(false, [.val I])]⟩
def H : Hints := ⟨[(2, ⟨⟨[(0, .w false 1), (1, .w false 1), (5, .w false 1)], []⟩, [], [.own (.deep none (.pair I (.pair I (.pair I (.pair (.row I) I))))), .val I, .val I], [0]⟩)], [], [], [], true⟩
def spec : Spec := { sig := sig, fn := fun k (x : List (Int × Int × Int × (List Int) × Int) × Int) => f k x.1 x.2 }
theorem ok : Holds Go.Proofs.Try.prog spec := holds_of_run (G := [laws_markIntS.spec]) (holds_cons laws_markIntS.ok holds_nil) (by kernel_rfl) H Go.Proofs.Try.func43 (by kernel_rfl) (rfl : Go.Proofs.Try.f43.body = some _) (by kernel_rfl) (by kernel_rfl) fun k x y h => Eq.trans (by kernel_rfl : _ = spec.fn k x) h
end laws_markGatherS

namespace laws_markRequester
def f (k : Nat) (a0_0 : Int) (a0_1 : List Bool) (a0_2 : List (Int × Int × Int × (List Int) × Int × Int)) (a0_3 : List (Int × Int × Int × (List Int) × Int)) (a1 : Int) : Option (Int × List Bool × List (Int × Int × Int × (List Int) × Int × Int) × List (Int × Int × Int × (List Int) × Int)) := bnd (laws_markTags.f k a0_1 a1) fun p => (fun y0 y1 => bnd (laws_markWaitingS.f k a0_2 y0) fun p => (fun y2 y3 => bnd (laws_markGatherS.f k a0_3 y2) fun p => (fun y4 y5 => some (y4, y1, y3, y5)) p.1 p.2) p.1 p.2) p.1 p.2
def sig : Sig := ⟨13, [.mut true [I, .row .bool, .row (.pair I (.pair I (.pair I (.pair (.row I) (.pair I I))))), .row (.pair I (.pair I (.pair I (.pair (.row I) I))))], .w false [I]], [(false, [.val I])]⟩
def H : Hints := ⟨[], [], [], [], true⟩
def spec : Spec := { sig := sig, fn := fun k (x : Int × List Bool × List (Int × Int × Int × (List Int) × Int × Int) × List (Int × Int × Int × (List Int) × Int) × Int) => f k x.1 x.2.1 x.2.2.1 x.2.2.2.1 x.2.2.2.2 }
theorem ok : Holds Go.Proofs.Try.prog spec := holds_of_run (G := [laws_markTags.spec, laws_markWaitingS.spec, laws_markGatherS.spec]) (holds_cons laws_markTags.ok (holds_cons laws_markWaitingS.ok (holds_cons laws_markGatherS.ok holds_nil))) (by kernel_rfl) H Go.Proofs.Try.func13 (by kernel_rfl) (rfl : Go.Proofs.Try.f13.body = some _) (by kernel_rfl) (by kernel_rfl) fun k x y h => Eq.trans (by kernel_rfl : _ = spec.fn k x) h
end laws_markRequester

namespace laws_markPacket
def f (k : Nat) (a0_0 : Int) (a0_1 : Int) (a0_2 : Int) (a0_3 : Int) (a0_4 : Int) (a0_5 : Int) (a0_6 : Int) (a0_7 : List Int) (a1 : Int) : Option (Int × List Int) := bnd (laws_markIntS.f k a0_7 a1) fun p => (fun y0 y1 => some (y0, y1)) p.1 p.2
def sig : Sig := ⟨31, [.mut true [I, I, I, I, I, I, I, .row I], .w false [I]], [(false, [.val I])]⟩
def H : Hints := ⟨[], [], [], [], true⟩
def spec : Spec := { sig := sig, fn := fun k (x : Int × Int × Int × Int × Int × Int × Int × List Int × Int) => f k x.1 x.2.1 x.2.2.1 x.2.2.2.1 x.2.2.2.2.1 x.2.2.2.2.2.1 x.2.2.2.2.2.2.1 x.2.2.2.2.2.2.2.1 x.2.2.2.2.2.2.2.2 }
theorem ok : Holds Go.Proofs.Try.prog spec := holds_of_run (G := [laws_markIntS.spec]) (holds_cons laws_markIntS.ok holds_nil) (by kernel_rfl) H Go.Proofs.Try.func31 (by kernel_rfl) (rfl : Go.Proofs.Try.f31.body = some _) (by kernel_rfl) (by kernel_rfl) fun k x y h => Eq.trans (by kernel_rfl : _ = spec.fn k x) h
end laws_markPacket

namespace laws_heldBoolS
def s0 (k : Nat) (rec0 : (List Bool × Int × Int) → Option (Int)) (x0 : List Bool) (x1 : Int) (x2 : Int) : Option (Int) := brB (iLt x2 (rLen x0)) (chk (cIdx x2 (rLen x0)) (chk (cNz 3) (brB (bNe (rGet false x0 x2) (iEq (iRem x1 3) 0)) (some (-1)) (rec0 (x0, iAdd .i64 x1 1, iAdd .i64 x2 1))))) (some x1)
def l0 (k n : Nat) (x0 : List Bool) (x1 : Int) (x2 : Int) : Option (Int) := iter (fun (rec : (List Bool × Int × Int) → Option (Int)) (x : List Bool × Int × Int) => s0 k rec x.1 x.2.1 x.2.2) n (x0, x1, x2)
def f (k : Nat) (a0 : List Bool) (a1 : Int) : Option (Int) := l0 k k a0 a1 0
def sig : Sig := ⟨96, [.w false [.row .bool], .w false [I]], [(false, [.val I])]⟩
def H : Hints := ⟨[(2, ⟨⟨[(0, .w false 1), (1, .w false 1), (5, .w false 1)], []⟩, [], [.val (.row .bool), .val I, .val I], []⟩)], [], [], [], false⟩
def spec : Spec := { sig := sig, fn := fun k (x : List Bool × Int) => f k x.1 x.2 }
theorem ok : Holds Go.Proofs.Try.prog spec := holds_of_run (G := []) holds_nil (by kernel_rfl) H Go.Proofs.Try.func96 (by kernel_rfl) (rfl : Go.Proofs.Try.f96.body = some _) (by kernel_rfl) (by kernel_rfl) fun k x y h => Eq.trans (by kernel_rfl : _ = spec.fn k x) h
end laws_heldBoolS

namespace laws_heldTags
def f (k : Nat) (a0 : List Bool) (a1 : Int) : Option (Int) := bnd (laws_heldBoolS.f k a0 a1) fun y0 => brB (iLt y0 0) (some (-1)) (some y0)
def sig : Sig := ⟨44, [.w true [.row .bool], .w false [I]], [(false, [.val I])]⟩
def H : Hints := ⟨[], [], [], [], false⟩
def spec : Spec := { sig := sig, fn := fun k (x : List Bool × Int) => f k x.1 x.2 }
theorem ok : Holds Go.Proofs.Try.prog spec := holds_of_run (G := [laws_heldBoolS.spec]) (holds_cons laws_heldBoolS.ok holds_nil) (by kernel_rfl) H Go.Proofs.Try.func44 (by kernel_rfl) (rfl : Go.Proofs.Try.f44.body = some _) (by kernel_rfl) (by kernel_rfl) fun k x y h => Eq.trans (by kernel_rfl : _ = spec.fn k x) h
end laws_heldTags

namespace laws_heldIntS
def s0 (k : Nat) (rec0 : (List Int × Int × Int) → Option (Int)) (x0 : List Int) (x1 : Int) (x2 : Int) : Option (Int) := brB (iLt x2 (rLen x0)) (chk (cIdx x2 (rLen x0)) (brB (iNe (rGet 0 x0 x2) x1) (some (-1)) (rec0 (x0, iAdd .i64 x1 1, iAdd .i64 x2 1)))) (some x1)
def l0 (k n : Nat) (x0 : List Int) (x1 : Int) (x2 : Int) : Option (Int) := iter (fun (rec : (List Int × Int × Int) → Option (Int)) (x : List Int × Int × Int) => s0 k rec x.1 x.2.1 x.2.2) n (x0, x1, x2)
def f (k : Nat) (a0 : List Int) (a1 : Int) : Option (Int) := l0 k k a0 a1 0
def sig : Sig := ⟨88, [.w false [.row I], .w false [I]], [(false, [.val I])]⟩
def H : Hints := ⟨[(2, ⟨⟨[(0, .w false 1), (1, .w false 1), (5, .w false 1)], []⟩, [], [.val (.row I), .val I, .val I], []⟩)], [], [], [], false⟩
def spec : Spec := { sig := sig, fn := fun k (x : List Int × Int) => f k x.1 x.2 }
theorem ok : Holds Go.Proofs.Try.prog spec := holds_of_run (G := []) holds_nil (by kernel_rfl) H Go.Proofs.Try.func88 (by kernel_rfl) (rfl : Go.Proofs.Try.f88.body = some _) (by kernel_rfl) (by kernel_rfl) fun k x y h => Eq.trans (by kernel_rfl : _ = spec.fn k x) h
end laws_heldIntS

namespace laws_heldWaitingS
def s0 (k : Nat) (rec0 : ((List (Int × Int × Int × (List Int) × Int × Int)) × Int × Int) → Option (Int)) (x0 : List (Int × Int × Int × (List Int) × Int × Int)) (x1 : Int) (x2 : Int) : Option (Int) := brB (iLt x2 (rLen x0)) (chk (cIdx x2 (rLen x0)) (brB (iNe ((rGet (0, 0, 0, [], 0, 0) x0 x2).1) x1) (some (-1)) (chk (cIdx x2 (rLen x0)) (brB (iNe (((rGet (0, 0, 0, [], 0, 0) x0 x2).2).1) (iAdd .i64 x1 1)) (some (-1)) (chk (cIdx x2 (rLen x0)) (brB (iNe ((((rGet (0, 0, 0, [], 0, 0) x0 x2).2).2).1) (iAdd .i64 (iAdd .i64 x1 1) 1)) (some (-1)) (chk (cIdx x2 (rLen x0)) (bnd (laws_heldIntS.f k (((((rGet (0, 0, 0, [], 0, 0) x0 x2).2).2).2).1) (iAdd .i64 (iAdd .i64 (iAdd .i64 x1 1) 1) 1)) fun y0 => brB (iLt y0 0) (some (-1)) (chk (cIdx x2 (rLen x0)) (brB (iNe ((((((rGet (0, 0, 0, [], 0, 0) x0 x2).2).2).2).2).1) y0) (some (-1)) (chk (cIdx x2 (rLen x0)) (brB (iNe ((((((rGet (0, 0, 0, [], 0, 0) x0 x2).2).2).2).2).2) (iAdd .i64 y0 1)) (some (-1)) (rec0 (x0, iAdd .i64 (iAdd .i64 y0 1) 1, iAdd .i64 x2 1)))))))))))))) (some x1)
def l0 (k n : Nat) (x0 : List (Int × Int × Int × (List Int) × Int × Int)) (x1 : Int) (x2 : Int) : Option (Int) := iter (fun (rec : ((List (Int × Int × Int × (List Int) × Int × Int)) × Int × Int) → Option (Int)) (x : (List (Int × Int × Int × (List Int) × Int × Int)) × Int × Int) => s0 k rec x.1 x.2.1 x.2.2) n (x0, x1, x2)
def f (k : Nat) (a0 : List (Int × Int × Int × (List Int) × Int × Int)) (a1 : Int) : Option (Int) := l0 k k a0 a1 0
def sig : Sig := ⟨45, [.w false [.row (.pair I (.pair I (.pair I (.pair (.row I) (.pair I I)))))], .w false [I]], [(false, [.val I])]⟩
def H : Hints := ⟨[(2, ⟨⟨[(0, .w false 1), (1, .w false 1), (5, .w false 1)], []⟩, [], [.val (.row (.pair I (.pair I (.pair I (.pair (.row I) (.pair I I)))))), .val I, .val I], []⟩)], [], [], [], false⟩
def spec : Spec := { sig := sig, fn := fun k (x : List (Int × Int × Int × (List Int) × Int × Int) × Int) => f k x.1 x.2 }
theorem ok : Holds Go.Proofs.Try.prog spec := holds_of_run (G := [laws_heldIntS.spec]) (holds_cons laws_heldIntS.ok holds_nil) (by kernel_rfl) H Go.Proofs.Try.func45 (by kernel_rfl) (rfl : Go.Proofs.Try.f45.body = some _) (by kernel_rfl) (by kernel_rfl) fun k x y h => Eq.trans (by kernel_rfl : _ = spec.fn k x) h
end laws_heldWaitingS

namespace laws_heldGatherS
def s0 (k : Nat) (rec0 : ((List (Int × Int × Int × (List Int) × Int)) × Int × Int) → Option (Int)) (x0 : List (Int × Int × Int × (List Int) × Int)) (x1 : Int) (x2 : Int) : Option (Int) := brB (iLt x2 (rLen x0)) (chk (cIdx x2 (rLen x0)) (brB (iNe ((rGet (0, 0, 0, [], 0) x0 x2).1) x1) (some (-1)) (chk (cIdx x2 (rLen x0)) (brB (iNe (((rGet (0, 0, 0, [], 0) x0 x2).2).1) (iAdd .i64 x1 1)) (some (-1)) (chk (cIdx x2 (rLen x0)) (brB (iNe ((((rGet (0, 0, 0, [], 0) x0 x2).2).2).1) (iAdd .i64 (iAdd .i64 x1 1) 1)) (some (-1)) (chk (cIdx x2 (rLen x0)) (bnd (laws_heldIntS.f k (((((rGet (0, 0, 0, [], 0) x0 x2).2).2).2).1) (iAdd .i64 (iAdd .i64 (iAdd .i64 x1 1) 1) 1)) fun y0 => brB (iLt y0 0) (some (-1)) (chk (cIdx x2 (rLen x0)) (brB (iNe (((((rGet (0, 0, 0, [], 0) x0 x2).2).2).2).2) y0) (some (-1)) (rec0 (x0, iAdd .i64 y0 1, iAdd .i64 x2 1)))))))))))) (some x1)
def l0 (k n : Nat) (x0 : List (Int × Int × Int × (List Int) × Int)) (x1 : Int) (x2 : Int) : Option (Int) := iter (fun (rec : ((List (Int × Int × Int × (List Int) × Int)) × Int × Int) → Option (Int)) (x : (List (Int × Int × Int × (List Int) × Int)) × Int × Int) => s0 k rec x.1 x.2.1 x.2.2) n (x0, x1, x2)
def f (k : Nat) (a0 : List (Int × Int × Int × (List Int) × Int)) (a1 : Int) : Option (Int) := l0 k k a0 a1 0
def sig : Sig := ⟨46, [.w false [.row (.pair I (.pair I (.pair I (.pair (.row I) I))))], .w false [I]], [(false, [.val I])]⟩
def H : Hints := ⟨[(2, ⟨⟨[(0, .w false 1), (1, .w false 1), (5, .w false 1)], []⟩, [], [.val (.row (.pair I (.pair I (.pair I (.pair (.row I) I))))), .val I, .val I], []⟩)], [], [], [], false⟩
def spec : Spec := { sig := sig, fn := fun k (x : List (Int × Int × Int × (List Int) × Int) × Int) => f k x.1 x.2 }
theorem ok : Holds Go.Proofs.Try.prog spec := holds_of_run (G := [laws_heldIntS.spec]) (holds_cons laws_heldIntS.ok holds_nil) (by kernel_rfl) H Go.Proofs.Try.func46 (by kernel_rfl) (rfl : Go.Proofs.Try.f46.body = some _) (by kernel_rfl) (by kernel_rfl) fun k x y h => Eq.trans (by kernel_rfl : _ = spec.fn k x) h
end laws_heldGatherS

namespace laws_heldRequester
def f (k : Nat) (a0_0 : Int) (a0_1 : List Bool) (a0_2 : List (Int × Int × Int × (List Int) × Int × Int)) (a0_3 : List (Int × Int × Int × (List Int) × Int)) (a1 : Int) : Option (Int) := bnd (laws_heldTags.f k a0_1 a1) fun y0 => brB (iLt y0 0) (some (-1)) (bnd (laws_heldWaitingS.f k a0_2 y0) fun y1 => brB (iLt y1 0) (some (-1)) (bnd (laws_heldGatherS.f k a0_3 y1) fun y2 => brB (iLt y2 0) (some (-1)) (some y2)))
def sig : Sig := ⟨14, [.w true [I, .row .bool, .row (.pair I (.pair I (.pair I (.pair (.row I) (.pair I I))))), .row (.pair I (.pair I (.pair I (.pair (.row I) I))))], .w false [I]], [(false, [.val I])]⟩
def H : Hints := ⟨[], [], [], [], false⟩
def spec : Spec := { sig := sig, fn := fun k (x : Int × List Bool × List (Int × Int × Int × (List Int) × Int × Int) × List (Int × Int × Int × (List Int) × Int) × Int) => f k x.1 x.2.1 x.2.2.1 x.2.2.2.1 x.2.2.2.2 }
theorem ok : Holds Go.Proofs.Try.prog spec := holds_of_run (G := [laws_heldTags.spec, laws_heldWaitingS.spec, laws_heldGatherS.spec]) (holds_cons laws_heldTags.ok (holds_cons laws_heldWaitingS.ok (holds_cons laws_heldGatherS.ok holds_nil))) (by kernel_rfl) H Go.Proofs.Try.func14 (by kernel_rfl) (rfl : Go.Proofs.Try.f14.body = some _) (by kernel_rfl) (by kernel_rfl) fun k x y h => Eq.trans (by kernel_rfl : _ = spec.fn k x) h
end laws_heldRequester

namespace laws_heldPacket
def f (k : Nat) (a0_0 : Int) (a0_1 : Int) (a0_2 : Int) (a0_3 : Int) (a0_4 : Int) (a0_5 : Int) (a0_6 : Int) (a0_7 : List Int) (a1 : Int) : Option (Int) := bnd (laws_heldIntS.f k a0_7 a1) fun y0 => brB (iLt y0 0) (some (-1)) (some y0)
def sig : Sig := ⟨32, [.w true [I, I, I, I, I, I, I, .row I], .w false [I]], [(false, [.val I])]⟩
def H : Hints := ⟨[], [], [], [], false⟩
def spec : Spec := { sig := sig, fn := fun k (x : Int × Int × Int × Int × Int × Int × Int × List Int × Int) => f k x.1 x.2.1 x.2.2.1 x.2.2.2.1 x.2.2.2.2.1 x.2.2.2.2.2.1 x.2.2.2.2.2.2.1 x.2.2.2.2.2.2.2.1 x.2.2.2.2.2.2.2.2 }
theorem ok : Holds Go.Proofs.Try.prog spec := holds_of_run (G := [laws_heldIntS.spec]) (holds_cons laws_heldIntS.ok holds_nil) (by kernel_rfl) H Go.Proofs.Try.func32 (by kernel_rfl) (rfl : Go.Proofs.Try.f32.body = some _) (by kernel_rfl) (by kernel_rfl) fun k x y h => Eq.trans (by kernel_rfl : _ = spec.fn k x) h
end laws_heldPacket

namespace laws_FnExactBeginRead
def f (k : Nat) (a0_0 : Int) (a0_1 : List Bool) (a0_2 : List (Int × Int × Int × (List Int) × Int × Int)) (a0_3 : List (Int × Int × Int × (List Int) × Int)) (a1 : Int) (a2 : Int) : Option (Bool) := bnd (laws_szRequester.f k a0_0 a0_1 a0_2 a0_3 1048576) fun y0 => brB (iLt y0 0) (some true) (bnd (laws_toRequester.f k a0_0 a0_1 a0_2 a0_3) fun p => (fun y1 y2 y3 y4 => bnd (spec_BeginRead.f k y1 y2 y3 y4 a1 a2) fun p => (fun y5 y6 y7 y8 y9 y10 y11 y12 y13 y14 y15 y16 y17 => bnd (laws_toRequester.f k a0_0 a0_1 a0_2 a0_3) fun p => (fun y18 y19 y20 y21 => bnd (impl_BeginRead.f k y18 y19 y20 y21 a1 a2) fun p => (fun y22 y23 y24 y25 y26 y27 y28 y29 y30 y31 y32 y33 y34 => bnd (laws_eqRequester.f k y22 y23 y24 y25 y5 y6 y7 y8) fun y35 => brB (bNot y35) (some false) (bnd (laws_eqPacket.f k y26 y27 y28 y29 y30 y31 y32 y33 y9 y10 y11 y12 y13 y14 y15 y16) fun y36 => brB (bNot y36) (some false) (brB (bNe y34 y17) (some false) (bnd (laws_toRequester.f k a0_0 a0_1 a0_2 a0_3) fun p => (fun y37 y38 y39 y40 => bnd (laws_eqRequester.f k y18 y19 y20 y21 y37 y38 y39 y40) fun y41 => brB (bNot y41) (some false) (bnd (laws_markRequester.f k y18 y19 y20 y21 1) fun p => (fun y42 y43 y44 y45 => brB (iLt y42 0) (some false) (bnd (laws_eqRequester.f k y22 y23 y24 y25 y5 y6 y7 y8) fun y46 => brB (bNot y46) (some false) (bnd (laws_eqPacket.f k y26 y27 y28 y29 y30 y31 y32 y33 y9 y10 y11 y12 y13 y14 y15 y16) fun y47 => brB (bNot y47) (some false) (brB (bNe y34 y17) (some false) (bnd (laws_markRequester.f k y22 y23 y24 y25 1) fun p => (fun y48 y49 y50 y51 => bnd (laws_markPacket.f k y26 y27 y28 y29 y30 y31 y32 y33 y48) fun p => (fun y52 y53 => bnd (laws_heldRequester.f k y22 y49 y50 y51 1) fun y54 => brB (iLt y54 0) (some false) (bnd (laws_heldPacket.f k y26 y27 y28 y29 y30 y31 y32 y53 y54) fun y55 => brB (iLt y55 0) (some false) (brB (iNe y55 y52) (some false) (bnd (laws_toRequester.f k a0_0 a0_1 a0_2 a0_3) fun p => (fun y56 y57 y58 y59 => bnd (impl_BeginRead.f k y56 y57 y58 y59 a1 a2) fun p => (fun y60 y61 y62 y63 y64 y65 y66 y67 y68 y69 y70 y71 y72 => bnd (laws_eqRequester.f k y60 y61 y62 y63 y5 y6 y7 y8) fun y73 => brB (bNot y73) (some false) (bnd (laws_eqPacket.f k y64 y65 y66 y67 y68 y69 y70 y71 y9 y10 y11 y12 y13 y14 y15 y16) fun y74 => brB (bNot y74) (some false) (brB (bNe y72 y17) (some false) (bnd (laws_heldRequester.f k y22 y49 y50 y51 1) fun y75 => brB (iLt y75 0) (some false) (bnd (laws_heldPacket.f k y26 y27 y28 y29 y30 y31 y32 y53 y75) fun y76 => brB (iLt y76 0) (some false) (brB (iNe y76 y52) (some false) (some true))))))) p.1 p.2.1 p.2.2.1 p.2.2.2.1 p.2.2.2.2.1 p.2.2.2.2.2.1 p.2.2.2.2.2.2.1 p.2.2.2.2.2.2.2.1 p.2.2.2.2.2.2.2.2.1 p.2.2.2.2.2.2.2.2.2.1 p.2.2.2.2.2.2.2.2.2.2.1 p.2.2.2.2.2.2.2.2.2.2.2.1 p.2.2.2.2.2.2.2.2.2.2.2.2) p.1 p.2.1 p.2.2.1 p.2.2.2)))) p.1 p.2) p.1 p.2.1 p.2.2.1 p.2.2.2))))) p.1 p.2.1 p.2.2.1 p.2.2.2)) p.1 p.2.1 p.2.2.1 p.2.2.2)))) p.1 p.2.1 p.2.2.1 p.2.2.2.1 p.2.2.2.2.1 p.2.2.2.2.2.1 p.2.2.2.2.2.2.1 p.2.2.2.2.2.2.2.1 p.2.2.2.2.2.2.2.2.1 p.2.2.2.2.2.2.2.2.2.1 p.2.2.2.2.2.2.2.2.2.2.1 p.2.2.2.2.2.2.2.2.2.2.2.1 p.2.2.2.2.2.2.2.2.2.2.2.2) p.1 p.2.1 p.2.2.1 p.2.2.2) p.1 p.2.1 p.2.2.1 p.2.2.2.1 p.2.2.2.2.1 p.2.2.2.2.2.1 p.2.2.2.2.2.2.1 p.2.2.2.2.2.2.2.1 p.2.2.2.2.2.2.2.2.1 p.2.2.2.2.2.2.2.2.2.1 p.2.2.2.2.2.2.2.2.2.2.1 p.2.2.2.2.2.2.2.2.2.2.2.1 p.2.2.2.2.2.2.2.2.2.2.2.2) p.1 p.2.1 p.2.2.1 p.2.2.2)
def sig : Sig := ⟨8, [.w true [I, .row .bool, .row (.pair I (.pair I (.pair I (.pair (.row I) (.pair I I))))), .row (.pair I (.pair I (.pair I (.pair (.row I) I))))], .w false [I], .w false [I]], [(false, [.val .bool])]⟩
def H : Hints := ⟨[], [], [(10, [0, 0, 2, 7, 15])], [], true⟩
def spec : Spec := { sig := sig, fn := fun k (x : Int × List Bool × List (Int × Int × Int × (List Int) × Int × Int) × List (Int × Int × Int × (List Int) × Int) × Int × Int) => f k x.1 x.2.1 x.2.2.1 x.2.2.2.1 x.2.2.2.2.1 x.2.2.2.2.2 }
theorem ok : Holds Go.Proofs.Try.prog spec := holds_of_run (G := [laws_szRequester.spec, laws_toRequester.spec, spec_BeginRead.spec, impl_BeginRead.spec, laws_eqRequester.spec, laws_eqPacket.spec, laws_markRequester.spec, laws_markPacket.spec, laws_heldRequester.spec, laws_heldPacket.spec]) (holds_cons laws_szRequester.ok (holds_cons laws_toRequester.ok (holds_cons spec_BeginRead.ok (holds_cons impl_BeginRead.ok (holds_cons laws_eqRequester.ok (holds_cons laws_eqPacket.ok (holds_cons laws_markRequester.ok (holds_cons laws_markPacket.ok (holds_cons laws_heldRequester.ok (holds_cons laws_heldPacket.ok holds_nil)))))))))) (by kernel_rfl) H Go.Proofs.Try.func8 (by kernel_rfl) (rfl : Go.Proofs.Try.f8.body = some _) (by kernel_rfl) (by kernel_rfl) fun k x y h => Eq.trans (by kernel_rfl : _ = spec.fn k x) h
end laws_FnExactBeginRead

end
end Go.Proofs.YtbmfjpflhbhhdaaT
