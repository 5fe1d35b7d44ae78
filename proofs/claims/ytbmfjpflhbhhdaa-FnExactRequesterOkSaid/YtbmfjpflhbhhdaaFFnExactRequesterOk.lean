/- The functions of the program, as they compute: printed by a program of the session (wip/gen), each with its contract. -/
import Derived.Test.YtbmfjpflhbhhdaaProg
import Derived.Test.YtbmfjpflhbhhdaaTiAI
set_option linter.unusedVariables false
set_option maxRecDepth 100000
namespace Go.Proofs.YtbmfjpflhbhhdaaT
open Go
abbrev I : Ty := .int .i64
noncomputable section
namespace laws_szBoolS
def f (k : Nat) (a0 : List Bool) (a1 : Int) : Option (Int) := brB (iLt (iSub .i64 a1 (rLen a0)) 0) (some (-1)) (some (iSub .i64 a1 (rLen a0)))
def sig : Sig := ⟨97, [.w false [.row .bool], .w false [I]], [(false, [.val I])]⟩
def H : Hints := ⟨[], [], [], []⟩
def spec : Spec := { sig := sig, fn := fun k (x : List Bool × Int) => f k x.1 x.2 }
theorem ok : Holds Go.Proofs.Try.prog spec := holds_of_run (G := []) holds_nil (by kernel_rfl) H Go.Proofs.Try.func97 (by kernel_rfl) (rfl : Go.Proofs.Try.f97.body = some _) (by kernel_rfl) (by kernel_rfl) fun k x y h => Eq.trans (by kernel_rfl : _ = spec.fn k x) h
end laws_szBoolS

namespace laws_szTags
def f (k : Nat) (a0 : List Bool) (a1 : Int) : Option (Int) := bnd (laws_szBoolS.f k a0 a1) fun y0 => brB (iLt y0 0) (some (-1)) (some y0)
def sig : Sig := ⟨47, [.w true [.row .bool], .w false [I]], [(false, [.val I])]⟩
def H : Hints := ⟨[], [], [], []⟩
def spec : Spec := { sig := sig, fn := fun k (x : List Bool × Int) => f k x.1 x.2 }
theorem ok : Holds Go.Proofs.Try.prog spec := holds_of_run (G := [laws_szBoolS.spec]) (holds_cons laws_szBoolS.ok holds_nil) (by kernel_rfl) H Go.Proofs.Try.func47 (by kernel_rfl) (rfl : Go.Proofs.Try.f47.body = some _) (by kernel_rfl) (by kernel_rfl) fun k x y h => Eq.trans (by kernel_rfl : _ = spec.fn k x) h
end laws_szTags

namespace laws_szIntS
def f (k : Nat) (a0 : List Int) (a1 : Int) : Option (Int) := brB (iLt (iSub .i64 a1 (rLen a0)) 0) (some (-1)) (some (iSub .i64 a1 (rLen a0)))
def sig : Sig := ⟨89, [.w false [.row I], .w false [I]], [(false, [.val I])]⟩
def H : Hints := ⟨[], [], [], []⟩
def spec : Spec := { sig := sig, fn := fun k (x : List Int × Int) => f k x.1 x.2 }
theorem ok : Holds Go.Proofs.Try.prog spec := holds_of_run (G := []) holds_nil (by kernel_rfl) H Go.Proofs.Try.func89 (by kernel_rfl) (rfl : Go.Proofs.Try.f89.body = some _) (by kernel_rfl) (by kernel_rfl) fun k x y h => Eq.trans (by kernel_rfl : _ = spec.fn k x) h
end laws_szIntS

namespace laws_szGather
def f (k : Nat) (a0_0 : Int) (a0_1 : Int) (a0_2 : Int) (a0_3 : List Int) (a0_4 : Int) (a1 : Int) : Option (Int) := bnd (laws_szIntS.f k a0_3 a1) fun y0 => brB (iLt y0 0) (some (-1)) (some y0)
def sig : Sig := ⟨99, [.w true [I, I, I, .row I, I], .w false [I]], [(false, [.val I])]⟩
def H : Hints := ⟨[], [], [], []⟩
def spec : Spec := { sig := sig, fn := fun k (x : Int × Int × Int × List Int × Int × Int) => f k x.1 x.2.1 x.2.2.1 x.2.2.2.1 x.2.2.2.2.1 x.2.2.2.2.2 }
theorem ok : Holds Go.Proofs.Try.prog spec := holds_of_run (G := [laws_szIntS.spec]) (holds_cons laws_szIntS.ok holds_nil) (by kernel_rfl) H Go.Proofs.Try.func99 (by kernel_rfl) (rfl : Go.Proofs.Try.f99.body = some _) (by kernel_rfl) (by kernel_rfl) fun k x y h => Eq.trans (by kernel_rfl : _ = spec.fn k x) h
end laws_szGather

namespace laws_szWaiting
def f (k : Nat) (a0_0 : Int) (a0_1 : Int) (a0_2 : Int) (a0_3 : List Int) (a0_4 : Int) (a0_5 : Int) (a1 : Int) : Option (Int) := bnd (laws_szGather.f k a0_0 a0_1 a0_2 a0_3 a0_4 a1) fun y0 => brB (iLt y0 0) (some (-1)) (some y0)
def sig : Sig := ⟨98, [.w true [I, I, I, .row I, I, I], .w false [I]], [(false, [.val I])]⟩
def H : Hints := ⟨[], [], [], []⟩
def spec : Spec := { sig := sig, fn := fun k (x : Int × Int × Int × List Int × Int × Int × Int) => f k x.1 x.2.1 x.2.2.1 x.2.2.2.1 x.2.2.2.2.1 x.2.2.2.2.2.1 x.2.2.2.2.2.2 }
theorem ok : Holds Go.Proofs.Try.prog spec := holds_of_run (G := [laws_szGather.spec]) (holds_cons laws_szGather.ok holds_nil) (by kernel_rfl) H Go.Proofs.Try.func98 (by kernel_rfl) (rfl : Go.Proofs.Try.f98.body = some _) (by kernel_rfl) (by kernel_rfl) fun k x y h => Eq.trans (by kernel_rfl : _ = spec.fn k x) h
end laws_szWaiting

namespace laws_szWaitingS
def s0 (k : Nat) (rec0 : ((List (Int × Int × Int × (List Int) × Int × Int)) × Int × Int) → Option (Int)) (x0 : List (Int × Int × Int × (List Int) × Int × Int)) (x1 : Int) (x2 : Int) : Option (Int) := brB (iLt x2 (rLen x0)) (chk (cIdx x2 (rLen x0)) (bnd (laws_szWaiting.f k ((rGet (0, 0, 0, [], 0, 0) x0 x2).1) (((rGet (0, 0, 0, [], 0, 0) x0 x2).2).1) ((((rGet (0, 0, 0, [], 0, 0) x0 x2).2).2).1) (((((rGet (0, 0, 0, [], 0, 0) x0 x2).2).2).2).1) ((((((rGet (0, 0, 0, [], 0, 0) x0 x2).2).2).2).2).1) ((((((rGet (0, 0, 0, [], 0, 0) x0 x2).2).2).2).2).2) x1) fun y0 => brB (iLt y0 0) (some (-1)) (rec0 (x0, y0, iAdd .i64 x2 1)))) (some x1)
def l0 (k n : Nat) (x0 : List (Int × Int × Int × (List Int) × Int × Int)) (x1 : Int) (x2 : Int) : Option (Int) := iter (fun (rec : ((List (Int × Int × Int × (List Int) × Int × Int)) × Int × Int) → Option (Int)) (x : (List (Int × Int × Int × (List Int) × Int × Int)) × Int × Int) => s0 k rec x.1 x.2.1 x.2.2) n (x0, x1, x2)
def f (k : Nat) (a0 : List (Int × Int × Int × (List Int) × Int × Int)) (a1 : Int) : Option (Int) := brB (iLt (iSub .i64 a1 (rLen a0)) 0) (some (-1)) (l0 k k a0 (iSub .i64 a1 (rLen a0)) 0)
def sig : Sig := ⟨48, [.w false [.row (.pair I (.pair I (.pair I (.pair (.row I) (.pair I I)))))], .w false [I]], [(false, [.val I])]⟩
def H : Hints := ⟨[(5, ⟨⟨[(0, .w false 1), (1, .w false 1), (5, .w false 1)], []⟩, [], [.val (.row (.pair I (.pair I (.pair I (.pair (.row I) (.pair I I)))))), .val I, .val I], []⟩)], [], [], []⟩
def spec : Spec := { sig := sig, fn := fun k (x : List (Int × Int × Int × (List Int) × Int × Int) × Int) => f k x.1 x.2 }
theorem ok : Holds Go.Proofs.Try.prog spec := holds_of_run (G := [laws_szWaiting.spec]) (holds_cons laws_szWaiting.ok holds_nil) (by kernel_rfl) H Go.Proofs.Try.func48 (by kernel_rfl) (rfl : Go.Proofs.Try.f48.body = some _) (by kernel_rfl) (by kernel_rfl) fun k x y h => Eq.trans (by kernel_rfl : _ = spec.fn k x) h
end laws_szWaitingS

namespace laws_szGatherS
def s0 (k : Nat) (rec0 : ((List (Int × Int × Int × (List Int) × Int)) × Int × Int) → Option (Int)) (x0 : List (Int × Int × Int × (List Int) × Int)) (x1 : Int) (x2 : Int) : Option (Int) := brB (iLt x2 (rLen x0)) (chk (cIdx x2 (rLen x0)) (bnd (laws_szGather.f k ((rGet (0, 0, 0, [], 0) x0 x2).1) (((rGet (0, 0, 0, [], 0) x0 x2).2).1) ((((rGet (0, 0, 0, [], 0) x0 x2).2).2).1) (((((rGet (0, 0, 0, [], 0) x0 x2).2).2).2).1) (((((rGet (0, 0, 0, [], 0) x0 x2).2).2).2).2) x1) fun y0 => brB (iLt y0 0) (some (-1)) (rec0 (x0, y0, iAdd .i64 x2 1)))) (some x1)
def l0 (k n : Nat) (x0 : List (Int × Int × Int × (List Int) × Int)) (x1 : Int) (x2 : Int) : Option (Int) := iter (fun (rec : ((List (Int × Int × Int × (List Int) × Int)) × Int × Int) → Option (Int)) (x : (List (Int × Int × Int × (List Int) × Int)) × Int × Int) => s0 k rec x.1 x.2.1 x.2.2) n (x0, x1, x2)
def f (k : Nat) (a0 : List (Int × Int × Int × (List Int) × Int)) (a1 : Int) : Option (Int) := brB (iLt (iSub .i64 a1 (rLen a0)) 0) (some (-1)) (l0 k k a0 (iSub .i64 a1 (rLen a0)) 0)
def sig : Sig := ⟨49, [.w false [.row (.pair I (.pair I (.pair I (.pair (.row I) I))))], .w false [I]], [(false, [.val I])]⟩
def H : Hints := ⟨[(5, ⟨⟨[(0, .w false 1), (1, .w false 1), (5, .w false 1)], []⟩, [], [.val (.row (.pair I (.pair I (.pair I (.pair (.row I) I))))), .val I, .val I], []⟩)], [], [], []⟩
def spec : Spec := { sig := sig, fn := fun k (x : List (Int × Int × Int × (List Int) × Int) × Int) => f k x.1 x.2 }
theorem ok : Holds Go.Proofs.Try.prog spec := holds_of_run (G := [laws_szGather.spec]) (holds_cons laws_szGather.ok holds_nil) (by kernel_rfl) H Go.Proofs.Try.func49 (by kernel_rfl) (rfl : Go.Proofs.Try.f49.body = some _) (by kernel_rfl) (by kernel_rfl) fun k x y h => Eq.trans (by kernel_rfl : _ = spec.fn k x) h
end laws_szGatherS

namespace laws_szRequester
def f (k : Nat) (a0_0 : Int) (a0_1 : List Bool) (a0_2 : List (Int × Int × Int × (List Int) × Int × Int)) (a0_3 : List (Int × Int × Int × (List Int) × Int)) (a1 : Int) : Option (Int) := bnd (laws_szTags.f k a0_1 a1) fun y0 => brB (iLt y0 0) (some (-1)) (bnd (laws_szWaitingS.f k a0_2 y0) fun y1 => brB (iLt y1 0) (some (-1)) (bnd (laws_szGatherS.f k a0_3 y1) fun y2 => brB (iLt y2 0) (some (-1)) (some y2)))
def sig : Sig := ⟨15, [.w true [I, .row .bool, .row (.pair I (.pair I (.pair I (.pair (.row I) (.pair I I))))), .row (.pair I (.pair I (.pair I (.pair (.row I) I))))], .w false [I]], [(false, [.val I])]⟩
def H : Hints := ⟨[], [], [], []⟩
def spec : Spec := { sig := sig, fn := fun k (x : Int × List Bool × List (Int × Int × Int × (List Int) × Int × Int) × List (Int × Int × Int × (List Int) × Int) × Int) => f k x.1 x.2.1 x.2.2.1 x.2.2.2.1 x.2.2.2.2 }
theorem ok : Holds Go.Proofs.Try.prog spec := holds_of_run (G := [laws_szTags.spec, laws_szWaitingS.spec, laws_szGatherS.spec]) (holds_cons laws_szTags.ok (holds_cons laws_szWaitingS.ok (holds_cons laws_szGatherS.ok holds_nil))) (by kernel_rfl) H Go.Proofs.Try.func15 (by kernel_rfl) (rfl : Go.Proofs.Try.f15.body = some _) (by kernel_rfl) (by kernel_rfl) fun k x y h => Eq.trans (by kernel_rfl : _ = spec.fn k x) h
end laws_szRequester

namespace laws_toBoolS
def s0 (k : Nat) (rec0 : (List Bool × List Bool × Int) → Option (List Bool)) (x0 : List Bool) (x1 : List Bool) (x2 : Int) : Option (List Bool) := brB (iLt x2 (rLen x0)) (chk (cIdx x2 (rLen x0)) (chk (cIdx x2 (rLen x1)) (rec0 (x0, rSet x1 x2 (rGet false x0 x2), iAdd .i64 x2 1)))) (some x1)
def l0 (k n : Nat) (x0 : List Bool) (x1 : List Bool) (x2 : Int) : Option (List Bool) := iter (fun (rec : (List Bool × List Bool × Int) → Option (List Bool)) (x : List Bool × List Bool × Int) => s0 k rec x.1 x.2.1 x.2.2) n (x0, x1, x2)
def f (k : Nat) (a0 : List Bool) : Option (List Bool) := chk (cMake (rLen a0) (rLen a0) 1) (l0 k k a0 (rRep false (rLen a0)) 0)
def sig : Sig := ⟨101, [.w false [.row .bool]], [(false, [.own .bool])]⟩
def H : Hints := ⟨[(3, ⟨⟨[(0, .w false 1), (3, .w false 1), (4, .w false 1)], []⟩, [], [.val (.row .bool), .own .bool, .val I], []⟩)], [], [], []⟩
def spec : Spec := { sig := sig, fn := fun k (x : List Bool) => f k x }
theorem ok : Holds Go.Proofs.Try.prog spec := holds_of_run (G := []) holds_nil (by kernel_rfl) H Go.Proofs.Try.func101 (by kernel_rfl) (rfl : Go.Proofs.Try.f101.body = some _) (by kernel_rfl) (by kernel_rfl) fun k x y h => Eq.trans (by kernel_rfl : _ = spec.fn k x) h
end laws_toBoolS

namespace laws_toTags
def f (k : Nat) (a0 : List Bool) : Option (List Bool) := bnd (laws_toBoolS.f k a0) fun y0 => some y0
def sig : Sig := ⟨55, [.w true [.row .bool]], [(true, [.own .bool])]⟩
def H : Hints := ⟨[], [], [], []⟩
def spec : Spec := { sig := sig, fn := fun k (x : List Bool) => f k x }
theorem ok : Holds Go.Proofs.Try.prog spec := holds_of_run (G := [laws_toBoolS.spec]) (holds_cons laws_toBoolS.ok holds_nil) (by kernel_rfl) H Go.Proofs.Try.func55 (by kernel_rfl) (rfl : Go.Proofs.Try.f55.body = some _) (by kernel_rfl) (by kernel_rfl) fun k x y h => Eq.trans (by kernel_rfl : _ = spec.fn k x) h
end laws_toTags

namespace laws_toIntS
def s0 (k : Nat) (rec0 : (List Int × List Int × Int) → Option (List Int)) (x0 : List Int) (x1 : List Int) (x2 : Int) : Option (List Int) := brB (iLt x2 (rLen x0)) (chk (cIdx x2 (rLen x0)) (chk (cIdx x2 (rLen x1)) (rec0 (x0, rSet x1 x2 (rGet 0 x0 x2), iAdd .i64 x2 1)))) (some x1)
def l0 (k n : Nat) (x0 : List Int) (x1 : List Int) (x2 : Int) : Option (List Int) := iter (fun (rec : (List Int × List Int × Int) → Option (List Int)) (x : List Int × List Int × Int) => s0 k rec x.1 x.2.1 x.2.2) n (x0, x1, x2)
def f (k : Nat) (a0 : List Int) : Option (List Int) := chk (cMake (rLen a0) (rLen a0) 8) (l0 k k a0 (rRep 0 (rLen a0)) 0)
def sig : Sig := ⟨91, [.w false [.row I]], [(false, [.own I])]⟩
def H : Hints := ⟨[(3, ⟨⟨[(0, .w false 1), (3, .w false 1), (4, .w false 1)], []⟩, [], [.val (.row I), .own I, .val I], []⟩)], [], [], []⟩
def spec : Spec := { sig := sig, fn := fun k (x : List Int) => f k x }
theorem ok : Holds Go.Proofs.Try.prog spec := holds_of_run (G := []) holds_nil (by kernel_rfl) H Go.Proofs.Try.func91 (by kernel_rfl) (rfl : Go.Proofs.Try.f91.body = some _) (by kernel_rfl) (by kernel_rfl) fun k x y h => Eq.trans (by kernel_rfl : _ = spec.fn k x) h
end laws_toIntS

namespace laws_toGather
def f (k : Nat) (a0_0 : Int) (a0_1 : Int) (a0_2 : Int) (a0_3 : List Int) (a0_4 : Int) : Option (Int × Int × Int × List Int × Int) := bnd (laws_toIntS.f k a0_3) fun y0 => some (a0_0, a0_1, a0_2, y0, a0_4)
def sig : Sig := ⟨103, [.w true [I, I, I, .row I, I]], [(true, [.val I, .val I, .val I, .own I, .val I])]⟩
def H : Hints := ⟨[], [], [], []⟩
def spec : Spec := { sig := sig, fn := fun k (x : Int × Int × Int × List Int × Int) => f k x.1 x.2.1 x.2.2.1 x.2.2.2.1 x.2.2.2.2 }
theorem ok : Holds Go.Proofs.Try.prog spec := holds_of_run (G := [laws_toIntS.spec]) (holds_cons laws_toIntS.ok holds_nil) (by kernel_rfl) H Go.Proofs.Try.func103 (by kernel_rfl) (rfl : Go.Proofs.Try.f103.body = some _) (by kernel_rfl) (by kernel_rfl) fun k x y h => Eq.trans (by kernel_rfl : _ = spec.fn k x) h
end laws_toGather

namespace laws_toWaiting
def f (k : Nat) (a0_0 : Int) (a0_1 : Int) (a0_2 : Int) (a0_3 : List Int) (a0_4 : Int) (a0_5 : Int) : Option (Int × Int × Int × List Int × Int × Int) := bnd (laws_toGather.f k a0_0 a0_1 a0_2 a0_3 a0_4) fun (y0, y1, y2, y3, y4) => some (y0, y1, y2, y3, y4, a0_5)
def sig : Sig := ⟨102, [.w true [I, I, I, .row I, I, I]], [(true, [.val I, .val I, .val I, .own I, .val I, .val I])]⟩
def H : Hints := ⟨[], [], [], []⟩
def spec : Spec := { sig := sig, fn := fun k (x : Int × Int × Int × List Int × Int × Int) => f k x.1 x.2.1 x.2.2.1 x.2.2.2.1 x.2.2.2.2.1 x.2.2.2.2.2 }
theorem ok : Holds Go.Proofs.Try.prog spec := holds_of_run (G := [laws_toGather.spec]) (holds_cons laws_toGather.ok holds_nil) (by kernel_rfl) H Go.Proofs.Try.func102 (by kernel_rfl) (rfl : Go.Proofs.Try.f102.body = some _) (by kernel_rfl) (by kernel_rfl) fun k x y h => Eq.trans (by kernel_rfl : _ = spec.fn k x) h
end laws_toWaiting

namespace laws_toWaitingS
def s0 (k : Nat) (rec0 : ((List (Int × Int × Int × (List Int) × Int × Int)) × (List (Int × Int × Int × (List Int) × Int × Int)) × Int) → Option (List (Int × Int × Int × (List Int) × Int × Int))) (x0 : List (Int × Int × Int × (List Int) × Int × Int)) (x1 : List (Int × Int × Int × (List Int) × Int × Int)) (x2 : Int) : Option (List (Int × Int × Int × (List Int) × Int × Int)) := brB (iLt x2 (rLen x0)) (chk (cIdx x2 (rLen x0)) (bnd (laws_toWaiting.f k ((rGet (0, 0, 0, [], 0, 0) x0 x2).1) (((rGet (0, 0, 0, [], 0, 0) x0 x2).2).1) ((((rGet (0, 0, 0, [], 0, 0) x0 x2).2).2).1) (((((rGet (0, 0, 0, [], 0, 0) x0 x2).2).2).2).1) ((((((rGet (0, 0, 0, [], 0, 0) x0 x2).2).2).2).2).1) ((((((rGet (0, 0, 0, [], 0, 0) x0 x2).2).2).2).2).2)) fun (y0, y1, y2, y3, y4, y5) => chk (cIdx x2 (rLen x1)) (rec0 (x0, rSet x1 x2 (y0, y1, y2, y3, y4, y5), iAdd .i64 x2 1)))) (some x1)
def l0 (k n : Nat) (x0 : List (Int × Int × Int × (List Int) × Int × Int)) (x1 : List (Int × Int × Int × (List Int) × Int × Int)) (x2 : Int) : Option (List (Int × Int × Int × (List Int) × Int × Int)) := iter (fun (rec : ((List (Int × Int × Int × (List Int) × Int × Int)) × (List (Int × Int × Int × (List Int) × Int × Int)) × Int) → Option (List (Int × Int × Int × (List Int) × Int × Int))) (x : (List (Int × Int × Int × (List Int) × Int × Int)) × (List (Int × Int × Int × (List Int) × Int × Int)) × Int) => s0 k rec x.1 x.2.1 x.2.2) n (x0, x1, x2)
def f (k : Nat) (a0 : List (Int × Int × Int × (List Int) × Int × Int)) : Option (List (Int × Int × Int × (List Int) × Int × Int)) := chk (cMake (rLen a0) (rLen a0) 64) (l0 k k a0 (rRep (0, 0, 0, [], 0, 0) (rLen a0)) 0)
def sig : Sig := ⟨56, [.w false [.row (.pair I (.pair I (.pair I (.pair (.row I) (.pair I I)))))]], [(false, [.own (.pair I (.pair I (.pair I (.pair (.row I) (.pair I I)))))])]⟩
def H : Hints := ⟨[(3, ⟨⟨[(0, .w false 1), (3, .w false 1), (4, .w false 1)], []⟩, [], [.val (.row (.pair I (.pair I (.pair I (.pair (.row I) (.pair I I)))))), .own (.pair I (.pair I (.pair I (.pair (.row I) (.pair I I))))), .val I], []⟩)], [], [], []⟩
def spec : Spec := { sig := sig, fn := fun k (x : List (Int × Int × Int × (List Int) × Int × Int)) => f k x }
theorem ok : Holds Go.Proofs.Try.prog spec := holds_of_run (G := [laws_toWaiting.spec]) (holds_cons laws_toWaiting.ok holds_nil) (by kernel_rfl) H Go.Proofs.Try.func56 (by kernel_rfl) (rfl : Go.Proofs.Try.f56.body = some _) (by kernel_rfl) (by kernel_rfl) fun k x y h => Eq.trans (by kernel_rfl : _ = spec.fn k x) h
end laws_toWaitingS

namespace laws_toGatherS
def s0 (k : Nat) (rec0 : ((List (Int × Int × Int × (List Int) × Int)) × (List (Int × Int × Int × (List Int) × Int)) × Int) → Option (List (Int × Int × Int × (List Int) × Int))) (x0 : List (Int × Int × Int × (List Int) × Int)) (x1 : List (Int × Int × Int × (List Int) × Int)) (x2 : Int) : Option (List (Int × Int × Int × (List Int) × Int)) := brB (iLt x2 (rLen x0)) (chk (cIdx x2 (rLen x0)) (bnd (laws_toGather.f k ((rGet (0, 0, 0, [], 0) x0 x2).1) (((rGet (0, 0, 0, [], 0) x0 x2).2).1) ((((rGet (0, 0, 0, [], 0) x0 x2).2).2).1) (((((rGet (0, 0, 0, [], 0) x0 x2).2).2).2).1) (((((rGet (0, 0, 0, [], 0) x0 x2).2).2).2).2)) fun (y0, y1, y2, y3, y4) => chk (cIdx x2 (rLen x1)) (rec0 (x0, rSet x1 x2 (y0, y1, y2, y3, y4), iAdd .i64 x2 1)))) (some x1)
def l0 (k n : Nat) (x0 : List (Int × Int × Int × (List Int) × Int)) (x1 : List (Int × Int × Int × (List Int) × Int)) (x2 : Int) : Option (List (Int × Int × Int × (List Int) × Int)) := iter (fun (rec : ((List (Int × Int × Int × (List Int) × Int)) × (List (Int × Int × Int × (List Int) × Int)) × Int) → Option (List (Int × Int × Int × (List Int) × Int))) (x : (List (Int × Int × Int × (List Int) × Int)) × (List (Int × Int × Int × (List Int) × Int)) × Int) => s0 k rec x.1 x.2.1 x.2.2) n (x0, x1, x2)
def f (k : Nat) (a0 : List (Int × Int × Int × (List Int) × Int)) : Option (List (Int × Int × Int × (List Int) × Int)) := chk (cMake (rLen a0) (rLen a0) 56) (l0 k k a0 (rRep (0, 0, 0, [], 0) (rLen a0)) 0)
def sig : Sig := ⟨57, [.w false [.row (.pair I (.pair I (.pair I (.pair (.row I) I))))]], [(false, [.own (.pair I (.pair I (.pair I (.pair (.row I) I))))])]⟩
def H : Hints := ⟨[(3, ⟨⟨[(0, .w false 1), (3, .w false 1), (4, .w false 1)], []⟩, [], [.val (.row (.pair I (.pair I (.pair I (.pair (.row I) I))))), .own (.pair I (.pair I (.pair I (.pair (.row I) I)))), .val I], []⟩)], [], [], []⟩
def spec : Spec := { sig := sig, fn := fun k (x : List (Int × Int × Int × (List Int) × Int)) => f k x }
theorem ok : Holds Go.Proofs.Try.prog spec := holds_of_run (G := [laws_toGather.spec]) (holds_cons laws_toGather.ok holds_nil) (by kernel_rfl) H Go.Proofs.Try.func57 (by kernel_rfl) (rfl : Go.Proofs.Try.f57.body = some _) (by kernel_rfl) (by kernel_rfl) fun k x y h => Eq.trans (by kernel_rfl : _ = spec.fn k x) h
end laws_toGatherS

namespace laws_toRequester
def f (k : Nat) (a0_0 : Int) (a0_1 : List Bool) (a0_2 : List (Int × Int × Int × (List Int) × Int × Int)) (a0_3 : List (Int × Int × Int × (List Int) × Int)) : Option (Int × List Bool × List (Int × Int × Int × (List Int) × Int × Int) × List (Int × Int × Int × (List Int) × Int)) := bnd (laws_toTags.f k a0_1) fun y0 => bnd (laws_toWaitingS.f k a0_2) fun y1 => bnd (laws_toGatherS.f k a0_3) fun y2 => some (a0_0, y0, y1, y2)
def sig : Sig := ⟨17, [.w true [I, .row .bool, .row (.pair I (.pair I (.pair I (.pair (.row I) (.pair I I))))), .row (.pair I (.pair I (.pair I (.pair (.row I) I))))]], [(true, [.val I, .own .bool, .own (.pair I (.pair I (.pair I (.pair (.row I) (.pair I I))))), .own (.pair I (.pair I (.pair I (.pair (.row I) I))))])]⟩
def H : Hints := ⟨[], [], [], []⟩
def spec : Spec := { sig := sig, fn := fun k (x : Int × List Bool × List (Int × Int × Int × (List Int) × Int × Int) × List (Int × Int × Int × (List Int) × Int)) => f k x.1 x.2.1 x.2.2.1 x.2.2.2 }
theorem ok : Holds Go.Proofs.Try.prog spec := holds_of_run (G := [laws_toTags.spec, laws_toWaitingS.spec, laws_toGatherS.spec]) (holds_cons laws_toTags.ok (holds_cons laws_toWaitingS.ok (holds_cons laws_toGatherS.ok holds_nil))) (by kernel_rfl) H Go.Proofs.Try.func17 (by kernel_rfl) (rfl : Go.Proofs.Try.f17.body = some _) (by kernel_rfl) (by kernel_rfl) fun k x y h => Eq.trans (by kernel_rfl : _ = spec.fn k x) h
end laws_toRequester

namespace spec_l01In
def f (k : Nat) (a0 : Int) (a1 : Int) (a2 : Int) : Option (Bool) := brB (iLe a1 a0) (some (iLe a0 a2)) (some false)
def sig : Sig := ⟨54, [.w false [I], .w false [I], .w false [I]], [(false, [.val .bool])]⟩
def H : Hints := ⟨[], [], [], []⟩
def spec : Spec := { sig := sig, fn := fun k (x : Int × Int × Int) => f k x.1 x.2.1 x.2.2 }
theorem ok : Holds Go.Proofs.Try.prog spec := holds_of_run (G := []) holds_nil (by kernel_rfl) H Go.Proofs.Try.func54 (by kernel_rfl) (rfl : Go.Proofs.Try.f54.body = some _) (by kernel_rfl) (by kernel_rfl) fun k x y h => Eq.trans (by kernel_rfl : _ = spec.fn k x) h
end spec_l01In

namespace spec_IsId
def f (k : Nat) (a0 : Int) : Option (Bool) := bnd (spec_l01In.f k a0 0 255) fun y0 => some y0
def sig : Sig := ⟨50, [.w false [I]], [(false, [.val .bool])]⟩
def H : Hints := ⟨[], [], [], []⟩
def spec : Spec := { sig := sig, fn := fun k (x : Int) => f k x }
theorem ok : Holds Go.Proofs.Try.prog spec := holds_of_run (G := [spec_l01In.spec]) (holds_cons spec_l01In.ok holds_nil) (by kernel_rfl) H Go.Proofs.Try.func50 (by kernel_rfl) (rfl : Go.Proofs.Try.f50.body = some _) (by kernel_rfl) (by kernel_rfl) fun k x y h => Eq.trans (by kernel_rfl : _ = spec.fn k x) h
end spec_IsId

namespace spec_TagsOk
def f (k : Nat) (a0 : List Bool) : Option (Bool) := some (iEq (rLen a0) 8)
def sig : Sig := ⟨51, [.w true [.row .bool]], [(false, [.val .bool])]⟩
def H : Hints := ⟨[], [], [], []⟩
def spec : Spec := { sig := sig, fn := fun k (x : List Bool) => f k x }
theorem ok : Holds Go.Proofs.Try.prog spec := holds_of_run (G := []) holds_nil (by kernel_rfl) H Go.Proofs.Try.func51 (by kernel_rfl) (rfl : Go.Proofs.Try.f51.body = some _) (by kernel_rfl) (by kernel_rfl) fun k x y h => Eq.trans (by kernel_rfl : _ = spec.fn k x) h
end spec_TagsOk

namespace spec_CountBusy
def s0 (k : Nat) (rec0 : (Int × Int × List Bool) → Option (Int)) (x0 : Int) (x1 : Int) (x2 : List Bool) : Option (Int) := brB (iLt x1 (rLen x2)) (chk (cIdx x1 (rLen x2)) (brB (rGet false x2 x1) (rec0 (iAdd .i64 x0 1, iAdd .i64 x1 1, x2)) (rec0 (x0, iAdd .i64 x1 1, x2)))) (some x0)
def l0 (k n : Nat) (x0 : Int) (x1 : Int) (x2 : List Bool) : Option (Int) := iter (fun (rec : (Int × Int × List Bool) → Option (Int)) (x : Int × Int × List Bool) => s0 k rec x.1 x.2.1 x.2.2) n (x0, x1, x2)
def f (k : Nat) (a0 : List Bool) : Option (Int) := l0 k k 0 0 a0
def sig : Sig := ⟨52, [.w true [.row .bool]], [(false, [.val I])]⟩
def H : Hints := ⟨[(3, ⟨⟨[(1, .ptr 101 0), (3, .w false 1), (4, .w false 1)], [(101, 1)]⟩, [1], [.val I, .val I, .val (.row .bool)], []⟩)], [], [], []⟩
def spec : Spec := { sig := sig, fn := fun k (x : List Bool) => f k x }
theorem ok : Holds Go.Proofs.Try.prog spec := holds_of_run (G := []) holds_nil (by kernel_rfl) H Go.Proofs.Try.func52 (by kernel_rfl) (rfl : Go.Proofs.Try.f52.body = some _) (by kernel_rfl) (by kernel_rfl) fun k x y h => Eq.trans (by kernel_rfl : _ = spec.fn k x) h
end spec_CountBusy

namespace spec_l04Words
def s0 (k : Nat) (rec0 : (List Int × Int) → Option (Bool)) (x0 : List Int) (x1 : Int) : Option (Bool) := brB (iLt x1 (rLen x0)) (chk (cIdx x1 (rLen x0)) (bnd (spec_l01In.f k (rGet 0 x0 x1) 0 65535) fun y0 => brB (bNot y0) (some false) (rec0 (x0, iAdd .i64 x1 1)))) (some true)
def l0 (k n : Nat) (x0 : List Int) (x1 : Int) : Option (Bool) := iter (fun (rec : (List Int × Int) → Option (Bool)) (x : List Int × Int) => s0 k rec x.1 x.2) n (x0, x1)
def f (k : Nat) (a0 : List Int) : Option (Bool) := l0 k k a0 0
def sig : Sig := ⟨100, [.w false [.row I]], [(false, [.val .bool])]⟩
def H : Hints := ⟨[(2, ⟨⟨[(0, .w false 1), (3, .w false 1)], []⟩, [], [.val (.row I), .val I], []⟩)], [], [], []⟩
def spec : Spec := { sig := sig, fn := fun k (x : List Int) => f k x }
theorem ok : Holds Go.Proofs.Try.prog spec := holds_of_run (G := [spec_l01In.spec]) (holds_cons spec_l01In.ok holds_nil) (by kernel_rfl) H Go.Proofs.Try.func100 (by kernel_rfl) (rfl : Go.Proofs.Try.f100.body = some _) (by kernel_rfl) (by kernel_rfl) fun k x y h => Eq.trans (by kernel_rfl : _ = spec.fn k x) h
end spec_l04Words

namespace spec_GatherOk
def f (k : Nat) (a0_0 : Int) (a0_1 : Int) (a0_2 : Int) (a0_3 : List Int) (a0_4 : Int) : Option (Bool) := bnd (spec_IsId.f k a0_0) fun y0 => brB y0 (bnd (spec_l01In.f k a0_1 0 7) fun y1 => brB y1 (bnd (spec_l01In.f k a0_2 0 64) fun y2 => brB y2 (brB (iLe (rLen a0_3) a0_2) (bnd (spec_l04Words.f k a0_3) fun y3 => brB y3 (bnd (spec_l01In.f k a0_4 0 2) fun y4 => brB y4 (brB (iNe a0_4 1) (some true) (some (iEq (rLen a0_3) a0_2))) (some false)) (some false)) (some false)) (some false)) (some false)) (some false)
def sig : Sig := ⟨53, [.w true [I, I, I, .row I, I]], [(false, [.val .bool])]⟩
def H : Hints := ⟨[], [], [], []⟩
def spec : Spec := { sig := sig, fn := fun k (x : Int × Int × Int × List Int × Int) => f k x.1 x.2.1 x.2.2.1 x.2.2.2.1 x.2.2.2.2 }
theorem ok : Holds Go.Proofs.Try.prog spec := holds_of_run (G := [spec_l01In.spec, spec_IsId.spec, spec_l04Words.spec]) (holds_cons spec_l01In.ok (holds_cons spec_IsId.ok (holds_cons spec_l04Words.ok holds_nil))) (by kernel_rfl) H Go.Proofs.Try.func53 (by kernel_rfl) (rfl : Go.Proofs.Try.f53.body = some _) (by kernel_rfl) (by kernel_rfl) fun k x y h => Eq.trans (by kernel_rfl : _ = spec.fn k x) h
end spec_GatherOk

namespace spec_RequesterOk
def s2 (k : Nat) (rec1 : (Int × Int × (List Bool) × (List (Int × Int × Int × (List Int) × Int × Int)) × List (Int × Int × Int × (List Int) × Int)) → Option (Bool)) (rec2 : (Int × Int × Int × List Bool × (List (Int × Int × Int × (List Int) × Int × Int)) × (List (Int × Int × Int × (List Int) × Int)) × Int × Int × Int × List Int × Int) → Option (Bool)) (x10 : Int) (x11 : Int) (x12 : Int) (x13 : List Bool) (x14 : List (Int × Int × Int × (List Int) × Int × Int)) (x15 : List (Int × Int × Int × (List Int) × Int)) (x16 : Int) (x17 : Int) (x18 : Int) (x19 : List Int) (x20 : Int) : Option (Bool) := brB (iLt x11 x10) (chk (cIdx x11 (rLen x14)) (brB (iEq (((rGet (0, 0, 0, [], 0, 0) x14 x11).2).1) x17) (some false) (rec2 (x10, iAdd .i64 x11 1, x12, x13, x14, x15, x16, x17, x18, x19, x20)))) (rec1 (iAdd .i64 x10 1, x12, x13, x14, x15))
def l2 (k n : Nat) (rec1 : (Int × Int × (List Bool) × (List (Int × Int × Int × (List Int) × Int × Int)) × List (Int × Int × Int × (List Int) × Int)) → Option (Bool)) (x10 : Int) (x11 : Int) (x12 : Int) (x13 : List Bool) (x14 : List (Int × Int × Int × (List Int) × Int × Int)) (x15 : List (Int × Int × Int × (List Int) × Int)) (x16 : Int) (x17 : Int) (x18 : Int) (x19 : List Int) (x20 : Int) : Option (Bool) := iter (fun (rec : (Int × Int × Int × List Bool × (List (Int × Int × Int × (List Int) × Int × Int)) × (List (Int × Int × Int × (List Int) × Int)) × Int × Int × Int × List Int × Int) → Option (Bool)) (x : Int × Int × Int × List Bool × (List (Int × Int × Int × (List Int) × Int × Int)) × (List (Int × Int × Int × (List Int) × Int)) × Int × Int × Int × List Int × Int) => s2 k rec1 rec x.1 x.2.1 x.2.2.1 x.2.2.2.1 x.2.2.2.2.1 x.2.2.2.2.2.1 x.2.2.2.2.2.2.1 x.2.2.2.2.2.2.2.1 x.2.2.2.2.2.2.2.2.1 x.2.2.2.2.2.2.2.2.2.1 x.2.2.2.2.2.2.2.2.2.2) n (x10, x11, x12, x13, x14, x15, x16, x17, x18, x19, x20)
def s1 (k : Nat) (rec1 : (Int × Int × List Bool × (List (Int × Int × Int × (List Int) × Int × Int)) × (List (Int × Int × Int × (List Int) × Int))) → Option (Bool)) (x5 : Int) (x6 : Int) (x7 : List Bool) (x8 : List (Int × Int × Int × (List Int) × Int × Int)) (x9 : List (Int × Int × Int × (List Int) × Int)) : Option (Bool) := brB (iLt x5 (rLen x8)) (chk (cIdx x5 (rLen x8)) (bnd (spec_GatherOk.f k ((rGet (0, 0, 0, [], 0, 0) x8 x5).1) (((rGet (0, 0, 0, [], 0, 0) x8 x5).2).1) ((((rGet (0, 0, 0, [], 0, 0) x8 x5).2).2).1) (((((rGet (0, 0, 0, [], 0, 0) x8 x5).2).2).2).1) ((((((rGet (0, 0, 0, [], 0, 0) x8 x5).2).2).2).2).1)) fun y4 => brB (bNot y4) (some false) (brB (iNe ((rGet (0, 0, 0, [], 0, 0) x8 x5).1) x6) (some false) (brB (iNe ((((((rGet (0, 0, 0, [], 0, 0) x8 x5).2).2).2).2).1) 0) (some false) (chk (cIdx x5 (rLen x8)) (bnd (spec_l01In.f k ((((((rGet (0, 0, 0, [], 0, 0) x8 x5).2).2).2).2).2) 0 50) fun y5 => brB (bNot y5) (some false) (chk (cIdx (((rGet (0, 0, 0, [], 0, 0) x8 x5).2).1) (rLen x7)) (brB (bNot (rGet false x7 (((rGet (0, 0, 0, [], 0, 0) x8 x5).2).1))) (some false) (l2 k k rec1 x5 0 x6 x7 x8 x9 ((rGet (0, 0, 0, [], 0, 0) x8 x5).1) (((rGet (0, 0, 0, [], 0, 0) x8 x5).2).1) ((((rGet (0, 0, 0, [], 0, 0) x8 x5).2).2).1) (((((rGet (0, 0, 0, [], 0, 0) x8 x5).2).2).2).1) ((((((rGet (0, 0, 0, [], 0, 0) x8 x5).2).2).2).2).1)))))))))) (some true)
def l1 (k n : Nat) (x5 : Int) (x6 : Int) (x7 : List Bool) (x8 : List (Int × Int × Int × (List Int) × Int × Int)) (x9 : List (Int × Int × Int × (List Int) × Int)) : Option (Bool) := iter (fun (rec : (Int × Int × List Bool × (List (Int × Int × Int × (List Int) × Int × Int)) × (List (Int × Int × Int × (List Int) × Int))) → Option (Bool)) (x : Int × Int × List Bool × (List (Int × Int × Int × (List Int) × Int × Int)) × (List (Int × Int × Int × (List Int) × Int))) => s1 k rec x.1 x.2.1 x.2.2.1 x.2.2.2.1 x.2.2.2.2) n (x5, x6, x7, x8, x9)
def s0 (k : Nat) (rec0 : (Int × Int × List Bool × (List (Int × Int × Int × (List Int) × Int × Int)) × (List (Int × Int × Int × (List Int) × Int))) → Option (Bool)) (x0 : Int) (x1 : Int) (x2 : List Bool) (x3 : List (Int × Int × Int × (List Int) × Int × Int)) (x4 : List (Int × Int × Int × (List Int) × Int)) : Option (Bool) := brB (iLt x0 (rLen x4)) (chk (cIdx x0 (rLen x4)) (bnd (spec_GatherOk.f k ((rGet (0, 0, 0, [], 0) x4 x0).1) (((rGet (0, 0, 0, [], 0) x4 x0).2).1) ((((rGet (0, 0, 0, [], 0) x4 x0).2).2).1) (((((rGet (0, 0, 0, [], 0) x4 x0).2).2).2).1) (((((rGet (0, 0, 0, [], 0) x4 x0).2).2).2).2)) fun y3 => brB (bNot y3) (some false) (rec0 (iAdd .i64 x0 1, x1, x2, x3, x4)))) (l1 k k 0 x1 x2 x3 x4)
def l0 (k n : Nat) (x0 : Int) (x1 : Int) (x2 : List Bool) (x3 : List (Int × Int × Int × (List Int) × Int × Int)) (x4 : List (Int × Int × Int × (List Int) × Int)) : Option (Bool) := iter (fun (rec : (Int × Int × List Bool × (List (Int × Int × Int × (List Int) × Int × Int)) × (List (Int × Int × Int × (List Int) × Int))) → Option (Bool)) (x : Int × Int × List Bool × (List (Int × Int × Int × (List Int) × Int × Int)) × (List (Int × Int × Int × (List Int) × Int))) => s0 k rec x.1 x.2.1 x.2.2.1 x.2.2.2.1 x.2.2.2.2) n (x0, x1, x2, x3, x4)
def f (k : Nat) (a0_0 : Int) (a0_1 : List Bool) (a0_2 : List (Int × Int × Int × (List Int) × Int × Int)) (a0_3 : List (Int × Int × Int × (List Int) × Int)) : Option (Bool) := bnd (spec_IsId.f k a0_0) fun y0 => brB (bNot y0) (some false) (bnd (spec_TagsOk.f k a0_1) fun y1 => brB (bNot y1) (some false) (brB (iLt 1000 (rLen a0_3)) (some false) (bnd (spec_CountBusy.f k a0_1) fun y2 => brB (iNe y2 (rLen a0_2)) (some false) (l0 k k 0 a0_0 a0_1 a0_2 a0_3))))
def sig : Sig := ⟨16, [.w true [I, .row .bool, .row (.pair I (.pair I (.pair I (.pair (.row I) (.pair I I))))), .row (.pair I (.pair I (.pair I (.pair (.row I) I))))]], [(false, [.val .bool])]⟩
def H : Hints := ⟨[(4, ⟨⟨[(1, .ptr 101 0), (3, .w false 1)], [(101, 4)]⟩, [1], [.val I, .val I, .val (.row .bool), .val (.row (.pair I (.pair I (.pair I (.pair (.row I) (.pair I I)))))), .val (.row (.pair I (.pair I (.pair I (.pair (.row I) I)))))], []⟩), (9, ⟨⟨[(1, .ptr 101 0), (4, .w false 1)], [(101, 4)]⟩, [1], [.val I, .val I, .val (.row .bool), .val (.row (.pair I (.pair I (.pair I (.pair (.row I) (.pair I I)))))), .val (.row (.pair I (.pair I (.pair I (.pair (.row I) I)))))], []⟩), (15, ⟨⟨[(1, .ptr 101 0), (4, .w false 1), (5, .ptr 105 0), (6, .w false 1)], [(101, 4), (105, 5)]⟩, [1, 5], [.val I, .val I, .val I, .val (.row .bool), .val (.row (.pair I (.pair I (.pair I (.pair (.row I) (.pair I I)))))), .val (.row (.pair I (.pair I (.pair I (.pair (.row I) I))))), .val I, .val I, .val I, .val (.row I), .val I], []⟩)], [], [(1, [0, 1, 3, 7, 15, 31, 63, 127, 255, 511, 1023, 2047, 4095, 8191, 16383, 32767, 65535, 131071, 262143, 524287, 131071, 1179647, 3276799, 8388607, 16777215]), (17, [0, 1, 0, 7, 15, 31, 63, 0, 128, 511])], []⟩
def spec : Spec := { sig := sig, fn := fun k (x : Int × List Bool × List (Int × Int × Int × (List Int) × Int × Int) × List (Int × Int × Int × (List Int) × Int)) => f k x.1 x.2.1 x.2.2.1 x.2.2.2 }
theorem ok : Holds Go.Proofs.Try.prog spec := holds_of_run (G := [spec_l01In.spec, spec_IsId.spec, spec_TagsOk.spec, spec_CountBusy.spec, spec_GatherOk.spec]) (holds_cons spec_l01In.ok (holds_cons spec_IsId.ok (holds_cons spec_TagsOk.ok (holds_cons spec_CountBusy.ok (holds_cons spec_GatherOk.ok holds_nil))))) (by kernel_rfl) H Go.Proofs.Try.func16 (by kernel_rfl) (rfl : Go.Proofs.Try.f16.body = some _) (by kernel_rfl) (by kernel_rfl) fun k x y h => Eq.trans (by kernel_rfl : _ = spec.fn k x) h
end spec_RequesterOk

namespace impl_within
def f (k : Nat) (a0 : Int) (a1 : Int) (a2 : Int) : Option (Bool) := brB (iLe a1 a0) (some (iLe a0 a2)) (some false)
def sig : Sig := ⟨63, [.w false [I], .w false [I], .w false [I]], [(false, [.val .bool])]⟩
def H : Hints := ⟨[], [], [], []⟩
def spec : Spec := { sig := sig, fn := fun k (x : Int × Int × Int) => f k x.1 x.2.1 x.2.2 }
theorem ok : Holds Go.Proofs.Try.prog spec := holds_of_run (G := []) holds_nil (by kernel_rfl) H Go.Proofs.Try.func63 (by kernel_rfl) (rfl : Go.Proofs.Try.f63.body = some _) (by kernel_rfl) (by kernel_rfl) fun k x y h => Eq.trans (by kernel_rfl : _ = spec.fn k x) h
end impl_within

namespace impl_IsId
def f (k : Nat) (a0 : Int) : Option (Bool) := bnd (impl_within.f k a0 0 255) fun y0 => some y0
def sig : Sig := ⟨58, [.w false [I]], [(false, [.val .bool])]⟩
def H : Hints := ⟨[], [], [], []⟩
def spec : Spec := { sig := sig, fn := fun k (x : Int) => f k x }
theorem ok : Holds Go.Proofs.Try.prog spec := holds_of_run (G := [impl_within.spec]) (holds_cons impl_within.ok holds_nil) (by kernel_rfl) H Go.Proofs.Try.func58 (by kernel_rfl) (rfl : Go.Proofs.Try.f58.body = some _) (by kernel_rfl) (by kernel_rfl) fun k x y h => Eq.trans (by kernel_rfl : _ = spec.fn k x) h
end impl_IsId

namespace impl_TagsOk
def f (k : Nat) (a0 : List Bool) : Option (Bool) := some (iEq (rLen a0) 8)
def sig : Sig := ⟨59, [.w true [.row .bool]], [(false, [.val .bool])]⟩
def H : Hints := ⟨[], [], [], []⟩
def spec : Spec := { sig := sig, fn := fun k (x : List Bool) => f k x }
theorem ok : Holds Go.Proofs.Try.prog spec := holds_of_run (G := []) holds_nil (by kernel_rfl) H Go.Proofs.Try.func59 (by kernel_rfl) (rfl : Go.Proofs.Try.f59.body = some _) (by kernel_rfl) (by kernel_rfl) fun k x y h => Eq.trans (by kernel_rfl : _ = spec.fn k x) h
end impl_TagsOk

namespace impl_isWord
def f (k : Nat) (a0 : Int) : Option (Bool) := bnd (impl_within.f k a0 0 65535) fun y0 => some y0
def sig : Sig := ⟨117, [.w false [I]], [(false, [.val .bool])]⟩
def H : Hints := ⟨[], [], [], []⟩
def spec : Spec := { sig := sig, fn := fun k (x : Int) => f k x }
theorem ok : Holds Go.Proofs.Try.prog spec := holds_of_run (G := [impl_within.spec]) (holds_cons impl_within.ok holds_nil) (by kernel_rfl) H Go.Proofs.Try.func117 (by kernel_rfl) (rfl : Go.Proofs.Try.f117.body = some _) (by kernel_rfl) (by kernel_rfl) fun k x y h => Eq.trans (by kernel_rfl : _ = spec.fn k x) h
end impl_isWord

namespace impl_areWords_1
def f (k : Nat) (a0 : Int) : Option (Bool) := bnd (impl_isWord.f k a0) fun y0 => some (bNot y0)
def sig : Sig := ⟨116, [.w false [I]], [(false, [.val .bool])]⟩
def H : Hints := ⟨[], [], [], []⟩
def spec : Spec := { sig := sig, fn := fun k (x : Int) => f k x }
theorem ok : Holds Go.Proofs.Try.prog spec := holds_of_run (G := [impl_isWord.spec]) (holds_cons impl_isWord.ok holds_nil) (by kernel_rfl) H Go.Proofs.Try.func116 (by kernel_rfl) (rfl : Go.Proofs.Try.f116.body = some _) (by kernel_rfl) (by kernel_rfl) fun k x y h => Eq.trans (by kernel_rfl : _ = spec.fn k x) h
end impl_areWords_1

namespace slices_IndexFunc_int_impl_areWords_1
def s0 (k : Nat) (rec0 : (List Int × Int × Int) → Option (Int)) (x0 : List Int) (x1 : Int) (x2 : Int) : Option (Int) := brB (iLt x2 x1) (chk (cIdx x2 (rLen x0)) (bnd (impl_areWords_1.f k (rGet 0 x0 x2)) fun y0 => brB y0 (some x2) (rec0 (x0, x1, iAdd .i64 x2 1)))) (some (-1))
def l0 (k n : Nat) (x0 : List Int) (x1 : Int) (x2 : Int) : Option (Int) := iter (fun (rec : (List Int × Int × Int) → Option (Int)) (x : List Int × Int × Int) => s0 k rec x.1 x.2.1 x.2.2) n (x0, x1, x2)
def f (k : Nat) (a0 : List Int) : Option (Int) := l0 k k a0 (rLen a0) 0
def sig : Sig := ⟨128, [.w false [.row I], .fn 116 []], [(false, [.val I])]⟩
def H : Hints := ⟨[(2, ⟨⟨[(0, .w false 1), (1, .fn 116 []), (7, .w false 1), (8, .w false 1)], []⟩, [], [.val (.row I), .val I, .val I], []⟩)], [], [], []⟩
def spec : Spec := { sig := sig, fn := fun k (x : List Int) => f k x }
theorem ok : Holds Go.Proofs.Try.prog spec := holds_of_run (G := [impl_areWords_1.spec]) (holds_cons impl_areWords_1.ok holds_nil) (by kernel_rfl) H Go.Proofs.Try.func128 (by kernel_rfl) (rfl : Go.Proofs.Try.f128.body = some _) (by kernel_rfl) (by kernel_rfl) fun k x y h => Eq.trans (by kernel_rfl : _ = spec.fn k x) h
end slices_IndexFunc_int_impl_areWords_1

namespace slices_ContainsFunc_int_impl_areWords_1
def f (k : Nat) (a0 : List Int) : Option (Bool) := bnd (slices_IndexFunc_int_impl_areWords_1.f k a0) fun y0 => some (iLe 0 y0)
def sig : Sig := ⟨115, [.w false [.row I], .fn 116 []], [(false, [.val .bool])]⟩
def H : Hints := ⟨[], [], [], []⟩
def spec : Spec := { sig := sig, fn := fun k (x : List Int) => f k x }
theorem ok : Holds Go.Proofs.Try.prog spec := holds_of_run (G := [slices_IndexFunc_int_impl_areWords_1.spec]) (holds_cons slices_IndexFunc_int_impl_areWords_1.ok holds_nil) (by kernel_rfl) H Go.Proofs.Try.func115 (by kernel_rfl) (rfl : Go.Proofs.Try.f115.body = some _) (by kernel_rfl) (by kernel_rfl) fun k x y h => Eq.trans (by kernel_rfl : _ = spec.fn k x) h
end slices_ContainsFunc_int_impl_areWords_1

namespace impl_areWords
def f (k : Nat) (a0 : List Int) : Option (Bool) := bnd (slices_ContainsFunc_int_impl_areWords_1.f k a0) fun y0 => some (bNot y0)
def sig : Sig := ⟨73, [.w false [.row I]], [(false, [.val .bool])]⟩
def H : Hints := ⟨[], [], [], []⟩
def spec : Spec := { sig := sig, fn := fun k (x : List Int) => f k x }
theorem ok : Holds Go.Proofs.Try.prog spec := holds_of_run (G := [slices_ContainsFunc_int_impl_areWords_1.spec]) (holds_cons slices_ContainsFunc_int_impl_areWords_1.ok holds_nil) (by kernel_rfl) H Go.Proofs.Try.func73 (by kernel_rfl) (rfl : Go.Proofs.Try.f73.body = some _) (by kernel_rfl) (by kernel_rfl) fun k x y h => Eq.trans (by kernel_rfl : _ = spec.fn k x) h
end impl_areWords

namespace impl_GatherOk
def f (k : Nat) (a0_0 : Int) (a0_1 : Int) (a0_2 : Int) (a0_3 : List Int) (a0_4 : Int) : Option (Bool) := bnd (impl_IsId.f k a0_0) fun y0 => brB y0 (bnd (impl_within.f k a0_1 0 7) fun y1 => brB y1 (bnd (impl_within.f k a0_2 0 64) fun y2 => brB y2 (brB (iLe (rLen a0_3) a0_2) (bnd (impl_areWords.f k a0_3) fun y3 => brB y3 (bnd (impl_within.f k a0_4 0 2) fun y4 => brB y4 (brB (iNe a0_4 1) (some true) (some (iEq (rLen a0_3) a0_2))) (some false)) (some false)) (some false)) (some false)) (some false)) (some false)
def sig : Sig := ⟨62, [.w true [I, I, I, .row I, I]], [(false, [.val .bool])]⟩
def H : Hints := ⟨[], [], [], []⟩
def spec : Spec := { sig := sig, fn := fun k (x : Int × Int × Int × List Int × Int) => f k x.1 x.2.1 x.2.2.1 x.2.2.2.1 x.2.2.2.2 }
theorem ok : Holds Go.Proofs.Try.prog spec := holds_of_run (G := [impl_within.spec, impl_IsId.spec, impl_areWords.spec]) (holds_cons impl_within.ok (holds_cons impl_IsId.ok (holds_cons impl_areWords.ok holds_nil))) (by kernel_rfl) H Go.Proofs.Try.func62 (by kernel_rfl) (rfl : Go.Proofs.Try.f62.body = some _) (by kernel_rfl) (by kernel_rfl) fun k x y h => Eq.trans (by kernel_rfl : _ = spec.fn k x) h
end impl_GatherOk

namespace impl_RequesterOk_1
def f (k : Nat) (a0_0 : Int) (a0_1 : Int) (a0_2 : Int) (a0_3 : List Int) (a0_4 : Int) : Option (Bool) := bnd (impl_GatherOk.f k a0_0 a0_1 a0_2 a0_3 a0_4) fun y0 => some (bNot y0)
def sig : Sig := ⟨61, [.w true [I, I, I, .row I, I]], [(false, [.val .bool])]⟩
def H : Hints := ⟨[], [], [], []⟩
def spec : Spec := { sig := sig, fn := fun k (x : Int × Int × Int × List Int × Int) => f k x.1 x.2.1 x.2.2.1 x.2.2.2.1 x.2.2.2.2 }
theorem ok : Holds Go.Proofs.Try.prog spec := holds_of_run (G := [impl_GatherOk.spec]) (holds_cons impl_GatherOk.ok holds_nil) (by kernel_rfl) H Go.Proofs.Try.func61 (by kernel_rfl) (rfl : Go.Proofs.Try.f61.body = some _) (by kernel_rfl) (by kernel_rfl) fun k x y h => Eq.trans (by kernel_rfl : _ = spec.fn k x) h
end impl_RequesterOk_1

namespace slices_IndexFunc_Gather_impl_RequesterOk_1
def s0 (k : Nat) (rec0 : ((List (Int × Int × Int × (List Int) × Int)) × Int × Int) → Option (Int)) (x0 : List (Int × Int × Int × (List Int) × Int)) (x1 : Int) (x2 : Int) : Option (Int) := brB (iLt x2 x1) (chk (cIdx x2 (rLen x0)) (bnd (impl_RequesterOk_1.f k ((rGet (0, 0, 0, [], 0) x0 x2).1) (((rGet (0, 0, 0, [], 0) x0 x2).2).1) ((((rGet (0, 0, 0, [], 0) x0 x2).2).2).1) (((((rGet (0, 0, 0, [], 0) x0 x2).2).2).2).1) (((((rGet (0, 0, 0, [], 0) x0 x2).2).2).2).2)) fun y0 => brB y0 (some x2) (rec0 (x0, x1, iAdd .i64 x2 1)))) (some (-1))
def l0 (k n : Nat) (x0 : List (Int × Int × Int × (List Int) × Int)) (x1 : Int) (x2 : Int) : Option (Int) := iter (fun (rec : ((List (Int × Int × Int × (List Int) × Int)) × Int × Int) → Option (Int)) (x : (List (Int × Int × Int × (List Int) × Int)) × Int × Int) => s0 k rec x.1 x.2.1 x.2.2) n (x0, x1, x2)
def f (k : Nat) (a0 : List (Int × Int × Int × (List Int) × Int)) : Option (Int) := l0 k k a0 (rLen a0) 0
def sig : Sig := ⟨104, [.w false [.row (.pair I (.pair I (.pair I (.pair (.row I) I))))], .fn 61 []], [(false, [.val I])]⟩
def H : Hints := ⟨[(2, ⟨⟨[(0, .w false 1), (1, .fn 61 []), (7, .w false 1), (8, .w false 1)], []⟩, [], [.val (.row (.pair I (.pair I (.pair I (.pair (.row I) I))))), .val I, .val I], []⟩)], [], [], []⟩
def spec : Spec := { sig := sig, fn := fun k (x : List (Int × Int × Int × (List Int) × Int)) => f k x }
theorem ok : Holds Go.Proofs.Try.prog spec := holds_of_run (G := [impl_RequesterOk_1.spec]) (holds_cons impl_RequesterOk_1.ok holds_nil) (by kernel_rfl) H Go.Proofs.Try.func104 (by kernel_rfl) (rfl : Go.Proofs.Try.f104.body = some _) (by kernel_rfl) (by kernel_rfl) fun k x y h => Eq.trans (by kernel_rfl : _ = spec.fn k x) h
end slices_IndexFunc_Gather_impl_RequesterOk_1

namespace slices_ContainsFunc_Gather_impl_RequesterOk_1
def f (k : Nat) (a0 : List (Int × Int × Int × (List Int) × Int)) : Option (Bool) := bnd (slices_IndexFunc_Gather_impl_RequesterOk_1.f k a0) fun y0 => some (iLe 0 y0)
def sig : Sig := ⟨60, [.w false [.row (.pair I (.pair I (.pair I (.pair (.row I) I))))], .fn 61 []], [(false, [.val .bool])]⟩
def H : Hints := ⟨[], [], [], []⟩
def spec : Spec := { sig := sig, fn := fun k (x : List (Int × Int × Int × (List Int) × Int)) => f k x }
theorem ok : Holds Go.Proofs.Try.prog spec := holds_of_run (G := [slices_IndexFunc_Gather_impl_RequesterOk_1.spec]) (holds_cons slices_IndexFunc_Gather_impl_RequesterOk_1.ok holds_nil) (by kernel_rfl) H Go.Proofs.Try.func60 (by kernel_rfl) (rfl : Go.Proofs.Try.f60.body = some _) (by kernel_rfl) (by kernel_rfl) fun k x y h => Eq.trans (by kernel_rfl : _ = spec.fn k x) h
end slices_ContainsFunc_Gather_impl_RequesterOk_1

namespace impl_NewTags
def f (k : Nat) : Option (List Bool) := chk (cMake 8 8 1) (some (rRep false 8))
def sig : Sig := ⟨37, [], [(true, [.own .bool])]⟩
def H : Hints := ⟨[], [], [], []⟩
def spec : Spec := { sig := sig, fn := fun k (x : Unit) => f k }
theorem ok : Holds Go.Proofs.Try.prog spec := holds_of_run (G := []) holds_nil (by kernel_rfl) H Go.Proofs.Try.func37 (by kernel_rfl) (rfl : Go.Proofs.Try.f37.body = some _) (by kernel_rfl) (by kernel_rfl) fun k x y h => Eq.trans (by kernel_rfl : _ = spec.fn k x) h
end impl_NewTags

namespace slices_Equal_bool
def s0 (k : Nat) (rec0 : (List Bool × List Bool × Int × Int) → Option (Bool)) (x0 : List Bool) (x1 : List Bool) (x2 : Int) (x3 : Int) : Option (Bool) := brB (iLt x3 x2) (chk (cIdx x3 (rLen x0)) (chk (cIdx x3 (rLen x1)) (brB (bNe (rGet false x0 x3) (rGet false x1 x3)) (some false) (rec0 (x0, x1, x2, iAdd .i64 x3 1))))) (some true)
def l0 (k n : Nat) (x0 : List Bool) (x1 : List Bool) (x2 : Int) (x3 : Int) : Option (Bool) := iter (fun (rec : (List Bool × List Bool × Int × Int) → Option (Bool)) (x : List Bool × List Bool × Int × Int) => s0 k rec x.1 x.2.1 x.2.2.1 x.2.2.2) n (x0, x1, x2, x3)
def f (k : Nat) (a0 : List Bool) (a1 : List Bool) : Option (Bool) := brB (iNe (rLen a0) (rLen a1)) (some false) (l0 k k a0 a1 (rLen a0) 0)
def sig : Sig := ⟨64, [.w false [.row .bool], .w false [.row .bool]], [(false, [.val .bool])]⟩
def H : Hints := ⟨[(4, ⟨⟨[(0, .w false 1), (1, .w false 1), (12, .w false 1), (13, .w false 1)], []⟩, [], [.val (.row .bool), .val (.row .bool), .val I, .val I], []⟩)], [], [(6, [0, 0, 3, 7, 0, 0, 48, 112, 255])], []⟩
def spec : Spec := { sig := sig, fn := fun k (x : List Bool × List Bool) => f k x.1 x.2 }
theorem ok : Holds Go.Proofs.Try.prog spec := holds_of_run (G := []) holds_nil (by kernel_rfl) H Go.Proofs.Try.func64 (by kernel_rfl) (rfl : Go.Proofs.Try.f64.body = some _) (by kernel_rfl) (by kernel_rfl) fun k x y h => Eq.trans (by kernel_rfl : _ = spec.fn k x) h
end slices_Equal_bool

namespace impl_RequesterOk
def s0 (k : Nat) (rec0 : ((List (Int × Int × Int × (List Int) × Int × Int)) × Int × Int × Int × List Bool × (List (Int × Int × Int × (List Int) × Int × Int)) × (List (Int × Int × Int × (List Int) × Int)) × List Bool) → Option (Bool)) (x0 : List (Int × Int × Int × (List Int) × Int × Int)) (x1 : Int) (x2 : Int) (x3 : Int) (x4 : List Bool) (x5 : List (Int × Int × Int × (List Int) × Int × Int)) (x6 : List (Int × Int × Int × (List Int) × Int)) (x7 : List Bool) : Option (Bool) := brB (iLt x2 x1) (chk (cIdx x2 (rLen x0)) (bnd (impl_GatherOk.f k ((rGet (0, 0, 0, [], 0, 0) x0 x2).1) (((rGet (0, 0, 0, [], 0, 0) x0 x2).2).1) ((((rGet (0, 0, 0, [], 0, 0) x0 x2).2).2).1) (((((rGet (0, 0, 0, [], 0, 0) x0 x2).2).2).2).1) ((((((rGet (0, 0, 0, [], 0, 0) x0 x2).2).2).2).2).1)) fun y4 => brB (bNot y4) (some false) (brB (iNe ((rGet (0, 0, 0, [], 0, 0) x0 x2).1) x3) (some false) (brB (iNe ((((((rGet (0, 0, 0, [], 0, 0) x0 x2).2).2).2).2).1) 0) (some false) (bnd (impl_within.f k ((((((rGet (0, 0, 0, [], 0, 0) x0 x2).2).2).2).2).2) 0 50) fun y5 => brB (bNot y5) (some false) (chk (cIdx (((rGet (0, 0, 0, [], 0, 0) x0 x2).2).1) (rLen x7)) (brB (rGet false x7 (((rGet (0, 0, 0, [], 0, 0) x0 x2).2).1)) (some false) (chk (cIdx (((rGet (0, 0, 0, [], 0, 0) x0 x2).2).1) (rLen x7)) (rec0 (x0, x1, iAdd .i64 x2 1, x3, x4, x5, x6, rSet x7 (((rGet (0, 0, 0, [], 0, 0) x0 x2).2).1) true)))))))))) (bnd (slices_Equal_bool.f k x7 x4) fun y6 => some y6)
def l0 (k n : Nat) (x0 : List (Int × Int × Int × (List Int) × Int × Int)) (x1 : Int) (x2 : Int) (x3 : Int) (x4 : List Bool) (x5 : List (Int × Int × Int × (List Int) × Int × Int)) (x6 : List (Int × Int × Int × (List Int) × Int)) (x7 : List Bool) : Option (Bool) := iter (fun (rec : ((List (Int × Int × Int × (List Int) × Int × Int)) × Int × Int × Int × List Bool × (List (Int × Int × Int × (List Int) × Int × Int)) × (List (Int × Int × Int × (List Int) × Int)) × List Bool) → Option (Bool)) (x : (List (Int × Int × Int × (List Int) × Int × Int)) × Int × Int × Int × List Bool × (List (Int × Int × Int × (List Int) × Int × Int)) × (List (Int × Int × Int × (List Int) × Int)) × List Bool) => s0 k rec x.1 x.2.1 x.2.2.1 x.2.2.2.1 x.2.2.2.2.1 x.2.2.2.2.2.1 x.2.2.2.2.2.2.1 x.2.2.2.2.2.2.2) n (x0, x1, x2, x3, x4, x5, x6, x7)
def f (k : Nat) (a0_0 : Int) (a0_1 : List Bool) (a0_2 : List (Int × Int × Int × (List Int) × Int × Int)) (a0_3 : List (Int × Int × Int × (List Int) × Int)) : Option (Bool) := bnd (impl_IsId.f k a0_0) fun y0 => brB (bNot y0) (some false) (bnd (impl_TagsOk.f k a0_1) fun y1 => brB (bNot y1) (some false) (brB (iLt 1000 (rLen a0_3)) (some false) (bnd (slices_ContainsFunc_Gather_impl_RequesterOk_1.f k a0_3) fun y2 => brB y2 (some false) (bnd (impl_NewTags.f k) fun y3 => l0 k k a0_2 (rLen a0_2) 0 a0_0 a0_1 a0_2 a0_3 y3))))
def sig : Sig := ⟨18, [.w true [I, .row .bool, .row (.pair I (.pair I (.pair I (.pair (.row I) (.pair I I))))), .row (.pair I (.pair I (.pair I (.pair (.row I) I))))]], [(false, [.val .bool])]⟩
def H : Hints := ⟨[(5, ⟨⟨[(1, .ptr 101 0), (3, .ptr 103 0), (30, .w false 1), (31, .w false 1), (32, .w false 1)], [(101, 4), (103, 1)]⟩, [1, 3], [.val (.row (.pair I (.pair I (.pair I (.pair (.row I) (.pair I I)))))), .val I, .val I, .val I, .val (.row .bool), .val (.row (.pair I (.pair I (.pair I (.pair (.row I) (.pair I I)))))), .val (.row (.pair I (.pair I (.pair I (.pair (.row I) I))))), .own .bool], []⟩)], [], [], []⟩
def spec : Spec := { sig := sig, fn := fun k (x : Int × List Bool × List (Int × Int × Int × (List Int) × Int × Int) × List (Int × Int × Int × (List Int) × Int)) => f k x.1 x.2.1 x.2.2.1 x.2.2.2 }
theorem ok : Holds Go.Proofs.Try.prog spec := holds_of_run (G := [impl_within.spec, impl_IsId.spec, impl_TagsOk.spec, impl_GatherOk.spec, slices_ContainsFunc_Gather_impl_RequesterOk_1.spec, impl_NewTags.spec, slices_Equal_bool.spec]) (holds_cons impl_within.ok (holds_cons impl_IsId.ok (holds_cons impl_TagsOk.ok (holds_cons impl_GatherOk.ok (holds_cons slices_ContainsFunc_Gather_impl_RequesterOk_1.ok (holds_cons impl_NewTags.ok (holds_cons slices_Equal_bool.ok holds_nil))))))) (by kernel_rfl) H Go.Proofs.Try.func18 (by kernel_rfl) (rfl : Go.Proofs.Try.f18.body = some _) (by kernel_rfl) (by kernel_rfl) fun k x y h => Eq.trans (by kernel_rfl : _ = spec.fn k x) h
end impl_RequesterOk

namespace laws_eqBoolS
def s0 (k : Nat) (rec0 : (List Bool × List Bool × Int) → Option (Bool)) (x0 : List Bool) (x1 : List Bool) (x2 : Int) : Option (Bool) := brB (iLt x2 (rLen x0)) (chk (cIdx x2 (rLen x0)) (chk (cIdx x2 (rLen x1)) (brB (bNe (rGet false x0 x2) (rGet false x1 x2)) (some false) (rec0 (x0, x1, iAdd .i64 x2 1))))) (some true)
def l0 (k n : Nat) (x0 : List Bool) (x1 : List Bool) (x2 : Int) : Option (Bool) := iter (fun (rec : (List Bool × List Bool × Int) → Option (Bool)) (x : List Bool × List Bool × Int) => s0 k rec x.1 x.2.1 x.2.2) n (x0, x1, x2)
def f (k : Nat) (a0 : List Bool) (a1 : List Bool) : Option (Bool) := brB (iNe (rLen a0) (rLen a1)) (some false) (l0 k k a0 a1 0)
def sig : Sig := ⟨92, [.w false [.row .bool], .w false [.row .bool]], [(false, [.val .bool])]⟩
def H : Hints := ⟨[(4, ⟨⟨[(0, .w false 1), (1, .w false 1), (5, .w false 1)], []⟩, [], [.val (.row .bool), .val (.row .bool), .val I], []⟩)], [], [(6, [0, 0, 3, 7, 0, 0, 48, 112, 255])], []⟩
def spec : Spec := { sig := sig, fn := fun k (x : List Bool × List Bool) => f k x.1 x.2 }
theorem ok : Holds Go.Proofs.Try.prog spec := holds_of_run (G := []) holds_nil (by kernel_rfl) H Go.Proofs.Try.func92 (by kernel_rfl) (rfl : Go.Proofs.Try.f92.body = some _) (by kernel_rfl) (by kernel_rfl) fun k x y h => Eq.trans (by kernel_rfl : _ = spec.fn k x) h
end laws_eqBoolS

namespace laws_eqTags
def f (k : Nat) (a0 : List Bool) (a1 : List Bool) : Option (Bool) := bnd (laws_eqBoolS.f k a0 a1) fun y0 => brB (bNot y0) (some false) (some true)
def sig : Sig := ⟨38, [.w true [.row .bool], .w true [.row .bool]], [(false, [.val .bool])]⟩
def H : Hints := ⟨[], [], [], []⟩
def spec : Spec := { sig := sig, fn := fun k (x : List Bool × List Bool) => f k x.1 x.2 }
theorem ok : Holds Go.Proofs.Try.prog spec := holds_of_run (G := [laws_eqBoolS.spec]) (holds_cons laws_eqBoolS.ok holds_nil) (by kernel_rfl) H Go.Proofs.Try.func38 (by kernel_rfl) (rfl : Go.Proofs.Try.f38.body = some _) (by kernel_rfl) (by kernel_rfl) fun k x y h => Eq.trans (by kernel_rfl : _ = spec.fn k x) h
end laws_eqTags

namespace laws_eqIntS
def s0 (k : Nat) (rec0 : (List Int × List Int × Int) → Option (Bool)) (x0 : List Int) (x1 : List Int) (x2 : Int) : Option (Bool) := brB (iLt x2 (rLen x0)) (chk (cIdx x2 (rLen x0)) (chk (cIdx x2 (rLen x1)) (brB (iNe (rGet 0 x0 x2) (rGet 0 x1 x2)) (some false) (rec0 (x0, x1, iAdd .i64 x2 1))))) (some true)
def l0 (k n : Nat) (x0 : List Int) (x1 : List Int) (x2 : Int) : Option (Bool) := iter (fun (rec : (List Int × List Int × Int) → Option (Bool)) (x : List Int × List Int × Int) => s0 k rec x.1 x.2.1 x.2.2) n (x0, x1, x2)
def f (k : Nat) (a0 : List Int) (a1 : List Int) : Option (Bool) := brB (iNe (rLen a0) (rLen a1)) (some false) (l0 k k a0 a1 0)
def sig : Sig := ⟨86, [.w false [.row I], .w false [.row I]], [(false, [.val .bool])]⟩
def H : Hints := ⟨[(4, ⟨⟨[(0, .w false 1), (1, .w false 1), (5, .w false 1)], []⟩, [], [.val (.row I), .val (.row I), .val I], []⟩)], [], [(6, [0, 0, 3, 7, 0, 0, 48, 112, 255])], []⟩
def spec : Spec := { sig := sig, fn := fun k (x : List Int × List Int) => f k x.1 x.2 }
theorem ok : Holds Go.Proofs.Try.prog spec := holds_of_run (G := []) holds_nil (by kernel_rfl) H Go.Proofs.Try.func86 (by kernel_rfl) (rfl : Go.Proofs.Try.f86.body = some _) (by kernel_rfl) (by kernel_rfl) fun k x y h => Eq.trans (by kernel_rfl : _ = spec.fn k x) h
end laws_eqIntS

namespace laws_eqGather
def f (k : Nat) (a0_0 : Int) (a0_1 : Int) (a0_2 : Int) (a0_3 : List Int) (a0_4 : Int) (a1_0 : Int) (a1_1 : Int) (a1_2 : Int) (a1_3 : List Int) (a1_4 : Int) : Option (Bool) := brB (iNe a0_0 a1_0) (some false) (brB (iNe a0_1 a1_1) (some false) (brB (iNe a0_2 a1_2) (some false) (bnd (laws_eqIntS.f k a0_3 a1_3) fun y0 => brB (bNot y0) (some false) (brB (iNe a0_4 a1_4) (some false) (some true)))))
def sig : Sig := ⟨94, [.w true [I, I, I, .row I, I], .w true [I, I, I, .row I, I]], [(false, [.val .bool])]⟩
def H : Hints := ⟨[], [], [], []⟩
def spec : Spec := { sig := sig, fn := fun k (x : Int × Int × Int × List Int × Int × Int × Int × Int × List Int × Int) => f k x.1 x.2.1 x.2.2.1 x.2.2.2.1 x.2.2.2.2.1 x.2.2.2.2.2.1 x.2.2.2.2.2.2.1 x.2.2.2.2.2.2.2.1 x.2.2.2.2.2.2.2.2.1 x.2.2.2.2.2.2.2.2.2 }
theorem ok : Holds Go.Proofs.Try.prog spec := holds_of_run (G := [laws_eqIntS.spec]) (holds_cons laws_eqIntS.ok holds_nil) (by kernel_rfl) H Go.Proofs.Try.func94 (by kernel_rfl) (rfl : Go.Proofs.Try.f94.body = some _) (by kernel_rfl) (by kernel_rfl) fun k x y h => Eq.trans (by kernel_rfl : _ = spec.fn k x) h
end laws_eqGather

namespace laws_eqWaiting
def f (k : Nat) (a0_0 : Int) (a0_1 : Int) (a0_2 : Int) (a0_3 : List Int) (a0_4 : Int) (a0_5 : Int) (a1_0 : Int) (a1_1 : Int) (a1_2 : Int) (a1_3 : List Int) (a1_4 : Int) (a1_5 : Int) : Option (Bool) := bnd (laws_eqGather.f k a0_0 a0_1 a0_2 a0_3 a0_4 a1_0 a1_1 a1_2 a1_3 a1_4) fun y0 => brB (bNot y0) (some false) (brB (iNe a0_5 a1_5) (some false) (some true))
def sig : Sig := ⟨93, [.w true [I, I, I, .row I, I, I], .w true [I, I, I, .row I, I, I]], [(false, [.val .bool])]⟩
def H : Hints := ⟨[], [], [], []⟩
def spec : Spec := { sig := sig, fn := fun k (x : Int × Int × Int × List Int × Int × Int × Int × Int × Int × List Int × Int × Int) => f k x.1 x.2.1 x.2.2.1 x.2.2.2.1 x.2.2.2.2.1 x.2.2.2.2.2.1 x.2.2.2.2.2.2.1 x.2.2.2.2.2.2.2.1 x.2.2.2.2.2.2.2.2.1 x.2.2.2.2.2.2.2.2.2.1 x.2.2.2.2.2.2.2.2.2.2.1 x.2.2.2.2.2.2.2.2.2.2.2 }
theorem ok : Holds Go.Proofs.Try.prog spec := holds_of_run (G := [laws_eqGather.spec]) (holds_cons laws_eqGather.ok holds_nil) (by kernel_rfl) H Go.Proofs.Try.func93 (by kernel_rfl) (rfl : Go.Proofs.Try.f93.body = some _) (by kernel_rfl) (by kernel_rfl) fun k x y h => Eq.trans (by kernel_rfl : _ = spec.fn k x) h
end laws_eqWaiting

namespace laws_eqWaitingS
def s0 (k : Nat) (rec0 : ((List (Int × Int × Int × (List Int) × Int × Int)) × (List (Int × Int × Int × (List Int) × Int × Int)) × Int) → Option (Bool)) (x0 : List (Int × Int × Int × (List Int) × Int × Int)) (x1 : List (Int × Int × Int × (List Int) × Int × Int)) (x2 : Int) : Option (Bool) := brB (iLt x2 (rLen x0)) (chk (cIdx x2 (rLen x0)) (chk (cIdx x2 (rLen x1)) (bnd (laws_eqWaiting.f k ((rGet (0, 0, 0, [], 0, 0) x0 x2).1) (((rGet (0, 0, 0, [], 0, 0) x0 x2).2).1) ((((rGet (0, 0, 0, [], 0, 0) x0 x2).2).2).1) (((((rGet (0, 0, 0, [], 0, 0) x0 x2).2).2).2).1) ((((((rGet (0, 0, 0, [], 0, 0) x0 x2).2).2).2).2).1) ((((((rGet (0, 0, 0, [], 0, 0) x0 x2).2).2).2).2).2) ((rGet (0, 0, 0, [], 0, 0) x1 x2).1) (((rGet (0, 0, 0, [], 0, 0) x1 x2).2).1) ((((rGet (0, 0, 0, [], 0, 0) x1 x2).2).2).1) (((((rGet (0, 0, 0, [], 0, 0) x1 x2).2).2).2).1) ((((((rGet (0, 0, 0, [], 0, 0) x1 x2).2).2).2).2).1) ((((((rGet (0, 0, 0, [], 0, 0) x1 x2).2).2).2).2).2)) fun y0 => brB (bNot y0) (some false) (rec0 (x0, x1, iAdd .i64 x2 1))))) (some true)
def l0 (k n : Nat) (x0 : List (Int × Int × Int × (List Int) × Int × Int)) (x1 : List (Int × Int × Int × (List Int) × Int × Int)) (x2 : Int) : Option (Bool) := iter (fun (rec : ((List (Int × Int × Int × (List Int) × Int × Int)) × (List (Int × Int × Int × (List Int) × Int × Int)) × Int) → Option (Bool)) (x : (List (Int × Int × Int × (List Int) × Int × Int)) × (List (Int × Int × Int × (List Int) × Int × Int)) × Int) => s0 k rec x.1 x.2.1 x.2.2) n (x0, x1, x2)
def f (k : Nat) (a0 : List (Int × Int × Int × (List Int) × Int × Int)) (a1 : List (Int × Int × Int × (List Int) × Int × Int)) : Option (Bool) := brB (iNe (rLen a0) (rLen a1)) (some false) (l0 k k a0 a1 0)
def sig : Sig := ⟨39, [.w false [.row (.pair I (.pair I (.pair I (.pair (.row I) (.pair I I)))))], .w false [.row (.pair I (.pair I (.pair I (.pair (.row I) (.pair I I)))))]], [(false, [.val .bool])]⟩
def H : Hints := ⟨[(4, ⟨⟨[(0, .w false 1), (1, .w false 1), (5, .w false 1)], []⟩, [], [.val (.row (.pair I (.pair I (.pair I (.pair (.row I) (.pair I I)))))), .val (.row (.pair I (.pair I (.pair I (.pair (.row I) (.pair I I)))))), .val I], []⟩)], [], [(6, [0, 0, 3, 7, 0, 0, 48, 112, 255, 511])], []⟩
def spec : Spec := { sig := sig, fn := fun k (x : List (Int × Int × Int × (List Int) × Int × Int) × List (Int × Int × Int × (List Int) × Int × Int)) => f k x.1 x.2 }
theorem ok : Holds Go.Proofs.Try.prog spec := holds_of_run (G := [laws_eqWaiting.spec]) (holds_cons laws_eqWaiting.ok holds_nil) (by kernel_rfl) H Go.Proofs.Try.func39 (by kernel_rfl) (rfl : Go.Proofs.Try.f39.body = some _) (by kernel_rfl) (by kernel_rfl) fun k x y h => Eq.trans (by kernel_rfl : _ = spec.fn k x) h
end laws_eqWaitingS

namespace laws_eqGatherS
def s0 (k : Nat) (rec0 : ((List (Int × Int × Int × (List Int) × Int)) × (List (Int × Int × Int × (List Int) × Int)) × Int) → Option (Bool)) (x0 : List (Int × Int × Int × (List Int) × Int)) (x1 : List (Int × Int × Int × (List Int) × Int)) (x2 : Int) : Option (Bool) := brB (iLt x2 (rLen x0)) (chk (cIdx x2 (rLen x0)) (chk (cIdx x2 (rLen x1)) (bnd (laws_eqGather.f k ((rGet (0, 0, 0, [], 0) x0 x2).1) (((rGet (0, 0, 0, [], 0) x0 x2).2).1) ((((rGet (0, 0, 0, [], 0) x0 x2).2).2).1) (((((rGet (0, 0, 0, [], 0) x0 x2).2).2).2).1) (((((rGet (0, 0, 0, [], 0) x0 x2).2).2).2).2) ((rGet (0, 0, 0, [], 0) x1 x2).1) (((rGet (0, 0, 0, [], 0) x1 x2).2).1) ((((rGet (0, 0, 0, [], 0) x1 x2).2).2).1) (((((rGet (0, 0, 0, [], 0) x1 x2).2).2).2).1) (((((rGet (0, 0, 0, [], 0) x1 x2).2).2).2).2)) fun y0 => brB (bNot y0) (some false) (rec0 (x0, x1, iAdd .i64 x2 1))))) (some true)
def l0 (k n : Nat) (x0 : List (Int × Int × Int × (List Int) × Int)) (x1 : List (Int × Int × Int × (List Int) × Int)) (x2 : Int) : Option (Bool) := iter (fun (rec : ((List (Int × Int × Int × (List Int) × Int)) × (List (Int × Int × Int × (List Int) × Int)) × Int) → Option (Bool)) (x : (List (Int × Int × Int × (List Int) × Int)) × (List (Int × Int × Int × (List Int) × Int)) × Int) => s0 k rec x.1 x.2.1 x.2.2) n (x0, x1, x2)
def f (k : Nat) (a0 : List (Int × Int × Int × (List Int) × Int)) (a1 : List (Int × Int × Int × (List Int) × Int)) : Option (Bool) := brB (iNe (rLen a0) (rLen a1)) (some false) (l0 k k a0 a1 0)
def sig : Sig := ⟨40, [.w false [.row (.pair I (.pair I (.pair I (.pair (.row I) I))))], .w false [.row (.pair I (.pair I (.pair I (.pair (.row I) I))))]], [(false, [.val .bool])]⟩
def H : Hints := ⟨[(4, ⟨⟨[(0, .w false 1), (1, .w false 1), (5, .w false 1)], []⟩, [], [.val (.row (.pair I (.pair I (.pair I (.pair (.row I) I))))), .val (.row (.pair I (.pair I (.pair I (.pair (.row I) I))))), .val I], []⟩)], [], [(6, [0, 0, 3, 7, 0, 0, 48, 112, 255, 511])], []⟩
def spec : Spec := { sig := sig, fn := fun k (x : List (Int × Int × Int × (List Int) × Int) × List (Int × Int × Int × (List Int) × Int)) => f k x.1 x.2 }
theorem ok : Holds Go.Proofs.Try.prog spec := holds_of_run (G := [laws_eqGather.spec]) (holds_cons laws_eqGather.ok holds_nil) (by kernel_rfl) H Go.Proofs.Try.func40 (by kernel_rfl) (rfl : Go.Proofs.Try.f40.body = some _) (by kernel_rfl) (by kernel_rfl) fun k x y h => Eq.trans (by kernel_rfl : _ = spec.fn k x) h
end laws_eqGatherS

namespace laws_eqRequester
def f (k : Nat) (a0_0 : Int) (a0_1 : List Bool) (a0_2 : List (Int × Int × Int × (List Int) × Int × Int)) (a0_3 : List (Int × Int × Int × (List Int) × Int)) (a1_0 : Int) (a1_1 : List Bool) (a1_2 : List (Int × Int × Int × (List Int) × Int × Int)) (a1_3 : List (Int × Int × Int × (List Int) × Int)) : Option (Bool) := brB (iNe a0_0 a1_0) (some false) (bnd (laws_eqTags.f k a0_1 a1_1) fun y0 => brB (bNot y0) (some false) (bnd (laws_eqWaitingS.f k a0_2 a1_2) fun y1 => brB (bNot y1) (some false) (bnd (laws_eqGatherS.f k a0_3 a1_3) fun y2 => brB (bNot y2) (some false) (some true))))
def sig : Sig := ⟨12, [.w true [I, .row .bool, .row (.pair I (.pair I (.pair I (.pair (.row I) (.pair I I))))), .row (.pair I (.pair I (.pair I (.pair (.row I) I))))], .w true [I, .row .bool, .row (.pair I (.pair I (.pair I (.pair (.row I) (.pair I I))))), .row (.pair I (.pair I (.pair I (.pair (.row I) I))))]], [(false, [.val .bool])]⟩
def H : Hints := ⟨[], [], [], []⟩
def spec : Spec := { sig := sig, fn := fun k (x : Int × List Bool × List (Int × Int × Int × (List Int) × Int × Int) × List (Int × Int × Int × (List Int) × Int) × Int × List Bool × List (Int × Int × Int × (List Int) × Int × Int) × List (Int × Int × Int × (List Int) × Int)) => f k x.1 x.2.1 x.2.2.1 x.2.2.2.1 x.2.2.2.2.1 x.2.2.2.2.2.1 x.2.2.2.2.2.2.1 x.2.2.2.2.2.2.2 }
theorem ok : Holds Go.Proofs.Try.prog spec := holds_of_run (G := [laws_eqTags.spec, laws_eqWaitingS.spec, laws_eqGatherS.spec]) (holds_cons laws_eqTags.ok (holds_cons laws_eqWaitingS.ok (holds_cons laws_eqGatherS.ok holds_nil))) (by kernel_rfl) H Go.Proofs.Try.func12 (by kernel_rfl) (rfl : Go.Proofs.Try.f12.body = some _) (by kernel_rfl) (by kernel_rfl) fun k x y h => Eq.trans (by kernel_rfl : _ = spec.fn k x) h
end laws_eqRequester

namespace laws_FnExactRequesterOk
def f (k : Nat) (a0_0 : Int) (a0_1 : List Bool) (a0_2 : List (Int × Int × Int × (List Int) × Int × Int)) (a0_3 : List (Int × Int × Int × (List Int) × Int)) : Option (Bool) := bnd (laws_szRequester.f k a0_0 a0_1 a0_2 a0_3 1048576) fun y0 => brB (iLt y0 0) (some true) (bnd (laws_toRequester.f k a0_0 a0_1 a0_2 a0_3) fun (y1, y2, y3, y4) => bnd (spec_RequesterOk.f k y1 y2 y3 y4) fun y5 => bnd (laws_toRequester.f k a0_0 a0_1 a0_2 a0_3) fun (y6, y7, y8, y9) => bnd (impl_RequesterOk.f k y6 y7 y8 y9) fun y10 => brB (bNe y10 y5) (some false) (bnd (laws_toRequester.f k a0_0 a0_1 a0_2 a0_3) fun (y11, y12, y13, y14) => bnd (laws_eqRequester.f k y6 y7 y8 y9 y11 y12 y13 y14) fun y15 => brB (bNot y15) (some false) (some true)))
def sig : Sig := ⟨4, [.w true [I, .row .bool, .row (.pair I (.pair I (.pair I (.pair (.row I) (.pair I I))))), .row (.pair I (.pair I (.pair I (.pair (.row I) I))))]], [(false, [.val .bool])]⟩
def H : Hints := ⟨[], [], [(10, [0, 0, 2, 7, 15])], []⟩
def spec : Spec := { sig := sig, fn := fun k (x : Int × List Bool × List (Int × Int × Int × (List Int) × Int × Int) × List (Int × Int × Int × (List Int) × Int)) => f k x.1 x.2.1 x.2.2.1 x.2.2.2 }
theorem ok : Holds Go.Proofs.Try.prog spec := holds_of_run (G := [laws_szRequester.spec, laws_toRequester.spec, spec_RequesterOk.spec, impl_RequesterOk.spec, laws_eqRequester.spec]) (holds_cons laws_szRequester.ok (holds_cons laws_toRequester.ok (holds_cons spec_RequesterOk.ok (holds_cons impl_RequesterOk.ok (holds_cons laws_eqRequester.ok holds_nil))))) (by kernel_rfl) H Go.Proofs.Try.func4 (by kernel_rfl) (rfl : Go.Proofs.Try.f4.body = some _) (by kernel_rfl) (by kernel_rfl) fun k x y h => Eq.trans (by kernel_rfl : _ = spec.fn k x) h
end laws_FnExactRequesterOk

end
end Go.Proofs.YtbmfjpflhbhhdaaT
