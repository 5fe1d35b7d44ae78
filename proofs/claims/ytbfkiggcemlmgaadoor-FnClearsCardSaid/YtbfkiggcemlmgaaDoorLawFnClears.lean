/- The row of FnClears, out of the contract of its Go function and its pure law. Written by a program of the session (mkti.py), in the shape of the kit's printed rows. -/
import Derived.Test.YtbfkiggcemlmgaaDoorRows
import Derived.Test.YtbfkiggcemlmgaaDoorFFnClears
import Derived.Test.YtbfkiggcemlmgaaDoorUFnClears
import Derived.Test.YtbfkiggcemlmgaaDoorTiBC
import Derived.WalkKit
import Derived.ProofKit
import Derived.OpenShut
import Derived.ShutString
import Derived.ChangeOld
import Derived.Below
import Derived.Carry
import Derived.SizedLaws
import Derived.LaidMore
import Derived.Stop.Joined
import Derived.SevenTiedAt
import Derived.Test.YtbfkiggcemlmgaaDoorCards
import Derived.Test.YtbfkiggcemlmgaaDoorTie
namespace Go.Proofs.YtbfkiggcemlmgaaDoor.fnClears
open Go Go.ChangeShapes Go.WideShapes Go.ChangeAt Go.WideElems Go.RowKit Go.Proofs.YtbfkiggcemlmgaaDoorT
set_option linter.unusedVariables false
theorem own : ownKnob Tryd.prog.godebug = none := by kernel_rfl
theorem laidOut : laidOutB Tryd.prog = true := by kernel_rfl
theorem ins : lawIns Tryd.prog 8 Tryd.f3.params.toList = some laws_FnClears.sig.ins := by kernel_rfl
/-- The listed variables. -/
def laid2 {H : Type} : List (String × DataW H) := [("math/bits.deBruijn32tab", Rows.laid_math_bits_deBruijn32tab), ("math/bits.deBruijn64tab", Rows.laid_math_bits_deBruijn64tab)]
theorem gT0 : Tryd.prog.globalNamed "math/bits.deBruijn32tab" = some 0 := by kernel_rfl
theorem gT1 : Tryd.prog.globalNamed "math/bits.deBruijn64tab" = some 1 := by kernel_rfl
theorem tT0 : (Tryd.prog.globals[0]?).map (·.type) = some 63 := by kernel_rfl
theorem tT1 : (Tryd.prog.globals[1]?).map (·.type) = some 64 := by kernel_rfl
/-- The door's own heap meets the condition. -/
theorem door_met (os : Os) (args : Array Value) : laidMetH Tryd.prog laid2 ((World.doorLaid Tryd.prog 400 os).forCall (fun _ _ => 0) ⟨#[], args, []⟩).memory :=
  laidMetH_of_parts3 (fuel := 8) (laidMet_of_run' 8 (by kernel_rfl) (by kernel_rfl)) (by kernel_rfl) (by kernel_rfl)
/-- A table of bytes, as it stands in memory. -/
theorem tab_one {H : Type} {enc : TypeId × Value → H} {n : String} {g t e m : Nat} {W : World} {cs : Array Value} {base fuel : Nat} {sp held} {pl} {vals : List Int} (hg : Tryd.prog.globalNamed n = some g) (hv : W.var? Tryd.prog n = some cs)
    (ht : Tryd.prog.underlying t = some (.array m e)) (he : Tryd.prog.underlying e = some (.int .u8)) (hc : Tryd.prog.cellsOf e = 1) (hm : vals.length = m) (h0 : 0 < m)
    (hd : DataW.trod enc Tryd.prog W base sp held fuel t cs.toList = some (.agg (vals.map fun v => .lit (.int .u8 v)), pl)) :
    g < W.heap.size ∧ ∀ (i : Nat) (v : Int), vals[i]? = some v → W.cell? ⟨g, i, none⟩ = some (.int .u8 v) := by
  obtain ⟨xs, m1, rfl, hx, hlen, hn, hel⟩ := DataW.trod_array ht hd
  simp only [Prod.mk.injEq, DataW.agg.injEq] at hx
  have hcell : ∀ (i : Nat) (v : Int), vals[i]? = some v → W.cell? ⟨g, i, none⟩ = some (.int .u8 v) := by
    intro i v hi
    have him : i < m := by rw [← hm]; exact (List.getElem?_eq_some_iff.1 hi).1
    have h1 := hel i him
    have hxi : xs[i]? = some (xs[i]'(by omega)) := List.getElem?_eq_getElem _
    rw [hxi] at h1
    obtain ⟨k, e1, e2, _⟩ := DataW.trod_int he h1
    have h2 : (xs.map (·.1))[i]? = (vals.map fun v => DataW.lit (.int .u8 v))[i]? := by rw [← hx.1]
    rw [List.getElem?_map, hxi, List.getElem?_map, hi, e2] at h2
    simp at h2
    subst h2
    rw [World.var?_cell hg hv i]
    rw [hc, Nat.mul_one] at e1
    have h3 : cs.toList[i]? = some (.int .u8 k) := by
      have := congrArg (fun l => l[0]?) e1
      simpa [List.getElem?_take, List.getElem?_drop] using this
    simpa using h3
  refine ⟨?_, hcell⟩
  obtain ⟨v, hv0⟩ : ∃ v, vals[0]? = some v := ⟨_, List.getElem?_eq_getElem (by omega)⟩
  have h1 := hcell 0 v hv0
  unfold World.cell? at h1
  split at h1
  · rename_i hb; exact (Array.getElem?_eq_some_iff.1 hb).1
  · cases h1
/-- What the condition gives. -/
theorem tab_of_laid {W : World} (h : laidMetH Tryd.prog laid2 W) : TabOk W (allOf W) := by
  rw [MakeChecks.laidMetH_plain _ _ _ (by kernel_rfl)] at h
  obtain ⟨ps, ⟨g0, t0, cs0, f0, p0, q0, hg0, ht0, hv0, hd0, ⟨g1, t1, cs1, f1, p1, q1, hg1, ht1, hv1, hd1, _, _⟩, _⟩, _, _⟩ := h
  obtain rfl := Option.some.inj (gT0.symm.trans hg0)
  obtain rfl := Option.some.inj (gT1.symm.trans hg1)
  obtain rfl := Option.some.inj (tT0.symm.trans ht0)
  obtain rfl := Option.some.inj (tT1.symm.trans ht1)
  intro q hq
  rcases List.mem_cons.1 hq with rfl | hq
  · exact tab_one (e := 5) gT0 hv0 (by kernel_rfl) (by kernel_rfl) (by kernel_rfl) rfl (by decide) hd0
  · rcases List.mem_cons.1 hq with rfl | hq
    · exact tab_one (e := 5) gT1 hv1 (by kernel_rfl) (by kernel_rfl) (by kernel_rfl) rfl (by decide) hd1
    · cases hq
set_option maxRecDepth 100000 in
theorem lifted (os : Os) (started : os.Started) (H : Type) (enc : TypeId × Value → H) :
    ReturnsInHanded {} Tryd.checked os 3 .any (fun w args => (Rows.fnClearsSpec.pre enc Tryd.prog Tryd.f3 [] false w args ∧ laidMetH Tryd.prog laid2 w) ∧ sizedMet enc Tryd.prog Tryd.f3 (OpenSpec.ofChange Rows.fnClearsSpec) false w args)
      (Rows.fnClearsSpec.post enc Tryd.prog Tryd.f3 false true false false) := by
  refine returnsInHanded_of_change_and (C := Tryd.checked) (X := fun w _ => laidMetH Tryd.prog laid2 w) (fun _ _ _ hh h => h.of_heap hh) own started (by kernel_rfl) Tryd.func3
    (ChangeSpec.witness_shaped (enc := enc) (C := Tryd.checked) (os := os) (X := fun w _ => laidMetH Tryd.prog laid2 w) false (World.doorLaid Tryd.prog 400 os) #[.slice none 0 0] 8 rfl (World.shaped_of_RefB (by kernel_rfl) (by kernel_rfl)) (by kernel_rfl) (by kernel_rfl) (by kernel_rfl) (door_met os _)) ?_
  intro W base args ds gs before hval0 hW _ _ hL _
  have hval : ∀ (j : Nat) t v, Tryd.f3.params[j]? = some t → args[j]? = some v → Value.okWide Tryd.prog W .any base t v := hval0
  have hW' := hW
  obtain ⟨p, q, hA0, hV, rfl, hfz, hnd⟩ := hW
  have hA : DataW.TrodAll enc Tryd.prog W 0 (fun _ => true) true Tryd.f3.params.toList args.toList ds p := hA0
  obtain ⟨rfl, rfl⟩ := trodVars_none hV
  obtain ⟨us, hus⟩ := args_are ins hA fun j t v ht hv => hval j t v (by simpa using ht) (by simpa using hv)
  have hcall := law_calls rfl laws_FnClears.ok hus rfl true (fun E w' v h => val_bool h.2) laws_FnClears.pure (tab_of_laid hL)
  refine Calls.mono hcall fun e W' ⟨he, bel⟩ => ?_
  subst he
  have hB := hA
  rw [Tryd.params3] at hB
  obtain ⟨_, _, d0, ds0, _, _, _, rfl, _, _, r0⟩ := trodAll_cons hB
  obtain ⟨_, rfl, _⟩ := trodAll_nil r0
  exact ⟨_, rfl, _, _, _, [], _, [], hW', trodAll_mk1 (shut_bool Tryd.underlying4 _), args_stay laidOut bel ins hA, rfl, bel.frame _, fun h => by cases h⟩
theorem over : Rows.fnClearsRow.holds Tryd.pinned (OpenSpec.ofChange Rows.fnClearsSpec) :=
  OpenClaim.holds_of_wide 3 Tryd.f3 rfl rfl rfl rfl rfl rfl rfl ⟨rfl, rfl, rfl, rfl, rfl⟩ rfl rfl rfl rfl rfl (by kernel_rfl) Tryd.func3 (by kernel_rfl)
    (of_decide_eq_true (by kernel_rfl)) (by unfold Func.isWrapper; first | (rw [if_pos (by decide +kernel)]; kernel_rfl) | (rw [if_neg (by decide +kernel)]; exact ⟨rfl, rfl⟩))
    (fun os started H enc _ => lifted os started H enc)
/-- The tied card. -/
theorem proved : Rows.FnClearsCardSaid :=
  Claim7.holds_tied_plain_at .later [] [.data, .data] true (true, "b6973d8733d50c0765de8473434ba1309da3a2171b7e4c63c45eb713eec8fb95") false
    over (fun _ h => by cases h) (by kernel_rfl) (fun _ h => by cases h) fnClears_row_tie rfl ⟨rfl, rfl⟩ (by kernel_rfl) rfl
    (fun f fn hf hfn => by
      obtain rfl : f = 3 := Option.some.inj ((show Tryd.prog.funcNamed "loop.example/g00986/laws.FnClears" = some 3 by kernel_rfl).symm.trans hf) |>.symm
      obtain rfl : fn = Tryd.f3 := (Option.some.inj (Tryd.func3.symm.trans hfn)).symm
      exact ⟨by kernel_rfl, fun j t ht => by
        rw [Tryd.params3] at ht
        have hm : t ∈ [22] := by simpa using Array.mem_of_getElem? ht
        have hall : ([22].all fun u => !Tryd.prog.wantsStandIn u) = true := by kernel_rfl
        exact (show Tryd.prog.wantsStandIn t = false by simpa using List.all_eq_true.1 hall t hm)⟩)
    (by kernel_rfl)
#print axioms proved
end Go.Proofs.YtbfkiggcemlmgaaDoor.fnClears
namespace Go.Proofs.YtbfkiggcemlmgaaDoor
/-- The card, under a short name, for the claim. -/
theorem fnClears_holds : Rows.FnClearsCardSaid := fnClears.proved
end Go.Proofs.YtbfkiggcemlmgaaDoor
