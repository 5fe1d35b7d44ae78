/- A law: arguments that are read only, and one answer. -/
import Derived.Test.YtmbmapbdbbnaeaaTiBA
import Derived.Below
set_option linter.unusedVariables false
set_option linter.unusedSimpArgs false
namespace Go.Proofs.YtmbmapbdbbnaeaaT
open Go

section
variable {P : Program} {w : World} {E : Env}

/-- The arguments, with their cells. -/
def ArgsAre (w : World) : List PSh → List Value → List Value → Prop
  | [], [], us => us = []
  | .w true ts :: ps, v :: vs, us => ∃ c us', v = .agg c ∧ CellsAre w (allOf w) ts c.toList ∧ us = c.toList ++ us' ∧ ArgsAre w ps vs us'
  | .w false ts :: ps, v :: vs, us => ∃ t us', ts = [t] ∧ CellsAre w (allOf w) [t] [v] ∧ us = v :: us' ∧ ArgsAre w ps vs us'
  | _, _, _ => False

theorem CellsAre.append {F : Nat → Prop} {ts us : List Ty} {cs ds : List Value} (h : CellsAre w F ts cs) (k : CellsAre w F us ds) : CellsAre w F (ts ++ us) (cs ++ ds) := by
  refine ⟨by simp [h.1, k.1], fun j t u ht hu => ?_⟩
  rw [List.getElem?_append] at ht hu
  rw [h.1] at hu
  split at ht
  · rename_i hj; rw [if_pos hj] at hu; exact h.2 j t u ht hu
  · rename_i hj; rw [if_neg hj] at hu; exact k.2 _ t u ht hu

theorem args_cells : ∀ {ps : List PSh} {vs us : List Value}, ArgsAre w ps vs us → CellsAre w (allOf w) ((inShs ps).map CSh.ty) us ∧ (∀ i, refBoxes i ps = []) ∧ refShs ps = [] ∧ (∀ s ∈ inShs ps, ∃ t, s = .val t) ∧ vs.length = ps.length
  | [], [], us, h => by simp only [ArgsAre] at h; subst h; exact ⟨⟨rfl, fun j t u ht => by simp [inShs] at ht⟩, fun i => rfl, rfl, fun s hs => by simp [inShs] at hs, rfl⟩
  | [], _ :: _, us, h => by simp [ArgsAre] at h
  | .w true ts :: ps, [], us, h => by simp [ArgsAre] at h
  | .w false ts :: ps, [], us, h => by simp [ArgsAre] at h
  | .w true ts :: ps, v :: vs, us, h => by
    simp only [ArgsAre] at h
    obtain ⟨c, us', rfl, h1, rfl, h2⟩ := h
    obtain ⟨g1, g2, g3, g4, g5⟩ := args_cells h2
    have e : (ts.map CSh.val).map CSh.ty = ts := by simp [CSh.ty, Function.comp_def]
    refine ⟨?_, fun i => g2 (i + 1), g3, fun s hs => ?_, by simp [g5]⟩
    · simp only [inShs, List.map_append, e]
      exact h1.append g1
    · simp only [inShs, List.mem_append, List.mem_map] at hs
      rcases hs with ⟨t, _, rfl⟩ | hs
      · exact ⟨t, rfl⟩
      · exact g4 s hs
  | .w false ts :: ps, v :: vs, us, h => by
    simp only [ArgsAre] at h
    obtain ⟨t, us', rfl, h1, rfl, h2⟩ := h
    obtain ⟨g1, g2, g3, g4, g5⟩ := args_cells h2
    refine ⟨?_, fun i => g2 (i + 1), g3, fun s hs => ?_, by simp [g5]⟩
    · exact h1.append g1
    · simp only [inShs, List.map_cons, List.map_nil, List.cons_append, List.nil_append, List.mem_cons] at hs
      rcases hs with rfl | hs
      · exact ⟨t, rfl⟩
      · exact g4 s hs
  | .mut _ _ :: _, _, us, h => by simp [ArgsAre] at h
  | .ref _ :: _, _, us, h => by simp [ArgsAre] at h
  | .fn _ _ :: _, _, us, h => by simp [ArgsAre] at h
  | .fnr _ _ :: _, _, us, h => by simp [ArgsAre] at h
  | .fnr2 _ _ _ :: _, _, us, h => by simp [ArgsAre] at h

theorem args_tmps : ∀ {ps : List PSh} {vs us : List Value} {i : Nat} {ys : List AC}, ArgsAre w ps vs us → ACs w E ys us → ∀ t av, layTmps (inTmps i ps) ys t = some av → i ≤ t ∧ ∃ v, vs[t - i]? = some v ∧ AVr w E av v
  | [], vs, us, i, ys, h, hy, t, av, ht => by simp [inTmps, layTmps] at ht
  | .w true ts :: ps, [], us, i, ys, h, hy, t, av, ht => by simp [ArgsAre] at h
  | .w false ts :: ps, [], us, i, ys, h, hy, t, av, ht => by simp [ArgsAre] at h
  | .w true ts :: ps, v :: vs, us, i, ys, h, hy, t, av, ht => by
    simp only [ArgsAre] at h
    obtain ⟨c, us', rfl, h1, rfl, h2⟩ := h
    simp only [inTmps, layTmps] at ht
    have hn : (PSh.lt i (.w true ts)).n = c.toList.length := h1.1.symm
    split at ht
    · rename_i e
      have e' := beq_nat.1 e
      subst e'
      cases ht
      refine ⟨Nat.le_refl _, .agg c, by simp, ?_⟩
      rw [hn]
      refine ⟨c.toList, by simp, ?_⟩
      have := hy.take c.toList.length
      rwa [List.take_left' rfl] at this
    · rw [hn] at ht
      have := hy.drop c.toList.length
      rw [List.drop_left' rfl] at this
      obtain ⟨g1, u, g2, g3⟩ := args_tmps h2 this t av ht
      exact ⟨by omega, u, by rw [show t - i = (t - (i + 1)) + 1 by omega]; simpa using g2, g3⟩
  | .w false ts :: ps, v :: vs, us, i, ys, h, hy, t, av, ht => by
    simp only [ArgsAre] at h
    obtain ⟨t0, us', rfl, h1, rfl, h2⟩ := h
    simp only [inTmps, layTmps] at ht
    have hl := hy.1
    match ys, hl with
    | y :: ys, _ =>
      split at ht
      · rename_i e
        have e' := beq_nat.1 e
        subst e'
        cases ht
        exact ⟨Nat.le_refl _, v, by simp, hy.2 0 y v rfl rfl⟩
      · have := hy.drop 1
        obtain ⟨g1, u, g2, g3⟩ := args_tmps h2 this t av ht
        exact ⟨by omega, u, by rw [show t - i = (t - (i + 1)) + 1 by omega]; simpa using g2, g3⟩
  | .mut _ _ :: _, _, us, i, ys, h, hy, t, av, ht => by simp [ArgsAre] at h
  | .ref _ :: _, _, us, i, ys, h, hy, t, av, ht => by simp [ArgsAre] at h
  | .fn _ _ :: _, _, us, i, ys, h, hy, t, av, ht => by simp [ArgsAre] at h
  | .fnr _ _ :: _, _, us, i, ys, h, hy, t, av, ht => by simp [ArgsAre] at h
  | .fnr2 _ _ _ :: _, _, us, i, ys, h, hy, t, av, ht => by simp [ArgsAre] at h

theorem mkAt_vals : ∀ {ss : List CSh} {fl : List AC} {j : Nat}, (∀ s ∈ ss, ∃ t, s = .val t) → ss.length = fl.length → mkAt j ss fl = fl
  | [], [], j, _, _ => rfl
  | [], _ :: _, j, _, h => by simp at h
  | _ :: _, [], j, _, h => by simp at h
  | s :: ss, c :: fl, j, h, hl => by
    obtain ⟨t, rfl⟩ := h s (by simp)
    simp only [mkAt]
    rw [mkAt_vals (fun s hs => h s (by simp [hs])) (by simpa using hl)]

/-- The state at a law's start. -/
theorem law_start (htab : TabOk w (allOf w)) {sig : Sig} {args us : List Value} (h : ArgsAre w sig.ins args us) :
    ∃ x : sig.inTy.T, Good sig.inTy x ∧ ∃ E, (∀ n, E.U n ↔ n < 100000) ∧ Sim ⟨w, allOf w, fun _ => False, args.length, []⟩ (startSt sig x) E ⟨args.toArray, []⟩ w := by
  obtain ⟨g1, g2, g3, g4, g5⟩ := args_cells h
  have hshs : sig.shs = inShs sig.ins := by simp [Sig.shs, g3]
  have g1' : CellsAre w (allOf w) (sig.shs.map CSh.ty) us := by rw [hshs]; exact g1
  have g4' : ∀ s ∈ sig.shs, ∃ t, s = .val t := by rw [hshs]; exact g4
  obtain ⟨x, hx, hg⟩ := g1'.build
  let E : Env := ⟨fun n => n < 100000, fun _ => 0, fun _ => undef, fun _ => 0, allOf w⟩
  have hsz : (Ty.ofList (sig.shs.map CSh.ty)).size = (sig.shs.map CSh.ty).length := ofList_size fun t ht => by
    obtain ⟨j, hj⟩ := List.getElem?_of_mem ht
    have hjl : j < us.length := by rw [g1'.1]; exact (List.getElem?_eq_some_iff.1 hj).1
    exact (g1'.2 j t us[j] hj (by simp [hjl])).1
  have hfl : ACs w E (flat sig.inTy x) us := flat_acs (by rw [g1'.1]; exact hsz.symm) hx
  have hlen : sig.shs.length = (flat sig.inTy x).length := by rw [hfl.1, g1'.1]; simp
  refine ⟨x, hg, E, fun n => Iff.rfl, ?_⟩
  have norow : ∀ k, (startSt sig x).rows k = none := by
    intro k
    show layRows sig.shs (flat sig.inTy x) k = none
    unfold layRows
    split
    · rename_i t _ _ hs _
      obtain ⟨t', e⟩ := g4' _ (List.mem_of_getElem? hs)
      cases e
    · rfl
  have nobox : ∀ k, (startSt sig x).boxes k = none := by
    intro k
    show layBoxes (refBoxes 0 sig.ins) _ k = none
    rw [g2 0]
    rfl
  exact
  { defers := rfl
    size := by simp
    tmps := fun t av ht => by
      have ht : layTmps (inTmps 0 sig.ins) (mkAt 0 sig.shs (flat sig.inTy x)) t = some av := ht
      rw [mkAt_vals g4' hlen] at ht
      obtain ⟨_, v, h1, h2⟩ := args_tmps h hfl t av ht
      rw [Nat.sub_zero] at h1
      refine ⟨(List.getElem?_eq_some_iff.1 h1).1, ?_⟩
      have : (args.toArray).getD t undef = v := by simp only [Array.getD_eq_getD_getElem?, List.getElem?_toArray, h1, Option.getD_some]
      show AVr w E av ((args.toArray).getD t undef)
      rw [this]; exact h2
    boxU := fun b cs hb => by rw [nobox] at hb; cases hb
    boxes := fun b cs hb => by rw [nobox] at hb; cases hb
    boxNew := fun b cs hb => by rw [nobox] at hb; cases hb
    boxInj := fun b b' cs cs' hb => by rw [nobox] at hb; cases hb
    rowU := fun b cs hb => by rw [norow] at hb; cases hb
    rows := fun b cs hb => by rw [norow] at hb; cases hb
    rowNew := fun b cs g hb => by rw [norow] at hb; cases hb
    FA := fun b hb => hb
    F := fun b hb => ⟨.inl hb, hb⟩
    FAlt := fun b hb => ⟨hb, fun h => h⟩
    os := rfl
    tape := rfl
    output := rfl
    grown := Nat.le_refl _
    frame := fun b _ _ => rfl
    tab := htab }

/-- A law's answer. -/
theorem law_calls {sp : Spec} (hbx : sp.boxed = false) (h : Holds P sp) {args us : List Value} (ha : ArgsAre w sp.sig.ins args us) (hout : sp.sig.outs = [(false, [.val .bool])]) (y : sp.sig.outTy.T)
    (hy : ∀ (E : Env) (w' : World) v, AVr w' E ((outLT sp.sig.outs).av ((mkAt 0 sp.sig.back (flat sp.sig.outTy y)).take (outLT sp.sig.outs).n)) v → v = .bool true)
    (hf : ∀ x : sp.sig.inTy.T, Good sp.sig.inTy x → ∃ k, sp.fn k x = some y) (htab : TabOk w (allOf w) := by exact fun q hq => by cases hq) :
    Calls P sp.sig.f args.toArray w fun e w' => e = .returned (.bool true) ∧ Go.RowKit.Below w.heap.size w w' := by
  obtain ⟨x, hg, E, hU, hs⟩ := law_start htab ha
  obtain ⟨k, hk⟩ := hf x hg
  refine (h.2.1 k x y hk w _ _ E args hU hs).mono fun e w' hp => ?_
  simp only [Post, hbx] at hp
  obtain ⟨v, E', he, q1, _⟩ := hp
  subst he
  have ht := (q1.tmps 0 _ rfl).2
  have hv : (#[v] : Array Value).getD 0 undef = v := rfl
  rw [hv] at ht
  refine ⟨by rw [hy E' w' v ht], ⟨q1.os, q1.tape, q1.output, q1.grown, fun j hj => q1.frame j hj fun h => h⟩⟩

end
end Go.Proofs.YtmbmapbdbbnaeaaT
