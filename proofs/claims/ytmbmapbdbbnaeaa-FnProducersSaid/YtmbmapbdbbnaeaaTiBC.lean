/- A law's arguments, out of what its row says of them. -/
import Derived.Test.YtmbmapbdbbnaeaaTiBB
import Derived.Carry
import Derived.OpenShut
import Derived.WideShapes
set_option linter.unusedVariables false
set_option linter.unusedSimpArgs false
namespace Go.Proofs.YtmbmapbdbbnaeaaT
open Go Go.ChangeShapes Go.WideShapes

/-- The parameters of a law. -/
def lawIns (P : Program) (n : Nat) : List TypeId → Option (List PSh)
  | [] => some []
  | t :: ts => match cellsTy P n t, lawIns P n ts, P.readableRec t && Nat.blt t P.types.size with
    | some us, some ps, true => match P.underlying t, us with
      | some (.struct _), us => some (.w true us :: ps)
      | some (.int _), [u] => some (.w false [u] :: ps)
      | some .bool, [u] => some (.w false [u] :: ps)
      | some .string, [u] => some (.w false [u] :: ps)
      | some (.slice _), [u] => some (.w false [u] :: ps)
      | _, _ => none
    | _, _, _ => none

section
variable {P : Program} {W : World} {H : Type} {enc : TypeId × Value → H}

theorem args_are {n : Nat} : ∀ {ts : List TypeId} {ins : List PSh} {vs : List Value} {ds : List (DataW H)} {p : List MemPlace}, lawIns P n ts = some ins →
    DataW.TrodAll enc P W 0 (fun _ => true) true ts vs ds p → (∀ (j : Nat) t v, ts[j]? = some t → vs[j]? = some v → Value.okWide P W .any 0 t v) → ∃ us, ArgsAre W ins vs us
  | [], ins, vs, ds, p, hl, hA, hv => by
    obtain ⟨rfl, rfl, rfl⟩ := trodAll_nil hA
    simp only [lawIns] at hl
    cases hl
    exact ⟨[], rfl⟩
  | t :: ts, ins, vs, ds, p, hl, hA, hv => by
    obtain ⟨v, vs, d, ds, p, q, rfl, rfl, rfl, ⟨m, h0⟩, hr⟩ := trodAll_cons hA
    simp only [lawIns] at hl
    split at hl
    · rename_i us ps h1 h2 h3
      obtain ⟨us', hus⟩ := args_are h2 hr fun j t v ht hv' => hv (j + 1) t v (by simpa using ht) (by simpa using hv')
      have hc := trod_cells n h1 h0
      have hw := hv 0 t v rfl rfl
      split at hl
      · rename_i fs us hu
        cases hl
        obtain ⟨c, rfl, _⟩ := okWide_struct hu hw
        exact ⟨c.toList ++ us', c, us', rfl, hc, rfl, hus⟩
      · rename_i k u hu
        cases hl
        obtain ⟨x, rfl⟩ := okWide_int hu hw
        exact ⟨_ :: us', u, us', rfl, hc, rfl, hus⟩
      · rename_i u hu
        cases hl
        obtain ⟨x, rfl⟩ := okWide_bool hu hw
        exact ⟨_ :: us', u, us', rfl, hc, rfl, hus⟩
      · rename_i u hu
        cases hl
        obtain ⟨x, rfl⟩ := okWide_string hu hw
        exact ⟨_ :: us', u, us', rfl, hc, rfl, hus⟩
      · rename_i e u hu
        cases hl
        obtain ⟨x, y, z, rfl⟩ := okWide_slice hu hw
        exact ⟨_ :: us', u, us', rfl, hc, rfl, hus⟩
      · cases hl
    · cases hl

theorem args_stay (hlaid : laidOutB P = true) {n : Nat} {W' : World} (hb : Go.RowKit.Below W.heap.size W W') : ∀ {ts : List TypeId} {ins : List PSh} {vs : List Value} {ds : List (DataW H)} {p : List MemPlace}, lawIns P n ts = some ins →
    DataW.TrodAll enc P W 0 (fun _ => true) true ts vs ds p → DataW.TrodAll enc P W' 0 (fun b => decide (b < W.heap.size)) true ts vs ds p
  | [], ins, vs, ds, p, hl, hA => by
    obtain ⟨rfl, rfl, rfl⟩ := trodAll_nil hA
    exact trodAll_mk0
  | t :: ts, ins, vs, ds, p, hl, hA => by
    obtain ⟨v, vs, d, ds, p, q, rfl, rfl, rfl, h0, hr⟩ := trodAll_cons hA
    simp only [lawIns] at hl
    split at hl
    · rename_i us ps h1 h2 h3
      simp only [Bool.and_eq_true] at h3
      have h0' := h0
      obtain ⟨m, hm⟩ := h0'
      exact trodAll_cons_mk (Go.RowKit.Below.trod hlaid h3.1 (by have := h3.2; rwa [Nat.blt_eq] at this) h0 hb (DataW.trod_lt m _ _ _ hm)) (args_stay hlaid hb h2 hr)
    · cases hl

end
end Go.Proofs.YtmbmapbdbbnaeaaT
