/- A function's results. -/
import Derived.Test.YtmbmapbdbbnaeaaTiAE
set_option linter.unusedVariables false
set_option linter.unusedSimpArgs false
namespace Go.Proofs.YtmbmapbdbbnaeaaT
open Go

section
variable {P : Program} {B : Base} {S : St} {E E2 : Env} {a : Act} {w w' : World}

def oneResult (tmps : Array Value) : ResultVar → Sem Value
  | .tmp t => pure (tmps.getD t undef)
  | .cell a t => do loadVar t (← asAddr (tmps.getD a undef))

theorem norm_ok {x : AW} {v : Value} (h : AWr w E x v) : AWr w E x.norm v := by
  unfold AW.norm
  split
  · rename_i k m
    obtain ⟨h1, h2, p, n, c, h3, _⟩ := h
    exact ⟨h1, h2, by rw [h3]; rfl⟩
  · exact h
theorem resultsB_ok (h : Sim B S E a w) : ∀ {rs : List ResultVar} {ws : List AW}, resultsB P S rs = some ws → ∃ vs, (rs.mapM (oneResult a.tmps)).run P w = .ok vs w ∧ AWs w E ws vs
  | [], ws, hr => by simp only [resultsB] at hr; cases hr; exact ⟨[], by simp, AWs.mk_nil⟩
  | .tmp t :: rs, ws, hr => by
    simp only [resultsB] at hr
    split at hr
    · rename_i x hx
      simp only [Option.bind_eq_some_iff] at hr
      obtain ⟨l, hl, e⟩ := hr
      cases e
      obtain ⟨vs, h1, h2⟩ := resultsB_ok h hl
      exact ⟨_ :: vs, by simp [List.mapM_cons, oneResult, h1], AWs.mk_cons (norm_ok (h.tmps t _ hx).2) h2⟩
    · cases hr
  | .cell t u :: rs, ws, hr => by
    simp only [resultsB] at hr
    split at hr
    · rename_i b o n g hx hn hg
      simp only [Option.bind_eq_some_iff] at hr
      obtain ⟨cs, hcs, l, hl, x, hx', ws', hws, e⟩ := hr
      cases e
      obtain ⟨vs, h1, h2⟩ := resultsB_ok h hws
      have ht := (h.tmps t _ hx).2
      obtain ⟨us, e, hw, ha⟩ := h.boxes _ cs hcs
      obtain ⟨h3, h4⟩ := window_acs hl ha
      obtain ⟨v, hv, hvr⟩ := run_loadVarB hn hg h4 (b := E.β b) (f := o) (fun j u hu => by
        rw [cell_row hw]
        rw [List.getElem?_take] at hu
        split at hu
        · rw [List.getElem?_drop] at hu; simpa using hu
        · cases hu) hx' h3
      have hp : a.tmps.getD t undef = .pointer (some ⟨E.β b, o, none⟩) := ht.2
      exact ⟨v :: vs, by simp only [List.mapM_cons, oneResult, hp, asAddr, Sem.run_bind, Sem.run_pure, Result.andThen_ok, hv, h1], AWs.mk_cons hvr h2⟩
    · cases hr

theorem results_ok (h : Sim B S E a w) {fn : Func} {ws : List AW} (hr : resultsB P S fn.results.toList = some ws) :
    ∃ vs, AWs w E ws vs ∧ (results fn a.tmps).run P w = .ok (match vs with | [v] => v | _ => .tuple vs.toArray) w := by
  obtain ⟨vs, h1, h2⟩ := resultsB_ok h hr
  refine ⟨vs, h2, ?_⟩
  have e : results fn a.tmps = (do
      let vs ← fn.results.mapM (oneResult a.tmps)
      pure (if h : vs.size = 1 then vs[0] else .tuple vs)) := by
    unfold results
    congr 1
  rw [e, Array.mapM_eq_mapM_toList]
  simp only [Sem.run_bind, Sem.run_pure, map_eq_pure_bind, h1, Result.andThen_ok]
  match vs with
  | [] => rfl
  | [v] => rfl
  | u :: v :: vs => simp

end
end Go.Proofs.YtmbmapbdbbnaeaaT
