/- A function's contract, from what it computes. -/
import Derived.Test.YtmbmapbdbbnaeaaTiAF
set_option linter.unusedVariables false
set_option linter.unusedSimpArgs false
namespace Go.Proofs.YtmbmapbdbbnaeaaT
open Go

section
variable {P : Program} {G : List Spec} {B : Base} {S : St} {E E2 : Env} {a : Act} {w w' : World}

def single (vs : List Value) : Value := match vs with | [v] => v | _ => .tuple vs.toArray
def outN (outs : List (Bool × List CSh)) : List (Bool × Nat) := outs.map fun o => (o.1, o.2.length)
theorem outN_n : ∀ (outs : List (Bool × List CSh)), capsN (outN outs) = (outShs outs).length
  | [] => rfl
  | (g, os) :: r => by
    have := outN_n r
    simp only [outN] at this
    simp [outN, capsN, outShs, this]
theorem outLT_len (outs : List (Bool × List CSh)) : (outLT outs).n = capsN (outN outs) := by
  match outs with
  | [] => rfl
  | [(g, os)] => simp [outLT, LT.n, outN, capsN]
  | x :: y :: r => simp [outLT, LT.n, outN]
theorem outLT_ok {outs : List (Bool × List CSh)} {ys : List AC} {vs : List Value} (hl : ys.length = capsN (outN outs)) (h : AWs w E (mkWs (outN outs) ys) vs) : AVr w E ((outLT outs).av ys) (single vs) := by
  match outs with
  | [] =>
    simp only [outN, List.map_nil, mkWs] at h
    have : vs = [] := List.eq_nil_of_length_eq_zero h.1.symm
    subst this
    exact ⟨[], rfl, h⟩
  | [(g, os)] =>
    simp only [outN, List.map_cons, List.map_nil, mkWs, capsN, Nat.add_zero] at h hl
    obtain ⟨v, vs', rfl, h1, h2⟩ := h.cons_inv
    have : vs' = [] := List.eq_nil_of_length_eq_zero h2.1.symm
    subst this
    rw [List.take_of_length_le (by omega)] at h1
    exact h1
  | x :: y :: r =>
    have hlen := h.1
    simp only [outN, List.map_cons, mkWs, List.length_cons] at hlen
    match vs, hlen with
    | u :: v :: vs, _ => exact ⟨_, rfl, h⟩

theorem boxAt_self : ∀ {L : List (Nat × Nat)} {b c : Nat}, boxAt (L.map (·.1)) L b = some c → c = b
  | [], b, c, h => by simp [boxAt] at h
  | (x, n) :: L, b, c, h => by
    simp only [List.map_cons, boxAt] at h
    split at h
    · rename_i e; cases h; exact (beq_nat.1 e).symm
    · exact boxAt_self h
theorem boxAt_have : ∀ {L : List (Nat × Nat)} {b n : Nat}, (b, n) ∈ L → boxAt (L.map (·.1)) L b = some b
  | (x, m) :: L, b, n, h => by
    simp only [List.map_cons, boxAt]
    cases e : Nat.beq b x with
    | true => rw [beq_nat.1 e]
    | false =>
      rcases List.mem_cons.1 h with h | h
      · cases h; rw [beq_nat.2 rfl] at e; cases e
      · exact boxAt_have h
theorem refBoxes_ge : ∀ {ps : List PSh} {i : Nat} {p : Nat × Nat}, p ∈ refBoxes i ps → 2 * i ≤ p.1 ∧ p.1 < 2 * (i + ps.length)
  | [], i, p, h => by simp [refBoxes] at h
  | .ref ts :: ps, i, p, h => by
    simp only [refBoxes, List.mem_cons] at h
    simp only [List.length_cons]
    rcases h with rfl | h
    · dsimp only; omega
    · have := refBoxes_ge h; omega
  | .fnr _ ts :: ps, i, p, h => by
    simp only [refBoxes, List.mem_cons] at h
    simp only [List.length_cons]
    rcases h with rfl | h
    · dsimp only; omega
    · have := refBoxes_ge h; omega
  | .fnr2 _ ts us :: ps, i, p, h => by
    simp only [refBoxes, List.mem_cons] at h
    simp only [List.length_cons]
    rcases h with rfl | rfl | h
    · dsimp only; omega
    · dsimp only; omega
    · have := refBoxes_ge h; omega
  | .w _ _ :: ps, i, p, h => by simp only [refBoxes] at h; have := refBoxes_ge h; simp only [List.length_cons]; omega
  | .mut _ _ :: ps, i, p, h => by simp only [refBoxes] at h; have := refBoxes_ge h; simp only [List.length_cons]; omega
  | .fn _ _ :: ps, i, p, h => by simp only [refBoxes] at h; have := refBoxes_ge h; simp only [List.length_cons]; omega
  | .eat _ _ :: ps, i, p, h => by simp only [refBoxes] at h; have := refBoxes_ge h; simp only [List.length_cons]; omega
theorem refBoxes_n : ∀ {ps : List PSh} {i : Nat}, (refBoxes i ps).map (·.2) = (refBoxes 0 ps).map (·.2)
  | [], i => rfl
  | .ref ts :: ps, i => by simp only [refBoxes, List.map_cons]; rw [refBoxes_n (i := i + 1), refBoxes_n (i := 0 + 1)]
  | .fnr _ ts :: ps, i => by simp only [refBoxes, List.map_cons]; rw [refBoxes_n (i := i + 1), refBoxes_n (i := 0 + 1)]
  | .fnr2 _ ts us :: ps, i => by simp only [refBoxes, List.map_cons]; rw [refBoxes_n (i := i + 1), refBoxes_n (i := 0 + 1)]
  | .w _ _ :: ps, i => by simp only [refBoxes]; rw [refBoxes_n (i := i + 1), refBoxes_n (i := 0 + 1)]
  | .mut _ _ :: ps, i => by simp only [refBoxes]; rw [refBoxes_n (i := i + 1), refBoxes_n (i := 0 + 1)]
  | .fn _ _ :: ps, i => by simp only [refBoxes]; rw [refBoxes_n (i := i + 1), refBoxes_n (i := 0 + 1)]
  | .eat _ _ :: ps, i => by simp only [refBoxes]; rw [refBoxes_n (i := i + 1), refBoxes_n (i := 0 + 1)]
theorem boxCells_len : ∀ {L : List (Nat × Nat)} {bs : List Nat} {cs : List AC}, boxCells S bs L = some cs → cs.length = (L.map (·.2)).sum
  | [], [], cs, h => by simp only [boxCells] at h; cases h; rfl
  | [], _ :: _, cs, h => by simp [boxCells] at h
  | _ :: _, [], cs, h => by simp [boxCells] at h
  | (b, n) :: L, x :: bs, cs, h => by
    simp only [boxCells, Option.bind_eq_some_iff] at h
    obtain ⟨c, hc, h⟩ := h
    split at h
    · rename_i e
      simp only [Option.bind_eq_some_iff] at h
      obtain ⟨l, hl, e'⟩ := h
      cases e'
      have := boxCells_len hl
      simp [this, beq_nat.1 e]
    · cases h
theorem refShs_len : ∀ {ps : List PSh}, (refShs ps).length = ((refBoxes 0 ps).map (·.2)).sum
  | [] => rfl
  | .ref ts :: ps => by simp only [refBoxes, refShs, List.map_cons, List.sum_cons, List.length_append, List.length_map]; rw [refBoxes_n, refShs_len]
  | .fnr _ ts :: ps => by simp only [refBoxes, refShs, List.map_cons, List.sum_cons, List.length_append, List.length_map]; rw [refBoxes_n, refShs_len]
  | .fnr2 _ ts us :: ps => by simp only [refBoxes, refShs, List.map_cons, List.sum_cons, List.length_append, List.length_map]; rw [refBoxes_n, refShs_len]
  | .w _ _ :: ps => by simp only [refBoxes, refShs]; rw [refBoxes_n, refShs_len]
  | .mut _ _ :: ps => by simp only [refBoxes, refShs]; rw [refBoxes_n, refShs_len]
  | .fn _ _ :: ps => by simp only [refBoxes, refShs]; rw [refBoxes_n, refShs_len]
  | .eat _ _ :: ps => by simp only [refBoxes, refShs]; rw [refBoxes_n, refShs_len]
theorem ownNums_ids : ∀ {ss : List CSh} {i : Nat}, ownIds i ss = (ownNums i ss).map AC.own
  | [], i => by simp [ownIds, ownNums]
  | .own t :: r, i => by simp [ownIds, ownNums, ownNums_ids]
  | .val t :: r, i => by simp [ownIds, ownNums, ownNums_ids]
theorem ownNums_lt : ∀ {ss : List CSh} {i j : Nat}, j ∈ ownNums i ss → i ≤ j ∧ j < i + ss.length
  | [], i, j, h => by simp [ownNums] at h
  | .own t :: r, i, j, h => by
    simp only [ownNums, List.mem_cons] at h
    rcases h with rfl | h
    · simp
    · have := ownNums_lt h; simp only [List.length_cons]; omega
  | .val t :: r, i, j, h => by simp only [ownNums] at h; have := ownNums_lt h; simp only [List.length_cons]; omega
theorem ownShs_len : ∀ {ss : List CSh} {i : Nat}, (ownNums i ss).length = (ownShs ss).length
  | [], i => rfl
  | .own t :: r, i => by simp [ownShs, ownNums, ownShs_len]
  | .val t :: r, i => by simp only [ownShs, ownNums]; exact ownShs_len
theorem ownShs_own : ∀ {ss : List CSh} {s : CSh}, s ∈ ownShs ss → ∃ t, s = .own t
  | .own t :: r, s, h => by
    simp only [ownShs, List.mem_cons] at h
    rcases h with rfl | h
    · exact ⟨t, rfl⟩
    · exact ownShs_own h
  | .val t :: r, s, h => by simp only [ownShs] at h; exact ownShs_own h

def sigOk (s : Sig) : Bool := Nat.ble s.shs.length 1000 && Nat.ble s.ins.length 1000

end
end Go.Proofs.YtmbmapbdbbnaeaaT
