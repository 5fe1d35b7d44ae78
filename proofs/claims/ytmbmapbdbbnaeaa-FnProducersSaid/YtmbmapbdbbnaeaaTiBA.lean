/- What the kit reads as data of an argument, as a value. -/
import Derived.Test.YtmbmapbdbbnaeaaTiAH
import Derived.Deep.Slices
import Derived.ChangeOld
set_option linter.unusedVariables false
set_option linter.unusedSimpArgs false
namespace Go.Proofs.YtmbmapbdbbnaeaaT
open Go

/-- What is known of a value that came in. -/
def Good : (t : Ty) → t.T → Prop
  | .unit, _ => True
  | .int k, n => (Lit.int k n).wf = true
  | .bool, _ => True
  | .str, s => ByteArray.size s ≤ maxLen
  | .row t, l => List.length l ≤ maxLen ∧ ∀ (i : Nat) x, l[i]? = some x → Good t x
  | .pair a b, x => Good a x.1 ∧ Good b x.2
  | .deep _ t, x => Good t x
  | .dead, _ => True
  | .part t, x => Good t x.2

def fieldsTy (P : Program) (rec : TypeId → Option (List Ty)) : Nat → List Field → Option (List Ty)
  | _, [] => some []
  | off, f :: fs => match rec f.type with
    | some ts => match Nat.beq f.offset off && Nat.beq ts.length (P.cellsOf f.type) with
      | true => match fieldsTy P rec (off + ts.length) fs with
        | some us => some (ts ++ us)
        | none => none
      | false => none
    | none => none
/-- The cells of a type. -/
def cellsTy (P : Program) : Nat → TypeId → Option (List Ty)
  | 0, _ => none
  | n + 1, t => match P.underlying t with
    | some (.int k) => some [.int k]
    | some .bool => some [.bool]
    | some .string => some [.str]
    | some (.slice e) => match cellsTy P n e with
      | some ts => match Nat.beq ts.length (P.cellsOf e) && Nat.blt 0 ts.length with
        | true => some [.row (Ty.ofList ts)]
        | false => none
      | none => none
    | some (.struct fs) => match fieldsTy P (cellsTy P n) 0 fs.toList with
      | some ts => match Nat.beq ts.length (P.cellsOf t) with
        | true => some ts
        | false => none
      | none => none
    | _ => none

section
variable {P : Program} {w : World} {F : Nat → Prop}

/-- Cells of these types. -/
def CellsAre (w : World) (F : Nat → Prop) (ts : List Ty) (cs : List Value) : Prop :=
  cs.length = ts.length ∧ ∀ (j : Nat) t u, ts[j]? = some t → cs[j]? = some u → t.cell = true ∧ ∃ x : t.T, Val w F t x u ∧ Good t x

theorem cell_size {t : Ty} (h : t.cell = true) : t.size = 1 := by cases t <;> first | rfl | cases h
theorem ofList_size : ∀ {ts : List Ty}, (∀ t ∈ ts, t.cell = true) → (Ty.ofList ts).size = ts.length
  | [], _ => rfl
  | [t], h => cell_size (h t (by simp))
  | t :: u :: r, h => by
    have := ofList_size (ts := u :: r) fun x hx => h x (by simp at hx ⊢; exact .inr hx)
    simp only [Ty.ofList, Ty.size, this, cell_size (h t (by simp)), List.length_cons]
    omega
theorem build : ∀ {ts : List Ty} {g : Nat → Option Value}, (∀ (j : Nat) t, ts[j]? = some t → t.cell = true ∧ ∃ (x : t.T) (u : Value), g j = some u ∧ Val w F t x u ∧ Good t x) →
    ∃ v : (Ty.ofList ts).T, Enc w F (Ty.ofList ts) v g ∧ Good (Ty.ofList ts) v
  | [], g, h => ⟨(), trivial, trivial⟩
  | [t], g, h => by
    obtain ⟨hc, x, u, h1, h2, h3⟩ := h 0 t rfl
    exact ⟨x, Enc.congr (fun j hj => by have hj : j < t.size := hj; rw [cell_size hc] at hj; rw [show j = 0 by omega]; exact h1) h2, h3⟩
  | t :: s :: r, g, h => by
    obtain ⟨hc, x, u, h1, h2, h3⟩ := h 0 t rfl
    obtain ⟨v, h4, h5⟩ := build (ts := s :: r) (g := fun j => g (1 + j)) fun j t' ht => by
      rw [Nat.add_comm]
      exact h (j + 1) t' (by simpa using ht)
    refine ⟨(x, v), ⟨Enc.congr (fun j hj => by rw [cell_size hc] at hj; rw [show j = 0 by omega]; exact h1) h2, ?_⟩, h3, h5⟩
    rw [cell_size hc]
    exact h4
theorem CellsAre.build {ts : List Ty} {cs : List Value} (h : CellsAre w F ts cs) : ∃ v : (Ty.ofList ts).T, Enc w F (Ty.ofList ts) v (fun j => cs[j]?) ∧ Good (Ty.ofList ts) v := by
  refine Go.Proofs.YtmbmapbdbbnaeaaT.build fun j t ht => ?_
  have hj : j < cs.length := by rw [h.1]; exact (List.getElem?_eq_some_iff.1 ht).1
  obtain ⟨h1, x, h2, h3⟩ := h.2 j t cs[j] ht (by simp [hj])
  exact ⟨h1, x, cs[j], by simp [hj], h2, h3⟩
theorem CellsAre.one {t : Ty} {u : Value} (hc : t.cell = true) {x : t.T} (h : Val w F t x u) (hg : Good t x) : CellsAre w F [t] [u] := by
  refine ⟨rfl, fun j t' u' ht hu => ?_⟩
  cases j with
  | zero => simp at ht hu; subst ht; subst hu; exact ⟨hc, x, h, hg⟩
  | succ j => simp at ht

/-- Every block of the heap. -/
def allOf (w : World) (b : Nat) : Prop := b < w.heap.size

theorem add_at {a : Addr} (h : a.spot = none) (n : Nat) : a.add n = ⟨a.block, a.off + n, none⟩ := by
  obtain ⟨b, o, s⟩ := a
  simp only at h
  subst h
  exact addr_add b o n

theorem trod_cells {H : Type} {enc : TypeId × Value → H} : ∀ (n : Nat) {t : TypeId} {ts : List Ty} {fuel : Nat} {cs : List Value} {x : DataW H × List MemPlace}, cellsTy P n t = some ts →
    DataW.trod enc P w 0 (fun _ => true) true fuel t cs = some x → CellsAre w (allOf w) ts cs := by
  intro n
  induction n with
  | zero => intro t ts fuel cs x hc h; cases hc
  | succ n ih =>
    intro t ts fuel cs x hc h
    simp only [cellsTy] at hc
    split at hc
    · rename_i k hu
      cases hc
      obtain ⟨m, rfl, _, hw⟩ := DataW.trod_int hu h
      exact CellsAre.one (t := .int k) rfl (x := m) rfl hw
    · rename_i hu
      cases hc
      obtain ⟨m, rfl, _⟩ := DataW.trod_bool hu h
      exact CellsAre.one (t := .bool) rfl (x := m) rfl trivial
    · rename_i hu
      cases hc
      obtain ⟨m, rfl, _, hw⟩ := DataW.trod_string hu h
      exact CellsAre.one (t := .str) rfl (x := m) rfl hw
    · rename_i e hu
      split at hc
      · rename_i us he
        split at hc
        · rename_i hl
          cases hc
          simp only [Bool.and_eq_true] at hl
          have hl1 : us.length = P.cellsOf e := beq_nat.1 hl.1
          have hl2 := nat_blt hl.2
          rcases Go.Deep.open_slice hu h with ⟨rfl, _⟩ | ⟨a, len, cap, m, nn, D, Pl, rfl, _, hle, hm, hmm, _, hel⟩
          · exact CellsAre.one (t := .row _) rfl (x := []) ⟨none, 0, rfl, Nat.le_refl _, .inl rfl⟩ ⟨Nat.zero_le _, fun i x hx => by simp at hx⟩
          · simp only [if_true] at hmm
            subst hmm
            by_cases h0 : len = 0
            · subst h0
              exact CellsAre.one (t := .row _) rfl (x := []) ⟨some a, m, rfl, Nat.zero_le _, .inl rfl⟩ ⟨Nat.zero_le _, fun i x hx => by simp at hx⟩
            · have at0 : a.spot = none ∧ a.block < w.heap.size := by
                obtain ⟨cs', h1, h2⟩ := hel 0 (by omega)
                obtain ⟨_, h3, h4⟩ := World.cells?_some h1
                have h5 := h4 0 (by omega)
                rw [List.getElem?_eq_getElem (by omega)] at h5
                have h6 : (a.add (0 * P.cellsOf e)).add 0 = a := by simp [Addr.add]
                rw [h6] at h5
                refine ⟨World.cell?_spot h5, ?_⟩
                unfold World.cell? at h5
                split at h5
                · rename_i hh; exact (Array.getElem?_eq_some_iff.1 hh).1
                · cases h5
              have el : ∀ i, i < len → ∃ v : (Ty.ofList us).T, Enc w (allOf w) (Ty.ofList us) v (fun j => w.cell? ⟨a.block, a.off + (i * us.length + j), none⟩) ∧ Good (Ty.ofList us) v ∧ (Ty.ofList us).size = us.length := by
                intro i hi
                obtain ⟨cs', h1, h2⟩ := hel i (by omega)
                have hca := ih he h2
                obtain ⟨v, hv, hg⟩ := hca.build
                obtain ⟨_, h3, h4⟩ := World.cells?_some h1
                have hsz : (Ty.ofList us).size = us.length := ofList_size fun t ht => by
                  obtain ⟨j, hj⟩ := List.getElem?_of_mem ht
                  have hjl := (List.getElem?_eq_some_iff.1 hj).1
                  exact (hca.2 j t cs'[j] hj (by simp)).1
                refine ⟨v, Enc.congr (fun j hj => ?_) hv, hg, hsz⟩
                rw [hsz] at hj
                rw [← h4 j (by omega), Go.Deep.add_add, add_at at0.1, hl1]
              have hsz : (Ty.ofList us).size = us.length := (el 0 (by omega)).choose_spec.2.2
              have hlist : ∃ l : List (Ty.ofList us).T, l.length = len ∧ ∀ (i : Nat) v, l[i]? = some v → Enc w (allOf w) (Ty.ofList us) v (fun j => w.cell? ⟨a.block, a.off + (i * us.length + j), none⟩) ∧ Good (Ty.ofList us) v := by
                have : ∀ k, k ≤ len → ∃ l : List (Ty.ofList us).T, l.length = k ∧ ∀ (i : Nat) v, l[i]? = some v → Enc w (allOf w) (Ty.ofList us) v (fun j => w.cell? ⟨a.block, a.off + (i * us.length + j), none⟩) ∧ Good (Ty.ofList us) v := by
                  intro k
                  induction k with
                  | zero => intro _; exact ⟨[], rfl, fun i v hv => by simp at hv⟩
                  | succ k ihk =>
                    intro hk
                    obtain ⟨l, g1, g2⟩ := ihk (by omega)
                    obtain ⟨v, v1, v2, _⟩ := el k (by omega)
                    refine ⟨l ++ [v], by simp [g1], fun i u hu => ?_⟩
                    rw [List.getElem?_append] at hu
                    split at hu
                    · exact g2 i u hu
                    · have hik : i = k := by
                        have : i - l.length < 1 := (List.getElem?_eq_some_iff.1 hu).1
                        omega
                      subst hik
                      simp only [g1, Nat.sub_self, List.getElem?_cons_zero, Option.some.injEq] at hu
                      subst hu
                      exact ⟨v1, v2⟩
                exact this len (Nat.le_refl _)
              obtain ⟨l, g1, g2⟩ := hlist
              subst g1
              refine CellsAre.one (t := .row _) rfl (x := l) ⟨some a, m, rfl, hle, .inr ⟨a, rfl, at0.1, at0.2, fun i x hx => ?_⟩⟩ ⟨by show l.length ≤ maxLen; omega, fun i x hx => (g2 i x hx).2⟩
              rw [hsz]
              exact (g2 i x hx).1
        · cases hc
      · cases hc
    · rename_i fs hu
      split at hc
      · rename_i ts' hf
        split at hc
        · rename_i hl
          cases hc
          have hl' : ts.length = P.cellsOf t := beq_nat.1 hl
          obtain ⟨xs, m, _, _, hlen, hsz, hfl⟩ := DataW.trod_struct hu h
          have go : ∀ (fs' : List Field) (off : Nat) (us : List Ty), (∀ f ∈ fs', ∃ y, DataW.trod enc P w 0 (fun _ => true) true m f.type ((cs.drop f.offset).take (P.cellsOf f.type)) = some y) → fieldsTy P (cellsTy P n) off fs' = some us →
              off + us.length = cs.length → CellsAre w (allOf w) us (cs.drop off) := by
            intro fs'
            induction fs' with
            | nil =>
              intro off us _ hus hoff
              simp only [fieldsTy] at hus
              cases hus
              refine ⟨by simp at hoff ⊢; omega, fun j t u ht => by simp at ht⟩
            | cons f fs' ihf =>
              intro off us hall hus hoff
              simp only [fieldsTy] at hus
              split at hus
              · rename_i t1 ht1
                split at hus
                · rename_i hb
                  simp only [Bool.and_eq_true] at hb
                  have e1 := beq_nat.1 hb.1
                  have e2 := beq_nat.1 hb.2
                  split at hus
                  · rename_i t2 ht2
                    cases hus
                    obtain ⟨y, hy⟩ := hall f (by simp)
                    have c1 := ih ht1 hy
                    have c2 := ihf (off + t1.length) t2 (fun f' hf' => hall f' (List.mem_cons_of_mem _ hf')) ht2 (by simp at hoff; omega)
                    have hsplit : cs.drop off = (cs.drop f.offset).take (P.cellsOf f.type) ++ cs.drop (off + t1.length) := by
                      rw [e1, ← e2, ← List.drop_drop, List.take_append_drop]
                    rw [hsplit]
                    refine ⟨by simp [c1.1, c2.1, -List.length_take, -List.length_drop], fun j t u ht hu => ?_⟩
                    rw [List.getElem?_append] at ht hu
                    rw [c1.1] at hu
                    split at ht
                    · rename_i hj; rw [if_pos hj] at hu; exact c1.2 j t u ht hu
                    · rename_i hj; rw [if_neg hj] at hu; exact c2.2 _ t u ht hu
                  · cases hus
                · cases hus
              · cases hus
          have := go fs.toList 0 ts (fun f hf' => by
            obtain ⟨i, hi⟩ := List.getElem?_of_mem hf'
            have hi2 : fs[i]? = some f := by simpa using hi
            have hlt : i < xs.length := by rw [hsz]; exact (Array.getElem?_eq_some_iff.1 hi2).1
            exact ⟨xs[i], by rw [hfl i f hi2, List.getElem?_eq_getElem hlt]⟩) hf (by omega)
          simpa using this
        · cases hc
      · cases hc
    · cases hc

end
end Go.Proofs.YtmbmapbdbbnaeaaT
