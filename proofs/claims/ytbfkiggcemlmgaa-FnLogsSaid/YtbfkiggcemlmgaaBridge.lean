/- What the kit reads as data of an argument, told by the print's kinds: whole numbers, bools, slices, structs, each in each. -/
import Derived.Test.YtbfkiggcemlmgaaWMore
import Derived.ProofKit
import Derived.OpenShut
import Derived.Deep.Slices
import Derived.ChangeOld
import Derived.Below
set_option linter.unusedVariables false
namespace Go.Proofs.Ytbfkiggcemlmgaa.Bridge
open Go.RowKit Go.ChangeShapes Go.WideShapes Go.Proofs.YtbfkiggcemlmgaaW.PrintWords
variable {P : Program} {w : World}
/-- Whatever reads as data at type t is of kind d, and g holds of it. -/
def Opens (P : Program) (w : World) (t : TypeId) {α : Type} (d : Kd α) (g : α → Prop) : Prop :=
  ∀ (H : Type) (enc : TypeId × Value → H) (fuel : Nat) (cs : List Value) (x : DataW H × List MemPlace), DataW.trod enc P w 0 (fun _ => true) true fuel t cs = some x → ∃ a, d.K w a cs ∧ g a
theorem opens_int {t : TypeId} {k : IntKind} (ht : P.underlying t = some (.int k)) : Opens P w t (Kd.int k) (fun n => (Lit.int k n).wf = true) := by
  intro H enc fuel cs x h
  obtain ⟨n, rfl, _, hw⟩ := DataW.trod_int ht h
  exact ⟨n, rfl, hw⟩
theorem opens_bool {t : TypeId} (ht : P.underlying t = some .bool) : Opens P w t Kd.bool (fun _ => True) := by
  intro H enc fuel cs x h
  obtain ⟨n, rfl, _⟩ := DataW.trod_bool ht h
  exact ⟨n, rfl, trivial⟩
theorem list_of {α : Type} {Q : Nat → α → Prop} : ∀ n : Nat, (∀ i, i < n → ∃ a, Q i a) → ∃ xs : List α, xs.length = n ∧ ∀ i p, xs[i]? = some p → Q i p
  | 0, _ => ⟨[], rfl, fun i p h => by simp at h⟩
  | n + 1, h => by
    obtain ⟨xs, hl, hx⟩ := list_of n (fun i hi => h i (by omega))
    obtain ⟨a, ha⟩ := h n (by omega)
    refine ⟨xs ++ [a], by simp [hl], fun i p hp => ?_⟩
    by_cases e : i < xs.length
    · rw [List.getElem?_append_left e] at hp; exact hx i p hp
    · rw [List.getElem?_append_right (by omega)] at hp
      by_cases e2 : i - xs.length = 0
      · rw [e2] at hp; simp at hp; subst hp
        rwa [show i = n by omega]
      · rw [List.getElem?_eq_none (by simp; omega)] at hp; cases hp
theorem opens_slice {t e : TypeId} {α : Type} {d : Kd α} {g : α → Prop} {n : Nat} (ht : P.underlying t = some (.slice e)) (hn : P.cellsOf e = n) (hs : d.sz = n) (h : Opens P w e d g) : Opens P w t (Kd.slice e d) (fun xs => ∀ x ∈ xs, g x) := by
  intro H enc fuel cs x hf
  rcases Go.Deep.open_slice ht hf with ⟨rfl, _⟩ | ⟨a, len, cap, m, nn, D, Pl, rfl, _, hl, hm, hmm, _, hel⟩
  · exact ⟨[], ⟨none, 0, rfl, Nat.le_refl _, Kd.C_nil d w⟩, fun x hx => by cases hx⟩
  · have hle : len ≤ m := by rw [hmm]; simpa using hl
    obtain ⟨xs, hx, hq⟩ := list_of (Q := fun i p => (∃ c, c.length = d.sz ∧ d.K w p c ∧ ∀ j u, c[j]? = some u → w.cell? (a.add (i * d.sz + j)) = some u) ∧ g p) len (fun i hi => by
      obtain ⟨cs', hc, ht'⟩ := hel i (by omega)
      obtain ⟨p, hk, hg⟩ := h H enc nn cs' _ ht'
      obtain ⟨_, hcl, hcc⟩ := World.cells?_some hc
      refine ⟨p, ⟨cs', by rw [hcl, hs, hn], hk, fun j u hj => ?_⟩, hg⟩
      have hj' : j < cs'.length := (List.getElem?_eq_some_iff.1 hj).1
      have := hcc j (by omega)
      rw [Go.Deep.add_add, hn] at this
      rw [hs, this, hj])
    subst hx
    refine ⟨xs, ⟨some a, cap, rfl, hl, rfl, ?_, fun _ => ⟨a, rfl, fun j p hp => (hq j p hp).1⟩⟩, fun p hp => ?_⟩
    · unfold maxLen at hm; omega
    · obtain ⟨i, hi⟩ := List.getElem?_of_mem hp
      exact (hq i p hi).2
/-- Fields in line, from cell 'off' on. -/
def Flds (P : Program) (w : World) (fs : List Field) (off tot : Nat) {α : Type} (d : Kd α) (g : α → Prop) : Prop :=
  ∀ (H : Type) (enc : TypeId × Value → H) (fuel : Nat) (cs : List Value), cs.length = tot → (∀ f ∈ fs, ∃ x, DataW.trod enc P w 0 (fun _ => true) true fuel f.type ((cs.drop f.offset).take (P.cellsOf f.type)) = some x) → ∃ a, d.K w a (cs.drop off) ∧ g a
theorem flds_one {f : Field} {off tot n : Nat} {α : Type} {d : Kd α} {g : α → Prop} (ho : f.offset = off) (hn : P.cellsOf f.type = n) (htot : off + n = tot) (h : Opens P w f.type d g) : Flds P w [f] off tot d g := by
  intro H enc fuel cs hl hf
  obtain ⟨x, hx⟩ := hf f (by simp)
  rw [ho, hn, List.take_of_length_le (by simp; omega)] at hx
  exact h H enc fuel _ _ hx
theorem flds_cons {f : Field} {fs : List Field} {off tot n : Nat} {α β : Type} {d : Kd α} {d' : Kd β} {g : α → Prop} {g' : β → Prop} (ho : f.offset = off) (hn : P.cellsOf f.type = n) (h : Opens P w f.type d g) (r : Flds P w fs (off + n) tot d' g') :
    Flds P w (f :: fs) off tot (Kd.pair d d') (fun x => g x.1 ∧ g' x.2) := by
  intro H enc fuel cs hl hf
  obtain ⟨x, hx⟩ := hf f (by simp)
  rw [ho, hn] at hx
  obtain ⟨a, ka, ga⟩ := h H enc fuel _ _ hx
  obtain ⟨b, kb, gb⟩ := r H enc fuel cs hl (fun f' hf' => hf f' (List.mem_cons_of_mem _ hf'))
  refine ⟨(a, b), ⟨_, _, ?_, ka, kb⟩, ga, gb⟩
  rw [← List.drop_drop, List.take_append_drop]
theorem opens_struct {t : TypeId} {fs : List Field} {n : Nat} {α : Type} {d : Kd α} {g : α → Prop} (ht : P.underlying t = some (.struct fs.toArray)) (hn : P.cellsOf t = n) (h : Flds P w fs 0 n d g) : Opens P w t d g := by
  intro H enc fuel cs x hx
  obtain ⟨xs, m, _, _, hl, hsz, hf⟩ := DataW.trod_struct ht hx
  have := h H enc m cs (by rw [hl, hn]) (fun f hf' => by
    obtain ⟨i, hi⟩ := List.getElem?_of_mem hf'
    have hi2 : fs.toArray[i]? = some f := by simpa using hi
    have hlt : i < xs.length := by
      have := (List.getElem?_eq_some_iff.1 hi).1
      rw [hsz]; simpa using this
    exact ⟨xs[i], by rw [hf i f hi2, List.getElem?_eq_getElem hlt]⟩)
  simpa using this
theorem opens_iso {t : TypeId} {α β : Type} {d : Kd α} {g : α → Prop} (f : β → α) (b : α → β) (hb : ∀ a, f (b a) = a) (h : Opens P w t d g) : Opens P w t (Kd.iso d f) (fun x => g (f x)) := by
  intro H enc fuel cs x hx
  obtain ⟨a, ka, ga⟩ := h H enc fuel cs x hx
  exact ⟨b a, by show d.K w (f (b a)) cs; rw [hb]; exact ka, by show g (f (b a)); rw [hb]; exact ga⟩
/-- An argument that is a struct. -/
theorem arg_struct {t : TypeId} {cs : Array Value} {α : Type} {d : Kd α} {g : α → Prop} {H : Type} {enc : TypeId × Value → H} {dd : DataW H} {p : List MemPlace} (h : Opens P w t d g) (hj : DataW.Trod enc P w 0 (fun _ => true) true t (.agg cs) dd p) : ∃ a, d.K w a cs.toList ∧ g a := by
  obtain ⟨m, hm⟩ := hj
  exact h H enc m _ _ (by simpa [Value.cells] using hm)
/-- An argument that is a slice. -/
theorem arg_slice {t e : TypeId} {A : Option Addr} {len cap : Nat} {α : Type} {d : Kd α} {g : List α → Prop} {H : Type} {enc : TypeId × Value → H} {dd : DataW H} {p : List MemPlace} (h : Opens P w t (Kd.slice e d) g) (hj : DataW.Trod enc P w 0 (fun _ => true) true t (.slice A len cap) dd p) :
    ∃ xs : List α, len = xs.length ∧ xs.length ≤ cap ∧ d.C w A xs.length xs ∧ g xs := by
  obtain ⟨m, hm⟩ := hj
  obtain ⟨xs, ⟨A', c, hc, hl, hr⟩, hg⟩ := h H enc m _ _ (by simpa [Value.cells] using hm)
  injection hc with hc _
  injection hc with h1 h2 h3
  subst h1 h2 h3
  exact ⟨xs, rfl, hl, hr, hg⟩
end Go.Proofs.Ytbfkiggcemlmgaa.Bridge
