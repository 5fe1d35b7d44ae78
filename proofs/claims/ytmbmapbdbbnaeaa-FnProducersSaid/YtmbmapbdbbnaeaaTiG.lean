/- Reading: operands, cells as values, rows that are frozen. -/
import Derived.Test.YtmbmapbdbbnaeaaTiF
set_option linter.unusedVariables false
set_option linter.unusedSimpArgs false
namespace Go.Proofs.YtmbmapbdbbnaeaaT
open Go

section
variable {B : Base} {S : St} {E : Env} {a : Act} {w : World}

theorem toks_cons (c : AC) (l : List AC) : toks (c :: l) = toks [c] ++ toks l := by cases c <;> rfl
theorem toks_append (l m : List AC) : toks (l ++ m) = toks l ++ toks m := by
  induction l with
  | nil => rfl
  | cons c l ih => rw [List.cons_append, toks_cons, ih, toks_cons c l, List.append_assoc]

theorem freeze_upd {S : St} {k : Nat} {r : RowSt} (hk : S.rows k = some r) (hh : r.t.holed = false) : ∀ l : List Nat, freeze { S with rows := upd S.rows k (some { r with own := false }) } l = freeze S l
  | [] => rfl
  | n :: l => by
    simp only [freeze, freeze_upd hk hh l]
    by_cases e : n = k
    · subst e; rw [upd_same, hk]
    · rw [upd_ne e]

theorem setAll_cons {α : Type} (f : Nat → Option α) (k : Nat) (x : Option α) (l : List (Nat × Option α)) : setAll f ((k, x) :: l) = setAll (upd f k x) l := rfl
theorem setAll_append {α : Type} (f : Nat → Option α) : ∀ l m : List (Nat × Option α), setAll f (l ++ m) = setAll (setAll f l) m
  | [], _ => rfl
  | (k, x) :: l, m => setAll_append (upd f k x) l m

/-- The blocks of the rows that are frozen. -/
def FZ (S : St) (E : Env) (w : World) (ks : List Nat) (b : Nat) : Prop := E.F b ∨ ∃ k ∈ ks, ∃ r, S.rows k = some r ∧ r.own = true ∧ OwnB w (E.hv k) r.t r.l b ∧ r.t.holed = false

theorem Sim.freeze (h : Sim B S E a w) : ∀ (ks : List Nat), ∃ E', Sim B { S with rows := setAll S.rows (freeze S ks) } E' a w ∧ E.le w w E' ∧ (∀ n, E'.U n ↔ E.U n) ∧
    (∀ k ∈ ks, ∀ r, S.rows k = some r → r.t.holed = false → Enc w E'.F (.row r.t) r.l (fun _ => some (E.hv k))) ∧ (∀ b, E'.F b ↔ FZ S E w ks b) := by
  intro ks
  induction ks generalizing S E with
  | nil => exact ⟨E, h, Env.le.refl w E, fun _ => Iff.rfl, fun k hk => (by cases hk), fun b => ⟨.inl, fun hb => hb.elim id fun ⟨k, hk, _⟩ => by cases hk⟩⟩
  | cons k ks ih =>
    have skip : Go.Proofs.YtmbmapbdbbnaeaaT.freeze S (k :: ks) = Go.Proofs.YtmbmapbdbbnaeaaT.freeze S ks → (∀ r, S.rows k = some r → r.t.holed = true) →
        ∃ E', Sim B { S with rows := setAll S.rows (Go.Proofs.YtmbmapbdbbnaeaaT.freeze S (k :: ks)) } E' a w ∧ E.le w w E' ∧ (∀ n, E'.U n ↔ E.U n) ∧
          (∀ n ∈ k :: ks, ∀ r, S.rows n = some r → r.t.holed = false → Enc w E'.F (.row r.t) r.l (fun _ => some (E.hv n))) ∧ (∀ b, E'.F b ↔ FZ S E w (k :: ks) b) := fun hf hno => by
      obtain ⟨E', h1, h2, h3, h4, h5⟩ := ih h
      refine ⟨E', by rw [hf]; exact h1, h2, h3, fun n hn r hr hh => ?_, fun b => (h5 b).trans ⟨fun hb => hb.imp id fun ⟨n, hn, x⟩ => ⟨n, List.mem_cons_of_mem _ hn, x⟩, fun hb => hb.imp id fun ⟨n, hn, r, hr, ho, hg, hh⟩ => ?_⟩⟩
      · rcases List.mem_cons.1 hn with rfl | hn
        · rw [hno r hr] at hh; cases hh
        · exact h4 n hn r hr hh
      · rcases List.mem_cons.1 hn with rfl | hn
        · rw [hno r hr] at hh; cases hh
        · exact ⟨n, hn, r, hr, ho, hg, hh⟩
    cases hk : S.rows k with
    | none => exact skip (by simp only [Go.Proofs.YtmbmapbdbbnaeaaT.freeze, hk]) (fun r hr => by rw [hk] at hr; cases hr)
    | some r =>
      cases hh : r.t.holed with
      | true => exact skip (by simp only [Go.Proofs.YtmbmapbdbbnaeaaT.freeze, hk, hh]) (fun r' hr => by rw [hk] at hr; cases hr; exact hh)
      | false =>
      obtain ⟨E1, g1, g2, g3, g4, g5⟩ := h.freezeOne hk hh
      obtain ⟨E', h1, h2, h3, h4, h5⟩ := ih g1
      refine ⟨E', ?_, g2.trans h2, fun n => (h3 n).trans (g3 n), fun n hn r' hr' hh' => ?_, fun b => (h5 b).trans ⟨fun hb => ?_, fun hb => ?_⟩⟩
      · simp only [Go.Proofs.YtmbmapbdbbnaeaaT.freeze, hk, hh, setAll_cons]
        rw [freeze_upd hk hh] at h1
        exact h1
      · by_cases e : n = k
        · subst e
          rw [hk] at hr'
          cases hr'
          exact Enc.mono h2.F h2.heap (fun _ _ => rfl) g4
        · have hn' : n ∈ ks := (List.mem_cons.1 hn).resolve_left e
          have := h4 n hn' r' (by show upd S.rows k _ n = _; rw [upd_ne e]; exact hr') hh'
          rw [g2.hv n (h.rowU n r' hr')] at this
          exact this
      · rcases hb with hb | ⟨n, hn, r', hr', ho', hg', hh'⟩
        · rcases (g5 b).1 hb with hb | ⟨ho, hb⟩
          · exact .inl hb
          · exact .inr ⟨k, by simp, r, hk, ho, hb, hh⟩
        · rcases upd_cases hr' with ⟨_, e2⟩ | ⟨hne, hr2⟩
          · cases e2; cases ho'
          · rw [g2.hv n (h.rowU n r' hr2)] at hg'
            exact .inr ⟨n, List.mem_cons_of_mem _ hn, r', hr2, ho', hg', hh'⟩
      · rcases hb with hb | ⟨n, hn, r', hr', ho', hg', hh'⟩
        · exact .inl ((g5 b).2 (.inl hb))
        · by_cases e : n = k
          · subst e
            rw [hk] at hr'
            cases hr'
            exact .inl ((g5 b).2 (.inr ⟨ho', hg'⟩))
          · exact .inr ⟨n, (List.mem_cons.1 hn).resolve_left e, r', by show upd S.rows k _ n = _; rw [upd_ne e]; exact hr', ho', by rw [g2.hv n (h.rowU n r' hr')]; exact hg', hh'⟩

/-- What rows read as, wherever they lie. -/
def Reads (S : St) (E : Env) (w : World) (F : Nat → Prop) (ks : List Nat) : Prop := ∀ k ∈ ks, ∀ r, S.rows k = some r → r.t.holed = false → Enc w F (.row r.t) r.l (fun _ => some (E.hv k))

theorem cast?_some {t u : Ty} {x : t.T} {y : u.T} (h : cast? t u x = some y) : ∃ e : t = u, y = e ▸ x := by
  unfold cast? at h
  split at h
  · rename_i e; cases h; exact ⟨e, rfl⟩
  · cases h

theorem cast?_none {t u : Ty} (h : t ≠ u) (x : t.T) : cast? t u x = none := dif_neg h
theorem readRow_val {F : Nat → Prop} {u t : Ty} {l : List t.T} {x : u.T} {v : Value} (h : readRow u t l = some x) : t.holed = false ∧ (Enc w F (.row t) l (fun _ => some v) → Val w F u x v) := by
  cases t with
  | deep n t =>
    cases n with
    | some n => simp only [readRow] at h; cases h
    | none =>
      refine ⟨rfl, fun he => ?_⟩
      simp only [readRow] at h
      split at h
      · rename_i y hy
        cases h
        obtain ⟨e1, e2⟩ := cast?_some hy
        subst e1; subst e2
        exact he
      · obtain ⟨e1, e2⟩ := cast?_some h
        subst e1; subst e2
        simp only [Val, Enc, Ty.size] at he ⊢
        exact he
  | _ =>
    refine ⟨rfl, fun he => ?_⟩
    simp only [readRow] at h
    obtain ⟨e1, e2⟩ := cast?_some h
    subst e1; subst e2
    exact he

theorem asT_val {F : Nat → Prop} (hF : ∀ b, E.F b → F b) {c : AC} {v : Value} {u : Ty} {x : u.T} (hr : Reads S E w F (toks [c])) (hc : ACr w E c v) (h : asT S u c = some x) : Val w F u x v := by
  cases c with
  | v t y =>
    obtain ⟨rfl, rfl⟩ := cast?_some h
    exact Enc.mono hF (fun _ _ => rfl) (fun _ _ => rfl) hc.2
  | own k =>
    simp only [asT] at h
    split at h
    · rename_i r hk
      obtain ⟨h1, h2⟩ := readRow_val h
      have := hr k (by simp [toks]) r hk h1
      rw [← hc.2.1] at this
      exact h2 this
    · cases h
  | nil =>
    cases u <;> simp only [asT] at h <;> cases h
    show Enc _ _ _ _ _
    simp only [Enc]
    exact ⟨none, 0, by rw [show v = .slice none 0 0 from hc]; rfl, by simp, .inl rfl⟩
  | ptr b o => simp only [asT] at h; cases h
  | eS t y o => simp only [asT] at h; cases h
  | eO k i o => simp only [asT] at h; cases h
  | inn k m s => simp only [asT] at h; cases h
  | sub k lo hi => simp only [asT] at h; cases h
  | ownR k m => simp only [asT] at h; cases h

theorem ACs.cons_inv {w : World} {E : Env} {c : AC} {cs : List AC} {us : List Value} (h : ACs w E (c :: cs) us) : ∃ u us', us = u :: us' ∧ ACr w E c u ∧ ACs w E cs us' := by
  cases us with
  | nil => cases h.1
  | cons u us =>
    refine ⟨u, us, rfl, h.2 0 c u rfl rfl, by simpa using h.1, fun j c' u' hc hu => h.2 (j + 1) c' u' (by simpa using hc) (by simpa using hu)⟩
theorem ACs.nil_inv {w : World} {E : Env} {us : List Value} (h : ACs w E [] us) : us = [] := List.eq_nil_of_length_eq_zero h.1.symm
theorem ACs.mk_nil {w : World} {E : Env} : ACs w E [] [] := ⟨rfl, fun j c u hc => by simp at hc⟩
theorem ACs.mk_cons {w : World} {E : Env} {c : AC} {cs : List AC} {u : Value} {us : List Value} (hc : ACr w E c u) (h : ACs w E cs us) : ACs w E (c :: cs) (u :: us) := by
  refine ⟨by simp [h.1], fun j c' u' h1 h2 => ?_⟩
  cases j with
  | zero => simp at h1 h2; subst h1; subst h2; exact hc
  | succ j => exact h.2 j c' u' (by simpa using h1) (by simpa using h2)
theorem ACs.append {w : World} {E : Env} {cs ds : List AC} {us vs : List Value} (h : ACs w E cs us) (k : ACs w E ds vs) : ACs w E (cs ++ ds) (us ++ vs) := by
  refine ⟨by simp [h.1, k.1], fun j c u hc hu => ?_⟩
  rw [List.getElem?_append] at hc hu
  rw [h.1] at hc
  split at hc
  · rename_i hj; rw [if_pos hj] at hu; exact h.2 j c u hc hu
  · rename_i hj; rw [if_neg hj] at hu; exact k.2 _ c u hc hu
theorem ACs.take {w : World} {E : Env} {cs : List AC} {us : List Value} (h : ACs w E cs us) (n : Nat) : ACs w E (cs.take n) (us.take n) := by
  refine ⟨by simp [h.1], fun j c u hc hu => ?_⟩
  rw [List.getElem?_take] at hc hu
  split at hc
  · rename_i hj; rw [if_pos hj] at hu; exact h.2 j c u hc hu
  · cases hc
theorem ACs.drop {w : World} {E : Env} {cs : List AC} {us : List Value} (h : ACs w E cs us) (n : Nat) : ACs w E (cs.drop n) (us.drop n) := by
  refine ⟨by simp [h.1], fun j c u hc hu => ?_⟩
  rw [List.getElem?_drop] at hc hu
  exact h.2 _ c u hc hu

theorem toks_mem_take {l : List AC} {n k : Nat} (h : k ∈ toks (l.take n)) : k ∈ toks l := by
  rw [← List.take_append_drop n l, toks_append]; exact List.mem_append_left _ h
theorem toks_mem_drop {l : List AC} {n k : Nat} (h : k ∈ toks (l.drop n)) : k ∈ toks l := by
  rw [← List.take_append_drop n l, toks_append]; exact List.mem_append_right _ h

theorem parse_one {F : Nat → Prop} (hF : ∀ b, E.F b → F b) {u : Ty} (hu : ∀ g : Nat → Option Value, ∀ x : u.T, ∀ v, g 0 = some v → Val w F u x v → Enc w F u x g) {c : AC} {us : List Value} {x : u.T}
    (hr : Reads S E w F (toks [c])) (hc : ACs w E [c] us) (h : asT S u c = some x) : Enc w F u x (fun j => us[j]?) := by
  obtain ⟨v, us', rfl, h1, h2⟩ := hc.cons_inv
  obtain rfl := h2.nil_inv
  exact hu _ _ _ rfl (asT_val hF hr h1 h)

/-- Cells read as a value of a type. -/
theorem parse_enc {F : Nat → Prop} (hF : ∀ b, E.F b → F b) : ∀ {u : Ty} {cs : List AC} {us : List Value} {x : u.T}, Reads S E w F (toks cs) → ACs w E cs us → parse S u cs = some x → us.length = u.size ∧ Enc w F u x (fun j => us[j]?)
  | .unit, [], us, x, _, hc, h => ⟨by rw [hc.nil_inv]; rfl, trivial⟩
  | .unit, _ :: _, us, x, _, hc, h => by simp only [parse] at h; cases h
  | .pair p q, cs, us, x, hr, hc, h => by
    simp only [parse, Option.bind_eq_some_iff] at h
    obtain ⟨y, hy, z, hz, e⟩ := h
    cases e
    obtain ⟨l1, e1⟩ := parse_enc hF (fun k hk => hr k (toks_mem_take hk)) (hc.take p.size) hy
    obtain ⟨l2, e2⟩ := parse_enc hF (fun k hk => hr k (toks_mem_drop hk)) (hc.drop p.size) hz
    refine ⟨?_, ?_⟩
    · simp only [Ty.size]
      rw [List.length_drop] at l2
      rw [List.length_take] at l1
      by_cases hq : us.length ≤ p.size
      · omega
      · omega
    · simp only [Enc]
      refine ⟨e1.congr fun j hj => ?_, e2.congr fun j hj => ?_⟩
      · rw [List.getElem?_take, if_pos hj]
      · rw [List.getElem?_drop]
  | .deep _ t, cs, us, x, hr, hc, h => by
    simp only [parse] at h
    obtain ⟨l1, e1⟩ := parse_enc hF hr hc h
    exact ⟨by simp only [Ty.size]; exact l1, by simp only [Enc]; exact e1⟩
  | .int k, [c], us, x, hr, hc, h => ⟨by rw [← hc.1]; rfl, parse_one hF (fun g x v h0 hv => by simp only [Val, Enc] at hv ⊢; rw [h0]; exact hv) hr hc h⟩
  | .bool, [c], us, x, hr, hc, h => ⟨by rw [← hc.1]; rfl, parse_one hF (fun g x v h0 hv => by simp only [Val, Enc] at hv ⊢; rw [h0]; exact hv) hr hc h⟩
  | .str, [c], us, x, hr, hc, h => ⟨by rw [← hc.1]; rfl, parse_one hF (fun g x v h0 hv => by simp only [Val, Enc] at hv ⊢; rw [h0]; exact hv) hr hc h⟩
  | .row t, [c], us, x, hr, hc, h => ⟨by rw [← hc.1]; rfl, parse_one hF (fun g x v h0 hv => by simp only [Val, Enc] at hv ⊢; rw [h0]; exact hv) hr hc h⟩
  | .dead, [c], us, x, hr, hc, h => ⟨by rw [← hc.1]; rfl, parse_one hF (fun g x v h0 hv => by simp only [Val, Enc] at hv ⊢; rw [h0]; exact hv) hr hc h⟩
  | .dead, [], us, x, hr, hc, h => by simp only [parse] at h; cases h
  | .dead, _ :: _ :: _, us, x, hr, hc, h => by simp only [parse] at h; cases h
  | .part t, cs, us, x, hr, hc, h => by
    cases cs with
    | nil => simp only [parse] at h; cases h
    | cons c cs => cases cs <;> (simp only [parse] at h; cases h)
  | .int k, [], us, x, hr, hc, h => by simp only [parse] at h; cases h
  | .bool, [], us, x, hr, hc, h => by simp only [parse] at h; cases h
  | .str, [], us, x, hr, hc, h => by simp only [parse] at h; cases h
  | .row t, [], us, x, hr, hc, h => by simp only [parse] at h; cases h
  | .int k, _ :: _ :: _, us, x, hr, hc, h => by simp only [parse] at h; cases h
  | .bool, _ :: _ :: _, us, x, hr, hc, h => by simp only [parse] at h; cases h
  | .str, _ :: _ :: _, us, x, hr, hc, h => by simp only [parse] at h; cases h
  | .row t, _ :: _ :: _, us, x, hr, hc, h => by simp only [parse] at h; cases h

/-- A value of a type as cells. -/
theorem flat_acs : ∀ {u : Ty} {x : u.T} {us : List Value}, us.length = u.size → Enc w E.F u x (fun j => us[j]?) → ACs w E (flat u x) us
  | .unit, x, us, hl, h => by rw [List.eq_nil_of_length_eq_zero hl]; exact ACs.mk_nil
  | .pair p q, x, us, hl, h => by
    simp only [flat]
    simp only [Ty.size] at hl
    rw [← List.take_append_drop p.size us]
    simp only [Enc] at h
    refine ACs.append (flat_acs (by rw [List.length_take]; omega) (h.1.congr fun j hj => ?_)) (flat_acs (by rw [List.length_drop]; omega) (h.2.congr fun j hj => ?_))
    · rw [List.getElem?_take, if_pos hj]
    · rw [List.getElem?_drop]
  | .deep _ t, x, us, hl, h => flat_acs (u := t) (by simpa only [Ty.size] using hl) (by simpa only [Enc] using h)
  | .int k, x, us, hl, h => one rfl hl (fun v e => by simp only [Val, Enc] at h ⊢; rw [← h, e])
  | .bool, x, us, hl, h => one rfl hl (fun v e => by simp only [Val, Enc] at h ⊢; rw [← h, e])
  | .str, x, us, hl, h => one rfl hl (fun v e => by simp only [Val, Enc] at h ⊢; rw [← h, e])
  | .row t, x, us, hl, h => one rfl hl (fun v e => by simp only [Val, Enc] at h ⊢; rw [← e]; exact h)
  | .dead, x, us, hl, h => one rfl hl (fun v e => by simp only [Val, Enc] at h ⊢; rw [← e]; exact h)
  | .part t, x, us, hl, h => by
    simp only [Ty.size] at hl
    simp only [Enc] at h
    refine ⟨by simp only [flat, List.length_replicate]; exact hl.symm, fun j c u hc hu => ?_⟩
    simp only [flat, List.getElem?_replicate] at hc
    split at hc
    · rename_i hj
      cases hc
      obtain ⟨u', e, h1⟩ := h j hj
      rw [hu] at e
      cases e
      exact ⟨rfl, u, rfl, h1⟩
    · cases hc
where
  one {t : Ty} {x : t.T} {us : List Value} (ht : t.cell = true) (hl : us.length = 1) (h : ∀ v, us[0]? = some v → Val w E.F t x v) : ACs w E [.v t x] us := by
    match us, hl with
    | [v], _ => exact ACs.mk_cons ⟨ht, h v rfl⟩ ACs.mk_nil

theorem acOf_acr {v : Value} {c : AC} (h : acOf v = some c) : ACr w E c v := by
  unfold acOf at h
  split at h <;> cases h
  · exact ⟨rfl, rfl⟩
  · exact ⟨rfl, rfl⟩
  · exact ⟨rfl, rfl⟩
  · rfl
theorem acsOf_acs : ∀ {vs : List Value} {cs : List AC}, acsOf vs = some cs → ACs w E cs vs
  | [], cs, h => by simp only [acsOf] at h; cases h; exact ACs.mk_nil
  | v :: vs, cs, h => by
    simp only [acsOf, Option.bind_eq_some_iff] at h
    obtain ⟨c, hc, cs', hcs, e⟩ := h
    cases e
    exact ACs.mk_cons (acOf_acr hc) (acsOf_acs hcs)

theorem Sim.eval (h : Sim B S E a w) {x : Operand} {av : AV} (he : evalS S x = some av) : AVr w E av (a.eval x) := by
  unfold evalS at he
  split at he
  · exact (h.tmps _ _ he).2
  · simp only [Option.bind_eq_some_iff] at he
    obtain ⟨l, hl, e⟩ := he
    cases e
    exact ⟨_, by simp [Act.eval], acsOf_acs hl⟩
  · simp only [Option.bind_eq_some_iff] at he
    obtain ⟨c, hc, e⟩ := he
    cases e
    exact acOf_acr hc
  · cases he
    exact ⟨[], rfl, rfl, fun j c u hc => by simp at hc⟩
  · cases he
theorem Sim.evalC (h : Sim B S E a w) {x : Operand} {c : AC} (he : evalC S x = some c) : ACr w E c (a.eval x) := by
  unfold Go.Proofs.YtmbmapbdbbnaeaaT.evalC at he
  split at he
  · rename_i hx; cases he; exact h.eval hx
  · cases he
theorem Sim.evalW (h : Sim B S E a w) {x : Operand} {c : AW} (he : evalW S x = some c) : AWr w E c (a.eval x) := by
  unfold Go.Proofs.YtmbmapbdbbnaeaaT.evalW at he
  split at he
  · rename_i hx; cases he; exact h.eval hx
  · cases he

end
end Go.Proofs.YtmbmapbdbbnaeaaT
