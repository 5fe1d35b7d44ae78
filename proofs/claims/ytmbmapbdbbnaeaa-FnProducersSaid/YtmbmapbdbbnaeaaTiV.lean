/- Calls: the caller goes on. -/
import Derived.Test.YtmbmapbdbbnaeaaTiU
set_option linter.unusedVariables false
set_option linter.unusedSimpArgs false
namespace Go.Proofs.YtmbmapbdbbnaeaaT
open Go

section
variable {P : Program} {B : Base} {S : St} {E E2 : Env} {a : Act} {w w' : World}

theorem setAll_key {α : Type} {n : Nat} : ∀ {l : List (Nat × Option α)} {f g : Nat → Option α}, (∃ p ∈ l, p.1 = n) → setAll f l n = setAll g l n
  | [], f, g, ⟨p, hp, _⟩ => by cases hp
  | (k, x) :: l, f, g, ⟨p, hp, e⟩ => by
    rw [setAll_cons, setAll_cons]
    by_cases h : ∃ q ∈ l, q.1 = n
    · exact setAll_key h
    · have hn : ∀ q ∈ l, q.1 ≠ n := fun q hq e => h ⟨q, hq, e⟩
      rw [setAll_not hn, setAll_not hn]
      rcases List.mem_cons.1 hp with rfl | hp
      · subst e; rw [upd_same, upd_same]
      · exact absurd e (hn p hp)
theorem setBoxes_cons {α : Type} (f : Nat → Option α) (k : Nat) (x : α) (l : List (Nat × α)) : setBoxes f ((k, x) :: l) = setBoxes (upd f k (some x)) l := rfl
theorem setBoxes_not {α : Type} {n : Nat} : ∀ {l : List (Nat × α)} {f : Nat → Option α}, (∀ p ∈ l, p.1 ≠ n) → setBoxes f l n = f n
  | [], _, _ => rfl
  | (k, x) :: l, f, h => by
    rw [setBoxes_cons, setBoxes_not (fun p hp => h p (List.mem_cons_of_mem _ hp)), upd_ne (Ne.symm (h (k, x) (by simp)))]
theorem setBoxes_key {α : Type} {n : Nat} : ∀ {l : List (Nat × α)} {f g : Nat → Option α}, (∃ p ∈ l, p.1 = n) → setBoxes f l n = setBoxes g l n
  | [], f, g, ⟨p, hp, _⟩ => by cases hp
  | (k, x) :: l, f, g, ⟨p, hp, e⟩ => by
    rw [setBoxes_cons, setBoxes_cons]
    by_cases h : ∃ q ∈ l, q.1 = n
    · exact setBoxes_key h
    · have hn : ∀ q ∈ l, q.1 ≠ n := fun q hq e => h ⟨q, hq, e⟩
      rw [setBoxes_not hn, setBoxes_not hn]
      rcases List.mem_cons.1 hp with rfl | hp
      · subst e; rw [upd_same, upd_same]
      · exact absurd e (hn p hp)

theorem mkAt_append : ∀ {s1 s2 : List CSh} {fl : List AC} {i : Nat}, s1.length ≤ fl.length → mkAt i (s1 ++ s2) fl = mkAt i s1 (fl.take s1.length) ++ mkAt (i + s1.length) s2 (fl.drop s1.length)
  | [], s2, fl, i, _ => by cases fl <;> simp [mkAt]
  | .val t :: s1, s2, [], i, h => by simp at h
  | .own t :: s1, s2, [], i, h => by simp at h
  | .val t :: s1, s2, c :: fl, i, h => by
    simp only [List.cons_append, mkAt, List.length_cons, List.take_succ_cons, List.drop_succ_cons]
    rw [mkAt_append (by simpa using h), show i + 1 + s1.length = i + (s1.length + 1) by omega]
  | .own t :: s1, s2, c :: fl, i, h => by
    simp only [List.cons_append, mkAt, List.length_cons, List.take_succ_cons, List.drop_succ_cons]
    rw [mkAt_append (by simpa using h), show i + 1 + s1.length = i + (s1.length + 1) by omega]
theorem mkAt_val : ∀ {ss : List CSh} {fl : List AC} {i : Nat}, (∀ s ∈ ss, ∃ t, s = .val t) → ss.length = fl.length → mkAt i ss fl = fl
  | [], [], i, _, _ => rfl
  | [], _ :: _, i, _, h => by cases h
  | _ :: _, [], i, _, h => by cases h
  | s :: ss, c :: fl, i, hv, h => by
    obtain ⟨t, rfl⟩ := hv s (by simp)
    simp only [mkAt]
    rw [mkAt_val (fun s hs => hv s (by simp [hs])) (by simpa using h)]

theorem keep_len : ∀ {ps : List PSh}, (keepShs ps).length = (inShs ps).length
  | [] => rfl
  | .w _ ts :: ps => by simp [keepShs, inShs, keep_len (ps := ps)]
  | .mut _ ts :: ps => by simp [keepShs, inShs, keep_len (ps := ps)]
  | .ref _ :: ps => by simp [keepShs, inShs, keep_len (ps := ps)]
  | .fn _ caps :: ps => by simp [keepShs, inShs, keep_len (ps := ps)]
  | .fnr _ _ :: ps => by simp [keepShs, inShs, keep_len (ps := ps)]
  | .fnr2 _ _ _ :: ps => by simp [keepShs, inShs, keep_len (ps := ps)]
  | .eat _ ts :: ps => by simp [keepShs, inShs, keep_len (ps := ps)]
theorem get_same {α : Type} {l m m' : List α} {j : Nat} {x : α} (h : (l ++ m)[j]? = some x) (ih : ∀ i : Nat, m[i]? = some x → m'[i]? = some x) : (l ++ m')[j]? = some x := by
  rw [List.getElem?_append] at h ⊢
  split at h
  · rename_i hc; rw [if_pos hc]; exact h
  · rename_i hc; rw [if_neg hc]; exact ih _ h
/-- What is kept came in as the row's own. -/
theorem keep_own : ∀ {ps : List PSh} {j : Nat} {t : Ty}, (keepShs ps)[j]? = some (.own t) → (inShs ps)[j]? = some (.own t)
  | [], j, t, h => by simp [keepShs] at h
  | .w _ ts :: ps, j, t, h => get_same h fun i hi => keep_own hi
  | .mut _ ts :: ps, j, t, h => get_same h fun i hi => keep_own hi
  | .ref _ :: ps, j, t, h => keep_own (ps := ps) h
  | .fn _ caps :: ps, j, t, h => get_same h fun i hi => keep_own hi
  | .fnr _ _ :: ps, j, t, h => keep_own (ps := ps) h
  | .fnr2 _ _ _ :: ps, j, t, h => keep_own (ps := ps) h
  | .eat _ ts :: ps, j, t, h => by
    simp only [keepShs] at h
    simp only [inShs]
    rw [List.getElem?_append] at h ⊢
    simp only [List.length_map] at h
    split at h
    · rw [List.getElem?_map] at h
      cases hts : ts[j]? with
      | none => rw [hts] at h; cases h
      | some u => rw [hts] at h; cases h
    · rename_i hn
      rw [if_neg hn]
      exact keep_own h
/-- A variable's cells stand at some place among all. -/
theorem layBoxes_at : ∀ {L : List (Nat × Nat)} {cs : List AC} {b : Nat} {l : List AC}, layBoxes L cs b = some l → ∃ o n, l = (cs.drop o).take n ∧ ∀ ds : List AC, layBoxes L ds b = some ((ds.drop o).take n)
  | [], cs, b, l, h => by simp [layBoxes] at h
  | (b', k) :: L, cs, b, l, h => by
    simp only [layBoxes] at h
    split at h
    · rename_i e
      cases h
      exact ⟨0, k, rfl, fun ds => by simp only [layBoxes, e]; rfl⟩
    · rename_i e
      obtain ⟨o, n, h1, h2⟩ := layBoxes_at h
      refine ⟨k + o, n, by rw [h1, List.drop_drop], fun ds => ?_⟩
      simp only [layBoxes, e]
      rw [h2, List.drop_drop]

def boxesN : List (Nat × Nat) → Nat
  | [] => 0
  | (_, n) :: r => n + boxesN r
theorem refBoxes_N : ∀ {ps : List PSh} {i : Nat}, boxesN (refBoxes i ps) = (refShs ps).length
  | [], i => rfl
  | .ref ts :: ps, i => by simp [refBoxes, boxesN, refShs, refBoxes_N]
  | .fnr _ ts :: ps, i => by simp [refBoxes, boxesN, refShs, refBoxes_N]
  | .fnr2 _ ts us :: ps, i => by simp [refBoxes, boxesN, refShs, refBoxes_N]
  | .w _ _ :: ps, i => refBoxes_N (ps := ps)
  | .mut _ _ :: ps, i => refBoxes_N (ps := ps)
  | .fn _ _ :: ps, i => refBoxes_N (ps := ps)
  | .eat _ _ :: ps, i => refBoxes_N (ps := ps)
theorem refBoxes_lt : ∀ {ps : List PSh} {i b n : Nat}, (b, n) ∈ refBoxes i ps → 2 * i ≤ b
  | [], i, b, n, h => by simp [refBoxes] at h
  | .ref ts :: ps, i, b, n, h => by
    rcases List.mem_cons.1 h with h | h
    · cases h; exact Nat.le_refl _
    · have := refBoxes_lt h; omega
  | .fnr _ ts :: ps, i, b, n, h => by
    rcases List.mem_cons.1 h with h | h
    · cases h; exact Nat.le_refl _
    · have := refBoxes_lt h; omega
  | .fnr2 _ ts us :: ps, i, b, n, h => by
    rcases List.mem_cons.1 h with h | h
    · cases h; exact Nat.le_refl _
    · rcases List.mem_cons.1 h with h | h
      · cases h; omega
      · have := refBoxes_lt h; omega
  | .w _ _ :: ps, i, b, n, h => by have := refBoxes_lt (ps := ps) h; omega
  | .mut _ _ :: ps, i, b, n, h => by have := refBoxes_lt (ps := ps) h; omega
  | .fn _ _ :: ps, i, b, n, h => by have := refBoxes_lt (ps := ps) h; omega
  | .eat _ _ :: ps, i, b, n, h => by have := refBoxes_lt (ps := ps) h; omega
theorem refBoxes_out {ps : List PSh} {i b : Nat} (hb : b < 2 * i) : b ∉ (refBoxes i ps).map (·.1) := fun h => by
  obtain ⟨⟨b', n⟩, hm, e⟩ := List.mem_map.1 h
  have := refBoxes_lt hm
  simp only at e
  omega
theorem refBoxes_nodup : ∀ {ps : List PSh} {i : Nat}, ((refBoxes i ps).map (·.1)).Nodup
  | [], i => List.nodup_nil
  | .ref ts :: ps, i => by
    simp only [refBoxes, List.map_cons]
    exact List.nodup_cons.2 ⟨refBoxes_out (by omega), refBoxes_nodup⟩
  | .fnr _ ts :: ps, i => by
    simp only [refBoxes, List.map_cons]
    exact List.nodup_cons.2 ⟨refBoxes_out (by omega), refBoxes_nodup⟩
  | .fnr2 _ ts us :: ps, i => by
    simp only [refBoxes, List.map_cons]
    refine List.nodup_cons.2 ⟨fun h => ?_, List.nodup_cons.2 ⟨refBoxes_out (by omega), refBoxes_nodup⟩⟩
    rcases List.mem_cons.1 h with h | h
    · omega
    · exact refBoxes_out (by omega) h
  | .w _ _ :: ps, i => refBoxes_nodup (ps := ps)
  | .mut _ _ :: ps, i => refBoxes_nodup (ps := ps)
  | .fn _ _ :: ps, i => refBoxes_nodup (ps := ps)
  | .eat _ _ :: ps, i => refBoxes_nodup (ps := ps)

theorem layBoxes_append : ∀ {L : List (Nat × Nat)} {xs zs : List AC} {b : Nat}, boxesN L ≤ xs.length → layBoxes L (xs ++ zs) b = layBoxes L xs b
  | [], xs, zs, b, _ => rfl
  | (y, n) :: L, xs, zs, b, h => by
    simp only [boxesN] at h
    simp only [layBoxes]
    rw [List.take_append_of_le_length (by omega), List.drop_append_of_le_length (by omega), layBoxes_append (by rw [List.length_drop]; omega)]

theorem backBoxes_mem : ∀ {refs : List Nat} {L : List (Nat × Nat)} {cs : List AC} {p : Nat × List AC}, (L.map (·.1)).Nodup → p ∈ backBoxes refs L cs → ∃ b0, boxAt refs L b0 = some p.1 ∧ layBoxes L cs b0 = some p.2
  | [], L, cs, p, _, h => by simp [backBoxes] at h
  | _ :: _, [], cs, p, _, h => by simp [backBoxes] at h
  | b :: refs, (y, n) :: L, cs, p, hn, h => by
    simp only [backBoxes] at h
    simp only [List.map_cons] at hn
    obtain ⟨n1, n2⟩ := List.nodup_cons.1 hn
    rcases List.mem_cons.1 h with rfl | h
    · exact ⟨y, by simp [boxAt, beq_nat.2], by simp [layBoxes, beq_nat.2]⟩
    · obtain ⟨b0, h1, h2⟩ := backBoxes_mem n2 h
      have hne : b0 ≠ y := fun e => by
        obtain ⟨_, m, hm⟩ := boxAt_mem h1
        exact n1 (List.mem_map.2 ⟨(b0, m), hm, e⟩)
      exact ⟨b0, by simp only [boxAt, beq_nat'.2 hne]; exact h1, by simp only [layBoxes, beq_nat'.2 hne]; exact h2⟩
theorem backBoxes_cover : ∀ {refs : List Nat} {L : List (Nat × Nat)} {cs : List AC} {b c : Nat}, boxAt refs L b = some c → ∃ p ∈ backBoxes refs L cs, p.1 = c
  | [], L, cs, b, c, h => by simp [boxAt] at h
  | _ :: _, [], cs, b, c, h => by simp [boxAt] at h
  | x :: refs, (y, n) :: L, cs, b, c, h => by
    simp only [boxAt] at h
    split at h
    · cases h; exact ⟨_, by simp only [backBoxes]; exact List.mem_cons_self, rfl⟩
    · obtain ⟨p, hp, e⟩ := backBoxes_cover (cs := cs.drop n) h
      exact ⟨p, by simp only [backBoxes]; exact List.mem_cons_of_mem _ hp, e⟩
theorem layBoxes_some : ∀ {L : List (Nat × Nat)} {cs : List AC} {b n : Nat}, (b, n) ∈ L → ∃ l, layBoxes L cs b = some l
  | [], cs, b, n, h => by cases h
  | (y, m) :: L, cs, b, n, h => by
    simp only [layBoxes]
    split
    · exact ⟨_, rfl⟩
    · rename_i hne
      rcases List.mem_cons.1 h with h | h
      · cases h; simp [beq_nat.2] at hne
      · exact layBoxes_some h

theorem backRows_cover : ∀ {ss : List CSh} {cs fs : List AC} {j k : Nat}, fs.length = (ownShs ss).length → (∀ c ∈ fs, ∃ t l, c = .v (.row t) l) → (∃ t, ss[j]? = some (.own t)) → cs[j]? = some (.own k) →
    ∃ p ∈ backRows ss cs fs, p.1 = k
  | [], cs, fs, j, k, _, _, ⟨t, h⟩, _ => by simp at h
  | s :: ss, [], fs, j, k, _, _, _, h => by simp at h
  | .val t :: ss, c :: cs, fs, j, k, hl, hf, ⟨t', h⟩, hc => by
    cases j with
    | zero => simp at h
    | succ j =>
      obtain ⟨p, hp, e⟩ := backRows_cover (ss := ss) (cs := cs) (fs := fs) (j := j) (k := k) (by simpa [ownShs] using hl) hf ⟨t', by simpa using h⟩ (by simpa using hc)
      exact ⟨p, by simp only [backRows]; exact hp, e⟩
  | .own t :: ss, c :: cs, [], j, k, hl, _, _, _ => by simp [ownShs] at hl
  | .own t :: ss, c :: cs, f :: fs, j, k, hl, hf, ⟨t', h⟩, hc => by
    obtain ⟨u, l, rfl⟩ := hf f (by simp)
    cases j with
    | zero =>
      simp at hc
      subst hc
      exact ⟨_, by simp only [backRows]; exact List.mem_cons_self, rfl⟩
    | succ j =>
      obtain ⟨p, hp, e⟩ := backRows_cover (ss := ss) (cs := cs) (fs := fs) (j := j) (k := k) (by simpa [ownShs] using hl) (fun c hc => hf c (by simp [hc])) ⟨t', by simpa using h⟩ (by simpa using hc)
      refine ⟨p, ?_, e⟩
      cases c <;> simp only [backRows] <;> first | exact hp | exact List.mem_cons_of_mem _ hp
theorem ownIds_cover : ∀ {ss : List CSh} {j q : Nat}, (∃ t, ss[j]? = some (.own t)) → ∃ i : Nat, (ownIds q ss)[i]? = some (.own (q + j))
  | [], j, q, ⟨t, h⟩ => by simp at h
  | .val t :: ss, j, q, ⟨t', h⟩ => by
    cases j with
    | zero => simp at h
    | succ j =>
      obtain ⟨i, hi⟩ := ownIds_cover (ss := ss) (j := j) (q := q + 1) ⟨t', by simpa using h⟩
      exact ⟨i, by simp only [ownIds]; rw [hi]; congr 2; omega⟩
  | .own t :: ss, j, q, ⟨t', h⟩ => by
    cases j with
    | zero => exact ⟨0, by simp [ownIds]⟩
    | succ j =>
      obtain ⟨i, hi⟩ := ownIds_cover (ss := ss) (j := j) (q := q + 1) ⟨t', by simpa using h⟩
      exact ⟨i + 1, by simp only [ownIds, List.getElem?_cons_succ]; rw [hi]; congr 2; omega⟩

theorem noToks_iff : ∀ {l : List AC}, noToks l = true → ∀ (j : Nat) k, l[j]? ≠ some (.own k)
  | [], _, j, k => by simp
  | c :: l, h, j, k => by
    cases c with
    | own q => simp [noToks] at h
    | _ =>
      cases j with
      | zero => simp
      | succ j => simpa using noToks_iff (l := l) (by simpa [noToks] using h) j k

theorem outLT_n : ∀ (outs : List (Bool × List CSh)), (outLT outs).n = (outShs outs).length := by
  have h : ∀ l : List (Bool × List CSh), capsN (l.map fun o => (o.1, o.2.length)) = (outShs l).length := by
    intro l
    induction l with
    | nil => rfl
    | cons o l ih => obtain ⟨g, os⟩ := o; simp only [List.map_cons, capsN, ih, outShs, List.length_append]
  intro outs
  match outs with
  | [] => rfl
  | [(g, os)] => simp [outLT, LT.n, outShs]
  | o :: p :: l => exact h (o :: p :: l)

theorem fitW_mk {g : Bool} {n : Nat} {ys : List AC} (hl : ys.length = n) (hg : g = true ∨ n = 1) : fitW g n (mkW g ys) = some ys := by
  cases g with
  | true => simp only [mkW, fitW, beq_nat.2 hl]
  | false =>
    have hn : n = 1 := hg.resolve_left (by simp)
    subst hn
    match ys, hl with
    | [c], _ => rfl
theorem fitWs_mk : ∀ {ss : List (Bool × Nat)} {ys : List AC}, ys.length = capsN ss → (∀ s ∈ ss, s.1 = true ∨ s.2 = 1) → fitWs ss (mkWs ss ys) = some ys
  | [], ys, hl, _ => by rw [List.eq_nil_of_length_eq_zero hl]; rfl
  | (g, n) :: ss, ys, hl, hs => by
    simp only [capsN] at hl
    simp only [mkWs, fitWs]
    rw [fitW_mk (by rw [List.length_take]; omega) (hs (g, n) (by simp)), fitWs_mk (by rw [List.length_drop]; omega) (fun s h => hs s (by simp [h]))]
    simp
theorem gotT_mk {outs : List (Bool × List CSh)} (ho : ∀ o ∈ outs, o.1 = true ∨ o.2.length = 1) {ys : List AC} (hl : ys.length = (outLT outs).n) : gotT [] [] (outLT outs) (some ((outLT outs).av ys)) = some ys := by
  have hs : ∀ s ∈ outs.map (fun o => (o.1, o.2.length)), s.1 = true ∨ s.2 = 1 := fun s h => by
    obtain ⟨o, ho', rfl⟩ := List.mem_map.1 h
    exact ho o ho'
  match outs, ho, hs, hl with
  | [], _, _, hl => exact fitWs_mk (ss := []) hl (by simp)
  | [(g, os)], ho, _, hl => exact fitW_mk hl (ho (g, os) (by simp))
  | o :: p :: l, _, hs, hl => exact fitWs_mk hl hs

end
end Go.Proofs.YtmbmapbdbbnaeaaT
