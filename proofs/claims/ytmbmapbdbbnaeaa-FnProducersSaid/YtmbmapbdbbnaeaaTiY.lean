/- A region in the order of the text. -/
import Derived.Test.YtmbmapbdbbnaeaaTiX
import Derived.OrdersIn
import Derived.Orders
set_option linter.unusedVariables false
set_option linter.unusedSimpArgs false
namespace Go.Proofs.YtmbmapbdbbnaeaaT
open Go

section
variable {R : Type} {P : Program} {G : List Spec} {k : Nat} {B : Base} {S : St} {E : Env} {a : Act} {w : World}

theorem Sim.app {dst : Option Nat} {δ : Delta} {v : Value} (hd : ∀ d, dst = some d → d < B.n) (hv : AVr w E δ.val v)
    (h : Sim B { S with boxes := setBoxes S.boxes δ.boxes, rows := setAll S.rows δ.rows } E a w) : Sim B (S.app dst δ) E (a.put dst v) w := by
  cases dst with
  | none => exact h
  | some d => exact h.put (hd d rfl) hv
theorem Sim.skip {dst : Option Nat} (hd : ∀ d, dst = some d → d < B.n) (h : Sim B S E a w) : Sim B (S.skip dst) E (a.put dst undef) w :=
  Sim.app (δ := { val := .undef }) hd rfl h

/-- A guard's answer is known. -/
theorem guard_bool (h : Sim B S E a w) {ops : Array Oper} {j d : Nat} {b : Bool} (hg : guardOf ops.toList S j = .bool d b) :
    yielded ops a.tmps j = some b ∧ Sim B (S.put d (lit b)) E a w := by
  unfold guardOf at hg
  split at hg
  · rename_i o ho
    split at hg
    · rename_i d' hd
      split at hg
      · rename_i b' hs
        cases hg
        obtain ⟨h1, h2, h3⟩ := h.tmps _ _ hs
        have h3' : a.tmps.getD d undef = .bool b := by simpa [Val, Enc] using h3
        refine ⟨?_, h.know h1 (by rw [h3']; exact ⟨h2, rfl⟩)⟩
        have hlt : d < a.tmps.size := by rw [h.size]; exact h1
        have ho' : ops[j]? = some o := by simpa using ho
        have h4 : a.tmps[d]? = some (.bool b) := by
          rw [Array.getElem?_eq_getElem hlt]
          congr 1
          rw [← h3']
          simp [Array.getD, hlt]
        simp [yielded, ho', hd, h4]
      · cases hg
      · cases hg
    · cases hg
  · cases hg
theorem guard_undef (h : Sim B S E a w) {ops : Array Oper} {j : Nat} (hg : guardOf ops.toList S j = .undef) : yielded ops a.tmps j = none := by
  unfold guardOf at hg
  split at hg
  · rename_i o ho
    split at hg
    · rename_i d hd
      split at hg
      · cases hg
      · rename_i hs
        obtain ⟨h1, h2⟩ := h.tmps _ _ hs
        have hlt : d < a.tmps.size := by rw [h.size]; exact h1
        have ho' : ops[j]? = some o := by simpa using ho
        have h4 : a.tmps[d]? = some undef := by
          rw [Array.getElem?_eq_getElem hlt]
          congr 1
          have h2' : a.tmps.getD d undef = undef := h2
          rw [← h2']
          simp [Array.getD, hlt]
        simp [yielded, ho', hd, h4, undef]
      · cases hg
    · cases hg
  · cases hg

/-- In a round of a range over a function, or not. -/
def fr (ro : Option Nat) : Fence := { Fence.wide with round := ro }
theorem fr_steps {ro : Option Nat} {m m' : Machine} : StepsIn (Machine.fenced P (fr ro)) P m m' ↔ Steps P m m' := by
  cases ro with
  | none => exact stepsIn_wide
  | some l => exact (stepsIn_wide : StepsIn (Machine.fenced P Fence.wide) P m m' ↔ _)
theorem calls_fr {ro : Option Nat} {n : Nat} {f : FuncId} {args : Array Value} {R : Ending → World → Prop} (h : Calls P f args w R) : CallsIn (fr ro) n P f args w R := by
  cases ro with
  | none => exact callsIn_wide.2 h
  | some l => exact (show CallsIn Fence.wide n P f args w R from callsIn_wide.2 h)
theorem rows_fr {ro : Option Nat} {n : Nat} {r : String} {args : Array Value} {R : Value → World → Prop} (h : Rows P r args w R) : RowsIn (fr ro) n P r args w R :=
  fun c cs _ => let ⟨v, w', q, s⟩ := h c cs; ⟨v, w', q, fr_steps.2 s⟩
theorem wpIn_of_wp {ro : Option Nat} {n : Nat} {o : Oper} {K : Act → World → Prop} {Q : Exit → Act → World → Prop} (hnd : ∀ c, o.op ≠ .defer c) (h : o.wp P a w K Q) : o.wpIn (fr ro) n P a w K Q := by
  refine ⟨fun _ _ => trivial, ?_⟩
  rw [Oper.semAt_eq _ _ _ hnd]
  unfold Oper.wp at h
  cases hr : (execOp a.eval o).run P w with
  | ok nx w' =>
    rw [hr] at h
    cases nx with
    | enter f args => exact ⟨fun e => (by cases e), calls_fr h⟩
    | row r args => exact ⟨fun e => (by cases e), rows_fr h⟩
    | value v => exact h
    | skip => exact h
    | defer d => exact h
    | _ => exact (h : False).elim
  | halt x w' =>
    rw [hr] at h
    cases x with
    | panic v => exact h
    | _ => exact (h : False).elim
theorem inB_nd {id : Nat} {op : Op} {r : Out} (h : inB P S id op = some r) : ∀ c, op ≠ .defer c := by
  rintro c rfl
  unfold inB at h
  split at h
  · cases h
  · simp only [inOp] at h; cases h
theorem keepB_nd {id : Nat} {op : Op} {r : Out} (h : keepB P G S id op = some r) : ∀ c, op ≠ .defer c := by
  rintro c rfl
  unfold keepB at h
  split at h
  · cases h
  · split at h
    · rename_i e; cases e
    · cases h
theorem Eff.nd {id : Nat} {o : Oper} {δ : Delta} (h : Eff P G k S id o δ) : ∀ c, o.op ≠ .defer c := by
  cases h with
  | keep r hb hok => exact keepB_nd hb
  | inp r hb hok => exact inB_nd hb
  | op r hn hb hok => intro c e; rw [e] at hb; simp only [opB] at hb; cases hb
  | builtin c b r ho hc hb hok => intro c e; rw [e] at ho; cases ho
  | call c f g caps as r y ho hc hf ha hr hy => intro c e; rw [e] at ho; cases ho
  | lent c f g caps as j m s S1 r y δ ho hc hf ha hi hl hr hy hb => intro c e; rw [e] at ho; cases ho

/-- What a region leaves. -/
structure Left (B : Base) (S : St) (lo hi : Nat) (E : Env) (w : World) (S' : St) (E' : Env) (a' : Act) (w' : World) : Prop where
  same : S'.used = S.used ∧ S'.prot = S.prot
  sim : Sim B S' E' a' w'
  le : E.le w w' E'
  U : ∀ n, E'.U n → E.U n ∨ (lo ≤ n ∧ n < hi)

theorem runOps_ok (hG : ∀ sp ∈ G, Holds P sp) {ops : Array Oper} {base : Nat} (hdst : ∀ o ∈ ops.toList, ∀ d, o.dst = some d → d < B.n) (h200 : ops.size ≤ 200)
    {κ : St → Option R} {z : R} {Q : Exit → Act → World → Prop} {ro : Option Nat} {nn : Nat} :
    ∀ (rest : List Oper) (i : Nat) (S : St) (E : Env) (a : Act) (w : World), ops.toList.drop i = rest → Sim B S E a w → (∀ n, base + 64 * i ≤ n → n < base + 16384 → ¬ E.U n) →
      runOps P G k base ops.toList i rest S κ = some z →
      (∀ S' E' a' w', κ S' = some z → Left B S base (base + 16384) E w S' E' a' w' → Q .normal a' w') → wpOpsIn (fr ro) nn P ops Q (List.range' i rest.length) a w
  | [], i, S, E, a, w, hr, h, hU, hz, hκ => by
    simp only [runOps] at hz
    exact hκ S E a w hz ⟨⟨rfl, rfl⟩, h, Env.le.refl w E, fun n hn => .inl hn⟩
  | o :: rest, i, S, E, a, w, hr, h, hU, hz, hκ => by
    have hi : ops[i]? = some o := by
      have : (ops.toList.drop i)[0]? = some o := by rw [hr]; rfl
      simpa using this
    have hi200 : i < 200 := Nat.lt_of_lt_of_le (Array.getElem?_eq_some_iff.1 hi).1 h200
    have hmem : o ∈ ops.toList := List.mem_of_getElem? (l := ops.toList) (i := i) (by simpa using hi)
    have hr' : ops.toList.drop (i + 1) = rest := by
      rw [← List.tail_drop, hr]; rfl
    have hd := hdst o hmem
    rw [List.length_cons, List.range'_succ, wpOpsIn_cons]
    simp only [wpOpIn, hi]
    -- the rest, with the operation done
    have doit : ∀ S0 : St, S0.used = S.used ∧ S0.prot = S.prot → Sim B S0 E a w → step P G k S0 (base + 64 * i) o (fun δ => runOps P G k base ops.toList (i + 1) rest (S0.app o.dst δ) κ) = some z →
        o.wpIn (fr ro) nn P a w (wpOpsIn (fr ro) nn P ops Q (List.range' (i + 1) rest.length)) Q := by
      intro S0 hu h0 hs
      obtain ⟨δ, he, hz'⟩ := step_some hs
      refine wpIn_of_wp he.nd (eff_ok hG h0 (fun n h1 h2 => hU n h1 (by omega)) he fun v w' E' L hv h' hU' => ?_)
      refine runOps_ok hG hdst h200 rest (i + 1) (S0.app o.dst δ) E' (a.put o.dst v) w' hr' (Sim.app hd hv h') (fun n h1 h2 hn => ?_) hz' fun S' E2 a' w2 hz2 l => ?_
      · rcases hU' n hn with hn | hn
        · exact hU n (by omega) h2 hn
        · omega
      · refine hκ S' E2 a' w2 hz2 ⟨⟨l.same.1.trans hu.1, l.same.2.trans hu.2⟩, l.sim, L.trans l.le, fun n hn => ?_⟩
        rcases l.U n hn with hn | hn
        · rcases hU' n hn with hn | hn
          · exact .inl hn
          · exact .inr ⟨by omega, by omega⟩
        · exact .inr hn
    have skip : ∀ S0 : St, S0.used = S.used ∧ S0.prot = S.prot → Sim B S0 E a w → runOps P G k base ops.toList (i + 1) rest (S0.skip o.dst) κ = some z →
        wpOpsIn (fr ro) nn P ops Q (List.range' (i + 1) rest.length) (a.put o.dst undef) w := by
      intro S0 hu h0 hs
      refine runOps_ok hG hdst h200 rest (i + 1) (S0.skip o.dst) E (a.put o.dst undef) w hr' (h0.skip hd) (fun n h1 h2 => hU n (by omega) h2) hs fun S' E2 a' w2 hz2 l => ?_
      exact hκ S' E2 a' w2 hz2 ⟨⟨l.same.1.trans hu.1, l.same.2.trans hu.2⟩, l.sim, l.le, l.U⟩
    simp only [runOps] at hz
    split at hz
    · rename_i hg
      rw [if_pos (by simp [Region.wanted, hg])]
      exact doit S ⟨rfl, rfl⟩ h hz
    · rename_i j want hg
      split at hz
      · rename_i hgv
        rw [if_neg (by simp [Region.wanted, hg, guard_undef h hgv])]
        exact ⟨fun _ _ => trivial, skip S ⟨rfl, rfl⟩ h hz⟩
      · rename_i d b hgv
        obtain ⟨hy, hk⟩ := guard_bool h hgv
        rcases brB_some hz with ⟨rfl, hz⟩ | ⟨rfl, hz⟩
        · cases want with
          | true => rw [if_pos (by simp [Region.wanted, hg, hy])]; exact doit (S.put d (lit true)) ⟨rfl, rfl⟩ hk hz
          | false => rw [if_neg (by simp [Region.wanted, hg, hy])]; exact ⟨fun _ _ => trivial, skip (S.put d (lit true)) ⟨rfl, rfl⟩ hk hz⟩
        · cases want with
          | true => rw [if_neg (by simp [Region.wanted, hg, hy])]; exact ⟨fun _ _ => trivial, skip (S.put d (lit false)) ⟨rfl, rfl⟩ hk hz⟩
          | false => rw [if_pos (by simp [Region.wanted, hg, hy])]; exact doit (S.put d (lit false)) ⟨rfl, rfl⟩ hk hz
      · cases hz

end
end Go.Proofs.YtmbmapbdbbnaeaaT
