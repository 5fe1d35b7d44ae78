/- Operations and regions in the order of the text. -/
import Derived.Test.YtmbmapbdbbnaeaaTiWC
set_option linter.unusedVariables false
set_option linter.unusedSimpArgs false
namespace Go.Proofs.YtmbmapbdbbnaeaaT
open Go

theorem forceAC_eq {R : Type} (κ : AC → Option R) (c : AC) : forceAC κ c = κ c := by cases c <;> rfl
theorem forceL_eq {R : Type} : ∀ (l : List AC) (κ : List AC → Option R), forceL l κ = κ l
  | [], κ => rfl
  | c :: l, κ => by simp only [forceL, forceAC_eq, forceL_eq l]
theorem forceW_eq {R : Type} (κ : AW → Option R) (c : AW) : forceW κ c = κ c := by cases c <;> simp only [forceW, forceAC_eq, forceL_eq]
theorem forceWs_eq {R : Type} : ∀ (l : List AW) (κ : List AW → Option R), forceWs l κ = κ l
  | [], κ => rfl
  | c :: l, κ => by simp only [forceWs, forceW_eq, forceWs_eq l]
theorem forceAV_eq {R : Type} (κ : AV → Option R) (c : AV) : forceAV κ c = κ c := by cases c <;> simp only [forceAV, forceW_eq, forceWs_eq]
theorem forceBs_eq {R : Type} : ∀ (l : List (Nat × List AC)) (κ : List (Nat × List AC) → Option R), forceBs l κ = κ l
  | [], κ => rfl
  | (b, c) :: l, κ => by simp only [forceBs, forceL_eq, forceBs_eq l]
theorem forceRs_eq {R : Type} : ∀ (l : List (Nat × Option RowSt)) (κ : List (Nat × Option RowSt) → Option R), forceRs l κ = κ l
  | [], κ => rfl
  | (b, none) :: l, κ => by simp only [forceRs, forceRs_eq l]
  | (b, some ⟨o, t, r⟩) :: l, κ => by simp only [forceRs, forceRs_eq l]
theorem forceD_eq {R : Type} (κ : Delta → Option R) (δ : Delta) : forceD κ δ = κ δ := by simp only [forceD, forceAV_eq, forceBs_eq, forceRs_eq]

theorem shareRs_eq {R : Type} : ∀ (l : List (Nat × Option RowSt)) (κ : List (Nat × Option RowSt) → Option R), shareRs l κ = κ l
  | [], κ => rfl
  | x :: l, κ => by
    unfold shareRs
    split
    · rename_i e; cases e
    · rename_i e; cases e; rfl
    · rename_i e; cases e; exact shareRs_eq l _
theorem shareD_eq {R : Type} (κ : Delta → Option R) (δ : Delta) : shareD κ δ = κ δ := by simp only [shareD, shareRs_eq]
theorem chk_some {R : Type} {b : Bool} {x : Option R} {z : R} (h : chk b x = some z) : b = true ∧ x = some z := by cases b <;> first | (cases h; done) | exact ⟨rfl, h⟩
theorem bnd_some {A R : Type} {x : Option A} {f : A → Option R} {z : R} (h : bnd x f = some z) : ∃ y, x = some y ∧ f y = some z := by cases x <;> first | (cases h; done) | exact ⟨_, rfl, h⟩
theorem brB_some {R : Type} {b : Bool} {x y : Option R} {z : R} (h : brB b x y = some z) : (b = true ∧ x = some z) ∨ (b = false ∧ y = some z) := by cases b <;> first | exact .inl ⟨rfl, h⟩ | exact .inr ⟨rfl, h⟩

section
variable {R : Type} {P : Program} {G : List Spec} {k : Nat} {B : Base} {S : St} {E : Env} {a : Act} {w : World}

theorem own_mem : ∀ {ss : List CSh} {t : Ty}, CSh.own t ∈ ss → CSh.own t ∈ ownShs ss
  | .val _ :: ss, t, h => by
    rcases List.mem_cons.1 h with e | h
    · cases e
    · exact own_mem (ss := ss) h
  | .own u :: ss, t, h => by
    rcases List.mem_cons.1 h with e | h
    · cases e; simp [ownShs]
    · exact List.mem_cons_of_mem _ (own_mem (ss := ss) h)
theorem setAll_own {k : Nat} {r : RowSt} : ∀ {l : List (Nat × Option RowSt)} {f : Nat → Option RowSt}, (∀ q ∈ l, ∀ r, q.2 = some r → r.own = false) → setAll f l k = some r → r.own = true → f k = some r
  | [], f, _, h, _ => h
  | (k0, x) :: l, f, hl, h, ho => by
    simp only [setAll] at h
    have := setAll_own (fun q hq => hl q (by simp [hq])) h ho
    split at this
    · have := hl (k0, x) (by simp) r this
      rw [this] at ho; cases ho
    · exact this
theorem freeze_own {S : St} : ∀ {ks : List Nat} {q : Nat × Option RowSt} {r : RowSt}, q ∈ freeze S ks → q.2 = some r → r.own = false
  | [], q, r, h, _ => by cases h
  | k :: ks, q, r, h, e => by
    simp only [freeze] at h
    split at h
    · split at h
      · exact freeze_own h e
      · rcases List.mem_cons.1 h with rfl | h
        · cases e; rfl
        · exact freeze_own h e
    · exact freeze_own h e
theorem resRows_val : ∀ {ss : List CSh} {cs : List AC} {id : Nat}, (∀ s ∈ ss, ∃ t, s = .val t) → resRows id ss cs = []
  | [], cs, id, _ => rfl
  | s :: ss, [], id, h => by obtain ⟨t, rfl⟩ := h s (by simp); rfl
  | s :: ss, c :: cs, id, h => by
    obtain ⟨t, rfl⟩ := h s (by simp)
    simp only [resRows]
    exact resRows_val fun s hs => h s (by simp [hs])
theorem backRows_val : ∀ {ss : List CSh} {cs fs : List AC}, (∀ s ∈ ss, ∃ t, s = .val t) → backRows ss cs fs = []
  | [], cs, fs, _ => by cases cs <;> rfl
  | s :: ss, [], fs, h => by obtain ⟨t, rfl⟩ := h s (by simp); rfl
  | s :: ss, c :: cs, fs, h => by
    obtain ⟨t, rfl⟩ := h s (by simp)
    simp only [backRows]
    exact backRows_val fun s hs => h s (by simp [hs])
/-- What an operation comes to. -/
inductive Eff (P : Program) (G : List Spec) (k : Nat) (S : St) (id : Nat) (o : Oper) : Delta → Prop where
  | keep (r : Out) (hb : keepB P G S id o.op = some r) (hok : r.ok = true) : Eff P G k S id o r.d
  | inp (r : Out) (hb : inB P S id o.op = some r) (hok : r.ok = true) : Eff P G k S id o r.d
  | op (r : Out) (hn : ∀ c, o.op ≠ .call c) (hb : opB P S id o.op = some r) (hok : r.ok = true) : Eff P G k S id o r.d
  | builtin (c : Call) (b : Builtin) (r : Out) (ho : o.op = .call c) (hc : c.callee = .builtin b) (hb : builtinB P S id b c.argTypes.toList c.args.toList = some r) (hok : r.ok = true) : Eff P G k S id o r.d
  | call (c : Call) (f : Operand) (g : FuncId) (caps : List AW) (as : List AV) (r : Found) (y : r.sp.sig.outTy.T) (ho : o.op = .call c) (hc : c.callee = .value f) (hf : evalS S f = some (.fn g caps))
      (ha : evalAll S c.args.toList = some as) (hr : findSpec S g (as ++ caps.map AV.w) G = some r) (hy : r.sp.fn k r.x = some y) : Eff P G k S id o (post2 S id r.sp r.cells r.cells2 r.refs y)
  | lent (c : Call) (f : Operand) (g : FuncId) (caps : List AW) (as : List AV) (j m s : Nat) (S1 : St) (r : Found) (y : r.sp.sig.outTy.T) (δ : Delta) (ho : o.op = .call c) (hc : c.callee = .value f) (hf : evalS S f = some (.fn g caps))
      (ha : evalAll S c.args.toList = some as) (hi : innArg as = some (j, m, s)) (hl : lend S j m s = some S1) (hr : findSpec S1 g (innSwap j m as ++ caps.map AV.w) G = some r) (hy : r.sp.fn k r.x = some y)
      (hb : giveBack S1 j m (post2 S1 id r.sp r.cells r.cells2 r.refs y) = some δ) : Eff P G k S id o δ

theorem step_some {id : Nat} {o : Oper} {κ : Delta → Option R} {z : R} (h : step P G k S id o κ = some z) : ∃ δ, Eff P G k S id o δ ∧ κ δ = some z := by
  unfold step at h
  split at h
  · rename_i r hb
    obtain ⟨h1, h2⟩ := chk_some h
    rw [shareD_eq, forceD_eq] at h2
    exact ⟨_, .keep r hb h1, h2⟩
  split at h
  · rename_i r hb
    obtain ⟨h1, h2⟩ := chk_some h
    rw [forceD_eq] at h2
    exact ⟨_, .inp r hb h1, h2⟩
  unfold step0 at h
  split at h
  · rename_i c ho
    split at h
    · rename_i b hc
      split at h
      · rename_i r hb
        obtain ⟨h1, h2⟩ := chk_some h
        rw [forceD_eq] at h2
        exact ⟨_, .builtin c b r ho hc hb h1, h2⟩
      · cases h
    · rename_i f hc
      split at h
      · rename_i g caps as hf ha
        split at h
        · split at h
          · rename_i r hr
            obtain ⟨y, h1, h2⟩ := bnd_some h
            rw [forceD_eq] at h2
            exact ⟨_, .call c f g caps as r y ho hc hf ha hr h1, h2⟩
          · cases h
        · rename_i j m s hi
          split at h
          · rename_i S1 hl
            split at h
            · rename_i r hr
              obtain ⟨y, h1, h2⟩ := bnd_some h
              split at h2
              · rename_i δ hb
                rw [shareD_eq, forceD_eq] at h2
                exact ⟨_, .lent c f g caps as j m s S1 r y δ ho hc hf ha hi hl hr h1 hb, h2⟩
              · cases h2
            · cases h
          · cases h
      · cases h
    · cases h
  · rename_i t a x ho
    split at h
    · rename_i r hb
      obtain ⟨h1, h2⟩ := chk_some h
      rw [shareD_eq, forceD_eq] at h2
      exact ⟨_, .op r (fun c e => by rw [ho] at e; cases e) (by rw [ho]; exact hb) h1, h2⟩
    · cases h
  · rename_i hn _
    split at h
    · rename_i r hb
      obtain ⟨h1, h2⟩ := chk_some h
      rw [forceD_eq] at h2
      exact ⟨_, .op r hn hb h1, h2⟩
    · cases h

theorem evalAll_ok (h : Sim B S E a w) : ∀ {xs : List Operand} {as : List AV}, evalAll S xs = some as → AVs w E as (xs.map a.eval)
  | [], as, e => by simp only [evalAll] at e; cases e; exact ⟨rfl, fun j x v hx => by simp at hx⟩
  | x :: xs, as, e => by
    simp only [evalAll, Option.bind_eq_some_iff] at e
    obtain ⟨v, hv, l, hl, e⟩ := e
    cases e
    obtain ⟨h1, h2⟩ := evalAll_ok h hl
    refine ⟨by simp [h1], fun j y u hy hu => ?_⟩
    cases j with
    | zero => simp at hy hu; subst hy; subst hu; exact h.eval hv
    | succ j => exact h2 j y u (by simpa using hy) (by simpa using hu)

/-- A row that has two numbers keeps the elder one. -/
theorem Sim.stay (h : Sim B S E a w) {b j k : Nat} {r : RowSt} (hb : S.boxes b = some [.own j]) (hr : S.rows j = some r) (ho : r.own = true) (hU : E.U k) (hv : E.hv j = E.hv k) (hs : E.sz j = E.sz k) :
    Sim B { S with boxes := setBoxes S.boxes [(b, [.own k])], rows := setAll S.rows [(j, none), (k, some r)] } E a w := by
  have h1 : Sim B { S with rows := upd S.rows j none } E a w := h.sub (boxes' := S.boxes) (fun n r hn => (upd_none hn).2) (fun b cs hb => hb)
  have h2 := h1.setRowSt (k := k) (r := r) hU (by rw [← hv, ← hs]; exact h.rows j r hr) (fun _ g hg => by
    rw [← hv] at hg
    obtain ⟨n1, n2, n3, n4⟩ := h.rowNew j r g hr ho hg
    exact ⟨n1, n2, n3, fun k' r' hk' ho' hg' => by
      obtain ⟨q1, q2⟩ := upd_none hk'
      exact absurd (n4 k' r' q2 ho' hg') q1⟩)
  have key : ∀ n cs, setBoxes S.boxes [(b, [.own k])] n = some cs → (n = b ∧ cs = [.own k]) ∨ (n ≠ b ∧ S.boxes n = some cs) := fun n cs hn => by
    have hn : upd S.boxes b (some [.own k]) n = some cs := hn
    rcases upd_cases hn with ⟨q1, q2⟩ | ⟨q1, q2⟩
    · exact .inl ⟨q1, by cases q2; rfl⟩
    · exact .inr ⟨fun e => q1 (by rw [e]), q2⟩
  have old : ∀ n cs, setBoxes S.boxes [(b, [.own k])] n = some cs → ∃ cs0, S.boxes n = some cs0 := fun n cs hn => by
    rcases key n cs hn with ⟨rfl, _⟩ | ⟨_, q⟩
    · exact ⟨_, hb⟩
    · exact ⟨_, q⟩
  exact { h2 with
    boxU := fun n cs hn => by obtain ⟨c0, q⟩ := old n cs hn; exact h.boxU n c0 q
    boxes := fun n cs hn => by
      rcases key n cs hn with ⟨rfl, rfl⟩ | ⟨_, q⟩
      · obtain ⟨us, e, g1, g2⟩ := h.boxes n _ hb
        refine ⟨us, e, g1, g2.1, fun i c u hc hu => ?_⟩
        cases i with
        | zero =>
          simp at hc
          subst hc
          obtain ⟨_, q2, q3⟩ := g2.2 0 _ u rfl hu
          exact ⟨hU, by rw [← hv]; exact q2, q3⟩
        | succ i => simp at hc
      · exact h.boxes n cs q
    boxNew := fun n cs hn => by obtain ⟨c0, q⟩ := old n cs hn; exact h.boxNew n c0 q
    boxInj := fun n m cs ds hn hm e => by
      obtain ⟨c0, q⟩ := old n cs hn
      obtain ⟨d0, q'⟩ := old m ds hm
      exact h.boxInj n m c0 d0 q q' e
    rowNew := fun n r' g hn ho' hg => by
      obtain ⟨n1, n2, n3, n4⟩ := h2.rowNew n r' g hn ho' hg
      exact ⟨n1, n2, fun m cs hm => by obtain ⟨c0, q⟩ := old m cs hm; exact n3 m c0 q, n4⟩ }
theorem setBoxes_append {α : Type} (f : Nat → Option α) : ∀ (l m : List (Nat × α)), setBoxes f (l ++ m) = setBoxes (setBoxes f l) m
  | [], m => rfl
  | (k, x) :: l, m => by rw [List.cons_append, setBoxes_cons, setBoxes_cons, setBoxes_append]
theorem stay_ok (h : Sim B S E a w) {id : Nat} {s : Sig} {cells c2 : List AC} {refs : List Nat} {y : s.outTy.T} {E3 : Env} {w' : World} (hid : ¬ E.U (id + (outShs s.outs).length)) (L : E.le w w' E3)
    (hS : Sim B { S with boxes := setBoxes S.boxes (postD S id s cells c2 refs y).boxes, rows := setAll S.rows (postD S id s cells c2 refs y).rows } E3 a w')
    (hv : ∀ (b k : Nat), c2 = [.own k] → E.U k ∧ E3.hv (id + (outShs s.outs).length) = E.hv k) :
    (stayD S id s cells c2 refs y).val = (postD S id s cells c2 refs y).val ∧
      Sim B { S with boxes := setBoxes S.boxes (stayD S id s cells c2 refs y).boxes, rows := setAll S.rows (stayD S id s cells c2 refs y).rows } E3 a w' := by
  unfold stayD
  split
  · rename_i t0 b k _
    split
    · rename_i j t l r0 e1 e2 e3
      split
      · rename_i hc
        simp only [Bool.and_eq_true, decide_eq_true_eq] at hc
        obtain ⟨hj, ht⟩ := hc
        obtain rfl := beq_nat.1 hj
        obtain ⟨hU, hv'⟩ := hv b k rfl
        refine ⟨rfl, ?_⟩
        have hsz := (hS.rows _ _ e2).1
        have hs0 := (h.rows k r0 e3).1
        have := hS.stay (k := k) e1 e2 rfl (L.U k hU) (by rw [hv', L.hv k hU]) (by rw [hsz, L.sz k hU, hs0, ht])
        rw [setBoxes_append, setAll_append]
        exact this
      · exact ⟨rfl, hS⟩
    · exact ⟨rfl, hS⟩
  · exact ⟨rfl, hS⟩

/-- A call, in memory. -/
theorem call_ok (hG : ∀ sp ∈ G, Holds P sp) (h : Sim B S E a w) {id : Nat} (hid : ∀ n, id ≤ n → n < id + 64 → ¬ E.U n) {o : Oper} {c : Call} {f : Operand} {g : FuncId} (ho : o.op = .call c) (hc : c.callee = .value f) {us : List Value}
    (e1 : a.eval f = .func (.func g) #[] us.toArray) {as' : List AV} (hall : AVs w E as' (c.args.toList.map a.eval ++ us)) {r : Found} (hr : findSpec S g as' G = some r) {y : r.sp.sig.outTy.T} (hy : r.sp.fn k r.x = some y)
    {K : Act → World → Prop} {Q : Exit → Act → World → Prop}
    (hK : ∀ v w' E', E.le w w' E' → AVr w' E' (post2 S id r.sp r.cells r.cells2 r.refs y).val v → Sim B { S with boxes := setBoxes S.boxes (post2 S id r.sp r.cells r.cells2 r.refs y).boxes, rows := setAll S.rows (post2 S id r.sp r.cells r.cells2 r.refs y).rows } E' a w' →
      (∀ n, E'.U n → E.U n ∨ (id ≤ n ∧ n < id + 64)) → K (a.put o.dst v) w') : o.wp P a w K Q := by
  obtain ⟨i1, i2, i3, i4, i5, i6, i7, i8, i10, i11, i12, i13⟩ := findSpec_some hr
  obtain ⟨p, hp, h1, h2, h3, h4, h5⟩ := leaves_some i6
  obtain ⟨Es, us1, us2, k1, k2, g1, g0, g2, g3, g4⟩ := call_start h hr hall hp
  obtain ⟨⟨fn, n1, n2, n3, n4⟩, hcall, _⟩ := hG r.sp i1
  rw [i2] at n1
  have hc0 := hcall k r.x y hy w _ _ Es _ g0 g1
  rw [i2] at hc0
  have hrun : (execOp a.eval o).run P w = .ok (.enter g (c.args.toList.map a.eval ++ us).toArray) w := by
    have e2 : c.args.map a.eval ++ us.toArray = (c.args.toList.map a.eval ++ us).toArray := by
      apply Array.ext'
      simp
    simp only [execOp, ho, resolve, hc, Deferred.ofValue, e1, Sem.run_bind, Sem.run_pure, Result.andThen_ok, invoke, callFunc, run_program, n1, n2, n3, Bool.false_eq_true, if_false, Sem.run_ite]
    rw [← e2]
    simp
  unfold Oper.wp
  rw [hrun]
  show Calls P g _ w _
  have hcl : r.cells.length = (inShs r.sp.sig.ins).length := by
    rw [(gotArgs_ok i4 hall).1, inTmps_N]
  have hrB : ∀ c ∈ r.refs, ∃ cs, S.boxes c = some cs := (fun c' hc' => by
      have hin : ∀ {bs : List Nat} {L : List (Nat × Nat)} {cs : List AC}, boxCells S bs L = some cs → ∀ c ∈ bs, ∃ cs, S.boxes c = some cs := by
        intro bs
        induction bs with
        | nil => intro L cs _ c hc; cases hc
        | cons x bs ih =>
          intro L cs hbc c hc
          cases L with
          | nil => simp only [boxCells] at hbc; cases hbc
          | cons q L =>
            simp only [boxCells, Option.bind_eq_some_iff] at hbc
            obtain ⟨c1, hc1, hbc⟩ := hbc
            split at hbc
            · simp only [Option.bind_eq_some_iff] at hbc
              obtain ⟨c3, hc3, _⟩ := hbc
              rcases List.mem_cons.1 hc with rfl | hc
              · exact ⟨_, hc1⟩
              · exact ih hc3 c hc
            · cases hbc
      exact hin i5 c' hc')
  have back := fun (v : Value) (E' : Env) (w' : World) q1 q2 q3 => call_back (y := y) (v := v) (E' := E') (w' := w') h hid hp h1 h2 h3 hcl i10 i11 i12 (leaves_tys i6).2 i13 h4 i7 (by rw [i3]; exact refIds_ok hall) hrB k1 g2 g3 q1 q2 q3
  refine hc0.mono fun e w' hp0 => ?_
  cases hbx : r.sp.boxed with
  | false =>
    simp only [Post, hbx] at hp0
    obtain ⟨v, E', he, q1, q2, q3, q4⟩ := hp0
    subst he
    obtain ⟨E3, m1, m2, m3, m4, _, m6⟩ := back v E' w' q1 q2 q3
    cases hst : r.sp.stay with
    | false =>
      have e : post2 S id r.sp r.cells r.cells2 r.refs y = postD S id r.sp.sig r.cells r.cells2 r.refs y := by simp only [post2, hbx, hst]
      exact hK v w' E3 m1 (by rw [e]; exact m2) (by rw [e]; exact m3) fun n hn => (m4 n hn).imp_right fun h => ⟨h.1, by omega⟩
    | true =>
      have e : post2 S id r.sp r.cells r.cells2 r.refs y = stayD S id r.sp.sig r.cells r.cells2 r.refs y := by simp only [post2, hbx, hst]
      have hS := stay_ok h (fun hu => hid _ (Nat.le_add_right _ _) (by omega) hu) m1 m3 (fun b k hc => by
        have hm : (refShs r.sp.sig.ins).length = 1 := by
          have h1 := (leaves_some i6)
          obtain ⟨p', hp', _⟩ := h1
          have h2 := (splitToks_some hp').1
          have h3 : r.sp.sig.shs.length = (inShs r.sp.sig.ins).length + (refShs r.sp.sig.ins).length := by simp [Sig.shs]
          rw [List.length_append, hcl] at h2
          rw [hc] at h2
          simp only [List.length_cons, List.length_nil] at h2
          omega
        obtain ⟨m7, m8⟩ := m6 (outShs r.sp.sig.outs).length (by omega)
        rw [m7, q4 hst]
        have hu2 : us2[0]? = some (us2[0]'(by rw [← k2.1, hc]; exact Nat.zero_lt_one)) := List.getElem?_eq_getElem _
        have := g4 0 _ hu2
        rw [hcl, Nat.add_zero] at this
        rw [this]
        have hk := k2.2 0 (.own k) _ (by rw [hc]; rfl) hu2
        exact ⟨hk.1, hk.2.1⟩)
      exact hK v w' E3 m1 (by rw [e, hS.1]; exact m2) (by rw [e]; exact hS.2) fun n hn => (m4 n hn).imp_right fun h => ⟨h.1, by omega⟩
  | true =>
    simp only [Post, hbx] at hp0
    have hok := n4 hbx
    simp only [boxedOk, Bool.and_eq_true, List.isEmpty_iff, List.all_eq_true] at hok
    obtain ⟨⟨⟨o1, o2⟩, o3⟩, o4⟩ := hok
    have hnoown : ∀ (j : Nat) t, r.sp.sig.shs[j]? ≠ some (.own t) := by
      intro j t hj
      have hj' : (inShs r.sp.sig.ins ++ refShs r.sp.sig.ins)[j]? = some (.own t) := hj
      rw [List.getElem?_append] at hj'
      split at hj'
      · have := own_mem (List.mem_of_getElem? hj')
        rw [o2] at this
        cases this
      · have h0 := refBoxes_N (ps := r.sp.sig.ins) (i := 0)
        rw [o1] at h0
        have : refShs r.sp.sig.ins = [] := List.eq_nil_of_length_eq_zero h0.symm
        rw [this] at hj'
        simp at hj'
    have hM : ∀ b, ¬ MB S E w r.sp.sig.shs (r.cells ++ r.cells2) r.refs (refBoxes 0 r.sp.sig.ins) b := by
      rintro b (⟨j, k, r0, ⟨t, ht⟩, _⟩ | ⟨b', c, hb, _⟩)
      · exact hnoown j t ht
      · rw [o1] at hb; cases r.refs <;> simp [boxAt] at hb
    obtain ⟨us, t, g, E', he, hg, hgs, hF, q1⟩ := hp0 hM
    subst he
    obtain ⟨E3, m1, m2, m3, m4, m5, _⟩ := back (.agg us) E' w' q1 (fun i j hij => by
      obtain ⟨j', _, t', e9, _⟩ := ownIds_get hij
      exact absurd (List.mem_of_getElem? (keep_own e9)) fun hm => by
        have := own_mem hm
        rw [o2] at this
        cases this) (fun b n hb => by rw [o1] at hb; cases hb)
    obtain ⟨os, ho'⟩ : ∃ os, r.sp.sig.outs = [(true, os)] := by
      split at o4
      · rename_i os e; exact ⟨os, e⟩
      · cases o4
    have hval : (postD S id r.sp.sig r.cells r.cells2 r.refs y).val = .w (.agg (mkAt id (outShs r.sp.sig.outs) ((flat r.sp.sig.outTy y).take (outShs r.sp.sig.outs).length))) := by
      show (outLT r.sp.sig.outs).av _ = _
      generalize mkAt id (outShs r.sp.sig.outs) ((flat r.sp.sig.outTy y).take (outShs r.sp.sig.outs).length) = l
      rw [ho']; rfl
    rw [hval] at m2
    obtain ⟨us', eus, hacs⟩ := m2
    have eus' : us.toList = us' := by cases eus; rfl
    rw [← eus'] at hacs
    have hbs : (postD S id r.sp.sig r.cells r.cells2 r.refs y).boxes = [] := by
      show backBoxes _ (refBoxes 0 r.sp.sig.ins) _ = []
      rw [o1]; cases r.refs <;> rfl
    rw [hbs] at m3
    have m3' : Sim B { S with rows := setAll S.rows (postD S id r.sp.sig r.cells r.cells2 r.refs y).rows } E3 a w' := m3
    have hrows : ∀ k rr, setAll S.rows (postD S id r.sp.sig r.cells r.cells2 r.refs y).rows k = some rr → rr.own = true → S.rows k = some rr := by
      intro k rr hk hown
      refine setAll_own (fun q hq r' hr' => ?_) hk hown
      have hq' : q ∈ freezeIf (r.sp.sig.back.any CSh.shares) S (match splitToks r.sp.sig.shs (r.cells ++ r.cells2) with | some p => p.2 | none => []) ++
        (drops (match splitToks r.sp.sig.shs (r.cells ++ r.cells2) with | some p => p.1 | none => []) ++ (resRows id (outShs r.sp.sig.outs ++ refShs r.sp.sig.ins) ((flat r.sp.sig.outTy y).take ((outShs r.sp.sig.outs).length + (refShs r.sp.sig.ins).length)) ++ backRows (keepShs r.sp.sig.ins) r.cells (((flat r.sp.sig.outTy y).drop (outShs r.sp.sig.outs).length).drop (refShs r.sp.sig.ins).length))) := hq
      have h0 := refBoxes_N (ps := r.sp.sig.ins) (i := 0)
      rw [o1] at h0
      have hrf : refShs r.sp.sig.ins = [] := List.eq_nil_of_length_eq_zero h0.symm
      rw [resRows_val (fun c hc => by
        rw [hrf, List.append_nil] at hc
        have := o3 c hc; cases c with | val t => exact ⟨t, rfl⟩ | own t => cases this), backRows_val (fun c hc => by
        cases c with
        | val t => exact ⟨t, rfl⟩
        | own t =>
          obtain ⟨j, hj⟩ := List.getElem?_of_mem hc
          have := own_mem (List.mem_of_getElem? (keep_own hj)); rw [o2] at this; cases this)] at hq'
      simp only [List.append_nil] at hq'
      rcases List.mem_append.1 hq' with hq' | hq'
      · cases hsh : r.sp.sig.back.any CSh.shares with
        | false => rw [hsh] at hq'; cases hq'
        | true => rw [hsh] at hq'; exact freeze_own hq' hr'
      · have hdr : ∀ {ks : List Nat} {q : Nat × Option RowSt}, q ∈ drops ks → q.2 = none := by
          intro ks
          induction ks with
          | nil => intro q hq; cases hq
          | cons k ks ih =>
            intro q hq
            rcases List.mem_cons.1 hq with rfl | hq
            · rfl
            · exact ih hq
        rw [hdr hq'] at hr'; cases hr'
    obtain ⟨a1, a2⟩ := m3'.adopt (id := id + 63) (g := g) (fun hu => by
        rcases m4 _ hu with hu | hu
        · exact hid (id + 63) (by omega) (by omega) hu
        · omega) hg hacs (Nat.le_trans h.grown hgs) (fun hf => by
        rcases m5 g hf with hf | hf
        · omega
        · exact hF hf) (fun b cs hb e => by
        have hb' : S.boxes b = some cs := hb
        rw [m1.β b (h.boxU b cs hb')] at e
        have := h.lt_box hb'
        omega) (fun k rr hk hown e => by
        have hk' := hrows k rr hk hown
        rw [m1.hv k (h.rowU k rr hk')] at e
        have e := (OwnB.world fun b hb => q1.frame b (h.lt_row hk' hown (.inl hb)) (hM b)).1 e
        have := h.lt_row hk' hown e
        omega)
    have e : post2 S id r.sp r.cells r.cells2 r.refs y = boxD S id r.sp.sig r.cells r.cells2 r.refs y := by simp only [post2, hbx]
    refine hK _ w' (E3.box (id + 63) g) (m1.trans a2) ?_ ?_ fun n hn => ?_
    · rw [e]
      exact ⟨.inr rfl, by simp [Env.box]⟩
    · rw [e]
      exact a1
    · rcases hn with hn | hn
      · exact (m4 n hn).imp_right fun h => ⟨h.1, by omega⟩
      · subst hn; exact .inr ⟨by omega, by omega⟩


/-- An operation, in memory. -/
theorem eff_ok (hG : ∀ sp ∈ G, Holds P sp) (h : Sim B S E a w) {id : Nat} (hid : ∀ n, id ≤ n → n < id + 64 → ¬ E.U n) {o : Oper} {δ : Delta} (he : Eff P G k S id o δ)
    {K : Act → World → Prop} {Q : Exit → Act → World → Prop}
    (hK : ∀ v w' E', E.le w w' E' → AVr w' E' δ.val v → Sim B { S with boxes := setBoxes S.boxes δ.boxes, rows := setAll S.rows δ.rows } E' a w' → (∀ n, E'.U n → E.U n ∨ (id ≤ n ∧ n < id + 64)) → K (a.put o.dst v) w') :
    o.wp P a w K Q := by
  have fin : OpOk P B S E a w id o δ → o.wp P a w K Q := fun ⟨n, v, w', E', h1, h2, h3, h4, h5, h6⟩ => by
    unfold Oper.wp
    rw [h1]
    rcases h2 with rfl | ⟨rfl, rfl⟩
    · exact hK v w' E' h3 h4 h5 h6
    · exact hK undef w' E' h3 h4 h5 h6
  cases he with
  | keep r hb hok => exact keep_ok hG h hid hb hok fin hK
  | inp r hb hok => exact fin (op_in h (hid id (Nat.le_refl _) (by omega)) hb hok)
  | op r hn hb hok => exact fin (op_all h (hid id (Nat.le_refl _) (by omega)) hn hb hok)
  | builtin c b r ho hc hb hok => exact fin (op_builtin h (hid id (Nat.le_refl _) (by omega)) ho hc hb hok)
  | call c f g caps as r y ho hc hf ha hr hy =>
    obtain ⟨us, e1, hcaps⟩ := h.eval hf
    exact call_ok hG h hid ho hc e1 ((evalAll_ok h ha).append hcaps) hr hy hK
  | lent c f g caps as j m s S1 r y δ ho hc hf ha hi hl hr hy hb =>
    obtain ⟨us, e1, hcaps⟩ := h.eval hf
    have hargs := evalAll_ok h ha
    obtain ⟨g1, g2⟩ := lend_ok h (innArg_sz hargs hi) hl
    refine call_ok hG g1 hid ho hc e1 ((hargs.swap).append hcaps) hr hy fun v w' E' L hv hS hU => ?_
    obtain ⟨q1, q2, q3⟩ := giveBack_ok hS g2 hb
    exact hK v w' E' L (by rw [q1]; exact hv) (by rw [q2]; exact q3) hU

end
end Go.Proofs.YtmbmapbdbbnaeaaT
