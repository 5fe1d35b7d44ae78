/- A function that copies a row, but for nil. -/
import Derived.Test.YtmbmapbdbbnaeaaTiAH
set_option linter.unusedVariables false
set_option linter.unusedSimpArgs false
namespace Go.Proofs.YtmbmapbdbbnaeaaT
open Go

section
variable {P : Program} {B : Base} {S : St} {E : Env} {a : Act} {w w' : World} {pv : List Value} {pins : List Nat} {β0 : Nat → Nat}

theorem act_get {d t : Nat} {v : Value} (hd : d < a.tmps.size) : (a.put (some d) v).tmps.getD t undef = if t = d then v else a.tmps.getD t undef := by
  simp only [Act.put, Array.getD_eq_getD_getElem?, Array.getElem?_setIfInBounds]
  by_cases e : t = d
  · subst e; simp [hd]
  · rw [if_neg (fun h => e h.symm), if_neg e]

theorem one_op {ops : Array Oper} {o : Oper} {i : Nat} {Q : Exit → Act → World → Prop} {K : Act → World → Prop} (ho : ops[i]? = some o) (hg : o.guard = none) {v : Value} (hr : (execOp a.eval o).run P w = .ok (.value v) w)
    (hk : K (a.put o.dst v) w) : wpOp P ops Q i K a w := by
  simp only [wpOp, ho]
  rw [if_pos (by simp [Region.wanted, hg])]
  refine .inl ?_
  unfold Oper.wp
  rw [hr]
  exact hk

theorem run_nil {t e : TypeId} {x y : Operand} {ad : Option Addr} {n c : Nat} (ht : P.underlying t = some (.slice e)) (w : World) :
    (eqGuard .eql t x y (.slice ad n c) (.slice none 0 0)).run P w = .ok () w ∧ (binOp .eql t (.slice ad n c) (.slice none 0 0)).run P w = .ok (.bool ad.isNone) w := by
  refine ⟨rfl, ?_⟩
  have : ∀ d, (Op.equalIn (d + 1) t (.slice ad n c) (.slice none 0 0)).run P w = .ok ad.isNone w := fun d => by
    cases ad <;> simp only [Op.equalIn, Sem.run_bind, run_underlying ht, Result.andThen_ok, Sem.run_pure] <;> rfl
  have h2 : (Op.equal t (.slice ad n c) (.slice none 0 0)).run P w = .ok ad.isNone w := this 9999
  show (do pure (Value.bool (← Op.equal t (.slice ad n c) (.slice none 0 0))) : Sem Value).run P w = _
  simp only [Sem.run_bind, h2, Result.andThen_ok, Sem.run_pure]

/-- A copy of a row: its contract's form, and its state behind the question whether it is nil. -/
def cloneSig (f : FuncId) (u : Ty) : Sig := ⟨f, [.w false [.row u]], [(false, [.own u])]⟩
def cloneSt (f : FuncId) (u : Ty) (x : List u.T) (b : Bool) : St :=
  ((({ startSt (cloneSig f u) x with prot := [] } : St).put 2 (.w (.c .nil))).put 3 (.w (.c (.v (.row u) x)))).put 4 (lit b)
/-- A copy of a row. -/
theorem clone_holds (hm : P.follows .mixedOrders = true) {f : FuncId} {u : Ty} {t e : TypeId} {r0 r1 r2 r3 : Nat} {fn : Func} {o0 o1 o2 o3 o5 o6 o7 o8 : Oper} (hf : P.funcs[f]? = some fn) (hname : (fn.name == "runtime.NumGoroutine") = false)
    (hb : fn.body = some (.seq (.region r0 #[o0] false) (.seq (.seq (.region r1 #[o1, o2] false) (.cond (.tmp 4) (.seq (.region r2 #[o3] false) .ret) .skip)) (.seq (.region r3 #[o5, o6, o7, o8] false) .ret))))
    (hd : dstsOk fn.ntmps (.seq (.region r0 #[o0] false) (.seq (.seq (.region r1 #[o1, o2] false) (.cond (.tmp 4) (.seq (.region r2 #[o3] false) .ret) .skip)) (.seq (.region r3 #[o5, o6, o7, o8] false) .ret))) = true)
    (hn : Nat.blt 4 fn.ntmps = true) (ht : P.underlying t = some (.slice e))
    (g0 : o0.guard = none ∧ o0.dst = some 2 ∧ o0.op = .assign (.const (.slice none 0 0)))
    (g1 : o1.guard = none ∧ o1.dst = some 3 ∧ o1.op = .move (.tmp 0))
    (g2 : o2.guard = none ∧ o2.dst = some 4 ∧ ∃ yt, o2.op = .binOp .eql t (.tmp 3) (.const (.slice none 0 0)) yt)
    (c : List u.T → Bool)
    (hX : ∀ k, runC P [] k ⟨[], [], [], [], false, 0, false⟩ (.seq (.region r2 #[o3] false) .ret) (fun e S => match e with
        | .ret => finish P fn (cloneSig f u) false S | _ => none) (cloneSt f u [] true) = some [])
    (hY : ∀ k (l : List u.T), runC P [] k ⟨[], [], [], [], false, 0, false⟩ (.seq (.region r3 #[o5, o6, o7, o8] false) .ret) (fun e S => match e with
        | .ret => finish P fn (cloneSig f u) false S | _ => none) (cloneSt f u l false) = chk (c l) (some l)) :
    Holds P { sig := cloneSig f u, fn := fun _ (x : List u.T) => chk (c x) (some x) } := by
  refine holds_of_code hf hname hb hd rfl (fun h => by cases h) rfl rfl fun k x y hy B pv β0 E a w hd' hB _ hinv Q hQ => ?_
  have hy' : chk (c x) (some x) = some y := hy
  obtain ⟨hc, e⟩ := chk_some hy'
  have e : x = y := Option.some.inj e
  subst e
  have h4 : 4 < B.n := by rw [Nat.blt_eq] at hn; omega
  have hs := hinv.sim.size
  have h0 : (startSt (cloneSig f u) x).tmps 0 = some (.w (.c (.v (.row u) x))) := rfl
  obtain ⟨_, hcell, hval⟩ := hinv.sim.tmps 0 _ h0
  have hv : ∃ ad n c, a.tmps.getD 0 undef = .slice ad n c ∧ (ad = none → x = []) := by
    obtain ⟨ad, cp, q1, _, q3⟩ := hval
    simp only [Option.some.injEq] at q1
    refine ⟨ad, _, cp, q1, fun e => ?_⟩
    rcases q3 with q3 | ⟨ad', q3, _⟩
    · exact List.length_eq_zero_iff.1 q3
    · rw [e] at q3; cases q3
  obtain ⟨ad, n, cp, hv, hnil⟩ := hv
  obtain ⟨g01, g02, g03⟩ := g0
  obtain ⟨g11, g12, g13⟩ := g1
  obtain ⟨g21, g22, yt, g23⟩ := g2
  -- the first operations
  have i1 := hinv.put (d := 2) (av := .w (.c .nil)) (v := .slice none 0 0) (by omega) rfl
  have e1 : ((a.put (some 2) (.slice none 0 0)).tmps.getD 0 undef) = .slice ad n cp := by rw [act_get (by omega)]; exact hv
  have i2 := i1.put (d := 3) (av := .w (.c (.v (.row u) x))) (v := .slice ad n cp) (by omega) ⟨hcell, by rw [← hv]; exact hval⟩
  have i3 := i2.put (d := 4) (av := lit ad.isNone) (v := .bool ad.isNone) (by omega) ⟨rfl, rfl⟩
  have s1 : (a.put (some 2) (Value.slice none 0 0)).tmps.size = a.tmps.size := by simp [Act.put]
  have s2 : ((a.put (some 2) (Value.slice none 0 0)).put (some 3) (.slice ad n cp)).tmps.size = a.tmps.size := by simp [Act.put]
  have hd1 : dstsOk B.n (.seq (.region r2 #[o3] false) .ret) = true ∧ dstsOk B.n (.seq (.region r3 #[o5, o6, o7, o8] false) .ret) = true := by
    simp only [dstsOk, Bool.and_eq_true] at hd' ⊢
    exact ⟨⟨hd'.2.1.2.1.1, trivial⟩, hd'.2.2⟩
  refine wp_seq (wp_region ?_)
  show wpOps P _ _ [0] a w
  rw [wpOps_cons]
  refine one_op (o := o0) rfl g01 (v := .slice none 0 0) (by simp [execOp, g03, Act.eval]) ?_
  show (Code.seq _ _).wp P Q _ _
  rw [g02]
  refine wp_seq (wp_seq (wp_region ?_))
  show wpOps P _ _ [0, 1] _ w
  rw [wpOps_cons]
  refine one_op (o := o1) rfl g11 (v := .slice ad n cp) (by
    have : (a.put (some 2) (Value.slice none 0 0)).eval (.tmp 0) = .slice ad n cp := e1
    simp [execOp, g13, this]) ?_
  rw [g12, wpOps_cons]
  refine one_op (o := o2) rfl g21 (v := .bool ad.isNone) (by
    have e3 : ((a.put (some 2) (Value.slice none 0 0)).put (some 3) (.slice ad n cp)).eval (.tmp 3) = .slice ad n cp := by
      show ((a.put (some 2) (Value.slice none 0 0)).put (some 3) (.slice ad n cp)).tmps.getD 3 undef = _
      rw [act_get (by omega), if_pos rfl]
    have e4 : ((a.put (some 2) (Value.slice none 0 0)).put (some 3) (.slice ad n cp)).eval (.const (.slice none 0 0)) = .slice none 0 0 := rfl
    have h5 := (run_nil (P := P) (x := .tmp 3) (y := .const (.slice none 0 0)) (ad := ad) (n := n) (c := cp) ht w)
    simp only [execOp, g23, e3, e4, Sem.run_bind, h5.1, Result.andThen_ok]
    rw [h5.2]
    rfl) ?_
  rw [g22]
  have hc4 : (((a.put (some 2) (Value.slice none 0 0)).put (some 3) (.slice ad n cp)).put (some 4) (.bool ad.isNone)).eval (.tmp 4) = .bool ad.isNone := by
    show (((a.put (some 2) (Value.slice none 0 0)).put (some 3) (.slice ad n cp)).put (some 4) (.bool ad.isNone)).tmps.getD 4 undef = _
    rw [act_get (by omega), if_pos rfl]
  show (Code.cond _ _ _).wp P _ _ w
  cases had : ad with
  | none =>
    subst had
    have hy0 := hnil rfl
    subst hy0
    refine wp_cond_true hc4 ?_
    refine runC_ok (G := []) (k := k) holds_nil hm ⟨[], [], [], (refBoxes 0 [PSh.w false [.row u]]).map (·.1), false, 0, false⟩ _ _ _ _ hd1.1 (hX k) _ _ w i3 _ fun B2 ex S' E' a' w' x2 hk hi => ?_
    cases ex with
    | normal => cases hk
    | ret => exact hQ B2 .ret S' E' a' w' x2 hk hi
    | exit j => cases hk
  | some ad =>
    subst had
    refine wp_cond_false hc4 ?_
    refine wp_skip ?_
    show (Code.seq _ _).wp P Q _ w
    refine runC_ok (G := []) (k := k) holds_nil hm ⟨[], [], [], (refBoxes 0 [PSh.w false [.row u]]).map (·.1), false, 0, false⟩ _ _ _ _ hd1.2 ((hY k x).trans (by rw [hc]; rfl)) _ _ w i3 _ fun B2 ex S' E' a' w' x2 hk hi => ?_
    cases ex with
    | normal => cases hk
    | ret => exact hQ B2 .ret S' E' a' w' x2 hk hi
    | exit j => cases hk

end
end Go.Proofs.YtmbmapbdbbnaeaaT
