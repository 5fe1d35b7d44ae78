/- The operations, continued: those that look at no memory. -/
import Derived.Test.YtmbmapbdbbnaeaaTiH
import Derived.Laws.StructEq
set_option linter.unusedVariables false
set_option linter.unusedSimpArgs false
namespace Go.Proofs.YtmbmapbdbbnaeaaT
open Go

section
variable {P : Program} {B : Base} {S : St} {E : Env} {a : Act} {w : World}

theorem val_int {F : Nat → Prop} {k : IntKind} {n : Int} {u : Value} (h : Val w F (.int k) n u) : u = .int k n := by simp only [Val, Enc] at h; exact Option.some.inj h
theorem val_bool {F : Nat → Prop} {b : Bool} {u : Value} (h : Val w F .bool b u) : u = .bool b := by simp only [Val, Enc] at h; exact Option.some.inj h
theorem val_str {F : Nat → Prop} {b : ByteArray} {u : Value} (h : Val w F .str b u) : u = .string b := by simp only [Val, Enc] at h; exact Option.some.inj h
theorem acr_int {k : IntKind} {n : Int} : ACr w E (.v (.int k) n) (.int k n) := ⟨rfl, rfl⟩
theorem acr_bool {b : Bool} : ACr w E (.v .bool b) (.bool b) := ⟨rfl, rfl⟩

theorem run_eqGuard_int (op : BinOp) (t : TypeId) (x y : Operand) (j k : IntKind) (m n : Int) (w : World) : (eqGuard op t x y (.int j m) (.int k n)).run P w = .ok () w := by
  unfold eqGuard; cases op <;> rfl
theorem run_eqGuard_bool (op : BinOp) (t : TypeId) (x y : Operand) (m n : Bool) (w : World) : (eqGuard op t x y (.bool m) (.bool n)).run P w = .ok () w := by
  unfold eqGuard; cases op <;> rfl
theorem run_eqGuard_str (op : BinOp) (t : TypeId) (x y : Operand) (m n : ByteArray) (w : World) : (eqGuard op t x y (.string m) (.string n)).run P w = .ok () w := by
  unfold eqGuard; cases op <;> rfl
theorem run_equal_bool {t : TypeId} (ht : P.underlying t = some .bool) (m n : Bool) (w : World) : (Op.equal t (.bool m) (.bool n)).run P w = .ok (m == n) w := by
  have : ∀ d, (Op.equalIn (d + 1) t (.bool m) (.bool n)).run P w = .ok (m == n) w := fun d => by
    simp only [Op.equalIn, Sem.run_bind, run_underlying ht, Result.andThen_ok, Sem.run_pure]
  exact this 9999

theorem intOp_run {op : BinOp} {k : IntKind} {m n : Int} {r : Out} (h : intOp op k m n = some r) (hok : r.ok = true) (t : TypeId) (w : World) :
    ∃ c u, r.d = { val := .w (.c c) } ∧ (binOp op t (.int k m) (.int k n)).run P w = .ok u w ∧ ∀ E : Env, ACr w E c u := by
  unfold intOp vI vB vC at h
  cases op <;> simp only [Option.some.injEq] at h <;> first | (cases h; done) | (subst h)
  case quo =>
    have hn : n ≠ 0 := by simpa [cNz] using hok
    exact ⟨_, _, rfl, by simp only [binOp, ne_eq, not_true_eq_false, if_false, Op.intDiv, hn]; rfl, fun E => acr_int⟩
  case rem =>
    have hn : n ≠ 0 := by simpa [cNz] using hok
    exact ⟨_, _, rfl, by simp only [binOp, ne_eq, not_true_eq_false, if_false, Op.intDiv, hn]; rfl, fun E => acr_int⟩
  all_goals first
    | exact ⟨_, _, rfl, by simp only [binOp, ne_eq, not_true_eq_false, if_false]; rfl, fun E => acr_int⟩
    | exact ⟨_, _, rfl, by simp only [binOp, ne_eq, not_true_eq_false, if_false]; rfl, fun E => acr_bool⟩

theorem shOp_run {op : BinOp} {k j : IntKind} {m n : Int} {r : Out} (h : shOp op k m n = some r) (hok : r.ok = true) (t : TypeId) (w : World) :
    ∃ c u, r.d = { val := .w (.c c) } ∧ (binOp op t (.int k m) (.int j n)).run P w = .ok u w ∧ ∀ E : Env, ACr w E c u := by
  unfold shOp vC at h
  cases op <;> simp only [Option.some.injEq] at h <;> first | (cases h; done) | (subst h)
  all_goals
    have hn : ¬ n < 0 := by simpa [cNn] using hok
    exact ⟨_, _, rfl, by simp only [binOp, Op.shift, hn, if_false]; rfl, fun E => acr_int⟩

theorem flat_mem : ∀ {fs : List Field} {off : Nat} {l : List AC}, flatB P fs off l = true → ∀ f ∈ fs, (∃ k, P.underlying f.type = some (.int k)) ∨ P.underlying f.type = some .bool
  | [], _, _, _, f, hf => by cases hf
  | g :: fs, off, l, h, f, hf => by
    unfold flatB at h
    split at h
    · simp_all
    · rename_i g' fs' off' k n l' e
      cases e
      simp only [Bool.and_eq_true] at h
      rcases List.mem_cons.1 hf with rfl | hf
      · have := h.1.2
        split at this
        · rename_i j hj; exact .inl ⟨j, hj⟩
        · cases this
      · exact flat_mem h.2 f hf
    · rename_i g' fs' off' n l' e
      cases e
      simp only [Bool.and_eq_true] at h
      rcases List.mem_cons.1 hf with rfl | hf
      · have := h.1.2
        split at this
        · rename_i hj; exact .inr hj
        · cases this
      · exact flat_mem h.2 f hf
    · cases h
theorem flat_guard {t : TypeId} {fs : Array Field} {l : List AC} (hu : P.underlying t = some (.struct fs)) (h : flatB P fs.toList 0 l = true) : P.eqGuardType P.depth t = false := by
  have step : ∀ n, P.eqGuardType (n + 1 + 1) t = false := by
    intro n
    simp only [Program.eqGuardType, hu]
    rw [Array.any_eq_false']
    intro f hf
    have := flat_mem h f (by simpa using hf)
    rcases this with ⟨k, hk⟩ | hk <;> simp [hk]
  exact step _
theorem run_part_cell {t : TypeId} {xs : Array Value} {off : Nat} {u : Value} (hg : aggB P t = some false) (hu : xs[off]? = some u) (w : World) : (part t xs off).run P w = .ok u w := by
  simp [part, run_aggB hg, hu]
theorem eqFields_run (d : Nat) : ∀ {fs : List Field} {off : Nat} {l m : List AC} {xs ys : Array Value} {r : Bool}, flatB P fs off l = true → flatB P fs off m = true → eqCells l m = some r →
    (∀ (j : Nat) c, l[j]? = some c → ∃ u, xs[off + j]? = some u ∧ ACr w E c u) → (∀ (j : Nat) c, m[j]? = some c → ∃ u, ys[off + j]? = some u ∧ ACr w E c u) →
      (Op.eqFields (d + 1) xs ys fs).run P w = .ok r w
  | [], off, [], [], xs, ys, r, h1, h2, h3, hx, hy => by simp only [eqCells] at h3; cases h3; rfl
  | [], off, _ :: _, _, xs, ys, r, h1, h2, h3, hx, hy => by simp [flatB] at h1
  | [], off, [], _ :: _, xs, ys, r, h1, h2, h3, hx, hy => by simp [flatB] at h2
  | f :: fs, off, [], _, xs, ys, r, h1, h2, h3, hx, hy => by simp [flatB] at h1
  | f :: fs, off, c :: l, [], xs, ys, r, h1, h2, h3, hx, hy => by simp [flatB] at h2
  | f :: fs, off, c :: l, c' :: m, xs, ys, r, h1, h2, h3, hx, hy => by
    obtain ⟨u, hu, au⟩ := hx 0 c rfl
    obtain ⟨v, hv, av⟩ := hy 0 c' rfl
    rw [Nat.add_zero] at hu hv
    have hx' : ∀ (j : Nat) c, l[j]? = some c → ∃ u, xs[off + 1 + j]? = some u ∧ ACr w E c u := fun j c hc => by
      obtain ⟨u, q1, q2⟩ := hx (j + 1) c (by simpa using hc)
      exact ⟨u, by rw [show off + 1 + j = off + (j + 1) by omega]; exact q1, q2⟩
    have hy' : ∀ (j : Nat) c, m[j]? = some c → ∃ u, ys[off + 1 + j]? = some u ∧ ACr w E c u := fun j c hc => by
      obtain ⟨u, q1, q2⟩ := hy (j + 1) c (by simpa using hc)
      exact ⟨u, by rw [show off + 1 + j = off + (j + 1) by omega]; exact q1, q2⟩
    have fin : ∀ {b r' : Bool}, f.offset = off → f.name ≠ "_" → aggB P f.type = some false → (Op.equalIn (d + 1) f.type u v).run P w = .ok b w → (Op.eqFields (d + 1) xs ys fs).run P w = .ok r' w →
        (Op.eqFields (d + 1) xs ys (f :: fs)).run P w = .ok (b && r') w := by
      intro b r' e1 e2 e3 e4 e5
      subst e1
      simp only [Op.eqFields, if_pos e2, Sem.run_bind, run_part_cell e3 hu, run_part_cell e3 hv, Result.andThen_ok, e4]
      cases b
      · simp only [Bool.not_false, if_true, Sem.run_pure, Bool.false_and]
      · simp only [Bool.not_true, Bool.false_eq_true, if_false, Bool.true_and]; exact e5
    unfold eqCells at h3
    split at h3
    · simp_all
    · rename_i k n l0 j n' m0 e e'
      cases e; cases e'
      split at h3
      · rename_i hk
        subst hk
        obtain ⟨r', h4, h5⟩ := Option.bind_eq_some_iff.1 h3
        cases h5
        simp only [flatB, Bool.and_eq_true, Bool.not_eq_true'] at h1 h2
        have ih := eqFields_run d h1.2 h2.2 h4 hx' hy'
        have eu := val_int au.2
        have ev := val_int av.2
        have ht : P.underlying f.type = some (.int k) := by
          have := h1.1.2
          split at this
          · rename_i j hj; rw [hj, of_decide_eq_true this]
          · cases this
        refine fin (beq_nat.1 h1.1.1.1) (by simpa using h1.1.1.2) (by simp [aggB, ht]) ?_ ih
        rw [eu, ev]
        exact run_equalIn_int w d f.type k k n n' ht
      · cases h3
    · rename_i n l0 n' m0 e e'
      cases e; cases e'
      obtain ⟨r', h4, h5⟩ := Option.bind_eq_some_iff.1 h3
      cases h5
      simp only [flatB, Bool.and_eq_true, Bool.not_eq_true'] at h1 h2
      have ih := eqFields_run d h1.2 h2.2 h4 hx' hy'
      have eu := val_bool au.2
      have ev := val_bool av.2
      have ht : P.underlying f.type = some .bool := by
        have := h1.1.2
        split at this
        · assumption
        · cases this
      refine fin (beq_nat.1 h1.1.1.1) (by simpa using h1.1.1.2) (by simp [aggB, ht]) ?_ ih
      rw [eu, ev]
      exact run_equalIn_bool' w d f.type n n' ht
    · cases h3

theorem op_binOp (h : Sim B S E a w) {id : Nat} {o : Oper} {op : BinOp} {t u : TypeId} {x y : Operand} (ho : o.op = .binOp op t x y u) {r : Out} (hb : opB P S id (.binOp op t x y u) = some r) (hok : r.ok = true) :
    OpOk P B S E a w id o r.d := by
  simp only [opB] at hb
  split at hb
  · rename_i l m hl hm
    obtain ⟨us, eu, au⟩ := h.eval hl
    obtain ⟨vs, ev, av⟩ := h.eval hm
    unfold aggEq at hb
    split at hb
    · rename_i fs hu
      split at hb
      · rename_i hc
        simp only [Bool.and_eq_true, Bool.not_eq_true'] at hc
        obtain ⟨⟨c1, c2⟩, c3⟩ := hc
        have c4 := flat_guard hu c1
        obtain ⟨q, hq, hb⟩ := Option.bind_eq_some_iff.1 hb
        have hfo : P.fieldsOf t = fs := by simp [Program.fieldsOf, hu]
        have get : ∀ {l : List AC} {us : List Value}, ACs w E l us → ∀ (j : Nat) c, l[j]? = some c → ∃ u, us.toArray[0 + j]? = some u ∧ ACr w E c u := by
          intro l us ha j c hc
          have hj : j < us.length := by rw [← ha.1]; exact (List.getElem?_eq_some_iff.1 hc).1
          exact ⟨us[j], by simp [hj], ha.2 j c us[j] hc (by simp [hj])⟩
        have run : (Op.equalIn 10000 t (.agg us.toArray) (.agg vs.toArray)).run P w = .ok q w := by
          rw [show (10000 : Nat) = 9998 + 1 + 1 from rfl, run_equalIn_agg w _ t us.toArray vs.toArray (by rw [hfo]; exact hu) c3, hfo]
          exact eqFields_run 9998 c1 c2 hq (get au) (get av)
        have g := fun op => run_eqGuard_agg (P := P) w op t x y us.toArray vs.toArray c4
        split at hb
        · cases hb
          refine OpOk.same h (v := .bool q) ?_ acr_bool
          simp only [execOp, ho, eu, ev, Sem.run_bind, g, Result.andThen_ok]
          rw [run_eql_struct, run]; rfl
        · cases hb
          refine OpOk.same h (v := .bool (!q)) ?_ acr_bool
          simp only [execOp, ho, eu, ev, Sem.run_bind, g, Result.andThen_ok]
          rw [run_neq_struct, run]; rfl
        · cases hb
      · cases hb
    · cases hb
  simp only [Option.bind_eq_some_iff] at hb
  obtain ⟨c, hc, d, hd, hb⟩ := hb
  have h1 := h.evalC hc
  have h2 := h.evalC hd
  have fin : ∀ {p q : Value}, a.eval x = p → a.eval y = q → (eqGuard op t x y p q).run P w = .ok () w → (∃ c u, r.d = { val := .w (.c c) } ∧ (binOp op t p q).run P w = .ok u w ∧ ∀ E : Env, ACr w E c u) → OpOk P B S E a w id o r.d := by
    intro p q hp hq hg ⟨c, v, e, hr, hv⟩
    rw [e]
    refine OpOk.same h (v := v) ?_ (hv E)
    simp only [execOp, ho, hp, hq, Sem.run_bind, hg, hr, Result.andThen_ok, Sem.run_pure]
  unfold binB at hb
  split at hb
  · rename_i k m j n
    have e1 := val_int h1.2
    have e2 := val_int h2.2
    refine fin e1 e2 (run_eqGuard_int ..) ?_
    split at hb
    · exact shOp_run hb hok t w
    · exact shOp_run hb hok t w
    · split at hb
      · rename_i hk; subst hk; exact intOp_run hb hok t w
      · cases hb
  · rename_i m n
    have e1 := val_bool h1.2
    have e2 := val_bool h2.2
    refine fin e1 e2 (run_eqGuard_bool ..) ?_
    have ht : ∀ {b : Bool}, (match P.underlying t with | some .bool => true | _ => false) = b → b = true → P.underlying t = some .bool := by
      intro b hb e
      subst e
      split at hb
      · assumption
      · cases hb
    split at hb
    · rename_i e; cases hb
      exact ⟨_, _, rfl, by simp only [binOp, Sem.run_bind, run_equal_bool (ht e rfl), Result.andThen_ok, Sem.run_pure]; rfl, fun E => acr_bool⟩
    · rename_i e; cases hb
      exact ⟨_, _, rfl, by simp only [binOp, Sem.run_bind, run_equal_bool (ht e rfl), Result.andThen_ok, Sem.run_pure]; rfl, fun E => acr_bool⟩
    · cases hb
  · rename_i m n
    have e1 := val_str h1.2
    have e2 := val_str h2.2
    refine fin e1 e2 (run_eqGuard_str ..) ?_
    split at hb
    · cases hb; exact ⟨_, _, rfl, by simp only [binOp, Op.stringOp]; rfl, fun E => acr_bool⟩
    · cases hb; exact ⟨_, _, rfl, by simp only [binOp, Op.stringOp]; rfl, fun E => acr_bool⟩
    · cases hb
  · cases hb

theorem op_unOp (h : Sim B S E a w) {id : Nat} {o : Oper} {op : UnOp} {t : TypeId} {x : Operand} (ho : o.op = .unOp op t x) {r : Out} (hb : opB P S id (.unOp op t x) = some r) (hok : r.ok = true) :
    OpOk P B S E a w id o r.d := by
  simp only [opB, Option.bind_eq_some_iff] at hb
  obtain ⟨c, hc, hb⟩ := hb
  have h1 := h.evalC hc
  split at hb
  · cases hb
    have e1 := val_bool h1.2
    exact OpOk.same h (v := .bool _) (by simp only [execOp, ho, e1, Op.unary, Sem.run_bind, Sem.run_pure, Result.andThen_ok]; rfl) acr_bool
  · cases hb
    have e1 := val_int h1.2
    exact OpOk.same h (v := .int _ _) (by simp only [execOp, ho, e1, Op.unary, Op.intArith, Sem.run_bind, Sem.run_pure, Result.andThen_ok]; rfl) acr_int
  · cases hb

theorem op_convert (h : Sim B S E a w) {id : Nat} {o : Oper} {s t : TypeId} {x : Operand} (ho : o.op = .convert s t x) {r : Out} (hb : opB P S id (.convert s t x) = some r) (hok : r.ok = true) :
    OpOk P B S E a w id o r.d := by
  simp only [opB, Option.bind_eq_some_iff] at hb
  obtain ⟨c, hc, hb⟩ := hb
  have h1 := h.evalC hc
  split at hb
  · rename_i d k k' n e2 e3
    cases hb
    have e1 := val_int h1.2
    refine OpOk.same h (v := .int k (k.wrap n)) ?_ acr_int
    simp only [execOp, ho, e1, convert, Sem.run_bind, run_underlying e2, run_underlying e3, Result.andThen_ok]
    cases d <;> rfl
  · cases hb

theorem op_index (h : Sim B S E a w) {id : Nat} {o : Oper} {t : TypeId} {x i : Operand} (ho : o.op = .index t x i) {r : Out} (hb : opB P S id (.index t x i) = some r) (hok : r.ok = true) :
    OpOk P B S E a w id o r.d := by
  simp only [opB, Option.bind_eq_some_iff] at hb
  obtain ⟨c, hc, d, hd, hb⟩ := hb
  have h1 := h.evalC hc
  have h2 := h.evalC hd
  split at hb
  · rename_i s k n e2
    cases hb
    have e1 : a.eval x = .string s := by simpa [Val, Enc] using h1.2
    have e3 := val_int h2.2
    have hi : 0 ≤ n ∧ n < (ByteArray.size s : Int) := of_decide_eq_true hok
    refine OpOk.same h (v := .int .u8 (sGet s n)) ?_ acr_int
    simp only [execOp, ho, e1, e3, Sem.run_bind, run_index_string w t s k n e2, dif_pos hi, Result.andThen_ok, Sem.run_pure]
    have hn : n.toNat < ByteArray.size s := (Int.toNat_lt hi.1).2 hi.2
    rw [sGet, dif_pos hn]
  · cases hb

theorem op_nilCheck (h : Sim B S E a w) {id : Nat} {o : Oper} {x : Operand} (ho : o.op = .nilCheck x) {r : Out} (hb : opB P S id (.nilCheck x) = some r) (hok : r.ok = true) :
    OpOk P B S E a w id o r.d := by
  simp only [opB, Option.bind_eq_some_iff] at hb
  obtain ⟨c, hc, hb⟩ := hb
  have h1 := h.evalC hc
  have fin : ∀ {ad : Addr}, a.eval x = .pointer (some ad) → OpOk P B S E a w id o { val := .w (.c c) } := fun e =>
    OpOk.same h (v := a.eval x) (by simp only [execOp, ho, e, Sem.run_pure]) h1
  split at hb
  · cases hb; exact fin h1.2
  · cases hb; obtain ⟨b, f, e, _⟩ := h1; exact fin e
  · cases hb; obtain ⟨_, g, n, c', _, _, _, e⟩ := h1; exact fin e
  · cases hb

theorem partOff_some {s : TypeId} {f : Nat} {p : Nat × TypeId} (h : partOff P s f = some p) : ∃ fs fd, P.underlying s = some (.struct fs) ∧ fs[f]? = some fd ∧ p = (fd.offset, fd.type) := by
  unfold partOff at h
  split at h
  · simp only [Option.bind_eq_some_iff] at h
    obtain ⟨fd, h1, h2⟩ := h
    cases h2
    exact ⟨_, fd, by assumption, h1, rfl⟩
  · cases h

theorem op_fieldAddr (h : Sim B S E a w) {id : Nat} {o : Oper} {s : TypeId} {x : Operand} {f : Nat} (ho : o.op = .fieldAddr s x f) {r : Out} (hb : opB P S id (.fieldAddr s x f) = some r) (hok : r.ok = true) :
    OpOk P B S E a w id o r.d := by
  simp only [opB, Option.bind_eq_some_iff] at hb
  obtain ⟨c, hc, p, hp, n, hn, hb⟩ := hb
  have h1 := h.evalC hc
  obtain ⟨fs, fd, hs, hf, rfl⟩ := partOff_some hp
  split at hb
  · rename_i hlt
    have hlt : 0 < n := Nat.le_of_ble_eq_true hlt
    have fin : ∀ {b q : Nat} {c' : AC}, a.eval x = .pointer (some ⟨b, q, none⟩) → ACr w E c' (.pointer (some ⟨b, q + fd.offset, none⟩)) → OpOk P B S E a w id o { val := .w (.c c') } := fun e hc' => by
      refine OpOk.same h (v := .pointer (some ⟨_, _ + fd.offset, none⟩)) ?_ hc'
      simp only [execOp, ho, e, Instr.fieldAt, Sem.run_bind, run_underlying hs, Result.andThen_ok, hf, Instr.sureAddr, Sem.run_pure, fieldPlace, run_sizeB hn, Nat.ne_of_gt hlt, if_false, addr_add, Sem.run_ite]
    split at hb
    · cases hb; exact fin h1.2 ⟨h1.1, rfl⟩
    · cases hb
      obtain ⟨b, q, e, hF, he⟩ := h1
      exact fin e ⟨b, q, by rw [Nat.add_assoc], hF, he⟩
    · cases hb
      obtain ⟨hU, g, n', c', e0, e1, e2, e⟩ := h1
      exact fin e ⟨hU, g, n', c', e0, e1, e2, by rw [Nat.add_assoc]⟩
    · cases hb
  · cases hb

theorem shut_part {g : Bool} {l m : List AC} {n off : Nat} {x : AW} {us : List Value} (hw : window l off n = some m) (hx : shut g m = some x) (ha : ACs w E l us) {t : TypeId} (hn : sizeB P t = some n) (hg : aggB P t = some g) :
    ∃ v, (part t us.toArray off).run P w = .ok v w ∧ AWr w E x v := by
  obtain ⟨h1, h2⟩ := window_acs hw ha
  rcases shut_aw hx h1 with ⟨rfl, h⟩ | ⟨rfl, u, e, h⟩
  · refine ⟨_, ?_, h⟩
    simp only [part, Sem.run_bind, run_aggB hg, run_sizeB hn, Result.andThen_ok, Sem.run_ite, if_true, Sem.run_pure]
    congr 2
    apply Array.ext'
    simp [List.extract_eq_take_drop]
  · refine ⟨u, ?_, h⟩
    have hu : us[off]? = some u := by
      have : ((us.drop off).take n)[0]? = some u := by rw [e]; rfl
      rw [List.getElem?_take] at this
      split at this
      · rw [List.getElem?_drop] at this; simpa using this
      · cases this
    simp [part, run_aggB hg, hu]

theorem op_field (h : Sim B S E a w) {id : Nat} {o : Oper} {s : TypeId} {x : Operand} {f : Nat} (ho : o.op = .field s x f) {r : Out} (hb : opB P S id (.field s x f) = some r) (hok : r.ok = true) :
    OpOk P B S E a w id o r.d := by
  simp only [opB, Option.bind_eq_some_iff] at hb
  obtain ⟨c, hc, p, hp, n, hn, g, hg, hb⟩ := hb
  have h1 := h.evalW hc
  obtain ⟨fs, fd, hs, hf, rfl⟩ := partOff_some hp
  split at hb
  · simp only [Option.bind_eq_some_iff] at hb
    obtain ⟨l, hl, x', hx', e⟩ := hb
    cases e
    obtain ⟨us, e, ha⟩ := h1
    obtain ⟨v, hv, hr⟩ := shut_part hl hx' ha hn hg
    refine OpOk.same h (v := v) ?_ hr
    simp only [execOp, ho, e, Instr.field, Sem.run_bind, run_underlying hs, Result.andThen_ok, hf, asAgg, Sem.run_pure, hv]
  · cases hb

theorem op_extract (h : Sim B S E a w) {id : Nat} {o : Oper} {x : Operand} {n : Nat} (ho : o.op = .extract x n) {r : Out} (hb : opB P S id (.extract x n) = some r) (hok : r.ok = true) :
    OpOk P B S E a w id o r.d := by
  simp only [opB] at hb
  split at hb
  · rename_i l hl
    simp only [Option.bind_eq_some_iff] at hb
    obtain ⟨y, hy, e⟩ := hb
    cases e
    obtain ⟨us, e, h1, h2⟩ := h.eval hl
    have hlt : n < us.length := by rw [← h1]; exact (List.getElem?_eq_some_iff.1 hy).1
    refine OpOk.same h (v := us[n]) ?_ (h2 n y _ hy (by simp [hlt]))
    simp only [execOp, ho, e, Instr.extract, Sem.run_bind, Sem.run_pure, Result.andThen_ok]
    simp [hlt]
  · cases hb

theorem partsS_aws (h : Sim B S E a w) : ∀ {l : List (Nat × Operand)} {m : List (Nat × AW)}, partsS S l = some m →
    m.length = l.length ∧ ∀ (j : Nat) i x i' y, l[j]? = some (i, x) → m[j]? = some (i', y) → i' = i ∧ AWr w E y (a.eval x)
  | [], m, e => by simp only [partsS] at e; cases e; exact ⟨rfl, fun j i x i' y hx => by simp at hx⟩
  | (i, x) :: l, m, e => by
    simp only [partsS, Option.bind_eq_some_iff] at e
    obtain ⟨v, hv, m', hm, e⟩ := e
    cases e
    obtain ⟨h1, h2⟩ := partsS_aws h hm
    refine ⟨by simp [h1], fun j i' x' i'' y hx hy => ?_⟩
    cases j with
    | zero => simp at hx hy; obtain ⟨rfl, rfl⟩ := hx; obtain ⟨rfl, rfl⟩ := hy; exact ⟨rfl, h.evalW hv⟩
    | succ j => exact h2 j i' x' i'' y (by simpa using hx) (by simpa using hy)

theorem op_makeFunc (h : Sim B S E a w) {id : Nat} {o : Oper} {fn : Fn} {first caps : Array Operand} (ho : o.op = .makeFunc fn first caps) {r : Out} (hb : opB P S id (.makeFunc fn first caps) = some r) (hok : r.ok = true) :
    OpOk P B S E a w id o r.d := by
  simp only [opB] at hb
  split at hb
  · rename_i _ f hfirst
    have hfirst : first = #[] := by cases first; simp_all
    subst hfirst
    simp only [Option.bind_eq_some_iff] at hb
    obtain ⟨l, hl, e⟩ := hb
    cases e
    obtain ⟨h1, h2⟩ := partsS_aws h hl
    refine OpOk.same h (v := .func (.func f) #[] (caps.map a.eval)) ?_ ⟨(caps.map a.eval).toList, by rw [Array.toArray_toList], ?_, fun j y u hy hu => ?_⟩
    · simp only [execOp, ho, Instr.makeFunc, Sem.run_bind, Sem.run_pure, Result.andThen_ok, Array.map_empty]
    · simp [h1]
    · simp only [List.getElem?_map, Option.map_eq_some_iff, Array.toList_map] at hy hu
      obtain ⟨⟨i', y'⟩, hy, rfl⟩ := hy
      obtain ⟨x, hx, rfl⟩ := hu
      exact (h2 j 0 x i' y' (by simp only [List.getElem?_map, hx, Option.map_some]) hy).2
  · cases hb

end
end Go.Proofs.YtmbmapbdbbnaeaaT
