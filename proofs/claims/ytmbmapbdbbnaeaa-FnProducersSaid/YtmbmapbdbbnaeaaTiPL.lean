/- Pure facts about what the functions compute: no program in sight. -/
import Derived.Test.YtmbmapbdbbnaeaaTiAI
import Derived.Test.YtmbmapbdbbnaeaaTiBA
set_option linter.unusedVariables false
set_option linter.unusedSimpArgs false
namespace Go.Proofs.YtmbmapbdbbnaeaaT
open Go

theorem wf64 {n : Int} : (Lit.int .i64 n).wf = true ↔ -9223372036854775808 ≤ n ∧ n ≤ 9223372036854775807 := by
  simp [Lit.wf, IntKind.min, IntKind.max, IntKind.signed, IntKind.bits]
def w64 (x : Int) : Int := (x + 9223372036854775808) % 18446744073709551616 - 9223372036854775808
theorem wrap64 (x : Int) : IntKind.wrap .i64 x = w64 x := by
  unfold w64
  rw [IntKind.wrap_i64]
  try omega
theorem w64_id {x : Int} (h0 : -9223372036854775808 ≤ x) (h1 : x ≤ 9223372036854775807) : w64 x = x := by unfold w64; omega

/-! The printed words, as questions. -/
section
variable {R A : Type} {x y : Option R}
theorem brB_true : brB true x y = x := rfl
theorem brB_false : brB false x y = y := rfl
theorem brB_if (b : Bool) : brB b x y = if b = true then x else y := by cases b <;> rfl
theorem brB_not (b : Bool) : brB (bNot b) x y = brB b y x := by cases b <;> rfl
theorem brB_lt (a b : Int) : brB (iLt a b) x y = if a < b then x else y := by rw [brB_if]; simp [iLt]
theorem brB_le (a b : Int) : brB (iLe a b) x y = if a ≤ b then x else y := by rw [brB_if]; simp [iLe]
theorem brB_eq (a b : Int) : brB (iEq a b) x y = if a = b then x else y := by rw [brB_if]; simp [iEq]
theorem brB_ne (a b : Int) : brB (iNe a b) x y = if a = b then y else x := by
  rw [brB_if]; by_cases h : a = b <;> simp [iNe, h]
theorem brB_beq (a b : Bool) : brB (bEq a b) x y = if a = b then x else y := by rw [brB_if]; simp [bEq]
theorem brB_bne (a b : Bool) : brB (bNe a b) x y = if a = b then y else x := by
  rw [brB_if]; by_cases h : a = b <;> simp [bNe, h]
theorem chk_true : chk true x = x := rfl
theorem chk_idx (i n : Int) : chk (cIdx i n) x = if 0 ≤ i ∧ i < n then x else none := by
  by_cases h : 0 ≤ i ∧ i < n <;> simp [cIdx, h, chk]
theorem chk_len (n b : Int) : chk (cLen n b) x = if n * b ≤ 35184372088832 then x else none := by
  by_cases h : n * b ≤ 35184372088832 <;> simp [cLen, h, chk, maxBytes]
theorem chk_make (l c b : Int) : chk (cMake l c b) x = if 0 ≤ l ∧ l ≤ c ∧ c * b ≤ 35184372088832 then x else none := by
  by_cases h : 0 ≤ l ∧ l ≤ c ∧ c * b ≤ 35184372088832 <;> simp [cMake, h, chk, maxBytes]
theorem chk_sub (lo hi n : Int) : chk (cSub lo hi n) x = if 0 ≤ lo ∧ lo ≤ hi ∧ hi ≤ n then x else none := by
  by_cases h : 0 ≤ lo ∧ lo ≤ hi ∧ hi ≤ n <;> simp [cSub, h, chk]
theorem chk_nz (b : Int) : chk (cNz b) x = if b = 0 then none else x := by
  by_cases h : b = 0
  · simp [cNz, h, chk]
  · have : cNz b = true := by simpa [cNz] using h
    rw [this, if_neg h]; rfl
theorem chk_nn (b : Int) : chk (cNn b) x = if 0 ≤ b then x else none := by
  by_cases h : 0 ≤ b <;> simp [cNn, h, chk]
theorem bnd_one (a : A) (f : A → Option R) : bnd (some a) f = f a := rfl
end
theorem iAdd_w (a b : Int) : iAdd .i64 a b = w64 (a + b) := wrap64 _
theorem iSub_w (a b : Int) : iSub .i64 a b = w64 (a - b) := wrap64 _
theorem iMul_w (a b : Int) : iMul .i64 a b = w64 (a * b) := wrap64 _
theorem iAdd_id {a b : Int} (h0 : -9223372036854775808 ≤ a + b) (h1 : a + b ≤ 9223372036854775807) : iAdd .i64 a b = a + b := (iAdd_w a b).trans (w64_id h0 h1)
theorem iSub_id {a b : Int} (h0 : -9223372036854775808 ≤ a - b) (h1 : a - b ≤ 9223372036854775807) : iSub .i64 a b = a - b := (iSub_w a b).trans (w64_id h0 h1)
theorem next_id {i n : Nat} (h : i < n) (hn : n ≤ 4611686018427387904) : iAdd .i64 (i : Int) 1 = ((i + 1 : Nat) : Int) := by rw [iAdd_id (by omega) (by omega)]; omega
theorem rLen_eq {α : Type} (l : List α) : rLen l = (l.length : Int) := rfl
theorem rGet_nat {α : Type} (d : α) (l : List α) (i : Nat) : rGet d l (i : Int) = l.getD i d := rfl
theorem rSet_nat {α : Type} (l : List α) (i : Nat) (x : α) : rSet l (i : Int) x = l.set i x := rfl
theorem rApp_eq {α : Type} (a b : List α) : rApp a b = a ++ b := rfl
theorem rRep_nat {α : Type} (d : α) (n : Nat) : rRep d (n : Int) = List.replicate n d := rfl

/-! From some number of rounds on. -/
def Ev {α : Type} (g : Nat → Option α) (r : α) : Prop := ∃ K, ∀ k, K ≤ k → g k = some r
theorem Ev.now {α : Type} {g : Nat → Option α} {r : α} (h : ∀ k, g k = some r) : Ev g r := ⟨0, fun k _ => h k⟩
theorem Ev.const {α : Type} {a r : α} (h : a = r) : Ev (fun _ => some a) r := ⟨0, fun _ _ => by rw [h]⟩
theorem Ev.rounds {α : Type} {g : Nat → Option α} {r : α} (h : Ev g r) : ∃ k, g k = some r := by obtain ⟨K, h⟩ := h; exact ⟨K, h K (Nat.le_refl _)⟩
theorem Ev.bnd {α β : Type} {g : Nat → Option α} {f : Nat → α → Option β} {a : α} {r : β} (h : Ev g a) (e : Ev (fun k => f k a) r) : Ev (fun k => bnd (g k) (f k)) r := by
  obtain ⟨K, h⟩ := h; obtain ⟨K', e⟩ := e
  exact ⟨max K K', fun k hk => by dsimp only; rw [h k (by omega)]; exact e k (by omega)⟩
theorem Ev.ifp {α : Type} {c : Prop} [Decidable c] {g f : Nat → Option α} {r : α} (h : c) (e : Ev g r) : Ev (fun n => if c then g n else f n) r := by
  obtain ⟨K, e⟩ := e
  exact ⟨K, fun k hk => by dsimp only; rw [if_pos h]; exact e k hk⟩
theorem Ev.ifn {α : Type} {c : Prop} [Decidable c] {g f : Nat → Option α} {r : α} (h : ¬ c) (e : Ev f r) : Ev (fun n => if c then g n else f n) r := by
  obtain ⟨K, e⟩ := e
  exact ⟨K, fun k hk => by dsimp only; rw [if_neg h]; exact e k hk⟩
theorem Ev.brT {α : Type} {b : Bool} {g f : Nat → Option α} {r : α} (h : b = true) (e : Ev g r) : Ev (fun n => brB b (g n) (f n)) r := by subst h; exact e
theorem Ev.brF {α : Type} {b : Bool} {g f : Nat → Option α} {r : α} (h : b = false) (e : Ev f r) : Ev (fun n => brB b (g n) (f n)) r := by subst h; exact e
theorem Ev.ck {α : Type} {b : Bool} {g : Nat → Option α} {r : α} (h : b = true) (e : Ev g r) : Ev (fun n => chk b (g n)) r := by subst h; exact e
theorem Ev.same {α : Type} {g f : Nat → Option α} {r : α} (h : ∀ k, g k = f k) (e : Ev f r) : Ev g r := by
  obtain ⟨K, e⟩ := e
  exact ⟨K, fun k hk => (h k).trans (e k hk)⟩
theorem Ev.cong {α : Type} {g : Nat → Option α} {r r' : α} (h : Ev g r) (e : r = r') : Ev g r' := e ▸ h

/-- A loop that counts up: its state at round i is s i. -/
theorem iter_upto {X R : Type} {f : (X → Option R) → X → Option R} (s : Nat → X) (N : Nat) {r : R} (step : ∀ rec i, i < N → f rec (s i) = rec (s (i + 1))) (done : ∀ rec, f rec (s N) = some r) {n : Nat} (hn : N < n) :
    iter f n (s 0) = some r := by
  suffices H : ∀ d i n, i + d = N → d < n → iter f n (s i) = some r from H N 0 n (by omega) hn
  intro d
  induction d with
  | zero =>
    intro i n hi hn
    obtain ⟨m, rfl⟩ : ∃ m, n = m + 1 := ⟨n - 1, by omega⟩
    obtain rfl : i = N := by omega
    exact done _
  | succ d ih =>
    intro i n hi hn
    obtain ⟨m, rfl⟩ : ∃ m, n = m + 1 := ⟨n - 1, by omega⟩
    show f (iter f m) (s i) = _
    rw [step _ i (by omega)]
    exact ih (i + 1) m (by omega) (by omega)
/-- A loop that may end before. -/
theorem iter_until {X R : Type} {f : (X → Option R) → X → Option R} (s : Nat → X) (N : Nat) {r : R} (step : ∀ rec i, i < N → f rec (s i) = rec (s (i + 1))) (done : ∀ rec, f rec (s N) = some r) :
    Ev (fun n => iter f n (s 0)) r := ⟨N + 1, fun n hn => iter_upto s N step done (by omega)⟩

/-- The first i elements are written. -/
def fill {α : Type} (g : Nat → α) (xs : List α) (i : Nat) : List α := (List.range i).map g ++ xs.drop i
section
variable {α : Type} {g : Nat → α} {xs : List α} {i : Nat} {d : α}
theorem fill_len (h : i ≤ xs.length) : (fill g xs i).length = xs.length := by simp [fill]; omega
theorem fill_zero : fill g xs 0 = xs := by simp [fill]
theorem fill_end : fill g xs xs.length = (List.range xs.length).map g := by simp [fill]
theorem fill_get (j : Nat) (h : i ≤ j) : (fill g xs i).getD j d = xs.getD j d := by
  simp only [fill, List.getD_eq_getElem?_getD]
  rw [List.getElem?_append_right (by simpa using h)]
  simp only [List.length_map, List.length_range, List.getElem?_drop]
  rw [show i + (j - i) = j by omega]
theorem fill_set (h : i < xs.length) : (fill g xs i).set i (g i) = fill g xs (i + 1) := by
  simp only [fill]
  rw [List.set_append_right _ _ (by simp), List.range_succ, List.map_append, List.append_assoc]
  simp only [List.length_map, List.length_range, Nat.sub_self, List.map_cons, List.map_nil, List.cons_append, List.nil_append]
  rw [List.drop_eq_getElem_cons h, List.set_cons_zero]
theorem range_get (n : Nat) (h : i < n) : ((List.range n).map g).getD i d = g i := by
  simp [List.getD_eq_getElem?_getD, h]
theorem range_getD (xs : List α) (d : α) : (List.range xs.length).map (fun i => xs.getD i d) = xs := by
  apply List.ext_getElem?
  intro j
  simp only [List.getElem?_map]
  by_cases h : j < xs.length
  · simp [h]
  · rw [List.getElem?_eq_none (by simpa using h), List.getElem?_eq_none (by omega)]; rfl
end
end Go.Proofs.YtmbmapbdbbnaeaaT
