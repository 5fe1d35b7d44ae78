/- slices.Delete of one element: the seat's function. -/
import Derived.Test.YtbmfjpflhbhhdaaProg
import Derived.Test.YtbmfjpflhbhhdaaTiDEL
set_option linter.unusedVariables false
set_option linter.unusedSimpArgs false
namespace Go.Proofs.YtbmfjpflhbhhdaaT
open Go Go.RowKit Go.Lib
theorem del_elem : (elemB Go.Proofs.Try.prog 81).map (fun x => (x.1.size, x.2)) = some (6, 64) := by kernel_rfl
set_option maxHeartbeats 4000000 in
set_option maxRecDepth 1000000 in
theorem del_raw : DelRaw Go.Proofs.Try.prog 80 6 := by
  refine ⟨⟨_, Go.Proofs.Try.func80, by kernel_rfl, by kernel_rfl⟩, fun w g n cap i cur e hg hn hc hcs hone hi => ?_⟩
  obtain ⟨eb, heb, hsz⟩ : ∃ eb, elemB Go.Proofs.Try.prog 81 = some eb ∧ eb.1.size = 6 := by
    have := del_elem
    cases h : elemB Go.Proofs.Try.prog 81 with
    | none => rw [h] at this; cases this
    | some x => rw [h] at this; exact ⟨x, rfl, congrArg Prod.fst (Option.some.inj this)⟩
  obtain ⟨ti, z, hti, hz, hisz, hib, hzs, hpos, hb0, hb1, ts, hts, hzf, _⟩ := (elemB_some heb).info
  rw [hsz] at hisz hzs
  have t25 := Go.Proofs.Try.underlying25
  obtain ⟨j, hj⟩ : ∃ j, j = i + 1 := ⟨_, rfl⟩
  rw [← hj]
  have heq : ¬ i = j := by omega
  obtain ⟨news, hnews⟩ : ∃ news, news = (cur.toList.take (n * 6)).drop (j * 6) := ⟨_, rfl⟩
  have hlen : news.length = (n - j) * 6 := by
    rw [hnews, List.length_drop, List.length_take, Array.length_toList, hcs]; omega
  obtain ⟨A, hA, hsrc⟩ : ∃ A : Addr, (if cap = j then some (⟨g, 0, none⟩ : Addr) else some ⟨g, j * 6, none⟩) = some A ∧ Hid (∀ W : World, W.heap = w.heap → (Builtin.firstCells 6 (n - j) (.slice (some A) (n - j) (cap - j))).run Go.Proofs.Try.prog W = .ok news.toArray W) := by
    by_cases h : cap = j
    · refine ⟨⟨g, 0, none⟩, by simp [h], fun W hW => ?_⟩
      refine run_firstCells_some (P := Go.Proofs.Try.prog) W 6 (n - j) ⟨g, 0, none⟩ (n - j) (cap - j) news hlen (fun q v hq => ?_)
      have := (List.getElem?_eq_some_iff.1 hq).1
      omega
    · refine ⟨⟨g, j * 6, none⟩, by simp [h], fun W hW => ?_⟩
      refine run_firstCells_some (P := Go.Proofs.Try.prog) W 6 (n - j) ⟨g, j * 6, none⟩ (n - j) (cap - j) news hlen (fun q v hq => ?_)
      rw [addr_add, cell_row (by rw [hW]; exact hg)]
      rw [hnews, List.getElem?_drop, List.getElem?_take] at hq
      split at hq
      · simpa using hq
      · cases hq
  have s2 : Hid (∀ u ∈ news, u.oneCell' = true) := fun u hu => hone u (by rw [hnews] at hu; exact List.mem_of_mem_drop hu)
  have s3 : Hid (w.drew.heap[g]? = some (.cells cur e (0, 0))) := hg
  have s4 : Hid (i * 6 + news.length ≤ cur.size) := by show _ ≤ _; rw [hlen, hcs]; omega
  obtain ⟨W1, hW1⟩ : ∃ W1, W1 = w.drew.setRow g (cur.toList.take (i * 6) ++ news ++ cur.toList.drop (i * 6 + news.length)).toArray := ⟨_, rfl⟩
  have hzv : ∀ w, (zeroValue 81).run Go.Proofs.Try.prog w = .ok z w := fun w => by
    obtain ⟨v, hv, hvz⟩ := run_zeroB (P := Go.Proofs.Try.prog) (t := 81) (z := z.cells.toList) (by simp [zeroB, hti, hz]) w
    have : (zeroValue 81).run Go.Proofs.Try.prog w = .ok z w := by simp [zeroValue, typeInfo, hti, hz]
    exact this
  obtain ⟨cur1, hc1⟩ : ∃ cur1 : Array Value, cur1 = (cur.toList.take (i * 6) ++ news ++ cur.toList.drop (i * 6 + news.length)).toArray := ⟨_, rfl⟩
  have hsz1 : cur1.size = cap * 6 := by
    rw [hc1, ← hcs]; simp only [List.size_toArray, List.length_append, List.length_take, List.length_drop, Array.length_toList]
    have := s4; unfold Hid at this; omega
  have hg1 : W1.heap[g]? = some (.cells cur1 e (0, 0)) := by
    rw [hW1, hc1]; exact setRow_heap _ g cur _ e _ hg
  have hcl : ∀ ty, (Builtin.clear_ #[25] ty #[.slice (some ⟨g, (n - 1) * 6, none⟩) 1 (cap - (n - 1))]).run Go.Proofs.Try.prog W1 = .ok (.tuple #[]) (W1.setRow g (cur1.toList.take ((n - 1) * 6) ++ z.cells.toList ++ cur1.toList.drop ((n - 1) * 6 + z.cells.size)).toArray) := fun ty =>
    run_clear_row W1 25 81 ty z t25 hzv (zerosFit_one hzf) g ((n - 1) * 6) _ cur1 e hg1 (by rw [hzs, hsz1]; omega)
  obtain ⟨W2, hW2⟩ : ∃ W2, W2 = W1.setRow g (cur1.toList.take ((n - 1) * 6) ++ z.cells.toList ++ cur1.toList.drop ((n - 1) * 6 + z.cells.size)).toArray := ⟨_, rfl⟩
  rw [← hW2] at hcl
  have hfin : Hid (W2.os = w.os ∧ W2.tape = w.tape ∧ W2.output = w.output ∧ W2.heap.size = w.heap.size ∧ (∀ b, b ≠ g → W2.heap[b]? = w.heap[b]?) ∧
      ∃ cur' : Array Value, W2.heap[g]? = some (.cells cur' e (0, 0)) ∧ cur'.size = cap * 6 ∧ cur'.toList.take ((n - 1) * 6) = (cur.toList.take (n * 6)).take (i * 6) ++ (cur.toList.take (n * 6)).drop (j * 6)) := by
    refine ⟨by rw [hW2, hW1]; rfl, by rw [hW2, hW1]; rfl, by rw [hW2, hW1]; rfl, ?_, fun b hb => ?_, _, by rw [hW2]; exact setRow_heap _ g cur1 _ e _ hg1, ?_, ?_⟩
    · rw [hW2, hW1]; simp [World.setRow]
    · rw [hW2, setRow_other _ g b _ hb, hW1, setRow_other _ g b _ hb]; rfl
    · simp only [List.size_toArray, List.length_append, List.length_take, List.length_drop, Array.length_toList, hzs, hsz1]; omega
    · have hl0 : (cur.toList.take (i * 6) ++ news).length = (n - 1) * 6 := by
        rw [List.length_append, List.length_take, Array.length_toList, hcs, hlen]; omega
      have e1 : cur1.toList.take ((n - 1) * 6) = cur.toList.take (i * 6) ++ news := by
        rw [hc1]
        show (cur.toList.take (i * 6) ++ news ++ cur.toList.drop (i * 6 + news.length)).take ((n - 1) * 6) = _
        rw [← hl0, List.take_left']
        rfl
      have e2 : (cur1.toList.take ((n - 1) * 6)).length = (n - 1) * 6 := by rw [e1, hl0]
      rw [List.append_assoc, List.take_append_of_le_length (by omega), List.take_of_length_le (by omega), e1, hnews, List.take_take, Nat.min_eq_left (by omega)]
  have hnj : i + (n - j) = n - 1 := by omega
  have hcl' : ∀ ty, (Builtin.clear_ #[25] ty #[.slice (some ⟨g, (i + (n - j)) * 6, none⟩) (n - (i + (n - j))) (cap - (i + (n - j)))]).run Go.Proofs.Try.prog W1 = .ok (.tuple #[]) W2 := fun ty => by
    rw [hnj, show n - (n - 1) = 1 by omega]; exact hcl ty
  clear hcl
  have hW : Hid (W1 = w.drew.setRow g (cur.toList.take (i * 6) ++ news ++ cur.toList.drop (i * 6 + news.length)).toArray) := hW1
  have hti' : Hid (Go.Proofs.Try.prog.info? 81 = some ti) := hti
  have hic : i ≤ cap := by omega
  have hjc : j ≤ cap := by omega
  have hjn : j ≤ n := by omega
  have hin : i ≤ n := by omega
  have hres : Hid (n - 1 = i + (n - j)) := hnj.symm
  have hnn : i + (n - j) ≤ n := by omega
  have hnc : i + (n - j) ≤ cap := by omega
  clear hnj hj hW1 hg1 hsz1 hc1 hnews hlen hg hone hW2 heb hzf hzv hz hti
  go_enter Go.Proofs.Try.func80, Go.Proofs.Try.ntmps80
  go_wp2_with fail
  go_region_law (refine step_append_row rfl (.tmp 22) (.tmp 25) 25 rfl 81 e ti 6 t25 hti'.out hisz g i cap cur s3.out (by simp [Act.eval, Act.put]) (some A) (n - j) (cap - j) news (by simp [Act.eval, Act.put]) (hsrc.out _ rfl) s2.out (by omega) s4.out ?_; rw [← hW.out])
  go_wp2
  go_ret
  exact ⟨by rw [hres.out]; rfl, hfin.out⟩
end Go.Proofs.YtbmfjpflhbhhdaaT
