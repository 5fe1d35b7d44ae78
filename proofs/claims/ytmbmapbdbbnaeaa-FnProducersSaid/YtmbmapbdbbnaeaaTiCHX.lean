/- slices.Chunk: the seat's functions. -/
import Derived.Test.YtmbmapbdbbnaeaaProg
import Derived.Test.YtmbmapbdbbnaeaaTiAI
import Derived.WalkKit
import Derived.RangeFuncStops
import Derived.RangeFuncLeaves
import Derived.OwnWalkIn
import Derived.TacticsInMore
import Derived.RegionIn
import Derived.LoopNIn
import Derived.LoopIn
set_option linter.unusedVariables false
namespace Go.Proofs.YtmbmapbdbbnaeaaT
open Go Go.RowKit
set_option maxHeartbeats 4000000 in
set_option maxRecDepth 1000000 in
theorem chunk_call (w : World) (p : Option Addr) (len cap : Nat) (n : Int) (h1 : 1 ≤ n) (h2 : n ≤ 65536) : Calls Go.Proofs.Try.prog 44 #[.slice p len cap, .int .i64 n] w fun e w' => e = .returned (.func (.func 73) #[] #[.pointer (some ⟨w.heap.size, 0, none⟩), .pointer (some ⟨w.heap.size + 1, 0, none⟩)]) ∧
    w' = (w.alloc (.cells #[.slice p len cap] 24)).alloc (.cells #[.int .i64 n] 3) := by
  go_enter Go.Proofs.Try.func44, Go.Proofs.Try.ntmps44
  go_wp2_with fail
  go_ret
  exact ⟨rfl, rfl⟩
set_option maxHeartbeats 4000000 in
set_option maxRecDepth 1000000 in
theorem chunk_seq (l b1 b2 : Nat) (W : World) (p : Option Addr) (len cap : Nat) (n : Int) (J : Nat → World → Prop) (Jx : World → Prop) (h1 : 1 ≤ n) (h2 : n ≤ 65536) (hlen : (len : Int) * 8 ≤ 35184372088832) (hcap : len ≤ cap)
    (hb : ∀ i W, J i W → W.cell? ⟨b1, 0, none⟩ = some (.slice p len cap) ∧ W.cell? ⟨b2, 0, none⟩ = some (.int .i64 n))
    (hd : ∀ i W, J i W → J i { W with drawn := W.drawn + 1 })
    (hY : ∀ i W, J i W → i < len → YieldAt Fence.wide 0 Go.Proofs.Try.prog l #[chunkV p i (min n.toNat (len - i)) 1] W fun e W' => (e = .returned (.bool true) ∧ J (i + n.toNat) W') ∨ (e = .returned (.bool false) ∧ Jx W'))
    (h0 : J 0 W) : CallsIn Fence.wide 0 Go.Proofs.Try.prog 73 #[.func (.yield l) #[] #[], .pointer (some ⟨b1, 0, none⟩), .pointer (some ⟨b2, 0, none⟩)] W fun e W' => (∃ v, e = .returned v) ∧ ((∃ i, J i W' ∧ len ≤ i) ∨ Jx W') := by
  refine callsIn_of_wp Go.Proofs.Try.func73 rfl trivial ?_ rfl
  simp only [Go.Proofs.Try.ntmps73, List.size_toArray, List.length_cons, List.length_nil, Nat.reduceAdd, Nat.reduceSub, Array.replicate_succ, Array.replicate_zero, List.push_toArray, List.append_toArray, List.nil_append, List.cons_append]
  have hlen' : Hid ((len : Int) * 8 ≤ 35184372088832) := hlen
  clear hlen
  gi_wp2_with fail
  gi_loopw [4] (fun x wr => ∃ i : Nat, x = .int .i64 i ∧ i < len + 65536 ∧ J i wr) (fun x wr => match x with | .int _ i => len + 65536 - i.toNat | _ => 0)
  case atStart => exact ⟨0, rfl, by omega, h0⟩
  case round =>
    obtain ⟨i, rfl, hi, hJ⟩ := hrel
    obtain ⟨hc1, hc2⟩ := hb _ _ hJ
    obtain ⟨N, hN⟩ : ∃ N, N = len + 65536 := ⟨_, rfl⟩
    rw [← hN] at hi
    gi_wp2_with fail
    · rename_i hlt _ _ _ _
      gi_region
      obtain ⟨m, hm⟩ : ∃ m, m = min n.toNat (len - i) := ⟨_, rfl⟩
      have hif : (if ((len - i : Nat) : Int) < n then ((len - i : Nat) : Int) else n) = (m : Int) := by
        rw [hm]; split <;> omega
      simp only [hif]
      obtain ⟨q, hq⟩ : ∃ q, q = i + m := ⟨_, rfl⟩
      have hlq : q ≤ len := by omega
      have hcq : q ≤ cap := by omega
      have hiq : i < q := by omega
      have hqi : Hid (q - i = m) := by show _ = _; omega
      have hw : wrap64 ((i : Int) + (m : Int)) = (q : Int) := by
        have := hlen'.out
        unfold wrap64; omega
      have hne : ¬ q = i := by omega
      obtain ⟨fn, tmps, assign, body, hy, hR⟩ := hY i wr.drew (hd i wr hJ) hlt
      rw [← hm] at hy
      unfold chunkV at hy
      rw [← hqi.out, Nat.mul_one] at hy
      have hq' : Hid (q = i + m) := hq
      have hm' : Hid (m = min n.toNat (len - i)) := hm
      clear hif hq hm
      gi_wp2_with (simp only [hw])
      refine ⟨rfl, hR.mono ?_⟩
      have hn : Hid (((n.toNat : Nat) : Int) = n) := by show _ = _; omega
      have hw2 : wrap64 ((i : Int) + n) = ((i + n.toNat : Nat) : Int) := by
        have := hlen'.out
        have := hn.out
        unfold wrap64; omega
      rintro e W3 (⟨rfl, hJ3⟩ | ⟨rfl, hJx3⟩)
      · obtain ⟨hc3, hc4⟩ := hb _ _ hJ3
        gi_wp2_with fail
        go_roundw
        case rel =>
          rw [hw2]
          have := hn.out
          exact ⟨i + n.toNat, rfl, by omega, hJ3⟩
        case measure =>
          have := hn.out
          simp only [hw2]
          omega
      · gi_wp2_with fail
        refine bodyPost_ret (results_none rfl _ _ _) rfl ?_
        exact ⟨⟨_, rfl⟩, .inr hJx3⟩
    · go_end0
      exact ⟨⟨_, rfl⟩, .inl ⟨i, hJ, by omega⟩⟩
theorem chunk_raw : ChunkRaw Go.Proofs.Try.prog 44 73 1 :=
  ⟨⟨_, Go.Proofs.Try.func44, by kernel_rfl, by kernel_rfl⟩, ⟨_, Go.Proofs.Try.func73, by kernel_rfl, by kernel_rfl⟩, ⟨24, 3, fun w p len cap n h1 h2 => chunk_call w p len cap n h1 h2⟩,
    fun l b1 b2 W p len cap n J Jx h1 h2 hl hc hb hd hY h0 => chunk_seq l b1 b2 W p len cap n J Jx h1 h2 hl hc hb hd hY h0⟩
def chunkSig (c : FuncId) (u : Ty) : Sig := ⟨c, [.w false [.row u], .w false [.int .i64]], [(false, [.val .bool])]⟩
theorem chunk_holds {P : Program} {c f : FuncId} {u : Ty} (h : ChunkRaw P c f u.size) : Holds P { sig := chunkSig c u, fn := fun _ _ => none, chunk := some (f, u) } := by
  obtain ⟨⟨fn, h1, h2, h3⟩, _⟩ := (show ChunkRaw P c f u.size from h)
  exact ⟨⟨fn, h1, h2, h3, fun h => (by cases h)⟩, fun k x y h => (by cases h), ⟨fun t e => (by cases e), fun q e => (by cases e; exact h)⟩⟩
end Go.Proofs.YtmbmapbdbbnaeaaT
