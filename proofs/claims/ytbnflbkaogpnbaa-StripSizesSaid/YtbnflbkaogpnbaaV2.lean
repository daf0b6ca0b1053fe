/- slices.Chunk of bytes: what its value promises. -/
import Derived.Test.YtbnflbkaogpnbaaU4
import Derived.Test.YtbnflbkaogpnbaaV1
import Derived.Shelf.Abstract
import Derived.OwnWalkIn
import Derived.TacticsInMore
import Derived.LoopNIn
import Derived.LoopIn
namespace Go.Proofs.Ytbnflbkaogpnbaa
open Go.RowKit Go.Shelf

attribute [local go_sem] Oper.semAt_some

/-- The k-th chunk of 128 of a row. -/
def chunkV (b off len k : Nat) : Value := .slice (some ⟨b, off + 128 * k, none⟩) (min 128 (len - 128 * k)) (min 128 (len - 128 * k))

set_option maxRecDepth 100000 in
set_option maxHeartbeats 2000000 in
theorem chunk1_in (n : Nat) (hn : 1 ≤ n) (l Bs Bn b off len cap : Nat) (hlen : len ≤ 1000000) (hcap : len ≤ cap) (_hcm : cap ≤ 9223372036854775807) (J Jx : List Nat → World → Prop) (W : World)
    (hBs : W.cell? ⟨Bs, 0, none⟩ = some (.slice (some ⟨b, off, none⟩) len cap)) (hBn : W.cell? ⟨Bn, 0, none⟩ = some (.int .i64 128)) (hls : Bs < W.heap.size) (hln : Bn < W.heap.size)
    (hY : ∀ pre x X0 X, J pre X0 → W.heap.size ≤ X0.heap.size → Kept [] X0 X → x < (len + 127) / 128 ∧ pre = List.range x → YieldAt Fence.wide (n - 1) Try.prog l #[chunkV b off len x] X fun e Y =>
      (e = .returned (.bool true) ∧ J (pre ++ [x]) Y ∧ Stays [Bs, Bn] X Y) ∨ (e = .returned (.bool false) ∧ Jx (pre ++ [x]) Y ∧ X.heap.size ≤ Y.heap.size))
    (h0 : J [] W) :
    CallsIn Fence.wide n Try.prog 114 #[.func (.yield l) #[] #[], .pointer (some ⟨Bs, 0, none⟩), .pointer (some ⟨Bn, 0, none⟩)] W fun e Y => (∃ v, e = .returned v) ∧
      ((∃ ys, ys = List.range ((len + 127) / 128) ∧ J ys Y) ∨ (∃ pre, (∃ k, k ≤ (len + 127) / 128 ∧ pre = List.range k) ∧ Jx pre Y)) := by
  refine callsIn_of_wp Try.func114 rfl trivial ?_ rfl
  simp only [Try.ntmps114, List.size_toArray, List.length_cons, List.length_nil, Nat.reduceAdd, Nat.reduceSub, Array.replicate_succ, Array.replicate_zero, List.push_toArray, List.append_toArray, List.nil_append, List.cons_append]
  gi_wp2
  gi_loopw [4] (fun i wr => ∃ k : Nat, k ≤ (len + 127) / 128 ∧ i = .int .i64 ((128 * k : Nat) : Int) ∧ J (List.range k) wr ∧ Stays [Bs, Bn] W wr)
    (fun i _ => len + 128 - (intOf i).toNat)
  case atStart => exact ⟨0, Nat.zero_le _, rfl, h0, Stays.refl _ _⟩
  case round =>
    obtain ⟨k, hk, rfl, hJs, hst⟩ := hrel
    have c1 := (World.cell?_of_block (a := ⟨Bs, 0, none⟩) (hst.same Bs (by simp) hls)).trans hBs
    have c2 := (World.cell?_of_block (a := ⟨Bn, 0, none⟩) (hst.same Bn (by simp) hln)).trans hBn
    by_cases hlt : k < (len + 127) / 128
    · have i1 : ((128 * k : Nat) : Int) < (len : Int) := by omega
      obtain ⟨fn, tmps, assign, body, hy, hR⟩ := hY (List.range k) k wr wr.drew hJs hst.size (Kept.drew [] wr) ⟨hlt, rfl⟩
      dsimp only [chunkV] at hy
      have hmin : min (128 : Int) ((len - 128 * k : Nat) : Int) = ((min 128 (len - 128 * k) : Nat) : Int) := by omega
      have hq : min 128 (len - 128 * k) ≤ 128 ∧ 128 * k + min 128 (len - 128 * k) ≤ len ∧ 128 * k ≤ len ∧ 0 < min 128 (len - 128 * k) := by omega
      have hq0 : ¬ min 128 (len - 128 * k) = 0 := by omega
      have hrs : List.range (k + 1) = List.range k ++ [k] := List.range_succ
      rw [← hrs] at hR
      have c1' : wr.drew.cell? ⟨Bs, 0, none⟩ = some (.slice (some ⟨b, off, none⟩) len cap) := c1
      have c2' : wr.drew.cell? ⟨Bn, 0, none⟩ = some (.int .i64 128) := c2
      gi_wp2
      refine wpIn_wide.2 ?_
      go_region
      clear hmin
      generalize min 128 (len - 128 * k) = q at *
      gi_wp2
      refine hR.mono ?_
      clear hR hy
      rintro e W3 (⟨rfl, hJ3, hk3⟩ | ⟨rfl, hJx3, hsz3⟩)
      · have c3 := (World.cell?_of_block (a := ⟨Bn, 0, none⟩) (hk3.same Bn (by simp) (Nat.lt_of_lt_of_le hln hst.size))).trans c2'
        gi_wp2
        go_roundw
        case rel => exact ⟨k + 1, by omega, by go_num, hJ3, hst.trans ⟨hk3.size, hk3.same⟩⟩
        case measure => simp [intOf]; omega
      · gi_wp2
        refine bodyPost_ret (results_none rfl _ _ _) rfl ?_
        exact ⟨⟨_, rfl⟩, .inr ⟨_, ⟨k + 1, by omega, rfl⟩, hJx3⟩⟩
    · have i1 : ¬ ((128 * k : Nat) : Int) < (len : Int) := by omega
      obtain rfl : k = (len + 127) / 128 := by omega
      gi_wp2
      go_end0
      exact ⟨⟨_, rfl⟩, .inl hJs⟩

/-- slices.Chunk(row, 128): its value. -/
theorem chunk_any (w : World) (A : Option Addr) (len cap : Nat) : Calls Try.prog 87 #[.slice A len cap, .int .i64 128] w fun e w' =>
    e = .returned (.func (.func 114) #[] #[.pointer (some ⟨w.heap.size, 0, none⟩), .pointer (some ⟨w.heap.size + 1, 0, none⟩)]) ∧ w' = (w.alloc (.cells #[.slice A len cap] 34)).alloc (.cells #[.int .i64 128] 3) := by
  have hb : ((w.alloc (.cells #[.slice A len cap] 34)).alloc (.cells #[.int .i64 128] 3)).cell? ⟨w.heap.size + 1, 0, none⟩ = some (.int .i64 128) := by
    have h := heap_alloc_new (w.alloc (.cells #[.slice A len cap] 34)) (.cells #[.int .i64 128] 3)
    simp only [World.size_alloc] at h
    rw [blk_cell h]; rfl
  go_enter Try.func87, Try.ntmps87
  go_wp2
  go_ret
  exact ⟨rfl, rfl⟩

/-- What Chunk's value promises. -/
theorem chunk_seq (n : Nat) (hn : 1 ≤ n) (Bs Bn b off len cap : Nat) (hlen : len ≤ 1000000) (hcap : len ≤ cap) (hcm : cap ≤ 9223372036854775807) (w : World)
    (hBs : w.cell? ⟨Bs, 0, none⟩ = some (.slice (some ⟨b, off, none⟩) len cap)) (hBn : w.cell? ⟨Bn, 0, none⟩ = some (.int .i64 128)) (hls : Bs < w.heap.size) (hln : Bn < w.heap.size) :
    SeqAt Fence.wide n Try.prog 114 #[.pointer (some ⟨Bs, 0, none⟩), .pointer (some ⟨Bn, 0, none⟩)] (fun k : Nat => #[chunkV b off len k]) [] [Bs, Bn] (fun pre _ k _ => k < (len + 127) / 128 ∧ pre = List.range k)
      (fun ys => ys = List.range ((len + 127) / 128)) (fun pre => ∃ k, k ≤ (len + 127) / 128 ∧ pre = List.range k) w := fun l J Jx W hW hJ hJx hY h0 => by
  refine (chunk1_in n hn l Bs Bn b off len cap hlen hcap hcm J Jx W ((hW.cell (p := ⟨Bs, 0, none⟩) hls (by simp)).trans hBs) ((hW.cell (p := ⟨Bn, 0, none⟩) hln (by simp)).trans hBn) (Nat.lt_of_lt_of_le hls hW.size) (Nat.lt_of_lt_of_le hln hW.size) hY h0).mono ?_
  rintro e Y ⟨he, h⟩
  exact ⟨he, h⟩
end Go.Proofs.Ytbnflbkaogpnbaa
