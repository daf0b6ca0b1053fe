/- A manifest's bytes. -/
import Derived.Test.YtbnflbkaogpnbaaO6
import Derived.Test.YtbnflbkaogpnbaaJ2
namespace Go.Proofs.Ytbnflbkaogpnbaa
set_option linter.unusedVariables false
open Go.RowKit

theorem be4_cells {n : Nat} (h : n < 4294967296) : #[Value.int .u8 ((n : Int) / 16777216), .int .u8 ((n : Int) / 65536 % 256), .int .u8 ((n : Int) / 256 % 256), .int .u8 ((n : Int) % 256)] = (u8vs (be4 n)).toArray := by
  have e1 : (n : Int) / 16777216 = ((n / 16777216 % 256 : Nat) : Int) := by omega
  have e2 : (n : Int) / 65536 % 256 = ((n / 65536 % 256 : Nat) : Int) := by omega
  have e3 : (n : Int) / 256 % 256 = ((n / 256 % 256 : Nat) : Int) := by omega
  have e4 : (n : Int) % 256 = ((n % 256 : Nat) : Int) := by omega
  rw [e1, e2, e3, e4]
  rfl

theorem be4_sl (w : World) {n : Nat} (h : n < 4294967296) (H : Nat) (hH : w.heap.size = H) : SlAt (w.alloc (.cells #[Value.int .u8 ((n : Int) / 16777216), .int .u8 ((n : Int) / 65536 % 256), .int .u8 ((n : Int) / 256 % 256), .int .u8 ((n : Int) % 256)] 5)) (some ⟨H, 0, none⟩) 4 4 (u8vs (be4 n)) := by
  subst hH
  rw [be4_cells h]
  exact SlAt.blk (heap_alloc_new _ _) rfl (by unfold maxLen; omega)

set_option maxHeartbeats 2000000 in
set_option maxRecDepth 100000 in
theorem manBytes_any (w : World) (half fin many : Nat) (h1 : half ≤ 1) (h2 : fin < 4294967296) (h3 : many < 4294967296) :
    Calls Try.prog 122 #[.agg #[.int .i64 half, .int .i64 fin, .int .i64 many]] w (ClonePost w 5 9 (u8vs (manB half fin many))) := by
  obtain ⟨W, hW⟩ : ∃ W, ((w.alloc (.cells #[.int .i64 half, .int .i64 fin, .int .i64 many] 136)).alloc (.cells #[.int .u8 half] 5)).alloc (.cells #[.int .i64 fin, .int .i64 many] 3) = W := ⟨_, rfl⟩
  have hkW : Kept [] w W := by rw [← hW]; exact ((Kept.alloc [] _ _).trans (Kept.alloc [] _ _)).trans (Kept.alloc [] _ _)
  have hzW : W.heap.size = w.heap.size + 3 := by rw [← hW]; simp
  have hrow : W.heap[w.heap.size + 2]? = some (.cells #[.int .i64 fin, .int .i64 many] 3 (0, 0)) := by
    rw [← hW]
    have h := heap_alloc_new ((w.alloc (.cells #[.int .i64 half, .int .i64 fin, .int .i64 many] 136)).alloc (.cells #[.int .u8 half] 5)) (.cells #[.int .i64 fin, .int .i64 many] 3)
    simp only [World.size_alloc] at h
    exact h
  have hown : W.ownsRow w.heap.size 5 1 (.slice (some ⟨w.heap.size + 1, 0, none⟩) 1 1) 1 (u8vs [UInt8.ofNat half]) := by
    have h : W.heap[w.heap.size + 1]? = some (.cells #[.int .u8 half] 5 (0, 0)) := by
      rw [← hW, Below.heap_alloc _ _ _ (by simp)]
      have h := heap_alloc_new (w.alloc (.cells #[.int .i64 half, .int .i64 fin, .int .i64 many] 136)) (.cells #[.int .u8 half] 5)
      simp only [World.size_alloc] at h
      exact h
    refine ⟨rfl, .inr ⟨w.heap.size + 1, 1, _, rfl, by omega, h, Nat.le_refl _, by unfold maxLen; omega, rfl, ?_⟩⟩
    simp only [u8vs, u8v, List.map_cons, List.map_nil, UInt8.toNat_ofNat', Nat.mod_eq_of_lt (show half < 2 ^ 8 by omega)]
    rfl
  have HZW := Lib.hid hzW
  clear hzW
  go_enter Try.func122, Try.ntmps122
  go_wp2_with fail
  refine wp_loop_rounds 3 ?_
  rw [rounds_succ]
  clear hW
  have c0 : W.cell? ⟨w.heap.size + 1 + 1, 0, none⟩ = some (.int .i64 fin) := by rw [blk_cell hrow]; rfl
  have c1 : W.cell? ⟨w.heap.size + 1 + 1, 1, none⟩ = some (.int .i64 many) := by rw [blk_cell hrow]; rfl
  go_wp2_with (refine wpList_append_u8 rfl (.tmp 20) (.tmp 32) rfl w.heap.size _ 1 [UInt8.ofNat half] rfl (row_kept hown (Kept.alloc [] W _) (by simp)) _ 4 4 (be4 fin) rfl (be4_sl W h2 _ rfl) (fun e => by cases e) (by omega) (by simp [HZW.out]; omega) ?_; intro A1 d1 w1 hown1 hgrow1 hA1)
  have hk1 : Kept [w.heap.size + 1] W w1 := (Kept.alloc [w.heap.size + 1] W _).trans (Kept.grown (F := [w.heap.size + 1]) hgrow1 (fun j e => by cases e; simp))
  have hrow1 := (hk1.block _ (World.lt_of_heap hrow) (by simp)).trans hrow
  have c1' : w1.cell? ⟨w.heap.size + 1 + 1, 1, none⟩ = some (.int .i64 many) := by rw [blk_cell hrow1]; rfl
  have hkw1 : Kept [] w w1 := hkW.trans' hk1 (by simp)
  have hz1 := hkw1.size
  have hb1 := own_block hown1
  clear c0 c1 hown hgrow1 hk1 hkW hrow hrow1
  rw [rounds_succ]
  go_wp2_with (refine wpList_append_u8 rfl (.tmp 20) (.tmp 32) rfl w.heap.size _ 5 ([UInt8.ofNat half] ++ be4 fin) rfl (row_kept hown1 (Kept.alloc [] w1 _) (by simp)) _ 4 4 (be4 many) rfl (be4_sl w1 h3 _ rfl) (fun e => by cases e) (by omega) (by simp; omega) ?_; intro A2 d2 w2 hown2 hgrow2 hA2)
  rw [rounds_succ]
  go_wp2_with fail
  go_ret
  replace hgrow2 : (w1.alloc (.cells #[Value.int .u8 ((many : Int) / 16777216), .int .u8 ((many : Int) / 65536 % 256), .int .u8 ((many : Int) / 256 % 256), .int .u8 ((many : Int) % 256)] 5)).grownBy w2 (Value.slice A1 5 d1).ownBlock := hgrow2
  have hk2 : Kept [] w w2 := (hkw1.trans (Kept.alloc [] w1 _)).trans' (Kept.grown (F := (Value.slice A1 5 d1).ownBlock.toList) hgrow2 (fun j e => by rw [e]; simp)) (fun i hi => .inr (by
    simp only [Option.mem_toList] at hi
    cases A1 with
    | none => cases hi
    | some p =>
      obtain ⟨_, _, e2, _, h9⟩ := SlAt.of_own hown1
      cases e2
      have := h9 p rfl
      rw [this.1] at hi
      cases hi
      exact this.2))
  have e5 : [UInt8.ofNat half] ++ be4 fin ++ be4 many = manB half fin many := by simp [manB]
  rw [e5] at hown2
  exact ClonePost.mk hown2 (hk2.below (Nat.le_refl _) (by simp))
end Go.Proofs.Ytbnflbkaogpnbaa
