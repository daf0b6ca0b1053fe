/- Strips and devices that are none: what a strip's functions answer. -/
import Derived.Test.YtbnflbkaogpnbaaVC
import Derived.Test.YtbnflbkaogpnbaaGH
import Derived.Test.YtbnflbkaogpnbaaT0
namespace Go.Proofs.Ytbnflbkaogpnbaa
set_option linter.unusedVariables false
open Go.RowKit

/-- The frame of an Open: its three results. -/
structure NpAt (w W : World) : Prop where
  r1 : W.heap[w.heap.size]? = some (.cells #[.pointer none] 65 (0, 0))
  r2 : W.heap[w.heap.size + 1]? = some (.cells #[.slice none 0 0] 64 (0, 0))
  r3 : W.heap[w.heap.size + 1 + 1]? = some (.cells #[.int .i64 0] 25 (0, 0))
  kept : Kept [] w W

theorem NpAt.set3 {w W : World} (h : NpAt w W) (v1 v2 v3 : Value) :
    (((W.setCell ⟨w.heap.size, 0, none⟩ v1).setCell ⟨w.heap.size + 1, 0, none⟩ v2).setCell ⟨w.heap.size + 1 + 1, 0, none⟩ v3).cell? ⟨w.heap.size, 0, none⟩ = some v1 ∧
    (((W.setCell ⟨w.heap.size, 0, none⟩ v1).setCell ⟨w.heap.size + 1, 0, none⟩ v2).setCell ⟨w.heap.size + 1 + 1, 0, none⟩ v3).cell? ⟨w.heap.size + 1, 0, none⟩ = some v2 ∧
    (((W.setCell ⟨w.heap.size, 0, none⟩ v1).setCell ⟨w.heap.size + 1, 0, none⟩ v2).setCell ⟨w.heap.size + 1 + 1, 0, none⟩ v3).cell? ⟨w.heap.size + 1 + 1, 0, none⟩ = some v3 ∧
    Kept [w.heap.size, w.heap.size + 1, w.heap.size + 1 + 1] W (((W.setCell ⟨w.heap.size, 0, none⟩ v1).setCell ⟨w.heap.size + 1, 0, none⟩ v2).setCell ⟨w.heap.size + 1 + 1, 0, none⟩ v3) := by
  have k1 : Kept [w.heap.size] W (W.setCell ⟨w.heap.size, 0, none⟩ v1) := Kept.setCell (by simp) _
  have k2 : Kept [w.heap.size + 1] (W.setCell ⟨w.heap.size, 0, none⟩ v1) ((W.setCell ⟨w.heap.size, 0, none⟩ v1).setCell ⟨w.heap.size + 1, 0, none⟩ v2) := Kept.setCell (by simp) _
  have k3 : Kept [w.heap.size + 1 + 1] ((W.setCell ⟨w.heap.size, 0, none⟩ v1).setCell ⟨w.heap.size + 1, 0, none⟩ v2) (((W.setCell ⟨w.heap.size, 0, none⟩ v1).setCell ⟨w.heap.size + 1, 0, none⟩ v2).setCell ⟨w.heap.size + 1 + 1, 0, none⟩ v3) := Kept.setCell (by simp) _
  have a1 := heap_set h.r1 0 v1
  have a2 := (k1.block _ (World.lt_of_heap h.r2) (by simp)).trans h.r2
  have a3 := (k1.block _ (World.lt_of_heap h.r3) (by simp; omega)).trans h.r3
  have b1 := (k2.block _ (World.lt_of_heap a1) (by simp)).trans a1
  have b2 := heap_set a2 0 v2
  have b3 := (k2.block _ (World.lt_of_heap a3) (by simp)).trans a3
  have d1 := (k3.block _ (World.lt_of_heap b1) (by simp; omega)).trans b1
  have d2 := (k3.block _ (World.lt_of_heap b2) (by simp)).trans b2
  have d3 := heap_set b3 0 v3
  refine ⟨by rw [blk_cell d1]; rfl, by rw [blk_cell d2]; rfl, by rw [blk_cell d3]; rfl, ((k1.mono (by simp)).trans (k2.mono (fun i hi => .inl (by simp at hi; simp [hi])))).trans (k3.mono (fun i hi => .inl (by simp at hi; simp [hi])))⟩

def OpNone (w : World) (e : Ending) (w' : World) : Prop := e = .returned (.tuple #[.pointer none, .slice none 0 0, .int .i64 1]) ∧ Kept [] w w'

set_option maxHeartbeats 2000000 in
set_option maxRecDepth 100000 in
theorem stripOpen_none {w : World} {p : Option Addr} (h : NoDev w p) (first many fin : Int) :
    Calls Try.prog 46 #[.pointer p, .int .i64 first, .int .i64 many, .int .i64 fin] w (OpNone w) := by
  obtain ⟨W, hW⟩ : ∃ W, ((w.alloc (.cells #[.pointer none] 65)).alloc (.cells #[.slice none 0 0] 64)).alloc (.cells #[.int .i64 0] 25) = W := ⟨_, rfl⟩
  have hk : Kept [] w W := by rw [← hW]; exact ((Kept.alloc [] w _).trans (Kept.alloc [] _ _)).trans (Kept.alloc [] _ _)
  have hr1 : W.heap[w.heap.size]? = some (.cells #[.pointer none] 65 (0, 0)) := by rw [← hW, Below.heap_alloc _ _ _ (by simp; omega), Below.heap_alloc _ _ _ (by simp), heap_alloc_new]
  have hr2 : W.heap[w.heap.size + 1]? = some (.cells #[.slice none 0 0] 64 (0, 0)) := by
    have h := heap_alloc_new (w.alloc (.cells #[.pointer none] 65)) (.cells #[.slice none 0 0] 64)
    simp only [World.size_alloc] at h
    rw [← hW, Below.heap_alloc _ _ _ (by simp), h]
  have hr3 : W.heap[w.heap.size + 1 + 1]? = some (.cells #[.int .i64 0] 25 (0, 0)) := by
    have h := heap_alloc_new ((w.alloc (.cells #[.pointer none] 65)).alloc (.cells #[.slice none 0 0] 64)) (.cells #[.int .i64 0] 25)
    simp only [World.size_alloc] at h
    rw [← hW]; exact h
  have hO : NpAt w W := ⟨hr1, hr2, hr3, hk⟩
  have cr := read_none (h.kept hk) 0
  have c1 : W.cell? ⟨w.heap.size, 0, none⟩ = some (.pointer none) := blk_cell hr1 0
  have c2 : W.cell? ⟨w.heap.size + 1, 0, none⟩ = some (.slice none 0 0) := blk_cell hr2 0
  have c3 : W.cell? ⟨w.heap.size + 1 + 1, 0, none⟩ = some (.int .i64 0) := blk_cell hr3 0
  have f1 : W.frozen? ⟨w.heap.size, 0, none⟩ = false := blk_frozen hr1 0
  have f2 : W.frozen? ⟨w.heap.size + 1, 0, none⟩ = false := blk_frozen hr2 0
  have f3 : W.frozen? ⟨w.heap.size + 1 + 1, 0, none⟩ = false := blk_frozen hr3 0
  clear hk hr1 hr2 hr3 h
  refine (callsIn_wide (n := 10)).1 ?_
  refine callsIn_of_wp_marks Try.func46 rfl trivial ?_ rfl
  simp only [Try.ntmps46, List.size_toArray, List.length_cons, List.length_nil, Nat.reduceAdd, Nat.reduceSub, Array.replicate_succ, Array.replicate_zero, List.push_toArray, List.append_toArray, List.nil_append, List.cons_append]
  refine wpIn_wide.2 ?_
  go_wp2_with (go_at_call 30; refine cr.mono ?_; rintro e w' ⟨rfl, rfl⟩)
  obtain ⟨q1, q2, q3, q4⟩ := hO.set3 (.pointer none) (.slice none 0 0) (.int .i64 1)
  refine ⟨_, results_cells3 rfl _ _ w.heap.size (w.heap.size + 1) (w.heap.size + 1 + 1) _ _ _ rfl rfl rfl q1 q2 q3 agg_strip agg_bytess agg_errno, ?_⟩
  exact ⟨rfl, hO.kept.trans' q4 (by simp; omega)⟩

/-- A strip that is none. -/
def NoStrip (w : World) (p : Option Addr) : Prop := p = none ∨ ∃ z, p = some ⟨z, 0, none⟩ ∧ z < w.heap.size ∧ w.cell? ⟨z, 0, none⟩ = some (.pointer none)

theorem NoStrip.kept {w w' : World} {p : Option Addr} (h : NoStrip w p) (hk : Kept [] w w') : NoStrip w' p := by
  rcases h with rfl | ⟨a, rfl, hl, hc⟩
  · exact .inl rfl
  · exact .inr ⟨a, rfl, Nat.lt_of_lt_of_le hl hk.size, (hk.cell (p := ⟨a, 0, none⟩) hl (by simp)).trans hc⟩

theorem stripEnd_none {w : World} {p : Option Addr} (h : NoStrip w p) : Calls Try.prog 48 #[.pointer p] w fun e w' => e = .returned (.int .i64 0) ∧ w = w' := by
  rcases h with rfl | ⟨a, rfl, hl, hc⟩
  · go_enter Try.func48, Try.ntmps48
    go_wp2_with fail
    go_ret
    exact ⟨rfl, rfl⟩
  · clear hl
    go_enter Try.func48, Try.ntmps48
    go_wp2_with fail
    go_ret
    exact ⟨rfl, rfl⟩

theorem stripLeft_none {w : World} {p : Option Addr} (h : NoStrip w p) : Calls Try.prog 50 #[.pointer p] w fun e w' => e = .returned (.int .i64 0) ∧ w = w' := by
  rcases h with rfl | ⟨a, rfl, hl, hc⟩
  · go_enter Try.func50, Try.ntmps50
    go_wp2_with fail
    go_ret
    exact ⟨rfl, rfl⟩
  · clear hl
    go_enter Try.func50, Try.ntmps50
    go_wp2_with fail
    go_ret
    exact ⟨rfl, rfl⟩

set_option maxHeartbeats 2000000 in
set_option maxRecDepth 100000 in
theorem stripAppend_none {w : World} {p : Option Addr} (h : NoStrip w p) : Calls Try.prog 47 #[.pointer p, .slice none 0 0] w (NonePost w) := by
  obtain ⟨W, hW⟩ : ∃ W, (w.alloc (.cells #[.pointer p] 65)).alloc (.cells #[.int .i64 0] 25) = W := ⟨_, rfl⟩
  have hk : Kept [] w W := by rw [← hW]; exact (Kept.alloc [] w _).trans (Kept.alloc [] _ _)
  have hs : W.heap[w.heap.size]? = some (.cells #[.pointer p] 65 (0, 0)) := by rw [← hW, Below.heap_alloc _ _ _ (by simp), heap_alloc_new]
  have hr : W.heap[w.heap.size + 1]? = some (.cells #[.int .i64 0] 25 (0, 0)) := by
    have h := heap_alloc_new (w.alloc (.cells #[.pointer p] 65)) (.cells #[.int .i64 0] 25)
    simp only [World.size_alloc] at h
    rw [← hW]; exact h
  have x0 : W.cell? ⟨w.heap.size, 0, none⟩ = some (.pointer p) := by rw [blk_cell hs]; rfl
  have y0 : W.cell? ⟨w.heap.size + 1, 0, none⟩ = some (.int .i64 0) := by rw [blk_cell hr]; rfl
  have yf : W.frozen? ⟨w.heap.size + 1, 0, none⟩ = false := blk_frozen hr 0
  rcases h.kept hk with rfl | ⟨a, rfl, hl, hc⟩
  all_goals
    try clear hl
    clear h
    refine (callsIn_wide (n := 10)).1 ?_
    refine callsIn_of_wp_marks Try.func47 rfl trivial ?_ rfl
    simp only [Try.ntmps47, List.size_toArray, List.length_cons, List.length_nil, Nat.reduceAdd, Nat.reduceSub, Array.replicate_succ, Array.replicate_zero, List.push_toArray, List.append_toArray, List.nil_append, List.cons_append]
    refine wpIn_wide.2 ?_
    go_wp2_with fail
    refine ⟨_, results_cell_int rfl _ _ (w.heap.size + 1) (.int .i64 1) rfl (World.cell?_setCell_same' _ _ _ (by rw [y0]; rfl)) Try.underlying25, ?_⟩
    exact ⟨rfl, hk.trans' (Kept.setCell (F := [w.heap.size + 1]) (by simp) _) (by simp)⟩
end Go.Proofs.Ytbnflbkaogpnbaa
