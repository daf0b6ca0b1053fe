/- Slots and devices that are none: what the functions of slots answer. -/
import Derived.Test.YtbnflbkaogpnbaaG5
import Derived.Test.YtbnflbkaogpnbaaO5
import Derived.Test.YtbnflbkaogpnbaaA2
namespace Go.Proofs.Ytbnflbkaogpnbaa
set_option linter.unusedVariables false
open Go.RowKit

theorem slotsTurn_none {w : World} {p : Option Addr} (h : NoStrip w p) (h2 : ∀ z, p = some ⟨z, 0, none⟩ → w.cell? ⟨z, 3, none⟩ = some (.int .i64 0)) : Calls Try.prog 54 #[.pointer p] w fun e w' => e = .returned (.int .i64 0) ∧ w = w' := by
  rcases h with rfl | ⟨a, rfl, hl, hc⟩
  · clear h2
    go_enter Try.func54, Try.ntmps54
    go_wp2_with fail
    go_ret
    exact ⟨rfl, rfl⟩
  · have h3 := h2 a rfl
    clear hl h2
    go_enter Try.func54, Try.ntmps54
    go_wp2_with fail
    go_ret
    exact ⟨rfl, rfl⟩

set_option maxHeartbeats 2000000 in
set_option maxRecDepth 100000 in
theorem slotsSave_none {w : World} {p : Option Addr} (h : NoStrip w p) : Calls Try.prog 53 #[.pointer p, .slice none 0 0] w (NonePost w) := by
  rcases h with rfl | ⟨a, rfl, hl, hc⟩
  · go_enter Try.func53, Try.ntmps53
    go_wp2_with fail
    go_ret
    exact ⟨rfl, Kept.refl _ _⟩
  · clear hl
    go_enter Try.func53, Try.ntmps53
    go_wp2_with fail
    go_ret
    exact ⟨rfl, Kept.refl _ _⟩

set_option maxHeartbeats 2000000 in
set_option maxRecDepth 100000 in
theorem slotRead_none {w : World} {p : Option Addr} (h : NoDev w p) (i : Int) :
    Calls Try.prog 91 #[.pointer p, .int .i64 i] w fun e w' => e = .returned (.tuple #[.agg #[.int .i64 0, .slice none 0 0], .int .i64 1]) ∧ Kept [] w w' := by
  have cr := read_none (h.kept (Kept.alloc [] w (.cells #[.int .i64 0, .slice none 0 0] 92))) i
  go_enter Try.func91, Try.ntmps91
  go_wp2_with fail
  refine cr.mono ?_
  rintro e w1 ⟨rfl, rfl⟩
  go_wp2_with fail
  refine bodyPost_ret (v := .tuple #[.agg #[.int .i64 0, .slice none 0 0], .int .i64 1]) ?_ rfl ⟨rfl, ?_⟩
  · exact results_slot rfl _ _ w.heap.size _ _ _ rfl rfl (by rw [blk_cell (heap_alloc_new _ _)]; rfl) (by rw [blk_cell (heap_alloc_new _ _)]; rfl) agg_slot size_slot
  · exact Kept.alloc [] w _

set_option maxHeartbeats 2000000 in
set_option maxRecDepth 100000 in
theorem slotsOpen_none {w : World} {p : Option Addr} (h : NoDev w p) :
    Calls Try.prog 52 #[.pointer p, .int .i64 0] w (OpNone w) := by
  have cr := fun W (k : Kept [] w W) => slotRead_none (h.kept k) 0
  go_enter Try.func52, Try.ntmps52
  go_wp2_with fail
  refine wp_loop_rounds 3 ?_
  rw [rounds_succ]
  go_wp2_with fail
  refine (cr _ (Kept.alloc [] w _)).mono ?_
  rintro e w1 ⟨rfl, hk1⟩
  clear cr
  go_wp2_with fail
  go_ret3
  exact ⟨rfl, ((Kept.alloc [] w _).trans hk1).trans (Kept.alloc [] w1 _)⟩
end Go.Proofs.Ytbnflbkaogpnbaa
