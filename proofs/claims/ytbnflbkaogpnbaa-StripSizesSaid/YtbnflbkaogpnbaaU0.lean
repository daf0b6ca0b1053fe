/- The sum: tally's table. -/
import Derived.Test.YtbnflbkaogpnbaaC0
import Derived.Test.YtbnflbkaogpnbaaS1
import Derived.Laws.BitsAllLaws
namespace Go.Proofs.Ytbnflbkaogpnbaa
open Go.RowKit

/-- The table, of which k are made. -/
def tabUpto (k : Nat) : Array Value := ((List.range 16).map fun j => Value.int .u32 (if j < k then (bitSteps 4 j : Nat) else 0)).toArray

theorem step_bits (r : Nat) (h : r < 4294967296) (b : Nat) (hb : r % 2 = b) : bits .xor .u32 ((r : Int) / 2) (bits .and .u32 3988292384 (IntKind.u32.wrap (-(b : Int)))) = (bitStep r : Nat) := by
  have h2 : b = 0 ∨ b = 1 := by omega
  have e1 : ((r : Int) / 2) = ((r / 2 : Nat) : Int) := by omega
  rw [e1]
  rcases h2 with rfl | rfl
  · have e2 : bits .and .u32 3988292384 (IntKind.u32.wrap (-((0 : Nat) : Int))) = ((0 : Nat) : Int) := by decide
    rw [e2, u32_xor_nat _ _ (by omega) (by omega)]
    unfold bitStep
    rw [if_neg (by omega)]
  · have e2 : bits .and .u32 3988292384 (IntKind.u32.wrap (-((1 : Nat) : Int))) = ((3988292384 : Nat) : Int) := by decide
    rw [e2, u32_xor_nat _ _ (by omega) (by omega)]
    unfold bitStep
    rw [if_pos hb]

theorem step_u32 {j k : Nat} (r : Nat) (h : r < 4294967296) (e : r = bitSteps j k) : Value.int .u32 (bits .xor .u32 ((r : Int) / 2) (bits .and .u32 3988292384 (-bits .and .u32 (r : Int) 1 % 4294967296))) = .int .u32 (bitSteps (j + 1) k : Nat) := by
  have e1 : bits .and .u32 (r : Int) 1 = ((r % 2 : Nat) : Int) := by
    have := u32_and_nat r 1 h (by omega)
    rw [nat_mask1] at this
    exact this
  have := step_bits r h (r % 2) rfl
  rw [IntKind.wrap_u32'] at this
  rw [e1, this, e]
  rfl

def MadeRel (w : World) (i : Value) (wr : World) : Prop :=
  ∃ k : Nat, k ≤ 16 ∧ i = .int .i64 k ∧ wr.heap[w.heap.size]? = some (.cells (tabUpto k) 178 (0, 0)) ∧ Kept [] w wr

theorem tab_cell {w : World} {b k : Nat} {t : TypeId} (hh : w.heap[b]? = some (.cells (tabUpto k) t (0, 0))) {j : Nat} (hj : j < 16) : w.cell? ⟨b, j, none⟩ = some (.int .u32 (if j < k then (bitSteps 4 j : Nat) else 0)) := by
  rw [blk_cell hh, tabUpto, List.getElem?_toArray, List.getElem?_map, List.getElem?_range hj]
  rfl

theorem tab_set {w : World} {b k : Nat} {t : TypeId} (hh : w.heap[b]? = some (.cells (tabUpto k) t (0, 0))) (hk : k < 16) :
    (w.setCell ⟨b, k, none⟩ (.int .u32 (bitSteps 4 k : Nat))).heap[b]? = some (.cells (tabUpto (k + 1)) t (0, 0)) := by
  rw [heap_set hh]
  congr 2
  apply Array.ext_getElem?
  intro j
  rw [Array.getElem?_setIfInBounds]
  by_cases hj : j < 16
  · simp only [tabUpto, List.getElem?_toArray, List.getElem?_map, List.getElem?_range hj, List.size_toArray, List.length_map, List.length_range, Option.map_some, hk, if_true]
    by_cases e : k = j
    · subst e
      simp
    · rw [if_neg e]
      have : (j < k) = (j < k + 1) := by apply propext; omega
      simp only [this]
  · simp only [tabUpto, List.getElem?_toArray, List.getElem?_map, List.getElem?_eq_none (show (List.range 16).length ≤ j by simp; omega), Option.map_none]
    rw [if_neg (by omega)]

theorem size_table : (Try.prog.info? 178).map (·.size) = some 16 := by kernel_rfl

def NibRel (wr : World) (k : Nat) (i r : Value) (wx : World) : Prop := ∃ j : Nat, j ≤ 4 ∧ i = .int .i64 j ∧ r = .int .u32 (bitSteps j k : Nat) ∧ wx = wr

def MadePost (w : World) (e : Ending) (w' : World) : Prop := e = .returned (.agg (tabUpto 16)) ∧ Kept [] w w'

set_option maxHeartbeats 1000000 in
set_option maxRecDepth 100000 in
theorem made_any (w : World) : Calls Try.prog 137 #[] w (MadePost w) := by
  go_enter Try.func137, Try.ntmps137
  go_wp2
  go_loopw [3] (fun i wr => MadeRel w i wr) (fun i _ => 16 - (intOf i).toNat)
  case atStart => exact ⟨0, by omega, rfl, heap_alloc_new _ _, Kept.alloc [] _ _⟩
  case round =>
    obtain ⟨k, hk, rfl, hh, hkp⟩ := hrel
    by_cases hlt : k < 16
    · have i1 : (k : Int) < 16 := by omega
      go_wp2
      go_loopw [8, 2] (fun i r wx => NibRel wr k i r wx) (fun i _ _ => 4 - (intOf i).toNat)
      case atStart => exact ⟨0, by omega, rfl, by go_num, rfl⟩
      case round =>
        obtain ⟨j, hj, rfl, rfl, rfl⟩ := hrel
        by_cases hl2 : j < 4
        · have i2 : (j : Int) < 4 := by omega
          have hr := bitSteps_lt j (r := k) (by omega)
          go_wp2
          go_roundw
          case rel => exact ⟨j + 1, by omega, by go_num, step_u32 _ hr rfl, rfl⟩
          case measure => simp [intOf]; omega
        · have i2 : ¬ (j : Int) < 4 := by omega
          obtain rfl : j = 4 := by omega
          have hc := tab_cell hh hlt
          have hf : wr.frozen? ⟨w.heap.size, k, none⟩ = false := blk_frozen hh k
          go_wp2
          go_roundw
          case rel => exact ⟨k + 1, by omega, by go_num, tab_set hh hlt, hkp.trans' (Kept.setCell (F := [w.heap.size]) (by simp) _) (by simp)⟩
          case measure => simp [intOf]; omega
    · have i1 : ¬ (k : Int) < 16 := by omega
      obtain rfl : k = 16 := by omega
      have hrr := row_range (cs := (tabUpto 16).toList) (by simpa using hh)
      have htr := row_there hh
      go_wp2_with (first | (refine wpList_load_row rfl 178 _ rfl w.heap.size rfl _ (tabUpto 16) _ _ hh Try.underlying178 rfl (by rw [size_table]; rfl) ?_) | (refine wpList_store_mid rfl 178 _ _ rfl w.heap.size 0 (tabUpto 16) rfl rfl (by simpa using htr) (by rw [size_table]; rfl) (all_oneCell_toArray (by decide)) ?_))
      have hh2 : (wr.setCells w.heap.size 0 (tabUpto 16).toList).heap[w.heap.size]? = some (.cells (tabUpto 16) 178 (0, 0)) := by
        rw [setCells_heap w.heap.size 178 _ 0 wr _ hh (by simp), spliced_all _ _ (by simp)]
      refine bodyPost_ret (results_cell_row rfl _ _ w.heap.size _ _ _ _ rfl hh2 Try.underlying178 rfl (by rw [size_table]; rfl)) rfl ?_
      exact ⟨rfl, hkp.trans' (setCells_kept w.heap.size _ _ _) (by simp)⟩
end Go.Proofs.Ytbnflbkaogpnbaa
