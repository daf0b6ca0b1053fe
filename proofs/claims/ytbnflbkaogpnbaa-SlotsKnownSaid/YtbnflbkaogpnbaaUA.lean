/- Texts in one: U0 U1 U2 U3 U4 V6. -/
import Derived.Test.YtbnflbkaogpnbaaMD
import Derived.Test.YtbnflbkaogpnbaaSA
import Derived.Laws.BitsAllLaws
import Derived.Deep.AppendLies
import Derived.Laws.AppendOwnNone
import Derived.Laws.BytesArg
import Derived.Lib.Bytes
import Derived.Lib.AppendZerosOnto
import Derived.Lib.Walk
import Derived.Lib.SliceRun
/- The sum: tally's table. -/
namespace Go.Proofs.Ytbnflbkaogpnbaa
open Go.RowKit

/-- The table, of which k are made. -/
def tabUpto (k : Nat) : Array Value := ((List.range 16).map fun j => Value.int .u32 (if j < k then (bitSteps 4 j : Nat) else 0)).toArray

theorem step_bits (r : Nat) (h : r < 4294967296) (b : Nat) (hb : r % 2 = b) : bits .xor .u32 ((r : Int) / 2) (bits .and .u32 3988292384 (IntKind.u32.wrap (-(b : Int)))) = (bitStep r : Nat) := by
  have h2 : b = 0 ∨ b = 1 := by omega
  have e1 : ((r : Int) / 2) = ((r / 2 : Nat) : Int) := by omega
  rw [e1]
  rcases h2 with rfl | rfl
  · have e2 : bits .and .u32 3988292384 (IntKind.u32.wrap (-((0 : Nat) : Int))) = ((0 : Nat) : Int) := by decide
    rw [e2, u32_xor_nat _ _ (by omega) (by omega)]
    unfold bitStep
    rw [if_neg (by omega)]
  · have e2 : bits .and .u32 3988292384 (IntKind.u32.wrap (-((1 : Nat) : Int))) = ((3988292384 : Nat) : Int) := by decide
    rw [e2, u32_xor_nat _ _ (by omega) (by omega)]
    unfold bitStep
    rw [if_pos hb]

theorem step_u32 {j k : Nat} (r : Nat) (h : r < 4294967296) (e : r = bitSteps j k) : Value.int .u32 (bits .xor .u32 ((r : Int) / 2) (bits .and .u32 3988292384 (-bits .and .u32 (r : Int) 1 % 4294967296))) = .int .u32 (bitSteps (j + 1) k : Nat) := by
  have e1 : bits .and .u32 (r : Int) 1 = ((r % 2 : Nat) : Int) := by
    have := u32_and_nat r 1 h (by omega)
    rw [nat_mask1] at this
    exact this
  have := step_bits r h (r % 2) rfl
  rw [IntKind.wrap_u32'] at this
  rw [e1, this, e]
  rfl

def MadeRel (w : World) (i : Value) (wr : World) : Prop :=
  ∃ k : Nat, k ≤ 16 ∧ i = .int .i64 k ∧ wr.heap[w.heap.size]? = some (.cells (tabUpto k) 178 (0, 0)) ∧ Kept [] w wr

theorem tab_cell {w : World} {b k : Nat} {t : TypeId} (hh : w.heap[b]? = some (.cells (tabUpto k) t (0, 0))) {j : Nat} (hj : j < 16) : w.cell? ⟨b, j, none⟩ = some (.int .u32 (if j < k then (bitSteps 4 j : Nat) else 0)) := by
  rw [blk_cell hh, tabUpto, List.getElem?_toArray, List.getElem?_map, List.getElem?_range hj]
  rfl

theorem tab_set {w : World} {b k : Nat} {t : TypeId} (hh : w.heap[b]? = some (.cells (tabUpto k) t (0, 0))) (hk : k < 16) :
    (w.setCell ⟨b, k, none⟩ (.int .u32 (bitSteps 4 k : Nat))).heap[b]? = some (.cells (tabUpto (k + 1)) t (0, 0)) := by
  rw [heap_set hh]
  congr 2
  apply Array.ext_getElem?
  intro j
  rw [Array.getElem?_setIfInBounds]
  by_cases hj : j < 16
  · simp only [tabUpto, List.getElem?_toArray, List.getElem?_map, List.getElem?_range hj, List.size_toArray, List.length_map, List.length_range, Option.map_some, hk, if_true]
    by_cases e : k = j
    · subst e
      simp
    · rw [if_neg e]
      have : (j < k) = (j < k + 1) := by apply propext; omega
      simp only [this]
  · simp only [tabUpto, List.getElem?_toArray, List.getElem?_map, List.getElem?_eq_none (show (List.range 16).length ≤ j by simp; omega), Option.map_none]
    rw [if_neg (by omega)]

theorem size_table : (Try.prog.info? 178).map (·.size) = some 16 := by kernel_rfl

def NibRel (wr : World) (k : Nat) (i r : Value) (wx : World) : Prop := ∃ j : Nat, j ≤ 4 ∧ i = .int .i64 j ∧ r = .int .u32 (bitSteps j k : Nat) ∧ wx = wr

def MadePost (w : World) (e : Ending) (w' : World) : Prop := e = .returned (.agg (tabUpto 16)) ∧ Kept [] w w'

set_option maxHeartbeats 1000000 in
set_option maxRecDepth 100000 in
theorem made_any (w : World) : Calls Try.prog 137 #[] w (MadePost w) := by
  go_enter Try.func137, Try.ntmps137
  go_wp2
  go_loopw [3] (fun i wr => MadeRel w i wr) (fun i _ => 16 - (intOf i).toNat)
  case atStart => exact ⟨0, by omega, rfl, heap_alloc_new _ _, Kept.alloc [] _ _⟩
  case round =>
    obtain ⟨k, hk, rfl, hh, hkp⟩ := hrel
    by_cases hlt : k < 16
    · have i1 : (k : Int) < 16 := by omega
      go_wp2
      go_loopw [8, 2] (fun i r wx => NibRel wr k i r wx) (fun i _ _ => 4 - (intOf i).toNat)
      case atStart => exact ⟨0, by omega, rfl, by go_num, rfl⟩
      case round =>
        obtain ⟨j, hj, rfl, rfl, rfl⟩ := hrel
        by_cases hl2 : j < 4
        · have i2 : (j : Int) < 4 := by omega
          have hr := bitSteps_lt j (r := k) (by omega)
          go_wp2
          go_roundw
          case rel => exact ⟨j + 1, by omega, by go_num, step_u32 _ hr rfl, rfl⟩
          case measure => simp [intOf]; omega
        · have i2 : ¬ (j : Int) < 4 := by omega
          obtain rfl : j = 4 := by omega
          have hc := tab_cell hh hlt
          have hf : wr.frozen? ⟨w.heap.size, k, none⟩ = false := blk_frozen hh k
          go_wp2
          go_roundw
          case rel => exact ⟨k + 1, by omega, by go_num, tab_set hh hlt, hkp.trans' (Kept.setCell (F := [w.heap.size]) (by simp) _) (by simp)⟩
          case measure => simp [intOf]; omega
    · have i1 : ¬ (k : Int) < 16 := by omega
      obtain rfl : k = 16 := by omega
      have hrr := row_range (cs := (tabUpto 16).toList) (by simpa using hh)
      have htr := row_there hh
      go_wp2_with (first | (refine wpList_load_row rfl 178 _ rfl w.heap.size rfl _ (tabUpto 16) _ _ hh Try.underlying178 rfl (by rw [size_table]; rfl) ?_) | (refine wpList_store_mid rfl 178 _ _ rfl w.heap.size 0 (tabUpto 16) rfl rfl (by simpa using htr) (by rw [size_table]; rfl) (all_oneCell_toArray (by decide)) ?_))
      have hh2 : (wr.setCells w.heap.size 0 (tabUpto 16).toList).heap[w.heap.size]? = some (.cells (tabUpto 16) 178 (0, 0)) := by
        rw [setCells_heap w.heap.size 178 _ 0 wr _ hh (by simp), spliced_all _ _ (by simp)]
      refine bodyPost_ret (results_cell_row rfl _ _ w.heap.size _ _ _ _ rfl hh2 Try.underlying178 rfl (by rw [size_table]; rfl)) rfl ?_
      exact ⟨rfl, hkp.trans' (setCells_kept w.heap.size _ _ _) (by simp)⟩
end Go.Proofs.Ytbnflbkaogpnbaa

/- The sum of bytes, its row, a record's bytes: tally.On, Of, Row. -/
namespace Go.Proofs.Ytbnflbkaogpnbaa
open Go.RowKit

theorem tab_size (k : Nat) : (tabUpto k).size = 16 := by simp [tabUpto]
theorem tab_one (k : Nat) : (tabUpto k).all (·.oneCell') = true := by
  unfold tabUpto
  refine all_oneCell_toArray (fun v hv => ?_)
  obtain ⟨j, _, rfl⟩ := List.mem_map.1 hv
  rfl
theorem tab_info (k : Nat) : (Try.prog.info? 178).map (·.size) = some (tabUpto k).size := by rw [size_table, tab_size]

theorem tab_at {j : Nat} (hj : j < 16) : (tabUpto 16)[j]? = some (.int .u32 (bitSteps 4 j : Nat)) := by
  rw [tabUpto, List.getElem?_toArray, List.getElem?_map, List.getElem?_range hj]
  simp only [Option.map_some, hj, if_true]

theorem nib_u32 (r : Nat) (h : r < 4294967296) : bits .xor .u32 ((r : Int) / 16) (bitSteps 4 (r % 16) : Nat) = (bitSteps 4 r : Nat) := by
  have e1 : ((r : Int) / 16) = ((r / 16 : Nat) : Int) := by omega
  rw [e1, u32_xor_nat _ _ (by omega) (bitSteps_lt 4 (by omega))]
  have := bitSteps_split 4 r
  rw [show (2 : Nat) ^ 4 = 16 from rfl] at this
  rw [this]

/-- What a byte does to the register, step by step. -/
theorem byte_facts (S : Nat) (hS : S < 4294967296) (c : UInt8) : ∃ r1 j1 t1 r2 j2 t2 r3 : Nat, bits .xor .u32 (S : Int) ((c.toNat : Int) % 4294967296) = (r1 : Int) ∧ (r1 : Int) % 16 = (j1 : Int) ∧ j1 < 16 ∧ bitSteps 4 j1 = t1 ∧
    bits .xor .u32 ((r1 : Int) / 16) (t1 : Int) = (r2 : Int) ∧ (r2 : Int) % 16 = (j2 : Int) ∧ j2 < 16 ∧ bitSteps 4 j2 = t2 ∧ bits .xor .u32 ((r2 : Int) / 16) (t2 : Int) = (r3 : Int) ∧ r3 = byteStep S c := by
  have hc := c.toNat_lt
  have h1 : S ^^^ c.toNat < 4294967296 := Nat.xor_lt_two_pow (n := 32) hS (by omega)
  have h2 := bitSteps_lt 4 h1
  refine ⟨S ^^^ c.toNat, (S ^^^ c.toNat) % 16, _, bitSteps 4 (S ^^^ c.toNat), bitSteps 4 (S ^^^ c.toNat) % 16, _, _, ?_, by omega, by omega, rfl, nib_u32 _ h1, by omega, by omega, rfl, nib_u32 _ h2, (byteStep_eq S c).symm⟩
  rw [show ((c.toNat : Int) % 4294967296) = (c.toNat : Int) by omega, u32_xor_nat _ _ hS (by omega)]

theorem sum_succ {xs : List UInt8} {k : Nat} (h : k < xs.length) : sumOn 4294967295 (xs.take (k + 1)) = byteStep (sumOn 4294967295 (xs.take k)) (xs[k]?.getD 0) := by
  rw [List.take_succ_eq_append_getElem h, sumOn_append, List.getElem?_eq_getElem h]
  rfl

def OnRel (w1 : World) (xs : List UInt8) (n : Nat) (r i : Value) (wr : World) : Prop :=
  ∃ k : Nat, k ≤ n ∧ i = .int .i64 k ∧ r = .int .u32 (sumOn 4294967295 (xs.take k) : Nat) ∧ wr = w1

/-- What a sum does. -/
def SumPost (w : World) (s : Nat) (e : Ending) (w' : World) : Prop := e = .returned (.int .u32 s) ∧ Kept [] w w'

set_option maxHeartbeats 1000000 in
set_option maxRecDepth 100000 in
theorem on_any (w : World) (A : Option Addr) (n c : Nat) (xs : List UInt8) (hx : SlAt w A n c (u8vs xs)) : Calls Try.prog 126 #[.int .u32 0, .slice A n c] w (SumPost w (crc xs)) := by
  have hxl : xs.length = n := by simpa [u8vs] using hx.len
  have hnc := hx.le; have hcm := hx.max
  unfold maxLen at hcm
  have HX := Lib.hid hxl; clear hxl
  go_enter Try.func126, Try.ntmps126
  go_wp2_with fail
  refine (made_any _).mono ?_
  rintro e w1 ⟨rfl, hk1⟩
  have hts := tab_size 16
  have hto := tab_one 16
  have hti := tab_info 16
  have hta := fun (j : Nat) (hj : j < 16) => tab_at hj
  generalize tabUpto 16 = T at *
  have hh0 := heap_alloc_new w1 (.cells #[.int .u32 0, .int .u32 0, .int .u32 0, .int .u32 0, .int .u32 0, .int .u32 0, .int .u32 0, .int .u32 0, .int .u32 0, .int .u32 0, .int .u32 0, .int .u32 0, .int .u32 0, .int .u32 0, .int .u32 0, .int .u32 0] 178)
  have htr := row_there hh0
  simp only [List.size_toArray, List.length_cons, List.length_nil, Nat.zero_add, Nat.reduceAdd] at htr
  rw [show (16 : Nat) = T.size from hts.symm] at htr
  go_wp2_with (refine wpList_store_mid rfl 178 _ _ rfl w1.heap.size 0 (T) rfl rfl htr hti hto ?_)
  have hh1 : ((w1.alloc (.cells #[.int .u32 0, .int .u32 0, .int .u32 0, .int .u32 0, .int .u32 0, .int .u32 0, .int .u32 0, .int .u32 0, .int .u32 0, .int .u32 0, .int .u32 0, .int .u32 0, .int .u32 0, .int .u32 0, .int .u32 0, .int .u32 0] 178)).setCells w1.heap.size 0 (T).toList).heap[w1.heap.size]? = some (.cells (T) 178 (0, 0)) := by
    rw [setCells_heap w1.heap.size 178 _ 0 _ _ hh0 (by simp [hts]), spliced_all _ _ (by simp [hts])]
  have hk2 : Kept [] w ((w1.alloc (.cells #[.int .u32 0, .int .u32 0, .int .u32 0, .int .u32 0, .int .u32 0, .int .u32 0, .int .u32 0, .int .u32 0, .int .u32 0, .int .u32 0, .int .u32 0, .int .u32 0, .int .u32 0, .int .u32 0, .int .u32 0, .int .u32 0] 178)).setCells w1.heap.size 0 (T).toList) := (hk1.trans (Kept.alloc [] _ _)).trans' (setCells_kept w1.heap.size _ _ _) (by have := hk1.size; simpa using this)
  have hx2 := hx.kept hk2 (by simp)
  have e0 : bits .xor .u32 IntKind.u32.max 0 = ((4294967295 : Nat) : Int) := by decide
  rw [e0]
  generalize (w1.alloc (.cells #[.int .u32 0, .int .u32 0, .int .u32 0, .int .u32 0, .int .u32 0, .int .u32 0, .int .u32 0, .int .u32 0, .int .u32 0, .int .u32 0, .int .u32 0, .int .u32 0, .int .u32 0, .int .u32 0, .int .u32 0, .int .u32 0] 178)).setCells w1.heap.size 0 (T).toList = W at *
  generalize w1.heap.size = b at *
  clear htr hh0 hk1 e0
  go_loopw [6, 14] (fun r i wr => OnRel W xs n r i wr) (fun _ i _ => n - (intOf i).toNat)
  case atStart => exact ⟨0, by omega, rfl, rfl, rfl⟩
  case round =>
    obtain ⟨k, hk, rfl, rfl, rfl⟩ := hrel
    by_cases hlt : k < n
    · have i1 : (k : Int) < (n : Int) := by omega
      obtain ⟨bb, o, hA, hbl, hc⟩ := hx2.at_ hlt
      subst hA
      obtain ⟨r1, j1, t1, r2, j2, t2, r3, q1, q2, q3, q4, q5, q6, q7, q8, q9, q10⟩ := byte_facts (sumOn 4294967295 (xs.take k)) (sumOn_lt _ (by omega)) (xs[k]?.getD 0)
      have g1 : wr.cell? ⟨b, j1, none⟩ = some (.int .u32 t1) := by rw [blk_cell hh1, hta j1 q3, q4]
      have g2 : wr.cell? ⟨b, j2, none⟩ = some (.int .u32 t2) := by rw [blk_cell hh1, hta j2 q7, q8]
      have i2 : (j1 : Int) < 16 := by omega
      have i3 : (j2 : Int) < 16 := by omega
      have Q10 := Lib.hid q10
      clear q3 q4 q7 q8 q10
      generalize hSS : sumOn 4294967295 (xs.take k) = S at *
      generalize hcc : xs[k]?.getD 0 = ch at *
      have HSS := Lib.hid hSS; have HCC := Lib.hid hcc; clear hSS hcc
      go_wp2_with fail
      go_roundw
      case rel => exact ⟨k + 1, by omega, by go_num, by rw [Q10.out, sum_succ (by rw [HX.out]; exact hlt), HSS.out, HCC.out], rfl⟩
      case measure => simp [intOf]; omega
    · have i1 : ¬ (k : Int) < (n : Int) := by omega
      obtain rfl : k = n := by omega
      have hfin : bits .xor .u32 IntKind.u32.max (sumOn 4294967295 (xs.take k) : Nat) = (crc xs : Nat) := by
        rw [List.take_of_length_le (by rw [HX.out]; exact Nat.le_refl _), show (IntKind.u32.max : Int) = ((4294967295 : Nat) : Int) from rfl, u32_xor_nat _ _ (by omega) (sumOn_lt _ (by omega)), Nat.xor_comm]
        rfl
      go_wp2_with fail
      go_ret
      exact ⟨rfl, hk2⟩

theorem of_any (w : World) (A : Option Addr) (n c : Nat) (xs : List UInt8) (hx : SlAt w A n c (u8vs xs)) : Calls Try.prog 113 #[.slice A n c] w (SumPost w (crc xs)) := by
  have cn := on_any w A n c xs hx
  clear hx
  go_enter Try.func113, Try.ntmps113
  go_wp2_with fail
  refine cn.mono ?_
  rintro e w1 ⟨rfl, hk1⟩
  go_wp2_with fail
  go_ret
  exact ⟨rfl, hk1⟩
end Go.Proofs.Ytbnflbkaogpnbaa

/- A sum's row, and a record's bytes. -/
namespace Go.Proofs.Ytbnflbkaogpnbaa
open Go.RowKit

def rowUpto (s k : Nat) : Array Value := ((List.range 4).map fun j => u8v (if j < k then UInt8.ofNat (s / 2 ^ (8 * j)) else 0)).toArray

theorem row_start (s : Nat) : madeCells #[.int .u8 0] 4 = rowUpto s 0 := by
  apply Array.ext'
  rw [toList_madeCells_one]
  simp [rowUpto, u8v, List.range_succ]

theorem row_set {w : World} {b s k : Nat} (hh : w.heap[b]? = some (.cells (rowUpto s k) 5 (0, 0))) (hk : k < 4) :
    (w.setCell ⟨b, k, none⟩ (.int .u8 ((s : Int) / 2 ^ (8 * k) % 256))).heap[b]? = some (.cells (rowUpto s (k + 1)) 5 (0, 0)) := by
  rw [heap_set hh]
  have e : (Value.int .u8 ((s : Int) / 2 ^ (8 * k) % 256)) = u8v (UInt8.ofNat (s / 2 ^ (8 * k))) := by
    unfold u8v
    rw [UInt8.toNat_ofNat']
    congr 1
  rw [e]
  congr 2
  apply Array.ext_getElem?
  intro j
  rw [Array.getElem?_setIfInBounds]
  by_cases hj : j < 4
  · simp only [rowUpto, List.getElem?_toArray, List.getElem?_map, List.getElem?_range hj, List.size_toArray, List.length_map, List.length_range, Option.map_some, hk, if_true]
    by_cases e : k = j
    · subst e
      simp
    · rw [if_neg e]
      have : (j < k) = (j < k + 1) := by apply propext; omega
      simp only [this]
  · simp only [rowUpto, List.getElem?_toArray, List.getElem?_map, List.getElem?_eq_none (show (List.range 4).length ≤ j by simp; omega), Option.map_none]
    rw [if_neg (by omega)]

def RowRel (w : World) (s : Nat) (i : Value) (wr : World) : Prop :=
  ∃ k : Nat, k ≤ 4 ∧ i = .int .i64 k ∧ wr.heap[w.heap.size]? = some (.cells (rowUpto s k) 5 (0, 0)) ∧ Kept [] w wr

set_option maxHeartbeats 1000000 in
set_option maxRecDepth 100000 in
theorem row_any (w : World) (s : Nat) : Calls Try.prog 112 #[.int .u32 s] w (ClonePost w 5 4 (u8vs (rowOf s))) := by
  obtain ⟨j0, hj0, ju0, ju1, ju2⟩ := info_parts info_u8
  have hmk := fun wx : World => run_make (P := Try.prog) wx 34 5 j0 _ Try.underlying34 hj0 ju0 .i64 .i64 4 4 (by omega) (Int.le_refl _) (by rw [ju2]; omega) (by omega)
  simp only [ju1] at hmk
  go_enter Try.func112, Try.ntmps112
  go_wp2_with fail
  go_loopw [8] (fun i wr => RowRel w s i wr) (fun i _ => 4 - (intOf i).toNat)
  case atStart => exact ⟨0, by omega, rfl, by rw [heap_alloc_new, row_start], Kept.alloc [] _ _⟩
  case round =>
    obtain ⟨k, hk, rfl, hh, hkp⟩ := hrel
    by_cases hlt : k < 4
    · have i1 : (k : Int) < 4 := by omega
      have hc : wr.cell? ⟨w.heap.size, k, none⟩ = some (u8v 0) := by
        rw [blk_cell hh, rowUpto, List.getElem?_toArray, List.getElem?_map, List.getElem?_range hlt]; simp
      have hf : wr.frozen? ⟨w.heap.size, k, none⟩ = false := blk_frozen hh k
      go_wp2_with fail
      go_roundw
      case rel => exact ⟨k + 1, by omega, by go_num, row_set hh hlt, hkp.trans' (Kept.setCell (F := [w.heap.size]) (by simp) _) (by simp)⟩
      case measure => simp [intOf]; omega
    · have i1 : ¬ (k : Int) < 4 := by omega
      obtain rfl : k = 4 := by omega
      go_wp2_with fail
      go_ret
      refine ClonePost.mk ⟨by simp [u8vs, rowOf], .inr ⟨w.heap.size, 4, _, rfl, Nat.le_refl _, hh, Nat.le_refl _, by unfold maxLen; omega, by simp [rowUpto], ?_⟩⟩ (hkp.below (Nat.le_refl _) (by simp))
      simp [rowUpto, u8vs, rowOf, u8v, List.range_succ]

/-- A row of bytes to which are appended m more. -/
theorem byte_news {w : World} {b o n c : Nat} {xs : List UInt8} (h : SlAt w (some ⟨b, o, none⟩) n c (u8vs xs)) : ∀ j u, (u8vs xs)[j]? = some u → w.cell? ((⟨b, o, none⟩ : Addr).add j) = some u := fun j u hj => by
  have hl := (List.getElem?_eq_some_iff.1 hj).1
  rw [h.len] at hl
  obtain ⟨b2, o2, e, _, hc⟩ := h.cells (by omega)
  cases e
  rw [add_block, hc j hl, hj]

theorem one_u8s (xs : List UInt8) : ∀ u ∈ u8vs xs, u.oneCell' = true := fun u hu => by
  obtain ⟨c, _, rfl⟩ := List.mem_map.1 hu
  rfl

theorem row_kept {w w' : World} {base : Nat} {t : TypeId} {sz : Nat} {v : Value} {n : Nat} {xs : List Value} {F : List Nat} (h : w.ownsRow base t sz v n xs) (hk : Kept F w w') (hF : ∀ j, v.ownBlock = some j → j ∉ F) : w'.ownsRow base t sz v n xs := by
  obtain ⟨h1, h2⟩ := h
  refine ⟨h1, ?_⟩
  rcases h2 with h2 | ⟨g, cap, cur, rfl, hb, hg, h3⟩
  · exact .inl h2
  · exact .inr ⟨g, cap, cur, rfl, hb, (hk.block g (World.lt_of_heap hg) (hF g rfl)).trans hg, h3⟩

/-- append of bytes, to a row that is one's own. -/
theorem wpList_append_u8 {ops : Array Oper} {rest : List Oper} {o : Oper} {a : Act} {w : World} {Q : Exit → Act → World → Prop} (hgd : o.guard = none) (s x : Operand)
    (ho : o.op = .call { callee := .builtin .append, args := #[s, x], argTypes := #[34, 34] }) (base : Nat) (v : Value) (n : Nat) (xs : List UInt8) (hs : a.eval s = v) (hown : w.ownsRow base 5 1 v n (u8vs xs))
    (A : Option Addr) (m c : Nat) (ys : List UInt8) (hx : a.eval x = .slice A m c) (hy : SlAt w A m c (u8vs ys)) (hA : A = none → c = 0) (h63 : n + m ≤ 140737488355328) (hbase : base ≤ w.heap.size)
    (h : ∀ A' c' w', w'.ownsRow base 5 1 (.slice A' (n + m) c') (n + m) (u8vs (xs ++ ys)) → w.grownBy w' v.ownBlock → (A' = none → c' = 0) → wpList Try.prog ops Q rest (a.put o.dst (.slice A' (n + m) c')) w') :
    wpList Try.prog ops Q (o :: rest) a w := by
  obtain ⟨j0, hj0, ju0, ju1, ju2⟩ := info_parts info_u8
  have happ : u8vs (xs ++ ys) = u8vs xs ++ u8vs ys := by simp [u8vs]
  have key : ∀ v' w', w'.ownsRow base 5 1 v' (n + m) (u8vs (xs ++ ys)) → w.grownBy w' v.ownBlock → wpList Try.prog ops Q rest (a.put o.dst v') w' := fun v' w' h1 h2 => by
    obtain ⟨A', c', rfl, hs', hb'⟩ := SlAt.of_own h1
    refine h A' c' w' h1 h2 (fun e => ?_)
    subst e
    rcases h1.2 with ⟨e, _⟩ | ⟨g, cap, cur, e, _⟩
    · injection e
    · cases e
  cases A with
  | none =>
    have hc := hA rfl
    subst hc
    have hm : m = 0 := by have := hy.le; omega
    subst hm
    have hye : ys = [] := by have := hy.len; simpa [u8vs] using this
    subst hye
    refine wpList_append_own_none hgd s x 34 ho base 5 j0 1 Try.underlying34 hj0 v n (u8vs xs) hs hown hx ?_
    exact key v w (by simpa using hown) ⟨rfl, rfl, rfl, Nat.le_refl _, fun _ _ _ => rfl⟩
  | some ad =>
    refine wpList_append_own _ hgd s x 34 ho base 5 j0 _ 1 1 Try.underlying34 hj0 ju0 ju1 ju2 rfl (by decide) v n (u8vs xs) hs hown ad m c (u8vs ys) hx (by have := hy.len; simpa using this) hy.news (one_u8s ys) (by unfold maxLen; omega) (by omega) hbase ?_
    intro v' w' h1 h2 _
    exact key v' w' (by rw [happ]; exact h1) h2

set_option maxHeartbeats 1000000 in
set_option maxRecDepth 100000 in
theorem record_any (w : World) (A : Option Addr) (n c : Nat) (b : List UInt8) (hs : SlAt w A n c (u8vs b)) (hA : A = none → c = 0) (hn : n ≤ 16384) : Calls Try.prog 86 #[.slice A n c] w (ClonePost w 5 (n + 7) (u8vs (recB b))) := by
  have hbl : b.length = n := by simpa [u8vs] using hs.len
  have hnc := hs.le; have hcm := hs.max
  unfold maxLen at hcm
  have HB := Lib.hid hbl; clear hbl
  go_enter Try.func86, Try.ntmps86
  have hh0 := heap_alloc_new w (.cells #[.int .u8 ((n : Int) / 65536), .int .u8 ((n : Int) / 256), .int .u8 ((n : Int) % 256)] 5)
  have hk0 := Kept.alloc [] w (.cells #[.int .u8 ((n : Int) / 65536), .int .u8 ((n : Int) / 256), .int .u8 ((n : Int) % 256)] 5)
  have hs0 := hs.kept hk0 (by simp)
  have hown0 : (w.alloc (.cells #[.int .u8 ((n : Int) / 65536), .int .u8 ((n : Int) / 256), .int .u8 ((n : Int) % 256)] 5)).ownsRow w.heap.size 5 1 (.slice (some ⟨w.heap.size, 0, none⟩) 3 3) 3 (u8vs (headOf n)) := by
    refine ⟨rfl, .inr ⟨w.heap.size, 3, _, rfl, Nat.le_refl _, hh0, Nat.le_refl _, by unfold maxLen; omega, rfl, ?_⟩⟩
    have e1 : (n : Int) / 65536 = ((n / 65536 % 256 : Nat) : Int) := by omega
    have e2 : (n : Int) / 256 = ((n / 256 % 256 : Nat) : Int) := by omega
    have e3 : (n : Int) % 256 = ((n % 256 : Nat) : Int) := by omega
    rw [e1, e2, e3]
    rfl
  go_wp2_with (refine wpList_append_u8 rfl (.tmp 15) (.tmp 16) rfl w.heap.size _ 3 (headOf n) rfl hown0 A n c b rfl hs0 hA (by omega) (by simp) ?_; intro A1 c1 w1 hown1 hgrow1 hA1)
  obtain ⟨A1', c1', e1, hs1, hb1⟩ := SlAt.of_own hown1
  cases e1
  have hk1 : Kept [] w w1 := hk0.trans' (Kept.grown (F := [w.heap.size]) hgrow1 (fun j e => by cases e; simp)) (by simp)
  refine (of_any w1 A1 (3 + n) c1 _ hs1).mono ?_
  rintro e w2 ⟨rfl, hk2⟩
  go_wp2_with fail
  refine (row_any w2 _).mono ?_
  rintro e w3 ⟨A3, c3, rfl, hown3, hbel3⟩
  have hk3 := Kept.of_below (F := []) hbel3
  obtain ⟨hs3, hA3⟩ := ClonePost.sl hown3
  have hA30 : A3 = none → c3 = 0 := fun e => by
    subst e
    rcases hown3.2 with ⟨e, _⟩ | ⟨g, cap, cur, e, _⟩
    · injection e
    · cases e
  have hown1' := row_kept hown1 (hk2.trans hk3) (by simp)
  have hsz1 := hk1.size; have hsz2 := hk2.size; have hsz3 := hk3.size
  have hb3 : w.heap.size ≤ w3.heap.size := by omega
  clear hown0 hh0 hs hs0 hk0 hown1 hbel3
  go_wp2_with (refine wpList_append_u8 rfl (.tmp 18) (.tmp 21) rfl w.heap.size _ (3 + n) (headOf n ++ b) rfl hown1' A3 4 c3 _ rfl hs3 hA30 (by omega) hb3 ?_; intro A4 c4 w4 hown4 hgrow4 hA4)
  go_ret
  have e5 : headOf n ++ b ++ rowOf (crc (headOf n ++ b)) = recB b := by unfold recB sumd; rw [HB.out]
  rw [e5, show 3 + n + 4 = n + 7 by omega] at hown4
  show ClonePost w 5 (n + 7) (u8vs (recB b)) (.returned (.slice A4 (3 + n + 4) c4)) w4
  rw [show 3 + n + 4 = n + 7 by omega]
  refine ClonePost.mk hown4 ?_
  replace hgrow4 : w3.grownBy w4 (Value.slice A1 (3 + n) c1).ownBlock := hgrow4
  have hk4 : Kept [] w w4 := ((hk1.trans hk2).trans hk3).trans' (Kept.grown (F := (Value.slice A1 (3 + n) c1).ownBlock.toList) hgrow4 (fun j e => by rw [e]; simp)) (fun i hi => .inr (by
    simp only [Option.mem_toList] at hi
    cases A1 with
    | none => cases hi
    | some p =>
      have := (hb1 p rfl)
      rw [this.1] at hi
      cases hi
      exact this.2))
  exact hk4.below (Nat.le_refl _) (by simp)
end Go.Proofs.Ytbnflbkaogpnbaa

/- bytes.Equal, slices.Concat. -/
namespace Go.Proofs.Ytbnflbkaogpnbaa
open Go.RowKit

def nums (xs : List UInt8) : List Int := xs.map fun b => (b.toNat : Int)

theorem SlAt.nums {w : World} {b o n c : Nat} {xs : List UInt8} (h : SlAt w (some ⟨b, o, none⟩) n c (u8vs xs)) : (nums xs).length = n ∧ ∀ i, i < n → w.cell? ⟨b, o + i, none⟩ = some (.int .u8 ((nums xs).getD i 0)) := by
  have hl : xs.length = n := by simpa [u8vs] using h.len
  refine ⟨by simp [Go.Proofs.Ytbnflbkaogpnbaa.nums, hl], fun i hi => ?_⟩
  obtain ⟨b2, o2, e, _, hc⟩ := h.cells (by omega)
  cases e
  rw [hc i hi]
  simp [u8vs, Go.Proofs.Ytbnflbkaogpnbaa.nums, List.getD, List.getElem?_eq_getElem (show i < xs.length by omega), u8v]

theorem nums_toList (xs : List UInt8) : (strOfNums (nums xs)).toList = xs := by
  rw [Lib.strOfNums_toList, Lib.bytesOf, nums, List.map_map]
  conv => rhs; rw [← List.map_id xs]
  exact List.map_congr_left fun b _ => by simp [UInt8.ofNat_toNat]

set_option maxHeartbeats 400000 in
theorem bytesEqual_any (w : World) (A B : Option Addr) (n c m d : Nat) (xs ys : List UInt8) (hx : SlAt w A n c (u8vs xs)) (hy : SlAt w B m d (u8vs ys)) (hn : 0 < n) (hm : 0 < m) :
    Calls Try.prog 110 #[.slice A n c, .slice B m d] w fun e w' => e = .returned (.bool (decide (xs = ys))) ∧ w = w' := by
  obtain ⟨b, o, rfl, _, _⟩ := hx.cells hn
  obtain ⟨b', o', rfl, _, _⟩ := hy.cells hm
  obtain ⟨x1, x2⟩ := hx.nums
  obtain ⟨y1, y2⟩ := hy.nums
  have k1 := run_convert_bytes_arg w 34 5 Try.underlying34 Try.underlying5 b o n c (nums xs) x1 x2 9 Try.underlying9
  have k2 := run_convert_bytes_arg w 34 5 Try.underlying34 Try.underlying5 b' o' m d (nums ys) y1 y2 9 Try.underlying9
  clear hx hy x1 x2 y1 y2
  go_enter Try.func110, Try.ntmps110
  go_wp2_with fail
  go_ret
  exact ⟨ret_bool (by rw [nums_toList, nums_toList]; by_cases e : xs = ys <;> simp [e]), rfl⟩
end Go.Proofs.Ytbnflbkaogpnbaa

/- slices.Grow of nil, slices.Concat of rows of bytes. -/
namespace Go.Proofs.Ytbnflbkaogpnbaa
open Go.RowKit

def GrowPost (w : World) (e : Ending) (w' : World) : Prop :=
  ∃ G, e = .returned (.slice (some ⟨w.heap.size, 0, none⟩) 0 G) ∧ w'.ownsRow w.heap.size 5 1 (.slice (some ⟨w.heap.size, 0, none⟩) 0 G) 0 (u8vs []) ∧ Kept [] w w'

set_option maxHeartbeats 1000000 in
theorem grow_any (n : Nat) (w : World) (h0 : 0 < n) (h1 : n ≤ 100000000) : Calls Try.prog 111 #[.slice none 0 0, .int .i64 n] w (GrowPost w) := by
  obtain ⟨j0, hj0, ju0, ju1, ju2⟩ := info_parts info_u8
  have hold : (Builtin.firstCells j0.size 0 (.slice none 0 0)).run Try.prog w.drew = .ok ([] : List Value).toArray w.drew := run_firstCells_none w.drew j0.size 0 0 0
  have hrz : ∀ ty, (Builtin.append_ #[34, 3] ty #[.slice none 0 0, .int .i64 (n : Int)]).run Try.prog w =
      .ok (.slice (some ⟨w.heap.size, 0, none⟩) n (grownCap w n 0 5)) (w.drew.alloc (.cells (#[] ++ Builtin.zeroCells #[.int .u8 0] n ++ Builtin.zeroCells #[.int .u8 0] (grownCap w n 0 5 - n)) 5)) := fun ty => by
    have h := Lib.run_append_grow_zeros w 34 3 ty 5 j0 _ .i64 .i64 Try.underlying34 Try.underlying3 hj0 ju0 none 0 0 [] hold n (by omega) (by rw [ju1]; omega) (by omega) (by omega)
      (by rw [ju2]; omega) (by rw [ju2]; exact growslice_fits (by omega) (by omega))
    simpa [Value.cells] using h
  have hGn : n ≤ grownCap w n 0 5 := grownCap_ge w _ _ _
  have hGm : grownCap w n 0 5 ≤ maxLen := grownCap_le_maxLen w n 0 5 (by unfold maxLen; omega)
  generalize grownCap w n 0 5 = G at *
  have hGm2 := hGm
  unfold maxLen at hGm2
  have i1 : ¬ (n : Int) < 0 := by omega
  have i2 : 0 < (n : Int) := by omega
  clear hold
  go_enter Try.func111, Try.ntmps111
  go_wp2_with (at_builtin; refine Lib.wpList_append_run _ rfl _ _ _ _ rfl _ _ rfl rfl _ _ (hrz _) ?_)
  go_ret
  refine ⟨G, rfl, ⟨rfl, .inr ⟨w.heap.size, G, _, rfl, Nat.le_refl _, heap_alloc_new w.drew _, Nat.zero_le _, hGm, ?_, by simp [u8vs]⟩⟩, (Kept.drew [] w).trans (Kept.alloc [] _ _)⟩
  simp [size_zeroCells]
  omega

/-- A row of bytes, one of several. -/
structure Part where
  A : Option Addr
  n : Nat
  c : Nat
  xs : List UInt8

def Part.val (p : Part) : Value := .slice p.A p.n p.c
def Part.At (w : World) (p : Part) : Prop := SlAt w p.A p.n p.c (u8vs p.xs) ∧ (p.A = none → p.c = 0)
def total : List Part → Nat
  | [] => 0
  | p :: l => p.n + total l
def allB (l : List Part) : List UInt8 := l.flatMap Part.xs

theorem Part.At.kept {w w' : World} {p : Part} {F : List Nat} (h : p.At w) (hk : Kept F w w') (hF : ∀ a, p.A = some a → a.block ∉ F) : p.At w' := ⟨h.1.kept hk hF, h.2⟩

theorem total_append (l m : List Part) : total (l ++ m) = total l + total m := by
  induction l with
  | nil => simp [total]
  | cons p l ih => simp only [List.cons_append, total, ih]; omega

theorem take_part {l : List Part} {k : Nat} {p : Part} (h : l[k]? = some p) : l.take (k + 1) = l.take k ++ [p] := by
  obtain ⟨hk, e⟩ := List.getElem?_eq_some_iff.1 h
  rw [List.take_succ_eq_append_getElem hk, e]

theorem total_take_le (l : List Part) (k : Nat) : total (l.take k) ≤ total l := by
  have := total_append (l.take k) (l.drop k)
  rw [List.take_append_drop] at this
  omega

def CatRel1 (w : World) (l : List Part) (s i : Value) (wr : World) : Prop := ∃ k : Nat, k ≤ l.length ∧ i = .int .i64 k ∧ s = .int .i64 (total (l.take k) : Nat) ∧ wr = w
def CatRel2 (w : World) (l : List Part) (v i : Value) (wr : World) : Prop :=
  ∃ (k : Nat) (A : Option Addr) (c : Nat), k ≤ l.length ∧ i = .int .i64 k ∧ v = .slice A (total (l.take k)) c ∧ wr.ownsRow w.heap.size 5 1 (.slice A (total (l.take k)) c) (total (l.take k)) (u8vs (allB (l.take k))) ∧ Kept [] w wr

set_option maxHeartbeats 1000000 in
set_option maxRecDepth 100000 in
theorem concat_any (w : World) (g o m c : Nat) (l : List Part) (hl : l.length = m) (hg : g < w.heap.size) (hmc : m ≤ c) (hm : m ≤ 1000) (hc : ∀ i p, l[i]? = some p → w.cell? ⟨g, o + i, none⟩ = some p.val) (hp : ∀ p ∈ l, p.At w)
    (h0 : 0 < total l) (h1 : total l ≤ 100000000) : Calls Try.prog 85 #[.slice (some ⟨g, o, none⟩) m c] w (ClonePost w 5 (total l) (u8vs (allB l))) := by
  have HL := Lib.hid hl
  clear hl
  go_enter Try.func85, Try.ntmps85
  go_wp2_with fail
  go_loopw [3, 11] (fun s i wr => CatRel1 w l s i wr) (fun _ i _ => m - (intOf i).toNat)
  case atStart => exact ⟨0, by omega, rfl, rfl, rfl⟩
  case round =>
    obtain ⟨k, hk, rfl, rfl, rfl⟩ := hrel
    rename World => w0
    have hk' : k ≤ m := by rw [← HL.out]; exact hk
    by_cases hlt : k < m
    · obtain ⟨p, hpk⟩ : ∃ p, l[k]? = some p := ⟨_, List.getElem?_eq_getElem (by rw [HL.out]; exact hlt)⟩
      have i1 : (k : Int) < (m : Int) := by omega
      have hcp := hc k p hpk
      unfold Part.val at hcp
      have htk := total_append (l.take k) [p]
      rw [← take_part hpk] at htk
      have hle := total_take_le l (k + 1)
      have i2 : ¬ ((total (l.take k) : Int) + (p.n : Int)) < 0 := by omega
      simp only [total, Nat.add_zero] at htk
      have HT := Lib.hid htk
      have e3 : ((total (l.take k) : Nat) : Int) + (p.n : Int) = ((total (l.take (k + 1)) : Nat) : Int) := by omega
      have i3 : ¬ (((total (l.take (k + 1)) : Nat) : Int)) < 0 := by omega
      clear hpk htk
      go_wp2_with fail
      go_roundw
      case rel => exact ⟨k + 1, by rw [HL.out]; omega, by go_num, by first | rfl | (rw [← e3]) | go_num, rfl⟩
      case measure => simp [intOf]; omega
    · have i1 : ¬ (k : Int) < (m : Int) := by omega
      obtain rfl : k = m := by omega
      have ht : l.take k = l := List.take_of_length_le (by rw [HL.out]; exact Nat.le_refl _)
      rw [ht]
      have cg := grow_any (total l) w0 h0 h1
      go_wp2_with fail
      refine cg.mono ?_
      rintro e w1 ⟨G, rfl, hown1, hk1⟩
      have hgs := hk1.size
      have hc1 := fun i p (h : l[i]? = some p) => (hk1.cell (p := ⟨g, o + i, none⟩) hg (by simp)).trans (hc i p h)
      clear cg
      go_wp2_with fail
      go_loopw [6, 27] (fun v i wx => CatRel2 w0 l v i wx) (fun _ i _ => k - (intOf i).toNat)
      case atStart => exact ⟨0, _, _, by omega, rfl, rfl, hown1, hk1⟩
      case round =>
        obtain ⟨j, A1, c1, hj, rfl, rfl, hown2, hk2⟩ := hrel
        have hj' : j ≤ k := by rw [← HL.out]; exact hj
        by_cases hlt2 : j < k
        · obtain ⟨p, hpk⟩ : ∃ p, l[j]? = some p := ⟨_, List.getElem?_eq_getElem (by rw [HL.out]; exact hlt2)⟩
          have i2 : (j : Int) < (k : Int) := by omega
          have hcp := (hk2.cell (p := ⟨g, o + j, none⟩) hg (by simp)).trans (hc j p hpk)
          unfold Part.val at hcp
          have hpa := (hp p (List.mem_of_getElem? hpk)).kept hk2 (by simp)
          have htk := total_append (l.take j) [p]
          rw [← take_part hpk] at htk
          have hle := total_take_le l (j + 1)
          simp only [total, Nat.add_zero] at htk
          have hall : allB (l.take (j + 1)) = allB (l.take j) ++ p.xs := by rw [take_part hpk]; simp [allB]
          have HT := Lib.hid htk
          have hsz2 := hk2.size
          have hsum : total (l.take j) + p.n ≤ 140737488355328 := by omega
          clear hpk htk
          go_wp2_with (refine wpList_append_u8 rfl (.tmp 31) (.tmp 32) rfl w0.heap.size _ (total (l.take j)) (allB (l.take j)) rfl hown2 p.A p.n p.c p.xs rfl hpa.1 hpa.2 hsum hsz2 ?_; intro A3 c3 w3 hown3 hgrow3 hA3)
          go_roundw
          case rel =>
            refine ⟨j + 1, A3, c3, by rw [HL.out]; omega, by go_num, by rw [HT.out], by rw [hall, HT.out]; exact hown3, hk2.trans' (Kept.grown (F := (Value.slice A1 (total (l.take j)) c1).ownBlock.toList) hgrow3 (fun i e => by
              have e' : (Value.slice A1 (total (l.take j)) c1).ownBlock = some i := e
              rw [e']; simp)) (fun i hi => .inr ?_)⟩
            exact (hown2.lt i (by simpa using hi)).1
          case measure => simp [intOf]; omega
        · have i2 : ¬ (j : Int) < (k : Int) := by omega
          obtain rfl : j = k := by omega
          rw [ht] at hown2
          go_wp2_with fail
          go_ret
          exact ClonePost.mk hown2 (hk2.below (Nat.le_refl _) (by simp))
end Go.Proofs.Ytbnflbkaogpnbaa

/- Slices of rows of bytes. -/
namespace Go.Proofs.Ytbnflbkaogpnbaa
open Go.RowKit

/-- A slice of rows of bytes. -/
structure BytessAt (w : World) (A : Option Addr) (n c : Nat) (l : List Part) : Prop where
  len : l.length = n
  le : n ≤ c
  max : c ≤ maxLen
  all : ∀ p ∈ l, p.At w
  cells : 0 < n → ∃ b o, A = some ⟨b, o, none⟩ ∧ b < w.heap.size ∧ ∀ i p, l[i]? = some p → w.cell? ⟨b, o + i, none⟩ = some p.val

theorem BytessAt.kept {w w' : World} {A : Option Addr} {n c : Nat} {l : List Part} {F : List Nat} (h : BytessAt w A n c l) (hk : Kept F w w') (hA : ∀ p, A = some p → p.block ∉ F) (hF : ∀ q ∈ l, ∀ p, q.A = some p → p.block ∉ F) : BytessAt w' A n c l :=
  ⟨h.len, h.le, h.max, fun q hq => (h.all q hq).kept hk (hF q hq), fun hn => by
    obtain ⟨b, o, rfl, hb, hc⟩ := h.cells hn
    exact ⟨b, o, rfl, Nat.lt_of_lt_of_le hb hk.size, fun i p hi => (hk.cell (p := ⟨b, o + i, none⟩) hb (hA ⟨b, o, none⟩ rfl)).trans (hc i p hi)⟩⟩

theorem BytessAt.new {w w' : World} {A : Option Addr} {n c : Nat} {l : List Part} (h : BytessAt w A n c l) (hk : Kept [] w w') : BytessAt w' A n c l := h.kept hk (by simp) (by simp)

theorem BytessAt.nil (w : World) : BytessAt w none 0 0 [] := ⟨rfl, Nat.le_refl _, by unfold maxLen; omega, by simp, fun h => by omega⟩

theorem BytessAt.at_ {w : World} {A : Option Addr} {n c : Nat} {l : List Part} (h : BytessAt w A n c l) {k : Nat} (hk : k < n) :
    ∃ b o p, A = some ⟨b, o, none⟩ ∧ b < w.heap.size ∧ l[k]? = some p ∧ p.At w ∧ w.cell? ⟨b, o + k, none⟩ = some (.slice p.A p.n p.c) := by
  obtain ⟨b, o, hA, hb, hc⟩ := h.cells (by omega)
  have hd : l[k]? = some (l[k]'(by rw [h.len]; exact hk)) := List.getElem?_eq_getElem (by rw [h.len]; exact hk)
  exact ⟨b, o, _, hA, hb, hd, h.all _ (List.mem_of_getElem? hd), hc k _ hd⟩

/-- Out of a row of one's own. -/
theorem BytessAt.of_own {w : World} {base : Nat} {t : TypeId} {v : Value} {n : Nat} {l : List Part} (h : w.ownsRow base t 1 v n (l.map Part.val)) (hp : ∀ p ∈ l, p.At w) : ∃ A c, v = .slice A n c ∧ BytessAt w A n c l := by
  obtain ⟨A, c, rfl, hs, hb⟩ := SlAt.of_own h
  refine ⟨A, c, rfl, by simpa using hs.len, hs.le, hs.max, hp, fun hn => ?_⟩
  obtain ⟨b, o, rfl, hbl, hc⟩ := hs.cells hn
  refine ⟨b, o, rfl, hbl, fun i p hi => ?_⟩
  have hil := (List.getElem?_eq_some_iff.1 hi).1
  have hln := hs.len
  simp only [List.length_map] at hln
  rw [hc i (by omega), List.getElem?_map, hi]
  rfl

def texts (l : List Part) : List (List UInt8) := l.map Part.xs

def SameRel (w : World) (l m : List Part) (i : Value) (wr : World) : Prop := ∃ k q : Nat, k ≤ l.length ∧ i = .int .i64 k ∧ wr = w.drewN q ∧ (texts l).take k = (texts m).take k

theorem Part.At.drewN {w : World} {p : Part} (h : p.At w) (q : Nat) : p.At (w.drewN q) := h.kept (Kept.drewN [] w q) (by simp)
end Go.Proofs.Ytbnflbkaogpnbaa
