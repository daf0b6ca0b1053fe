/- The sum of bytes, its row, a record's bytes: tally.On, Of, Row. -/
import Derived.Test.YtbnflbkaogpnbaaU0
namespace Go.Proofs.Ytbnflbkaogpnbaa
open Go.RowKit

theorem tab_size (k : Nat) : (tabUpto k).size = 16 := by simp [tabUpto]
theorem tab_one (k : Nat) : (tabUpto k).all (·.oneCell') = true := by
  unfold tabUpto
  refine all_oneCell_toArray (fun v hv => ?_)
  obtain ⟨j, _, rfl⟩ := List.mem_map.1 hv
  rfl
theorem tab_info (k : Nat) : (Try.prog.info? 178).map (·.size) = some (tabUpto k).size := by rw [size_table, tab_size]

theorem tab_at {j : Nat} (hj : j < 16) : (tabUpto 16)[j]? = some (.int .u32 (bitSteps 4 j : Nat)) := by
  rw [tabUpto, List.getElem?_toArray, List.getElem?_map, List.getElem?_range hj]
  simp only [Option.map_some, hj, if_true]

theorem nib_u32 (r : Nat) (h : r < 4294967296) : bits .xor .u32 ((r : Int) / 16) (bitSteps 4 (r % 16) : Nat) = (bitSteps 4 r : Nat) := by
  have e1 : ((r : Int) / 16) = ((r / 16 : Nat) : Int) := by omega
  rw [e1, u32_xor_nat _ _ (by omega) (bitSteps_lt 4 (by omega))]
  have := bitSteps_split 4 r
  rw [show (2 : Nat) ^ 4 = 16 from rfl] at this
  rw [this]

/-- What a byte does to the register, step by step. -/
theorem byte_facts (S : Nat) (hS : S < 4294967296) (c : UInt8) : ∃ r1 j1 t1 r2 j2 t2 r3 : Nat, bits .xor .u32 (S : Int) ((c.toNat : Int) % 4294967296) = (r1 : Int) ∧ (r1 : Int) % 16 = (j1 : Int) ∧ j1 < 16 ∧ bitSteps 4 j1 = t1 ∧
    bits .xor .u32 ((r1 : Int) / 16) (t1 : Int) = (r2 : Int) ∧ (r2 : Int) % 16 = (j2 : Int) ∧ j2 < 16 ∧ bitSteps 4 j2 = t2 ∧ bits .xor .u32 ((r2 : Int) / 16) (t2 : Int) = (r3 : Int) ∧ r3 = byteStep S c := by
  have hc := c.toNat_lt
  have h1 : S ^^^ c.toNat < 4294967296 := Nat.xor_lt_two_pow (n := 32) hS (by omega)
  have h2 := bitSteps_lt 4 h1
  refine ⟨S ^^^ c.toNat, (S ^^^ c.toNat) % 16, _, bitSteps 4 (S ^^^ c.toNat), bitSteps 4 (S ^^^ c.toNat) % 16, _, _, ?_, by omega, by omega, rfl, nib_u32 _ h1, by omega, by omega, rfl, nib_u32 _ h2, (byteStep_eq S c).symm⟩
  rw [show ((c.toNat : Int) % 4294967296) = (c.toNat : Int) by omega, u32_xor_nat _ _ hS (by omega)]

theorem sum_succ {xs : List UInt8} {k : Nat} (h : k < xs.length) : sumOn 4294967295 (xs.take (k + 1)) = byteStep (sumOn 4294967295 (xs.take k)) (xs[k]?.getD 0) := by
  rw [List.take_succ_eq_append_getElem h, sumOn_append, List.getElem?_eq_getElem h]
  rfl

def OnRel (w1 : World) (xs : List UInt8) (n : Nat) (r i : Value) (wr : World) : Prop :=
  ∃ k : Nat, k ≤ n ∧ i = .int .i64 k ∧ r = .int .u32 (sumOn 4294967295 (xs.take k) : Nat) ∧ wr = w1

/-- What a sum does. -/
def SumPost (w : World) (s : Nat) (e : Ending) (w' : World) : Prop := e = .returned (.int .u32 s) ∧ Kept [] w w'

set_option maxHeartbeats 1000000 in
set_option maxRecDepth 100000 in
theorem on_any (w : World) (A : Option Addr) (n c : Nat) (xs : List UInt8) (hx : SlAt w A n c (u8vs xs)) : Calls Try.prog 126 #[.int .u32 0, .slice A n c] w (SumPost w (crc xs)) := by
  have hxl : xs.length = n := by simpa [u8vs] using hx.len
  have hnc := hx.le; have hcm := hx.max
  unfold maxLen at hcm
  have HX := Lib.hid hxl; clear hxl
  go_enter Try.func126, Try.ntmps126
  go_wp2_with fail
  refine (made_any _).mono ?_
  rintro e w1 ⟨rfl, hk1⟩
  have hts := tab_size 16
  have hto := tab_one 16
  have hti := tab_info 16
  have hta := fun (j : Nat) (hj : j < 16) => tab_at hj
  generalize tabUpto 16 = T at *
  have hh0 := heap_alloc_new w1 (.cells #[.int .u32 0, .int .u32 0, .int .u32 0, .int .u32 0, .int .u32 0, .int .u32 0, .int .u32 0, .int .u32 0, .int .u32 0, .int .u32 0, .int .u32 0, .int .u32 0, .int .u32 0, .int .u32 0, .int .u32 0, .int .u32 0] 178)
  have htr := row_there hh0
  simp only [List.size_toArray, List.length_cons, List.length_nil, Nat.zero_add, Nat.reduceAdd] at htr
  rw [show (16 : Nat) = T.size from hts.symm] at htr
  go_wp2_with (refine wpList_store_mid rfl 178 _ _ rfl w1.heap.size 0 (T) rfl rfl htr hti hto ?_)
  have hh1 : ((w1.alloc (.cells #[.int .u32 0, .int .u32 0, .int .u32 0, .int .u32 0, .int .u32 0, .int .u32 0, .int .u32 0, .int .u32 0, .int .u32 0, .int .u32 0, .int .u32 0, .int .u32 0, .int .u32 0, .int .u32 0, .int .u32 0, .int .u32 0] 178)).setCells w1.heap.size 0 (T).toList).heap[w1.heap.size]? = some (.cells (T) 178 (0, 0)) := by
    rw [setCells_heap w1.heap.size 178 _ 0 _ _ hh0 (by simp [hts]), spliced_all _ _ (by simp [hts])]
  have hk2 : Kept [] w ((w1.alloc (.cells #[.int .u32 0, .int .u32 0, .int .u32 0, .int .u32 0, .int .u32 0, .int .u32 0, .int .u32 0, .int .u32 0, .int .u32 0, .int .u32 0, .int .u32 0, .int .u32 0, .int .u32 0, .int .u32 0, .int .u32 0, .int .u32 0] 178)).setCells w1.heap.size 0 (T).toList) := (hk1.trans (Kept.alloc [] _ _)).trans' (setCells_kept w1.heap.size _ _ _) (by have := hk1.size; simpa using this)
  have hx2 := hx.kept hk2 (by simp)
  have e0 : bits .xor .u32 IntKind.u32.max 0 = ((4294967295 : Nat) : Int) := by decide
  rw [e0]
  generalize (w1.alloc (.cells #[.int .u32 0, .int .u32 0, .int .u32 0, .int .u32 0, .int .u32 0, .int .u32 0, .int .u32 0, .int .u32 0, .int .u32 0, .int .u32 0, .int .u32 0, .int .u32 0, .int .u32 0, .int .u32 0, .int .u32 0, .int .u32 0] 178)).setCells w1.heap.size 0 (T).toList = W at *
  generalize w1.heap.size = b at *
  clear htr hh0 hk1 e0
  go_loopw [6, 14] (fun r i wr => OnRel W xs n r i wr) (fun _ i _ => n - (intOf i).toNat)
  case atStart => exact ⟨0, by omega, rfl, rfl, rfl⟩
  case round =>
    obtain ⟨k, hk, rfl, rfl, rfl⟩ := hrel
    by_cases hlt : k < n
    · have i1 : (k : Int) < (n : Int) := by omega
      obtain ⟨bb, o, hA, hbl, hc⟩ := hx2.at_ hlt
      subst hA
      obtain ⟨r1, j1, t1, r2, j2, t2, r3, q1, q2, q3, q4, q5, q6, q7, q8, q9, q10⟩ := byte_facts (sumOn 4294967295 (xs.take k)) (sumOn_lt _ (by omega)) (xs[k]?.getD 0)
      have g1 : wr.cell? ⟨b, j1, none⟩ = some (.int .u32 t1) := by rw [blk_cell hh1, hta j1 q3, q4]
      have g2 : wr.cell? ⟨b, j2, none⟩ = some (.int .u32 t2) := by rw [blk_cell hh1, hta j2 q7, q8]
      have i2 : (j1 : Int) < 16 := by omega
      have i3 : (j2 : Int) < 16 := by omega
      have Q10 := Lib.hid q10
      clear q3 q4 q7 q8 q10
      generalize hSS : sumOn 4294967295 (xs.take k) = S at *
      generalize hcc : xs[k]?.getD 0 = ch at *
      have HSS := Lib.hid hSS; have HCC := Lib.hid hcc; clear hSS hcc
      go_wp2_with fail
      go_roundw
      case rel => exact ⟨k + 1, by omega, by go_num, by rw [Q10.out, sum_succ (by rw [HX.out]; exact hlt), HSS.out, HCC.out], rfl⟩
      case measure => simp [intOf]; omega
    · have i1 : ¬ (k : Int) < (n : Int) := by omega
      obtain rfl : k = n := by omega
      have hfin : bits .xor .u32 IntKind.u32.max (sumOn 4294967295 (xs.take k) : Nat) = (crc xs : Nat) := by
        rw [List.take_of_length_le (by rw [HX.out]; exact Nat.le_refl _), show (IntKind.u32.max : Int) = ((4294967295 : Nat) : Int) from rfl, u32_xor_nat _ _ (by omega) (sumOn_lt _ (by omega)), Nat.xor_comm]
        rfl
      go_wp2_with fail
      go_ret
      exact ⟨rfl, hk2⟩

theorem of_any (w : World) (A : Option Addr) (n c : Nat) (xs : List UInt8) (hx : SlAt w A n c (u8vs xs)) : Calls Try.prog 113 #[.slice A n c] w (SumPost w (crc xs)) := by
  have cn := on_any w A n c xs hx
  clear hx
  go_enter Try.func113, Try.ntmps113
  go_wp2_with fail
  refine cn.mono ?_
  rintro e w1 ⟨rfl, hk1⟩
  go_wp2_with fail
  go_ret
  exact ⟨rfl, hk1⟩
end Go.Proofs.Ytbnflbkaogpnbaa
