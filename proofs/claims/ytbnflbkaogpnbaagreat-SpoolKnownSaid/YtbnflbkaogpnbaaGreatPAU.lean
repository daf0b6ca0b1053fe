/- Texts in one: N1 G2 G3 G4. -/
import Derived.Test.YtbnflbkaogpnbaaGreatPAI
import Derived.Test.YtbnflbkaogpnbaaGreatPAK
import Derived.Test.YtbnflbkaogpnbaaGreatPAN
import Derived.Test.YtbnflbkaogpnbaaGreatPAO
import Derived.Test.YtbnflbkaogpnbaaGreatPAQ
import Derived.Test.YtbnflbkaogpnbaaGreatPAM
import Derived.Test.YtbnflbkaogpnbaaGreatPAT
namespace Go.Proofs.YtbnflbkaogpnbaaGreat
set_option linter.unusedVariables false
open Go.RowKit
/-- The outer loop: the bytes so far. -/
def RoRel (w : World) (xs : List UInt8) (n : Nat) (r i : Value) (wr : World) : Prop :=
 ∃ k : Nat, k ≤ n ∧ i = .int .i64 k ∧ r = .int .u32 (sumOn 4294967295 (xs.take k) : Nat) ∧ w = wr
/-- The inner loop: the bits so far. -/
def RiRel (w : World) (S : Nat) (r k : Value) (wr : World) : Prop :=
 ∃ j : Nat, j ≤ 8 ∧ k = .int .i64 j ∧ r = .int .u32 (bitSteps j S : Nat) ∧ w = wr
theorem and_one (R : Nat) (h : R < 4294967296) : bits .and .u32 (R : Int) 1 = ((R % 2 : Nat) : Int) := by
 have := u32_and_nat R 1 h (by omega)
 rw [nat_mask1] at this
 exact this
def SumHere (w : World) (s : Nat) (e : Ending) (w' : World) : Prop := e = .returned (.int .u32 s) ∧ w = w'
set_option maxHeartbeats 1000000 in
set_option maxRecDepth 100000 in
theorem ref02On_any (w : World) (A : Option Addr) (n c : Nat) (xs : List UInt8) (hx : SlAt w A n c (u8vs xs)) : Calls Tryz.prog 144 #[.int .u32 0, .slice A n c] w (SumHere w (crc xs)) := by
 have hxl : xs.length = n := by simpa [u8vs] using hx.len
 have hnc := hx.le; have hcm := hx.max
 unfold maxLen at hcm
 have HX := Lib.hid hxl; clear hxl
 have e0 : bits .xor .u32 IntKind.u32.max 0 = ((4294967295 : Nat) : Int) := by decide
 go_enter Tryz.func144, Tryz.ntmps144
 go_wp2_with fail
 try rw [e0]
 clear e0
 go_loopw [5, 6] (fun r i wr => RoRel w xs n r i wr) (fun _ i _ => n - (intOf i).toNat)
 case atStart => exact ⟨0, by omega, rfl, rfl, rfl⟩
 case round =>
  obtain ⟨k, hk, rfl, rfl, hwr⟩ := hrel
  subst hwr
  by_cases hlt : k < n
  ·have i1 : (k : Int) < (n : Int) := by omega
   obtain ⟨bb, o, hA, hbl, hc⟩ := hx.at_ hlt
   subst hA
   have hS := sumOn_lt (xs.take k) (r := 4294967295) (by omega)
   obtain ⟨S, hSS⟩ : ∃ S, sumOn 4294967295 (xs.take k) = S := ⟨_, rfl⟩
   obtain ⟨ch, hcc⟩ : ∃ ch, xs[k]?.getD 0 = ch := ⟨_, rfl⟩
   rw [hSS] at hS ⊢
   rw [hcc] at hc
   have hch := ch.toNat_lt
   have hx1 : S ^^^ ch.toNat < 4294967296 := Nat.xor_lt_two_pow (n := 32) hS (by omega)
   have e1 : bits .xor .u32 (S : Int) ((ch.toNat : Int) % 4294967296) = ((S ^^^ ch.toNat : Nat) : Int) := by
    rw [show ((ch.toNat : Int) % 4294967296) = (ch.toNat : Int) by omega, u32_xor_nat _ _ hS (by omega)]
   obtain ⟨X, hXX⟩ : ∃ X, S ^^^ ch.toNat = X := ⟨_, rfl⟩
   rw [hXX] at hx1 e1
   have e2 : bits .xor .u32 (S : Int) (ch.toNat : Int) = (X : Int) := by
    rw [show ((ch.toNat : Int) % 4294967296) = (ch.toNat : Int) by omega] at e1
    exact e1
   have HS := Lib.hid hSS; have HC := Lib.hid hcc; have HXX := Lib.hid hXX
   clear hSS hcc hXX
   go_wp2_with fail
   go_loopw [5, 7] (fun r k wr => RiRel w X r k wr) (fun _ k _ => 8 - (intOf k).toNat)
   case atStart => exact ⟨0, by omega, rfl, rfl, rfl⟩
   case round =>
    obtain ⟨j, hj, rfl, rfl, hwr⟩ := hrel
    subst hwr
    by_cases hjt : j < 8
    ·have i2 : (j : Int) < 8 := by omega
     have hR := bitSteps_lt j hx1
     obtain ⟨R, hRR⟩ : ∃ R, bitSteps j X = R := ⟨_, rfl⟩
     rw [hRR] at hR ⊢
     have a1 := and_one R hR
     have hst : bitSteps (j + 1) X = bitStep R := by rw [← hRR]; rfl
     have HRR := Lib.hid hRR; have HST := Lib.hid hst
     clear hRR hst
     by_cases hb : R % 2 = 1
     ·rw [hb] at a1
      have x1 : bits .xor .u32 ((R : Int) / 2) 3988292384 = ((bitStep R : Nat) : Int) := by
       rw [show ((R : Int) / 2) = ((R / 2 : Nat) : Int) by omega, show (3988292384 : Int) = ((3988292384 : Nat) : Int) from rfl, u32_xor_nat _ _ (by omega) (by omega)]
       unfold bitStep
       rw [if_pos hb]
      obtain ⟨Y, hY⟩ : ∃ Y, bitStep R = Y := ⟨_, rfl⟩
      rw [hY] at x1
      have HY := Lib.hid hY
      clear hY hb
      go_wp2_with fail
      go_roundw
      case rel =>
       exact ⟨j + 1, by omega, by go_num, by rw [HST.out, HY.out], rfl⟩
      case measure => simp [intOf]; omega
     ·rw [show R % 2 = 0 by omega] at a1
      have x1 : ((R : Int) / 2) = ((bitStep R : Nat) : Int) := by
       unfold bitStep
       rw [if_neg hb, Nat.xor_zero]
       omega
      obtain ⟨Y, hY⟩ : ∃ Y, bitStep R = Y := ⟨_, rfl⟩
      rw [hY] at x1
      have HY := Lib.hid hY
      clear hY hb
      go_wp2_with fail
      go_roundw
      case rel =>
       exact ⟨j + 1, by omega, by go_num, by rw [HST.out, HY.out], rfl⟩
      case measure => simp [intOf]; omega
    ·obtain rfl : j = 8 := by omega
     have hst : bitSteps 8 X = sumOn 4294967295 (xs.take (k + 1)) := by rw [sum_succ (by rw [HX.out]; exact hlt), HS.out, HC.out, ← HXX.out]; rfl
     rw [hst]
     have HST := Lib.hid hst
     clear hst
     go_wp2_with fail
     go_roundw
     case rel => exact ⟨k + 1, by omega, by go_num, rfl, rfl⟩
     case measure => simp [intOf]; omega
  ·have i1 : ¬ (k : Int) < (n : Int) := by omega
   obtain rfl : k = n := by omega
   have hfin : bits .xor .u32 IntKind.u32.max (sumOn 4294967295 (xs.take k) : Nat) = (crc xs : Nat) := by
    rw [List.take_of_length_le (by rw [HX.out]; exact Nat.le_refl _), show (IntKind.u32.max : Int) = ((4294967295 : Nat) : Int) from rfl, u32_xor_nat _ _ (by omega) (sumOn_lt _ (by omega)), Nat.xor_comm]
    rfl
   go_wp2_with fail
   go_ret
   exact ⟨rfl, rfl⟩
theorem ref02Of_any (w : World) (A : Option Addr) (n c : Nat) (xs : List UInt8) (hx : SlAt w A n c (u8vs xs)) : Calls Tryz.prog 135 #[.slice A n c] w (SumHere w (crc xs)) := by
 have cn := ref02On_any w A n c xs hx
 clear hx
 go_enter Tryz.func135, Tryz.ntmps135
 go_wp2_with fail
 refine cn.mono ?_
 rintro e w1 ⟨rfl, rfl⟩
 go_wp2_with fail
 go_ret
 exact ⟨rfl, rfl⟩
set_option maxHeartbeats 1000000 in
set_option maxRecDepth 100000 in
theorem ref12Record_any (w : World) (A : Option Addr) (n c : Nat) (b : List UInt8) (hs : SlAt w A n c (u8vs b)) (hA : A = none → c = 0) (hn : n ≤ 16384) : Calls Tryz.prog 112 #[.slice A n c] w (ClonePost w 5 (n + 7) (u8vs (recB b))) := by
 have hbl : b.length = n := by simpa [u8vs] using hs.len
 have hnc := hs.le; have hcm := hs.max
 unfold maxLen at hcm
 have HB := Lib.hid hbl; clear hbl
 go_enter Tryz.func112, Tryz.ntmps112
 have hh0 := heap_alloc_new w (.cells #[.int .u8 ((n : Int) / 65536), .int .u8 ((n : Int) / 256), .int .u8 ((n : Int) % 256)] 5)
 have hk0 := Kept.alloc [] w (.cells #[.int .u8 ((n : Int) / 65536), .int .u8 ((n : Int) / 256), .int .u8 ((n : Int) % 256)] 5)
 have hs0 := hs.kept hk0 (by simp)
 have hown0 : (w.alloc (.cells #[.int .u8 ((n : Int) / 65536), .int .u8 ((n : Int) / 256), .int .u8 ((n : Int) % 256)] 5)).ownsRow w.heap.size 5 1 (.slice (some ⟨w.heap.size, 0, none⟩) 3 3) 3 (u8vs (headOf n)) := by
  refine ⟨rfl, .inr ⟨w.heap.size, 3, _, rfl, Nat.le_refl _, hh0, Nat.le_refl _, by unfold maxLen; omega, rfl, ?_⟩⟩
  have e1 : (n : Int) / 65536 = ((n / 65536 % 256 : Nat) : Int) := by omega
  have e2 : (n : Int) / 256 = ((n / 256 % 256 : Nat) : Int) := by omega
  have e3 : (n : Int) % 256 = ((n % 256 : Nat) : Int) := by omega
  rw [e1, e2, e3]
  rfl
 go_wp2_with (refine wpList_append_u8 rfl (.tmp 16) (.tmp 17) rfl w.heap.size _ 3 (headOf n) rfl hown0 A n c b rfl hs0 hA (by omega) (by simp) ?_; intro A1 c1 w1 hown1 hgrow1 hA1)
 obtain ⟨A1', c1', e1, hs1, hb1⟩ := SlAt.of_own hown1
 cases e1
 have hk1 : Kept [] w w1 := hk0.trans' (Kept.grown (F := [w.heap.size]) hgrow1 (fun j e => by cases e; simp)) (by simp)
 refine (ref02Of_any w1 A1 (3 + n) c1 _ hs1).mono ?_
 rintro e w2 ⟨rfl, rfl⟩
 obtain ⟨S, hS⟩ : ∃ S, crc (headOf n ++ b) = S := ⟨_, rfl⟩
 have hSl : S < 4294967296 := by rw [← hS]; exact crc_lt _
 have e5 : headOf n ++ b ++ rowOf S = recB b := by unfold recB sumd; rw [HB.out, hS]
 rw [hS]
 clear hS hown0 hh0 hs hs0
 have hh2 := heap_alloc_new w1 (.cells #[.int .u8 ((S : Int) % 256), .int .u8 ((S : Int) / 256 % 256), .int .u8 ((S : Int) / 65536 % 256), .int .u8 ((S : Int) / 16777216)] 5)
 have hk2 := Kept.alloc [] w1 (.cells #[.int .u8 ((S : Int) % 256), .int .u8 ((S : Int) / 256 % 256), .int .u8 ((S : Int) / 65536 % 256), .int .u8 ((S : Int) / 16777216)] 5)
 have hs2 : SlAt (w1.alloc (.cells #[.int .u8 ((S : Int) % 256), .int .u8 ((S : Int) / 256 % 256), .int .u8 ((S : Int) / 65536 % 256), .int .u8 ((S : Int) / 16777216)] 5)) (some ⟨w1.heap.size, 0, none⟩) 4 4 (u8vs (rowOf S)) := by
  have e6 : (#[.int .u8 ((S : Int) % 256), .int .u8 ((S : Int) / 256 % 256), .int .u8 ((S : Int) / 65536 % 256), .int .u8 ((S : Int) / 16777216)] : Array Value) = (u8vs (rowOf S)).toArray := by
   have f0 : (S : Int) % 256 = ((S % 256 : Nat) : Int) := by omega
   have f1 : (S : Int) / 256 % 256 = ((S / 256 % 256 : Nat) : Int) := by omega
   have f2 : (S : Int) / 65536 % 256 = ((S / 65536 % 256 : Nat) : Int) := by omega
   have f3 : (S : Int) / 16777216 = ((S / 16777216 % 256 : Nat) : Int) := by omega
   rw [f0, f1, f2, f3]
   rfl
  rw [e6] at hh2 ⊢
  exact SlAt.blk hh2 rfl (by unfold maxLen; omega)
 have hownX := row_kept hown1 hk2 (by simp)
 have hsz1 := hk1.size; have hsz2 := hk2.size
 go_wp2_with (refine wpList_append_u8 rfl (.tmp 21) (.tmp 33) rfl w.heap.size (.slice A1 (3 + n) c1) (3 + n) (headOf n ++ b) rfl hownX (some ⟨w1.heap.size, 0, none⟩) 4 4 (rowOf S) rfl hs2 (fun e => by cases e) (by omega) (by omega) ?_; intro A4 c4 w4 hown4 hgrow4 hA4)
 go_ret
 rw [e5, show 3 + n + 4 = n + 7 by omega] at hown4
 show ClonePost w 5 (n + 7) (u8vs (recB b)) (.returned (.slice A4 (3 + n + 4) c4)) w4
 rw [show 3 + n + 4 = n + 7 by omega]
 refine ClonePost.mk hown4 ?_
 have hk4 : Kept [] w w4 := (hk1.trans hk2).trans' (Kept.grown (F := (Value.slice A1 (3 + n) c1).ownBlock.toList) hgrow4 (fun j e => by rw [e]; simp)) (fun i hi => .inr (by
  simp only [Option.mem_toList] at hi
  cases A1 with
  | none => cases hi
  | some p =>
   have := (hb1 p rfl)
   rw [this.1] at hi
   cases hi
   exact this.2))
 exact hk4.below (Nat.le_refl _) (by simp)
end Go.Proofs.YtbnflbkaogpnbaaGreat
namespace Go.Proofs.YtbnflbkaogpnbaaGreat
set_option linter.unusedVariables false
open Go.RowKit
/-- A row of 124 bytes of which the first k are a number's. -/
def headR (t k : Nat) : Array Value := ((List.range 124).map fun j => u8v (if j < k then (big8 t)[j]?.getD 0 else 0)).toArray
theorem headR_start (t : Nat) : madeCells #[.int .u8 0] 124 = headR t 0 := by
 apply Array.ext'
 rw [toList_madeCells_one]
 have : (headR t 0).toList = List.replicate 124 (u8v 0) := by simp [headR, List.map_const']
 rw [this]; rfl
theorem headR_set {w : World} {b t k : Nat} (hh : w.heap[b]? = some (.cells (headR t k) 5 (0, 0))) (hk : k < 8) :
  (w.setCell ⟨b, k, none⟩ (.int .u8 ((t : Int) / 2 ^ (8 * (7 - k)) % 256))).heap[b]? = some (.cells (headR t (k + 1)) 5 (0, 0)) := by
 rw [heap_set hh]
 have e : (Value.int .u8 ((t : Int) / 2 ^ (8 * (7 - k)) % 256)) = u8v ((big8 t)[k]?.getD 0) := by
  rw [big8_at t hk]
  unfold u8v
  rw [UInt8.toNat_ofNat']
  congr 1
 rw [e]
 congr 2
 apply Array.ext_getElem?
 intro j
 rw [Array.getElem?_setIfInBounds]
 by_cases hj : j < 124
 ·simp only [headR, List.getElem?_toArray, List.getElem?_map, List.getElem?_range hj, List.size_toArray, List.length_map, List.length_range, Option.map_some]
  by_cases e : k = j
  ·subst e
   simp [hj]
  ·rw [if_neg e]
   have : (j < k) = (j < k + 1) := by apply propext; omega
   simp only [this]
 ·simp only [headR, List.getElem?_toArray, List.getElem?_map, List.getElem?_eq_none (show (List.range 124).length ≤ j by simp; omega), Option.map_none]
  rw [if_neg (by omega)]
def HeadRelR (wb : World) (g t : Nat) (i : Value) (wr : World) : Prop :=
 ∃ k : Nat, k ≤ 8 ∧ i = .int .i64 k ∧ wr.heap[g]? = some (.cells (headR t k) 5 (0, 0)) ∧ Kept [g] wb wr
/-- A slot's row behind its number and its size. -/
def rowR (t n : Nat) : List UInt8 := big8 t ++ (UInt8.ofNat n :: List.replicate 115 0)
theorem headR_size {t n : Nat} (hn : n ≤ 100) : (headR t 8).setIfInBounds 8 (.int .u8 (n : Int)) = (u8vs (rowR t n)).toArray := by
 have e : (Value.int .u8 (n : Int)) = u8v (UInt8.ofNat n) := by
  unfold u8v
  rw [UInt8.toNat_ofNat', Nat.mod_eq_of_lt (by omega)]
 rw [e]
 apply Array.ext_getElem?
 intro j
 rw [Array.getElem?_setIfInBounds, headR, List.getElem?_toArray, List.getElem?_toArray, u8vs, List.getElem?_map, List.getElem?_map, rowR]
 by_cases hj : j < 124
 ·rw [List.getElem?_range hj]
  simp only [List.size_toArray, List.length_map, List.length_range, Option.map_some]
  by_cases h8 : 8 = j
  ·subst h8
   simp [big8]
  ·rw [if_neg h8]
   by_cases hl : j < 8
   ·rw [List.getElem?_append_left (by simpa [big8] using hl), if_pos hl, List.getElem?_eq_getElem (by simpa [big8] using hl)]
    rfl
   ·rw [List.getElem?_append_right (by simp [big8]; omega), if_neg hl]
    obtain ⟨m, rfl⟩ : ∃ m, j = 9 + m := ⟨j - 9, by omega⟩
    rw [show 9 + m - (big8 t).length = m + 1 by simp [big8]; omega, List.getElem?_cons_succ, List.getElem?_replicate, if_pos (by omega)]
    rfl
 ·rw [List.getElem?_eq_none (by simp; omega), List.getElem?_eq_none (by simp [big8]; omega)]
  simp
  omega
theorem rowR_splice {t : Nat} {b : List UInt8} (hb : b.length ≤ 100) : Go.splice (u8vs (rowR t b.length)) 9 (u8vs b) = u8vs (slotHead t b) := by
 have h1 : (u8vs (rowR t b.length)).take 9 = u8vs (big8 t ++ [UInt8.ofNat b.length]) := by simp [u8vs, rowR, big8]
 have h2 : (u8vs (rowR t b.length)).drop (9 + (u8vs b).length) = u8vs (List.replicate (115 - b.length) 0) := by
  have e1 : rowR t b.length = (big8 t ++ [UInt8.ofNat b.length]) ++ List.replicate 115 0 := by simp [rowR]
  have e2 : (big8 t ++ [UInt8.ofNat b.length]).length = 9 := by simp [big8]
  have e3 : (u8vs b).length = b.length := by simp [u8vs]
  unfold u8vs at e3 ⊢
  rw [e3, ← List.map_drop, e1, List.drop_append, List.drop_of_length_le (by omega), List.nil_append, e2, Nat.add_sub_cancel_left, List.drop_replicate]
 unfold Go.splice
 rw [h1, h2]
 simp [u8vs, slotHead]
theorem copied_head (X : World) {g n c t : Nat} {A : Option Addr} {b : List UInt8} (hg : X.heap[g]? = some (.cells (u8vs (rowR t n)).toArray 5 (0, 0))) (h : SlAt X A n c (u8vs b)) (hn : n ≤ 100) :
  ∃ W2, (∀ ty, (Builtin.copy_ #[45, 45] ty #[.slice (some ⟨g, 9, none⟩) 115 115, .slice A n c]).run Tryz.prog X = .ok (goInt n) W2) ∧ W2.heap[g]? = some (.cells (u8vs (slotHead t b)).toArray 5 (0, 0)) ∧ Kept [g] X W2 := by
 have hl : b.length = n := by simpa [u8vs] using h.len
 obtain ⟨j0, hj0, ju0, ju1, ju2⟩ := info_parts info_u8
 have hsp := rowR_splice (t := t) (b := b) (by omega)
 rw [hl] at hsp
 by_cases h0 : n = 0
 ·subst h0
  have hr := fun ty => run_copy_none (P := Tryz.prog) (w := X) 45 45 ty 5 (some ⟨g, 9, none⟩) A 115 115 0 c Tryz.underlying45 (by rw [hj0]; simp [ju1]) rfl
  refine ⟨X, fun ty => hr ty, ?_, Kept.refl _ _⟩
  have hb0 : b = [] := List.eq_nil_of_length_eq_zero hl
  subst hb0
  rw [hg, ← hsp]
  simp [Go.splice, u8vs, List.take_append_drop]
 ·obtain ⟨b', o, rfl, _, _⟩ := h.cells (by omega)
  have hcl : (u8vs b).length = Nat.min n 115 := by
   simp only [u8vs, List.length_map, hl]
   exact (Nat.min_eq_left (by omega)).symm
  have hrl : (u8vs (rowR t n)).length = 124 := by simp [u8vs, rowR, big8]
  refine ⟨X.setRow g (Go.splice (u8vs (rowR t n)) 9 (u8vs b)).toArray, fun ty => ?_, ?_, ?_⟩
  ·have hr := run_copy_row (P := Tryz.prog) X 45 45 ty 5 g 9 115 115 ⟨b', o, none⟩ n c (u8vs (rowR t n)).toArray 5 (u8vs b) Tryz.underlying45 (by rw [hj0]; simp [ju1]) hg hcl (fun j v hj => h.news j v hj) (by simp only [List.size_toArray]; rw [hrl, hcl]; have : Nat.min n 115 = n := Nat.min_eq_left (by omega); omega) (one_u8s _)
   rw [hcl, show Nat.min n 115 = n from Nat.min_eq_left (by omega)] at hr
   have e2 : Go.splice (u8vs (rowR t n)) 9 (u8vs b) = (u8vs (rowR t n)).take 9 ++ u8vs b ++ (u8vs (rowR t n)).drop (9 + n) := by
    unfold Go.splice
    rw [show (u8vs b).length = n by simp [u8vs, hl], List.append_assoc]
   rw [e2]
   exact hr
  ·have hh := setRow_heap X g (u8vs (rowR t n)).toArray (Go.splice (u8vs (rowR t n)) 9 (u8vs b)).toArray 5 (0, 0) hg
   rw [hsp] at hh ⊢
   exact hh
  ·exact ⟨rfl, rfl, rfl, by simp [World.setRow], fun k _ hk => setRow_other _ _ k _ (fun e => hk (by simp [e]))⟩
set_option maxHeartbeats 1000000 in
set_option maxRecDepth 100000 in
theorem ref11Sector_any (w : World) (t : Nat) (A : Option Addr) (n c : Nat) (b : List UInt8) (hb : SlAt w A n c (u8vs b)) (hn : n ≤ 100) (ht : t < 9223372036854775808) :
  Calls Tryz.prog 134 #[.int .i64 t, .slice A n c] w (ClonePost w 5 128 (u8vs (slotB t b))) := by
 obtain ⟨j0, hj0, ju0, ju1, ju2⟩ := info_parts info_u8
 have hmk := fun wx : World => run_make (P := Tryz.prog) wx 45 5 j0 _ Tryz.underlying45 hj0 ju0 .i64 .i64 124 124 (by omega) (by omega) (by rw [ju2]; omega) (by omega)
 simp only [ju1, show Int.toNat 124 = 124 from rfl, Nat.mul_one, show (Value.int .u8 0).cells = #[.int .u8 0] from rfl] at hmk
 go_enter Tryz.func134, Tryz.ntmps134
 go_wp2_with fail
 obtain ⟨wb, hwb⟩ : ∃ wb, w.alloc (.cells (madeCells #[.int .u8 0] 124) 5) = wb := ⟨_, rfl⟩
 have hkb : Kept [] w wb := by rw [← hwb]; exact Kept.alloc [] _ _
 have hh1 : wb.heap[w.heap.size]? = some (.cells (headR t 0) 5 (0, 0)) := by
  rw [← hwb, ← headR_start t]
  exact heap_alloc_new _ _
 rw [hwb]
 clear hwb hmk
 go_loopw [6] (fun i wr => HeadRelR wb w.heap.size t i wr) (fun i _ => 8 - (intOf i).toNat)
 case atStart => exact ⟨0, by omega, rfl, hh1, Kept.refl _ _⟩
 case round =>
  obtain ⟨k, hk, rfl, hg, hkp⟩ := hrel
  by_cases hlt : k < 8
  ·have i1 : (k : Int) < 8 := by omega
   have hc : wr.cell? ⟨w.heap.size, k, none⟩ = some (u8v 0) := by
    rw [blk_cell hg, headR, List.getElem?_toArray, List.getElem?_map, List.getElem?_range (by omega)]; simp
   have hf : wr.frozen? ⟨w.heap.size, k, none⟩ = false := blk_frozen hg k
   go_wp2_with fail
   go_roundw
   case rel => exact ⟨k + 1, by omega, by go_num, by rw [show 56 - 8 * k = 8 * (7 - k) by omega]; exact headR_set hg hlt, hkp.trans (Kept.setCell (by simp) _)⟩
   case measure => simp [intOf]; omega
  ·have i1 : ¬ (k : Int) < 8 := by omega
   obtain rfl : k = 8 := by omega
   have hc : wr.cell? ⟨w.heap.size, 8, none⟩ = some (u8v 0) := by
    rw [blk_cell hg, headR, List.getElem?_toArray, List.getElem?_map, List.getElem?_range (by omega)]; simp
   have hf : wr.frozen? ⟨w.heap.size, 8, none⟩ = false := blk_frozen hg 8
   have hg2 := (heap_set hg 8 (.int .u8 (n : Int))).trans (by rw [headR_size hn])
   have hk2 : Kept [] w (wr.setCell ⟨w.heap.size, 8, none⟩ (.int .u8 (n : Int))) := (hkb.trans' hkp (by simp)).trans' (Kept.setCell (F := [w.heap.size]) (by simp) _) (by simp)
   have hnl : n ≤ c := hb.le
   have hbn : b.length = n := by simpa [u8vs] using hb.len
   obtain ⟨W2, hcp, hg4, hk4⟩ := copied_head (wr.setCell ⟨w.heap.size, 8, none⟩ (.int .u8 (n : Int))) hg2 (hb.kept hk2 (by simp)) hn
   have hsh : (slotHead t b).length = 124 := length_slotHead (by omega)
   have hown : W2.ownsRow w.heap.size 5 1 (.slice (some ⟨w.heap.size, 0, none⟩) 124 124) 124 (u8vs (slotHead t b)) := by
    refine ⟨by simp [u8vs, hsh], .inr ⟨w.heap.size, 124, _, rfl, Nat.le_refl _, hg4, by omega, by unfold maxLen; omega, by simp [u8vs, hsh], ?_⟩⟩
    simp only [u8vs]
    exact List.take_of_length_le (by simp [hsh])
   have hkW : Kept [] w W2 := hk2.trans' hk4 (by simp)
   obtain ⟨A4, c4, e4, hs4, hb5⟩ := SlAt.of_own hown
   cases e4
   have HSH := Lib.hid hsh; have HBN := Lib.hid hbn
   clear hg4 hk4 hk2 hsh hb hbn hg2 hg hkp hkb hh1
   go_wp2_with fail
   refine (ref02Of_any W2 (some ⟨w.heap.size, 0, none⟩) 124 124 _ hs4).mono ?_
   rintro e w5 ⟨rfl, rfl⟩
   obtain ⟨S, hS⟩ : ∃ S, crc (slotHead t b) = S := ⟨_, rfl⟩
   have hSl : S < 4294967296 := by rw [← hS]; exact crc_lt _
   have e5 : slotHead t b ++ rowOf S = slotB t b := by unfold slotB sumd; rw [hS]
   rw [hS]
   clear hS
   have hh2 := heap_alloc_new W2 (.cells #[.int .u8 ((S : Int) % 256), .int .u8 ((S : Int) / 256 % 256), .int .u8 ((S : Int) / 65536 % 256), .int .u8 ((S : Int) / 16777216)] 5)
   have hk2 := Kept.alloc [] W2 (.cells #[.int .u8 ((S : Int) % 256), .int .u8 ((S : Int) / 256 % 256), .int .u8 ((S : Int) / 65536 % 256), .int .u8 ((S : Int) / 16777216)] 5)
   have hs2 : SlAt (W2.alloc (.cells #[.int .u8 ((S : Int) % 256), .int .u8 ((S : Int) / 256 % 256), .int .u8 ((S : Int) / 65536 % 256), .int .u8 ((S : Int) / 16777216)] 5)) (some ⟨W2.heap.size, 0, none⟩) 4 4 (u8vs (rowOf S)) := by
    have e6 : (#[.int .u8 ((S : Int) % 256), .int .u8 ((S : Int) / 256 % 256), .int .u8 ((S : Int) / 65536 % 256), .int .u8 ((S : Int) / 16777216)] : Array Value) = (u8vs (rowOf S)).toArray := by
     have f0 : (S : Int) % 256 = ((S % 256 : Nat) : Int) := by omega
     have f1 : (S : Int) / 256 % 256 = ((S / 256 % 256 : Nat) : Int) := by omega
     have f2 : (S : Int) / 65536 % 256 = ((S / 65536 % 256 : Nat) : Int) := by omega
     have f3 : (S : Int) / 16777216 = ((S / 16777216 % 256 : Nat) : Int) := by omega
     rw [f0, f1, f2, f3]
     rfl
    rw [e6] at hh2 ⊢
    exact SlAt.blk hh2 rfl (by unfold maxLen; omega)
   have hownX := row_kept hown hk2 (by simp)
   have hsz1 := hkW.size; have hsz2 := hk2.size
   clear hown hs4 hh2
   go_wp2_with (refine wpList_append_u8 rfl (.tmp 33) (.tmp 45) rfl w.heap.size _ 124 (slotHead t b) rfl hownX (some ⟨W2.heap.size, 0, none⟩) 4 4 (rowOf S) rfl hs2 (fun e => by cases e) (by omega) (by omega) ?_; intro A6 c6 w6 hown6 hgrow6 hA6)
   go_ret
   rw [e5] at hown6
   refine ClonePost.mk hown6 ?_
   have hk6 : Kept [] w w6 := (hkW.trans hk2).trans' (Kept.grown (F := [w.heap.size]) hgrow6 (fun j e => by cases e; simp)) (by simp)
   exact hk6.below (Nat.le_refl _) (by simp)
end Go.Proofs.YtbnflbkaogpnbaaGreat
namespace Go.Proofs.YtbnflbkaogpnbaaGreat
set_option linter.unusedVariables false
open Go.RowKit
/-- What muslinref11.slot does. -/
def RSlot (w : World) (x : Blk) (e : Ending) (w' : World) : Prop :=
 Kept [] w w' ∧ match readSlot x with
  | none => ∃ (t : Int) (v : Value), e = .returned (.tuple #[.int .i64 t, v, .bool false])
  | some (t, b) => ∃ A n c, e = .returned (.tuple #[.int .i64 t, .slice A n c, .bool true]) ∧ SlAt w' A n c (u8vs b) ∧ (A = none → c = 0)
def EmRel (w : World) (x : Blk) (v i : Value) (wr : World) : Prop := ∃ (k : Nat) (b : Bool), k ≤ 128 ∧ i = .int .i64 k ∧ v = .bool b ∧ (b = true ↔ x.take k = List.replicate k 0) ∧ wr = w
def TnRel (w : World) (x : Blk) (v i : Value) (wr : World) : Prop := ∃ (k : Nat) (t : Int), k ≤ 8 ∧ i = .int .i64 k ∧ v = .int .i64 t ∧ t = IntKind.i64.wrap (num8 (x.take k) : Nat) ∧ wr = w
theorem or_i64 (m : Nat) (hm : m < 72057594037927936) (c : UInt8) : bits .or .i64 (wrap64 ((m : Int) * 256)) (wrap64 (c.toNat : Int)) = IntKind.i64.wrap ((m * 256 + c.toNat : Nat) : Int) := by
 have hc := c.toNat_lt
 show IntKind.i64.wrap ((BitVec.ofInt 64 (wrap64 ((m : Int) * 256)) ||| BitVec.ofInt 64 (wrap64 (c.toNat : Int))).toNat : Int) = _
 have e1 : (wrap64 ((m : Int) * 256) % ((2 ^ 64 : Nat) : Int)).toNat = m * 256 := by unfold wrap64; omega
 have e2 : (wrap64 (c.toNat : Int) % ((2 ^ 64 : Nat) : Int)).toNat = c.toNat := by unfold wrap64; omega
 rw [BitVec.toNat_or, BitVec.toNat_ofInt, BitVec.toNat_ofInt, e1, e2, nat_join 8 _ _ (by omega) (by omega)]
theorem take_zero_succ {x : List UInt8} {k : Nat} (h : k < x.length) : x.take (k + 1) = List.replicate (k + 1) 0 ↔ x.take k = List.replicate k 0 ∧ x[k]?.getD 0 = 0 := by
 rw [List.take_succ_eq_append_getElem h, List.replicate_succ', List.getElem?_eq_getElem h, Option.getD_some]
 constructor
 ·intro e
  obtain ⟨h1, h2⟩ := List.append_inj' e rfl
  exact ⟨h1, by simpa using h2⟩
 ·rintro ⟨h1, h2⟩
  rw [h1, h2]
set_option maxHeartbeats 2000000 in
set_option maxRecDepth 100000 in
theorem ref11slot_any (w : World) (A : Option Addr) (c : Nat) (x : Blk) (hs : SlAt w A 128 c (u8vs x)) : Calls Tryz.prog 110 #[.slice A 128 c] w (RSlot w x) := by
 have hxl : x.length = 128 := by simpa [u8vs] using hs.len
 obtain ⟨b, o, rfl, hbl, hcs⟩ := hs.cells (by omega)
 have hcx : ∀ k, k < 128 → w.cell? ⟨b, o + k, none⟩ = some (.int .u8 (x[k]?.getD 0).toNat) := fun k hk => by
  rw [hcs k hk, u8vs, List.getElem?_map, List.getElem?_eq_getElem (by rw [hxl]; exact hk)]
  rfl
 have HXL := Lib.hid hxl; have HCX := Lib.hid hcx
 have hc1 := hs.le; have hc2 := hs.max
 unfold maxLen at hc2
 clear hcs hcx hxl
 go_enter Tryz.func110, Tryz.ntmps110
 go_wp2_with fail
 go_loopw [5, 6] (fun v i wr => EmRel w x v i wr) (fun _ i _ => 128 - (intOf i).toNat)
 case atStart => exact ⟨0, true, by omega, rfl, rfl, by simp, rfl⟩
 case round =>
  obtain ⟨k, em, hk, rfl, rfl, hem, rfl⟩ := hrel
  by_cases hlt : k < 128
  ·have i1 : (k : Int) < 128 := by omega
   have hck := HCX.out k hlt
   have htk := take_zero_succ (x := x) (k := k) (by rw [HXL.out]; exact hlt)
   rw [← hem] at htk
   obtain ⟨u, hu⟩ : ∃ u : UInt8, x[k]?.getD 0 = u := ⟨_, rfl⟩
   rw [hu] at htk hck
   have HTK := Lib.hid htk
   clear htk hem hu
   cases em with
   | false =>
    go_wp2_with fail
    go_roundw
    case rel => exact ⟨k + 1, false, by omega, by go_num, rfl, by rw [HTK.out]; simp, rfl⟩
    case measure => simp [intOf]; omega
   | true =>
    by_cases hu0 : u = 0
    ·subst hu0
     go_wp2_with fail
     go_roundw
     case rel => exact ⟨k + 1, true, by omega, by go_num, rfl, by rw [HTK.out]; simp, rfl⟩
     case measure => simp [intOf]; omega
    ·have hun : u.toNat ≠ 0 := fun e => hu0 (UInt8.toNat_inj.1 e)
     have hub : ((u.toNat : Int) == 0) = false := beq_eq_false_iff_ne.2 (by omega)
     go_wp2_with fail
     go_roundw
     case rel => exact ⟨k + 1, false, by omega, by go_num, rfl, by rw [HTK.out]; simp [hu0], rfl⟩
     case measure => simp [intOf]; omega
  ·have i1 : ¬ (k : Int) < 128 := by omega
   obtain rfl : k = 128 := by omega
   have hez : em = true ↔ x = zeros := by rw [hem, List.take_of_length_le (by rw [HXL.out]; exact Nat.le_refl _)]; rfl
   clear hem
   cases em with
   | true =>
    have hz := Lib.hid (hez.1 rfl)
    clear hez
    go_wp2_with fail
    go_ret3
    refine ⟨Kept.refl _ _, ?_⟩
    rw [hz.out, readSlot_zeros]
    exact ⟨none, 0, 0, rfl, SlAt.nil _, fun _ => rfl⟩
   | false =>
    have HZ := Lib.hid (show x ≠ zeros from fun e => by have := hez.2 e; cases this)
    clear hez
    go_wp2_with fail
    go_loopw [7, 8] (fun v i wx => TnRel wr x v i wx) (fun _ i _ => 8 - (intOf i).toNat)
    case atStart => exact ⟨0, 0, by omega, rfl, rfl, by simp [num8]; rfl, rfl⟩
    case round =>
     obtain ⟨k, t, hk, rfl, rfl, ht, rfl⟩ := hrel
     by_cases hlt : k < 8
     ·have i1 : (k : Int) < 8 := by omega
      have hck := HCX.out k (by omega)
      have hnl := num8_lt k x
      have hns := num8_snoc (x := x) (k := k) (by rw [HXL.out]; omega)
      obtain ⟨m, hm⟩ : ∃ m, num8 (x.take k) = m := ⟨_, rfl⟩
      obtain ⟨u, hu⟩ : ∃ u : UInt8, x[k]?.getD 0 = u := ⟨_, rfl⟩
      rw [hm, hu] at hns; rw [hm] at hnl ht; rw [hu] at hck
      have hm56 : m < 72057594037927936 := Nat.lt_of_lt_of_le hnl (by rw [show (72057594037927936 : Nat) = 256 ^ 7 from rfl]; exact Nat.pow_le_pow_right (by omega) (by omega))
      rw [wrap_i64_lt m (by omega)] at ht
      subst ht
      have hor := or_i64 m hm56 u
      have HNS := Lib.hid hns; have HOR := Lib.hid hor
      clear hns hm hu hor hnl
      go_wp2_with fail
      go_roundw
      case rel => exact ⟨k + 1, _, by omega, by go_num, rfl, by rw [HNS.out]; exact HOR.out, rfl⟩
      case measure => simp [intOf]; omega
     ·have i1 : ¬ (k : Int) < 8 := by omega
      obtain rfl : k = 8 := by omega
      have hc8 := HCX.out 8 (by omega)
      obtain ⟨T, hT⟩ : ∃ T, num8 (x.take 8) = T := ⟨_, rfl⟩
      obtain ⟨u, hu⟩ : ∃ u : UInt8, x[8]?.getD 0 = u := ⟨_, rfl⟩
      have hcl := u.toNat_lt
      obtain ⟨n, hn⟩ : ∃ n, u.toNat = n := ⟨_, rfl⟩
      have hx8 : (x[8]?.getD 0).toNat = n := by rw [hu, hn]
      have hTl : T < 18446744073709551616 := by rw [← hT]; exact num8_lt 8 x
      rw [hu, hn] at hc8; rw [hT] at ht; rw [hn] at hcl
      have htw : t = (T : Int) ∧ T < 9223372036854775808 ∨ t < 0 ∧ 9223372036854775808 ≤ T := by
       rw [ht, IntKind.wrap_i64]
       omega
      have HT := Lib.hid hT; have HX8 := Lib.hid hx8
      clear hT hu hn hx8 HCX ht
      by_cases hbad : T = 0 ∨ 9007199254740991 < T ∨ 100 < n
      ·have hr := readSlot_none HZ.out (by rw [HT.out, HX8.out]; exact hbad)
       have HR := Lib.hid hr
       clear hr
       by_cases h1 : t < 1
       ·clear htw hbad
        go_wp2_with fail
        go_ret3
        exact ⟨Kept.refl _ _, by rw [HR.out]; exact ⟨_, _, rfl⟩⟩
       ·by_cases h2 : 9007199254740991 < t
        ·clear htw hbad
         go_wp2_with fail
         go_ret3
         exact ⟨Kept.refl _ _, by rw [HR.out]; exact ⟨_, _, rfl⟩⟩
        ·have h3 : (100 : Int) < (n : Int) := by omega
         clear htw hbad
         go_wp2_with fail
         go_ret3
         exact ⟨Kept.refl _ _, by rw [HR.out]; exact ⟨_, _, rfl⟩⟩
      ·have htT : t = (T : Int) := by omega
       subst htT
       have h1 : ¬ (T : Int) < 1 := by omega
       have h2 : ¬ (9007199254740991 : Int) < (T : Int) := by omega
       have h3 : ¬ (100 : Int) < (n : Int) := by omega
       have hr := readSlot_some HZ.out (by rw [HT.out, HX8.out]; exact hbad)
       rw [HT.out, HX8.out] at hr
       have HR := Lib.hid hr
       have i5 : (0 : Int) ≤ 9 + (n : Int) := by omega
       have HB := Lib.hid hbad
       clear hr htw hbad
       go_wp2_with fail
       have hcut := hs.cut (i := 9) (j := 9 + n) (by omega) (by omega)
       rw [show 9 + n - 9 = n by omega] at hcut
       obtain ⟨txt, htxt⟩ : ∃ txt, (x.drop 9).take n = txt := ⟨_, rfl⟩
       have he9 : (x.take (9 + n)).drop 9 = txt := by rw [List.drop_take, show 9 + n - 9 = n by omega, htxt]
       rw [he9] at hcut
       rw [htxt] at HR
       clear he9 htxt
       refine (copyBytes_any wr _ n (c - 9) txt hcut (by omega)).mono ?_
       rintro e w4 ⟨A4, c4, rfl, hown4, hbel4⟩
       have hk4 := Kept.of_below (F := []) hbel4
       obtain ⟨hs4, hA4⟩ := ClonePost.sl hown4
       have hn4 : A4 = none → c4 = 0 := fun e => row_nil' hown4 e
       have hs4x := hs.kept hk4 (by simp)
       clear hown4 hbel4 hcut
       have csec := ref11Sector_any w4 T A4 n c4 txt hs4 (by omega) (by omega)
       go_wp2_with fail
       refine csec.mono ?_
       rintro e w5 ⟨A5, c5, rfl, hown5, hbel5⟩
       have hk5 := Kept.of_below (F := []) hbel5
       obtain ⟨hs5, hA5⟩ := ClonePost.sl hown5
       have hs5x := hs4x.kept hk5 (by simp)
       have hs45 := hs4.kept hk5 (by simp)
       have ceq := eqBytes_any w5 A5 _ 128 c5 128 c _ _ hs5 hs5x
       clear hown5 hbel5 csec
       go_wp2_with fail
       refine ceq.mono ?_
       rintro e w6 ⟨rfl, nq, rfl⟩
       clear ceq
       go_wp2_with fail
       go_ret3
       refine ⟨(hk4.trans hk5).trans (Kept.drewN [] w5 nq), ?_⟩
       rw [HR.out]
       by_cases he : slotB T txt = x
       ·rw [if_pos he]
        exact ⟨A4, n, c4, by rw [decide_eq_true he]; rfl, hs45.kept (Kept.drewN [] w5 nq) (by simp), hn4⟩
       ·rw [if_neg he]
        exact ⟨_, _, by rw [decide_eq_false he]; rfl⟩
end Go.Proofs.YtbnflbkaogpnbaaGreat
namespace Go.Proofs.YtbnflbkaogpnbaaGreat
set_option linter.unusedVariables false
open Go.RowKit
/-- The document's slots, as they lie in memory. -/
def R11At (w : World) (z r : Nat) (s : Sl) : Prop := w.heap[z]? = some (.cells #[.pointer (some ⟨r, 0, none⟩), .int .i64 s.first, .int .i64 s.turn, .int .i64 s.newer] 134 (0, 0))
theorem R11At.kept {w w' : World} {z r : Nat} {s : Sl} {F : List Nat} (h : R11At w z r s) (hk : Kept F w w') (hz : z ∉ F) : R11At w' z r s := (hk.block z (World.lt_of_heap h) hz).trans h
theorem R11At.cells {w : World} {z r : Nat} {s : Sl} (h : R11At w z r s) : w.cell? ⟨z, 0, none⟩ = some (.pointer (some ⟨r, 0, none⟩)) ∧ w.cell? ⟨z, 1, none⟩ = some (.int .i64 s.first) ∧ w.cell? ⟨z, 2, none⟩ = some (.int .i64 s.turn) ∧ w.cell? ⟨z, 3, none⟩ = some (.int .i64 s.newer) ∧
  w.frozen? ⟨z, 2, none⟩ = false ∧ w.frozen? ⟨z, 3, none⟩ = false :=
 ⟨by rw [blk_cell h]; rfl, by rw [blk_cell h]; rfl, by rw [blk_cell h]; rfl, by rw [blk_cell h]; rfl, blk_frozen h 2, blk_frozen h 3⟩
/-- What muslinref11.Open does. -/
def Op11R (w : World) (r : Nat) (d : Dev) (first : Int) (e : Ending) (w' : World) : Prop :=
  Kept [] w w' ∧ ((d.at_ first ≠ 0 ∧ e = .returned (.tuple #[.pointer none, .slice none 0 0, .int .i64 (d.at_ first)])) ∨
    (d.at_ first = 0 ∧ d.at_ (first + 1) ≠ 0 ∧ e = .returned (.tuple #[.pointer none, .slice none 0 0, .int .i64 (d.at_ (first + 1))])) ∨
    (d.at_ first = 0 ∧ d.at_ (first + 1) = 0 ∧ ∃ x y, d.secs[first.toNat]? = some x ∧ d.secs[first.toNat + 1]? = some y ∧
      ((Sl.of first.toNat x y = none ∧ e = .returned (.tuple #[.pointer none, .slice none 0 0, .int .i64 110])) ∨
       ∃ s, Sl.of first.toNat x y = some s ∧ ∃ z A c, e = .returned (.tuple #[.pointer (some ⟨z, 0, none⟩), .slice A s.text.length c, .int .i64 0]) ∧ R11At w' z r s ∧ SlAt w' A s.text.length c (u8vs s.text) ∧ (A = none → c = 0) ∧ w.heap.size ≤ z)))
set_option maxHeartbeats 2000000 in
set_option maxRecDepth 100000 in
theorem ref11Open_any {w : World} {r : Nat} {fp : List Nat} {d : Dev} (hR : Rv w r fp d) (hw : d.Wf) (first : Int) (h1 : I64 first) :
    Calls Tryz.prog 90 #[.pointer (some ⟨r, 0, none⟩), .int .i64 first] w (Op11R w r d first) := by
  unfold I64 at h1
  by_cases hz : d.at_ first = 0
  · obtain ⟨hdead, hf0, hf1⟩ := Dev.at_zero hz
    have hm := hw.many
    obtain ⟨f, rfl⟩ : ∃ f : Nat, first = f := ⟨first.toNat, by omega⟩
    obtain ⟨x, hx⟩ : ∃ x, d.secs[f]? = some x := ⟨_, List.getElem?_eq_getElem (by omega)⟩
    have cr0 := rv_read hR (f : Int) (b := x) hz (by simpa using hx)
    have e0 : IntKind.i64.wrap ((f : Int) + 1) = (f : Int) + 1 := by rw [IntKind.wrap_i64]; omega
    by_cases hz1 : d.at_ ((f : Int) + 1) = 0
    · obtain ⟨_, hg0, hg1⟩ := Dev.at_zero hz1
      have ef1 : ((f : Int) + 1).toNat = f + 1 := by omega
      obtain ⟨y, hy⟩ : ∃ y, d.secs[f + 1]? = some y := ⟨_, List.getElem?_eq_getElem (by omega)⟩
      have cr1 := fun W (h2 : Rv W r fp d) => rv_read h2 ((f : Int) + 1) (b := y) hz1 (by rw [ef1]; exact hy)
      have fin : ∀ e w', Kept [] w w' → ((Sl.of f x y = none ∧ e = .returned (.tuple #[.pointer none, .slice none 0 0, .int .i64 110])) ∨
       ∃ s, Sl.of f x y = some s ∧ ∃ z A c, e = .returned (.tuple #[.pointer (some ⟨z, 0, none⟩), .slice A s.text.length c, .int .i64 0]) ∧ R11At w' z r s ∧ SlAt w' A s.text.length c (u8vs s.text) ∧ (A = none → c = 0) ∧ w.heap.size ≤ z) → Op11R w r d (f : Int) e w' := fun e w' hk h => ⟨hk, .inr (.inr ⟨hz, hz1, x, y, by simpa using hx, by simpa using hy, by simpa using h⟩)⟩
      have FIN := Lib.hid fin
      clear fin hz hz1 hx hy ef1
      go_enter Tryz.func90, Tryz.ntmps90
      go_wp2_with fail
      refine cr0.mono ?_
      rintro e w1 ⟨A1, c1, rfl, hown1, hbel1⟩
      have hk1 := Kept.of_below (F := []) hbel1
      obtain ⟨hs1, _⟩ := ClonePost.sl hown1
      clear hown1 hbel1 cr0
      go_wp2_with fail
      refine (cr1 _ (hR.new_kept hk1)).mono ?_
      rintro e w2 ⟨A2, c2, rfl, hown2, hbel2⟩
      have hk2 := Kept.of_below (F := []) hbel2
      obtain ⟨hs2, _⟩ := ClonePost.sl hown2
      have hs12 := hs1.kept hk2 (by simp)
      clear hown2 hbel2 cr1 hs1
      go_wp2_with fail
      refine (ref11slot_any w2 A1 c1 x hs12).mono ?_
      rintro e w3 ⟨hk3, hr3⟩
      have hs3 := hs2.kept hk3 (by simp)
      have hkw3 := (hk1.trans hk2).trans hk3
      have cs2 := ref11slot_any w3 A2 c2 y hs3
      clear hs12 hs2
      cases hrx : readSlot x with
      | none =>
        simp only [hrx] at hr3
        obtain ⟨t1, v1, rfl⟩ := hr3
        have hof : Sl.of f x y = none := by unfold Sl.of; rw [hrx]
        have HOF := Lib.hid hof
        clear hrx hof
        go_wp2_with fail
        refine cs2.mono ?_
        rintro e w4 ⟨hk4, hr4⟩
        have FE := FIN.out _ w4 (hkw3.trans hk4) (.inl ⟨HOF.out, rfl⟩)
        clear cs2 FIN
        cases hry : readSlot y with
        | none =>
          simp only [hry] at hr4
          obtain ⟨t2, v2, rfl⟩ := hr4
          clear hry
          go_wp2_with fail
          go_ret3
          exact FE
        | some tb =>
          obtain ⟨t2, b2⟩ := tb
          simp only [hry] at hr4
          obtain ⟨A4, n4, c4, rfl, _, _⟩ := hr4
          clear hry
          go_wp2_with fail
          go_ret3
          exact FE
      | some ta =>
        obtain ⟨t1, b1⟩ := ta
        simp only [hrx] at hr3
        obtain ⟨A3, n3, c3, rfl, hsA, hA⟩ := hr3
        have HRX := Lib.hid hrx
        clear hrx
        go_wp2_with fail
        refine cs2.mono ?_
        rintro e w4 ⟨hk4, hr4⟩
        have hkw4 := hkw3.trans hk4
        have hsA4 := hsA.kept hk4 (by simp)
        have hnb1 : n3 = b1.length := by have := hsA.len; simpa [u8vs] using this.symm
        clear cs2 hsA
        cases hry : readSlot y with
        | none =>
          have hof : Sl.of f x y = none := by unfold Sl.of; rw [HRX.out, hry]
          have FE := FIN.out _ w4 hkw4 (.inl ⟨hof, rfl⟩)
          simp only [hry] at hr4
          obtain ⟨t2, v2, rfl⟩ := hr4
          clear hry FIN hof hnb1
          go_wp2_with fail
          go_ret3
          exact FE
        | some tb =>
          obtain ⟨t2, b2⟩ := tb
          have hof : Sl.of f x y = if t1 = t2 ∧ 0 < t1 then none else if t1 < t2 then some ⟨f, 1, t2, b2⟩ else some ⟨f, 0, t1, b1⟩ := by unfold Sl.of; rw [HRX.out, hry]
          simp only [hry] at hr4
          obtain ⟨A4, n4, c4, rfl, hsB, hB⟩ := hr4
          have hnb2 : n4 = b2.length := by have := hsB.len; simpa [u8vs] using this.symm
          subst hnb1 hnb2
          clear hry
          by_cases hbad : t1 = t2 ∧ 0 < t1
          · obtain ⟨rfl, h0⟩ := hbad
            rw [if_pos ⟨rfl, h0⟩] at hof
            have FE := FIN.out _ w4 hkw4 (.inl ⟨hof, rfl⟩)
            have i0 : (0 : Int) < (t1 : Int) := by omega
            clear FIN hof
            go_wp2_with fail
            go_ret3
            exact FE
          · rw [if_neg hbad] at hof
            by_cases hlt : t1 < t2
            · rw [if_pos hlt] at hof
              have i1 : (t1 : Int) < (t2 : Int) := by omega
              have i2 : ((t1 : Int) == (t2 : Int)) = false := beq_eq_false_iff_ne.2 (by omega)
              have HOF := Lib.hid hof
              clear hof hbad hlt
              go_wp2_with fail
              go_ret3
              have hka := Kept.alloc [] w4 (.cells #[.pointer (some ⟨r, 0, none⟩), .int .i64 f, .int .i64 t2, .int .i64 1] 134)
              exact FIN.out _ _ (hkw4.trans hka) (.inr ⟨_, HOF.out, w4.heap.size, A4, c4, rfl, heap_alloc_new _ _, hsB.kept hka (by simp), hB, hkw4.size⟩)
            · rw [if_neg hlt] at hof
              have i1 : ¬ (t1 : Int) < (t2 : Int) := by omega
              have HOF := Lib.hid hof
              have hka := Kept.alloc [] w4 (.cells #[.pointer (some ⟨r, 0, none⟩), .int .i64 f, .int .i64 t1, .int .i64 0] 134)
              by_cases heq : t1 = t2
              · have h0 : t1 = 0 := by omega
                subst heq h0
                clear hof hbad hlt
                go_wp2_with fail
                go_ret3
                exact FIN.out _ _ (hkw4.trans hka) (.inr ⟨_, HOF.out, w4.heap.size, A3, c3, rfl, heap_alloc_new _ _, hsA4.kept hka (by simp), hA, hkw4.size⟩)
              · have i2 : ((t1 : Int) == (t2 : Int)) = false := beq_eq_false_iff_ne.2 (by omega)
                clear hof hbad hlt heq
                go_wp2_with fail
                go_ret3
                exact FIN.out _ _ (hkw4.trans hka) (.inr ⟨_, HOF.out, w4.heap.size, A3, c3, rfl, heap_alloc_new _ _, hsA4.kept hka (by simp), hA, hkw4.size⟩)
    · have hb : (d.at_ ((f : Int) + 1) != 0) = true := by simpa using hz1
      have c1 := fun W (h2 : Rv W r fp d) => rv_read_bad h2 ((f : Int) + 1) hz1
      have HZ := Lib.hid hz; have HZ1 := Lib.hid hz1
      clear hz hz1 hx
      go_enter Tryz.func90, Tryz.ntmps90
      go_wp2_with fail
      refine cr0.mono ?_
      rintro e w1 ⟨A1, c1', rfl, hown1, hbel1⟩
      have hk1 := Kept.of_below (F := []) hbel1
      clear hown1 hbel1 cr0
      go_wp2_with fail
      refine (c1 _ (hR.new_kept hk1)).mono ?_
      rintro e w2 ⟨rfl, rfl⟩
      go_wp2_with fail
      go_ret3
      exact ⟨hk1, .inr (.inl ⟨HZ.out, HZ1.out, rfl⟩)⟩
  · have hb : (d.at_ first != 0) = true := by simpa using hz
    have c0 := rv_read_bad hR first hz
    have HZ := Lib.hid hz
    clear hz
    go_enter Tryz.func90, Tryz.ntmps90
    go_wp2_with fail
    refine c0.mono ?_
    rintro e w1 ⟨rfl, rfl⟩
    go_wp2_with fail
    go_ret3
    exact ⟨Kept.refl _ _, .inl ⟨HZ.out, rfl⟩⟩
end Go.Proofs.YtbnflbkaogpnbaaGreat
