/- The document's sum and record (muslinref02, muslinref12). -/
import Derived.Test.YtbnflbkaogpnbaaVC
import Derived.Test.YtbnflbkaogpnbaaXA
namespace Go.Proofs.Ytbnflbkaogpnbaa
set_option linter.unusedVariables false
open Go.RowKit

/-- The outer loop: the bytes so far. -/
def RoRel (w : World) (xs : List UInt8) (n : Nat) (r i : Value) (wr : World) : Prop :=
  ∃ k : Nat, k ≤ n ∧ i = .int .i64 k ∧ r = .int .u32 (sumOn 4294967295 (xs.take k) : Nat) ∧ w = wr
/-- The inner loop: the bits so far. -/
def RiRel (w : World) (S : Nat) (r k : Value) (wr : World) : Prop :=
  ∃ j : Nat, j ≤ 8 ∧ k = .int .i64 j ∧ r = .int .u32 (bitSteps j S : Nat) ∧ w = wr

theorem and_one (R : Nat) (h : R < 4294967296) : bits .and .u32 (R : Int) 1 = ((R % 2 : Nat) : Int) := by
  have := u32_and_nat R 1 h (by omega)
  rw [nat_mask1] at this
  exact this

def SumHere (w : World) (s : Nat) (e : Ending) (w' : World) : Prop := e = .returned (.int .u32 s) ∧ w = w'

set_option maxHeartbeats 1000000 in
set_option maxRecDepth 100000 in
theorem ref02On_any (w : World) (A : Option Addr) (n c : Nat) (xs : List UInt8) (hx : SlAt w A n c (u8vs xs)) : Calls Try.prog 155 #[.int .u32 0, .slice A n c] w (SumHere w (crc xs)) := by
  have hxl : xs.length = n := by simpa [u8vs] using hx.len
  have hnc := hx.le; have hcm := hx.max
  unfold maxLen at hcm
  have HX := Lib.hid hxl; clear hxl
  have e0 : bits .xor .u32 IntKind.u32.max 0 = ((4294967295 : Nat) : Int) := by decide
  go_enter Try.func155, Try.ntmps155
  go_wp2_with fail
  try rw [e0]
  clear e0
  go_loopw [5, 6] (fun r i wr => RoRel w xs n r i wr) (fun _ i _ => n - (intOf i).toNat)
  case atStart => exact ⟨0, by omega, rfl, rfl, rfl⟩
  case round =>
    obtain ⟨k, hk, rfl, rfl, hwr⟩ := hrel
    subst hwr
    by_cases hlt : k < n
    · have i1 : (k : Int) < (n : Int) := by omega
      obtain ⟨bb, o, hA, hbl, hc⟩ := hx.at_ hlt
      subst hA
      have hS := sumOn_lt (xs.take k) (r := 4294967295) (by omega)
      obtain ⟨S, hSS⟩ : ∃ S, sumOn 4294967295 (xs.take k) = S := ⟨_, rfl⟩
      obtain ⟨ch, hcc⟩ : ∃ ch, xs[k]?.getD 0 = ch := ⟨_, rfl⟩
      rw [hSS] at hS ⊢
      rw [hcc] at hc
      have hch := ch.toNat_lt
      have hx1 : S ^^^ ch.toNat < 4294967296 := Nat.xor_lt_two_pow (n := 32) hS (by omega)
      have e1 : bits .xor .u32 (S : Int) ((ch.toNat : Int) % 4294967296) = ((S ^^^ ch.toNat : Nat) : Int) := by
        rw [show ((ch.toNat : Int) % 4294967296) = (ch.toNat : Int) by omega, u32_xor_nat _ _ hS (by omega)]
      obtain ⟨X, hXX⟩ : ∃ X, S ^^^ ch.toNat = X := ⟨_, rfl⟩
      rw [hXX] at hx1 e1
      have e2 : bits .xor .u32 (S : Int) (ch.toNat : Int) = (X : Int) := by
        rw [show ((ch.toNat : Int) % 4294967296) = (ch.toNat : Int) by omega] at e1
        exact e1
      have HS := Lib.hid hSS; have HC := Lib.hid hcc; have HXX := Lib.hid hXX
      clear hSS hcc hXX
      go_wp2_with fail
      go_loopw [5, 7] (fun r k wr => RiRel w X r k wr) (fun _ k _ => 8 - (intOf k).toNat)
      case atStart => exact ⟨0, by omega, rfl, rfl, rfl⟩
      case round =>
        obtain ⟨j, hj, rfl, rfl, hwr⟩ := hrel
        subst hwr
        by_cases hjt : j < 8
        · have i2 : (j : Int) < 8 := by omega
          have hR := bitSteps_lt j hx1
          obtain ⟨R, hRR⟩ : ∃ R, bitSteps j X = R := ⟨_, rfl⟩
          rw [hRR] at hR ⊢
          have a1 := and_one R hR
          have hst : bitSteps (j + 1) X = bitStep R := by rw [← hRR]; rfl
          have HRR := Lib.hid hRR; have HST := Lib.hid hst
          clear hRR hst
          by_cases hb : R % 2 = 1
          · rw [hb] at a1
            have x1 : bits .xor .u32 ((R : Int) / 2) 3988292384 = ((bitStep R : Nat) : Int) := by
              rw [show ((R : Int) / 2) = ((R / 2 : Nat) : Int) by omega, show (3988292384 : Int) = ((3988292384 : Nat) : Int) from rfl, u32_xor_nat _ _ (by omega) (by omega)]
              unfold bitStep
              rw [if_pos hb]
            obtain ⟨Y, hY⟩ : ∃ Y, bitStep R = Y := ⟨_, rfl⟩
            rw [hY] at x1
            have HY := Lib.hid hY
            clear hY hb
            go_wp2_with fail
            go_roundw
            case rel =>
              exact ⟨j + 1, by omega, by go_num, by rw [HST.out, HY.out], rfl⟩
            case measure => simp [intOf]; omega
          · rw [show R % 2 = 0 by omega] at a1
            have x1 : ((R : Int) / 2) = ((bitStep R : Nat) : Int) := by
              unfold bitStep
              rw [if_neg hb, Nat.xor_zero]
              omega
            obtain ⟨Y, hY⟩ : ∃ Y, bitStep R = Y := ⟨_, rfl⟩
            rw [hY] at x1
            have HY := Lib.hid hY
            clear hY hb
            go_wp2_with fail
            go_roundw
            case rel =>
              exact ⟨j + 1, by omega, by go_num, by rw [HST.out, HY.out], rfl⟩
            case measure => simp [intOf]; omega
        · obtain rfl : j = 8 := by omega
          have hst : bitSteps 8 X = sumOn 4294967295 (xs.take (k + 1)) := by rw [sum_succ (by rw [HX.out]; exact hlt), HS.out, HC.out, ← HXX.out]; rfl
          rw [hst]
          have HST := Lib.hid hst
          clear hst
          go_wp2_with fail
          go_roundw
          case rel => exact ⟨k + 1, by omega, by go_num, rfl, rfl⟩
          case measure => simp [intOf]; omega
    · have i1 : ¬ (k : Int) < (n : Int) := by omega
      obtain rfl : k = n := by omega
      have hfin : bits .xor .u32 IntKind.u32.max (sumOn 4294967295 (xs.take k) : Nat) = (crc xs : Nat) := by
        rw [List.take_of_length_le (by rw [HX.out]; exact Nat.le_refl _), show (IntKind.u32.max : Int) = ((4294967295 : Nat) : Int) from rfl, u32_xor_nat _ _ (by omega) (sumOn_lt _ (by omega)), Nat.xor_comm]
        rfl
      go_wp2_with fail
      go_ret
      exact ⟨rfl, rfl⟩

theorem ref02Of_any (w : World) (A : Option Addr) (n c : Nat) (xs : List UInt8) (hx : SlAt w A n c (u8vs xs)) : Calls Try.prog 138 #[.slice A n c] w (SumHere w (crc xs)) := by
  have cn := ref02On_any w A n c xs hx
  clear hx
  go_enter Try.func138, Try.ntmps138
  go_wp2_with fail
  refine cn.mono ?_
  rintro e w1 ⟨rfl, rfl⟩
  go_wp2_with fail
  go_ret
  exact ⟨rfl, rfl⟩

set_option maxHeartbeats 1000000 in
set_option maxRecDepth 100000 in
theorem ref12Record_any (w : World) (A : Option Addr) (n c : Nat) (b : List UInt8) (hs : SlAt w A n c (u8vs b)) (hA : A = none → c = 0) (hn : n ≤ 16384) : Calls Try.prog 128 #[.slice A n c] w (ClonePost w 5 (n + 7) (u8vs (recB b))) := by
  have hbl : b.length = n := by simpa [u8vs] using hs.len
  have hnc := hs.le; have hcm := hs.max
  unfold maxLen at hcm
  have HB := Lib.hid hbl; clear hbl
  go_enter Try.func128, Try.ntmps128
  have hh0 := heap_alloc_new w (.cells #[.int .u8 ((n : Int) / 65536), .int .u8 ((n : Int) / 256), .int .u8 ((n : Int) % 256)] 5)
  have hk0 := Kept.alloc [] w (.cells #[.int .u8 ((n : Int) / 65536), .int .u8 ((n : Int) / 256), .int .u8 ((n : Int) % 256)] 5)
  have hs0 := hs.kept hk0 (by simp)
  have hown0 : (w.alloc (.cells #[.int .u8 ((n : Int) / 65536), .int .u8 ((n : Int) / 256), .int .u8 ((n : Int) % 256)] 5)).ownsRow w.heap.size 5 1 (.slice (some ⟨w.heap.size, 0, none⟩) 3 3) 3 (u8vs (headOf n)) := by
    refine ⟨rfl, .inr ⟨w.heap.size, 3, _, rfl, Nat.le_refl _, hh0, Nat.le_refl _, by unfold maxLen; omega, rfl, ?_⟩⟩
    have e1 : (n : Int) / 65536 = ((n / 65536 % 256 : Nat) : Int) := by omega
    have e2 : (n : Int) / 256 = ((n / 256 % 256 : Nat) : Int) := by omega
    have e3 : (n : Int) % 256 = ((n % 256 : Nat) : Int) := by omega
    rw [e1, e2, e3]
    rfl
  go_wp2_with (refine wpList_append_u8 rfl (.tmp 16) (.tmp 17) rfl w.heap.size _ 3 (headOf n) rfl hown0 A n c b rfl hs0 hA (by omega) (by simp) ?_; intro A1 c1 w1 hown1 hgrow1 hA1)
  obtain ⟨A1', c1', e1, hs1, hb1⟩ := SlAt.of_own hown1
  cases e1
  have hk1 : Kept [] w w1 := hk0.trans' (Kept.grown (F := [w.heap.size]) hgrow1 (fun j e => by cases e; simp)) (by simp)
  refine (ref02Of_any w1 A1 (3 + n) c1 _ hs1).mono ?_
  rintro e w2 ⟨rfl, rfl⟩
  obtain ⟨S, hS⟩ : ∃ S, crc (headOf n ++ b) = S := ⟨_, rfl⟩
  have hSl : S < 4294967296 := by rw [← hS]; exact crc_lt _
  have e5 : headOf n ++ b ++ rowOf S = recB b := by unfold recB sumd; rw [HB.out, hS]
  rw [hS]
  clear hS hown0 hh0 hs hs0
  have hh2 := heap_alloc_new w1 (.cells #[.int .u8 ((S : Int) % 256), .int .u8 ((S : Int) / 256 % 256), .int .u8 ((S : Int) / 65536 % 256), .int .u8 ((S : Int) / 16777216)] 5)
  have hk2 := Kept.alloc [] w1 (.cells #[.int .u8 ((S : Int) % 256), .int .u8 ((S : Int) / 256 % 256), .int .u8 ((S : Int) / 65536 % 256), .int .u8 ((S : Int) / 16777216)] 5)
  have hs2 : SlAt (w1.alloc (.cells #[.int .u8 ((S : Int) % 256), .int .u8 ((S : Int) / 256 % 256), .int .u8 ((S : Int) / 65536 % 256), .int .u8 ((S : Int) / 16777216)] 5)) (some ⟨w1.heap.size, 0, none⟩) 4 4 (u8vs (rowOf S)) := by
    have e6 : (#[.int .u8 ((S : Int) % 256), .int .u8 ((S : Int) / 256 % 256), .int .u8 ((S : Int) / 65536 % 256), .int .u8 ((S : Int) / 16777216)] : Array Value) = (u8vs (rowOf S)).toArray := by
      have f0 : (S : Int) % 256 = ((S % 256 : Nat) : Int) := by omega
      have f1 : (S : Int) / 256 % 256 = ((S / 256 % 256 : Nat) : Int) := by omega
      have f2 : (S : Int) / 65536 % 256 = ((S / 65536 % 256 : Nat) : Int) := by omega
      have f3 : (S : Int) / 16777216 = ((S / 16777216 % 256 : Nat) : Int) := by omega
      rw [f0, f1, f2, f3]
      rfl
    rw [e6] at hh2 ⊢
    exact SlAt.blk hh2 rfl (by unfold maxLen; omega)
  have hownX := row_kept hown1 hk2 (by simp)
  have hsz1 := hk1.size; have hsz2 := hk2.size
  go_wp2_with (refine wpList_append_u8 rfl (.tmp 21) (.tmp 33) rfl w.heap.size (.slice A1 (3 + n) c1) (3 + n) (headOf n ++ b) rfl hownX (some ⟨w1.heap.size, 0, none⟩) 4 4 (rowOf S) rfl hs2 (fun e => by cases e) (by omega) (by omega) ?_; intro A4 c4 w4 hown4 hgrow4 hA4)
  go_ret
  rw [e5, show 3 + n + 4 = n + 7 by omega] at hown4
  show ClonePost w 5 (n + 7) (u8vs (recB b)) (.returned (.slice A4 (3 + n + 4) c4)) w4
  rw [show 3 + n + 4 = n + 7 by omega]
  refine ClonePost.mk hown4 ?_
  have hk4 : Kept [] w w4 := (hk1.trans hk2).trans' (Kept.grown (F := (Value.slice A1 (3 + n) c1).ownBlock.toList) hgrow4 (fun j e => by rw [e]; simp)) (fun i hi => .inr (by
    simp only [Option.mem_toList] at hi
    cases A1 with
    | none => cases hi
    | some p =>
      have := (hb1 p rfl)
      rw [this.1] at hi
      cases hi
      exact this.2))
  exact hk4.below (Nat.le_refl _) (by simp)
end Go.Proofs.Ytbnflbkaogpnbaa
