/- Texts in one: A0 P1 C0 S0 S1 U0 U1 U2 U3. -/
import Derived.Test.YtbnflbkaogpnbaaGreatPAC
import Derived.Laws.BitsAllLaws
import Derived.Deep.AppendLies
import Derived.Laws.AppendOwnNone
import Derived.Laws.BytesArg
import Derived.Lib.Bytes
namespace Go.Proofs.YtbnflbkaogpnbaaGreat
open Go.RowKit
def TruePost (w : World) (e : Ending) (w' : World) : Prop := e = .returned (.bool true) ∧ Kept [] w w'
end Go.Proofs.YtbnflbkaogpnbaaGreat
namespace Go.Proofs.YtbnflbkaogpnbaaGreat
theorem backs_at (keep : List Int) (f : Nat → Blk) (i : Nat) : ∀ (r : List Nat) (k : Nat) (s : List Blk), (Dev.backs keep f k r s)[i]? = s[i]? ∨ (i ∈ r ∧ (Dev.backs keep f k r s)[i]? = some (f i)) := by
 intro r
 induction r with
 | nil => intro k s; exact .inl rfl
 | cons x r ih =>
  intro k s
  rw [Dev.backs]
  rcases ih (k + 1) (if Dev.lost keep k then s.set x (f x) else s) with h | ⟨h1, h2⟩
  ·rw [h]
   split
   ·by_cases hx : x = i
    ·subst hx
     by_cases hl : x < s.length
     ·right; exact ⟨List.mem_cons_self, by rw [List.getElem?_set_self hl]⟩
     ·left; rw [List.getElem?_eq_none (by simp; omega), List.getElem?_eq_none (by omega)]
    ·left; rw [List.getElem?_set_ne hx]
   ·exact .inl rfl
  ·exact .inr ⟨List.mem_cons_of_mem _ h1, h2⟩
theorem look_append (s : List (Nat × Blk)) (i j : Nat) (b : Blk) (h : Dev.look s i = none) : Dev.look (s ++ [(i, b)]) j = if j = i then some b else Dev.look s j := by
 unfold Dev.look at h ⊢
 rw [List.find?_append]
 by_cases hj : j = i
 ·subst hj
  simp only [Option.map_eq_none_iff] at h
  simp [h]
 ·have : ¬ i = j := fun e => hj e.symm
  simp [hj, this]
end Go.Proofs.YtbnflbkaogpnbaaGreat
namespace Go.Proofs.YtbnflbkaogpnbaaGreat
open Go.RowKit
def I64 (n : Int) : Prop := -9223372036854775808 ≤ n ∧ n ≤ 9223372036854775807
theorem spliced_all (cs : Array Value) (vs : List Value) (h : vs.length = cs.size) : spliced cs 0 vs = vs.toArray := by
 unfold spliced
 rw [List.take_zero, List.nil_append, Nat.zero_add, List.drop_of_length_le (by rw [Array.length_toList]; omega), List.append_nil]
theorem row_there {w : World} {g : Nat} {cs : Array Value} {t : TypeId} (h : w.heap[g]? = some (.cells cs t (0, 0))) : w.there g 0 cs.size := by
 intro j hj
 refine ⟨?_, blk_frozen h _⟩
 rw [blk_cell h, Array.getElem?_eq_getElem (by omega)]
 rfl
theorem row_range {w : World} {g : Nat} {cs : List Value} {t : TypeId} (h : w.heap[g]? = some (.cells cs.toArray t (0, 0))) : w.rangeAt g 0 cs := by
 intro j v hj
 rw [blk_cell h, List.getElem?_toArray, Nat.zero_add]
 exact hj
end Go.Proofs.YtbnflbkaogpnbaaGreat
namespace Go.Proofs.YtbnflbkaogpnbaaGreat
/-- One bit's step. -/
def bitStep (r : Nat) : Nat := (r / 2) ^^^ (if r % 2 = 1 then 3988292384 else 0)
def bitSteps : Nat → Nat → Nat
 | 0, r => r
 | m + 1, r => bitStep (bitSteps m r)
def byteStep (r : Nat) (c : UInt8) : Nat := bitSteps 8 (r ^^^ c.toNat)
def sumOn (r : Nat) (b : List UInt8) : Nat := b.foldl byteStep r
/-- The sum. -/
def crc (b : List UInt8) : Nat := sumOn 4294967295 b ^^^ 4294967295
theorem bitStep_xor (a b : Nat) : bitStep (a ^^^ b) = bitStep a ^^^ bitStep b := by
 have h1 : (a ^^^ b) / 2 = a / 2 ^^^ b / 2 := by
  have := @Nat.xor_div_two_pow a b 1
  simpa using this
 have h2 : (a ^^^ b) % 2 = (a + b) % 2 := by
  have h3 := @Nat.xor_mod_two_pow a b 1
  rw [show (2 : Nat) ^ 1 = 2 from rfl] at h3
  rw [h3]
  have ha : a % 2 = 0 ∨ a % 2 = 1 := by omega
  have hb : b % 2 = 0 ∨ b % 2 = 1 := by omega
  rcases ha with ha | ha <;> rcases hb with hb | hb <;> rw [ha, hb] <;> simp <;> omega
 have ha : a % 2 = 0 ∨ a % 2 = 1 := by omega
 have hb : b % 2 = 0 ∨ b % 2 = 1 := by omega
 unfold bitStep
 rw [h1, h2]
 rcases ha with ha | ha <;> rcases hb with hb | hb
 ·simp [ha, hb, show (a + b) % 2 = 0 by omega]
 ·simp [ha, hb, show (a + b) % 2 = 1 by omega, Nat.xor_assoc]
 ·rw [if_pos (by omega), if_pos ha, if_neg (by omega), Nat.xor_zero]
  rw [Nat.xor_assoc, Nat.xor_assoc, Nat.xor_comm 3988292384]
 ·rw [if_neg (by omega), if_pos ha, if_pos hb, Nat.xor_zero]
  rw [Nat.xor_assoc, ← Nat.xor_assoc 3988292384, Nat.xor_comm 3988292384, Nat.xor_assoc (b / 2), Nat.xor_self, Nat.xor_zero]
theorem bitSteps_xor (m a b : Nat) : bitSteps m (a ^^^ b) = bitSteps m a ^^^ bitSteps m b := by
 induction m with
 | zero => rfl
 | succ m ih => rw [bitSteps, ih, bitStep_xor]; rfl
theorem bitSteps_add (m k r : Nat) : bitSteps (m + k) r = bitSteps m (bitSteps k r) := by
 induction m with
 | zero => rw [Nat.zero_add]; rfl
 | succ m ih => rw [show m + 1 + k = (m + k) + 1 by omega, bitSteps, ih]; rfl
theorem bitStep_lt {r : Nat} (h : r < 4294967296) : bitStep r < 4294967296 := by
 unfold bitStep
 refine Nat.xor_lt_two_pow (n := 32) (by omega) ?_
 split <;> omega
theorem bitSteps_lt (m : Nat) {r : Nat} (h : r < 4294967296) : bitSteps m r < 4294967296 := by
 induction m with
 | zero => exact h
 | succ m ih => exact bitStep_lt ih
theorem bitStep_double (q : Nat) : bitStep (q * 2) = q := by
 unfold bitStep
 rw [if_neg (by omega), Nat.xor_zero]
 omega
theorem bitSteps_mul (m q : Nat) : bitSteps m (q * 2 ^ m) = q := by
 induction m generalizing q with
 | zero => simp [bitSteps]
 | succ m ih =>
  rw [bitSteps, show q * 2 ^ (m + 1) = (q * 2) * 2 ^ m by rw [Nat.pow_succ, Nat.mul_assoc, Nat.mul_comm (2 ^ m)], ih, bitStep_double]
/-- A number is its upper part and its lower part. -/
theorem xor_parts (m r : Nat) : (r / 2 ^ m * 2 ^ m) ^^^ (r % 2 ^ m) = r := by
 refine Nat.eq_of_testBit_eq fun i => ?_
 rw [Nat.testBit_xor, Nat.testBit_mul_two_pow, Nat.testBit_mod_two_pow, Nat.testBit_div_two_pow]
 by_cases h : i < m
 ·simp [h, show ¬ m ≤ i by omega]
 ·simp [h, show m ≤ i by omega]
/-- Four steps at once, by a table of sixteen. -/
theorem bitSteps_split (m r : Nat) : bitSteps m r = (r / 2 ^ m) ^^^ bitSteps m (r % 2 ^ m) := by
 have h := congrArg (bitSteps m) (xor_parts m r)
 rw [bitSteps_xor, bitSteps_mul] at h
 exact h.symm
theorem byteStep_eq (r : Nat) (c : UInt8) : byteStep r c = bitSteps 4 (bitSteps 4 (r ^^^ c.toNat)) := bitSteps_add 4 4 _
theorem byteStep_lt {r : Nat} (h : r < 4294967296) (c : UInt8) : byteStep r c < 4294967296 :=
 bitSteps_lt 8 (Nat.xor_lt_two_pow (n := 32) h (by have := c.toNat_lt; omega))
theorem sumOn_lt (b : List UInt8) {r : Nat} (h : r < 4294967296) : sumOn r b < 4294967296 := by
 induction b generalizing r with
 | nil => exact h
 | cons c b ih => exact ih (byteStep_lt h c)
theorem crc_lt (b : List UInt8) : crc b < 4294967296 := Nat.xor_lt_two_pow (n := 32) (sumOn_lt b (by omega)) (by omega)
theorem sumOn_append (r : Nat) (a b : List UInt8) : sumOn r (a ++ b) = sumOn (sumOn r a) b := by simp [sumOn]
/-- The register, bit by bit. -/
def run (D : Nat → Bool) : Nat → Nat → Nat
 | 0, r => r
 | n + 1, r => bitStep (run D n r ^^^ (D n).toNat)
end Go.Proofs.YtbnflbkaogpnbaaGreat
namespace Go.Proofs.YtbnflbkaogpnbaaGreat
/-- A sum's bytes, the lowest first. -/
def rowOf (s : Nat) : List UInt8 := [UInt8.ofNat s, UInt8.ofNat (s / 256), UInt8.ofNat (s / 65536), UInt8.ofNat (s / 16777216)]
/-- Bytes with their sum behind them. -/
def sumd (x : List UInt8) : List UInt8 := x ++ rowOf (crc x)
def headOf (n : Nat) : List UInt8 := [UInt8.ofNat (n / 65536), UInt8.ofNat (n / 256), UInt8.ofNat n]
/-- A record's bytes. -/
def recB (b : List UInt8) : List UInt8 := sumd (headOf b.length ++ b)
def recs (l : List (List UInt8)) : List UInt8 := l.flatMap recB
def Small (l : List (List UInt8)) : Prop := ∀ b ∈ l, b.length ≤ 16384
def size3 (b : List UInt8) : Nat := (b[0]?.getD 0).toNat * 65536 + (b[1]?.getD 0).toNat * 256 + (b[2]?.getD 0).toNat
/-- Bytes that are not just records. -/
def NoRecs (b : List UInt8) : Prop := ∀ l, Small l → b ≠ recs l
theorem length_sumd (x : List UInt8) : (sumd x).length = x.length + 4 := by simp [sumd, rowOf]
theorem length_recB (b : List UInt8) : (recB b).length = b.length + 7 := by simp [recB, length_sumd, headOf]
theorem recs_nil : recs [] = [] := rfl
theorem recs_cons (b : List UInt8) (l : List (List UInt8)) : recs (b :: l) = recB b ++ recs l := rfl
theorem recs_append (l m : List (List UInt8)) : recs (l ++ m) = recs l ++ recs m := by simp [recs]
theorem size3_head {n : Nat} (h : n ≤ 16384) (t : List UInt8) : size3 (headOf n ++ t) = n := by
 simp only [size3, headOf, List.cons_append, List.nil_append, List.getElem?_cons_zero, List.getElem?_cons_succ, Option.getD_some, UInt8.toNat_ofNat']
 omega
theorem size3_recB {b : List UInt8} (h : b.length ≤ 16384) (t : List UInt8) : size3 (recB b ++ t) = b.length := by
 unfold recB sumd
 rw [List.append_assoc, List.append_assoc, size3_head h]
theorem recB_body (b t : List UInt8) : ((recB b ++ t).drop 3).take b.length = b := by
 unfold recB sumd headOf
 simp
theorem recB_take (b t : List UInt8) : (recB b ++ t).take (b.length + 7) = recB b := by
 rw [← length_recB, List.take_left]
theorem recB_inj {b c x y : List UInt8} (hb : b.length ≤ 16384) (hc : c.length ≤ 16384) (h : recB b ++ x = recB c ++ y) : b = c ∧ x = y := by
 have hl : b.length = c.length := by rw [← size3_recB hb x, h, size3_recB hc y]
 have h1 := recB_body b x
 rw [h, hl, recB_body] at h1
 exact ⟨h1.symm, (List.append_inj h (by rw [length_recB, length_recB, hl])).2⟩
theorem recs_prefix : ∀ {l m : List (List UInt8)} {t : List UInt8}, Small l → Small m → recs l ++ t = recs m → ∃ m', m = l ++ m' ∧ t = recs m' := by
 intro l
 induction l with
 | nil => intro m t _ _ h; exact ⟨m, rfl, by simpa [recs_nil] using h⟩
 | cons b l ih =>
  intro m t hl hm h
  cases m with
  | nil =>
   have := congrArg List.length h
   simp [recs_cons, length_recB, recs_nil] at this
  | cons c m =>
   rw [recs_cons, recs_cons, List.append_assoc] at h
   obtain ⟨rfl, h2⟩ := recB_inj (hl _ List.mem_cons_self) (hm _ List.mem_cons_self) h
   obtain ⟨m', rfl, h3⟩ := ih (fun x hx => hl x (List.mem_cons_of_mem _ hx)) (fun x hx => hm x (List.mem_cons_of_mem _ hx)) h2
   exact ⟨m', rfl, h3⟩
/-- The first record of bytes that are such. -/
theorem recs_first {b : List UInt8} (hb : b ≠ []) {l : List (List UInt8)} (hl : Small l) (h : b = recs l) : ∃ c m, l = c :: m ∧ c.length ≤ 16384 ∧ b = recB c ++ recs m := by
 cases l with
 | nil => exact absurd h hb
 | cons c m => exact ⟨c, m, rfl, hl _ List.mem_cons_self, h⟩
theorem noRecs_short {b : List UInt8} (hb : b ≠ []) (h : b.length < 7) : NoRecs b := fun l hl e => by
 obtain ⟨c, m, rfl, _, rfl⟩ := recs_first hb hl e
 simp [length_recB] at h
 omega
theorem noRecs_great {b : List UInt8} (hb : b ≠ []) (h : 16384 < size3 b) : NoRecs b := fun l hl e => by
 obtain ⟨c, m, rfl, hc, rfl⟩ := recs_first hb hl e
 rw [size3_recB hc] at h
 omega
theorem noRecs_cut {b : List UInt8} (hb : b ≠ []) (h : b.length < size3 b + 7) : NoRecs b := fun l hl e => by
 obtain ⟨c, m, rfl, hc, rfl⟩ := recs_first hb hl e
 rw [size3_recB hc] at h
 simp [length_recB] at h
 omega
theorem noRecs_other {b : List UInt8} (hb : b ≠ []) (h : recB ((b.drop 3).take (size3 b)) ≠ b.take (size3 b + 7)) : NoRecs b := fun l hl e => by
 obtain ⟨c, m, rfl, hc, rfl⟩ := recs_first hb hl e
 rw [size3_recB hc, recB_body, recB_take] at h
 exact h rfl
/-- Bytes that begin with a record. -/
theorem rec_first {b : List UInt8} (h : recB ((b.drop 3).take (size3 b)) = b.take (size3 b + 7)) : b = recB ((b.drop 3).take (size3 b)) ++ b.drop (size3 b + 7) := by
 rw [h, List.take_append_drop]
theorem noRecs_behind {l : List (List UInt8)} {t : List UInt8} (hl : Small l) (h : NoRecs t) : NoRecs (recs l ++ t) := fun m hm e => by
 obtain ⟨m', rfl, h2⟩ := recs_prefix hl hm e
 exact h m' (fun b hb => hm b (List.mem_append_right _ hb)) h2
theorem Small.append {l m : List (List UInt8)} (hl : Small l) (hm : Small m) : Small (l ++ m) := fun b hb => by
 rcases List.mem_append.1 hb with h | h
 ·exact hl b h
 ·exact hm b h
theorem Small.one {b : List UInt8} (h : b.length ≤ 16384) : Small [b] := fun c hc => by simp at hc; rw [hc]; exact h
theorem Small.take {l : List (List UInt8)} (hl : Small l) (i : Nat) : Small (l.take i) := fun b hb => hl b (List.mem_of_mem_take hb)
theorem recs_inj {l m : List (List UInt8)} (hl : Small l) (hm : Small m) (h : recs l = recs m) : l = m := by
 obtain ⟨m', rfl, h2⟩ := recs_prefix (t := []) hl hm (by simpa using h)
 cases m' with
 | nil => simp
 | cons c m' =>
  have := congrArg List.length h2
  simp [recs_cons, length_recB] at this
  omega
end Go.Proofs.YtbnflbkaogpnbaaGreat
namespace Go.Proofs.YtbnflbkaogpnbaaGreat
open Go.RowKit
/-- The table, of which k are made. -/
def tabUpto (k : Nat) : Array Value := ((List.range 16).map fun j => Value.int .u32 (if j < k then (bitSteps 4 j : Nat) else 0)).toArray
theorem step_bits (r : Nat) (h : r < 4294967296) (b : Nat) (hb : r % 2 = b) : bits .xor .u32 ((r : Int) / 2) (bits .and .u32 3988292384 (IntKind.u32.wrap (-(b : Int)))) = (bitStep r : Nat) := by
 have h2 : b = 0 ∨ b = 1 := by omega
 have e1 : ((r : Int) / 2) = ((r / 2 : Nat) : Int) := by omega
 rw [e1]
 rcases h2 with rfl | rfl
 ·have e2 : bits .and .u32 3988292384 (IntKind.u32.wrap (-((0 : Nat) : Int))) = ((0 : Nat) : Int) := by decide
  rw [e2, u32_xor_nat _ _ (by omega) (by omega)]
  unfold bitStep
  rw [if_neg (by omega)]
 ·have e2 : bits .and .u32 3988292384 (IntKind.u32.wrap (-((1 : Nat) : Int))) = ((3988292384 : Nat) : Int) := by decide
  rw [e2, u32_xor_nat _ _ (by omega) (by omega)]
  unfold bitStep
  rw [if_pos hb]
theorem step_u32 {j k : Nat} (r : Nat) (h : r < 4294967296) (e : r = bitSteps j k) : Value.int .u32 (bits .xor .u32 ((r : Int) / 2) (bits .and .u32 3988292384 (-bits .and .u32 (r : Int) 1 % 4294967296))) = .int .u32 (bitSteps (j + 1) k : Nat) := by
 have e1 : bits .and .u32 (r : Int) 1 = ((r % 2 : Nat) : Int) := by
  have := u32_and_nat r 1 h (by omega)
  rw [nat_mask1] at this
  exact this
 have := step_bits r h (r % 2) rfl
 rw [IntKind.wrap_u32'] at this
 rw [e1, this, e]
 rfl
def MadeRel (w : World) (i : Value) (wr : World) : Prop :=
 ∃ k : Nat, k ≤ 16 ∧ i = .int .i64 k ∧ wr.heap[w.heap.size]? = some (.cells (tabUpto k) 154 (0, 0)) ∧ Kept [] w wr
theorem tab_cell {w : World} {b k : Nat} {t : TypeId} (hh : w.heap[b]? = some (.cells (tabUpto k) t (0, 0))) {j : Nat} (hj : j < 16) : w.cell? ⟨b, j, none⟩ = some (.int .u32 (if j < k then (bitSteps 4 j : Nat) else 0)) := by
 rw [blk_cell hh, tabUpto, List.getElem?_toArray, List.getElem?_map, List.getElem?_range hj]
 rfl
theorem tab_set {w : World} {b k : Nat} {t : TypeId} (hh : w.heap[b]? = some (.cells (tabUpto k) t (0, 0))) (hk : k < 16) :
  (w.setCell ⟨b, k, none⟩ (.int .u32 (bitSteps 4 k : Nat))).heap[b]? = some (.cells (tabUpto (k + 1)) t (0, 0)) := by
 rw [heap_set hh]
 congr 2
 apply Array.ext_getElem?
 intro j
 rw [Array.getElem?_setIfInBounds]
 by_cases hj : j < 16
 ·simp only [tabUpto, List.getElem?_toArray, List.getElem?_map, List.getElem?_range hj, List.size_toArray, List.length_map, List.length_range, Option.map_some, hk, if_true]
  by_cases e : k = j
  ·subst e
   simp
  ·rw [if_neg e]
   have : (j < k) = (j < k + 1) := by apply propext; omega
   simp only [this]
 ·simp only [tabUpto, List.getElem?_toArray, List.getElem?_map, List.getElem?_eq_none (show (List.range 16).length ≤ j by simp; omega), Option.map_none]
  rw [if_neg (by omega)]
theorem size_table : (Tryz.prog.info? 154).map (·.size) = some 16 := by kernel_rfl
def NibRel (wr : World) (k : Nat) (i r : Value) (wx : World) : Prop := ∃ j : Nat, j ≤ 4 ∧ i = .int .i64 j ∧ r = .int .u32 (bitSteps j k : Nat) ∧ wx = wr
def MadePost (w : World) (e : Ending) (w' : World) : Prop := e = .returned (.agg (tabUpto 16)) ∧ Kept [] w w'
set_option maxHeartbeats 1000000 in
set_option maxRecDepth 100000 in
theorem made_any (w : World) : Calls Tryz.prog 117 #[] w (MadePost w) := by
 go_enter Tryz.func117, Tryz.ntmps117
 go_wp2
 go_loopw [3] (fun i wr => MadeRel w i wr) (fun i _ => 16 - (intOf i).toNat)
 case atStart => exact ⟨0, by omega, rfl, heap_alloc_new _ _, Kept.alloc [] _ _⟩
 case round =>
  obtain ⟨k, hk, rfl, hh, hkp⟩ := hrel
  by_cases hlt : k < 16
  ·have i1 : (k : Int) < 16 := by omega
   go_wp2
   go_loopw [8, 2] (fun i r wx => NibRel wr k i r wx) (fun i _ _ => 4 - (intOf i).toNat)
   case atStart => exact ⟨0, by omega, rfl, by go_num, rfl⟩
   case round =>
    obtain ⟨j, hj, rfl, rfl, rfl⟩ := hrel
    by_cases hl2 : j < 4
    ·have i2 : (j : Int) < 4 := by omega
     have hr := bitSteps_lt j (r := k) (by omega)
     go_wp2
     go_roundw
     case rel => exact ⟨j + 1, by omega, by go_num, step_u32 _ hr rfl, rfl⟩
     case measure => simp [intOf]; omega
    ·have i2 : ¬ (j : Int) < 4 := by omega
     obtain rfl : j = 4 := by omega
     have hc := tab_cell hh hlt
     have hf : wr.frozen? ⟨w.heap.size, k, none⟩ = false := blk_frozen hh k
     go_wp2
     go_roundw
     case rel => exact ⟨k + 1, by omega, by go_num, tab_set hh hlt, hkp.trans' (Kept.setCell (F := [w.heap.size]) (by simp) _) (by simp)⟩
     case measure => simp [intOf]; omega
  ·have i1 : ¬ (k : Int) < 16 := by omega
   obtain rfl : k = 16 := by omega
   have hrr := row_range (cs := (tabUpto 16).toList) (by simpa using hh)
   have htr := row_there hh
   go_wp2_with (first | (refine wpList_load_row rfl 154 _ rfl w.heap.size rfl _ (tabUpto 16) _ _ hh Tryz.underlying154 rfl (by rw [size_table]; rfl) ?_) | (refine wpList_store_mid rfl 154 _ _ rfl w.heap.size 0 (tabUpto 16) rfl rfl (by simpa using htr) (by rw [size_table]; rfl) (all_oneCell_toArray (by decide)) ?_))
   have hh2 : (wr.setCells w.heap.size 0 (tabUpto 16).toList).heap[w.heap.size]? = some (.cells (tabUpto 16) 154 (0, 0)) := by
    rw [setCells_heap w.heap.size 154 _ 0 wr _ hh (by simp), spliced_all _ _ (by simp)]
   refine bodyPost_ret (results_cell_row rfl _ _ w.heap.size _ _ _ _ rfl hh2 Tryz.underlying154 rfl (by rw [size_table]; rfl)) rfl ?_
   exact ⟨rfl, hkp.trans' (setCells_kept w.heap.size _ _ _) (by simp)⟩
end Go.Proofs.YtbnflbkaogpnbaaGreat
namespace Go.Proofs.YtbnflbkaogpnbaaGreat
open Go.RowKit
theorem tab_size (k : Nat) : (tabUpto k).size = 16 := by simp [tabUpto]
theorem tab_one (k : Nat) : (tabUpto k).all (·.oneCell') = true := by
 unfold tabUpto
 refine all_oneCell_toArray (fun v hv => ?_)
 obtain ⟨j, _, rfl⟩ := List.mem_map.1 hv
 rfl
theorem tab_info (k : Nat) : (Tryz.prog.info? 154).map (·.size) = some (tabUpto k).size := by rw [size_table, tab_size]
theorem tab_at {j : Nat} (hj : j < 16) : (tabUpto 16)[j]? = some (.int .u32 (bitSteps 4 j : Nat)) := by
 rw [tabUpto, List.getElem?_toArray, List.getElem?_map, List.getElem?_range hj]
 simp only [Option.map_some, hj, if_true]
theorem nib_u32 (r : Nat) (h : r < 4294967296) : bits .xor .u32 ((r : Int) / 16) (bitSteps 4 (r % 16) : Nat) = (bitSteps 4 r : Nat) := by
 have e1 : ((r : Int) / 16) = ((r / 16 : Nat) : Int) := by omega
 rw [e1, u32_xor_nat _ _ (by omega) (bitSteps_lt 4 (by omega))]
 have := bitSteps_split 4 r
 rw [show (2 : Nat) ^ 4 = 16 from rfl] at this
 rw [this]
/-- What a byte does to the register, step by step. -/
theorem byte_facts (S : Nat) (hS : S < 4294967296) (c : UInt8) : ∃ r1 j1 t1 r2 j2 t2 r3 : Nat, bits .xor .u32 (S : Int) ((c.toNat : Int) % 4294967296) = (r1 : Int) ∧ (r1 : Int) % 16 = (j1 : Int) ∧ j1 < 16 ∧ bitSteps 4 j1 = t1 ∧
  bits .xor .u32 ((r1 : Int) / 16) (t1 : Int) = (r2 : Int) ∧ (r2 : Int) % 16 = (j2 : Int) ∧ j2 < 16 ∧ bitSteps 4 j2 = t2 ∧ bits .xor .u32 ((r2 : Int) / 16) (t2 : Int) = (r3 : Int) ∧ r3 = byteStep S c := by
 have hc := c.toNat_lt
 have h1 : S ^^^ c.toNat < 4294967296 := Nat.xor_lt_two_pow (n := 32) hS (by omega)
 have h2 := bitSteps_lt 4 h1
 refine ⟨S ^^^ c.toNat, (S ^^^ c.toNat) % 16, _, bitSteps 4 (S ^^^ c.toNat), bitSteps 4 (S ^^^ c.toNat) % 16, _, _, ?_, by omega, by omega, rfl, nib_u32 _ h1, by omega, by omega, rfl, nib_u32 _ h2, (byteStep_eq S c).symm⟩
 rw [show ((c.toNat : Int) % 4294967296) = (c.toNat : Int) by omega, u32_xor_nat _ _ hS (by omega)]
theorem sum_succ {xs : List UInt8} {k : Nat} (h : k < xs.length) : sumOn 4294967295 (xs.take (k + 1)) = byteStep (sumOn 4294967295 (xs.take k)) (xs[k]?.getD 0) := by
 rw [List.take_succ_eq_append_getElem h, sumOn_append, List.getElem?_eq_getElem h]
 rfl
def OnRel (w1 : World) (xs : List UInt8) (n : Nat) (r i : Value) (wr : World) : Prop :=
 ∃ k : Nat, k ≤ n ∧ i = .int .i64 k ∧ r = .int .u32 (sumOn 4294967295 (xs.take k) : Nat) ∧ wr = w1
/-- What a sum does. -/
def SumPost (w : World) (s : Nat) (e : Ending) (w' : World) : Prop := e = .returned (.int .u32 s) ∧ Kept [] w w'
set_option maxHeartbeats 1000000 in
set_option maxRecDepth 100000 in
theorem on_any (w : World) (A : Option Addr) (n c : Nat) (xs : List UInt8) (hx : SlAt w A n c (u8vs xs)) : Calls Tryz.prog 102 #[.int .u32 0, .slice A n c] w (SumPost w (crc xs)) := by
 have hxl : xs.length = n := by simpa [u8vs] using hx.len
 have hnc := hx.le; have hcm := hx.max
 unfold maxLen at hcm
 have HX := Lib.hid hxl; clear hxl
 go_enter Tryz.func102, Tryz.ntmps102
 go_wp2_with fail
 refine (made_any _).mono ?_
 rintro e w1 ⟨rfl, hk1⟩
 have hts := tab_size 16
 have hto := tab_one 16
 have hti := tab_info 16
 have hta := fun (j : Nat) (hj : j < 16) => tab_at hj
 generalize tabUpto 16 = T at *
 have hh0 := heap_alloc_new w1 (.cells #[.int .u32 0, .int .u32 0, .int .u32 0, .int .u32 0, .int .u32 0, .int .u32 0, .int .u32 0, .int .u32 0, .int .u32 0, .int .u32 0, .int .u32 0, .int .u32 0, .int .u32 0, .int .u32 0, .int .u32 0, .int .u32 0] 154)
 have htr := row_there hh0
 simp only [List.size_toArray, List.length_cons, List.length_nil, Nat.zero_add, Nat.reduceAdd] at htr
 rw [show (16 : Nat) = T.size from hts.symm] at htr
 go_wp2_with (refine wpList_store_mid rfl 154 _ _ rfl w1.heap.size 0 (T) rfl rfl htr hti hto ?_)
 have hh1 : ((w1.alloc (.cells #[.int .u32 0, .int .u32 0, .int .u32 0, .int .u32 0, .int .u32 0, .int .u32 0, .int .u32 0, .int .u32 0, .int .u32 0, .int .u32 0, .int .u32 0, .int .u32 0, .int .u32 0, .int .u32 0, .int .u32 0, .int .u32 0] 154)).setCells w1.heap.size 0 (T).toList).heap[w1.heap.size]? = some (.cells (T) 154 (0, 0)) := by
  rw [setCells_heap w1.heap.size 154 _ 0 _ _ hh0 (by simp [hts]), spliced_all _ _ (by simp [hts])]
 have hk2 : Kept [] w ((w1.alloc (.cells #[.int .u32 0, .int .u32 0, .int .u32 0, .int .u32 0, .int .u32 0, .int .u32 0, .int .u32 0, .int .u32 0, .int .u32 0, .int .u32 0, .int .u32 0, .int .u32 0, .int .u32 0, .int .u32 0, .int .u32 0, .int .u32 0] 154)).setCells w1.heap.size 0 (T).toList) := (hk1.trans (Kept.alloc [] _ _)).trans' (setCells_kept w1.heap.size _ _ _) (by have := hk1.size; simpa using this)
 have hx2 := hx.kept hk2 (by simp)
 have e0 : bits .xor .u32 IntKind.u32.max 0 = ((4294967295 : Nat) : Int) := by decide
 rw [e0]
 generalize (w1.alloc (.cells #[.int .u32 0, .int .u32 0, .int .u32 0, .int .u32 0, .int .u32 0, .int .u32 0, .int .u32 0, .int .u32 0, .int .u32 0, .int .u32 0, .int .u32 0, .int .u32 0, .int .u32 0, .int .u32 0, .int .u32 0, .int .u32 0] 154)).setCells w1.heap.size 0 (T).toList = W at *
 generalize w1.heap.size = b at *
 clear htr hh0 hk1 e0
 go_loopw [6, 14] (fun r i wr => OnRel W xs n r i wr) (fun _ i _ => n - (intOf i).toNat)
 case atStart => exact ⟨0, by omega, rfl, rfl, rfl⟩
 case round =>
  obtain ⟨k, hk, rfl, rfl, rfl⟩ := hrel
  by_cases hlt : k < n
  ·have i1 : (k : Int) < (n : Int) := by omega
   obtain ⟨bb, o, hA, hbl, hc⟩ := hx2.at_ hlt
   subst hA
   obtain ⟨r1, j1, t1, r2, j2, t2, r3, q1, q2, q3, q4, q5, q6, q7, q8, q9, q10⟩ := byte_facts (sumOn 4294967295 (xs.take k)) (sumOn_lt _ (by omega)) (xs[k]?.getD 0)
   have g1 : wr.cell? ⟨b, j1, none⟩ = some (.int .u32 t1) := by rw [blk_cell hh1, hta j1 q3, q4]
   have g2 : wr.cell? ⟨b, j2, none⟩ = some (.int .u32 t2) := by rw [blk_cell hh1, hta j2 q7, q8]
   have i2 : (j1 : Int) < 16 := by omega
   have i3 : (j2 : Int) < 16 := by omega
   have Q10 := Lib.hid q10
   clear q3 q4 q7 q8 q10
   generalize hSS : sumOn 4294967295 (xs.take k) = S at *
   generalize hcc : xs[k]?.getD 0 = ch at *
   have HSS := Lib.hid hSS; have HCC := Lib.hid hcc; clear hSS hcc
   go_wp2_with fail
   go_roundw
   case rel => exact ⟨k + 1, by omega, by go_num, by rw [Q10.out, sum_succ (by rw [HX.out]; exact hlt), HSS.out, HCC.out], rfl⟩
   case measure => simp [intOf]; omega
  ·have i1 : ¬ (k : Int) < (n : Int) := by omega
   obtain rfl : k = n := by omega
   have hfin : bits .xor .u32 IntKind.u32.max (sumOn 4294967295 (xs.take k) : Nat) = (crc xs : Nat) := by
    rw [List.take_of_length_le (by rw [HX.out]; exact Nat.le_refl _), show (IntKind.u32.max : Int) = ((4294967295 : Nat) : Int) from rfl, u32_xor_nat _ _ (by omega) (sumOn_lt _ (by omega)), Nat.xor_comm]
    rfl
   go_wp2_with fail
   go_ret
   exact ⟨rfl, hk2⟩
theorem of_any (w : World) (A : Option Addr) (n c : Nat) (xs : List UInt8) (hx : SlAt w A n c (u8vs xs)) : Calls Tryz.prog 76 #[.slice A n c] w (SumPost w (crc xs)) := by
 have cn := on_any w A n c xs hx
 clear hx
 go_enter Tryz.func76, Tryz.ntmps76
 go_wp2_with fail
 refine cn.mono ?_
 rintro e w1 ⟨rfl, hk1⟩
 go_wp2_with fail
 go_ret
 exact ⟨rfl, hk1⟩
end Go.Proofs.YtbnflbkaogpnbaaGreat
namespace Go.Proofs.YtbnflbkaogpnbaaGreat
open Go.RowKit
def rowUpto (s k : Nat) : Array Value := ((List.range 4).map fun j => u8v (if j < k then UInt8.ofNat (s / 2 ^ (8 * j)) else 0)).toArray
theorem row_start (s : Nat) : madeCells #[.int .u8 0] 4 = rowUpto s 0 := by
 apply Array.ext'
 rw [toList_madeCells_one]
 simp [rowUpto, u8v, List.range_succ]
theorem row_set {w : World} {b s k : Nat} (hh : w.heap[b]? = some (.cells (rowUpto s k) 5 (0, 0))) (hk : k < 4) :
  (w.setCell ⟨b, k, none⟩ (.int .u8 ((s : Int) / 2 ^ (8 * k) % 256))).heap[b]? = some (.cells (rowUpto s (k + 1)) 5 (0, 0)) := by
 rw [heap_set hh]
 have e : (Value.int .u8 ((s : Int) / 2 ^ (8 * k) % 256)) = u8v (UInt8.ofNat (s / 2 ^ (8 * k))) := by
  unfold u8v
  rw [UInt8.toNat_ofNat']
  congr 1
 rw [e]
 congr 2
 apply Array.ext_getElem?
 intro j
 rw [Array.getElem?_setIfInBounds]
 by_cases hj : j < 4
 ·simp only [rowUpto, List.getElem?_toArray, List.getElem?_map, List.getElem?_range hj, List.size_toArray, List.length_map, List.length_range, Option.map_some, hk, if_true]
  by_cases e : k = j
  ·subst e
   simp
  ·rw [if_neg e]
   have : (j < k) = (j < k + 1) := by apply propext; omega
   simp only [this]
 ·simp only [rowUpto, List.getElem?_toArray, List.getElem?_map, List.getElem?_eq_none (show (List.range 4).length ≤ j by simp; omega), Option.map_none]
  rw [if_neg (by omega)]
def RowRel (w : World) (s : Nat) (i : Value) (wr : World) : Prop :=
 ∃ k : Nat, k ≤ 4 ∧ i = .int .i64 k ∧ wr.heap[w.heap.size]? = some (.cells (rowUpto s k) 5 (0, 0)) ∧ Kept [] w wr
set_option maxHeartbeats 1000000 in
set_option maxRecDepth 100000 in
theorem row_any (w : World) (s : Nat) : Calls Tryz.prog 75 #[.int .u32 s] w (ClonePost w 5 4 (u8vs (rowOf s))) := by
 obtain ⟨j0, hj0, ju0, ju1, ju2⟩ := info_parts info_u8
 have hmk := fun wx : World => run_make (P := Tryz.prog) wx 45 5 j0 _ Tryz.underlying45 hj0 ju0 .i64 .i64 4 4 (by omega) (Int.le_refl _) (by rw [ju2]; omega) (by omega)
 simp only [ju1] at hmk
 go_enter Tryz.func75, Tryz.ntmps75
 go_wp2_with fail
 go_loopw [8] (fun i wr => RowRel w s i wr) (fun i _ => 4 - (intOf i).toNat)
 case atStart => exact ⟨0, by omega, rfl, by rw [heap_alloc_new, row_start], Kept.alloc [] _ _⟩
 case round =>
  obtain ⟨k, hk, rfl, hh, hkp⟩ := hrel
  by_cases hlt : k < 4
  ·have i1 : (k : Int) < 4 := by omega
   have hc : wr.cell? ⟨w.heap.size, k, none⟩ = some (u8v 0) := by
    rw [blk_cell hh, rowUpto, List.getElem?_toArray, List.getElem?_map, List.getElem?_range hlt]; simp
   have hf : wr.frozen? ⟨w.heap.size, k, none⟩ = false := blk_frozen hh k
   go_wp2_with fail
   go_roundw
   case rel => exact ⟨k + 1, by omega, by go_num, row_set hh hlt, hkp.trans' (Kept.setCell (F := [w.heap.size]) (by simp) _) (by simp)⟩
   case measure => simp [intOf]; omega
  ·have i1 : ¬ (k : Int) < 4 := by omega
   obtain rfl : k = 4 := by omega
   go_wp2_with fail
   go_ret
   refine ClonePost.mk ⟨by simp [u8vs, rowOf], .inr ⟨w.heap.size, 4, _, rfl, Nat.le_refl _, hh, Nat.le_refl _, by unfold maxLen; omega, by simp [rowUpto], ?_⟩⟩ (hkp.below (Nat.le_refl _) (by simp))
   simp [rowUpto, u8vs, rowOf, u8v, List.range_succ]
/-- A row of bytes to which are appended m more. -/
theorem byte_news {w : World} {b o n c : Nat} {xs : List UInt8} (h : SlAt w (some ⟨b, o, none⟩) n c (u8vs xs)) : ∀ j u, (u8vs xs)[j]? = some u → w.cell? ((⟨b, o, none⟩ : Addr).add j) = some u := fun j u hj => by
 have hl := (List.getElem?_eq_some_iff.1 hj).1
 rw [h.len] at hl
 obtain ⟨b2, o2, e, _, hc⟩ := h.cells (by omega)
 cases e
 rw [add_block, hc j hl, hj]
theorem one_u8s (xs : List UInt8) : ∀ u ∈ u8vs xs, u.oneCell' = true := fun u hu => by
 obtain ⟨c, _, rfl⟩ := List.mem_map.1 hu
 rfl
theorem row_kept {w w' : World} {base : Nat} {t : TypeId} {sz : Nat} {v : Value} {n : Nat} {xs : List Value} {F : List Nat} (h : w.ownsRow base t sz v n xs) (hk : Kept F w w') (hF : ∀ j, v.ownBlock = some j → j ∉ F) : w'.ownsRow base t sz v n xs := by
 obtain ⟨h1, h2⟩ := h
 refine ⟨h1, ?_⟩
 rcases h2 with h2 | ⟨g, cap, cur, rfl, hb, hg, h3⟩
 ·exact .inl h2
 ·exact .inr ⟨g, cap, cur, rfl, hb, (hk.block g (World.lt_of_heap hg) (hF g rfl)).trans hg, h3⟩
/-- append of bytes, to a row that is one's own. -/
theorem wpList_append_u8 {ops : Array Oper} {rest : List Oper} {o : Oper} {a : Act} {w : World} {Q : Exit → Act → World → Prop} (hgd : o.guard = none) (s x : Operand)
  (ho : o.op = .call { callee := .builtin .append, args := #[s, x], argTypes := #[45, 45] }) (base : Nat) (v : Value) (n : Nat) (xs : List UInt8) (hs : a.eval s = v) (hown : w.ownsRow base 5 1 v n (u8vs xs))
  (A : Option Addr) (m c : Nat) (ys : List UInt8) (hx : a.eval x = .slice A m c) (hy : SlAt w A m c (u8vs ys)) (hA : A = none → c = 0) (h63 : n + m ≤ 140737488355328) (hbase : base ≤ w.heap.size)
  (h : ∀ A' c' w', w'.ownsRow base 5 1 (.slice A' (n + m) c') (n + m) (u8vs (xs ++ ys)) → w.grownBy w' v.ownBlock → (A' = none → c' = 0) → wpList Tryz.prog ops Q rest (a.put o.dst (.slice A' (n + m) c')) w') :
  wpList Tryz.prog ops Q (o :: rest) a w := by
 obtain ⟨j0, hj0, ju0, ju1, ju2⟩ := info_parts info_u8
 have happ : u8vs (xs ++ ys) = u8vs xs ++ u8vs ys := by simp [u8vs]
 have key : ∀ v' w', w'.ownsRow base 5 1 v' (n + m) (u8vs (xs ++ ys)) → w.grownBy w' v.ownBlock → wpList Tryz.prog ops Q rest (a.put o.dst v') w' := fun v' w' h1 h2 => by
  obtain ⟨A', c', rfl, hs', hb'⟩ := SlAt.of_own h1
  refine h A' c' w' h1 h2 (fun e => ?_)
  subst e
  rcases h1.2 with ⟨e, _⟩ | ⟨g, cap, cur, e, _⟩
  ·injection e
  ·cases e
 cases A with
 | none =>
  have hc := hA rfl
  subst hc
  have hm : m = 0 := by have := hy.le; omega
  subst hm
  have hye : ys = [] := by have := hy.len; simpa [u8vs] using this
  subst hye
  refine wpList_append_own_none hgd s x 45 ho base 5 j0 1 Tryz.underlying45 hj0 v n (u8vs xs) hs hown hx ?_
  exact key v w (by simpa using hown) ⟨rfl, rfl, rfl, Nat.le_refl _, fun _ _ _ => rfl⟩
 | some ad =>
  refine wpList_append_own _ hgd s x 45 ho base 5 j0 _ 1 1 Tryz.underlying45 hj0 ju0 ju1 ju2 rfl (by decide) v n (u8vs xs) hs hown ad m c (u8vs ys) hx (by have := hy.len; simpa using this) hy.news (one_u8s ys) (by unfold maxLen; omega) (by omega) hbase ?_
  intro v' w' h1 h2 _
  exact key v' w' (by rw [happ]; exact h1) h2
set_option maxHeartbeats 1000000 in
set_option maxRecDepth 100000 in
theorem record_any (w : World) (A : Option Addr) (n c : Nat) (b : List UInt8) (hs : SlAt w A n c (u8vs b)) (hA : A = none → c = 0) (hn : n ≤ 16384) : Calls Tryz.prog 39 #[.slice A n c] w (ClonePost w 5 (n + 7) (u8vs (recB b))) := by
 have hbl : b.length = n := by simpa [u8vs] using hs.len
 have hnc := hs.le; have hcm := hs.max
 unfold maxLen at hcm
 have HB := Lib.hid hbl; clear hbl
 go_enter Tryz.func39, Tryz.ntmps39
 have hh0 := heap_alloc_new w (.cells #[.int .u8 ((n : Int) / 65536), .int .u8 ((n : Int) / 256), .int .u8 ((n : Int) % 256)] 5)
 have hk0 := Kept.alloc [] w (.cells #[.int .u8 ((n : Int) / 65536), .int .u8 ((n : Int) / 256), .int .u8 ((n : Int) % 256)] 5)
 have hs0 := hs.kept hk0 (by simp)
 have hown0 : (w.alloc (.cells #[.int .u8 ((n : Int) / 65536), .int .u8 ((n : Int) / 256), .int .u8 ((n : Int) % 256)] 5)).ownsRow w.heap.size 5 1 (.slice (some ⟨w.heap.size, 0, none⟩) 3 3) 3 (u8vs (headOf n)) := by
  refine ⟨rfl, .inr ⟨w.heap.size, 3, _, rfl, Nat.le_refl _, hh0, Nat.le_refl _, by unfold maxLen; omega, rfl, ?_⟩⟩
  have e1 : (n : Int) / 65536 = ((n / 65536 % 256 : Nat) : Int) := by omega
  have e2 : (n : Int) / 256 = ((n / 256 % 256 : Nat) : Int) := by omega
  have e3 : (n : Int) % 256 = ((n % 256 : Nat) : Int) := by omega
  rw [e1, e2, e3]
  rfl
 go_wp2_with (refine wpList_append_u8 rfl (.tmp 15) (.tmp 16) rfl w.heap.size _ 3 (headOf n) rfl hown0 A n c b rfl hs0 hA (by omega) (by simp) ?_; intro A1 c1 w1 hown1 hgrow1 hA1)
 obtain ⟨A1', c1', e1, hs1, hb1⟩ := SlAt.of_own hown1
 cases e1
 have hk1 : Kept [] w w1 := hk0.trans' (Kept.grown (F := [w.heap.size]) hgrow1 (fun j e => by cases e; simp)) (by simp)
 refine (of_any w1 A1 (3 + n) c1 _ hs1).mono ?_
 rintro e w2 ⟨rfl, hk2⟩
 go_wp2_with fail
 refine (row_any w2 _).mono ?_
 rintro e w3 ⟨A3, c3, rfl, hown3, hbel3⟩
 have hk3 := Kept.of_below (F := []) hbel3
 obtain ⟨hs3, hA3⟩ := ClonePost.sl hown3
 have hA30 : A3 = none → c3 = 0 := fun e => by
  subst e
  rcases hown3.2 with ⟨e, _⟩ | ⟨g, cap, cur, e, _⟩
  ·injection e
  ·cases e
 have hown1' := row_kept hown1 (hk2.trans hk3) (by simp)
 have hsz1 := hk1.size; have hsz2 := hk2.size; have hsz3 := hk3.size
 have hb3 : w.heap.size ≤ w3.heap.size := by omega
 clear hown0 hh0 hs hs0 hk0 hown1 hbel3
 go_wp2_with (refine wpList_append_u8 rfl (.tmp 18) (.tmp 21) rfl w.heap.size _ (3 + n) (headOf n ++ b) rfl hown1' A3 4 c3 _ rfl hs3 hA30 (by omega) hb3 ?_; intro A4 c4 w4 hown4 hgrow4 hA4)
 go_ret
 have e5 : headOf n ++ b ++ rowOf (crc (headOf n ++ b)) = recB b := by unfold recB sumd; rw [HB.out]
 rw [e5, show 3 + n + 4 = n + 7 by omega] at hown4
 show ClonePost w 5 (n + 7) (u8vs (recB b)) (.returned (.slice A4 (3 + n + 4) c4)) w4
 rw [show 3 + n + 4 = n + 7 by omega]
 refine ClonePost.mk hown4 ?_
 replace hgrow4 : w3.grownBy w4 (Value.slice A1 (3 + n) c1).ownBlock := hgrow4
 have hk4 : Kept [] w w4 := ((hk1.trans hk2).trans hk3).trans' (Kept.grown (F := (Value.slice A1 (3 + n) c1).ownBlock.toList) hgrow4 (fun j e => by rw [e]; simp)) (fun i hi => .inr (by
  simp only [Option.mem_toList] at hi
  cases A1 with
  | none => cases hi
  | some p =>
   have := (hb1 p rfl)
   rw [this.1] at hi
   cases hi
   exact this.2))
 exact hk4.below (Nat.le_refl _) (by simp)
end Go.Proofs.YtbnflbkaogpnbaaGreat
namespace Go.Proofs.YtbnflbkaogpnbaaGreat
open Go.RowKit
def nums (xs : List UInt8) : List Int := xs.map fun b => (b.toNat : Int)
theorem SlAt.nums {w : World} {b o n c : Nat} {xs : List UInt8} (h : SlAt w (some ⟨b, o, none⟩) n c (u8vs xs)) : (nums xs).length = n ∧ ∀ i, i < n → w.cell? ⟨b, o + i, none⟩ = some (.int .u8 ((nums xs).getD i 0)) := by
 have hl : xs.length = n := by simpa [u8vs] using h.len
 refine ⟨by simp [Go.Proofs.YtbnflbkaogpnbaaGreat.nums, hl], fun i hi => ?_⟩
 obtain ⟨b2, o2, e, _, hc⟩ := h.cells (by omega)
 cases e
 rw [hc i hi]
 simp [u8vs, Go.Proofs.YtbnflbkaogpnbaaGreat.nums, List.getD, List.getElem?_eq_getElem (show i < xs.length by omega), u8v]
theorem nums_toList (xs : List UInt8) : (strOfNums (nums xs)).toList = xs := by
 rw [Lib.strOfNums_toList, Lib.bytesOf, nums, List.map_map]
 conv => rhs; rw [← List.map_id xs]
 exact List.map_congr_left fun b _ => by simp [UInt8.ofNat_toNat]
set_option maxHeartbeats 400000 in
theorem bytesEqual_any (w : World) (A B : Option Addr) (n c m d : Nat) (xs ys : List UInt8) (hx : SlAt w A n c (u8vs xs)) (hy : SlAt w B m d (u8vs ys)) (hn : 0 < n) (hm : 0 < m) :
  Calls Tryz.prog 89 #[.slice A n c, .slice B m d] w fun e w' => e = .returned (.bool (decide (xs = ys))) ∧ w = w' := by
 obtain ⟨b, o, rfl, _, _⟩ := hx.cells hn
 obtain ⟨b', o', rfl, _, _⟩ := hy.cells hm
 obtain ⟨x1, x2⟩ := hx.nums
 obtain ⟨y1, y2⟩ := hy.nums
 have k1 := run_convert_bytes_arg w 45 5 Tryz.underlying45 Tryz.underlying5 b o n c (nums xs) x1 x2 9 Tryz.underlying9
 have k2 := run_convert_bytes_arg w 45 5 Tryz.underlying45 Tryz.underlying5 b' o' m d (nums ys) y1 y2 9 Tryz.underlying9
 clear hx hy x1 x2 y1 y2
 go_enter Tryz.func89, Tryz.ntmps89
 go_wp2_with fail
 go_ret
 exact ⟨ret_bool (by rw [nums_toList, nums_toList]; by_cases e : xs = ys <;> simp [e]), rfl⟩
end Go.Proofs.YtbnflbkaogpnbaaGreat
