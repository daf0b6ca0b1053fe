/- Texts in one: O3 O4. -/
import Derived.Test.YtbnflbkaogpnbaaGreatPAN
import Derived.Test.YtbnflbkaogpnbaaGreatPAC
import Derived.Test.YtbnflbkaogpnbaaGreatPAG
import Derived.Test.YtbnflbkaogpnbaaGreatPAH
namespace Go.Proofs.YtbnflbkaogpnbaaGreat
set_option linter.unusedVariables false
open Go.RowKit
theorem results_slot {P : Program} {fn : Func} {p q : Tmp} {ty : TypeId} (h : fn.results = #[.cell p ty, .tmp q]) (tmps : Array Value) (w : World) (b : Nat) (v1 v2 v3 : Value)
  (e1 : tmps.getD p undef = .pointer (some ⟨b, 0, none⟩)) (e2 : tmps.getD q undef = v3) (c1 : w.cell? ⟨b, 0, none⟩ = some v1) (c2 : w.cell? ⟨b, 1, none⟩ = some v2)
  (g1 : ∀ w, (isAgg ty).run P w = .ok true w) (g2 : ∀ w, (sizeOf ty).run P w = .ok 2 w) : (results fn tmps).run P w = .ok (.tuple #[.agg #[v1, v2], v3]) w := by
 have e1' : tmps[p]?.getD undef = .pointer (some ⟨b, 0, none⟩) := by simpa using e1
 have e2' : tmps[q]?.getD undef = v3 := by simpa using e2
 have c1' : w.cell? ((⟨b, 0, none⟩ : Addr).add 0) = some v1 := by rw [add_block]; exact c1
 have c2' : w.cell? ((⟨b, 0, none⟩ : Addr).add 1) = some v2 := by rw [add_block]; exact c2
 simp [results, h, e1', e2', asAddr, loadVar, Sem.run_bind, g1, g2, Result.andThen, c1', c2', loadCells, loadCellsFrom]
theorem agg_slot (w : World) : (isAgg 93).run Tryz.prog w = .ok true w := by simp [isAgg, Sem.run_bind, run_underlying Tryz.underlying93, Result.andThen]
theorem size_slot (w : World) : (sizeOf 93).run Tryz.prog w = .ok 2 w := by
 have h : (Tryz.prog.info? 93).map (·.size) = some 2 := by kernel_rfl
 cases hq : Tryz.prog.info? 93 with
 | none => simp [hq] at h
 | some i =>
  have hi : i.size = 2 := by simpa [hq] using h
  simp [sizeOf, typeInfo, hq, hi]
set_option maxHeartbeats 1000000 in
set_option maxRecDepth 100000 in
theorem slotRead_bad {w : World} {a : Nat} {fp : List Nat} {d : Dev} (hD : Dv w a fp d) (i : Int) (h : d.at_ i ≠ 0) :
  Calls Tryz.prog 51 #[.pointer (some ⟨a, 0, none⟩), .int .i64 i] w fun e w' => e = .returned (.tuple #[.agg #[.int .i64 0, .slice none 0 0], .int .i64 (d.at_ i)]) ∧ Kept [] w w' := by
 have hb : (d.at_ i != 0) = true := by simpa using h
 go_enter Tryz.func51, Tryz.ntmps51
 go_wp2_with fail
 refine (read_bad (hD.new_kept (Kept.alloc [] w _)) i h).mono ?_
 rintro e w1 ⟨rfl, rfl⟩
 go_wp2_with fail
 refine bodyPost_ret (v := .tuple #[.agg #[.int .i64 0, .slice none 0 0], .int .i64 (d.at_ i)]) ?_ rfl ⟨rfl, ?_⟩
 ·exact results_slot rfl _ _ w.heap.size _ _ _ rfl rfl (by rw [blk_cell (heap_alloc_new _ _)]; rfl) (by rw [blk_cell (heap_alloc_new _ _)]; rfl) agg_slot size_slot
 ·exact Kept.alloc [] w _
theorem own_block {w : World} {base : Nat} {t : TypeId} {n c : Nat} {A : Option Addr} {xs : List Value} (h : w.ownsRow base t 1 (.slice A n c) n xs) : ∀ p, A = some p → base ≤ p.block ∧ p.block < w.heap.size := fun p e => by
 obtain ⟨A2, c2, e2, _, h3⟩ := SlAt.of_own h
 cases e2
 obtain ⟨h4, h5⟩ := h3 p e
 exact ⟨h5, (h.lt p.block h4).2⟩
/-- What slots.read does, where there is a sector. -/
def RdPost (w : World) (x : Blk) (e : Ending) (w' : World) : Prop :=
 Kept [] w w' ∧ match readSlot x with
  | none => e = .returned (.tuple #[.agg #[.int .i64 0, .slice none 0 0], .int .i64 110])
  | some (t, b) => ∃ A n c, e = .returned (.tuple #[.agg #[.int .i64 t, .slice A n c], .int .i64 0]) ∧ SlAt w' A n c (u8vs b) ∧ (A = none → c = 0) ∧ ∀ p, A = some p → w.heap.size ≤ p.block ∧ p.block < w'.heap.size
theorem count_all {x : List UInt8} {n : Nat} (h : x.length = n) : x.count 0 = n ↔ x = List.replicate n 0 := by
 rw [← h, List.count_eq_length, List.eq_replicate_iff]
 constructor
 ·intro h2; exact ⟨rfl, fun b hb => (h2 b hb).symm⟩
 ·rintro ⟨_, h2⟩ b hb; exact (h2 b hb).symm
theorem num8_snoc {x : List UInt8} {k : Nat} (h : k < x.length) : num8 (x.take (k + 1)) = num8 (x.take k) * 256 + (x[k]?.getD 0).toNat := by
 rw [List.take_succ_eq_append_getElem h, num8, List.foldl_append, List.getElem?_eq_getElem h]
 rfl
theorem num8_lt : ∀ (k : Nat) (x : List UInt8), num8 (x.take k) < 256 ^ k := by
 intro k
 induction k with
 | zero => intro x; simp [num8]
 | succ k ih =>
  intro x
  by_cases h : k < x.length
  ·rw [num8_snoc h]
   have h1 := ih x
   have h2 := (x[k]?.getD 0).toNat_lt
   rw [Nat.pow_succ]
   omega
  ·have h1 := ih x
   rw [List.take_of_length_le (by omega)] at h1 ⊢
   exact Nat.lt_of_lt_of_le h1 (Nat.pow_le_pow_right (by omega) (by omega))
theorem or_byte (m : Nat) (hm : m < 72057594037927936) (c : UInt8) : bits .or .u64 (IntKind.u64.wrap ((m : Int) * 256)) (IntKind.u64.wrap (c.toNat : Int)) = ((m * 256 + c.toNat : Nat) : Int) := by
 have hc := c.toNat_lt
 have e1 : IntKind.u64.wrap ((m : Int) * 256) = ((m * 256 : Nat) : Int) := by rw [IntKind.wrap_u64]; omega
 have e2 : IntKind.u64.wrap (c.toNat : Int) = ((c.toNat : Nat) : Int) := by rw [IntKind.wrap_u64]; omega
 rw [e1, e2, u64_or_nat _ _ (by omega) (by omega), nat_join 8 _ _ (by omega) (by omega)]
theorem readSlot_none {x : Blk} (hz : x ≠ zeros) (h : num8 (x.take 8) = 0 ∨ 9007199254740991 < num8 (x.take 8) ∨ 100 < (x[8]?.getD 0).toNat) : readSlot x = none := by
 unfold readSlot; rw [if_neg hz, if_pos h]
theorem readSlot_some {x : Blk} (hz : x ≠ zeros) (h : ¬ (num8 (x.take 8) = 0 ∨ 9007199254740991 < num8 (x.take 8) ∨ 100 < (x[8]?.getD 0).toNat)) :
  readSlot x = if slotB (num8 (x.take 8)) ((x.drop 9).take (x[8]?.getD 0).toNat) = x then some (num8 (x.take 8), (x.drop 9).take (x[8]?.getD 0).toNat) else none := by
 unfold readSlot; rw [if_neg hz, if_neg h]
def TurnRel (w : World) (x : Blk) (v i : Value) (wr : World) : Prop := ∃ k : Nat, k ≤ 8 ∧ i = .int .i64 k ∧ v = .int .u64 (num8 (x.take k) : Nat) ∧ wr = w
/-- A slot in a box of its own. -/
def SlotBox (w : World) (B : Nat) (v1 v2 : Value) : Prop := w.heap[B]? = some (.cells #[v1, v2] 93 (0, 0))
theorem SlotBox.cells {w : World} {B : Nat} {v1 v2 : Value} (h : SlotBox w B v1 v2) : w.cell? ⟨B, 0, none⟩ = some v1 ∧ w.cell? ⟨B, 1, none⟩ = some v2 ∧ w.frozen? ⟨B, 0, none⟩ = false ∧ w.frozen? ⟨B, 1, none⟩ = false :=
 ⟨by rw [blk_cell h]; rfl, by rw [blk_cell h]; rfl, blk_frozen h 0, blk_frozen h 1⟩
theorem SlotBox.kept {w w' : World} {B : Nat} {v1 v2 : Value} {F : List Nat} (h : SlotBox w B v1 v2) (hk : Kept F w w') (hB : B ∉ F) : SlotBox w' B v1 v2 := (hk.block B (World.lt_of_heap h) hB).trans h
theorem SlotBox.set {w : World} {B : Nat} {v1 v2 : Value} (h : SlotBox w B v1 v2) (u1 u2 : Value) : SlotBox ((w.setCell ⟨B, 0, none⟩ u1).setCell ⟨B, 1, none⟩ u2) B u1 u2 := by
 have h1 := heap_set h 0 u1
 have h2 := heap_set h1 1 u2
 exact h2
theorem slotBox_set_kept (w : World) (B : Nat) (u1 u2 : Value) : Kept [B] w ((w.setCell ⟨B, 0, none⟩ u1).setCell ⟨B, 1, none⟩ u2) :=
 (Kept.setCell (by simp) _).trans (Kept.setCell (by simp) _)
theorem SlotBox.new (w : World) (v1 v2 : Value) : SlotBox (w.alloc (.cells #[v1, v2] 93)) w.heap.size v1 v2 := heap_alloc_new _ _
set_option maxHeartbeats 2000000 in
set_option maxRecDepth 100000 in
theorem slotRead_ok {w : World} {a : Nat} {fp : List Nat} {d : Dev} (hD : Dv w a fp d) (i : Int) (h : d.at_ i = 0) {x : Blk} (hx : d.secs[i.toNat]? = some x) :
  Calls Tryz.prog 51 #[.pointer (some ⟨a, 0, none⟩), .int .i64 i] w (RdPost w x) := by
 have hxl : x.length = 128 := hD.wf.size x (List.mem_of_getElem? hx)
 have cr := fun W (h2 : Dv W a fp d) => read_dv h2 i h hx
 have hbx0 := SlotBox.new w (.int .i64 0) (.slice none 0 0)
 by_cases hz : x = zeros
 ·have hc : x.count 0 = 128 := (count_all hxl).2 hz
  have HZ := Lib.hid hz; have HXL := Lib.hid hxl
  clear hz hxl h hx
  go_enter Tryz.func51, Tryz.ntmps51
  go_wp2_with fail
  refine (cr _ (hD.new_kept (Kept.alloc [] w _))).mono ?_
  rintro e w1 ⟨A1, c1, rfl, hown1, hbel1⟩
  have hk1 := Kept.of_below (F := []) hbel1
  obtain ⟨hs1, hA1⟩ := ClonePost.sl hown1
  clear hown1 hbel1
  go_wp2_with fail
  have hk2 := hk1.trans (Kept.alloc [] w1 (.cells #[.int .u8 0] 5))
  have hbx2 := hbx0.kept hk2 (by simp)
  obtain ⟨x0, x1, f0, f1⟩ := hbx2.cells
  refine (bytesCount_any _ A1 128 c1 x (hs1.kept (Kept.alloc [] w1 _) (by simp)) (by omega) w1.heap.size (by rw [blk_cell (heap_alloc_new _ _)]; rfl)).mono ?_
  rintro e w2 ⟨rfl, rfl⟩
  go_wp2_with fail
  have hbx3 := hbx2.set (.int .i64 0) (.slice none 0 0)
  obtain ⟨y0, y1, _, _⟩ := hbx3.cells
  refine bodyPost_ret (v := .tuple #[.agg #[.int .i64 0, .slice none 0 0], .int .i64 0]) ?_ rfl ⟨?_, ?_⟩
  ·exact results_slot rfl _ _ w.heap.size _ _ _ rfl rfl y0 y1 agg_slot size_slot
  ·exact ((Kept.alloc [] w _).trans hk2).trans' (slotBox_set_kept _ _ _ _) (by simp)
  ·rw [HZ.out, readSlot_zeros]
   exact ⟨none, 0, 0, rfl, SlAt.nil _, fun _ => rfl, fun p e => by cases e⟩
 ·have hc : x.count 0 ≠ 128 := fun e => hz ((count_all hxl).1 e)
  obtain ⟨N, hN⟩ : ∃ N, x.count 0 = N := ⟨_, rfl⟩
  rw [hN] at hc
  have hcb : ((N : Int) == 128) = false := beq_eq_false_iff_ne.2 (by omega)
  have HN := Lib.hid hN; have HZ := Lib.hid hz; have HXL := Lib.hid hxl
  clear hN hz hxl h hx hc
  go_enter Tryz.func51, Tryz.ntmps51
  go_wp2_with fail
  refine (cr _ (hD.new_kept (Kept.alloc [] w _))).mono ?_
  rintro e w1 ⟨A1, c1, rfl, hown1, hbel1⟩
  have hk1 := Kept.of_below (F := []) hbel1
  obtain ⟨hs1, hA1⟩ := ClonePost.sl hown1
  clear hown1 hbel1
  go_wp2_with fail
  have hk2 := hk1.trans (Kept.alloc [] w1 (.cells #[.int .u8 0] 5))
  have hbx2 := hbx0.kept hk2 (by simp)
  obtain ⟨x0, x1, f0, f1⟩ := hbx2.cells
  have cb := bytesCount_any _ A1 128 c1 x (hs1.kept (Kept.alloc [] w1 (.cells #[.int .u8 0] 5)) (by simp)) (by omega) w1.heap.size (by rw [blk_cell (heap_alloc_new _ _)]; rfl)
  rw [HN.out] at cb
  refine cb.mono ?_
  rintro e w2 ⟨rfl, rfl⟩
  have hs2 := hs1.kept (Kept.alloc [] w1 (.cells #[.int .u8 0] 5)) (by simp)
  clear cb hbx0 hs1 hk1
  generalize w1.alloc (.cells #[.int .u8 0] 5) = w3 at *
  obtain ⟨b, o, rfl, hbl, hcs⟩ := hs2.cells (by omega)
  have hcx : ∀ k, k < 128 → w3.cell? ⟨b, o + k, none⟩ = some (.int .u8 (x[k]?.getD 0).toNat) := fun k hk => by
   rw [hcs k hk, u8vs, List.getElem?_map, List.getElem?_eq_getElem (by rw [HXL.out]; exact hk)]
   rfl
  have HCX := Lib.hid hcx
  have hc1 := hs2.le; have hc2 := hs2.max
  unfold maxLen at hc2
  clear hcs hcx
  go_wp2_with fail
  go_loopw [7, 32] (fun v i wr => TurnRel w3 x v i wr) (fun _ i _ => 8 - (intOf i).toNat)
  case atStart => exact ⟨0, by omega, rfl, rfl, rfl⟩
  case round =>
   obtain ⟨k, hk, rfl, rfl, rfl⟩ := hrel
   by_cases hlt : k < 8
   ·have i1 : (k : Int) < 8 := by omega
    have hck := HCX.out k (by omega)
    have hnl := num8_lt k x
    have hns := num8_snoc (x := x) (k := k) (by rw [HXL.out]; omega)
    obtain ⟨m, hm⟩ : ∃ m, num8 (x.take k) = m := ⟨_, rfl⟩
    obtain ⟨c, hc⟩ : ∃ c : UInt8, x[k]?.getD 0 = c := ⟨_, rfl⟩
    rw [hm, hc] at hns; rw [hm] at hnl; rw [hc] at hck; rw [hm]
    have HNS := Lib.hid hns
    clear hns hm hc
    have hor := or_byte m (Nat.lt_of_lt_of_le hnl (by rw [show (72057594037927936 : Nat) = 256 ^ 7 from rfl]; exact Nat.pow_le_pow_right (by omega) (by omega))) c
    have HOR := Lib.hid hor
    clear hor hnl
    go_wp2_with fail
    go_roundw
    case rel => exact ⟨k + 1, by omega, by go_num, by rw [HOR.out, HNS.out], rfl⟩
    case measure => simp [intOf]; omega
   ·have i1 : ¬ (k : Int) < 8 := by omega
    obtain rfl : k = 8 := by omega
    have hc8 := HCX.out 8 (by omega)
    obtain ⟨T, hT⟩ : ∃ T, num8 (x.take 8) = T := ⟨_, rfl⟩
    obtain ⟨c, hc⟩ : ∃ c : UInt8, x[8]?.getD 0 = c := ⟨_, rfl⟩
    have hcl := c.toNat_lt
    obtain ⟨n, hn⟩ : ∃ n, c.toNat = n := ⟨_, rfl⟩
    have hx8 : (x[8]?.getD 0).toNat = n := by rw [hc, hn]
    rw [hc, hn] at hc8; rw [hT]; rw [hn] at hcl
    have HT := Lib.hid hT; have HX8 := Lib.hid hx8
    clear hT hc hn hx8 HCX
    by_cases hT0 : T = 0
    ·have hr := readSlot_none HZ.out (.inl (by rw [HT.out]; exact hT0))
     subst hT0
     have HR := Lib.hid hr
     clear hr
     go_wp2_with fail
     obtain ⟨y0, y1, _, _⟩ := (hbx2.set (.int .i64 0) (.slice none 0 0)).cells
     refine bodyPost_ret (v := .tuple #[.agg #[.int .i64 0, .slice none 0 0], .int .i64 110]) (results_slot rfl _ _ w.heap.size _ _ _ rfl rfl y0 y1 agg_slot size_slot) rfl ⟨((Kept.alloc [] w _).trans hk2).trans' (slotBox_set_kept _ _ _ _) (by simp), ?_⟩
     rw [HR.out]
    ·have hTb : ((T : Int) == 0) = false := beq_eq_false_iff_ne.2 (by omega)
     by_cases hT1 : 9007199254740991 < T
     ·have hr := readSlot_none HZ.out (.inr (.inl (by rw [HT.out]; exact hT1)))
      have i3 : (9007199254740991 : Int) < (T : Int) := by omega
      have HR := Lib.hid hr
      clear hr hT1
      go_wp2_with fail
      obtain ⟨y0, y1, _, _⟩ := (hbx2.set (.int .i64 0) (.slice none 0 0)).cells
      refine bodyPost_ret (v := .tuple #[.agg #[.int .i64 0, .slice none 0 0], .int .i64 110]) (results_slot rfl _ _ w.heap.size _ _ _ rfl rfl y0 y1 agg_slot size_slot) rfl ⟨((Kept.alloc [] w _).trans hk2).trans' (slotBox_set_kept _ _ _ _) (by simp), ?_⟩
      rw [HR.out]
     ·have i3 : ¬ (9007199254740991 : Int) < (T : Int) := by omega
      by_cases hn1 : 100 < n
      ·have hr := readSlot_none HZ.out (.inr (.inr (by rw [HX8.out]; exact hn1)))
       have i4 : (100 : Int) < (n : Int) := by omega
       have HR := Lib.hid hr
       clear hr hT1 hn1
       go_wp2_with fail
       obtain ⟨y0, y1, _, _⟩ := (hbx2.set (.int .i64 0) (.slice none 0 0)).cells
       refine bodyPost_ret (v := .tuple #[.agg #[.int .i64 0, .slice none 0 0], .int .i64 110]) (results_slot rfl _ _ w.heap.size _ _ _ rfl rfl y0 y1 agg_slot size_slot) rfl ⟨((Kept.alloc [] w _).trans hk2).trans' (slotBox_set_kept _ _ _ _) (by simp), ?_⟩
       rw [HR.out]
      ·have i4 : ¬ (100 : Int) < (n : Int) := by omega
       have hno : ¬ (num8 (x.take 8) = 0 ∨ 9007199254740991 < num8 (x.take 8) ∨ 100 < (x[8]?.getD 0).toNat) := by rw [HT.out, HX8.out]; omega
       have HNO := Lib.hid hno
       have i5 : (0 : Int) ≤ 9 + (n : Int) := by omega
       clear hno
       go_wp2_with fail
       have hcut := hs2.cut (i := 9) (j := 9 + n) (by omega) (by omega)
       rw [show 9 + n - 9 = n by omega] at hcut
       refine (bytesClone_any wr _ n (c1 - 9) _ hcut (by omega)).mono ?_
       rintro e w4 ⟨A4, c4, rfl, hown4, hbel4⟩
       have hk4 := Kept.of_below (F := []) hbel4
       obtain ⟨hs4, hA4⟩ := ClonePost.sl hown4
       have hn4 : A4 = none → c4 = 0 := fun e => row_nil' hown4 e
       have hbx4 := hbx2.kept hk4 (by simp)
       obtain ⟨z0, z1, g0, g1⟩ := hbx4.cells
       have hlt4 := own_block hown4
       clear hown4 hbel4 x0 x1 f0 f1 hcut
       go_wp2_with fail
       obtain ⟨txt, htxt⟩ : ∃ txt, (x.drop 9).take n = txt := ⟨_, rfl⟩
       have he9 : (x.take (9 + n)).drop 9 = txt := by rw [List.drop_take, show 9 + n - 9 = n by omega, htxt]
       rw [he9] at hs4
       have hbx5 := hbx4.set (.int .i64 T) (.slice A4 n c4)
       have hkb5 := slotBox_set_kept w4 w.heap.size (.int .i64 T) (.slice A4 n c4)
       have hne4 : ∀ p, A4 = some p → p.block ∉ [w.heap.size] := fun p e hm => by
        have h1 := hA4 p e
        have h2 := (World.lt_of_heap hbx2)
        simp at hm
        omega
       have hs5 := hs4.kept hkb5 hne4
       have hx5 : SlAt ((w4.setCell ⟨w.heap.size, 0, none⟩ (.int .i64 T)).setCell ⟨w.heap.size, 1, none⟩ (.slice A4 n c4)) (some ⟨b, o, none⟩) 128 c1 (u8vs x) := (hs2.kept hk4 (by simp)).kept hkb5 (fun p e hm => by
        cases e
        have h1 := hA1 _ rfl
        simp at hm h1
        omega)
       have hk5 : Kept [] w ((w4.setCell ⟨w.heap.size, 0, none⟩ (.int .i64 T)).setCell ⟨w.heap.size, 1, none⟩ (.slice A4 n c4)) := (((Kept.alloc [] w _).trans hk2).trans hk4).trans' hkb5 (by simp)
       have HTX := Lib.hid htxt
       have hk54 := hkb5.size
       generalize (w4.setCell ⟨w.heap.size, 0, none⟩ (.int .i64 T)).setCell ⟨w.heap.size, 1, none⟩ (.slice A4 n c4) = w5 at *
       clear hkb5 hs4 he9 htxt hbx4 z0 z1 g0 g1 hk4 hs2 hbx2
       refine (written_any w5 T A4 n c4 txt hs5 (by omega) (by omega)).mono ?_
       rintro e w6 ⟨A6, c6, rfl, hown6, hbel6⟩
       have hk6 := Kept.of_below (F := []) hbel6
       obtain ⟨hs6, hA6⟩ := ClonePost.sl hown6
       have hx6 := hx5.kept hk6 (by simp)
       have hbx6 := hbx5.kept hk6 (by simp)
       have hs56 := hs5.kept hk6 (by simp)
       have ce := bytesEqual_any w6 A6 (some ⟨b, o, none⟩) 128 c6 128 c1 _ _ hs6 hx6 (by omega) (by omega)
       have hkw6 := hk5.trans hk6
       have hrs := readSlot_some HZ.out HNO.out
       rw [HT.out, HX8.out, HTX.out] at hrs
       obtain ⟨z0, z1, g0, g1⟩ := hbx6.cells
       clear hs6 hx6 hx5 hs5 hown6 hbel6 hbx5
       by_cases heq : slotB T txt = x
       ·rw [if_pos heq] at hrs
        rw [decide_eq_true heq] at ce
        have HR := Lib.hid hrs
        clear hrs heq
        go_wp2_with fail
        refine ce.mono ?_
        rintro e w7 ⟨rfl, rfl⟩
        go_wp2_with fail
        obtain ⟨y0, y1, _, _⟩ := (hbx6.set (.int .i64 T) (.slice A4 n c4)).cells
        have hkl := slotBox_set_kept w6 w.heap.size (.int .i64 T) (.slice A4 n c4)
        refine bodyPost_ret (v := .tuple #[.agg #[.int .i64 T, .slice A4 n c4], .int .i64 0]) (results_slot rfl _ _ w.heap.size _ _ _ rfl rfl y0 y1 agg_slot size_slot) rfl ⟨hkw6.trans' hkl (by simp), ?_⟩
        rw [HR.out]
        exact ⟨A4, n, c4, rfl, hs56.kept hkl hne4, hn4, fun p e => by have h1 := hA4 p e; have h2 := hk2.size; have h3 := (hlt4 p e).2; have h4 := hkl.size; have h5 := hk6.size; have h6 := hk54; simp at h2; omega⟩
       ·rw [if_neg heq] at hrs
        rw [decide_eq_false heq] at ce
        have HR := Lib.hid hrs
        clear hrs heq
        go_wp2_with fail
        refine ce.mono ?_
        rintro e w7 ⟨rfl, rfl⟩
        go_wp2_with fail
        obtain ⟨y0, y1, _, _⟩ := (hbx6.set (.int .i64 0) (.slice none 0 0)).cells
        refine bodyPost_ret (v := .tuple #[.agg #[.int .i64 0, .slice none 0 0], .int .i64 110]) (results_slot rfl _ _ w.heap.size _ _ _ rfl rfl y0 y1 agg_slot size_slot) rfl ⟨hkw6.trans' (slotBox_set_kept _ _ _ _) (by simp), ?_⟩
        rw [HR.out]
end Go.Proofs.YtbnflbkaogpnbaaGreat
namespace Go.Proofs.YtbnflbkaogpnbaaGreat
set_option linter.unusedVariables false
open Go.RowKit
/-- In w, at block z, are the slots s, on the device at a; their blocks are among sp. -/
structure TwAt (w : World) (z a : Nat) (sp : List Nat) (s : Sl) : Prop where
 head : ∃ A c, w.heap[z]? = some (.cells #[.pointer (some ⟨a, 0, none⟩), .int .i64 s.first, .int .i64 s.newer, .int .i64 s.turn, .slice A s.text.length c] 98 (0, 0)) ∧ SlAt w A s.text.length c (u8vs s.text) ∧ (A = none → c = 0) ∧ ∀ p, A = some p → p.block ∈ sp ∧ p.block ≠ z
 zin : z ∈ sp
 lt : ∀ j ∈ sp, j < w.heap.size
theorem TwAt.kept {w w' : World} {z a : Nat} {sp : List Nat} {s : Sl} {F : List Nat} (h : TwAt w z a sp s) (hk : Kept F w w') (hF : ∀ j ∈ sp, j ∉ F) : TwAt w' z a sp s := by
 obtain ⟨A, c, h1, h2, h3, h4⟩ := h.head
 exact ⟨⟨A, c, (hk.block z (h.lt z h.zin) (hF z h.zin)).trans h1, h2.kept hk (fun p e => hF _ (h4 p e).1), h3, h4⟩, h.zin, fun j hj => Nat.lt_of_lt_of_le (h.lt j hj) hk.size⟩
theorem TwAt.cells {w : World} {z a : Nat} {sp : List Nat} {s : Sl} (h : TwAt w z a sp s) :
  w.cell? ⟨z, 0, none⟩ = some (.pointer (some ⟨a, 0, none⟩)) ∧ w.cell? ⟨z, 1, none⟩ = some (.int .i64 s.first) ∧ w.cell? ⟨z, 2, none⟩ = some (.int .i64 s.newer) ∧ w.cell? ⟨z, 3, none⟩ = some (.int .i64 s.turn) ∧ ∀ i, w.frozen? ⟨z, i, none⟩ = false := by
 obtain ⟨A, c, h1, _⟩ := h.head
 exact ⟨blk_cell h1 0, blk_cell h1 1, blk_cell h1 2, blk_cell h1 3, fun i => blk_frozen h1 i⟩
/-- What Open does. -/
def Op11 (w : World) (a : Nat) (d : Dev) (first : Int) (e : Ending) (w' : World) : Prop :=
  Kept [] w w' ∧ ((d.at_ first ≠ 0 ∧ e = .returned (.tuple #[.pointer none, .slice none 0 0, .int .i64 (d.at_ first)])) ∨
    (d.at_ first = 0 ∧ d.at_ (first + 1) ≠ 0 ∧ e = .returned (.tuple #[.pointer none, .slice none 0 0, .int .i64 (d.at_ (first + 1))])) ∨
    (d.at_ first = 0 ∧ d.at_ (first + 1) = 0 ∧ ∃ x y, d.secs[first.toNat]? = some x ∧ d.secs[first.toNat + 1]? = some y ∧
      ((Sl.of first.toNat x y = none ∧ e = .returned (.tuple #[.pointer none, .slice none 0 0, .int .i64 110])) ∨
       ∃ s, Sl.of first.toNat x y = some s ∧ ∃ z sp A c, e = .returned (.tuple #[.pointer (some ⟨z, 0, none⟩), .slice A s.text.length c, .int .i64 0]) ∧ TwAt w' z a sp s ∧ SlAt w' A s.text.length c (u8vs s.text) ∧ (A = none → c = 0) ∧
        (∀ j ∈ sp, w.heap.size ≤ j) ∧ ∀ p, A = some p → w.heap.size ≤ p.block ∧ p.block ∉ sp)))
theorem at_vals (d : Dev) (i : Int) : d.at_ i = 100 ∨ d.at_ i = 9 ∨ d.at_ i = 0 := by
 unfold Dev.at_
 split
 ·exact .inl rfl
 ·split
  ·exact .inr (.inl rfl)
  ·exact .inr (.inr rfl)
/-- The two slots, in a box. -/
def TwoBox (w : World) (B : Nat) (v1 v2 v3 v4 : Value) : Prop := w.heap[B]? = some (.cells #[v1, v2, v3, v4] 94 (0, 0))
theorem TwoBox.cells {w : World} {B : Nat} {v1 v2 v3 v4 : Value} (h : TwoBox w B v1 v2 v3 v4) : w.cell? ⟨B, 0, none⟩ = some v1 ∧ w.cell? ⟨B, 1, none⟩ = some v2 ∧ w.cell? ⟨B, 2, none⟩ = some v3 ∧ w.cell? ⟨B, 3, none⟩ = some v4 ∧ w.frozen? ⟨B, 0, none⟩ = false ∧ w.frozen? ⟨B, 1, none⟩ = false ∧ w.frozen? ⟨B, 2, none⟩ = false ∧ w.frozen? ⟨B, 3, none⟩ = false :=
 ⟨by rw [blk_cell h]; rfl, by rw [blk_cell h]; rfl, by rw [blk_cell h]; rfl, by rw [blk_cell h]; rfl, blk_frozen h 0, blk_frozen h 1, blk_frozen h 2, blk_frozen h 3⟩
theorem TwoBox.kept {w w' : World} {B : Nat} {v1 v2 v3 v4 : Value} {F : List Nat} (h : TwoBox w B v1 v2 v3 v4) (hk : Kept F w w') (hB : B ∉ F) : TwoBox w' B v1 v2 v3 v4 := (hk.block B (World.lt_of_heap h) hB).trans h
theorem TwoBox.set01 {w : World} {B : Nat} {v1 v2 v3 v4 : Value} (h : TwoBox w B v1 v2 v3 v4) (u1 u2 : Value) : TwoBox ((w.setCell ⟨B, 0, none⟩ u1).setCell ⟨B, 1, none⟩ u2) B u1 u2 v3 v4 := heap_set (heap_set h 0 u1) 1 u2
theorem TwoBox.set23 {w : World} {B : Nat} {v1 v2 v3 v4 : Value} (h : TwoBox w B v1 v2 v3 v4) (u1 u2 : Value) : TwoBox ((w.setCell ⟨B, 2, none⟩ u1).setCell ⟨B, 3, none⟩ u2) B v1 v2 u1 u2 := heap_set (heap_set h 2 u1) 3 u2
theorem set2_kept (w : World) (B i j : Nat) (u1 u2 : Value) : Kept [B] w ((w.setCell ⟨B, i, none⟩ u1).setCell ⟨B, j, none⟩ u2) :=
 (Kept.setCell (by simp) _).trans (Kept.setCell (by simp) _)
theorem readSlot_len {x : Blk} {t : Nat} {b : List UInt8} (h : readSlot x = some (t, b)) : b.length ≤ 100 := by
 unfold readSlot at h
 split at h
 ·simp at h; obtain ⟨_, rfl⟩ := h; simp
 ·split at h
  ·cases h
  ·split at h
   ·simp only [Option.some.injEq, Prod.mk.injEq] at h
    rw [← h.2, List.length_take]
    omega
   ·cases h
theorem tw_new {w wB w7 : World} {a f nw tn : Nat} {b : List UInt8} {A : Option Addr} {c : Nat} (hk : Kept [] w wB) (hs : SlAt wB A b.length c (u8vs b)) (hn : A = none → c = 0) (hf : ∀ p, A = some p → w.heap.size < p.block ∧ p.block < wB.heap.size)
  (hk7 : Kept [] (wB.alloc (.cells #[.pointer (some ⟨a, 0, none⟩), .int .i64 f, .int .i64 nw, .int .i64 tn, .slice A b.length c] 98)) w7) :
  TwAt w7 wB.heap.size a (wB.heap.size :: (A.map (·.block)).toList) ⟨f, nw, tn, b⟩ ∧ ∀ j ∈ wB.heap.size :: (A.map (·.block)).toList, w.heap.size ≤ j ∧ j ≤ wB.heap.size := by
 have hz := hk.size
 have hz7 := hk7.size
 simp at hz7
 have hin : ∀ j ∈ wB.heap.size :: (A.map (·.block)).toList, w.heap.size ≤ j ∧ j ≤ wB.heap.size := fun j hj => by
  simp only [List.mem_cons, Option.mem_toList, Option.map_eq_some_iff] at hj
  rcases hj with rfl | ⟨p, e, rfl⟩
  ·omega
  ·have := hf p e; omega
 refine ⟨⟨⟨A, c, (hk7.block _ (by simp) (by simp)).trans (heap_alloc_new _ _), (hs.kept (Kept.alloc [] _ _) (by simp)).kept hk7 (by simp), hn, fun p e => ⟨by simp [e], by have := hf p e; omega⟩⟩, by simp, fun j hj => by have := hin j hj; omega⟩, hin⟩
set_option maxHeartbeats 2000000 in
set_option maxRecDepth 100000 in
theorem slotsOpen_any {w : World} {a : Nat} {fp : List Nat} {d : Dev} (hD : Dv w a fp d) (first : Int) (h1 : I64 first) :
    Calls Tryz.prog 29 #[.pointer (some ⟨a, 0, none⟩), .int .i64 first] w (Op11 w a d first) := by
  unfold I64 at h1
  by_cases hz : d.at_ first = 0
  · obtain ⟨hdead, hf0, hf1⟩ := Dev.at_zero hz
    have hm := hD.wf.many
    obtain ⟨f, rfl⟩ : ∃ f : Nat, first = f := ⟨first.toNat, by omega⟩
    obtain ⟨x, hx⟩ : ∃ x, d.secs[f]? = some x := ⟨_, List.getElem?_eq_getElem (by omega)⟩
    have cr0 := fun W (h2 : Dv W a fp d) => slotRead_ok h2 (f : Int) hz (x := x) (by simpa using hx)
    have e0 : IntKind.i64.wrap ((f : Int) + 0) = (f : Int) := by rw [IntKind.wrap_i64]; omega
    by_cases hz1 : d.at_ ((f : Int) + 1) = 0
    · obtain ⟨_, hg0, hg1⟩ := Dev.at_zero hz1
      have ef1 : ((f : Int) + 1).toNat = f + 1 := by omega
      obtain ⟨y, hy⟩ : ∃ y, d.secs[f + 1]? = some y := ⟨_, List.getElem?_eq_getElem (by omega)⟩
      have cr1 := fun W (h2 : Dv W a fp d) => slotRead_ok h2 ((f : Int) + 1) hz1 (x := y) (by rw [ef1]; exact hy)
      have fin : ∀ e w', Kept [] w w' → ((Sl.of f x y = none ∧ e = .returned (.tuple #[.pointer none, .slice none 0 0, .int .i64 110])) ∨
       ∃ s, Sl.of f x y = some s ∧ ∃ z sp A c, e = .returned (.tuple #[.pointer (some ⟨z, 0, none⟩), .slice A s.text.length c, .int .i64 0]) ∧ TwAt w' z a sp s ∧ SlAt w' A s.text.length c (u8vs s.text) ∧ (A = none → c = 0) ∧
        (∀ j ∈ sp, w.heap.size ≤ j) ∧ ∀ p, A = some p → w.heap.size ≤ p.block ∧ p.block ∉ sp) → Op11 w a d (f : Int) e w' := fun e w' hk h => ⟨hk, .inr (.inr ⟨hz, hz1, x, y, by simpa using hx, by simpa using hy, by simpa using h⟩)⟩
      have FIN := Lib.hid fin
      clear fin hz hz1 hx hy ef1
      go_enter Tryz.func29, Tryz.ntmps29
      go_wp2_with fail
      refine wp_loop_rounds 3 ?_
      rw [rounds_succ]
      go_wp2_with fail
      refine (cr0 _ (hD.new_kept (Kept.alloc [] w _))).mono ?_
      rintro e w1 ⟨hk1, hr⟩
      have hbx : TwoBox w1 w.heap.size (.int .i64 0) (.slice none 0 0) (.int .i64 0) (.slice none 0 0) := (hk1.block _ (by simp) (by simp)).trans (heap_alloc_new _ _)
      have hkw := (Kept.alloc [] w _).trans hk1
      cases hrx : readSlot x with
      | none =>
        simp only [hrx] at hr
        subst hr
        have hof : Sl.of f x y = none := by unfold Sl.of; rw [hrx]
        have HOF := Lib.hid hof
        clear hrx hk1 hof
        go_wp2_with fail
        rw [rounds_succ]
        go_wp2_with fail
        have hkw1 := hkw.trans (Kept.alloc [] w1 (.cells #[.int .i64 0, .slice none 0 0] 93))
        have hbx1 := hbx.kept (Kept.alloc [] w1 (.cells #[.int .i64 0, .slice none 0 0] 93)) (by simp)
        refine (cr1 _ (hD.new_kept hkw1)).mono ?_
        rintro e w2 ⟨hk2, hr2⟩
        have hkw2 := hkw1.trans hk2
        have hbx2 := hbx1.kept hk2 (by simp)
        cases hry : readSlot y with
        | none =>
          simp only [hry] at hr2
          subst hr2
          clear hry hk2 hbx hbx1 hkw hkw1
          go_wp2_with fail
          rw [rounds_succ]
          go_wp2_with fail
          go_ret3
          exact FIN.out _ _ (hkw2.trans (Kept.alloc [] _ _)) (.inl ⟨HOF.out, rfl⟩)
        | some tb =>
          obtain ⟨t, b⟩ := tb
          simp only [hry] at hr2
          obtain ⟨A, n, c, rfl, hs, hn, hb⟩ := hr2
          have hbx3 := hbx2.kept (Kept.alloc [] w2 (.cells #[.int .i64 t, .slice A n c] 93)) (by simp)
          obtain ⟨x0, x1, x2, x3, y0, y1, y2, y3⟩ := hbx3.cells
          have hkw3 := (hkw2.trans (Kept.alloc [] w2 (.cells #[.int .i64 t, .slice A n c] 93))).trans' (set2_kept _ w.heap.size 2 3 (.int .i64 t) (.slice A n c)) (by simp)
          clear hry hk2 hbx hbx1 hbx2 hbx3 hkw hkw1 hkw2
          go_wp2_with fail
          rw [rounds_succ]
          go_wp2_with fail
          go_ret3
          exact FIN.out _ _ hkw3 (.inl ⟨HOF.out, rfl⟩)
      | some tb =>
        obtain ⟨m, b1⟩ := tb
        simp only [hrx] at hr
        obtain ⟨A1, n1, c1, rfl, hs1, hn1, hb1⟩ := hr
        replace hb1 : ∀ p, A1 = some p → w.heap.size < p.block ∧ p.block < w1.heap.size := fun p e => by have := hb1 p e; simp at this; omega
        have hbx1 := hbx.kept (Kept.alloc [] w1 (.cells #[.int .i64 m, .slice A1 n1 c1] 93)) (by simp)
        obtain ⟨x0, x1, x2, x3, y0, y1, y2, y3⟩ := hbx1.cells
        have hbx2 := hbx1.set01 (.int .i64 m) (.slice A1 n1 c1)
        have hkw1 := (hkw.trans (Kept.alloc [] w1 (.cells #[.int .i64 m, .slice A1 n1 c1] 93))).trans' (set2_kept _ w.heap.size 0 1 (.int .i64 m) (.slice A1 n1 c1)) (by simp)
        have HRX := Lib.hid hrx
        clear hk1 hbx hbx1 hkw hrx
        go_wp2_with fail
        rw [rounds_succ]
        go_wp2_with fail
        clear x0 x1 x2 x3 y0 y1 y2 y3
        have hsA := (hs1.kept (Kept.alloc [] w1 (.cells #[.int .i64 m, .slice A1 n1 c1] 93)) (by simp)).kept (set2_kept _ w.heap.size 0 1 (.int .i64 m) (.slice A1 n1 c1)) (fun p e hm => by have h1 := hb1 p e; simp at hm; omega)
        have hkA1 : w1.heap.size ≤ (((w1.alloc (.cells #[.int .i64 m, .slice A1 n1 c1] 93)).setCell ⟨w.heap.size, 0, none⟩ (.int .i64 m)).setCell ⟨w.heap.size, 1, none⟩ (.slice A1 n1 c1)).heap.size := Nat.le_trans (Kept.alloc [] w1 _).size (set2_kept _ w.heap.size 0 1 _ _).size
        generalize ((w1.alloc (.cells #[.int .i64 m, .slice A1 n1 c1] 93)).setCell ⟨w.heap.size, 0, none⟩ (.int .i64 m)).setCell ⟨w.heap.size, 1, none⟩ (.slice A1 n1 c1) = wA at *
        have hkA : w.heap.size < wA.heap.size := World.lt_of_heap hbx2
        refine (cr1 _ (hD.new_kept hkw1)).mono ?_
        rintro e w2 ⟨hk2, hr2⟩
        have hkw2 := hkw1.trans hk2
        have hbx3 := hbx2.kept hk2 (by simp)
        have hsB := hsA.kept hk2 (by simp)
        clear hbx2 hsA hs1
        cases hry : readSlot y with
        | none =>
          have hof : Sl.of f x y = none := by unfold Sl.of; rw [HRX.out, hry]
          have HOF := Lib.hid hof
          simp only [hry] at hr2
          subst hr2
          clear hry hk2 hkw1 hof hbx3
          go_wp2_with fail
          rw [rounds_succ]
          go_wp2_with fail
          go_ret3
          exact FIN.out _ _ (hkw2.trans (Kept.alloc [] _ _)) (.inl ⟨HOF.out, rfl⟩)
        | some tb =>
          obtain ⟨t, b2⟩ := tb
          have hof : Sl.of f x y = if m = t ∧ 0 < m then none else if m < t then some ⟨f, 1, t, b2⟩ else some ⟨f, 0, m, b1⟩ := by unfold Sl.of; rw [HRX.out, hry]
          simp only [hry] at hr2
          obtain ⟨A2, n2, c2, rfl, hs2, hn2, hb2⟩ := hr2
          replace hb2 : ∀ p, A2 = some p → w.heap.size < p.block ∧ p.block < w2.heap.size := fun p e => by have := hb2 p e; have := hkA; omega
          have hbx4 := hbx3.kept (Kept.alloc [] w2 (.cells #[.int .i64 t, .slice A2 n2 c2] 93)) (by simp)
          obtain ⟨x0, x1, x2, x3, y0, y1, y2, y3⟩ := hbx4.cells
          have hbx5 := hbx4.set23 (.int .i64 t) (.slice A2 n2 c2)
          have hkw3 := (hkw2.trans (Kept.alloc [] w2 (.cells #[.int .i64 t, .slice A2 n2 c2] 93))).trans' (set2_kept _ w.heap.size 2 3 (.int .i64 t) (.slice A2 n2 c2)) (by simp)
          have hzw := hkw1.size
          have hsC := (hsB.kept (Kept.alloc [] w2 (.cells #[.int .i64 t, .slice A2 n2 c2] 93)) (by simp)).kept (set2_kept _ w.heap.size 2 3 (.int .i64 t) (.slice A2 n2 c2)) (fun p e hm => by have h1 := hb1 p e; simp at hm; omega)
          have hsD := (hs2.kept (Kept.alloc [] w2 (.cells #[.int .i64 t, .slice A2 n2 c2] 93)) (by simp)).kept (set2_kept _ w.heap.size 2 3 (.int .i64 t) (.slice A2 n2 c2)) (fun p e hm => by have h1 := hb2 p e; simp at hm; omega)
          have hl1 := readSlot_len HRX.out; have hl2 := readSlot_len hry
          have hw12 : w1.heap.size ≤ w2.heap.size := by have h1 := hk2.size; have h2 := hkA1; omega
          have hw2B := (Kept.alloc [] w2 (.cells #[.int .i64 t, .slice A2 n2 c2] 93)).size
          have hwB2 := (set2_kept (w2.alloc (.cells #[.int .i64 t, .slice A2 n2 c2] 93)) w.heap.size 2 3 (.int .i64 t) (.slice A2 n2 c2)).size
          have hnb1 : n1 = b1.length := by have := hsB.len; simpa [u8vs] using this.symm
          have hnb2 : n2 = b2.length := by have := hs2.len; simpa [u8vs] using this.symm
          have hn100 : n1 ≤ 100 ∧ n2 ≤ 100 := by omega
          clear hry hk2 hkw1 hkw2 hbx3 hbx4 hsB hs2 hnb1 hnb2
          go_wp2_with fail
          clear x0 x1 x2 x3 y0 y1 y2 y3
          generalize ((w2.alloc (.cells #[.int .i64 t, .slice A2 n2 c2] 93)).setCell ⟨w.heap.size, 2, none⟩ (.int .i64 t)).setCell ⟨w.heap.size, 3, none⟩ (.slice A2 n2 c2) = wB at *
          obtain ⟨x0, x1, x2, x3, y0, y1, y2, y3⟩ := hbx5.cells
          have hq := fun O => (hbx5.kept (Kept.alloc [] wB O) (by simp)).cells
          have q0 := fun O => (hq O).1; have q1 := fun O => (hq O).2.1; have q2 := fun O => (hq O).2.2.1; have q3 := fun O => (hq O).2.2.2.1
          clear hq
          have HOF := Lib.hid hof
          clear hof
          rw [rounds_succ]
          by_cases hmt : m = t
          · subst hmt
            by_cases hm0 : m = 0
            · subst hm0
              go_wp2_with fail
              refine (bytesClone_any _ A1 n1 c1 b1 (hsC.kept (Kept.alloc [] wB _) (by simp)) (by omega)).mono ?_
              rintro e w7 ⟨A7, c7, rfl, hown7, hbel7⟩
              have hk7 := Kept.of_below (F := []) hbel7
              have hn7 : A7 = none → c7 = 0 := fun e => row_nil' hown7 e
              have hl7 := own_block hown7
              obtain ⟨hs7, _⟩ := ClonePost.sl hown7
              go_wp2_with fail
              go_ret3
              obtain rfl : b1.length = n1 := by have := hsC.len; simpa [u8vs] using this
              obtain ⟨hT, hin⟩ := tw_new (f := f) (nw := 0) (tn := 0) hkw3 hsC hn1 (fun p e => ⟨(hb1 p e).1, by have := (hb1 p e).2; omega⟩) hk7
              refine FIN.out _ _ ((hkw3.trans (Kept.alloc [] _ _)).trans hk7) (.inr ⟨⟨f, 0, 0, b1⟩, by rw [HOF.out]; simp, wB.heap.size, _, A7, c7, rfl, hT, hs7, hn7, fun j hj => (hin j hj).1, fun p e => ⟨?_, fun hm => ?_⟩⟩)
              · have h1 := (hl7 p e).1
                have h0 := hkw3.size
                simp at h1
                omega
              · have h1 := (hl7 p e).1
                have h2 := (hin _ hm).2
                simp at h1
                omega
            · have i1 : (0 : Int) < (m : Int) := by omega
              go_wp2_with fail
              go_ret3
              exact FIN.out _ _ hkw3 (.inl ⟨by rw [HOF.out, if_pos ⟨by first | rfl | trivial, by omega⟩], rfl⟩)
          · have hb : ((m : Int) == (t : Int)) = false := beq_eq_false_iff_ne.2 (by omega)
            by_cases hlt : m < t
            · have i1 : (m : Int) < (t : Int) := by omega
              go_wp2_with fail
              refine (bytesClone_any _ A2 n2 c2 b2 (hsD.kept (Kept.alloc [] wB _) (by simp)) (by omega)).mono ?_
              rintro e w7 ⟨A7, c7, rfl, hown7, hbel7⟩
              have hk7 := Kept.of_below (F := []) hbel7
              have hn7 : A7 = none → c7 = 0 := fun e => row_nil' hown7 e
              have hl7 := own_block hown7
              obtain ⟨hs7, _⟩ := ClonePost.sl hown7
              go_wp2_with fail
              go_ret3
              obtain rfl : b2.length = n2 := by have := hsD.len; simpa [u8vs] using this
              obtain ⟨hT, hin⟩ := tw_new (f := f) (nw := 1) (tn := t) hkw3 hsD hn2 (fun p e => ⟨(hb2 p e).1, by have := (hb2 p e).2; omega⟩) hk7
              refine FIN.out _ _ ((hkw3.trans (Kept.alloc [] _ _)).trans hk7) (.inr ⟨⟨f, 1, t, b2⟩, by rw [HOF.out]; rw [if_neg (by omega), if_pos hlt], wB.heap.size, _, A7, c7, rfl, hT, hs7, hn7, fun j hj => (hin j hj).1, fun p e => ⟨?_, fun hm => ?_⟩⟩)
              · have h1 := (hl7 p e).1
                have h0 := hkw3.size
                simp at h1
                omega
              · have h1 := (hl7 p e).1
                have h2 := (hin _ hm).2
                simp at h1
                omega
            · have i1 : ¬ (m : Int) < (t : Int) := by omega
              go_wp2_with fail
              refine (bytesClone_any _ A1 n1 c1 b1 (hsC.kept (Kept.alloc [] wB _) (by simp)) (by omega)).mono ?_
              rintro e w7 ⟨A7, c7, rfl, hown7, hbel7⟩
              have hk7 := Kept.of_below (F := []) hbel7
              have hn7 : A7 = none → c7 = 0 := fun e => row_nil' hown7 e
              have hl7 := own_block hown7
              obtain ⟨hs7, _⟩ := ClonePost.sl hown7
              go_wp2_with fail
              go_ret3
              obtain rfl : b1.length = n1 := by have := hsC.len; simpa [u8vs] using this
              obtain ⟨hT, hin⟩ := tw_new (f := f) (nw := 0) (tn := m) hkw3 hsC hn1 (fun p e => ⟨(hb1 p e).1, by have := (hb1 p e).2; omega⟩) hk7
              refine FIN.out _ _ ((hkw3.trans (Kept.alloc [] _ _)).trans hk7) (.inr ⟨⟨f, 0, m, b1⟩, by rw [HOF.out]; rw [if_neg (by omega), if_neg hlt], wB.heap.size, _, A7, c7, rfl, hT, hs7, hn7, fun j hj => (hin j hj).1, fun p e => ⟨?_, fun hm => ?_⟩⟩)
              · have h1 := (hl7 p e).1
                have h0 := hkw3.size
                simp at h1
                omega
              · have h1 := (hl7 p e).1
                have h2 := (hin _ hm).2
                simp at h1
                omega
    · have hv := at_vals d ((f : Int) + 1)
      have cr1 := fun W (h2 : Dv W a fp d) => slotRead_bad h2 ((f : Int) + 1) hz1
      obtain ⟨er, her⟩ : ∃ er, d.at_ ((f : Int) + 1) = er := ⟨_, rfl⟩
      rw [her] at cr1 hv
      have hb0 : (er == 0) = false := beq_eq_false_iff_ne.2 (by rw [← her]; exact hz1)
      have hb1 : (er == 110) = false := beq_eq_false_iff_ne.2 (by omega)
      have HER := Lib.hid her; have HZ := Lib.hid hz; have HZ1 := Lib.hid hz1
      clear her hz hz1 hx
      go_enter Tryz.func29, Tryz.ntmps29
      go_wp2_with fail
      refine wp_loop_rounds 2 ?_
      rw [rounds_succ]
      go_wp2_with fail
      refine (cr0 _ (hD.new_kept (Kept.alloc [] w _))).mono ?_
      rintro e w1 ⟨hk1, hr⟩
      have hbx : TwoBox w1 w.heap.size (.int .i64 0) (.slice none 0 0) (.int .i64 0) (.slice none 0 0) := (hk1.block _ (by simp) (by simp)).trans (heap_alloc_new _ _)
      have hkw := (Kept.alloc [] w _).trans hk1
      cases hrx : readSlot x with
      | none =>
        simp only [hrx] at hr
        subst hr
        clear hrx hk1 hbx
        go_wp2_with fail
        rw [rounds_succ]
        go_wp2_with fail
        refine (cr1 _ (hD.new_kept (hkw.trans (Kept.alloc [] w1 _)))).mono ?_
        rintro e w2 ⟨rfl, hk2⟩
        go_wp2_with fail
        go_ret3
        exact ⟨((hkw.trans (Kept.alloc [] w1 _)).trans hk2).trans (Kept.alloc [] _ _), .inr (.inl ⟨HZ.out, HZ1.out, by rw [HER.out]; rfl⟩)⟩
      | some tb =>
        obtain ⟨t, b⟩ := tb
        simp only [hrx] at hr
        obtain ⟨A, n, c, rfl, hs, hn, hb⟩ := hr
        have hbx1 := hbx.kept (Kept.alloc [] w1 (.cells #[.int .i64 t, .slice A n c] 93)) (by simp)
        obtain ⟨x0, x1, x2, x3, y0, y1, y2, y3⟩ := hbx1.cells
        clear hrx hk1 hbx
        go_wp2_with fail
        rw [rounds_succ]
        have hk2 := (hkw.trans (Kept.alloc [] w1 (.cells #[.int .i64 t, .slice A n c] 93))).trans' (set2_kept _ w.heap.size 0 1 (.int .i64 t) (.slice A n c)) (by simp)
        go_wp2_with fail
        refine (cr1 _ (hD.new_kept hk2)).mono ?_
        rintro e w2 ⟨rfl, hk3⟩
        go_wp2_with fail
        go_ret3
        exact ⟨(hk2.trans hk3).trans (Kept.alloc [] _ _), .inr (.inl ⟨HZ.out, HZ1.out, by rw [HER.out]; rfl⟩)⟩
  · have hv := at_vals d first
    have hb0 : (d.at_ first == 0) = false := beq_eq_false_iff_ne.2 hz
    have hb1 : (d.at_ first == 110) = false := beq_eq_false_iff_ne.2 (by omega)
    go_enter Tryz.func29, Tryz.ntmps29
    go_wp2_with fail
    refine wp_loop_rounds 1 ?_
    rw [rounds_succ]
    go_wp2_with fail
    refine (slotRead_bad (hD.new_kept (Kept.alloc [] w _)) first hz).mono ?_
    rintro e w1 ⟨rfl, hk1⟩
    go_wp2_with fail
    go_ret3
    exact ⟨((Kept.alloc [] w _).trans hk1).trans (Kept.alloc [] _ _), .inl ⟨hz, rfl⟩⟩
end Go.Proofs.YtbnflbkaogpnbaaGreat
