/- Texts in one: O5. -/
import Derived.Test.YtbnflbkaogpnbaaGreatPAO
import Derived.Deep.RegionHeld3
import Derived.Deep.CutRange
import Derived.Test.YtbnflbkaogpnbaaGreatPAE
namespace Go.Proofs.YtbnflbkaogpnbaaGreat
set_option linter.unusedVariables false
open Go.RowKit
set_option maxHeartbeats 400000 in
theorem slotsTurn_any {w : World} {z a : Nat} {sp : List Nat} {s : Sl} (h : TwAt w z a sp s) : Calls Tryz.prog 30 #[.pointer (some ⟨z, 0, none⟩)] w fun e w' => e = .returned (.int .i64 s.turn) ∧ w = w' := by
 obtain ⟨c0, c1, c2, c3, cf⟩ := h.cells
 clear h
 go_enter Tryz.func30, Tryz.ntmps30
 go_wp2
 go_ret
 exact ⟨rfl, rfl⟩
/-- What a Save does. -/
def SavePost (w : World) (z a : Nat) (fp sp : List Nat) (r : Sl × Dev × Int) (e : Ending) (w' : World) : Prop :=
 e = .returned (.int .i64 r.2.2) ∧ ∃ fp' sp', Dv w' a fp' r.2.1 ∧ TwAt w' z a sp' r.1 ∧ Kept (fp ++ sp) w w' ∧ (∀ j ∈ fp', j ∈ fp ∨ w.heap.size ≤ j) ∧ (∀ j ∈ sp', j ∈ sp ∨ w.heap.size ≤ j) ∧ ∀ j ∈ sp', j ∉ fp'
/-- In the midst of a Save: the slot that is to be written, and which one. -/
def SvMid (w : World) (s : Sl) (n : Nat) (b : List UInt8) (v5 v6 : Value) (wx : World) : Prop :=
 ∃ B A c, v5 = .pointer (some ⟨B, 0, none⟩) ∧ v6 = .int .i64 (1 - s.newer) ∧ Kept [] w wx ∧ SlotBox wx B (.int .i64 (s.turn + 1)) (.slice A n c) ∧ SlAt wx A n c (u8vs b) ∧ (A = none → c = 0) ∧ (∀ p, A = some p → w.heap.size ≤ p.block ∧ p.block < wx.heap.size ∧ p.block ≠ B) ∧ w.heap.size ≤ B
/-- A copy of what is to be saved. -/
def SvCl (w : World) (z : Nat) (s : Sl) (n : Nat) (b : List UInt8) (W : World) (e : Ending) (w' : World) : Prop :=
 ∃ A c, e = .returned (.slice A n c) ∧ Kept [] W w' ∧ Kept [] w w' ∧ SlAt w' A n c (u8vs b) ∧ (A = none → c = 0) ∧ (∀ p, A = some p → W.heap.size ≤ p.block ∧ p.block < w'.heap.size) ∧ w'.cell? ⟨z, 3, none⟩ = some (.int .i64 s.turn) ∧ w'.cell? ⟨z, 2, none⟩ = some (.int .i64 s.newer) ∧ (∀ b o, b < W.heap.size → w'.cell? ⟨b, o, none⟩ = W.cell? ⟨b, o, none⟩) ∧ ∀ b o, b < W.heap.size → w'.frozen? ⟨b, o, none⟩ = W.frozen? ⟨b, o, none⟩
theorem svCl {w : World} {z a : Nat} {sp : List Nat} {s : Sl} (hT : TwAt w z a sp s) (A : Option Addr) (n c : Nat) (b : List UInt8) (hb : SlAt w A n c (u8vs b)) (hn : n ≤ 100) (W : World) (hk : Kept [] w W) : Calls Tryz.prog 42 #[.slice A n c] W (SvCl w z s n b W) := by
 obtain ⟨c0, c1, c2, c3, cf⟩ := hT.cells
 have hz := hT.lt z hT.zin
 refine (bytesClone_any W A n c b (hb.kept hk (by simp)) (by omega)).mono ?_
 rintro e w1 ⟨A1, d1, rfl, hown1, hbel1⟩
 have hk1 := Kept.of_below (F := []) hbel1
 have hkw := hk.trans hk1
 exact ⟨A1, d1, rfl, hk1, hkw, (ClonePost.sl hown1).1, fun e => row_nil' hown1 e, own_block hown1, (hkw.cell (p := ⟨z, 3, none⟩) hz (by simp)).trans c3, (hkw.cell (p := ⟨z, 2, none⟩) hz (by simp)).trans c2, fun b o h => hk1.cell (p := ⟨b, o, none⟩) h (by simp), fun b o h => hk1.frozen (p := ⟨b, o, none⟩) h (by simp)⟩
theorem tw_put {w : World} {z a : Nat} {sp : List Nat} {s : Sl} (h : TwAt w z a sp s) (nw tn : Nat) (b : List UInt8) (A : Option Addr) (c : Nat) (hs : SlAt w A b.length c (u8vs b)) (hn : A = none → c = 0) (hA : ∀ p, A = some p → p.block ≠ z ∧ p.block < w.heap.size) :
  TwAt (((w.setCell ⟨z, 3, none⟩ (.int .i64 tn)).setCell ⟨z, 4, none⟩ (.slice A b.length c)).setCell ⟨z, 2, none⟩ (.int .i64 nw)) z a (z :: (A.map (·.block)).toList) { s with newer := nw, turn := tn, text := b } ∧
  Kept [z] w (((w.setCell ⟨z, 3, none⟩ (.int .i64 tn)).setCell ⟨z, 4, none⟩ (.slice A b.length c)).setCell ⟨z, 2, none⟩ (.int .i64 nw)) := by
 have hk : Kept [z] w (((w.setCell ⟨z, 3, none⟩ (.int .i64 tn)).setCell ⟨z, 4, none⟩ (.slice A b.length c)).setCell ⟨z, 2, none⟩ (.int .i64 nw)) :=
  ((Kept.setCell (by simp) _).trans (Kept.setCell (by simp) _)).trans (Kept.setCell (by simp) _)
 obtain ⟨A0, c0, h1, _, _, _⟩ := h.head
 have hz := h.lt z h.zin
 have hkz := hk.size
 have h2 := heap_set (heap_set (heap_set h1 3 (.int .i64 tn)) 4 (.slice A b.length c)) 2 (.int .i64 nw)
 refine ⟨⟨⟨A, c, h2, hs.kept hk (fun p e hm => (hA p e).1 (by simpa using hm)), hn, fun p e => ⟨by simp [e], (hA p e).1⟩⟩, by simp, fun j hj => ?_⟩, hk⟩
 simp only [List.mem_cons, Option.mem_toList, Option.map_eq_some_iff] at hj
 rcases hj with rfl | ⟨p, e, rfl⟩
 ·omega
 ·have := (hA p e).2; omega
theorem Dev.write_works (d : Dev) (i : Int) (b : Blk) : (d.write i b).1.works ≤ d.works + 1 := by
 unfold Dev.write
 split
 ·show d.works ≤ _
  omega
 ·split
  ·show d.works ≤ _
   omega
  ·split
   ·show d.works ≤ _
    omega
   ·split
    ·show d.works ≤ _
     omega
    ·show d.works + 1 ≤ _
     omega
theorem TwAt.cell4 {w : World} {z a : Nat} {sp : List Nat} {s : Sl} (h : TwAt w z a sp s) : ∃ v, w.cell? ⟨z, 4, none⟩ = some v := by
 obtain ⟨A, c, h1, _⟩ := h.head
 exact ⟨_, blk_cell h1 4⟩
set_option maxHeartbeats 2000000 in
set_option maxRecDepth 100000 in
theorem slotsSave_any {w : World} {z a : Nat} {fp sp : List Nat} {s : Sl} {d : Dev} (hD : Dv w a fp d) (hT : TwAt w z a sp s) (hne : ∀ j ∈ sp, j ∉ fp) (hnw : s.newer ≤ 1) (htn : s.turn < 9223372036854775000) (hfi : s.first < 9223372036854775000) (A : Option Addr) (n c : Nat) (b : List UInt8) (hb : SlAt w A n c (u8vs b))
  (hwk : d.works < 9223372036854000000) : Calls Tryz.prog 44 #[.pointer (some ⟨z, 0, none⟩), .slice A n c] w (SavePost w z a fp sp (s.save d b)) := by
 obtain ⟨c0, c1, c2, c3, cf⟩ := hT.cells
 have hbl : b.length = n := by simpa [u8vs] using hb.len
 have hnc := hb.le; have hcm := hb.max
 unfold maxLen at hcm
 by_cases h1 : 100 < n
 ·have e1 : s.save d b = (s, d, 2) := by unfold Sl.save; rw [if_pos (by omega)]
  have i1 : (100 : Int) < (n : Int) := by omega
  rw [e1]
  clear e1 hbl c1 c2 c3
  go_enter Tryz.func44, Tryz.ntmps44
  go_wp2_with fail
  go_ret
  exact ⟨rfl, fp, sp, hD, hT, Kept.refl _ _, fun j hj => .inl hj, fun j hj => .inl hj, hne⟩
 ·have i1 : ¬ (100 : Int) < (n : Int) := by omega
  have HBL := Lib.hid hbl
  clear hbl
  have cc := svCl hT A n c b hb (by omega)
  have hzl := hT.lt z hT.zin
  have hz1 := World.new_ne w ⟨z, 3, none⟩ c3
  go_enter Tryz.func44, Tryz.ntmps44
  go_wp2_with fail
  go_cut [5, 6] from 23 to 36 (fun v5 v6 wx => SvMid w s n b v5 v6 wx)
  case first =>
   have hw1 : IntKind.i64.wrap ((s.turn : Int) + 1) = (s.turn : Int) + 1 := by rw [IntKind.wrap_i64]; omega
   have hw2 : IntKind.i64.wrap (1 - (s.newer : Int)) = 1 - (s.newer : Int) := by rw [IntKind.wrap_i64]; omega
   go_region_held3 (fun W => W.cell? ⟨z, 3, none⟩ = some (.int .i64 s.turn) ∧ W.cell? ⟨z, 2, none⟩ = some (.int .i64 s.newer)) (go_keep) ((refine (cc _ (by first | exact Kept.drew [] w | exact (Kept.drew [] w).trans (Kept.alloc [] _ _))).mono ?_; rintro e w1 ⟨A1, d1, rfl, hk1, hkw1, hs1, hn1, hf1, x3, x2, xc, xf⟩))
   ·go_wp2_with fail
    go_meet
    have h0 := hkw1.size
    exact ⟨w1.heap.size, A1, d1, rfl, rfl, hkw1.trans (Kept.alloc [] _ _), SlotBox.new _ _ _, hs1.kept (Kept.alloc [] _ _) (by simp), hn1, fun p e => by have h2 := hf1 p e; simp at h2 ⊢; omega, by omega⟩
   ·go_wp2_with fail
    go_meet
    have h0 := hk1.size
    have hbx : SlotBox w1 w.heap.size (.int .i64 0) (.slice none 0 0) := (hk1.block _ (by simp) (by simp)).trans (heap_alloc_new _ _)
    have hks := slotBox_set_kept w1 w.heap.size (.int .i64 ((s.turn : Int) + 1)) (.slice A1 n d1)
    have hkz := hks.size
    simp at h0
    exact ⟨w.heap.size, A1, d1, rfl, rfl, hkw1.trans' hks (by simp), hbx.set _ _, hs1.kept hks (fun p e hm => by have h2 := hf1 p e; simp at h2 hm; omega), hn1, fun p e => by have h2 := hf1 p e; simp at h2; omega, Nat.le_refl _⟩
  case rest =>
   obtain ⟨B, A1, d1, rfl, rfl, hkw, hbx, hs1, hn1, hf1, hB⟩ := hcut
   have hTc := hT.kept hkw (by simp)
   have hDc := hD.new_kept hkw
   have hzB : z < B := by have := hT.lt z hT.zin; omega
   have hBl := World.lt_of_heap hbx
   obtain ⟨c0, c1, c2, c3, cf⟩ := hTc.cells
   obtain ⟨x0, x1, _, _⟩ := hbx.cells
   have cw := fun W (hs : SlAt W A1 n d1 (u8vs b)) => written_any W (s.turn + 1) A1 n d1 b hs (by omega) (by omega)
   rw [show ((s.turn + 1 : Nat) : Int) = (s.turn : Int) + 1 by push_cast; rfl] at cw
   obtain ⟨wh, hwh⟩ : ∃ wh, s.which = wh := ⟨_, rfl⟩
   have hwl : wh ≤ 1 := by rw [← hwh]; unfold Sl.which; split <;> omega
   obtain ⟨R, er, hR⟩ : ∃ R er, d.write ((s.first + wh : Nat) : Int) (slotB (s.turn + 1) b) = (R, er) := ⟨_, _, rfl⟩
   obtain ⟨Q, eq, hQ⟩ : ∃ Q eq, R.flush = (Q, eq) := ⟨_, _, rfl⟩
   have hsv : s.save d b = if er ≠ 0 then (s, R, er) else if eq ≠ 0 then (s, Q, eq) else ({ s with newer := wh, turn := s.turn + 1, text := b }, Q, 0) := by
    unfold Sl.save
    rw [if_neg (by rw [HBL.out]; omega)]
    simp only [hwh, hR, hQ]
   have hRw := Dev.write_works d ((s.first + wh : Nat) : Int) (slotB (s.turn + 1) b)
   rw [hR] at hRw
   have hRw2 : R.works ≤ d.works + 1 := hRw
   have cwr := fun W A5 c5 (h5 : Dv W a fp d) (hs : SlAt W A5 128 c5 (u8vs (slotB (s.turn + 1) b))) (hA5 : ∀ p, A5 = some p → p.block ∉ fp) => write_dv h5 ((s.first + wh : Nat) : Int) (slotB (s.turn + 1) b) A5 128 c5 hs hA5 (by omega)
   rw [hR] at cwr
   rw [show ((s.first + wh : Nat) : Int) = (s.first : Int) + (wh : Int) by push_cast; rfl] at cwr
   have HSV := Lib.hid hsv; have HR := Lib.hid hR; have HWH := Lib.hid hwh
   have cfl := fun W fp6 (h5 : Dv W a fp6 R) => flush_dv h5 (by omega)
   rw [hQ] at cfl
   clear hsv hR hQ hRw
   by_cases ht0 : s.turn = 0
   ·obtain rfl : wh = 0 := by rw [← hwh]; unfold Sl.which; rw [if_pos ht0]
    have hsum : IntKind.i64.wrap (s.first : Int) = (s.first : Int) := by rw [IntKind.wrap_i64]; omega
    have htb : ((s.turn : Int) == 0) = true := by simp [ht0]
    rw [show ((s.first : Int) + ((0 : Nat) : Int)) = (s.first : Int) by omega] at cwr
    clear hwh ht0
    go_wp2_with fail
    have hbxd := hbx.kept (Kept.drew [] wc) (by simp)
    have hsd := hs1.kept (Kept.drew [] wc) (by simp)
    have hDd := hDc.new_kept (Kept.drew [] wc)
    have hTd := hTc.kept (Kept.drew [] wc) (by simp)
    have hkd := hkw.trans (Kept.drew [] wc)
    have S0 : wc.drew.cell? ⟨z, 0, none⟩ = some (.pointer (some ⟨a, 0, none⟩)) ∧ wc.drew.cell? ⟨z, 1, none⟩ = some (.int .i64 s.first) ∧ wc.drew.cell? ⟨B, 0, none⟩ = some (.int .i64 ((s.turn : Int) + 1)) ∧ wc.drew.cell? ⟨B, 1, none⟩ = some (.slice A1 n d1) := ⟨c0, c1, x0, x1⟩
    clear hbx hs1 hDc hTc hkw c0 c1 c2 c3 cf x0 x1
    refine wp_region_calm (S := (fun W => W.cell? ⟨z, 0, none⟩ = some (.pointer (some ⟨a, 0, none⟩)) ∧ W.cell? ⟨z, 1, none⟩ = some (.int .i64 s.first) ∧ W.cell? ⟨B, 0, none⟩ = some (.int .i64 ((s.turn : Int) + 1)) ∧ W.cell? ⟨B, 1, none⟩ = some (.slice A1 n d1))) (by kernel_rfl) S0 (fun hHeld => ?_)
    refine tk (i := 0) (v := ?_) (hy := Or.inl ⟨by rfl, ?_⟩) (hS := hHeld) (h := ?_)
    rotate_left
    ·intro w hSw
     try dsimp only at hSw
     go_simp
     all_goals with_reducible rfl
    try simp only [Act.put, List.setIfInBounds_toArray, List.set_cons_zero, List.set_cons_succ]
    refine tk (i := 1) (v := ?_) (hy := Or.inl ⟨by rfl, ?_⟩) (hS := hHeld) (h := ?_)
    rotate_left
    ·intro w hSw
     try dsimp only at hSw
     go_simp
     all_goals with_reducible rfl
    try simp only [Act.put, List.setIfInBounds_toArray, List.set_cons_zero, List.set_cons_succ]
    refine tk (i := 2) (v := ?_) (hy := Or.inl ⟨by rfl, ?_⟩) (hS := hHeld) (h := ?_)
    rotate_left
    ·intro w hSw
     try dsimp only at hSw
     go_simp
     all_goals with_reducible rfl
    try simp only [Act.put, List.setIfInBounds_toArray, List.set_cons_zero, List.set_cons_succ]
    refine tk (i := 3) (v := ?_) (hy := Or.inl ⟨by rfl, ?_⟩) (hS := hHeld) (h := ?_)
    rotate_left
    ·intro w hSw
     try dsimp only at hSw
     obtain ⟨s0, s1, s2, s3⟩ := hSw
     go_simp
     all_goals with_reducible rfl
    try simp only [Act.put, List.setIfInBounds_toArray, List.set_cons_zero, List.set_cons_succ]
    refine tk (i := 4) (v := ?_) (hy := Or.inl ⟨by rfl, ?_⟩) (hS := hHeld) (h := ?_)
    rotate_left
    ·intro w hSw
     try dsimp only at hSw
     go_simp
     all_goals with_reducible rfl
    try simp only [Act.put, List.setIfInBounds_toArray, List.set_cons_zero, List.set_cons_succ]
    refine tk (i := 5) (v := ?_) (hy := Or.inl ⟨by rfl, ?_⟩) (hS := hHeld) (h := ?_)
    rotate_left
    ·intro w hSw
     try dsimp only at hSw
     go_simp
     all_goals with_reducible rfl
    try simp only [Act.put, List.setIfInBounds_toArray, List.set_cons_zero, List.set_cons_succ]
    refine tk (i := 6) (v := ?_) (hy := Or.inl ⟨by rfl, ?_⟩) (hS := hHeld) (h := ?_)
    rotate_left
    ·intro w hSw
     try dsimp only at hSw
     go_simp
     all_goals with_reducible rfl
    try simp only [Act.put, List.setIfInBounds_toArray, List.set_cons_zero, List.set_cons_succ]
    refine tk (i := 7) (v := ?_) (hy := Or.inl ⟨by rfl, ?_⟩) (hS := hHeld) (h := ?_)
    rotate_left
    ·intro w hSw
     try dsimp only at hSw
     obtain ⟨s0, s1, s2, s3⟩ := hSw
     go_simp
     all_goals with_reducible rfl
    try simp only [Act.put, List.setIfInBounds_toArray, List.set_cons_zero, List.set_cons_succ]
    refine tk (i := 8) (v := ?_) (hy := Or.inl ⟨by rfl, ?_⟩) (hS := hHeld) (h := ?_)
    rotate_left
    ·intro w hSw
     try dsimp only at hSw
     go_simp
     all_goals with_reducible rfl
    try simp only [Act.put, List.setIfInBounds_toArray, List.set_cons_zero, List.set_cons_succ]
    refine tk (i := 9) (v := ?_) (hy := Or.inl ⟨by rfl, ?_⟩) (hS := hHeld) (h := ?_)
    rotate_left
    ·intro w hSw
     try dsimp only at hSw
     go_simp
     all_goals with_reducible rfl
    try simp only [Act.put, List.setIfInBounds_toArray, List.set_cons_zero, List.set_cons_succ]
    try simp only [hsum]
    refine tk (i := 10) (v := ?_) (hy := Or.inl ⟨by rfl, ?_⟩) (hS := hHeld) (h := ?_)
    rotate_left
    ·intro w hSw
     try dsimp only at hSw
     obtain ⟨s0, s1, s2, s3⟩ := hSw
     go_simp
     all_goals with_reducible rfl
    try simp only [Act.put, List.setIfInBounds_toArray, List.set_cons_zero, List.set_cons_succ]
    refine wpAnyH_ready (rs := [11]) (by kernel_rfl) (by simp) ?_
    refine AllReadyH.cons (by simp only [List.getElem?_toArray, List.getElem?_cons_succ, List.getElem?_cons_zero]; rfl) (fun K hK => ?_) AllReadyH.nil
    go_simp
    refine (cw _ hsd).mono ?_
    rintro e w5 ⟨A5, c5, rfl, hown5, hbel5⟩
    have hk5 := Kept.of_below (F := []) hbel5
    obtain ⟨hs5, hA5⟩ := ClonePost.sl hown5
    have S5 : w5.cell? ⟨z, 0, none⟩ = some (.pointer (some ⟨a, 0, none⟩)) ∧ w5.cell? ⟨z, 1, none⟩ = some (.int .i64 s.first) ∧ w5.cell? ⟨B, 0, none⟩ = some (.int .i64 ((s.turn : Int) + 1)) ∧ w5.cell? ⟨B, 1, none⟩ = some (.slice A1 n d1) := ⟨(hk5.cell (p := ⟨z, 0, none⟩) (hTd.lt z hTd.zin) (by simp)).trans S0.1, (hk5.cell (p := ⟨z, 1, none⟩) (hTd.lt z hTd.zin) (by simp)).trans S0.2.1, (hk5.cell (p := ⟨B, 0, none⟩) hBl (by simp)).trans S0.2.2.1, (hk5.cell (p := ⟨B, 1, none⟩) hBl (by simp)).trans S0.2.2.2⟩
    clear hown5 hbel5 S0
    go_wp2_with fail
    refine hK.out _ _ ?_ (fun hHeld2 => ?_)
    ·exact S5
    clear hK K hHeld
    have hHeld := hHeld2
    clear hHeld2
    try simp only [Act.put, List.setIfInBounds_toArray, List.set_cons_zero, List.set_cons_succ]
    refine wpAnyH_ready (rs := [12]) (by kernel_rfl) (by simp) ?_
    refine AllReadyH.cons (by simp only [List.getElem?_toArray, List.getElem?_cons_succ, List.getElem?_cons_zero]; rfl) (fun K hK => ?_) AllReadyH.nil
    go_simp
    refine (cwr _ A5 c5 (hDd.new_kept hk5) hs5 (fun p e => hD.old (by have h1 := hA5 p e; have h2 := hkd.size; omega))).mono ?_
    rintro e w6 ⟨rfl, fp6, hD6, hk6, hf6⟩
    replace hD6 : Dv w6 a fp6 R := hD6
    have hT6 := (hTd.kept hk5 (by simp)).kept hk6 hne
    have hBf : B ∉ fp := hD.old hB
    have hbx6 := (hbxd.kept hk5 (by simp)).kept hk6 hBf
    have hkw6 : Kept fp w w6 := (hkd.trans hk5).mono (by simp) |>.trans hk6
    have hs6 := (hsd.kept hk5 (by simp)).kept hk6 (fun p e => hD.old (by have h1 := hf1 p e; omega))
    have S6 : w6.cell? ⟨z, 0, none⟩ = some (.pointer (some ⟨a, 0, none⟩)) ∧ w6.cell? ⟨z, 1, none⟩ = some (.int .i64 s.first) ∧ w6.cell? ⟨B, 0, none⟩ = some (.int .i64 ((s.turn : Int) + 1)) ∧ w6.cell? ⟨B, 1, none⟩ = some (.slice A1 n d1) := ⟨hT6.cells.1, hT6.cells.2.1, hbx6.cells.1, hbx6.cells.2.1⟩
    have hk5s : wc.heap.size ≤ w5.heap.size := hk5.size
    have hk6s : w.heap.size ≤ w5.heap.size := Nat.le_trans hkd.size hk5.size
    go_wp2_with fail
    refine hK.out _ _ ?_ (fun hHeld2 => ?_)
    ·exact S6
    clear hK K hHeld
    have hHeld := hHeld2
    clear hHeld2
    try simp only [Act.put, List.setIfInBounds_toArray, List.set_cons_zero, List.set_cons_succ]
    refine tk (i := 13) (v := ?_) (hy := Or.inl ⟨by rfl, ?_⟩) (hS := hHeld) (h := ?_)
    rotate_left
    ·intro w hSw
     try dsimp only at hSw
     go_simp
     all_goals with_reducible rfl
    try simp only [Act.put, List.setIfInBounds_toArray, List.set_cons_zero, List.set_cons_succ]
    refine wpAnyH_calm (by kernel_rfl) ?_ _
    clear hHeld S5 S6 cw cwr hs5 hA5 hk5 hDd hTd hkd hsd hbxd
    obtain ⟨c0, c1, c2, c3, cf⟩ := hT6.cells
    have hne6 : ∀ j ∈ sp, j ∉ fp6 := fun j hj hm => by
     rcases hf6 j hm with e | e
     ·exact hne j hj e
     ·have := hT.lt j hj; omega
    have hf6w : ∀ j ∈ fp6, j ∈ fp ∨ w.heap.size ≤ j := fun j hj => by
     rcases hf6 j hj with e | e
     ·exact .inl e
     ·exact .inr (by have := hk6s; omega)
    by_cases hR0 : er = 0
    ·subst hR0
     go_wp2_with fail
     refine (cfl _ fp6 hD6).mono ?_
     rintro e w7 ⟨rfl, fp7, hD7, hk7, hf7⟩
     replace hD7 : Dv w7 a fp7 Q := hD7
     have hT7 := hT6.kept hk7 hne6
     have hB6 : B ∉ fp6 := fun hm => by
      rcases hf6 B hm with e | e
      ·exact hBf e
      ·omega
     have hA6 : ∀ p, A1 = some p → p.block ∉ fp6 := fun p e hm => by
      have h1 := hf1 p e
      rcases hf6 _ hm with e | e
      ·exact hD.old h1.1 e
      ·omega
     have hbx7 := hbx6.kept hk7 hB6
     have hs7 := hs6.kept hk7 hA6
     have hf7w : ∀ j ∈ fp7, j ∈ fp ∨ w.heap.size ≤ j := fun j hj => by
      rcases hf7 j hj with e | e
      ·exact hf6w j e
      ·exact .inr (by have := hk6.size; omega)
     have hne7 : ∀ j ∈ sp, j ∉ fp7 := fun j hj hm => by
      rcases hf7 j hm with e | e
      ·exact hne6 j hj e
      ·have h1 := hT.lt j hj; have h2 := hk6.size; omega
     have hkw7 : Kept fp w w7 := hkw6.trans' hk7 hf6w
     obtain ⟨c0, c1, c2, c3, cf⟩ := hT7.cells
     obtain ⟨v4, c4⟩ := hT7.cell4
     obtain ⟨x0, x1, _, _⟩ := hbx7.cells
     clear hT6 hbx6 hs6
     by_cases hQ0 : eq = 0
     ·subst hQ0
      have hfin : s.save d b = ({ s with newer := 0, turn := s.turn + 1, text := b }, Q, 0) := by rw [HSV.out, if_neg (by simp), if_neg (by simp)]
      have HF := Lib.hid hfin
      clear hfin
      go_wp2_with fail
      go_ret
      rw [HF.out]
      obtain rfl : b.length = n := HBL.out
      have hz7 := hk7.size; have hz6 := hk6.size
      obtain ⟨t1, t2⟩ := tw_put hT7 0 (s.turn + 1) b A1 d1 hs7 hn1 (fun p e => by have h1 := hf1 p e; have h2 := hT.lt z hT.zin; omega)
      rw [show ((s.turn + 1 : Nat) : Int) = (s.turn : Int) + 1 by push_cast; rfl] at t1 t2
      have hin : ∀ j ∈ z :: (A1.map (·.block)).toList, j = z ∨ ∃ p, A1 = some p ∧ p.block = j := fun j hj => by
       simp only [List.mem_cons, Option.mem_toList, Option.map_eq_some_iff] at hj
       exact hj
      refine ⟨rfl, fp7, _, hD7.kept t2 (fun j hj hm => ?_), t1, ?_, hf7w, fun j hj => ?_, fun j hj hm => ?_⟩
      ·simp at hm
       subst hm
       exact hne7 _ hT.zin hj
      ·exact (hkw7.mono (G := fp ++ sp) (fun i hi => .inl (by simp [hi]))).trans' t2 (fun i hi => .inl (by simp at hi; subst hi; simp [hT.zin]))
      ·rcases hin j hj with rfl | ⟨p, e, rfl⟩
       ·exact .inl hT.zin
       ·exact .inr (hf1 p e).1
      ·rcases hin j hj with rfl | ⟨p, e, rfl⟩
       ·exact hne7 _ hT.zin hm
       ·have h1 := hf1 p e
        rcases hf7 _ hm with e | e
        ·exact hA6 p (by assumption) e
        ·omega
     ·have hqb : (eq != 0) = true := by simpa using hQ0
      have hfin : s.save d b = (s, Q, eq) := by rw [HSV.out, if_neg (by simp), if_pos hQ0]
      have HF := Lib.hid hfin
      clear hfin hQ0
      go_wp2_with fail
      go_ret
      rw [HF.out]
      exact ⟨rfl, fp7, sp, hD7, hT7, hkw7.mono (fun i hi => .inl (by simp [hi])), hf7w, fun j hj => .inl hj, hne7⟩
    ·have hrb : (er != 0) = true := by simpa using hR0
     have hfin : s.save d b = (s, R, er) := by rw [HSV.out, if_pos hR0]
     have HF := Lib.hid hfin
     clear hfin hR0
     go_wp2_with fail
     go_ret
     rw [HF.out]
     exact ⟨rfl, fp6, sp, hD6, hT6, hkw6.mono (fun i hi => .inl (by simp [hi])), hf6w, fun j hj => .inl hj, hne6⟩
   ·have hv : 1 - (s.newer : Int) = (wh : Int) := by rw [← hwh]; unfold Sl.which; rw [if_neg ht0]; omega
    have hsum : IntKind.i64.wrap ((s.first : Int) + (wh : Int)) = (s.first : Int) + (wh : Int) := by rw [IntKind.wrap_i64]; omega
    have htb : ((s.turn : Int) == 0) = false := beq_eq_false_iff_ne.2 (by omega)
    rw [hv]
    clear hv hwh ht0
    go_wp2_with fail
    have hbxd := hbx.kept (Kept.drew [] wc) (by simp)
    have hsd := hs1.kept (Kept.drew [] wc) (by simp)
    have hDd := hDc.new_kept (Kept.drew [] wc)
    have hTd := hTc.kept (Kept.drew [] wc) (by simp)
    have hkd := hkw.trans (Kept.drew [] wc)
    have S0 : wc.drew.cell? ⟨z, 0, none⟩ = some (.pointer (some ⟨a, 0, none⟩)) ∧ wc.drew.cell? ⟨z, 1, none⟩ = some (.int .i64 s.first) ∧ wc.drew.cell? ⟨B, 0, none⟩ = some (.int .i64 ((s.turn : Int) + 1)) ∧ wc.drew.cell? ⟨B, 1, none⟩ = some (.slice A1 n d1) := ⟨c0, c1, x0, x1⟩
    clear hbx hs1 hDc hTc hkw c0 c1 c2 c3 cf x0 x1
    refine wp_region_calm (S := (fun W => W.cell? ⟨z, 0, none⟩ = some (.pointer (some ⟨a, 0, none⟩)) ∧ W.cell? ⟨z, 1, none⟩ = some (.int .i64 s.first) ∧ W.cell? ⟨B, 0, none⟩ = some (.int .i64 ((s.turn : Int) + 1)) ∧ W.cell? ⟨B, 1, none⟩ = some (.slice A1 n d1))) (by kernel_rfl) S0 (fun hHeld => ?_)
    refine tk (i := 0) (v := ?_) (hy := Or.inl ⟨by rfl, ?_⟩) (hS := hHeld) (h := ?_)
    rotate_left
    ·intro w hSw
     try dsimp only at hSw
     go_simp
     all_goals with_reducible rfl
    try simp only [Act.put, List.setIfInBounds_toArray, List.set_cons_zero, List.set_cons_succ]
    refine tk (i := 1) (v := ?_) (hy := Or.inl ⟨by rfl, ?_⟩) (hS := hHeld) (h := ?_)
    rotate_left
    ·intro w hSw
     try dsimp only at hSw
     go_simp
     all_goals with_reducible rfl
    try simp only [Act.put, List.setIfInBounds_toArray, List.set_cons_zero, List.set_cons_succ]
    refine tk (i := 2) (v := ?_) (hy := Or.inl ⟨by rfl, ?_⟩) (hS := hHeld) (h := ?_)
    rotate_left
    ·intro w hSw
     try dsimp only at hSw
     go_simp
     all_goals with_reducible rfl
    try simp only [Act.put, List.setIfInBounds_toArray, List.set_cons_zero, List.set_cons_succ]
    refine tk (i := 3) (v := ?_) (hy := Or.inl ⟨by rfl, ?_⟩) (hS := hHeld) (h := ?_)
    rotate_left
    ·intro w hSw
     try dsimp only at hSw
     obtain ⟨s0, s1, s2, s3⟩ := hSw
     go_simp
     all_goals with_reducible rfl
    try simp only [Act.put, List.setIfInBounds_toArray, List.set_cons_zero, List.set_cons_succ]
    refine tk (i := 4) (v := ?_) (hy := Or.inl ⟨by rfl, ?_⟩) (hS := hHeld) (h := ?_)
    rotate_left
    ·intro w hSw
     try dsimp only at hSw
     go_simp
     all_goals with_reducible rfl
    try simp only [Act.put, List.setIfInBounds_toArray, List.set_cons_zero, List.set_cons_succ]
    refine tk (i := 5) (v := ?_) (hy := Or.inl ⟨by rfl, ?_⟩) (hS := hHeld) (h := ?_)
    rotate_left
    ·intro w hSw
     try dsimp only at hSw
     go_simp
     all_goals with_reducible rfl
    try simp only [Act.put, List.setIfInBounds_toArray, List.set_cons_zero, List.set_cons_succ]
    refine tk (i := 6) (v := ?_) (hy := Or.inl ⟨by rfl, ?_⟩) (hS := hHeld) (h := ?_)
    rotate_left
    ·intro w hSw
     try dsimp only at hSw
     go_simp
     all_goals with_reducible rfl
    try simp only [Act.put, List.setIfInBounds_toArray, List.set_cons_zero, List.set_cons_succ]
    refine tk (i := 7) (v := ?_) (hy := Or.inl ⟨by rfl, ?_⟩) (hS := hHeld) (h := ?_)
    rotate_left
    ·intro w hSw
     try dsimp only at hSw
     obtain ⟨s0, s1, s2, s3⟩ := hSw
     go_simp
     all_goals with_reducible rfl
    try simp only [Act.put, List.setIfInBounds_toArray, List.set_cons_zero, List.set_cons_succ]
    refine tk (i := 8) (v := ?_) (hy := Or.inl ⟨by rfl, ?_⟩) (hS := hHeld) (h := ?_)
    rotate_left
    ·intro w hSw
     try dsimp only at hSw
     go_simp
     all_goals with_reducible rfl
    try simp only [Act.put, List.setIfInBounds_toArray, List.set_cons_zero, List.set_cons_succ]
    refine tk (i := 9) (v := ?_) (hy := Or.inl ⟨by rfl, ?_⟩) (hS := hHeld) (h := ?_)
    rotate_left
    ·intro w hSw
     try dsimp only at hSw
     go_simp
     all_goals with_reducible rfl
    try simp only [Act.put, List.setIfInBounds_toArray, List.set_cons_zero, List.set_cons_succ]
    try simp only [hsum]
    refine tk (i := 10) (v := ?_) (hy := Or.inl ⟨by rfl, ?_⟩) (hS := hHeld) (h := ?_)
    rotate_left
    ·intro w hSw
     try dsimp only at hSw
     obtain ⟨s0, s1, s2, s3⟩ := hSw
     go_simp
     all_goals with_reducible rfl
    try simp only [Act.put, List.setIfInBounds_toArray, List.set_cons_zero, List.set_cons_succ]
    refine wpAnyH_ready (rs := [11]) (by kernel_rfl) (by simp) ?_
    refine AllReadyH.cons (by simp only [List.getElem?_toArray, List.getElem?_cons_succ, List.getElem?_cons_zero]; rfl) (fun K hK => ?_) AllReadyH.nil
    go_simp
    refine (cw _ hsd).mono ?_
    rintro e w5 ⟨A5, c5, rfl, hown5, hbel5⟩
    have hk5 := Kept.of_below (F := []) hbel5
    obtain ⟨hs5, hA5⟩ := ClonePost.sl hown5
    have S5 : w5.cell? ⟨z, 0, none⟩ = some (.pointer (some ⟨a, 0, none⟩)) ∧ w5.cell? ⟨z, 1, none⟩ = some (.int .i64 s.first) ∧ w5.cell? ⟨B, 0, none⟩ = some (.int .i64 ((s.turn : Int) + 1)) ∧ w5.cell? ⟨B, 1, none⟩ = some (.slice A1 n d1) := ⟨(hk5.cell (p := ⟨z, 0, none⟩) (hTd.lt z hTd.zin) (by simp)).trans S0.1, (hk5.cell (p := ⟨z, 1, none⟩) (hTd.lt z hTd.zin) (by simp)).trans S0.2.1, (hk5.cell (p := ⟨B, 0, none⟩) hBl (by simp)).trans S0.2.2.1, (hk5.cell (p := ⟨B, 1, none⟩) hBl (by simp)).trans S0.2.2.2⟩
    clear hown5 hbel5 S0
    go_wp2_with fail
    refine hK.out _ _ ?_ (fun hHeld2 => ?_)
    ·exact S5
    clear hK K hHeld
    have hHeld := hHeld2
    clear hHeld2
    try simp only [Act.put, List.setIfInBounds_toArray, List.set_cons_zero, List.set_cons_succ]
    refine wpAnyH_ready (rs := [12]) (by kernel_rfl) (by simp) ?_
    refine AllReadyH.cons (by simp only [List.getElem?_toArray, List.getElem?_cons_succ, List.getElem?_cons_zero]; rfl) (fun K hK => ?_) AllReadyH.nil
    go_simp
    refine (cwr _ A5 c5 (hDd.new_kept hk5) hs5 (fun p e => hD.old (by have h1 := hA5 p e; have h2 := hkd.size; omega))).mono ?_
    rintro e w6 ⟨rfl, fp6, hD6, hk6, hf6⟩
    replace hD6 : Dv w6 a fp6 R := hD6
    have hT6 := (hTd.kept hk5 (by simp)).kept hk6 hne
    have hBf : B ∉ fp := hD.old hB
    have hbx6 := (hbxd.kept hk5 (by simp)).kept hk6 hBf
    have hkw6 : Kept fp w w6 := (hkd.trans hk5).mono (by simp) |>.trans hk6
    have hs6 := (hsd.kept hk5 (by simp)).kept hk6 (fun p e => hD.old (by have h1 := hf1 p e; omega))
    have S6 : w6.cell? ⟨z, 0, none⟩ = some (.pointer (some ⟨a, 0, none⟩)) ∧ w6.cell? ⟨z, 1, none⟩ = some (.int .i64 s.first) ∧ w6.cell? ⟨B, 0, none⟩ = some (.int .i64 ((s.turn : Int) + 1)) ∧ w6.cell? ⟨B, 1, none⟩ = some (.slice A1 n d1) := ⟨hT6.cells.1, hT6.cells.2.1, hbx6.cells.1, hbx6.cells.2.1⟩
    have hk5s : wc.heap.size ≤ w5.heap.size := hk5.size
    have hk6s : w.heap.size ≤ w5.heap.size := Nat.le_trans hkd.size hk5.size
    go_wp2_with fail
    refine hK.out _ _ ?_ (fun hHeld2 => ?_)
    ·exact S6
    clear hK K hHeld
    have hHeld := hHeld2
    clear hHeld2
    try simp only [Act.put, List.setIfInBounds_toArray, List.set_cons_zero, List.set_cons_succ]
    refine tk (i := 13) (v := ?_) (hy := Or.inl ⟨by rfl, ?_⟩) (hS := hHeld) (h := ?_)
    rotate_left
    ·intro w hSw
     try dsimp only at hSw
     go_simp
     all_goals with_reducible rfl
    try simp only [Act.put, List.setIfInBounds_toArray, List.set_cons_zero, List.set_cons_succ]
    refine wpAnyH_calm (by kernel_rfl) ?_ _
    clear hHeld S5 S6 cw cwr hs5 hA5 hk5 hDd hTd hkd hsd hbxd
    obtain ⟨c0, c1, c2, c3, cf⟩ := hT6.cells
    have hne6 : ∀ j ∈ sp, j ∉ fp6 := fun j hj hm => by
     rcases hf6 j hm with e | e
     ·exact hne j hj e
     ·have := hT.lt j hj; omega
    have hf6w : ∀ j ∈ fp6, j ∈ fp ∨ w.heap.size ≤ j := fun j hj => by
     rcases hf6 j hj with e | e
     ·exact .inl e
     ·exact .inr (by have := hk6s; omega)
    by_cases hR0 : er = 0
    ·subst hR0
     go_wp2_with fail
     refine (cfl _ fp6 hD6).mono ?_
     rintro e w7 ⟨rfl, fp7, hD7, hk7, hf7⟩
     replace hD7 : Dv w7 a fp7 Q := hD7
     have hT7 := hT6.kept hk7 hne6
     have hB6 : B ∉ fp6 := fun hm => by
      rcases hf6 B hm with e | e
      ·exact hBf e
      ·omega
     have hA6 : ∀ p, A1 = some p → p.block ∉ fp6 := fun p e hm => by
      have h1 := hf1 p e
      rcases hf6 _ hm with e | e
      ·exact hD.old h1.1 e
      ·omega
     have hbx7 := hbx6.kept hk7 hB6
     have hs7 := hs6.kept hk7 hA6
     have hf7w : ∀ j ∈ fp7, j ∈ fp ∨ w.heap.size ≤ j := fun j hj => by
      rcases hf7 j hj with e | e
      ·exact hf6w j e
      ·exact .inr (by have := hk6.size; omega)
     have hne7 : ∀ j ∈ sp, j ∉ fp7 := fun j hj hm => by
      rcases hf7 j hm with e | e
      ·exact hne6 j hj e
      ·have h1 := hT.lt j hj; have h2 := hk6.size; omega
     have hkw7 : Kept fp w w7 := hkw6.trans' hk7 hf6w
     obtain ⟨c0, c1, c2, c3, cf⟩ := hT7.cells
     obtain ⟨v4, c4⟩ := hT7.cell4
     obtain ⟨x0, x1, _, _⟩ := hbx7.cells
     clear hT6 hbx6 hs6
     by_cases hQ0 : eq = 0
     ·subst hQ0
      have hfin : s.save d b = ({ s with newer := wh, turn := s.turn + 1, text := b }, Q, 0) := by rw [HSV.out, if_neg (by simp), if_neg (by simp)]
      have HF := Lib.hid hfin
      clear hfin
      go_wp2_with fail
      go_ret
      rw [HF.out]
      obtain rfl : b.length = n := HBL.out
      have hz7 := hk7.size; have hz6 := hk6.size
      obtain ⟨t1, t2⟩ := tw_put hT7 wh (s.turn + 1) b A1 d1 hs7 hn1 (fun p e => by have h1 := hf1 p e; have h2 := hT.lt z hT.zin; omega)
      rw [show ((s.turn + 1 : Nat) : Int) = (s.turn : Int) + 1 by push_cast; rfl] at t1 t2
      have hin : ∀ j ∈ z :: (A1.map (·.block)).toList, j = z ∨ ∃ p, A1 = some p ∧ p.block = j := fun j hj => by
       simp only [List.mem_cons, Option.mem_toList, Option.map_eq_some_iff] at hj
       exact hj
      refine ⟨rfl, fp7, _, hD7.kept t2 (fun j hj hm => ?_), t1, ?_, hf7w, fun j hj => ?_, fun j hj hm => ?_⟩
      ·simp at hm
       subst hm
       exact hne7 _ hT.zin hj
      ·exact (hkw7.mono (G := fp ++ sp) (fun i hi => .inl (by simp [hi]))).trans' t2 (fun i hi => .inl (by simp at hi; subst hi; simp [hT.zin]))
      ·rcases hin j hj with rfl | ⟨p, e, rfl⟩
       ·exact .inl hT.zin
       ·exact .inr (hf1 p e).1
      ·rcases hin j hj with rfl | ⟨p, e, rfl⟩
       ·exact hne7 _ hT.zin hm
       ·have h1 := hf1 p e
        rcases hf7 _ hm with e | e
        ·exact hA6 p (by assumption) e
        ·omega
     ·have hqb : (eq != 0) = true := by simpa using hQ0
      have hfin : s.save d b = (s, Q, eq) := by rw [HSV.out, if_neg (by simp), if_pos hQ0]
      have HF := Lib.hid hfin
      clear hfin hQ0
      go_wp2_with fail
      go_ret
      rw [HF.out]
      exact ⟨rfl, fp7, sp, hD7, hT7, hkw7.mono (fun i hi => .inl (by simp [hi])), hf7w, fun j hj => .inl hj, hne7⟩
    ·have hrb : (er != 0) = true := by simpa using hR0
     have hfin : s.save d b = (s, R, er) := by rw [HSV.out, if_pos hR0]
     have HF := Lib.hid hfin
     clear hfin hR0
     go_wp2_with fail
     go_ret
     rw [HF.out]
     exact ⟨rfl, fp6, sp, hD6, hT6, hkw6.mono (fun i hi => .inl (by simp [hi])), hf6w, fun j hj => .inl hj, hne6⟩
end Go.Proofs.YtbnflbkaogpnbaaGreat
