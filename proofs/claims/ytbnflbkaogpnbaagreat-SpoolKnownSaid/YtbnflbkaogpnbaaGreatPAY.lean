/- Texts in one: G5. -/
import Derived.Test.YtbnflbkaogpnbaaGreatPAU
import Derived.Test.YtbnflbkaogpnbaaGreatPAX
namespace Go.Proofs.YtbnflbkaogpnbaaGreat
set_option linter.unusedVariables false
open Go.RowKit
/-- What a Save does. -/
def SaveR (w : World) (z r : Nat) (fp : List Nat) (x : Sl × Dev × Int) (e : Ending) (w' : World) : Prop :=
 e = .returned (.int .i64 x.2.2) ∧ ∃ fp', Rv w' r fp' x.2.1 ∧ R11At w' z r x.1 ∧ Kept (z :: fp) w w' ∧ ∀ j ∈ fp', j ∈ fp ∨ w.heap.size ≤ j
set_option maxHeartbeats 1000000 in
set_option maxRecDepth 100000 in
theorem ref11Save_any {w : World} {z r : Nat} {fp : List Nat} {s : Sl} {d : Dev} (hR : Rv w r fp d) (hw : d.Wf) (hS : R11At w z r s) (hz : z ∉ fp) (hnw : s.newer ≤ 1) (htn : s.turn < 9223372036854775000) (hfi : s.first < 9223372036854775000) (A : Option Addr) (n c : Nat) (b : List UInt8) (hb : SlAt w A n c (u8vs b))
  (hwk : d.works < 9223372036854000000) : Calls Tryz.prog 115 #[.pointer (some ⟨z, 0, none⟩), .slice A n c] w (SaveR w z r fp (s.save d b)) := by
 have hbl : b.length = n := by simpa [u8vs] using hb.len
 obtain ⟨c0, c1, c2, c3, f2, f3⟩ := hS.cells
 by_cases hbig : 100 < n
 ·have e1 : s.save d b = (s, d, 2) := by unfold Sl.save; rw [if_pos (by omega)]
  have i1 : (100 : Int) < (n : Int) := by omega
  rw [e1]
  clear e1 hbl
  go_enter Tryz.func115, Tryz.ntmps115
  go_wp2_with fail
  go_ret
  exact ⟨rfl, fp, hR, hS, Kept.refl _ _, fun j hj => .inl hj⟩
 ·have i1 : ¬ (100 : Int) < (n : Int) := by omega
  obtain ⟨q, hq⟩ : ∃ q, s.which = q := ⟨_, rfl⟩
  have hq1 : q ≤ 1 := by rw [← hq]; unfold Sl.which; split <;> omega
  obtain ⟨T, hT⟩ : ∃ T, s.turn + 1 = T := ⟨_, rfl⟩
  obtain ⟨F, hF⟩ : ∃ F, s.first + q = F := ⟨_, rfl⟩
  have hTb : T < 9223372036854775808 := by omega
  have w0 : IntKind.i64.wrap ((s.turn : Int) + 1) = (T : Int) := by rw [IntKind.wrap_i64]; omega
  have w0b : (s.turn : Int) + 1 = (T : Int) := by omega
  have w1 : IntKind.i64.wrap ((s.first : Int) + (q : Int)) = (F : Int) := by rw [IntKind.wrap_i64]; omega
  have w0d : IntKind.i64.wrap (T : Int) = (T : Int) := by rw [IntKind.wrap_i64]; omega
  have w1c : IntKind.i64.wrap (F : Int) = (F : Int) := by rw [IntKind.wrap_i64]; omega
  have w1b : (s.first : Int) + (q : Int) = (F : Int) := by omega
  have w2 : IntKind.i64.wrap (1 - (s.newer : Int)) = 1 - (s.newer : Int) := by rw [IntKind.wrap_i64]; omega
  have E1 := Lib.hid hbl
  by_cases ht0 : s.turn = 0
  ·have t0 : ((s.turn : Int) == 0) = true := by simp [ht0]
   have hwh : s.which = 0 := by unfold Sl.which; rw [if_pos ht0]
   have w3 : IntKind.i64.wrap ((s.first : Int)) = (s.first : Int) := by rw [IntKind.wrap_i64]; omega
   have w0c : IntKind.i64.wrap 1 = (T : Int) := by rw [IntKind.wrap_i64]; omega
   clear hq hq1 w1 w1b w1c
   obtain ⟨d1, n1, hd1⟩ : ∃ d1 n1, d.write (s.first : Int) (slotB T b) = (d1, n1) := ⟨_, _, rfl⟩
   have hw1 : d1.Wf := by have := hw.writeOk (s.first : Int) (slotB T b); rw [hd1] at this; exact this
   have hk1 : d1.works ≤ d.works + 1 := by have := write_works d (s.first : Int) (slotB T b); rw [hd1] at this; exact this
   have e1 : s.save d b = if n1 ≠ 0 then (s, d1, n1) else if d1.flush.2 ≠ 0 then (s, d1.flush.1, d1.flush.2) else (⟨s.first, 0, T, b⟩, d1.flush.1, 0) := by
    unfold Sl.save
    rw [if_neg (by rw [E1.out]; omega), hwh, hT]
    simp only [Nat.add_zero, hd1]
   have cw := fun W (h2 : Rv W r fp d) A5 c5 h5 => rv_write h2 hw (by omega) (s.first : Int) (slotB T b) A5 128 c5 h5
   rw [hd1] at cw
   have SE := Lib.hid e1; have HW := Lib.hid hd1
   have hzl := World.lt_of_heap hS
   clear hbl e1 hd1 hT hF
   go_enter Tryz.func115, Tryz.ntmps115
   go_wp2_with fail
   try simp only [Int.add_zero, w0, w0b, w0c, w0d, w3]
   have S0 : w.drew.cell? ⟨z, 0, none⟩ = some (.pointer (some ⟨r, 0, none⟩)) ∧ w.drew.cell? ⟨z, 1, none⟩ = some (.int .i64 s.first) ∧ w.drew.cell? ⟨z, 2, none⟩ = some (.int .i64 s.turn) := ⟨c0, c1, c2⟩
   have csec := ref11Sector_any w.drew T A n c b (hb.kept (Kept.drew [] w) (by simp)) (by omega) (by omega)
   clear c0 c1 c2 c3 f2 f3
   refine wp_region_calm (S := (fun W => W.cell? ⟨z, 0, none⟩ = some (.pointer (some ⟨r, 0, none⟩)) ∧ W.cell? ⟨z, 1, none⟩ = some (.int .i64 s.first) ∧ W.cell? ⟨z, 2, none⟩ = some (.int .i64 s.turn))) (by kernel_rfl) S0 (fun hHeld => ?_)
   refine tk (i := 0) (v := ?_) (hy := Or.inl ⟨by rfl, ?_⟩) (hS := hHeld) (h := ?_)
   rotate_left
   ·intro w hSw
    try dsimp only at hSw
    go_simp
    all_goals with_reducible rfl
   try simp only [Act.put, List.setIfInBounds_toArray, List.set_cons_zero, List.set_cons_succ]
   refine tk (i := 1) (v := ?_) (hy := Or.inl ⟨by rfl, ?_⟩) (hS := hHeld) (h := ?_)
   rotate_left
   ·intro w hSw
    try dsimp only at hSw
    go_simp
    all_goals with_reducible rfl
   try simp only [Act.put, List.setIfInBounds_toArray, List.set_cons_zero, List.set_cons_succ]
   refine tk (i := 2) (v := ?_) (hy := Or.inl ⟨by rfl, ?_⟩) (hS := hHeld) (h := ?_)
   rotate_left
   ·intro w hSw
    try dsimp only at hSw
    go_simp
    all_goals with_reducible rfl
   try simp only [Act.put, List.setIfInBounds_toArray, List.set_cons_zero, List.set_cons_succ]
   refine tk (i := 3) (v := ?_) (hy := Or.inl ⟨by rfl, ?_⟩) (hS := hHeld) (h := ?_)
   rotate_left
   ·intro w hSw
    try dsimp only at hSw
    obtain ⟨s0, s1, s2⟩ := hSw
    go_simp
    all_goals with_reducible rfl
   try simp only [Act.put, List.setIfInBounds_toArray, List.set_cons_zero, List.set_cons_succ]
   refine tk (i := 4) (v := ?_) (hy := Or.inl ⟨by rfl, ?_⟩) (hS := hHeld) (h := ?_)
   rotate_left
   ·intro w hSw
    try dsimp only at hSw
    go_simp
    all_goals with_reducible rfl
   try simp only [Act.put, List.setIfInBounds_toArray, List.set_cons_zero, List.set_cons_succ]
   refine tk (i := 5) (v := ?_) (hy := Or.inl ⟨by rfl, ?_⟩) (hS := hHeld) (h := ?_)
   rotate_left
   ·intro w hSw
    try dsimp only at hSw
    go_simp
    all_goals with_reducible rfl
   try simp only [Act.put, List.setIfInBounds_toArray, List.set_cons_zero, List.set_cons_succ]
   refine tk (i := 6) (v := ?_) (hy := Or.inl ⟨by rfl, ?_⟩) (hS := hHeld) (h := ?_)
   rotate_left
   ·intro w hSw
    try dsimp only at hSw
    go_simp
    all_goals with_reducible rfl
   try simp only [Act.put, List.setIfInBounds_toArray, List.set_cons_zero, List.set_cons_succ]
   refine tk (i := 7) (v := ?_) (hy := Or.inl ⟨by rfl, ?_⟩) (hS := hHeld) (h := ?_)
   rotate_left
   ·intro w hSw
    try dsimp only at hSw
    obtain ⟨s0, s1, s2⟩ := hSw
    go_simp
    all_goals with_reducible rfl
   try simp only [Act.put, List.setIfInBounds_toArray, List.set_cons_zero, List.set_cons_succ]
   refine tk (i := 8) (v := ?_) (hy := Or.inl ⟨by rfl, ?_⟩) (hS := hHeld) (h := ?_)
   rotate_left
   ·intro w hSw
    try dsimp only at hSw
    go_simp
    all_goals with_reducible rfl
   try simp only [Act.put, List.setIfInBounds_toArray, List.set_cons_zero, List.set_cons_succ]
   refine tk (i := 9) (v := ?_) (hy := Or.inl ⟨by rfl, ?_⟩) (hS := hHeld) (h := ?_)
   rotate_left
   ·intro w hSw
    try dsimp only at hSw
    go_simp
    all_goals with_reducible rfl
   try simp only [Act.put, List.setIfInBounds_toArray, List.set_cons_zero, List.set_cons_succ]
   try simp only [Int.add_zero, w0, w0b, w0c, w0d, w3]
   refine tk (i := 10) (v := ?_) (hy := Or.inl ⟨by rfl, ?_⟩) (hS := hHeld) (h := ?_)
   rotate_left
   ·intro w hSw
    try dsimp only at hSw
    go_simp
    all_goals with_reducible rfl
   try simp only [Act.put, List.setIfInBounds_toArray, List.set_cons_zero, List.set_cons_succ]
   refine tk (i := 11) (v := ?_) (hy := Or.inl ⟨by rfl, ?_⟩) (hS := hHeld) (h := ?_)
   rotate_left
   ·intro w hSw
    try dsimp only at hSw
    go_simp
    all_goals with_reducible rfl
   try simp only [Act.put, List.setIfInBounds_toArray, List.set_cons_zero, List.set_cons_succ]
   refine tk (i := 12) (v := ?_) (hy := Or.inl ⟨by rfl, ?_⟩) (hS := hHeld) (h := ?_)
   rotate_left
   ·intro w hSw
    try dsimp only at hSw
    go_simp
    all_goals with_reducible rfl
   try simp only [Act.put, List.setIfInBounds_toArray, List.set_cons_zero, List.set_cons_succ]
   refine tk (i := 13) (v := ?_) (hy := Or.inl ⟨by rfl, ?_⟩) (hS := hHeld) (h := ?_)
   rotate_left
   ·intro w hSw
    try dsimp only at hSw
    obtain ⟨s0, s1, s2⟩ := hSw
    go_simp
    all_goals with_reducible rfl
   try simp only [Act.put, List.setIfInBounds_toArray, List.set_cons_zero, List.set_cons_succ]
   refine tk (i := 14) (v := ?_) (hy := Or.inl ⟨by rfl, ?_⟩) (hS := hHeld) (h := ?_)
   rotate_left
   ·intro w hSw
    try dsimp only at hSw
    go_simp
    all_goals with_reducible rfl
   try simp only [Act.put, List.setIfInBounds_toArray, List.set_cons_zero, List.set_cons_succ]
   try simp only [Int.add_zero, w0, w0b, w0c, w0d, w3]
   refine tk (i := 15) (v := ?_) (hy := Or.inl ⟨by rfl, ?_⟩) (hS := hHeld) (h := ?_)
   rotate_left
   ·intro w hSw
    try dsimp only at hSw
    go_simp
    all_goals with_reducible rfl
   try simp only [Act.put, List.setIfInBounds_toArray, List.set_cons_zero, List.set_cons_succ]
   refine wpAnyH_ready (rs := [16]) (by kernel_rfl) (by simp) ?_
   refine AllReadyH.cons (by simp only [List.getElem?_toArray, List.getElem?_cons_succ, List.getElem?_cons_zero]; rfl) (fun K hK => ?_) AllReadyH.nil
   go_simp
   refine csec.mono ?_
   rintro e w5 ⟨A5, c5, rfl, hown5, hbel5⟩
   have hk5 := Kept.of_below (F := []) hbel5
   obtain ⟨hs5, _⟩ := ClonePost.sl hown5
   have hk05 := (Kept.drew [] w).trans hk5
   have hzl5 := Nat.lt_of_lt_of_le hzl hk05.size
   have S5 := And.intro ((hk5.cell (p := ⟨z, 0, none⟩) hzl (by simp)).trans S0.1) (And.intro ((hk5.cell (p := ⟨z, 1, none⟩) hzl (by simp)).trans S0.2.1) ((hk5.cell (p := ⟨z, 2, none⟩) hzl (by simp)).trans S0.2.2))
   clear hown5 hbel5 csec
   go_wp2_with fail
   refine hK.out _ _ ?_ (fun hHeld2 => ?_)
   ·exact S5
   clear hK K hHeld
   have hHeld := hHeld2
   clear hHeld2
   try simp only [Act.put, List.setIfInBounds_toArray, List.set_cons_zero, List.set_cons_succ]
   refine wpAnyH_ready (rs := [17]) (by kernel_rfl) (by simp) ?_
   refine AllReadyH.cons (by simp only [List.getElem?_toArray, List.getElem?_cons_succ, List.getElem?_cons_zero]; rfl) (fun K hK => ?_) AllReadyH.nil
   go_simp
   refine (cw _ (hR.new_kept hk05) A5 c5 hs5).mono ?_
   rintro e w6 ⟨rfl, fp6, hR6, hk6, hf6⟩
   replace hR6 : Rv w6 r fp6 d1 := hR6
   have hS6 := (hS.kept hk05 (by simp)).kept hk6 hz
   have S6 := And.intro hS6.cells.1 (And.intro hS6.cells.2.1 hS6.cells.2.2.1)
   clear cw
   go_wp2_with fail
   refine hK.out _ _ ?_ (fun hHeld2 => ?_)
   ·exact S6
   clear hK K hHeld
   have hHeld := hHeld2
   clear hHeld2
   try simp only [Act.put, List.setIfInBounds_toArray, List.set_cons_zero, List.set_cons_succ]
   refine tk (i := 18) (v := ?_) (hy := Or.inl ⟨by rfl, ?_⟩) (hS := hHeld) (h := ?_)
   rotate_left
   ·intro w hSw
    try dsimp only at hSw
    go_simp
    all_goals with_reducible rfl
   try simp only [Act.put, List.setIfInBounds_toArray, List.set_cons_zero, List.set_cons_succ]
   refine wpAnyH_calm (by kernel_rfl) ?_ _
   have hkw6 : Kept fp w w6 := (hk05.mono (by simp)).trans hk6
   have hf06 : ∀ j ∈ fp6, j ∈ fp ∨ w.heap.size ≤ j := fun j hj => by
    rcases hf6 j hj with h | h
    ·exact .inl h
    ·exact .inr (Nat.le_trans hk05.size h)
   have hz6 : z ∉ fp6 := fun hm => by
    rcases hf06 z hm with h | h
    ·exact hz h
    ·omega
   clear hk6 hf6 S6 S5 S0 hHeld
   by_cases hn1 : n1 ≠ 0
   ·have hnb : (n1 != 0) = true := by simpa using hn1
    have SE2 := SE.out
    rw [if_pos hn1] at SE2
    have HS2 := Lib.hid SE2
    have HN := Lib.hid hn1
    clear SE2 hn1 SE HW
    go_wp2_with fail
    go_ret
    show SaveR w z r fp (s.save d b) _ _
    rw [HS2.out]
    exact ⟨rfl, fp6, hR6, hS6, hkw6.mono (fun i hi => .inl (List.mem_cons_of_mem _ hi)), hf06⟩
   ·obtain rfl : n1 = 0 := by omega
    obtain ⟨d2, n2, hd2⟩ : ∃ d2 n2, d1.flush = (d2, n2) := ⟨_, _, rfl⟩
    have SE2 := SE.out
    rw [if_neg hn1, hd2] at SE2
    have cf := rv_flush hR6 hw1 (by omega)
    rw [hd2] at cf
    have HSE := Lib.hid SE2
    obtain ⟨k0, k1, k2, k3, g2, g3⟩ := hS6.cells
    clear hn1 SE SE2 hd2 k1 k2 k3 g2 g3 HW
    go_wp2_with fail
    refine cf.mono ?_
    rintro e w7 ⟨rfl, fp7, hR7, hk7, hf7⟩
    replace hR7 : Rv w7 r fp7 d2 := hR7
    have hS7 := hS6.kept hk7 hz6
    have hf07 : ∀ j ∈ fp7, j ∈ fp ∨ w.heap.size ≤ j := fun j hj => by
     rcases hf7 j hj with h | h
     ·exact hf06 j h
     ·exact .inr (Nat.le_trans hkw6.size h)
    have hkw7 : Kept fp w w7 := hkw6.trans' hk7 (fun j hj => hf06 j hj)
    clear cf hk7 hf7 k0
    by_cases hn2 : n2 ≠ 0
    ·have hnb : (n2 != 0) = true := by simpa using hn2
     have SE3 := HSE.out
     rw [if_pos hn2] at SE3
     have HS3 := Lib.hid SE3
     clear SE3 HSE
     have HN := Lib.hid hn2
     clear hn2
     go_wp2_with fail
     go_ret
     show SaveR w z r fp (s.save d b) _ _
     rw [HS3.out]
     exact ⟨rfl, fp7, hR7, hS7, hkw7.mono (fun i hi => .inl (List.mem_cons_of_mem _ hi)), hf07⟩
    ·obtain rfl : n2 = 0 := by omega
     have SE3 := HSE.out
     rw [if_neg hn2] at SE3
     have HS3 := Lib.hid SE3
     have hz7 : z ∉ fp7 := fun hm => by
      rcases hf07 z hm with h | h
      ·exact hz h
      ·omega
     clear SE3 HSE hn2
     obtain ⟨k0, k1, k2, k3, g2, g3⟩ := hS7.cells
     clear k0 k1
     go_wp2_with fail
     try simp only [Int.add_zero, w0, w0b, w0c, w0d, w3]
     go_ret
     show SaveR w z r fp (s.save d b) _ _
     rw [HS3.out]
     have hks : Kept [z] w7 ((w7.setCell ⟨z, 2, none⟩ (.int .i64 (T : Int))).setCell ⟨z, 3, none⟩ (.int .i64 ((0 : Nat) : Int))) := (Kept.setCell (by simp) _).trans (Kept.setCell (by simp) _)
     refine ⟨rfl, fp7, ?_, ?_, ?_, hf07⟩
     ·exact hR7.kept hks (fun j hj hm => by simp only [List.mem_singleton] at hm; subst hm; exact hz7 hj)
     ·have h1 := heap_set (heap_set hS7 2 (.int .i64 (T : Int))) 3 (.int .i64 ((0 : Nat) : Int))
      exact h1
     ·exact (hkw7.mono (fun i hi => .inl (List.mem_cons_of_mem _ hi))).trans (hks.mono (fun i hi => .inl (by simp only [List.mem_singleton] at hi; subst hi; exact List.mem_cons_self)))
  ·have t0 : ((s.turn : Int) == 0) = false := beq_eq_false_iff_ne.2 (by omega)
   have hwh : s.which = q := hq
   have w4 : (1 : Int) - (s.newer : Int) = (q : Int) := by
    rw [← hq]
    unfold Sl.which
    rw [if_neg ht0]
    omega
   have w5 : IntKind.i64.wrap (q : Int) = (q : Int) := by rw [IntKind.wrap_i64]; omega
   clear hq w2
   obtain ⟨d1, n1, hd1⟩ : ∃ d1 n1, d.write (F : Int) (slotB T b) = (d1, n1) := ⟨_, _, rfl⟩
   have hw1 : d1.Wf := by have := hw.writeOk (F : Int) (slotB T b); rw [hd1] at this; exact this
   have hk1 : d1.works ≤ d.works + 1 := by have := write_works d (F : Int) (slotB T b); rw [hd1] at this; exact this
   have e1 : s.save d b = if n1 ≠ 0 then (s, d1, n1) else if d1.flush.2 ≠ 0 then (s, d1.flush.1, d1.flush.2) else (⟨s.first, q, T, b⟩, d1.flush.1, 0) := by
    unfold Sl.save
    rw [if_neg (by rw [E1.out]; omega), hwh, hT]
    simp only [hF, hd1]
   have cw := fun W (h2 : Rv W r fp d) A5 c5 h5 => rv_write h2 hw (by omega) (F : Int) (slotB T b) A5 128 c5 h5
   rw [hd1] at cw
   have SE := Lib.hid e1; have HW := Lib.hid hd1
   have hzl := World.lt_of_heap hS
   clear hbl e1 hd1 hT hF
   go_enter Tryz.func115, Tryz.ntmps115
   go_wp2_with fail
   try simp only [w4, w5, w0, w0b, w0d, w1, w1b, w1c]
   have S0 : w.drew.cell? ⟨z, 0, none⟩ = some (.pointer (some ⟨r, 0, none⟩)) ∧ w.drew.cell? ⟨z, 1, none⟩ = some (.int .i64 s.first) ∧ w.drew.cell? ⟨z, 2, none⟩ = some (.int .i64 s.turn) := ⟨c0, c1, c2⟩
   have csec := ref11Sector_any w.drew T A n c b (hb.kept (Kept.drew [] w) (by simp)) (by omega) (by omega)
   clear c0 c1 c2 c3 f2 f3
   refine wp_region_calm (S := (fun W => W.cell? ⟨z, 0, none⟩ = some (.pointer (some ⟨r, 0, none⟩)) ∧ W.cell? ⟨z, 1, none⟩ = some (.int .i64 s.first) ∧ W.cell? ⟨z, 2, none⟩ = some (.int .i64 s.turn))) (by kernel_rfl) S0 (fun hHeld => ?_)
   refine tk (i := 0) (v := ?_) (hy := Or.inl ⟨by rfl, ?_⟩) (hS := hHeld) (h := ?_)
   rotate_left
   ·intro w hSw
    try dsimp only at hSw
    go_simp
    all_goals with_reducible rfl
   try simp only [Act.put, List.setIfInBounds_toArray, List.set_cons_zero, List.set_cons_succ]
   refine tk (i := 1) (v := ?_) (hy := Or.inl ⟨by rfl, ?_⟩) (hS := hHeld) (h := ?_)
   rotate_left
   ·intro w hSw
    try dsimp only at hSw
    go_simp
    all_goals with_reducible rfl
   try simp only [Act.put, List.setIfInBounds_toArray, List.set_cons_zero, List.set_cons_succ]
   refine tk (i := 2) (v := ?_) (hy := Or.inl ⟨by rfl, ?_⟩) (hS := hHeld) (h := ?_)
   rotate_left
   ·intro w hSw
    try dsimp only at hSw
    go_simp
    all_goals with_reducible rfl
   try simp only [Act.put, List.setIfInBounds_toArray, List.set_cons_zero, List.set_cons_succ]
   refine tk (i := 3) (v := ?_) (hy := Or.inl ⟨by rfl, ?_⟩) (hS := hHeld) (h := ?_)
   rotate_left
   ·intro w hSw
    try dsimp only at hSw
    obtain ⟨s0, s1, s2⟩ := hSw
    go_simp
    all_goals with_reducible rfl
   try simp only [Act.put, List.setIfInBounds_toArray, List.set_cons_zero, List.set_cons_succ]
   refine tk (i := 4) (v := ?_) (hy := Or.inl ⟨by rfl, ?_⟩) (hS := hHeld) (h := ?_)
   rotate_left
   ·intro w hSw
    try dsimp only at hSw
    go_simp
    all_goals with_reducible rfl
   try simp only [Act.put, List.setIfInBounds_toArray, List.set_cons_zero, List.set_cons_succ]
   refine tk (i := 5) (v := ?_) (hy := Or.inl ⟨by rfl, ?_⟩) (hS := hHeld) (h := ?_)
   rotate_left
   ·intro w hSw
    try dsimp only at hSw
    go_simp
    all_goals with_reducible rfl
   try simp only [Act.put, List.setIfInBounds_toArray, List.set_cons_zero, List.set_cons_succ]
   refine tk (i := 6) (v := ?_) (hy := Or.inl ⟨by rfl, ?_⟩) (hS := hHeld) (h := ?_)
   rotate_left
   ·intro w hSw
    try dsimp only at hSw
    go_simp
    all_goals with_reducible rfl
   try simp only [Act.put, List.setIfInBounds_toArray, List.set_cons_zero, List.set_cons_succ]
   refine tk (i := 7) (v := ?_) (hy := Or.inl ⟨by rfl, ?_⟩) (hS := hHeld) (h := ?_)
   rotate_left
   ·intro w hSw
    try dsimp only at hSw
    obtain ⟨s0, s1, s2⟩ := hSw
    go_simp
    all_goals with_reducible rfl
   try simp only [Act.put, List.setIfInBounds_toArray, List.set_cons_zero, List.set_cons_succ]
   refine tk (i := 8) (v := ?_) (hy := Or.inl ⟨by rfl, ?_⟩) (hS := hHeld) (h := ?_)
   rotate_left
   ·intro w hSw
    try dsimp only at hSw
    go_simp
    all_goals with_reducible rfl
   try simp only [Act.put, List.setIfInBounds_toArray, List.set_cons_zero, List.set_cons_succ]
   refine tk (i := 9) (v := ?_) (hy := Or.inl ⟨by rfl, ?_⟩) (hS := hHeld) (h := ?_)
   rotate_left
   ·intro w hSw
    try dsimp only at hSw
    go_simp
    all_goals with_reducible rfl
   try simp only [Act.put, List.setIfInBounds_toArray, List.set_cons_zero, List.set_cons_succ]
   try simp only [w4, w5, w0, w0b, w0d, w1, w1b, w1c]
   refine tk (i := 10) (v := ?_) (hy := Or.inl ⟨by rfl, ?_⟩) (hS := hHeld) (h := ?_)
   rotate_left
   ·intro w hSw
    try dsimp only at hSw
    go_simp
    all_goals with_reducible rfl
   try simp only [Act.put, List.setIfInBounds_toArray, List.set_cons_zero, List.set_cons_succ]
   refine tk (i := 11) (v := ?_) (hy := Or.inl ⟨by rfl, ?_⟩) (hS := hHeld) (h := ?_)
   rotate_left
   ·intro w hSw
    try dsimp only at hSw
    go_simp
    all_goals with_reducible rfl
   try simp only [Act.put, List.setIfInBounds_toArray, List.set_cons_zero, List.set_cons_succ]
   refine tk (i := 12) (v := ?_) (hy := Or.inl ⟨by rfl, ?_⟩) (hS := hHeld) (h := ?_)
   rotate_left
   ·intro w hSw
    try dsimp only at hSw
    go_simp
    all_goals with_reducible rfl
   try simp only [Act.put, List.setIfInBounds_toArray, List.set_cons_zero, List.set_cons_succ]
   refine tk (i := 13) (v := ?_) (hy := Or.inl ⟨by rfl, ?_⟩) (hS := hHeld) (h := ?_)
   rotate_left
   ·intro w hSw
    try dsimp only at hSw
    obtain ⟨s0, s1, s2⟩ := hSw
    go_simp
    all_goals with_reducible rfl
   try simp only [Act.put, List.setIfInBounds_toArray, List.set_cons_zero, List.set_cons_succ]
   refine tk (i := 14) (v := ?_) (hy := Or.inl ⟨by rfl, ?_⟩) (hS := hHeld) (h := ?_)
   rotate_left
   ·intro w hSw
    try dsimp only at hSw
    go_simp
    all_goals with_reducible rfl
   try simp only [Act.put, List.setIfInBounds_toArray, List.set_cons_zero, List.set_cons_succ]
   try simp only [w4, w5, w0, w0b, w0d, w1, w1b, w1c]
   refine tk (i := 15) (v := ?_) (hy := Or.inl ⟨by rfl, ?_⟩) (hS := hHeld) (h := ?_)
   rotate_left
   ·intro w hSw
    try dsimp only at hSw
    go_simp
    all_goals with_reducible rfl
   try simp only [Act.put, List.setIfInBounds_toArray, List.set_cons_zero, List.set_cons_succ]
   refine wpAnyH_ready (rs := [16]) (by kernel_rfl) (by simp) ?_
   refine AllReadyH.cons (by simp only [List.getElem?_toArray, List.getElem?_cons_succ, List.getElem?_cons_zero]; rfl) (fun K hK => ?_) AllReadyH.nil
   go_simp
   refine csec.mono ?_
   rintro e w5 ⟨A5, c5, rfl, hown5, hbel5⟩
   have hk5 := Kept.of_below (F := []) hbel5
   obtain ⟨hs5, _⟩ := ClonePost.sl hown5
   have hk05 := (Kept.drew [] w).trans hk5
   have hzl5 := Nat.lt_of_lt_of_le hzl hk05.size
   have S5 := And.intro ((hk5.cell (p := ⟨z, 0, none⟩) hzl (by simp)).trans S0.1) (And.intro ((hk5.cell (p := ⟨z, 1, none⟩) hzl (by simp)).trans S0.2.1) ((hk5.cell (p := ⟨z, 2, none⟩) hzl (by simp)).trans S0.2.2))
   clear hown5 hbel5 csec
   go_wp2_with fail
   refine hK.out _ _ ?_ (fun hHeld2 => ?_)
   ·exact S5
   clear hK K hHeld
   have hHeld := hHeld2
   clear hHeld2
   try simp only [Act.put, List.setIfInBounds_toArray, List.set_cons_zero, List.set_cons_succ]
   refine wpAnyH_ready (rs := [17]) (by kernel_rfl) (by simp) ?_
   refine AllReadyH.cons (by simp only [List.getElem?_toArray, List.getElem?_cons_succ, List.getElem?_cons_zero]; rfl) (fun K hK => ?_) AllReadyH.nil
   go_simp
   refine (cw _ (hR.new_kept hk05) A5 c5 hs5).mono ?_
   rintro e w6 ⟨rfl, fp6, hR6, hk6, hf6⟩
   replace hR6 : Rv w6 r fp6 d1 := hR6
   have hS6 := (hS.kept hk05 (by simp)).kept hk6 hz
   have S6 := And.intro hS6.cells.1 (And.intro hS6.cells.2.1 hS6.cells.2.2.1)
   clear cw
   go_wp2_with fail
   refine hK.out _ _ ?_ (fun hHeld2 => ?_)
   ·exact S6
   clear hK K hHeld
   have hHeld := hHeld2
   clear hHeld2
   try simp only [Act.put, List.setIfInBounds_toArray, List.set_cons_zero, List.set_cons_succ]
   refine tk (i := 18) (v := ?_) (hy := Or.inl ⟨by rfl, ?_⟩) (hS := hHeld) (h := ?_)
   rotate_left
   ·intro w hSw
    try dsimp only at hSw
    go_simp
    all_goals with_reducible rfl
   try simp only [Act.put, List.setIfInBounds_toArray, List.set_cons_zero, List.set_cons_succ]
   refine wpAnyH_calm (by kernel_rfl) ?_ _
   have hkw6 : Kept fp w w6 := (hk05.mono (by simp)).trans hk6
   have hf06 : ∀ j ∈ fp6, j ∈ fp ∨ w.heap.size ≤ j := fun j hj => by
    rcases hf6 j hj with h | h
    ·exact .inl h
    ·exact .inr (Nat.le_trans hk05.size h)
   have hz6 : z ∉ fp6 := fun hm => by
    rcases hf06 z hm with h | h
    ·exact hz h
    ·omega
   clear hk6 hf6 S6 S5 S0 hHeld
   by_cases hn1 : n1 ≠ 0
   ·have hnb : (n1 != 0) = true := by simpa using hn1
    have SE2 := SE.out
    rw [if_pos hn1] at SE2
    have HS2 := Lib.hid SE2
    have HN := Lib.hid hn1
    clear SE2 hn1 SE HW
    go_wp2_with fail
    go_ret
    show SaveR w z r fp (s.save d b) _ _
    rw [HS2.out]
    exact ⟨rfl, fp6, hR6, hS6, hkw6.mono (fun i hi => .inl (List.mem_cons_of_mem _ hi)), hf06⟩
   ·obtain rfl : n1 = 0 := by omega
    obtain ⟨d2, n2, hd2⟩ : ∃ d2 n2, d1.flush = (d2, n2) := ⟨_, _, rfl⟩
    have SE2 := SE.out
    rw [if_neg hn1, hd2] at SE2
    have cf := rv_flush hR6 hw1 (by omega)
    rw [hd2] at cf
    have HSE := Lib.hid SE2
    obtain ⟨k0, k1, k2, k3, g2, g3⟩ := hS6.cells
    clear hn1 SE SE2 hd2 k1 k2 k3 g2 g3 HW
    go_wp2_with fail
    refine cf.mono ?_
    rintro e w7 ⟨rfl, fp7, hR7, hk7, hf7⟩
    replace hR7 : Rv w7 r fp7 d2 := hR7
    have hS7 := hS6.kept hk7 hz6
    have hf07 : ∀ j ∈ fp7, j ∈ fp ∨ w.heap.size ≤ j := fun j hj => by
     rcases hf7 j hj with h | h
     ·exact hf06 j h
     ·exact .inr (Nat.le_trans hkw6.size h)
    have hkw7 : Kept fp w w7 := hkw6.trans' hk7 (fun j hj => hf06 j hj)
    clear cf hk7 hf7 k0
    by_cases hn2 : n2 ≠ 0
    ·have hnb : (n2 != 0) = true := by simpa using hn2
     have SE3 := HSE.out
     rw [if_pos hn2] at SE3
     have HS3 := Lib.hid SE3
     clear SE3 HSE
     have HN := Lib.hid hn2
     clear hn2
     go_wp2_with fail
     go_ret
     show SaveR w z r fp (s.save d b) _ _
     rw [HS3.out]
     exact ⟨rfl, fp7, hR7, hS7, hkw7.mono (fun i hi => .inl (List.mem_cons_of_mem _ hi)), hf07⟩
    ·obtain rfl : n2 = 0 := by omega
     have SE3 := HSE.out
     rw [if_neg hn2] at SE3
     have HS3 := Lib.hid SE3
     have hz7 : z ∉ fp7 := fun hm => by
      rcases hf07 z hm with h | h
      ·exact hz h
      ·omega
     clear SE3 HSE hn2
     obtain ⟨k0, k1, k2, k3, g2, g3⟩ := hS7.cells
     clear k0 k1
     go_wp2_with fail
     try simp only [w4, w5, w0, w0b, w0d, w1, w1b, w1c]
     go_ret
     show SaveR w z r fp (s.save d b) _ _
     rw [HS3.out]
     have hks : Kept [z] w7 ((w7.setCell ⟨z, 2, none⟩ (.int .i64 (T : Int))).setCell ⟨z, 3, none⟩ (.int .i64 ((q : Nat) : Int))) := (Kept.setCell (by simp) _).trans (Kept.setCell (by simp) _)
     refine ⟨rfl, fp7, ?_, ?_, ?_, hf07⟩
     ·exact hR7.kept hks (fun j hj hm => by simp only [List.mem_singleton] at hm; subst hm; exact hz7 hj)
     ·have h1 := heap_set (heap_set hS7 2 (.int .i64 (T : Int))) 3 (.int .i64 ((q : Nat) : Int))
      exact h1
     ·exact (hkw7.mono (fun i hi => .inl (List.mem_cons_of_mem _ hi))).trans (hks.mono (fun i hi => .inl (by simp only [List.mem_singleton] at hi; subst hi; exact List.mem_cons_self)))
end Go.Proofs.YtbnflbkaogpnbaaGreat
