/- Texts in one: V4. -/
import Derived.Test.YtbnflbkaogpnbaaGreatPAG
import Derived.Deep.CutRange
import Derived.Test.YtbnflbkaogpnbaaGreatPAI
namespace Go.Proofs.YtbnflbkaogpnbaaGreat
open Go.RowKit Go.Shelf
attribute [local go_sem] Oper.semAt_some
set_option maxHeartbeats 4000000 in
set_option maxRecDepth 100000 in
theorem append_any {w : World} {z a : Nat} {fp sp : List Nat} {s : St} {d : Dev} (hD : Dv w a fp d) (hS : StAt w z a sp s) (hne : ∀ j ∈ sp, j ∉ fp) (hw : s.Wf d) (A : Option Addr) (n c : Nat) (b : List UInt8) (hb : SlAt w A n c (u8vs b)) (hA : A = none → c = 0)
  (hwk : d.works < 9223372036854000000) : Calls Tryz.prog 18 #[.pointer (some ⟨z, 0, none⟩), .slice A n c] w (AppPost w z a fp sp (s.append d b)) := by
 have hbl : b.length = n := by simpa [u8vs] using hb.len
 obtain ⟨W, hW⟩ : ∃ W, (w.alloc (.cells #[.pointer (some ⟨z, 0, none⟩)] 31)).alloc (.cells #[.int .i64 0] 23) = W := ⟨_, rfl⟩
 have hk : Kept [] w W := by rw [← hW]; exact (Kept.alloc [] w _).trans (Kept.alloc [] _ _)
 have hs : W.heap[w.heap.size]? = some (.cells #[.pointer (some ⟨z, 0, none⟩)] 31 (0, 0)) := by rw [← hW, Below.heap_alloc _ _ _ (by simp), heap_alloc_new]
 have hr : W.heap[w.heap.size + 1]? = some (.cells #[.int .i64 0] 23 (0, 0)) := by
  have h := heap_alloc_new (w.alloc (.cells #[.pointer (some ⟨z, 0, none⟩)] 31)) (.cells #[.int .i64 0] 23)
  simp only [World.size_alloc] at h
  rw [← hW]; exact h
 have hSW := hS.kept hk (by simp)
 have hbW := hb.kept hk (by simp)
 have hDW := hD.new_kept hk
 obtain ⟨c0, c1, c2, c3, cf⟩ := hSW.cells
 have x0 : W.cell? ⟨w.heap.size, 0, none⟩ = some (.pointer (some ⟨z, 0, none⟩)) := by rw [blk_cell hs]; rfl
 have y0 : W.cell? ⟨w.heap.size + 1, 0, none⟩ = some (.int .i64 0) := by rw [blk_cell hr]; rfl
 have yf : W.frozen? ⟨w.heap.size + 1, 0, none⟩ = false := blk_frozen hr 0
 have hnc := hb.le; have hcm := hb.max
 unfold maxLen at hcm
 have HB := Lib.hid hb
 clear hb
 have hDold : ∀ {j}, w.heap.size ≤ j → j ∉ fp := fun h => hD.old h
 have hSold : ∀ {j}, w.heap.size ≤ j → j ∉ sp := fun h hm => by have := hS.lt _ hm; omega
 have hmany : s.many ≤ 10000 := by have h1 := hw.there; have h2 := hD.wf.many; omega
 by_cases h1 : 16384 < n
 ·have e1 : s.append d b = (s, d, 5) := by unfold St.append; rw [if_pos (by omega)]
  have i1 : (16384 : Int) < (n : Int) := by omega
  rw [e1]
  clear e1 h1
  refine (callsIn_wide (n := 10)).1 ?_
  refine callsIn_of_wp_marks Tryz.func18 rfl trivial ?_ rfl
  simp only [Tryz.ntmps18, List.size_toArray, List.length_cons, List.length_nil, Nat.reduceAdd, Nat.reduceSub, Array.replicate_succ, Array.replicate_zero, List.push_toArray, List.append_toArray, List.nil_append, List.cons_append]
  refine wpIn_wide.2 ?_
  go_wp2_with fail
  refine ⟨_, results_cell_int rfl _ _ (w.heap.size + 1) (.int .i64 5) rfl (World.cell?_setCell_same' _ _ _ (by rw [y0]; rfl)) Tryz.underlying23, ?_⟩
  exact app_out hDW hSW (hk.mono (by simp)) (fun j hj => .inl hj) (fun j hj => .inl hj) hne (by omega) (hDold (by omega)) (hSold (by omega)) _
 ·by_cases h2 : (128 * s.many : Int) - s.fin < n + 7
  ·have e1 : s.append d b = (s, d, 101) := by unfold St.append; rw [if_neg (by omega), if_pos (by omega)]
   have i1 : ¬ (16384 : Int) < (n : Int) := by omega
   rw [e1]
   clear e1 h1
   have hsz : stripSize n = n + 7 := by unfold stripSize; rw [if_neg (by omega)]
   refine (callsIn_wide (n := 10)).1 ?_
   refine callsIn_of_wp_marks Tryz.func18 rfl trivial ?_ rfl
   simp only [Tryz.ntmps18, List.size_toArray, List.length_cons, List.length_nil, Nat.reduceAdd, Nat.reduceSub, Array.replicate_succ, Array.replicate_zero, List.push_toArray, List.append_toArray, List.nil_append, List.cons_append]
   refine wpIn_wide.2 ?_
   go_wp2_with fail
   refine wp_region_calm (S := (fun W => W.cell? ⟨w.heap.size, 0, none⟩ = some (.pointer (some ⟨z, 0, none⟩)))) (by kernel_rfl) x0 (fun hHeld => ?_)
   refine tk (i := 0) (v := ?_) (hy := Or.inl ⟨by rfl, ?_⟩) (hS := hHeld) (h := ?_)
   rotate_left
   ·intro w hSw
    try dsimp only at hSw
    go_simp
    all_goals with_reducible rfl
   try simp only [Act.put, List.setIfInBounds_toArray, List.set_cons_zero, List.set_cons_succ]
   refine tk (i := 1) (v := ?_) (hy := Or.inl ⟨by rfl, ?_⟩) (hS := hHeld) (h := ?_)
   rotate_left
   ·intro w hSw
    try dsimp only at hSw
    go_simp
    all_goals with_reducible rfl
   try simp only [Act.put, List.setIfInBounds_toArray, List.set_cons_zero, List.set_cons_succ]
   refine tk (i := 3) (v := ?_) (hy := Or.inl ⟨by rfl, ?_⟩) (hS := hHeld) (h := ?_)
   rotate_left
   ·intro w hSw
    try dsimp only at hSw
    go_simp
    all_goals with_reducible rfl
   try simp only [Act.put, List.setIfInBounds_toArray, List.set_cons_zero, List.set_cons_succ]
   refine wpAnyH_ready (rs := [2]) (by kernel_rfl) (by simp) ?_
   refine AllReadyH.cons (by simp only [List.getElem?_toArray, List.getElem?_cons_succ, List.getElem?_cons_zero]; rfl) (fun K hK => ?_) AllReadyH.nil
   go_simp
   refine (stripSize_any _ _).mono ?_
   rintro e w' ⟨rfl, rfl⟩
   go_wp2_with fail
   refine hK.out _ _ ?_ (fun hHeld2 => ?_)
   ·exact x0
   clear hK K hHeld
   have hHeld := hHeld2
   clear hHeld2
   try simp only [Act.put, List.setIfInBounds_toArray, List.set_cons_zero, List.set_cons_succ]
   refine wpAnyH_ready (rs := [4]) (by kernel_rfl) (by simp) ?_
   refine AllReadyH.cons (by simp only [List.getElem?_toArray, List.getElem?_cons_succ, List.getElem?_cons_zero]; rfl) (fun K hK => ?_) AllReadyH.nil
   go_simp
   refine (stripLeft_any (hSW.kept (Kept.drew [] W) (by simp)) hmany hw.fin).mono ?_
   rintro e w' ⟨rfl, q, rfl⟩
   go_wp2_with fail
   refine hK.out _ _ ?_ (fun hHeld2 => ?_)
   ·exact x0
   clear hK K hHeld
   have hHeld := hHeld2
   clear hHeld2
   try simp only [Act.put, List.setIfInBounds_toArray, List.set_cons_zero, List.set_cons_succ]
   refine tk (i := 5) (v := ?_) (hy := Or.inl ⟨by rfl, ?_⟩) (hS := hHeld) (h := ?_)
   rotate_left
   ·intro w hSw
    try dsimp only at hSw
    go_simp
    all_goals with_reducible rfl
   try simp only [Act.put, List.setIfInBounds_toArray, List.set_cons_zero, List.set_cons_succ]
   refine tk (i := 6) (v := ?_) (hy := Or.inl ⟨by rfl, ?_⟩) (hS := hHeld) (h := ?_)
   rotate_left
   ·intro w hSw
    try dsimp only at hSw
    go_simp
    all_goals with_reducible rfl
   try simp only [Act.put, List.setIfInBounds_toArray, List.set_cons_zero, List.set_cons_succ]
   refine wpAnyH_calm (by kernel_rfl) ?_ _
   go_wp2_with fail
   refine ⟨_, results_cell_int rfl _ _ (w.heap.size + 1) (.int .i64 101) rfl (World.cell?_setCell_same' _ _ _ (by rw [show (W.drewN (1 + q)).cell? ⟨w.heap.size + 1, 0, none⟩ = W.cell? ⟨w.heap.size + 1, 0, none⟩ from rfl, y0]; rfl)) Tryz.underlying23, ?_⟩
   exact app_out (hDW.new_kept (Kept.drewN _ _ _)) (hSW.kept (Kept.drewN [] _ _) (by simp)) ((hk.trans (Kept.drewN [] _ _)).mono (by simp)) (fun j hj => .inl hj) (fun j hj => .inl hj) hne (by omega) (hDold (by omega)) (hSold (by omega)) _
  ·have i1 : ¬ (16384 : Int) < (n : Int) := by omega
   have hsz : stripSize n = n + 7 := by unfold stripSize; rw [if_neg (by omega)]
   have hgt : ¬ (128 * (s.many : Int) - (s.fin : Int)) < (n : Int) + 7 := h2
   obtain ⟨AL, cL, hzl, hsl, hAL, hLn⟩ := hSW.head
   have hwd : IntKind.i64.wrap ((s.fin : Int) / 128) = (s.fin : Int) / 128 := by rw [IntKind.wrap_i64]; have h1 := hw.fin; omega
   have hll0 := hw.last
   have hll1 : s.last.length ≤ 127 := by omega
   clear hll0
   have hP : ApAt w W z a AL cL fp s d A n c b := ⟨hDW, hzl, hsl, hs, hr, hbW, hk⟩
   have hnz := hS.lt z hS.zin
   have hPS := hP.S
   have hO : ApOld w z AL fp A n := ⟨hnz, hD.lt, fun p e => hS.lt _ (hLn p e).1, fun p e hn => HB.out.lt' hn e⟩
   refine (callsIn_wide (n := 10)).1 ?_
   refine callsIn_of_wp_marks Tryz.func18 rfl trivial ?_ rfl
   simp only [Tryz.ntmps18, List.size_toArray, List.length_cons, List.length_nil, Nat.reduceAdd, Nat.reduceSub, Array.replicate_succ, Array.replicate_zero, List.push_toArray, List.append_toArray, List.nil_append, List.cons_append]
   refine wpIn_wide.2 ?_
   go_wp2_with fail
   refine wp_region_calm (S := (fun W => W.cell? ⟨w.heap.size, 0, none⟩ = some (.pointer (some ⟨z, 0, none⟩)))) (by kernel_rfl) x0 (fun hHeld => ?_)
   refine tk (i := 0) (v := ?_) (hy := Or.inl ⟨by rfl, ?_⟩) (hS := hHeld) (h := ?_)
   rotate_left
   ·intro w hSw
    try dsimp only at hSw
    go_simp
    all_goals with_reducible rfl
   try simp only [Act.put, List.setIfInBounds_toArray, List.set_cons_zero, List.set_cons_succ]
   refine tk (i := 1) (v := ?_) (hy := Or.inl ⟨by rfl, ?_⟩) (hS := hHeld) (h := ?_)
   rotate_left
   ·intro w hSw
    try dsimp only at hSw
    go_simp
    all_goals with_reducible rfl
   try simp only [Act.put, List.setIfInBounds_toArray, List.set_cons_zero, List.set_cons_succ]
   refine tk (i := 3) (v := ?_) (hy := Or.inl ⟨by rfl, ?_⟩) (hS := hHeld) (h := ?_)
   rotate_left
   ·intro w hSw
    try dsimp only at hSw
    go_simp
    all_goals with_reducible rfl
   try simp only [Act.put, List.setIfInBounds_toArray, List.set_cons_zero, List.set_cons_succ]
   refine wpAnyH_ready (rs := [2]) (by kernel_rfl) (by simp) ?_
   refine AllReadyH.cons (by simp only [List.getElem?_toArray, List.getElem?_cons_succ, List.getElem?_cons_zero]; rfl) (fun K hK => ?_) AllReadyH.nil
   go_simp
   refine (stripSize_any _ _).mono ?_
   rintro e w' ⟨rfl, rfl⟩
   go_wp2_with fail
   refine hK.out _ _ ?_ (fun hHeld2 => ?_)
   ·exact x0
   clear hK K hHeld
   have hHeld := hHeld2
   clear hHeld2
   try simp only [Act.put, List.setIfInBounds_toArray, List.set_cons_zero, List.set_cons_succ]
   refine wpAnyH_ready (rs := [4]) (by kernel_rfl) (by simp) ?_
   refine AllReadyH.cons (by simp only [List.getElem?_toArray, List.getElem?_cons_succ, List.getElem?_cons_zero]; rfl) (fun K hK => ?_) AllReadyH.nil
   go_simp
   refine (stripLeft_any (hSW.kept (Kept.drew [] W) (by simp)) hmany hw.fin).mono ?_
   rintro e w3 ⟨rfl, q, hq3⟩
   have hk3 : Kept [] W w3 := by rw [hq3]; exact (Kept.drew [] W).trans (Kept.drewN [] _ q)
   clear hq3
   have hP3 := hP.next hk3
   have hsz3 : w.heap.size + 2 ≤ w3.heap.size := by have h1 := World.lt_of_heap hP3.rt; omega
   go_wp2_with fail
   refine hK.out _ _ ?_ (fun hHeld2 => ?_)
   ·exact hP3.S.1
   clear hK K hHeld
   have hHeld := hHeld2
   clear hHeld2
   try simp only [Act.put, List.setIfInBounds_toArray, List.set_cons_zero, List.set_cons_succ]
   refine tk (i := 5) (v := ?_) (hy := Or.inl ⟨by rfl, ?_⟩) (hS := hHeld) (h := ?_)
   rotate_left
   ·intro w hSw
    try dsimp only at hSw
    go_simp
    all_goals with_reducible rfl
   try simp only [Act.put, List.setIfInBounds_toArray, List.set_cons_zero, List.set_cons_succ]
   refine tk (i := 6) (v := ?_) (hy := Or.inl ⟨by rfl, ?_⟩) (hS := hHeld) (h := ?_)
   rotate_left
   ·intro w hSw
    try dsimp only at hSw
    go_simp
    all_goals with_reducible rfl
   try simp only [Act.put, List.setIfInBounds_toArray, List.set_cons_zero, List.set_cons_succ]
   refine wpAnyH_calm (by kernel_rfl) ?_ _
   clear hP hPS hzl hsl hs hr hbW hk hSW hDW c0 c1 c2 c3 cf x0 y0 yf hW hk3
   go_upto_region 7 with fail
   go_cut [5, 6] from 31 to 43 (fun v5 v6 wx => ApMid w z a AL cL fp s d A n c b v5 v6 wx)
   case first =>
    refine wp_region_calm (S := (fun W => ApS w z a AL cL s W)) (by kernel_rfl) (hP3.next (Kept.drew [] w3)).S (fun hHeld => ?_)
    have hP := hP3.next (Kept.drew [] w3)
    have hsz : w.heap.size + 2 ≤ w3.drew.heap.size := hsz3
    generalize w3.drew = w3d at *
    refine tk (i := 0) (v := ?_) (hy := Or.inl ⟨by rfl, ?_⟩) (hS := hHeld) (h := ?_)
    rotate_left
    ·intro w hSw
     try dsimp only at hSw
     obtain ⟨s0, s1, s2, s3, s4, s5⟩ := hSw
     go_simp
     all_goals with_reducible rfl
    try simp only [Act.put, List.setIfInBounds_toArray, List.set_cons_zero, List.set_cons_succ]
    refine tk (i := 1) (v := ?_) (hy := Or.inl ⟨by rfl, ?_⟩) (hS := hHeld) (h := ?_)
    rotate_left
    ·intro w hSw
     try dsimp only at hSw
     go_simp
     all_goals with_reducible rfl
    try simp only [Act.put, List.setIfInBounds_toArray, List.set_cons_zero, List.set_cons_succ]
    refine tk (i := 2) (v := ?_) (hy := Or.inl ⟨by rfl, ?_⟩) (hS := hHeld) (h := ?_)
    rotate_left
    ·intro w hSw
     try dsimp only at hSw
     go_simp
     all_goals with_reducible rfl
    try simp only [Act.put, List.setIfInBounds_toArray, List.set_cons_zero, List.set_cons_succ]
    refine tk (i := 3) (v := ?_) (hy := Or.inl ⟨by rfl, ?_⟩) (hS := hHeld) (h := ?_)
    rotate_left
    ·intro w hSw
     try dsimp only at hSw
     obtain ⟨s0, s1, s2, s3, s4, s5⟩ := hSw
     go_simp
     all_goals with_reducible rfl
    try simp only [Act.put, List.setIfInBounds_toArray, List.set_cons_zero, List.set_cons_succ]
    refine tk (i := 4) (v := ?_) (hy := Or.inl ⟨by rfl, ?_⟩) (hS := hHeld) (h := ?_)
    rotate_left
    ·intro w hSw
     try dsimp only at hSw
     go_simp
     all_goals with_reducible rfl
    try simp only [Act.put, List.setIfInBounds_toArray, List.set_cons_zero, List.set_cons_succ]
    refine tk (i := 8) (v := ?_) (hy := Or.inl ⟨by rfl, ?_⟩) (hS := hHeld) (h := ?_)
    rotate_left
    ·intro w hSw
     try dsimp only at hSw
     obtain ⟨s0, s1, s2, s3, s4, s5⟩ := hSw
     go_simp
     all_goals with_reducible rfl
    try simp only [Act.put, List.setIfInBounds_toArray, List.set_cons_zero, List.set_cons_succ]
    refine tk (i := 9) (v := ?_) (hy := Or.inl ⟨by rfl, ?_⟩) (hS := hHeld) (h := ?_)
    rotate_left
    ·intro w hSw
     try dsimp only at hSw
     go_simp
     all_goals with_reducible rfl
    try simp only [Act.put, List.setIfInBounds_toArray, List.set_cons_zero, List.set_cons_succ]
    refine tk (i := 10) (v := ?_) (hy := Or.inl ⟨by rfl, ?_⟩) (hS := hHeld) (h := ?_)
    rotate_left
    ·intro w hSw
     try dsimp only at hSw
     go_simp
     all_goals with_reducible rfl
    try simp only [Act.put, List.setIfInBounds_toArray, List.set_cons_zero, List.set_cons_succ]
    refine tk (i := 11) (v := ?_) (hy := Or.inl ⟨by rfl, ?_⟩) (hS := hHeld) (h := ?_)
    rotate_left
    ·intro w hSw
     try dsimp only at hSw
     obtain ⟨s0, s1, s2, s3, s4, s5⟩ := hSw
     go_simp
     all_goals with_reducible rfl
    try simp only [Act.put, List.setIfInBounds_toArray, List.set_cons_zero, List.set_cons_succ]
    refine tk (i := 12) (v := ?_) (hy := Or.inl ⟨by rfl, ?_⟩) (hS := hHeld) (h := ?_)
    rotate_left
    ·intro w hSw
     try dsimp only at hSw
     go_simp
     all_goals with_reducible rfl
    try simp only [Act.put, List.setIfInBounds_toArray, List.set_cons_zero, List.set_cons_succ]
    try simp only [hwd]
    refine wpAnyH_ready (rs := [5, 13]) (by kernel_rfl) (by simp) ?_
    refine AllReadyH.cons (by simp only [List.getElem?_toArray, List.getElem?_cons_succ, List.getElem?_cons_zero]; rfl) (fun K hK => ?_) (AllReadyH.cons (by simp only [List.getElem?_toArray, List.getElem?_cons_succ, List.getElem?_cons_zero]; rfl) (fun K hK => ?_) AllReadyH.nil)
    ·go_simp
     refine (record_any _ A n c b hP.bs hA (by omega)).mono ?_
     rintro e w4 ⟨AR, cR, rfl, hownR, hbelN⟩
     have hkN := Kept.of_below (F := []) hbelN
     obtain ⟨hR, hRb⟩ := ClonePost.sl hownR
     have hR0 := row_nil' hownR
     replace hP := hP.next hkN
     replace hsz := Nat.le_trans hsz hkN.size
     clear hownR hbelN hkN
     go_wp2_with fail
     refine hK.out _ _ ?_ (fun hHeld2 => ?_)
     ·exact hP.S
     clear hK K hHeld
     have hHeld := hHeld2
     clear hHeld2
     try simp only [Act.put, List.setIfInBounds_toArray, List.set_cons_zero, List.set_cons_succ]
     refine wpAnyH_ready (rs := [6, 13]) (by kernel_rfl) (by simp) ?_
     refine AllReadyH.cons (by simp only [List.getElem?_toArray, List.getElem?_cons_succ, List.getElem?_cons_zero]; rfl) (fun K hK => ?_) (AllReadyH.cons (by simp only [List.getElem?_toArray, List.getElem?_cons_succ, List.getElem?_cons_zero]; rfl) (fun K hK => ?_) AllReadyH.nil)
     ·go_simp
      have hkN := Kept.alloc [] w4 (.cells #[.slice AL s.last.length cL, .slice AR (n + 7) cR] 45)
      have hG := heap_alloc_new w4 (.cells #[.slice AL s.last.length cL, .slice AR (n + 7) cR] 45)
      replace hP := hP.next hkN
      replace hsz := Nat.le_trans hsz hkN.size
      replace hR := hR.kept hkN (by simp)
      generalize World.alloc w4 (.cells #[.slice AL s.last.length cL, .slice AR (n + 7) cR] 45) = w5 at *
      generalize w4.heap.size = g_ at *
      clear hkN
      refine hK.out _ _ ?_ (fun hHeld2 => ?_)
      ·exact hP.S
      clear hK K hHeld
      have hHeld := hHeld2
      clear hHeld2
      try simp only [Act.put, List.setIfInBounds_toArray, List.set_cons_zero, List.set_cons_succ]
      refine wpAnyH_ready (rs := [7, 13]) (by kernel_rfl) (by simp) ?_
      refine AllReadyH.cons (by simp only [List.getElem?_toArray, List.getElem?_cons_succ, List.getElem?_cons_zero]; rfl) (fun K hK => ?_) (AllReadyH.cons (by simp only [List.getElem?_toArray, List.getElem?_cons_succ, List.getElem?_cons_zero]; rfl) (fun K hK => ?_) AllReadyH.nil)
      ·go_simp
       refine (concat_two _ g_ AL AR s.last.length cL (n + 7) cR s.last (recB b) hG hP.sl hAL hR hR0 (by omega) (by omega)).mono ?_
       rintro e w6 ⟨AC, cC, rfl, hownC, hbelN⟩
       have hkN := Kept.of_below (F := []) hbelN
       obtain ⟨hC, hCb0⟩ := ClonePost.sl hownC
       obtain ⟨bC, oC, rfl, hCl, _⟩ := hC.cells (by omega)
       have hCb1 := hCb0 _ rfl
       have hCb : w.heap.size + 2 ≤ bC := Nat.le_trans hsz hCb1
       replace hP := hP.next hkN
       replace hsz := Nat.le_trans hsz hkN.size
       replace hR := hR.kept hkN (by simp)
       replace hG := (hkN.block g_ (World.lt_of_heap hG) (by simp)).trans hG
       clear hownC hbelN hkN hCb0 hCb1
       go_wp2_with fail
       refine hK.out _ _ ?_ (fun hHeld2 => ?_)
       ·exact hP.S
       clear hK K hHeld
       have hHeld := hHeld2
       clear hHeld2
       try simp only [Act.put, List.setIfInBounds_toArray, List.set_cons_zero, List.set_cons_succ]
       refine wpAnyH_ready (rs := [13]) (by kernel_rfl) (by simp) ?_
       refine AllReadyH.cons (by simp only [List.getElem?_toArray, List.getElem?_cons_succ, List.getElem?_cons_zero]; rfl) (fun K hK => ?_) AllReadyH.nil
       go_simp
       have hkN := Kept.alloc [] w6 (.cells #[.int .i64 0] 3)
       have hAt := heap_alloc_new w6 (.cells #[.int .i64 0] 3)
       have hatn := hsz
       replace hP := hP.next hkN
       replace hsz := Nat.le_trans hsz hkN.size
       replace hR := hR.kept hkN (by simp)
       replace hG := (hkN.block g_ (World.lt_of_heap hG) (by simp)).trans hG
       replace hC := hC.kept hkN (by simp)
       have hCne : bC ≠ w6.heap.size := by have := hCl; omega
       generalize World.alloc w6 (.cells #[.int .i64 0] 3) = w7 at *
       generalize w6.heap.size = at_ at *
       clear hkN
       refine hK.out _ _ ?_ (fun hHeld2 => ?_)
       ·exact hP.S
       clear hK K hHeld
       have hHeld := hHeld2
       clear hHeld2
       try simp only [Act.put, List.setIfInBounds_toArray, List.set_cons_zero, List.set_cons_succ]
       refine tk (i := 14) (v := ?_) (hy := Or.inl ⟨by rfl, ?_⟩) (hS := hHeld) (h := ?_)
       rotate_left
       ·intro w hSw
        try dsimp only at hSw
        go_simp
        all_goals with_reducible rfl
       try simp only [Act.put, List.setIfInBounds_toArray, List.set_cons_zero, List.set_cons_succ]
       refine wpAnyH_ready (rs := [15]) (by kernel_rfl) (by simp) ?_
       refine AllReadyH.cons (by simp only [List.getElem?_toArray, List.getElem?_cons_succ, List.getElem?_cons_zero]; rfl) (fun K hK => ?_) AllReadyH.nil
       have ca : w7.cell? ⟨at_, 0, none⟩ = some (.int .i64 0) := by rw [blk_cell hAt]; rfl
       have cfa : w7.frozen? ⟨at_, 0, none⟩ = false := blk_frozen hAt 0
       go_simp
       have hkN : Kept [at_] w7 (w7.setCell ⟨at_, 0, none⟩ (.int .i64 ((s.fin : Int) / 128))) := Kept.setCell (by simp) _
       have hPf := hP.put hO hatn (.int .i64 ((s.fin : Int) / 128))
       have hAf := heap_set hAt 0 (.int .i64 ((s.fin : Int) / 128))
       have hCf := hC.kept hkN (fun p e => by cases e; simpa using hCne)
       refine hK.out _ _ ?_ (fun hHeld2 => ?_)
       ·exact hPf.S
       clear hK K hHeld
       have hHeld := hHeld2
       clear hHeld2
       try simp only [Act.put, List.setIfInBounds_toArray, List.set_cons_zero, List.set_cons_succ]
       refine wpAnyH_calm (by kernel_rfl) ?_ _
       go_wp2_with fail
       go_meet
       exact ⟨bC, oC, cC, at_, rfl, rfl, hPf, hAf, hatn, hCf, hCb, hCne⟩
      ·go_simp
       have hkN := Kept.alloc [] w5 (.cells #[.int .i64 0] 3)
       have hAt := heap_alloc_new w5 (.cells #[.int .i64 0] 3)
       have hatn := hsz
       replace hP := hP.next hkN
       replace hsz := Nat.le_trans hsz hkN.size
       replace hR := hR.kept hkN (by simp)
       replace hG := (hkN.block g_ (World.lt_of_heap hG) (by simp)).trans hG
       generalize World.alloc w5 (.cells #[.int .i64 0] 3) = w6 at *
       generalize w5.heap.size = at_ at *
       clear hkN
       refine hK.out _ _ ?_ (fun hHeld2 => ?_)
       ·exact hP.S
       clear hK K hHeld
       have hHeld := hHeld2
       clear hHeld2
       try simp only [Act.put, List.setIfInBounds_toArray, List.set_cons_zero, List.set_cons_succ]
       refine wpAnyH_ready (rs := [7]) (by kernel_rfl) (by simp) ?_
       refine AllReadyH.cons (by simp only [List.getElem?_toArray, List.getElem?_cons_succ, List.getElem?_cons_zero]; rfl) (fun K hK => ?_) AllReadyH.nil
       go_simp
       refine (concat_two _ g_ AL AR s.last.length cL (n + 7) cR s.last (recB b) hG hP.sl hAL hR hR0 (by omega) (by omega)).mono ?_
       rintro e w7 ⟨AC, cC, rfl, hownC, hbelN⟩
       have hkN := Kept.of_below (F := []) hbelN
       obtain ⟨hC, hCb0⟩ := ClonePost.sl hownC
       obtain ⟨bC, oC, rfl, hCl, _⟩ := hC.cells (by omega)
       have hCb1 := hCb0 _ rfl
       have hCb : w.heap.size + 2 ≤ bC := Nat.le_trans hsz hCb1
       have hCne : bC ≠ at_ := by have h1 := World.lt_of_heap hAt; have h2 : w6.heap.size ≤ bC := hCb1; omega
       replace hP := hP.next hkN
       replace hsz := Nat.le_trans hsz hkN.size
       replace hAt := (hkN.block at_ (World.lt_of_heap hAt) (by simp)).trans hAt
       replace hR := hR.kept hkN (by simp)
       replace hG := (hkN.block g_ (World.lt_of_heap hG) (by simp)).trans hG
       clear hownC hbelN hkN hCb0 hCb1
       go_wp2_with fail
       refine hK.out _ _ ?_ (fun hHeld2 => ?_)
       ·exact hP.S
       clear hK K hHeld
       have hHeld := hHeld2
       clear hHeld2
       try simp only [Act.put, List.setIfInBounds_toArray, List.set_cons_zero, List.set_cons_succ]
       refine tk (i := 14) (v := ?_) (hy := Or.inl ⟨by rfl, ?_⟩) (hS := hHeld) (h := ?_)
       rotate_left
       ·intro w hSw
        try dsimp only at hSw
        go_simp
        all_goals with_reducible rfl
       try simp only [Act.put, List.setIfInBounds_toArray, List.set_cons_zero, List.set_cons_succ]
       refine wpAnyH_ready (rs := [15]) (by kernel_rfl) (by simp) ?_
       refine AllReadyH.cons (by simp only [List.getElem?_toArray, List.getElem?_cons_succ, List.getElem?_cons_zero]; rfl) (fun K hK => ?_) AllReadyH.nil
       have ca : w7.cell? ⟨at_, 0, none⟩ = some (.int .i64 0) := by rw [blk_cell hAt]; rfl
       have cfa : w7.frozen? ⟨at_, 0, none⟩ = false := blk_frozen hAt 0
       go_simp
       have hkN : Kept [at_] w7 (w7.setCell ⟨at_, 0, none⟩ (.int .i64 ((s.fin : Int) / 128))) := Kept.setCell (by simp) _
       have hPf := hP.put hO hatn (.int .i64 ((s.fin : Int) / 128))
       have hAf := heap_set hAt 0 (.int .i64 ((s.fin : Int) / 128))
       have hCf := hC.kept hkN (fun p e => by cases e; simpa using hCne)
       refine hK.out _ _ ?_ (fun hHeld2 => ?_)
       ·exact hPf.S
       clear hK K hHeld
       have hHeld := hHeld2
       clear hHeld2
       try simp only [Act.put, List.setIfInBounds_toArray, List.set_cons_zero, List.set_cons_succ]
       refine wpAnyH_calm (by kernel_rfl) ?_ _
       go_wp2_with fail
       go_meet
       exact ⟨bC, oC, cC, at_, rfl, rfl, hPf, hAf, hatn, hCf, hCb, hCne⟩
     ·go_simp
      have hkN := Kept.alloc [] w4 (.cells #[.int .i64 0] 3)
      have hAt := heap_alloc_new w4 (.cells #[.int .i64 0] 3)
      have hatn := hsz
      replace hP := hP.next hkN
      replace hsz := Nat.le_trans hsz hkN.size
      replace hR := hR.kept hkN (by simp)
      generalize World.alloc w4 (.cells #[.int .i64 0] 3) = w5 at *
      generalize w4.heap.size = at_ at *
      clear hkN
      refine hK.out _ _ ?_ (fun hHeld2 => ?_)
      ·exact hP.S
      clear hK K hHeld
      have hHeld := hHeld2
      clear hHeld2
      try simp only [Act.put, List.setIfInBounds_toArray, List.set_cons_zero, List.set_cons_succ]
      refine wpAnyH_ready (rs := [6]) (by kernel_rfl) (by simp) ?_
      refine AllReadyH.cons (by simp only [List.getElem?_toArray, List.getElem?_cons_succ, List.getElem?_cons_zero]; rfl) (fun K hK => ?_) AllReadyH.nil
      go_simp
      have hkN := Kept.alloc [] w5 (.cells #[.slice AL s.last.length cL, .slice AR (n + 7) cR] 45)
      have hG := heap_alloc_new w5 (.cells #[.slice AL s.last.length cL, .slice AR (n + 7) cR] 45)
      replace hP := hP.next hkN
      replace hsz := Nat.le_trans hsz hkN.size
      replace hAt := (hkN.block at_ (World.lt_of_heap hAt) (by simp)).trans hAt
      replace hR := hR.kept hkN (by simp)
      generalize World.alloc w5 (.cells #[.slice AL s.last.length cL, .slice AR (n + 7) cR] 45) = w6 at *
      generalize w5.heap.size = g_ at *
      clear hkN
      refine hK.out _ _ ?_ (fun hHeld2 => ?_)
      ·exact hP.S
      clear hK K hHeld
      have hHeld := hHeld2
      clear hHeld2
      try simp only [Act.put, List.setIfInBounds_toArray, List.set_cons_zero, List.set_cons_succ]
      refine wpAnyH_ready (rs := [7]) (by kernel_rfl) (by simp) ?_
      refine AllReadyH.cons (by simp only [List.getElem?_toArray, List.getElem?_cons_succ, List.getElem?_cons_zero]; rfl) (fun K hK => ?_) AllReadyH.nil
      go_simp
      refine (concat_two _ g_ AL AR s.last.length cL (n + 7) cR s.last (recB b) hG hP.sl hAL hR hR0 (by omega) (by omega)).mono ?_
      rintro e w7 ⟨AC, cC, rfl, hownC, hbelN⟩
      have hkN := Kept.of_below (F := []) hbelN
      obtain ⟨hC, hCb0⟩ := ClonePost.sl hownC
      obtain ⟨bC, oC, rfl, hCl, _⟩ := hC.cells (by omega)
      have hCb1 := hCb0 _ rfl
      have hCb : w.heap.size + 2 ≤ bC := Nat.le_trans hsz hCb1
      have hCne : bC ≠ at_ := by have h1 := World.lt_of_heap hAt; have h2 : w6.heap.size ≤ bC := hCb1; omega
      replace hP := hP.next hkN
      replace hsz := Nat.le_trans hsz hkN.size
      replace hAt := (hkN.block at_ (World.lt_of_heap hAt) (by simp)).trans hAt
      replace hR := hR.kept hkN (by simp)
      replace hG := (hkN.block g_ (World.lt_of_heap hG) (by simp)).trans hG
      clear hownC hbelN hkN hCb0 hCb1
      go_wp2_with fail
      refine hK.out _ _ ?_ (fun hHeld2 => ?_)
      ·exact hP.S
      clear hK K hHeld
      have hHeld := hHeld2
      clear hHeld2
      try simp only [Act.put, List.setIfInBounds_toArray, List.set_cons_zero, List.set_cons_succ]
      refine tk (i := 14) (v := ?_) (hy := Or.inl ⟨by rfl, ?_⟩) (hS := hHeld) (h := ?_)
      rotate_left
      ·intro w hSw
       try dsimp only at hSw
       go_simp
       all_goals with_reducible rfl
      try simp only [Act.put, List.setIfInBounds_toArray, List.set_cons_zero, List.set_cons_succ]
      refine wpAnyH_ready (rs := [15]) (by kernel_rfl) (by simp) ?_
      refine AllReadyH.cons (by simp only [List.getElem?_toArray, List.getElem?_cons_succ, List.getElem?_cons_zero]; rfl) (fun K hK => ?_) AllReadyH.nil
      have ca : w7.cell? ⟨at_, 0, none⟩ = some (.int .i64 0) := by rw [blk_cell hAt]; rfl
      have cfa : w7.frozen? ⟨at_, 0, none⟩ = false := blk_frozen hAt 0
      go_simp
      have hkN : Kept [at_] w7 (w7.setCell ⟨at_, 0, none⟩ (.int .i64 ((s.fin : Int) / 128))) := Kept.setCell (by simp) _
      have hPf := hP.put hO hatn (.int .i64 ((s.fin : Int) / 128))
      have hAf := heap_set hAt 0 (.int .i64 ((s.fin : Int) / 128))
      have hCf := hC.kept hkN (fun p e => by cases e; simpa using hCne)
      refine hK.out _ _ ?_ (fun hHeld2 => ?_)
      ·exact hPf.S
      clear hK K hHeld
      have hHeld := hHeld2
      clear hHeld2
      try simp only [Act.put, List.setIfInBounds_toArray, List.set_cons_zero, List.set_cons_succ]
      refine wpAnyH_calm (by kernel_rfl) ?_ _
      go_wp2_with fail
      go_meet
      exact ⟨bC, oC, cC, at_, rfl, rfl, hPf, hAf, hatn, hCf, hCb, hCne⟩
    ·go_simp
     have hkN := Kept.alloc [] w3d (.cells #[.int .i64 0] 3)
     have hAt := heap_alloc_new w3d (.cells #[.int .i64 0] 3)
     have hatn := hsz
     replace hP := hP.next hkN
     replace hsz := Nat.le_trans hsz hkN.size
     generalize World.alloc w3d (.cells #[.int .i64 0] 3) = w4 at *
     generalize w3d.heap.size = at_ at *
     clear hkN
     refine hK.out _ _ ?_ (fun hHeld2 => ?_)
     ·exact hP.S
     clear hK K hHeld
     have hHeld := hHeld2
     clear hHeld2
     try simp only [Act.put, List.setIfInBounds_toArray, List.set_cons_zero, List.set_cons_succ]
     refine wpAnyH_ready (rs := [5]) (by kernel_rfl) (by simp) ?_
     refine AllReadyH.cons (by simp only [List.getElem?_toArray, List.getElem?_cons_succ, List.getElem?_cons_zero]; rfl) (fun K hK => ?_) AllReadyH.nil
     go_simp
     refine (record_any _ A n c b hP.bs hA (by omega)).mono ?_
     rintro e w5 ⟨AR, cR, rfl, hownR, hbelN⟩
     have hkN := Kept.of_below (F := []) hbelN
     obtain ⟨hR, hRb⟩ := ClonePost.sl hownR
     have hR0 := row_nil' hownR
     replace hP := hP.next hkN
     replace hsz := Nat.le_trans hsz hkN.size
     replace hAt := (hkN.block at_ (World.lt_of_heap hAt) (by simp)).trans hAt
     clear hownR hbelN hkN
     go_wp2_with fail
     refine hK.out _ _ ?_ (fun hHeld2 => ?_)
     ·exact hP.S
     clear hK K hHeld
     have hHeld := hHeld2
     clear hHeld2
     try simp only [Act.put, List.setIfInBounds_toArray, List.set_cons_zero, List.set_cons_succ]
     refine wpAnyH_ready (rs := [6]) (by kernel_rfl) (by simp) ?_
     refine AllReadyH.cons (by simp only [List.getElem?_toArray, List.getElem?_cons_succ, List.getElem?_cons_zero]; rfl) (fun K hK => ?_) AllReadyH.nil
     go_simp
     have hkN := Kept.alloc [] w5 (.cells #[.slice AL s.last.length cL, .slice AR (n + 7) cR] 45)
     have hG := heap_alloc_new w5 (.cells #[.slice AL s.last.length cL, .slice AR (n + 7) cR] 45)
     replace hP := hP.next hkN
     replace hsz := Nat.le_trans hsz hkN.size
     replace hAt := (hkN.block at_ (World.lt_of_heap hAt) (by simp)).trans hAt
     replace hR := hR.kept hkN (by simp)
     generalize World.alloc w5 (.cells #[.slice AL s.last.length cL, .slice AR (n + 7) cR] 45) = w6 at *
     generalize w5.heap.size = g_ at *
     clear hkN
     refine hK.out _ _ ?_ (fun hHeld2 => ?_)
     ·exact hP.S
     clear hK K hHeld
     have hHeld := hHeld2
     clear hHeld2
     try simp only [Act.put, List.setIfInBounds_toArray, List.set_cons_zero, List.set_cons_succ]
     refine wpAnyH_ready (rs := [7]) (by kernel_rfl) (by simp) ?_
     refine AllReadyH.cons (by simp only [List.getElem?_toArray, List.getElem?_cons_succ, List.getElem?_cons_zero]; rfl) (fun K hK => ?_) AllReadyH.nil
     go_simp
     refine (concat_two _ g_ AL AR s.last.length cL (n + 7) cR s.last (recB b) hG hP.sl hAL hR hR0 (by omega) (by omega)).mono ?_
     rintro e w7 ⟨AC, cC, rfl, hownC, hbelN⟩
     have hkN := Kept.of_below (F := []) hbelN
     obtain ⟨hC, hCb0⟩ := ClonePost.sl hownC
     obtain ⟨bC, oC, rfl, hCl, _⟩ := hC.cells (by omega)
     have hCb1 := hCb0 _ rfl
     have hCb : w.heap.size + 2 ≤ bC := Nat.le_trans hsz hCb1
     have hCne : bC ≠ at_ := by have h1 := World.lt_of_heap hAt; have h2 : w6.heap.size ≤ bC := hCb1; omega
     replace hP := hP.next hkN
     replace hsz := Nat.le_trans hsz hkN.size
     replace hAt := (hkN.block at_ (World.lt_of_heap hAt) (by simp)).trans hAt
     replace hR := hR.kept hkN (by simp)
     replace hG := (hkN.block g_ (World.lt_of_heap hG) (by simp)).trans hG
     clear hownC hbelN hkN hCb0 hCb1
     go_wp2_with fail
     refine hK.out _ _ ?_ (fun hHeld2 => ?_)
     ·exact hP.S
     clear hK K hHeld
     have hHeld := hHeld2
     clear hHeld2
     try simp only [Act.put, List.setIfInBounds_toArray, List.set_cons_zero, List.set_cons_succ]
     refine tk (i := 14) (v := ?_) (hy := Or.inl ⟨by rfl, ?_⟩) (hS := hHeld) (h := ?_)
     rotate_left
     ·intro w hSw
      try dsimp only at hSw
      go_simp
      all_goals with_reducible rfl
     try simp only [Act.put, List.setIfInBounds_toArray, List.set_cons_zero, List.set_cons_succ]
     refine wpAnyH_ready (rs := [15]) (by kernel_rfl) (by simp) ?_
     refine AllReadyH.cons (by simp only [List.getElem?_toArray, List.getElem?_cons_succ, List.getElem?_cons_zero]; rfl) (fun K hK => ?_) AllReadyH.nil
     have ca : w7.cell? ⟨at_, 0, none⟩ = some (.int .i64 0) := by rw [blk_cell hAt]; rfl
     have cfa : w7.frozen? ⟨at_, 0, none⟩ = false := blk_frozen hAt 0
     go_simp
     have hkN : Kept [at_] w7 (w7.setCell ⟨at_, 0, none⟩ (.int .i64 ((s.fin : Int) / 128))) := Kept.setCell (by simp) _
     have hPf := hP.put hO hatn (.int .i64 ((s.fin : Int) / 128))
     have hAf := heap_set hAt 0 (.int .i64 ((s.fin : Int) / 128))
     have hCf := hC.kept hkN (fun p e => by cases e; simpa using hCne)
     refine hK.out _ _ ?_ (fun hHeld2 => ?_)
     ·exact hPf.S
     clear hK K hHeld
     have hHeld := hHeld2
     clear hHeld2
     try simp only [Act.put, List.setIfInBounds_toArray, List.set_cons_zero, List.set_cons_succ]
     refine wpAnyH_calm (by kernel_rfl) ?_ _
     go_wp2_with fail
     go_meet
     exact ⟨bC, oC, cC, at_, rfl, rfl, hPf, hAf, hatn, hCf, hCb, hCne⟩
   case rest =>
    obtain ⟨bC, oC, cC, at_, rfl, rfl, hP, hAt, hatn, hC, hCb, hCne⟩ := hcut
    clear hP3 hsz3
    have hCl := hC.le; have hCm := hC.max
    unfold maxLen at hCm
    go_wp2_with fail
    refine (chunk_any wc _ _ cC).mono ?_
    rintro e w8 ⟨rfl, hw8⟩
    have hk8 : Kept [] wc w8 := by rw [hw8]; exact (Kept.alloc [] _ _).trans (Kept.alloc [] _ _)
    have hBs : w8.heap[wc.heap.size]? = some (.cells #[.slice (some ⟨bC, oC, none⟩) (s.last.length + (n + 7)) cC] 45 (0, 0)) := by rw [hw8, Below.heap_alloc _ _ _ (by simp), heap_alloc_new]
    have hBn : w8.heap[wc.heap.size + 1]? = some (.cells #[.int .i64 128] 3 (0, 0)) := by
     have h := heap_alloc_new (wc.alloc (.cells #[.slice (some ⟨bC, oC, none⟩) (s.last.length + (n + 7)) cC] 45)) (.cells #[.int .i64 128] 3)
     simp only [World.size_alloc] at h
     rw [hw8]; exact h
    have hwc := World.lt_of_heap hP.rt
    have hP8 := hP.next hk8
    have hA8 := (hk8.block at_ (World.lt_of_heap hAt) (by simp)).trans hAt
    have hC8 := hC.kept hk8 (by simp)
    have hlC := hC8.lt' (by omega) rfl
    have hlA := World.lt_of_heap hA8
    have hlr := World.lt_of_heap hP8.rt
    have hlBs := World.lt_of_heap hBs
    have hlBn := World.lt_of_heap hBn
    have hcx : ApCtx w w8 z AL fp at_ bC := ⟨by omega, hO.z, hO.fp, hne _ hS.zin, fun p e => ⟨hO.al p e, hne _ (hLn p e).1, (hLn p e).2⟩, hatn, hlA, hCb, hlC, hCne⟩
    have hab : wc.heap.size ≠ at_ ∧ wc.heap.size + 1 ≠ at_ := by have := World.lt_of_heap hAt; omega
    have hl0 : ApLoop w w8 z a AL cL fp s d bC oC cC (s.last.length + (n + 7)) at_ (s.last ++ recB b) 0 d fp 0 ((s.fin / 128 : Nat) : Int) w8 := ⟨hP8.dv, fun j hj => .inl hj, hP8.zl, hP8.sl, hP8.bx, hP8.rt, hA8, hC8, hP8.kept.mono (by simp), by omega⟩
    clear hw8 hP hAt hC hP8 hA8 hC8
    go_wp2_with fail
    refine (wpIn_wide (n := 10)).1 ?_
    refine' wpIn_rangeFunc_kept (encs := fun k : Nat => #[chunkV bC oC (s.last.length + (n + 7)) k]) (B := []) (R := [wc.heap.size, wc.heap.size + 1]) (G := fun pre _ k _ => k < (s.last.length + (n + 7) + 127) / 128 ∧ pre = List.range k) rfl (by omega) (gf := 77)
     (lb := #[.pointer (some ⟨wc.heap.size, 0, none⟩), .pointer (some ⟨wc.heap.size + 1, 0, none⟩)]) rfl trivial (enters_of Tryz.func77 (by kernel_rfl) rfl)
     (chunk_seq 9 (by omega) wc.heap.size (wc.heap.size + 1) bC oC (s.last.length + (n + 7)) cC (by omega) hCl (by omega) w8 (by rw [blk_cell hBs]; rfl) (by rw [blk_cell hBn]; rfl) hlBs hlBn) (fun _ => rfl) (by simp)
     (fun j hj => by simp only [List.mem_cons, List.not_mem_nil, or_false] at hj; rcases hj with rfl | rfl <;> omega) (fun _ _ _ _ _ _ h _ => h)
     (ApI w w8 z a AL cL fp s d bC oC cC (s.last.length + (n + 7)) at_ (s.last ++ recB b)) (ApIx w w8 z a AL cL fp s d bC oC cC (s.last.length + (n + 7)) at_ (s.last ++ recB b))
     (fun pre X Y ⟨d', fp', h1, h3⟩ hk => ⟨d', fp', h1, h3.next hcx hk (fun j hj => by simpa using hj)⟩)
     (fun c pre X Y ⟨h0, d', fp', r, k, v, h1, h2, h3⟩ hk => ⟨h0, d', fp', r, k, v, h1, h2, h3.next hcx hk (fun j hj => by simpa using hj)⟩)
     ⟨d, fp, rfl, hl0⟩ _ ?assign ?body ?done ?stop
    case assign =>
     intro l k X K hK
     gi_wp2
     exact hK
    case body =>
     rintro l pre k X0 X hX0 ⟨d', fp', hw1, hl1⟩ hkX hG
     have hl2 := hl1.next hcx hkX (fun j hj => by simpa using hj)
     obtain ⟨hkm, hpre⟩ := hG
     have hpl : pre.length = k := by rw [hpre, List.length_range]
     have HPRE := Lib.hid hpre
     clear hpre
     have HW1 := Lib.hid hw1
     have hXs : w8.heap.size + 2 ≤ X.heap.size := Nat.le_trans hX0 hkX.size
     clear hw1 hl1 hkX
     obtain ⟨e, he⟩ : ∃ e, min 128 (s.last.length + (n + 7) - 128 * k) = e := ⟨_, rfl⟩
     have hLl : (s.last ++ recB b).length = s.last.length + (n + 7) := by rw [List.length_append, length_recB, hbl]
     have hch := hl2.sb.cut (i := 128 * k) (j := 128 * k + e) (by omega) (by omega)
     rw [chunk_cut hLl he (by omega), show 128 * k + e - 128 * k = e by omega] at hch
     have he128 : e ≤ 128 := by omega
     obtain ⟨W2, hcp, hW2, hk2⟩ := copied X hch he128
     have hl3 := hl2.next hcx hk2 (by simp)
     obtain ⟨av, hav⟩ : ∃ av : Int, ((s.fin / 128 + pre.length : Nat) : Int) = av := ⟨_, rfl⟩
     obtain ⟨idx, hidx⟩ : ∃ i : Int, ((s.first + s.fin / 128 : Nat) : Int) + (pre.map (chunkAt (s.last ++ recB b))).length = i := ⟨_, rfl⟩
     rw [hav] at hl3
     have hwr : IntKind.i64.wrap ((s.first : Int) + av) = idx := by
      have h1 := hw.there; have h2 := hD.wf.many; have h3 := hw.fin
      rw [← hav, ← hidx, IntKind.wrap_i64, List.length_map]
      omega
     obtain ⟨d2, v, hdv⟩ : ∃ d2 v, d'.write idx (chunkAt (s.last ++ recB b) k) = (d2, v) := ⟨_, _, rfl⟩
     have hlt2 : ∀ j ∈ fp', j < X.heap.size := hl2.dv.lt
     have hone : SlAt W2.drew (some ⟨X.heap.size, 0, none⟩) 128 128 (u8vs (chunkAt (s.last ++ recB b) k)) := SlAt.blk hW2 (by simp [u8vs, chunkAt]; exact length_pad (by rw [List.length_take]; omega)) (by unfold maxLen; omega)
     have hl4 := hl3.next hcx (Kept.drew [] W2) (by simp)
     have hwk4 : d'.works < 9223372036854775807 := by have h1 := hl4.works; omega
     have cw := write_dv hl4.dv idx (chunkAt (s.last ++ recB b) k) (some ⟨X.heap.size, 0, none⟩) 128 128 hone (fun p e hm => Nat.lt_irrefl _ (hlt2 X.heap.size (by cases e; exact hm))) hwk4
     rw [hdv] at cw
     unfold chunkV
     rw [he]
     have x0 : W2.cell? ⟨w.heap.size, 0, none⟩ = some (.pointer (some ⟨z, 0, none⟩)) := by rw [blk_cell hl3.bx]; rfl
     have z0 : W2.cell? ⟨z, 0, none⟩ = some (.pointer (some ⟨a, 0, none⟩)) := by rw [blk_cell hl3.zl]; rfl
     have z1 : W2.cell? ⟨z, 1, none⟩ = some (.int .i64 s.first) := by rw [blk_cell hl3.zl]; rfl
     have a0 : W2.cell? ⟨at_, 0, none⟩ = some (.int .i64 av) := by rw [blk_cell hl3.at_]; rfl
     have hd2w : d2.works ≤ d'.works + 1 := by have h := write_works d' idx (chunkAt (s.last ++ recB b) k); rw [hdv] at h; exact h
     have hW2s := hk2.size
     have hfin : (d.writes (s.first + s.fin / 128 : Nat) ((pre ++ [k]).map (chunkAt (s.last ++ recB b)))) = (d2, v) := by
      rw [List.map_append, List.map_cons, List.map_nil, writes_append _ _ _ _ _ HW1.out, hidx, hdv]
     have HF := Lib.hid hfin
     have hcells : X.heap.size < W2.heap.size := World.lt_of_heap hW2
     have HAV := Lib.hid hav; have HPL := Lib.hid hpl
     clear hfin hdv hch hW2 hone hl2 hav hidx hpl
     gi_wp2
     refine wpIn_region_calm (S := (fun W => W.cell? ⟨w.heap.size, 0, none⟩ = some (.pointer (some ⟨z, 0, none⟩)) ∧ W.cell? ⟨z, 0, none⟩ = some (.pointer (some ⟨a, 0, none⟩)) ∧ W.cell? ⟨z, 1, none⟩ = some (.int .i64 s.first) ∧ W.cell? ⟨at_, 0, none⟩ = some (.int .i64 av))) (by kernel_rfl) (by kernel_rfl) ⟨x0, z0, z1, a0⟩ (fun hHeld => ?_)
     refine tk (i := 0) (v := ?_) (hy := Or.inl ⟨by rfl, ?_⟩) (hS := hHeld) (h := ?_)
     rotate_left
     ·intro w hSw
      try dsimp only at hSw
      obtain ⟨s0, s1, s2, s3⟩ := hSw
      go_simp
      all_goals with_reducible rfl
     try simp only [Act.put, List.setIfInBounds_toArray, List.set_cons_zero, List.set_cons_succ]
     refine tk (i := 1) (v := ?_) (hy := Or.inl ⟨by rfl, ?_⟩) (hS := hHeld) (h := ?_)
     rotate_left
     ·intro w hSw
      try dsimp only at hSw
      go_simp
      all_goals with_reducible rfl
     try simp only [Act.put, List.setIfInBounds_toArray, List.set_cons_zero, List.set_cons_succ]
     refine tk (i := 2) (v := ?_) (hy := Or.inl ⟨by rfl, ?_⟩) (hS := hHeld) (h := ?_)
     rotate_left
     ·intro w hSw
      try dsimp only at hSw
      go_simp
      all_goals with_reducible rfl
     try simp only [Act.put, List.setIfInBounds_toArray, List.set_cons_zero, List.set_cons_succ]
     refine tk (i := 3) (v := ?_) (hy := Or.inl ⟨by rfl, ?_⟩) (hS := hHeld) (h := ?_)
     rotate_left
     ·intro w hSw
      try dsimp only at hSw
      obtain ⟨s0, s1, s2, s3⟩ := hSw
      go_simp
      all_goals with_reducible rfl
     try simp only [Act.put, List.setIfInBounds_toArray, List.set_cons_zero, List.set_cons_succ]
     refine tk (i := 4) (v := ?_) (hy := Or.inl ⟨by rfl, ?_⟩) (hS := hHeld) (h := ?_)
     rotate_left
     ·intro w hSw
      try dsimp only at hSw
      obtain ⟨s0, s1, s2, s3⟩ := hSw
      go_simp
      all_goals with_reducible rfl
     try simp only [Act.put, List.setIfInBounds_toArray, List.set_cons_zero, List.set_cons_succ]
     refine tk (i := 5) (v := ?_) (hy := Or.inl ⟨by rfl, ?_⟩) (hS := hHeld) (h := ?_)
     rotate_left
     ·intro w hSw
      try dsimp only at hSw
      go_simp
      all_goals with_reducible rfl
     try simp only [Act.put, List.setIfInBounds_toArray, List.set_cons_zero, List.set_cons_succ]
     refine tk (i := 6) (v := ?_) (hy := Or.inl ⟨by rfl, ?_⟩) (hS := hHeld) (h := ?_)
     rotate_left
     ·intro w hSw
      try dsimp only at hSw
      go_simp
      all_goals with_reducible rfl
     try simp only [Act.put, List.setIfInBounds_toArray, List.set_cons_zero, List.set_cons_succ]
     refine tk (i := 7) (v := ?_) (hy := Or.inl ⟨by rfl, ?_⟩) (hS := hHeld) (h := ?_)
     rotate_left
     ·intro w hSw
      try dsimp only at hSw
      obtain ⟨s0, s1, s2, s3⟩ := hSw
      go_simp
      all_goals with_reducible rfl
     try simp only [Act.put, List.setIfInBounds_toArray, List.set_cons_zero, List.set_cons_succ]
     refine tk (i := 8) (v := ?_) (hy := Or.inl ⟨by rfl, ?_⟩) (hS := hHeld) (h := ?_)
     rotate_left
     ·intro w hSw
      try dsimp only at hSw
      obtain ⟨s0, s1, s2, s3⟩ := hSw
      go_simp
      all_goals with_reducible rfl
     try simp only [Act.put, List.setIfInBounds_toArray, List.set_cons_zero, List.set_cons_succ]
     refine tk (i := 9) (v := ?_) (hy := Or.inl ⟨by rfl, ?_⟩) (hS := hHeld) (h := ?_)
     rotate_left
     ·intro w hSw
      try dsimp only at hSw
      go_simp
      all_goals with_reducible rfl
     try simp only [Act.put, List.setIfInBounds_toArray, List.set_cons_zero, List.set_cons_succ]
     try simp only [hwr]
     refine tk (i := 10) (v := ?_) (hy := Or.inl ⟨by rfl, ?_⟩) (hS := hHeld) (h := ?_)
     rotate_left
     ·intro w hSw
      try dsimp only at hSw
      go_simp
      all_goals with_reducible rfl
     try simp only [Act.put, List.setIfInBounds_toArray, List.set_cons_zero, List.set_cons_succ]
     refine wpAnyH_ready (rs := [11]) (by kernel_rfl) (by simp) ?_
     refine AllReadyH.cons (by simp only [List.getElem?_toArray, List.getElem?_cons_succ, List.getElem?_cons_zero]; rfl) (fun K hK => ?_) AllReadyH.nil
     go_simp
     refine cw.mono ?_
     rintro e w5 ⟨rfl, f5, hD5, hk5, hn5⟩
     have hl5 := hl4.wrote hcx hD5 hk5 hn5 (Nat.le_trans hXs hW2s) hd2w
     go_wp2_with fail
     refine hK.out _ _ ?_ (fun hHeld2 => ?_)
     ·exact ⟨by rw [blk_cell hl5.bx]; rfl, by rw [blk_cell hl5.zl]; rfl, by rw [blk_cell hl5.zl]; rfl, by rw [blk_cell hl5.at_]; rfl⟩
     clear hK K hHeld
     have hHeld := hHeld2
     clear hHeld2
     try simp only [Act.put, List.setIfInBounds_toArray, List.set_cons_zero, List.set_cons_succ]
     refine tk (i := 12) (v := ?_) (hy := Or.inl ⟨by rfl, ?_⟩) (hS := hHeld) (h := ?_)
     rotate_left
     ·intro w hSw
      try dsimp only at hSw
      go_simp
      all_goals with_reducible rfl
     try simp only [Act.put, List.setIfInBounds_toArray, List.set_cons_zero, List.set_cons_succ]
     refine wpAnyH_calm (by kernel_rfl) ?_ _
     have hRF : ∀ j ∈ w8.heap.size :: (w8.heap.size + 1) :: [wc.heap.size, wc.heap.size + 1], j ∉ fp' := fun j hj hm => by
      simp only [List.mem_cons, List.not_mem_nil, or_false] at hj
      rcases hl4.new j hm with e | e
      ·have := hO.fp j e
       rcases hj with rfl | rfl | rfl | rfl <;> omega
      ·rcases hj with rfl | rfl | rfl | rfl <;> omega
     have hRA : ∀ j ∈ w8.heap.size :: (w8.heap.size + 1) :: [wc.heap.size, wc.heap.size + 1], j ∉ [at_] := fun j hj => by
      simp only [List.mem_cons, List.not_mem_nil, or_false] at hj ⊢
      rcases hj with rfl | rfl | rfl | rfl <;> omega
     have hst := stays_kept (stays_kept (Stays.of_kept (R := w8.heap.size :: (w8.heap.size + 1) :: [wc.heap.size, wc.heap.size + 1]) hk2 (by simp)) (Kept.drew [] W2) (by simp)) hk5 hRF
     have ca5 : w5.cell? ⟨at_, 0, none⟩ = some (.int .i64 av) := by rw [blk_cell hl5.at_]; rfl
     have cf5 : w5.frozen? ⟨at_, 0, none⟩ = false := blk_frozen hl5.at_ 0
     have cr5 : w5.cell? ⟨w.heap.size + 1, 0, none⟩ = some (.int .i64 0) := by rw [blk_cell hl5.rt]; rfl
     have cg5 : w5.frozen? ⟨w.heap.size + 1, 0, none⟩ = false := blk_frozen hl5.rt 0
     clear hk2 hk5 hn5 hl4 cw hcp x0 z0 z1 a0 hD5
     by_cases hv : v = 0
     ·subst hv
      have hfit : -9223372036854775808 ≤ av + 1 ∧ av + 1 ≤ 9223372036854775807 := by have h1 := HAV.out; have h2 := hw.fin; have h3 := HPL.out; omega
      gi_wp2
      refine ⟨stays_kept hst (Kept.setCell (F := [at_]) (by simp) _) hRA, d2, f5, HF.out, ?_⟩
      have e2 : (pre ++ [k]).length = pre.length + 1 := by simp
      have hval : av + 1 = ((s.fin / 128 + (pre.length + 1) : Nat) : Int) := by rw [← HAV.out]; omega
      have hlf := hl5.putAt hcx (av + 1)
      rw [hval] at hlf ⊢
      rw [e2]
      exact hlf
     ·have hv1 : (v != 0) = true := by simpa using hv
      gi_wp2
      exact ⟨stays_kept (stays_sub hst) (Kept.setCell (F := [w.heap.size + 1]) (by simp) _) (fun j hj => by simp only [List.mem_cons, List.not_mem_nil, or_false] at hj ⊢; rcases hj with rfl | rfl <;> omega), rfl, d2, f5, v, _, _, hv, HF.out, hl5.putRt hcx v⟩
    case done =>
     rintro pre X hS ⟨d', fp', hw1, hl1⟩ hDX
     have hLl : (s.last ++ recB b).length = s.last.length + (n + 7) := by rw [List.length_append, length_recB, hbl]
     have hfin : d.writes (s.first + s.fin / 128 : Nat) ((chunks (s.last ++ recB b)).map pad) = (d', 0) := by rw [← chunks_range, hLl, ← hS]; exact hw1
     obtain ⟨lo, hlo⟩ : ∃ lo, s.last.length + (n + 7) - (s.last.length + (n + 7)) % 128 = lo := ⟨_, rfl⟩
     obtain ⟨nf, hnf⟩ : ∃ nf, s.fin + (n + 7) = nf := ⟨_, rfl⟩
     have hap : s.append d b = ({ s with fin := nf, last := (s.last ++ recB b).drop lo }, d', 0) := by
      unfold St.append
      rw [if_neg (by omega), if_neg (by omega)]
      simp only [hfin, if_true, hLl, hlo, hbl, hnf]
     have hlol : ((s.last ++ recB b).drop lo).length = s.last.length + (n + 7) - lo := by rw [List.length_drop, hLl]
     have HAP := Lib.hid hap
     clear hw1 hfin hap hS
     go_wp2_with fail
     have x0 : X.cell? ⟨w.heap.size, 0, none⟩ = some (.pointer (some ⟨z, 0, none⟩)) := by rw [blk_cell hl1.bx]; rfl
     have hlow : IntKind.i64.wrap ((s.last.length : Int) + ((n : Int) + 7) - ((s.last.length : Int) + ((n : Int) + 7)).tmod 128) = ((lo : Nat) : Int) := by
      rw [Int.tmod_eq_emod_of_nonneg (by omega), IntKind.wrap_i64]
      omega
     have hloL : lo ≤ s.last.length + (n + 7) := by omega
     have hlast := last_sl (hl1.sb.kept (Kept.drew [] X) (by simp))
     rw [hlo] at hlast
     obtain ⟨AX, hAX⟩ : ∃ AX : Option Addr, (if cC = lo then some ⟨bC, oC, none⟩ else some ⟨bC, oC + lo, none⟩) = AX := ⟨_, rfl⟩
     rw [hAX] at hlast
     have hlo1 : (0 ≤ ((lo : Nat) : Int) ∧ ((lo : Nat) : Int) ≤ (s.last.length : Int) + ((n : Int) + 7)) := by omega
     have hDs := World.lt_of_heap hDX
     refine wp_region_calm (S := (fun W => W.cell? ⟨w.heap.size, 0, none⟩ = some (.pointer (some ⟨z, 0, none⟩)))) (by kernel_rfl) x0 (fun hHeld => ?_)
     refine tk (i := 0) (v := ?_) (hy := Or.inl ⟨by rfl, ?_⟩) (hS := hHeld) (h := ?_)
     rotate_left
     ·intro w hSw
      try dsimp only at hSw
      go_simp
      all_goals with_reducible rfl
     try simp only [Act.put, List.setIfInBounds_toArray, List.set_cons_zero, List.set_cons_succ]
     refine tk (i := 1) (v := ?_) (hy := Or.inl ⟨by rfl, ?_⟩) (hS := hHeld) (h := ?_)
     rotate_left
     ·intro w hSw
      try dsimp only at hSw
      go_simp
      all_goals with_reducible rfl
     try simp only [Act.put, List.setIfInBounds_toArray, List.set_cons_zero, List.set_cons_succ]
     refine tk (i := 2) (v := ?_) (hy := Or.inl ⟨by rfl, ?_⟩) (hS := hHeld) (h := ?_)
     rotate_left
     ·intro w hSw
      try dsimp only at hSw
      go_simp
      all_goals with_reducible rfl
     try simp only [Act.put, List.setIfInBounds_toArray, List.set_cons_zero, List.set_cons_succ]
     refine tk (i := 3) (v := ?_) (hy := Or.inl ⟨by rfl, ?_⟩) (hS := hHeld) (h := ?_)
     rotate_left
     ·intro w hSw
      try dsimp only at hSw
      go_simp
      all_goals with_reducible rfl
     try simp only [Act.put, List.setIfInBounds_toArray, List.set_cons_zero, List.set_cons_succ]
     refine tk (i := 4) (v := ?_) (hy := Or.inl ⟨by rfl, ?_⟩) (hS := hHeld) (h := ?_)
     rotate_left
     ·intro w hSw
      try dsimp only at hSw
      go_simp
      all_goals with_reducible rfl
     try simp only [Act.put, List.setIfInBounds_toArray, List.set_cons_zero, List.set_cons_succ]
     refine tk (i := 5) (v := ?_) (hy := Or.inl ⟨by rfl, ?_⟩) (hS := hHeld) (h := ?_)
     rotate_left
     ·intro w hSw
      try dsimp only at hSw
      go_simp
      all_goals with_reducible rfl
     try simp only [Act.put, List.setIfInBounds_toArray, List.set_cons_zero, List.set_cons_succ]
     refine tk (i := 6) (v := ?_) (hy := Or.inl ⟨by rfl, ?_⟩) (hS := hHeld) (h := ?_)
     rotate_left
     ·intro w hSw
      try dsimp only at hSw
      go_simp
      all_goals with_reducible rfl
     try simp only [Act.put, List.setIfInBounds_toArray, List.set_cons_zero, List.set_cons_succ]
     refine tk (i := 7) (v := ?_) (hy := Or.inl ⟨by rfl, ?_⟩) (hS := hHeld) (h := ?_)
     rotate_left
     ·intro w hSw
      try dsimp only at hSw
      go_simp
      all_goals with_reducible rfl
     try simp only [Act.put, List.setIfInBounds_toArray, List.set_cons_zero, List.set_cons_succ]
     try simp only [hlow]
     refine tk (i := 8) (v := ?_) (hy := Or.inl ⟨by rfl, ?_⟩) (hS := hHeld) (h := ?_)
     rotate_left
     ·intro w hSw
      try dsimp only at hSw
      go_simp
      try simp only [hlo1, and_self, if_true]
      all_goals with_reducible rfl
     try simp only [Act.put, List.setIfInBounds_toArray, List.set_cons_zero, List.set_cons_succ]
     try simp only [hAX]
     refine wpAnyH_ready (rs := [9]) (by kernel_rfl) (by simp) ?_
     refine AllReadyH.cons (by simp only [List.getElem?_toArray, List.getElem?_cons_succ, List.getElem?_cons_zero]; rfl) (fun K hK => ?_) AllReadyH.nil
     go_simp
     refine (bytesClone_any X.drew _ _ _ ((s.last ++ recB b).drop lo) hlast (by omega)).mono ?_
     rintro e x6 ⟨AN, cN, rfl, hownN, hbelN⟩
     have hk6 : Kept [] X x6 := (Kept.drew [] X).trans (Kept.of_below hbelN)
     obtain ⟨hsN, hNb⟩ := ClonePost.sl hownN
     have hN0 := row_nil' hownN
     have hNlt : ∀ p, AN = some p → p.block < x6.heap.size := fun p e => (hownN.lt p.block (by rw [e]; rfl)).2
     have hz6 := (hk6.block z (World.lt_of_heap hl1.zl) (by simp)).trans hl1.zl
     have hb6 := (hk6.block _ (World.lt_of_heap hl1.bx) (by simp)).trans hl1.bx
     have x6c : x6.cell? ⟨w.heap.size, 0, none⟩ = some (.pointer (some ⟨z, 0, none⟩)) := by rw [blk_cell hb6]; rfl
     have z6c : (x6.cell? ⟨z, 4, none⟩) = some (.slice AL s.last.length cL) := by rw [blk_cell hz6]; rfl
     have z6f : x6.frozen? ⟨z, 4, none⟩ = false := blk_frozen hz6 4
     clear hownN hbelN
     go_wp2_with fail
     refine hK.out _ _ ?_ (fun hHeld2 => ?_)
     ·exact x6c
     clear hK K hHeld
     have hHeld := hHeld2
     clear hHeld2
     try simp only [Act.put, List.setIfInBounds_toArray, List.set_cons_zero, List.set_cons_succ]
     refine tk (i := 10) (v := ?_) (hy := Or.inl ⟨by rfl, ?_⟩) (hS := hHeld) (h := ?_)
     rotate_left
     ·intro w hSw
      try dsimp only at hSw
      go_simp
      all_goals with_reducible rfl
     try simp only [Act.put, List.setIfInBounds_toArray, List.set_cons_zero, List.set_cons_succ]
     refine tk (i := 11) (v := ?_) (hy := Or.inl ⟨by rfl, ?_⟩) (hS := hHeld) (h := ?_)
     rotate_left
     ·intro w hSw
      try dsimp only at hSw
      go_simp
      all_goals with_reducible rfl
     try simp only [Act.put, List.setIfInBounds_toArray, List.set_cons_zero, List.set_cons_succ]
     refine wpAnyH_ready (rs := [12]) (by kernel_rfl) (by simp) ?_
     refine AllReadyH.cons (by simp only [List.getElem?_toArray, List.getElem?_cons_succ, List.getElem?_cons_zero]; rfl) (fun K hK => ?_) AllReadyH.nil
     go_simp
     have hz7 := heap_set hz6 4 (.slice AN (s.last.length + (n + 7) - lo) cN)
     have hk7 : Kept [z] x6 (x6.setCell ⟨z, 4, none⟩ (.slice AN (s.last.length + (n + 7) - lo) cN)) := Kept.setCell (by simp) _
     have x7c := (hk7.cell (p := ⟨w.heap.size, 0, none⟩) (World.lt_of_heap hb6) (by simp; omega)).trans x6c
     refine hK.out _ _ ?_ (fun hHeld2 => ?_)
     ·exact x7c
     clear hK K hHeld
     have hHeld := hHeld2
     clear hHeld2
     try simp only [Act.put, List.setIfInBounds_toArray, List.set_cons_zero, List.set_cons_succ]
     refine wpAnyH_calm (by kernel_rfl) ?_ _
     generalize x6.setCell ⟨z, 4, none⟩ (.slice AN (s.last.length + (n + 7) - lo) cN) = x7 at *
     have z7c : x7.cell? ⟨z, 3, none⟩ = some (.int .i64 s.fin) := by rw [blk_cell hz7]; rfl
     have z7f : x7.frozen? ⟨z, 3, none⟩ = false := blk_frozen hz7 3
     have hfs : IntKind.i64.wrap ((s.fin : Int) + ((n : Int) + 7)) = ((nf : Nat) : Int) := by
      have h2 := hw.fin
      rw [IntKind.wrap_i64]
      omega
     go_wp2_with fail
     refine wp_region_calm (S := (fun W => W.cell? ⟨w.heap.size, 0, none⟩ = some (.pointer (some ⟨z, 0, none⟩)))) (by kernel_rfl) x7c (fun hHeld => ?_)
     have z7c' : x7.drew.cell? ⟨z, 3, none⟩ = some (.int .i64 s.fin) := z7c
     have z7f' : x7.drew.frozen? ⟨z, 3, none⟩ = false := z7f
     have hz7' : x7.drew.heap[z]? = some (.cells #[.pointer (some ⟨a, 0, none⟩), .int .i64 s.first, .int .i64 s.many, .int .i64 s.fin, .slice AN (s.last.length + (n + 7) - lo) cN] 76 (0, 0)) := hz7
     have hk7d := Kept.drew [z] x7
     have x7dc : x7.drew.cell? ⟨w.heap.size, 0, none⟩ = some (.pointer (some ⟨z, 0, none⟩)) := x7c
     generalize x7.drew = x7d at *
     refine tk (i := 0) (v := ?_) (hy := Or.inl ⟨by rfl, ?_⟩) (hS := hHeld) (h := ?_)
     rotate_left
     ·intro w hSw
      try dsimp only at hSw
      go_simp
      all_goals with_reducible rfl
     try simp only [Act.put, List.setIfInBounds_toArray, List.set_cons_zero, List.set_cons_succ]
     refine tk (i := 1) (v := ?_) (hy := Or.inl ⟨by rfl, ?_⟩) (hS := hHeld) (h := ?_)
     rotate_left
     ·intro w hSw
      try dsimp only at hSw
      go_simp
      all_goals with_reducible rfl
     try simp only [Act.put, List.setIfInBounds_toArray, List.set_cons_zero, List.set_cons_succ]
     refine tk (i := 2) (v := ?_) (hy := Or.inl ⟨by rfl, ?_⟩) (hS := hHeld) (h := ?_)
     rotate_left
     ·intro w hSw
      try dsimp only at hSw
      go_simp
      all_goals with_reducible rfl
     try simp only [Act.put, List.setIfInBounds_toArray, List.set_cons_zero, List.set_cons_succ]
     refine tk (i := 4) (v := ?_) (hy := Or.inl ⟨by rfl, ?_⟩) (hS := hHeld) (h := ?_)
     rotate_left
     ·intro w hSw
      try dsimp only at hSw
      go_simp
      all_goals with_reducible rfl
     try simp only [Act.put, List.setIfInBounds_toArray, List.set_cons_zero, List.set_cons_succ]
     refine tk (i := 5) (v := ?_) (hy := Or.inl ⟨by rfl, ?_⟩) (hS := hHeld) (h := ?_)
     rotate_left
     ·intro w hSw
      try dsimp only at hSw
      go_simp
      all_goals with_reducible rfl
     try simp only [Act.put, List.setIfInBounds_toArray, List.set_cons_zero, List.set_cons_succ]
     refine wpAnyH_ready (rs := [3, 6]) (by kernel_rfl) (by simp) ?_
     refine AllReadyH.cons (by simp only [List.getElem?_toArray, List.getElem?_cons_succ, List.getElem?_cons_zero]; rfl) (fun K hK => ?_) (AllReadyH.cons (by simp only [List.getElem?_toArray, List.getElem?_cons_succ, List.getElem?_cons_zero]; rfl) (fun K hK => ?_) AllReadyH.nil)
     ·go_simp
      refine hK.out _ _ ?_ (fun hHeld2 => ?_)
      ·exact x7dc
      clear hK K hHeld
      have hHeld := hHeld2
      clear hHeld2
      try simp only [Act.put, List.setIfInBounds_toArray, List.set_cons_zero, List.set_cons_succ]
      refine wpAnyH_ready (rs := [6]) (by kernel_rfl) (by simp) ?_
      refine AllReadyH.cons (by simp only [List.getElem?_toArray, List.getElem?_cons_succ, List.getElem?_cons_zero]; rfl) (fun K hK => ?_) AllReadyH.nil
      go_simp
      refine (stripSize_any _ _).mono ?_
      rintro e w' ⟨rfl, rfl⟩
      go_wp2_with fail
      refine hK.out _ _ ?_ (fun hHeld2 => ?_)
      ·exact x7dc
      clear hK K hHeld
      have hHeld := hHeld2
      clear hHeld2
      try simp only [Act.put, List.setIfInBounds_toArray, List.set_cons_zero, List.set_cons_succ]
      refine tk (i := 7) (v := ?_) (hy := Or.inl ⟨by rfl, ?_⟩) (hS := hHeld) (h := ?_)
      rotate_left
      ·intro w hSw
       try dsimp only at hSw
       go_simp
       all_goals with_reducible rfl
      try simp only [Act.put, List.setIfInBounds_toArray, List.set_cons_zero, List.set_cons_succ]
      try simp only [hfs]
      refine tk (i := 8) (v := ?_) (hy := Or.inl ⟨by rfl, ?_⟩) (hS := hHeld) (h := ?_)
      rotate_left
      ·intro w hSw
       try dsimp only at hSw
       go_simp
       all_goals with_reducible rfl
      try simp only [Act.put, List.setIfInBounds_toArray, List.set_cons_zero, List.set_cons_succ]
      refine tk (i := 9) (v := ?_) (hy := Or.inl ⟨by rfl, ?_⟩) (hS := hHeld) (h := ?_)
      rotate_left
      ·intro w hSw
       try dsimp only at hSw
       go_simp
       all_goals with_reducible rfl
      try simp only [Act.put, List.setIfInBounds_toArray, List.set_cons_zero, List.set_cons_succ]
      refine wpAnyH_ready (rs := [10]) (by kernel_rfl) (by simp) ?_
      refine AllReadyH.cons (by simp only [List.getElem?_toArray, List.getElem?_cons_succ, List.getElem?_cons_zero]; rfl) (fun K hK => ?_) AllReadyH.nil
      go_simp
      have hz8 := heap_set hz7' 3 (.int .i64 ((nf : Nat) : Int))
      have hk8' : Kept [z] x7 (x7d.setCell ⟨z, 3, none⟩ (.int .i64 ((nf : Nat) : Int))) := hk7d.trans (Kept.setCell (by simp) _)
      have hk68 : Kept [z] x6 (x7d.setCell ⟨z, 3, none⟩ (.int .i64 ((nf : Nat) : Int))) := hk7.trans hk8'
      refine hK.out _ _ ?_ (fun hHeld2 => ?_)
      ·exact (hk68.cell (p := ⟨w.heap.size, 0, none⟩) (World.lt_of_heap hb6) (by simp; omega)).trans x6c
      clear hK K hHeld
      have hHeld := hHeld2
      clear hHeld2
      try simp only [Act.put, List.setIfInBounds_toArray, List.set_cons_zero, List.set_cons_succ]
      refine wpAnyH_calm (by kernel_rfl) ?_ _
      generalize World.setCell x7d ⟨z, 3, none⟩ (.int .i64 ((nf : Nat) : Int)) = x8 at *
      have hr6 := (hk6.block _ (World.lt_of_heap hl1.rt) (by simp)).trans hl1.rt
      have hr8 := (hk68.block _ (World.lt_of_heap hr6) (by simp; omega)).trans hr6
      have r8c : x8.cell? ⟨w.heap.size + 1, 0, none⟩ = some (.int .i64 0) := by rw [blk_cell hr8]; rfl
      have r8f : x8.frozen? ⟨w.heap.size + 1, 0, none⟩ = false := blk_frozen hr8 0
      go_wp2_with fail
      rw [HAP.out]
      have hk89 : Kept [w.heap.size + 1] x8 (x8.setCell ⟨w.heap.size + 1, 0, none⟩ (.int .i64 0)) := Kept.setCell (by simp) _
      have hD6 := (hk6.block _ hDs (by simp)).trans hDX
      have hD8 := (hk68.block _ (World.lt_of_heap hD6) (by simp; omega)).trans hD6
      have hD9 := (hk89.block _ (World.lt_of_heap hD8) (by simp; omega)).trans hD8
      have hz9 := (hk89.block z (World.lt_of_heap hz8) (by simp; omega)).trans hz8
      have hr9 := heap_set hr8 0 (.int .i64 0)
      refine ⟨by simp, .inl ⟨_, _, rfl, run_takeDeferred hD9, ?_⟩⟩
      have hkD : Kept [w8.heap.size] (x8.setCell ⟨w.heap.size + 1, 0, none⟩ (.int .i64 0)) (World.putObj (x8.setCell ⟨w.heap.size + 1, 0, none⟩ (.int .i64 0)) w8.heap.size (.deferred none)) := Kept.putObj (r := w8.heap.size) (by simp) _ _
      have hrY := (hkD.block _ (World.lt_of_heap hr9) (by simp; omega)).trans hr9
      have hzY := (hkD.block z (World.lt_of_heap hz9) (by simp; omega)).trans hz9
      refine ⟨_, results_cell_int rfl _ _ (w.heap.size + 1) (.int .i64 0) rfl (by rw [blk_cell hrY]; rfl) Tryz.underlying23, ?_⟩
      refine hl1.done (s' := { s with fin := nf, last := (s.last ++ recB b).drop lo }) (AN := AN) (cN := cN) hcx hS.zin hDs hk6 (by rw [hlol]; exact hsN) hN0 (fun p e => ⟨hNb p e, hNlt p e⟩) (((hk68.mono (fun i hi => .inl (by simp at hi; simp [hi]))).trans (hk89.mono (fun i hi => .inl (by simp at hi; simp [hi])))).trans (hkD.mono (fun i hi => .inl (by simp at hi; simp [hi])))) ?_
      rw [hzY, hlol]
      rfl
     ·go_simp
      refine (stripSize_any _ _).mono ?_
      rintro e w' ⟨rfl, rfl⟩
      go_wp2_with fail
      refine hK.out _ _ ?_ (fun hHeld2 => ?_)
      ·exact x7dc
      clear hK K hHeld
      have hHeld := hHeld2
      clear hHeld2
      try simp only [Act.put, List.setIfInBounds_toArray, List.set_cons_zero, List.set_cons_succ]
      refine wpAnyH_ready (rs := [3]) (by kernel_rfl) (by simp) ?_
      refine AllReadyH.cons (by simp only [List.getElem?_toArray, List.getElem?_cons_succ, List.getElem?_cons_zero]; rfl) (fun K hK => ?_) AllReadyH.nil
      go_simp
      refine hK.out _ _ ?_ (fun hHeld2 => ?_)
      ·exact x7dc
      clear hK K hHeld
      have hHeld := hHeld2
      clear hHeld2
      try simp only [Act.put, List.setIfInBounds_toArray, List.set_cons_zero, List.set_cons_succ]
      refine tk (i := 7) (v := ?_) (hy := Or.inl ⟨by rfl, ?_⟩) (hS := hHeld) (h := ?_)
      rotate_left
      ·intro w hSw
       try dsimp only at hSw
       go_simp
       all_goals with_reducible rfl
      try simp only [Act.put, List.setIfInBounds_toArray, List.set_cons_zero, List.set_cons_succ]
      try simp only [hfs]
      refine tk (i := 8) (v := ?_) (hy := Or.inl ⟨by rfl, ?_⟩) (hS := hHeld) (h := ?_)
      rotate_left
      ·intro w hSw
       try dsimp only at hSw
       go_simp
       all_goals with_reducible rfl
      try simp only [Act.put, List.setIfInBounds_toArray, List.set_cons_zero, List.set_cons_succ]
      refine tk (i := 9) (v := ?_) (hy := Or.inl ⟨by rfl, ?_⟩) (hS := hHeld) (h := ?_)
      rotate_left
      ·intro w hSw
       try dsimp only at hSw
       go_simp
       all_goals with_reducible rfl
      try simp only [Act.put, List.setIfInBounds_toArray, List.set_cons_zero, List.set_cons_succ]
      refine wpAnyH_ready (rs := [10]) (by kernel_rfl) (by simp) ?_
      refine AllReadyH.cons (by simp only [List.getElem?_toArray, List.getElem?_cons_succ, List.getElem?_cons_zero]; rfl) (fun K hK => ?_) AllReadyH.nil
      go_simp
      have hz8 := heap_set hz7' 3 (.int .i64 ((nf : Nat) : Int))
      have hk8' : Kept [z] x7 (x7d.setCell ⟨z, 3, none⟩ (.int .i64 ((nf : Nat) : Int))) := hk7d.trans (Kept.setCell (by simp) _)
      have hk68 : Kept [z] x6 (x7d.setCell ⟨z, 3, none⟩ (.int .i64 ((nf : Nat) : Int))) := hk7.trans hk8'
      refine hK.out _ _ ?_ (fun hHeld2 => ?_)
      ·exact (hk68.cell (p := ⟨w.heap.size, 0, none⟩) (World.lt_of_heap hb6) (by simp; omega)).trans x6c
      clear hK K hHeld
      have hHeld := hHeld2
      clear hHeld2
      try simp only [Act.put, List.setIfInBounds_toArray, List.set_cons_zero, List.set_cons_succ]
      refine wpAnyH_calm (by kernel_rfl) ?_ _
      generalize World.setCell x7d ⟨z, 3, none⟩ (.int .i64 ((nf : Nat) : Int)) = x8 at *
      have hr6 := (hk6.block _ (World.lt_of_heap hl1.rt) (by simp)).trans hl1.rt
      have hr8 := (hk68.block _ (World.lt_of_heap hr6) (by simp; omega)).trans hr6
      have r8c : x8.cell? ⟨w.heap.size + 1, 0, none⟩ = some (.int .i64 0) := by rw [blk_cell hr8]; rfl
      have r8f : x8.frozen? ⟨w.heap.size + 1, 0, none⟩ = false := blk_frozen hr8 0
      go_wp2_with fail
      rw [HAP.out]
      have hk89 : Kept [w.heap.size + 1] x8 (x8.setCell ⟨w.heap.size + 1, 0, none⟩ (.int .i64 0)) := Kept.setCell (by simp) _
      have hD6 := (hk6.block _ hDs (by simp)).trans hDX
      have hD8 := (hk68.block _ (World.lt_of_heap hD6) (by simp; omega)).trans hD6
      have hD9 := (hk89.block _ (World.lt_of_heap hD8) (by simp; omega)).trans hD8
      have hz9 := (hk89.block z (World.lt_of_heap hz8) (by simp; omega)).trans hz8
      have hr9 := heap_set hr8 0 (.int .i64 0)
      refine ⟨by simp, .inl ⟨_, _, rfl, run_takeDeferred hD9, ?_⟩⟩
      have hkD : Kept [w8.heap.size] (x8.setCell ⟨w.heap.size + 1, 0, none⟩ (.int .i64 0)) (World.putObj (x8.setCell ⟨w.heap.size + 1, 0, none⟩ (.int .i64 0)) w8.heap.size (.deferred none)) := Kept.putObj (r := w8.heap.size) (by simp) _ _
      have hrY := (hkD.block _ (World.lt_of_heap hr9) (by simp; omega)).trans hr9
      have hzY := (hkD.block z (World.lt_of_heap hz9) (by simp; omega)).trans hz9
      refine ⟨_, results_cell_int rfl _ _ (w.heap.size + 1) (.int .i64 0) rfl (by rw [blk_cell hrY]; rfl) Tryz.underlying23, ?_⟩
      refine hl1.done (s' := { s with fin := nf, last := (s.last ++ recB b).drop lo }) (AN := AN) (cN := cN) hcx hS.zin hDs hk6 (by rw [hlol]; exact hsN) hN0 (fun p e => ⟨hNb p e, hNlt p e⟩) (((hk68.mono (fun i hi => .inl (by simp at hi; simp [hi]))).trans (hk89.mono (fun i hi => .inl (by simp at hi; simp [hi])))).trans (hkD.mono (fun i hi => .inl (by simp at hi; simp [hi])))) ?_
      rw [hzY, hlol]
      rfl
    case stop =>
     rintro c pre X hSp ⟨rfl, d', fp', r, k, v, hr0, hw1, hl1⟩ hDX
     have hLl : (s.last ++ recB b).length = s.last.length + (n + 7) := by rw [List.length_append, length_recB, hbl]
     obtain ⟨k2, hk2, hpre⟩ := hSp
     have hfin : d.writes (s.first + s.fin / 128 : Nat) ((chunks (s.last ++ recB b)).map pad) = (d', r) := by
      refine writes_stop _ d _ k2 (d', r) ?_ hr0
      rw [← chunks_range, hLl, ← List.map_take, List.take_range, Nat.min_eq_left hk2, ← hpre]
      exact hw1
     have hap : s.append d b = (s, d', r) := by
      unfold St.append
      rw [if_neg (by omega), if_neg (by omega)]
      simp only [hfin, hr0, if_false]
     rw [hap]
     clear hw1 hfin hap hpre hk2
     refine (wpIn_wide (n := 10)).2 ?_
     go_wp2_with fail
     refine ⟨by simp, .inl ⟨_, _, rfl, run_takeDeferred hDX, ?_⟩⟩
     have hlf := hl1.next hcx (Kept.putObj (F := [w8.heap.size]) (r := w8.heap.size) (by simp) X (.deferred none)) (fun j hj => .inl (by simpa using hj))
     refine ⟨_, results_cell_int rfl _ _ (w.heap.size + 1) (.int .i64 r) rfl (by rw [blk_cell hlf.rt]; rfl) Tryz.underlying23, ?_⟩
     exact hlf.ends hcx hS.zin hS.lt hne hAL hLn
end Go.Proofs.YtbnflbkaogpnbaaGreat
