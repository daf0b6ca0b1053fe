/- Texts in one: KZ. -/
import Derived.Test.YtbnflbkaogpnbaaGreatPBM
import Derived.Deep.CutRange
namespace Go.Proofs.YtbnflbkaogpnbaaGreat
set_option linter.unusedVariables false
open Go.RowKit
def ZkA (w : World) (p i : Value) (wr : World) : Prop := ∃ (k : Nat) (q : Option Addr), k ≤ 2 ∧ i = .int .i64 k ∧ p = .pointer q ∧ NoStrip wr q ∧ Kept [] w wr
def endsZ : Array Value := #[.int .i64 (-1), .int .i64 0, .int .i64 1, .int .i64 3, .int .i64 4, .int .i64 5, .int .i64 24, .int .i64 25, .int .i64 4611686018427387904, .int .i64 (-4611686018427387904)]
def ZkB (w : World) (i : Value) (wr : World) : Prop := ∃ k : Nat, k ≤ 10 ∧ i = .int .i64 k ∧ Kept [] w wr
theorem endsZ_at {w : World} {eb : Nat} {t : TypeId} (h : w.heap[eb]? = some (.cells endsZ t (0, 0))) {k : Nat} (hk : k < 10) : ∃ e : Int, w.cell? ⟨eb, k, none⟩ = some (.int .i64 e) ∧ I64 e := by
 rw [blk_cell h]
 have : k = 0 ∨ k = 1 ∨ k = 2 ∨ k = 3 ∨ k = 4 ∨ k = 5 ∨ k = 6 ∨ k = 7 ∨ k = 8 ∨ k = 9 := by omega
 rcases this with rfl | rfl | rfl | rfl | rfl | rfl | rfl | rfl | rfl | rfl
 all_goals exact ⟨_, rfl, by unfold I64; omega⟩
set_option maxHeartbeats 8000000 in
set_option maxRecDepth 100000 in
theorem spoolKnown_walk (w : World) : Calls Tryz.prog 3 #[] w (TruePost w) := by
 go_enter Tryz.func3, Tryz.ntmps3
 go_wp2_with fail
 go_loopw [1, 2] (fun p i wr => ZkA w p i wr) (fun _ i _ => 2 - (intOf i).toNat)
 case atStart => exact ⟨0, none, by omega, rfl, rfl, .inl rfl, Kept.refl _ _⟩
 case round =>
  obtain ⟨k, q, hk, rfl, rfl, hN, hkw⟩ := hrel
  by_cases hlt : k < 2
  ·have i1 : (k : Int) < 2 := by omega
   have ca := spoolAppend_none hN
   have cf := spoolFlush_none hN
   have cr := spoolReplace_none hN
   have cl := spoolLen_none hN
   have cle := spoolLeft_none hN
   have ch := spoolHalf_none hN
   have cb := spoolBroken_none hN
   have hwz : IntKind.i64.wrap 0 = 0 := by decide
   go_wp2_with fail
   refine ca.mono ?_
   rintro e w1 ⟨rfl, rfl⟩
   go_wp2_with fail
   refine cf.mono ?_
   rintro e w1 ⟨rfl, rfl⟩
   go_wp2_with fail
   refine cr.mono ?_
   rintro e w1 ⟨rfl, rfl⟩
   go_wp2_with fail
   refine cl.mono ?_
   rintro e w1 ⟨rfl, rfl⟩
   go_wp2_with fail
   refine cle.mono ?_
   rintro e w1 ⟨rfl, rfl⟩
   go_wp2_with fail
   refine ch.mono ?_
   rintro e w1 ⟨rfl, rfl⟩
   go_wp2_with fail
   refine cb.mono ?_
   rintro e w1 ⟨rfl, rfl⟩
   clear ca cf cr cl cle ch cb
   go_wp2_with fail
   go_roundw
   case rel => exact ⟨k + 1, some ⟨wr.heap.size, 0, none⟩, by omega, by go_num, rfl, .inr ⟨_, rfl, by simp, by rw [blk_cell (heap_alloc_new _ _)]; rfl⟩, hkw.trans (Kept.alloc [] _ _)⟩
   case measure => simp [intOf]; omega
  ·have i1 : ¬ (k : Int) < 2 := by omega
   go_wp2_with fail
   refine (new_any 8 _ (by omega) (by omega)).mono ?_
   rintro e w1 ⟨a, f1, rfl, hD1, hA1, hN1⟩
   have cc := crash_dv hD1 none 0 0 [] (by simpa using SlAt.nil w1) (fun p e => by cases e)
   go_wp2_with fail
   refine cc.mono ?_
   rintro e w2 ⟨rfl, f2, hD2, hk2, hn2⟩
   have hdd : ((Dev.new 8).crash []).1.dead = true := rfl
   obtain ⟨d2, hd2⟩ : ∃ d2, ((Dev.new 8).crash []).1 = d2 := ⟨_, rfl⟩
   rw [hd2] at hD2 hdd
   have k02 : Kept [] w w2 := (hkw.trans hA1).trans' hk2 (fun j hj => .inr (Nat.le_trans hkw.size (hN1 j hj)))
   clear cc hd2 hD1 hA1 hN1 hk2 hn2
   have c1 := spoolOpen_none (w := w2) (p := none) (.inl rfl)
   go_wp2_with fail
   refine c1.mono ?_
   rintro e w3 ⟨rfl, k3⟩
   have hbn := heap_alloc_new w3 (.cells #[.slice none 0 0, .map none, .int .i64 0, .slice none 0 0, .int .i64 0, .int .i64 0, .bool false] 44)
   have kn := Kept.alloc [] w3 (.cells #[.slice none 0 0, .map none, .int .i64 0, .slice none 0 0, .int .i64 0, .int .i64 0, .bool false] 44)
   have c2 := spoolOpen_none (w := w3.alloc (.cells #[.slice none 0 0, .map none, .int .i64 0, .slice none 0 0, .int .i64 0, .int .i64 0, .bool false] 44)) (p := some ⟨w3.heap.size, 0, none⟩) (.inr ⟨_, rfl, World.lt_of_heap hbn, by rw [blk_cell hbn]; rfl⟩)
   clear c1
   go_wp2_with fail
   refine c2.mono ?_
   rintro e w4 ⟨rfl, k4⟩
   have k24 : Kept [] w2 w4 := (k3.trans kn).trans k4
   have c3 := spoolOpen_any (hD2.new_kept k24) 0 8 (by unfold I64; omega) (by unfold I64; omega)
   have hob : logBad d2 0 8 = 100 := by simp [logBad, Dev.at_, hdd]
   clear c2 hbn kn
   go_wp2_with fail
   refine c3.mono ?_
   rintro e w5 ⟨k5, ho⟩
   rw [hob] at ho
   have he : e = .returned (.tuple #[.pointer none, .slice none 0 0, .int .i64 100]) := by
    rcases ho with ⟨_, h⟩ | ⟨h, _⟩ | ⟨h, _⟩
    ·exact h
    ·exact absurd h (by decide)
    ·exact absurd h (by decide)
   subst he
   have k05 : Kept [] w w5 := (k02.trans k24).trans k5
   clear c3 ho hob hdd hD2 k3 k4 k24 k5 k02 hkw hN
   have hbe := heap_alloc_new w5 (.cells endsZ 3)
   have k06 := k05.trans (Kept.alloc [] w5 (.cells endsZ 3))
   obtain ⟨W6, hW6⟩ : ∃ W6, w5.alloc (.cells endsZ 3) = W6 := ⟨_, rfl⟩
   rw [hW6] at hbe k06
   have hel := World.lt_of_heap hbe
   unfold endsZ at hW6
   go_wp2_with fail
   try rw [hW6]
   clear hW6
   generalize w5.heap.size = eb at *
   go_loopw [15] (fun i wr => ZkB W6 i wr) (fun i _ => 10 - (intOf i).toNat)
   case atStart => exact ⟨0, by omega, rfl, Kept.refl _ _⟩
   case round =>
    obtain ⟨i, hi, rfl, hki⟩ := hrel
    by_cases hit : i < 10
    ·have i2 : (i : Int) < 10 := by omega
     go_wp2_with fail
     go_loopw [16] (fun i wr => ZkB W6 i wr) (fun i _ => 10 - (intOf i).toNat)
     case atStart => exact ⟨0, by omega, rfl, hki⟩
     case round =>
      obtain ⟨k, hk, rfl, hkk⟩ := hrel
      by_cases hkt : k < 10
      ·have i3 : (k : Int) < 10 := by omega
       obtain ⟨kA, hkA⟩ : ∃ kA, 40 * k = kA := ⟨_, rfl⟩
       obtain ⟨kD, hkD⟩ : ∃ kD, 1024 * k = kD := ⟨_, rfl⟩
       obtain ⟨kB, hkB⟩ : ∃ kB, kD + i = kB := ⟨_, rfl⟩
       obtain ⟨kC, hkC⟩ : ∃ kC, k % 5 = kC := ⟨_, rfl⟩
       have hkA1 : kA ≤ 360 := by omega
       have hkB1 : kB ≤ 20000 := by omega
       have hkC1 : kC ≤ 4 := by omega
       have hw0 : IntKind.i64.wrap (40 * (k : Int)) = (kA : Int) := by rw [IntKind.wrap_i64]; omega
       have hw1 : 40 * (k : Int) = (kA : Int) := by omega
       have hw2 : IntKind.i64.wrap (1024 * (k : Int)) = (kD : Int) := by rw [IntKind.wrap_i64]; omega
       have hw9 : 1024 * (k : Int) = (kD : Int) := by omega
       have hw3 : (k : Int).tmod 5 = (kC : Int) := by rw [Int.tmod_eq_emod_of_nonneg (by omega)]; omega
       have hw4 : (k : Int) % 5 = (kC : Int) := by omega
       have hw5 : IntKind.i64.wrap ((kD : Int) + (i : Int)) = (kB : Int) := by rw [IntKind.wrap_i64]; omega
       have hw6 : IntKind.i64.wrap (kC : Int) = (kC : Int) := by rw [IntKind.wrap_i64]; omega
       have hw7 : IntKind.i64.wrap (kA : Int) = (kA : Int) := by rw [IntKind.wrap_i64]; omega
       have hw8 : IntKind.i64.wrap (kD : Int) = (kD : Int) := by rw [IntKind.wrap_i64]; omega
       have hwa : (kD : Int) + (i : Int) = (kB : Int) := by omega
       have hwb : IntKind.i64.wrap (kB : Int) = (kB : Int) := by rw [IntKind.wrap_i64]; omega
       clear hkA hkB hkC hkD
       go_wp2_with fail
       refine wp_region_calm (S := (fun _ => True)) (by kernel_rfl) trivial (fun hHeld => ?_)
       refine tk (i := 3) (v := ?_) (hy := Or.inl ⟨by rfl, ?_⟩) (hS := hHeld) (h := ?_)
       rotate_left
       ·intro w hSw
        try dsimp only at hSw
        go_simp
        all_goals with_reducible rfl
       try simp only [Act.put, List.setIfInBounds_toArray, List.set_cons_zero, List.set_cons_succ]
       refine tk (i := 4) (v := ?_) (hy := Or.inl ⟨by rfl, ?_⟩) (hS := hHeld) (h := ?_)
       rotate_left
       ·intro w hSw
        try dsimp only at hSw
        go_simp
        all_goals with_reducible rfl
       try simp only [Act.put, List.setIfInBounds_toArray, List.set_cons_zero, List.set_cons_succ]
       refine tk (i := 5) (v := ?_) (hy := Or.inl ⟨by rfl, ?_⟩) (hS := hHeld) (h := ?_)
       rotate_left
       ·intro w hSw
        try dsimp only at hSw
        go_simp
        all_goals with_reducible rfl
       try simp only [Act.put, List.setIfInBounds_toArray, List.set_cons_zero, List.set_cons_succ]
       try simp only [hw0, hw1, hw2, hw3, hw4, hw5, hw6, hw7, hw8, hw9, hwa, hwb]
       refine tk (i := 8) (v := ?_) (hy := Or.inl ⟨by rfl, ?_⟩) (hS := hHeld) (h := ?_)
       rotate_left
       ·intro w hSw
        try dsimp only at hSw
        go_simp
        all_goals with_reducible rfl
       try simp only [Act.put, List.setIfInBounds_toArray, List.set_cons_zero, List.set_cons_succ]
       refine tk (i := 9) (v := ?_) (hy := Or.inl ⟨by rfl, ?_⟩) (hS := hHeld) (h := ?_)
       rotate_left
       ·intro w hSw
        try dsimp only at hSw
        go_simp
        all_goals with_reducible rfl
       try simp only [Act.put, List.setIfInBounds_toArray, List.set_cons_zero, List.set_cons_succ]
       refine tk (i := 10) (v := ?_) (hy := Or.inl ⟨by rfl, ?_⟩) (hS := hHeld) (h := ?_)
       rotate_left
       ·intro w hSw
        try dsimp only at hSw
        go_simp
        all_goals with_reducible rfl
       try simp only [Act.put, List.setIfInBounds_toArray, List.set_cons_zero, List.set_cons_succ]
       refine tk (i := 13) (v := ?_) (hy := Or.inl ⟨by rfl, ?_⟩) (hS := hHeld) (h := ?_)
       rotate_left
       ·intro w hSw
        try dsimp only at hSw
        go_simp
        all_goals with_reducible rfl
       try simp only [Act.put, List.setIfInBounds_toArray, List.set_cons_zero, List.set_cons_succ]
       refine tk (i := 19) (v := ?_) (hy := Or.inl ⟨by rfl, ?_⟩) (hS := hHeld) (h := ?_)
       rotate_left
       ·intro w hSw
        try dsimp only at hSw
        go_simp
        all_goals with_reducible rfl
       try simp only [Act.put, List.setIfInBounds_toArray, List.set_cons_zero, List.set_cons_succ]
       refine tk (i := 20) (v := ?_) (hy := Or.inl ⟨by rfl, ?_⟩) (hS := hHeld) (h := ?_)
       rotate_left
       ·intro w hSw
        try dsimp only at hSw
        go_simp
        all_goals with_reducible rfl
       try simp only [Act.put, List.setIfInBounds_toArray, List.set_cons_zero, List.set_cons_succ]
       try simp only [hw0, hw1, hw2, hw3, hw4, hw5, hw6, hw7, hw8, hw9, hwa, hwb]
       refine tk (i := 21) (v := ?_) (hy := Or.inl ⟨by rfl, ?_⟩) (hS := hHeld) (h := ?_)
       rotate_left
       ·intro w hSw
        try dsimp only at hSw
        go_simp
        all_goals with_reducible rfl
       try simp only [Act.put, List.setIfInBounds_toArray, List.set_cons_zero, List.set_cons_succ]
       refine tk (i := 24) (v := ?_) (hy := Or.inl ⟨by rfl, ?_⟩) (hS := hHeld) (h := ?_)
       rotate_left
       ·intro w hSw
        try dsimp only at hSw
        go_simp
        all_goals with_reducible rfl
       try simp only [Act.put, List.setIfInBounds_toArray, List.set_cons_zero, List.set_cons_succ]
       refine tk (i := 28) (v := ?_) (hy := Or.inl ⟨by rfl, ?_⟩) (hS := hHeld) (h := ?_)
       rotate_left
       ·intro w hSw
        try dsimp only at hSw
        go_simp
        all_goals with_reducible rfl
       try simp only [Act.put, List.setIfInBounds_toArray, List.set_cons_zero, List.set_cons_succ]
       refine tk (i := 29) (v := ?_) (hy := Or.inl ⟨by rfl, ?_⟩) (hS := hHeld) (h := ?_)
       rotate_left
       ·intro w hSw
        try dsimp only at hSw
        go_simp
        all_goals with_reducible rfl
       try simp only [Act.put, List.setIfInBounds_toArray, List.set_cons_zero, List.set_cons_succ]
       refine tk (i := 33) (v := ?_) (hy := Or.inl ⟨by rfl, ?_⟩) (hS := hHeld) (h := ?_)
       rotate_left
       ·intro w hSw
        try dsimp only at hSw
        go_simp
        all_goals with_reducible rfl
       try simp only [Act.put, List.setIfInBounds_toArray, List.set_cons_zero, List.set_cons_succ]
       refine tk (i := 34) (v := ?_) (hy := Or.inl ⟨by rfl, ?_⟩) (hS := hHeld) (h := ?_)
       rotate_left
       ·intro w hSw
        try dsimp only at hSw
        go_simp
        all_goals with_reducible rfl
       try simp only [Act.put, List.setIfInBounds_toArray, List.set_cons_zero, List.set_cons_succ]
       refine tk (i := 35) (v := ?_) (hy := Or.inl ⟨by rfl, ?_⟩) (hS := hHeld) (h := ?_)
       rotate_left
       ·intro w hSw
        try dsimp only at hSw
        go_simp
        all_goals with_reducible rfl
       try simp only [Act.put, List.setIfInBounds_toArray, List.set_cons_zero, List.set_cons_succ]
       try simp only [hw0, hw1, hw2, hw3, hw4, hw5, hw6, hw7, hw8, hw9, hwa, hwb]
       refine tk (i := 36) (v := ?_) (hy := Or.inl ⟨by rfl, ?_⟩) (hS := hHeld) (h := ?_)
       rotate_left
       ·intro w hSw
        try dsimp only at hSw
        go_simp
        all_goals with_reducible rfl
       try simp only [Act.put, List.setIfInBounds_toArray, List.set_cons_zero, List.set_cons_succ]
       refine tk (i := 37) (v := ?_) (hy := Or.inl ⟨by rfl, ?_⟩) (hS := hHeld) (h := ?_)
       rotate_left
       ·intro w hSw
        try dsimp only at hSw
        go_simp
        all_goals with_reducible rfl
       try simp only [Act.put, List.setIfInBounds_toArray, List.set_cons_zero, List.set_cons_succ]
       try simp only [hw0, hw1, hw2, hw3, hw4, hw5, hw6, hw7, hw8, hw9, hwa, hwb]
       refine tk (i := 38) (v := ?_) (hy := Or.inl ⟨by rfl, ?_⟩) (hS := hHeld) (h := ?_)
       rotate_left
       ·intro w hSw
        try dsimp only at hSw
        go_simp
        all_goals with_reducible rfl
       try simp only [Act.put, List.setIfInBounds_toArray, List.set_cons_zero, List.set_cons_succ]
       refine tk (i := 39) (v := ?_) (hy := Or.inl ⟨by rfl, ?_⟩) (hS := hHeld) (h := ?_)
       rotate_left
       ·intro w hSw
        try dsimp only at hSw
        go_simp
        all_goals with_reducible rfl
       try simp only [Act.put, List.setIfInBounds_toArray, List.set_cons_zero, List.set_cons_succ]
       refine wpAnyH_mem' [(0, 99), (1, 100), (2, 101), (6, 105), (7, 106), (11, 110), (12, 111), (14, 113), (15, 114), (16, 115), (17, 116), (18, 117), (22, 121), (23, 122), (25, 124), (26, 125), (27, 126), (30, 129), (31, 130), (32, 131), (40, 139), (41, 17)] (zkS wr.drew.heap.size i k kA) (zkS_soft (w0 := wr.drew)) (by kernel_rfl) ?hop (fun w hs => trivial) ?hfin
       case hop =>
        refine List.forall_mem_cons.2 ⟨?_, List.forall_mem_cons.2 ⟨?_, List.forall_mem_cons.2 ⟨?_, List.forall_mem_cons.2 ⟨?_, List.forall_mem_cons.2 ⟨?_, List.forall_mem_cons.2 ⟨?_, List.forall_mem_cons.2 ⟨?_, List.forall_mem_cons.2 ⟨?_, List.forall_mem_cons.2 ⟨?_, List.forall_mem_cons.2 ⟨?_, List.forall_mem_cons.2 ⟨?_, List.forall_mem_cons.2 ⟨?_, List.forall_mem_cons.2 ⟨?_, List.forall_mem_cons.2 ⟨?_, List.forall_mem_cons.2 ⟨?_, List.forall_mem_cons.2 ⟨?_, List.forall_mem_cons.2 ⟨?_, List.forall_mem_cons.2 ⟨?_, List.forall_mem_cons.2 ⟨?_, List.forall_mem_cons.2 ⟨?_, List.forall_mem_cons.2 ⟨?_, List.forall_mem_cons.2 ⟨?_, fun x hx => by cases hx⟩⟩⟩⟩⟩⟩⟩⟩⟩⟩⟩⟩⟩⟩⟩⟩⟩⟩⟩⟩⟩⟩
        ·intro a w ho hs hd
         exact zk_op0 rfl hs.size 
        ·intro a w ho hs hd
         exact zk_op1 rfl hs.size (hd (0, 99) (by simp) ⟨_, rfl, ⟨0, .data⟩, by simp, rfl, rfl⟩)
        ·intro a w ho hs hd
         exact zk_op2 rfl hs.size (hd (1, 100) (by simp) ⟨_, rfl, ⟨1, .data⟩, by simp, rfl, rfl⟩)
        ·intro a w ho hs hd
         exact zk_op6 rfl hs.size ((ho.eval (by decide)).trans rfl) hkA1
        ·intro a w ho hs hd
         exact zk_op7 rfl hs.size (hd (6, 105) (by simp) ⟨_, rfl, ⟨6, .data⟩, by simp, rfl, rfl⟩)
        ·intro a w ho hs hd
         exact zk_op11 rfl hs.size ((ho.eval (by decide)).trans rfl) ((ho.eval (by decide)).trans rfl) hkt hit
        ·intro a w ho hs hd
         exact zk_op12 rfl hs.size (hd (11, 110) (by simp) ⟨_, rfl, ⟨11, .data⟩, by simp, rfl, rfl⟩) ((ho.eval (by decide)).trans rfl)
        ·intro a w ho hs hd
         exact zk_op14 rfl hs.size 
        ·intro a w ho hs hd
         exact zk_op15 rfl hs.size (hd (14, 113) (by simp) ⟨_, rfl, ⟨14, .data⟩, by simp, rfl, rfl⟩)
        ·intro a w ho hs hd
         exact zk_op16 rfl hs.size (hd (15, 114) (by simp) ⟨_, rfl, ⟨15, .data⟩, by simp, rfl, rfl⟩)
        ·intro a w ho hs hd
         exact zk_op17 rfl hs.size 
        ·intro a w ho hs hd
         exact zk_op18 rfl hs.size (hd (17, 116) (by simp) ⟨_, rfl, ⟨17, .data⟩, by simp, rfl, rfl⟩)
        ·intro a w ho hs hd
         exact zk_op22 rfl hs.size 
        ·intro a w ho hs hd
         exact zk_op23 rfl hs.size (hd (22, 121) (by simp) ⟨_, rfl, ⟨22, .data⟩, by simp, rfl, rfl⟩)
        ·intro a w ho hs hd
         exact zk_op25 rfl hs.size 
        ·intro a w ho hs hd
         exact zk_op26 rfl hs.size (hd (25, 124) (by simp) ⟨_, rfl, ⟨25, .data⟩, by simp, rfl, rfl⟩)
        ·intro a w ho hs hd
         exact zk_op27 rfl hs.size (hd (26, 125) (by simp) ⟨_, rfl, ⟨26, .data⟩, by simp, rfl, rfl⟩)
        ·intro a w ho hs hd
         exact zk_op30 rfl hs.size 
        ·intro a w ho hs hd
         exact zk_op31 rfl hs.size (hd (30, 129) (by simp) ⟨_, rfl, ⟨30, .data⟩, by simp, rfl, rfl⟩)
        ·intro a w ho hs hd
         exact zk_op32 rfl hs.size (hd (31, 130) (by simp) ⟨_, rfl, ⟨31, .data⟩, by simp, rfl, rfl⟩)
        ·intro a w ho hs hd
         exact zk_op40 rfl hs.size hit hkA1 hkB1 hkC1 (hd (2, 101) (by simp) ⟨_, rfl, ⟨2, .data⟩, by simp, rfl, rfl⟩) ((ho.eval (by decide)).trans rfl) (hd (7, 106) (by simp) ⟨_, rfl, ⟨7, .data⟩, by simp, rfl, rfl⟩) (hd (12, 111) (by simp) ⟨_, rfl, ⟨12, .data⟩, by simp, rfl, rfl⟩) ((ho.eval (by decide)).trans rfl) (hd (16, 115) (by simp) ⟨_, rfl, ⟨16, .data⟩, by simp, rfl, rfl⟩) (hd (18, 117) (by simp) ⟨_, rfl, ⟨18, .data⟩, by simp, rfl, rfl⟩) ((ho.eval (by decide)).trans rfl) (hd (23, 122) (by simp) ⟨_, rfl, ⟨23, .data⟩, by simp, rfl, rfl⟩) ((ho.eval (by decide)).trans rfl) (hd (27, 126) (by simp) ⟨_, rfl, ⟨27, .data⟩, by simp, rfl, rfl⟩) ((ho.eval (by decide)).trans rfl) ((ho.eval (by decide)).trans rfl) (hd (32, 131) (by simp) ⟨_, rfl, ⟨32, .data⟩, by simp, rfl, rfl⟩) ((ho.eval (by decide)).trans rfl) ((ho.eval (by decide)).trans rfl) ((ho.eval (by decide)).trans rfl)
        ·intro a w ho hs hd
         exact zk_op41 rfl hs.size (hd (40, 139) (by simp) ⟨_, rfl, ⟨40, .data⟩, by simp, rfl, rfl⟩)
       case hfin =>
        intro a w ho hs hsp
        have hDS : DZ 17 (a.eval (.tmp 17)) w := hsp (41, 17) (by simp)
        obtain ⟨bd, dl, hv, hdl, hd9⟩ := hDS
        have e := ho.putsZ (by kernel_rfl)
        simp only [List.map_cons, List.map_nil, List.foldl_cons, List.foldl_nil, hv] at e
        clear hsp ho hv
        generalize a.eval (.tmp 99) = v99 at e
        generalize a.eval (.tmp 100) = v100 at e
        generalize a.eval (.tmp 101) = v101 at e
        generalize a.eval (.tmp 105) = v105 at e
        generalize a.eval (.tmp 106) = v106 at e
        generalize a.eval (.tmp 110) = v110 at e
        generalize a.eval (.tmp 111) = v111 at e
        generalize a.eval (.tmp 113) = v113 at e
        generalize a.eval (.tmp 114) = v114 at e
        generalize a.eval (.tmp 115) = v115 at e
        generalize a.eval (.tmp 116) = v116 at e
        generalize a.eval (.tmp 117) = v117 at e
        generalize a.eval (.tmp 121) = v121 at e
        generalize a.eval (.tmp 122) = v122 at e
        generalize a.eval (.tmp 124) = v124 at e
        generalize a.eval (.tmp 125) = v125 at e
        generalize a.eval (.tmp 126) = v126 at e
        generalize a.eval (.tmp 129) = v129 at e
        generalize a.eval (.tmp 130) = v130 at e
        generalize a.eval (.tmp 131) = v131 at e
        generalize a.eval (.tmp 139) = v139 at e
        subst e
        have kds : Kept [] wr w := (Kept.drewN [] wr 1).trans hs.kept
        simp only [Act.put, List.setIfInBounds_toArray, List.set_cons_zero, List.set_cons_succ]
        refine calm_normalZ ?_
        have kww : Kept [] W6 w := hkk.trans kds
        have hbw := (kww.block eb hel (by simp)).trans hbe
        obtain ⟨E, hE, hEI⟩ := endsZ_at hbw hit
        obtain ⟨E2, hE2, hEI2⟩ := endsZ_at hbw hkt
        have hSS : w.drew.cell? ⟨eb, i, none⟩ = some (.int .i64 E) ∧ w.drew.cell? ⟨eb, k, none⟩ = some (.int .i64 E2) := ⟨hE, hE2⟩
        have hlE : eb < w.drew.heap.size := Nat.lt_of_lt_of_le hel (kww.trans (Kept.drew [] w)).size
        have c1 := spoolDoes_any w.drew E E2 hEI hEI2 _ 17 17 dl (hdl.kept' (Kept.drew [] w)) hd9
        have c2 := fun w' (hk' : Kept [] w w') => spoolDoes_any w' 1 20 (by unfold I64; omega) (by unfold I64; omega) _ 17 17 dl (hdl.kept' hk') hd9
        clear hbw hE hE2
        go_wp2_with fail
        refine wp_region_calm (S := (fun W => W.cell? ⟨eb, i, none⟩ = some (.int .i64 E) ∧ W.cell? ⟨eb, k, none⟩ = some (.int .i64 E2))) (by kernel_rfl) hSS (fun hHeld => ?_)
        refine tk (i := 0) (v := ?_) (hy := Or.inl ⟨by rfl, ?_⟩) (hS := hHeld) (h := ?_)
        rotate_left
        ·intro w hSw
         try dsimp only at hSw
         go_simp
         all_goals with_reducible rfl
        try simp only [Act.put, List.setIfInBounds_toArray, List.set_cons_zero, List.set_cons_succ]
        refine tk (i := 1) (v := ?_) (hy := Or.inl ⟨by rfl, ?_⟩) (hS := hHeld) (h := ?_)
        rotate_left
        ·intro w hSw
         try dsimp only at hSw
         go_simp
         all_goals with_reducible rfl
        try simp only [Act.put, List.setIfInBounds_toArray, List.set_cons_zero, List.set_cons_succ]
        refine tk (i := 2) (v := ?_) (hy := Or.inl ⟨by rfl, ?_⟩) (hS := hHeld) (h := ?_)
        rotate_left
        ·intro w hSw
         try dsimp only at hSw
         go_simp
         all_goals with_reducible rfl
        try simp only [Act.put, List.setIfInBounds_toArray, List.set_cons_zero, List.set_cons_succ]
        refine tk (i := 3) (v := ?_) (hy := Or.inl ⟨by rfl, ?_⟩) (hS := hHeld) (h := ?_)
        rotate_left
        ·intro w hSw
         try dsimp only at hSw
         have s0 := hSw.1
         go_simp
         all_goals with_reducible rfl
        try simp only [Act.put, List.setIfInBounds_toArray, List.set_cons_zero, List.set_cons_succ]
        refine tk (i := 4) (v := ?_) (hy := Or.inl ⟨by rfl, ?_⟩) (hS := hHeld) (h := ?_)
        rotate_left
        ·intro w hSw
         try dsimp only at hSw
         go_simp
         all_goals with_reducible rfl
        try simp only [Act.put, List.setIfInBounds_toArray, List.set_cons_zero, List.set_cons_succ]
        refine tk (i := 5) (v := ?_) (hy := Or.inl ⟨by rfl, ?_⟩) (hS := hHeld) (h := ?_)
        rotate_left
        ·intro w hSw
         try dsimp only at hSw
         go_simp
         all_goals with_reducible rfl
        try simp only [Act.put, List.setIfInBounds_toArray, List.set_cons_zero, List.set_cons_succ]
        refine tk (i := 6) (v := ?_) (hy := Or.inl ⟨by rfl, ?_⟩) (hS := hHeld) (h := ?_)
        rotate_left
        ·intro w hSw
         try dsimp only at hSw
         go_simp
         all_goals with_reducible rfl
        try simp only [Act.put, List.setIfInBounds_toArray, List.set_cons_zero, List.set_cons_succ]
        refine tk (i := 7) (v := ?_) (hy := Or.inl ⟨by rfl, ?_⟩) (hS := hHeld) (h := ?_)
        rotate_left
        ·intro w hSw
         try dsimp only at hSw
         have s0 := hSw.2
         go_simp
         all_goals with_reducible rfl
        try simp only [Act.put, List.setIfInBounds_toArray, List.set_cons_zero, List.set_cons_succ]
        refine tk (i := 8) (v := ?_) (hy := Or.inl ⟨by rfl, ?_⟩) (hS := hHeld) (h := ?_)
        rotate_left
        ·intro w hSw
         try dsimp only at hSw
         go_simp
         all_goals with_reducible rfl
        try simp only [Act.put, List.setIfInBounds_toArray, List.set_cons_zero, List.set_cons_succ]
        refine tk (i := 9) (v := ?_) (hy := Or.inl ⟨by rfl, ?_⟩) (hS := hHeld) (h := ?_)
        rotate_left
        ·intro w hSw
         try dsimp only at hSw
         go_simp
         all_goals with_reducible rfl
        try simp only [Act.put, List.setIfInBounds_toArray, List.set_cons_zero, List.set_cons_succ]
        refine wpAnyH_ready (rs := [10]) (by kernel_rfl) (by simp) ?_
        refine AllReadyH.cons (by simp only [List.getElem?_toArray, List.getElem?_cons_succ, List.getElem?_cons_zero]; rfl) (fun K hK => ?_) AllReadyH.nil
        go_simp
        refine c1.mono ?_
        rintro e w2 ⟨rfl, k2⟩
        have kw2 := (Kept.drew [] w).trans k2
        have hS2 := And.intro ((k2.cell (p := ⟨eb, i, none⟩) hlE (by simp)).trans hSS.1) ((k2.cell (p := ⟨eb, k, none⟩) hlE (by simp)).trans hSS.2)
        have hlE2 := Nat.lt_of_lt_of_le hlE k2.size
        replace c2 := c2 w2 kw2
        clear c1
        go_wp2_with fail
        refine hK.out _ _ ?_ (fun hHeld2 => ?_)
        ·exact hS2
        clear hK K hHeld
        have hHeld := hHeld2
        clear hHeld2
        try simp only [Act.put, List.setIfInBounds_toArray, List.set_cons_zero, List.set_cons_succ]
        refine tk (i := 11) (v := ?_) (hy := Or.inl ⟨by rfl, ?_⟩) (hS := hHeld) (h := ?_)
        rotate_left
        ·intro w hSw
         try dsimp only at hSw
         go_simp
         all_goals with_reducible rfl
        try simp only [Act.put, List.setIfInBounds_toArray, List.set_cons_zero, List.set_cons_succ]
        refine tk (i := 12) (v := ?_) (hy := Or.inl ⟨by rfl, ?_⟩) (hS := hHeld) (h := ?_)
        rotate_left
        ·intro w hSw
         try dsimp only at hSw
         go_simp
         all_goals with_reducible rfl
        try simp only [Act.put, List.setIfInBounds_toArray, List.set_cons_zero, List.set_cons_succ]
        refine tk (i := 13) (v := ?_) (hy := Or.inl ⟨by rfl, ?_⟩) (hS := hHeld) (h := ?_)
        rotate_left
        ·intro w hSw
         try dsimp only at hSw
         go_simp
         all_goals with_reducible rfl
        try simp only [Act.put, List.setIfInBounds_toArray, List.set_cons_zero, List.set_cons_succ]
        refine tk (i := 14) (v := ?_) (hy := Or.inl ⟨by rfl, ?_⟩) (hS := hHeld) (h := ?_)
        rotate_left
        ·intro w hSw
         try dsimp only at hSw
         go_simp
         all_goals with_reducible rfl
        try simp only [Act.put, List.setIfInBounds_toArray, List.set_cons_zero, List.set_cons_succ]
        refine wpAnyH_ready (rs := [15]) (by kernel_rfl) (by simp) ?_
        refine AllReadyH.cons (by simp only [List.getElem?_toArray, List.getElem?_cons_succ, List.getElem?_cons_zero]; rfl) (fun K hK => ?_) AllReadyH.nil
        go_simp
        refine c2.mono ?_
        rintro e w3 ⟨rfl, k3⟩
        have kw3 := kw2.trans k3
        have hS3 := And.intro ((k3.cell (p := ⟨eb, i, none⟩) hlE2 (by simp)).trans hS2.1) ((k3.cell (p := ⟨eb, k, none⟩) hlE2 (by simp)).trans hS2.2)
        clear c2
        go_wp2_with fail
        refine hK.out _ _ ?_ (fun hHeld2 => ?_)
        ·exact hS3
        clear hK K hHeld
        have hHeld := hHeld2
        clear hHeld2
        try simp only [Act.put, List.setIfInBounds_toArray, List.set_cons_zero, List.set_cons_succ]
        refine tk (i := 16) (v := ?_) (hy := Or.inl ⟨by rfl, ?_⟩) (hS := hHeld) (h := ?_)
        rotate_left
        ·intro w hSw
         try dsimp only at hSw
         go_simp
         all_goals with_reducible rfl
        try simp only [Act.put, List.setIfInBounds_toArray, List.set_cons_zero, List.set_cons_succ]
        refine tk (i := 17) (v := ?_) (hy := Or.inl ⟨by rfl, ?_⟩) (hS := hHeld) (h := ?_)
        rotate_left
        ·intro w hSw
         try dsimp only at hSw
         go_simp
         all_goals with_reducible rfl
        try simp only [Act.put, List.setIfInBounds_toArray, List.set_cons_zero, List.set_cons_succ]
        refine wpAnyH_calm (by kernel_rfl) ?_ _
        go_wp2_with fail
        go_roundw
        case rel => exact ⟨k + 1, by omega, by go_num, kww.trans kw3⟩
        case measure => simp [intOf]; omega
      ·have i3 : ¬ (k : Int) < 10 := by omega
       go_wp2_with fail
       go_roundw
       case rel => exact ⟨i + 1, by omega, by go_num, hkk⟩
       case measure => simp [intOf]; omega
    ·have i2 : ¬ (i : Int) < 10 := by omega
     have k07 := k06.trans hki
     clear hbe hel k05 k06 hki
     go_wp2_with fail
     refine (awake13_any _).mono ?_
     rintro e wa ⟨rfl, ka⟩
     go_wp2_with fail
     go_ret
     exact ⟨rfl, k07.trans ka⟩
end Go.Proofs.YtbnflbkaogpnbaaGreat
