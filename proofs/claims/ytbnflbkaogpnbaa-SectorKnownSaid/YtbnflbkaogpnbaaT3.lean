/- SectorKnown: the walk. -/
import Derived.Test.YtbnflbkaogpnbaaT2
import Derived.Test.YtbnflbkaogpnbaaVA
namespace Go.Proofs.Ytbnflbkaogpnbaa
open Go.RowKit

theorem row_kept' {w w' : World} {base : Nat} {t : TypeId} {sz : Nat} {v : Value} {n : Nat} {xs : List Value} (h : w.ownsRow base t sz v n xs) (hk : Kept [] w w') : w'.ownsRow base t sz v n xs := own_kept h hk (by simp)

theorem sectorDoes_post (w : World) (n : Int) (A : Option Addr) (q c : Nat) (l : List DeedR) (hl : DeedsAt w A q c l) : Calls Try.prog 7 #[.int .i64 n, .slice A q c] w (TruePost w) := sectorDoes_walk w n A q c l hl

set_option maxHeartbeats 8000000 in
set_option maxRecDepth 100000 in
theorem sectorKnown_walk (w : World) : Calls Try.prog 8 #[] w (TruePost w) := by
  obtain ⟨i0, hi0, hz0, hz1, hz2⟩ := info_parts info_deed
  go_enter Try.func8, Try.ntmps8
  go_wp2_with fail
  go_loopw [1, 2] (fun p i wr => KnA w p i wr) (fun _ i _ => 2 - (intOf i).toNat)
  case atStart => exact ⟨0, none, by omega, rfl, rfl, .inl rfl, Kept.refl _ _⟩
  case round =>
    obtain ⟨k, q, hk, rfl, rfl, hq, hkp⟩ := hrel
    by_cases hlt : k < 2
    · have i1 : (k : Int) < 2 := by omega
      go_wp2_with (first | (go_at_call 30; refine (read_none hq 0).mono ?_; rintro e w' ⟨rfl, rfl⟩) | (go_at_call 37; refine (size_bad hq).mono ?_; rintro e w' ⟨rfl, rfl⟩) | (go_at_call 33; refine (works_bad hq).mono ?_; rintro e w' ⟨rfl, rfl⟩) | (go_at_call 35; refine (dead_bad hq).mono ?_; rintro e w' ⟨rfl, rfl⟩))
      go_loopw [5] (fun i wx => KnB w q i wx) (fun i _ => 6 - (intOf i).toNat)
      case atStart => exact ⟨0, by omega, rfl, hq, hkp⟩
      case round =>
        clear hq hkp
        obtain ⟨j, hj, rfl, hq, hkp⟩ := hrel
        by_cases hl2 : j < 6
        · have i2 : (j : Int) < 6 := by omega
          go_wp2_with fail
          refine (full_any 0 0 _).mono ?_
          rintro e w4 ⟨A4, c4, rfl, hown4, hbel4⟩
          have hk4 := Kept.of_below (F := []) hbel4
          have hq4 := hq.kept hk4
          clear hown4 hbel4
          go_wp2_with fail
          refine (does10_none hq4 j hl2 A4 _ c4).mono ?_
          rintro e w5 ⟨rfl, hk5⟩
          go_wp2_with fail
          go_roundw
          case rel => exact ⟨j + 1, by omega, by go_num, hq4.kept hk5, (hkp.trans hk4).trans hk5⟩
          case measure => simp [intOf]; omega
        · have i2 : ¬ (j : Int) < 6 := by omega
          go_wp2_with fail
          go_roundw
          case rel => exact ⟨k + 1, _, by omega, by go_num, rfl, .inr ⟨_, rfl, by simp, by rw [blk_cell (heap_alloc_new _ _)]; rfl⟩, hkp.trans (Kept.alloc [] _ _)⟩
          case measure => simp [intOf]; omega
    · have i1 : ¬ (k : Int) < 2 := by omega
      clear hq hk hlt
      go_wp2_with fail
      have hsz := heap_alloc_new wr (.cells sizesV 3)
      have hks := hkp.trans (Kept.alloc [] wr (.cells sizesV 3))
      unfold sizesV at hsz hks
      generalize wr.alloc (.cells #[.int .i64 (-1), .int .i64 0, .int .i64 1, .int .i64 2, .int .i64 40, .int .i64 41, .int .i64 8192, .int .i64 8193] 3) = W at *
      generalize wr.heap.size = sz at *
      clear hkp
      go_loopw [7] (fun i wx => KnC w sz i wx) (fun i _ => 8 - (intOf i).toNat)
      case atStart => exact ⟨0, by omega, rfl, hsz, hks⟩
      case round =>
        clear hsz hks
        obtain ⟨k, hk, rfl, hsz, hkp⟩ := hrel
        rename World => w1
        by_cases hlt : k < 8
        · have i2 : (k : Int) < 8 := by omega
          have hcs := sizes_at hsz hlt
          generalize sizesL[k]?.getD 0 = nn at hcs
          go_wp2_with fail
          go_loopw [8, 9] (fun v i wx => KnD w1 v i wx) (fun _ i _ => 24 - (intOf i).toNat)
          case atStart => exact ⟨0, [], by omega, rfl, KnRow.nil (Kept.refl _ _)⟩
          case round =>
            obtain ⟨j, l, hj, rfl, hrow⟩ := hrel
            by_cases hl2 : j < 24
            · have i3 : (j : Int) < 24 := by omega
              have hkW := (Kept.alloc [] wr (.cells #[.int .i64 j, .int .i64 ((j : Int) / 2)] 3)).trans (Kept.alloc [] _ (.cells #[.int .i64 ((j : Int) % 6), .int .i64 ((j : Int) / 6 - 1), .int .i64 j, .int .i64 ((j : Int) / 12), .slice (some ⟨wr.heap.size, 0, none⟩) 2 2, .int .i64 0, .int .i64 0, .int .i64 ((j : Int) + 100), .int .i64 0, .slice none 0 0] 31))
              have hb1 : ((wr.alloc (.cells #[.int .i64 j, .int .i64 ((j : Int) / 2)] 3)).alloc (.cells #[.int .i64 ((j : Int) % 6), .int .i64 ((j : Int) / 6 - 1), .int .i64 j, .int .i64 ((j : Int) / 12), .slice (some ⟨wr.heap.size, 0, none⟩) 2 2, .int .i64 0, .int .i64 0, .int .i64 ((j : Int) + 100), .int .i64 0, .slice none 0 0] 31)).heap[wr.heap.size]? = some (.cells #[.int .i64 j, .int .i64 ((j : Int) / 2)] 3 (0, 0)) := by
                rw [Below.heap_alloc _ _ _ (by simp), heap_alloc_new]
              have hb2 := heap_alloc_new (wr.alloc (.cells #[.int .i64 j, .int .i64 ((j : Int) / 2)] 3)) (.cells #[.int .i64 ((j : Int) % 6), .int .i64 ((j : Int) / 6 - 1), .int .i64 j, .int .i64 ((j : Int) / 12), .slice (some ⟨wr.heap.size, 0, none⟩) 2 2, .int .i64 0, .int .i64 0, .int .i64 ((j : Int) + 100), .int .i64 0, .slice none 0 0] 31)
              rw [World.size_alloc] at hb2
              have hWs : ((wr.alloc (.cells #[.int .i64 j, .int .i64 ((j : Int) / 2)] 3)).alloc (.cells #[.int .i64 ((j : Int) % 6), .int .i64 ((j : Int) / 6 - 1), .int .i64 j, .int .i64 ((j : Int) / 12), .slice (some ⟨wr.heap.size, 0, none⟩) 2 2, .int .i64 0, .int .i64 0, .int .i64 ((j : Int) + 100), .int .i64 0, .slice none 0 0] 31)).heap.size = wr.heap.size + 2 := by simp
              have hown := row_kept' hrow.own hkW
              have hnw := World.news_of_block hb2
              have hbase := Nat.le_trans hrow.kept.size hkW.size
              have hbm : 2 * j + 2 ≤ maxLen := by unfold maxLen; omega
              have hbb : (2 * j + 2) * 56 ≤ 140737488355328 := by omega
              go_wp2_with (refine wpList_append_lies _ rfl (.tmp 58) (.tmp 75) 22 rfl w1.heap.size 31 i0 _ 5 56 Try.underlying22 hi0 hz0 hz1 hz2 rfl (by omega) _ (2 * j) (dcells l) rfl hown ⟨wr.heap.size + 1, 0, none⟩ 2 2 (dcells (knTwo j wr.heap.size)) rfl rfl hnw (dcells_one _) (by omega) hbm hbb hbase (wr.heap.size + 2) hWs ?_; intro gg cap w2 hown2 hgrow2 hat2 hlt2)
              go_roundw
              case rel => exact ⟨j + 1, l ++ knTwo j wr.heap.size, by omega, by go_num, hrow.step hkW rfl (fun d hd => ⟨knTwo_ok hl2 hb1 d hd, fun p hp => by simp only [knTwo, List.mem_cons, List.not_mem_nil, or_false] at hd; rcases hd with rfl | rfl <;> cases hp; simp; omega⟩) hown2 hgrow2 (by rw [hWs]; exact hat2)⟩
              case measure => simp [intOf]; omega
            · have i3 : ¬ (j : Int) < 24 := by omega
              obtain rfl : j = 24 := by omega
              have hrow' : KnRow w1 _ 48 l wr := hrow
              clear hrow
              obtain ⟨AA, cc, rfl, hDA⟩ := DeedsAt.of_own hrow'.own (fun d hd => (hrow'.ok d hd).1)
              have hkr := hrow'.kept
              have hcs' := (hkr.cell (p := ⟨sz, k, none⟩) (World.lt_of_heap hsz) (by simp)).trans hcs
              have hszr := (hkr.block sz (World.lt_of_heap hsz) (by simp)).trans hsz
              obtain ⟨bA, oA, rfl, hbA, _⟩ := hDA.cells (by omega)
              have hcc := hDA.le
              have hccm := hDA.max
              unfold maxLen at hccm
              have hkl : ∀ d ∈ l, ∀ p, d.kA = some p → p.block < wr.heap.size := fun d hd p e => ((hrow'.ok d hd).2 p e).1
              have h40 : (40 : Int) ≤ (cc : Int) := by omega
              clear hcs hrow'
              go_wp2_with fail
              refine wp_region_calm (S := (fun W => W.cell? ⟨sz, k, none⟩ = some (.int .i64 nn))) (by kernel_rfl) hcs' (fun hHeld => ?_)
              refine wpAnyH_take (i := 0) (v := ?_) (by simp only [List.getElem?_toArray, List.getElem?_cons_zero]; rfl) (by kernel_rfl) (by kernel_rfl) (by kernel_rfl) (by exact fun _ _ _ h => h) (Or.inl ⟨by rfl, ?_⟩) hHeld ?_
              rotate_left
              · intro w hSw
                try dsimp only at hSw
                go_simp
                all_goals with_reducible rfl
              try simp only [Act.put, List.setIfInBounds_toArray, List.set_cons_zero, List.set_cons_succ]
              refine wpAnyH_take (i := 1) (v := ?_) (by simp only [List.getElem?_toArray, List.getElem?_cons_succ, List.getElem?_cons_zero]; rfl) (by kernel_rfl) (by kernel_rfl) (by kernel_rfl) (by exact fun _ _ _ h => h) (Or.inl ⟨by rfl, ?_⟩) hHeld ?_
              rotate_left
              · intro w hSw
                try dsimp only at hSw
                go_simp
                all_goals with_reducible rfl
              try simp only [Act.put, List.setIfInBounds_toArray, List.set_cons_zero, List.set_cons_succ]
              refine wpAnyH_take (i := 2) (v := ?_) (by simp only [List.getElem?_toArray, List.getElem?_cons_succ, List.getElem?_cons_zero]; rfl) (by kernel_rfl) (by kernel_rfl) (by kernel_rfl) (by exact fun _ _ _ h => h) (Or.inl ⟨by rfl, ?_⟩) hHeld ?_
              rotate_left
              · intro w hSw
                try dsimp only at hSw
                go_simp
                all_goals with_reducible rfl
              try simp only [Act.put, List.setIfInBounds_toArray, List.set_cons_zero, List.set_cons_succ]
              refine wpAnyH_take (i := 3) (v := ?_) (by simp only [List.getElem?_toArray, List.getElem?_cons_succ, List.getElem?_cons_zero]; rfl) (by kernel_rfl) (by kernel_rfl) (by kernel_rfl) (by exact fun _ _ _ h => h) (Or.inl ⟨by rfl, ?_⟩) hHeld ?_
              rotate_left
              · intro w hSw
                try dsimp only at hSw
                go_simp
                all_goals with_reducible rfl
              try simp only [Act.put, List.setIfInBounds_toArray, List.set_cons_zero, List.set_cons_succ]
              refine wpAnyH_take (i := 4) (v := ?_) (by simp only [List.getElem?_toArray, List.getElem?_cons_succ, List.getElem?_cons_zero]; rfl) (by kernel_rfl) (by kernel_rfl) (by kernel_rfl) (by exact fun _ _ _ h => h) (Or.inl ⟨by rfl, ?_⟩) hHeld ?_
              rotate_left
              · intro w hSw
                try dsimp only at hSw
                go_simp
                all_goals with_reducible rfl
              try simp only [Act.put, List.setIfInBounds_toArray, List.set_cons_zero, List.set_cons_succ]
              refine wpAnyH_ready (rs := [5]) (by kernel_rfl) (by simp) ?_
              refine AllReadyH.cons (by simp only [List.getElem?_toArray, List.getElem?_cons_succ, List.getElem?_cons_zero]; rfl) (fun K hK => ?_) AllReadyH.nil
              go_simp
              refine (sectorDoes_post _ nn _ 48 cc l (hDA.kept (Kept.drew [] wr))).mono ?_
              rintro e w2 ⟨rfl, hk2⟩
              have hkr2 := (Kept.drew [] wr).trans hk2
              have cs2 := (hkr2.cell (p := ⟨sz, k, none⟩) (World.lt_of_heap hszr) (by simp)).trans hcs'
              have hDA2 := hDA.kept hkr2
              go_wp2_with fail
              refine hK.out _ _ ?_ (fun hHeld2 => ?_)
              · exact cs2
              clear hK K hHeld
              have hHeld := hHeld2
              clear hHeld2
              try simp only [Act.put, List.setIfInBounds_toArray, List.set_cons_zero, List.set_cons_succ]
              refine wpAnyH_take (i := 6) (v := ?_) (by simp only [List.getElem?_toArray, List.getElem?_cons_succ, List.getElem?_cons_zero]; rfl) (by kernel_rfl) (by kernel_rfl) (by kernel_rfl) (by exact fun _ _ _ h => h) (Or.inl ⟨by rfl, ?_⟩) hHeld ?_
              rotate_left
              · intro w hSw
                try dsimp only at hSw
                go_simp
                all_goals with_reducible rfl
              try simp only [Act.put, List.setIfInBounds_toArray, List.set_cons_zero, List.set_cons_succ]
              refine wpAnyH_take (i := 7) (v := ?_) (by simp only [List.getElem?_toArray, List.getElem?_cons_succ, List.getElem?_cons_zero]; rfl) (by kernel_rfl) (by kernel_rfl) (by kernel_rfl) (by exact fun _ _ _ h => h) (Or.inl ⟨by rfl, ?_⟩) hHeld ?_
              rotate_left
              · intro w hSw
                try dsimp only at hSw
                go_simp
                all_goals with_reducible rfl
              try simp only [Act.put, List.setIfInBounds_toArray, List.set_cons_zero, List.set_cons_succ]
              refine wpAnyH_take (i := 8) (v := ?_) (by simp only [List.getElem?_toArray, List.getElem?_cons_succ, List.getElem?_cons_zero]; rfl) (by kernel_rfl) (by kernel_rfl) (by kernel_rfl) (by exact fun _ _ _ h => h) (Or.inl ⟨by rfl, ?_⟩) hHeld ?_
              rotate_left
              · intro w hSw
                try dsimp only at hSw
                go_simp
                all_goals with_reducible rfl
              try simp only [Act.put, List.setIfInBounds_toArray, List.set_cons_zero, List.set_cons_succ]
              refine wpAnyH_take (i := 9) (v := ?_) (by simp only [List.getElem?_toArray, List.getElem?_cons_succ, List.getElem?_cons_zero]; rfl) (by kernel_rfl) (by kernel_rfl) (by kernel_rfl) (by exact fun _ _ _ h => h) (Or.inl ⟨by rfl, ?_⟩) hHeld ?_
              rotate_left
              · intro w hSw
                try dsimp only at hSw
                go_simp
                all_goals with_reducible rfl
              try simp only [Act.put, List.setIfInBounds_toArray, List.set_cons_zero, List.set_cons_succ]
              refine wpAnyH_take (i := 10) (v := ?_) (by simp only [List.getElem?_toArray, List.getElem?_cons_succ, List.getElem?_cons_zero]; rfl) (by kernel_rfl) (by kernel_rfl) (by kernel_rfl) (by exact fun _ _ _ h => h) (Or.inl ⟨by rfl, ?_⟩) hHeld ?_
              rotate_left
              · intro w hSw
                try dsimp only at hSw
                go_simp
                all_goals with_reducible rfl
              try simp only [Act.put, List.setIfInBounds_toArray, List.set_cons_zero, List.set_cons_succ]
              refine wpAnyH_take (i := 11) (v := ?_) (by simp only [List.getElem?_toArray, List.getElem?_cons_succ, List.getElem?_cons_zero]; rfl) (by kernel_rfl) (by kernel_rfl) (by kernel_rfl) (by exact fun _ _ _ h => h) (Or.inl ⟨by rfl, ?_⟩) hHeld ?_
              rotate_left
              · intro w hSw
                try dsimp only at hSw
                go_simp
                all_goals with_reducible rfl
              try simp only [Act.put, List.setIfInBounds_toArray, List.set_cons_zero, List.set_cons_succ]
              refine wpAnyH_take (i := 12) (v := ?_) (by simp only [List.getElem?_toArray, List.getElem?_cons_succ, List.getElem?_cons_zero]; rfl) (by kernel_rfl) (by kernel_rfl) (by kernel_rfl) (by exact fun _ _ _ h => h) (Or.inl ⟨by rfl, ?_⟩) hHeld ?_
              rotate_left
              · intro w hSw
                try dsimp only at hSw
                go_simp
                all_goals with_reducible rfl
              try simp only [Act.put, List.setIfInBounds_toArray, List.set_cons_zero, List.set_cons_succ]
              refine wpAnyH_take (i := 14) (v := ?_) (by simp only [List.getElem?_toArray, List.getElem?_cons_succ, List.getElem?_cons_zero]; rfl) (by kernel_rfl) (by kernel_rfl) (by kernel_rfl) (by exact fun _ _ _ h => h) (Or.inl ⟨by rfl, ?_⟩) hHeld ?_
              rotate_left
              · intro w hSw
                try dsimp only at hSw
                go_simp
                all_goals with_reducible rfl
              try simp only [Act.put, List.setIfInBounds_toArray, List.set_cons_zero, List.set_cons_succ]
              refine wpAnyH_take (i := 15) (v := ?_) (by simp only [List.getElem?_toArray, List.getElem?_cons_succ, List.getElem?_cons_zero]; rfl) (by kernel_rfl) (by kernel_rfl) (by kernel_rfl) (by exact fun _ _ _ h => h) (Or.inl ⟨by rfl, ?_⟩) hHeld ?_
              rotate_left
              · intro w hSw
                try dsimp only at hSw
                go_simp
                all_goals with_reducible rfl
              try simp only [Act.put, List.setIfInBounds_toArray, List.set_cons_zero, List.set_cons_succ]
              refine wpAnyH_ready (rs := [13]) (by kernel_rfl) (by simp) ?_
              refine AllReadyH.cons (by simp only [List.getElem?_toArray, List.getElem?_cons_succ, List.getElem?_cons_zero]; rfl) (fun K hK => ?_) AllReadyH.nil
              go_simp
              refine hK.out _ _ ?_ (fun hHeld2 => ?_)
              · exact ((Kept.alloc [] w2 _).cell (p := ⟨sz, k, none⟩) (Nat.lt_of_lt_of_le (World.lt_of_heap hszr) hkr2.size) (by simp)).trans cs2
              clear hK K hHeld
              have hHeld := hHeld2
              clear hHeld2
              try simp only [Act.put, List.setIfInBounds_toArray, List.set_cons_zero, List.set_cons_succ]
              refine wpAnyH_ready (rs := [16]) (by kernel_rfl) (by simp) ?_
              refine AllReadyH.cons (by simp only [List.getElem?_toArray, List.getElem?_cons_succ, List.getElem?_cons_zero]; rfl) (fun K hK => ?_) AllReadyH.nil
              have hgB := heap_alloc_new w2 (.cells #[.int .i64 2, .int .i64 0, .int .i64 0, .int .i64 0, .slice none 0 0] 31)
              have hkB := Kept.alloc [] w2 (.cells #[.int .i64 2, .int .i64 0, .int .i64 0, .int .i64 0, .slice none 0 0] 31)
              have hDA3 := hDA2.kept hkB
              have hown3 : (w2.alloc (.cells #[.int .i64 2, .int .i64 0, .int .i64 0, .int .i64 0, .slice none 0 0] 31)).ownsRow w2.heap.size 31 5 (.slice (some ⟨w2.heap.size, 0, none⟩) 1 1) 1 (dcells [knK2]) := ⟨rfl, .inr ⟨w2.heap.size, 1, _, rfl, Nat.le_refl _, hgB, Nat.le_refl _, by unfold maxLen; omega, rfl, rfl⟩⟩
              rw [if_pos (by rfl)]
              refine wp_append_lies _ (.tmp 90) (.tmp 92) 22 rfl w2.heap.size 31 i0 _ 5 56 Try.underlying22 hi0 hz0 hz1 hz2 rfl (by omega) (.slice (some ⟨w2.heap.size, 0, none⟩) 1 1) 1 (dcells [knK2]) (by simp [Act.eval]) hown3 ⟨bA, oA, none⟩ 40 cc (dcells (l.take 40)) (by simp [Act.eval]) (by rw [length_dcells, List.length_take, hDA.len]; rfl) (deeds_news (hDA3.take (by omega))) (dcells_one _) (by omega) (by unfold maxLen; omega) (by omega) (by simp) (w2.heap.size + 1) (by simp) ?_
              intro g cap w3 hown4 hgrow4 hat4 hlt4
              have hk3 : Kept [w2.heap.size] (w2.alloc (.cells #[.int .i64 2, .int .i64 0, .int .i64 0, .int .i64 0, .slice none 0 0] 31)) w3 := Kept.grown hgrow4 (fun j e => .inl (by have e2 : (Value.slice (some ⟨w2.heap.size, 0, none⟩) 1 1).ownBlock = some j := e; cases e2; simp))
              have hkw3 : Kept [] w2 w3 := hkB.trans' hk3 (by simp)
              have hszw : sz < w2.heap.size := Nat.lt_of_lt_of_le (World.lt_of_heap hszr) hkr2.size
              have cs3 := (hkw3.cell (p := ⟨sz, k, none⟩) hszw (by simp)).trans cs2
              rw [← dcells_append] at hown4
              obtain ⟨A41, c41, e41, hD41⟩ := DeedsAt.of_own hown4 (fun d hd => by
                rcases List.mem_append.1 hd with h1 | h1
                · simp only [List.mem_singleton] at h1
                  rw [h1]; exact knK2_ok _
                · have h2 := List.mem_of_mem_take h1
                  exact (hDA2.ok d h2).kept hkw3 (by simp))
              cases e41
              refine hK.out _ _ ?_ (fun hHeld2 => ?_)
              · exact cs3
              clear hK K hHeld
              have hHeld := hHeld2
              clear hHeld2
              try simp only [Act.put, List.setIfInBounds_toArray, List.set_cons_zero, List.set_cons_succ]
              refine wpAnyH_ready (rs := [17]) (by kernel_rfl) (by simp) ?_
              refine AllReadyH.cons (by simp only [List.getElem?_toArray, List.getElem?_cons_succ, List.getElem?_cons_zero]; rfl) (fun K hK => ?_) AllReadyH.nil
              go_simp
              refine (sectorDoes_post _ nn _ _ cap _ hD41).mono ?_
              rintro e w4 ⟨rfl, hk4⟩
              have cs4 := (hk4.cell (p := ⟨sz, k, none⟩) (Nat.lt_of_lt_of_le hszw hkw3.size) (by simp)).trans cs3
              go_wp2_with fail
              refine hK.out _ _ ?_ (fun hHeld2 => ?_)
              · exact cs4
              clear hK K hHeld
              have hHeld := hHeld2
              clear hHeld2
              try simp only [Act.put, List.setIfInBounds_toArray, List.set_cons_zero, List.set_cons_succ]
              refine wpAnyH_take (i := 18) (v := ?_) (by simp only [List.getElem?_toArray, List.getElem?_cons_succ, List.getElem?_cons_zero]; rfl) (by kernel_rfl) (by kernel_rfl) (by kernel_rfl) (by exact fun _ _ _ h => h) (Or.inl ⟨by rfl, ?_⟩) hHeld ?_
              rotate_left
              · intro w hSw
                try dsimp only at hSw
                go_simp
                all_goals with_reducible rfl
              try simp only [Act.put, List.setIfInBounds_toArray, List.set_cons_zero, List.set_cons_succ]
              refine wpAnyH_take (i := 19) (v := ?_) (by simp only [List.getElem?_toArray, List.getElem?_cons_succ, List.getElem?_cons_zero]; rfl) (by kernel_rfl) (by kernel_rfl) (by kernel_rfl) (by exact fun _ _ _ h => h) (Or.inl ⟨by rfl, ?_⟩) hHeld ?_
              rotate_left
              · intro w hSw
                try dsimp only at hSw
                go_simp
                all_goals with_reducible rfl
              try simp only [Act.put, List.setIfInBounds_toArray, List.set_cons_zero, List.set_cons_succ]
              refine wpAnyH_calm (by kernel_rfl) ?_ _
              have hfin := (hkr2.trans hkw3).trans hk4
              go_wp2_with fail
              go_roundw
              case rel => exact ⟨k + 1, by omega, by go_num, (hfin.block sz (World.lt_of_heap hszr) (by simp)).trans hszr, (hkp.trans hkr).trans hfin⟩
              case measure => simp [intOf]; omega
        · have i2 : ¬ (k : Int) < 8 := by omega
          go_wp2_with fail
          go_loopw [10] (fun i wx => KnE w i wx) (fun i _ => 7 - (intOf i + 1).toNat)
          case atStart => exact ⟨0, by omega, rfl, hkp⟩
          case round =>
            clear hsz hkp
            obtain ⟨j, hj, rfl, hkp⟩ := hrel
            by_cases hl2 : j < 7
            · have i3 : (j : Int) - 1 < 6 := by omega
              go_wp2_with fail
              refine (sectorDoes_post _ 2 _ 13 13 _ (kn13_at wr ((j : Int) - 1) (by omega) (by omega))).mono ?_
              rintro e w9 ⟨rfl, hk9⟩
              have hkf := (((hkp.trans (Kept.alloc [] _ _)).trans (Kept.alloc [] _ _)).trans (Kept.alloc [] _ _)).trans hk9
              clear hk9
              go_wp2_with fail
              go_roundw
              case rel => exact ⟨j + 1, by omega, by go_num, hkf⟩
              case measure => simp [intOf]; omega
            · have i3 : ¬ (j : Int) - 1 < 6 := by omega
              go_wp2_with fail
              refine (awake10_any _).mono ?_
              rintro e w9 ⟨rfl, hk9⟩
              go_wp2_with fail
              go_ret
              exact ⟨rfl, hkp.trans hk9⟩
end Go.Proofs.Ytbnflbkaogpnbaa
