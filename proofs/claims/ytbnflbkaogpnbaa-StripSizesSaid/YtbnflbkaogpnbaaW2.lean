/- The midst of a Write: the walk. -/
import Derived.Test.YtbnflbkaogpnbaaW1
namespace Go.Proofs.Ytbnflbkaogpnbaa
open Go.RowKit Go.Maps
open Go.ChangeMaps (setBlock heap_setBlock_same heap_setBlock_other)

theorem agg_block (d : TypeDesc) (h : Try.prog.underlying 108 = some d) : d.isRow = true := by
  have := Try.underlying108
  rw [this] at h
  cases h
  rfl

set_option maxHeartbeats 1000000 in
theorem array_at (W : World) (p : Addr) (c : Nat) : (Instr.arrayAt 108 (.slice (some p) 128 c)).run Try.prog W = .ok (.pointer (some p)) W := by
  simp [Instr.arrayAt, run_underlying Try.underlying108]

set_option maxHeartbeats 1000000 in
set_option maxRecDepth 100000 in
theorem write1_any {w : World} {a S M : Nat} {K : Option Nat} {d : Dev} (hD : DevAt w a S M K d) (x y z k : Nat) (b : Blk) (A : Option Addr) (c : Nat)
    (hx : w.cell? ⟨x, 0, none⟩ = some (.pointer (some ⟨a, 0, none⟩))) (hy : w.cell? ⟨y, 0, none⟩ = some (.int .i64 k)) (hz : w.cell? ⟨z, 0, none⟩ = some (.slice A 128 c))
    (hxs : x ∉ [S, M]) (hys : y ∉ [S, M]) (hzs : z ∉ [S, M]) (hAs : ∀ p, A = some p → p.block ∉ [S, M])
    (hs : SlAt w A 128 c (u8vs b)) (hk : k < d.secs.length) (hb : b.length = 128) :
    Calls Try.prog 70 #[.pointer (some ⟨x, 0, none⟩), .pointer (some ⟨y, 0, none⟩), .pointer (some ⟨z, 0, none⟩)] w (MidPost w a S M K (d.midst k b)) := by
  have hm := hD.wf.many
  have c1 := hD.cells.2.1
  have hxl := block_lt_of_cell hx; have hyl := block_lt_of_cell hy; have hzl := block_lt_of_cell hz; have hal := hD.lt.1
  have al : ∀ (o : Obj) (p : Addr) (u : Value), p.block < w.heap.size → w.cell? p = some u → (w.alloc o).cell? p = some u := fun o p u hp h => (World.cell?_alloc_lt w o p hp).trans h
  have hxa := fun o => al o _ _ hxl hx; have hya := fun o => al o _ _ hyl hy; have c1a := fun o => al o _ _ hal c1
  rcases hD.lookup true k (by omega) with ⟨hnone, _⟩ | ⟨bb, hsome, _⟩
  · have hl : ∀ W : World, W.heap = w.heap ∨ (∃ o, W.heap = (w.alloc o).heap) → (Instr.lookup 59 (.map (some M)) (.int .i64 k) true).run Try.prog W = .ok (.tuple #[.agg (u8vs zeros).toArray, .bool false]) W := by
      intro W hW
      rcases (loads_of hD hW).lookup true k (by omega) with ⟨_, h⟩ | ⟨_, h, _⟩
      · exact h
      · rw [hnone] at h; cases h
    have hl1 := hl w.drew (.inl rfl)
    have hl2 := fun o => hl (w.alloc o).drew (.inr ⟨o, rfl⟩)
    have hvl : (u8vs zeros).length = 128 := by simp [u8vs, length_zeros]
    obtain ⟨W1, hst, hk1⟩ := forgets w zeros hvl
    have hD1 := hD.kept hk1 (by simp) (by simp) (by simp) (by simp)
    have hx1 := (hk1.cell (p := ⟨x, 0, none⟩) hxl (by simp)).trans hx
    have hy1 := (hk1.cell (p := ⟨y, 0, none⟩) hyl (by simp)).trans hy
    have hz1 := (hk1.cell (p := ⟨z, 0, none⟩) hzl (by simp)).trans hz
    obtain ⟨bk, hbk⟩ : ∃ bk, d.secs[k]? = some bk := ⟨_, List.getElem?_eq_getElem hk⟩
    have hbkl := hD.wf.size bk (List.mem_of_getElem? hbk)
    obtain ⟨es, clk, hmm, hup, hes, hes2⟩ := hD1.drew.update k (by omega) hnone bk
    have hk2 : Kept [M] W1 (setBlock W1.drew M (.map (es.push { key := i64v k, val := blkV bk, born := clk }) (clk + 1))) := (Kept.drew _ _).trans (Kept.setBlock hmm (by simp) _)
    have hmid : ({ d with sure := d.sure ++ [(k, bk)] } : Dev).Wf := by
      have h0 := hD.wf.midst hk hbkl
      simp only [Dev.midst, hnone, Option.isSome_none, hbk, Option.getD_some] at h0
      exact { h0 with
        one := by simpa using h0.one
        many := by simpa using h0.many
        size := hD.wf.size
        keyIn := by simpa using h0.keyIn }
    have hD2 := hD1.drew.putSure hmid hes hes2
    generalize setBlock W1.drew M (.map (es.push { key := i64v k, val := blkV bk, born := clk }) (clk + 1)) = W2 at hup hk2 hD2
    have hkw : Kept [M] w W2 := (hk1.mono (by simp)).trans hk2
    have hMs : ∀ j, j ∉ [S, M] → j ∉ [M] := fun j h1 h2 => h1 (by simp at h2; simp [h2])
    have hx2 := (hkw.cell (p := ⟨x, 0, none⟩) hxl (hMs _ hxs)).trans hx
    have hy2 := (hkw.cell (p := ⟨y, 0, none⟩) hyl (hMs _ hys)).trans hy
    have hz2 := (hkw.cell (p := ⟨z, 0, none⟩) hzl (hMs _ hzs)).trans hz
    have hs2 : SlAt W2 A 128 c (u8vs b) := hs.kept hkw (fun p hp => hMs _ (hAs p hp))
    have c1' := hD1.cells.2.1
    have c0' := hD1.cells.1
    have e0 := hD2.cells.1
    have hr1 : W1.drew.rangeAt S (k * 128) (u8vs bk) := flat_range hD1.secs hD1.wf.size hbk
    have hdm : d.midst k b = { { d with sure := d.sure ++ [(k, bk)] } with secs := d.secs.set k b } := by
      simp [Dev.midst, hnone, hbk]
    have hD3 := hD2.drew.put (k := k) hk hb
    have hk3 : Kept [S, M] w (W2.drew.setCells S (k * 128) (u8vs b)) := ((hkw.mono (by simp)).trans (Kept.drew _ _)).trans ((setCells_kept S (u8vs b) (k * 128) _).mono (by simp))
    have ht3 : W2.drew.there S (k * 128) 128 := flat_there hD2.secs hD2.wf.size hk
    have hi1 : (0 : Int) ≤ k ∧ (k : Int) < (d.secs.length : Int) := by omega
    rw [hdm]
    clear hl al hD hmm hes hes2 hmid hk1 hk2 hkw hMs hdm hbk hD2
    have hr2 : ∀ p, A = some p → W2.drew.rangeAt p.block p.off (u8vs b) := fun p hp => by
      subst hp
      obtain ⟨b0, o0, e, _, _⟩ := hs2.cells (by omega)
      cases e
      exact hs2.range
    have HB := Lib.hid hb; have HBK := Lib.hid hbkl; clear hb hbkl
    obtain ⟨b0, o0, rfl, _, _⟩ := hs2.cells (by omega)
    have hr2 := hr2 _ rfl
    unfold blkV at hup
    have harr := fun W => array_at W ⟨b0, o0, none⟩ c
    go_enter Try.func70, Try.ntmps70
    go_wp2
    go_region
    go_wp2
    refine wp_region_still_tail 12 (by kernel_rfl) (by kernel_rfl) ?_
    simp only [List.take_succ_cons, List.take_zero, List.drop_succ_cons, List.drop_zero]
    iterate 11 still_step
    refine still_load_mid rfl 108 _ rfl S (k * 128) rfl (u8vs bk) _ hr1 Try.underlying108 rfl (by rw [size_block]; simp [u8vs, HBK.out]) ?_
    refine wpStill_nil ?_
    go_wp2
    refine wp_region_still_tail 9 (by kernel_rfl) (by kernel_rfl) ?_
    simp only [List.take_succ_cons, List.take_zero, List.drop_succ_cons, List.drop_zero]
    iterate 7 still_step
    refine still_load_mid rfl 108 _ rfl b0 o0 rfl (u8vs b) _ hr2 Try.underlying108 rfl (by rw [size_block]; simp [u8vs, HB.out]) ?_
    still_step
    refine wpStill_nil ?_
    refine wpList_store_mid rfl 108 _ _ rfl S (k * 128) (u8vs b).toArray rfl rfl (by simpa [u8vs, HB.out] using ht3) (by rw [size_block]; simp [u8vs, HB.out]) (all_oneCell_toArray (one_u8 b)) ?_
    go_wp2
    go_end0
    exact ⟨rfl, hD3, hk3⟩
  · have hl : ∀ W : World, W.heap = w.heap ∨ (∃ o, W.heap = (w.alloc o).heap) → (Instr.lookup 59 (.map (some M)) (.int .i64 k) true).run Try.prog W = .ok (.tuple #[.agg (u8vs bb).toArray, .bool true]) W := by
      intro W hW
      rcases (loads_of hD hW).lookup true k (by omega) with ⟨h, _⟩ | ⟨b2, h, h'⟩
      · rw [hsome] at h; cases h
      · rw [hsome] at h; cases h; exact h'
    have hl1 := hl w.drew (.inl rfl)
    have hl2 := fun o => hl (w.alloc o).drew (.inr ⟨o, rfl⟩)
    have hvl : (u8vs bb).length = 128 := by simp [u8vs, hD.wf.sureSize _ (Dev.look_mem hsome)]
    obtain ⟨W1, hst, hk1⟩ := forgets w bb hvl
    have hD1 := hD.kept hk1 (by simp) (by simp) (by simp) (by simp)
    have hx1 := (hk1.cell (p := ⟨x, 0, none⟩) hxl (by simp)).trans hx
    have hy1 := (hk1.cell (p := ⟨y, 0, none⟩) hyl (by simp)).trans hy
    have hz1 := (hk1.cell (p := ⟨z, 0, none⟩) hzl (by simp)).trans hz
    have hs2 : SlAt W1 A 128 c (u8vs b) := hs.kept hk1 (by simp)
    have e0 := hD1.cells.1
    have hdm : d.midst k b = { d with secs := d.secs.set k b } := by
      simp [Dev.midst, hsome]
    have hD3 := hD1.drew.put (k := k) hk hb
    have hk3 : Kept [S, M] w (W1.drew.setCells S (k * 128) (u8vs b)) := ((hk1.mono (by simp)).trans (Kept.drew _ _)).trans ((setCells_kept S (u8vs b) (k * 128) _).mono (by simp))
    have ht3 : W1.drew.there S (k * 128) 128 := flat_there hD1.secs hD1.wf.size hk
    have hi1 : (0 : Int) ≤ k ∧ (k : Int) < (d.secs.length : Int) := by omega
    rw [hdm]
    have hr2 : ∀ p, A = some p → W1.drew.rangeAt p.block p.off (u8vs b) := fun p hp => by
      subst hp
      obtain ⟨b0, o0, e, _, _⟩ := hs2.cells (by omega)
      cases e
      exact hs2.range
    clear hl al hD hk1 hdm hD1 hsome
    have HB := Lib.hid hb; clear hb
    obtain ⟨b0, o0, rfl, _, _⟩ := hs2.cells (by omega)
    have hr2 := hr2 _ rfl
    have harr := fun W => array_at W ⟨b0, o0, none⟩ c
    go_enter Try.func70, Try.ntmps70
    go_wp2
    go_region
    go_wp2
    refine wp_region_still_tail 9 (by kernel_rfl) (by kernel_rfl) ?_
    simp only [List.take_succ_cons, List.take_zero, List.drop_succ_cons, List.drop_zero]
    iterate 7 still_step
    refine still_load_mid rfl 108 _ rfl b0 o0 rfl (u8vs b) _ hr2 Try.underlying108 rfl (by rw [size_block]; simp [u8vs, HB.out]) ?_
    still_step
    refine wpStill_nil ?_
    refine wpList_store_mid rfl 108 _ _ rfl S (k * 128) (u8vs b).toArray rfl rfl (by simpa [u8vs, HB.out] using ht3) (by rw [size_block]; simp [u8vs, HB.out]) (all_oneCell_toArray (one_u8 b)) ?_
    go_wp2
    go_end0
    exact ⟨rfl, hD3, hk3⟩
end Go.Proofs.Ytbnflbkaogpnbaa
