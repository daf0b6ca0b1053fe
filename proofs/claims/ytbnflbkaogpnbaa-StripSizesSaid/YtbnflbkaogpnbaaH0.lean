/- A work of a device: Write. -/
import Derived.Test.YtbnflbkaogpnbaaG1
import Derived.BigRegion
namespace Go.Proofs.Ytbnflbkaogpnbaa
open Go.RowKit Go.Maps

/-- What is to be kept, as a slice. -/
theorem DevAt.keep_cell {w : World} {a S M : Nat} {K : Option Nat} {d : Dev} (h : DevAt w a S M K d) :
    ∃ A c, w.cell? ⟨a, 3, none⟩ = some (.slice A d.keep.length c) ∧ SlAt w A d.keep.length c (d.keep.map i64v) ∧ ∀ p, A = some p → p.block ≠ S := by
  obtain ⟨kv, hh, hK, hr⟩ := h.head
  obtain ⟨n1, n2, n3, n4, n5, n6⟩ := h.ne
  obtain ⟨A, c, rfl, hs, hb⟩ := SlAt.of_own hr
  refine ⟨A, c, blk_cell hh 3, hs, fun p hp e => ?_⟩
  have := (hb p hp).1
  rw [hK] at this
  exact n5 (by rw [this, e])

theorem write2_any (w : World) : Calls Try.prog 71 #[] w fun e w' => e = .returned (.tuple #[]) ∧ w = w' := by
  go_enter Try.func71, Try.ntmps71
  go_wp2
  go_end0
  exact ⟨rfl, rfl⟩

theorem flush1_any (w : World) : Calls Try.prog 67 #[] w fun e w' => e = .returned (.tuple #[]) ∧ w = w' := by
  go_enter Try.func67, Try.ntmps67
  go_wp2
  go_end0
  exact ⟨rfl, rfl⟩

def Dev.workW (d : Dev) (k : Nat) (b : Blk) : Dev × Int :=
  if d.till = 0 then (d, 101) else if d.fail = 0 then ((d.midst k b).gone d.keep, 100) else ((d.midst k b).counted, 0)

theorem DevPost.of_mid {w W w' : World} {a S M : Nat} {K : Option Nat} {r : Dev × Int} {e : Ending} (hk : Kept [S, M] w W) (h : DevPost W a S M K r e w') : DevPost w a S M K r e w' := by
  obtain ⟨h1, K', h2, h3, h4⟩ := h
  refine ⟨h1, K', h2, (hk.mono (fun i hi => .inl (by simp at hi ⊢; exact .inr hi))).trans h3, fun k e => ?_⟩
  rcases h4 k e with h5 | h5
  · exact .inl h5
  · exact .inr (Nat.le_trans hk.size h5)

set_option maxHeartbeats 1000000 in
set_option maxRecDepth 100000 in
theorem workW_any {w : World} {a S M : Nat} {K : Option Nat} {d : Dev} (hD : DevAt w a S M K d) (x y z k : Nat) (b : Blk) (A : Option Addr) (c : Nat)
    (hx : w.cell? ⟨x, 0, none⟩ = some (.pointer (some ⟨a, 0, none⟩))) (hy : w.cell? ⟨y, 0, none⟩ = some (.int .i64 k)) (hz : w.cell? ⟨z, 0, none⟩ = some (.slice A 128 c))
    (hxs : x ∉ [S, M]) (hys : y ∉ [S, M]) (hzs : z ∉ [S, M]) (hAs : ∀ p, A = some p → p.block ∉ [S, M])
    (hs : SlAt w A 128 c (u8vs b)) (hk : k < d.secs.length) (hb : b.length = 128) (hwk : d.works < 9223372036854775807) :
    Calls Try.prog 66 #[.pointer (some ⟨a, 0, none⟩), .func (.func 70) #[] #[.pointer (some ⟨x, 0, none⟩), .pointer (some ⟨y, 0, none⟩), .pointer (some ⟨z, 0, none⟩)], .func (.func 71) #[] #[]] w
      (DevPost w a S M K (d.workW k b)) := by
  obtain ⟨c0, c1, c2, c4, c5, c6, cf⟩ := hD.cells
  have hw1 := write1_any hD x y z k b A c hx hy hz hxs hys hzs hAs hs hk hb
  by_cases ht : d.till = 0
  · have e : d.workW k b = (d, 101) := by simp [Dev.workW, ht]
    rw [e]
    rw [ht] at c4
    clear c0 c1 c2 c5 c6 cf hw1 hx hy hz ht e
    go_enter Try.func66, Try.ntmps66
    go_wp2
    go_ret
    exact DevPost.same hD
  · have ht2 : (d.till == 0) = false := by simpa using ht
    by_cases hf : d.fail = 0
    · have e : d.workW k b = ((d.midst k b).gone d.keep, 100) := by simp [Dev.workW, ht, hf]
      rw [e]
      have HF := Lib.hid hf
      clear c0 c1 c2 c5 c6 cf hx hy hz ht e hf
      go_enter Try.func66, Try.ntmps66
      go_wp2_with (first | (go_at_call 70; refine hw1.mono ?_; rintro e W ⟨rfl, hDW, hkW⟩; have g2 : W.cell? ⟨a, 2, none⟩ = some (.int .i64 0) := hDW.cells.2.2.1.trans (by rw [show (d.midst k b).fail = 0 from HF.out]); obtain ⟨Ak, ck, g3, hsk, hSk⟩ := hDW.keep_cell) | (go_at_call 72; refine (gone_any hDW _ _ _ _ hsk (fun p hp _ => hSk p hp)).mono ?_; rintro e W' hpost; obtain ⟨rfl, hrest⟩ := hpost))
      go_ret
      exact DevPost.of_mid hkW ⟨rfl, hrest⟩
    · have e : d.workW k b = ((d.midst k b).counted, 0) := by simp [Dev.workW, ht, hf]
      rw [e]
      have hf2 : (d.fail == 0) = false := by simpa using hf
      have HF := Lib.hid hf2
      have hw0 := hD.wf.works0
      have hf0 := hD.wf.fail0; have hf1 := hD.wf.fail1; have ht0 := hD.wf.till0; have ht1 := hD.wf.till1
      clear c0 c1 c2 c5 c6 cf hx hy hz ht e hf hf2
      go_enter Try.func66, Try.ntmps66
      go_wp2_with (first | (go_at_call 70; refine hw1.mono ?_; rintro e W ⟨rfl, hDW, hkW⟩; obtain ⟨g0, g1, g2, g4, g5, g6, gf⟩ := hDW.cells; have q1 : (d.midst k b).fail = d.fail := rfl; have q2 : (d.midst k b).till = d.till := rfl; have q3 : (d.midst k b).works = d.works := rfl; rw [q1] at g2; rw [q2] at g4; rw [q3] at g5; clear q1 q2 q3 g0 g1 g6; have hf2 := HF.out) | (go_at_call 71; refine (write2_any _).mono ?_; rintro e w' ⟨rfl, rfl⟩))
      have w2 : (W.setCell ⟨a, 5, none⟩ (.int .i64 (d.works + 1))).cell? ⟨a, 2, none⟩ = some (.int .i64 d.fail) := (World.cell?_setCell_other _ _ _ _ (by simp)).trans g2
      have w4 : (W.setCell ⟨a, 5, none⟩ (.int .i64 (d.works + 1))).cell? ⟨a, 4, none⟩ = some (.int .i64 d.till) := (World.cell?_setCell_other _ _ _ _ (by simp)).trans g4
      have wf : ∀ i, (W.setCell ⟨a, 5, none⟩ (.int .i64 (d.works + 1))).frozen? ⟨a, i, none⟩ = false := fun i => by rw [World.frozen?_setCell]; exact gf i
      have hkw5 : Kept [a] W (W.setCell ⟨a, 5, none⟩ (.int .i64 (d.works + 1))) := Kept.setCell (by simp) _
      have hh5 : ∀ kv, W.heap[a]? = some (.cells #[.slice (some ⟨S, 0, none⟩) (d.midst k b).secs.length (d.midst k b).secs.length, .map (some M), .int .i64 (d.midst k b).fail, kv, .int .i64 (d.midst k b).till, .int .i64 (d.midst k b).works, .bool (d.midst k b).dead] 61 (0, 0)) →
          (W.setCell ⟨a, 5, none⟩ (.int .i64 (d.works + 1))).heap[a]? = some (.cells #[.slice (some ⟨S, 0, none⟩) (d.midst k b).secs.length (d.midst k b).secs.length, .map (some M), .int .i64 (d.midst k b).fail, kv, .int .i64 (d.midst k b).till, .int .i64 (d.works + 1), .bool (d.midst k b).dead] 61 (0, 0)) := fun kv hh => by
        rw [heap_set hh]; rfl
      generalize W.setCell ⟨a, 5, none⟩ (.int .i64 (d.works + 1)) = W5 at *
      clear g2 g4 g5 gf hf2
      have hkF : Kept [a] W ((W5.setCell ⟨a, 2, none⟩ (.int .i64 (max (d.fail - 1) (-1)))).setCell ⟨a, 4, none⟩ (.int .i64 (max (d.till - 1) (-1)))).drew := ((hkw5.trans (Kept.setCell (by simp) _)).trans (Kept.setCell (by simp) _)).trans (Kept.drew _ _)
      go_region
      go_wp2
      go_ret
      refine DevPost.of_mid hkW ⟨rfl, K, hDW.rehead hkF hDW.wf.counted rfl rfl (fun kv hh => ?_) rfl, hkF.mono (fun i hi => .inl (by simp at hi; simp [hi])), fun _ e => .inl e⟩
      show (((W5.setCell ⟨a, 2, none⟩ (.int .i64 (max (d.fail - 1) (-1)))).setCell ⟨a, 4, none⟩ (.int .i64 (max (d.till - 1) (-1)))).heap)[a]? = _
      rw [heap_set (heap_set (hh5 kv hh) 2 _) 4 _]
      rfl
end Go.Proofs.Ytbnflbkaogpnbaa
