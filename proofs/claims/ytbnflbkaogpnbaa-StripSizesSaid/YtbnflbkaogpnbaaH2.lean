/- Write, Flush, Crash of a device, whole. -/
import Derived.Test.YtbnflbkaogpnbaaH1
namespace Go.Proofs.Ytbnflbkaogpnbaa
open Go.RowKit Go.Maps

theorem DevPost.of_new {w W w' : World} {a S M : Nat} {K : Option Nat} {r : Dev × Int} {e : Ending} (hk : Kept [] w W) (h : DevPost W a S M K r e w') : DevPost w a S M K r e w' :=
  DevPost.of_mid (hk.mono (by simp)) h

set_option maxHeartbeats 1000000 in
theorem write_any {w : World} {a S M : Nat} {K : Option Nat} {d : Dev} (hD : DevAt w a S M K d) (i : Int) (b : Blk) (A : Option Addr) (n c : Nat)
    (hs : SlAt w A n c (u8vs b)) (hAs : ∀ p, A = some p → p.block ∉ [S, M]) (hwk : d.works < 9223372036854775807) :
    Calls Try.prog 24 #[.pointer (some ⟨a, 0, none⟩), .int .i64 i, .slice A n c] w (DevPost w a S M K (d.write i b)) := by
  have hbl : b.length = n := by simpa [u8vs] using hs.len
  obtain ⟨W, hW⟩ : ∃ W, ((w.alloc (.cells #[.pointer (some ⟨a, 0, none⟩)] 24)).alloc (.cells #[.int .i64 i] 3)).alloc (.cells #[.slice A n c] 34) = W := ⟨_, rfl⟩
  have hk : Kept [] w W := by rw [← hW]; exact ((Kept.alloc [] w _).trans (Kept.alloc [] _ _)).trans (Kept.alloc [] _ _)
  have hDW := hD.kept hk (by simp) (by simp) (by simp) (by simp)
  have hsW := hs.kept hk (by simp)
  have hx : W.cell? ⟨w.heap.size, 0, none⟩ = some (.pointer (some ⟨a, 0, none⟩)) := by
    rw [← hW, World.cell?_alloc_lt _ _ _ (by simp; omega), World.cell?_alloc_lt _ _ _ (by simp), blk_cell (heap_alloc_new w _)]; rfl
  have hy : W.cell? ⟨w.heap.size + 1, 0, none⟩ = some (.int .i64 i) := by
    have h := heap_alloc_new (w.alloc (.cells #[.pointer (some ⟨a, 0, none⟩)] 24)) (.cells #[.int .i64 i] 3)
    simp only [World.size_alloc] at h
    rw [← hW, World.cell?_alloc_lt _ _ _ (by simp), blk_cell h]; rfl
  have hz : W.cell? ⟨w.heap.size + 1 + 1, 0, none⟩ = some (.slice A n c) := by
    have h := heap_alloc_new ((w.alloc (.cells #[.pointer (some ⟨a, 0, none⟩)] 24)).alloc (.cells #[.int .i64 i] 3)) (.cells #[.slice A n c] 34)
    simp only [World.size_alloc] at h
    rw [← hW, blk_cell h]; rfl
  have hat := at_any hDW i
  obtain ⟨l1, l2, l3, l4⟩ := hD.lt
  by_cases hz0 : d.at_ i = 0
  · obtain ⟨h1, h2, h3⟩ := Dev.at_zero hz0
    obtain ⟨k, rfl⟩ := Int.eq_ofNat_of_zero_le h2
    rw [hz0] at hat
    have hkk : k < d.secs.length := by omega
    by_cases hn : n = 128
    · subst hn
      have hwo := workW_any hDW w.heap.size (w.heap.size + 1) (w.heap.size + 1 + 1) k b A c hx hy hz (by simp; omega) (by simp; omega) (by simp; omega) hAs hsW hkk hbl hwk
      have e : d.write (k : Int) b = d.workW k b := by simp [Dev.write, Dev.workW, hz0, hbl]
      rw [e]
      clear hz0 h1 h2 h3 e hs hsW hbl hD
      go_enter Try.func24, Try.ntmps24
      go_wp2_with (first | (go_at_call 69; refine hat.mono ?_; rintro e w' ⟨rfl, rfl⟩) | (go_at_call 66; refine hwo.mono ?_; rintro e w' hpost; obtain ⟨rfl, hrest⟩ := hpost))
      go_ret
      exact DevPost.of_new hk ⟨rfl, hrest⟩
    · have hn2 : ((n : Int) != 128) = true := by simp; omega
      have e : d.write (k : Int) b = (d, 2) := by simp [Dev.write, hz0, hbl, hn]
      rw [e]
      clear hz0 h1 h2 h3 e hs hsW hbl hD hn
      go_enter Try.func24, Try.ntmps24
      go_wp2_with (go_at_call 69; refine hat.mono ?_; rintro e w' ⟨rfl, rfl⟩)
      go_ret
      exact DevPost.of_new hk (DevPost.same hDW)
  · have hb : (d.at_ i != 0) = true := by simpa using hz0
    have e : d.write i b = (d, d.at_ i) := by simp [Dev.write, hz0]
    rw [e]
    clear e hs hsW hbl hD hz0
    go_enter Try.func24, Try.ntmps24
    go_wp2_with (go_at_call 69; refine hat.mono ?_; rintro e w' ⟨rfl, rfl⟩)
    go_ret
    exact DevPost.of_new hk (DevPost.same hDW)

set_option maxHeartbeats 1000000 in
theorem flush_any {w : World} {a S M : Nat} {K : Option Nat} {d : Dev} (hD : DevAt w a S M K d) (hwk : d.works < 9223372036854775807) :
    Calls Try.prog 23 #[.pointer (some ⟨a, 0, none⟩)] w (DevPost w a S M K d.flush) := by
  obtain ⟨W, hW⟩ : ∃ W, w.alloc (.cells #[.pointer (some ⟨a, 0, none⟩)] 24) = W := ⟨_, rfl⟩
  have hk : Kept [] w W := by rw [← hW]; exact Kept.alloc [] w _
  have hDW := hD.kept hk (by simp) (by simp) (by simp) (by simp)
  have hx : W.cell? ⟨w.heap.size, 0, none⟩ = some (.pointer (some ⟨a, 0, none⟩)) := by
    rw [← hW, blk_cell (heap_alloc_new w _)]; rfl
  have hat := wrong_any hDW
  have hwo := workF_any hDW w.heap.size hx hwk
  have hd : d.dead = true ∨ d.dead = false := by cases d.dead <;> simp
  rcases hd with hd | hd
  · rw [hd] at hat
    have e : d.flush = (d, 100) := by simp [Dev.flush, hd]
    rw [e]
    clear e hD hd hwo
    go_enter Try.func23, Try.ntmps23
    go_wp2_with (go_at_call 65; refine hat.mono ?_; rintro e w' ⟨rfl, rfl⟩)
    go_ret
    exact DevPost.of_new hk (DevPost.same hDW)
  · rw [hd] at hat
    have e : d.flush = d.workF := by simp [Dev.flush, Dev.workF, hd]
    rw [e]
    clear e hD hd
    go_enter Try.func23, Try.ntmps23
    go_wp2_with (first | (go_at_call 65; refine hat.mono ?_; rintro e w' ⟨rfl, rfl⟩) | (go_at_call 66; refine hwo.mono ?_; rintro e w' hpost; obtain ⟨rfl, hrest⟩ := hpost))
    go_ret
    exact DevPost.of_new hk ⟨rfl, hrest⟩

set_option maxHeartbeats 1000000 in
theorem crash_any {w : World} {a S M : Nat} {K : Option Nat} {d : Dev} (hD : DevAt w a S M K d) (A : Option Addr) (n c : Nat) (keep : List Int) (hx : SlAt w A n c (keep.map i64v)) (hA : ∀ p, A = some p → 0 < n → p.block ≠ S) :
    Calls Try.prog 26 #[.pointer (some ⟨a, 0, none⟩), .slice A n c] w (DevPost w a S M K (d.crash keep)) := by
  have hat := wrong_any hD
  have hgo := gone_any hD A n c keep hx hA
  have hd : d.dead = true ∨ d.dead = false := by cases d.dead <;> simp
  rcases hd with hd | hd
  · rw [hd] at hat
    have e : d.crash keep = (d, 100) := by simp [Dev.crash, hd]
    rw [e]
    clear e hd hgo
    go_enter Try.func26, Try.ntmps26
    go_wp2_with (go_at_call 65; refine hat.mono ?_; rintro e w' ⟨rfl, rfl⟩)
    go_ret
    exact DevPost.same hD
  · rw [hd] at hat
    have e : d.crash keep = (d.gone keep, 0) := by simp [Dev.crash, hd]
    rw [e]
    clear e hd
    go_enter Try.func26, Try.ntmps26
    go_wp2_with (first | (go_at_call 65; refine hat.mono ?_; rintro e w' ⟨rfl, rfl⟩) | (go_at_call 72; refine hgo.mono ?_; rintro e w' hpost; obtain ⟨rfl, hrest⟩ := hpost))
    go_ret
    exact ⟨rfl, hrest⟩
end Go.Proofs.Ytbnflbkaogpnbaa
