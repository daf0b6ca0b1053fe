/- Texts in one: H0 H1 H2 E0 E1 F0. -/
import Derived.Test.YtbnflbkaogpnbaaMB
import Derived.BigRegion
/- A work of a device: Write. -/
namespace Go.Proofs.Ytbnflbkaogpnbaa
open Go.RowKit Go.Maps

/-- What is to be kept, as a slice. -/
theorem DevAt.keep_cell {w : World} {a S M : Nat} {K : Option Nat} {d : Dev} (h : DevAt w a S M K d) :
    ∃ A c, w.cell? ⟨a, 3, none⟩ = some (.slice A d.keep.length c) ∧ SlAt w A d.keep.length c (d.keep.map i64v) ∧ ∀ p, A = some p → p.block ≠ S := by
  obtain ⟨kv, hh, hK, hr⟩ := h.head
  obtain ⟨n1, n2, n3, n4, n5, n6⟩ := h.ne
  obtain ⟨A, c, rfl, hs, hb⟩ := SlAt.of_own hr
  refine ⟨A, c, blk_cell hh 3, hs, fun p hp e => ?_⟩
  have := (hb p hp).1
  rw [hK] at this
  exact n5 (by rw [this, e])

theorem write2_any (w : World) : Calls Try.prog 71 #[] w fun e w' => e = .returned (.tuple #[]) ∧ w = w' := by
  go_enter Try.func71, Try.ntmps71
  go_wp2
  go_end0
  exact ⟨rfl, rfl⟩

theorem flush1_any (w : World) : Calls Try.prog 67 #[] w fun e w' => e = .returned (.tuple #[]) ∧ w = w' := by
  go_enter Try.func67, Try.ntmps67
  go_wp2
  go_end0
  exact ⟨rfl, rfl⟩

def Dev.workW (d : Dev) (k : Nat) (b : Blk) : Dev × Int :=
  if d.till = 0 then (d, 101) else if d.fail = 0 then ((d.midst k b).gone d.keep, 100) else ((d.midst k b).counted, 0)

theorem DevPost.of_mid {w W w' : World} {a S M : Nat} {K : Option Nat} {r : Dev × Int} {e : Ending} (hk : Kept [S, M] w W) (h : DevPost W a S M K r e w') : DevPost w a S M K r e w' := by
  obtain ⟨h1, K', h2, h3, h4⟩ := h
  refine ⟨h1, K', h2, (hk.mono (fun i hi => .inl (by simp at hi ⊢; exact .inr hi))).trans h3, fun k e => ?_⟩
  rcases h4 k e with h5 | h5
  · exact .inl h5
  · exact .inr (Nat.le_trans hk.size h5)

set_option maxHeartbeats 1000000 in
set_option maxRecDepth 100000 in
theorem workW_any {w : World} {a S M : Nat} {K : Option Nat} {d : Dev} (hD : DevAt w a S M K d) (x y z k : Nat) (b : Blk) (A : Option Addr) (c : Nat)
    (hx : w.cell? ⟨x, 0, none⟩ = some (.pointer (some ⟨a, 0, none⟩))) (hy : w.cell? ⟨y, 0, none⟩ = some (.int .i64 k)) (hz : w.cell? ⟨z, 0, none⟩ = some (.slice A 128 c))
    (hxs : x ∉ [S, M]) (hys : y ∉ [S, M]) (hzs : z ∉ [S, M]) (hAs : ∀ p, A = some p → p.block ∉ [S, M])
    (hs : SlAt w A 128 c (u8vs b)) (hk : k < d.secs.length) (hb : b.length = 128) (hwk : d.works < 9223372036854775807) :
    Calls Try.prog 66 #[.pointer (some ⟨a, 0, none⟩), .func (.func 70) #[] #[.pointer (some ⟨x, 0, none⟩), .pointer (some ⟨y, 0, none⟩), .pointer (some ⟨z, 0, none⟩)], .func (.func 71) #[] #[]] w
      (DevPost w a S M K (d.workW k b)) := by
  obtain ⟨c0, c1, c2, c4, c5, c6, cf⟩ := hD.cells
  have hw1 := write1_any hD x y z k b A c hx hy hz hxs hys hzs hAs hs hk hb
  by_cases ht : d.till = 0
  · have e : d.workW k b = (d, 101) := by simp [Dev.workW, ht]
    rw [e]
    rw [ht] at c4
    clear c0 c1 c2 c5 c6 cf hw1 hx hy hz ht e
    go_enter Try.func66, Try.ntmps66
    go_wp2
    go_ret
    exact DevPost.same hD
  · have ht2 : (d.till == 0) = false := by simpa using ht
    by_cases hf : d.fail = 0
    · have e : d.workW k b = ((d.midst k b).gone d.keep, 100) := by simp [Dev.workW, ht, hf]
      rw [e]
      have HF := Lib.hid hf
      clear c0 c1 c2 c5 c6 cf hx hy hz ht e hf
      go_enter Try.func66, Try.ntmps66
      go_wp2_with (first | (go_at_call 70; refine hw1.mono ?_; rintro e W ⟨rfl, hDW, hkW⟩; have g2 : W.cell? ⟨a, 2, none⟩ = some (.int .i64 0) := hDW.cells.2.2.1.trans (by rw [show (d.midst k b).fail = 0 from HF.out]); obtain ⟨Ak, ck, g3, hsk, hSk⟩ := hDW.keep_cell) | (go_at_call 72; refine (gone_any hDW _ _ _ _ hsk (fun p hp _ => hSk p hp)).mono ?_; rintro e W' hpost; obtain ⟨rfl, hrest⟩ := hpost))
      go_ret
      exact DevPost.of_mid hkW ⟨rfl, hrest⟩
    · have e : d.workW k b = ((d.midst k b).counted, 0) := by simp [Dev.workW, ht, hf]
      rw [e]
      have hf2 : (d.fail == 0) = false := by simpa using hf
      have HF := Lib.hid hf2
      have hw0 := hD.wf.works0
      have hf0 := hD.wf.fail0; have hf1 := hD.wf.fail1; have ht0 := hD.wf.till0; have ht1 := hD.wf.till1
      clear c0 c1 c2 c5 c6 cf hx hy hz ht e hf hf2
      go_enter Try.func66, Try.ntmps66
      go_wp2_with (first | (go_at_call 70; refine hw1.mono ?_; rintro e W ⟨rfl, hDW, hkW⟩; obtain ⟨g0, g1, g2, g4, g5, g6, gf⟩ := hDW.cells; have q1 : (d.midst k b).fail = d.fail := rfl; have q2 : (d.midst k b).till = d.till := rfl; have q3 : (d.midst k b).works = d.works := rfl; rw [q1] at g2; rw [q2] at g4; rw [q3] at g5; clear q1 q2 q3 g0 g1 g6; have hf2 := HF.out) | (go_at_call 71; refine (write2_any _).mono ?_; rintro e w' ⟨rfl, rfl⟩))
      have w2 : (W.setCell ⟨a, 5, none⟩ (.int .i64 (d.works + 1))).cell? ⟨a, 2, none⟩ = some (.int .i64 d.fail) := (World.cell?_setCell_other _ _ _ _ (by simp)).trans g2
      have w4 : (W.setCell ⟨a, 5, none⟩ (.int .i64 (d.works + 1))).cell? ⟨a, 4, none⟩ = some (.int .i64 d.till) := (World.cell?_setCell_other _ _ _ _ (by simp)).trans g4
      have wf : ∀ i, (W.setCell ⟨a, 5, none⟩ (.int .i64 (d.works + 1))).frozen? ⟨a, i, none⟩ = false := fun i => by rw [World.frozen?_setCell]; exact gf i
      have hkw5 : Kept [a] W (W.setCell ⟨a, 5, none⟩ (.int .i64 (d.works + 1))) := Kept.setCell (by simp) _
      have hh5 : ∀ kv, W.heap[a]? = some (.cells #[.slice (some ⟨S, 0, none⟩) (d.midst k b).secs.length (d.midst k b).secs.length, .map (some M), .int .i64 (d.midst k b).fail, kv, .int .i64 (d.midst k b).till, .int .i64 (d.midst k b).works, .bool (d.midst k b).dead] 61 (0, 0)) →
          (W.setCell ⟨a, 5, none⟩ (.int .i64 (d.works + 1))).heap[a]? = some (.cells #[.slice (some ⟨S, 0, none⟩) (d.midst k b).secs.length (d.midst k b).secs.length, .map (some M), .int .i64 (d.midst k b).fail, kv, .int .i64 (d.midst k b).till, .int .i64 (d.works + 1), .bool (d.midst k b).dead] 61 (0, 0)) := fun kv hh => by
        rw [heap_set hh]; rfl
      generalize W.setCell ⟨a, 5, none⟩ (.int .i64 (d.works + 1)) = W5 at *
      clear g2 g4 g5 gf hf2
      have hkF : Kept [a] W ((W5.setCell ⟨a, 2, none⟩ (.int .i64 (max (d.fail - 1) (-1)))).setCell ⟨a, 4, none⟩ (.int .i64 (max (d.till - 1) (-1)))).drew := ((hkw5.trans (Kept.setCell (by simp) _)).trans (Kept.setCell (by simp) _)).trans (Kept.drew _ _)
      go_region
      go_wp2
      go_ret
      refine DevPost.of_mid hkW ⟨rfl, K, hDW.rehead hkF hDW.wf.counted rfl rfl (fun kv hh => ?_) rfl, hkF.mono (fun i hi => .inl (by simp at hi; simp [hi])), fun _ e => .inl e⟩
      show (((W5.setCell ⟨a, 2, none⟩ (.int .i64 (max (d.fail - 1) (-1)))).setCell ⟨a, 4, none⟩ (.int .i64 (max (d.till - 1) (-1)))).heap)[a]? = _
      rw [heap_set (heap_set (hh5 kv hh) 2 _) 4 _]
      rfl
end Go.Proofs.Ytbnflbkaogpnbaa

/- A work of a device: Flush; and Write, Flush, Crash whole. -/
namespace Go.Proofs.Ytbnflbkaogpnbaa
open Go.RowKit Go.Maps
open Go.ChangeMaps (setBlock heap_setBlock_same heap_setBlock_other)

theorem cleared_at {w : World} {a S M : Nat} {K : Option Nat} {d : Dev} (hD : DevAt w a S M K d) :
    ∃ W, (∀ ty, (Builtin.clear_ #[59] ty #[.map (some M)]).run Try.prog w = .ok (.tuple #[]) W) ∧ DevAt W a S M K { d with sure := [] } ∧ Kept [M] w W := by
  obtain ⟨clk, ⟨es, hme⟩, hcl⟩ := hD.clear
  exact ⟨_, hcl, hD.putSure hD.wf.cleared (es := #[]) (clk := clk) rfl (MapKept.stamped_empty clk), Kept.setBlock hme (by simp) _⟩

/-- What the end of a Flush does. -/
def DonePost (w : World) (a S M : Nat) (K : Option Nat) (d : Dev) (e : Ending) (w' : World) : Prop := e = .returned (.tuple #[]) ∧ DevAt w' a S M K { d with sure := [] } ∧ Kept [M] w w'

set_option maxHeartbeats 400000 in
theorem flush2_any {w : World} {a S M : Nat} {K : Option Nat} {d : Dev} (hD : DevAt w a S M K d) (x : Nat) (hx : w.cell? ⟨x, 0, none⟩ = some (.pointer (some ⟨a, 0, none⟩))) :
    Calls Try.prog 68 #[.pointer (some ⟨x, 0, none⟩)] w (DonePost w a S M K d) := by
  have c1 := hD.cells.2.1
  obtain ⟨W, hcl, hDW, hkW⟩ := cleared_at hD
  go_enter Try.func68, Try.ntmps68
  go_wp2
  go_end0
  exact ⟨rfl, hDW, hkW⟩

def Dev.workF (d : Dev) : Dev × Int := if d.till = 0 then (d, 101) else if d.fail = 0 then (d.gone d.keep, 100) else ({ d with sure := [] }.counted, 0)

set_option maxHeartbeats 1000000 in
set_option maxRecDepth 100000 in
theorem workF_any {w : World} {a S M : Nat} {K : Option Nat} {d : Dev} (hD : DevAt w a S M K d) (x : Nat)
    (hx : w.cell? ⟨x, 0, none⟩ = some (.pointer (some ⟨a, 0, none⟩))) (hwk : d.works < 9223372036854775807) :
    Calls Try.prog 66 #[.pointer (some ⟨a, 0, none⟩), .func (.func 67) #[] #[], .func (.func 68) #[] #[.pointer (some ⟨x, 0, none⟩)]] w
      (DevPost w a S M K d.workF) := by
  unfold Dev.workF
  obtain ⟨c0, c1, c2, c4, c5, c6, cf⟩ := hD.cells
  have hw1 := flush2_any hD x hx
  by_cases ht : d.till = 0
  · rw [if_pos ht]
    rw [ht] at c4
    clear c0 c1 c2 c5 c6 cf hw1 hx ht
    go_enter Try.func66, Try.ntmps66
    go_wp2
    go_ret
    exact DevPost.same hD
  · have ht2 : (d.till == 0) = false := by simpa using ht
    rw [if_neg ht]
    by_cases hf : d.fail = 0
    · rw [if_pos hf]
      rw [hf] at c2
      obtain ⟨Ak, ck, g3, hsk, hSk⟩ := hD.keep_cell
      clear c0 c1 c5 c6 cf hx ht hf
      go_enter Try.func66, Try.ntmps66
      go_wp2_with (first | (go_at_call 67; refine (flush1_any _).mono ?_; rintro e w' ⟨rfl, rfl⟩) | (go_at_call 72; refine (gone_any hD _ _ _ _ hsk (fun p hp _ => hSk p hp)).mono ?_; rintro e W' hpost; obtain ⟨rfl, hrest⟩ := hpost))
      go_ret
      exact ⟨rfl, hrest⟩
    · rw [if_neg hf]
      have hf2 : (d.fail == 0) = false := by simpa using hf
      have HF := Lib.hid hf2
      have hw0 := hD.wf.works0
      have hf0 := hD.wf.fail0; have hf1 := hD.wf.fail1; have ht0 := hD.wf.till0; have ht1 := hD.wf.till1
      clear c0 c1 c5 c6 cf hx ht hf
      go_enter Try.func66, Try.ntmps66
      go_wp2_with (first | (go_at_call 67; refine (flush1_any _).mono ?_; rintro e w' ⟨rfl, rfl⟩) | (go_at_call 68; refine hw1.mono ?_; rintro e W ⟨rfl, hDW, hkW⟩; obtain ⟨g0, g1, g2, g4, g5, g6, gf⟩ := hDW.cells; clear g0 g1 g6))
      have w2 : (W.setCell ⟨a, 5, none⟩ (.int .i64 (d.works + 1))).cell? ⟨a, 2, none⟩ = some (.int .i64 d.fail) := (World.cell?_setCell_other _ _ _ _ (by simp)).trans g2
      have w4 : (W.setCell ⟨a, 5, none⟩ (.int .i64 (d.works + 1))).cell? ⟨a, 4, none⟩ = some (.int .i64 d.till) := (World.cell?_setCell_other _ _ _ _ (by simp)).trans g4
      have wf : ∀ i, (W.setCell ⟨a, 5, none⟩ (.int .i64 (d.works + 1))).frozen? ⟨a, i, none⟩ = false := fun i => by rw [World.frozen?_setCell]; exact gf i
      have hkw5 : Kept [a] W (W.setCell ⟨a, 5, none⟩ (.int .i64 (d.works + 1))) := Kept.setCell (by simp) _
      have hh5 : ∀ kv, W.heap[a]? = some (.cells #[.slice (some ⟨S, 0, none⟩) d.secs.length d.secs.length, .map (some M), .int .i64 d.fail, kv, .int .i64 d.till, .int .i64 d.works, .bool d.dead] 61 (0, 0)) →
          (W.setCell ⟨a, 5, none⟩ (.int .i64 (d.works + 1))).heap[a]? = some (.cells #[.slice (some ⟨S, 0, none⟩) d.secs.length d.secs.length, .map (some M), .int .i64 d.fail, kv, .int .i64 d.till, .int .i64 (d.works + 1), .bool d.dead] 61 (0, 0)) := fun kv hh => by
        rw [heap_set hh]; rfl
      generalize W.setCell ⟨a, 5, none⟩ (.int .i64 (d.works + 1)) = W5 at *
      clear g2 g4 g5 gf hf2
      have hkF : Kept [a] W ((W5.setCell ⟨a, 2, none⟩ (.int .i64 (max (d.fail - 1) (-1)))).setCell ⟨a, 4, none⟩ (.int .i64 (max (d.till - 1) (-1)))).drew := ((hkw5.trans (Kept.setCell (by simp) _)).trans (Kept.setCell (by simp) _)).trans (Kept.drew _ _)
      go_region
      go_wp2
      go_ret
      refine DevPost.of_mid (hkW.mono (by simp)) ⟨rfl, K, hDW.rehead hkF hDW.wf.counted rfl rfl (fun kv hh => ?_) rfl, hkF.mono (fun i hi => .inl (by simp at hi; simp [hi])), fun _ e => .inl e⟩
      show (((W5.setCell ⟨a, 2, none⟩ (.int .i64 (max (d.fail - 1) (-1)))).setCell ⟨a, 4, none⟩ (.int .i64 (max (d.till - 1) (-1)))).heap)[a]? = _
      rw [heap_set (heap_set (hh5 kv hh) 2 _) 4 _]
      rfl
end Go.Proofs.Ytbnflbkaogpnbaa

/- Write, Flush, Crash of a device, whole. -/
namespace Go.Proofs.Ytbnflbkaogpnbaa
open Go.RowKit Go.Maps

theorem DevPost.of_new {w W w' : World} {a S M : Nat} {K : Option Nat} {r : Dev × Int} {e : Ending} (hk : Kept [] w W) (h : DevPost W a S M K r e w') : DevPost w a S M K r e w' :=
  DevPost.of_mid (hk.mono (by simp)) h

set_option maxHeartbeats 1000000 in
theorem write_any {w : World} {a S M : Nat} {K : Option Nat} {d : Dev} (hD : DevAt w a S M K d) (i : Int) (b : Blk) (A : Option Addr) (n c : Nat)
    (hs : SlAt w A n c (u8vs b)) (hAs : ∀ p, A = some p → p.block ∉ [S, M]) (hwk : d.works < 9223372036854775807) :
    Calls Try.prog 24 #[.pointer (some ⟨a, 0, none⟩), .int .i64 i, .slice A n c] w (DevPost w a S M K (d.write i b)) := by
  have hbl : b.length = n := by simpa [u8vs] using hs.len
  obtain ⟨W, hW⟩ : ∃ W, ((w.alloc (.cells #[.pointer (some ⟨a, 0, none⟩)] 24)).alloc (.cells #[.int .i64 i] 3)).alloc (.cells #[.slice A n c] 34) = W := ⟨_, rfl⟩
  have hk : Kept [] w W := by rw [← hW]; exact ((Kept.alloc [] w _).trans (Kept.alloc [] _ _)).trans (Kept.alloc [] _ _)
  have hDW := hD.kept hk (by simp) (by simp) (by simp) (by simp)
  have hsW := hs.kept hk (by simp)
  have hx : W.cell? ⟨w.heap.size, 0, none⟩ = some (.pointer (some ⟨a, 0, none⟩)) := by
    rw [← hW, World.cell?_alloc_lt _ _ _ (by simp; omega), World.cell?_alloc_lt _ _ _ (by simp), blk_cell (heap_alloc_new w _)]; rfl
  have hy : W.cell? ⟨w.heap.size + 1, 0, none⟩ = some (.int .i64 i) := by
    have h := heap_alloc_new (w.alloc (.cells #[.pointer (some ⟨a, 0, none⟩)] 24)) (.cells #[.int .i64 i] 3)
    simp only [World.size_alloc] at h
    rw [← hW, World.cell?_alloc_lt _ _ _ (by simp), blk_cell h]; rfl
  have hz : W.cell? ⟨w.heap.size + 1 + 1, 0, none⟩ = some (.slice A n c) := by
    have h := heap_alloc_new ((w.alloc (.cells #[.pointer (some ⟨a, 0, none⟩)] 24)).alloc (.cells #[.int .i64 i] 3)) (.cells #[.slice A n c] 34)
    simp only [World.size_alloc] at h
    rw [← hW, blk_cell h]; rfl
  have hat := at_any hDW i
  obtain ⟨l1, l2, l3, l4⟩ := hD.lt
  by_cases hz0 : d.at_ i = 0
  · obtain ⟨h1, h2, h3⟩ := Dev.at_zero hz0
    obtain ⟨k, rfl⟩ := Int.eq_ofNat_of_zero_le h2
    rw [hz0] at hat
    have hkk : k < d.secs.length := by omega
    by_cases hn : n = 128
    · subst hn
      have hwo := workW_any hDW w.heap.size (w.heap.size + 1) (w.heap.size + 1 + 1) k b A c hx hy hz (by simp; omega) (by simp; omega) (by simp; omega) hAs hsW hkk hbl hwk
      have e : d.write (k : Int) b = d.workW k b := by simp [Dev.write, Dev.workW, hz0, hbl]
      rw [e]
      clear hz0 h1 h2 h3 e hs hsW hbl hD
      go_enter Try.func24, Try.ntmps24
      go_wp2_with (first | (go_at_call 69; refine hat.mono ?_; rintro e w' ⟨rfl, rfl⟩) | (go_at_call 66; refine hwo.mono ?_; rintro e w' hpost; obtain ⟨rfl, hrest⟩ := hpost))
      go_ret
      exact DevPost.of_new hk ⟨rfl, hrest⟩
    · have hn2 : ((n : Int) != 128) = true := by simp; omega
      have e : d.write (k : Int) b = (d, 2) := by simp [Dev.write, hz0, hbl, hn]
      rw [e]
      clear hz0 h1 h2 h3 e hs hsW hbl hD hn
      go_enter Try.func24, Try.ntmps24
      go_wp2_with (go_at_call 69; refine hat.mono ?_; rintro e w' ⟨rfl, rfl⟩)
      go_ret
      exact DevPost.of_new hk (DevPost.same hDW)
  · have hb : (d.at_ i != 0) = true := by simpa using hz0
    have e : d.write i b = (d, d.at_ i) := by simp [Dev.write, hz0]
    rw [e]
    clear e hs hsW hbl hD hz0
    go_enter Try.func24, Try.ntmps24
    go_wp2_with (go_at_call 69; refine hat.mono ?_; rintro e w' ⟨rfl, rfl⟩)
    go_ret
    exact DevPost.of_new hk (DevPost.same hDW)

set_option maxHeartbeats 1000000 in
theorem flush_any {w : World} {a S M : Nat} {K : Option Nat} {d : Dev} (hD : DevAt w a S M K d) (hwk : d.works < 9223372036854775807) :
    Calls Try.prog 23 #[.pointer (some ⟨a, 0, none⟩)] w (DevPost w a S M K d.flush) := by
  obtain ⟨W, hW⟩ : ∃ W, w.alloc (.cells #[.pointer (some ⟨a, 0, none⟩)] 24) = W := ⟨_, rfl⟩
  have hk : Kept [] w W := by rw [← hW]; exact Kept.alloc [] w _
  have hDW := hD.kept hk (by simp) (by simp) (by simp) (by simp)
  have hx : W.cell? ⟨w.heap.size, 0, none⟩ = some (.pointer (some ⟨a, 0, none⟩)) := by
    rw [← hW, blk_cell (heap_alloc_new w _)]; rfl
  have hat := wrong_any hDW
  have hwo := workF_any hDW w.heap.size hx hwk
  have hd : d.dead = true ∨ d.dead = false := by cases d.dead <;> simp
  rcases hd with hd | hd
  · rw [hd] at hat
    have e : d.flush = (d, 100) := by simp [Dev.flush, hd]
    rw [e]
    clear e hD hd hwo
    go_enter Try.func23, Try.ntmps23
    go_wp2_with (go_at_call 65; refine hat.mono ?_; rintro e w' ⟨rfl, rfl⟩)
    go_ret
    exact DevPost.of_new hk (DevPost.same hDW)
  · rw [hd] at hat
    have e : d.flush = d.workF := by simp [Dev.flush, Dev.workF, hd]
    rw [e]
    clear e hD hd
    go_enter Try.func23, Try.ntmps23
    go_wp2_with (first | (go_at_call 65; refine hat.mono ?_; rintro e w' ⟨rfl, rfl⟩) | (go_at_call 66; refine hwo.mono ?_; rintro e w' hpost; obtain ⟨rfl, hrest⟩ := hpost))
    go_ret
    exact DevPost.of_new hk ⟨rfl, hrest⟩

set_option maxHeartbeats 1000000 in
theorem crash_any {w : World} {a S M : Nat} {K : Option Nat} {d : Dev} (hD : DevAt w a S M K d) (A : Option Addr) (n c : Nat) (keep : List Int) (hx : SlAt w A n c (keep.map i64v)) (hA : ∀ p, A = some p → 0 < n → p.block ≠ S) :
    Calls Try.prog 26 #[.pointer (some ⟨a, 0, none⟩), .slice A n c] w (DevPost w a S M K (d.crash keep)) := by
  have hat := wrong_any hD
  have hgo := gone_any hD A n c keep hx hA
  have hd : d.dead = true ∨ d.dead = false := by cases d.dead <;> simp
  rcases hd with hd | hd
  · rw [hd] at hat
    have e : d.crash keep = (d, 100) := by simp [Dev.crash, hd]
    rw [e]
    clear e hd hgo
    go_enter Try.func26, Try.ntmps26
    go_wp2_with (go_at_call 65; refine hat.mono ?_; rintro e w' ⟨rfl, rfl⟩)
    go_ret
    exact DevPost.same hD
  · rw [hd] at hat
    have e : d.crash keep = (d.gone keep, 0) := by simp [Dev.crash, hd]
    rw [e]
    clear e hd
    go_enter Try.func26, Try.ntmps26
    go_wp2_with (first | (go_at_call 65; refine hat.mono ?_; rintro e w' ⟨rfl, rfl⟩) | (go_at_call 72; refine hgo.mono ?_; rintro e w' hpost; obtain ⟨rfl, hrest⟩ := hpost))
    go_ret
    exact ⟨rfl, hrest⟩
end Go.Proofs.Ytbnflbkaogpnbaa

/- The helpers of the statements: EqBytes, Bring, full. -/
namespace Go.Proofs.Ytbnflbkaogpnbaa
open Go.RowKit
theorem ret_bool {a b : Bool} (h : a = b) : Ending.returned (.bool a) = .returned (.bool b) := by rw [h]

/-- The cell of a byte slice at i, where there is one. -/
theorem SlAt.at_ {w : World} {A : Option Addr} {n c : Nat} {xs : List UInt8} (h : SlAt w A n c (xs.map u8v)) {k : Nat} (hk : k < n) :
    ∃ b o, A = some ⟨b, o, none⟩ ∧ b < w.heap.size ∧ w.cell? ⟨b, o + k, none⟩ = some (.int .u8 ((xs[k]?.getD 0).toNat : Int)) := by
  obtain ⟨b, o, hA, hb, hc⟩ := h.cells (by omega)
  have hl := h.len
  simp only [List.length_map] at hl
  refine ⟨b, o, hA, hb, ?_⟩
  rw [hc k hk, List.getElem?_map, List.getElem?_eq_getElem (by omega)]
  rfl

theorem take_succ_eq {xs ys : List UInt8} {k : Nat} (hx : k < xs.length) (hy : k < ys.length) (h : xs.take k = ys.take k) (he : xs[k]?.getD 0 = ys[k]?.getD 0) : xs.take (k + 1) = ys.take (k + 1) := by
  rw [List.take_succ_eq_append_getElem hx, List.take_succ_eq_append_getElem hy, h]
  simp only [List.getElem?_eq_getElem hx, List.getElem?_eq_getElem hy, Option.getD_some] at he
  rw [he]

set_option maxHeartbeats 400000 in
theorem eqBytes_any (w : World) (A B : Option Addr) (n c m d : Nat) (xs ys : List UInt8) (hx : SlAt w A n c (xs.map u8v)) (hy : SlAt w B m d (ys.map u8v)) :
    Calls Try.prog 31 #[.slice A n c, .slice B m d] w fun e w' => e = .returned (.bool (decide (xs = ys))) ∧ ∃ q, w' = w.drewN q := by
  have hxl := hx.len; have hyl := hy.len
  have hc := hx.le; have hcm := hx.max
  have hd := hy.le; have hdm := hy.max
  unfold maxLen at hcm hdm
  simp only [List.length_map] at hxl hyl
  by_cases hnm : n = m
  · subst hnm
    have hb : ((n : Int) != (n : Int)) = false := by simp
    have HX := Lib.hid hxl; have HY := Lib.hid hyl; clear hxl hyl
    go_enter Try.func31, Try.ntmps31
    go_wp2
    go_loopw [5] (fun i wr => ∃ k q : Nat, k ≤ n ∧ i = .int .i64 k ∧ wr = w.drewN q ∧ xs.take k = ys.take k) (fun i _ => n - (intOf i).toNat)
    case atStart => exact ⟨0, 0, Nat.zero_le _, rfl, rfl, rfl⟩
    case round =>
      obtain ⟨k, q, hk, rfl, rfl, ht⟩ := hrel
      by_cases hlt : k < n
      · obtain ⟨b, o, hA, hbl, hcx⟩ := hx.at_ hlt
        obtain ⟨b', o', hB, hbl', hcy⟩ := hy.at_ hlt
        have HT := Lib.hid ht; clear ht
        subst hA hB
        have h2 : (k : Int) < (n : Int) := by omega
        by_cases he : xs[k]?.getD 0 = ys[k]?.getD 0
        · have HE := Lib.hid he
          have hcy2 : w.cell? ⟨b', o' + k, none⟩ = some (.int .u8 ((xs[k]?.getD 0).toNat : Int)) := by rw [he]; exact hcy
          clear he hcy
          go_wp2
          go_quiet (fail)
          go_wp2
          go_roundw
          case rel => exact ⟨k + 1, q + nq, by omega, by go_num, by first | rfl | rw [World.drewN_drewN], take_succ_eq (by rw [HX.out]; exact hlt) (by rw [HY.out]; exact hlt) HT.out HE.out⟩
          case measure => simp [intOf]; omega
        · have HE := Lib.hid he
          have hne : (((xs[k]?.getD 0).toNat : Int) != ((ys[k]?.getD 0).toNat : Int)) = true := by
            simp only [bne_iff_ne, ne_eq, Int.natCast_inj]
            exact fun e => he (UInt8.toNat_inj.1 e)
          clear he
          go_wp2
          go_quiet (fail)
          go_wp2
          go_ret
          exact ⟨ret_bool (by rw [decide_eq_false_iff_not.2]; exact fun e => HE.out (by rw [e])), q + nq, by first | rfl | rw [World.drewN_drewN]⟩
      · have h2 : ¬ (k : Int) < (n : Int) := by omega
        go_wp2
        go_ret
        obtain rfl : k = n := by omega
        exact ⟨ret_bool (by
          rw [decide_eq_true_iff.2]
          have h1 := List.take_of_length_le (i := k) (l := xs) (by rw [HX.out]; exact Nat.le_refl _)
          have h3 := List.take_of_length_le (i := k) (l := ys) (by rw [HY.out]; exact Nat.le_refl _)
          rw [← h1, ← h3]; exact ht), _, rfl⟩
  · have hne : ¬ xs = ys := fun e => hnm (by rw [← hxl, ← hyl, e])
    have hb : ((n : Int) != (m : Int)) = true := by simp; omega
    go_enter Try.func31, Try.ntmps31
    go_wp2
    go_ret
    exact ⟨ret_bool (by simp [hne]), 0, rfl⟩

theorem eqBytes_u8 (w : World) (A B : Option Addr) (n c m d : Nat) (xs ys : List UInt8) (hx : SlAt w A n c (u8vs xs)) (hy : SlAt w B m d (u8vs ys)) :
    Calls Try.prog 31 #[.slice A n c, .slice B m d] w fun e w' => e = .returned (.bool (decide (xs = ys))) ∧ ∃ q, w' = w.drewN q := eqBytes_any w A B n c m d xs ys hx hy

set_option maxHeartbeats 400000 in
theorem bring_any (i n : Int) (w : World) (hn : 0 < n) (hn' : n ≤ 1000000) (h0 : -9223372036854775808 ≤ i) (h1 : i ≤ 9223372036854775807) :
    Calls Try.prog 22 #[.int .i64 i, .int .i64 n] w fun e w' => e = .returned (.int .i64 (i % n)) ∧ w = w' := by
  have h2 : 0 ≤ i % n := Int.emod_nonneg _ (by omega)
  have h3 : i % n < n := Int.emod_lt_of_pos _ hn
  by_cases hi : 0 ≤ i
  · have e : i.tmod n = i % n := Int.tmod_eq_emod_of_nonneg hi
    have E := Lib.hid e
    have hnn : ¬ i.tmod n < 0 := by omega
    go_enter Try.func22, Try.ntmps22
    go_wp2
    all_goals (go_ret; exact ⟨ret_i64 (by first | exact E.out | rfl), rfl⟩)
  · have e : i.tmod n = i % n ∨ i.tmod n = i % n - n := by
      have := Int.tmod_eq_emod (a := i) (b := n)
      rw [this]
      split
      · left; omega
      · right; omega
    have hle : i.tmod n ≤ 0 := by
      have h4 : i.tmod n = -((-i).tmod n) := by rw [Int.neg_tmod]; omega
      have h5 : 0 ≤ (-i).tmod n := Int.tmod_nonneg _ (by omega)
      omega
    by_cases hz : i.tmod n < 0
    · have e2 : wrap64 (i.tmod n + n) = i % n := by
        unfold wrap64
        omega
      have E := Lib.hid e2
      clear e e2
      go_enter Try.func22, Try.ntmps22
      go_wp2
      all_goals (go_ret; exact ⟨ret_i64 (by first | exact E.out | rfl), rfl⟩)
    · have e2 : i.tmod n = i % n := by omega
      have E := Lib.hid e2
      clear e e2
      go_enter Try.func22, Try.ntmps22
      go_wp2
      all_goals (go_ret; exact ⟨ret_i64 (by first | exact E.out | rfl), rfl⟩)

/-- The byte of a number. -/
def byteOf (b : Int) : UInt8 := UInt8.ofNat (b % 256).toNat

theorem byteOf_val (b : Int) : ((byteOf b).toNat : Int) = b % 256 := by
  unfold byteOf
  have h1 : 0 ≤ b % 256 := Int.emod_nonneg _ (by omega)
  have h2 : b % 256 < 256 := Int.emod_lt_of_pos _ (by omega)
  rw [UInt8.toNat_ofNat']
  omega

theorem wrap_u8 (b : Int) : IntKind.u8.wrap b = ((byteOf b).toNat : Int) := by
  rw [byteOf_val]
  simp [IntKind.wrap, IntKind.bits, IntKind.signed]

/-- How long full's list is. -/
def fullLen (short : Int) : Nat := (128 - max 0 (min short 128)).toNat

theorem fullLen_zero : fullLen 0 = 128 := by decide

/-- A row that is being filled: k bytes are in. -/
structure FillAt (w : World) (g n : Nat) (x : UInt8) (k : Nat) (wr : World) : Prop where
  row : wr.heap[g]? = some (.cells (List.replicate k (u8v x) ++ List.replicate (n - k) (u8v 0)).toArray 5 (0, 0))
  below : Below w.heap.size w wr

theorem FillAt.step {w wr : World} {g n : Nat} {x : UInt8} {k : Nat} (h : FillAt w g n x k wr) (hg : w.heap.size ≤ g) (hk : k < n) : FillAt w g n x (k + 1) (wr.setCell ⟨g, k, none⟩ (u8v x)) := by
  refine ⟨?_, h.below.setCell hg _⟩
  rw [heap_set h.row]
  suffices hh : (List.replicate k (u8v x) ++ List.replicate (n - k) (u8v 0)).toArray.setIfInBounds k (u8v x) = (List.replicate (k + 1) (u8v x) ++ List.replicate (n - (k + 1)) (u8v 0)).toArray by rw [hh]
  apply Array.ext'
  simp only [Array.toList_setIfInBounds]
  have e : n - k = (n - (k + 1)) + 1 := by omega
  rw [e, List.replicate_succ (n := n - (k + 1)), List.set_append]
  simp only [List.length_replicate, Nat.lt_irrefl, if_false, Nat.sub_self, List.set_cons_zero]
  rw [List.replicate_succ', List.append_assoc]
  rfl

set_option maxHeartbeats 400000 in
theorem full_any (b short : Int) (w : World) :
    Calls Try.prog 25 #[.int .i64 b, .int .i64 short] w (ClonePost w 5 (fullLen short) (u8vs (List.replicate (fullLen short) (byteOf b)))) := by
  obtain ⟨i0, hi, hz0, hz1, hz2⟩ := info_parts info_u8
  have hn0 : 0 ≤ 128 - max 0 (min short 128) := by omega
  obtain ⟨n, hn⟩ : ∃ n : Nat, 128 - max 0 (min short 128) = n := ⟨_, (Int.toNat_of_nonneg hn0).symm⟩
  have hfl : fullLen short = n := by unfold fullLen; rw [hn]; exact Int.toNat_natCast n
  have hn1 : n ≤ 128 := by omega
  have hmk := fun wx : World => run_make (P := Try.prog) wx 34 5 i0 _ Try.underlying34 hi hz0 .i64 .i64 (n : Int) (n : Int) (by omega) (Int.le_refl _) (by rw [hz2]; omega) (by omega)
  simp only [Int.toNat_natCast, hz1] at hmk
  rw [hfl]
  clear hfl
  go_enter Try.func25, Try.ntmps25
  go_wp2
  have hst : FillAt w w.heap.size n (byteOf b) 0 (w.alloc (.cells (madeCells #[.int .u8 0] n) 5)) := by
    refine ⟨?_, (Below.refl _ w).alloc (Nat.le_refl _) _⟩
    have e : madeCells #[.int .u8 0] n = (List.replicate 0 (u8v (byteOf b)) ++ List.replicate (n - 0) (u8v 0)).toArray := by
      apply Array.ext'
      rw [toList_madeCells_one]
      simp [u8v]
    rw [heap_alloc_new, e]
  generalize w.alloc (.cells (madeCells #[.int .u8 0] n) 5) = W at hst
  have HN := Lib.hid hn; clear hn
  go_loopw [6] (fun i wr => ∃ k : Nat, k ≤ n ∧ i = .int .i64 k ∧ FillAt w w.heap.size n (byteOf b) k wr) (fun i _ => n - (intOf i).toNat)
  case atStart => exact ⟨0, Nat.zero_le _, rfl, hst⟩
  case round =>
    obtain ⟨k, hk, rfl, hf⟩ := hrel
    by_cases hlt : k < n
    · have h2 : (k : Int) < (n : Int) := by omega
      have hc : wr.cell? ⟨w.heap.size, k, none⟩ = some (.int .u8 0) := by
        rw [blk_cell hf.row, List.getElem?_toArray, List.getElem?_append_right (by simp)]
        simp only [List.length_replicate, Nat.sub_self]
        rw [List.getElem?_replicate, if_pos (by omega)]
        rfl
      have hfz : wr.frozen? ⟨w.heap.size, k, none⟩ = false := blk_frozen hf.row k
      have hw8 := wrap_u8 b
      have hstep := hf.step (Nat.le_refl _) hlt
      unfold u8v at hstep
      go_wp2
      go_roundw
      case rel => exact ⟨k + 1, by omega, by go_num, hstep⟩
      case measure => simp [intOf]; omega
    · obtain rfl : k = n := by omega
      have h2 : ¬ (k : Int) < (k : Int) := by omega
      go_wp2
      go_ret
      have hr := hf.row
      simp only [Nat.sub_self, List.replicate_zero, List.append_nil] at hr
      refine ClonePost.mk ⟨by simp [u8vs], .inr ⟨w.heap.size, k, _, rfl, Nat.le_refl _, hr, Nat.le_refl _, by unfold maxLen; omega, by simp, ?_⟩⟩ hf.below
      rw [List.take_of_length_le (by simp)]
      simp [u8vs]
end Go.Proofs.Ytbnflbkaogpnbaa

/- has. -/
namespace Go.Proofs.Ytbnflbkaogpnbaa
open Go.RowKit

/-- Has a sector 128 bytes of one? -/
def Dev.hasB (d : Dev) (i : Int) (b : Int) : Bool := decide (d.at_ i = 0) && decide (d.secs[i.toNat]? = some (List.replicate 128 (byteOf b)))

def HasPost (w : World) (r : Bool) (e : Ending) (w' : World) : Prop := e = .returned (.bool r) ∧ Kept [] w w'

set_option maxHeartbeats 400000 in
theorem has_any {w : World} {a S M : Nat} {K : Option Nat} {d : Dev} (hD : DevAt w a S M K d) (i b : Int) :
    Calls Try.prog 28 #[.pointer (some ⟨a, 0, none⟩), .int .i64 i, .int .i64 b] w (HasPost w (d.hasB i b)) := by
  have hrd := read_any hD i
  have hfu := fun wx => full_any b 0 wx
  rw [fullLen_zero] at hfu
  by_cases hz : d.at_ i = 0
  · have hrd2 : Calls Try.prog 30 #[.pointer (some ⟨a, 0, none⟩), .int .i64 i] w (fun e w' => ∃ A c bb, e = .returned (.tuple #[.slice A 128 c, .int .i64 0]) ∧ d.secs[i.toNat]? = some bb ∧ SlAt w' A 128 c (u8vs bb) ∧ Below w.heap.size w w') := by
      refine hrd.mono ?_
      rintro e w' (⟨h, _⟩ | ⟨_, v, bb, he, hb, hown, hbel⟩)
      · exact absurd hz h
      · obtain ⟨A, c, rfl, hs, _⟩ := SlAt.of_own hown
        exact ⟨A, c, bb, he, hb, hs, hbel⟩
    have HZ := Lib.hid hz
    clear hrd hz
    go_enter Try.func28, Try.ntmps28
    go_wp2_with fail
    refine hrd2.mono ?_
    rintro e w1 ⟨A, c, bb, rfl, hb, hs, hbel⟩
    have HB := Lib.hid hb; clear hb
    go_wp2_with fail
    refine (hfu _).mono ?_
    rintro e w2 ⟨A2, c2, rfl, hown2, hbel2⟩
    obtain ⟨A3, c3, e3, hs3, _⟩ := SlAt.of_own hown2
    cases e3
    go_wp2_with fail
    refine (eqBytes_u8 _ _ _ _ _ _ _ bb (List.replicate 128 (byteOf b)) (hs.kept (Kept.of_below (F := []) hbel2) (by simp)) hs3).mono ?_
    rintro e w3 ⟨rfl, q, rfl⟩
    go_wp2_with fail
    go_ret
    refine ⟨?_, ((Kept.of_below hbel).trans (Kept.of_below hbel2)).trans (Kept.drewN _ _ _)⟩
    exact ret_bool (by simp [Dev.hasB, HZ.out, HB.out])
  · have hrd2 : Calls Try.prog 30 #[.pointer (some ⟨a, 0, none⟩), .int .i64 i] w (fun e w' => e = .returned (.tuple #[.slice none 0 0, .int .i64 (d.at_ i)]) ∧ w = w') := by
      refine hrd.mono ?_
      rintro e w' (⟨_, h, rfl⟩ | ⟨h, _⟩)
      · exact ⟨h, rfl⟩
      · exact absurd h hz
    have hz2 : (d.at_ i == 0) = false := by simpa using hz
    have HZ := Lib.hid hz
    clear hrd hz
    go_enter Try.func28, Try.ntmps28
    go_wp2_with (first | (go_at_call 30; refine hrd2.mono ?_; rintro e w1 ⟨rfl, rfl⟩))
    go_ret
    exact ⟨ret_bool (by simp [Dev.hasB, HZ.out]), Kept.refl _ _⟩
end Go.Proofs.Ytbnflbkaogpnbaa

/- The contracts of a device, its parts out of sight. -/
namespace Go.Proofs.Ytbnflbkaogpnbaa
open Go.RowKit

/-- A deed that answers an error number, at a device whose blocks are fp. -/
def DvPost (w : World) (a : Nat) (fp : List Nat) (r : Dev × Int) (e : Ending) (w' : World) : Prop :=
  e = .returned (.int .i64 r.2) ∧ ∃ fp', Dv w' a fp' r.1 ∧ Kept fp w w' ∧ ∀ j ∈ fp', j ∈ fp ∨ w.heap.size ≤ j

theorem DvPost.of {w : World} {a S M : Nat} {K : Option Nat} {r : Dev × Int} {e : Ending} {w' : World} (h : DevPost w a S M K r e w') : DvPost w a (a :: S :: M :: K.toList) r e w' := by
  obtain ⟨h1, K', h2, h3, h4⟩ := h
  refine ⟨h1, _, ⟨S, M, K', rfl, h2⟩, h3.mono (fun i hi => .inl (by simp at hi ⊢; rcases hi with rfl | rfl | rfl <;> simp)), fun j hj => ?_⟩
  simp only [List.mem_cons, Option.mem_toList] at hj ⊢
  rcases hj with rfl | rfl | rfl | hj
  · simp
  · simp
  · simp
  · rcases h4 j hj with h5 | h5
    · simp [h5]
    · exact .inr h5

section
variable {w : World} {a : Nat} {fp : List Nat} {d : Dev}
theorem write_dv (hD : Dv w a fp d) (i : Int) (b : Blk) (A : Option Addr) (n c : Nat) (hs : SlAt w A n c (u8vs b)) (hA : ∀ p, A = some p → p.block ∉ fp) (hwk : d.works < 9223372036854775807) :
    Calls Try.prog 24 #[.pointer (some ⟨a, 0, none⟩), .int .i64 i, .slice A n c] w (DvPost w a fp (d.write i b)) := by
  obtain ⟨S, M, K, rfl, h⟩ := hD
  exact (write_any h i b A n c hs (fun p hp hm => hA p hp (by simp at hm ⊢; rcases hm with h | h <;> simp [h])) hwk).mono fun e w' h => .of h
theorem flush_dv (hD : Dv w a fp d) (hwk : d.works < 9223372036854775807) : Calls Try.prog 23 #[.pointer (some ⟨a, 0, none⟩)] w (DvPost w a fp d.flush) := by
  obtain ⟨S, M, K, rfl, h⟩ := hD
  exact (flush_any h hwk).mono fun e w' h => .of h
theorem crash_dv (hD : Dv w a fp d) (A : Option Addr) (n c : Nat) (keep : List Int) (hx : SlAt w A n c (keep.map i64v)) (hA : ∀ p, A = some p → 0 < n → p.block ∉ fp) :
    Calls Try.prog 26 #[.pointer (some ⟨a, 0, none⟩), .slice A n c] w (DvPost w a fp (d.crash keep)) := by
  obtain ⟨S, M, K, rfl, h⟩ := hD
  exact (crash_any h A n c keep hx (fun p hp hn e => hA p hp hn (by simp [e]))).mono fun e w' h => .of h
theorem fail_dv (hD : Dv w a fp d) (n : Int) (h0 : -9223372036854775808 ≤ n) (h1 : n ≤ 9223372036854775807) (A : Option Addr) (m c : Nat) (keep : List Int) (hx : SlAt w A m c (keep.map i64v)) (hn : m * 8 ≤ 140737488355328)
    (hk : ∀ n ∈ keep, -9223372036854775808 ≤ n ∧ n ≤ 9223372036854775807) :
    Calls Try.prog 34 #[.pointer (some ⟨a, 0, none⟩), .int .i64 n, .slice A m c] w (DvPost w a fp (d.failAt n keep)) := by
  obtain ⟨S, M, K, rfl, h⟩ := hD
  exact (fail_any h n h0 h1 A m c keep hx hn hk).mono fun e w' h => .of h
theorem refuse_dv (hD : Dv w a fp d) (n : Int) (h0 : -9223372036854775808 ≤ n) (h1 : n ≤ 9223372036854775807) : Calls Try.prog 32 #[.pointer (some ⟨a, 0, none⟩), .int .i64 n] w (DvPost w a fp (d.refuse n)) := by
  obtain ⟨S, M, K, rfl, h⟩ := hD
  exact (refuse_any h n h0 h1).mono fun e w' h => .of h
theorem boot_dv (hD : Dv w a fp d) : Calls Try.prog 27 #[.pointer (some ⟨a, 0, none⟩)] w (DvPost w a fp (d.boot, 0)) := by
  obtain ⟨S, M, K, rfl, h⟩ := hD
  exact (boot_any h).mono fun e w' h => .of h

/-- What Read does, where there is a sector. -/
def ReadsPost (w : World) (b : Blk) (e : Ending) (w' : World) : Prop :=
  ∃ A c, e = .returned (.tuple #[.slice A 128 c, .int .i64 0]) ∧ w'.ownsRow w.heap.size 5 1 (.slice A 128 c) 128 (u8vs b) ∧ Below w.heap.size w w'
theorem read_dv (hD : Dv w a fp d) (i : Int) {b : Blk} (hz : d.at_ i = 0) (hb : d.secs[i.toNat]? = some b) : Calls Try.prog 30 #[.pointer (some ⟨a, 0, none⟩), .int .i64 i] w (ReadsPost w b) := by
  obtain ⟨S, M, K, rfl, h⟩ := hD
  refine (read_any h i).mono ?_
  rintro e w' (⟨h, _⟩ | ⟨_, v, bb, he, hb', hown, hbel⟩)
  · exact absurd hz h
  · rw [hb] at hb'
    cases hb'
    obtain ⟨A, c, rfl, _⟩ := SlAt.of_own hown
    exact ⟨A, c, he, hown, hbel⟩
theorem read_bad (hD : Dv w a fp d) (i : Int) (hz : d.at_ i ≠ 0) : Calls Try.prog 30 #[.pointer (some ⟨a, 0, none⟩), .int .i64 i] w fun e w' => e = .returned (.tuple #[.slice none 0 0, .int .i64 (d.at_ i)]) ∧ w = w' := by
  obtain ⟨S, M, K, rfl, h⟩ := hD
  refine (read_any h i).mono ?_
  rintro e w' (⟨_, he, rfl⟩ | ⟨h0, _⟩)
  · exact ⟨he, rfl⟩
  · exact absurd h0 hz
theorem has_dv (hD : Dv w a fp d) (i b : Int) : Calls Try.prog 28 #[.pointer (some ⟨a, 0, none⟩), .int .i64 i, .int .i64 b] w (HasPost w (d.hasB i b)) := by
  obtain ⟨S, M, K, rfl, h⟩ := hD
  exact has_any h i b
theorem size_dv (hD : Dv w a fp d) : Calls Try.prog 37 #[.pointer (some ⟨a, 0, none⟩)] w fun e w' => e = .returned (.int .i64 d.secs.length) ∧ w = w' := by
  obtain ⟨S, M, K, rfl, h⟩ := hD
  exact size_any h
theorem works_dv (hD : Dv w a fp d) : Calls Try.prog 33 #[.pointer (some ⟨a, 0, none⟩)] w fun e w' => e = .returned (.int .i64 d.works) ∧ w = w' := by
  obtain ⟨S, M, K, rfl, h⟩ := hD
  exact works_any h
theorem dead_dv (hD : Dv w a fp d) : Calls Try.prog 35 #[.pointer (some ⟨a, 0, none⟩)] w fun e w' => e = .returned (.bool d.dead) ∧ w = w' := by
  obtain ⟨S, M, K, rfl, h⟩ := hD
  exact dead_any h
end

/-- A new row, as an argument. -/
theorem ClonePost.sl {w w' : World} {t : TypeId} {n : Nat} {xs : List Value} {A : Option Addr} {c : Nat} (h : w'.ownsRow w.heap.size t 1 (.slice A n c) n xs) : SlAt w' A n c xs ∧ ∀ p, A = some p → w.heap.size ≤ p.block := by
  obtain ⟨A2, c2, e, h1, h2⟩ := SlAt.of_own h
  cases e
  exact ⟨h1, fun p hp => (h2 p hp).2⟩

/-- A device that is there in w, below its heap's size. -/
theorem Dv.old {w : World} {a : Nat} {fp : List Nat} {d : Dev} (h : Dv w a fp d) {j : Nat} (hj : w.heap.size ≤ j) : j ∉ fp := fun hm => by
  have := h.lt j hm
  omega
theorem Dv.new_kept {w w' : World} {a : Nat} {fp : List Nat} {d : Dev} (h : Dv w a fp d) (hk : Kept [] w w') : Dv w' a fp d := h.kept hk (by simp)
end Go.Proofs.Ytbnflbkaogpnbaa
