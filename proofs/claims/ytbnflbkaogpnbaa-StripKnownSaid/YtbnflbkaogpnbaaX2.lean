/- The document's device: Read, Fail, Crash where it is dead .. EqInts. -/
import Derived.Test.YtbnflbkaogpnbaaX1
import Derived.Deep.RegionHeld3
namespace Go.Proofs.Ytbnflbkaogpnbaa
open Go.RowKit

theorem OneAt.nowSome {w : World} {fp : List Nat} {r B : Nat} {now sure : Blk} {wrote : Bool} {o : One} (h : OneAt w fp r B now sure wrote o) : ∃ b f, o.nA = some ⟨b, f, none⟩ := by
  obtain ⟨b, f, e, _⟩ := h.now.cells (by omega)
  exact ⟨b, f, e⟩

set_option maxHeartbeats 400000 in
theorem refRead_dead {w : World} {r B cap : Nat} {l : List One} {fp : List Nat} {s : RS} (h : RefAt w r B cap l fp s) (i : Int) (hd : s.dead = true) :
    Calls Try.prog 42 #[.pointer (some ⟨r, 0, none⟩), .int .i64 i] w fun e w' => e = .returned (.tuple #[.slice none 0 0, .int .i64 100]) ∧ w = w' := by
  obtain ⟨c0, c1, c3, c4, c5, c6, cf⟩ := h.cells
  rw [hd] at c5
  clear c0 c1 c3 c4 c6
  have HD := Lib.hid hd; clear hd
  go_enter Try.func42, Try.ntmps42
  go_wp2
  go_ret2
  exact ⟨rfl, rfl⟩

set_option maxHeartbeats 400000 in
theorem refRead_out {w : World} {r B cap : Nat} {l : List One} {fp : List Nat} {s : RS} (h : RefAt w r B cap l fp s) (i : Int) (hd : s.dead = false) (hi : i < 0 ∨ (s.n : Int) ≤ i) :
    Calls Try.prog 42 #[.pointer (some ⟨r, 0, none⟩), .int .i64 i] w fun e w' => e = .returned (.tuple #[.slice none 0 0, .int .i64 9]) ∧ w = w' := by
  obtain ⟨c0, c1, c3, c4, c5, c6, cf⟩ := h.cells
  rw [hd] at c5
  rw [h.len] at c0
  clear c1 c3 c4 c6
  have HD := Lib.hid hd; clear hd
  by_cases h0 : i < 0
  · clear hi
    go_enter Try.func42, Try.ntmps42
    go_wp2
    go_ret2
    exact ⟨rfl, rfl⟩
  · have h1 : (s.n : Int) ≤ i := by omega
    clear hi
    go_enter Try.func42, Try.ntmps42
    go_wp2
    go_ret2
    exact ⟨rfl, rfl⟩

set_option maxHeartbeats 400000 in
theorem refRead_ok {w : World} {r B cap : Nat} {l : List One} {fp : List Nat} {s : RS} (h : RefAt w r B cap l fp s) (i : Nat) (hd : s.dead = false) (hi : i < s.n) :
    Calls Try.prog 42 #[.pointer (some ⟨r, 0, none⟩), .int .i64 i] w (ReadsPost w (s.now i)) := by
  obtain ⟨c0, c1, c3, c4, c5, c6, cf⟩ := h.cells
  rw [hd] at c5
  rw [h.len] at c0
  clear c1 c3 c4 c6
  obtain ⟨o, ho, h1⟩ := h.at_ hi
  obtain ⟨x0, x1, x2⟩ := h.row.cell ho
  have hs := h1.now
  have i0 : ¬ (i : Int) < 0 := by omega
  have i1 : (i : Int) < (s.n : Int) := by omega
  have hle := h.row.le; have hm := h.row.max; have hl := h.len
  rw [hl] at hle
  unfold maxLen at hm
  have HD := Lib.hid hd
  clear hd x1 x2 ho h1 hl
  go_enter Try.func42, Try.ntmps42
  go_wp2_with fail
  refine (copyBytes_any _ _ _ _ _ hs (by omega)).mono ?_
  rintro e w4 ⟨A4, c4, rfl, hown4, hbel4⟩
  go_wp2_with fail
  go_ret2
  exact ⟨_, _, rfl, hown4, hbel4⟩

theorem own_lt {w : World} {base : Nat} {t : TypeId} {A : Option Addr} {n c : Nat} {xs : List Value} (h : w.ownsRow base t 1 (.slice A n c) n xs) {p : Addr} (hp : A = some p) : p.block < w.heap.size := by
  obtain ⟨_, h2⟩ := h
  rcases h2 with ⟨e, _⟩ | ⟨g, cap, cur, e, _, hg, _⟩
  · rw [hp] at e; cases e
  · rw [hp] at e; cases e; exact World.lt_of_heap hg

/-- keep is stored. -/
theorem Rn.putKeep {w0 wr : World} {r B cap : Nat} {l : List One} {fp0 fp : List Nat} {s : RS} {A : Option Addr} {n c : Nat} {keep : List Int} (h : Rn w0 r B cap l fp0 fp s wr) (hs : SlAt wr A n c (keep.map i64v))
    (hA : ∀ p, A = some p → w0.heap.size ≤ p.block ∧ p.block ∉ fp ∧ p.block < wr.heap.size) (hki : ∀ n ∈ keep, -9223372036854775808 ≤ n ∧ n ≤ 9223372036854775807) :
    Rn w0 r B cap l fp0 (blksOf A ++ fp) { s with keep := keep } (wr.setCell ⟨r, 2, none⟩ (.slice A n c)) := by
  have hk : Kept [r] wr (wr.setCell ⟨r, 2, none⟩ (.slice A n c)) := Kept.setCell (by simp) _
  have hlt : ∀ j ∈ blksOf A ++ fp, j < wr.heap.size := fun j hj => by
    rcases List.mem_append.1 hj with h1 | h1
    · obtain ⟨p, hp, rfl⟩ := of_blksOf h1; exact (hA p hp).2.2
    · exact h.at_.lt j h1
  have h2 := h.at_.more (fun j hj => List.mem_append_right (blksOf A) hj) hlt
  obtain ⟨KA, kn, kc, hd⟩ := h2.head
  have hne : ∀ p, A = some p → p.block ≠ r := fun p hp e => (hA p hp).2.1 (e ▸ h.at_.rin)
  refine ⟨⟨⟨A, n, c, by rw [heap_set hd.blk]; rfl, hs.kept hk (fun p e => by simpa using hne p e), fun p hp => ⟨List.mem_append_left _ (mem_blksOf hp), hne p hp, fun e => (hA p hp).2.1 (e ▸ h.at_.bin)⟩, hki⟩,
    h2.row.kept hk (by simpa using fun e => h2.ne e.symm), h2.len, fun i o ho => (h2.one i o ho).kept hk (fun j hj _ => .inl (by simpa using hj)) (fun _ h => h), h2.ne, h2.rin, h2.bin, h2.max, fun j hj => Nat.lt_of_lt_of_le (hlt j hj) hk.size⟩,
    h.kept.trans' hk (fun i hi => by simp at hi; subst hi; exact h.new _ h.at_.rin), fun j hj => ?_⟩
  rcases List.mem_append.1 hj with h1 | h1
  · obtain ⟨p, hp, rfl⟩ := of_blksOf h1; exact .inr (hA p hp).1
  · exact h.new j h1

set_option maxHeartbeats 400000 in
theorem refFail_any {w : World} {r B cap : Nat} {l : List One} {fp : List Nat} {s : RS} (h : RefAt w r B cap l fp s) (n : Int) (KA : Option Addr) (kn kc : Nat) (keep : List Int) (hx : SlAt w KA kn kc (keep.map i64v)) (hn : kn * 8 ≤ 140737488355328)
    (hX : ∀ p, KA = some p → 0 < kn → p.block ≠ r) (hki : ∀ n ∈ keep, -9223372036854775808 ≤ n ∧ n ≤ 9223372036854775807) (hd : s.dead = false) :
    Calls Try.prog 79 #[.pointer (some ⟨r, 0, none⟩), .int .i64 n, .slice KA kn kc] w (RfPost w r fp { s with fail := max n (-1), keep := keep } (.int .i64 0)) := by
  obtain ⟨c0, c1, c3, c4, c5, c6, cf⟩ := h.cells
  rw [hd] at c5
  clear c0 c3 c4 c6
  have hk1 : Kept [r] w (w.setCell ⟨r, 1, none⟩ (.int .i64 (max n (-1)))) := Kept.setCell (by simp) _
  have hR := (Rn.start h).head (h.rehead (s' := { s with fail := max n (-1) }) hk1 ⟨rfl, rfl, rfl, rfl⟩ rfl (fun KA kn kc hb => by rw [heap_set hb]; rfl)) hk1
  have HD := Lib.hid hd; clear hd
  have hx1 := hx.keptP hk1 (fun p hp h0 => by simpa using hX p hp h0)
  have c2 : ∃ v, (w.setCell ⟨r, 1, none⟩ (.int .i64 (max n (-1)))).cell? ⟨r, 2, none⟩ = some v := by
    obtain ⟨KA, kn, kc, c2, _⟩ := hR.at_.keepCell
    exact ⟨_, c2⟩
  obtain ⟨v, c2⟩ := c2
  have c2' := fun w' => fun (hk : Kept [] _ w') => (hk.cell (p := ⟨r, 2, none⟩) (hR.at_.lt r hR.at_.rin) (by simp)).trans c2
  have cf' := hR.at_.cells.2.2.2.2.2.2
  have cf'' := fun w' => fun (hk : Kept [] _ w') => (hk.frozen (p := ⟨r, 2, none⟩) (hR.at_.lt r hR.at_.rin) (by simp)).trans (cf' 2)
  have cc := copyInts_any _ KA kn kc keep hx1 hn
  clear hx hx1 c2 cf' hX
  go_enter Try.func79, Try.ntmps79
  go_wp2_with fail
  refine cc.mono ?_
  clear cc
  rintro e w4 ⟨A4, c4, rfl, hown4, hbel4⟩
  have hk4 := Kept.of_below (F := []) hbel4
  obtain ⟨hs4, hA4⟩ := ClonePost.sl hown4
  have hR4 := hR.kept' hk4
  have hc4 := c2' w4 hk4
  have hf4 := cf'' w4 hk4
  have hP := hR4.putKeep hs4 (fun p hp => ⟨by simpa using hA4 p hp, fun hm => by have h1 := h.lt _ hm; have h2 := hA4 p hp; rw [World.size_setCell] at h2; omega, own_lt hown4 hp⟩) hki
  clear c2' cf'' hown4
  go_wp2_with fail
  go_ret
  exact hP.post _
end Go.Proofs.Ytbnflbkaogpnbaa
