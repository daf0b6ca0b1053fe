/- Texts in one: I0. -/
import Derived.Test.YtbnflbkaogpnbaaGreatPAT
import Derived.Deep.CutRange
import Derived.Test.YtbnflbkaogpnbaaGreatPAZ
namespace Go.Proofs.YtbnflbkaogpnbaaGreat
set_option linter.unusedVariables false
open Go.RowKit
def Sp.opened (F each half : Nat) (sl : Sl) (l : List (List UInt8)) : Sp :=
 ⟨F, each, half, l.length, false, false, sl, ⟨F + half * each, each, (recs l).length, (recs l).drop ((recs l).length - (recs l).length % 128)⟩⟩
/-- A half is opened, well. -/
def HfOk (w : World) (a N each : Nat) (l : List (List UInt8)) (e : Ending) (w' : World) : Prop :=
 ∃ zt stp A n c ps, e = .returned (.tuple #[.pointer (some ⟨zt, 0, none⟩), .slice A n c, .int .i64 0]) ∧ Kept [] w w' ∧ BytessAt w' A n c ps ∧ texts ps = l ∧
  StAt w' zt a stp ⟨N, each, (recs l).length, (recs l).drop ((recs l).length - (recs l).length % 128)⟩ ∧ (∀ j ∈ stp, w.heap.size ≤ j) ∧ (∀ p, A = some p → w.heap.size ≤ p.block ∧ p.block ∉ stp) ∧ ∀ q ∈ ps, ∀ p, q.A = some p → w.heap.size ≤ p.block ∧ p.block ∉ stp
theorem half_ok {w : World} {a y zs : Nat} {zt : Value} {fp : List Nat} {d : Dev} {s : Sp} (hD : Dv w a fp d) (hy : w.heap[y]? = some (.cells #[.pointer (some ⟨a, 0, none⟩), .pointer (some ⟨zs, 0, none⟩), zt, .int .i64 s.first, .int .i64 s.each, .int .i64 s.half, .int .i64 s.many, .bool s.added, .bool s.broken] 33 (0, 0)))
  (hd : d.dead = false) (half : Nat) (h1 : half ≤ 1) (h3 : 1 ≤ s.each) (hth : s.first + half * s.each + s.each ≤ d.secs.length) (l : List (List UInt8)) (hl : Small l) (hf : (recs l).length ≤ 128 * s.each) (hr : (d.bytesAt (s.first + half * s.each)).take (recs l).length = recs l) :
  Calls Tryz.prog 22 #[.pointer (some ⟨y, 0, none⟩), .int .i64 half, .int .i64 (recs l).length] w (HfOk w a (s.first + half * s.each) s.each l) := by
 have hmx := hD.wf.many
 have hob : openBad d (s.first + half * s.each : Nat) s.each (recs l).length = 0 := by
  unfold openBad
  rw [if_neg (by have h0 := at_live hd (i := 0) (by omega); simp at h0; simp [h0]), if_neg (by omega), if_neg (by omega)]
 refine (spoolopen_any hD hy half (recs l).length h1 (by omega) (by omega) (by omega)).mono ?_
 simp only [OpenPost, Int.toNat_natCast, hob]
 rintro e w' ⟨hk, ⟨h, _⟩ | ⟨_, h, _⟩ | ⟨_, z, sp, A, n, c, ps, rfl, g1, g2, g3, g4, g5, g6, g7⟩⟩
 ·exact absurd rfl h
 ·exact absurd hr (h l hl)
 ·rw [hr] at g3 g4
  exact ⟨z, sp, A, n, c, ps, rfl, hk, g1, recs_inj g2 hl g3.symm, g4, g5, g6, g7⟩
/-- slots.Open, well, part by part. -/
def OsOk (w : World) (a : Nat) (s : Sl) (e : Ending) (w' : World) : Prop :=
 ∃ z sp A c, e = .returned (.tuple #[.pointer (some ⟨z, 0, none⟩), .slice A s.text.length c, .int .i64 0]) ∧ Kept [] w w' ∧ TwAt w' z a sp s ∧ SlAt w' A s.text.length c (u8vs s.text) ∧ (A = none → c = 0) ∧ ∀ j ∈ sp, w.heap.size ≤ j
theorem os_ok {w : World} {a : Nat} {fp : List Nat} {d : Dev} (hD : Dv w a fp d) (hd : d.dead = false) {s : Sl} (hs : SlOn s d) {f : Nat} (hf : s.first = f) : Calls Tryz.prog 29 #[.pointer (some ⟨a, 0, none⟩), .int .i64 f] w (OsOk w a s) := by
 subst hf
 obtain ⟨x, y, h1, h2, h3⟩ := hs.pair
 have hth := hs.there
 have hmany := hD.wf.many
 have z0 := at_live hd (i := s.first) (by omega)
 have z1 := at_live hd (i := s.first + 1) hth
 rw [show ((s.first + 1 : Nat) : Int) = (s.first : Int) + 1 by push_cast; rfl] at z1
 refine (slotsOpen_any hD (s.first : Int) (by unfold I64; omega)).mono ?_
 rintro e w' ⟨hk, ⟨h, _⟩ | ⟨_, h, _⟩ | ⟨_, _, x', y', e1, e2, h4⟩⟩
 ·exact absurd z0 h
 ·exact absurd z1 h
 ·rw [Int.toNat_natCast] at e1 e2 h4
  rw [h1] at e1
  rw [h2] at e2
  cases e1
  cases e2
  rw [h3.of] at h4
  rcases h4 with ⟨h4, _⟩ | ⟨s', h4, z, sp, A, c, rfl, g1, g2, g3, g4, g5⟩
  ·cases h4
  ·cases h4
   exact ⟨z, sp, A, c, rfl, hk, g1, g2, g3, g4⟩
/-- Open, where there is a log. -/
def OpOk13 (w : World) (a : Nat) (fp : List Nat) (d : Dev) (s : Sp) (l : List (List UInt8)) (e : Ending) (w' : World) : Prop :=
 ∃ y zs zt slp stp A n c ps, e = .returned (.tuple #[.pointer (some ⟨y, 0, none⟩), .slice A n c, .int .i64 0]) ∧ Kept [] w w' ∧ SpP w' y zs zt a fp slp stp s d ∧ BytessAt w' A n c ps ∧ texts ps = l ∧ (∀ j, j = y ∨ j ∈ slp ∨ j ∈ stp → w.heap.size ≤ j) ∧
  (∀ p, A = some p → w.heap.size ≤ p.block ∧ p.block ≠ y ∧ p.block ∉ slp ∧ p.block ∉ stp) ∧ ∀ q ∈ ps, ∀ p, q.A = some p → w.heap.size ≤ p.block ∧ p.block ≠ y ∧ p.block ∉ slp ∧ p.block ∉ stp
theorem half_room {F half each N : Nat} (h : half ≤ 1) (hth : F + 2 * each ≤ N) : F + half * each + each ≤ N := by
 have : half = 0 ∨ half = 1 := by omega
 rcases this with e | e <;> rw [e] <;> omega
theorem recs_len_ge (l : List (List UInt8)) : l.length ≤ (recs l).length := by
 rw [allSize_recs]
 induction l with
 | nil => simp
 | cons b l ih => rw [allSize_cons, List.length_cons]; omega
theorem op13_out {w W5 w6 : World} {a y z zt : Nat} {fp slp stp : List Nat} {d : Dev} {sl : Sl} {l : List (List UInt8)} {F each half n c : Nat} {A : Option Addr} {ps : List Part} (hD : Dv w a fp d) (hk5 : Kept [] w W5) (hT : TwAt W5 z a slp sl) (hlw : ∀ j ∈ slp, w.heap.size ≤ j) (hys : w.heap.size ≤ y) (hyl : y ∉ slp)
  (hy : W5.heap[y]? = some (.cells #[.pointer (some ⟨a, 0, none⟩), .pointer (some ⟨z, 0, none⟩), .pointer none, .int .i64 F, .int .i64 each, .int .i64 half, .int .i64 l.length, .bool false, .bool false] 33 (0, 0)))
  (h6 : Kept [] W5 w6) (hB : BytessAt w6 A n c ps) (htx : texts ps = l) (hS : StAt w6 zt a stp ⟨F + half * each, each, (recs l).length, (recs l).drop ((recs l).length - (recs l).length % 128)⟩) (hst : ∀ j ∈ stp, W5.heap.size ≤ j)
  (hA : ∀ p, A = some p → W5.heap.size ≤ p.block ∧ p.block ∉ stp) (hps : ∀ q ∈ ps, ∀ p, q.A = some p → W5.heap.size ≤ p.block ∧ p.block ∉ stp) :
  OpOk13 w a fp d (Sp.opened F each half sl l) l (.returned (.tuple #[.pointer (some ⟨y, 0, none⟩), .slice A n c, .int .i64 0])) (w6.setCell ⟨y, 2, none⟩ (.pointer (some ⟨zt, 0, none⟩))) := by
 have hyl5 := World.lt_of_heap hy
 have hk7 : Kept [y] w6 (w6.setCell ⟨y, 2, none⟩ (.pointer (some ⟨zt, 0, none⟩))) := Kept.setCell (by simp) _
 have hkw : Kept [] w (w6.setCell ⟨y, 2, none⟩ (.pointer (some ⟨zt, 0, none⟩))) := (hk5.trans h6).trans' hk7 (fun i hi => .inr (by simp at hi; omega))
 have hz5 := hk5.size
 have ny : ∀ j, W5.heap.size ≤ j → j ∉ [y] := fun j hj hm => by simp at hm; omega
 have nl : ∀ j, W5.heap.size ≤ j → j ∉ slp := fun j hj hm => by have := hT.lt j hm; omega
 refine ⟨y, z, zt, slp, stp, A, n, c, ps, rfl, hkw, ⟨?_, hD.new_kept hkw, (hT.kept h6 (by simp)).kept hk7 (fun j hj hm => hyl (by simp at hm; exact hm ▸ hj)), hS.kept hk7 (fun j hj => ny j (hst j hj)), hD.old hys, hyl, fun hm => ?_, fun j hj => hD.old (hlw j hj), fun j hj => hD.old (by have := hst j hj; omega), fun j hj hm => nl j (hst j hm) hj⟩,
  hB.kept hk7 (fun p e => ny _ (hA p e).1) (fun q hq p e => ny _ (hps q hq p e).1), htx, fun j hj => ?_, fun p e => ⟨by have := (hA p e).1; omega, fun hm => ny _ (hA p e).1 (by simp [hm]), nl _ (hA p e).1, (hA p e).2⟩, fun q hq p e => ⟨by have := (hps q hq p e).1; omega, fun hm => ny _ (hps q hq p e).1 (by simp [hm]), nl _ (hps q hq p e).1, (hps q hq p e).2⟩⟩
 ·exact heap_set ((h6.block y hyl5 (by simp)).trans hy) 2 _
 ·have := hst y hm; omega
 ·rcases hj with rfl | hj | hj
  ·exact hys
  ·exact hlw j hj
  ·have := hst j hj; omega
set_option maxHeartbeats 2000000 in
set_option maxRecDepth 100000 in
theorem spool_ok {w : World} {a : Nat} {fp : List Nat} {d : Dev} (hD : Dv w a fp d) (hd : d.dead = false) {F each half first sectors : Nat} {sl : Sl} {l : List (List UInt8)} (h : SpDisk F each d sl half l)
  (hF : first + 2 = F) (hs4 : 4 ≤ sectors) (hse : (sectors - 2) / 2 = each) (hth : first + sectors ≤ d.secs.length) :
  Calls Tryz.prog 13 #[.pointer (some ⟨a, 0, none⟩), .int .i64 first, .int .i64 sectors] w (OpOk13 w a fp d (Sp.opened F each half sl l) l) := by
 have hmx := hD.wf.many
 obtain ⟨b0, hb0⟩ : ∃ b, d.secs[(0 : Int).toNat]? = some b := ⟨_, List.getElem?_eq_getElem (by show 0 < _; omega)⟩
 have cr := read_dv hD 0 (at_live hd (i := 0) (by omega)) hb0
 have i1 : ¬ (first : Int) < 0 := by omega
 have i2 : ¬ (d.secs.length : Int) < (first : Int) := by omega
 have i3 : ¬ (sectors : Int) < 4 := by omega
 have hw1 : IntKind.i64.wrap ((d.secs.length : Int) - (first : Int)) = ((d.secs.length - first : Nat) : Int) := by rw [IntKind.wrap_i64]; omega
 obtain ⟨R, hR⟩ : ∃ R, d.secs.length - first = R := ⟨_, rfl⟩
 rw [hR] at hw1
 have i4 : ¬ (R : Int) < (sectors : Int) := by omega
 have hsf : sl.first = first := by have := h.slF; omega
 have cs := fun W (hD : Dv W a fp d) => os_ok hD hd h.slOn hsf
 clear hb0 hR
 go_enter Tryz.func13, Tryz.ntmps13
 go_wp2_with fail
 refine cr.mono ?_
 rintro e w1 ⟨A1, c1, rfl, hown1, hbel1⟩
 have hk1 := Kept.of_below (F := []) hbel1
 clear hown1 hbel1 cr
 go_wp2_with fail
 refine (size_dv (hD.new_kept hk1)).mono ?_
 rintro e w1' ⟨rfl, rfl⟩
 go_wp2_with fail
 refine (cs _ (hD.new_kept hk1)).mono ?_
 rintro e w2 ⟨z, slp, A2, c2, rfl, hk2, hT2, hs2, hn2, hl2⟩
 have hkw2 := hk1.trans hk2
 have hlw : ∀ j ∈ slp, w.heap.size ≤ j := fun j hj => Nat.le_trans hk1.size (hl2 j hj)
 clear cs i1 i2 i3 i4 hw1
 go_wp2_with fail
 obtain ⟨T, hT⟩ : ∃ T, sl.turn = T := ⟨_, rfl⟩
 have hman := h.man
 have ct := slotsTurn_any (hT2.kept (Kept.alloc [] w2 (.cells #[.int .i64 0, .int .i64 0, .int .i64 0] 55)) (by simp))
 rw [hT] at ct
 rcases Nat.eq_zero_or_pos T with h0 | h0
 ·subst h0
  obtain ⟨rfl, rfl⟩ := hman.zero hT
  have hbx : ManBox (w2.alloc (.cells #[.int .i64 0, .int .i64 0, .int .i64 0] 55)) w2.heap.size (.int .i64 0) (.int .i64 0) (.int .i64 0) := heap_alloc_new _ _
  have hkb := Kept.alloc [] w2 (.cells #[.int .i64 0, .int .i64 0, .int .i64 0] 55)
  refine ct.mono ?_
  rintro e w3 ⟨rfl, rfl⟩
  have hkwB := hkw2.trans hkb
  have hk2B := hkb.size
  have hTB := hT2.kept hkb (by simp)
  obtain ⟨m0, m1, m2, -⟩ := hbx.cells
  go_wp2_with fail
  obtain ⟨W5, hW5⟩ : ∃ W5, W5 = ((w2.alloc (.cells #[.int .i64 0, .int .i64 0, .int .i64 0] 55)).alloc (.cells #[.pointer (some ⟨a, 0, none⟩), .pointer (some ⟨z, 0, none⟩), .pointer none, .int .i64 F, .int .i64 each, .int .i64 0, .int .i64 0, .bool false, .bool false] 33)) := ⟨_, rfl⟩
  rw [show (first : Int) + 2 = (F : Int) by omega, show ((sectors : Int) - 2) / 2 = (each : Int) by omega]
  rw [← hW5]
  have hy5 : W5.heap[w2.heap.size + 1]? = some (.cells #[.pointer (some ⟨a, 0, none⟩), .pointer (some ⟨z, 0, none⟩), .pointer none, .int .i64 F, .int .i64 each, .int .i64 0, .int .i64 0, .bool false, .bool false] 33 (0, 0)) := by
   rw [hW5]; have h := heap_alloc_new (w2.alloc (.cells #[.int .i64 0, .int .i64 0, .int .i64 0] 55)) (.cells #[.pointer (some ⟨a, 0, none⟩), .pointer (some ⟨z, 0, none⟩), .pointer none, .int .i64 F, .int .i64 each, .int .i64 0, .int .i64 0, .bool false, .bool false] 33); simp only [World.size_alloc] at h; exact h
  have hkB : Kept [] (w2.alloc (.cells #[.int .i64 0, .int .i64 0, .int .i64 0] 55)) W5 := by rw [hW5]; exact Kept.alloc [] _ _
  have hkw5 : Kept [] w W5 := hkwB.trans hkB
  have hbx5 : ManBox W5 w2.heap.size (.int .i64 0) (.int .i64 0) (.int .i64 0) := (hkB.block _ (World.lt_of_heap hbx) (by simp)).trans hbx
  have hT5 := hTB.kept hkB (by simp)
  obtain ⟨y, hy⟩ : ∃ y, w2.heap.size + 1 = y := ⟨_, rfl⟩
  rw [hy] at hy5 ⊢
  have hys : w.heap.size ≤ y := by rw [← hy]; have := hkwB.size; simp at this ⊢; omega
  have hyl : y ∉ slp := fun hm => by have := hT2.lt y hm; have h3 := hk2B; rw [← hy] at this; simp at this h3; omega
  have hym : w2.heap.size ≠ y := by have h3 := hk2B; simp at h3; omega
  have hth2 : F + 0 * each + each ≤ d.secs.length := by exact half_room h.man.le h.there
  have hfit := h.fits
  have i5 : ¬ (128 * (each : Int)) < 0 := by omega
  obtain ⟨m0, m1, m2, -⟩ := hbx5.cells
  have y4 : W5.cell? ⟨y, 4, none⟩ = some (.int .i64 each) := by rw [blk_cell hy5]; rfl
  have hw5 : IntKind.i64.wrap (128 * (each : Int)) = 128 * (each : Int) := by have := h.there; rw [IntKind.wrap_i64]; omega
  clear hW5 hbx hkB hTB hy
  go_quiet (fail)
  go_wp2_with fail
  have hk6 : Kept [] W5 (W5.drewN nq) := Kept.drewN [] W5 nq
  have co : Calls Tryz.prog 22 #[.pointer (some ⟨y, 0, none⟩), .int .i64 0, .int .i64 0] (W5.drewN nq) (HfOk (W5.drewN nq) a (F + 0 * each) each []) := half_ok (s := Sp.opened F each 0 sl []) (zt := .pointer none) (hD.new_kept (hkw5.trans hk6)) (hy5) hd 0 h.man.le h.one hth2 [] h.small h.fits h.rows
  refine co.mono ?_
  rintro e w7 ⟨zt, stp, A, n, c, ps, rfl, hk7, hB7, htx, hS7, hst7, hA7, hps7⟩
  have hnn : n = ([] : List (List UInt8)).length := by rw [← hB7.len, ← htx]; simp [texts]
  have hnb : ((n : Int) != 0) = false := by rw [hnn]; simp
  have hbx7 := (hk6.trans hk7).block _ (World.lt_of_heap hbx5) (by simp) |>.trans hbx5
  have hy7 := (hk6.trans hk7).block _ (World.lt_of_heap hy5) (by simp) |>.trans hy5
  have FIN := Lib.hid (op13_out hD hkw5 hT5 hlw hys hyl (hy5) (hk6.trans hk7) hB7 htx hS7 hst7 hA7 hps7)
  obtain ⟨m0, m1, m2, -⟩ := ManBox.cells hbx7
  have y2 : w7.cell? ⟨y, 2, none⟩ = some (.pointer none) := by rw [blk_cell hy7]; rfl
  have yf : w7.frozen? ⟨y, 2, none⟩ = false := blk_frozen hy7 2
  have m2' : (w7.setCell ⟨y, 2, none⟩ (.pointer (some ⟨zt, 0, none⟩))).cell? ⟨w2.heap.size, 2, none⟩ = some (.int .i64 0) := ((Kept.setCell (F := [y]) (by simp) _).cell (p := ⟨w2.heap.size, 2, none⟩) (World.lt_of_heap hbx7) (by simp; exact hym)).trans m2
  clear co hB7 hS7 hbx7 hy7 hk7 hA7 hps7 hst7 hnn htx
  go_wp2_with fail
  go_ret3
  exact FIN.out
 ·have hpm : parseMan sl.text = some (half, (recs l).length, l.length) := by
   rw [hman.pos (by omega)]
   exact parse_manB hman.le (by have := h.fits; have := h.there; omega) (by have := h.fits; have := h.there; have := recs_len_ge l; omega)
  have cp := fun W hs => parse_any W A2 sl.text.length c2 sl.text hs hn2
  unfold ParPost at cp
  rw [hpm] at cp
  simp only at cp
  have hkb := Kept.alloc [] w2 (.cells #[.int .i64 0, .int .i64 0, .int .i64 0] 55)
  have hbx0 : ManBox (w2.alloc (.cells #[.int .i64 0, .int .i64 0, .int .i64 0] 55)) w2.heap.size (.int .i64 0) (.int .i64 0) (.int .i64 0) := heap_alloc_new _ _
  refine ct.mono ?_
  rintro e w3 ⟨rfl, rfl⟩
  have HPM := Lib.hid hpm
  have HT := Lib.hid hT
  clear hpm hT
  go_wp2_with fail
  refine (cp _ (hs2.kept hkb (by simp))).mono ?_
  rintro e w4 ⟨hk4, rfl⟩
  have hbx4 := (hk4.block _ (by simp) (by simp)).trans hbx0
  have hbx := ManBox.set hbx4 (.int .i64 half) (.int .i64 (recs l).length) (.int .i64 l.length)
  obtain ⟨n0, n1, n2, g0, g1, g2⟩ := ManBox.cells hbx4
  obtain ⟨WB, hWB⟩ : ∃ WB, ((w4.setCell ⟨w2.heap.size, 0, none⟩ (.int .i64 half)).setCell ⟨w2.heap.size, 1, none⟩ (.int .i64 (recs l).length)).setCell ⟨w2.heap.size, 2, none⟩ (.int .i64 l.length) = WB := ⟨_, rfl⟩
  have hk4B := manBox_kept w4 w2.heap.size (.int .i64 half) (.int .i64 (recs l).length) (.int .i64 l.length)
  rw [hWB] at hbx hk4B
  have hk4w := hkb.trans hk4
  have hkwB : Kept [] w WB := (hkw2.trans hk4w).trans' hk4B (fun i hi => .inr (by simp at hi; have := hkw2.size; omega))
  have hk2B : w2.heap.size + 1 ≤ WB.heap.size := by have h1 := hk4.size; have h2 := hk4B.size; simp at h1; omega
  have hTB := (hT2.kept hk4w (by simp)).kept hk4B (fun j hj hm => by have := hT2.lt j hj; simp at hm; omega)
  have hl2w := hlw
  obtain ⟨m0, m1, m2, -⟩ := ManBox.cells hbx
  go_upto_region 16 with fail
  try rw [hWB]
  clear hWB n0 n1 n2 g0 g1 g2 hbx4 hbx0 hk4B cp
  go_wp2_with fail
  obtain ⟨W5, hW5⟩ : ∃ W5, W5 = (WB.alloc (.cells #[.pointer (some ⟨a, 0, none⟩), .pointer (some ⟨z, 0, none⟩), .pointer none, .int .i64 F, .int .i64 each, .int .i64 half, .int .i64 l.length, .bool false, .bool false] 33)) := ⟨_, rfl⟩
  rw [show (first : Int) + 2 = (F : Int) by omega, show ((sectors : Int) - 2) / 2 = (each : Int) by omega]
  rw [← hW5]
  have hy5 : W5.heap[WB.heap.size]? = some (.cells #[.pointer (some ⟨a, 0, none⟩), .pointer (some ⟨z, 0, none⟩), .pointer none, .int .i64 F, .int .i64 each, .int .i64 half, .int .i64 l.length, .bool false, .bool false] 33 (0, 0)) := by
   rw [hW5]; have h := heap_alloc_new WB (.cells #[.pointer (some ⟨a, 0, none⟩), .pointer (some ⟨z, 0, none⟩), .pointer none, .int .i64 F, .int .i64 each, .int .i64 half, .int .i64 l.length, .bool false, .bool false] 33); exact h
  have hkB : Kept [] WB W5 := by rw [hW5]; exact Kept.alloc [] _ _
  have hkw5 : Kept [] w W5 := hkwB.trans hkB
  have hbx5 : ManBox W5 w2.heap.size (.int .i64 half) (.int .i64 (recs l).length) (.int .i64 l.length) := (hkB.block _ (World.lt_of_heap hbx) (by simp)).trans hbx
  have hT5 := hTB.kept hkB (by simp)
  obtain ⟨y, hy⟩ : ∃ y, WB.heap.size = y := ⟨_, rfl⟩
  rw [hy] at hy5 ⊢
  have hys : w.heap.size ≤ y := by rw [← hy]; have := hkwB.size; omega
  have hyl : y ∉ slp := fun hm => by have := hT2.lt y hm; have h3 := hk2B; rw [← hy] at this; omega
  have hym : w2.heap.size ≠ y := by have h3 := hk2B; omega
  have hth2 : F + half * each + each ≤ d.secs.length := by exact half_room h.man.le h.there
  have hfit := h.fits
  have i5 : ¬ (128 * (each : Int)) < ((recs l).length : Int) := by omega
  obtain ⟨m0, m1, m2, -⟩ := hbx5.cells
  have y4 : W5.cell? ⟨y, 4, none⟩ = some (.int .i64 each) := by rw [blk_cell hy5]; rfl
  have hw5 : IntKind.i64.wrap (128 * (each : Int)) = 128 * (each : Int) := by have := h.there; rw [IntKind.wrap_i64]; omega
  clear hW5 hbx hkB hTB hy
  go_quiet (fail)
  go_wp2_with fail
  have hk6 : Kept [] W5 (W5.drewN nq) := Kept.drewN [] W5 nq
  have co : Calls Tryz.prog 22 #[.pointer (some ⟨y, 0, none⟩), .int .i64 half, .int .i64 (recs l).length] (W5.drewN nq) (HfOk (W5.drewN nq) a (F + half * each) each l) := half_ok (s := Sp.opened F each half sl l) (zt := .pointer none) (hD.new_kept (hkw5.trans hk6)) (hy5) hd half h.man.le h.one hth2 l h.small h.fits h.rows
  refine co.mono ?_
  rintro e w7 ⟨zt, stp, A, n, c, ps, rfl, hk7, hB7, htx, hS7, hst7, hA7, hps7⟩
  have hnn : n = l.length := by rw [← hB7.len, ← htx]; simp [texts]
  have hnb : ((n : Int) != (l.length : Int)) = false := by rw [hnn]; simp
  have hbx7 := (hk6.trans hk7).block _ (World.lt_of_heap hbx5) (by simp) |>.trans hbx5
  have hy7 := (hk6.trans hk7).block _ (World.lt_of_heap hy5) (by simp) |>.trans hy5
  have FIN := Lib.hid (op13_out hD hkw5 hT5 hlw hys hyl (hy5) (hk6.trans hk7) hB7 htx hS7 hst7 hA7 hps7)
  obtain ⟨m0, m1, m2, -⟩ := ManBox.cells hbx7
  have y2 : w7.cell? ⟨y, 2, none⟩ = some (.pointer none) := by rw [blk_cell hy7]; rfl
  have yf : w7.frozen? ⟨y, 2, none⟩ = false := blk_frozen hy7 2
  have m2' : (w7.setCell ⟨y, 2, none⟩ (.pointer (some ⟨zt, 0, none⟩))).cell? ⟨w2.heap.size, 2, none⟩ = some (.int .i64 l.length) := ((Kept.setCell (F := [y]) (by simp) _).cell (p := ⟨w2.heap.size, 2, none⟩) (World.lt_of_heap hbx7) (by simp; exact hym)).trans m2
  clear co hB7 hS7 hbx7 hy7 hk7 hA7 hps7 hst7 hnn htx
  go_wp2_with fail
  go_ret3
  exact FIN.out
end Go.Proofs.YtbnflbkaogpnbaaGreat
