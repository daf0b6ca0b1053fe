/- Texts in one: KA. -/
import Derived.Test.YtbnflbkaogpnbaaGreatPAT
import Derived.Test.YtbnflbkaogpnbaaGreatPBA
import Derived.Test.YtbnflbkaogpnbaaGreatPBC
namespace Go.Proofs.YtbnflbkaogpnbaaGreat
set_option linter.unusedVariables false
open Go.RowKit
theorem logBad_zero {d : Dev} {first sectors : Int} (h : logBad d first sectors = 0) : d.at_ 0 = 0 ∧ 0 ≤ first ∧ first ≤ d.secs.length ∧ 4 ≤ sectors ∧ sectors ≤ (d.secs.length : Int) - first := by
 unfold logBad at h
 split at h
 ·rename_i h1
  exact absurd h h1
 ·split at h
  ·cases h
  ·rename_i h1 h2
   exact ⟨by simpa using h1, by omega, by omega, by omega, by omega⟩
/-- The log's head is written behind its half was opened. -/
theorem op13_end {w W5 w6 : World} {a y z zt : Nat} {fp slp stp : List Nat} {d : Dev} {sl : Sl} {f m half fin many : Nat} (hD : Dv w a fp d) (hk5 : Kept [] w W5) (hT : TwAt W5 z a slp sl) (hlw : ∀ j ∈ slp, w.heap.size ≤ j) (hys : w.heap.size ≤ y) (hyl : y ∉ slp)
  (hy : W5.heap[y]? = some (.cells #[.pointer (some ⟨a, 0, none⟩), .pointer (some ⟨z, 0, none⟩), .pointer none, .int .i64 (f + 2 : Nat), .int .i64 m, .int .i64 half, .int .i64 many, .bool false, .bool false] 33 (0, 0)))
  (h6 : Kept [] W5 w6) (hS : StAt w6 zt a stp ⟨f + 2 + half * m, m, fin, (halfB d f m half fin).drop (fin - fin % 128)⟩) (hst : ∀ j ∈ stp, W5.heap.size ≤ j) :
  Kept [] w (w6.setCell ⟨y, 2, none⟩ (.pointer (some ⟨zt, 0, none⟩))) ∧ Kept [y] w6 (w6.setCell ⟨y, 2, none⟩ (.pointer (some ⟨zt, 0, none⟩))) ∧ SpP (w6.setCell ⟨y, 2, none⟩ (.pointer (some ⟨zt, 0, none⟩))) y z zt a fp slp stp (Sp.from_ d f m half fin many sl) d := by
 have hyl5 := World.lt_of_heap hy
 have hk7 : Kept [y] w6 (w6.setCell ⟨y, 2, none⟩ (.pointer (some ⟨zt, 0, none⟩))) := Kept.setCell (by simp) _
 have hkw : Kept [] w (w6.setCell ⟨y, 2, none⟩ (.pointer (some ⟨zt, 0, none⟩))) := (hk5.trans h6).trans' hk7 (fun i hi => .inr (by simp at hi; omega))
 have hz5 := hk5.size
 have ny : ∀ j, W5.heap.size ≤ j → j ∉ [y] := fun j hj hm => by simp at hm; omega
 have nl : ∀ j, W5.heap.size ≤ j → j ∉ slp := fun j hj hm => by have := hT.lt j hm; omega
 exact ⟨hkw, hk7, heap_set ((h6.block y hyl5 (by simp)).trans hy) 2 _, hD.new_kept hkw, (hT.kept h6 (by simp)).kept hk7 (fun j hj hm => hyl (by simp at hm; exact hm ▸ hj)), hS.kept hk7 (fun j hj => ny j (hst j hj)), hD.old hys, hyl, fun hm => by have := hst y hm; omega, fun j hj => hD.old (hlw j hj), fun j hj => hD.old (by have := hst j hj; omega), fun j hj hm => nl j (hst j hm) hj⟩
set_option maxHeartbeats 4000000 in
set_option maxRecDepth 100000 in
theorem spoolOpen_any {w : World} {a : Nat} {fp : List Nat} {d : Dev} (hD : Dv w a fp d) (first sectors : Int) (h1 : I64 first) (h2 : I64 sectors) :
  Calls Tryz.prog 13 #[.pointer (some ⟨a, 0, none⟩), .int .i64 first, .int .i64 sectors] w (Op13 w a fp d first sectors) := by
 have hmx := hD.wf.many
 have hone := hD.wf.one
 unfold I64 at h1 h2
 by_cases hz : d.at_ 0 = 0
 ·obtain ⟨hd, -, -⟩ := Dev.at_zero hz
  obtain ⟨b0, hb0⟩ : ∃ b, d.secs[(0 : Int).toNat]? = some b := ⟨_, List.getElem?_eq_getElem (by show 0 < _; omega)⟩
  have cr := read_dv hD 0 hz hb0
  have cz := fun W (hD : Dv W a fp d) => size_dv hD
  obtain ⟨N, hN⟩ : ∃ N, d.secs.length = N := ⟨_, rfl⟩
  rw [hN] at cz hmx hone
  by_cases hbad : first < 0 ∨ (N : Int) < first ∨ sectors < 4 ∨ (N : Int) - first < sectors
  ·have e0 : logBad d first sectors = 9 := by unfold logBad; rw [if_neg (by simp [hz]), if_pos (by rw [hN]; exact hbad)]
   have fin : ∀ w', Kept [] w w' → Op13 w a fp d first sectors (.returned (.tuple #[.pointer none, .slice none 0 0, .int .i64 9])) w' := fun w' hk => ⟨hk, .inl ⟨by rw [e0]; decide, by rw [e0]⟩⟩
   have hw1 : 0 ≤ first → IntKind.i64.wrap ((N : Int) - first) = (N : Int) - first := fun h => by rw [IntKind.wrap_i64]; omega
   clear e0 hN hz hb0
   by_cases b1 : first < 0
   ·clear hbad hw1
    go_enter Tryz.func13, Tryz.ntmps13
    go_wp2_with fail
    refine cr.mono ?_
    rintro e w1 ⟨A1, c1, rfl, hown1, hbel1⟩
    have hk1 := Kept.of_below (F := []) hbel1
    clear hown1 hbel1 cr
    go_wp2_with fail
    refine (cz _ (hD.new_kept hk1)).mono ?_
    rintro e w1' ⟨rfl, rfl⟩
    clear cz
    go_wp2_with fail
    go_ret3
    exact fin _ hk1
   ·by_cases b2 : (N : Int) < first
    ·clear hbad hw1
     go_enter Tryz.func13, Tryz.ntmps13
     go_wp2_with fail
     refine cr.mono ?_
     rintro e w1 ⟨A1, c1, rfl, hown1, hbel1⟩
     have hk1 := Kept.of_below (F := []) hbel1
     clear hown1 hbel1 cr
     go_wp2_with fail
     refine (cz _ (hD.new_kept hk1)).mono ?_
     rintro e w1' ⟨rfl, rfl⟩
     clear cz
     go_wp2_with fail
     go_ret3
     exact fin _ hk1
    ·by_cases b3 : sectors < 4
     ·clear hbad hw1
      go_enter Tryz.func13, Tryz.ntmps13
      go_wp2_with fail
      refine cr.mono ?_
      rintro e w1 ⟨A1, c1, rfl, hown1, hbel1⟩
      have hk1 := Kept.of_below (F := []) hbel1
      clear hown1 hbel1 cr
      go_wp2_with fail
      refine (cz _ (hD.new_kept hk1)).mono ?_
      rintro e w1' ⟨rfl, rfl⟩
      clear cz
      go_wp2_with fail
      go_ret3
      exact fin _ hk1
     ·have b4 : (N : Int) - first < sectors := by omega
      replace hw1 := hw1 (by omega)
      clear hbad
      go_enter Tryz.func13, Tryz.ntmps13
      go_wp2_with fail
      refine cr.mono ?_
      rintro e w1 ⟨A1, c1, rfl, hown1, hbel1⟩
      have hk1 := Kept.of_below (F := []) hbel1
      clear hown1 hbel1 cr
      go_wp2_with fail
      refine (cz _ (hD.new_kept hk1)).mono ?_
      rintro e w1' ⟨rfl, rfl⟩
      clear cz
      go_wp2_with fail
      go_ret3
      exact fin _ hk1
  ·have hok : logBad d first sectors = 0 := by unfold logBad; rw [if_neg (by simp [hz]), if_neg (by rw [hN]; exact hbad)]
   obtain ⟨f, rfl⟩ : ∃ f : Nat, first = f := ⟨first.toNat, by omega⟩
   obtain ⟨T, rfl⟩ : ∃ T : Nat, sectors = T := ⟨sectors.toNat, by omega⟩
   obtain ⟨m, hm⟩ : ∃ m : Nat, (T - 2) / 2 = m := ⟨_, rfl⟩
   have hem : eachOf (T : Int) = m := by unfold eachOf; omega
   have em : ((T : Int) - 2) / 2 = (m : Int) := by omega
   have em2 : ((T : Int) - 2).tdiv 2 = (m : Int) := by rw [Int.tdiv_eq_ediv_of_nonneg (by omega)]; exact em
   have hm1 : 1 ≤ m := by omega
   have hm2 : f + 2 + 2 * m ≤ N := by omega
   have i1 : ¬ (f : Int) < 0 := by omega
   have i2 : ¬ (N : Int) < (f : Int) := by omega
   have i3 : ¬ (T : Int) < 4 := by omega
   have i4 : ¬ (N : Int) - (f : Int) < (T : Int) := by omega
   have hw1 : IntKind.i64.wrap ((N : Int) - (f : Int)) = (N : Int) - (f : Int) := by rw [IntKind.wrap_i64]; omega
   have hw2 : IntKind.i64.wrap ((f : Int) + 2) = ((f + 2 : Nat) : Int) := by rw [IntKind.wrap_i64]; omega
   have hw3 : IntKind.i64.wrap ((T : Int) - 2) = (T : Int) - 2 := by rw [IntKind.wrap_i64]; omega
   have hw4 : IntKind.i64.wrap (m : Int) = (m : Int) := by rw [IntKind.wrap_i64]; omega
   have hw5 : IntKind.i64.wrap (128 * (m : Int)) = 128 * (m : Int) := by rw [IntKind.wrap_i64]; omega
   obtain ⟨x, hx⟩ : ∃ x, d.secs[f]? = some x := ⟨_, List.getElem?_eq_getElem (by omega)⟩
   obtain ⟨y', hy'⟩ : ∃ y, d.secs[f + 1]? = some y := ⟨_, List.getElem?_eq_getElem (by omega)⟩
   have finN : LogNot d f m → ∀ w', Kept [] w w' → Op13 w a fp d (f : Int) (T : Int) (.returned (.tuple #[.pointer none, .slice none 0 0, .int .i64 110])) w' := fun hn w' hk => ⟨hk, .inr (.inl ⟨hok, by rw [Int.toNat_natCast, hem]; exact hn, rfl⟩)⟩
   have finY : ∀ (s : Sp) (l : List (List UInt8)) (y zs zt : Nat) (slp stp : List Nat) (A : Option Addr) (n c : Nat) (ps : List Part) (w' : World), Kept [] w w' → LogIs d f m s l → SpP w' y zs zt a fp slp stp s d → BytessAt w' A n c ps → texts ps = l → (∀ j, j = y ∨ j ∈ slp ∨ j ∈ stp → w.heap.size ≤ j) → (∀ p, A = some p → w.heap.size ≤ p.block ∧ p.block ≠ y ∧ p.block ∉ slp ∧ p.block ∉ stp) → (∀ q ∈ ps, ∀ p, q.A = some p → w.heap.size ≤ p.block ∧ p.block ≠ y ∧ p.block ∉ slp ∧ p.block ∉ stp) →
     Op13 w a fp d (f : Int) (T : Int) (.returned (.tuple #[.pointer (some ⟨y, 0, none⟩), .slice A n c, .int .i64 0])) w' := fun s l y zs zt slp stp A n c ps w' hk g1 g2 g3 g4 g5 g6 g7 => ⟨hk, .inr (.inr ⟨hok, s, l, y, zs, zt, slp, stp, A, n, c, ps, by rw [Int.toNat_natCast, hem]; exact g1, rfl, g2, g3, g4, g5, g6, g7⟩)⟩
   have FN := Lib.hid finN; have FY := Lib.hid finY
   have cs := fun W (hD : Dv W a fp d) => slotsOpen_any hD (f : Int) (by unfold I64; omega)
   have hz1 := at_live hd (i := f) (by omega)
   have hz2 := at_live hd (i := f + 1) (by omega)
   rw [show ((f + 1 : Nat) : Int) = (f : Int) + 1 by push_cast; rfl] at hz2
   have HN := Lib.hid hN; have HX := Lib.hid hx; have HY := Lib.hid hy'
   clear finN finY hok hN hx hy' hbad hm hem hb0 hz
   go_enter Tryz.func13, Tryz.ntmps13
   go_wp2_with fail
   refine cr.mono ?_
   rintro e w1 ⟨A1, c1, rfl, hown1, hbel1⟩
   have hk1 := Kept.of_below (F := []) hbel1
   clear hown1 hbel1 cr
   go_wp2_with fail
   refine (cz _ (hD.new_kept hk1)).mono ?_
   rintro e w1' ⟨rfl, rfl⟩
   go_wp2_with fail
   refine (cs _ (hD.new_kept hk1)).mono ?_
   rintro e w2 ⟨hk2, ho⟩
   have hkw2 := hk1.trans hk2
   clear cs cz i1 i2 i3 i4 hw1
   rcases ho with ⟨h, _⟩ | ⟨_, h, _⟩ | ⟨_, _, x', y2, e1, e2, ho⟩
   ·exact absurd hz1 h
   ·exact absurd hz2 h
   ·rw [Int.toNat_natCast] at e1 e2 ho
    rw [HX.out] at e1
    rw [HY.out] at e2
    cases e1
    cases e2
    rcases ho with ⟨hno, rfl⟩ | ⟨sl, hsl, z, slp, A2, c2, rfl, hT2, hs2, hn2, hl2, _⟩
    ·have fin := FN.out ⟨x, y', HX.out, HY.out, .inl hno⟩
     clear hno hz1 hz2
     go_wp2_with fail
     go_ret3
     exact fin _ hkw2
    ·have hlw : ∀ j ∈ slp, w.heap.size ≤ j := fun j hj => Nat.le_trans hk1.size (hl2 j hj)
     have HSL := Lib.hid hsl
     clear hz1 hz2 hsl
     go_wp2_with fail
     obtain ⟨U, hU⟩ : ∃ U, sl.turn = U := ⟨_, rfl⟩
     have ct := slotsTurn_any (hT2.kept (Kept.alloc [] w2 (.cells #[.int .i64 0, .int .i64 0, .int .i64 0] 55)) (by simp))
     rw [hU] at ct
     have hkb := Kept.alloc [] w2 (.cells #[.int .i64 0, .int .i64 0, .int .i64 0] 55)
     have hbx0 : ManBox (w2.alloc (.cells #[.int .i64 0, .int .i64 0, .int .i64 0] 55)) w2.heap.size (.int .i64 0) (.int .i64 0) (.int .i64 0) := heap_alloc_new _ _
     rcases Nat.eq_zero_or_pos U with h0 | h0
     ·subst h0
      have hman : manOf sl = some (0, 0, 0) := by unfold manOf; rw [if_pos hU]
      have HM := Lib.hid hman
      clear hman hU
      refine ct.mono ?_
      rintro e w3 ⟨rfl, rfl⟩
      have hkwB := hkw2.trans hkb
      have hbx := hbx0
      have hTB := hT2.kept hkb (by simp)
      have hk2B := hkb.size
      simp only [World.size_alloc] at hk2B
      have hfm : (0 : Nat) < 4294967296 := by omega
      obtain ⟨WB, hWB⟩ : ∃ WB, w2.alloc (.cells #[.int .i64 0, .int .i64 0, .int .i64 0] 55) = WB := ⟨_, rfl⟩
      rw [hWB] at hkwB hbx hTB
      have hk2B : w2.heap.size + 1 ≤ WB.heap.size := by rw [← hWB]; simp
      obtain ⟨m0, m1, m2, -⟩ := ManBox.cells hbx
      clear hkb hbx0 ct
      obtain ⟨hh1, hf1, hm1'⟩ := manOf_half HM.out
      have hroom : f + 2 + 0 * m + m ≤ N := half_room hh1 hm2
      obtain ⟨W5, hW5⟩ : ∃ W5, WB.alloc (.cells #[.pointer (some ⟨a, 0, none⟩), .pointer (some ⟨z, 0, none⟩), .pointer none, .int .i64 ((f : Int) + 2), .int .i64 m, .int .i64 0, .int .i64 0, .bool false, .bool false] 33) = W5 := ⟨_, rfl⟩
      have hy5 : W5.heap[WB.heap.size]? = some (.cells #[.pointer (some ⟨a, 0, none⟩), .pointer (some ⟨z, 0, none⟩), .pointer none, .int .i64 (f + 2 : Nat), .int .i64 m, .int .i64 0, .int .i64 0, .bool false, .bool false] 33 (0, 0)) := by rw [← hW5]; exact heap_alloc_new _ _
      have hkB : Kept [] WB W5 := by rw [← hW5]; exact Kept.alloc [] _ _
      have hkw5 : Kept [] w W5 := hkwB.trans hkB
      have hbx5 : ManBox W5 w2.heap.size (.int .i64 0) (.int .i64 0) (.int .i64 0) := (hkB.block _ (World.lt_of_heap hbx) (by simp)).trans hbx
      have hT5 := hTB.kept hkB (by simp)
      go_upto_region 17 with fail
      try simp only [hw2, hw3, hw4, em, em2]
      try rw [hWB]
      try rw [hW5]
      obtain ⟨y, hy⟩ : ∃ y, WB.heap.size = y := ⟨_, rfl⟩
      rw [hy] at hy5 ⊢
      have hys : w.heap.size ≤ y := by rw [← hy]; have := hkwB.size; omega
      have hyl : y ∉ slp := fun hm => by have := hT2.lt y hm; rw [← hy] at this; omega
      have hym : w2.heap.size ≠ y := by omega
      obtain ⟨m0, m1, m2, -⟩ := hbx5.cells
      have y4 : W5.cell? ⟨y, 4, none⟩ = some (.int .i64 m) := by rw [blk_cell hy5]; rfl
      clear hW5 hbx hkB hTB hy hWB
      have i5 : ¬ 128 * (m : Int) < 0 := by omega
      go_quiet (fail)
      go_wp2_with fail
      have hk6 : Kept [] W5 (W5.drewN nq) := Kept.drewN [] W5 nq
      have co := spoolopen_any (s := ⟨f + 2, m, 0, 0, false, false, sl, ⟨0, 0, 0, []⟩⟩) (zt := .pointer none) (hD.new_kept (hkw5.trans hk6)) hy5 0 0 hh1 (by show f + 2 < _; omega) (by show m < _; omega) hf1
      have hob : openBad d ((f + 2 + 0 * m : Nat) : Int) (m : Int) (0 : Nat) = 0 := by
       unfold openBad
       rw [if_neg (by have h9 := at_live hd (i := 0) (by rw [HN.out]; omega); simp at h9; simp [h9]), if_neg (by rw [HN.out]; omega), if_neg (by omega)]
      replace co : Calls Tryz.prog 22 #[.pointer (some ⟨y, 0, none⟩), .int .i64 0, .int .i64 0] (W5.drewN nq) (OpenPost (W5.drewN nq) a d ((f + 2 + 0 * m : Nat) : Int) (m : Int) (0 : Nat)) := co
      refine co.mono ?_
      rintro e w7 ⟨hk7, ho⟩
      have hk57 := hk6.trans hk7
      rcases ho with ⟨h, _⟩ | ⟨_, hnr, rfl⟩ | ⟨_, zt, stp, A, n, c, ps, rfl, hB7, hsm7, hrc7, hS7, hst7, hA7, hps7⟩
      ·exact absurd hob h
      ·have fn := FN.out ⟨x, y', HX.out, HY.out, .inr ⟨sl, HSL.out, .inr ⟨_, _, _, HM.out, .inr ⟨by omega, .inl hnr⟩⟩⟩⟩
       have hy7 := (hk57.block _ (World.lt_of_heap hy5) (by simp)).trans hy5
       have y2 : w7.cell? ⟨y, 2, none⟩ = some (.pointer none) := by rw [blk_cell hy7]; rfl
       have yf : w7.frozen? ⟨y, 2, none⟩ = false := blk_frozen hy7 2
       have kw : Kept [] w (w7.setCell ⟨y, 2, none⟩ (.pointer none)) := (hkw5.trans hk57).trans' (Kept.setCell (F := [y]) (by simp) _) (fun i hi => .inr (by simp at hi; omega))
       clear co hnr hk57 hy7
       go_wp2_with fail
       go_ret3
       exact fn _ kw
      ·rw [Int.toNat_natCast, Int.toNat_natCast] at hrc7
       rw [Int.toNat_natCast, Int.toNat_natCast, Int.toNat_natCast] at hS7
       obtain ⟨kw, ky, hSp⟩ := op13_end (m := m) (half := 0) (fin := 0) (many := 0) hD hkw5 hT5 hlw hys hyl hy5 hk57 hS7 (fun j hj => Nat.le_trans hk6.size (hst7 j hj))
       have hbx7 := (hk57.block _ (World.lt_of_heap hbx5) (by simp)).trans hbx5
       have hy7 := (hk57.block _ (World.lt_of_heap hy5) (by simp)).trans hy5
       obtain ⟨m0, m1, m2, -⟩ := ManBox.cells hbx7
       have y2 : w7.cell? ⟨y, 2, none⟩ = some (.pointer none) := by rw [blk_cell hy7]; rfl
       have yf : w7.frozen? ⟨y, 2, none⟩ = false := blk_frozen hy7 2
       have m2' : (w7.setCell ⟨y, 2, none⟩ (.pointer (some ⟨zt, 0, none⟩))).cell? ⟨w2.heap.size, 2, none⟩ = some (.int .i64 0) := (ky.cell (p := ⟨w2.heap.size, 2, none⟩) (World.lt_of_heap hbx7) (by simp; exact hym)).trans m2
       have hnl : n = (texts ps).length := by rw [← hB7.len]; simp [texts]
       have h56 := hk6.size
       have hyl5 := World.lt_of_heap hy5
       have hlt5 := hT5.lt
       by_cases hnm : (texts ps).length = 0
       ·have hnb : ((n : Int) != (0 : Int)) = false := by rw [hnl, hnm]; simp
        have fy := FY.out _ (texts ps) y z zt slp stp A n c ps _ kw ⟨x, y', sl, 0, 0, 0, HX.out, HY.out, HSL.out, HM.out, by omega, hsm7, hrc7, hnm, rfl⟩ hSp (hB7.kept ky (fun p e hm => by simp at hm; have := (hA7 p e).1; omega) (fun q hq p e hm => by simp at hm; have := (hps7 q hq p e).1; omega)) rfl (fun j hj => by
         rcases hj with rfl | hj | hj
         ·exact hys
         ·exact hlw j hj
         ·have := hst7 j hj; have := hkw5.size; omega) (fun p e => by
         have h8 := hA7 p e; have h9 := hkw5.size
         exact ⟨by omega, by omega, fun hm => by have := hlt5 _ hm; omega, h8.2⟩) (fun q hq p e => by
         have h8 := hps7 q hq p e; have h9 := hkw5.size
         exact ⟨by omega, by omega, fun hm => by have := hlt5 _ hm; omega, h8.2⟩)
        clear co hB7 hS7 hbx7 hy7 hk7 hA7 hps7 hst7 hnl hnm hrc7 hsm7 hSp ky kw
        go_wp2_with fail
        go_ret3
        exact fy
       ·have hnb : ((n : Int) != (0 : Int)) = true := bne_iff_ne.2 (by rw [hnl]; omega)
        have fn := FN.out ⟨x, y', HX.out, HY.out, .inr ⟨sl, HSL.out, .inr ⟨_, _, _, HM.out, .inr ⟨by omega, .inr ⟨texts ps, hsm7, hrc7, hnm⟩⟩⟩⟩⟩
        clear co hB7 hS7 hbx7 hy7 hk7 hA7 hps7 hst7 hnl hnm hrc7 hsm7 hSp ky
        go_wp2_with fail
        go_ret3
        exact fn _ kw
     ·have hman : manOf sl = parseMan sl.text := by unfold manOf; rw [if_neg (by omega)]
      have cp := fun W hs => parse_any W A2 sl.text.length c2 sl.text hs hn2
      refine ct.mono ?_
      rintro e w3 ⟨rfl, rfl⟩
      have HU := Lib.hid hU
      clear hU
      go_wp2_with fail
      refine (cp _ (hs2.kept hkb (by simp))).mono ?_
      rintro e w4 ⟨hk4, hp⟩
      have hbx4 := (hk4.block _ (by simp) (by simp)).trans hbx0
      obtain ⟨n0, n1, n2, g0, g1, g2⟩ := ManBox.cells hbx4
      have hk4w := hkb.trans hk4
      have hk4s := hk4.size
      simp only [World.size_alloc] at hk4s
      cases hpm : parseMan sl.text with
      | none =>
       rw [hpm] at hp hman
       simp only at hp
       subst hp
       have fin := FN.out ⟨x, y', HX.out, HY.out, .inr ⟨sl, HSL.out, .inl hman⟩⟩
       have kk := manBox_kept w4 w2.heap.size (.int .i64 0) (.int .i64 0) (.int .i64 0)
       have kw := (hkw2.trans hk4w).trans' kk (fun i hi => .inr (by simp at hi; have := hkw2.size; omega))
       clear cp ct hman hpm kk
       go_wp2_with fail
       go_ret3
       exact fin _ kw
      | some r =>
       obtain ⟨half, fin, many⟩ := r
       rw [hpm] at hp hman
       simp only at hp
       subst hp
       have HM := Lib.hid hman
       have hbx := ManBox.set hbx4 (.int .i64 half) (.int .i64 fin) (.int .i64 many)
       obtain ⟨WB, hWB⟩ : ∃ WB, ((w4.setCell ⟨w2.heap.size, 0, none⟩ (.int .i64 half)).setCell ⟨w2.heap.size, 1, none⟩ (.int .i64 fin)).setCell ⟨w2.heap.size, 2, none⟩ (.int .i64 many) = WB := ⟨_, rfl⟩
       have hk4B := manBox_kept w4 w2.heap.size (.int .i64 half) (.int .i64 fin) (.int .i64 many)
       rw [hWB] at hbx hk4B
       have hkwB : Kept [] w WB := (hkw2.trans hk4w).trans' hk4B (fun i hi => .inr (by simp at hi; have := hkw2.size; omega))
       have hk2B : w2.heap.size + 1 ≤ WB.heap.size := by have h2 := hk4B.size; omega
       have hTB := (hT2.kept hk4w (by simp)).kept hk4B (fun j hj hm => by have := hT2.lt j hj; simp at hm; omega)
       obtain ⟨m0, m1, m2, -⟩ := ManBox.cells hbx
       clear hman hpm cp ct
       go_upto_region 16 with fail
       try rw [hWB]
       clear n0 n1 n2 g0 g1 g2 hbx4 hbx0 hk4B
       obtain ⟨hh1, hf1, hm1'⟩ := manOf_half HM.out
       have hroom : f + 2 + half * m + m ≤ N := half_room hh1 hm2
       obtain ⟨W5, hW5⟩ : ∃ W5, WB.alloc (.cells #[.pointer (some ⟨a, 0, none⟩), .pointer (some ⟨z, 0, none⟩), .pointer none, .int .i64 ((f : Int) + 2), .int .i64 m, .int .i64 half, .int .i64 many, .bool false, .bool false] 33) = W5 := ⟨_, rfl⟩
       have hy5 : W5.heap[WB.heap.size]? = some (.cells #[.pointer (some ⟨a, 0, none⟩), .pointer (some ⟨z, 0, none⟩), .pointer none, .int .i64 (f + 2 : Nat), .int .i64 m, .int .i64 half, .int .i64 many, .bool false, .bool false] 33 (0, 0)) := by rw [← hW5]; exact heap_alloc_new _ _
       have hkB : Kept [] WB W5 := by rw [← hW5]; exact Kept.alloc [] _ _
       have hkw5 : Kept [] w W5 := hkwB.trans hkB
       have hbx5 : ManBox W5 w2.heap.size (.int .i64 half) (.int .i64 fin) (.int .i64 many) := (hkB.block _ (World.lt_of_heap hbx) (by simp)).trans hbx
       have hT5 := hTB.kept hkB (by simp)
       go_upto_region 17 with fail
       try simp only [hw2, hw3, hw4, em, em2]
       try rw [hWB]
       try rw [hW5]
       obtain ⟨y, hy⟩ : ∃ y, WB.heap.size = y := ⟨_, rfl⟩
       rw [hy] at hy5 ⊢
       have hys : w.heap.size ≤ y := by rw [← hy]; have := hkwB.size; omega
       have hyl : y ∉ slp := fun hm => by have := hT2.lt y hm; rw [← hy] at this; omega
       have hym : w2.heap.size ≠ y := by omega
       obtain ⟨m0, m1, m2, -⟩ := hbx5.cells
       have y4 : W5.cell? ⟨y, 4, none⟩ = some (.int .i64 m) := by rw [blk_cell hy5]; rfl
       clear hW5 hbx hkB hTB hy hWB
       by_cases hbig : 128 * m < fin
       ·have i5 : 128 * (m : Int) < (fin : Int) := by omega
        have fn := FN.out ⟨x, y', HX.out, HY.out, .inr ⟨sl, HSL.out, .inr ⟨_, _, _, HM.out, .inl hbig⟩⟩⟩
        clear hbig
        go_quiet (fail)
        go_wp2_with fail
        go_ret3
        exact fn _ (hkw5.trans (Kept.drewN [] W5 nq))
       have i5 : ¬ 128 * (m : Int) < (fin : Int) := by omega
       go_quiet (fail)
       go_wp2_with fail
       have hk6 : Kept [] W5 (W5.drewN nq) := Kept.drewN [] W5 nq
       have co := spoolopen_any (s := ⟨f + 2, m, half, many, false, false, sl, ⟨0, 0, 0, []⟩⟩) (zt := .pointer none) (hD.new_kept (hkw5.trans hk6)) hy5 half fin hh1 (by show f + 2 < _; omega) (by show m < _; omega) hf1
       have hob : openBad d ((f + 2 + half * m : Nat) : Int) (m : Int) (fin : Nat) = 0 := by
        unfold openBad
        rw [if_neg (by have h9 := at_live hd (i := 0) (by rw [HN.out]; omega); simp at h9; simp [h9]), if_neg (by rw [HN.out]; omega), if_neg (by omega)]
       replace co : Calls Tryz.prog 22 #[.pointer (some ⟨y, 0, none⟩), .int .i64 half, .int .i64 fin] (W5.drewN nq) (OpenPost (W5.drewN nq) a d ((f + 2 + half * m : Nat) : Int) (m : Int) (fin : Nat)) := co
       refine co.mono ?_
       rintro e w7 ⟨hk7, ho⟩
       have hk57 := hk6.trans hk7
       rcases ho with ⟨h, _⟩ | ⟨_, hnr, rfl⟩ | ⟨_, zt, stp, A, n, c, ps, rfl, hB7, hsm7, hrc7, hS7, hst7, hA7, hps7⟩
       ·exact absurd hob h
       ·have fn := FN.out ⟨x, y', HX.out, HY.out, .inr ⟨sl, HSL.out, .inr ⟨_, _, _, HM.out, .inr ⟨by omega, .inl hnr⟩⟩⟩⟩
        have hy7 := (hk57.block _ (World.lt_of_heap hy5) (by simp)).trans hy5
        have y2 : w7.cell? ⟨y, 2, none⟩ = some (.pointer none) := by rw [blk_cell hy7]; rfl
        have yf : w7.frozen? ⟨y, 2, none⟩ = false := blk_frozen hy7 2
        have kw : Kept [] w (w7.setCell ⟨y, 2, none⟩ (.pointer none)) := (hkw5.trans hk57).trans' (Kept.setCell (F := [y]) (by simp) _) (fun i hi => .inr (by simp at hi; omega))
        clear co hnr hk57 hy7
        go_wp2_with fail
        go_ret3
        exact fn _ kw
       ·rw [Int.toNat_natCast, Int.toNat_natCast] at hrc7
        rw [Int.toNat_natCast, Int.toNat_natCast, Int.toNat_natCast] at hS7
        obtain ⟨kw, ky, hSp⟩ := op13_end (m := m) (half := half) (fin := fin) (many := many) hD hkw5 hT5 hlw hys hyl hy5 hk57 hS7 (fun j hj => Nat.le_trans hk6.size (hst7 j hj))
        have hbx7 := (hk57.block _ (World.lt_of_heap hbx5) (by simp)).trans hbx5
        have hy7 := (hk57.block _ (World.lt_of_heap hy5) (by simp)).trans hy5
        obtain ⟨m0, m1, m2, -⟩ := ManBox.cells hbx7
        have y2 : w7.cell? ⟨y, 2, none⟩ = some (.pointer none) := by rw [blk_cell hy7]; rfl
        have yf : w7.frozen? ⟨y, 2, none⟩ = false := blk_frozen hy7 2
        have m2' : (w7.setCell ⟨y, 2, none⟩ (.pointer (some ⟨zt, 0, none⟩))).cell? ⟨w2.heap.size, 2, none⟩ = some (.int .i64 many) := (ky.cell (p := ⟨w2.heap.size, 2, none⟩) (World.lt_of_heap hbx7) (by simp; exact hym)).trans m2
        have hnl : n = (texts ps).length := by rw [← hB7.len]; simp [texts]
        have h56 := hk6.size
        have hyl5 := World.lt_of_heap hy5
        have hlt5 := hT5.lt
        by_cases hnm : (texts ps).length = many
        ·have hnb : ((n : Int) != (many : Int)) = false := by rw [hnl, hnm]; simp
         have fy := FY.out _ (texts ps) y z zt slp stp A n c ps _ kw ⟨x, y', sl, half, fin, many, HX.out, HY.out, HSL.out, HM.out, by omega, hsm7, hrc7, hnm, rfl⟩ hSp (hB7.kept ky (fun p e hm => by simp at hm; have := (hA7 p e).1; omega) (fun q hq p e hm => by simp at hm; have := (hps7 q hq p e).1; omega)) rfl (fun j hj => by
          rcases hj with rfl | hj | hj
          ·exact hys
          ·exact hlw j hj
          ·have := hst7 j hj; have := hkw5.size; omega) (fun p e => by
          have h8 := hA7 p e; have h9 := hkw5.size
          exact ⟨by omega, by omega, fun hm => by have := hlt5 _ hm; omega, h8.2⟩) (fun q hq p e => by
          have h8 := hps7 q hq p e; have h9 := hkw5.size
          exact ⟨by omega, by omega, fun hm => by have := hlt5 _ hm; omega, h8.2⟩)
         clear co hB7 hS7 hbx7 hy7 hk7 hA7 hps7 hst7 hnl hnm hrc7 hsm7 hSp ky kw
         go_wp2_with fail
         go_ret3
         exact fy
        ·have hnb : ((n : Int) != (many : Int)) = true := bne_iff_ne.2 (by rw [hnl]; omega)
         have fn := FN.out ⟨x, y', HX.out, HY.out, .inr ⟨sl, HSL.out, .inr ⟨_, _, _, HM.out, .inr ⟨by omega, .inr ⟨texts ps, hsm7, hrc7, hnm⟩⟩⟩⟩⟩
         clear co hB7 hS7 hbx7 hy7 hk7 hA7 hps7 hst7 hnl hnm hrc7 hsm7 hSp ky
         go_wp2_with fail
         go_ret3
         exact fn _ kw
 ·have e0 : logBad d first sectors = d.at_ 0 := by unfold logBad; rw [if_pos hz]
  have cr := read_bad hD 0 hz
  have fin : Op13 w a fp d first sectors (.returned (.tuple #[.pointer none, .slice none 0 0, .int .i64 (d.at_ 0)])) w := ⟨Kept.refl _ _, .inl ⟨by rw [e0]; exact hz, by rw [e0]⟩⟩
  have hzb : (d.at_ 0 != 0) = true := by simpa using hz
  generalize d.at_ 0 = bad at *
  clear e0
  go_enter Tryz.func13, Tryz.ntmps13
  go_wp2_with fail
  refine cr.mono ?_
  rintro e w1 ⟨rfl, rfl⟩
  clear cr
  go_wp2_with fail
  go_ret3
  exact fin
end Go.Proofs.YtbnflbkaogpnbaaGreat
