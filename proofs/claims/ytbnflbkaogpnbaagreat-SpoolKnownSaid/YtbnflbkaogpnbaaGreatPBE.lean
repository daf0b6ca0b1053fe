/- Texts in one: KF KG. -/
import Derived.Test.YtbnflbkaogpnbaaGreatPBC
import Derived.Test.YtbnflbkaogpnbaaGreatPBD
import Derived.Test.YtbnflbkaogpnbaaGreatPAN
namespace Go.Proofs.YtbnflbkaogpnbaaGreat
set_option linter.unusedVariables false
open Go.RowKit
/-- What an Open of the document's log does. -/
def Op13R (w : World) (r : Nat) (gp : List Nat) (d : Dev) (first sectors : Int) (e : Ending) (w' : World) : Prop :=
 Kept [] w w' ∧ ((logBad d first sectors ≠ 0 ∧ e = .returned (.tuple #[.pointer none, .slice none 0 0, .int .i64 (logBad d first sectors)])) ∨
  (logBad d first sectors = 0 ∧ LogNot d first.toNat (eachOf sectors) ∧ e = .returned (.tuple #[.pointer none, .slice none 0 0, .int .i64 110])) ∨
  (logBad d first sectors = 0 ∧ ∃ s l y zm zt sp A n c ps B, LogIs d first.toNat (eachOf sectors) s l ∧ e = .returned (.tuple #[.pointer (some ⟨y, 0, none⟩), .slice A n c, .int .i64 0]) ∧ RgP w' y zm zt r first.toNat gp sp s d B ∧ BytessAt w' A n c ps ∧ texts ps = l ∧
   (∀ j, j = y ∨ j = zm ∨ j ∈ sp → w.heap.size ≤ j)))
set_option maxHeartbeats 4000000 in
set_option maxRecDepth 100000 in
theorem ref13Open_any {w : World} {r : Nat} {gp : List Nat} {d : Dev} (hR : Rv w r gp d) (hw : d.Wf) (first sectors : Int) (h1 : I64 first) (h2 : I64 sectors) :
  Calls Tryz.prog 54 #[.pointer (some ⟨r, 0, none⟩), .int .i64 first, .int .i64 sectors] w (Op13R w r gp d first sectors) := by
 have hmx := hw.many
 have hone := hw.one
 unfold I64 at h1 h2
 obtain ⟨B0, cap0, l0, s0, hA, hI⟩ := id hR
 obtain ⟨c0, -, -, -, c5, -, -⟩ := hA.cells
 rw [hA.len, hI.n] at c0
 rw [hI.dead] at c5
 by_cases hd : d.dead = true
 ·have e0 : logBad d first sectors = 100 := by simp [logBad, Dev.at_, hd]
  have fin : Op13R w r gp d first sectors (.returned (.tuple #[.pointer none, .slice none 0 0, .int .i64 100])) w := ⟨Kept.refl _ _, .inl ⟨by rw [e0]; decide, by rw [e0]⟩⟩
  rw [hd] at c5
  clear hd e0 c0 hA hI
  go_enter Tryz.func54, Tryz.ntmps54
  go_wp2_with fail
  go_ret3
  exact fin
 ·have hd0 : d.dead = false := by simpa using hd
  rw [hd0] at c5
  have hz : d.at_ 0 = 0 := at_live_ hd0 (i := 0) hone
  obtain ⟨N, hN⟩ : ∃ N, d.secs.length = N := ⟨_, rfl⟩
  rw [hN] at c0 hmx hone
  clear hA hI hd
  by_cases hbad : first < 0 ∨ (N : Int) < first ∨ sectors < 4 ∨ (N : Int) - first < sectors
  ·have e0 : logBad d first sectors = 9 := by unfold logBad; rw [if_neg (by simp [hz]), if_pos (by rw [hN]; exact hbad)]
   have fin : Op13R w r gp d first sectors (.returned (.tuple #[.pointer none, .slice none 0 0, .int .i64 9])) w := ⟨Kept.refl _ _, .inl ⟨by rw [e0]; decide, by rw [e0]⟩⟩
   have hw1 : 0 ≤ first → IntKind.i64.wrap ((N : Int) - first) = (N : Int) - first := fun h => by rw [IntKind.wrap_i64]; omega
   clear e0 hN hz
   by_cases b1 : first < 0
   ·clear hbad hw1
    go_enter Tryz.func54, Tryz.ntmps54
    go_wp2_with fail
    go_ret3
    exact fin
   ·by_cases b2 : (N : Int) < first
    ·clear hbad hw1
     go_enter Tryz.func54, Tryz.ntmps54
     go_wp2_with fail
     go_ret3
     exact fin
    ·by_cases b3 : sectors < 4
     ·clear hbad hw1
      go_enter Tryz.func54, Tryz.ntmps54
      go_wp2_with fail
      go_ret3
      exact fin
     ·have b4 : (N : Int) - first < sectors := by omega
      replace hw1 := hw1 (by omega)
      clear hbad
      go_enter Tryz.func54, Tryz.ntmps54
      go_wp2_with fail
      go_ret3
      exact fin
  ·have hok : logBad d first sectors = 0 := by unfold logBad; rw [if_neg (by simp [hz]), if_neg (by rw [hN]; exact hbad)]
   obtain ⟨f, rfl⟩ : ∃ f : Nat, first = f := ⟨first.toNat, by omega⟩
   obtain ⟨T, rfl⟩ : ∃ T : Nat, sectors = T := ⟨sectors.toNat, by omega⟩
   obtain ⟨m, hm⟩ : ∃ m : Nat, (T - 2) / 2 = m := ⟨_, rfl⟩
   have hem : eachOf (T : Int) = m := by unfold eachOf; omega
   have em : ((T : Int) - 2) / 2 = (m : Int) := by omega
   have em2 : ((T : Int) - 2).tdiv 2 = (m : Int) := by rw [Int.tdiv_eq_ediv_of_nonneg (by omega)]; exact em
   have hm1 : 1 ≤ m := by omega
   have hm2 : f + 2 + 2 * m ≤ N := by omega
   have i1 : ¬ (f : Int) < 0 := by omega
   have i2 : ¬ (N : Int) < (f : Int) := by omega
   have i3 : ¬ (T : Int) < 4 := by omega
   have i4 : ¬ (N : Int) - (f : Int) < (T : Int) := by omega
   have hw1 : IntKind.i64.wrap ((N : Int) - (f : Int)) = (N : Int) - (f : Int) := by rw [IntKind.wrap_i64]; omega
   have hw3 : IntKind.i64.wrap ((T : Int) - 2) = (T : Int) - 2 := by rw [IntKind.wrap_i64]; omega
   have hw4 : IntKind.i64.wrap (m : Int) = (m : Int) := by rw [IntKind.wrap_i64]; omega
   have hw5 : IntKind.i64.wrap (128 * (m : Int)) = 128 * (m : Int) := by rw [IntKind.wrap_i64]; omega
   obtain ⟨x, hx⟩ : ∃ x, d.secs[f]? = some x := ⟨_, List.getElem?_eq_getElem (by omega)⟩
   obtain ⟨y', hy'⟩ : ∃ y, d.secs[f + 1]? = some y := ⟨_, List.getElem?_eq_getElem (by omega)⟩
   have finN : LogNot d f m → ∀ w', Kept [] w w' → Op13R w r gp d (f : Int) (T : Int) (.returned (.tuple #[.pointer none, .slice none 0 0, .int .i64 110])) w' := fun hn w' hk => ⟨hk, .inr (.inl ⟨hok, by rw [Int.toNat_natCast, hem]; exact hn, rfl⟩)⟩
   have finY : ∀ (s : Sp) (l : List (List UInt8)) (y zm zt : Nat) (sp : List Nat) (A : Option Addr) (n c : Nat) (ps : List Part) (B : List UInt8) (w' : World), Kept [] w w' → LogIs d f m s l → RgP w' y zm zt r f gp sp s d B → BytessAt w' A n c ps → texts ps = l → (∀ j, j = y ∨ j = zm ∨ j ∈ sp → w.heap.size ≤ j) →
     Op13R w r gp d (f : Int) (T : Int) (.returned (.tuple #[.pointer (some ⟨y, 0, none⟩), .slice A n c, .int .i64 0])) w' := fun s l y zm zt sp A n c ps B w' hk g1 g2 g3 g4 g5 => ⟨hk, .inr (.inr ⟨hok, s, l, y, zm, zt, sp, A, n, c, ps, B, by rw [Int.toNat_natCast, hem]; exact g1, rfl, by rw [Int.toNat_natCast]; exact g2, g3, g4, g5⟩)⟩
   have FN := Lib.hid finN; have FY := Lib.hid finY
   have cs := ref11Open_any hR hw (f : Int) (by unfold I64; omega)
   have hz1 := at_live_ hd0 (i := f) (by omega)
   have hz2 := at_live_ hd0 (i := f + 1) (by omega)
   rw [show ((f + 1 : Nat) : Int) = (f : Int) + 1 by push_cast; rfl] at hz2
   have HN := Lib.hid hN; have HX := Lib.hid hx; have HY := Lib.hid hy'
   clear finN finY hok hN hx hy' hbad hm hem hz
   go_enter Tryz.func54, Tryz.ntmps54
   go_wp2_with fail
   refine cs.mono ?_
   rintro e w2 ⟨hk2, ho⟩
   clear cs i1 i2 i3 i4 hw1 c0 c5
   rcases ho with ⟨h, _⟩ | ⟨_, h, _⟩ | ⟨_, _, x', y2, e1, e2, ho⟩
   ·exact absurd hz1 h
   ·exact absurd hz2 h
   ·rw [Int.toNat_natCast] at e1 e2 ho
    rw [HX.out] at e1
    rw [HY.out] at e2
    cases e1
    cases e2
    have hR2 := hR.new_kept hk2
    rcases ho with ⟨hno, rfl⟩ | ⟨sl, hsl, z, A2, c2, rfl, hT2, hs2, hn2, hl2⟩
    ·have fin := FN.out ⟨x, y', HX.out, HY.out, .inl hno⟩
     clear hno hz1 hz2
     go_wp2_with fail
     go_ret3
     exact fin _ hk2
    ·have HSL := Lib.hid hsl
     obtain ⟨t0, t1, t2, t3, -, -⟩ := hT2.cells
     clear hz1 hz2 hsl t0 t1 t3
     obtain ⟨U, hU⟩ : ∃ U, sl.turn = U := ⟨_, rfl⟩
     rw [hU] at t2
     rcases Nat.eq_zero_or_pos U with h0 | h0
     ·subst h0
      have hman : manOf sl = some (0, 0, 0) := by unfold manOf; rw [if_pos hU]
      have HM := Lib.hid hman
      have hkq : Kept [] w2 w2 := Kept.refl _ _
      clear hman hU
      obtain ⟨hh1, hf1, hm1'⟩ := manOf_half HM.out
      have hroom : f + 2 + 0 * m + m ≤ N := half_room hh1 hm2
      have cp := fun W => ref13place_any W f m 0 hh1 (by omega) (by omega)
      have hR4 := hR2.new_kept hkq
      have hob : openBad d ((f + 2 + 0 * m : Nat) : Int) (m : Int) (0 : Nat) = 0 ∨ 128 * m < 0 := by
       by_cases hbig : 128 * m < 0
       ·exact .inr hbig
       ·refine .inl ?_
        unfold openBad
        rw [if_neg (by have h9 := at_live_ hd0 (i := 0) (by rw [HN.out]; omega); simp at h9; simp [h9]), if_neg (by rw [HN.out]; omega), if_neg (by omega)]
      have co := ref12Open_any hR4 hw ((f + 2 + 0 * m : Nat) : Int) (m : Int) (0 : Nat) (by unfold I64; omega) (by unfold I64; omega) (by unfold I64; omega)
      obtain ⟨NN, hNN⟩ : ∃ NN, f + 2 + 0 * m = NN := ⟨_, rfl⟩
      rw [hNN] at cp co hob
      have HNN := Lib.hid hNN
      have hk4 := hk2.trans hkq
      have hT4 := hT2.kept hkq (by simp)
      have h24 := hkq.size; have h02 := hk2.size
      clear hNN
      have i5 : ¬ 128 * (m : Int) < 0 := by omega
      have co' : Calls Tryz.prog 92 #[.pointer (some ⟨r, 0, none⟩), .int .i64 NN, .int .i64 m, .int .i64 0] w2 (RtOpen w2 r d NN m (0 : Nat)) := co
      clear co
      go_wp2_with fail
      refine (cp _).mono ?_
      rintro e w5 ⟨rfl, rfl⟩
      go_wp2_with fail
      refine co'.mono ?_
      rintro e w7 ⟨hk7, ho⟩
      clear cp co'
      rcases ho with ⟨h, _⟩ | ⟨_, hnr, rfl⟩ | ⟨_, zt, sp, A, n, c, ps, rfl, hB7, hsm7, hrc7, hS7, hst7⟩
      ·rcases hob with e | e
       ·exact absurd e h
       ·omega
      ·rw [Int.toNat_natCast, Int.toNat_natCast, ← HNN.out] at hnr
       have fn := FN.out ⟨x, y', HX.out, HY.out, .inr ⟨sl, HSL.out, .inr ⟨_, _, _, HM.out, .inr ⟨by omega, .inl hnr⟩⟩⟩⟩
       clear hnr hob
       go_wp2_with fail
       go_ret3
       exact fn _ (hk4.trans hk7)
      ·rw [Int.toNat_natCast, Int.toNat_natCast, ← HNN.out] at hrc7
       rw [Int.toNat_natCast, Int.toNat_natCast, Int.toNat_natCast, ← HNN.out] at hS7
       have hnl : n = (texts ps).length := by rw [← hB7.len]; simp [texts]
       by_cases hnm : (texts ps).length = 0
       ·have hnb : ((n : Int) != (0 : Int)) = false := by rw [hnl, hnm]; simp
        obtain ⟨W9, hW9⟩ : ∃ W9, w7.alloc (.cells #[.pointer (some ⟨r, 0, none⟩), .pointer (some ⟨z, 0, none⟩), .pointer (some ⟨zt, 0, none⟩), .int .i64 f, .int .i64 m, .int .i64 0, .int .i64 0, .bool false, .bool false] 117) = W9 := ⟨_, rfl⟩
        have hh9 : W9.heap[w7.heap.size]? = some (.cells #[.pointer (some ⟨r, 0, none⟩), .pointer (some ⟨z, 0, none⟩), .pointer (some ⟨zt, 0, none⟩), .int .i64 f, .int .i64 m, .int .i64 0, .int .i64 0, .bool false, .bool false] 117 (0, 0)) := by rw [← hW9]; exact heap_alloc_new _ _
        have hk9 : Kept [] w7 W9 := by rw [← hW9]; exact Kept.alloc [] _ _
        have h47 := hk7.size
        have hzl := World.lt_of_heap hT4
        have hl7 := hS7.lt
        have hdl : ∀ j ∈ gp, j < w.heap.size := hR.lt
        have hRg : RgP W9 w7.heap.size z zt r f gp sp (Sp.from_ d f m 0 0 0 sl) d (halfB d f m 0 0) :=
         ⟨⟨hh9, (hT4.kept hk7 (by simp)).kept hk9 (by simp), hS7.kept hk9 (by simp), rfl, fun hm => by have := hl7 _ hm; omega, by omega, fun hm => by have := hst7 _ hm; omega⟩, (hR4.new_kept hk7).new_kept hk9, fun hm => by have := hdl _ hm; omega, fun hm => by have := hdl _ hm; omega, fun j hj hm => by have := hdl _ hm; have := hst7 j hj; omega⟩
        have fy := FY.out _ (texts ps) _ z zt sp A n c ps _ _ ((hk4.trans hk7).trans hk9) ⟨x, y', sl, 0, 0, 0, HX.out, HY.out, HSL.out, HM.out, by omega, hsm7, hrc7, hnm, rfl⟩ hRg (hB7.kept hk9 (by simp) (by simp)) rfl (fun j hj => by
         rcases hj with rfl | rfl | hj
         ·omega
         ·omega
         ·have := hst7 j hj; omega)
        clear hB7 hS7 hk7 hst7 hnl hnm hrc7 hsm7 hRg hob hh9 hl7
        go_wp2_with fail
        try rw [hW9]
        go_ret3
        exact fy
       ·have hnb : ((n : Int) != (0 : Int)) = true := bne_iff_ne.2 (by rw [hnl]; omega)
        have fn := FN.out ⟨x, y', HX.out, HY.out, .inr ⟨sl, HSL.out, .inr ⟨_, _, _, HM.out, .inr ⟨by omega, .inr ⟨texts ps, hsm7, hrc7, hnm⟩⟩⟩⟩⟩
        have kk := hk4.trans hk7
        clear hB7 hS7 hk7 hst7 hnl hnm hrc7 hsm7 hob
        go_wp2_with fail
        go_ret3
        exact fn _ kk
     ·have hman : manOf sl = parseMan sl.text := by unfold manOf; rw [if_neg (by omega)]
      have HU := Lib.hid hU
      have u1 : (0 : Int) < (U : Int) := by omega
      clear hU
      obtain ⟨L, hL⟩ : ∃ L, sl.text.length = L := ⟨_, rfl⟩
      rw [hL] at hs2 ⊢
      by_cases h9 : L = 9
      ·subst h9
       have hle := hs2.le; have hmxl := hs2.max
       unfold maxLen at hmxl
       obtain ⟨g, o, rfl, hgl, hcell⟩ := hs2.cells (by omega)
       obtain ⟨y0, hy0⟩ : ∃ y0, sl.text[0]? = some y0 := ⟨_, List.getElem?_eq_getElem (by omega)⟩
       have cc0 : w2.cell? ⟨g, o, none⟩ = some (.int .u8 y0.toNat) := by
        have := hcell 0 (by omega)
        simp only [u8vs, List.getElem?_map, hy0] at this
        exact this
       have hyl := y0.toNat_lt
       by_cases hb1 : 1 < y0.toNat
       ·have hp : parseMan sl.text = none := by unfold parseMan; rw [if_pos (.inr (by rw [hy0]; exact hb1))]
        have j1 : (1 : Int) < (y0.toNat : Int) := by omega
        have fin := FN.out ⟨x, y', HX.out, HY.out, .inr ⟨sl, HSL.out, .inl (hman.trans hp)⟩⟩
        clear hman hp hcell hy0 hL hb1
        go_wp2_with fail
        go_ret3
        exact fin _ hk2
       ·have hp : parseMan sl.text = some (y0.toNat, four (sl.text.drop 1), four (sl.text.drop 5)) := by
         unfold parseMan; rw [if_neg (by rw [hL, hy0]; simp; omega), hy0]; rfl
        have j1 : ¬ (1 : Int) < (y0.toNat : Int) := by omega
        have hwr : IntKind.i64.wrap (y0.toNat : Int) = (y0.toNat : Int) := by rw [IntKind.wrap_i64]; omega
        have s1 : SlAt w2 (some ⟨g, o + 1, none⟩) 8 (c2 - 1) (u8vs (sl.text.drop 1)) := by
         have h := hs2.cut (i := 1) (j := 9) (by omega) (by omega)
         rw [List.take_of_length_le (by omega)] at h
         exact h
        have s5 : SlAt w2 (some ⟨g, o + 5, none⟩) 4 (c2 - 5) (u8vs (sl.text.drop 5)) := by
         have h := hs2.cut (i := 5) (j := 9) (by omega) (by omega)
         rw [List.take_of_length_le (by omega)] at h
         exact h
        have d1 : ¬ c2 = 1 := by omega
        have d5 : ¬ c2 = 5 := by omega
        have q1 := fun W (hk : Kept [] w2 W) => ref13four_any W _ 8 (c2 - 1) (sl.text.drop 1) (s1.kept hk (by simp)) (by omega)
        have q5 := fun W (hk : Kept [] w2 W) => ref13four_any W _ 4 (c2 - 5) (sl.text.drop 5) (s5.kept hk (by simp)) (by omega)
        rw [hp] at hman
        obtain ⟨fin, hF1⟩ : ∃ F1, four (sl.text.drop 1) = F1 := ⟨_, rfl⟩
        obtain ⟨many, hF5⟩ : ∃ F5, four (sl.text.drop 5) = F5 := ⟨_, rfl⟩
        rw [hF1, hF5] at hman
        rw [hF1] at q1
        rw [hF5] at q5
        obtain ⟨half, hhalf⟩ : ∃ half, y0.toNat = half := ⟨_, rfl⟩
        rw [hhalf] at hman j1 hwr cc0
        have HM := Lib.hid hman
        clear hman hp hcell hy0 hL hb1 hF1 hF5 s1 s5 hhalf hyl
        go_wp2_with fail
        refine (q1 _ (Kept.refl _ _)).mono ?_
        rintro e w3 ⟨rfl, k3⟩
        go_wp2_with fail
        refine (q5 _ k3).mono ?_
        rintro e w4 ⟨rfl, k4⟩
        have hkq := k3.trans k4
        clear q1 q5 k3 k4 cc0
        obtain ⟨hh1, hf1, hm1'⟩ := manOf_half HM.out
        have hroom : f + 2 + half * m + m ≤ N := half_room hh1 hm2
        have cp := fun W => ref13place_any W f m half hh1 (by omega) (by omega)
        have hR4 := hR2.new_kept hkq
        have hob : openBad d ((f + 2 + half * m : Nat) : Int) (m : Int) (fin : Nat) = 0 ∨ 128 * m < fin := by
         by_cases hbig : 128 * m < fin
         ·exact .inr hbig
         ·refine .inl ?_
          unfold openBad
          rw [if_neg (by have h9 := at_live_ hd0 (i := 0) (by rw [HN.out]; omega); simp at h9; simp [h9]), if_neg (by rw [HN.out]; omega), if_neg (by omega)]
        have co := ref12Open_any hR4 hw ((f + 2 + half * m : Nat) : Int) (m : Int) (fin : Nat) (by unfold I64; omega) (by unfold I64; omega) (by unfold I64; omega)
        obtain ⟨NN, hNN⟩ : ∃ NN, f + 2 + half * m = NN := ⟨_, rfl⟩
        rw [hNN] at cp co hob
        have HNN := Lib.hid hNN
        have hk4 := hk2.trans hkq
        have hT4 := hT2.kept hkq (by simp)
        have h24 := hkq.size; have h02 := hk2.size
        clear hNN
        by_cases hbig : 128 * m < fin
        ·have i5 : 128 * (m : Int) < (fin : Int) := by omega
         have fn := FN.out ⟨x, y', HX.out, HY.out, .inr ⟨sl, HSL.out, .inr ⟨_, _, _, HM.out, .inl hbig⟩⟩⟩
         clear hbig cp co hob
         go_wp2_with fail
         go_ret3
         exact fn _ hk4
        have i5 : ¬ 128 * (m : Int) < (fin : Int) := by omega
        have co' := co
        clear co
        go_wp2_with fail
        refine (cp _).mono ?_
        rintro e w5 ⟨rfl, rfl⟩
        go_wp2_with fail
        refine co'.mono ?_
        rintro e w7 ⟨hk7, ho⟩
        clear cp co'
        rcases ho with ⟨h, _⟩ | ⟨_, hnr, rfl⟩ | ⟨_, zt, sp, A, n, c, ps, rfl, hB7, hsm7, hrc7, hS7, hst7⟩
        ·rcases hob with e | e
         ·exact absurd e h
         ·omega
        ·rw [Int.toNat_natCast, Int.toNat_natCast, ← HNN.out] at hnr
         have fn := FN.out ⟨x, y', HX.out, HY.out, .inr ⟨sl, HSL.out, .inr ⟨_, _, _, HM.out, .inr ⟨by omega, .inl hnr⟩⟩⟩⟩
         clear hnr hob
         go_wp2_with fail
         go_ret3
         exact fn _ (hk4.trans hk7)
        ·rw [Int.toNat_natCast, Int.toNat_natCast, ← HNN.out] at hrc7
         rw [Int.toNat_natCast, Int.toNat_natCast, Int.toNat_natCast, ← HNN.out] at hS7
         have hnl : n = (texts ps).length := by rw [← hB7.len]; simp [texts]
         by_cases hnm : (texts ps).length = many
         ·have hnb : ((n : Int) != (many : Int)) = false := by rw [hnl, hnm]; simp
          obtain ⟨W9, hW9⟩ : ∃ W9, w7.alloc (.cells #[.pointer (some ⟨r, 0, none⟩), .pointer (some ⟨z, 0, none⟩), .pointer (some ⟨zt, 0, none⟩), .int .i64 f, .int .i64 m, .int .i64 half, .int .i64 many, .bool false, .bool false] 117) = W9 := ⟨_, rfl⟩
          have hh9 : W9.heap[w7.heap.size]? = some (.cells #[.pointer (some ⟨r, 0, none⟩), .pointer (some ⟨z, 0, none⟩), .pointer (some ⟨zt, 0, none⟩), .int .i64 f, .int .i64 m, .int .i64 half, .int .i64 many, .bool false, .bool false] 117 (0, 0)) := by rw [← hW9]; exact heap_alloc_new _ _
          have hk9 : Kept [] w7 W9 := by rw [← hW9]; exact Kept.alloc [] _ _
          have h47 := hk7.size
          have hzl := World.lt_of_heap hT4
          have hl7 := hS7.lt
          have hdl : ∀ j ∈ gp, j < w.heap.size := hR.lt
          have hRg : RgP W9 w7.heap.size z zt r f gp sp (Sp.from_ d f m half fin many sl) d (halfB d f m half fin) :=
           ⟨⟨hh9, (hT4.kept hk7 (by simp)).kept hk9 (by simp), hS7.kept hk9 (by simp), rfl, fun hm => by have := hl7 _ hm; omega, by omega, fun hm => by have := hst7 _ hm; omega⟩, (hR4.new_kept hk7).new_kept hk9, fun hm => by have := hdl _ hm; omega, fun hm => by have := hdl _ hm; omega, fun j hj hm => by have := hdl _ hm; have := hst7 j hj; omega⟩
          have fy := FY.out _ (texts ps) _ z zt sp A n c ps _ _ ((hk4.trans hk7).trans hk9) ⟨x, y', sl, half, fin, many, HX.out, HY.out, HSL.out, HM.out, by omega, hsm7, hrc7, hnm, rfl⟩ hRg (hB7.kept hk9 (by simp) (by simp)) rfl (fun j hj => by
           rcases hj with rfl | rfl | hj
           ·omega
           ·omega
           ·have := hst7 j hj; omega)
          clear hB7 hS7 hk7 hst7 hnl hnm hrc7 hsm7 hRg hob hh9 hl7
          go_wp2_with fail
          try rw [hW9]
          go_ret3
          exact fy
         ·have hnb : ((n : Int) != (many : Int)) = true := bne_iff_ne.2 (by rw [hnl]; omega)
          have fn := FN.out ⟨x, y', HX.out, HY.out, .inr ⟨sl, HSL.out, .inr ⟨_, _, _, HM.out, .inr ⟨by omega, .inr ⟨texts ps, hsm7, hrc7, hnm⟩⟩⟩⟩⟩
          have kk := hk4.trans hk7
          clear hB7 hS7 hk7 hst7 hnl hnm hrc7 hsm7 hob
          go_wp2_with fail
          go_ret3
          exact fn _ kk
      ·have hp : parseMan sl.text = none := by unfold parseMan; rw [if_pos (.inl (by rw [hL]; exact h9))]
       have j0 : ((L : Int) != 9) = true := by simp; omega
       have fin := FN.out ⟨x, y', HX.out, HY.out, .inr ⟨sl, HSL.out, .inl (hman.trans hp)⟩⟩
       clear hman hp hL
       go_wp2_with fail
       go_ret3
       exact fin _ hk2
end Go.Proofs.YtbnflbkaogpnbaaGreat
namespace Go.Proofs.YtbnflbkaogpnbaaGreat
set_option linter.unusedVariables false
open Go.RowKit
/-- A log in memory beside its device. -/
structure SpQ (w : World) (y zs zt a : Nat) (slp stp : List Nat) (s : Sp) : Prop where
 head : w.heap[y]? = some (.cells #[.pointer (some ⟨a, 0, none⟩), .pointer (some ⟨zs, 0, none⟩), .pointer (some ⟨zt, 0, none⟩), .int .i64 s.first, .int .i64 s.each, .int .i64 s.half, .int .i64 s.many, .bool s.added, .bool s.broken] 33 (0, 0))
 sl : TwAt w zs a slp s.sl
 st : StAt w zt a stp s.st
 y2 : y ∉ slp
 y3 : y ∉ stp
 d3 : ∀ j ∈ slp, j ∉ stp
theorem SpP.toQ {w : World} {y zs zt a : Nat} {fp slp stp : List Nat} {s : Sp} {d : Dev} (h : SpP w y zs zt a fp slp stp s d) : SpQ w y zs zt a slp stp s := ⟨h.head, h.sl, h.st, h.y2, h.y3, h.d3⟩
def LgOpt (w : World) (a : Nat) (v : Value) (S : List Nat) : Option Sp → Prop
 | none => v = .pointer none
 | some s => ∃ y zs zt slp stp, v = .pointer (some ⟨y, 0, none⟩) ∧ SpQ w y zs zt a slp stp s ∧ ∀ j, j = y ∨ j ∈ slp ∨ j ∈ stp → j ∈ S
def RgOpt (w : World) (r : Nat) (F : Nat) (v : Value) (G : List Nat) : Option Sp → Prop
 | none => v = .pointer none
 | some s => ∃ y zm zt sp B, v = .pointer (some ⟨y, 0, none⟩) ∧ RgQ w y zm zt r F sp s B ∧ ∀ j, j = y ∨ j = zm ∨ j ∈ sp → j ∈ G
theorem LgOpt.kept {w w' : World} {a : Nat} {v : Value} {S F : List Nat} {o : Option Sp} (h : LgOpt w a v S o) (hk : Kept F w w') (hF : ∀ j ∈ S, j ∉ F) : LgOpt w' a v S o := by
 cases o with
 | none => exact h
 | some s =>
  obtain ⟨y, zs, zt, slp, stp, h1, h2, h3⟩ := h
  exact ⟨y, zs, zt, slp, stp, h1, ⟨(hk.block y (World.lt_of_heap h2.head) (hF y (h3 y (.inl rfl)))).trans h2.head, h2.sl.kept hk (fun j hj => hF j (h3 j (.inr (.inl hj)))), h2.st.kept hk (fun j hj => hF j (h3 j (.inr (.inr hj)))), h2.y2, h2.y3, h2.d3⟩, h3⟩
theorem RgOpt.kept {w w' : World} {r F0 : Nat} {v : Value} {G F : List Nat} {o : Option Sp} (h : RgOpt w r F0 v G o) (hk : Kept F w w') (hF : ∀ j ∈ G, j ∉ F) : RgOpt w' r F0 v G o := by
 cases o with
 | none => exact h
 | some s =>
  obtain ⟨y, zm, zt, sp, B, h1, h2, h3⟩ := h
  exact ⟨y, zm, zt, sp, B, h1, h2.kept hk (hF y (h3 y (.inl rfl))) (hF zm (h3 zm (.inr (.inl rfl)))) (fun j hj => hF j (h3 j (.inr (.inr hj)))), h3⟩
def prCells13 (f m : Int) (a r : Nat) (vs vm : Value) (fine : Bool) : Array Value := #[.int .i64 f, .int .i64 m, .pointer (some ⟨a, 0, none⟩), vs, .pointer (some ⟨r, 0, none⟩), vm, .bool fine]
/-- The pair at p; t tells whose each block is. -/
structure Pr13 (w0 w : World) (p a r : Nat) (f m : Int) (d e : Dev) (os om : Option Sp) (vs vm : Value) (fp gp S G : List Nat) (t : Nat → Nat) : Prop where
 head : w.heap[p]? = some (.cells (prCells13 f m a r vs vm true) 72 (0, 0))
 dv : Dv w a fp d
 rv : Rv w r gp e
 st : LgOpt w a vs S os
 rt : RgOpt w r f.toNat vm G om
 tp : t p = 0
 tf : ∀ j ∈ fp, t j = 1
 tg : ∀ j ∈ gp, t j = 2
 tS : ∀ j ∈ S, t j = 3
 tG : ∀ j ∈ G, t j = 4
 low : ∀ j, j = p ∨ j ∈ fp ∨ j ∈ gp ∨ j ∈ S ∨ j ∈ G → w0.heap.size ≤ j
 ltS : ∀ j ∈ S, j < w.heap.size
 ltG : ∀ j ∈ G, j < w.heap.size
 kept : Kept [] w0 w
section
variable {w0 w w' : World} {p a r : Nat} {f m : Int} {d e d' e' : Dev} {os om os' om' : Option Sp} {vs vm vs' vm' : Value} {fp gp S G fp' gp' S' G' : List Nat} {t : Nat → Nat}
theorem Pr13.pl (h : Pr13 w0 w p a r f m d e os om vs vm fp gp S G t) : p < w.heap.size := World.lt_of_heap h.head
theorem Pr13.keptF (h : Pr13 w0 w p a r f m d e os om vs vm fp gp S G t) {F : List Nat} (hk : Kept F w w') (hF : ∀ j ∈ F, j ≠ p ∧ j ∉ fp ∧ j ∉ gp ∧ j ∉ S ∧ j ∉ G) (hl : ∀ j ∈ F, w0.heap.size ≤ j) : Pr13 w0 w' p a r f m d e os om vs vm fp gp S G t :=
  ⟨(hk.block p h.pl (fun hm => (hF p hm).1 rfl)).trans h.head, h.dv.kept hk (fun j hj hm => (hF j hm).2.1 hj), h.rv.kept hk (fun j hj hm => (hF j hm).2.2.1 hj), h.st.kept hk (fun j hj hm => (hF j hm).2.2.2.1 hj), h.rt.kept hk (fun j hj hm => (hF j hm).2.2.2.2 hj),
    h.tp, h.tf, h.tg, h.tS, h.tG, h.low, fun j hj => Nat.lt_of_lt_of_le (h.ltS j hj) hk.size, fun j hj => Nat.lt_of_lt_of_le (h.ltG j hj) hk.size, h.kept.trans' hk (fun j hj => .inr (hl j hj))⟩
theorem Pr13.next (h : Pr13 w0 w p a r f m d e os om vs vm fp gp S G t) (hk : Kept [] w w') : Pr13 w0 w' p a r f m d e os om vs vm fp gp S G t := h.keptF hk (by simp) (by simp)
/-- A deed of the program's device. -/
theorem Pr13.dev (h : Pr13 w0 w p a r f m d e os om vs vm fp gp S G t) (hD : Dv w' a fp' d') (hk : Kept fp w w') (hn : ∀ j ∈ fp', j ∈ fp ∨ w.heap.size ≤ j) : ∃ t', Pr13 w0 w' p a r f m d' e os om vs vm fp' gp S G t' := by
 have o : ∀ j x, t j = x → x ≠ 1 → j ∉ fp := fun j x h1 h2 hm => h2 (h1.symm.trans (h.tf j hm))
 have old : ∀ j, j < w.heap.size → (if j < w.heap.size then t j else 1) = t j := fun j hj => if_pos hj
 have hz := h.kept.size
 refine ⟨fun j => if j < w.heap.size then t j else 1, (hk.block p h.pl (o p 0 h.tp (by omega))).trans h.head, hD, h.rv.kept hk (fun j hj => o j 2 (h.tg j hj) (by omega)), h.st.kept hk (fun j hj => o j 3 (h.tS j hj) (by omega)), h.rt.kept hk (fun j hj => o j 4 (h.tG j hj) (by omega)), (old p h.pl).trans h.tp, fun j hj => ?_, fun j hj => (old j (h.rv.lt j hj)).trans (h.tg j hj), fun j hj => (old j (h.ltS j hj)).trans (h.tS j hj), fun j hj => (old j (h.ltG j hj)).trans (h.tG j hj), fun j hj => ?_, fun j hj => Nat.lt_of_lt_of_le (h.ltS j hj) hk.size, fun j hj => Nat.lt_of_lt_of_le (h.ltG j hj) hk.size, h.kept.trans' hk (fun j hj => .inr (h.low j (.inr (.inl hj))))⟩
 ·rcases hn j hj with e1 | e1
  ·exact (old j (h.dv.lt j e1)).trans (h.tf j e1)
  ·exact if_neg (by omega)
 ·rcases hj with e1 | e1 | e1
  ·exact h.low j (.inl e1)
  ·rcases hn j e1 with e2 | e2
   ·exact h.low j (.inr (.inl e2))
   ·omega
  ·exact h.low j (.inr (.inr e1))
/-- A deed of the document's device. -/
theorem Pr13.ref (h : Pr13 w0 w p a r f m d e os om vs vm fp gp S G t) (hD : Rv w' r gp' e') (hk : Kept gp w w') (hn : ∀ j ∈ gp', j ∈ gp ∨ w.heap.size ≤ j) : ∃ t', Pr13 w0 w' p a r f m d e' os om vs vm fp gp' S G t' := by
 have o : ∀ j x, t j = x → x ≠ 2 → j ∉ gp := fun j x h1 h2 hm => h2 (h1.symm.trans (h.tg j hm))
 have old : ∀ j, j < w.heap.size → (if j < w.heap.size then t j else 2) = t j := fun j hj => if_pos hj
 have hz := h.kept.size
 refine ⟨fun j => if j < w.heap.size then t j else 2, (hk.block p h.pl (o p 0 h.tp (by omega))).trans h.head, h.dv.kept hk (fun j hj => o j 1 (h.tf j hj) (by omega)), hD, h.st.kept hk (fun j hj => o j 3 (h.tS j hj) (by omega)), h.rt.kept hk (fun j hj => o j 4 (h.tG j hj) (by omega)), (old p h.pl).trans h.tp, fun j hj => (old j (h.dv.lt j hj)).trans (h.tf j hj), fun j hj => ?_, fun j hj => (old j (h.ltS j hj)).trans (h.tS j hj), fun j hj => (old j (h.ltG j hj)).trans (h.tG j hj), fun j hj => ?_, fun j hj => Nat.lt_of_lt_of_le (h.ltS j hj) hk.size, fun j hj => Nat.lt_of_lt_of_le (h.ltG j hj) hk.size, h.kept.trans' hk (fun j hj => .inr (h.low j (.inr (.inr (.inl hj)))))⟩
 ·rcases hn j hj with e1 | e1
  ·exact (old j (h.rv.lt j e1)).trans (h.tg j e1)
  ·exact if_neg (by omega)
 ·rcases hj with e1 | e1 | e1 | e1
  ·exact h.low j (.inl e1)
  ·exact h.low j (.inr (.inl e1))
  ·rcases hn j e1 with e2 | e2
   ·exact h.low j (.inr (.inr (.inl e2)))
   ·omega
  ·exact h.low j (.inr (.inr (.inr e1)))
/-- An Append of the program's strip. -/
theorem Pr13.str (h : Pr13 w0 w p a r f m d e os om vs vm fp gp S G t) (hD : Dv w' a fp' d') (hS : LgOpt w' a vs S' os') (hk : Kept (fp ++ S) w w') (hn : ∀ j ∈ fp', j ∈ fp ∨ w.heap.size ≤ j) (hm : ∀ j ∈ S', j ∈ S ∨ w.heap.size ≤ j) (hd : ∀ j ∈ S', j ∉ fp') (hl : ∀ j ∈ S', j < w'.heap.size) : ∃ t', Pr13 w0 w' p a r f m d' e os' om vs vm fp' gp S' G t' := by
 have o : ∀ j x, t j = x → x ≠ 1 → x ≠ 3 → j ∉ fp ++ S := fun j x h1 h2 h3 hm => by
  rcases List.mem_append.mp hm with hm | hm
  ·exact h2 (h1.symm.trans (h.tf j hm))
  ·exact h3 (h1.symm.trans (h.tS j hm))
 have old : ∀ j, j < w.heap.size → (if j < w.heap.size then t j else if j ∈ fp' then 1 else 3) = t j := fun j hj => if_pos hj
 have hz := h.kept.size
 refine ⟨fun j => if j < w.heap.size then t j else if j ∈ fp' then 1 else 3, (hk.block p h.pl (o p 0 h.tp (by omega) (by omega))).trans h.head, hD, h.rv.kept hk (fun j hj => o j 2 (h.tg j hj) (by omega) (by omega)), hS, h.rt.kept hk (fun j hj => o j 4 (h.tG j hj) (by omega) (by omega)), (old p h.pl).trans h.tp, fun j hj => ?_, fun j hj => (old j (h.rv.lt j hj)).trans (h.tg j hj), fun j hj => ?_, fun j hj => (old j (h.ltG j hj)).trans (h.tG j hj), fun j hj => ?_, hl, fun j hj => Nat.lt_of_lt_of_le (h.ltG j hj) hk.size, h.kept.trans' hk (fun j hj => .inr ?_)⟩
 ·rcases hn j hj with e1 | e1
  ·exact (old j (h.dv.lt j e1)).trans (h.tf j e1)
  ·exact (if_neg (by omega)).trans (if_pos hj)
 ·rcases hm j hj with e1 | e1
  ·exact (old j (h.ltS j e1)).trans (h.tS j e1)
  ·exact (if_neg (by omega)).trans (if_neg (hd j hj))
 ·rcases hj with e1 | e1 | e1 | e1 | e1
  ·exact h.low j (.inl e1)
  ·rcases hn j e1 with e2 | e2
   ·exact h.low j (.inr (.inl e2))
   ·omega
  ·exact h.low j (.inr (.inr (.inl e1)))
  ·rcases hm j e1 with e2 | e2
   ·exact h.low j (.inr (.inr (.inr (.inl e2))))
   ·omega
  ·exact h.low j (.inr (.inr (.inr (.inr e1))))
 ·rcases List.mem_append.mp hj with e1 | e1
  ·exact h.low j (.inr (.inl e1))
  ·exact h.low j (.inr (.inr (.inr (.inl e1))))
/-- An Append of the document's strip. -/
theorem Pr13.rst (h : Pr13 w0 w p a r f m d e os om vs vm fp gp S G t) (hD : Rv w' r gp' e') (hS : RgOpt w' r f.toNat vm G' om') (hk : Kept (gp ++ G) w w') (hn : ∀ j ∈ gp', j ∈ gp ∨ w.heap.size ≤ j) (hm : ∀ j ∈ G', j ∈ G ∨ w.heap.size ≤ j) (hd : ∀ j ∈ G', j ∉ gp') (hl : ∀ j ∈ G', j < w'.heap.size) : ∃ t', Pr13 w0 w' p a r f m d e' os om' vs vm fp gp' S G' t' := by
 have o : ∀ j x, t j = x → x ≠ 2 → x ≠ 4 → j ∉ gp ++ G := fun j x h1 h2 h3 hm => by
  rcases List.mem_append.mp hm with hm | hm
  ·exact h2 (h1.symm.trans (h.tg j hm))
  ·exact h3 (h1.symm.trans (h.tG j hm))
 have old : ∀ j, j < w.heap.size → (if j < w.heap.size then t j else if j ∈ gp' then 2 else 4) = t j := fun j hj => if_pos hj
 have hz := h.kept.size
 refine ⟨fun j => if j < w.heap.size then t j else if j ∈ gp' then 2 else 4, (hk.block p h.pl (o p 0 h.tp (by omega) (by omega))).trans h.head, h.dv.kept hk (fun j hj => o j 1 (h.tf j hj) (by omega) (by omega)), hD, h.st.kept hk (fun j hj => o j 3 (h.tS j hj) (by omega) (by omega)), hS, (old p h.pl).trans h.tp, fun j hj => (old j (h.dv.lt j hj)).trans (h.tf j hj), fun j hj => ?_, fun j hj => (old j (h.ltS j hj)).trans (h.tS j hj), fun j hj => ?_, fun j hj => ?_, fun j hj => Nat.lt_of_lt_of_le (h.ltS j hj) hk.size, hl, h.kept.trans' hk (fun j hj => .inr ?_)⟩
 ·rcases hn j hj with e1 | e1
  ·exact (old j (h.rv.lt j e1)).trans (h.tg j e1)
  ·exact (if_neg (by omega)).trans (if_pos hj)
 ·rcases hm j hj with e1 | e1
  ·exact (old j (h.ltG j e1)).trans (h.tG j e1)
  ·exact (if_neg (by omega)).trans (if_neg (hd j hj))
 ·rcases hj with e1 | e1 | e1 | e1 | e1
  ·exact h.low j (.inl e1)
  ·exact h.low j (.inr (.inl e1))
  ·rcases hn j e1 with e2 | e2
   ·exact h.low j (.inr (.inr (.inl e2)))
   ·omega
  ·exact h.low j (.inr (.inr (.inr (.inl e1))))
  ·rcases hm j e1 with e2 | e2
   ·exact h.low j (.inr (.inr (.inr (.inr e2))))
   ·omega
 ·rcases List.mem_append.mp hj with e1 | e1
  ·exact h.low j (.inr (.inr (.inl e1)))
  ·exact h.low j (.inr (.inr (.inr (.inr e1))))
/-- The pair's own cells are written: what it has of strips is new, or as it was. -/
theorem Pr13.put {w1 : World} (h : Pr13 w0 w p a r f m d e os om vs vm fp gp S G t) (h1 : Kept [] w w1) (hk : Kept [p] w1 w') (hh : w'.heap[p]? = some (.cells (prCells13 f m a r vs' vm' true) 72 (0, 0))) (hS : LgOpt w1 a vs' S' os') (hG : RgOpt w1 r f.toNat vm' G' om')
  (nS : ∀ j ∈ S', j ∈ S ∨ w.heap.size ≤ j) (nG : ∀ j ∈ G', j ∈ G ∨ w.heap.size ≤ j) (hd : ∀ j ∈ S', j ∉ G') (lS : ∀ j ∈ S', j < w1.heap.size) (lG : ∀ j ∈ G', j < w1.heap.size) : ∃ t', Pr13 w0 w' p a r f m d e os' om' vs' vm' fp gp S' G' t' := by
 have hpl := h.pl
 have old : ∀ j, j < w.heap.size → (if j < w.heap.size then t j else if j ∈ S' then 3 else 4) = t j := fun j hj => if_pos hj
 have hz := h.kept.size
 have hp : ∀ j x, t j = x → x ≠ 0 → j ∉ [p] := fun j x h2 h3 hm => by
  simp only [List.mem_singleton] at hm
  subst hm
  exact h3 (h2.symm.trans h.tp)
 have tS : ∀ j ∈ S', (if j < w.heap.size then t j else if j ∈ S' then 3 else 4) = 3 := fun j hj => by
  rcases nS j hj with e1 | e1
  ·exact (old j (h.ltS j e1)).trans (h.tS j e1)
  ·exact (if_neg (by omega)).trans (if_pos hj)
 have tG : ∀ j ∈ G', (if j < w.heap.size then t j else if j ∈ S' then 3 else 4) = 4 := fun j hj => by
  rcases nG j hj with e1 | e1
  ·exact (old j (h.ltG j e1)).trans (h.tG j e1)
  ·exact (if_neg (by omega)).trans (if_neg (fun hm => hd j hm hj))
 have np : ∀ j, (if j < w.heap.size then t j else if j ∈ S' then 3 else 4) ≠ 0 → j ∉ [p] := fun j h2 hm => by
  simp only [List.mem_singleton] at hm
  subst hm
  exact h2 ((old j hpl).trans h.tp)
 refine ⟨fun j => if j < w.heap.size then t j else if j ∈ S' then 3 else 4, hh, (h.dv.new_kept h1).kept hk (fun j hj => hp j 1 (h.tf j hj) (by omega)), (h.rv.new_kept h1).kept hk (fun j hj => hp j 2 (h.tg j hj) (by omega)), hS.kept hk (fun j hj => np j (by rw [tS j hj]; omega)), hG.kept hk (fun j hj => np j (by rw [tG j hj]; omega)), (old p hpl).trans h.tp, fun j hj => (old j (h.dv.lt j hj)).trans (h.tf j hj), fun j hj => (old j (h.rv.lt j hj)).trans (h.tg j hj), tS, tG, fun j hj => ?_, fun j hj => Nat.lt_of_lt_of_le (lS j hj) hk.size, fun j hj => Nat.lt_of_lt_of_le (lG j hj) hk.size, (h.kept.trans h1).trans' hk (fun j hj => by simp at hj; subst hj; exact .inr (h.low _ (.inl rfl)))⟩
 rcases hj with e1 | e1 | e1 | e1 | e1
 ·exact h.low j (.inl e1)
 ·exact h.low j (.inr (.inl e1))
 ·exact h.low j (.inr (.inr (.inl e1)))
 ·rcases nS j e1 with e2 | e2
  ·exact h.low j (.inr (.inr (.inr (.inl e2))))
  ·omega
 ·rcases nG j e1 with e2 | e2
  ·exact h.low j (.inr (.inr (.inr (.inr e2))))
  ·omega
end
/-- The program's log, whole. -/
theorem Pr13.spP {w0 w : World} {p a r : Nat} {f m : Int} {d e : Dev} {s : Sp} {om : Option Sp} {vs vm : Value} {fp gp S G : List Nat} {t : Nat → Nat} (h : Pr13 w0 w p a r f m d e (some s) om vs vm fp gp S G t) :
  ∃ y zs zt slp stp, vs = .pointer (some ⟨y, 0, none⟩) ∧ SpP w y zs zt a fp slp stp s d ∧ ∀ j, j = y ∨ j ∈ slp ∨ j ∈ stp → j ∈ S := by
 obtain ⟨y, zs, zt, slp, stp, h1, h2, h3⟩ := h.st
 have hn : ∀ j ∈ S, j ∉ fp := fun j hj hm => by have e1 := h.tS j hj; have e2 := h.tf j hm; omega
 exact ⟨y, zs, zt, slp, stp, h1, ⟨h2.head, h.dv, h2.sl, h2.st, hn y (h3 y (.inl rfl)), h2.y2, h2.y3, fun j hj => hn j (h3 j (.inr (.inl hj))), fun j hj => hn j (h3 j (.inr (.inr hj))), h2.d3⟩, h3⟩
theorem Pr13.rgP {w0 w : World} {p a r : Nat} {f m : Int} {d e : Dev} {s : Sp} {os : Option Sp} {vs vm : Value} {fp gp S G : List Nat} {t : Nat → Nat} (h : Pr13 w0 w p a r f m d e os (some s) vs vm fp gp S G t) :
  ∃ y zm zt sp B, vm = .pointer (some ⟨y, 0, none⟩) ∧ RgP w y zm zt r f.toNat gp sp s e B ∧ ∀ j, j = y ∨ j = zm ∨ j ∈ sp → j ∈ G := by
 obtain ⟨y, zm, zt, sp, B, h1, h2, h3⟩ := h.rt
 have hn : ∀ j ∈ G, j ∉ gp := fun j hj hm => by have e1 := h.tG j hj; have e2 := h.tg j hm; omega
 exact ⟨y, zm, zt, sp, B, h1, ⟨h2, h.rv, hn y (h3 y (.inl rfl)), hn zm (h3 zm (.inr (.inl rfl))), fun j hj => hn j (h3 j (.inr (.inr hj)))⟩, h3⟩
/-- A deed of the program's log. -/
theorem Pr13.log {w0 w w' : World} {p a r : Nat} {f m : Int} {d d' e : Dev} {os : Option Sp} {s' : Sp} {om : Option Sp} {y zs' zt' : Nat} {vm : Value} {fp gp S G fp' slp stp slp' stp' : List Nat} {t : Nat → Nat} (h : Pr13 w0 w p a r f m d e os om (.pointer (some ⟨y, 0, none⟩)) vm fp gp S G t)
  (hS : ∀ j, j = y ∨ j ∈ slp ∨ j ∈ stp → j ∈ S) (hP : SpP w' y zs' zt' a fp' slp' stp' s' d') (hs : SpS w w' y fp slp stp fp' slp' stp') :
  ∃ t', Pr13 w0 w' p a r f m d' e (some s') om (.pointer (some ⟨y, 0, none⟩)) vm fp' gp (y :: (slp' ++ stp')) G t' :=
 h.str hP.dv ⟨y, zs', zt', slp', stp', rfl, hP.toQ, fun j hj => by simpa using hj⟩ (hs.kept.mono (fun i hi => .inl (by
  simp only [List.mem_cons, List.mem_append] at hi ⊢
  rcases hi with e | (e | e) | e
  ·exact .inr (hS i (.inl e))
  ·exact .inl e
  ·exact .inr (hS i (.inr (.inl e)))
  ·exact .inr (hS i (.inr (.inr e)))))) hs.f (fun j hj => by
  simp only [List.mem_cons, List.mem_append] at hj
  rcases hj with e | e | e
  ·exact .inl (hS j (.inl e))
  ·rcases hs.l j e with g | g
   ·exact .inl (hS j (.inr (.inl g)))
   ·exact .inr g
  ·rcases hs.t j e with g | g
   ·exact .inl (hS j (.inr (.inr g)))
   ·exact .inr g) (fun j hj hm => by
  simp only [List.mem_cons, List.mem_append] at hj
  rcases hj with e | e | e
  ·exact hP.y1 (e ▸ hm)
  ·exact hP.d1 j e hm
  ·exact hP.d2 j e hm) (fun j hj => by
  simp only [List.mem_cons, List.mem_append] at hj
  rcases hj with e | e | e
  ·exact e ▸ hP.yl
  ·exact hP.sl.lt j e
  ·exact hP.st.lt j e)
/-- A deed of the document's log. -/
theorem Pr13.rlog {w0 w w' : World} {p a r : Nat} {f m : Int} {d e e' : Dev} {os om : Option Sp} {s' : Sp} {y zm zt' : Nat} {vs : Value} {fp gp S G gp' sp sp' : List Nat} {B' : List UInt8} {t : Nat → Nat} (h : Pr13 w0 w p a r f m d e os om vs (.pointer (some ⟨y, 0, none⟩)) fp gp S G t)
  (hS : ∀ j, j = y ∨ j = zm ∨ j ∈ sp → j ∈ G) (hP : RgP w' y zm zt' r f.toNat gp' sp' s' e' B') (hs : RgS w w' y zm gp sp gp' sp') :
  ∃ t', Pr13 w0 w' p a r f m d e' os (some s') vs (.pointer (some ⟨y, 0, none⟩)) fp gp' S (y :: zm :: sp') t' :=
 h.rst hP.dv ⟨y, zm, zt', sp', B', rfl, hP.q, fun j hj => by simpa using hj⟩ (hs.kept.mono (fun i hi => .inl (by
  simp only [List.mem_cons, List.mem_append] at hi ⊢
  rcases hi with e | e | e | e
  ·exact .inr (hS i (.inl e))
  ·exact .inr (hS i (.inr (.inl e)))
  ·exact .inl e
  ·exact .inr (hS i (.inr (.inr e)))))) hs.g (fun j hj => by
  simp only [List.mem_cons] at hj
  rcases hj with e | e | e
  ·exact .inl (hS j (.inl e))
  ·exact .inl (hS j (.inr (.inl e)))
  ·rcases hs.t j e with g | g
   ·exact .inl (hS j (.inr (.inr g)))
   ·exact .inr g) (fun j hj hm => by
  simp only [List.mem_cons] at hj
  rcases hj with e | e | e
  ·exact hP.y1 (e ▸ hm)
  ·exact hP.z1 (e ▸ hm)
  ·exact hP.d2 j e hm) (fun j hj => by
  simp only [List.mem_cons] at hj
  rcases hj with e | e | e
  ·exact e ▸ hP.q.yl
  ·exact e ▸ hP.q.zl
  ·exact hP.q.st.lt j e)
end Go.Proofs.YtbnflbkaogpnbaaGreat
