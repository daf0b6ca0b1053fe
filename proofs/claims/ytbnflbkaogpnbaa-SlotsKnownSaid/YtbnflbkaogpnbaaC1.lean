/- SectorRefuses: the walk. -/
import Derived.Test.YtbnflbkaogpnbaaMD
namespace Go.Proofs.Ytbnflbkaogpnbaa
open Go.RowKit

/-- A device that is new since w. -/
structure Dn (w : World) (a : Nat) (d : Dev) (fp : List Nat) (wr : World) : Prop where
  dv : Dv wr a fp d
  new : ∀ j ∈ fp, w.heap.size ≤ j
  kept : Kept [] w wr

theorem Dn.step {w : World} {a : Nat} {d d' : Dev} {fp fp' : List Nat} {wr w2 : World} (h : Dn w a d fp wr) (hD : Dv w2 a fp' d') (hk : Kept fp wr w2) (hn : ∀ j ∈ fp', j ∈ fp ∨ wr.heap.size ≤ j) : Dn w a d' fp' w2 :=
  ⟨hD, (news h.kept h.new hk hn).2, (news h.kept h.new hk hn).1⟩

theorem Dn.kept' {w : World} {a : Nat} {d : Dev} {fp : List Nat} {wr w2 : World} (h : Dn w a d fp wr) (hk : Kept [] wr w2) : Dn w a d fp w2 :=
  ⟨h.dv.new_kept hk, h.new, h.kept.trans hk⟩

theorem cell_kept {w w' : World} (hk : Kept [] w w') {b i : Nat} (hb : b < w.heap.size) {v : Value} (h : w.cell? ⟨b, i, none⟩ = some v) : w'.cell? ⟨b, i, none⟩ = some v :=
  (hk.cell (p := ⟨b, i, none⟩) hb (by simp)).trans h

theorem eq_true (w : World) (A B : Option Addr) (n c m d : Nat) (xs : List UInt8) (hx : SlAt w A n c (u8vs xs)) (hy : SlAt w B m d (u8vs xs)) :
    Calls Try.prog 31 #[.slice A n c, .slice B m d] w (TruePost w) := by
  refine (eqBytes_u8 w A B n c m d xs xs hx hy).mono ?_
  rintro e w' ⟨he, q, rfl⟩
  rw [decide_eq_true rfl] at he
  exact ⟨he, Kept.drewN _ _ _⟩

def RfRel (w : World) (a m n : Nat) (i : Value) (wr : World) : Prop :=
  ∃ k d fp, k ≤ n ∧ k ≤ 50 ∧ i = .int .i64 (k : Nat) ∧ RInv m k d ∧ Dn w a d fp wr

set_option maxHeartbeats 4000000 in
set_option maxRecDepth 100000 in
theorem sectorRefuses_walk (w : World) (A : Option Addr) (n c : Nat) (l : List DeedR) (hl : DeedsAt w A n c l) (tr : Int) (htr : I64 tr) :
    Calls Try.prog 5 #[.slice A n c, .int .i64 tr] w (TruePost w) := by
  have hnc := hl.le; have hcm := hl.max
  unfold maxLen at hcm
  unfold I64 at htr
  obtain ⟨m, hm⟩ : ∃ m : Nat, tr % 40 = m := ⟨_, (Int.toNat_of_nonneg (Int.emod_nonneg _ (by omega))).symm⟩
  have hm40 : m < 40 := by have := Int.emod_lt_of_pos tr (show (0 : Int) < 40 by omega); omega
  go_enter Try.func5, Try.ntmps5
  go_wp2_with fail
  refine (new_any 6 _ (by omega) (by omega)).mono ?_
  rintro e w1 ⟨a, f1, rfl, hD1, hA1, hN1⟩
  have hst : Dn w a (Dev.new 6) f1 w1 := ⟨hD1, hN1, hA1⟩
  clear hD1 hA1 hN1
  have ct := bring_any tr 40 w1 (by omega) (by omega) htr.1 htr.2
  rw [hm] at ct
  clear hm
  go_wp2_with fail
  refine ct.mono ?_
  clear ct
  rintro e w' ⟨rfl, rfl⟩
  obtain ⟨d1, hd1, hR⟩ := RInv.start m
  have cr := refuse_dv hst.dv m (by omega) (by omega)
  rw [hd1] at cr
  go_wp2_with fail
  refine cr.mono ?_
  clear cr hd1
  rintro e w2 ⟨rfl, f2, hD2, hk2, hn2⟩
  replace hst := hst.step hD2 hk2 hn2
  clear hD2 hk2 hn2 w1 f1
  go_wp2_with fail
  go_loopw [8] (fun i wr => RfRel w a m n i wr) (fun i _ => n - (intOf i).toNat)
  case atStart => exact ⟨0, _, _, Nat.zero_le _, by omega, rfl, hR, hst⟩
  case round =>
    clear hst hR
    obtain ⟨k, d, fp, hkn, hk5, rfl, hR, hK⟩ := hrel
    by_cases hlt : k < n
    · by_cases h50 : k < 50
      · obtain ⟨b, o, dk, hAe, hbl, hdk, hok, g0, g1, g2, g3, g4⟩ := hl.at_ hlt
        subst hAe
        have i1 : (k : Int) < (n : Int) := by omega
        have i2 : (k : Int) < 50 := by omega
        have ha := hok.a; have hb := hok.b
        unfold I64 at ha hb
        clear g0 g3 g4 hok hdk
        obtain ⟨q, hq⟩ : ∃ q : Nat, dk.a % 6 = q := ⟨_, (Int.toNat_of_nonneg (Int.emod_nonneg _ (by omega))).symm⟩
        have hq6 : q < 6 := by have := Int.emod_lt_of_pos dk.a (show (0 : Int) < 6 by omega); omega
        have ca := bring_any dk.a 6 wr (by omega) (by omega) ha.1 ha.2
        rw [hq] at ca
        clear hq
        have g1r := cell_kept hK.kept hbl g1
        go_wp2_with fail
        refine ca.mono ?_
        clear ca g1r
        rintro e w' ⟨rfl, rfl⟩
        -- what was there before
        obtain ⟨bb, hbb⟩ : ∃ bb, d.secs[q]? = some bb := ⟨_, List.getElem?_eq_getElem (by rw [hR.len]; exact hq6)⟩
        have c1 := read_dv hK.dv (q : Int) (at_zero6 hR.len hR.dead hq6) hbb
        go_wp2_with fail
        refine c1.mono ?_
        clear c1
        rintro e w3 ⟨A3, c3, rfl, hown3, hbel3⟩
        obtain ⟨hs3, hA3⟩ := ClonePost.sl hown3
        have hO3 := fun p hp => hK.dv.old (hA3 p hp)
        have hK3 := hK.kept' (Kept.of_below (F := []) hbel3)
        have g2r := cell_kept hK3.kept hbl g2
        clear hown3 hbel3 hA3
        go_wp2_with fail
        refine (full_std dk.b (byteOf dk.b) rfl _).mono ?_
        rintro e w4 ⟨A4, c4, rfl, hown4, hbel4⟩
        obtain ⟨hs4, hA4⟩ := ClonePost.sl hown4
        have hO4 := fun p hp => hK3.dv.old (hA4 p hp)
        have hk4 := Kept.of_below (F := []) hbel4
        have hK4 := hK3.kept' hk4
        have hs34 := hs3.kept hk4 (by simp)
        clear hown4 hbel4 hA4 g2r hs3
        by_cases hkm : k < m
        · obtain ⟨d', hd', hR', hb'⟩ := hR.inside hq6 (length_fullB (byteOf dk.b)) hkm
          have cw := write_dv hK4.dv q (fullB (byteOf dk.b)) A4 128 c4 hs4 hO4 (by have := hR.works; omega)
          rw [hd'] at cw
          go_wp2_with fail
          refine cw.mono ?_
          clear cw hd' hs4 hO4
          rintro e w5 ⟨rfl, f5, hD5, hk5', hn5⟩
          have hK5 := hK4.step hD5 hk5' hn5
          clear hs34 hO3 hK3 hK4 hD5 hk5' hn5 hK
          have c1 := read_dv hK5.dv (q : Int) (at_zero6 hR'.len hR'.dead hq6) hb'
          go_wp2_with fail
          refine c1.mono ?_
          clear c1
          rintro e w6 ⟨A6, c6, rfl, hown6, hbel6⟩
          obtain ⟨hs6, hA6⟩ := ClonePost.sl hown6
          have hK6 := hK5.kept' (Kept.of_below (F := []) hbel6)
          have g2r := cell_kept hK6.kept hbl g2
          clear hown6 hbel6 hA6 hK5
          have i3 : ¬ (m : Int) ≤ (k : Int) := by omega
          go_wp2_with fail
          refine (full_std dk.b (byteOf dk.b) rfl _).mono ?_
          rintro e w7 ⟨A7, c7, rfl, hown7, hbel7⟩
          obtain ⟨hs7, hA7⟩ := ClonePost.sl hown7
          have hk7 := Kept.of_below (F := []) hbel7
          have hK7 := hK6.kept' hk7
          have hs67 := hs6.kept hk7 (by simp)
          have ce := eq_true _ A6 A7 128 c6 128 c7 _ hs67 hs7
          clear hown7 hbel7 hA7 g2r hs6 hK6
          go_wp2_with fail
          refine ce.mono ?_
          clear ce hs67 hs7
          rintro e w8 ⟨rfl, hk8⟩
          replace hK7 := hK7.kept' hk8
          go_wp2_with fail
          go_roundw
          case rel => exact ⟨k + 1, _, _, by omega, by omega, by go_num, hR', hK7⟩
          case measure => simp [intOf]; omega
        · obtain ⟨hd', hR'⟩ := hR.outside hq6 (length_fullB (byteOf dk.b)) (by omega)
          have cw := write_dv hK4.dv q (fullB (byteOf dk.b)) A4 128 c4 hs4 hO4 (by have := hR.works; omega)
          rw [hd'] at cw
          go_wp2_with fail
          refine cw.mono ?_
          clear cw hd' hs4 hO4
          rintro e w5 ⟨rfl, f5, hD5, hk5', hn5⟩
          have hK5 := hK4.step hD5 hk5' hn5
          have hs35 := hs34.kept hk5' hO3
          clear hs34 hO3 hK3 hK4 hD5 hk5' hn5 hK
          have c1 := read_dv hK5.dv (q : Int) (at_zero6 hR'.len hR'.dead hq6) hbb
          go_wp2_with fail
          refine c1.mono ?_
          clear c1
          rintro e w6 ⟨A6, c6, rfl, hown6, hbel6⟩
          obtain ⟨hs6, hA6⟩ := ClonePost.sl hown6
          have hk6 := Kept.of_below (F := []) hbel6
          have hK6 := hK5.kept' hk6
          have hs36 := hs35.kept hk6 (by simp)
          have ce := eq_true _ A3 A6 128 c3 128 c6 _ hs36 hs6
          have i3 : (m : Int) ≤ (k : Int) := by omega
          clear hown6 hbel6 hA6 hK5 hs35 hs36 hs6
          go_wp2_with fail
          refine ce.mono ?_
          clear ce
          rintro e w8 ⟨rfl, hk8⟩
          replace hK6 := hK6.kept' hk8
          go_wp2_with fail
          go_roundw
          case rel => exact ⟨k + 1, _, _, by omega, by omega, by go_num, hR', hK6⟩
          case measure => simp [intOf]; omega
      · have i1 : (k : Int) < (n : Int) := by omega
        have i2 : ¬ (k : Int) < 50 := by omega
        obtain ⟨d3, d4, hd3, hd4, hw3, hw4⟩ := hR.ends
        have c1 := refuse_dv hK.dv (-1) (by omega) (by omega)
        rw [hd3] at c1
        go_wp2_with fail
        refine c1.mono ?_
        clear c1 hd3
        rintro e w2 ⟨rfl, f2, hD2, hk2, hn2⟩
        have hK2 := hK.step hD2 hk2 hn2
        clear hD2 hk2 hn2 hK
        have c1 := flush_dv hK2.dv (by show d3.works < _; omega)
        rw [hd4] at c1
        go_wp2_with fail
        refine c1.mono ?_
        clear c1 hd4
        rintro e w3 ⟨rfl, f3, hD3, hk3, hn3⟩
        have hK3 := hK2.step hD3 hk3 hn3
        clear hD3 hk3 hn3 hK2
        have c1 := works_dv hK3.dv
        go_wp2_with fail
        refine c1.mono ?_
        clear c1
        rintro e w' ⟨rfl, rfl⟩
        go_wp2_with fail
        refine (awake10_any _).mono ?_
        rintro e w4 ⟨rfl, hk4⟩
        go_wp2_with fail
        go_ret
        exact ⟨rfl, hK3.kept.trans hk4⟩
    · have i1 : ¬ (k : Int) < (n : Int) := by omega
      obtain ⟨d3, d4, hd3, hd4, hw3, hw4⟩ := hR.ends
      have c1 := refuse_dv hK.dv (-1) (by omega) (by omega)
      rw [hd3] at c1
      go_wp2_with fail
      refine c1.mono ?_
      clear c1 hd3
      rintro e w2 ⟨rfl, f2, hD2, hk2, hn2⟩
      have hK2 := hK.step hD2 hk2 hn2
      clear hD2 hk2 hn2 hK
      have c1 := flush_dv hK2.dv (by show d3.works < _; omega)
      rw [hd4] at c1
      go_wp2_with fail
      refine c1.mono ?_
      clear c1 hd4
      rintro e w3 ⟨rfl, f3, hD3, hk3, hn3⟩
      have hK3 := hK2.step hD3 hk3 hn3
      clear hD3 hk3 hn3 hK2
      have c1 := works_dv hK3.dv
      go_wp2_with fail
      refine c1.mono ?_
      clear c1
      rintro e w' ⟨rfl, rfl⟩
      go_wp2_with fail
      refine (awake10_any _).mono ?_
      rintro e w4 ⟨rfl, hk4⟩
      go_wp2_with fail
      go_ret
      exact ⟨rfl, hK3.kept.trans hk4⟩
end Go.Proofs.Ytbnflbkaogpnbaa
