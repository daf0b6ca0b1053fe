/- SectorFails: the walk. -/
import Derived.Test.YtbnflbkaogpnbaaC1
import Derived.Deep.RegionHeld3
namespace Go.Proofs.Ytbnflbkaogpnbaa
open Go.RowKit

def FlRel (w : World) (a m n : Nat) (i : Value) (wr : World) : Prop :=
  ∃ k d fp, k ≤ n ∧ k ≤ 50 ∧ i = .int .i64 (k : Nat) ∧ FInv m k d ∧ Dn w a d fp wr

set_option maxHeartbeats 4000000 in
set_option maxRecDepth 100000 in
theorem sectorFails_walk (w : World) (A : Option Addr) (n c : Nat) (l : List DeedR) (hl : DeedsAt w A n c l) (tr : Int) (htr : I64 tr) :
    Calls Try.prog 6 #[.slice A n c, .int .i64 tr] w (TruePost w) := by
  have hnc := hl.le; have hcm := hl.max
  unfold maxLen at hcm
  unfold I64 at htr
  obtain ⟨m, hm⟩ : ∃ m : Nat, tr % 40 = m := ⟨_, (Int.toNat_of_nonneg (Int.emod_nonneg _ (by omega))).symm⟩
  have hm40 : m < 40 := by have := Int.emod_lt_of_pos tr (show (0 : Int) < 40 by omega); omega
  go_enter Try.func6, Try.ntmps6
  go_wp2_with fail
  refine (new_any 6 _ (by omega) (by omega)).mono ?_
  rintro e w1 ⟨a, f1, rfl, hD1, hA1, hN1⟩
  have hst : Dn w a (Dev.new 6) f1 w1 := ⟨hD1, hN1, hA1⟩
  clear hD1 hA1 hN1
  have ct := bring_any tr 40 w1 (by omega) (by omega) htr.1 htr.2
  rw [hm] at ct
  clear hm
  go_wp2_with fail
  refine ct.mono ?_
  clear ct
  rintro e w' ⟨rfl, rfl⟩
  obtain ⟨d1, hd1, hR⟩ := FInv.start m
  have cr := fail_dv hst.dv m (by omega) (by omega) none 0 0 [] (SlAt.nil _) (by omega) (by simp)
  rw [hd1] at cr
  go_wp2_with fail
  refine cr.mono ?_
  clear cr hd1
  rintro e w2 ⟨rfl, f2, hD2, hk2, hn2⟩
  replace hst := hst.step hD2 hk2 hn2
  clear hD2 hk2 hn2 w1 f1
  go_wp2_with fail
  go_loopw [8] (fun i wr => FlRel w a m n i wr) (fun i _ => n - (intOf i).toNat)
  case atStart => exact ⟨0, _, _, Nat.zero_le _, by omega, rfl, hR, hst⟩
  case round =>
    clear hst hR
    obtain ⟨k, d, fp, hkn, hk5, rfl, hR, hK⟩ := hrel
    by_cases hin : k < n ∧ k < 50
    · obtain ⟨hlt, h50⟩ := hin
      obtain ⟨b, o, dk, hAe, hbl, hdk, hok, g0, g1, g2, g3, g4⟩ := hl.at_ hlt
      subst hAe
      have i1 : (k : Int) < (n : Int) := by omega
      have i2 : (k : Int) < 50 := by omega
      have ha := hok.a; have hb := hok.b; have hkd := hok.kind
      unfold I64 at ha hb hkd
      clear g3 g4 hok hdk
      have ck := bring_any dk.kind 4 wr (by omega) (by omega) hkd.1 hkd.2
      have g0r := cell_kept hK.kept hbl g0
      have hwk := hR.works
      have hmk := hR.le
      go_wp2_with fail
      by_cases hk0 : dk.kind % 4 = 0
      · rw [hk0] at ck
        refine ck.mono ?_
        clear ck hk0 g0r
        rintro e w' ⟨rfl, rfl⟩
        obtain ⟨d', hd', hE, hR'⟩ := hR.flush
        have cf := flush_dv hK.dv (by omega)
        rw [hd'] at cf
        by_cases hkm : k = m
        · rw [if_pos hkm] at cf
          go_wp2_with fail
          refine cf.mono ?_
          clear cf hd'
          rintro e w2 ⟨rfl, f2, hD2, hk2, hn2⟩
          have hK2 := hK.step hD2 hk2 hn2
          have hE := hE hkm
          have i3 : (k : Int) = (m : Int) := by omega
          clear hD2 hk2 hn2 hK hR' hR hkm
          go_wp2_with fail
          have c1 := dead_dv hK2.dv
          rw [hE.dead] at c1
          refine c1.mono ?_
          clear c1
          rintro e w' ⟨rfl, rfl⟩
          have c1 := works_dv hK2.dv
          rw [hE.works] at c1
          go_wp2_with fail
          refine c1.mono ?_
          clear c1
          rintro e w' ⟨rfl, rfl⟩
          have c1 := boot_dv hK2.dv
          go_wp2_with fail
          refine c1.mono ?_
          clear c1
          rintro e w7 ⟨rfl, f7, hD7, hk7, hn7⟩
          have hK7 := hK2.step hD7 hk7 hn7
          obtain ⟨d8, hd8⟩ := hE.flush
          have c1 := flush_dv hK7.dv (by show d'.works < _; rw [hE.works]; omega)
          rw [hd8] at c1
          clear hK2 hD7 hk7 hn7 hE
          go_wp2_with fail
          refine c1.mono ?_
          clear c1 hd8
          rintro e w8 ⟨rfl, f8, hD8, hk8, hn8⟩
          have hK8 := hK7.step hD8 hk8 hn8
          clear hD8 hk8 hn8 hK7
          go_wp2_with fail
          refine (awake10_any _).mono ?_
          rintro e w4 ⟨rfl, hk4⟩
          go_wp2_with fail
          go_ret
          exact ⟨rfl, hK8.kept.trans hk4⟩
        · rw [if_neg hkm] at cf
          go_wp2_with fail
          refine cf.mono ?_
          clear cf hd'
          rintro e w2 ⟨rfl, f2, hD2, hk2, hn2⟩
          have hK2 := hK.step hD2 hk2 hn2
          have hR2 := hR' hkm
          have i3 : ¬ (k : Int) = (m : Int) := by omega
          clear hD2 hk2 hn2 hK hR' hE hR hkm
          go_wp2_with fail
          go_roundw
          case rel => exact ⟨k + 1, _, _, by omega, by omega, by go_num, hR2, hK2⟩
          case measure => simp [intOf]; omega
      · have hk1 : (dk.kind % 4 == 0) = false := by simpa using hk0
        refine ck.mono ?_
        clear ck hk0
        rintro e w' ⟨rfl, rfl⟩
        obtain ⟨q, hq⟩ : ∃ q : Nat, dk.a % 6 = q := ⟨_, (Int.toNat_of_nonneg (Int.emod_nonneg _ (by omega))).symm⟩
        have hq6 : q < 6 := by have := Int.emod_lt_of_pos dk.a (show (0 : Int) < 6 by omega); omega
        have ca := fun W => bring_any dk.a 6 W (by omega) (by omega) ha.1 ha.2
        rw [hq] at ca
        clear hq
        obtain ⟨d', hd', hE, hR'⟩ := hR.write hq6 (length_fullB (byteOf dk.b))
        have g1r := cell_kept hK.kept hbl g1
        have g2r := cell_kept hK.kept hbl g2
        have hKd := hK.kept' (Kept.drew [] wr)
        by_cases hkm : k = m
        · rw [if_pos hkm] at hd'
          have hE := hE hkm
          have HKM := Lib.hid hkm
          clear hkm
          go_wp2_with fail
          go_region_held3 (fun W => W.cell? ⟨b, o + k * 5 + 1, none⟩ = some (.int .i64 dk.a) ∧ W.cell? ⟨b, o + k * 5 + 2, none⟩ = some (.int .i64 dk.b)) (first | exact ⟨cell_kept hKd.kept hbl g1, cell_kept hKd.kept hbl g2⟩ | exact ⟨g14, g24⟩ | exact ⟨g15, g25⟩)
            (first
              | (go_at_call 22; refine (ca _).mono ?_; rintro e w' ⟨rfl, rfl⟩)
              | (go_at_call 25
                 refine (full_std dk.b (byteOf dk.b) rfl _).mono ?_
                 rintro e w4 ⟨A4, c4, rfl, hown4, hbel4⟩
                 obtain ⟨hs4, hA4⟩ := ClonePost.sl hown4
                 have hO4 := fun p hp => hKd.dv.old (hA4 p hp)
                 have hK4 := hKd.kept' (Kept.of_below (F := []) hbel4)
                 have g14 := cell_kept hK4.kept hbl g1
                 have g24 := cell_kept hK4.kept hbl g2
                 clear hown4 hbel4 hA4)
              | (go_at_call 24
                 refine (write_dv hK4.dv q (fullB (byteOf dk.b)) A4 128 c4 hs4 hO4 (by omega)).mono ?_
                 rw [hd']
                 rintro e w5 ⟨rfl, f5, hD5, hk5', hn5⟩
                 have hK2 := hK4.step hD5 hk5' hn5
                 have g15 := cell_kept hK2.kept hbl g1
                 have g25 := cell_kept hK2.kept hbl g2
                 clear hK4 hD5 hk5' hn5 hs4 hO4))
          clear g1r g2r
          have i3 : (k : Int) = (m : Int) := by have := HKM.out; omega
          clear hKd hK hR' hR HKM hd'
          go_wp2_with fail
          have c1 := dead_dv hK2.dv
          rw [hE.dead] at c1
          refine c1.mono ?_
          clear c1
          rintro e w' ⟨rfl, rfl⟩
          have c1 := works_dv hK2.dv
          rw [hE.works] at c1
          go_wp2_with fail
          refine c1.mono ?_
          clear c1
          rintro e w' ⟨rfl, rfl⟩
          have c1 := boot_dv hK2.dv
          go_wp2_with fail
          refine c1.mono ?_
          clear c1
          rintro e w7 ⟨rfl, f7, hD7, hk7, hn7⟩
          have hK7 := hK2.step hD7 hk7 hn7
          obtain ⟨d8, hd8⟩ := hE.flush
          have c1 := flush_dv hK7.dv (by show d'.works < _; rw [hE.works]; omega)
          rw [hd8] at c1
          clear hK2 hD7 hk7 hn7 hE
          go_wp2_with fail
          refine c1.mono ?_
          clear c1 hd8
          rintro e w8 ⟨rfl, f8, hD8, hk8, hn8⟩
          have hK8 := hK7.step hD8 hk8 hn8
          clear hD8 hk8 hn8 hK7
          go_wp2_with fail
          refine (awake10_any _).mono ?_
          rintro e w4 ⟨rfl, hk4⟩
          go_wp2_with fail
          go_ret
          exact ⟨rfl, hK8.kept.trans hk4⟩
        · rw [if_neg hkm] at hd'
          go_wp2_with fail
          go_region_held3 (fun W => W.cell? ⟨b, o + k * 5 + 1, none⟩ = some (.int .i64 dk.a) ∧ W.cell? ⟨b, o + k * 5 + 2, none⟩ = some (.int .i64 dk.b)) (first | exact ⟨cell_kept hKd.kept hbl g1, cell_kept hKd.kept hbl g2⟩ | exact ⟨g14, g24⟩ | exact ⟨g15, g25⟩)
            (first
              | (go_at_call 22; refine (ca _).mono ?_; rintro e w' ⟨rfl, rfl⟩)
              | (go_at_call 25
                 refine (full_std dk.b (byteOf dk.b) rfl _).mono ?_
                 rintro e w4 ⟨A4, c4, rfl, hown4, hbel4⟩
                 obtain ⟨hs4, hA4⟩ := ClonePost.sl hown4
                 have hO4 := fun p hp => hKd.dv.old (hA4 p hp)
                 have hK4 := hKd.kept' (Kept.of_below (F := []) hbel4)
                 have g14 := cell_kept hK4.kept hbl g1
                 have g24 := cell_kept hK4.kept hbl g2
                 clear hown4 hbel4 hA4)
              | (go_at_call 24
                 refine (write_dv hK4.dv q (fullB (byteOf dk.b)) A4 128 c4 hs4 hO4 (by omega)).mono ?_
                 rw [hd']
                 rintro e w5 ⟨rfl, f5, hD5, hk5', hn5⟩
                 have hK2 := hK4.step hD5 hk5' hn5
                 have g15 := cell_kept hK2.kept hbl g1
                 have g25 := cell_kept hK2.kept hbl g2
                 clear hK4 hD5 hk5' hn5 hs4 hO4))
          clear g1r g2r
          have hR2 := hR' hkm
          have i3 : ¬ (k : Int) = (m : Int) := by omega
          clear hKd hK hR' hE hR hkm hd'
          go_wp2_with fail
          go_roundw
          case rel => exact ⟨k + 1, _, _, by omega, by omega, by go_num, hR2, hK2⟩
          case measure => simp [intOf]; omega
    · have hend : (k : Int) = n ∨ (k : Int) < n ∧ ¬ (k : Int) < 50 := by omega
      rcases hend with i1 | ⟨i1, i2⟩
      · have i1 : ¬ (k : Int) < n := by omega
        have c1 := dead_dv hK.dv
        rw [hR.dead] at c1
        clear hin hR
        go_wp2_with fail
        refine c1.mono ?_
        clear c1
        rintro e w' ⟨rfl, rfl⟩
        go_wp2_with fail
        refine (awake10_any _).mono ?_
        rintro e w4 ⟨rfl, hk4⟩
        go_wp2_with fail
        go_ret
        exact ⟨rfl, hK.kept.trans hk4⟩
      · have c1 := dead_dv hK.dv
        rw [hR.dead] at c1
        clear hin hR
        go_wp2_with fail
        refine c1.mono ?_
        clear c1
        rintro e w' ⟨rfl, rfl⟩
        go_wp2_with fail
        refine (awake10_any _).mono ?_
        rintro e w4 ⟨rfl, hk4⟩
        go_wp2_with fail
        go_ret
        exact ⟨rfl, hK.kept.trans hk4⟩
end Go.Proofs.Ytbnflbkaogpnbaa
