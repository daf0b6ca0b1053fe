/- SectorAlone: the walk. -/
import Derived.Test.YtbnflbkaogpnbaaC1
namespace Go.Proofs.Ytbnflbkaogpnbaa
open Go.RowKit

/-- Two devices that are new since w; apart from sector v they agree. -/
structure TwoAt (w : World) (a x v k : Nat) (d e : Dev) (fp gp : List Nat) (wr : World) : Prop where
  one : Dn w a d fp wr
  two : Dn w x e gp wr
  apart : ∀ j ∈ fp, j ∉ gp
  inv : OInv k d
  inv2 : OInv k e
  same : ∀ i, i ≠ v → d.secs[i]? = e.secs[i]?

theorem TwoAt.kept' {w : World} {a x v k : Nat} {d e : Dev} {fp gp : List Nat} {wr w2 : World} (h : TwoAt w a x v k d e fp gp wr) (hk : Kept [] wr w2) : TwoAt w a x v k d e fp gp w2 :=
  { h with one := h.one.kept' hk, two := h.two.kept' hk }

/-- A step of the one. -/
theorem two_step {w : World} {a x : Nat} {d e d' : Dev} {fp gp fp' : List Nat} {wr w2 : World} (h1 : Dn w a d fp wr) (h2 : Dn w x e gp wr) (h3 : ∀ j ∈ fp, j ∉ gp) (hD : Dv w2 a fp' d') (hk : Kept fp wr w2) (hn : ∀ j ∈ fp', j ∈ fp ∨ wr.heap.size ≤ j) :
    Dn w a d' fp' w2 ∧ Dn w x e gp w2 ∧ ∀ j ∈ fp', j ∉ gp := by
  refine ⟨h1.step hD hk hn, ⟨h2.dv.kept hk (fun j hj hm => h3 j hm hj), h2.new, (news h1.kept h1.new hk hn).1⟩, fun j hj hg => ?_⟩
  rcases hn j hj with h | h
  · exact h3 j h hg
  · have := h2.dv.lt j hg
    omega

theorem TwoAt.first {w : World} {a x v k : Nat} {d e d' : Dev} {fp gp fp' : List Nat} {wr w2 : World} (h : TwoAt w a x v k d e fp gp wr) (hD : Dv w2 a fp' d') (hk : Kept fp wr w2) (hn : ∀ j ∈ fp', j ∈ fp ∨ wr.heap.size ≤ j) :
    Dn w a d' fp' w2 ∧ Dn w x e gp w2 ∧ ∀ j ∈ fp', j ∉ gp := two_step h.one h.two h.apart hD hk hn

def AlRel (w : World) (a x v n : Nat) (i : Value) (wr : World) : Prop :=
  ∃ k d e fp gp, k ≤ n ∧ k ≤ 50 ∧ i = .int .i64 (k : Nat) ∧ TwoAt w a x v k d e fp gp wr

def AlEnd (w : World) (a x v k : Nat) (d e : Dev) (fp gp : List Nat) (i : Value) (wr : World) : Prop :=
  ∃ q : Nat, q ≤ 6 ∧ i = .int .i64 (q : Nat) ∧ TwoAt w a x v k d e fp gp wr

theorem TwoAt.swap {w : World} {a x k : Nat} {d e : Dev} {fp gp : List Nat} {wr : World} (h1 : Dn w a d fp wr) (h2 : Dn w x e gp wr) (h3 : ∀ j ∈ fp, j ∉ gp) (i1 : OInv k d) (i2 : OInv k e) (v : Nat) (hs : ∀ i, i ≠ v → e.secs[i]? = d.secs[i]?) :
    TwoAt w x a v k e d gp fp wr := ⟨h2, h1, fun j hj hm => h3 j hm hj, i2, i1, hs⟩

set_option maxHeartbeats 4000000 in
set_option maxRecDepth 100000 in
theorem sectorAlone_walk (w : World) (A : Option Addr) (n c : Nat) (l : List DeedR) (hl : DeedsAt w A n c l) (wh : Int) (hwh : I64 wh) :
    Calls Try.prog 4 #[.slice A n c, .int .i64 wh] w (TruePost w) := by
  have hnc := hl.le; have hcm := hl.max
  unfold maxLen at hcm
  unfold I64 at hwh
  obtain ⟨v, hv⟩ : ∃ v : Nat, wh % 6 = v := ⟨_, (Int.toNat_of_nonneg (Int.emod_nonneg _ (by omega))).symm⟩
  have hv6 : v < 6 := by have := Int.emod_lt_of_pos wh (show (0 : Int) < 6 by omega); omega
  go_enter Try.func4, Try.ntmps4
  go_wp2_with fail
  refine (new_any 6 _ (by omega) (by omega)).mono ?_
  rintro e w1 ⟨a, f1, rfl, hD1, hA1, hN1⟩
  have hst : Dn w a (Dev.new 6) f1 w1 := ⟨hD1, hN1, hA1⟩
  clear hD1 hA1 hN1
  go_wp2_with fail
  refine (new_any 6 _ (by omega) (by omega)).mono ?_
  rintro e w2 ⟨x, g1, rfl, hD2, hA2, hN2⟩
  have hst2 : TwoAt w a x v 0 (Dev.new 6) (Dev.new 6) f1 g1 w2 :=
    ⟨hst.kept' hA2, ⟨hD2, fun j hj => Nat.le_trans hst.kept.size (hN2 j hj), hst.kept.trans hA2⟩, fun j hj hm => by
      have h1 := hst.dv.lt j hj
      have h2 := hN2 j hm
      omega, OInv.start, OInv.start, fun _ _ => rfl⟩
  clear hst hD2 hA2 hN2
  have ct := bring_any wh 6 w2 (by omega) (by omega) hwh.1 hwh.2
  rw [hv] at ct
  clear hv
  go_wp2_with fail
  refine ct.mono ?_
  clear ct
  rintro e w' ⟨rfl, rfl⟩
  go_wp2_with fail
  go_loopw [10] (fun i wr => AlRel w a x v n i wr) (fun i _ => n - (intOf i).toNat)
  case atStart => exact ⟨0, _, _, _, _, Nat.zero_le _, by omega, rfl, hst2⟩
  case round =>
    clear hst2
    obtain ⟨k, d, y, fp, gp, hkn, hk5, rfl, hK⟩ := hrel
    by_cases hin : k < n ∧ k < 50
    · obtain ⟨hlt, h50⟩ := hin
      obtain ⟨b, o, dk, hAe, hbl, hdk, hok, g0, g1, g2, g3, g4⟩ := hl.at_ hlt
      subst hAe
      have i1 : (k : Int) < (n : Int) := by omega
      have i2 : (k : Int) < 50 := by omega
      have ha := hok.a; have hb := hok.b; have hkd := hok.kind
      unfold I64 at ha hb hkd
      clear g3 g4 hok hdk
      obtain ⟨q, hq⟩ : ∃ q : Nat, dk.a % 6 = q := ⟨_, (Int.toNat_of_nonneg (Int.emod_nonneg _ (by omega))).symm⟩
      have hq6 : q < 6 := by have := Int.emod_lt_of_pos dk.a (show (0 : Int) < 6 by omega); omega
      have ca := bring_any dk.a 6 wr (by omega) (by omega) ha.1 ha.2
      rw [hq] at ca
      have ck := bring_any dk.kind 4 wr (by omega) (by omega) hkd.1 hkd.2
      have g0r := cell_kept hK.one.kept hbl g0
      have g1r := cell_kept hK.one.kept hbl g1
      clear hq
      go_wp2_with fail
      refine ca.mono ?_
      clear ca g1r
      rintro e w' ⟨rfl, rfl⟩
      go_wp2_with fail
      have hwk := hK.inv.works
      have hwk2 := hK.inv2.works
      by_cases hk0 : dk.kind % 4 = 0
      · rw [hk0] at ck
        refine ck.mono ?_
        clear ck hk0 g0r
        rintro e w' ⟨rfl, rfl⟩
        obtain ⟨d', hd', hI, hS⟩ := hK.inv.flush
        have cf := flush_dv hK.one.dv (by omega)
        rw [hd'] at cf
        go_wp2_with fail
        refine cf.mono ?_
        clear cf hd'
        rintro e w2 ⟨rfl, f2, hD2, hk2, hn2⟩
        obtain ⟨h1, h2, h3⟩ := hK.first hD2 hk2 hn2
        have hK2 := TwoAt.swap h1 h2 h3 hI hK.inv2.more v (fun i hi => by rw [hS]; exact (hK.same i hi).symm)
        obtain ⟨y', hd', hI', hS'⟩ := hK.inv2.flush
        have cf := flush_dv hK2.one.dv (by omega)
        rw [hd'] at cf
        clear hD2 hk2 hn2 h1 h2 h3 hK
        go_wp2_with fail
        refine cf.mono ?_
        clear cf hd'
        rintro e w3 ⟨rfl, f3, hD3, hk3, hn3⟩
        obtain ⟨h1, h2, h3⟩ := hK2.first hD3 hk3 hn3
        have hK3 := TwoAt.swap h1 h2 h3 hI' hI v (fun i hi => by rw [hS', ← hK2.same i hi])
        clear hD3 hk3 hn3 h1 h2 h3 hK2 hI hI' hS hS'
        go_wp2_with fail
        go_roundw
        case rel => exact ⟨k + 1, _, _, _, _, by omega, by omega, by go_num, hK3⟩
        case measure => simp [intOf]; omega
      · have hk1 : (dk.kind % 4 == 0) = false := by simpa using hk0
        refine ck.mono ?_
        clear ck hk0 g0r
        rintro e w' ⟨rfl, rfl⟩
        have g2r := cell_kept hK.one.kept hbl g2
        go_wp2_with fail
        refine (full_std dk.b (byteOf dk.b) rfl _).mono ?_
        rintro e w4 ⟨A4, c4, rfl, hown4, hbel4⟩
        obtain ⟨hs4, hA4⟩ := ClonePost.sl hown4
        have hO4 := fun p hp => hK.one.dv.old (hA4 p hp)
        have hK4 := hK.kept' (Kept.of_below (F := []) hbel4)
        clear hown4 hbel4 hA4 g2r
        obtain ⟨d', hd', hI, hS⟩ := hK.inv.write hq6 (length_fullB (byteOf dk.b))
        have cf := write_dv hK4.one.dv q (fullB (byteOf dk.b)) A4 128 c4 hs4 hO4 (by omega)
        rw [hd'] at cf
        go_wp2_with fail
        refine cf.mono ?_
        clear cf hd'
        rintro e w5 ⟨rfl, f5, hD5, hk5', hn5⟩
        obtain ⟨h1, h2, h3⟩ := hK4.first hD5 hk5' hn5
        by_cases hqv : q = v
        · have i3 : (q : Int) = (v : Int) := by omega
          have hK5 : TwoAt w a x v (k + 1) d' y f5 gp w5 := ⟨h1, h2, h3, hI, hK.inv2.more, fun i hi => by rw [hS, List.getElem?_set_ne (by omega)]; exact hK.same i hi⟩
          clear hqv hD5 hk5' hn5 h1 h2 h3 hK hK4 hs4 hO4 hI hS
          go_wp2_with fail
          go_roundw
          case rel => exact ⟨k + 1, _, _, _, _, by omega, by omega, by go_num, hK5⟩
          case measure => simp [intOf]; omega
        · have i3 : ¬ (q : Int) = (v : Int) := by omega
          obtain ⟨y', hy', hI2, hS2⟩ := hK.inv2.write hq6 (length_fullB (byteOf dk.b))
          have hsm : ∀ i, i ≠ v → d'.secs[i]? = y'.secs[i]? := fun i hi => by
            rw [hS, hS2]
            by_cases hiq : i = q
            · subst hiq
              rw [List.getElem?_set_self (by rw [hK.inv.len]; exact hq6), List.getElem?_set_self (by rw [hK.inv2.len]; exact hq6)]
            · rw [List.getElem?_set_ne (fun e => hiq e.symm), List.getElem?_set_ne (fun e => hiq e.symm)]
              exact hK.same i hi
          have g2r := cell_kept h1.kept hbl g2
          clear hqv hD5 hk5' hn5 hK hK4 hs4 hO4 hS hS2
          go_wp2_with fail
          refine (full_std dk.b (byteOf dk.b) rfl _).mono ?_
          rintro e w6 ⟨A6, c6, rfl, hown6, hbel6⟩
          obtain ⟨hs6, hA6⟩ := ClonePost.sl hown6
          have hO6 := fun p hp => h2.dv.old (hA6 p hp)
          replace h1 := h1.kept' (Kept.of_below (F := []) hbel6)
          replace h2 := h2.kept' (Kept.of_below (F := []) hbel6)
          clear hown6 hbel6 hA6 g2r
          have cf := write_dv h2.dv q (fullB (byteOf dk.b)) A6 128 c6 hs6 hO6 (by omega)
          rw [hy'] at cf
          go_wp2_with fail
          refine cf.mono ?_
          clear cf hy'
          rintro e w7 ⟨rfl, f7, hD7, hk7, hn7⟩
          obtain ⟨h4, h5, h6⟩ := two_step h2 h1 (fun j hj hm => h3 j hm hj) hD7 hk7 hn7
          have hK7 : TwoAt w a x v (k + 1) d' y' f5 f7 w7 := ⟨h5, h4, fun j hj hm => h6 j hm hj, hI, hI2, hsm⟩
          clear h1 h2 h3 h4 h5 h6 hD7 hk7 hn7 hs6 hO6 hI hI2 hsm
          go_wp2_with fail
          go_roundw
          case rel => exact ⟨k + 1, _, _, _, _, by omega, by omega, by go_num, hK7⟩
          case measure => simp [intOf]; omega
    · have hend : (k : Int) = n ∨ (k : Int) < n ∧ ¬ (k : Int) < 50 := by omega
      rcases hend with i1 | ⟨i1, i2⟩
      · have i1 : ¬ (k : Int) < n := by omega
        clear hin
        go_wp2_with fail
        go_loopw [12] (fun i wr => AlEnd w a x v k d y fp gp i wr) (fun i _ => 6 - (intOf i).toNat)
        case atStart => exact ⟨0, by omega, rfl, hK⟩
        case round =>
          clear hK
          obtain ⟨q, hq6, rfl, hK⟩ := hrel
          by_cases hq : q < 6
          · have hq7 : (q : Int) < 6 := by omega
            obtain ⟨bb, hbb⟩ : ∃ bb, d.secs[q]? = some bb := ⟨_, List.getElem?_eq_getElem (by rw [hK.inv.len]; exact hq)⟩
            obtain ⟨bc, hbc⟩ : ∃ bc, y.secs[q]? = some bc := ⟨_, List.getElem?_eq_getElem (by rw [hK.inv2.len]; exact hq)⟩
            have c1 := read_dv hK.one.dv (q : Int) (at_zero6 hK.inv.len hK.inv.dead hq) hbb
            go_wp2_with fail
            refine c1.mono ?_
            clear c1
            rintro e w3 ⟨A3, c3, rfl, hown3, hbel3⟩
            obtain ⟨hs3, hA3⟩ := ClonePost.sl hown3
            have hK3 := hK.kept' (Kept.of_below (F := []) hbel3)
            have c1 := read_dv hK3.two.dv (q : Int) (at_zero6 hK.inv2.len hK.inv2.dead hq) hbc
            clear hown3 hbel3 hA3 hK
            go_wp2_with fail
            refine c1.mono ?_
            clear c1
            rintro e w4 ⟨A4, c4, rfl, hown4, hbel4⟩
            obtain ⟨hs4, hA4⟩ := ClonePost.sl hown4
            have hk4 := Kept.of_below (F := []) hbel4
            have hK4 := hK3.kept' hk4
            replace hs3 := hs3.kept hk4 (by simp)
            clear hown4 hbel4 hA4 hK3 hk4
            by_cases hqv : q = v
            · have i3 : (q : Int) = (v : Int) := by omega
              clear hqv hs3 hs4 hbb hbc
              go_wp2_with fail
              go_roundw
              case rel => exact ⟨q + 1, by omega, by go_num, hK4⟩
              case measure => simp [intOf]; omega
            · have i3 : ¬ (q : Int) = (v : Int) := by omega
              obtain rfl : bb = bc := by
                have := hK4.same q hqv
                rw [hbb, hbc] at this
                exact Option.some.inj this
              have ce := eq_true _ A3 A4 128 c3 128 c4 _ hs3 hs4
              clear hqv hs3 hs4 hbb hbc
              go_wp2_with fail
              refine ce.mono ?_
              clear ce
              rintro e w8 ⟨rfl, hk8⟩
              replace hK4 := hK4.kept' hk8
              go_wp2_with fail
              go_roundw
              case rel => exact ⟨q + 1, by omega, by go_num, hK4⟩
              case measure => simp [intOf]; omega
          · obtain rfl : q = 6 := by omega
            have hq7 : ¬ ((6 : Nat) : Int) < 6 := by omega
            go_wp2_with fail
            refine (awake10_any _).mono ?_
            rintro e w4 ⟨rfl, hk4⟩
            go_wp2_with fail
            go_ret
            exact ⟨rfl, hK.one.kept.trans hk4⟩
      · clear hin
        go_wp2_with fail
        go_loopw [12] (fun i wr => AlEnd w a x v k d y fp gp i wr) (fun i _ => 6 - (intOf i).toNat)
        case atStart => exact ⟨0, by omega, rfl, hK⟩
        case round =>
          clear hK
          obtain ⟨q, hq6, rfl, hK⟩ := hrel
          by_cases hq : q < 6
          · have hq7 : (q : Int) < 6 := by omega
            obtain ⟨bb, hbb⟩ : ∃ bb, d.secs[q]? = some bb := ⟨_, List.getElem?_eq_getElem (by rw [hK.inv.len]; exact hq)⟩
            obtain ⟨bc, hbc⟩ : ∃ bc, y.secs[q]? = some bc := ⟨_, List.getElem?_eq_getElem (by rw [hK.inv2.len]; exact hq)⟩
            have c1 := read_dv hK.one.dv (q : Int) (at_zero6 hK.inv.len hK.inv.dead hq) hbb
            go_wp2_with fail
            refine c1.mono ?_
            clear c1
            rintro e w3 ⟨A3, c3, rfl, hown3, hbel3⟩
            obtain ⟨hs3, hA3⟩ := ClonePost.sl hown3
            have hK3 := hK.kept' (Kept.of_below (F := []) hbel3)
            have c1 := read_dv hK3.two.dv (q : Int) (at_zero6 hK.inv2.len hK.inv2.dead hq) hbc
            clear hown3 hbel3 hA3 hK
            go_wp2_with fail
            refine c1.mono ?_
            clear c1
            rintro e w4 ⟨A4, c4, rfl, hown4, hbel4⟩
            obtain ⟨hs4, hA4⟩ := ClonePost.sl hown4
            have hk4 := Kept.of_below (F := []) hbel4
            have hK4 := hK3.kept' hk4
            replace hs3 := hs3.kept hk4 (by simp)
            clear hown4 hbel4 hA4 hK3 hk4
            by_cases hqv : q = v
            · have i3 : (q : Int) = (v : Int) := by omega
              clear hqv hs3 hs4 hbb hbc
              go_wp2_with fail
              go_roundw
              case rel => exact ⟨q + 1, by omega, by go_num, hK4⟩
              case measure => simp [intOf]; omega
            · have i3 : ¬ (q : Int) = (v : Int) := by omega
              obtain rfl : bb = bc := by
                have := hK4.same q hqv
                rw [hbb, hbc] at this
                exact Option.some.inj this
              have ce := eq_true _ A3 A4 128 c3 128 c4 _ hs3 hs4
              clear hqv hs3 hs4 hbb hbc
              go_wp2_with fail
              refine ce.mono ?_
              clear ce
              rintro e w8 ⟨rfl, hk8⟩
              replace hK4 := hK4.kept' hk8
              go_wp2_with fail
              go_roundw
              case rel => exact ⟨q + 1, by omega, by go_num, hK4⟩
              case measure => simp [intOf]; omega
          · obtain rfl : q = 6 := by omega
            have hq7 : ¬ ((6 : Nat) : Int) < 6 := by omega
            go_wp2_with fail
            refine (awake10_any _).mono ?_
            rintro e w4 ⟨rfl, hk4⟩
            go_wp2_with fail
            go_ret
            exact ⟨rfl, hK.one.kept.trans hk4⟩
end Go.Proofs.Ytbnflbkaogpnbaa
