/- Texts in one: X3 X4 X5 X6. -/
import Derived.Test.YtbnflbkaogpnbaaGreatPAK
import Derived.IntWalk
namespace Go.Proofs.YtbnflbkaogpnbaaGreat
open Go.RowKit
/-- Sector i, where the power goes, the k-th of those that were written. -/
def RS.back (s : RS) (keep : List Int) (i k : Nat) : RS := if s.wrote i && Dev.lost keep k then { s with now := upd s.now i (s.sure i) } else s
def RS.lose (s : RS) (keep : List Int) (i k : Nat) : RS :=
 { s.back keep i k with sure := upd (s.back keep i k).sure i ((s.back keep i k).now i), wrote := upd (s.back keep i k).wrote i false }
/-- The first i sectors are done; of them k were written. -/
def RS.goneTo (s : RS) (keep : List Int) : Nat → RS × Nat
 | 0 => (s, 0)
 | i + 1 => ((s.goneTo keep i).1.lose keep i (s.goneTo keep i).2, if (s.goneTo keep i).1.wrote i then (s.goneTo keep i).2 + 1 else (s.goneTo keep i).2)
def RS.gone (s : RS) (keep : List Int) : RS := { (s.goneTo keep s.n).1 with dead := true, fail := -1, till := -1, refuses := false }
theorem RS.back_n (s : RS) (keep : List Int) (i k : Nat) : (s.back keep i k).n = s.n := by
 unfold RS.back
 split <;> rfl
theorem RS.goneTo_n (s : RS) (keep : List Int) : ∀ i, (s.goneTo keep i).1.n = s.n
 | 0 => rfl
 | i + 1 => (RS.back_n _ _ _ _).trans (RS.goneTo_n s keep i)
theorem RS.goneTo_k (s : RS) (keep : List Int) : ∀ i, (s.goneTo keep i).2 ≤ i
 | 0 => Nat.le_refl _
 | i + 1 => by
  have := RS.goneTo_k s keep i
  rw [RS.goneTo]
  simp only
  split <;> omega
theorem SlAt.through {W w4 : World} {A : Option Addr} {n c : Nat} {xs : List Value} {B : Nat} (hx : SlAt W A n c xs) (hk : Kept [] W w4) (hB : ∀ p, A = some p → 0 < n → p.block ≠ B) (a b : Nat) (u v : Value) :
  SlAt ((w4.setCell ⟨B, a, none⟩ u).setCell ⟨B, b, none⟩ v) A n c xs :=
 (((hx.kept hk (by simp)).keptP (Kept.setCell (F := [B]) (by simp) _) (fun p hp h0 => by simpa using hB p hp h0))).keptP (Kept.setCell (F := [B]) (by simp) _) (fun p hp h0 => by simpa using hB p hp h0)
theorem SlAt.through1 {W w4 : World} {A : Option Addr} {n c : Nat} {xs : List Value} {B : Nat} (hx : SlAt W A n c xs) (hk : Kept [] W w4) (hB : ∀ p, A = some p → 0 < n → p.block ≠ B) (a : Nat) (u : Value) :
  SlAt (w4.setCell ⟨B, a, none⟩ u) A n c xs :=
 ((hx.kept hk (by simp)).keptP (Kept.setCell (F := [B]) (by simp) _) (fun p hp h0 => by simpa using hB p hp h0))
def GnRel (w : World) (r B cap : Nat) (fp0 : List Nat) (s : RS) (keep : List Int) (KA : Option Addr) (kn kc : Nat) (k i : Value) (wr : World) : Prop :=
 ∃ (q : Nat) (l : List One) (fp : List Nat), q ≤ s.n ∧ SlAt wr KA kn kc (keep.map i64v) ∧ i = .int .i64 (q : Nat) ∧ k = .int .i64 ((s.goneTo keep q).2 : Nat) ∧ Rn w r B cap l fp0 fp (s.goneTo keep q).1 wr
theorem RefAt.nmax {w : World} {r B cap : Nat} {l : List One} {fp : List Nat} {s : RS} (h : RefAt w r B cap l fp s) : s.n ≤ 8192 := by rw [← h.len]; exact h.max
theorem lost_last {keep : List Int} {k : Nat} (h : keep.length ≤ k) : Dev.lost keep k = true := by simp [Dev.lost, h]
theorem lost_even {keep : List Int} {k : Nat} {z : Int} (h : keep[k]? = some z) (hz : z % 2 = 0) : Dev.lost keep k = true := by
 have hl := (List.getElem?_eq_some_iff.1 h).1
 have : z.tmod 2 = 0 := Int.tmod_eq_zero_of_dvd (Int.dvd_of_emod_eq_zero hz)
 simp [Dev.lost, h, this]
theorem lost_odd {keep : List Int} {k : Nat} {z : Int} (h : keep[k]? = some z) (hz : z % 2 ≠ 0) : Dev.lost keep k = false := by
 have hl := (List.getElem?_eq_some_iff.1 h).1
 have : ¬ z.tmod 2 = 0 := fun e => hz (Int.emod_eq_zero_of_dvd (Int.dvd_of_tmod_eq_zero e))
 simp [Dev.lost, h, this]
 omega
set_option maxHeartbeats 4000000 in
set_option maxRecDepth 100000 in
theorem refGone_any {w : World} {r B cap : Nat} {l : List One} {fp : List Nat} {s : RS} (h : RefAt w r B cap l fp s) (KA : Option Addr) (kn kc : Nat) (keep : List Int) (hx : SlAt w KA kn kc (keep.map i64v))
    (hX : ∀ p, KA = some p → 0 < kn → p.block ∈ fp → p.block ≠ r ∧ p.block ≠ B) (hki : ∀ n ∈ keep, I64 n) :
    Calls Tryz.prog 98 #[.pointer (some ⟨r, 0, none⟩), .slice KA kn kc] w (RfPost w r fp (s.gone keep) (.tuple #[])) := by
  have hn := h.nmax
  have hkc := hx.le; have hkm := hx.max; have hkl := hx.len
  simp only [List.length_map] at hkl
  have HKL := Lib.hid hkl; clear hkl
  have hXB : ∀ p, KA = some p → 0 < kn → p.block ≠ B := fun p hp h0 e => (hX p hp h0 (e ▸ h.bin)).2 e
  unfold maxLen at hkm
  go_enter Tryz.func98, Tryz.ntmps98
  go_wp2_with fail
  go_loopw [4, 5] (fun k i wr => GnRel w r B cap fp s keep KA kn kc k i wr) (fun _ i _ => s.n - (intOf i).toNat)
  case atStart => exact ⟨0, l, fp, Nat.zero_le _, hx, rfl, rfl, Rn.start h⟩
  case round =>
    obtain ⟨q, l1, f1, hq, hxr, rfl, rfl, hR⟩ := hrel
    have hgn := RS.goneTo_n s keep q
    have hgk := RS.goneTo_k s keep q
    have hstep := RS.goneTo.eq_2 s keep q
    obtain ⟨g, hg⟩ : ∃ g, s.goneTo keep q = g := ⟨_, rfl⟩
    rw [hg] at hgn hgk hstep hR ⊢
    obtain ⟨s1, k⟩ := g
    simp only at hgn hgk hR hstep ⊢
    obtain ⟨c0, _, _, _, _, _, _⟩ := hR.at_.cells
    rw [hR.at_.len, hgn] at c0
    have hle := hR.at_.row.le; have hlm := hR.at_.row.max; have hll := hR.at_.len
    rw [hll, hgn] at hle
    unfold maxLen at hlm
    clear hll
    by_cases hlt : q < s.n
    · obtain ⟨o, ho, h1⟩ := hR.at_.at_ (i := q) (by omega)
      obtain ⟨x0, x1, x2⟩ := hR.at_.row.cell ho
      have xf := hR.at_.row.frozen
      rw [h1.wr] at x2
      have i1 : (q : Int) < (s.n : Int) := by omega
      by_cases hw : s1.wrote q = true
      · rw [hw] at x2
        have hsd0 := h1.sure.kept (Kept.drew [] _) (by simp)
        have hRd0 := hR.kept' (Kept.drew [] _)
        have hkk : k < 8192 := by omega
        by_cases hkn : k < kn
        · obtain ⟨b, f, hA, hbl, hz⟩ := hxr.int_at hkn
          obtain ⟨z, hzz⟩ : ∃ z, keep[k]? = some z := ⟨_, List.getElem?_eq_getElem (by rw [HKL.out]; exact hkn)⟩
          rw [hzz] at hz
          subst hA
          have i2 : (k : Int) < (kn : Int) := by omega
          have hz64 := hki z (List.mem_of_getElem? hzz)
          unfold I64 at hz64
          have cb := bring_any z 2 wr (by omega) (by omega) hz64.1 hz64.2
          go_wp2_with fail
          by_cases hz2 : z % 2 = 0
          · have hbk : s1.back keep q k = { s1 with now := upd s1.now q (s1.sure q) } := by unfold RS.back; rw [hw, lost_even hzz hz2]; rfl
            rw [hz2] at cb
            rw [hw] at hstep
            have HZ2 := Lib.hid hz2
            clear hz2 hw
            refine cb.mono ?_
            clear cb hz
            rintro e w' ⟨rfl, rfl⟩
            go_wp2_with fail
            go_region_held3 (fun W => W.cell? ⟨r, 0, none⟩ = some (.slice (some ⟨B, 0, none⟩) s.n cap) ∧ W.cell? ⟨B, q * 3 + 1, none⟩ = some (.slice o.sA 128 o.sc)) (first | exact ⟨c0, x1⟩ | exact ⟨e0, e2⟩ | exact ⟨f0', z1⟩)
              (first
                | (go_at_call 57
                   refine (copyBytes_any _ _ _ _ _ hsd0 (by omega)).mono ?_
                   rintro e w4 ⟨A4, c4, rfl, hown4, hbel4⟩
                   have hx5 := fun u => (hxr.kept (Kept.drew [] _) (by simp)).through1 (Kept.of_below (F := []) hbel4) hXB (q * 3) u
                   obtain ⟨hs4, hA4⟩ := ClonePost.sl hown4
                   have hR4 := hRd0.kept' (Kept.of_below (F := []) hbel4)
                   obtain ⟨e1, e2, e3⟩ := hR4.at_.row.cell ho
                   have ef := hR4.at_.row.frozen
                   obtain ⟨e0, _, _, _, _, _, _⟩ := hR4.at_.cells
                   rw [hR4.at_.len, hgn] at e0
                   have hR5 := hR4.putNow hs4 (fun p hp => ⟨Nat.le_trans hRd0.kept.size (hA4 p hp), fun hm => by have h1 := hRd0.at_.lt _ hm; have h2 := hA4 p hp; omega⟩) ho
                   obtain ⟨z0, z1, z2⟩ := hR5.at_.row.cell (i := q) (List.getElem?_set_self (List.getElem?_eq_some_iff.1 ho).1)
                   obtain ⟨f0, _, _, _, _, _, _⟩ := hR5.at_.cells
                   rw [hR5.at_.len] at f0
                   have f0' : (w4.setCell ⟨B, q * 3, none⟩ (.slice A4 128 c4)).cell? ⟨r, 0, none⟩ = some (.slice (some ⟨B, 0, none⟩) s.n cap) := by rw [f0]; show some (Value.slice _ s1.n cap) = _; rw [hgn]
                   clear f0 hown4 hbel4 hA4 hs4))
            have hx9 := hx5 (.slice A4 128 c4)
            clear hR4 hRd0 e0 e1 e2 e3 ef z0 z1 z2 f0' hsd0 hx5 c0 x0 x1 x2 xf
            go_wp2_with fail
            have hR1 := hR5
            rw [← hbk] at hR1
            clear hbk
            obtain ⟨o1, ho1, h11⟩ := hR1.at_.at_ (i := q) (by rw [RS.back_n]; omega)
            obtain ⟨y0, y1, y2⟩ := hR1.at_.row.cell ho1
            have yf := hR1.at_.row.frozen
            obtain ⟨d0, _, _, _, _, _, _⟩ := hR1.at_.cells
            rw [hR1.at_.len, RS.back_n, hgn] at d0
            have hRd := hR1.kept' (Kept.drew [] _)
            have hsd := h11.now.kept (Kept.drew [] _) (by simp)
            clear y1 y2
            go_wp2_with fail
            go_region_held3 (fun W => W.cell? ⟨r, 0, none⟩ = some (.slice (some ⟨B, 0, none⟩) s.n cap) ∧ W.cell? ⟨B, q * 3, none⟩ = some (.slice o1.nA 128 o1.nc)) (first | exact ⟨d0, y0⟩ | exact ⟨e0, e1⟩ | exact ⟨f0', z0⟩)
              (first
                | (go_at_call 57
                   refine (copyBytes_any _ _ _ _ _ hsd (by omega)).mono ?_
                   rintro e w4 ⟨A4, c4, rfl, hown4, hbel4⟩
                   have hx6 := fun u v => (hx9.kept (Kept.drew [] _) (by simp)).through (Kept.of_below (F := []) hbel4) hXB (q * 3 + 1) (q * 3 + 2) u v
                   obtain ⟨hs4, hA4⟩ := ClonePost.sl hown4
                   have hR4 := hRd.kept' (Kept.of_below (F := []) hbel4)
                   obtain ⟨e1, e2, e3⟩ := hR4.at_.row.cell ho1
                   have ef := hR4.at_.row.frozen
                   obtain ⟨e0, _, _, _, _, _, _⟩ := hR4.at_.cells
                   rw [hR4.at_.len, RS.back_n, hgn] at e0
                   have hR5 := hR4.putSure hs4 (fun p hp => ⟨Nat.le_trans hRd.kept.size (hA4 p hp), fun hm => by have h1 := hRd.at_.lt _ hm; have h2 := hA4 p hp; omega⟩) ho1
                   obtain ⟨z0, z1, z2⟩ := hR5.at_.row.cell (i := q) (List.getElem?_set_self (List.getElem?_eq_some_iff.1 ho1).1)
                   obtain ⟨f0, _, _, _, _, _, _⟩ := hR5.at_.cells
                   rw [hR5.at_.len] at f0
                   have f0' : (w4.setCell ⟨B, q * 3 + 1, none⟩ (.slice A4 128 c4)).cell? ⟨r, 0, none⟩ = some (.slice (some ⟨B, 0, none⟩) s.n cap) := by rw [f0]; show some (Value.slice _ (s1.back keep q k).n cap) = _; rw [RS.back_n, hgn]
                   clear f0 hown4 hbel4 hA4 hs4))
            have ho2 := List.getElem?_set_self (a := ({ o1 with sA := A4, sc := c4 } : One)) (List.getElem?_eq_some_iff.1 ho1).1
            have zf := hR5.at_.row.frozen
            have hR6 := hR5.putWrote false ho2
            clear hR4 hR5 hRd hR1 d0 y0 e0 e1 e2 e3 ef yf z0 z1 hsd h11 ho1 ho2
            go_wp2_with fail
            go_roundw
            case rel => exact ⟨q + 1, _, _, by omega, hx6 _ _, by go_num, by rw [hstep]; simp only [if_true]; go_num, by rw [hstep]; exact hR6⟩
            case measure => simp [intOf]; omega
          · have hbk : s1.back keep q k = s1 := by unfold RS.back; rw [hw, lost_odd hzz hz2]; rfl
            have hz3 : (z % 2 == 0) = false := by simpa using hz2
            rw [hw] at hstep
            clear hz2 hw
            refine cb.mono ?_
            clear cb hz
            rintro e w' ⟨rfl, rfl⟩
            go_wp2_with fail
            clear hz3
            have hR1 : Rn w r B cap l1 fp f1 (s1.back keep q k) wr := by rw [hbk]; exact hR
            clear hbk
            obtain ⟨o1, ho1, h11⟩ := hR1.at_.at_ (i := q) (by rw [RS.back_n]; omega)
            obtain ⟨y0, y1, y2⟩ := hR1.at_.row.cell ho1
            have yf := hR1.at_.row.frozen
            obtain ⟨d0, _, _, _, _, _, _⟩ := hR1.at_.cells
            rw [hR1.at_.len, RS.back_n, hgn] at d0
            have hRd := hR1.kept' (Kept.drew [] _)
            have hsd := h11.now.kept (Kept.drew [] _) (by simp)
            clear y1 y2
            go_wp2_with fail
            go_region_held3 (fun W => W.cell? ⟨r, 0, none⟩ = some (.slice (some ⟨B, 0, none⟩) s.n cap) ∧ W.cell? ⟨B, q * 3, none⟩ = some (.slice o1.nA 128 o1.nc)) (first | exact ⟨d0, y0⟩ | exact ⟨e0, e1⟩ | exact ⟨f0', z0⟩)
              (first
                | (go_at_call 57
                   refine (copyBytes_any _ _ _ _ _ hsd (by omega)).mono ?_
                   rintro e w4 ⟨A4, c4, rfl, hown4, hbel4⟩
                   have hx6 := fun u v => (hxr.kept (Kept.drew [] _) (by simp)).through (Kept.of_below (F := []) hbel4) hXB (q * 3 + 1) (q * 3 + 2) u v
                   obtain ⟨hs4, hA4⟩ := ClonePost.sl hown4
                   have hR4 := hRd.kept' (Kept.of_below (F := []) hbel4)
                   obtain ⟨e1, e2, e3⟩ := hR4.at_.row.cell ho1
                   have ef := hR4.at_.row.frozen
                   obtain ⟨e0, _, _, _, _, _, _⟩ := hR4.at_.cells
                   rw [hR4.at_.len, RS.back_n, hgn] at e0
                   have hR5 := hR4.putSure hs4 (fun p hp => ⟨Nat.le_trans hRd.kept.size (hA4 p hp), fun hm => by have h1 := hRd.at_.lt _ hm; have h2 := hA4 p hp; omega⟩) ho1
                   obtain ⟨z0, z1, z2⟩ := hR5.at_.row.cell (i := q) (List.getElem?_set_self (List.getElem?_eq_some_iff.1 ho1).1)
                   obtain ⟨f0, _, _, _, _, _, _⟩ := hR5.at_.cells
                   rw [hR5.at_.len] at f0
                   have f0' : (w4.setCell ⟨B, q * 3 + 1, none⟩ (.slice A4 128 c4)).cell? ⟨r, 0, none⟩ = some (.slice (some ⟨B, 0, none⟩) s.n cap) := by rw [f0]; show some (Value.slice _ (s1.back keep q k).n cap) = _; rw [RS.back_n, hgn]
                   clear f0 hown4 hbel4 hA4 hs4))
            have ho2 := List.getElem?_set_self (a := ({ o1 with sA := A4, sc := c4 } : One)) (List.getElem?_eq_some_iff.1 ho1).1
            have zf := hR5.at_.row.frozen
            have hR6 := hR5.putWrote false ho2
            clear hR4 hR5 hRd hR1 d0 y0 e0 e1 e2 e3 ef yf z0 z1 hsd h11 ho1 ho2
            go_wp2_with fail
            go_roundw
            case rel => exact ⟨q + 1, _, _, by omega, hx6 _ _, by go_num, by rw [hstep]; simp only [if_true]; go_num, by rw [hstep]; exact hR6⟩
            case measure => simp [intOf]; omega
        · have i2 : ¬ (k : Int) < (kn : Int) := by omega
          have hbk : s1.back keep q k = { s1 with now := upd s1.now q (s1.sure q) } := by unfold RS.back; rw [hw, lost_last (by rw [HKL.out]; omega)]; rfl
          have cb := bring_any 0 2 wr (by omega) (by omega) (by omega) (by omega)
          rw [hw] at hstep
          clear hw
          go_wp2_with fail
          refine cb.mono ?_
          clear cb
          rintro e w' ⟨rfl, rfl⟩
          go_wp2_with fail
          go_region_held3 (fun W => W.cell? ⟨r, 0, none⟩ = some (.slice (some ⟨B, 0, none⟩) s.n cap) ∧ W.cell? ⟨B, q * 3 + 1, none⟩ = some (.slice o.sA 128 o.sc)) (first | exact ⟨c0, x1⟩ | exact ⟨e0, e2⟩ | exact ⟨f0', z1⟩)
            (first
              | (go_at_call 57
                 refine (copyBytes_any _ _ _ _ _ hsd0 (by omega)).mono ?_
                 rintro e w4 ⟨A4, c4, rfl, hown4, hbel4⟩
                 have hx5 := fun u => (hxr.kept (Kept.drew [] _) (by simp)).through1 (Kept.of_below (F := []) hbel4) hXB (q * 3) u
                 obtain ⟨hs4, hA4⟩ := ClonePost.sl hown4
                 have hR4 := hRd0.kept' (Kept.of_below (F := []) hbel4)
                 obtain ⟨e1, e2, e3⟩ := hR4.at_.row.cell ho
                 have ef := hR4.at_.row.frozen
                 obtain ⟨e0, _, _, _, _, _, _⟩ := hR4.at_.cells
                 rw [hR4.at_.len, hgn] at e0
                 have hR5 := hR4.putNow hs4 (fun p hp => ⟨Nat.le_trans hRd0.kept.size (hA4 p hp), fun hm => by have h1 := hRd0.at_.lt _ hm; have h2 := hA4 p hp; omega⟩) ho
                 obtain ⟨z0, z1, z2⟩ := hR5.at_.row.cell (i := q) (List.getElem?_set_self (List.getElem?_eq_some_iff.1 ho).1)
                 obtain ⟨f0, _, _, _, _, _, _⟩ := hR5.at_.cells
                 rw [hR5.at_.len] at f0
                 have f0' : (w4.setCell ⟨B, q * 3, none⟩ (.slice A4 128 c4)).cell? ⟨r, 0, none⟩ = some (.slice (some ⟨B, 0, none⟩) s.n cap) := by rw [f0]; show some (Value.slice _ s1.n cap) = _; rw [hgn]
                 clear f0 hown4 hbel4 hA4 hs4))
          have hx9 := hx5 (.slice A4 128 c4)
          clear hR4 hRd0 e0 e1 e2 e3 ef z0 z1 z2 f0' hsd0 hx5 c0 x0 x1 x2 xf
          go_wp2_with fail
          have hR1 := hR5
          rw [← hbk] at hR1
          clear hbk
          obtain ⟨o1, ho1, h11⟩ := hR1.at_.at_ (i := q) (by rw [RS.back_n]; omega)
          obtain ⟨y0, y1, y2⟩ := hR1.at_.row.cell ho1
          have yf := hR1.at_.row.frozen
          obtain ⟨d0, _, _, _, _, _, _⟩ := hR1.at_.cells
          rw [hR1.at_.len, RS.back_n, hgn] at d0
          have hRd := hR1.kept' (Kept.drew [] _)
          have hsd := h11.now.kept (Kept.drew [] _) (by simp)
          clear y1 y2
          go_wp2_with fail
          go_region_held3 (fun W => W.cell? ⟨r, 0, none⟩ = some (.slice (some ⟨B, 0, none⟩) s.n cap) ∧ W.cell? ⟨B, q * 3, none⟩ = some (.slice o1.nA 128 o1.nc)) (first | exact ⟨d0, y0⟩ | exact ⟨e0, e1⟩ | exact ⟨f0', z0⟩)
            (first
              | (go_at_call 57
                 refine (copyBytes_any _ _ _ _ _ hsd (by omega)).mono ?_
                 rintro e w4 ⟨A4, c4, rfl, hown4, hbel4⟩
                 have hx6 := fun u v => (hx9.kept (Kept.drew [] _) (by simp)).through (Kept.of_below (F := []) hbel4) hXB (q * 3 + 1) (q * 3 + 2) u v
                 obtain ⟨hs4, hA4⟩ := ClonePost.sl hown4
                 have hR4 := hRd.kept' (Kept.of_below (F := []) hbel4)
                 obtain ⟨e1, e2, e3⟩ := hR4.at_.row.cell ho1
                 have ef := hR4.at_.row.frozen
                 obtain ⟨e0, _, _, _, _, _, _⟩ := hR4.at_.cells
                 rw [hR4.at_.len, RS.back_n, hgn] at e0
                 have hR5 := hR4.putSure hs4 (fun p hp => ⟨Nat.le_trans hRd.kept.size (hA4 p hp), fun hm => by have h1 := hRd.at_.lt _ hm; have h2 := hA4 p hp; omega⟩) ho1
                 obtain ⟨z0, z1, z2⟩ := hR5.at_.row.cell (i := q) (List.getElem?_set_self (List.getElem?_eq_some_iff.1 ho1).1)
                 obtain ⟨f0, _, _, _, _, _, _⟩ := hR5.at_.cells
                 rw [hR5.at_.len] at f0
                 have f0' : (w4.setCell ⟨B, q * 3 + 1, none⟩ (.slice A4 128 c4)).cell? ⟨r, 0, none⟩ = some (.slice (some ⟨B, 0, none⟩) s.n cap) := by rw [f0]; show some (Value.slice _ (s1.back keep q k).n cap) = _; rw [RS.back_n, hgn]
                 clear f0 hown4 hbel4 hA4 hs4))
          have ho2 := List.getElem?_set_self (a := ({ o1 with sA := A4, sc := c4 } : One)) (List.getElem?_eq_some_iff.1 ho1).1
          have zf := hR5.at_.row.frozen
          have hR6 := hR5.putWrote false ho2
          clear hR4 hR5 hRd hR1 d0 y0 e0 e1 e2 e3 ef yf z0 z1 hsd h11 ho1 ho2
          go_wp2_with fail
          go_roundw
          case rel => exact ⟨q + 1, _, _, by omega, hx6 _ _, by go_num, by rw [hstep]; simp only [if_true]; go_num, by rw [hstep]; exact hR6⟩
          case measure => simp [intOf]; omega
      · have hw' : s1.wrote q = false := by simpa using hw
        rw [hw'] at x2 hstep
        have hbk : s1.back keep q k = s1 := by unfold RS.back; rw [hw']; rfl
        clear hw hw' x0 x1
        go_wp2_with fail
        have hR1 : Rn w r B cap l1 fp f1 (s1.back keep q k) wr := by rw [hbk]; exact hR
        clear hbk
        obtain ⟨o1, ho1, h11⟩ := hR1.at_.at_ (i := q) (by rw [RS.back_n]; omega)
        obtain ⟨y0, y1, y2⟩ := hR1.at_.row.cell ho1
        have yf := hR1.at_.row.frozen
        obtain ⟨d0, _, _, _, _, _, _⟩ := hR1.at_.cells
        rw [hR1.at_.len, RS.back_n, hgn] at d0
        have hRd := hR1.kept' (Kept.drew [] _)
        have hsd := h11.now.kept (Kept.drew [] _) (by simp)
        clear y1 y2
        go_wp2_with fail
        go_region_held3 (fun W => W.cell? ⟨r, 0, none⟩ = some (.slice (some ⟨B, 0, none⟩) s.n cap) ∧ W.cell? ⟨B, q * 3, none⟩ = some (.slice o1.nA 128 o1.nc)) (first | exact ⟨d0, y0⟩ | exact ⟨e0, e1⟩ | exact ⟨f0', z0⟩)
          (first
            | (go_at_call 57
               refine (copyBytes_any _ _ _ _ _ hsd (by omega)).mono ?_
               rintro e w4 ⟨A4, c4, rfl, hown4, hbel4⟩
               have hx6 := fun u v => (hxr.kept (Kept.drew [] _) (by simp)).through (Kept.of_below (F := []) hbel4) hXB (q * 3 + 1) (q * 3 + 2) u v
               obtain ⟨hs4, hA4⟩ := ClonePost.sl hown4
               have hR4 := hRd.kept' (Kept.of_below (F := []) hbel4)
               obtain ⟨e1, e2, e3⟩ := hR4.at_.row.cell ho1
               have ef := hR4.at_.row.frozen
               obtain ⟨e0, _, _, _, _, _, _⟩ := hR4.at_.cells
               rw [hR4.at_.len, RS.back_n, hgn] at e0
               have hR5 := hR4.putSure hs4 (fun p hp => ⟨Nat.le_trans hRd.kept.size (hA4 p hp), fun hm => by have h1 := hRd.at_.lt _ hm; have h2 := hA4 p hp; omega⟩) ho1
               obtain ⟨z0, z1, z2⟩ := hR5.at_.row.cell (i := q) (List.getElem?_set_self (List.getElem?_eq_some_iff.1 ho1).1)
               obtain ⟨f0, _, _, _, _, _, _⟩ := hR5.at_.cells
               rw [hR5.at_.len] at f0
               have f0' : (w4.setCell ⟨B, q * 3 + 1, none⟩ (.slice A4 128 c4)).cell? ⟨r, 0, none⟩ = some (.slice (some ⟨B, 0, none⟩) s.n cap) := by rw [f0]; show some (Value.slice _ (s1.back keep q k).n cap) = _; rw [RS.back_n, hgn]
               clear f0 hown4 hbel4 hA4 hs4))
        have ho2 := List.getElem?_set_self (a := ({ o1 with sA := A4, sc := c4 } : One)) (List.getElem?_eq_some_iff.1 ho1).1
        have zf := hR5.at_.row.frozen
        have hR6 := hR5.putWrote false ho2
        clear hR4 hR5 hRd hR1 d0 y0 e0 e1 e2 e3 ef yf z0 z1 hsd h11 ho1 ho2
        go_wp2_with fail
        go_roundw
        case rel => exact ⟨q + 1, _, _, by omega, hx6 _ _, by go_num, by rw [hstep]; rfl, by rw [hstep]; exact hR6⟩
        case measure => simp [intOf]; omega
    · have i1 : ¬ (q : Int) < (s.n : Int) := by omega
      obtain rfl : q = s.n := by omega
      obtain ⟨_, c1, c3, _, c5, c6, cf⟩ := hR.at_.cells
      clear i1 hlt
      have i1 : ¬ (s.n : Int) < (s.n : Int) := by omega
      have hk9 : Kept [r] wr ((((wr.setCell ⟨r, 5, none⟩ (.bool true)).setCell ⟨r, 1, none⟩ (.int .i64 (-1))).setCell ⟨r, 3, none⟩ (.int .i64 (-1))).setCell ⟨r, 6, none⟩ (.bool false)) :=
        (((Kept.setCell (by simp) _).trans (Kept.setCell (by simp) _)).trans (Kept.setCell (by simp) _)).trans (Kept.setCell (by simp) _)
      have hR9 := hR.head (hR.at_.rehead (s' := { s1 with dead := true, fail := -1, till := -1, refuses := false }) hk9 ⟨rfl, rfl, rfl, rfl⟩ rfl (fun KA kn kc hb => by rw [heap_set (heap_set (heap_set (heap_set hb _ _) _ _) _ _)]; rfl)) hk9
      go_wp2_with fail
      go_end0
      rw [RS.gone, hg]
      exact hR9.post _
end Go.Proofs.YtbnflbkaogpnbaaGreat
namespace Go.Proofs.YtbnflbkaogpnbaaGreat
open Go.RowKit
def RS.fails (s : RS) : RS := { s with fail := max (s.fail - 1) (-1) }
def RS.done (s : RS) : RS := { s with works := s.works + 1, till := max (s.till - 1) (-1), refuses := max (s.till - 1) (-1) == 0 }
def RS.midst (s : RS) (i : Nat) (b : Blk) : RS := { s with now := upd s.now i b, wrote := upd s.wrote i true }
/-- What holds of each. -/
structure RS.Fine (s : RS) : Prop where
 fail0 : -1 ≤ s.fail
 fail1 : s.fail ≤ 9223372036854775807
 till0 : -1 ≤ s.till
 till1 : s.till ≤ 9223372036854775807
 works0 : 0 ≤ s.works
 works1 : s.works < 9223372036854775807
 ref : s.refuses = (s.till == 0)
theorem RfPost.of {w : World} {r B cap : Nat} {l : List One} {fp : List Nat} {s s' : RS} (h : RefAt w r B cap l fp s) {v : Value} {e : Ending} {w' : World} (hp : RfPost w r fp s' v e w') :
  e = .returned v ∧ ∃ B' cap' l' fp', Rn w r B' cap' l' fp fp' s' w' := by
 obtain ⟨he, B', cap', l', fp', hR, hk, hn⟩ := hp
 exact ⟨he, B', cap', l', fp', (Rn.start h).full hR hk hn⟩
set_option maxHeartbeats 400000 in
theorem refDead {w : World} {r B cap : Nat} {l : List One} {fp : List Nat} {s : RS} (h : RefAt w r B cap l fp s) (hd : s.dead = true) (A : Option Addr) (n c : Nat) :
  Calls Tryz.prog 63 #[.pointer (some ⟨r, 0, none⟩), .slice A n c] w (fun e w' => e = .returned (.int .i64 100) ∧ w = w') := by
 obtain ⟨c0, c1, c3, c4, c5, c6, cf⟩ := h.cells
 rw [hd] at c5
 clear c0 c1 c3 c4 c6
 have HD := Lib.hid hd; clear hd
 go_enter Tryz.func63, Tryz.ntmps63
 go_wp2
 go_ret
 exact ⟨rfl, rfl⟩
set_option maxHeartbeats 400000 in
theorem refCrash_any {w : World} {r B cap : Nat} {l : List One} {fp : List Nat} {s : RS} (h : RefAt w r B cap l fp s) (KA : Option Addr) (kn kc : Nat) (keep : List Int) (hx : SlAt w KA kn kc (keep.map i64v))
  (hX : ∀ p, KA = some p → 0 < kn → p.block ∈ fp → p.block ≠ r ∧ p.block ≠ B) (hki : ∀ n ∈ keep, I64 n) :
  Calls Tryz.prog 63 #[.pointer (some ⟨r, 0, none⟩), .slice KA kn kc] w (RfPost w r fp (if s.dead then s else s.gone keep) (.int .i64 (if s.dead then 100 else 0))) := by
 by_cases hd : s.dead = true
 ·rw [if_pos hd, if_pos hd]
  refine (refDead h hd KA kn kc).mono ?_
  rintro e w' ⟨rfl, rfl⟩
  exact (Rn.start h).post _
 ·have hd' : s.dead = false := by simpa using hd
  rw [if_neg hd, if_neg hd]
  obtain ⟨c0, c1, c3, c4, c5, c6, cf⟩ := h.cells
  rw [hd'] at c5
  clear c0 c1 c3 c4 c6 cf
  have cg := refGone_any h KA kn kc keep hx hX hki
  have HD := Lib.hid hd'; clear hd hd'
  go_enter Tryz.func63, Tryz.ntmps63
  go_wp2_with fail
  refine cg.mono ?_
  clear cg
  rintro e w4 hp
  obtain ⟨rfl, B', cap', l', fp', hR⟩ := RfPost.of h hp
  clear hp
  go_wp2_with fail
  go_ret
  exact hR.post _
/-- What stands in the way of a write. -/
def RS.stops (s : RS) (i : Int) (n : Nat) : Int := if s.dead then 100 else if i < 0 ∨ (s.n : Int) ≤ i then 9 else if n ≠ 128 then 2 else if s.refuses then 101 else 0
set_option maxHeartbeats 1000000 in
theorem refWrite_no {w : World} {r B cap : Nat} {l : List One} {fp : List Nat} {s : RS} (h : RefAt w r B cap l fp s) (i : Int) (A : Option Addr) (n c : Nat) (hs : s.stops i n ≠ 0) :
  Calls Tryz.prog 101 #[.pointer (some ⟨r, 0, none⟩), .int .i64 i, .slice A n c] w (fun e w' => e = .returned (.int .i64 (s.stops i n)) ∧ w = w') := by
 obtain ⟨c0, c1, c3, c4, c5, c6, cf⟩ := h.cells
 rw [h.len] at c0
 clear c1 c3 c4
 unfold RS.stops at hs ⊢
 by_cases hd : s.dead = true
 ·rw [if_pos hd]
  rw [hd] at c5
  have HD := Lib.hid hd; clear hd hs
  go_enter Tryz.func101, Tryz.ntmps101
  go_wp2
  go_ret
  exact ⟨rfl, rfl⟩
 ·rw [if_neg hd] at hs ⊢
  have hd' : s.dead = false := by simpa using hd
  rw [hd'] at c5
  have HD := Lib.hid hd'; clear hd hd'
  by_cases hi : i < 0 ∨ (s.n : Int) ≤ i
  ·rw [if_pos hi]
   clear hs
   by_cases h0 : i < 0
   ·clear hi
    go_enter Tryz.func101, Tryz.ntmps101
    go_wp2
    go_ret
    exact ⟨rfl, rfl⟩
   ·have h1 : (s.n : Int) ≤ i := by omega
    clear hi
    go_enter Tryz.func101, Tryz.ntmps101
    go_wp2
    go_ret
    exact ⟨rfl, rfl⟩
  ·rw [if_neg hi] at hs ⊢
   have h0 : ¬ i < 0 := by omega
   have h1 : ¬ (s.n : Int) ≤ i := by omega
   clear hi
   by_cases hn : n = 128
   ·rw [if_neg (by simpa using hn)] at hs ⊢
    have hr : s.refuses = true := by
     by_cases hr : s.refuses = true
     ·exact hr
     ·rw [if_neg hr] at hs; exact absurd rfl hs
    rw [if_pos hr]
    rw [hr] at c6
    subst hn
    have HR := Lib.hid hr; clear hr hs
    go_enter Tryz.func101, Tryz.ntmps101
    go_wp2
    go_ret
    exact ⟨rfl, rfl⟩
   ·rw [if_pos hn]
    have hn' : ((n : Int) != 128) = true := by simp; omega
    clear hs
    go_enter Tryz.func101, Tryz.ntmps101
    go_wp2
    go_ret
    exact ⟨rfl, rfl⟩
end Go.Proofs.YtbnflbkaogpnbaaGreat
namespace Go.Proofs.YtbnflbkaogpnbaaGreat
open Go.RowKit
/-- A work is done, or the power goes in its midst. -/
def RS.work (s : RS) : RS × Int := if s.fail = 0 then (s.fails.gone s.keep, 100) else (s.fails.done, 0)
theorem Rn.refKeep {w0 wr : World} {r B cap : Nat} {l : List One} {fp0 fp : List Nat} {s : RS} (h : Rn w0 r B cap l fp0 fp s wr) :
  ∃ KA kn kc, wr.cell? ⟨r, 2, none⟩ = some (.slice KA kn kc) ∧ SlAt wr KA kn kc (s.keep.map i64v) ∧ (∀ p, KA = some p → 0 < kn → p.block ∈ fp → p.block ≠ r ∧ p.block ≠ B) ∧ ∀ n ∈ s.keep, I64 n := by
 obtain ⟨KA, kn, kc, hh⟩ := h.at_.head
 exact ⟨KA, kn, kc, by rw [blk_cell hh.blk]; rfl, hh.keep, fun p hp _ _ => (hh.kb p hp).2, hh.ki⟩
set_option maxHeartbeats 2000000 in
set_option maxRecDepth 100000 in
theorem refWrite_ok {w : World} {r B cap : Nat} {l : List One} {fp : List Nat} {s : RS} (h : RefAt w r B cap l fp s) (i : Int) (A : Option Addr) (c : Nat) (b : Blk) (hs : SlAt w A 128 c (u8vs b)) (hz : s.stops i 128 = 0) (hf : s.Fine) :
    Calls Tryz.prog 101 #[.pointer (some ⟨r, 0, none⟩), .int .i64 i, .slice A 128 c] w (RfPost w r fp ((s.midst i.toNat b).work).1 (.int .i64 ((s.midst i.toNat b).work).2)) := by
  obtain ⟨c0, _, _, _, c5, c6, _⟩ := h.cells
  rw [h.len] at c0
  have hn := h.nmax
  have hle := h.row.le; have hlm := h.row.max
  rw [h.len] at hle
  unfold maxLen at hlm
  unfold RS.stops at hz
  have hd : s.dead = false := by
    by_cases hd : s.dead = true
    · rw [if_pos hd] at hz; exact absurd hz (by omega)
    · simpa using hd
  rw [hd] at hz c5
  simp only [Bool.false_eq_true, if_false] at hz
  have hi : ¬ (i < 0 ∨ (s.n : Int) ≤ i) := fun hi => by rw [if_pos hi] at hz; exact absurd hz (by omega)
  rw [if_neg hi] at hz
  simp only [ne_eq, not_true_eq_false, if_false] at hz
  have hr : s.refuses = false := by
    by_cases hr : s.refuses = true
    · rw [if_pos hr] at hz; exact absurd hz (by omega)
    · simpa using hr
  rw [hr] at c6
  obtain ⟨q, rfl⟩ : ∃ q : Nat, i = q := ⟨i.toNat, by omega⟩
  rw [Int.toNat_natCast]
  have hq : q < s.n := by omega
  have h0 : ¬ (q : Int) < 0 := by omega
  have h1 : ¬ (s.n : Int) ≤ (q : Int) := by omega
  have h2 : (q : Int) < (s.n : Int) := by omega
  obtain ⟨o, ho, ho1⟩ := h.at_ hq
  have hRd := (Rn.start h).kept' (Kept.drew [] w)
  have hsd := hs.kept (Kept.drew [] w) (by simp)
  have hrt := hf.ref
  rw [hr] at hrt
  have hf0 := hf.fail0; have hf1 := hf.fail1; have ht0 := hf.till0; have ht1 := hf.till1; have hw0 := hf.works0; have hw1 := hf.works1
  have ht2 : s.till = -1 ∨ 0 < s.till := by
    have : s.till ≠ 0 := by
      intro e
      rw [e] at hrt
      simp at hrt
    omega
  have HD := Lib.hid hd; have HR := Lib.hid hr
  clear hd hr hz hi hrt hf ho1
  go_enter Tryz.func101, Tryz.ntmps101
  go_wp2_with fail
  go_region_held3 (fun W => W.cell? ⟨r, 0, none⟩ = some (.slice (some ⟨B, 0, none⟩) s.n cap)) (first | exact c0 | exact e0 | exact f0')
    (first
      | (go_at_call 57
         refine (copyBytes_any _ _ _ _ _ hsd (by omega)).mono ?_
         rintro e w4 ⟨A4, c4, rfl, hown4, hbel4⟩
         obtain ⟨hs4, hA4⟩ := ClonePost.sl hown4
         have hR4 := hRd.kept' (Kept.of_below (F := []) hbel4)
         obtain ⟨e1, e2, e3⟩ := hR4.at_.row.cell ho
         have ef := hR4.at_.row.frozen
         obtain ⟨e0, _, _, _, _, _, _⟩ := hR4.at_.cells
         rw [hR4.at_.len] at e0
         have hR5 := hR4.putNow hs4 (fun p hp => ⟨Nat.le_trans hRd.kept.size (hA4 p hp), fun hm => by have h1 := hRd.at_.lt _ hm; have h2 := hA4 p hp; omega⟩) ho
         obtain ⟨z0, z1, z2⟩ := hR5.at_.row.cell (i := q) (List.getElem?_set_self (List.getElem?_eq_some_iff.1 ho).1)
         obtain ⟨f0', _, _, _, _, _, _⟩ := hR5.at_.cells
         rw [hR5.at_.len] at f0'
         clear hown4 hbel4 hA4 hs4))
  have ho2 := List.getElem?_set_self (a := ({ o with nA := A4, nc := c4 } : One)) (List.getElem?_eq_some_iff.1 ho).1
  have zf := hR5.at_.row.frozen
  have hR6 := hR5.putWrote true ho2
  rw [show ({ ({ s with now := upd s.now q b } : RS) with wrote := upd ({ s with now := upd s.now q b } : RS).wrote q true } : RS) = s.midst q b from rfl] at hR6
  have cf := refFails_any hR6.at_ hf0 hf1
  clear hR4 hR5 hRd hsd ho ho2 c0 e0 e1 e2 e3 ef z0 z1
  go_wp2_with fail
  refine cf.mono ?_
  clear cf f0' z2 zf
  rintro e w7 ⟨rfl, hR7', hk7⟩
  have hR7 := hR6.head hR7' hk7
  by_cases hfz : s.fail = 0
  · rw [show decide ((s.midst q b).fail = 0) = true from decide_eq_true hfz]
    have hwk : (s.midst q b).work = ((s.midst q b).fails.gone (s.midst q b).keep, 100) := if_pos (by exact hfz)
    obtain ⟨KA, kn, kc, k2, hx, hX, hki⟩ := hR7.refKeep
    have cg := refGone_any hR7.at_ KA kn kc _ hx hX hki
    have HZ := Lib.hid hfz
    have HW := Lib.hid hwk
    clear hfz hwk hR6 hR7' hk7
    go_wp2_with fail
    refine cg.mono ?_
    clear cg
    rintro e w8 hp
    obtain ⟨rfl, B8, cap8, l8, f8, hR8, hk8, hn8⟩ := hp
    have hR9 := hR7.full hR8 hk8 hn8
    go_wp2_with fail
    go_ret
    rw [HW.out]
    exact hR9.post _
  · have hwk : (s.midst q b).work = ((s.midst q b).fails.done, 0) := if_neg (by exact hfz)
    rw [show decide ((s.midst q b).fail = 0) = false from decide_eq_false hfz]
    have cd := refDone_any hR7.at_ ht2 ht1 HR.out hw0 hw1
    have HW := Lib.hid hwk
    clear hwk hR6 hR7' hk7
    go_wp2_with fail
    refine cd.mono ?_
    clear cd
    rintro e w8 ⟨rfl, hR8, hk8⟩
    have hR9 := hR7.head hR8 hk8
    go_wp2_with fail
    go_ret
    rw [HW.out]
    exact hR9.post _
end Go.Proofs.YtbnflbkaogpnbaaGreat
namespace Go.Proofs.YtbnflbkaogpnbaaGreat
open Go.RowKit
/-- The first i sectors are sure. -/
def RS.flushTo (s : RS) : Nat → RS
 | 0 => s
 | i + 1 => { s.flushTo i with sure := upd (s.flushTo i).sure i ((s.flushTo i).now i), wrote := upd (s.flushTo i).wrote i false }
theorem RS.flushTo_same (s : RS) : ∀ i, (s.flushTo i).n = s.n ∧ (s.flushTo i).till = s.till ∧ (s.flushTo i).works = s.works ∧ (s.flushTo i).refuses = s.refuses
 | 0 => ⟨rfl, rfl, rfl, rfl⟩
 | i + 1 => RS.flushTo_same s i
/-- What stands in the way of a flush. -/
def RS.stopsF (s : RS) : Int := if s.dead then 100 else if s.refuses then 101 else 0
def RS.flush (s : RS) : RS × Int := if s.fail = 0 then (s.fails.gone s.keep, 100) else ((s.fails.flushTo s.n).done, 0)
set_option maxHeartbeats 1000000 in
theorem refFlush_no {w : World} {r B cap : Nat} {l : List One} {fp : List Nat} {s : RS} (h : RefAt w r B cap l fp s) (hs : s.stopsF ≠ 0) :
  Calls Tryz.prog 95 #[.pointer (some ⟨r, 0, none⟩)] w (fun e w' => e = .returned (.int .i64 s.stopsF) ∧ w = w') := by
 obtain ⟨c0, c1, c3, c4, c5, c6, cf⟩ := h.cells
 clear c0 c1 c3 c4
 unfold RS.stopsF at hs ⊢
 by_cases hd : s.dead = true
 ·rw [if_pos hd]
  rw [hd] at c5
  have HD := Lib.hid hd; clear hd hs
  go_enter Tryz.func95, Tryz.ntmps95
  go_wp2
  go_ret
  exact ⟨rfl, rfl⟩
 ·rw [if_neg hd] at hs ⊢
  have hd' : s.dead = false := by simpa using hd
  rw [hd'] at c5
  have HD := Lib.hid hd'; clear hd hd'
  have hr : s.refuses = true := by
   by_cases hr : s.refuses = true
   ·exact hr
   ·rw [if_neg hr] at hs; exact absurd rfl hs
  rw [if_pos hr]
  rw [hr] at c6
  have HR := Lib.hid hr; clear hr hs
  go_enter Tryz.func95, Tryz.ntmps95
  go_wp2
  go_ret
  exact ⟨rfl, rfl⟩
def FlRefRel (w : World) (r B cap : Nat) (fp0 : List Nat) (s : RS) (i : Value) (wr : World) : Prop :=
 ∃ (q : Nat) (l : List One) (fp : List Nat), q ≤ s.n ∧ i = .int .i64 (q : Nat) ∧ Rn w r B cap l fp0 fp (s.flushTo q) wr
set_option maxHeartbeats 2000000 in
set_option maxRecDepth 100000 in
theorem refFlush_ok {w : World} {r B cap : Nat} {l : List One} {fp : List Nat} {s : RS} (h : RefAt w r B cap l fp s) (hz : s.stopsF = 0) (hf : s.Fine) :
    Calls Tryz.prog 95 #[.pointer (some ⟨r, 0, none⟩)] w (RfPost w r fp s.flush.1 (.int .i64 s.flush.2)) := by
  obtain ⟨c0, _, _, _, c5, c6, _⟩ := h.cells
  rw [h.len] at c0
  have hn := h.nmax
  have hle := h.row.le; have hlm := h.row.max
  rw [h.len] at hle
  unfold maxLen at hlm
  unfold RS.stopsF at hz
  have hd : s.dead = false := by
    by_cases hd : s.dead = true
    · rw [if_pos hd] at hz; exact absurd hz (by omega)
    · simpa using hd
  rw [hd] at hz c5
  simp only [Bool.false_eq_true, if_false] at hz
  have hr : s.refuses = false := by
    by_cases hr : s.refuses = true
    · rw [if_pos hr] at hz; exact absurd hz (by omega)
    · simpa using hr
  rw [hr] at c6
  have hrt := hf.ref
  rw [hr] at hrt
  have hf0 := hf.fail0; have hf1 := hf.fail1; have ht0 := hf.till0; have ht1 := hf.till1; have hw0 := hf.works0; have hw1 := hf.works1
  have ht2 : s.till = -1 ∨ 0 < s.till := by
    have : s.till ≠ 0 := by
      intro e
      rw [e] at hrt
      simp at hrt
    omega
  have HD := Lib.hid hd; have HR := Lib.hid hr
  clear hd hr hz hrt hf
  have cf := refFails_any h hf0 hf1
  go_enter Tryz.func95, Tryz.ntmps95
  go_wp2_with fail
  refine cf.mono ?_
  clear cf
  rintro e w7 ⟨rfl, hR7', hk7⟩
  have hR7 := (Rn.start h).head hR7' hk7
  by_cases hfz : s.fail = 0
  · rw [show decide (s.fail = 0) = true from decide_eq_true hfz]
    have hwk : s.flush = (s.fails.gone s.keep, 100) := if_pos (by exact hfz)
    obtain ⟨KA, kn, kc, k2, hx, hX, hki⟩ := hR7.refKeep
    have cg := refGone_any hR7.at_ KA kn kc _ hx hX hki
    have HZ := Lib.hid hfz
    have HW := Lib.hid hwk
    clear hfz hwk hR7' hk7
    go_wp2_with fail
    refine cg.mono ?_
    clear cg
    rintro e w8 hp
    obtain ⟨rfl, B8, cap8, l8, f8, hR8, hk8, hn8⟩ := hp
    have hR9 := hR7.full hR8 hk8 hn8
    go_wp2_with fail
    go_ret
    rw [HW.out]
    exact hR9.post _
  · rw [show decide (s.fail = 0) = false from decide_eq_false hfz]
    have hwk : s.flush = ((s.fails.flushTo s.n).done, 0) := if_neg (by exact hfz)
    have HW := Lib.hid hwk
    clear hwk hR7' hk7
    have hR7 : Rn w r B cap l fp fp s.fails w7 := hR7
    go_wp2_with fail
    go_loopw [3] (fun i wr => FlRefRel w r B cap fp s.fails i wr) (fun i _ => s.n - (intOf i).toNat)
    case atStart => exact ⟨0, l, fp, Nat.zero_le _, rfl, hR7⟩
    case round =>
      clear hR7
      obtain ⟨q, l1, f1, hq, rfl, hR1⟩ := hrel
      have hq : q ≤ s.n := hq
      obtain ⟨s1, hs1⟩ : ∃ s1, s.fails.flushTo q = s1 := ⟨_, rfl⟩
      have hsm := RS.flushTo_same s.fails q
      have hstep : s.fails.flushTo (q + 1) = { s.fails.flushTo q with sure := upd (s.fails.flushTo q).sure q ((s.fails.flushTo q).now q), wrote := upd (s.fails.flushTo q).wrote q false } := rfl
      rw [hs1] at hR1 hsm hstep
      have hgn : s1.n = s.n := hsm.1
      obtain ⟨d0, _, _, _, _, _, _⟩ := hR1.at_.cells
      rw [hR1.at_.len, hgn] at d0
      by_cases hlt : q < s.n
      · have i1 : (q : Int) < (s.n : Int) := by omega
        obtain ⟨o1, ho1, h11⟩ := hR1.at_.at_ (i := q) (by omega)
        obtain ⟨y0, y1, y2⟩ := hR1.at_.row.cell ho1
        have yf := hR1.at_.row.frozen
        have hRd := hR1.kept' (Kept.drew [] _)
        have hsd := h11.now.kept (Kept.drew [] _) (by simp)
        clear y1 y2 hs1
        go_wp2_with fail
        go_region_held3 (fun W => W.cell? ⟨r, 0, none⟩ = some (.slice (some ⟨B, 0, none⟩) s.n cap) ∧ W.cell? ⟨B, q * 3, none⟩ = some (.slice o1.nA 128 o1.nc)) (first | exact ⟨d0, y0⟩ | exact ⟨e0, e1⟩ | exact ⟨f0', z0⟩)
          (first
            | (go_at_call 57
               refine (copyBytes_any _ _ _ _ _ hsd (by omega)).mono ?_
               rintro e w4 ⟨A4, c4, rfl, hown4, hbel4⟩
               obtain ⟨hs4, hA4⟩ := ClonePost.sl hown4
               have hR4 := hRd.kept' (Kept.of_below (F := []) hbel4)
               obtain ⟨e1, e2, e3⟩ := hR4.at_.row.cell ho1
               have ef := hR4.at_.row.frozen
               obtain ⟨e0, _, _, _, _, _, _⟩ := hR4.at_.cells
               rw [hR4.at_.len, hgn] at e0
               have hR5 := hR4.putSure hs4 (fun p hp => ⟨Nat.le_trans hRd.kept.size (hA4 p hp), fun hm => by have h1 := hRd.at_.lt _ hm; have h2 := hA4 p hp; omega⟩) ho1
               obtain ⟨z0, z1, z2⟩ := hR5.at_.row.cell (i := q) (List.getElem?_set_self (List.getElem?_eq_some_iff.1 ho1).1)
               obtain ⟨f0, _, _, _, _, _, _⟩ := hR5.at_.cells
               rw [hR5.at_.len] at f0
               have f0' : (w4.setCell ⟨B, q * 3 + 1, none⟩ (.slice A4 128 c4)).cell? ⟨r, 0, none⟩ = some (.slice (some ⟨B, 0, none⟩) s.n cap) := by rw [f0]; show some (Value.slice _ s1.n cap) = _; rw [hgn]
               clear f0 hown4 hbel4 hA4 hs4))
        have ho2 := List.getElem?_set_self (a := ({ o1 with sA := A4, sc := c4 } : One)) (List.getElem?_eq_some_iff.1 ho1).1
        have zf := hR5.at_.row.frozen
        have hR6 := hR5.putWrote false ho2
        clear hR4 hR5 hRd hR1 d0 y0 e0 e1 e2 e3 ef yf z0 z1 hsd h11 ho1 ho2
        go_wp2_with fail
        go_roundw
        case rel => exact ⟨q + 1, _, _, by show q + 1 ≤ s.n; omega, by go_num, by rw [hstep]; exact hR6⟩
        case measure => simp [intOf]; omega
      · have i1 : ¬ (q : Int) < (s.n : Int) := by omega
        obtain rfl : q = s.n := by omega
        clear i1 hlt
        have i1 : ¬ (s.n : Int) < (s.n : Int) := by omega
        have cd := refDone_any hR1.at_ (by rw [hsm.2.1]; exact ht2) (by rw [hsm.2.1]; exact ht1) (hsm.2.2.2.trans HR.out) (by rw [hsm.2.2.1]; exact hw0) (by rw [hsm.2.2.1]; exact hw1)
        have HS := Lib.hid hs1
        clear hs1 hstep
        go_wp2_with fail
        refine cd.mono ?_
        clear cd
        rintro e w8 ⟨rfl, hR8, hk8⟩
        have hR9 := hR1.head hR8 hk8
        go_wp2_with fail
        go_ret
        rw [HW.out, HS.out]
        exact hR9.post _
end Go.Proofs.YtbnflbkaogpnbaaGreat
