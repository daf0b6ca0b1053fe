/- The document's device: gone. -/
import Derived.Test.YtbnflbkaogpnbaaX2
import Derived.IntWalk
namespace Go.Proofs.Ytbnflbkaogpnbaa
open Go.RowKit

/-- Sector i, where the power goes, the k-th of those that were written. -/
def RS.back (s : RS) (keep : List Int) (i k : Nat) : RS := if s.wrote i && Dev.lost keep k then { s with now := upd s.now i (s.sure i) } else s
def RS.lose (s : RS) (keep : List Int) (i k : Nat) : RS :=
  { s.back keep i k with sure := upd (s.back keep i k).sure i ((s.back keep i k).now i), wrote := upd (s.back keep i k).wrote i false }

/-- The first i sectors are done; of them k were written. -/
def RS.goneTo (s : RS) (keep : List Int) : Nat → RS × Nat
  | 0 => (s, 0)
  | i + 1 => ((s.goneTo keep i).1.lose keep i (s.goneTo keep i).2, if (s.goneTo keep i).1.wrote i then (s.goneTo keep i).2 + 1 else (s.goneTo keep i).2)

def RS.gone (s : RS) (keep : List Int) : RS := { (s.goneTo keep s.n).1 with dead := true, fail := -1, till := -1, refuses := false }

theorem RS.back_n (s : RS) (keep : List Int) (i k : Nat) : (s.back keep i k).n = s.n := by
  unfold RS.back
  split <;> rfl

theorem RS.goneTo_n (s : RS) (keep : List Int) : ∀ i, (s.goneTo keep i).1.n = s.n
  | 0 => rfl
  | i + 1 => (RS.back_n _ _ _ _).trans (RS.goneTo_n s keep i)

theorem RS.goneTo_k (s : RS) (keep : List Int) : ∀ i, (s.goneTo keep i).2 ≤ i
  | 0 => Nat.le_refl _
  | i + 1 => by
    have := RS.goneTo_k s keep i
    rw [RS.goneTo]
    simp only
    split <;> omega

theorem SlAt.through {W w4 : World} {A : Option Addr} {n c : Nat} {xs : List Value} {B : Nat} (hx : SlAt W A n c xs) (hk : Kept [] W w4) (hB : ∀ p, A = some p → 0 < n → p.block ≠ B) (a b : Nat) (u v : Value) :
    SlAt ((w4.setCell ⟨B, a, none⟩ u).setCell ⟨B, b, none⟩ v) A n c xs :=
  (((hx.kept hk (by simp)).keptP (Kept.setCell (F := [B]) (by simp) _) (fun p hp h0 => by simpa using hB p hp h0))).keptP (Kept.setCell (F := [B]) (by simp) _) (fun p hp h0 => by simpa using hB p hp h0)
theorem SlAt.through1 {W w4 : World} {A : Option Addr} {n c : Nat} {xs : List Value} {B : Nat} (hx : SlAt W A n c xs) (hk : Kept [] W w4) (hB : ∀ p, A = some p → 0 < n → p.block ≠ B) (a : Nat) (u : Value) :
    SlAt (w4.setCell ⟨B, a, none⟩ u) A n c xs :=
  ((hx.kept hk (by simp)).keptP (Kept.setCell (F := [B]) (by simp) _) (fun p hp h0 => by simpa using hB p hp h0))

def GnRel (w : World) (r B cap : Nat) (fp0 : List Nat) (s : RS) (keep : List Int) (KA : Option Addr) (kn kc : Nat) (k i : Value) (wr : World) : Prop :=
  ∃ (q : Nat) (l : List One) (fp : List Nat), q ≤ s.n ∧ SlAt wr KA kn kc (keep.map i64v) ∧ i = .int .i64 (q : Nat) ∧ k = .int .i64 ((s.goneTo keep q).2 : Nat) ∧ Rn w r B cap l fp0 fp (s.goneTo keep q).1 wr

theorem RefAt.nmax {w : World} {r B cap : Nat} {l : List One} {fp : List Nat} {s : RS} (h : RefAt w r B cap l fp s) : s.n ≤ 8192 := by rw [← h.len]; exact h.max

theorem lost_last {keep : List Int} {k : Nat} (h : keep.length ≤ k) : Dev.lost keep k = true := by simp [Dev.lost, h]
theorem lost_even {keep : List Int} {k : Nat} {z : Int} (h : keep[k]? = some z) (hz : z % 2 = 0) : Dev.lost keep k = true := by
  have hl := (List.getElem?_eq_some_iff.1 h).1
  have : z.tmod 2 = 0 := Int.tmod_eq_zero_of_dvd (Int.dvd_of_emod_eq_zero hz)
  simp [Dev.lost, h, this]
theorem lost_odd {keep : List Int} {k : Nat} {z : Int} (h : keep[k]? = some z) (hz : z % 2 ≠ 0) : Dev.lost keep k = false := by
  have hl := (List.getElem?_eq_some_iff.1 h).1
  have : ¬ z.tmod 2 = 0 := fun e => hz (Int.emod_eq_zero_of_dvd (Int.dvd_of_tmod_eq_zero e))
  simp [Dev.lost, h, this]
  omega

set_option maxHeartbeats 4000000 in
set_option maxRecDepth 100000 in
theorem refGone_any {w : World} {r B cap : Nat} {l : List One} {fp : List Nat} {s : RS} (h : RefAt w r B cap l fp s) (KA : Option Addr) (kn kc : Nat) (keep : List Int) (hx : SlAt w KA kn kc (keep.map i64v))
    (hX : ∀ p, KA = some p → 0 < kn → p.block ∈ fp → p.block ≠ r ∧ p.block ≠ B) (hki : ∀ n ∈ keep, I64 n) :
    Calls Try.prog 107 #[.pointer (some ⟨r, 0, none⟩), .slice KA kn kc] w (RfPost w r fp (s.gone keep) (.tuple #[])) := by
  have hn := h.nmax
  have hkc := hx.le; have hkm := hx.max; have hkl := hx.len
  simp only [List.length_map] at hkl
  have HKL := Lib.hid hkl; clear hkl
  have hXB : ∀ p, KA = some p → 0 < kn → p.block ≠ B := fun p hp h0 e => (hX p hp h0 (e ▸ h.bin)).2 e
  unfold maxLen at hkm
  go_enter Try.func107, Try.ntmps107
  go_wp2_with fail
  go_loopw [4, 5] (fun k i wr => GnRel w r B cap fp s keep KA kn kc k i wr) (fun _ i _ => s.n - (intOf i).toNat)
  case atStart => exact ⟨0, l, fp, Nat.zero_le _, hx, rfl, rfl, Rn.start h⟩
  case round =>
    obtain ⟨q, l1, f1, hq, hxr, rfl, rfl, hR⟩ := hrel
    have hgn := RS.goneTo_n s keep q
    have hgk := RS.goneTo_k s keep q
    have hstep := RS.goneTo.eq_2 s keep q
    obtain ⟨g, hg⟩ : ∃ g, s.goneTo keep q = g := ⟨_, rfl⟩
    rw [hg] at hgn hgk hstep hR ⊢
    obtain ⟨s1, k⟩ := g
    simp only at hgn hgk hR hstep ⊢
    obtain ⟨c0, _, _, _, _, _, _⟩ := hR.at_.cells
    rw [hR.at_.len, hgn] at c0
    have hle := hR.at_.row.le; have hlm := hR.at_.row.max; have hll := hR.at_.len
    rw [hll, hgn] at hle
    unfold maxLen at hlm
    clear hll
    by_cases hlt : q < s.n
    · obtain ⟨o, ho, h1⟩ := hR.at_.at_ (i := q) (by omega)
      obtain ⟨x0, x1, x2⟩ := hR.at_.row.cell ho
      have xf := hR.at_.row.frozen
      rw [h1.wr] at x2
      have i1 : (q : Int) < (s.n : Int) := by omega
      by_cases hw : s1.wrote q = true
      · rw [hw] at x2
        have hsd0 := h1.sure.kept (Kept.drew [] _) (by simp)
        have hRd0 := hR.kept' (Kept.drew [] _)
        have hkk : k < 8192 := by omega
        by_cases hkn : k < kn
        · obtain ⟨b, f, hA, hbl, hz⟩ := hxr.int_at hkn
          obtain ⟨z, hzz⟩ : ∃ z, keep[k]? = some z := ⟨_, List.getElem?_eq_getElem (by rw [HKL.out]; exact hkn)⟩
          rw [hzz] at hz
          subst hA
          have i2 : (k : Int) < (kn : Int) := by omega
          have hz64 := hki z (List.mem_of_getElem? hzz)
          unfold I64 at hz64
          have cb := bring_any z 2 wr (by omega) (by omega) hz64.1 hz64.2
          go_wp2_with fail
          by_cases hz2 : z % 2 = 0
          · have hbk : s1.back keep q k = { s1 with now := upd s1.now q (s1.sure q) } := by unfold RS.back; rw [hw, lost_even hzz hz2]; rfl
            rw [hz2] at cb
            rw [hw] at hstep
            have HZ2 := Lib.hid hz2
            clear hz2 hw
            refine cb.mono ?_
            clear cb hz
            rintro e w' ⟨rfl, rfl⟩
            go_wp2_with fail
            go_region_held3 (fun W => W.cell? ⟨r, 0, none⟩ = some (.slice (some ⟨B, 0, none⟩) s.n cap) ∧ W.cell? ⟨B, q * 3 + 1, none⟩ = some (.slice o.sA 128 o.sc)) (first | exact ⟨c0, x1⟩ | exact ⟨e0, e2⟩ | exact ⟨f0', z1⟩)
              (first
                | (go_at_call 82
                   refine (copyBytes_any _ _ _ _ _ hsd0 (by omega)).mono ?_
                   rintro e w4 ⟨A4, c4, rfl, hown4, hbel4⟩
                   have hx5 := fun u => (hxr.kept (Kept.drew [] _) (by simp)).through1 (Kept.of_below (F := []) hbel4) hXB (q * 3) u
                   obtain ⟨hs4, hA4⟩ := ClonePost.sl hown4
                   have hR4 := hRd0.kept' (Kept.of_below (F := []) hbel4)
                   obtain ⟨e1, e2, e3⟩ := hR4.at_.row.cell ho
                   have ef := hR4.at_.row.frozen
                   obtain ⟨e0, _, _, _, _, _, _⟩ := hR4.at_.cells
                   rw [hR4.at_.len, hgn] at e0
                   have hR5 := hR4.putNow hs4 (fun p hp => ⟨Nat.le_trans hRd0.kept.size (hA4 p hp), fun hm => by have h1 := hRd0.at_.lt _ hm; have h2 := hA4 p hp; omega⟩) ho
                   obtain ⟨z0, z1, z2⟩ := hR5.at_.row.cell (i := q) (List.getElem?_set_self (List.getElem?_eq_some_iff.1 ho).1)
                   obtain ⟨f0, _, _, _, _, _, _⟩ := hR5.at_.cells
                   rw [hR5.at_.len] at f0
                   have f0' : (w4.setCell ⟨B, q * 3, none⟩ (.slice A4 128 c4)).cell? ⟨r, 0, none⟩ = some (.slice (some ⟨B, 0, none⟩) s.n cap) := by rw [f0]; show some (Value.slice _ s1.n cap) = _; rw [hgn]
                   clear f0 hown4 hbel4 hA4 hs4))
            have hx9 := hx5 (.slice A4 128 c4)
            clear hR4 hRd0 e0 e1 e2 e3 ef z0 z1 z2 f0' hsd0 hx5 c0 x0 x1 x2 xf

            go_wp2_with fail
            have hR1 := hR5
            rw [← hbk] at hR1
            clear hbk
            obtain ⟨o1, ho1, h11⟩ := hR1.at_.at_ (i := q) (by rw [RS.back_n]; omega)
            obtain ⟨y0, y1, y2⟩ := hR1.at_.row.cell ho1
            have yf := hR1.at_.row.frozen
            obtain ⟨d0, _, _, _, _, _, _⟩ := hR1.at_.cells
            rw [hR1.at_.len, RS.back_n, hgn] at d0
            have hRd := hR1.kept' (Kept.drew [] _)
            have hsd := h11.now.kept (Kept.drew [] _) (by simp)
            clear y1 y2
            go_wp2_with fail
            go_region_held3 (fun W => W.cell? ⟨r, 0, none⟩ = some (.slice (some ⟨B, 0, none⟩) s.n cap) ∧ W.cell? ⟨B, q * 3, none⟩ = some (.slice o1.nA 128 o1.nc)) (first | exact ⟨d0, y0⟩ | exact ⟨e0, e1⟩ | exact ⟨f0', z0⟩)
              (first
                | (go_at_call 82
                   refine (copyBytes_any _ _ _ _ _ hsd (by omega)).mono ?_
                   rintro e w4 ⟨A4, c4, rfl, hown4, hbel4⟩
                   have hx6 := fun u v => (hx9.kept (Kept.drew [] _) (by simp)).through (Kept.of_below (F := []) hbel4) hXB (q * 3 + 1) (q * 3 + 2) u v
                   obtain ⟨hs4, hA4⟩ := ClonePost.sl hown4
                   have hR4 := hRd.kept' (Kept.of_below (F := []) hbel4)
                   obtain ⟨e1, e2, e3⟩ := hR4.at_.row.cell ho1
                   have ef := hR4.at_.row.frozen
                   obtain ⟨e0, _, _, _, _, _, _⟩ := hR4.at_.cells
                   rw [hR4.at_.len, RS.back_n, hgn] at e0
                   have hR5 := hR4.putSure hs4 (fun p hp => ⟨Nat.le_trans hRd.kept.size (hA4 p hp), fun hm => by have h1 := hRd.at_.lt _ hm; have h2 := hA4 p hp; omega⟩) ho1
                   obtain ⟨z0, z1, z2⟩ := hR5.at_.row.cell (i := q) (List.getElem?_set_self (List.getElem?_eq_some_iff.1 ho1).1)
                   obtain ⟨f0, _, _, _, _, _, _⟩ := hR5.at_.cells
                   rw [hR5.at_.len] at f0
                   have f0' : (w4.setCell ⟨B, q * 3 + 1, none⟩ (.slice A4 128 c4)).cell? ⟨r, 0, none⟩ = some (.slice (some ⟨B, 0, none⟩) s.n cap) := by rw [f0]; show some (Value.slice _ (s1.back keep q k).n cap) = _; rw [RS.back_n, hgn]
                   clear f0 hown4 hbel4 hA4 hs4))
            have ho2 := List.getElem?_set_self (a := ({ o1 with sA := A4, sc := c4 } : One)) (List.getElem?_eq_some_iff.1 ho1).1
            have zf := hR5.at_.row.frozen
            have hR6 := hR5.putWrote false ho2
            clear hR4 hR5 hRd hR1 d0 y0 e0 e1 e2 e3 ef yf z0 z1 hsd h11 ho1 ho2
            go_wp2_with fail
            go_roundw
            case rel => exact ⟨q + 1, _, _, by omega, hx6 _ _, by go_num, by rw [hstep]; simp only [if_true]; go_num, by rw [hstep]; exact hR6⟩
            case measure => simp [intOf]; omega
          · have hbk : s1.back keep q k = s1 := by unfold RS.back; rw [hw, lost_odd hzz hz2]; rfl
            have hz3 : (z % 2 == 0) = false := by simpa using hz2
            rw [hw] at hstep
            clear hz2 hw
            refine cb.mono ?_
            clear cb hz
            rintro e w' ⟨rfl, rfl⟩
            go_wp2_with fail
            clear hz3
            have hR1 : Rn w r B cap l1 fp f1 (s1.back keep q k) wr := by rw [hbk]; exact hR
            clear hbk
            obtain ⟨o1, ho1, h11⟩ := hR1.at_.at_ (i := q) (by rw [RS.back_n]; omega)
            obtain ⟨y0, y1, y2⟩ := hR1.at_.row.cell ho1
            have yf := hR1.at_.row.frozen
            obtain ⟨d0, _, _, _, _, _, _⟩ := hR1.at_.cells
            rw [hR1.at_.len, RS.back_n, hgn] at d0
            have hRd := hR1.kept' (Kept.drew [] _)
            have hsd := h11.now.kept (Kept.drew [] _) (by simp)
            clear y1 y2
            go_wp2_with fail
            go_region_held3 (fun W => W.cell? ⟨r, 0, none⟩ = some (.slice (some ⟨B, 0, none⟩) s.n cap) ∧ W.cell? ⟨B, q * 3, none⟩ = some (.slice o1.nA 128 o1.nc)) (first | exact ⟨d0, y0⟩ | exact ⟨e0, e1⟩ | exact ⟨f0', z0⟩)
              (first
                | (go_at_call 82
                   refine (copyBytes_any _ _ _ _ _ hsd (by omega)).mono ?_
                   rintro e w4 ⟨A4, c4, rfl, hown4, hbel4⟩
                   have hx6 := fun u v => (hxr.kept (Kept.drew [] _) (by simp)).through (Kept.of_below (F := []) hbel4) hXB (q * 3 + 1) (q * 3 + 2) u v
                   obtain ⟨hs4, hA4⟩ := ClonePost.sl hown4
                   have hR4 := hRd.kept' (Kept.of_below (F := []) hbel4)
                   obtain ⟨e1, e2, e3⟩ := hR4.at_.row.cell ho1
                   have ef := hR4.at_.row.frozen
                   obtain ⟨e0, _, _, _, _, _, _⟩ := hR4.at_.cells
                   rw [hR4.at_.len, RS.back_n, hgn] at e0
                   have hR5 := hR4.putSure hs4 (fun p hp => ⟨Nat.le_trans hRd.kept.size (hA4 p hp), fun hm => by have h1 := hRd.at_.lt _ hm; have h2 := hA4 p hp; omega⟩) ho1
                   obtain ⟨z0, z1, z2⟩ := hR5.at_.row.cell (i := q) (List.getElem?_set_self (List.getElem?_eq_some_iff.1 ho1).1)
                   obtain ⟨f0, _, _, _, _, _, _⟩ := hR5.at_.cells
                   rw [hR5.at_.len] at f0
                   have f0' : (w4.setCell ⟨B, q * 3 + 1, none⟩ (.slice A4 128 c4)).cell? ⟨r, 0, none⟩ = some (.slice (some ⟨B, 0, none⟩) s.n cap) := by rw [f0]; show some (Value.slice _ (s1.back keep q k).n cap) = _; rw [RS.back_n, hgn]
                   clear f0 hown4 hbel4 hA4 hs4))
            have ho2 := List.getElem?_set_self (a := ({ o1 with sA := A4, sc := c4 } : One)) (List.getElem?_eq_some_iff.1 ho1).1
            have zf := hR5.at_.row.frozen
            have hR6 := hR5.putWrote false ho2
            clear hR4 hR5 hRd hR1 d0 y0 e0 e1 e2 e3 ef yf z0 z1 hsd h11 ho1 ho2
            go_wp2_with fail
            go_roundw
            case rel => exact ⟨q + 1, _, _, by omega, hx6 _ _, by go_num, by rw [hstep]; simp only [if_true]; go_num, by rw [hstep]; exact hR6⟩
            case measure => simp [intOf]; omega
        · have i2 : ¬ (k : Int) < (kn : Int) := by omega
          have hbk : s1.back keep q k = { s1 with now := upd s1.now q (s1.sure q) } := by unfold RS.back; rw [hw, lost_last (by rw [HKL.out]; omega)]; rfl
          have cb := bring_any 0 2 wr (by omega) (by omega) (by omega) (by omega)
          rw [hw] at hstep
          clear hw
          go_wp2_with fail
          refine cb.mono ?_
          clear cb
          rintro e w' ⟨rfl, rfl⟩
          go_wp2_with fail
          go_region_held3 (fun W => W.cell? ⟨r, 0, none⟩ = some (.slice (some ⟨B, 0, none⟩) s.n cap) ∧ W.cell? ⟨B, q * 3 + 1, none⟩ = some (.slice o.sA 128 o.sc)) (first | exact ⟨c0, x1⟩ | exact ⟨e0, e2⟩ | exact ⟨f0', z1⟩)
            (first
              | (go_at_call 82
                 refine (copyBytes_any _ _ _ _ _ hsd0 (by omega)).mono ?_
                 rintro e w4 ⟨A4, c4, rfl, hown4, hbel4⟩
                 have hx5 := fun u => (hxr.kept (Kept.drew [] _) (by simp)).through1 (Kept.of_below (F := []) hbel4) hXB (q * 3) u
                 obtain ⟨hs4, hA4⟩ := ClonePost.sl hown4
                 have hR4 := hRd0.kept' (Kept.of_below (F := []) hbel4)
                 obtain ⟨e1, e2, e3⟩ := hR4.at_.row.cell ho
                 have ef := hR4.at_.row.frozen
                 obtain ⟨e0, _, _, _, _, _, _⟩ := hR4.at_.cells
                 rw [hR4.at_.len, hgn] at e0
                 have hR5 := hR4.putNow hs4 (fun p hp => ⟨Nat.le_trans hRd0.kept.size (hA4 p hp), fun hm => by have h1 := hRd0.at_.lt _ hm; have h2 := hA4 p hp; omega⟩) ho
                 obtain ⟨z0, z1, z2⟩ := hR5.at_.row.cell (i := q) (List.getElem?_set_self (List.getElem?_eq_some_iff.1 ho).1)
                 obtain ⟨f0, _, _, _, _, _, _⟩ := hR5.at_.cells
                 rw [hR5.at_.len] at f0
                 have f0' : (w4.setCell ⟨B, q * 3, none⟩ (.slice A4 128 c4)).cell? ⟨r, 0, none⟩ = some (.slice (some ⟨B, 0, none⟩) s.n cap) := by rw [f0]; show some (Value.slice _ s1.n cap) = _; rw [hgn]
                 clear f0 hown4 hbel4 hA4 hs4))
          have hx9 := hx5 (.slice A4 128 c4)
          clear hR4 hRd0 e0 e1 e2 e3 ef z0 z1 z2 f0' hsd0 hx5 c0 x0 x1 x2 xf

          go_wp2_with fail
          have hR1 := hR5
          rw [← hbk] at hR1
          clear hbk
          obtain ⟨o1, ho1, h11⟩ := hR1.at_.at_ (i := q) (by rw [RS.back_n]; omega)
          obtain ⟨y0, y1, y2⟩ := hR1.at_.row.cell ho1
          have yf := hR1.at_.row.frozen
          obtain ⟨d0, _, _, _, _, _, _⟩ := hR1.at_.cells
          rw [hR1.at_.len, RS.back_n, hgn] at d0
          have hRd := hR1.kept' (Kept.drew [] _)
          have hsd := h11.now.kept (Kept.drew [] _) (by simp)
          clear y1 y2
          go_wp2_with fail
          go_region_held3 (fun W => W.cell? ⟨r, 0, none⟩ = some (.slice (some ⟨B, 0, none⟩) s.n cap) ∧ W.cell? ⟨B, q * 3, none⟩ = some (.slice o1.nA 128 o1.nc)) (first | exact ⟨d0, y0⟩ | exact ⟨e0, e1⟩ | exact ⟨f0', z0⟩)
            (first
              | (go_at_call 82
                 refine (copyBytes_any _ _ _ _ _ hsd (by omega)).mono ?_
                 rintro e w4 ⟨A4, c4, rfl, hown4, hbel4⟩
                 have hx6 := fun u v => (hx9.kept (Kept.drew [] _) (by simp)).through (Kept.of_below (F := []) hbel4) hXB (q * 3 + 1) (q * 3 + 2) u v
                 obtain ⟨hs4, hA4⟩ := ClonePost.sl hown4
                 have hR4 := hRd.kept' (Kept.of_below (F := []) hbel4)
                 obtain ⟨e1, e2, e3⟩ := hR4.at_.row.cell ho1
                 have ef := hR4.at_.row.frozen
                 obtain ⟨e0, _, _, _, _, _, _⟩ := hR4.at_.cells
                 rw [hR4.at_.len, RS.back_n, hgn] at e0
                 have hR5 := hR4.putSure hs4 (fun p hp => ⟨Nat.le_trans hRd.kept.size (hA4 p hp), fun hm => by have h1 := hRd.at_.lt _ hm; have h2 := hA4 p hp; omega⟩) ho1
                 obtain ⟨z0, z1, z2⟩ := hR5.at_.row.cell (i := q) (List.getElem?_set_self (List.getElem?_eq_some_iff.1 ho1).1)
                 obtain ⟨f0, _, _, _, _, _, _⟩ := hR5.at_.cells
                 rw [hR5.at_.len] at f0
                 have f0' : (w4.setCell ⟨B, q * 3 + 1, none⟩ (.slice A4 128 c4)).cell? ⟨r, 0, none⟩ = some (.slice (some ⟨B, 0, none⟩) s.n cap) := by rw [f0]; show some (Value.slice _ (s1.back keep q k).n cap) = _; rw [RS.back_n, hgn]
                 clear f0 hown4 hbel4 hA4 hs4))
          have ho2 := List.getElem?_set_self (a := ({ o1 with sA := A4, sc := c4 } : One)) (List.getElem?_eq_some_iff.1 ho1).1
          have zf := hR5.at_.row.frozen
          have hR6 := hR5.putWrote false ho2
          clear hR4 hR5 hRd hR1 d0 y0 e0 e1 e2 e3 ef yf z0 z1 hsd h11 ho1 ho2
          go_wp2_with fail
          go_roundw
          case rel => exact ⟨q + 1, _, _, by omega, hx6 _ _, by go_num, by rw [hstep]; simp only [if_true]; go_num, by rw [hstep]; exact hR6⟩
          case measure => simp [intOf]; omega
      · have hw' : s1.wrote q = false := by simpa using hw
        rw [hw'] at x2 hstep
        have hbk : s1.back keep q k = s1 := by unfold RS.back; rw [hw']; rfl
        clear hw hw' x0 x1
        go_wp2_with fail
        have hR1 : Rn w r B cap l1 fp f1 (s1.back keep q k) wr := by rw [hbk]; exact hR
        clear hbk
        obtain ⟨o1, ho1, h11⟩ := hR1.at_.at_ (i := q) (by rw [RS.back_n]; omega)
        obtain ⟨y0, y1, y2⟩ := hR1.at_.row.cell ho1
        have yf := hR1.at_.row.frozen
        obtain ⟨d0, _, _, _, _, _, _⟩ := hR1.at_.cells
        rw [hR1.at_.len, RS.back_n, hgn] at d0
        have hRd := hR1.kept' (Kept.drew [] _)
        have hsd := h11.now.kept (Kept.drew [] _) (by simp)
        clear y1 y2
        go_wp2_with fail
        go_region_held3 (fun W => W.cell? ⟨r, 0, none⟩ = some (.slice (some ⟨B, 0, none⟩) s.n cap) ∧ W.cell? ⟨B, q * 3, none⟩ = some (.slice o1.nA 128 o1.nc)) (first | exact ⟨d0, y0⟩ | exact ⟨e0, e1⟩ | exact ⟨f0', z0⟩)
          (first
            | (go_at_call 82
               refine (copyBytes_any _ _ _ _ _ hsd (by omega)).mono ?_
               rintro e w4 ⟨A4, c4, rfl, hown4, hbel4⟩
               have hx6 := fun u v => (hxr.kept (Kept.drew [] _) (by simp)).through (Kept.of_below (F := []) hbel4) hXB (q * 3 + 1) (q * 3 + 2) u v
               obtain ⟨hs4, hA4⟩ := ClonePost.sl hown4
               have hR4 := hRd.kept' (Kept.of_below (F := []) hbel4)
               obtain ⟨e1, e2, e3⟩ := hR4.at_.row.cell ho1
               have ef := hR4.at_.row.frozen
               obtain ⟨e0, _, _, _, _, _, _⟩ := hR4.at_.cells
               rw [hR4.at_.len, RS.back_n, hgn] at e0
               have hR5 := hR4.putSure hs4 (fun p hp => ⟨Nat.le_trans hRd.kept.size (hA4 p hp), fun hm => by have h1 := hRd.at_.lt _ hm; have h2 := hA4 p hp; omega⟩) ho1
               obtain ⟨z0, z1, z2⟩ := hR5.at_.row.cell (i := q) (List.getElem?_set_self (List.getElem?_eq_some_iff.1 ho1).1)
               obtain ⟨f0, _, _, _, _, _, _⟩ := hR5.at_.cells
               rw [hR5.at_.len] at f0
               have f0' : (w4.setCell ⟨B, q * 3 + 1, none⟩ (.slice A4 128 c4)).cell? ⟨r, 0, none⟩ = some (.slice (some ⟨B, 0, none⟩) s.n cap) := by rw [f0]; show some (Value.slice _ (s1.back keep q k).n cap) = _; rw [RS.back_n, hgn]
               clear f0 hown4 hbel4 hA4 hs4))
        have ho2 := List.getElem?_set_self (a := ({ o1 with sA := A4, sc := c4 } : One)) (List.getElem?_eq_some_iff.1 ho1).1
        have zf := hR5.at_.row.frozen
        have hR6 := hR5.putWrote false ho2
        clear hR4 hR5 hRd hR1 d0 y0 e0 e1 e2 e3 ef yf z0 z1 hsd h11 ho1 ho2
        go_wp2_with fail
        go_roundw
        case rel => exact ⟨q + 1, _, _, by omega, hx6 _ _, by go_num, by rw [hstep]; rfl, by rw [hstep]; exact hR6⟩
        case measure => simp [intOf]; omega
    · have i1 : ¬ (q : Int) < (s.n : Int) := by omega
      obtain rfl : q = s.n := by omega
      obtain ⟨_, c1, c3, _, c5, c6, cf⟩ := hR.at_.cells
      clear i1 hlt
      have i1 : ¬ (s.n : Int) < (s.n : Int) := by omega
      have hk9 : Kept [r] wr ((((wr.setCell ⟨r, 5, none⟩ (.bool true)).setCell ⟨r, 1, none⟩ (.int .i64 (-1))).setCell ⟨r, 3, none⟩ (.int .i64 (-1))).setCell ⟨r, 6, none⟩ (.bool false)) :=
        (((Kept.setCell (by simp) _).trans (Kept.setCell (by simp) _)).trans (Kept.setCell (by simp) _)).trans (Kept.setCell (by simp) _)
      have hR9 := hR.head (hR.at_.rehead (s' := { s1 with dead := true, fail := -1, till := -1, refuses := false }) hk9 ⟨rfl, rfl, rfl, rfl⟩ rfl (fun KA kn kc hb => by rw [heap_set (heap_set (heap_set (heap_set hb _ _) _ _) _ _)]; rfl)) hk9
      go_wp2_with fail
      go_end0
      rw [RS.gone, hg]
      exact hR9.post _
end Go.Proofs.Ytbnflbkaogpnbaa
