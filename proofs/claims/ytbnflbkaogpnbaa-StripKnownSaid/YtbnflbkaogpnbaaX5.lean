/- The document's device: Write, where nothing stands in the way. -/
import Derived.Test.YtbnflbkaogpnbaaX4
namespace Go.Proofs.Ytbnflbkaogpnbaa
open Go.RowKit

/-- A work is done, or the power goes in its midst. -/
def RS.work (s : RS) : RS × Int := if s.fail = 0 then (s.fails.gone s.keep, 100) else (s.fails.done, 0)

theorem Rn.refKeep {w0 wr : World} {r B cap : Nat} {l : List One} {fp0 fp : List Nat} {s : RS} (h : Rn w0 r B cap l fp0 fp s wr) :
    ∃ KA kn kc, wr.cell? ⟨r, 2, none⟩ = some (.slice KA kn kc) ∧ SlAt wr KA kn kc (s.keep.map i64v) ∧ (∀ p, KA = some p → 0 < kn → p.block ∈ fp → p.block ≠ r ∧ p.block ≠ B) ∧ ∀ n ∈ s.keep, I64 n := by
  obtain ⟨KA, kn, kc, hh⟩ := h.at_.head
  exact ⟨KA, kn, kc, by rw [blk_cell hh.blk]; rfl, hh.keep, fun p hp _ _ => (hh.kb p hp).2, hh.ki⟩

set_option maxHeartbeats 2000000 in
set_option maxRecDepth 100000 in
theorem refWrite_ok {w : World} {r B cap : Nat} {l : List One} {fp : List Nat} {s : RS} (h : RefAt w r B cap l fp s) (i : Int) (A : Option Addr) (c : Nat) (b : Blk) (hs : SlAt w A 128 c (u8vs b)) (hz : s.stops i 128 = 0) (hf : s.Fine) :
    Calls Try.prog 76 #[.pointer (some ⟨r, 0, none⟩), .int .i64 i, .slice A 128 c] w (RfPost w r fp ((s.midst i.toNat b).work).1 (.int .i64 ((s.midst i.toNat b).work).2)) := by
  obtain ⟨c0, _, _, _, c5, c6, _⟩ := h.cells
  rw [h.len] at c0
  have hn := h.nmax
  have hle := h.row.le; have hlm := h.row.max
  rw [h.len] at hle
  unfold maxLen at hlm
  unfold RS.stops at hz
  have hd : s.dead = false := by
    by_cases hd : s.dead = true
    · rw [if_pos hd] at hz; exact absurd hz (by omega)
    · simpa using hd
  rw [hd] at hz c5
  simp only [Bool.false_eq_true, if_false] at hz
  have hi : ¬ (i < 0 ∨ (s.n : Int) ≤ i) := fun hi => by rw [if_pos hi] at hz; exact absurd hz (by omega)
  rw [if_neg hi] at hz
  simp only [ne_eq, not_true_eq_false, if_false] at hz
  have hr : s.refuses = false := by
    by_cases hr : s.refuses = true
    · rw [if_pos hr] at hz; exact absurd hz (by omega)
    · simpa using hr
  rw [hr] at c6
  obtain ⟨q, rfl⟩ : ∃ q : Nat, i = q := ⟨i.toNat, by omega⟩
  rw [Int.toNat_natCast]
  have hq : q < s.n := by omega
  have h0 : ¬ (q : Int) < 0 := by omega
  have h1 : ¬ (s.n : Int) ≤ (q : Int) := by omega
  have h2 : (q : Int) < (s.n : Int) := by omega
  obtain ⟨o, ho, ho1⟩ := h.at_ hq
  have hRd := (Rn.start h).kept' (Kept.drew [] w)
  have hsd := hs.kept (Kept.drew [] w) (by simp)
  have hrt := hf.ref
  rw [hr] at hrt
  have hf0 := hf.fail0; have hf1 := hf.fail1; have ht0 := hf.till0; have ht1 := hf.till1; have hw0 := hf.works0; have hw1 := hf.works1
  have ht2 : s.till = -1 ∨ 0 < s.till := by
    have : s.till ≠ 0 := by
      intro e
      rw [e] at hrt
      simp at hrt
    omega
  have HD := Lib.hid hd; have HR := Lib.hid hr
  clear hd hr hz hi hrt hf ho1
  go_enter Try.func76, Try.ntmps76
  go_wp2_with fail
  go_region_held3 (fun W => W.cell? ⟨r, 0, none⟩ = some (.slice (some ⟨B, 0, none⟩) s.n cap)) (first | exact c0 | exact e0 | exact f0')
    (first
      | (go_at_call 82
         refine (copyBytes_any _ _ _ _ _ hsd (by omega)).mono ?_
         rintro e w4 ⟨A4, c4, rfl, hown4, hbel4⟩
         obtain ⟨hs4, hA4⟩ := ClonePost.sl hown4
         have hR4 := hRd.kept' (Kept.of_below (F := []) hbel4)
         obtain ⟨e1, e2, e3⟩ := hR4.at_.row.cell ho
         have ef := hR4.at_.row.frozen
         obtain ⟨e0, _, _, _, _, _, _⟩ := hR4.at_.cells
         rw [hR4.at_.len] at e0
         have hR5 := hR4.putNow hs4 (fun p hp => ⟨Nat.le_trans hRd.kept.size (hA4 p hp), fun hm => by have h1 := hRd.at_.lt _ hm; have h2 := hA4 p hp; omega⟩) ho
         obtain ⟨z0, z1, z2⟩ := hR5.at_.row.cell (i := q) (List.getElem?_set_self (List.getElem?_eq_some_iff.1 ho).1)
         obtain ⟨f0', _, _, _, _, _, _⟩ := hR5.at_.cells
         rw [hR5.at_.len] at f0'
         clear hown4 hbel4 hA4 hs4))
  have ho2 := List.getElem?_set_self (a := ({ o with nA := A4, nc := c4 } : One)) (List.getElem?_eq_some_iff.1 ho).1
  have zf := hR5.at_.row.frozen
  have hR6 := hR5.putWrote true ho2
  rw [show ({ ({ s with now := upd s.now q b } : RS) with wrote := upd ({ s with now := upd s.now q b } : RS).wrote q true } : RS) = s.midst q b from rfl] at hR6
  have cf := refFails_any hR6.at_ hf0 hf1
  clear hR4 hR5 hRd hsd ho ho2 c0 e0 e1 e2 e3 ef z0 z1
  go_wp2_with fail
  refine cf.mono ?_
  clear cf f0' z2 zf
  rintro e w7 ⟨rfl, hR7', hk7⟩
  have hR7 := hR6.head hR7' hk7
  by_cases hfz : s.fail = 0
  · rw [show decide ((s.midst q b).fail = 0) = true from decide_eq_true hfz]
    have hwk : (s.midst q b).work = ((s.midst q b).fails.gone (s.midst q b).keep, 100) := if_pos (by exact hfz)
    obtain ⟨KA, kn, kc, k2, hx, hX, hki⟩ := hR7.refKeep
    have cg := refGone_any hR7.at_ KA kn kc _ hx hX hki
    have HZ := Lib.hid hfz
    have HW := Lib.hid hwk
    clear hfz hwk hR6 hR7' hk7
    go_wp2_with fail
    refine cg.mono ?_
    clear cg
    rintro e w8 hp
    obtain ⟨rfl, B8, cap8, l8, f8, hR8, hk8, hn8⟩ := hp
    have hR9 := hR7.full hR8 hk8 hn8
    go_wp2_with fail
    go_ret
    rw [HW.out]
    exact hR9.post _
  · have hwk : (s.midst q b).work = ((s.midst q b).fails.done, 0) := if_neg (by exact hfz)
    rw [show decide ((s.midst q b).fail = 0) = false from decide_eq_false hfz]
    have cd := refDone_any hR7.at_ ht2 ht1 HR.out hw0 hw1
    have HW := Lib.hid hwk
    clear hwk hR6 hR7' hk7
    go_wp2_with fail
    refine cd.mono ?_
    clear cd
    rintro e w8 ⟨rfl, hR8, hk8⟩
    have hR9 := hR7.head hR8 hk8
    go_wp2_with fail
    go_ret
    rw [HW.out]
    exact hR9.post _
end Go.Proofs.Ytbnflbkaogpnbaa
