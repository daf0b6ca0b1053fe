/- The document's device: Flush. -/
import Derived.Test.YtbnflbkaogpnbaaX5
namespace Go.Proofs.Ytbnflbkaogpnbaa
open Go.RowKit

/-- The first i sectors are sure. -/
def RS.flushTo (s : RS) : Nat → RS
  | 0 => s
  | i + 1 => { s.flushTo i with sure := upd (s.flushTo i).sure i ((s.flushTo i).now i), wrote := upd (s.flushTo i).wrote i false }

theorem RS.flushTo_same (s : RS) : ∀ i, (s.flushTo i).n = s.n ∧ (s.flushTo i).till = s.till ∧ (s.flushTo i).works = s.works ∧ (s.flushTo i).refuses = s.refuses
  | 0 => ⟨rfl, rfl, rfl, rfl⟩
  | i + 1 => RS.flushTo_same s i

/-- What stands in the way of a flush. -/
def RS.stopsF (s : RS) : Int := if s.dead then 100 else if s.refuses then 101 else 0

def RS.flush (s : RS) : RS × Int := if s.fail = 0 then (s.fails.gone s.keep, 100) else ((s.fails.flushTo s.n).done, 0)

set_option maxHeartbeats 1000000 in
theorem refFlush_no {w : World} {r B cap : Nat} {l : List One} {fp : List Nat} {s : RS} (h : RefAt w r B cap l fp s) (hs : s.stopsF ≠ 0) :
    Calls Try.prog 77 #[.pointer (some ⟨r, 0, none⟩)] w (fun e w' => e = .returned (.int .i64 s.stopsF) ∧ w = w') := by
  obtain ⟨c0, c1, c3, c4, c5, c6, cf⟩ := h.cells
  clear c0 c1 c3 c4
  unfold RS.stopsF at hs ⊢
  by_cases hd : s.dead = true
  · rw [if_pos hd]
    rw [hd] at c5
    have HD := Lib.hid hd; clear hd hs
    go_enter Try.func77, Try.ntmps77
    go_wp2
    go_ret
    exact ⟨rfl, rfl⟩
  · rw [if_neg hd] at hs ⊢
    have hd' : s.dead = false := by simpa using hd
    rw [hd'] at c5
    have HD := Lib.hid hd'; clear hd hd'
    have hr : s.refuses = true := by
      by_cases hr : s.refuses = true
      · exact hr
      · rw [if_neg hr] at hs; exact absurd rfl hs
    rw [if_pos hr]
    rw [hr] at c6
    have HR := Lib.hid hr; clear hr hs
    go_enter Try.func77, Try.ntmps77
    go_wp2
    go_ret
    exact ⟨rfl, rfl⟩

def FlRefRel (w : World) (r B cap : Nat) (fp0 : List Nat) (s : RS) (i : Value) (wr : World) : Prop :=
  ∃ (q : Nat) (l : List One) (fp : List Nat), q ≤ s.n ∧ i = .int .i64 (q : Nat) ∧ Rn w r B cap l fp0 fp (s.flushTo q) wr

set_option maxHeartbeats 2000000 in
set_option maxRecDepth 100000 in
theorem refFlush_ok {w : World} {r B cap : Nat} {l : List One} {fp : List Nat} {s : RS} (h : RefAt w r B cap l fp s) (hz : s.stopsF = 0) (hf : s.Fine) :
    Calls Try.prog 77 #[.pointer (some ⟨r, 0, none⟩)] w (RfPost w r fp s.flush.1 (.int .i64 s.flush.2)) := by
  obtain ⟨c0, _, _, _, c5, c6, _⟩ := h.cells
  rw [h.len] at c0
  have hn := h.nmax
  have hle := h.row.le; have hlm := h.row.max
  rw [h.len] at hle
  unfold maxLen at hlm
  unfold RS.stopsF at hz
  have hd : s.dead = false := by
    by_cases hd : s.dead = true
    · rw [if_pos hd] at hz; exact absurd hz (by omega)
    · simpa using hd
  rw [hd] at hz c5
  simp only [Bool.false_eq_true, if_false] at hz
  have hr : s.refuses = false := by
    by_cases hr : s.refuses = true
    · rw [if_pos hr] at hz; exact absurd hz (by omega)
    · simpa using hr
  rw [hr] at c6
  have hrt := hf.ref
  rw [hr] at hrt
  have hf0 := hf.fail0; have hf1 := hf.fail1; have ht0 := hf.till0; have ht1 := hf.till1; have hw0 := hf.works0; have hw1 := hf.works1
  have ht2 : s.till = -1 ∨ 0 < s.till := by
    have : s.till ≠ 0 := by
      intro e
      rw [e] at hrt
      simp at hrt
    omega
  have HD := Lib.hid hd; have HR := Lib.hid hr
  clear hd hr hz hrt hf
  have cf := refFails_any h hf0 hf1
  go_enter Try.func77, Try.ntmps77
  go_wp2_with fail
  refine cf.mono ?_
  clear cf
  rintro e w7 ⟨rfl, hR7', hk7⟩
  have hR7 := (Rn.start h).head hR7' hk7
  by_cases hfz : s.fail = 0
  · rw [show decide (s.fail = 0) = true from decide_eq_true hfz]
    have hwk : s.flush = (s.fails.gone s.keep, 100) := if_pos (by exact hfz)
    obtain ⟨KA, kn, kc, k2, hx, hX, hki⟩ := hR7.refKeep
    have cg := refGone_any hR7.at_ KA kn kc _ hx hX hki
    have HZ := Lib.hid hfz
    have HW := Lib.hid hwk
    clear hfz hwk hR7' hk7
    go_wp2_with fail
    refine cg.mono ?_
    clear cg
    rintro e w8 hp
    obtain ⟨rfl, B8, cap8, l8, f8, hR8, hk8, hn8⟩ := hp
    have hR9 := hR7.full hR8 hk8 hn8
    go_wp2_with fail
    go_ret
    rw [HW.out]
    exact hR9.post _
  · rw [show decide (s.fail = 0) = false from decide_eq_false hfz]
    have hwk : s.flush = ((s.fails.flushTo s.n).done, 0) := if_neg (by exact hfz)
    have HW := Lib.hid hwk
    clear hwk hR7' hk7
    have hR7 : Rn w r B cap l fp fp s.fails w7 := hR7
    go_wp2_with fail
    go_loopw [3] (fun i wr => FlRefRel w r B cap fp s.fails i wr) (fun i _ => s.n - (intOf i).toNat)
    case atStart => exact ⟨0, l, fp, Nat.zero_le _, rfl, hR7⟩
    case round =>
      clear hR7
      obtain ⟨q, l1, f1, hq, rfl, hR1⟩ := hrel
      have hq : q ≤ s.n := hq
      obtain ⟨s1, hs1⟩ : ∃ s1, s.fails.flushTo q = s1 := ⟨_, rfl⟩
      have hsm := RS.flushTo_same s.fails q
      have hstep : s.fails.flushTo (q + 1) = { s.fails.flushTo q with sure := upd (s.fails.flushTo q).sure q ((s.fails.flushTo q).now q), wrote := upd (s.fails.flushTo q).wrote q false } := rfl
      rw [hs1] at hR1 hsm hstep
      have hgn : s1.n = s.n := hsm.1
      obtain ⟨d0, _, _, _, _, _, _⟩ := hR1.at_.cells
      rw [hR1.at_.len, hgn] at d0
      by_cases hlt : q < s.n
      · have i1 : (q : Int) < (s.n : Int) := by omega
        obtain ⟨o1, ho1, h11⟩ := hR1.at_.at_ (i := q) (by omega)
        obtain ⟨y0, y1, y2⟩ := hR1.at_.row.cell ho1
        have yf := hR1.at_.row.frozen
        have hRd := hR1.kept' (Kept.drew [] _)
        have hsd := h11.now.kept (Kept.drew [] _) (by simp)
        clear y1 y2 hs1
        go_wp2_with fail
        go_region_held3 (fun W => W.cell? ⟨r, 0, none⟩ = some (.slice (some ⟨B, 0, none⟩) s.n cap) ∧ W.cell? ⟨B, q * 3, none⟩ = some (.slice o1.nA 128 o1.nc)) (first | exact ⟨d0, y0⟩ | exact ⟨e0, e1⟩ | exact ⟨f0', z0⟩)
          (first
            | (go_at_call 82
               refine (copyBytes_any _ _ _ _ _ hsd (by omega)).mono ?_
               rintro e w4 ⟨A4, c4, rfl, hown4, hbel4⟩
               obtain ⟨hs4, hA4⟩ := ClonePost.sl hown4
               have hR4 := hRd.kept' (Kept.of_below (F := []) hbel4)
               obtain ⟨e1, e2, e3⟩ := hR4.at_.row.cell ho1
               have ef := hR4.at_.row.frozen
               obtain ⟨e0, _, _, _, _, _, _⟩ := hR4.at_.cells
               rw [hR4.at_.len, hgn] at e0
               have hR5 := hR4.putSure hs4 (fun p hp => ⟨Nat.le_trans hRd.kept.size (hA4 p hp), fun hm => by have h1 := hRd.at_.lt _ hm; have h2 := hA4 p hp; omega⟩) ho1
               obtain ⟨z0, z1, z2⟩ := hR5.at_.row.cell (i := q) (List.getElem?_set_self (List.getElem?_eq_some_iff.1 ho1).1)
               obtain ⟨f0, _, _, _, _, _, _⟩ := hR5.at_.cells
               rw [hR5.at_.len] at f0
               have f0' : (w4.setCell ⟨B, q * 3 + 1, none⟩ (.slice A4 128 c4)).cell? ⟨r, 0, none⟩ = some (.slice (some ⟨B, 0, none⟩) s.n cap) := by rw [f0]; show some (Value.slice _ s1.n cap) = _; rw [hgn]
               clear f0 hown4 hbel4 hA4 hs4))
        have ho2 := List.getElem?_set_self (a := ({ o1 with sA := A4, sc := c4 } : One)) (List.getElem?_eq_some_iff.1 ho1).1
        have zf := hR5.at_.row.frozen
        have hR6 := hR5.putWrote false ho2
        clear hR4 hR5 hRd hR1 d0 y0 e0 e1 e2 e3 ef yf z0 z1 hsd h11 ho1 ho2
        go_wp2_with fail
        go_roundw
        case rel => exact ⟨q + 1, _, _, by show q + 1 ≤ s.n; omega, by go_num, by rw [hstep]; exact hR6⟩
        case measure => simp [intOf]; omega
      · have i1 : ¬ (q : Int) < (s.n : Int) := by omega
        obtain rfl : q = s.n := by omega
        clear i1 hlt
        have i1 : ¬ (s.n : Int) < (s.n : Int) := by omega
        have cd := refDone_any hR1.at_ (by rw [hsm.2.1]; exact ht2) (by rw [hsm.2.1]; exact ht1) (hsm.2.2.2.trans HR.out) (by rw [hsm.2.2.1]; exact hw0) (by rw [hsm.2.2.1]; exact hw1)
        have HS := Lib.hid hs1
        clear hs1 hstep
        go_wp2_with fail
        refine cd.mono ?_
        clear cd
        rintro e w8 ⟨rfl, hR8, hk8⟩
        have hR9 := hR1.head hR8 hk8
        go_wp2_with fail
        go_ret
        rw [HW.out, HS.out]
        exact hR9.post _
end Go.Proofs.Ytbnflbkaogpnbaa
