/- SlotsDo, for all first sectors and deeds. -/
import Derived.Test.YtbnflbkaogpnbaaGB
import Derived.Test.YtbnflbkaogpnbaaO7
namespace Go.Proofs.Ytbnflbkaogpnbaa
set_option linter.unusedVariables false
open Go.RowKit

def SyRel (w : World) (p a r : Nat) (f : Int) (i : Value) (wr : World) : Prop :=
  ∃ (k : Nat) (d : Dev) (os : Option Sl), i = .int .i64 k ∧ k ≤ 40 ∧ PrY w wr p a r f d os k

theorem PrY.fine {w0 w : World} {p a r : Nat} {f : Int} {d : Dev} {os : Option Sl} {k : Nat} (h : PrY w0 w p a r f d os k) : PrY w0 (w.setCell ⟨p, 4, none⟩ (.bool true)) p a r f d os k := by
  obtain ⟨vs, vm, fp, gp, S, G, t, hP⟩ := h.ex
  obtain ⟨t', hP'⟩ := hP.fine
  exact ⟨⟨_, _, _, _, _, _, _, hP'⟩, h.wf, h.works, h.len, h.fI⟩

theorem PrY.fineCell {w0 w : World} {p a r : Nat} {f : Int} {d : Dev} {os : Option Sl} {k : Nat} (h : PrY w0 w p a r f d os k) : w.cell? ⟨p, 4, none⟩ = some (.bool true) ∧ (∀ i, w.frozen? ⟨p, i, none⟩ = false) ∧ Kept [] w0 w := by
  obtain ⟨vs, vm, fp, gp, S, G, t, hP⟩ := h.ex
  obtain ⟨c0, c1, c2, c3, c4, cf⟩ := pr11_cells hP.head
  exact ⟨c4, cf, hP.kept⟩

set_option maxHeartbeats 4000000 in
set_option maxRecDepth 100000 in
theorem slotsDo_any (w : World) (f : Int) (hf : I64 f) (A : Option Addr) (n c : Nat) (l : List D11) (hl : D11s w A n c l) (hs : ∀ x ∈ l, x.data.n ≤ 900) :
    Calls Try.prog 57 #[.int .i64 f, .slice A n c] w (TruePost w) := by
  have hln := hl.le; have hlm := hl.max
  unfold maxLen at hlm
  go_enter Try.func57, Try.ntmps57
  go_wp2_with fail
  refine (new_any 4 _ (by omega) (by omega)).mono ?_
  rintro e w1 ⟨a, f1, rfl, hD1, hA1, hN1⟩
  go_wp2_with fail
  refine (refNew_any 4 _ (by omega) (by omega)).mono ?_
  rintro e w2 ⟨r, B, cap, l2, g1, rfl, hR2, hA2, hN2⟩
  have hz1 := hA1.size; have hz2 := hA2.size
  have kp := Kept.alloc [] w2 (.cells (prCells11 a r (.pointer none) (.pointer none) true) 133)
  have hbp := heap_alloc_new w2 (.cells (prCells11 a r (.pointer none) (.pointer none) true) 133)
  have hRv : Rv w2 r g1 (Dev.new 4) := ⟨B, cap, l2, _, hR2, rs_new 4⟩
  have hk02 : Kept [] w w2 := hA1.trans hA2
  have hP0 : Pr11 w (w2.alloc (.cells (prCells11 a r (.pointer none) (.pointer none) true) 133)) w2.heap.size a r (Dev.new 4) (Dev.new 4) none none (.pointer none) (.pointer none) f1 g1 [] [] (fun j => if j = w2.heap.size then 0 else if j ∈ f1 then 1 else 2) :=
    ⟨hbp, (hD1.new_kept hA2).new_kept kp, hRv.new_kept kp, rfl, rfl, if_pos rfl, fun j hj => by
      have h1 := hD1.lt j hj
      exact (if_neg (by omega)).trans (if_pos hj), fun j hj => by
      have h1 := hRv.lt j hj
      have h2 := hN2 j hj
      exact (if_neg (by omega)).trans (if_neg (fun hm => by have := hD1.lt j hm; omega)), by simp, by simp, fun j hj => by
      rcases hj with rfl | hj | hj | hj | hj
      · have := hk02.size; omega
      · exact hN1 j hj
      · have h1 := hN2 j hj
        have h2 := hA1.size
        omega
      · exact absurd hj (by simp)
      · exact absurd hj (by simp), by simp, by simp, hk02.trans kp⟩
  have hX0 : PrY w (w2.alloc (.cells (prCells11 a r (.pointer none) (.pointer none) true) 133)) w2.heap.size a r f (Dev.new 4) none 0 :=
    ⟨⟨_, _, _, _, _, _, _, hP0⟩, (by simp), by show (0 : Int) ≤ _; omega, by simp [Dev.new], hf⟩
  have co := pairOpens11_any hX0
  obtain ⟨W3, hW3⟩ : ∃ W3, w2.alloc (.cells (prCells11 a r (.pointer none) (.pointer none) true) 133) = W3 := ⟨_, rfl⟩
  rw [hW3] at co hX0
  unfold prCells11 at hW3
  clear hP0 hRv hR2 hbp kp hD1 hN1 hN2
  go_wp2_with fail
  try rw [hW3]
  clear hW3
  generalize w2.heap.size = p at *
  refine co.mono ?_
  rintro e w4 ⟨rfl, os4, hX4⟩
  clear co hX0
  have k04 := hX4.fineCell.2.2
  go_wp2_with fail
  go_loopw [10] (fun i wr => SyRel w p a r f i wr) (fun i _ => 40 - (intOf i).toNat)
  case atStart => exact ⟨0, _, _, rfl, by omega, hX4⟩
  case round =>
    obtain ⟨k, d, os, rfl, hk, hX⟩ := hrel
    obtain ⟨x7, xf, hk0⟩ := hX.fineCell
    clear hX4
    by_cases hlt : k < n ∧ k < 40
    · have i1 : (k : Int) < (n : Int) := by omega
      have i2 : (k : Int) < 40 := by omega
      obtain ⟨b, o, x, hA, hbl, hpl, hok0, hc0, hc1, hc2, hc3⟩ := hl.at_ hlt.1
      have e : ∀ j, wr.cell? ⟨b, j, none⟩ = w.cell? ⟨b, j, none⟩ := fun j => hk0.cell (p := ⟨b, j, none⟩) hbl (by simp)
      rw [← e] at hc0 hc1 hc2 hc3
      subst hA
      unfold Part.val at hc2
      have cs := pairStep11_any hX (by omega) x hok0 (hs x (List.mem_of_getElem? hpl))
      unfold D11.val D11.cells at cs
      clear e hpl
      go_wp2_with fail
      refine cs.mono ?_
      rintro e w5 ⟨rfl, d5, os5, hX5⟩
      obtain ⟨y7, yf, -⟩ := hX5.fineCell
      have ct := pairTells11_any hX5
      clear cs
      go_wp2_with fail
      refine ct.mono ?_
      rintro e w6 ⟨rfl, hk6⟩
      have hX6 := hX5.next hk6
      obtain ⟨z7, zf, -⟩ := hX6.fineCell
      have hX7 := hX6.fine
      clear ct
      go_wp2_with fail
      go_roundw
      case rel => exact ⟨k + 1, _, _, by go_num, by omega, hX7⟩
      case measure => simp [intOf]; omega
    · have hcase : ¬ (k : Int) < (n : Int) ∨ ((k : Int) < (n : Int) ∧ ¬ (k : Int) < 40) := by omega
      rcases hcase with i1 | ⟨i1, i2⟩
      all_goals
        go_wp2_with fail
        refine (awake11_any _).mono ?_
        rintro e w5 ⟨rfl, hk5⟩
        go_wp2_with fail
        go_ret
        exact ⟨rfl, hk0.trans hk5⟩
end Go.Proofs.Ytbnflbkaogpnbaa
