/- StripDoes, for all places and deeds. -/
import Derived.Test.YtbnflbkaogpnbaaN9
import Derived.Test.YtbnflbkaogpnbaaQA
namespace Go.Proofs.Ytbnflbkaogpnbaa
set_option linter.unusedVariables false
open Go.RowKit

def SdRel12 (w : World) (p a r : Nat) (f m : Int) (i : Value) (wr : World) : Prop :=
  ∃ (k : Nat) (sure : Int) (d : Dev) (os : Option St), i = .int .i64 k ∧ k ≤ 40 ∧ PrX w wr p a r f m sure d os k

theorem rs_new (n : Nat) : (RS.new n).Is (Dev.new n) :=
  ⟨by simp [RS.new, Dev.new], fun i hi => by simp [RS.new] at hi; simp [Dev.new, RS.new, hi], fun i hi => by simp [Dev.new, RS.new, Dev.look], fun i hi => by simp [Dev.new, RS.new, Dev.look], rfl, rfl, rfl, rfl, rfl, rfl⟩

/-- The fine of the pair is written anew. -/
theorem PrX.fine {w0 w : World} {p a r : Nat} {f m sure : Int} {d : Dev} {os : Option St} {k : Nat} (h : PrX w0 w p a r f m sure d os k) : PrX w0 (w.setCell ⟨p, 7, none⟩ (.bool true)) p a r f m sure d os k := by
  obtain ⟨vs, vm, fp, gp, S, G, t, hP⟩ := h.ex
  obtain ⟨t', hP'⟩ := hP.own (Kept.setCell (F := [p]) (by simp) _) (sure' := sure) (heap_set hP.head 7 (.bool true))
  exact ⟨⟨_, _, _, _, _, _, _, hP'⟩, h.wf, h.works, h.len, h.fI, h.mI, h.sI⟩

theorem PrX.fineCell {w0 w : World} {p a r : Nat} {f m sure : Int} {d : Dev} {os : Option St} {k : Nat} (h : PrX w0 w p a r f m sure d os k) : w.cell? ⟨p, 7, none⟩ = some (.bool true) ∧ (∀ i, w.frozen? ⟨p, i, none⟩ = false) ∧ Kept [] w0 w := by
  obtain ⟨vs, vm, fp, gp, S, G, t, hP⟩ := h.ex
  obtain ⟨c0, c1, c2, c3, c4, c5, c6, c7, cf⟩ := pr_cells hP.head
  exact ⟨c7, cf, hP.kept⟩

set_option maxHeartbeats 4000000 in
set_option maxRecDepth 100000 in
theorem stripDoes_any (w : World) (f m : Int) (hf : I64 f) (hm : I64 m) (A : Option Addr) (n c : Nat) (l : List D11) (hl : D11s w A n c l) (hs : ∀ x ∈ l, x.data.n ≤ 900) :
    Calls Try.prog 51 #[.agg #[.int .i64 f, .int .i64 m], .slice A n c] w (TruePost w) := by
  have hln := hl.le; have hlm := hl.max
  unfold maxLen at hlm
  go_enter Try.func51, Try.ntmps51
  go_wp2_with fail
  refine (new_any 8 _ (by omega) (by omega)).mono ?_
  rintro e w1 ⟨a, f1, rfl, hD1, hA1, hN1⟩
  go_wp2_with fail
  refine (refNew_any 8 _ (by omega) (by omega)).mono ?_
  rintro e w2 ⟨r, B, cap, l2, g1, rfl, hR2, hA2, hN2⟩
  have hkb := Kept.alloc [] w (.cells #[.int .i64 f, .int .i64 m] 74)
  have hbx : w2.heap[w.heap.size]? = some (.cells #[.int .i64 f, .int .i64 m] 74 (0, 0)) := ((hA1.trans hA2).block _ (by simp) (by simp)).trans (heap_alloc_new _ _)
  have x0 : w2.cell? ⟨w.heap.size, 0, none⟩ = some (.int .i64 f) := by rw [blk_cell hbx]; rfl
  have x1 : w2.cell? ⟨w.heap.size, 1, none⟩ = some (.int .i64 m) := by rw [blk_cell hbx]; rfl
  have hz1 := hA1.size; have hz2 := hA2.size
  have kp := Kept.alloc [] w2 (.cells (prCells f m a r (.pointer none) (.pointer none) 0 true) 123)
  have hbp := heap_alloc_new w2 (.cells (prCells f m a r (.pointer none) (.pointer none) 0 true) 123)
  have hRv : Rv w2 r g1 (Dev.new 8) := ⟨B, cap, l2, _, hR2, rs_new 8⟩
  have hk02 : Kept [] w w2 := (hkb.trans hA1).trans hA2
  have hzb := hkb.size
  simp at hzb
  have hP0 : Pr12 w (w2.alloc (.cells (prCells f m a r (.pointer none) (.pointer none) 0 true) 123)) w2.heap.size a r f m 0 (Dev.new 8) (Dev.new 8) none none (.pointer none) (.pointer none) f1 g1 [] [] (fun j => if j = w2.heap.size then 0 else if j ∈ f1 then 1 else 2) :=
    ⟨hbp, (hD1.new_kept hA2).new_kept kp, hRv.new_kept kp, rfl, rfl, if_pos rfl, fun j hj => by
      have h1 := hD1.lt j hj
      exact (if_neg (by omega)).trans (if_pos hj), fun j hj => by
      have h1 := hRv.lt j hj
      have h2 := hN2 j hj
      exact (if_neg (by omega)).trans (if_neg (fun hm => by have := hD1.lt j hm; omega)), by simp, by simp, fun j hj => by
      rcases hj with rfl | hj | hj | hj | hj
      · have := hk02.size; omega
      · have := hN1 j hj
        simp at this
        omega
      · have := hN2 j hj
        have := hA1.size
        simp at this
        omega
      · exact absurd hj (by simp)
      · exact absurd hj (by simp), by simp, by simp, hk02.trans kp⟩
  have hX0 : PrX w (w2.alloc (.cells (prCells f m a r (.pointer none) (.pointer none) 0 true) 123)) w2.heap.size a r f m 0 (Dev.new 8) none 0 :=
    ⟨⟨_, _, _, _, _, _, _, hP0⟩, (by simp), by show (0 : Int) ≤ _; omega, by simp [Dev.new], hf, hm, by unfold I64; omega⟩
  have co := pairOpens12_any hX0 0 (by unfold I64; omega)
  obtain ⟨W3, hW3⟩ : ∃ W3, w2.alloc (.cells (prCells f m a r (.pointer none) (.pointer none) 0 true) 123) = W3 := ⟨_, rfl⟩
  rw [hW3] at co hX0
  unfold prCells at hW3
  clear hP0 hRv hR2 hbp kp hD1 hN1 hN2 hbx
  go_wp2_with fail
  try rw [hW3]
  clear hW3
  generalize w2.heap.size = p at *
  refine co.mono ?_
  rintro e w4 ⟨rfl, os4, hX4⟩
  clear co hX0
  have k04 := hX4.fineCell.2.2
  go_wp2_with fail
  go_loopw [10] (fun i wr => SdRel12 w p a r f m i wr) (fun i _ => 40 - (intOf i).toNat)
  case atStart => exact ⟨0, _, _, _, rfl, by omega, hX4⟩
  case round =>
    obtain ⟨k, sure, d, os, rfl, hk, hX⟩ := hrel
    obtain ⟨x7, xf, hk0⟩ := hX.fineCell
    clear hX4
    by_cases hlt : k < n ∧ k < 40
    · have i1 : (k : Int) < (n : Int) := by omega
      have i2 : (k : Int) < 40 := by omega
      obtain ⟨b, o, x, hA, hbl, hpl, hok0, hc0, hc1, hc2, hc3⟩ := hl.at_ hlt.1
      have e : ∀ j, wr.cell? ⟨b, j, none⟩ = w.cell? ⟨b, j, none⟩ := fun j => hk0.cell (p := ⟨b, j, none⟩) hbl (by simp)
      rw [← e] at hc0 hc1 hc2 hc3
      subst hA
      unfold Part.val at hc2
      have cs := pairStep12_any hX (by omega) x hok0 (hs x (List.mem_of_getElem? hpl))
      unfold D11.val D11.cells at cs
      clear e hpl
      go_wp2_with fail
      refine cs.mono ?_
      rintro e w5 ⟨rfl, sure5, d5, os5, hX5⟩
      obtain ⟨y7, yf, -⟩ := hX5.fineCell
      have ct := pairTells12_any hX5
      clear cs
      go_wp2_with fail
      refine ct.mono ?_
      rintro e w6 ⟨rfl, hk6⟩
      have hX6 := hX5.next hk6
      obtain ⟨z7, zf, -⟩ := hX6.fineCell
      have hX7 := hX6.fine
      clear ct
      go_wp2_with fail
      go_roundw
      case rel => exact ⟨k + 1, _, _, _, by go_num, by omega, hX7⟩
      case measure => simp [intOf]; omega
    · have hcase : ¬ (k : Int) < (n : Int) ∨ ((k : Int) < (n : Int) ∧ ¬ (k : Int) < 40) := by omega
      rcases hcase with i1 | ⟨i1, i2⟩
      all_goals
        go_wp2_with fail
        refine (awake12_any _).mono ?_
        rintro e w5 ⟨rfl, hk5⟩
        go_wp2_with fail
        go_ret
        exact ⟨rfl, hk0.trans hk5⟩
end Go.Proofs.Ytbnflbkaogpnbaa
