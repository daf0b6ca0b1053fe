/- slices.Grow of nil, slices.Concat of rows of bytes. -/
import Derived.Test.YtbnflbkaogpnbaaU3
import Derived.Lib.AppendZerosOnto
import Derived.Lib.Walk
import Derived.Lib.SliceRun
namespace Go.Proofs.Ytbnflbkaogpnbaa
open Go.RowKit

def GrowPost (w : World) (e : Ending) (w' : World) : Prop :=
  ∃ G, e = .returned (.slice (some ⟨w.heap.size, 0, none⟩) 0 G) ∧ w'.ownsRow w.heap.size 5 1 (.slice (some ⟨w.heap.size, 0, none⟩) 0 G) 0 (u8vs []) ∧ Kept [] w w'

set_option maxHeartbeats 1000000 in
theorem grow_any (n : Nat) (w : World) (h0 : 0 < n) (h1 : n ≤ 100000000) : Calls Try.prog 111 #[.slice none 0 0, .int .i64 n] w (GrowPost w) := by
  obtain ⟨j0, hj0, ju0, ju1, ju2⟩ := info_parts info_u8
  have hold : (Builtin.firstCells j0.size 0 (.slice none 0 0)).run Try.prog w.drew = .ok ([] : List Value).toArray w.drew := run_firstCells_none w.drew j0.size 0 0 0
  have hrz : ∀ ty, (Builtin.append_ #[34, 3] ty #[.slice none 0 0, .int .i64 (n : Int)]).run Try.prog w =
      .ok (.slice (some ⟨w.heap.size, 0, none⟩) n (grownCap w n 0 5)) (w.drew.alloc (.cells (#[] ++ Builtin.zeroCells #[.int .u8 0] n ++ Builtin.zeroCells #[.int .u8 0] (grownCap w n 0 5 - n)) 5)) := fun ty => by
    have h := Lib.run_append_grow_zeros w 34 3 ty 5 j0 _ .i64 .i64 Try.underlying34 Try.underlying3 hj0 ju0 none 0 0 [] hold n (by omega) (by rw [ju1]; omega) (by omega) (by omega)
      (by rw [ju2]; omega) (by rw [ju2]; exact growslice_fits (by omega) (by omega))
    simpa [Value.cells] using h
  have hGn : n ≤ grownCap w n 0 5 := grownCap_ge w _ _ _
  have hGm : grownCap w n 0 5 ≤ maxLen := grownCap_le_maxLen w n 0 5 (by unfold maxLen; omega)
  generalize grownCap w n 0 5 = G at *
  have hGm2 := hGm
  unfold maxLen at hGm2
  have i1 : ¬ (n : Int) < 0 := by omega
  have i2 : 0 < (n : Int) := by omega
  clear hold
  go_enter Try.func111, Try.ntmps111
  go_wp2_with (at_builtin; refine Lib.wpList_append_run _ rfl _ _ _ _ rfl _ _ rfl rfl _ _ (hrz _) ?_)
  go_ret
  refine ⟨G, rfl, ⟨rfl, .inr ⟨w.heap.size, G, _, rfl, Nat.le_refl _, heap_alloc_new w.drew _, Nat.zero_le _, hGm, ?_, by simp [u8vs]⟩⟩, (Kept.drew [] w).trans (Kept.alloc [] _ _)⟩
  simp [size_zeroCells]
  omega

/-- A row of bytes, one of several. -/
structure Part where
  A : Option Addr
  n : Nat
  c : Nat
  xs : List UInt8

def Part.val (p : Part) : Value := .slice p.A p.n p.c
def Part.At (w : World) (p : Part) : Prop := SlAt w p.A p.n p.c (u8vs p.xs) ∧ (p.A = none → p.c = 0)
def total : List Part → Nat
  | [] => 0
  | p :: l => p.n + total l
def allB (l : List Part) : List UInt8 := l.flatMap Part.xs

theorem Part.At.kept {w w' : World} {p : Part} {F : List Nat} (h : p.At w) (hk : Kept F w w') (hF : ∀ a, p.A = some a → a.block ∉ F) : p.At w' := ⟨h.1.kept hk hF, h.2⟩

theorem total_append (l m : List Part) : total (l ++ m) = total l + total m := by
  induction l with
  | nil => simp [total]
  | cons p l ih => simp only [List.cons_append, total, ih]; omega

theorem take_part {l : List Part} {k : Nat} {p : Part} (h : l[k]? = some p) : l.take (k + 1) = l.take k ++ [p] := by
  obtain ⟨hk, e⟩ := List.getElem?_eq_some_iff.1 h
  rw [List.take_succ_eq_append_getElem hk, e]

theorem total_take_le (l : List Part) (k : Nat) : total (l.take k) ≤ total l := by
  have := total_append (l.take k) (l.drop k)
  rw [List.take_append_drop] at this
  omega

def CatRel1 (w : World) (l : List Part) (s i : Value) (wr : World) : Prop := ∃ k : Nat, k ≤ l.length ∧ i = .int .i64 k ∧ s = .int .i64 (total (l.take k) : Nat) ∧ wr = w
def CatRel2 (w : World) (l : List Part) (v i : Value) (wr : World) : Prop :=
  ∃ (k : Nat) (A : Option Addr) (c : Nat), k ≤ l.length ∧ i = .int .i64 k ∧ v = .slice A (total (l.take k)) c ∧ wr.ownsRow w.heap.size 5 1 (.slice A (total (l.take k)) c) (total (l.take k)) (u8vs (allB (l.take k))) ∧ Kept [] w wr

set_option maxHeartbeats 1000000 in
set_option maxRecDepth 100000 in
theorem concat_any (w : World) (g o m c : Nat) (l : List Part) (hl : l.length = m) (hg : g < w.heap.size) (hmc : m ≤ c) (hm : m ≤ 1000) (hc : ∀ i p, l[i]? = some p → w.cell? ⟨g, o + i, none⟩ = some p.val) (hp : ∀ p ∈ l, p.At w)
    (h0 : 0 < total l) (h1 : total l ≤ 100000000) : Calls Try.prog 85 #[.slice (some ⟨g, o, none⟩) m c] w (ClonePost w 5 (total l) (u8vs (allB l))) := by
  have HL := Lib.hid hl
  clear hl
  go_enter Try.func85, Try.ntmps85
  go_wp2_with fail
  go_loopw [3, 11] (fun s i wr => CatRel1 w l s i wr) (fun _ i _ => m - (intOf i).toNat)
  case atStart => exact ⟨0, by omega, rfl, rfl, rfl⟩
  case round =>
    obtain ⟨k, hk, rfl, rfl, rfl⟩ := hrel
    rename World => w0
    have hk' : k ≤ m := by rw [← HL.out]; exact hk
    by_cases hlt : k < m
    · obtain ⟨p, hpk⟩ : ∃ p, l[k]? = some p := ⟨_, List.getElem?_eq_getElem (by rw [HL.out]; exact hlt)⟩
      have i1 : (k : Int) < (m : Int) := by omega
      have hcp := hc k p hpk
      unfold Part.val at hcp
      have htk := total_append (l.take k) [p]
      rw [← take_part hpk] at htk
      have hle := total_take_le l (k + 1)
      have i2 : ¬ ((total (l.take k) : Int) + (p.n : Int)) < 0 := by omega
      simp only [total, Nat.add_zero] at htk
      have HT := Lib.hid htk
      have e3 : ((total (l.take k) : Nat) : Int) + (p.n : Int) = ((total (l.take (k + 1)) : Nat) : Int) := by omega
      have i3 : ¬ (((total (l.take (k + 1)) : Nat) : Int)) < 0 := by omega
      clear hpk htk
      go_wp2_with fail
      go_roundw
      case rel => exact ⟨k + 1, by rw [HL.out]; omega, by go_num, by first | rfl | (rw [← e3]) | go_num, rfl⟩
      case measure => simp [intOf]; omega
    · have i1 : ¬ (k : Int) < (m : Int) := by omega
      obtain rfl : k = m := by omega
      have ht : l.take k = l := List.take_of_length_le (by rw [HL.out]; exact Nat.le_refl _)
      rw [ht]
      have cg := grow_any (total l) w0 h0 h1
      go_wp2_with fail
      refine cg.mono ?_
      rintro e w1 ⟨G, rfl, hown1, hk1⟩
      have hgs := hk1.size
      have hc1 := fun i p (h : l[i]? = some p) => (hk1.cell (p := ⟨g, o + i, none⟩) hg (by simp)).trans (hc i p h)
      clear cg
      go_wp2_with fail
      go_loopw [6, 27] (fun v i wx => CatRel2 w0 l v i wx) (fun _ i _ => k - (intOf i).toNat)
      case atStart => exact ⟨0, _, _, by omega, rfl, rfl, hown1, hk1⟩
      case round =>
        obtain ⟨j, A1, c1, hj, rfl, rfl, hown2, hk2⟩ := hrel
        have hj' : j ≤ k := by rw [← HL.out]; exact hj
        by_cases hlt2 : j < k
        · obtain ⟨p, hpk⟩ : ∃ p, l[j]? = some p := ⟨_, List.getElem?_eq_getElem (by rw [HL.out]; exact hlt2)⟩
          have i2 : (j : Int) < (k : Int) := by omega
          have hcp := (hk2.cell (p := ⟨g, o + j, none⟩) hg (by simp)).trans (hc j p hpk)
          unfold Part.val at hcp
          have hpa := (hp p (List.mem_of_getElem? hpk)).kept hk2 (by simp)
          have htk := total_append (l.take j) [p]
          rw [← take_part hpk] at htk
          have hle := total_take_le l (j + 1)
          simp only [total, Nat.add_zero] at htk
          have hall : allB (l.take (j + 1)) = allB (l.take j) ++ p.xs := by rw [take_part hpk]; simp [allB]
          have HT := Lib.hid htk
          have hsz2 := hk2.size
          have hsum : total (l.take j) + p.n ≤ 140737488355328 := by omega
          clear hpk htk
          go_wp2_with (refine wpList_append_u8 rfl (.tmp 31) (.tmp 32) rfl w0.heap.size _ (total (l.take j)) (allB (l.take j)) rfl hown2 p.A p.n p.c p.xs rfl hpa.1 hpa.2 hsum hsz2 ?_; intro A3 c3 w3 hown3 hgrow3 hA3)
          go_roundw
          case rel =>
            refine ⟨j + 1, A3, c3, by rw [HL.out]; omega, by go_num, by rw [HT.out], by rw [hall, HT.out]; exact hown3, hk2.trans' (Kept.grown (F := (Value.slice A1 (total (l.take j)) c1).ownBlock.toList) hgrow3 (fun i e => by
              have e' : (Value.slice A1 (total (l.take j)) c1).ownBlock = some i := e
              rw [e']; simp)) (fun i hi => .inr ?_)⟩
            exact (hown2.lt i (by simpa using hi)).1
          case measure => simp [intOf]; omega
        · have i2 : ¬ (j : Int) < (k : Int) := by omega
          obtain rfl : j = k := by omega
          rw [ht] at hown2
          go_wp2_with fail
          go_ret
          exact ClonePost.mk hown2 (hk2.below (Nat.le_refl _) (by simp))
end Go.Proofs.Ytbnflbkaogpnbaa
