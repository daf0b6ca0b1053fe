/- muslinlaw12.opens. -/
import Derived.Test.YtbnflbkaogpnbaaQ1
import Derived.Lib.SlBytesRow
import Derived.Laws.BytesString
namespace Go.Proofs.Ytbnflbkaogpnbaa
open Go.RowKit

def strV (b : List UInt8) : Value := .string ⟨b.toArray⟩

theorem run_str {w : World} {A : Option Addr} {n c : Nat} {xs : List UInt8} (h : SlAt w A n c (u8vs xs)) : (convert 34 9 (.slice A n c)).run Try.prog w = .ok (strV xs) w := by
  have hl : xs.length = n := by simpa [u8vs] using h.len
  by_cases hn : n = 0
  · subst hn
    obtain rfl : xs = [] := List.length_eq_zero_iff.1 hl
    rw [run_convert_bytes_string w _ _ _ A 0 c Try.underlying34 Try.underlying5 Try.underlying9]
    cases A with
    | none => simp [Conv.bytesToString, strV]; rfl
    | some p =>
      rw [run_bytesToString w p 0 c [] (by simp [loadCells, loadCellsFrom])]
      rfl
  · obtain ⟨b, o, rfl, hb, hc⟩ := h.cells (by omega)
    have hs : (⟨xs.toArray⟩ : ByteArray).size = n := by simp [ByteArray.size, hl]
    have h2 := Lib.run_convert_whole (P := Try.prog) w 34 5 9 Try.underlying34 Try.underlying5 Try.underlying9 b o ⟨xs.toArray⟩ (fun i hi => ?_) c
    · rw [hs] at h2
      exact h2
    · rw [hs] at hi
      rw [hc i hi]
      simp only [u8vs, List.getElem?_map, List.getElem?_eq_getElem (show i < xs.length by omega)]
      rfl

def TrueKept (w : World) (e : Ending) (w' : World) : Prop := e = .returned (.bool true) ∧ Kept [] w w'

set_option maxHeartbeats 1000000 in
theorem opens_ok {w : World} {a : Nat} {fp : List Nat} {d : Dev} (hD : Dv w a fp d) (hd : d.Calm) {fin : Nat} (hf : 4 ≤ d.secs.length) (he : fin ≤ 384) {l : List (List UInt8)} (hl : Small l) (hr : (d.bytesAt 1).take fin = recs l)
    (A : Option Addr) (n c : Nat) (hs : SlAt w A n c (l.map strV)) : Calls Try.prog 83 #[.pointer (some ⟨a, 0, none⟩), .int .i64 fin, .int .i64 0, .slice A n c] w (TrueKept w) := by
  have hln : l.length = n := by simpa using hs.len
  have co := open_ok hD hd (first := 1) (many := 3) (fin := fin) (by omega) (by omega) (by omega) hl hr
  have hc := hs.le; have hcm := hs.max
  unfold maxLen at hcm
  have HLN := Lib.hid hln
  clear hln hr
  go_enter Try.func83, Try.ntmps83
  go_wp2_with (go_at_call 46; refine co.mono ?_; rintro e w1 ⟨hk1, z, F, A1, n1, c1, ps, s, rfl, hb1, htx, _⟩; have hn1 : n1 = n := (by rw [← HLN.out, ← htx]; simp [texts, hb1.len]); subst hn1; have HTX := Lib.hid htx; clear htx)
  have hs1 := hs.kept hk1 (by simp)
  go_loopw [12] (fun i wr => ∃ k q : Nat, k ≤ n1 ∧ i = .int .i64 k ∧ wr = w1.drewN q) (fun i _ => n1 - (intOf i).toNat)
  case atStart => exact ⟨0, 0, Nat.zero_le _, rfl, rfl⟩
  case round =>
    obtain ⟨k, q, hk, rfl, rfl⟩ := hrel
    have hb1n := hb1.le; have hb1m := hb1.max
    unfold maxLen at hb1m
    by_cases hlt : k < n1
    · obtain ⟨b, o, p, rfl, hbl, hpl, hpa, hcx⟩ := hb1.at_ hlt
      obtain ⟨b', o', rfl, hbl', hcs⟩ := hs1.cells (by omega)
      have hpx : l[k]? = some p.xs := by rw [← HTX.out, texts, List.getElem?_map, hpl]; rfl
      have hcy : w1.cell? ⟨b', o' + k, none⟩ = some (.string ⟨p.xs.toArray⟩) := by rw [hcs k hlt, List.getElem?_map, hpx]; rfl
      have hcv : ∀ i, (convert 34 9 (.slice p.A p.n p.c)).run Try.prog ((w1.drewN q).drewN i) = .ok (.string ⟨p.xs.toArray⟩) ((w1.drewN q).drewN i) := fun i => run_str ((hpa.drewN q).drewN i).1
      have hcv0 : ∀ i, (convert 34 9 (.slice p.A p.n p.c)).run Try.prog (w1.drewN i) = .ok (.string ⟨p.xs.toArray⟩) (w1.drewN i) := fun i => run_str (hpa.drewN i).1
      have h2 : (k : Int) < (n1 : Int) := by omega
      clear hpl hpx hcs
      go_wp2
      go_quiet (fail)
      go_wp2
      go_roundw
      case rel => exact ⟨k + 1, _, by omega, by go_num, by first | rfl | rw [World.drewN_drewN]⟩
      case measure => simp [intOf]; omega
    · have h2 : ¬ (k : Int) < (n1 : Int) := by omega
      go_wp2
      go_ret
      exact ⟨rfl, hk1.trans (Kept.drewN [] _ _)⟩

set_option maxHeartbeats 1000000 in
theorem opens_no {w : World} {a : Nat} {fp : List Nat} {d : Dev} (hD : Dv w a fp d) (hd : d.Calm) {fin : Nat} (hf : 4 ≤ d.secs.length) (he : fin ≤ 384) (hr : NoRecs ((d.bytesAt 1).take fin)) :
    Calls Try.prog 83 #[.pointer (some ⟨a, 0, none⟩), .int .i64 fin, .int .i64 110, .slice none 0 0] w (TrueKept w) := by
  have co := open_no hD hd (first := 1) (many := 3) (fin := fin) (by omega) (by omega) (by omega) hr
  go_enter Try.func83, Try.ntmps83
  go_wp2_with (go_at_call 46; refine co.mono ?_; rintro e w1 ⟨rfl, hk1⟩)
  go_loopw [12] (fun i wr => i = .int .i64 0 ∧ wr = w1) (fun i _ => 0)
  case atStart => exact ⟨rfl, rfl⟩
  case round =>
    obtain ⟨rfl, rfl⟩ := hrel
    go_wp2
    go_ret
    exact ⟨rfl, hk1⟩
end Go.Proofs.Ytbnflbkaogpnbaa
