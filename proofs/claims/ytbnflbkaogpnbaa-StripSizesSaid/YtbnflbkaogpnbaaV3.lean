/- A strip in memory; Size, End, Left. -/
import Derived.Test.YtbnflbkaogpnbaaV2
import Derived.Test.YtbnflbkaogpnbaaS4
namespace Go.Proofs.Ytbnflbkaogpnbaa
open Go.RowKit

/-- In w, at block z, is the strip s, on the device at a; its blocks are among sp. -/
structure StAt (w : World) (z a : Nat) (sp : List Nat) (s : St) : Prop where
  head : ∃ A c, w.heap[z]? = some (.cells #[.pointer (some ⟨a, 0, none⟩), .int .i64 s.first, .int .i64 s.many, .int .i64 s.fin, .slice A s.last.length c] 78 (0, 0)) ∧ SlAt w A s.last.length c (u8vs s.last) ∧ (A = none → c = 0) ∧ ∀ p, A = some p → p.block ∈ sp ∧ p.block ≠ z
  zin : z ∈ sp
  lt : ∀ j ∈ sp, j < w.heap.size

theorem StAt.kept {w w' : World} {z a : Nat} {sp : List Nat} {s : St} {F : List Nat} (h : StAt w z a sp s) (hk : Kept F w w') (hF : ∀ j ∈ sp, j ∉ F) : StAt w' z a sp s := by
  obtain ⟨A, c, h1, h2, h3, h4⟩ := h.head
  exact ⟨⟨A, c, (hk.block z (h.lt z h.zin) (hF z h.zin)).trans h1, h2.kept hk (fun p e => hF _ (h4 p e).1), h3, h4⟩, h.zin, fun j hj => Nat.lt_of_lt_of_le (h.lt j hj) hk.size⟩

theorem StAt.cells {w : World} {z a : Nat} {sp : List Nat} {s : St} (h : StAt w z a sp s) :
    w.cell? ⟨z, 0, none⟩ = some (.pointer (some ⟨a, 0, none⟩)) ∧ w.cell? ⟨z, 1, none⟩ = some (.int .i64 s.first) ∧ w.cell? ⟨z, 2, none⟩ = some (.int .i64 s.many) ∧ w.cell? ⟨z, 3, none⟩ = some (.int .i64 s.fin) ∧ ∀ i, w.frozen? ⟨z, i, none⟩ = false := by
  obtain ⟨A, c, h1, _⟩ := h.head
  exact ⟨blk_cell h1 0, blk_cell h1 1, blk_cell h1 2, blk_cell h1 3, fun i => blk_frozen h1 i⟩

def stripSize (n : Int) : Int := if n < 0 ∨ 16384 < n then 0 else n + 7

set_option maxHeartbeats 400000 in
theorem stripSize_any (n : Int) (w : World) : Calls Try.prog 43 #[.int .i64 n] w fun e w' => e = .returned (.int .i64 (stripSize n)) ∧ w = w' := by
  unfold stripSize
  by_cases h1 : n < 0
  · rw [if_pos (.inl h1)]
    go_enter Try.func43, Try.ntmps43
    go_wp2
    go_ret
    exact ⟨rfl, rfl⟩
  · by_cases h2 : 16384 < n
    · rw [if_pos (.inr h2)]
      go_enter Try.func43, Try.ntmps43
      go_wp2
      go_ret
      exact ⟨rfl, rfl⟩
    · rw [if_neg (by omega)]
      go_enter Try.func43, Try.ntmps43
      go_wp2
      go_ret
      exact ⟨rfl, rfl⟩

set_option maxHeartbeats 400000 in
theorem stripEnd_any {w : World} {z a : Nat} {sp : List Nat} {s : St} (h : StAt w z a sp s) : Calls Try.prog 48 #[.pointer (some ⟨z, 0, none⟩)] w fun e w' => e = .returned (.int .i64 s.fin) ∧ w = w' := by
  obtain ⟨c0, c1, c2, c3, cf⟩ := h.cells
  clear h
  go_enter Try.func48, Try.ntmps48
  go_wp2
  go_ret
  exact ⟨rfl, rfl⟩

/-- What Left does. -/
def LeftPost (w : World) (n : Int) (e : Ending) (w' : World) : Prop := e = .returned (.int .i64 n) ∧ ∃ q, w' = w.drewN q

set_option maxHeartbeats 400000 in
theorem stripLeft_any {w : World} {z a : Nat} {sp : List Nat} {s : St} (h : StAt w z a sp s) (hm : s.many ≤ 10000) (hf : s.fin ≤ 128 * s.many) : Calls Try.prog 50 #[.pointer (some ⟨z, 0, none⟩)] w (LeftPost w (128 * s.many - s.fin)) := by
  obtain ⟨c0, c1, c2, c3, cf⟩ := h.cells
  clear h
  go_enter Try.func50, Try.ntmps50
  go_wp2
  go_quiet (fail)
  go_wp2
  go_ret
  exact ⟨rfl, nq, rfl⟩
end Go.Proofs.Ytbnflbkaogpnbaa
