/- SectorDoes: every size. -/
import Derived.Test.YtbnflbkaogpnbaaZ3
namespace Go.Proofs.Ytbnflbkaogpnbaa
open Go.RowKit

set_option maxHeartbeats 400000 in
set_option maxRecDepth 100000 in
theorem sectorDoes_none (w : World) (n : Int) (hn : n < 1 ∨ 8192 < n) (A : Option Addr) (q c : Nat) : Calls Try.prog 7 #[.int .i64 n, .slice A q c] w (TruePost w) := by
  by_cases h1 : n < 1
  · have cn := new_bad n w hn
    clear hn
    go_enter Try.func7, Try.ntmps7
    go_wp2_with fail
    refine cn.mono ?_
    clear cn
    rintro e w' ⟨rfl, rfl⟩
    go_wp2_with fail
    refine (awake10_any _).mono ?_
    rintro e w4 ⟨rfl, hk4⟩
    go_wp2_with fail
    go_ret
    exact ⟨rfl, hk4⟩
  · have h2 : 8192 < n := by omega
    have cn := new_bad n w hn
    clear hn
    go_enter Try.func7, Try.ntmps7
    go_wp2_with fail
    refine cn.mono ?_
    clear cn
    rintro e w' ⟨rfl, rfl⟩
    go_wp2_with fail
    refine (awake10_any _).mono ?_
    rintro e w4 ⟨rfl, hk4⟩
    go_wp2_with fail
    go_ret
    exact ⟨rfl, hk4⟩

theorem sectorDoes_walk (w : World) (n : Int) (A : Option Addr) (q c : Nat) (l : List DeedR) (hl : DeedsAt w A q c l) : Calls Try.prog 7 #[.int .i64 n, .slice A q c] w (TruePost w) := by
  by_cases h : n < 1 ∨ 8192 < n
  · exact sectorDoes_none w n h A q c
  · obtain ⟨m, rfl⟩ : ∃ m : Nat, n = m := ⟨n.toNat, by omega⟩
    by_cases h40 : m ≤ 40
    · exact sectorDoes_small w m (by omega) h40 A q c l hl
    · exact sectorDoes_large w m (by omega) (by omega) A q c l hl
end Go.Proofs.Ytbnflbkaogpnbaa
