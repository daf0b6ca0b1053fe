/- muslinref12.Size; StripSizes: the walk. -/
import Derived.Test.YtbnflbkaogpnbaaQ4
namespace Go.Proofs.Ytbnflbkaogpnbaa
open Go.RowKit

set_option maxHeartbeats 400000 in
theorem refSize12_any (n : Int) (w : World) : Calls Try.prog 44 #[.int .i64 n] w fun e w' => e = .returned (.int .i64 (stripSize n)) ∧ w = w' := by
  unfold stripSize
  by_cases h1 : n < 0
  · rw [if_pos (.inl h1)]
    go_enter Try.func44, Try.ntmps44
    go_wp2
    go_ret
    exact ⟨rfl, rfl⟩
  · by_cases h2 : 16384 < n
    · rw [if_pos (.inr h2)]
      go_enter Try.func44, Try.ntmps44
      go_wp2
      go_ret
      exact ⟨rfl, rfl⟩
    · rw [if_neg (by omega)]
      go_enter Try.func44, Try.ntmps44
      go_wp2
      go_ret
      exact ⟨rfl, rfl⟩

set_option maxHeartbeats 400000 in
theorem stripSizes_walk (w : World) (n : Int) : Calls Try.prog 9 #[.int .i64 n] w (TruePost w) := by
  obtain ⟨m, hm⟩ : ∃ m, stripSize n = m := ⟨_, rfl⟩
  have c1 := stripSize_any n
  have c2 := refSize12_any n
  simp only [hm] at c1 c2
  clear hm
  go_enter Try.func9, Try.ntmps9
  go_wp2_with fail
  refine (c1 _).mono ?_
  rintro e w1 ⟨rfl, rfl⟩
  go_wp2_with fail
  refine (c2 _).mono ?_
  rintro e w1 ⟨rfl, rfl⟩
  go_wp2_with fail
  refine (awake12_any _).mono ?_
  rintro e w1 ⟨rfl, hk⟩
  go_wp2_with fail
  go_ret
  exact ⟨rfl, hk⟩
end Go.Proofs.Ytbnflbkaogpnbaa
