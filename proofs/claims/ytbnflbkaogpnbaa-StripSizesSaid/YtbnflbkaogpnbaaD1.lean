/- The leaves of a device's methods: none, wrong, at, Size, Works, Dead, Boot, Refuse. -/
import Derived.Test.YtbnflbkaogpnbaaD0
namespace Go.Proofs.Ytbnflbkaogpnbaa
open Go.RowKit

/-- The cells of a device's head. -/
theorem DevAt.cells {w : World} {a S M : Nat} {K : Option Nat} {d : Dev} (h : DevAt w a S M K d) :
    w.cell? ⟨a, 0, none⟩ = some (.slice (some ⟨S, 0, none⟩) d.secs.length d.secs.length) ∧ w.cell? ⟨a, 1, none⟩ = some (.map (some M)) ∧ w.cell? ⟨a, 2, none⟩ = some (.int .i64 d.fail) ∧
    w.cell? ⟨a, 4, none⟩ = some (.int .i64 d.till) ∧ w.cell? ⟨a, 5, none⟩ = some (.int .i64 d.works) ∧ w.cell? ⟨a, 6, none⟩ = some (.bool d.dead) ∧ ∀ i, w.frozen? ⟨a, i, none⟩ = false := by
  obtain ⟨kv, hh, _, _⟩ := h.head
  refine ⟨blk_cell hh 0, blk_cell hh 1, blk_cell hh 2, blk_cell hh 4, blk_cell hh 5, blk_cell hh 6, fun i => blk_frozen hh i⟩

set_option maxHeartbeats 400000 in
theorem none_any {w : World} {a S M : Nat} {K : Option Nat} {d : Dev} (h : DevAt w a S M K d) :
    Calls Try.prog 73 #[.pointer (some ⟨a, 0, none⟩)] w fun e w' => e = .returned (.bool false) ∧ w = w' := by
  obtain ⟨c0, c1, c2, c4, c5, c6, cf⟩ := h.cells
  have he := fun wx => run_eql_map_nil (P := Try.prog) wx 59 _ _ (some M) Try.underlying59
  go_enter Try.func73, Try.ntmps73
  go_wp2
  go_ret
  exact ⟨rfl, rfl⟩

/-- A device that is none. -/
theorem none_nil (w : World) : Calls Try.prog 73 #[.pointer none] w fun e w' => e = .returned (.bool true) ∧ w = w' := by
  go_enter Try.func73, Try.ntmps73
  go_wp2
  go_ret
  exact ⟨rfl, rfl⟩

set_option maxHeartbeats 400000 in
theorem wrong_any {w : World} {a S M : Nat} {K : Option Nat} {d : Dev} (h : DevAt w a S M K d) :
    Calls Try.prog 65 #[.pointer (some ⟨a, 0, none⟩)] w fun e w' => e = .returned (.int .i64 (if d.dead then 100 else 0)) ∧ w = w' := by
  obtain ⟨c0, c1, c2, c4, c5, c6, cf⟩ := h.cells
  cases hd : d.dead <;> rw [hd] at c6
  all_goals
    clear c0 c1 c2 c4 c5 cf hd
    go_enter Try.func65, Try.ntmps65
    go_wp2_with (go_at_call 73; refine (none_any h).mono ?_; rintro e w' ⟨rfl, rfl⟩)
    go_ret
    exact ⟨rfl, rfl⟩

set_option maxHeartbeats 400000 in
theorem wrong_nil (w : World) : Calls Try.prog 65 #[.pointer none] w fun e w' => e = .returned (.int .i64 1) ∧ w = w' := by
  go_enter Try.func65, Try.ntmps65
  go_wp2_with (go_at_call 73; refine (none_nil _).mono ?_; rintro e w' ⟨rfl, rfl⟩)
  go_ret
  exact ⟨rfl, rfl⟩

theorem ret_i64 {a b : Int} (h : a = b) : Ending.returned (.int .i64 a) = .returned (.int .i64 b) := by rw [h]

set_option maxHeartbeats 400000 in
theorem at_any {w : World} {a S M : Nat} {K : Option Nat} {d : Dev} (h : DevAt w a S M K d) (i : Int) :
    Calls Try.prog 69 #[.pointer (some ⟨a, 0, none⟩), .int .i64 i] w fun e w' => e = .returned (.int .i64 (d.at_ i)) ∧ w = w' := by
  obtain ⟨c0, c1, c2, c4, c5, c6, cf⟩ := h.cells
  have hw := wrong_any h
  have hm := h.wf.many
  cases hd : d.dead <;> rw [hd] at hw
  · clear c1 c2 c4 c5 c6 cf
    by_cases h0 : i < 0
    · go_enter Try.func69, Try.ntmps69
      go_wp2_with (go_at_call 65; refine hw.mono ?_; rintro e w' ⟨rfl, rfl⟩)
      go_ret
      exact ⟨ret_i64 (by simp [Dev.at_, hd, h0]), rfl⟩
    · by_cases h1 : i < (d.secs.length : Int)
      · go_enter Try.func69, Try.ntmps69
        go_wp2_with (go_at_call 65; refine hw.mono ?_; rintro e w' ⟨rfl, rfl⟩)
        go_ret
        exact ⟨ret_i64 (by rw [Dev.at_, hd]; simp; omega), rfl⟩
      · go_enter Try.func69, Try.ntmps69
        go_wp2_with (go_at_call 65; refine hw.mono ?_; rintro e w' ⟨rfl, rfl⟩)
        go_ret
        exact ⟨ret_i64 (by rw [Dev.at_, hd]; simp; omega), rfl⟩
  · clear c0 c1 c2 c4 c5 c6 cf
    go_enter Try.func69, Try.ntmps69
    go_wp2_with (go_at_call 65; refine hw.mono ?_; rintro e w' ⟨rfl, rfl⟩)
    go_ret
    exact ⟨ret_i64 (by simp [Dev.at_, hd]), rfl⟩

set_option maxHeartbeats 400000 in
theorem size_any {w : World} {a S M : Nat} {K : Option Nat} {d : Dev} (h : DevAt w a S M K d) :
    Calls Try.prog 37 #[.pointer (some ⟨a, 0, none⟩)] w fun e w' => e = .returned (.int .i64 d.secs.length) ∧ w = w' := by
  obtain ⟨c0, c1, c2, c4, c5, c6, cf⟩ := h.cells
  go_enter Try.func37, Try.ntmps37
  go_wp2_with (go_at_call 73; refine (none_any h).mono ?_; rintro e w' ⟨rfl, rfl⟩)
  go_ret
  exact ⟨rfl, rfl⟩

set_option maxHeartbeats 400000 in
theorem works_any {w : World} {a S M : Nat} {K : Option Nat} {d : Dev} (h : DevAt w a S M K d) :
    Calls Try.prog 33 #[.pointer (some ⟨a, 0, none⟩)] w fun e w' => e = .returned (.int .i64 d.works) ∧ w = w' := by
  obtain ⟨c0, c1, c2, c4, c5, c6, cf⟩ := h.cells
  go_enter Try.func33, Try.ntmps33
  go_wp2_with (go_at_call 73; refine (none_any h).mono ?_; rintro e w' ⟨rfl, rfl⟩)
  go_ret
  exact ⟨rfl, rfl⟩

set_option maxHeartbeats 400000 in
theorem dead_any {w : World} {a S M : Nat} {K : Option Nat} {d : Dev} (h : DevAt w a S M K d) :
    Calls Try.prog 35 #[.pointer (some ⟨a, 0, none⟩)] w fun e w' => e = .returned (.bool d.dead) ∧ w = w' := by
  obtain ⟨c0, c1, c2, c4, c5, c6, cf⟩ := h.cells
  go_enter Try.func35, Try.ntmps35
  go_wp2_with (go_at_call 73; refine (none_any h).mono ?_; rintro e w' ⟨rfl, rfl⟩)
  go_ret
  exact ⟨rfl, rfl⟩
end Go.Proofs.Ytbnflbkaogpnbaa
