/- Devices that are none: no pointer, or one to a device that was not made: each deed answers 1. -/
import Derived.Test.YtbnflbkaogpnbaaXB
namespace Go.Proofs.Ytbnflbkaogpnbaa
open Go.RowKit

/-- A device that is none. -/
def NoDev (w : World) (p : Option Addr) : Prop := p = none ∨ ∃ a, p = some ⟨a, 0, none⟩ ∧ a < w.heap.size ∧ w.cell? ⟨a, 1, none⟩ = some (.map none)

theorem NoDev.kept {w w' : World} {p : Option Addr} (h : NoDev w p) (hk : Kept [] w w') : NoDev w' p := by
  rcases h with rfl | ⟨a, rfl, hl, hc⟩
  · exact .inl rfl
  · exact .inr ⟨a, rfl, Nat.lt_of_lt_of_le hl hk.size, (hk.cell (p := ⟨a, 1, none⟩) hl (by simp)).trans hc⟩

theorem none_bad {w : World} {p : Option Addr} (h : NoDev w p) : Calls Try.prog 73 #[.pointer p] w fun e w' => e = .returned (.bool true) ∧ w = w' := by
  rcases h with rfl | ⟨a, rfl, hl, hc⟩
  · exact none_nil w
  · have he := fun wx => run_eql_map_nil (P := Try.prog) wx 59 _ _ none Try.underlying59
    clear hl
    go_enter Try.func73, Try.ntmps73
    go_wp2
    go_ret
    exact ⟨rfl, rfl⟩

theorem wrong_bad {w : World} {p : Option Addr} (h : NoDev w p) : Calls Try.prog 65 #[.pointer p] w fun e w' => e = .returned (.int .i64 1) ∧ w = w' := by
  have hn := none_bad h
  clear h
  go_enter Try.func65, Try.ntmps65
  go_wp2_with (go_at_call 73; refine hn.mono ?_; rintro e w' ⟨rfl, rfl⟩)
  go_ret
  exact ⟨rfl, rfl⟩

theorem at_bad {w : World} {p : Option Addr} (h : NoDev w p) (i : Int) : Calls Try.prog 69 #[.pointer p, .int .i64 i] w fun e w' => e = .returned (.int .i64 1) ∧ w = w' := by
  have hn := wrong_bad h
  clear h
  go_enter Try.func69, Try.ntmps69
  go_wp2_with (go_at_call 65; refine hn.mono ?_; rintro e w' ⟨rfl, rfl⟩)
  go_ret
  exact ⟨rfl, rfl⟩

theorem size_bad {w : World} {p : Option Addr} (h : NoDev w p) : Calls Try.prog 37 #[.pointer p] w fun e w' => e = .returned (.int .i64 0) ∧ w = w' := by
  have hn := none_bad h
  clear h
  go_enter Try.func37, Try.ntmps37
  go_wp2_with (go_at_call 73; refine hn.mono ?_; rintro e w' ⟨rfl, rfl⟩)
  go_ret
  exact ⟨rfl, rfl⟩

theorem works_bad {w : World} {p : Option Addr} (h : NoDev w p) : Calls Try.prog 33 #[.pointer p] w fun e w' => e = .returned (.int .i64 0) ∧ w = w' := by
  have hn := none_bad h
  clear h
  go_enter Try.func33, Try.ntmps33
  go_wp2_with (go_at_call 73; refine hn.mono ?_; rintro e w' ⟨rfl, rfl⟩)
  go_ret
  exact ⟨rfl, rfl⟩

theorem dead_bad {w : World} {p : Option Addr} (h : NoDev w p) : Calls Try.prog 35 #[.pointer p] w fun e w' => e = .returned (.bool false) ∧ w = w' := by
  have hn := none_bad h
  clear h
  go_enter Try.func35, Try.ntmps35
  go_wp2_with (go_at_call 73; refine hn.mono ?_; rintro e w' ⟨rfl, rfl⟩)
  go_ret
  exact ⟨rfl, rfl⟩

theorem read_none {w : World} {p : Option Addr} (h : NoDev w p) (i : Int) : Calls Try.prog 30 #[.pointer p, .int .i64 i] w fun e w' => e = .returned (.tuple #[.slice none 0 0, .int .i64 1]) ∧ w = w' := by
  have hn := at_bad h i
  clear h
  go_enter Try.func30, Try.ntmps30
  go_wp2_with (go_at_call 69; refine hn.mono ?_; rintro e w' ⟨rfl, rfl⟩)
  go_ret2
  exact ⟨rfl, rfl⟩

/-- The answer of a deed of a device that is none. -/
def NonePost (w : World) (e : Ending) (w' : World) : Prop := e = .returned (.int .i64 1) ∧ Kept [] w w'

theorem write_none {w : World} {p : Option Addr} (h : NoDev w p) (i : Int) (A : Option Addr) (n c : Nat) : Calls Try.prog 24 #[.pointer p, .int .i64 i, .slice A n c] w (NonePost w) := by
  obtain ⟨W, hW⟩ : ∃ W, ((w.alloc (.cells #[.pointer p] 24)).alloc (.cells #[.int .i64 i] 3)).alloc (.cells #[.slice A n c] 34) = W := ⟨_, rfl⟩
  have hk : Kept [] w W := by rw [← hW]; exact ((Kept.alloc [] w _).trans (Kept.alloc [] _ _)).trans (Kept.alloc [] _ _)
  have hx : W.cell? ⟨w.heap.size, 0, none⟩ = some (.pointer p) := by
    rw [← hW, World.cell?_alloc_lt _ _ _ (by simp; omega), World.cell?_alloc_lt _ _ _ (by simp), blk_cell (heap_alloc_new w _)]; rfl
  have hy : W.cell? ⟨w.heap.size + 1, 0, none⟩ = some (.int .i64 i) := by
    have h := heap_alloc_new (w.alloc (.cells #[.pointer p] 24)) (.cells #[.int .i64 i] 3)
    simp only [World.size_alloc] at h
    rw [← hW, World.cell?_alloc_lt _ _ _ (by simp), blk_cell h]; rfl
  have hat := at_bad (h.kept hk) i
  clear h
  go_enter Try.func24, Try.ntmps24
  go_wp2_with (go_at_call 69; refine hat.mono ?_; rintro e w' ⟨rfl, rfl⟩)
  go_ret
  exact ⟨rfl, hk⟩

theorem flush_none {w : World} {p : Option Addr} (h : NoDev w p) : Calls Try.prog 23 #[.pointer p] w (NonePost w) := by
  obtain ⟨W, hW⟩ : ∃ W, w.alloc (.cells #[.pointer p] 24) = W := ⟨_, rfl⟩
  have hk : Kept [] w W := by rw [← hW]; exact Kept.alloc [] w _
  have hx : W.cell? ⟨w.heap.size, 0, none⟩ = some (.pointer p) := by
    rw [← hW, blk_cell (heap_alloc_new w _)]; rfl
  have hat := wrong_bad (h.kept hk)
  clear h
  go_enter Try.func23, Try.ntmps23
  go_wp2_with (go_at_call 65; refine hat.mono ?_; rintro e w' ⟨rfl, rfl⟩)
  go_ret
  exact ⟨rfl, hk⟩

theorem crash_none {w : World} {p : Option Addr} (h : NoDev w p) (A : Option Addr) (n c : Nat) : Calls Try.prog 26 #[.pointer p, .slice A n c] w (NonePost w) := by
  have hat := wrong_bad h
  clear h
  go_enter Try.func26, Try.ntmps26
  go_wp2_with (go_at_call 65; refine hat.mono ?_; rintro e w' ⟨rfl, rfl⟩)
  go_ret
  exact ⟨rfl, Kept.refl _ _⟩

theorem fail_none {w : World} {p : Option Addr} (h : NoDev w p) (i : Int) (A : Option Addr) (n c : Nat) : Calls Try.prog 34 #[.pointer p, .int .i64 i, .slice A n c] w (NonePost w) := by
  have hat := wrong_bad h
  clear h
  go_enter Try.func34, Try.ntmps34
  go_wp2_with (go_at_call 65; refine hat.mono ?_; rintro e w' ⟨rfl, rfl⟩)
  go_ret
  exact ⟨rfl, Kept.refl _ _⟩

theorem refuse_none {w : World} {p : Option Addr} (h : NoDev w p) (i : Int) : Calls Try.prog 32 #[.pointer p, .int .i64 i] w (NonePost w) := by
  have hat := wrong_bad h
  clear h
  go_enter Try.func32, Try.ntmps32
  go_wp2_with (go_at_call 65; refine hat.mono ?_; rintro e w' ⟨rfl, rfl⟩)
  go_ret
  exact ⟨rfl, Kept.refl _ _⟩

theorem boot_none {w : World} {p : Option Addr} (h : NoDev w p) : Calls Try.prog 27 #[.pointer p] w (NonePost w) := by
  have hat := none_bad h
  clear h
  go_enter Try.func27, Try.ntmps27
  go_wp2_with (go_at_call 73; refine hat.mono ?_; rintro e w' ⟨rfl, rfl⟩)
  go_ret
  exact ⟨rfl, Kept.refl _ _⟩

/-- A deed of a device that is none, Kind alone set. -/
theorem does10_none {w : World} {p : Option Addr} (h : NoDev w p) (k : Nat) (hk6 : k < 6) (A : Option Addr) (n c : Nat) :
    Calls Try.prog 39 #[.pointer p, .agg #[.int .i64 k, .int .i64 0, .int .i64 0, .int .i64 0, .slice none 0 0], .slice A n c, .slice none 0 0] w (NonePost w) := by
  have hk0 := Kept.alloc [] w (.cells #[.int .i64 k, .int .i64 0, .int .i64 0, .int .i64 0, .slice none 0 0] 31)
  have hD := h.kept hk0
  have cb := fun W => bring_any (k : Int) 6 W (by omega) (by omega) (by omega) (by omega)
  have e0 : (k : Int) % 6 = k := by omega
  rw [e0] at cb
  clear e0 h
  obtain rfl | rfl | rfl | rfl | rfl | rfl : k = 0 ∨ k = 1 ∨ k = 2 ∨ k = 3 ∨ k = 4 ∨ k = 5 := by omega
  · have cw := write_none hD 0 A n c
    clear hD
    go_enter Try.func39, Try.ntmps39
    go_wp2_with (go_at_call 22; refine (cb _).mono ?_; rintro e w' ⟨rfl, rfl⟩)
    refine cw.mono ?_
    rintro e w5 ⟨rfl, hk5⟩
    clear cw
    go_wp2_with fail
    go_ret
    exact ⟨rfl, hk0.trans hk5⟩
  · have cw := flush_none hD
    clear hD
    go_enter Try.func39, Try.ntmps39
    go_wp2_with (go_at_call 22; refine (cb _).mono ?_; rintro e w' ⟨rfl, rfl⟩)
    refine cw.mono ?_
    rintro e w5 ⟨rfl, hk5⟩
    clear cw
    go_wp2_with fail
    go_ret
    exact ⟨rfl, hk0.trans hk5⟩
  · have cw := crash_none hD none 0 0
    clear hD
    go_enter Try.func39, Try.ntmps39
    go_wp2_with (go_at_call 22; refine (cb _).mono ?_; rintro e w' ⟨rfl, rfl⟩)
    refine cw.mono ?_
    rintro e w5 ⟨rfl, hk5⟩
    clear cw
    go_wp2_with fail
    go_ret
    exact ⟨rfl, hk0.trans hk5⟩
  · have cw := fail_none hD 0 none 0 0
    clear hD
    go_enter Try.func39, Try.ntmps39
    go_wp2_with (go_at_call 22; refine (cb _).mono ?_; rintro e w' ⟨rfl, rfl⟩)
    refine cw.mono ?_
    rintro e w5 ⟨rfl, hk5⟩
    clear cw
    go_wp2_with fail
    go_ret
    exact ⟨rfl, hk0.trans hk5⟩
  · have cw := refuse_none hD 0
    clear hD
    go_enter Try.func39, Try.ntmps39
    go_wp2_with (go_at_call 22; refine (cb _).mono ?_; rintro e w' ⟨rfl, rfl⟩)
    refine cw.mono ?_
    rintro e w5 ⟨rfl, hk5⟩
    clear cw
    go_wp2_with fail
    go_ret
    exact ⟨rfl, hk0.trans hk5⟩
  · have cw := boot_none hD
    clear hD
    go_enter Try.func39, Try.ntmps39
    go_wp2_with (go_at_call 22; refine (cb _).mono ?_; rintro e w' ⟨rfl, rfl⟩)
    refine cw.mono ?_
    rintro e w5 ⟨rfl, hk5⟩
    clear cw
    go_wp2_with fail
    go_ret
    exact ⟨rfl, hk0.trans hk5⟩
end Go.Proofs.Ytbnflbkaogpnbaa
