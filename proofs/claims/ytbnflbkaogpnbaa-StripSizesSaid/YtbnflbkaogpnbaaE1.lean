/- has. -/
import Derived.Test.YtbnflbkaogpnbaaE0
namespace Go.Proofs.Ytbnflbkaogpnbaa
open Go.RowKit

/-- Has a sector 128 bytes of one? -/
def Dev.hasB (d : Dev) (i : Int) (b : Int) : Bool := decide (d.at_ i = 0) && decide (d.secs[i.toNat]? = some (List.replicate 128 (byteOf b)))

def HasPost (w : World) (r : Bool) (e : Ending) (w' : World) : Prop := e = .returned (.bool r) ∧ Kept [] w w'

set_option maxHeartbeats 400000 in
theorem has_any {w : World} {a S M : Nat} {K : Option Nat} {d : Dev} (hD : DevAt w a S M K d) (i b : Int) :
    Calls Try.prog 28 #[.pointer (some ⟨a, 0, none⟩), .int .i64 i, .int .i64 b] w (HasPost w (d.hasB i b)) := by
  have hrd := read_any hD i
  have hfu := fun wx => full_any b 0 wx
  rw [fullLen_zero] at hfu
  by_cases hz : d.at_ i = 0
  · have hrd2 : Calls Try.prog 30 #[.pointer (some ⟨a, 0, none⟩), .int .i64 i] w (fun e w' => ∃ A c bb, e = .returned (.tuple #[.slice A 128 c, .int .i64 0]) ∧ d.secs[i.toNat]? = some bb ∧ SlAt w' A 128 c (u8vs bb) ∧ Below w.heap.size w w') := by
      refine hrd.mono ?_
      rintro e w' (⟨h, _⟩ | ⟨_, v, bb, he, hb, hown, hbel⟩)
      · exact absurd hz h
      · obtain ⟨A, c, rfl, hs, _⟩ := SlAt.of_own hown
        exact ⟨A, c, bb, he, hb, hs, hbel⟩
    have HZ := Lib.hid hz
    clear hrd hz
    go_enter Try.func28, Try.ntmps28
    go_wp2_with fail
    refine hrd2.mono ?_
    rintro e w1 ⟨A, c, bb, rfl, hb, hs, hbel⟩
    have HB := Lib.hid hb; clear hb
    go_wp2_with fail
    refine (hfu _).mono ?_
    rintro e w2 ⟨A2, c2, rfl, hown2, hbel2⟩
    obtain ⟨A3, c3, e3, hs3, _⟩ := SlAt.of_own hown2
    cases e3
    go_wp2_with fail
    refine (eqBytes_u8 _ _ _ _ _ _ _ bb (List.replicate 128 (byteOf b)) (hs.kept (Kept.of_below (F := []) hbel2) (by simp)) hs3).mono ?_
    rintro e w3 ⟨rfl, q, rfl⟩
    go_wp2_with fail
    go_ret
    refine ⟨?_, ((Kept.of_below hbel).trans (Kept.of_below hbel2)).trans (Kept.drewN _ _ _)⟩
    exact ret_bool (by simp [Dev.hasB, HZ.out, HB.out])
  · have hrd2 : Calls Try.prog 30 #[.pointer (some ⟨a, 0, none⟩), .int .i64 i] w (fun e w' => e = .returned (.tuple #[.slice none 0 0, .int .i64 (d.at_ i)]) ∧ w = w') := by
      refine hrd.mono ?_
      rintro e w' (⟨_, h, rfl⟩ | ⟨h, _⟩)
      · exact ⟨h, rfl⟩
      · exact absurd h hz
    have hz2 : (d.at_ i == 0) = false := by simpa using hz
    have HZ := Lib.hid hz
    clear hrd hz
    go_enter Try.func28, Try.ntmps28
    go_wp2_with (first | (go_at_call 30; refine hrd2.mono ?_; rintro e w1 ⟨rfl, rfl⟩))
    go_ret
    exact ⟨ret_bool (by simp [Dev.hasB, HZ.out]), Kept.refl _ _⟩
end Go.Proofs.Ytbnflbkaogpnbaa
