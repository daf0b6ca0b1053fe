/- The document's device: Crash, Write. -/
import Derived.Test.YtbnflbkaogpnbaaX3
namespace Go.Proofs.Ytbnflbkaogpnbaa
open Go.RowKit

def RS.fails (s : RS) : RS := { s with fail := max (s.fail - 1) (-1) }
def RS.done (s : RS) : RS := { s with works := s.works + 1, till := max (s.till - 1) (-1), refuses := max (s.till - 1) (-1) == 0 }
def RS.midst (s : RS) (i : Nat) (b : Blk) : RS := { s with now := upd s.now i b, wrote := upd s.wrote i true }

/-- What holds of each. -/
structure RS.Fine (s : RS) : Prop where
  fail0 : -1 ≤ s.fail
  fail1 : s.fail ≤ 9223372036854775807
  till0 : -1 ≤ s.till
  till1 : s.till ≤ 9223372036854775807
  works0 : 0 ≤ s.works
  works1 : s.works < 9223372036854775807
  ref : s.refuses = (s.till == 0)

theorem RfPost.of {w : World} {r B cap : Nat} {l : List One} {fp : List Nat} {s s' : RS} (h : RefAt w r B cap l fp s) {v : Value} {e : Ending} {w' : World} (hp : RfPost w r fp s' v e w') :
    e = .returned v ∧ ∃ B' cap' l' fp', Rn w r B' cap' l' fp fp' s' w' := by
  obtain ⟨he, B', cap', l', fp', hR, hk, hn⟩ := hp
  exact ⟨he, B', cap', l', fp', (Rn.start h).full hR hk hn⟩

set_option maxHeartbeats 400000 in
theorem refDead {w : World} {r B cap : Nat} {l : List One} {fp : List Nat} {s : RS} (h : RefAt w r B cap l fp s) (hd : s.dead = true) (A : Option Addr) (n c : Nat) :
    Calls Try.prog 78 #[.pointer (some ⟨r, 0, none⟩), .slice A n c] w (fun e w' => e = .returned (.int .i64 100) ∧ w = w') := by
  obtain ⟨c0, c1, c3, c4, c5, c6, cf⟩ := h.cells
  rw [hd] at c5
  clear c0 c1 c3 c4 c6
  have HD := Lib.hid hd; clear hd
  go_enter Try.func78, Try.ntmps78
  go_wp2
  go_ret
  exact ⟨rfl, rfl⟩

set_option maxHeartbeats 400000 in
theorem refCrash_any {w : World} {r B cap : Nat} {l : List One} {fp : List Nat} {s : RS} (h : RefAt w r B cap l fp s) (KA : Option Addr) (kn kc : Nat) (keep : List Int) (hx : SlAt w KA kn kc (keep.map i64v))
    (hX : ∀ p, KA = some p → 0 < kn → p.block ∈ fp → p.block ≠ r ∧ p.block ≠ B) (hki : ∀ n ∈ keep, I64 n) :
    Calls Try.prog 78 #[.pointer (some ⟨r, 0, none⟩), .slice KA kn kc] w (RfPost w r fp (if s.dead then s else s.gone keep) (.int .i64 (if s.dead then 100 else 0))) := by
  by_cases hd : s.dead = true
  · rw [if_pos hd, if_pos hd]
    refine (refDead h hd KA kn kc).mono ?_
    rintro e w' ⟨rfl, rfl⟩
    exact (Rn.start h).post _
  · have hd' : s.dead = false := by simpa using hd
    rw [if_neg hd, if_neg hd]
    obtain ⟨c0, c1, c3, c4, c5, c6, cf⟩ := h.cells
    rw [hd'] at c5
    clear c0 c1 c3 c4 c6 cf
    have cg := refGone_any h KA kn kc keep hx hX hki
    have HD := Lib.hid hd'; clear hd hd'
    go_enter Try.func78, Try.ntmps78
    go_wp2_with fail
    refine cg.mono ?_
    clear cg
    rintro e w4 hp
    obtain ⟨rfl, B', cap', l', fp', hR⟩ := RfPost.of h hp
    clear hp
    go_wp2_with fail
    go_ret
    exact hR.post _

/-- What stands in the way of a write. -/
def RS.stops (s : RS) (i : Int) (n : Nat) : Int := if s.dead then 100 else if i < 0 ∨ (s.n : Int) ≤ i then 9 else if n ≠ 128 then 2 else if s.refuses then 101 else 0

set_option maxHeartbeats 1000000 in
theorem refWrite_no {w : World} {r B cap : Nat} {l : List One} {fp : List Nat} {s : RS} (h : RefAt w r B cap l fp s) (i : Int) (A : Option Addr) (n c : Nat) (hs : s.stops i n ≠ 0) :
    Calls Try.prog 76 #[.pointer (some ⟨r, 0, none⟩), .int .i64 i, .slice A n c] w (fun e w' => e = .returned (.int .i64 (s.stops i n)) ∧ w = w') := by
  obtain ⟨c0, c1, c3, c4, c5, c6, cf⟩ := h.cells
  rw [h.len] at c0
  clear c1 c3 c4
  unfold RS.stops at hs ⊢
  by_cases hd : s.dead = true
  · rw [if_pos hd]
    rw [hd] at c5
    have HD := Lib.hid hd; clear hd hs
    go_enter Try.func76, Try.ntmps76
    go_wp2
    go_ret
    exact ⟨rfl, rfl⟩
  · rw [if_neg hd] at hs ⊢
    have hd' : s.dead = false := by simpa using hd
    rw [hd'] at c5
    have HD := Lib.hid hd'; clear hd hd'
    by_cases hi : i < 0 ∨ (s.n : Int) ≤ i
    · rw [if_pos hi]
      clear hs
      by_cases h0 : i < 0
      · clear hi
        go_enter Try.func76, Try.ntmps76
        go_wp2
        go_ret
        exact ⟨rfl, rfl⟩
      · have h1 : (s.n : Int) ≤ i := by omega
        clear hi
        go_enter Try.func76, Try.ntmps76
        go_wp2
        go_ret
        exact ⟨rfl, rfl⟩
    · rw [if_neg hi] at hs ⊢
      have h0 : ¬ i < 0 := by omega
      have h1 : ¬ (s.n : Int) ≤ i := by omega
      clear hi
      by_cases hn : n = 128
      · rw [if_neg (by simpa using hn)] at hs ⊢
        have hr : s.refuses = true := by
          by_cases hr : s.refuses = true
          · exact hr
          · rw [if_neg hr] at hs; exact absurd rfl hs
        rw [if_pos hr]
        rw [hr] at c6
        subst hn
        have HR := Lib.hid hr; clear hr hs
        go_enter Try.func76, Try.ntmps76
        go_wp2
        go_ret
        exact ⟨rfl, rfl⟩
      · rw [if_pos hn]
        have hn' : ((n : Int) != 128) = true := by simp; omega
        clear hs
        go_enter Try.func76, Try.ntmps76
        go_wp2
        go_ret
        exact ⟨rfl, rfl⟩
end Go.Proofs.Ytbnflbkaogpnbaa
