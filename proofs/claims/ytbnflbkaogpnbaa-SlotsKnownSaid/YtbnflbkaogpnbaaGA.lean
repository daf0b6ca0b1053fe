/- The pair of chapter 11: what a step leaves, in plain Lean. -/
import Derived.Test.YtbnflbkaogpnbaaG9
import Derived.Test.YtbnflbkaogpnbaaGH
namespace Go.Proofs.Ytbnflbkaogpnbaa
set_option linter.unusedVariables false
open Go.RowKit

theorem save_plain (s : Sl) (d : Dev) (b : List UInt8) (hn : s.newer ≤ 1) : (s.save d b).1.newer ≤ 1 ∧ (s.save d b).1.turn ≤ s.turn + 1 ∧ (s.save d b).1.first = s.first ∧ (s.save d b).2.1.secs.length = d.secs.length ∧ (s.save d b).2.1.works ≤ d.works + 2 := by
  have hw := write_works d ((s.first + s.which : Nat) : Int) (slotB (s.turn + 1) b)
  have hl := writes_len [slotB (s.turn + 1) b] d ((s.first + s.which : Nat) : Int)
  have hl1 : (d.write ((s.first + s.which : Nat) : Int) (slotB (s.turn + 1) b)).1.secs.length = d.secs.length := by
    rw [Dev.writes] at hl
    split at hl
    · exact hl
    · exact hl
  obtain ⟨f1, _⟩ := dev_len (d.write ((s.first + s.which : Nat) : Int) (slotB (s.turn + 1) b)).1
  obtain ⟨f2, _⟩ := dev_works (d.write ((s.first + s.which : Nat) : Int) (slotB (s.turn + 1) b)).1
  have hq : s.which ≤ 1 := by unfold Sl.which; split <;> omega
  unfold Sl.save
  split
  · exact ⟨hn, Nat.le_succ _, rfl, rfl, by show d.works ≤ _; omega⟩
  · simp only
    split
    · exact ⟨hn, Nat.le_succ _, rfl, hl1, by show (d.write _ _).1.works ≤ _; omega⟩
    · split
      · exact ⟨hn, Nat.le_succ _, rfl, f1.trans hl1, by show (Dev.flush _).1.works ≤ _; omega⟩
      · exact ⟨hq, Nat.le_refl _, rfl, f1.trans hl1, by show (Dev.flush _).1.works ≤ _; omega⟩

/-- Behind a deed of both devices. -/
theorem PrY.both {w0 w w' : World} {p a r : Nat} {first : Int} {d d' : Dev} {os : Option Sl} {k k' : Nat} (h : PrY w0 w p a r first d os k) (hk : k ≤ k') {vs vm : Value} {fp gp S G : List Nat} {t : Nat → Nat} (hP : Pr11 w0 w' p a r d' d' os os vs vm fp gp S G t) (hl : d'.secs.length = d.secs.length) (hw : d'.works ≤ 1000 * k') : PrY w0 w' p a r first d' os k' := by
  refine ⟨⟨vs, vm, fp, gp, S, G, t, hP⟩, fun s hs => ?_, hw, by rw [hl]; exact h.len, h.fI⟩
  obtain ⟨g1, g2, g3⟩ := h.wf s hs
  exact ⟨g1, by omega, g3⟩
end Go.Proofs.Ytbnflbkaogpnbaa
