/- SlotsKeep: what a Save leaves, whenever the power fails. -/
import Derived.Test.YtbnflbkaogpnbaaO7
import Derived.Test.YtbnflbkaogpnbaaRA
import Derived.Test.YtbnflbkaogpnbaaVA
namespace Go.Proofs.Ytbnflbkaogpnbaa
set_option linter.unusedVariables false
open Go.RowKit

/-- Slots on a device that neither fails nor refuses, of which all is sure. -/
structure KeInv (k : Nat) (s : Sl) (d : Dev) : Prop where
  first : s.first = 0
  turn : s.turn ≤ k
  calm : d.Calm
  sure : d.Sure d.secs
  on : SlOn s d
  len : d.secs.length = 2
  works : d.works ≤ 2 * k
  text : s.text.length ≤ 100

theorem SlOn.text {s : Sl} {d : Dev} (h : SlOn s d) : s.text.length ≤ 100 := by
  obtain ⟨x, y, _, _, h3⟩ := h.pair
  exact h3.text

theorem KeInv.start : KeInv 0 ⟨0, 0, 0, []⟩ (Dev.new 2) := ⟨rfl, Nat.le_refl _, Dev.Calm.new 2, Dev.Sure.new 2, SlOn.new (by omega), rfl, Int.le_refl _, by simp⟩

/-- The device is to fail behind q works, if q is below 4. -/
def keArm (d : Dev) (q : Nat) (keep : List Int) : Dev := if q < 4 then { d with fail := q, keep := keep } else d

theorem keArm_live {d : Dev} (h : d.Calm) (q : Nat) (keep : List Int) : (keArm d q keep).Live ∧ -1 ≤ (keArm d q keep).fail ∧ -1 ≤ (keArm d q keep).till ∧ (keArm d q keep).till = -1 ∧ (keArm d q keep).secs = d.secs ∧ (keArm d q keep).works = d.works ∧ ((keArm d q keep).Sure d.secs ↔ d.Sure d.secs) := by
  unfold keArm
  split
  · exact ⟨⟨h.dead, h.size⟩, by show (-1 : Int) ≤ (q : Nat); omega, by show -1 ≤ d.till; rw [h.till]; decide, h.till, rfl, rfl, Iff.rfl⟩
  · exact ⟨h.live, by rw [h.fail]; decide, by rw [h.till]; decide, h.till, rfl, rfl, Iff.rfl⟩

/-- Behind a Save, and Fail(-1). -/
theorem KeInv.save {k : Nat} {s : Sl} {d : Dev} (h : KeInv k s d) (hk : k ≤ 30) (q : Nat) (keep : List Int) {b : List UInt8} (hb : b.length ≤ 100) :
    ∃ S D e, s.save (keArm d q keep) b = (S, D, e) ∧
      ((e = 0 ∧ S = s.next b ∧ D.dead = false ∧ KeInv (k + 1) (s.next b) (D.failAt (-1) []).1 ∧ (D.failAt (-1) []).1.dead = false) ∨
       (e = 100 ∧ S = s ∧ D.dead = true ∧ D.failAt (-1) [] = (D, 100) ∧ ∃ s', (s' = s ∨ s' = s.next b) ∧ KeInv (k + 1) s' D.boot)) := by
  obtain ⟨a1, a2, a3, a4, a5, a6, a7⟩ := keArm_live h.calm q keep
  have hon : SlOn s (keArm d q keep) := h.on.same (fun i _ => by rw [a5]) (by rw [a5])
  have ho := hon.save a1 a2 a3 (by rw [a5]; exact a7.2 h.sure) hb
  have ht : s.turn + 1 ≤ 1000000 := by have := h.turn; omega
  obtain ⟨S, D, e, hS⟩ : ∃ S D e, s.save (keArm d q keep) b = (S, D, e) := ⟨_, _, _, rfl⟩
  refine ⟨S, D, e, hS, ?_⟩
  rw [hS] at ho
  have hw := ho.works
  rw [a6] at hw
  simp only at hw
  have hlen : D.secs.length = 2 := by
    have h1 := ho.secs
    simp only [a5] at h1
    rcases h1 with h1 | h1
    · rw [h1, h.len]
    · rw [h1, List.length_set, h.len]
  have hwk := h.works; have htn := h.turn
  rcases ho.ways with ⟨e0, e1, e2, e3, e4, e5, e6, e7, e8, e9⟩ | ⟨e0, e1, e2, e3, e4, e5⟩ | ⟨e0, e1, e2, e3, e4, e5, e6⟩
  · simp only at e0 e1 e2 e3 e4 e5 e6 e7 e8 e9
    left
    have hD : (D.failAt (-1) []).1 = { D with fail := -1, keep := [] } := by
      unfold Dev.failAt
      rw [e3.dead]
      rfl
    refine ⟨e0, e1, e3.dead, ?_, by rw [hD]; exact e3.dead⟩
    rw [hD]
    exact ⟨h.first, by show s.turn + 1 ≤ k + 1; omega, ⟨e3.dead, rfl, by show D.till = -1; omega, e3.size⟩, e4, (hon.set ht hb (fun i _ => by rw [e2]) (by rw [e2, List.length_set])).same (fun i _ => rfl) rfl, hlen, by show D.works ≤ _; push_cast; omega, hb⟩
  · omega
  · simp only at e0 e1 e2 e3 e4 e5 e6
    right
    have hfa : D.failAt (-1) [] = (D, 100) := by unfold Dev.failAt; rw [e3]; rfl
    have hsz : ∀ b ∈ D.secs, b.length = 128 := fun c hc => by
      have h1 := ho.secs
      simp only [a5] at h1
      rcases h1 with h1 | h1
      · rw [h1] at hc; exact h.calm.size c hc
      · rw [h1] at hc
        rcases List.mem_or_eq_of_mem_set hc with h2 | h2
        · exact h.calm.size c h2
        · rw [h2]; exact length_slotB (by omega)
    have hcalm : D.boot.Calm := ⟨rfl, e4, e5, hsz⟩
    have hsure : D.boot.Sure D.boot.secs := ⟨rfl, fun i => by show match Dev.look D.sure i with | some b => _ | none => _; rw [e6]; rfl⟩
    rcases ho.on hon ht hb (d' := D.boot) rfl with ⟨o1, _⟩ | ⟨o1, _⟩
    · exact ⟨e0, e1, e3, hfa, s, .inl rfl, h.first, by omega, hcalm, hsure, o1, hlen, by show D.works ≤ _; push_cast; omega, o1.text⟩
    · exact ⟨e0, e1, e3, hfa, s.next b, .inr rfl, h.first, by show s.turn + 1 ≤ _; omega, hcalm, hsure, o1, hlen, by show D.works ≤ _; push_cast; omega, hb⟩
end Go.Proofs.Ytbnflbkaogpnbaa
