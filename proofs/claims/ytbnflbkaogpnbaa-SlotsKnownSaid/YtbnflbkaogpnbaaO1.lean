/- A Save on a device that may fail or refuse. No program in sight. -/
import Derived.Test.YtbnflbkaogpnbaaS6
import Derived.Test.YtbnflbkaogpnbaaO0
namespace Go.Proofs.Ytbnflbkaogpnbaa
set_option linter.unusedVariables false

theorem mixed_set {m x : List Blk} {j : Nat} {v : Blk} (hj : j < x.length) (h : Mixed m (x.set j v) x) : m = x ∨ m = x.set j v := by
  have hl := h.len
  rw [List.length_set] at hl
  rcases h.at_ j with e | e
  · right
    apply List.ext_getElem?
    intro i
    by_cases hi : i = j
    · rw [hi, e]
    · rcases h.at_ i with g | g
      · exact g
      · rw [g, List.getElem?_set_ne (fun e => hi e.symm)]
  · left
    apply List.ext_getElem?
    intro i
    by_cases hi : i = j
    · rw [hi, e]
    · rcases h.at_ i with g | g
      · rw [g, List.getElem?_set_ne (fun e => hi e.symm)]
      · exact g

/-- What a Save leaves. -/
structure SOut (s : Sl) (d : Dev) (b : List UInt8) (r : Sl × Dev × Int) : Prop where
  secs : r.2.1.secs = d.secs ∨ r.2.1.secs = d.secs.set (s.first + s.which) (slotB (s.turn + 1) b)
  works : d.works ≤ r.2.1.works ∧ r.2.1.works ≤ d.works + 2
  keep : r.2.1.keep = d.keep
  ways : (r.2.2 = 0 ∧ r.1 = s.next b ∧ r.2.1.secs = d.secs.set (s.first + s.which) (slotB (s.turn + 1) b) ∧ r.2.1.Live ∧ r.2.1.Sure r.2.1.secs ∧ r.2.1.works = d.works + 2 ∧ -1 ≤ r.2.1.fail ∧ r.2.1.fail ≤ d.fail ∧ -1 ≤ r.2.1.till ∧ r.2.1.till ≤ d.till) ∨
    (r.2.2 = 101 ∧ r.1 = s ∧ 0 ≤ d.till ∧ r.2.1.Live ∧ r.2.1.till = 0 ∧ (d.fail = -1 → r.2.1.fail = -1)) ∨
    (r.2.2 = 100 ∧ r.1 = s ∧ 0 ≤ d.fail ∧ r.2.1.dead = true ∧ r.2.1.fail = -1 ∧ r.2.1.till = -1 ∧ r.2.1.sure = [])

theorem SlOn.which {s : Sl} {d : Dev} (h : SlOn s d) : s.first + s.which < d.secs.length := by
  obtain ⟨x, y, h1, h2, h3⟩ := h.pair
  have := h3.which_le
  have := h.there
  omega

theorem SlOn.save {s : Sl} {d : Dev} (h : SlOn s d) (hd : d.Live) (hf : -1 ≤ d.fail) (ht : -1 ≤ d.till) (hq : d.Sure d.secs) {b : List UInt8} (hb : b.length ≤ 100) : SOut s d b (s.save d b) := by
  have hw := h.which
  have hsl : (slotB (s.turn + 1) b).length = 128 := length_slotB (by omega)
  unfold Sl.save
  rw [if_neg (by omega)]
  rcases hd.write hw hsl with ⟨h1, h2⟩ | ⟨⟨g1, g2, g3, g4⟩, h2⟩
  · simp only [h1]
    rw [if_pos (by decide)]
    exact ⟨.inl rfl, ⟨Int.le_refl _, by show d.works ≤ _; omega⟩, rfl, .inr (.inl ⟨rfl, rfl, by omega, hd, h2, fun e => e⟩)⟩
  · obtain ⟨R, hR⟩ : ∃ R, d.write ((s.first + s.which : Nat) : Int) (slotB (s.turn + 1) b) = R := ⟨_, rfl⟩
    rw [hR] at g1 g2 g3 g4 h2
    simp only [hR]
    rcases g4 with ⟨e0, e1, e2, e3, e4, e5⟩ | ⟨e0, _⟩ | ⟨e0, e1, e2, e3, e4, e5⟩
    · rw [if_neg (by rw [e0]; decide)]
      obtain ⟨k1, k2, k3⟩ := e1.flush
      obtain ⟨Q, hQ⟩ : ∃ Q, R.1.flush = Q := ⟨_, rfl⟩
      rw [hQ] at k1 k2 k3
      simp only [hQ]
      rcases k3 with ⟨f0, f1, f2, f3, f4, f5, f6⟩ | ⟨f0, f1⟩ | ⟨f0, f1, f2, f3, f4, f5, f6⟩
      · rw [if_neg (by rw [f0]; decide)]
        have hss : Q.1.secs = d.secs.set (s.first + s.which) (slotB (s.turn + 1) b) := f2.trans e2
        exact ⟨.inr hss, ⟨by show d.works ≤ Q.1.works; omega, by show Q.1.works ≤ _; omega⟩, k2.trans g3, .inl ⟨rfl, rfl, hss, f1, by show Q.1.Sure Q.1.secs; rw [f2]; exact f3, by show Q.1.works = _; omega, by show -1 ≤ Q.1.fail; omega, by show Q.1.fail ≤ _; omega, by show -1 ≤ Q.1.till; omega, by show Q.1.till ≤ _; omega⟩⟩
      · have fq : Q.2 = 101 ∧ Q.1 = R.1 := by rw [f0]; exact ⟨rfl, rfl⟩
        rw [if_pos (by rw [fq.1]; decide), fq.2]
        exact ⟨.inr e2, ⟨by show d.works ≤ R.1.works; omega, by show R.1.works ≤ _; omega⟩, g3, .inr (.inl ⟨fq.1, rfl, by omega, e1, f1, fun e => by show R.1.fail = -1; omega⟩)⟩
      · rw [if_pos (by rw [f0]; decide)]
        have hm := f6 _ ((g1 _ hq).2 (by rw [e0]; decide))
        rw [e2] at hm
        exact ⟨mixed_set hw hm, ⟨by show d.works ≤ Q.1.works; omega, by show Q.1.works ≤ _; omega⟩, k2.trans g3, .inr (.inr ⟨f0, rfl, by omega, f2, f3, f4, f5⟩)⟩
    · exact absurd e0 h2
    · rw [if_pos (by rw [e0]; decide)]
      have hm := (g1 _ hq).1 e0
      exact ⟨mixed_set hw hm, ⟨by show d.works ≤ R.1.works; omega, by show R.1.works ≤ _; omega⟩, g3, .inr (.inr ⟨e0, rfl, e1, e2, e3, e4, e5⟩)⟩

/-- Behind a Save: the slots are there as they were, or as they were to be. -/
theorem SOut.on {s : Sl} {d : Dev} {b : List UInt8} {r : Sl × Dev × Int} (h : SOut s d b r) (hs : SlOn s d) (ht : s.turn + 1 ≤ 1000000) (hb : b.length ≤ 100) {d' : Dev} (hd : d'.secs = r.2.1.secs) : (SlOn s d' ∧ d'.secs = d.secs) ∨ (SlOn (s.next b) d' ∧ d'.secs = d.secs.set (s.first + s.which) (slotB (s.turn + 1) b)) := by
  rcases h.secs with e | e
  · exact .inl ⟨hs.same (fun i _ => by rw [hd, e]) (by rw [hd, e]), by rw [hd, e]⟩
  · exact .inr ⟨hs.set ht hb (fun i _ => by rw [hd, e]) (by rw [hd, e, List.length_set]), by rw [hd, e]⟩
end Go.Proofs.Ytbnflbkaogpnbaa
