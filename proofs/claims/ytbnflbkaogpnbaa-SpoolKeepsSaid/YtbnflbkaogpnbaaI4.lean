/- The log on a device that neither fails nor refuses. -/
import Derived.Test.YtbnflbkaogpnbaaI2
namespace Go.Proofs.Ytbnflbkaogpnbaa
set_option linter.unusedVariables false
open Go.RowKit

/-- A log on a calm device. -/
structure SpC (s : Sp) (d : Dev) (now sure : List (List UInt8)) (N t W : Nat) : Prop where
  inv : ∃ q, SpInv s d q now sure
  fail : d.fail = -1
  till : d.till = -1
  len : d.secs.length = N
  turn : s.sl.turn ≤ t
  works : d.works ≤ W

theorem Sp.append_ok {s : Sp} {d : Dev} {b : List UInt8} : (s.append d b).1.half = s.half ∧ (s.append d b).1.each = s.each ∧ (s.append d b).1.first = s.first ∧ (s.append d b).1.sl = s.sl := by
  unfold Sp.append Sp.touch
  split
  · exact ⟨rfl, rfl, rfl, rfl⟩
  · split <;> exact ⟨rfl, rfl, rfl, rfl⟩

theorem SpC.append {s : Sp} {d : Dev} {now sure : List (List UInt8)} {N t W : Nat} (h : SpC s d now sure N t W) {b : List UInt8} (hb : b.length ≤ 16384) (hr : s.st.fin + (b.length + 7) ≤ 128 * s.each) :
    ∃ s' d', s.append d b = (s', d', 0) ∧ SpC s' d' (now ++ [b]) sure N t (W + (b.length + 8)) ∧ s'.half = s.half ∧ s'.each = s.each ∧ s'.first = s.first ∧ s'.sl = s.sl := by
  obtain ⟨q, hq⟩ := h.inv
  have hf := h.fail; have ht := h.till
  obtain ⟨h1, h2, h3, h4⟩ := hq.append (by omega) (by omega) hb
  obtain ⟨p1, p2, p3, p4⟩ := Sp.append_ok (s := s) (d := d) (b := b)
  have hl : (s.append d b).2.1.secs.length = d.secs.length := by
    unfold Sp.append
    split
    · rfl
    · have hw : (s.st.append d b).2.1.secs.length = d.secs.length := by
        unfold St.append
        split
        · rfl
        · split
          · rfl
          · simp only
            split
            · exact writes_len _ _ _
            · exact writes_len _ _ _
      split
      · exact hw
      · exact hw
  obtain ⟨R, hR⟩ : ∃ R, s.append d b = R := ⟨_, rfl⟩
  rw [hR] at h1 h2 h3 h4 hl p1 p2 p3 p4 ⊢
  obtain ⟨s', d', e⟩ := R
  rcases h1 with ⟨e0, e1, e2, e3, e4, e5, e6, e7, e8, e9, e10⟩ | ⟨e0, e1, e2, ⟨e3, e4⟩ | ⟨e3, e4⟩, e5⟩ | ⟨e0, e1, _⟩
  · simp only at e0 e1 e2 e3 e4 e5 e6 e7 e8 e9 h2 h3 hl p1 p2 p3 p4
    subst e0
    exact ⟨s', d', rfl, ⟨⟨q, e1⟩, by show d'.fail = -1; omega, by show d'.till = -1; omega, hl.trans h.len, by rw [p4]; exact h.turn, by show d'.works ≤ _; have := h.works; push_cast; omega⟩, p1, p2, p3, p4⟩
  · omega
  · omega
  · omega

theorem Sp.flush_half {s : Sp} {d : Dev} : (s.flush d).1.half = s.half := by
  unfold Sp.flush Sp.touch
  split
  · rfl
  · split
    · rfl
    · simp only [Sp.save_half]

theorem SpC.flush {s : Sp} {d : Dev} {now sure : List (List UInt8)} {N t W : Nat} (h : SpC s d now sure N t W) (ht1 : t + 1 ≤ 1000000) :
    ∃ s' d', s.flush d = (s', d', 0) ∧ SpC s' d' now now N (t + 1) (W + 3) ∧ s'.half = s.half ∧ s'.each = s.each ∧ s'.first = s.first ∧ s'.sl.first = s.sl.first := by
  obtain ⟨q, hq⟩ := h.inv
  have hf := h.fail; have ht := h.till; have htn := h.turn
  obtain ⟨h1, h2, h3, h4⟩ := hq.flush (by omega) (by omega) (by omega)
  have hh := Sp.flush_half (s := s) (d := d)
  obtain ⟨R, hR⟩ : ∃ R, s.flush d = R := ⟨_, rfl⟩
  rw [hR] at h1 h2 h3 h4 hh ⊢
  obtain ⟨s', d', e⟩ := R
  rcases h1 with ⟨e0, ⟨q', e1⟩, e2, e3, e4, e5, e6, e7, e8, e9, e10⟩ | ⟨e0, e1, _⟩ | ⟨e0, e1, _⟩
  · simp only at e0 e1 e2 e3 e4 e5 e6 e7 e8 e9 e10 h2 h3 hh
    subst e0
    exact ⟨s', d', rfl, ⟨⟨q', e1⟩, by show d'.fail = -1; omega, by show d'.till = -1; omega, e10.trans h.len, by show s'.sl.turn ≤ _; omega, by show d'.works ≤ _; have := h.works; push_cast; omega⟩, hh, e5, e4, e3⟩
  · omega
  · omega

theorem Sp.replace_half {s : Sp} {d : Dev} {l : List (List UInt8)} (h : (s.replace d l).2.2 = 0) : (s.replace d l).1.half = 1 - s.half ∧ (s.replace d l).1.many = l.length := by
  unfold Sp.replace at h ⊢
  split at h
  · exact absurd h (by show (100 : Int) ≠ 0; decide)
  · rename_i h1
    rw [if_neg h1]
    split at h
    · exact absurd h (by show (5 : Int) ≠ 0; decide)
    · rename_i h2
      rw [if_neg h2]
      split at h
      · exact absurd h (by show (101 : Int) ≠ 0; decide)
      · rename_i h3
        rw [if_neg h3]
        simp only at h ⊢
        split at h
        · rename_i h4
          exact absurd h h4
        · rename_i h4
          rw [if_neg h4]
          split at h
          · rename_i h5
            exact absurd h h5
          · rename_i h5
            rw [if_neg h5]
            exact ⟨rfl, rfl⟩

theorem SpC.replace {s : Sp} {d : Dev} {now sure : List (List UInt8)} {N t W : Nat} (h : SpC s d now sure N t W) (ht1 : t + 1 ≤ 1000000) {l : List (List UInt8)} (hl : Small l) (hr : allSize l ≤ 128 * s.each) :
    ∃ s' d', s.replace d l = (s', d', 0) ∧ SpC s' d' l l N (t + 1) (W + 2 * allSize l + 3) ∧ s'.half = 1 - s.half ∧ s'.each = s.each ∧ s'.first = s.first ∧ s'.sl.first = s.sl.first := by
  obtain ⟨q, hq⟩ := h.inv
  have hf := h.fail; have ht := h.till; have htn := h.turn
  obtain ⟨h1, h2, h3, h4⟩ := hq.replace (by omega) (by omega) (by omega) hl hr
  have hh := Sp.replace_half (s := s) (d := d) (l := l)
  obtain ⟨R, hR⟩ : ∃ R, s.replace d l = R := ⟨_, rfl⟩
  rw [hR] at h1 h2 h3 h4 hh ⊢
  obtain ⟨s', d', e⟩ := R
  rcases h1 with ⟨e0, ⟨q', e1⟩, e2, e3, e4, e5, e6, e7, e8, e9, e10⟩ | ⟨e0, e1, _⟩ | ⟨e0, e1, _⟩
  · simp only at e0 e1 e2 e3 e4 e5 e6 e7 e8 e9 e10 h2 h3 hh
    subst e0
    exact ⟨s', d', rfl, ⟨⟨q', e1⟩, by show d'.fail = -1; omega, by show d'.till = -1; omega, e10.trans h.len, by show s'.sl.turn ≤ _; omega, by show d'.works ≤ _; have := h.works; push_cast; omega⟩, (hh rfl).1, e5, e4, e3⟩
  · omega
  · omega

theorem SpC.new {n f each : Nat} (h1 : 1 ≤ each) (h2 : f + 2 + 2 * each ≤ n) : SpC (Sp.opened (f + 2) each 0 ⟨f, 0, 0, []⟩ []) (Dev.new n) [] [] n 0 0 :=
  ⟨⟨_, (SpDisk.new h1 h2).invNow (new_calm n).live (Dev.Sure.new n)⟩, rfl, rfl, by simp [Dev.new], Nat.le_refl _, Int.le_refl _⟩

theorem SpC.fin {s : Sp} {d : Dev} {now sure : List (List UInt8)} {N t W : Nat} (h : SpC s d now sure N t W) : s.st.fin = (recs now).length ∧ s.st.many = s.each ∧ s.many = now.length := by
  obtain ⟨q, hq⟩ := h.inv
  exact ⟨hq.finE, hq.stm, hq.many⟩
end Go.Proofs.Ytbnflbkaogpnbaa
