/- The document's device and the plain model: deed by deed. -/
import Derived.Test.YtbnflbkaogpnbaaY0
namespace Go.Proofs.Ytbnflbkaogpnbaa

def RS.write (s : RS) (i : Int) (b : Blk) : RS × Int := if s.stops i b.length ≠ 0 then (s, s.stops i b.length) else (s.midst i.toNat b).work
def RS.flushes (s : RS) : RS × Int := if s.stopsF ≠ 0 then (s, s.stopsF) else s.flush
def RS.crash (s : RS) (keep : List Int) : RS × Int := (if s.dead then s else s.gone keep, if s.dead then 100 else 0)
def RS.failAt (s : RS) (n : Int) (keep : List Int) : RS × Int := if s.dead then (s, 100) else ({ s with fail := max n (-1), keep := keep }, 0)
def RS.refuse (s : RS) (n : Int) : RS × Int := if s.dead then (s, 100) else ({ s with till := max n (-1), refuses := n == 0 }, 0)
def RS.boot (s : RS) : RS × Int := ({ s with dead := false }, 0)

theorem RS.Is.midst {s : RS} {d : Dev} (h : s.Is d) {i : Nat} (hi : i < s.n) (b : Blk) : (s.midst i b).Is (d.midst i b) := by
  have hn : i < d.secs.length := by rw [← h.n]; exact hi
  have hold := h.now i hi
  have hlk : ∀ j, Dev.look (d.midst i b).sure j = if j = i ∧ (Dev.look d.sure i).isSome = false then some (s.now i) else Dev.look d.sure j := by
    intro j
    simp only [Dev.midst]
    by_cases hs : (Dev.look d.sure i).isSome = true
    · rw [if_pos hs, if_neg (by rw [hs]; simp)]
    · have hnone : Dev.look d.sure i = none := by
        cases hl : Dev.look d.sure i with
        | none => rfl
        | some v => rw [hl] at hs; simp at hs
      rw [if_neg hs, look_append _ _ _ _ hnone, hold]
      by_cases hji : j = i
      · rw [if_pos hji, if_pos ⟨hji, by rw [hnone]; rfl⟩]; rfl
      · rw [if_neg hji, if_neg (fun e => hji e.1)]
  refine ⟨by show s.n = _; simp [Dev.midst, h.n], fun j hj => ?_, fun j hj => ?_, fun j hj => ?_, h.fail, h.keep, h.till, h.works, h.dead, h.refuses⟩
  · show (d.secs.set i b)[j]? = some (upd s.now i b j)
    by_cases hji : j = i
    · subst hji
      rw [List.getElem?_set_self hn, upd_self]
    · rw [List.getElem?_set_ne (fun e => hji e.symm), upd_ne _ _ hji]
      exact h.now j hj
  · show s.sure j = (Dev.look (d.midst i b).sure j).getD (upd s.now i b j)
    rw [hlk, h.sure j hj]
    by_cases hji : j = i
    · subst hji
      cases hl : Dev.look d.sure j with
      | none => simp
      | some v => simp
    · rw [if_neg (fun e => hji e.1), upd_ne _ _ hji]
  · show upd s.wrote i true j = (Dev.look (d.midst i b).sure j).isSome
    rw [hlk]
    by_cases hji : j = i
    · subst hji
      rw [upd_self]
      cases hl : Dev.look d.sure j with
      | none => simp
      | some v => simp
    · rw [if_neg (fun e => hji e.1), upd_ne _ _ hji]
      exact h.wrote j hj

theorem RS.Is.fails {s : RS} {d : Dev} (h : s.Is d) : s.fails.Is { d with fail := max (d.fail - 1) (-1) } :=
  ⟨h.n, h.now, h.sure, h.wrote, by show max (s.fail - 1) (-1) = _; rw [h.fail], h.keep, h.till, h.works, h.dead, h.refuses⟩

theorem RS.Is.done {s : RS} {d : Dev} (h : s.Is { d with fail := max (d.fail - 1) (-1) }) : s.done.Is d.counted :=
  ⟨h.n, h.now, h.sure, h.wrote, h.fail, h.keep, by show max (s.till - 1) (-1) = max (d.till - 1) (-1); rw [h.till], by show s.works + 1 = d.works + 1; rw [h.works], h.dead, rfl⟩

theorem RS.Is.work {s : RS} {d : Dev} (h : s.Is d) (hw : d.Wf) : s.work.1.Is (if d.fail = 0 then d.gone d.keep else d.counted) ∧ s.work.2 = if d.fail = 0 then 100 else 0 := by
  unfold RS.work
  rw [h.fail]
  by_cases hf : d.fail = 0
  · rw [if_pos hf, if_pos hf, if_pos hf, ← h.keep]
    have hw' : ({ d with fail := max (d.fail - 1) (-1) } : Dev).Wf := { hw with fail0 := by show -1 ≤ max (d.fail - 1) (-1); omega, fail1 := by show max (d.fail - 1) (-1) ≤ _; omega }
    exact ⟨h.fails.gone hw' s.keep, rfl⟩
  · rw [if_neg hf, if_neg hf, if_neg hf]
    exact ⟨h.fails.done, rfl⟩

theorem RS.Is.stops {s : RS} {d : Dev} (h : s.Is d) (i : Int) (n : Nat) : s.stops i n = if d.at_ i ≠ 0 then d.at_ i else if n ≠ 128 then 2 else if d.till = 0 then 101 else 0 := by
  unfold RS.stops Dev.at_
  rw [h.dead, h.n, h.refuses, h.till]
  by_cases hd : d.dead = true
  · simp [hd]
  · have hd' : d.dead = false := by simpa using hd
    rw [hd']
    by_cases hi : i < 0 ∨ (d.secs.length : Int) ≤ i
    · simp [hi]
    · simp [hi]

theorem RS.Is.write {s : RS} {d : Dev} (h : s.Is d) (hw : d.Wf) (i : Int) (b : Blk) : (s.write i b).1.Is (d.write i b).1 ∧ (s.write i b).2 = (d.write i b).2 := by
  unfold RS.write Dev.write
  rw [h.stops]
  by_cases ha : d.at_ i ≠ 0
  · rw [if_pos ha, if_pos ha, if_pos ha]; exact ⟨h, rfl⟩
  · rw [if_neg ha, if_neg ha]
    by_cases hb : b.length ≠ 128
    · rw [if_pos hb, if_pos hb, if_pos (by decide)]; exact ⟨h, rfl⟩
    · rw [if_neg hb, if_neg hb]
      by_cases ht : d.till = 0
      · rw [if_pos ht, if_pos ht, if_pos (by decide)]; exact ⟨h, rfl⟩
      · rw [if_neg ht, if_neg ht, if_neg (by simp)]
        have hin : 0 ≤ i ∧ i.toNat < s.n := by
          unfold Dev.at_ at ha
          rw [h.n]
          by_cases hd : d.dead = true
          · rw [if_pos hd] at ha; simp at ha
          · rw [if_neg hd] at ha
            by_cases hi : i < 0 ∨ (d.secs.length : Int) ≤ i
            · rw [if_pos hi] at ha; simp at ha
            · omega
        have hm := h.midst hin.2 b
        obtain ⟨h1, h2⟩ := hm.work (hw.midst (by rw [← h.n]; exact hin.2) (by omega))
        have ef : (d.midst i.toNat b).fail = d.fail := rfl
        have ek : (d.midst i.toNat b).keep = d.keep := rfl
        rw [ef, ek] at h1
        rw [ef] at h2
        by_cases hf : d.fail = 0
        · rw [if_pos hf] at h1 h2 ⊢; exact ⟨h1, h2⟩
        · rw [if_neg hf] at h1 h2 ⊢; exact ⟨h1, h2⟩

theorem RS.flushTo_is (s : RS) : ∀ i, (∀ j, (s.flushTo i).now j = s.now j) ∧ (∀ j, j < i → (s.flushTo i).sure j = s.now j ∧ (s.flushTo i).wrote j = false) ∧ (s.flushTo i).n = s.n ∧ (s.flushTo i).fail = s.fail ∧ (s.flushTo i).keep = s.keep ∧ (s.flushTo i).dead = s.dead
  | 0 => ⟨fun _ => rfl, fun j hj => by omega, rfl, rfl, rfl, rfl⟩
  | i + 1 => by
    obtain ⟨h1, h2, h3⟩ := RS.flushTo_is s i
    refine ⟨h1, fun j hj => ?_, h3⟩
    show upd (s.flushTo i).sure i ((s.flushTo i).now i) j = _ ∧ upd (s.flushTo i).wrote i false j = _
    by_cases hji : j = i
    · subst hji
      rw [upd_self, upd_self]
      exact ⟨h1 j, rfl⟩
    · rw [upd_ne _ _ hji, upd_ne _ _ hji]
      exact h2 j (by omega)

theorem RS.Is.flushes {s : RS} {d : Dev} (h : s.Is d) (hw : d.Wf) : s.flushes.1.Is d.flush.1 ∧ s.flushes.2 = d.flush.2 := by
  by_cases hd : d.dead = true
  · have e1 : s.flushes = (s, 100) := by simp [RS.flushes, RS.stopsF, h.dead, hd]
    have e2 : d.flush = (d, 100) := by simp [Dev.flush, hd]
    rw [e1, e2]; exact ⟨h, rfl⟩
  · have hd' : d.dead = false := by simpa using hd
    by_cases ht : d.till = 0
    · have e1 : s.flushes = (s, 101) := by simp [RS.flushes, RS.stopsF, h.dead, hd', h.refuses, h.till, ht]
      have e2 : d.flush = (d, 101) := by simp [Dev.flush, hd', ht]
      rw [e1, e2]; exact ⟨h, rfl⟩
    · have e1 : s.flushes = s.flush := by simp [RS.flushes, RS.stopsF, h.dead, hd', h.refuses, h.till, ht]
      rw [e1]
      by_cases hf : d.fail = 0
      · have e3 : s.flush = (s.fails.gone s.keep, 100) := if_pos (h.fail.trans hf)
        have e2 : d.flush = (d.gone d.keep, 100) := by simp [Dev.flush, hd', ht, hf]
        rw [e2, e3, ← h.keep]
        have hw' : ({ d with fail := max (d.fail - 1) (-1) } : Dev).Wf := { hw with fail0 := by show -1 ≤ max (d.fail - 1) (-1); omega, fail1 := by show max (d.fail - 1) (-1) ≤ _; omega }
        exact ⟨h.fails.gone hw' s.keep, rfl⟩
      · have e3 : s.flush = ((s.fails.flushTo s.n).done, 0) := if_neg (by rw [h.fail]; exact hf)
        have e2 : d.flush = (({ d with sure := [] } : Dev).counted, 0) := by simp [Dev.flush, hd', ht, hf]
        rw [e2, e3]
        refine ⟨?_, rfl⟩
        have hs := RS.flushTo_is s.fails s.n
        have hh := RS.flushTo_same s.fails s.n
        have hn : (s.fails.flushTo s.n).n = s.n := hs.2.2.1
        have hx : (s.fails.flushTo s.n).Is { ({ d with sure := [] } : Dev) with fail := max (d.fail - 1) (-1) } :=
          ⟨hn.trans h.n, fun i hi => by rw [hs.1 i]; exact h.now i (by omega), fun i hi => by rw [hs.1 i]; exact (hs.2.1 i (by omega)).1, fun i hi => (hs.2.1 i (by omega)).2,
            by rw [hs.2.2.2.1]; exact h.fails.fail, hs.2.2.2.2.1.trans h.keep, hh.2.1.trans h.till, hh.2.2.1.trans h.works, hs.2.2.2.2.2.trans h.dead, by rw [hh.2.2.2, hh.2.1]; exact h.refuses⟩
        exact hx.done

theorem RS.Is.crash {s : RS} {d : Dev} (h : s.Is d) (hw : d.Wf) (keep : List Int) : (s.crash keep).1.Is (d.crash keep).1 ∧ (s.crash keep).2 = (d.crash keep).2 := by
  by_cases hd : d.dead = true
  · have e1 : s.crash keep = (s, 100) := by simp [RS.crash, h.dead, hd]
    have e2 : d.crash keep = (d, 100) := by simp [Dev.crash, hd]
    rw [e1, e2]; exact ⟨h, rfl⟩
  · have hd' : d.dead = false := by simpa using hd
    have e1 : s.crash keep = (s.gone keep, 0) := by simp [RS.crash, h.dead, hd']
    have e2 : d.crash keep = (d.gone keep, 0) := by simp [Dev.crash, hd']
    rw [e1, e2]; exact ⟨h.gone hw keep, rfl⟩

theorem RS.Is.failAt {s : RS} {d : Dev} (h : s.Is d) (n : Int) (keep : List Int) : (s.failAt n keep).1.Is (d.failAt n keep).1 ∧ (s.failAt n keep).2 = (d.failAt n keep).2 := by
  by_cases hd : d.dead = true
  · have e1 : s.failAt n keep = (s, 100) := by simp [RS.failAt, h.dead, hd]
    have e2 : d.failAt n keep = (d, 100) := by simp [Dev.failAt, hd]
    rw [e1, e2]; exact ⟨h, rfl⟩
  · have e1 : s.failAt n keep = ({ s with fail := max n (-1), keep := keep }, 0) := if_neg (by rw [h.dead]; exact hd)
    have e2 : d.failAt n keep = ({ d with fail := max n (-1), keep := keep }, 0) := if_neg hd
    rw [e1, e2]
    exact ⟨⟨h.n, h.now, h.sure, h.wrote, rfl, rfl, h.till, h.works, h.dead, h.refuses⟩, rfl⟩

theorem RS.Is.refuse {s : RS} {d : Dev} (h : s.Is d) (n : Int) : (s.refuse n).1.Is (d.refuse n).1 ∧ (s.refuse n).2 = (d.refuse n).2 := by
  by_cases hd : d.dead = true
  · have e1 : s.refuse n = (s, 100) := by simp [RS.refuse, h.dead, hd]
    have e2 : d.refuse n = (d, 100) := by simp [Dev.refuse, hd]
    rw [e1, e2]; exact ⟨h, rfl⟩
  · have e1 : s.refuse n = ({ s with till := max n (-1), refuses := n == 0 }, 0) := if_neg (by rw [h.dead]; exact hd)
    have e2 : d.refuse n = ({ d with till := max n (-1) }, 0) := if_neg hd
    rw [e1, e2]
    refine ⟨⟨h.n, h.now, h.sure, h.wrote, h.fail, h.keep, rfl, h.works, h.dead, ?_⟩, rfl⟩
    show (n == 0) = (max n (-1) == 0)
    by_cases hn : n = 0
    · subst hn; rfl
    · rw [beq_false_of_ne hn, beq_false_of_ne (by omega)]

theorem RS.Is.boot {s : RS} {d : Dev} (h : s.Is d) : s.boot.1.Is d.boot := ⟨h.n, h.now, h.sure, h.wrote, h.fail, h.keep, h.till, h.works, rfl, h.refuses⟩

theorem RS.Is.fine {s : RS} {d : Dev} (h : s.Is d) (hw : d.Wf) (hk : d.works < 9223372036854775807) : s.Fine :=
  ⟨by rw [h.fail]; exact hw.fail0, by rw [h.fail]; exact hw.fail1, by rw [h.till]; exact hw.till0, by rw [h.till]; exact hw.till1, by rw [h.works]; exact hw.works0, by rw [h.works]; exact hk, h.refuses⟩
end Go.Proofs.Ytbnflbkaogpnbaa
