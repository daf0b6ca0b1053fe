/- SectorDoes: what goes on in a round, on the plain model and in memory. -/
import Derived.Test.YtbnflbkaogpnbaaX9
namespace Go.Proofs.Ytbnflbkaogpnbaa
open Go.RowKit

/-- The first m sectors. -/
def Dev.cut (m : Nat) (d : Dev) : Dev := { d with secs := d.secs.take m }

theorem backs_take (keep : List Int) (f : Nat → Blk) (m : Nat) : ∀ (r : List Nat) (k : Nat) (s : List Blk), (Dev.backs keep f k r s).take m = Dev.backs keep f k r (s.take m) := by
  intro r
  induction r with
  | nil => intro k s; rfl
  | cons i r ih =>
    intro k s
    rw [Dev.backs, Dev.backs, ih]
    split
    · rw [List.take_set]
    · rfl

theorem cut_gone (m : Nat) (d : Dev) (keep : List Int) : (d.gone keep).cut m = (d.cut m).gone keep := by
  unfold Dev.cut Dev.gone
  simp only [backs_take]
  rfl

/-- Where a deed may be done to both: what is written lies in the first m, or there are no others. -/
def Fits (m : Nat) (d : Dev) (i : Int) : Prop := d.secs.length ≤ m ∨ (0 ≤ i ∧ i < m)

theorem cut_at {m : Nat} {d : Dev} {i : Int} (h : Fits m d i) (hm : m ≤ d.secs.length) : (d.cut m).at_ i = d.at_ i := by
  unfold Dev.at_ Dev.cut
  simp only [List.length_take]
  by_cases hd : d.dead = true
  · rw [if_pos hd, if_pos hd]
  · rw [if_neg hd, if_neg hd]
    rcases h with h | ⟨h1, h2⟩
    · have : m = d.secs.length := by omega
      rw [this, Nat.min_self]
    · rw [if_neg (by omega), if_neg (by omega)]

theorem cut_midst {m : Nat} {d : Dev} {i : Nat} (b : Blk) (h : i < m) : (d.midst i b).cut m = (d.cut m).midst i b := by
  unfold Dev.midst Dev.cut
  simp only [List.take_set, List.getElem?_take, if_pos h]

theorem cut_write {m : Nat} {d : Dev} {i : Int} (b : Blk) (h : Fits m d i) (hm : m ≤ d.secs.length) : (d.cut m).write i b = ((d.write i b).1.cut m, (d.write i b).2) := by
  unfold Dev.write
  rw [cut_at h hm]
  by_cases ha : d.at_ i ≠ 0
  · rw [if_pos ha, if_pos ha]
  · rw [if_neg ha, if_neg ha]
    by_cases hb : b.length ≠ 128
    · rw [if_pos hb, if_pos hb]
    · rw [if_neg hb, if_neg hb]
      have et : (d.cut m).till = d.till := rfl
      have ef : (d.cut m).fail = d.fail := rfl
      have ek : (d.cut m).keep = d.keep := rfl
      rw [et, ef, ek]
      have hi : i.toNat < m := by
        rcases h with h | ⟨h1, h2⟩
        · unfold Dev.at_ at ha
          by_cases hd : d.dead = true
          · rw [if_pos hd] at ha; simp at ha
          · rw [if_neg hd] at ha
            by_cases hi : i < 0 ∨ (d.secs.length : Int) ≤ i
            · rw [if_pos hi] at ha; simp at ha
            · omega
        · omega
      by_cases ht : d.till = 0
      · rw [if_pos ht, if_pos ht]
      · rw [if_neg ht, if_neg ht]
        by_cases hf : d.fail = 0
        · rw [if_pos hf, if_pos hf, cut_gone, cut_midst b hi]
        · rw [if_neg hf, if_neg hf, ← cut_midst b hi]; rfl

theorem cut_flush (m : Nat) (d : Dev) : (d.cut m).flush = (d.flush.1.cut m, d.flush.2) := by
  unfold Dev.flush
  have ed : (d.cut m).dead = d.dead := rfl
  have et : (d.cut m).till = d.till := rfl
  have ef : (d.cut m).fail = d.fail := rfl
  have ek : (d.cut m).keep = d.keep := rfl
  rw [ed, et, ef, ek]
  split
  · rfl
  · split
    · rfl
    · split
      · rw [cut_gone]
      · rfl

theorem cut_deed {m : Nat} {d : Dev} (x : DeedR) (b : Blk) (h : x.kind % 6 = 0 → Fits m d x.a) (hm : m ≤ d.secs.length) : (d.cut m).deed x b = ((d.deed x b).1.cut m, (d.deed x b).2) := by
  unfold Dev.deed
  split
  · rename_i h0; exact cut_write b (h h0) hm
  · split
    · exact cut_flush m d
    · split
      · unfold Dev.crash
        have ed : (d.cut m).dead = d.dead := rfl
        rw [ed]
        split
        · rfl
        · rw [cut_gone]
      · split
        · unfold Dev.failAt
          have ed : (d.cut m).dead = d.dead := rfl
          rw [ed]
          split <;> rfl
        · split
          · unfold Dev.refuse
            have ed : (d.cut m).dead = d.dead := rfl
            rw [ed]
            split <;> rfl
          · rfl

theorem deed_works {d : Dev} (x : DeedR) (b : Blk) : (d.deed x b).1.works ≤ d.works + 1 ∧ (d.deed x b).1.secs.length = d.secs.length := by
  have hg : ∀ (e : Dev) k, (e.gone k).secs.length = e.secs.length ∧ (e.gone k).works = e.works := fun e k => ⟨by simp [Dev.gone, Dev.length_backs], rfl⟩
  have hm : ∀ (e : Dev) i c, (e.midst i c).secs.length = e.secs.length ∧ (e.midst i c).works = e.works := fun e i c => ⟨by simp [Dev.midst], rfl⟩
  unfold Dev.deed
  split
  · unfold Dev.write
    split
    · exact ⟨by show d.works ≤ _; omega, rfl⟩
    · split
      · exact ⟨by show d.works ≤ _; omega, rfl⟩
      · split
        · exact ⟨by show d.works ≤ _; omega, rfl⟩
        · split
          · exact ⟨by rw [(hg _ _).2, (hm _ _ _).2]; omega, by rw [(hg _ _).1, (hm _ _ _).1]⟩
          · exact ⟨by show d.works + 1 ≤ _; omega, by show (d.midst _ _).secs.length = _; exact (hm _ _ _).1⟩
  · split
    · unfold Dev.flush
      split
      · exact ⟨by show d.works ≤ _; omega, rfl⟩
      · split
        · exact ⟨by show d.works ≤ _; omega, rfl⟩
        · split
          · exact ⟨by rw [(hg _ _).2]; omega, (hg _ _).1⟩
          · exact ⟨by show d.works + 1 ≤ _; omega, rfl⟩
    · split
      · unfold Dev.crash
        split
        · exact ⟨by show d.works ≤ _; omega, rfl⟩
        · exact ⟨by rw [(hg _ _).2]; omega, (hg _ _).1⟩
      · split
        · unfold Dev.failAt
          split <;> exact ⟨by show d.works ≤ _; omega, rfl⟩
        · split
          · unfold Dev.refuse
            split <;> exact ⟨by show d.works ≤ _; omega, rfl⟩
          · exact ⟨by show d.works ≤ _; omega, rfl⟩

theorem deed_wf {d : Dev} (h : d.Wf) (x : DeedR) {w : World} (hx : x.Ok w) (b : Blk) : (d.deed x b).1.Wf := by
  have e2 := hx.a
  unfold I64 at e2
  unfold Dev.deed
  split
  · unfold Dev.write
    split
    · exact h
    · rename_i ha
      split
      · exact h
      · rename_i hb
        have hi : x.a.toNat < d.secs.length := by
          unfold Dev.at_ at ha
          by_cases hd : d.dead = true
          · rw [if_pos hd] at ha; simp at ha
          · rw [if_neg hd] at ha
            by_cases hi : x.a < 0 ∨ (d.secs.length : Int) ≤ x.a
            · rw [if_pos hi] at ha; simp at ha
            · omega
        split
        · exact h
        · split
          · exact (h.midst hi (by omega)).gone _
          · exact (h.midst hi (by omega)).counted
  · split
    · unfold Dev.flush
      split
      · exact h
      · split
        · exact h
        · split
          · exact h.gone _
          · exact h.cleared.counted
    · split
      · unfold Dev.crash
        split
        · exact h
        · exact h.gone _
      · split
        · unfold Dev.failAt
          split
          · exact h
          · exact { h with fail0 := by show -1 ≤ max x.a (-1); omega, fail1 := by show max x.a (-1) ≤ _; omega, keepIn := fun n hn => hx.keep n hn }
        · split
          · unfold Dev.refuse
            split
            · exact h
            · exact { h with till0 := by show -1 ≤ max x.a (-1); omega, till1 := by show max x.a (-1) ≤ _; omega }
          · exact { h with }

/-- Two devices that are new since w. -/
structure Two (w : World) (a r : Nat) (d e : Dev) (fp gp : List Nat) (wr : World) : Prop where
  one : Dv wr a fp d
  two : Rv wr r gp e
  newf : ∀ j ∈ fp, w.heap.size ≤ j
  newg : ∀ j ∈ gp, w.heap.size ≤ j
  apart : ∀ j ∈ fp, j ∉ gp
  kept : Kept [] w wr

theorem Two.kept' {w : World} {a r : Nat} {d e : Dev} {fp gp : List Nat} {wr w2 : World} (h : Two w a r d e fp gp wr) (hk : Kept [] wr w2) : Two w a r d e fp gp w2 :=
  { h with one := h.one.new_kept hk, two := h.two.new_kept hk, kept := h.kept.trans hk }

/-- What happens outside both. -/
theorem Two.keptF {w : World} {a r : Nat} {d e : Dev} {fp gp : List Nat} {wr w2 : World} {F : List Nat} (h : Two w a r d e fp gp wr) (hk : Kept F wr w2) (hf : ∀ j ∈ F, w.heap.size ≤ j ∧ j ∉ fp ∧ j ∉ gp) : Two w a r d e fp gp w2 :=
  { h with one := h.one.kept hk (fun j hj hm => (hf j hm).2.1 hj), two := h.two.kept hk (fun j hj hm => (hf j hm).2.2 hj), kept := h.kept.trans' hk (fun i hi => .inr (hf i hi).1) }

theorem Two.first {w : World} {a r : Nat} {d e d' : Dev} {fp gp fp' : List Nat} {wr w2 : World} (h : Two w a r d e fp gp wr) (hD : Dv w2 a fp' d') (hk : Kept fp wr w2) (hn : ∀ j ∈ fp', j ∈ fp ∨ wr.heap.size ≤ j) : Two w a r d' e fp' gp w2 := by
  obtain ⟨h1, h2⟩ := news h.kept h.newf hk hn
  exact ⟨hD, h.two.kept hk (fun j hj hm => h.apart j hm hj), h2, h.newg, fun j hj hg => by
    rcases hn j hj with h3 | h3
    · exact h.apart j h3 hg
    · have := h.two.lt j hg; omega, h1⟩

theorem Two.second {w : World} {a r : Nat} {d e e' : Dev} {fp gp gp' : List Nat} {wr w2 : World} (h : Two w a r d e fp gp wr) (hD : Rv w2 r gp' e') (hk : Kept gp wr w2) (hn : ∀ j ∈ gp', j ∈ gp ∨ wr.heap.size ≤ j) : Two w a r d e' fp gp' w2 := by
  obtain ⟨h1, h2⟩ := news h.kept h.newg hk hn
  exact ⟨h.one.kept hk (fun j hj hm => h.apart j hj hm), hD, h.newf, h2, fun j hj hg => by
    rcases hn j hg with h3 | h3
    · exact h.apart j hj h3
    · have := h.one.lt j hj; omega, h1⟩

/-- The world of SectorDoes. -/
structure DoAt (w : World) (a r n m k : Nat) (d : Dev) (fp gp : List Nat) (wr : World) : Prop where
  at_ : Two w a r d (d.cut m) fp gp wr
  len : d.secs.length = n
  works : d.works ≤ k
  wf2 : (d.cut m).Wf

theorem own_kept {w w' : World} {base : Nat} {t : TypeId} {sz : Nat} {v : Value} {n : Nat} {xs : List Value} {F : List Nat} (h : w.ownsRow base t sz v n xs) (hk : Kept F w w') (hF : ∀ j, v.ownBlock = some j → j ∉ F) : w'.ownsRow base t sz v n xs := by
  obtain ⟨h1, h2⟩ := h
  refine ⟨h1, ?_⟩
  rcases h2 with h2 | ⟨g, cap, cur, rfl, hb, hg, h3⟩
  · exact .inl h2
  · exact .inr ⟨g, cap, cur, rfl, hb, (hk.block g (World.lt_of_heap hg) (hF g rfl)).trans hg, h3⟩
end Go.Proofs.Ytbnflbkaogpnbaa
