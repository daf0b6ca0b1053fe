/- SectorRefuses, SectorFails, SectorAlone, on the plain model. -/
import Derived.Test.YtbnflbkaogpnbaaP1
namespace Go.Proofs.Ytbnflbkaogpnbaa

theorem at_zero6 {d : Dev} (hl : d.secs.length = 6) (hd : d.dead = false) {q : Nat} (hq : q < 6) : d.at_ (q : Int) = 0 := by
  simp [Dev.at_, hd]
  omega

/-- Behind k deeds of which the first n count: the device that refuses from there on. -/
structure RInv (n k : Nat) (d : Dev) : Prop where
  len : d.secs.length = 6
  dead : d.dead = false
  fail : d.fail = -1
  till : d.till = max ((n : Int) - k) 0
  works : d.works = min (k : Int) n

theorem RInv.start (n : Nat) : ∃ d, (Dev.new 6).refuse (n : Int) = (d, 0) ∧ RInv n 0 d :=
  ⟨{ Dev.new 6 with till := max (n : Int) (-1) }, rfl, by simp [Dev.new], rfl, rfl, by show max (n : Int) (-1) = max ((n : Int) - (0 : Nat)) 0; omega, by show (0 : Int) = min ((0 : Nat) : Int) n; omega⟩

theorem RInv.inside {n k : Nat} {d : Dev} (h : RInv n k d) {q : Nat} (hq : q < 6) {b : Blk} (hb : b.length = 128) (hk : k < n) : ∃ d', d.write (q : Int) b = (d', 0) ∧ RInv n (k + 1) d' ∧ d'.secs[q]? = some b := by
  have hw := write_ok (d := d) (i := (q : Int)) (b := b) (at_zero6 h.len h.dead hq) hb (by rw [h.till]; omega) (by rw [h.fail]; decide)
  refine ⟨_, hw, ⟨by simpa [Dev.counted, Dev.midst] using h.len, h.dead, ?_, ?_, ?_⟩, ?_⟩
  · show max (d.fail - 1) (-1) = -1
    rw [h.fail]; decide
  · show max (d.till - 1) (-1) = _
    rw [h.till]; omega
  · show d.works + 1 = _
    rw [h.works]; omega
  · simp only [Dev.counted, Dev.midst, Int.toNat_natCast]
    rw [List.getElem?_set_self (by rw [h.len]; exact hq)]

theorem RInv.outside {n k : Nat} {d : Dev} (h : RInv n k d) {q : Nat} (hq : q < 6) {b : Blk} (hb : b.length = 128) (hk : n ≤ k) : d.write (q : Int) b = (d, 101) ∧ RInv n (k + 1) d := by
  have ht : d.till = 0 := by rw [h.till]; omega
  refine ⟨by simp [Dev.write, at_zero6 h.len h.dead hq, hb, ht], h.len, h.dead, h.fail, ?_, ?_⟩
  · rw [h.till]; omega
  · rw [h.works]; omega

theorem RInv.ends {n k : Nat} {d : Dev} (h : RInv n k d) : ∃ d1 d2, d.refuse (-1) = (d1, 0) ∧ d1.flush = (d2, 0) ∧ d1.works = min (k : Int) n ∧ d2.works = min (k : Int) n + 1 := by
  refine ⟨{ d with till := -1 }, { d with sure := [], till := -1 }.counted, by simp [Dev.refuse, h.dead], by simp [Dev.flush, h.dead, h.fail], h.works, ?_⟩
  show d.works + 1 = _
  rw [h.works]

/-- Behind k deeds: the device that dies at the n-th. -/
structure FInv (n k : Nat) (d : Dev) : Prop where
  len : d.secs.length = 6
  dead : d.dead = false
  fail : d.fail = (n : Int) - k
  till : d.till = -1
  works : d.works = k
  le : k ≤ n

theorem FInv.start (n : Nat) : ∃ d, (Dev.new 6).failAt (n : Int) [] = (d, 0) ∧ FInv n 0 d :=
  ⟨{ Dev.new 6 with fail := max (n : Int) (-1), keep := [] }, rfl, by simp [Dev.new], rfl, by show max (n : Int) (-1) = (n : Int) - (0 : Nat); omega, rfl, rfl, Nat.zero_le _⟩

/-- What is there behind the loss. -/
structure FEnd (n : Nat) (d : Dev) : Prop where
  dead : d.dead = true
  fail : d.fail = -1
  till : d.till = -1
  works : d.works = n

theorem FInv.write {n k : Nat} {d : Dev} (h : FInv n k d) {q : Nat} (hq : q < 6) {b : Blk} (hb : b.length = 128) : ∃ d' : Dev, (d.write (q : Int) b = (d', if k = n then 100 else 0)) ∧ (k = n → FEnd n d') ∧ (k ≠ n → FInv n (k + 1) d') := by
  by_cases hk : k = n
  · have hw := write_falls (d := d) (i := (q : Int)) (b := b) (at_zero6 h.len h.dead hq) hb (by rw [h.till]; decide) (by rw [h.fail]; omega)
    refine ⟨(d.midst (q : Int).toNat b).gone d.keep, by rw [if_pos hk]; exact hw, fun _ => ⟨rfl, rfl, rfl, ?_⟩, fun h => absurd hk h⟩
    show d.works = _
    rw [h.works, hk]
  · have hw := write_ok (d := d) (i := (q : Int)) (b := b) (at_zero6 h.len h.dead hq) hb (by rw [h.till]; decide) (by rw [h.fail]; have := h.le; omega)
    refine ⟨(d.midst (q : Int).toNat b).counted, by rw [if_neg hk]; exact hw, fun h => absurd h hk, fun _ => ⟨by simpa [Dev.counted, Dev.midst] using h.len, h.dead, ?_, ?_, ?_, by have := h.le; omega⟩⟩
    · show max (d.fail - 1) (-1) = _
      rw [h.fail]; have := h.le; omega
    · show max (d.till - 1) (-1) = _
      rw [h.till]; decide
    · show d.works + 1 = _
      rw [h.works]; omega

theorem FInv.flush {n k : Nat} {d : Dev} (h : FInv n k d) : ∃ d' : Dev, (d.flush = (d', if k = n then 100 else 0)) ∧ (k = n → FEnd n d') ∧ (k ≠ n → FInv n (k + 1) d') := by
  have ht : d.till ≠ 0 := by rw [h.till]; decide
  by_cases hk : k = n
  · have hf : d.fail = 0 := by rw [h.fail]; omega
    refine ⟨d.gone d.keep, by simp [Dev.flush, h.dead, ht, hf, hk], fun _ => ⟨rfl, rfl, rfl, ?_⟩, fun h => absurd hk h⟩
    show d.works = _
    rw [h.works, hk]
  · have hf : d.fail ≠ 0 := by rw [h.fail]; have := h.le; omega
    refine ⟨{ d with sure := [] }.counted, by simp [Dev.flush, h.dead, ht, hf, hk], fun h => absurd h hk, fun _ => ⟨h.len, h.dead, ?_, ?_, ?_, by have := h.le; omega⟩⟩
    · show max (d.fail - 1) (-1) = _
      rw [h.fail]; have := h.le; omega
    · show max (d.till - 1) (-1) = _
      rw [h.till]; decide
    · show d.works + 1 = _
      rw [h.works]; omega

theorem FEnd.flush {n : Nat} {d : Dev} (h : FEnd n d) : ∃ d', d.boot.flush = (d', 0) :=
  ⟨{ d.boot with sure := [] }.counted, by simp [Dev.flush, Dev.boot, h.fail, h.till]⟩

/-- One device behind k deeds, of which each counts. -/
structure OInv (k : Nat) (d : Dev) : Prop where
  len : d.secs.length = 6
  dead : d.dead = false
  fail : d.fail = -1
  till : d.till = -1
  works : d.works ≤ k

theorem OInv.start : OInv 0 (Dev.new 6) := ⟨by simp [Dev.new], rfl, rfl, rfl, Int.le_refl _⟩
theorem OInv.more {k : Nat} {d : Dev} (h : OInv k d) : OInv (k + 1) d := ⟨h.len, h.dead, h.fail, h.till, by have := h.works; omega⟩

theorem OInv.write {k : Nat} {d : Dev} (h : OInv k d) {q : Nat} (hq : q < 6) {b : Blk} (hb : b.length = 128) : ∃ d' : Dev, d.write (q : Int) b = (d', 0) ∧ OInv (k + 1) d' ∧ d'.secs = d.secs.set q b := by
  have hw := write_ok (d := d) (i := (q : Int)) (b := b) (at_zero6 h.len h.dead hq) hb (by rw [h.till]; decide) (by rw [h.fail]; decide)
  refine ⟨_, hw, ⟨by simpa [Dev.counted, Dev.midst] using h.len, h.dead, ?_, ?_, ?_⟩, rfl⟩
  · show max (d.fail - 1) (-1) = _
    rw [h.fail]; decide
  · show max (d.till - 1) (-1) = _
    rw [h.till]; decide
  · show d.works + 1 ≤ _
    have := h.works; omega

theorem OInv.flush {k : Nat} {d : Dev} (h : OInv k d) : ∃ d' : Dev, d.flush = (d', 0) ∧ OInv (k + 1) d' ∧ d'.secs = d.secs := by
  refine ⟨{ d with sure := [] }.counted, by simp [Dev.flush, h.dead, h.fail, h.till], ⟨h.len, h.dead, ?_, ?_, ?_⟩, rfl⟩
  · show max (d.fail - 1) (-1) = _
    rw [h.fail]; decide
  · show max (d.till - 1) (-1) = _
    rw [h.till]; decide
  · show d.works + 1 ≤ _
    have := h.works; omega
end Go.Proofs.Ytbnflbkaogpnbaa
