/- A strip, on the plain model of a device. -/
import Derived.Test.YtbnflbkaogpnbaaS1
import Derived.Test.YtbnflbkaogpnbaaP2
namespace Go.Proofs.Ytbnflbkaogpnbaa

/-- The bytes of the sectors from one on. -/
def Dev.bytesAt (d : Dev) (first : Nat) : List UInt8 := (d.secs.drop first).flatten
/-- A sector's bytes, noughts behind. -/
def pad (c : List UInt8) : Blk := c ++ List.replicate (128 - c.length) 0
theorem length_pad {c : List UInt8} (h : c.length ≤ 128) : (pad c).length = 128 := by simp [pad]; omega

/-- Writes, one sector behind the other, till one is refused. -/
def Dev.writes (d : Dev) (q : Int) : List Blk → Dev × Int
  | [] => (d, 0)
  | c :: r => if (d.write q c).2 = 0 then (d.write q c).1.writes (q + 1) r else d.write q c

/-- Rows of 128, the last one shorter. -/
def chunksF : Nat → List UInt8 → List (List UInt8)
  | 0, _ => []
  | f + 1, b => if b = [] then [] else b.take 128 :: chunksF f (b.drop 128)
def chunks (b : List UInt8) : List (List UInt8) := (List.range ((b.length + 127) / 128)).map fun i => (b.drop (128 * i)).take 128

structure St where
  first : Nat
  many : Nat
  fin : Nat
  last : List UInt8

namespace St
/-- What a strip and its device are behind an Append, and what it answers. -/
def append (s : St) (d : Dev) (b : List UInt8) : St × Dev × Int :=
  if 16384 < b.length then (s, d, 5)
  else if (128 * s.many : Int) - s.fin < b.length + 7 then (s, d, 101)
  else
    let all := s.last ++ recB b
    let r := d.writes (s.first + s.fin / 128 : Nat) ((chunks all).map pad)
    if r.2 = 0 then ({ s with fin := s.fin + (b.length + 7), last := all.drop (all.length - all.length % 128) }, r.1, 0) else (s, r.1, r.2)

/-- What every strip is that was opened. -/
structure Wf (s : St) (d : Dev) : Prop where
  one : 1 ≤ s.many
  there : s.first + s.many ≤ d.secs.length
  fin : s.fin ≤ 128 * s.many
  last : s.last.length = s.fin % 128
end St

theorem writes_len : ∀ (cs : List Blk) (d : Dev) (q : Int), (d.writes q cs).1.secs.length = d.secs.length := by
  have hw : ∀ (d : Dev) (q : Int) (c : Blk), (d.write q c).1.secs.length = d.secs.length := fun d q c => by
    unfold Dev.write
    split
    · rfl
    · split
      · rfl
      · split
        · rfl
        · split
          · simp [Dev.gone, Dev.length_backs, Dev.midst]
          · simp [Dev.counted, Dev.midst]
  intro cs
  induction cs with
  | nil => intro d q; rfl
  | cons c cs ih =>
    intro d q
    rw [Dev.writes]
    split
    · rw [ih, hw]
    · exact hw d q c

/-- A device that neither fails nor refuses. -/
structure Dev.Calm (d : Dev) : Prop where
  dead : d.dead = false
  fail : d.fail = -1
  till : d.till = -1
  size : ∀ b ∈ d.secs, b.length = 128

/-- What was sure when it was flushed last. -/
def Dev.Sure (d : Dev) (s : List Blk) : Prop := s.length = d.secs.length ∧ ∀ i, match Dev.look d.sure i with
  | some b => i < s.length ∧ s[i]? = some b
  | none => s[i]? = d.secs[i]?

theorem Dev.Sure.new (n : Nat) : (Dev.new n).Sure (Dev.new n).secs := ⟨rfl, fun i => by simp [Dev.new, Dev.look]⟩

/-- A write of a calm device. -/
theorem Dev.Calm.write {d : Dev} (h : d.Calm) {i : Nat} (hi : i < d.secs.length) {b : Blk} (hb : b.length = 128) :
    d.write (i : Int) b = ((d.midst i b).counted, 0) ∧ (d.midst i b).counted.Calm ∧ (d.midst i b).counted.secs = d.secs.set i b ∧ (d.midst i b).counted.works = d.works + 1 ∧ ∀ s, d.Sure s → (d.midst i b).counted.Sure s := by
  have hat : d.at_ (i : Int) = 0 := by simp [Dev.at_, h.dead]; omega
  refine ⟨write_ok hat hb (by rw [h.till]; decide) (by rw [h.fail]; decide), ⟨h.dead, ?_, ?_, ?_⟩, rfl, rfl, ?_⟩
  · show max (d.fail - 1) (-1) = -1; rw [h.fail]; decide
  · show max (d.till - 1) (-1) = -1; rw [h.till]; decide
  · intro c hc
    rcases List.mem_or_eq_of_mem_set hc with h1 | h1
    · exact h.size c h1
    · rw [h1]; exact hb
  · rintro s ⟨hl, hs⟩
    refine ⟨by simpa [Dev.counted, Dev.midst] using hl, fun j => ?_⟩
    have hj := hs j
    have hi2 := hs i
    simp only [Dev.counted, Dev.midst]
    cases hli : Dev.look d.sure i with
    | some v =>
      rw [hli] at hi2
      simp only [Option.isSome_some, if_true]
      cases hlj : Dev.look d.sure j with
      | some v2 => rw [hlj] at hj; exact hj
      | none =>
        rw [hlj] at hj
        have hne : i ≠ j := by rintro rfl; rw [hli] at hlj; cases hlj
        simp only at hj ⊢
        rw [List.getElem?_set_ne hne]
        exact hj
    | none =>
      rw [hli] at hi2
      simp only [Option.isSome_none, Bool.false_eq_true, if_false]
      rw [look_append _ _ _ _ hli]
      by_cases hji : j = i
      · subst hji
        simp only [if_true] at hi2 ⊢
        refine ⟨by omega, ?_⟩
        rw [hi2, List.getElem?_eq_getElem hi]
        rfl
      · rw [if_neg hji]
        cases hlj : Dev.look d.sure j with
        | some v2 => rw [hlj] at hj; exact hj
        | none =>
          rw [hlj] at hj
          simp only at hj ⊢
          rw [List.getElem?_set_ne (fun e => hji e.symm)]
          exact hj

/-- A flush of a calm device. -/
theorem Dev.Calm.flush {d : Dev} (h : d.Calm) : ∃ d', d.flush = (d', 0) ∧ d'.Calm ∧ d'.secs = d.secs ∧ d'.works = d.works + 1 ∧ d'.Sure d.secs := by
  refine ⟨{ d with sure := [] }.counted, by simp [Dev.flush, h.dead, h.fail, h.till], ⟨h.dead, ?_, ?_, h.size⟩, rfl, rfl, rfl, fun i => ?_⟩
  · show max (d.fail - 1) (-1) = -1; rw [h.fail]; decide
  · show max (d.till - 1) (-1) = -1; rw [h.till]; decide
  · simp [Dev.counted, Dev.look]

theorem Dev.Calm.new (n : Nat) : (Dev.new n).Calm := ⟨rfl, rfl, rfl, fun b hb => by simp [Dev.new] at hb; rw [hb.2, length_zeros]⟩

theorem set_eq_splice {l : List Blk} {q : Nat} (h : q < l.length) (c : Blk) : l.set q c = l.take q ++ c :: l.drop (q + 1) := by
  rw [List.set_eq_take_append_cons_drop, if_pos h]

/-- Writes of a calm device. -/
theorem Dev.Calm.writes : ∀ (cs : List Blk) {d : Dev} (_ : d.Calm) {q : Nat}, q + cs.length ≤ d.secs.length → (∀ c ∈ cs, c.length = 128) →
    ∃ d', d.writes (q : Int) cs = (d', 0) ∧ d'.Calm ∧ d'.secs = d.secs.take q ++ cs ++ d.secs.drop (q + cs.length) ∧ d'.works = d.works + cs.length ∧ ∀ s, d.Sure s → d'.Sure s := by
  intro cs
  induction cs with
  | nil => intro d h q _ _; exact ⟨d, rfl, h, by simp, by simp, fun s hs => hs⟩
  | cons c cs ih =>
    intro d h q hq hc
    simp only [List.length_cons] at hq
    obtain ⟨h1, h2, h3, h4, h5⟩ := h.write (i := q) (by omega) (hc c List.mem_cons_self)
    obtain ⟨d', e1, e2, e3, e4, e5⟩ := ih (d := (d.midst q c).counted) h2 (q := q + 1) (by rw [h3]; simp; omega) (fun x hx => hc x (List.mem_cons_of_mem _ hx))
    refine ⟨d', ?_, e2, ?_, ?_, fun s hs => e5 s (h5 s hs)⟩
    · rw [Dev.writes, h1]
      simp only [if_true]
      exact e1
    · rw [e3, h3, set_eq_splice (by omega)]
      have hl : (d.secs.take q ++ [c]).length = q + 1 := by simp; omega
      rw [show d.secs.take q ++ c :: d.secs.drop (q + 1) = (d.secs.take q ++ [c]) ++ d.secs.drop (q + 1) by simp]
      rw [List.take_append_of_le_length (by omega), List.take_of_length_le (by omega), List.drop_append, hl, List.drop_of_length_le (by omega), List.nil_append, List.drop_drop]
      simp only [List.append_assoc, List.cons_append, List.nil_append, List.length_cons]
      congr 4
      omega
    · rw [e4, h4, List.length_cons]; omega
end Go.Proofs.Ytbnflbkaogpnbaa
