/- SpoolList: what the loop keeps. -/
import Derived.Test.YtbnflbkaogpnbaaI6
import Derived.Test.YtbnflbkaogpnbaaRA
namespace Go.Proofs.Ytbnflbkaogpnbaa
set_option linter.unusedVariables false
open Go.RowKit

/-- Of a part the block is an old one. -/
theorem Part.At.low_ {w : World} {p : Part} (h : p.At w) : ∀ a, p.A = some a → 0 < p.n → a.block < w.heap.size := fun a e hn => h.1.lt' hn e

/-- A slice of rows beside the log's blocks and another row. -/
structure SureAt (w wr : World) (F : List Nat) (v8 v9 : Value) (sp : List Part) : Prop where
  ex : ∃ A c, v9 = .slice A sp.length c ∧ BytessAt wr A sp.length c sp ∧ ∀ p, A = some p → 0 < sp.length → w.heap.size ≤ p.block ∧ p.block ∉ F ∧ v8.ownBlock ≠ some p.block ∧ p.block < wr.heap.size
  parts : ∀ p ∈ sp, p.At w

theorem SureAt.nil (w wr : World) (F : List Nat) (v8 : Value) : SureAt w wr F v8 (.slice none 0 0) [] :=
  ⟨⟨none, 0, rfl, BytessAt.nil wr, fun p e => by cases e⟩, by simp⟩

theorem SureAt.step {w wr w' : World} {F F' : List Nat} {v8 v9 : Value} {sp : List Part} (h : SureAt w wr F v8 v9 sp) (hs : Step F F' wr w') (hF : ∀ j ∈ F, w.heap.size ≤ j) : SureAt w w' F' v8 v9 sp := by
  obtain ⟨A, c, e, h1, h2⟩ := h.ex
  refine ⟨⟨A, c, e, h1.keptP hs.kept (fun p e hn => (h2 p e hn).2.1) (fun q hq p e hn hm => ?_), fun p e hn => ?_⟩, h.parts⟩
  · have := (h.parts q hq).low_ p e hn
    have := hF _ hm
    omega
  · obtain ⟨g1, g2, g3, g4⟩ := h2 p e hn
    refine ⟨g1, fun hm => ?_, g3, Nat.lt_of_lt_of_le g4 hs.kept.size⟩
    rcases hs.new _ hm with e2 | e2
    · exact g2 e2
    · omega

theorem SureAt.next {w wr w' : World} {F : List Nat} {v8 v9 : Value} {sp : List Part} (h : SureAt w wr F v8 v9 sp) (hk : Kept [] wr w') : SureAt w w' F v8 v9 sp := by
  obtain ⟨A, c, e, h1, h2⟩ := h.ex
  refine ⟨⟨A, c, e, h1.new hk, fun p e hn => ?_⟩, h.parts⟩
  obtain ⟨g1, g2, g3, g4⟩ := h2 p e hn
  exact ⟨g1, g2, g3, Nat.lt_of_lt_of_le g4 hk.size⟩

/-- The other row grows. -/
theorem SureAt.grow {w wr w' : World} {F : List Nat} {v8 v9 v8' : Value} {sp : List Part} (h : SureAt w wr F v8 v9 sp) (hk : Kept v8.ownBlock.toList wr w') (hl : ∀ g, v8.ownBlock = some g → w.heap.size ≤ g) (hv : ∀ g, v8'.ownBlock = some g → v8.ownBlock = some g ∨ wr.heap.size ≤ g) : SureAt w w' F v8' v9 sp := by
  obtain ⟨A, c, e, h1, h2⟩ := h.ex
  refine ⟨⟨A, c, e, h1.keptP hk (fun p e hn hm => (h2 p e hn).2.2.1 (by simpa using hm)) (fun q hq p e hn hm => ?_), fun p e hn => ?_⟩, h.parts⟩
  · have h3 := (h.parts q hq).low_ p e hn
    have h4 := hl p.block (by simpa using hm)
    omega
  · obtain ⟨g1, g2, g3, g4⟩ := h2 p e hn
    refine ⟨g1, g2, fun e2 => ?_, Nat.lt_of_lt_of_le g4 hk.size⟩
    rcases hv _ e2 with e3 | e3
    · exact g3 e3
    · omega

/-- Another row takes the first one's place. -/
theorem SureAt.turn {w wr : World} {F : List Nat} {v8 v9 v8' : Value} {sp : List Part} (h : SureAt w wr F v8 v9 sp) (hv : ∀ A c p, v9 = .slice A sp.length c → A = some p → 0 < sp.length → v8'.ownBlock ≠ some p.block) : SureAt w wr F v8' v9 sp := by
  obtain ⟨A, c, e, h1, h2⟩ := h.ex
  exact ⟨⟨A, c, e, h1, fun p e2 hn => by
    obtain ⟨g1, g2, g3, g4⟩ := h2 p e2 hn
    exact ⟨g1, g2, hv A c p e e2 hn, g4⟩⟩, h.parts⟩

/-- What so many records of 60 bytes take. -/
theorem recs_sixty : ∀ (l : List Part), (∀ p ∈ l, p.xs.length ≤ 60) → (recs (texts l)).length ≤ 67 * l.length := by
  intro l
  induction l with
  | nil => intro _; simp [texts, recs_nil]
  | cons p l ih =>
    intro h
    have h1 := ih (fun q hq => h q (List.mem_cons_of_mem _ hq))
    have h2 := h p List.mem_cons_self
    show (recs (p.xs :: texts l)).length ≤ _
    rw [recs_cons, List.length_append, length_recB, List.length_cons]
    omega

/-- SpoolList's loop: the log, the plain list, what is sure of it. -/
def LsRel (w : World) (y a : Nat) (v8 v9 i : Value) (wr : World) : Prop :=
  ∃ (k half t W : Nat) (F : List Nat) (np sp : List Part), i = .int .i64 k ∧ k ≤ 40 ∧ SpK w wr y a F 0 29 half (texts np) (texts sp) 60 t W ∧ t ≤ k ∧ W ≤ 1000 * k ∧ np.length ≤ 5 + k ∧ (∀ p ∈ np, p.At w ∧ p.xs.length ≤ 60) ∧
    RowIn w.heap.size wr 34 F v8 np.length (np.map Part.val) ∧ (np = [] → v8 = .slice none 0 0) ∧ SureAt w wr F v8 v9 sp

/-- SpoolList's second loop: the records that are to be. -/
def LmRel (w wr0 : World) (F : List Nat) (v8 v9 : Value) (np sp lp : List Part) (v13 i : Value) (wx : World) : Prop :=
  ∃ j : Nat, j ≤ 5 ∧ j ≤ lp.length ∧ i = .int .i64 j ∧ RowIn w.heap.size wx 34 F v13 j (((lp.take j).map (Part.low 60)).map Part.val) ∧ (j = 0 → v13 = .slice none 0 0) ∧ Kept [] wr0 wx ∧ (∀ g, v13.ownBlock = some g → wr0.heap.size ≤ g)
end Go.Proofs.Ytbnflbkaogpnbaa
