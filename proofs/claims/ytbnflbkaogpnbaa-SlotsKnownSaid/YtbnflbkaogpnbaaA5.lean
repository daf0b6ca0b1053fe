/- What StripKnown's region makes. -/
import Derived.Test.YtbnflbkaogpnbaaA2
import Derived.Test.YtbnflbkaogpnbaaA3
namespace Go.Proofs.Ytbnflbkaogpnbaa
set_option linter.unusedVariables false
open Go.RowKit

/-- Bytes in a block of their own; numbers; deeds. -/
def BS (n : Nat) (v : Value) (w : World) : Prop := ∃ (b : Nat) (xs : List UInt8), v = .slice (some ⟨b, 0, none⟩) n n ∧ SlAt w (some ⟨b, 0, none⟩) n n (u8vs xs)
def BC (z : Nat) (v : Value) (w : World) : Prop := ∃ (b n : Nat) (C : Array Value) (fz : Nat × Nat), z ≤ b ∧ v = .slice (some ⟨b, 0, none⟩) n n ∧ w.heap[b]? = some (.cells C 5 fz)
def IS (n : Nat) (v : Value) (w : World) : Prop := ∃ (b : Nat) (xs : List Int), v = .slice (some ⟨b, 0, none⟩) n n ∧ SlAt w (some ⟨b, 0, none⟩) n n (xs.map i64v) ∧ ∀ x ∈ xs, I64 x
def DS (n : Nat) (v : Value) (w : World) : Prop := ∃ (b : Nat) (l : List D11), v = .slice (some ⟨b, 0, none⟩) n n ∧ D11s w (some ⟨b, 0, none⟩) n n l ∧ ∀ x ∈ l, x.data.n ≤ 900
def AgB (n : Nat) (v : Value) (w : World) : Prop := ∃ d, v = .agg #[.int .i64 0, .int .i64 0, d, .slice none 0 0] ∧ BS n d w
def AgI (kind num : Int) (n : Nat) (v : Value) (w : World) : Prop := ∃ d, v = .agg #[.int .i64 kind, .int .i64 num, .slice none 0 0, d] ∧ IS n d w

section
variable {w0 w w' : World} {v : Value} {n : Nat}
theorem BS.soft (h : BS n v w) (hs : Soft w0 w w') : BS n v w' := by
  obtain ⟨b, xs, h1, h2⟩ := h
  exact ⟨b, xs, h1, h2.soft hs⟩
theorem BC.soft {z : Nat} (h : BC z v w) (hs : Soft w0 w w') : BC z v w' := by
  obtain ⟨b, n, C, fz, hz, h1, h2⟩ := h
  obtain ⟨fz', h3⟩ := hs.cells b C _ fz h2
  exact ⟨b, n, C, fz', hz, h1, h3⟩
theorem IS.soft (h : IS n v w) (hs : Soft w0 w w') : IS n v w' := by
  obtain ⟨b, xs, h1, h2, h3⟩ := h
  exact ⟨b, xs, h1, h2.soft hs, h3⟩
theorem D11.Ok.soft {d : D11} (h : d.Ok w) (hs : Soft w0 w w') : d.Ok w' := ⟨h.kind, h.num, ⟨h.data.1.soft hs, h.data.2⟩, h.keepS.soft hs, h.keepL, h.keepI⟩
theorem D11s.soft {A : Option Addr} {c : Nat} {l : List D11} (h : D11s w A n c l) (hs : Soft w0 w w') : D11s w' A n c l :=
  ⟨h.len, h.le, h.max, fun d hd => (h.ok d hd).soft hs, fun hn => by
    obtain ⟨b, o, e, hb, hc⟩ := h.cells hn
    refine ⟨b, o, e, Nat.lt_of_lt_of_le hb hs.size, fun i d hd => ?_⟩
    obtain ⟨h1, h2, h3, h4⟩ := hc i d hd
    exact ⟨hs.cell _ _ h1, hs.cell _ _ h2, hs.cell _ _ h3, hs.cell _ _ h4⟩⟩
theorem DS.soft (h : DS n v w) (hs : Soft w0 w w') : DS n v w' := by
  obtain ⟨b, l, h1, h2, h3⟩ := h
  exact ⟨b, l, h1, h2.soft hs, h3⟩
theorem AgB.soft (h : AgB n v w) (hs : Soft w0 w w') : AgB n v w' := by
  obtain ⟨d, h1, h2⟩ := h
  exact ⟨d, h1, h2.soft hs⟩
theorem AgI.soft {kind num : Int} (h : AgI kind num n v w) (hs : Soft w0 w w') : AgI kind num n v w' := by
  obtain ⟨d, h1, h2⟩ := h
  exact ⟨d, h1, h2.soft hs⟩
end

/-- What each operation of the region yields. -/
def skS (z i k kA : Nat) (j : Nat) (v : Value) (w : World) : Prop :=
  match j with
  | 0 => BS 1 v w ∧ BC z v w
  | 1 => BS 1 v w
  | 2 => AgB 1 v w
  | 9 => BS 130 v w
  | 10 => AgB 130 v w
  | 15 => IS 3 v w
  | 16 => AgI 5 i 3 v w
  | 19 => BS kA v w
  | 20 => AgB kA v w
  | 21 => IS 3 v w
  | 22 => AgI 4 0 3 v w
  | 26 => BS 300 v w
  | 27 => AgB 300 v w
  | 34 => DS 14 v w
  | 35 => DS 14 v w
  | _ => True

theorem skS_soft {w0 : World} {z i k kA : Nat} (j : Nat) (v : Value) (w w' : World) (h : skS z i k kA j v w) (hs : Soft w0 w w') : skS z i k kA j v w' := by
  unfold skS at *
  split at h
  · exact ⟨h.1.soft hs, h.2.soft hs⟩
  · exact h.soft hs
  · exact h.soft hs
  · exact h.soft hs
  · exact h.soft hs
  · exact h.soft hs
  · exact h.soft hs
  · exact h.soft hs
  · exact h.soft hs
  · exact h.soft hs
  · exact h.soft hs
  · exact h.soft hs
  · exact h.soft hs
  · exact h.soft hs
  · exact h.soft hs
  · trivial

theorem wpOp_run {P : Program} {ops : Array Oper} {Q : Exit → Act → World → Prop} {i : Nat} {K : Act → World → Prop} {a : Act} {w : World} {o : Oper} (h : ops[i]? = some o) (hg : o.guard = none) (hr : o.wp P a w K Q) : wpOp P ops Q i K a w := by
  unfold wpOp
  rw [h]
  simp only
  rw [if_pos (by simp [Region.wanted, hg])]
  exact .inl hr

theorem run_convert_bytes (w : World) (b n c : Nat) (C : Array Value) (fz : Nat × Nat) (hb : w.heap[b]? = some (.cells C 5 fz)) :
    (convert 34 34 (.slice (some ⟨b, 0, none⟩) n c)).run Try.prog w = .ok (.slice (some ⟨b, 0, none⟩) n c) (w.freeze ⟨b, C.size, none⟩ 1) := by
  have hsh : w.shape? b = some (5, C.size) := by
    unfold World.shape?
    rw [hb]
  simp [convert, run_underlying Try.underlying34, run_underlying Try.underlying5, markStringish, hsh]

theorem freeze_soft {w0 w : World} {b k : Nat} (hb : w0.heap.size ≤ b) : Soft w0 w (w.freeze ⟨b, k, none⟩ 1) := by
  have hh : ∀ j, (w.freeze ⟨b, k, none⟩ 1).heap[j]? = if b = j then (w.heap[j]?).map (fun | .cells c elem (lo, hi) => .cells c elem (if lo == hi then (k, k + 1) else (min lo k, max hi (k + 1))) | o => o) else w.heap[j]? := fun j => by
    simp only [World.freeze, if_neg (show ¬ (1 : Nat) = 0 by omega)]
    rw [Array.getElem?_modify]
    rfl
  refine ⟨rfl, rfl, rfl, by simp [World.freeze], fun j hj => by rw [hh, if_neg (by omega)], fun j C t fz hj => ?_, fun p v hp => ?_⟩
  · rw [hh]
    by_cases e : b = j
    · rw [if_pos e, hj]
      obtain ⟨lo, hi⟩ := fz
      exact ⟨_, rfl⟩
    · rw [if_neg e, hj]
      exact ⟨_, rfl⟩
  · rw [← hp]
    simp only [World.cell?]
    rw [hh]
    by_cases e : b = p.block
    · rw [if_pos e]
      cases hx : w.heap[p.block]? with
      | none => rfl
      | some o => cases o <;> rfl
    · rw [if_neg e]
end Go.Proofs.Ytbnflbkaogpnbaa
