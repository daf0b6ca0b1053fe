/- Slices of rows of bytes. -/
import Derived.Test.YtbnflbkaogpnbaaU4
namespace Go.Proofs.Ytbnflbkaogpnbaa
open Go.RowKit

/-- A slice of rows of bytes. -/
structure BytessAt (w : World) (A : Option Addr) (n c : Nat) (l : List Part) : Prop where
  len : l.length = n
  le : n ≤ c
  max : c ≤ maxLen
  all : ∀ p ∈ l, p.At w
  cells : 0 < n → ∃ b o, A = some ⟨b, o, none⟩ ∧ b < w.heap.size ∧ ∀ i p, l[i]? = some p → w.cell? ⟨b, o + i, none⟩ = some p.val

theorem BytessAt.kept {w w' : World} {A : Option Addr} {n c : Nat} {l : List Part} {F : List Nat} (h : BytessAt w A n c l) (hk : Kept F w w') (hA : ∀ p, A = some p → p.block ∉ F) (hF : ∀ q ∈ l, ∀ p, q.A = some p → p.block ∉ F) : BytessAt w' A n c l :=
  ⟨h.len, h.le, h.max, fun q hq => (h.all q hq).kept hk (hF q hq), fun hn => by
    obtain ⟨b, o, rfl, hb, hc⟩ := h.cells hn
    exact ⟨b, o, rfl, Nat.lt_of_lt_of_le hb hk.size, fun i p hi => (hk.cell (p := ⟨b, o + i, none⟩) hb (hA ⟨b, o, none⟩ rfl)).trans (hc i p hi)⟩⟩

theorem BytessAt.new {w w' : World} {A : Option Addr} {n c : Nat} {l : List Part} (h : BytessAt w A n c l) (hk : Kept [] w w') : BytessAt w' A n c l := h.kept hk (by simp) (by simp)

theorem BytessAt.nil (w : World) : BytessAt w none 0 0 [] := ⟨rfl, Nat.le_refl _, by unfold maxLen; omega, by simp, fun h => by omega⟩

theorem BytessAt.at_ {w : World} {A : Option Addr} {n c : Nat} {l : List Part} (h : BytessAt w A n c l) {k : Nat} (hk : k < n) :
    ∃ b o p, A = some ⟨b, o, none⟩ ∧ b < w.heap.size ∧ l[k]? = some p ∧ p.At w ∧ w.cell? ⟨b, o + k, none⟩ = some (.slice p.A p.n p.c) := by
  obtain ⟨b, o, hA, hb, hc⟩ := h.cells (by omega)
  have hd : l[k]? = some (l[k]'(by rw [h.len]; exact hk)) := List.getElem?_eq_getElem (by rw [h.len]; exact hk)
  exact ⟨b, o, _, hA, hb, hd, h.all _ (List.mem_of_getElem? hd), hc k _ hd⟩

/-- Out of a row of one's own. -/
theorem BytessAt.of_own {w : World} {base : Nat} {t : TypeId} {v : Value} {n : Nat} {l : List Part} (h : w.ownsRow base t 1 v n (l.map Part.val)) (hp : ∀ p ∈ l, p.At w) : ∃ A c, v = .slice A n c ∧ BytessAt w A n c l := by
  obtain ⟨A, c, rfl, hs, hb⟩ := SlAt.of_own h
  refine ⟨A, c, rfl, by simpa using hs.len, hs.le, hs.max, hp, fun hn => ?_⟩
  obtain ⟨b, o, rfl, hbl, hc⟩ := hs.cells hn
  refine ⟨b, o, rfl, hbl, fun i p hi => ?_⟩
  have hil := (List.getElem?_eq_some_iff.1 hi).1
  have hln := hs.len
  simp only [List.length_map] at hln
  rw [hc i (by omega), List.getElem?_map, hi]
  rfl

def texts (l : List Part) : List (List UInt8) := l.map Part.xs

def SameRel (w : World) (l m : List Part) (i : Value) (wr : World) : Prop := ∃ k q : Nat, k ≤ l.length ∧ i = .int .i64 k ∧ wr = w.drewN q ∧ (texts l).take k = (texts m).take k

theorem Part.At.drewN {w : World} {p : Part} (h : p.At w) (q : Nat) : p.At (w.drewN q) := h.kept (Kept.drewN [] w q) (by simp)
end Go.Proofs.Ytbnflbkaogpnbaa
