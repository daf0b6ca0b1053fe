/- SectorDoes: rows whose numbers are changed; what both devices read. -/
import Derived.Test.YtbnflbkaogpnbaaZ0
namespace Go.Proofs.Ytbnflbkaogpnbaa
open Go.RowKit

/-- A row of its own, of numbers of one kind, changed since W0. -/
structure MutAt (k : IntKind) (base : Nat) (t : TypeId) (A : Option Addr) (n c : Nat) (W0 wr : World) : Prop where
  own : ∃ xs, wr.ownsRow base t 1 (.slice A n c) n xs ∧ ∀ x ∈ xs, ∃ z : Int, x = .int k z
  kept : Kept (blksOf A) W0 wr

theorem MutAt.start_u8 {base : Nat} {t : TypeId} {A : Option Addr} {n c : Nat} {w : World} {l : List UInt8} (h : w.ownsRow base t 1 (.slice A n c) n (u8vs l)) : MutAt .u8 base t A n c w w :=
  ⟨⟨_, h, fun x hx => by
    simp only [u8vs, List.mem_map] at hx
    obtain ⟨b, _, rfl⟩ := hx
    exact ⟨_, rfl⟩⟩, Kept.refl _ _⟩
theorem MutAt.start_i64 {base : Nat} {t : TypeId} {A : Option Addr} {n c : Nat} {w : World} {l : List Int} (h : w.ownsRow base t 1 (.slice A n c) n (l.map i64v)) : MutAt .i64 base t A n c w w :=
  ⟨⟨_, h, fun x hx => by
    simp only [List.mem_map] at hx
    obtain ⟨b, _, rfl⟩ := hx
    exact ⟨_, rfl⟩⟩, Kept.refl _ _⟩

theorem MutAt.at_ {k : IntKind} {base : Nat} {t : TypeId} {A : Option Addr} {n c : Nat} {W0 wr : World} (h : MutAt k base t A n c W0 wr) {j : Nat} (hj : j < n) :
    ∃ g z, A = some ⟨g, 0, none⟩ ∧ wr.cell? ⟨g, j, none⟩ = some (.int k z) ∧ wr.frozen? ⟨g, j, none⟩ = false ∧ n ≤ c ∧ c ≤ maxLen ∧ ∀ u : Int, MutAt k base t A n c W0 (wr.setCell ⟨g, j, none⟩ (.int k u)) := by
  obtain ⟨⟨xs, ⟨h1, h2⟩, hx⟩, hk⟩ := h
  rcases h2 with ⟨e, e2⟩ | ⟨g, cap, cur, e, hb, hg, h3, h4, h5, h6⟩
  · omega
  · simp only [Value.slice.injEq] at e
    obtain ⟨rfl, _, rfl⟩ := e
    have hl : j < cur.size := by omega
    have hxs : xs[j]? = some cur[j] := by
      rw [← h6, List.getElem?_take, if_pos (by omega), Array.getElem?_toList, Array.getElem?_eq_getElem hl]
    obtain ⟨z, hz⟩ := hx _ (List.mem_of_getElem? hxs)
    refine ⟨g, z, rfl, by rw [blk_cell hg, Array.getElem?_eq_getElem hl, hz], blk_frozen hg j, h3, h4, fun u => ⟨⟨xs.set j (.int k u), ⟨by simpa using h1, .inr ⟨g, c, cur.setIfInBounds j (.int k u), rfl, hb, heap_set hg _ _, h3, h4, by simpa using h5, ?_⟩⟩, fun x hx' => ?_⟩, hk.trans (Kept.setCell (by simp [blksOf]) _)⟩⟩
    · rw [Array.toList_setIfInBounds, List.take_set, h6]
    · rcases List.mem_or_eq_of_mem_set hx' with h7 | h7
      · exact hx x h7
      · exact ⟨u, h7⟩

def MuRel (k : IntKind) (base : Nat) (t : TypeId) (A : Option Addr) (n c : Nat) (W0 : World) (i : Value) (wr : World) : Prop := ∃ q : Nat, q ≤ n ∧ i = .int .i64 (q : Nat) ∧ MutAt k base t A n c W0 wr

/-- The loop that compares: at is k - 1. -/
def CmRel (W0 : World) (m : Nat) (i : Value) (wr : World) : Prop := ∃ q : Nat, q ≤ m + 2 ∧ i = .int .i64 ((q : Int) - 1) ∧ Kept [] W0 wr
end Go.Proofs.Ytbnflbkaogpnbaa
