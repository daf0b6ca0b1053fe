/- Words for memory: a slice that reads as a list, a world that is kept but for some blocks. -/
import Derived.Test.YtbnflbkaogpnbaaProg
import Derived.WalkKit
import Derived.WalkSpells
import Derived.WalkLawsBesides
import Derived.Deep.QuietTactic
import Derived.BigQuiet
import Derived.Lib.Hide
namespace Go.Proofs.Ytbnflbkaogpnbaa
open Go.RowKit

/-- A slice value that reads as the cells xs in w. -/
structure SlAt (w : World) (A : Option Addr) (n c : Nat) (xs : List Value) : Prop where
  len : xs.length = n
  le : n ≤ c
  max : c ≤ maxLen
  cells : 0 < n → ∃ b o, A = some ⟨b, o, none⟩ ∧ b < w.heap.size ∧ ∀ i, i < n → w.cell? ⟨b, o + i, none⟩ = xs[i]?

/-- w' is w but for the blocks of F, and new blocks. -/
structure Kept (F : List Nat) (w w' : World) : Prop where
  os : w'.os = w.os
  tape : w'.tape = w.tape
  output : w'.output = w.output
  size : w.heap.size ≤ w'.heap.size
  block : ∀ k, k < w.heap.size → k ∉ F → w'.heap[k]? = w.heap[k]?

theorem Kept.refl (F : List Nat) (w : World) : Kept F w w := ⟨rfl, rfl, rfl, Nat.le_refl _, fun _ _ _ => rfl⟩
theorem Kept.trans {F : List Nat} {a b c : World} (h : Kept F a b) (k : Kept F b c) : Kept F a c :=
  ⟨k.os.trans h.os, k.tape.trans h.tape, k.output.trans h.output, Nat.le_trans h.size k.size, fun i hi hn => (k.block i (Nat.lt_of_lt_of_le hi h.size) hn).trans (h.block i hi hn)⟩
/-- Two steps: the second one's blocks may be new ones of the first. -/
theorem Kept.trans' {F G : List Nat} {a b c : World} (h : Kept F a b) (k : Kept G b c) (hG : ∀ i ∈ G, i ∈ F ∨ a.heap.size ≤ i) : Kept F a c :=
  ⟨k.os.trans h.os, k.tape.trans h.tape, k.output.trans h.output, Nat.le_trans h.size k.size, fun i hi hn => (k.block i (Nat.lt_of_lt_of_le hi h.size) (fun hg => by
    rcases hG i hg with h1 | h1
    · exact hn h1
    · omega)).trans (h.block i hi hn)⟩
theorem Kept.mono {F G : List Nat} {a b : World} (h : Kept F a b) (hs : ∀ i ∈ F, i ∈ G ∨ a.heap.size ≤ i) : Kept G a b :=
  ⟨h.os, h.tape, h.output, h.size, fun i hi hn => h.block i hi (fun hf => by
    rcases hs i hf with h1 | h1
    · exact hn h1
    · omega)⟩
theorem Kept.below {F : List Nat} {a b : World} {B : Nat} (h : Kept F a b) (hB : B ≤ a.heap.size) (hs : ∀ i ∈ F, B ≤ i) : Below B a b :=
  ⟨h.os, h.tape, h.output, h.size, fun i hi => h.block i (by omega) (fun hf => by have := hs i hf; omega)⟩
theorem Kept.of_below {F : List Nat} {a b : World} (h : Below a.heap.size a b) : Kept F a b := ⟨h.os, h.tape, h.output, h.size, fun i hi _ => h.block i hi⟩
theorem Kept.drewN (F : List Nat) (w : World) (n : Nat) : Kept F w (w.drewN n) := ⟨rfl, rfl, rfl, Nat.le_refl _, fun _ _ _ => rfl⟩
theorem Kept.alloc (F : List Nat) (w : World) (o : Obj) : Kept F w (w.alloc o) := Kept.of_below ((Below.refl _ w).alloc (Nat.le_refl _) o)
theorem Kept.setCell {F : List Nat} {w : World} {p : Addr} (hp : p.block ∈ F ∨ w.heap.size ≤ p.block) (u : Value) : Kept F w (w.setCell p u) :=
  ⟨rfl, rfl, rfl, by simp [World.setCell], fun k hk hn => Below.heap_setCell _ _ _ _ (fun e => by
    subst e
    rcases hp with h1 | h1
    · exact hn h1
    · omega)⟩
theorem Kept.grown {F : List Nat} {w w' : World} {row : Option Nat} (hg : w.grownBy w' row) (hr : ∀ k, row = some k → k ∈ F ∨ w.heap.size ≤ k) : Kept F w w' :=
  ⟨hg.os, hg.tape, hg.output, hg.size, fun k hk hn => hg.block k hk (fun e => by
    rcases hr k e.symm with h1 | h1
    · exact hn h1
    · omega)⟩
theorem Kept.cell {F : List Nat} {w w' : World} (h : Kept F w w') {p : Addr} (hl : p.block < w.heap.size) (hp : p.block ∉ F) : w'.cell? p = w.cell? p := World.cell?_of_block (w := w) (h.block _ hl hp)
theorem Kept.frozen {F : List Nat} {w w' : World} (h : Kept F w w') {p : Addr} (hl : p.block < w.heap.size) (hp : p.block ∉ F) : w'.frozen? p = w.frozen? p := World.frozen?_of_block (w := w) (h.block _ hl hp)

theorem SlAt.kept {w w' : World} {A : Option Addr} {n c : Nat} {xs : List Value} {F : List Nat} (h : SlAt w A n c xs) (hk : Kept F w w') (hF : ∀ a, A = some a → a.block ∉ F) : SlAt w' A n c xs :=
  ⟨h.len, h.le, h.max, fun hn => by
    obtain ⟨b, o, rfl, hb, hc⟩ := h.cells hn
    have := hF _ rfl
    exact ⟨b, o, rfl, Nat.lt_of_lt_of_le hb hk.size, fun i hi => (hk.cell (p := ⟨b, o + i, none⟩) hb this).trans (hc i hi)⟩⟩
theorem SlAt.keptP {w w' : World} {A : Option Addr} {n c : Nat} {xs : List Value} {F : List Nat} (h : SlAt w A n c xs) (hk : Kept F w w') (hF : ∀ a, A = some a → 0 < n → a.block ∉ F) : SlAt w' A n c xs :=
  ⟨h.len, h.le, h.max, fun hn => by
    obtain ⟨b, o, rfl, hb, hc⟩ := h.cells hn
    have := hF _ rfl hn
    exact ⟨b, o, rfl, Nat.lt_of_lt_of_le hb hk.size, fun i hi => (hk.cell (p := ⟨b, o + i, none⟩) hb this).trans (hc i hi)⟩⟩
theorem SlAt.nil (w : World) : SlAt w none 0 0 [] := ⟨rfl, Nat.le_refl _, by unfold maxLen; omega, fun h => by omega⟩

/-- A byte's value. -/
def u8v (b : UInt8) : Value := .int .u8 b.toNat
def i64v (n : Int) : Value := .int .i64 n
end Go.Proofs.Ytbnflbkaogpnbaa
