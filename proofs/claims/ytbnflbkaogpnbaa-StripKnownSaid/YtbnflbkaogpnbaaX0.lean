/- The document's device (muslinref10) in memory: what it has, as functions of a sector's number. -/
import Derived.Test.YtbnflbkaogpnbaaC1
namespace Go.Proofs.Ytbnflbkaogpnbaa
open Go.RowKit

/-- What it has. -/
structure RS where
  n : Nat
  now : Nat → Blk
  sure : Nat → Blk
  wrote : Nat → Bool
  fail : Int
  keep : List Int
  till : Int
  works : Int
  dead : Bool
  refuses : Bool

def upd {α : Type} (f : Nat → α) (i : Nat) (b : α) : Nat → α := fun k => if k = i then b else f k
theorem upd_self {α : Type} (f : Nat → α) (i : Nat) (b : α) : upd f i b i = b := by simp [upd]
theorem upd_ne {α : Type} (f : Nat → α) {i k : Nat} (b : α) (h : k ≠ i) : upd f i b k = f k := by simp [upd, h]

/-- One sector's cells. -/
structure One where
  nA : Option Addr
  nc : Nat
  sA : Option Addr
  sc : Nat
  wrote : Bool

def One.vals (o : One) : List Value := [.slice o.nA 128 o.nc, .slice o.sA 128 o.sc, .bool o.wrote]
def ones (l : List One) : List Value := l.flatMap One.vals

theorem length_ones (l : List One) : (ones l).length = l.length * 3 := by
  induction l with
  | nil => rfl
  | cons o l ih => simp only [ones, List.flatMap_cons, List.length_append] at *; rw [ih]; simp [One.vals]; omega

theorem ones_at {l : List One} {i : Nat} {o : One} (h : l[i]? = some o) {j : Nat} (hj : j < 3) : (ones l)[i * 3 + j]? = o.vals[j]? := by
  induction l generalizing i with
  | nil => simp at h
  | cons x l ih =>
    cases i with
    | zero =>
      simp only [List.getElem?_cons_zero, Option.some.injEq] at h
      subst h
      rw [ones, List.flatMap_cons, List.getElem?_append_left (by simp [One.vals]; omega)]
      congr 1
      omega
    | succ i =>
      rw [List.getElem?_cons_succ] at h
      have h3 : x.vals.length = 3 := rfl
      rw [ones, List.flatMap_cons, List.getElem?_append_right (by rw [h3]; omega), h3, ← ih h]
      congr 1
      omega

theorem ones_snoc (l : List One) (o : One) : ones (l ++ [o]) = ones l ++ o.vals := by simp [ones]

structure OneAt (w : World) (fp : List Nat) (r B : Nat) (now sure : Blk) (wrote : Bool) (o : One) : Prop where
  now : SlAt w o.nA 128 o.nc (u8vs now)
  sure : SlAt w o.sA 128 o.sc (u8vs sure)
  wr : o.wrote = wrote
  nb : ∀ p, o.nA = some p → p.block ∈ fp ∧ p.block ≠ r ∧ p.block ≠ B
  sb : ∀ p, o.sA = some p → p.block ∈ fp ∧ p.block ≠ r ∧ p.block ≠ B

theorem OneAt.kept {w w' : World} {fp fp' : List Nat} {r B : Nat} {now sure : Blk} {wrote : Bool} {o : One} {F : List Nat} (h : OneAt w fp r B now sure wrote o) (hk : Kept F w w') (hF : ∀ j ∈ F, j ∈ fp → j = r ∨ j = B) (hfp : ∀ j ∈ fp, j ∈ fp') : OneAt w' fp' r B now sure wrote o := by
  have hh : ∀ p : Addr, (p.block ∈ fp ∧ p.block ≠ r ∧ p.block ≠ B) → p.block ∉ F := fun p ⟨h1, h2, h3⟩ hm => by
    rcases hF _ hm h1 with h | h
    · exact h2 h
    · exact h3 h
  exact ⟨h.now.kept hk (fun p e => hh p (h.nb p e)), h.sure.kept hk (fun p e => hh p (h.sb p e)), h.wr, fun p e => ⟨hfp _ (h.nb p e).1, (h.nb p e).2⟩, fun p e => ⟨hfp _ (h.sb p e).1, (h.sb p e).2⟩⟩

/-- The row of all. -/
structure RowAt (w : World) (B : Nat) (l : List One) (cap : Nat) : Prop where
  blk : ∃ cur, w.heap[B]? = some (.cells cur 112 (0, 0)) ∧ l.length * 3 ≤ cur.size ∧ ∀ i o, l[i]? = some o → ∀ j, j < 3 → cur[i * 3 + j]? = o.vals[j]?
  le : l.length ≤ cap
  max : cap ≤ maxLen

theorem RowAt.cell {w : World} {B : Nat} {l : List One} {cap : Nat} (h : RowAt w B l cap) {i : Nat} {o : One} (hi : l[i]? = some o) : w.cell? ⟨B, i * 3, none⟩ = some (.slice o.nA 128 o.nc) ∧ w.cell? ⟨B, i * 3 + 1, none⟩ = some (.slice o.sA 128 o.sc) ∧ w.cell? ⟨B, i * 3 + 2, none⟩ = some (.bool o.wrote) := by
  obtain ⟨cur, hb, _, hc⟩ := h.blk
  refine ⟨?_, ?_, ?_⟩
  · rw [blk_cell hb]; exact hc i o hi 0 (by omega)
  · rw [blk_cell hb]; exact hc i o hi 1 (by omega)
  · rw [blk_cell hb]; exact hc i o hi 2 (by omega)

theorem RowAt.frozen {w : World} {B : Nat} {l : List One} {cap : Nat} (h : RowAt w B l cap) (i : Nat) : w.frozen? ⟨B, i, none⟩ = false := by
  obtain ⟨cur, hb, _⟩ := h.blk
  exact blk_frozen hb i

theorem RowAt.lt {w : World} {B : Nat} {l : List One} {cap : Nat} (h : RowAt w B l cap) : B < w.heap.size := by
  obtain ⟨cur, hb, _⟩ := h.blk
  exact World.lt_of_heap hb

theorem RowAt.kept {w w' : World} {B : Nat} {l : List One} {cap : Nat} {F : List Nat} (h : RowAt w B l cap) (hk : Kept F w w') (hB : B ∉ F) : RowAt w' B l cap := by
  obtain ⟨cur, hb, hs, hc⟩ := h.blk
  exact ⟨⟨cur, (hk.block B (World.lt_of_heap hb) hB).trans hb, hs, hc⟩, h.le, h.max⟩

theorem RowAt.put {w : World} {B : Nat} {l : List One} {cap : Nat} (h : RowAt w B l cap) {i j : Nat} {o o' : One} {v : Value} (hi : l[i]? = some o) (hj : j < 3) (ho : ∀ k, k < 3 → o'.vals[k]? = if k = j then some v else o.vals[k]?) :
    RowAt (w.setCell ⟨B, i * 3 + j, none⟩ v) B (l.set i o') cap := by
  obtain ⟨cur, hb, hs, hc⟩ := h.blk
  have hil := (List.getElem?_eq_some_iff.1 hi).1
  refine ⟨⟨cur.setIfInBounds (i * 3 + j) v, heap_set hb _ _, by simpa using hs, fun k x hk m hm => ?_⟩, by simpa using h.le, h.max⟩
  rw [Array.getElem?_setIfInBounds]
  by_cases hki : k = i
  · subst hki
    rw [List.getElem?_set_self hil] at hk
    cases hk
    rw [ho m hm]
    by_cases hmj : m = j
    · subst hmj
      rw [if_pos rfl, if_pos (by omega), if_pos rfl]
    · rw [if_neg (by omega), if_neg hmj]
      exact hc _ _ hi _ hm
  · rw [List.getElem?_set_ne (fun e => hki e.symm)] at hk
    rw [if_neg (by omega)]
    exact hc _ _ hk _ hm

/-- The head. -/
structure HeadAt (w : World) (r B n cap : Nat) (fp : List Nat) (s : RS) (KA : Option Addr) (kn kc : Nat) : Prop where
  blk : w.heap[r]? = some (.cells #[.slice (some ⟨B, 0, none⟩) n cap, .int .i64 s.fail, .slice KA kn kc, .int .i64 s.till, .int .i64 s.works, .bool s.dead, .bool s.refuses] 56 (0, 0))
  keep : SlAt w KA kn kc (s.keep.map i64v)
  kb : ∀ p, KA = some p → p.block ∈ fp ∧ p.block ≠ r ∧ p.block ≠ B
  ki : ∀ n ∈ s.keep, -9223372036854775808 ≤ n ∧ n ≤ 9223372036854775807

structure RefAt (w : World) (r B cap : Nat) (l : List One) (fp : List Nat) (s : RS) : Prop where
  head : ∃ KA kn kc, HeadAt w r B l.length cap fp s KA kn kc
  row : RowAt w B l cap
  len : l.length = s.n
  one : ∀ i o, l[i]? = some o → OneAt w fp r B (s.now i) (s.sure i) (s.wrote i) o
  ne : r ≠ B
  rin : r ∈ fp
  bin : B ∈ fp
  max : l.length ≤ 8192
  lt : ∀ j ∈ fp, j < w.heap.size

theorem RefAt.cells {w : World} {r B cap : Nat} {l : List One} {fp : List Nat} {s : RS} (h : RefAt w r B cap l fp s) :
    w.cell? ⟨r, 0, none⟩ = some (.slice (some ⟨B, 0, none⟩) l.length cap) ∧ w.cell? ⟨r, 1, none⟩ = some (.int .i64 s.fail) ∧
    w.cell? ⟨r, 3, none⟩ = some (.int .i64 s.till) ∧ w.cell? ⟨r, 4, none⟩ = some (.int .i64 s.works) ∧ w.cell? ⟨r, 5, none⟩ = some (.bool s.dead) ∧ w.cell? ⟨r, 6, none⟩ = some (.bool s.refuses) ∧ ∀ i, w.frozen? ⟨r, i, none⟩ = false := by
  obtain ⟨KA, kn, kc, hh⟩ := h.head
  refine ⟨?_, ?_, ?_, ?_, ?_, ?_, fun i => blk_frozen hh.blk i⟩ <;> (rw [blk_cell hh.blk]; rfl)

theorem RefAt.keepCell {w : World} {r B cap : Nat} {l : List One} {fp : List Nat} {s : RS} (h : RefAt w r B cap l fp s) :
    ∃ KA kn kc, w.cell? ⟨r, 2, none⟩ = some (.slice KA kn kc) ∧ SlAt w KA kn kc (s.keep.map i64v) ∧ (∀ p, KA = some p → p.block ∈ fp ∧ p.block ≠ r ∧ p.block ≠ B) := by
  obtain ⟨KA, kn, kc, hh⟩ := h.head
  exact ⟨KA, kn, kc, by rw [blk_cell hh.blk]; rfl, hh.keep, hh.kb⟩

theorem RefAt.kept {w w' : World} {r B cap : Nat} {l : List One} {fp : List Nat} {s : RS} {F : List Nat} (h : RefAt w r B cap l fp s) (hk : Kept F w w') (hF : ∀ j ∈ fp, j ∉ F) : RefAt w' r B cap l fp s := by
  obtain ⟨KA, kn, kc, hh⟩ := h.head
  exact ⟨⟨KA, kn, kc, (hk.block r (World.lt_of_heap hh.blk) (hF r h.rin)).trans hh.blk, hh.keep.kept hk (fun p e => hF _ (hh.kb p e).1), hh.kb, hh.ki⟩, h.row.kept hk (hF B h.bin), h.len,
    fun i o ho => (h.one i o ho).kept hk (fun j hj hm => absurd hj (hF j hm)) (fun _ h => h), h.ne, h.rin, h.bin, h.max, fun j hj => Nat.lt_of_lt_of_le (h.lt j hj) hk.size⟩

/-- More blocks. -/
theorem RefAt.more {w : World} {r B cap : Nat} {l : List One} {fp fp' : List Nat} {s : RS} (h : RefAt w r B cap l fp s) (hfp : ∀ j ∈ fp, j ∈ fp') (hlt : ∀ j ∈ fp', j < w.heap.size) : RefAt w r B cap l fp' s := by
  obtain ⟨KA, kn, kc, hh⟩ := h.head
  exact ⟨⟨KA, kn, kc, hh.blk, hh.keep, fun p e => ⟨hfp _ (hh.kb p e).1, (hh.kb p e).2⟩, hh.ki⟩, h.row, h.len,
    fun i o ho => (h.one i o ho).kept (Kept.refl [] w) (by simp) hfp, h.ne, hfp _ h.rin, hfp _ h.bin, h.max, hlt⟩

/-- A store in the row: what changes is sector i alone. -/
theorem RefAt.put {w : World} {r B cap : Nat} {l : List One} {fp : List Nat} {s s' : RS} (h : RefAt w r B cap l fp s) {i j : Nat} {o o' : One} {v : Value} (hi : l[i]? = some o) (hj : j < 3)
    (ho : ∀ k, k < 3 → o'.vals[k]? = if k = j then some v else o.vals[k]?) (hh : s'.n = s.n ∧ s'.fail = s.fail ∧ s'.keep = s.keep ∧ s'.till = s.till ∧ s'.works = s.works ∧ s'.dead = s.dead ∧ s'.refuses = s.refuses)
    (hs : ∀ k, k ≠ i → s'.now k = s.now k ∧ s'.sure k = s.sure k ∧ s'.wrote k = s.wrote k) (hone : OneAt w fp r B (s'.now i) (s'.sure i) (s'.wrote i) o') :
    RefAt (w.setCell ⟨B, i * 3 + j, none⟩ v) r B cap (l.set i o') fp s' := by
  obtain ⟨KA, kn, kc, hd⟩ := h.head
  have hk : Kept [B] w (w.setCell ⟨B, i * 3 + j, none⟩ v) := Kept.setCell (by simp) _
  have hil := (List.getElem?_eq_some_iff.1 hi).1
  refine ⟨⟨KA, kn, kc, ?_, ?_, hd.kb, by rw [hh.2.2.1]; exact hd.ki⟩, h.row.put hi hj ho, by rw [List.length_set, hh.1]; exact h.len, ?_, h.ne, h.rin, h.bin, by simpa using h.max, fun j hj => Nat.lt_of_lt_of_le (h.lt j hj) hk.size⟩
  · rw [hk.block r (World.lt_of_heap hd.blk) (by simpa using h.ne), hd.blk, List.length_set, hh.2.1, hh.2.2.2.1, hh.2.2.2.2.1, hh.2.2.2.2.2.1, hh.2.2.2.2.2.2]
  · rw [hh.2.2.1]
    exact hd.keep.kept hk (fun p e => by simpa using (hd.kb p e).2.2)
  · intro k x hx
    by_cases hki : k = i
    · subst hki
      rw [List.getElem?_set_self hil] at hx
      cases hx
      exact hone.kept hk (fun j hj _ => .inr (by simpa using hj)) (fun _ h => h)
    · rw [List.getElem?_set_ne (fun e => hki e.symm)] at hx
      obtain ⟨h1, h2, h3⟩ := hs k hki
      rw [h1, h2, h3]
      exact (h.one k x hx).kept hk (fun j hj _ => .inr (by simpa using hj)) (fun _ h => h)

/-- The head is written anew. -/
theorem RefAt.rehead {w w' : World} {r B cap : Nat} {l : List One} {fp : List Nat} {s s' : RS} (h : RefAt w r B cap l fp s) (hk : Kept [r] w w') (hs : s'.n = s.n ∧ s'.now = s.now ∧ s'.sure = s.sure ∧ s'.wrote = s.wrote) (hkeep : s'.keep = s.keep)
    (hb : ∀ KA kn kc, w.heap[r]? = some (.cells #[.slice (some ⟨B, 0, none⟩) l.length cap, .int .i64 s.fail, .slice KA kn kc, .int .i64 s.till, .int .i64 s.works, .bool s.dead, .bool s.refuses] 56 (0, 0)) →
      w'.heap[r]? = some (.cells #[.slice (some ⟨B, 0, none⟩) l.length cap, .int .i64 s'.fail, .slice KA kn kc, .int .i64 s'.till, .int .i64 s'.works, .bool s'.dead, .bool s'.refuses] 56 (0, 0))) : RefAt w' r B cap l fp s' := by
  obtain ⟨KA, kn, kc, hd⟩ := h.head
  refine ⟨⟨KA, kn, kc, hb KA kn kc hd.blk, by rw [hkeep]; exact hd.keep.kept hk (fun p e => by simpa using (hd.kb p e).2.1), hd.kb, by rw [hkeep]; exact hd.ki⟩, h.row.kept hk (by simpa using fun e => h.ne e.symm), by rw [hs.1]; exact h.len, ?_, h.ne, h.rin, h.bin, h.max, fun j hj => Nat.lt_of_lt_of_le (h.lt j hj) hk.size⟩
  intro i o ho
  rw [hs.2.1, hs.2.2.1, hs.2.2.2]
  exact (h.one i o ho).kept hk (fun j hj _ => .inl (by simpa using hj)) (fun _ h => h)

theorem RefAt.at_ {w : World} {r B cap : Nat} {l : List One} {fp : List Nat} {s : RS} (h : RefAt w r B cap l fp s) {i : Nat} (hi : i < s.n) : ∃ o, l[i]? = some o ∧ OneAt w fp r B (s.now i) (s.sure i) (s.wrote i) o := by
  have hl := h.len
  have hg : l[i]? = some (l[i]'(by omega)) := List.getElem?_eq_getElem (by omega)
  exact ⟨_, hg, h.one _ _ hg⟩

/-- Behind a deed. -/
def RfPost (w : World) (r : Nat) (fp : List Nat) (s' : RS) (v : Value) (e : Ending) (w' : World) : Prop :=
  e = .returned v ∧ ∃ B cap l fp', RefAt w' r B cap l fp' s' ∧ Kept fp w w' ∧ ∀ j ∈ fp', j ∈ fp ∨ w.heap.size ≤ j
end Go.Proofs.Ytbnflbkaogpnbaa
