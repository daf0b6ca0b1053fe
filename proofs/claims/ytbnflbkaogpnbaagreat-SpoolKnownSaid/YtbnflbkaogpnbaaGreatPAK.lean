/- Texts in one: Q1 Q2 X0 X1 X2. -/
import Derived.Test.YtbnflbkaogpnbaaGreatPAJ
import Derived.Test.YtbnflbkaogpnbaaGreatPAI
import Derived.Lib.SlBytesRow
import Derived.Laws.BytesString
import Derived.Test.YtbnflbkaogpnbaaGreatPAD
import Derived.Deep.RegionHeld3
namespace Go.Proofs.YtbnflbkaogpnbaaGreat
open Go.RowKit
/-- Open that answers an error. -/
def OpenErr (w : World) (n : Int) (e : Ending) (w' : World) : Prop := e = .returned (.tuple #[.pointer none, .slice none 0 0, .int .i64 n]) ∧ Kept [] w w'
end Go.Proofs.YtbnflbkaogpnbaaGreat
namespace Go.Proofs.YtbnflbkaogpnbaaGreat
open Go.RowKit
def TrueKept (w : World) (e : Ending) (w' : World) : Prop := e = .returned (.bool true) ∧ Kept [] w w'
end Go.Proofs.YtbnflbkaogpnbaaGreat
namespace Go.Proofs.YtbnflbkaogpnbaaGreat
open Go.RowKit
/-- What it has. -/
structure RS where
 n : Nat
 now : Nat → Blk
 sure : Nat → Blk
 wrote : Nat → Bool
 fail : Int
 keep : List Int
 till : Int
 works : Int
 dead : Bool
 refuses : Bool
def upd {α : Type} (f : Nat → α) (i : Nat) (b : α) : Nat → α := fun k => if k = i then b else f k
theorem upd_self {α : Type} (f : Nat → α) (i : Nat) (b : α) : upd f i b i = b := by simp [upd]
theorem upd_ne {α : Type} (f : Nat → α) {i k : Nat} (b : α) (h : k ≠ i) : upd f i b k = f k := by simp [upd, h]
/-- One sector's cells. -/
structure One where
 nA : Option Addr
 nc : Nat
 sA : Option Addr
 sc : Nat
 wrote : Bool
def One.vals (o : One) : List Value := [.slice o.nA 128 o.nc, .slice o.sA 128 o.sc, .bool o.wrote]
def ones (l : List One) : List Value := l.flatMap One.vals
theorem ones_at {l : List One} {i : Nat} {o : One} (h : l[i]? = some o) {j : Nat} (hj : j < 3) : (ones l)[i * 3 + j]? = o.vals[j]? := by
 induction l generalizing i with
 | nil => simp at h
 | cons x l ih =>
  cases i with
  | zero =>
   simp only [List.getElem?_cons_zero, Option.some.injEq] at h
   subst h
   rw [ones, List.flatMap_cons, List.getElem?_append_left (by simp [One.vals]; omega)]
   congr 1
   omega
  | succ i =>
   rw [List.getElem?_cons_succ] at h
   have h3 : x.vals.length = 3 := rfl
   rw [ones, List.flatMap_cons, List.getElem?_append_right (by rw [h3]; omega), h3, ← ih h]
   congr 1
   omega
theorem ones_snoc (l : List One) (o : One) : ones (l ++ [o]) = ones l ++ o.vals := by simp [ones]
structure OneAt (w : World) (fp : List Nat) (r B : Nat) (now sure : Blk) (wrote : Bool) (o : One) : Prop where
 now : SlAt w o.nA 128 o.nc (u8vs now)
 sure : SlAt w o.sA 128 o.sc (u8vs sure)
 wr : o.wrote = wrote
 nb : ∀ p, o.nA = some p → p.block ∈ fp ∧ p.block ≠ r ∧ p.block ≠ B
 sb : ∀ p, o.sA = some p → p.block ∈ fp ∧ p.block ≠ r ∧ p.block ≠ B
theorem OneAt.kept {w w' : World} {fp fp' : List Nat} {r B : Nat} {now sure : Blk} {wrote : Bool} {o : One} {F : List Nat} (h : OneAt w fp r B now sure wrote o) (hk : Kept F w w') (hF : ∀ j ∈ F, j ∈ fp → j = r ∨ j = B) (hfp : ∀ j ∈ fp, j ∈ fp') : OneAt w' fp' r B now sure wrote o := by
 have hh : ∀ p : Addr, (p.block ∈ fp ∧ p.block ≠ r ∧ p.block ≠ B) → p.block ∉ F := fun p ⟨h1, h2, h3⟩ hm => by
  rcases hF _ hm h1 with h | h
  ·exact h2 h
  ·exact h3 h
 exact ⟨h.now.kept hk (fun p e => hh p (h.nb p e)), h.sure.kept hk (fun p e => hh p (h.sb p e)), h.wr, fun p e => ⟨hfp _ (h.nb p e).1, (h.nb p e).2⟩, fun p e => ⟨hfp _ (h.sb p e).1, (h.sb p e).2⟩⟩
/-- The row of all. -/
structure RowAt (w : World) (B : Nat) (l : List One) (cap : Nat) : Prop where
 blk : ∃ cur, w.heap[B]? = some (.cells cur 105 (0, 0)) ∧ l.length * 3 ≤ cur.size ∧ ∀ i o, l[i]? = some o → ∀ j, j < 3 → cur[i * 3 + j]? = o.vals[j]?
 le : l.length ≤ cap
 max : cap ≤ maxLen
theorem RowAt.cell {w : World} {B : Nat} {l : List One} {cap : Nat} (h : RowAt w B l cap) {i : Nat} {o : One} (hi : l[i]? = some o) : w.cell? ⟨B, i * 3, none⟩ = some (.slice o.nA 128 o.nc) ∧ w.cell? ⟨B, i * 3 + 1, none⟩ = some (.slice o.sA 128 o.sc) ∧ w.cell? ⟨B, i * 3 + 2, none⟩ = some (.bool o.wrote) := by
 obtain ⟨cur, hb, _, hc⟩ := h.blk
 refine ⟨?_, ?_, ?_⟩
 ·rw [blk_cell hb]; exact hc i o hi 0 (by omega)
 ·rw [blk_cell hb]; exact hc i o hi 1 (by omega)
 ·rw [blk_cell hb]; exact hc i o hi 2 (by omega)
theorem RowAt.frozen {w : World} {B : Nat} {l : List One} {cap : Nat} (h : RowAt w B l cap) (i : Nat) : w.frozen? ⟨B, i, none⟩ = false := by
 obtain ⟨cur, hb, _⟩ := h.blk
 exact blk_frozen hb i
theorem RowAt.kept {w w' : World} {B : Nat} {l : List One} {cap : Nat} {F : List Nat} (h : RowAt w B l cap) (hk : Kept F w w') (hB : B ∉ F) : RowAt w' B l cap := by
 obtain ⟨cur, hb, hs, hc⟩ := h.blk
 exact ⟨⟨cur, (hk.block B (World.lt_of_heap hb) hB).trans hb, hs, hc⟩, h.le, h.max⟩
theorem RowAt.put {w : World} {B : Nat} {l : List One} {cap : Nat} (h : RowAt w B l cap) {i j : Nat} {o o' : One} {v : Value} (hi : l[i]? = some o) (hj : j < 3) (ho : ∀ k, k < 3 → o'.vals[k]? = if k = j then some v else o.vals[k]?) :
  RowAt (w.setCell ⟨B, i * 3 + j, none⟩ v) B (l.set i o') cap := by
 obtain ⟨cur, hb, hs, hc⟩ := h.blk
 have hil := (List.getElem?_eq_some_iff.1 hi).1
 refine ⟨⟨cur.setIfInBounds (i * 3 + j) v, heap_set hb _ _, by simpa using hs, fun k x hk m hm => ?_⟩, by simpa using h.le, h.max⟩
 rw [Array.getElem?_setIfInBounds]
 by_cases hki : k = i
 ·subst hki
  rw [List.getElem?_set_self hil] at hk
  cases hk
  rw [ho m hm]
  by_cases hmj : m = j
  ·subst hmj
   rw [if_pos rfl, if_pos (by omega), if_pos rfl]
  ·rw [if_neg (by omega), if_neg hmj]
   exact hc _ _ hi _ hm
 ·rw [List.getElem?_set_ne (fun e => hki e.symm)] at hk
  rw [if_neg (by omega)]
  exact hc _ _ hk _ hm
/-- The head. -/
structure HeadAt (w : World) (r B n cap : Nat) (fp : List Nat) (s : RS) (KA : Option Addr) (kn kc : Nat) : Prop where
 blk : w.heap[r]? = some (.cells #[.slice (some ⟨B, 0, none⟩) n cap, .int .i64 s.fail, .slice KA kn kc, .int .i64 s.till, .int .i64 s.works, .bool s.dead, .bool s.refuses] 103 (0, 0))
 keep : SlAt w KA kn kc (s.keep.map i64v)
 kb : ∀ p, KA = some p → p.block ∈ fp ∧ p.block ≠ r ∧ p.block ≠ B
 ki : ∀ n ∈ s.keep, -9223372036854775808 ≤ n ∧ n ≤ 9223372036854775807
structure RefAt (w : World) (r B cap : Nat) (l : List One) (fp : List Nat) (s : RS) : Prop where
 head : ∃ KA kn kc, HeadAt w r B l.length cap fp s KA kn kc
 row : RowAt w B l cap
 len : l.length = s.n
 one : ∀ i o, l[i]? = some o → OneAt w fp r B (s.now i) (s.sure i) (s.wrote i) o
 ne : r ≠ B
 rin : r ∈ fp
 bin : B ∈ fp
 max : l.length ≤ 8192
 lt : ∀ j ∈ fp, j < w.heap.size
theorem RefAt.cells {w : World} {r B cap : Nat} {l : List One} {fp : List Nat} {s : RS} (h : RefAt w r B cap l fp s) :
  w.cell? ⟨r, 0, none⟩ = some (.slice (some ⟨B, 0, none⟩) l.length cap) ∧ w.cell? ⟨r, 1, none⟩ = some (.int .i64 s.fail) ∧
  w.cell? ⟨r, 3, none⟩ = some (.int .i64 s.till) ∧ w.cell? ⟨r, 4, none⟩ = some (.int .i64 s.works) ∧ w.cell? ⟨r, 5, none⟩ = some (.bool s.dead) ∧ w.cell? ⟨r, 6, none⟩ = some (.bool s.refuses) ∧ ∀ i, w.frozen? ⟨r, i, none⟩ = false := by
 obtain ⟨KA, kn, kc, hh⟩ := h.head
 refine ⟨?_, ?_, ?_, ?_, ?_, ?_, fun i => blk_frozen hh.blk i⟩ <;> (rw [blk_cell hh.blk]; rfl)
theorem RefAt.keepCell {w : World} {r B cap : Nat} {l : List One} {fp : List Nat} {s : RS} (h : RefAt w r B cap l fp s) :
  ∃ KA kn kc, w.cell? ⟨r, 2, none⟩ = some (.slice KA kn kc) ∧ SlAt w KA kn kc (s.keep.map i64v) ∧ (∀ p, KA = some p → p.block ∈ fp ∧ p.block ≠ r ∧ p.block ≠ B) := by
 obtain ⟨KA, kn, kc, hh⟩ := h.head
 exact ⟨KA, kn, kc, by rw [blk_cell hh.blk]; rfl, hh.keep, hh.kb⟩
theorem RefAt.kept {w w' : World} {r B cap : Nat} {l : List One} {fp : List Nat} {s : RS} {F : List Nat} (h : RefAt w r B cap l fp s) (hk : Kept F w w') (hF : ∀ j ∈ fp, j ∉ F) : RefAt w' r B cap l fp s := by
 obtain ⟨KA, kn, kc, hh⟩ := h.head
 exact ⟨⟨KA, kn, kc, (hk.block r (World.lt_of_heap hh.blk) (hF r h.rin)).trans hh.blk, hh.keep.kept hk (fun p e => hF _ (hh.kb p e).1), hh.kb, hh.ki⟩, h.row.kept hk (hF B h.bin), h.len,
  fun i o ho => (h.one i o ho).kept hk (fun j hj hm => absurd hj (hF j hm)) (fun _ h => h), h.ne, h.rin, h.bin, h.max, fun j hj => Nat.lt_of_lt_of_le (h.lt j hj) hk.size⟩
/-- More blocks. -/
theorem RefAt.more {w : World} {r B cap : Nat} {l : List One} {fp fp' : List Nat} {s : RS} (h : RefAt w r B cap l fp s) (hfp : ∀ j ∈ fp, j ∈ fp') (hlt : ∀ j ∈ fp', j < w.heap.size) : RefAt w r B cap l fp' s := by
 obtain ⟨KA, kn, kc, hh⟩ := h.head
 exact ⟨⟨KA, kn, kc, hh.blk, hh.keep, fun p e => ⟨hfp _ (hh.kb p e).1, (hh.kb p e).2⟩, hh.ki⟩, h.row, h.len,
  fun i o ho => (h.one i o ho).kept (Kept.refl [] w) (by simp) hfp, h.ne, hfp _ h.rin, hfp _ h.bin, h.max, hlt⟩
/-- A store in the row: what changes is sector i alone. -/
theorem RefAt.put {w : World} {r B cap : Nat} {l : List One} {fp : List Nat} {s s' : RS} (h : RefAt w r B cap l fp s) {i j : Nat} {o o' : One} {v : Value} (hi : l[i]? = some o) (hj : j < 3)
  (ho : ∀ k, k < 3 → o'.vals[k]? = if k = j then some v else o.vals[k]?) (hh : s'.n = s.n ∧ s'.fail = s.fail ∧ s'.keep = s.keep ∧ s'.till = s.till ∧ s'.works = s.works ∧ s'.dead = s.dead ∧ s'.refuses = s.refuses)
  (hs : ∀ k, k ≠ i → s'.now k = s.now k ∧ s'.sure k = s.sure k ∧ s'.wrote k = s.wrote k) (hone : OneAt w fp r B (s'.now i) (s'.sure i) (s'.wrote i) o') :
  RefAt (w.setCell ⟨B, i * 3 + j, none⟩ v) r B cap (l.set i o') fp s' := by
 obtain ⟨KA, kn, kc, hd⟩ := h.head
 have hk : Kept [B] w (w.setCell ⟨B, i * 3 + j, none⟩ v) := Kept.setCell (by simp) _
 have hil := (List.getElem?_eq_some_iff.1 hi).1
 refine ⟨⟨KA, kn, kc, ?_, ?_, hd.kb, by rw [hh.2.2.1]; exact hd.ki⟩, h.row.put hi hj ho, by rw [List.length_set, hh.1]; exact h.len, ?_, h.ne, h.rin, h.bin, by simpa using h.max, fun j hj => Nat.lt_of_lt_of_le (h.lt j hj) hk.size⟩
 ·rw [hk.block r (World.lt_of_heap hd.blk) (by simpa using h.ne), hd.blk, List.length_set, hh.2.1, hh.2.2.2.1, hh.2.2.2.2.1, hh.2.2.2.2.2.1, hh.2.2.2.2.2.2]
 ·rw [hh.2.2.1]
  exact hd.keep.kept hk (fun p e => by simpa using (hd.kb p e).2.2)
 ·intro k x hx
  by_cases hki : k = i
  ·subst hki
   rw [List.getElem?_set_self hil] at hx
   cases hx
   exact hone.kept hk (fun j hj _ => .inr (by simpa using hj)) (fun _ h => h)
  ·rw [List.getElem?_set_ne (fun e => hki e.symm)] at hx
   obtain ⟨h1, h2, h3⟩ := hs k hki
   rw [h1, h2, h3]
   exact (h.one k x hx).kept hk (fun j hj _ => .inr (by simpa using hj)) (fun _ h => h)
/-- The head is written anew. -/
theorem RefAt.rehead {w w' : World} {r B cap : Nat} {l : List One} {fp : List Nat} {s s' : RS} (h : RefAt w r B cap l fp s) (hk : Kept [r] w w') (hs : s'.n = s.n ∧ s'.now = s.now ∧ s'.sure = s.sure ∧ s'.wrote = s.wrote) (hkeep : s'.keep = s.keep)
  (hb : ∀ KA kn kc, w.heap[r]? = some (.cells #[.slice (some ⟨B, 0, none⟩) l.length cap, .int .i64 s.fail, .slice KA kn kc, .int .i64 s.till, .int .i64 s.works, .bool s.dead, .bool s.refuses] 103 (0, 0)) →
   w'.heap[r]? = some (.cells #[.slice (some ⟨B, 0, none⟩) l.length cap, .int .i64 s'.fail, .slice KA kn kc, .int .i64 s'.till, .int .i64 s'.works, .bool s'.dead, .bool s'.refuses] 103 (0, 0))) : RefAt w' r B cap l fp s' := by
 obtain ⟨KA, kn, kc, hd⟩ := h.head
 refine ⟨⟨KA, kn, kc, hb KA kn kc hd.blk, by rw [hkeep]; exact hd.keep.kept hk (fun p e => by simpa using (hd.kb p e).2.1), hd.kb, by rw [hkeep]; exact hd.ki⟩, h.row.kept hk (by simpa using fun e => h.ne e.symm), by rw [hs.1]; exact h.len, ?_, h.ne, h.rin, h.bin, h.max, fun j hj => Nat.lt_of_lt_of_le (h.lt j hj) hk.size⟩
 intro i o ho
 rw [hs.2.1, hs.2.2.1, hs.2.2.2]
 exact (h.one i o ho).kept hk (fun j hj _ => .inl (by simpa using hj)) (fun _ h => h)
theorem RefAt.at_ {w : World} {r B cap : Nat} {l : List One} {fp : List Nat} {s : RS} (h : RefAt w r B cap l fp s) {i : Nat} (hi : i < s.n) : ∃ o, l[i]? = some o ∧ OneAt w fp r B (s.now i) (s.sure i) (s.wrote i) o := by
 have hl := h.len
 have hg : l[i]? = some (l[i]'(by omega)) := List.getElem?_eq_getElem (by omega)
 exact ⟨_, hg, h.one _ _ hg⟩
/-- Behind a deed. -/
def RfPost (w : World) (r : Nat) (fp : List Nat) (s' : RS) (v : Value) (e : Ending) (w' : World) : Prop :=
 e = .returned v ∧ ∃ B cap l fp', RefAt w' r B cap l fp' s' ∧ Kept fp w w' ∧ ∀ j ∈ fp', j ∈ fp ∨ w.heap.size ≤ j
end Go.Proofs.YtbnflbkaogpnbaaGreat
namespace Go.Proofs.YtbnflbkaogpnbaaGreat
open Go.RowKit
set_option maxHeartbeats 400000 in
theorem copyBytes_any (w : World) (A : Option Addr) (n c : Nat) (xs : List UInt8) (hx : SlAt w A n c (u8vs xs)) (hn : n ≤ 140737488355328) :
  Calls Tryz.prog 57 #[.slice A n c] w (ClonePost w 5 n (u8vs xs)) := by
 obtain ⟨i0, hi, hz0, hz1, hz2⟩ := info_parts info_u8
 rcases A with _ | ad
 ·obtain ⟨rfl, h0⟩ := hx.none_zero
  rw [h0]
  clear hn
  go_enter Tryz.func57, Tryz.ntmps57
  go_wp2
  go_ret
  exact ClonePost.mk (World.ownsRow_nil _ _ _ _) (Below.refl _ _)
 ·have hb : w.ownsRow w.heap.size 5 1 (.slice none 0 0) 0 [] := World.ownsRow_nil _ _ _ _
  have s1 : (u8vs xs).length = n * 1 := by rw [hx.len]; omega
  have s4 : 0 + n ≤ maxLen := by unfold maxLen; omega
  have s5 : (0 + n) * 1 ≤ 140737488355328 := by omega
  have S1 := Lib.hid s1; clear s1
  go_enter Tryz.func57, Tryz.ntmps57
  go_wp2_with (at_builtin; refine wpList_append_own _ rfl _ _ 45 rfl w.heap.size 5 i0 (.int .u8 0) 1 1 Tryz.underlying45 hi hz0 hz1 hz2 rfl (by decide) _ _ _ rfl hb ad n c (u8vs xs) rfl S1.out hx.news (one_u8 xs) s4 s5 (Nat.le_refl _) ?_; intro v' w1 hown' hgrow _)
  go_ret
  simp only [Nat.zero_add, List.nil_append] at hown'
  exact ClonePost.mk hown' ((Below.refl _ w).grown hgrow (by simp) (fun k e => by cases e))
set_option maxHeartbeats 400000 in
theorem copyInts_any (w : World) (A : Option Addr) (n c : Nat) (xs : List Int) (hx : SlAt w A n c (xs.map i64v)) (hn : n * 8 ≤ 140737488355328) :
  Calls Tryz.prog 100 #[.slice A n c] w (ClonePost w 3 n (xs.map i64v)) := by
 obtain ⟨i0, hi, hz0, hz1, hz2⟩ := info_parts info_int
 rcases A with _ | ad
 ·obtain ⟨rfl, h0⟩ := hx.none_zero
  rw [h0]
  clear hn
  go_enter Tryz.func100, Tryz.ntmps100
  go_wp2
  go_ret
  exact ClonePost.mk (World.ownsRow_nil _ _ _ _) (Below.refl _ _)
 ·have hb : w.ownsRow w.heap.size 3 1 (.slice none 0 0) 0 [] := World.ownsRow_nil _ _ _ _
  have s1 : (xs.map i64v).length = n * 1 := by rw [hx.len]; omega
  have s4 : 0 + n ≤ maxLen := by unfold maxLen; omega
  have s5 : (0 + n) * 8 ≤ 140737488355328 := by omega
  have S1 := Lib.hid s1; clear s1
  go_enter Tryz.func100, Tryz.ntmps100
  go_wp2_with (at_builtin; refine wpList_append_own _ rfl _ _ 42 rfl w.heap.size 3 i0 (.int .i64 0) 1 8 Tryz.underlying42 hi hz0 hz1 hz2 rfl (by decide) _ _ _ rfl hb ad n c (xs.map i64v) rfl S1.out hx.news (one_i64 xs) s4 s5 (Nat.le_refl _) ?_; intro v' w1 hown' hgrow _)
  go_ret
  simp only [Nat.zero_add, List.nil_append] at hown'
  exact ClonePost.mk hown' ((Below.refl _ w).grown hgrow (by simp) (fun k e => by cases e))
/-- What a step of the head does. -/
def HdPost (w : World) (r B cap : Nat) (l : List One) (fp : List Nat) (s' : RS) (e0 e : Ending) (w' : World) : Prop := e = e0 ∧ RefAt w' r B cap l fp s' ∧ Kept [r] w w'
theorem max_less {n : Int} (h : 0 ≤ n) : max (n - 1) (-1) = n - 1 := by omega
set_option maxHeartbeats 400000 in
theorem refFails_any {w : World} {r B cap : Nat} {l : List One} {fp : List Nat} {s : RS} (h : RefAt w r B cap l fp s) (h0 : -1 ≤ s.fail) (h1 : s.fail ≤ 9223372036854775807) :
  Calls Tryz.prog 113 #[.pointer (some ⟨r, 0, none⟩)] w (HdPost w r B cap l fp { s with fail := max (s.fail - 1) (-1) } (.returned (.bool (decide (s.fail = 0))))) := by
 obtain ⟨c0, c1, c3, c4, c5, c6, cf⟩ := h.cells
 clear c0 c3 c4 c5 c6
 by_cases hn : s.fail < 0
 ·have e : s.fail = -1 := by omega
  have hs : { s with fail := max (s.fail - 1) (-1) } = s := by
   rw [e]; cases s; simp only at e; subst e; rfl
  rw [hs, decide_eq_false (by omega)]
  clear hs e
  go_enter Tryz.func113, Tryz.ntmps113
  go_wp2
  go_ret
  exact ⟨rfl, h, Kept.refl _ _⟩
 ·rw [max_less (by omega)]
  have hk : Kept [r] w (w.setCell ⟨r, 1, none⟩ (.int .i64 (s.fail - 1))) := Kept.setCell (by simp) _
  have hR : RefAt (w.setCell ⟨r, 1, none⟩ (.int .i64 (s.fail - 1))) r B cap l fp { s with fail := s.fail - 1 } := h.rehead hk ⟨rfl, rfl, rfl, rfl⟩ rfl (fun KA kn kc hb => by rw [heap_set hb]; rfl)
  by_cases hz : s.fail = 0
  ·rw [decide_eq_true hz]
   have hlt : s.fail - 1 < 0 := by omega
   have HZ := Lib.hid hz; clear hz
   go_enter Tryz.func113, Tryz.ntmps113
   go_wp2
   go_ret
   exact ⟨rfl, hR, hk⟩
  ·rw [decide_eq_false hz]
   have hlt : ¬ s.fail - 1 < 0 := by omega
   go_enter Tryz.func113, Tryz.ntmps113
   go_wp2
   go_ret
   exact ⟨rfl, hR, hk⟩
set_option maxHeartbeats 400000 in
theorem refDone_any {w : World} {r B cap : Nat} {l : List One} {fp : List Nat} {s : RS} (h : RefAt w r B cap l fp s) (h0 : s.till = -1 ∨ 0 < s.till) (h1 : s.till ≤ 9223372036854775807) (hr : s.refuses = false) (hw0 : 0 ≤ s.works) (hw : s.works < 9223372036854775807) :
  Calls Tryz.prog 114 #[.pointer (some ⟨r, 0, none⟩)] w (HdPost w r B cap l fp { s with works := s.works + 1, till := max (s.till - 1) (-1), refuses := max (s.till - 1) (-1) == 0 } (.returned (.tuple #[]))) := by
 obtain ⟨c0, c1, c3, c4, c5, c6, cf⟩ := h.cells
 clear c0 c1 c5
 have hk : Kept [r] w (w.setCell ⟨r, 4, none⟩ (.int .i64 (s.works + 1))) := Kept.setCell (by simp) _
 by_cases hp : 0 < s.till
 ·rw [max_less (by omega)]
  have hk2 : Kept [r] w (((w.setCell ⟨r, 4, none⟩ (.int .i64 (s.works + 1))).setCell ⟨r, 3, none⟩ (.int .i64 (s.till - 1))).setCell ⟨r, 6, none⟩ (.bool (s.till - 1 == 0))) := (hk.trans (Kept.setCell (by simp) _)).trans (Kept.setCell (by simp) _)
  have hR : RefAt (((w.setCell ⟨r, 4, none⟩ (.int .i64 (s.works + 1))).setCell ⟨r, 3, none⟩ (.int .i64 (s.till - 1))).setCell ⟨r, 6, none⟩ (.bool (s.till - 1 == 0))) r B cap l fp { s with works := s.works + 1, till := s.till - 1, refuses := s.till - 1 == 0 } :=
   h.rehead hk2 ⟨rfl, rfl, rfl, rfl⟩ rfl (fun KA kn kc hb => by rw [heap_set (heap_set (heap_set hb _ _) _ _)]; rfl)
  go_enter Tryz.func114, Tryz.ntmps114
  go_wp2
  go_end0
  exact ⟨rfl, hR, hk2⟩
 ·have e : s.till = -1 := by omega
  have hR : RefAt (w.setCell ⟨r, 4, none⟩ (.int .i64 (s.works + 1))) r B cap l fp { s with works := s.works + 1, till := max (s.till - 1) (-1), refuses := max (s.till - 1) (-1) == 0 } :=
   h.rehead hk ⟨rfl, rfl, rfl, rfl⟩ rfl (fun KA kn kc hb => by rw [heap_set hb, e, hr]; rfl)
  clear e
  go_enter Tryz.func114, Tryz.ntmps114
  go_wp2
  go_end0
  exact ⟨rfl, hR, hk⟩
set_option maxHeartbeats 400000 in
theorem refBoot_any {w : World} {r B cap : Nat} {l : List One} {fp : List Nat} {s : RS} (h : RefAt w r B cap l fp s) :
  Calls Tryz.prog 65 #[.pointer (some ⟨r, 0, none⟩)] w (HdPost w r B cap l fp { s with dead := false } (.returned (.int .i64 0))) := by
 obtain ⟨c0, c1, c3, c4, c5, c6, cf⟩ := h.cells
 clear c0 c1 c3 c4 c6
 have hk : Kept [r] w (w.setCell ⟨r, 5, none⟩ (.bool false)) := Kept.setCell (by simp) _
 go_enter Tryz.func65, Tryz.ntmps65
 go_wp2
 go_ret
 exact ⟨rfl, h.rehead hk ⟨rfl, rfl, rfl, rfl⟩ rfl (fun KA kn kc hb => by rw [heap_set hb]; rfl), hk⟩
set_option maxHeartbeats 400000 in
theorem refRefuse_any {w : World} {r B cap : Nat} {l : List One} {fp : List Nat} {s : RS} (h : RefAt w r B cap l fp s) (n : Int) (hd : s.dead = false) :
  Calls Tryz.prog 69 #[.pointer (some ⟨r, 0, none⟩), .int .i64 n] w (HdPost w r B cap l fp { s with till := max n (-1), refuses := n == 0 } (.returned (.int .i64 0))) := by
 obtain ⟨c0, c1, c3, c4, c5, c6, cf⟩ := h.cells
 rw [hd] at c5
 clear c0 c1 c4
 have hk : Kept [r] w ((w.setCell ⟨r, 3, none⟩ (.int .i64 (max n (-1)))).setCell ⟨r, 6, none⟩ (.bool (n == 0))) := (Kept.setCell (by simp) _).trans (Kept.setCell (by simp) _)
 have hR : RefAt ((w.setCell ⟨r, 3, none⟩ (.int .i64 (max n (-1)))).setCell ⟨r, 6, none⟩ (.bool (n == 0))) r B cap l fp { s with till := max n (-1), refuses := n == 0 } :=
  h.rehead hk ⟨rfl, rfl, rfl, rfl⟩ rfl (fun KA kn kc hb => by rw [heap_set (heap_set hb _ _)]; rfl)
 have HD := Lib.hid hd; clear hd
 go_enter Tryz.func69, Tryz.ntmps69
 go_wp2
 all_goals
  go_ret
  exact ⟨rfl, hR, hk⟩
/-! Many steps -/
structure Rn (w0 : World) (r B cap : Nat) (l : List One) (fp0 fp : List Nat) (s : RS) (wr : World) : Prop where
 at_ : RefAt wr r B cap l fp s
 kept : Kept fp0 w0 wr
 new : ∀ j ∈ fp, j ∈ fp0 ∨ w0.heap.size ≤ j
theorem Rn.start {w : World} {r B cap : Nat} {l : List One} {fp : List Nat} {s : RS} (h : RefAt w r B cap l fp s) : Rn w r B cap l fp fp s w := ⟨h, Kept.refl _ _, fun _ h => .inl h⟩
theorem Rn.post {w0 wr : World} {r B cap : Nat} {l : List One} {fp0 fp : List Nat} {s : RS} (h : Rn w0 r B cap l fp0 fp s wr) (v : Value) : RfPost w0 r fp0 s v (.returned v) wr := ⟨rfl, B, cap, l, fp, h.at_, h.kept, h.new⟩
theorem Rn.kept' {w0 wr w2 : World} {r B cap : Nat} {l : List One} {fp0 fp : List Nat} {s : RS} (h : Rn w0 r B cap l fp0 fp s wr) (hk : Kept [] wr w2) : Rn w0 r B cap l fp0 fp s w2 :=
 ⟨h.at_.kept hk (by simp), h.kept.trans' hk (by simp), h.new⟩
theorem Rn.head {w0 wr w2 : World} {r B cap : Nat} {l : List One} {fp0 fp : List Nat} {s s' : RS} (h : Rn w0 r B cap l fp0 fp s wr) (hR : RefAt w2 r B cap l fp s') (hk : Kept [r] wr w2) : Rn w0 r B cap l fp0 fp s' w2 :=
 ⟨hR, h.kept.trans' hk (fun i hi => by simp at hi; subst hi; exact h.new _ h.at_.rin), h.new⟩
theorem Rn.full {w0 wr w2 : World} {r B B' cap cap' : Nat} {l l' : List One} {fp0 fp fp' : List Nat} {s s' : RS} (h : Rn w0 r B cap l fp0 fp s wr) (hR : RefAt w2 r B' cap' l' fp' s') (hk : Kept fp wr w2) (hn : ∀ j ∈ fp', j ∈ fp ∨ wr.heap.size ≤ j) : Rn w0 r B' cap' l' fp0 fp' s' w2 :=
 ⟨hR, h.kept.trans' hk (fun i hi => h.new _ hi), fun j hj => by
  rcases hn j hj with h1 | h1
  ·exact h.new j h1
  ·exact .inr (Nat.le_trans h.kept.size h1)⟩
def blksOf (A : Option Addr) : List Nat := (A.map (·.block)).toList
theorem mem_blksOf {A : Option Addr} {p : Addr} (h : A = some p) : p.block ∈ blksOf A := by subst h; simp [blksOf]
theorem of_blksOf {A : Option Addr} {j : Nat} (h : j ∈ blksOf A) : ∃ p, A = some p ∧ p.block = j := by
 cases A with
 | none => simp [blksOf] at h
 | some p => simp [blksOf] at h; exact ⟨p, rfl, h.symm⟩
theorem SlAt.lt {w : World} {A : Option Addr} {n c : Nat} {xs : List Value} (h : SlAt w A n c xs) (hn : 0 < n) {p : Addr} (hp : A = some p) : p.block < w.heap.size := by
 obtain ⟨b, o, e, hb, _⟩ := h.cells hn
 rw [hp] at e; cases e; exact hb
theorem Rn.with_new {w0 wr : World} {r B cap : Nat} {l : List One} {fp0 fp : List Nat} {s : RS} {A : Option Addr} {c : Nat} {b : Blk} (h : Rn w0 r B cap l fp0 fp s wr) (hs : SlAt wr A 128 c (u8vs b)) (hA : ∀ p, A = some p → w0.heap.size ≤ p.block ∧ p.block ∉ fp) :
  Rn w0 r B cap l fp0 (blksOf A ++ fp) s wr ∧ ∀ p, A = some p → p.block ∈ blksOf A ++ fp ∧ p.block ≠ r ∧ p.block ≠ B := by
 refine ⟨⟨h.at_.more (fun j hj => List.mem_append_right _ hj) (fun j hj => ?_), h.kept, fun j hj => ?_⟩, fun p hp => ⟨List.mem_append_left _ (mem_blksOf hp), fun e => (hA p hp).2 (e ▸ h.at_.rin), fun e => (hA p hp).2 (e ▸ h.at_.bin)⟩⟩
 ·rcases List.mem_append.1 hj with h1 | h1
  ·obtain ⟨p, hp, rfl⟩ := of_blksOf h1; exact hs.lt (by omega) hp
  ·exact h.at_.lt j h1
 ·rcases List.mem_append.1 hj with h1 | h1
  ·obtain ⟨p, hp, rfl⟩ := of_blksOf h1; exact .inr (hA p hp).1
  ·exact h.new j h1
theorem Rn.row {w0 wr w2 : World} {r B cap : Nat} {l l' : List One} {fp0 fp : List Nat} {s s' : RS} (h : Rn w0 r B cap l fp0 fp s wr) (hR : RefAt w2 r B cap l' fp s') (hk : Kept [B] wr w2) : Rn w0 r B cap l' fp0 fp s' w2 :=
 ⟨hR, h.kept.trans' hk (fun i hi => by simp at hi; subst hi; exact h.new _ h.at_.bin), h.new⟩
/-- now of sector i is stored. -/
theorem Rn.putNow {w0 wr : World} {r B cap : Nat} {l : List One} {fp0 fp : List Nat} {s : RS} {A : Option Addr} {c : Nat} {b : Blk} (h : Rn w0 r B cap l fp0 fp s wr) (hs : SlAt wr A 128 c (u8vs b)) (hA : ∀ p, A = some p → w0.heap.size ≤ p.block ∧ p.block ∉ fp) {i : Nat} {o : One} (hi : l[i]? = some o) :
  Rn w0 r B cap (l.set i { o with nA := A, nc := c }) fp0 (blksOf A ++ fp) { s with now := upd s.now i b } (wr.setCell ⟨B, i * 3, none⟩ (.slice A 128 c)) := by
 obtain ⟨h1, h2⟩ := h.with_new hs hA
 have ho := h1.at_.one i o hi
 refine h1.row (h1.at_.put hi (j := 0) (by omega) (fun k hk => ?_) ⟨rfl, rfl, rfl, rfl, rfl, rfl, rfl⟩ (fun k hk => ⟨upd_ne _ _ hk, rfl, rfl⟩) ?_) (Kept.setCell (by simp) _)
 ·match k, hk with
  | 0, _ => rfl
  | 1, _ => rfl
  | 2, _ => rfl
 ·exact ⟨by show SlAt wr A 128 c (u8vs (upd s.now i b i)); rw [upd_self]; exact hs, ho.sure, ho.wr, h2, ho.sb⟩
/-- sure of sector i is stored. -/
theorem Rn.putSure {w0 wr : World} {r B cap : Nat} {l : List One} {fp0 fp : List Nat} {s : RS} {A : Option Addr} {c : Nat} {b : Blk} (h : Rn w0 r B cap l fp0 fp s wr) (hs : SlAt wr A 128 c (u8vs b)) (hA : ∀ p, A = some p → w0.heap.size ≤ p.block ∧ p.block ∉ fp) {i : Nat} {o : One} (hi : l[i]? = some o) :
  Rn w0 r B cap (l.set i { o with sA := A, sc := c }) fp0 (blksOf A ++ fp) { s with sure := upd s.sure i b } (wr.setCell ⟨B, i * 3 + 1, none⟩ (.slice A 128 c)) := by
 obtain ⟨h1, h2⟩ := h.with_new hs hA
 have ho := h1.at_.one i o hi
 refine h1.row (h1.at_.put hi (j := 1) (by omega) (fun k hk => ?_) ⟨rfl, rfl, rfl, rfl, rfl, rfl, rfl⟩ (fun k hk => ⟨rfl, upd_ne _ _ hk, rfl⟩) ?_) (Kept.setCell (by simp) _)
 ·match k, hk with
  | 0, _ => rfl
  | 1, _ => rfl
  | 2, _ => rfl
 ·exact ⟨ho.now, by show SlAt wr A 128 c (u8vs (upd s.sure i b i)); rw [upd_self]; exact hs, ho.wr, ho.nb, h2⟩
/-- wrote of sector i is stored. -/
theorem Rn.putWrote {w0 wr : World} {r B cap : Nat} {l : List One} {fp0 fp : List Nat} {s : RS} (h : Rn w0 r B cap l fp0 fp s wr) (v : Bool) {i : Nat} {o : One} (hi : l[i]? = some o) :
  Rn w0 r B cap (l.set i { o with wrote := v }) fp0 fp { s with wrote := upd s.wrote i v } (wr.setCell ⟨B, i * 3 + 2, none⟩ (.bool v)) := by
 have ho := h.at_.one i o hi
 refine h.row (h.at_.put hi (j := 2) (by omega) (fun k hk => ?_) ⟨rfl, rfl, rfl, rfl, rfl, rfl, rfl⟩ (fun k hk => ⟨rfl, rfl, upd_ne _ _ hk⟩) ?_) (Kept.setCell (by simp) _)
 ·match k, hk with
  | 0, _ => rfl
  | 1, _ => rfl
  | 2, _ => rfl
 ·exact ⟨ho.now, ho.sure, (upd_self _ _ _).symm, ho.nb, ho.sb⟩
end Go.Proofs.YtbnflbkaogpnbaaGreat
namespace Go.Proofs.YtbnflbkaogpnbaaGreat
open Go.RowKit
set_option maxHeartbeats 400000 in
theorem refRead_dead {w : World} {r B cap : Nat} {l : List One} {fp : List Nat} {s : RS} (h : RefAt w r B cap l fp s) (i : Int) (hd : s.dead = true) :
  Calls Tryz.prog 73 #[.pointer (some ⟨r, 0, none⟩), .int .i64 i] w fun e w' => e = .returned (.tuple #[.slice none 0 0, .int .i64 100]) ∧ w = w' := by
 obtain ⟨c0, c1, c3, c4, c5, c6, cf⟩ := h.cells
 rw [hd] at c5
 clear c0 c1 c3 c4 c6
 have HD := Lib.hid hd; clear hd
 go_enter Tryz.func73, Tryz.ntmps73
 go_wp2
 go_ret2
 exact ⟨rfl, rfl⟩
set_option maxHeartbeats 400000 in
theorem refRead_out {w : World} {r B cap : Nat} {l : List One} {fp : List Nat} {s : RS} (h : RefAt w r B cap l fp s) (i : Int) (hd : s.dead = false) (hi : i < 0 ∨ (s.n : Int) ≤ i) :
  Calls Tryz.prog 73 #[.pointer (some ⟨r, 0, none⟩), .int .i64 i] w fun e w' => e = .returned (.tuple #[.slice none 0 0, .int .i64 9]) ∧ w = w' := by
 obtain ⟨c0, c1, c3, c4, c5, c6, cf⟩ := h.cells
 rw [hd] at c5
 rw [h.len] at c0
 clear c1 c3 c4 c6
 have HD := Lib.hid hd; clear hd
 by_cases h0 : i < 0
 ·clear hi
  go_enter Tryz.func73, Tryz.ntmps73
  go_wp2
  go_ret2
  exact ⟨rfl, rfl⟩
 ·have h1 : (s.n : Int) ≤ i := by omega
  clear hi
  go_enter Tryz.func73, Tryz.ntmps73
  go_wp2
  go_ret2
  exact ⟨rfl, rfl⟩
set_option maxHeartbeats 400000 in
theorem refRead_ok {w : World} {r B cap : Nat} {l : List One} {fp : List Nat} {s : RS} (h : RefAt w r B cap l fp s) (i : Nat) (hd : s.dead = false) (hi : i < s.n) :
  Calls Tryz.prog 73 #[.pointer (some ⟨r, 0, none⟩), .int .i64 i] w (ReadsPost w (s.now i)) := by
 obtain ⟨c0, c1, c3, c4, c5, c6, cf⟩ := h.cells
 rw [hd] at c5
 rw [h.len] at c0
 clear c1 c3 c4 c6
 obtain ⟨o, ho, h1⟩ := h.at_ hi
 obtain ⟨x0, x1, x2⟩ := h.row.cell ho
 have hs := h1.now
 have i0 : ¬ (i : Int) < 0 := by omega
 have i1 : (i : Int) < (s.n : Int) := by omega
 have hle := h.row.le; have hm := h.row.max; have hl := h.len
 rw [hl] at hle
 unfold maxLen at hm
 have HD := Lib.hid hd
 clear hd x1 x2 ho h1 hl
 go_enter Tryz.func73, Tryz.ntmps73
 go_wp2_with fail
 refine (copyBytes_any _ _ _ _ _ hs (by omega)).mono ?_
 rintro e w4 ⟨A4, c4, rfl, hown4, hbel4⟩
 go_wp2_with fail
 go_ret2
 exact ⟨_, _, rfl, hown4, hbel4⟩
theorem own_lt {w : World} {base : Nat} {t : TypeId} {A : Option Addr} {n c : Nat} {xs : List Value} (h : w.ownsRow base t 1 (.slice A n c) n xs) {p : Addr} (hp : A = some p) : p.block < w.heap.size := by
 obtain ⟨_, h2⟩ := h
 rcases h2 with ⟨e, _⟩ | ⟨g, cap, cur, e, _, hg, _⟩
 ·rw [hp] at e; cases e
 ·rw [hp] at e; cases e; exact World.lt_of_heap hg
/-- keep is stored. -/
theorem Rn.putKeep {w0 wr : World} {r B cap : Nat} {l : List One} {fp0 fp : List Nat} {s : RS} {A : Option Addr} {n c : Nat} {keep : List Int} (h : Rn w0 r B cap l fp0 fp s wr) (hs : SlAt wr A n c (keep.map i64v))
  (hA : ∀ p, A = some p → w0.heap.size ≤ p.block ∧ p.block ∉ fp ∧ p.block < wr.heap.size) (hki : ∀ n ∈ keep, -9223372036854775808 ≤ n ∧ n ≤ 9223372036854775807) :
  Rn w0 r B cap l fp0 (blksOf A ++ fp) { s with keep := keep } (wr.setCell ⟨r, 2, none⟩ (.slice A n c)) := by
 have hk : Kept [r] wr (wr.setCell ⟨r, 2, none⟩ (.slice A n c)) := Kept.setCell (by simp) _
 have hlt : ∀ j ∈ blksOf A ++ fp, j < wr.heap.size := fun j hj => by
  rcases List.mem_append.1 hj with h1 | h1
  ·obtain ⟨p, hp, rfl⟩ := of_blksOf h1; exact (hA p hp).2.2
  ·exact h.at_.lt j h1
 have h2 := h.at_.more (fun j hj => List.mem_append_right (blksOf A) hj) hlt
 obtain ⟨KA, kn, kc, hd⟩ := h2.head
 have hne : ∀ p, A = some p → p.block ≠ r := fun p hp e => (hA p hp).2.1 (e ▸ h.at_.rin)
 refine ⟨⟨⟨A, n, c, by rw [heap_set hd.blk]; rfl, hs.kept hk (fun p e => by simpa using hne p e), fun p hp => ⟨List.mem_append_left _ (mem_blksOf hp), hne p hp, fun e => (hA p hp).2.1 (e ▸ h.at_.bin)⟩, hki⟩,
  h2.row.kept hk (by simpa using fun e => h2.ne e.symm), h2.len, fun i o ho => (h2.one i o ho).kept hk (fun j hj _ => .inl (by simpa using hj)) (fun _ h => h), h2.ne, h2.rin, h2.bin, h2.max, fun j hj => Nat.lt_of_lt_of_le (hlt j hj) hk.size⟩,
  h.kept.trans' hk (fun i hi => by simp at hi; subst hi; exact h.new _ h.at_.rin), fun j hj => ?_⟩
 rcases List.mem_append.1 hj with h1 | h1
 ·obtain ⟨p, hp, rfl⟩ := of_blksOf h1; exact .inr (hA p hp).1
 ·exact h.new j h1
set_option maxHeartbeats 400000 in
theorem refFail_any {w : World} {r B cap : Nat} {l : List One} {fp : List Nat} {s : RS} (h : RefAt w r B cap l fp s) (n : Int) (KA : Option Addr) (kn kc : Nat) (keep : List Int) (hx : SlAt w KA kn kc (keep.map i64v)) (hn : kn * 8 ≤ 140737488355328)
  (hX : ∀ p, KA = some p → 0 < kn → p.block ≠ r) (hki : ∀ n ∈ keep, -9223372036854775808 ≤ n ∧ n ≤ 9223372036854775807) (hd : s.dead = false) :
  Calls Tryz.prog 67 #[.pointer (some ⟨r, 0, none⟩), .int .i64 n, .slice KA kn kc] w (RfPost w r fp { s with fail := max n (-1), keep := keep } (.int .i64 0)) := by
 obtain ⟨c0, c1, c3, c4, c5, c6, cf⟩ := h.cells
 rw [hd] at c5
 clear c0 c3 c4 c6
 have hk1 : Kept [r] w (w.setCell ⟨r, 1, none⟩ (.int .i64 (max n (-1)))) := Kept.setCell (by simp) _
 have hR := (Rn.start h).head (h.rehead (s' := { s with fail := max n (-1) }) hk1 ⟨rfl, rfl, rfl, rfl⟩ rfl (fun KA kn kc hb => by rw [heap_set hb]; rfl)) hk1
 have HD := Lib.hid hd; clear hd
 have hx1 := hx.keptP hk1 (fun p hp h0 => by simpa using hX p hp h0)
 have c2 : ∃ v, (w.setCell ⟨r, 1, none⟩ (.int .i64 (max n (-1)))).cell? ⟨r, 2, none⟩ = some v := by
  obtain ⟨KA, kn, kc, c2, _⟩ := hR.at_.keepCell
  exact ⟨_, c2⟩
 obtain ⟨v, c2⟩ := c2
 have c2' := fun w' => fun (hk : Kept [] _ w') => (hk.cell (p := ⟨r, 2, none⟩) (hR.at_.lt r hR.at_.rin) (by simp)).trans c2
 have cf' := hR.at_.cells.2.2.2.2.2.2
 have cf'' := fun w' => fun (hk : Kept [] _ w') => (hk.frozen (p := ⟨r, 2, none⟩) (hR.at_.lt r hR.at_.rin) (by simp)).trans (cf' 2)
 have cc := copyInts_any _ KA kn kc keep hx1 hn
 clear hx hx1 c2 cf' hX
 go_enter Tryz.func67, Tryz.ntmps67
 go_wp2_with fail
 refine cc.mono ?_
 clear cc
 rintro e w4 ⟨A4, c4, rfl, hown4, hbel4⟩
 have hk4 := Kept.of_below (F := []) hbel4
 obtain ⟨hs4, hA4⟩ := ClonePost.sl hown4
 have hR4 := hR.kept' hk4
 have hc4 := c2' w4 hk4
 have hf4 := cf'' w4 hk4
 have hP := hR4.putKeep hs4 (fun p hp => ⟨by simpa using hA4 p hp, fun hm => by have h1 := h.lt _ hm; have h2 := hA4 p hp; rw [World.size_setCell] at h2; omega, own_lt hown4 hp⟩) hki
 clear c2' cf'' hown4
 go_wp2_with fail
 go_ret
 exact hP.post _
end Go.Proofs.YtbnflbkaogpnbaaGreat
