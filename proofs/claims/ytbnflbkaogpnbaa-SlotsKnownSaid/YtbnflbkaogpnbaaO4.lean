/- slots.Open. -/
import Derived.Test.YtbnflbkaogpnbaaO3
import Derived.Test.YtbnflbkaogpnbaaVC
namespace Go.Proofs.Ytbnflbkaogpnbaa
set_option linter.unusedVariables false
open Go.RowKit

/-- In w, at block z, are the slots s, on the device at a; their blocks are among sp. -/
structure TwAt (w : World) (z a : Nat) (sp : List Nat) (s : Sl) : Prop where
  head : ∃ A c, w.heap[z]? = some (.cells #[.pointer (some ⟨a, 0, none⟩), .int .i64 s.first, .int .i64 s.newer, .int .i64 s.turn, .slice A s.text.length c] 94 (0, 0)) ∧ SlAt w A s.text.length c (u8vs s.text) ∧ (A = none → c = 0) ∧ ∀ p, A = some p → p.block ∈ sp ∧ p.block ≠ z
  zin : z ∈ sp
  lt : ∀ j ∈ sp, j < w.heap.size

theorem TwAt.kept {w w' : World} {z a : Nat} {sp : List Nat} {s : Sl} {F : List Nat} (h : TwAt w z a sp s) (hk : Kept F w w') (hF : ∀ j ∈ sp, j ∉ F) : TwAt w' z a sp s := by
  obtain ⟨A, c, h1, h2, h3, h4⟩ := h.head
  exact ⟨⟨A, c, (hk.block z (h.lt z h.zin) (hF z h.zin)).trans h1, h2.kept hk (fun p e => hF _ (h4 p e).1), h3, h4⟩, h.zin, fun j hj => Nat.lt_of_lt_of_le (h.lt j hj) hk.size⟩

theorem TwAt.cells {w : World} {z a : Nat} {sp : List Nat} {s : Sl} (h : TwAt w z a sp s) :
    w.cell? ⟨z, 0, none⟩ = some (.pointer (some ⟨a, 0, none⟩)) ∧ w.cell? ⟨z, 1, none⟩ = some (.int .i64 s.first) ∧ w.cell? ⟨z, 2, none⟩ = some (.int .i64 s.newer) ∧ w.cell? ⟨z, 3, none⟩ = some (.int .i64 s.turn) ∧ ∀ i, w.frozen? ⟨z, i, none⟩ = false := by
  obtain ⟨A, c, h1, _⟩ := h.head
  exact ⟨blk_cell h1 0, blk_cell h1 1, blk_cell h1 2, blk_cell h1 3, fun i => blk_frozen h1 i⟩

/-- What a slot's two cells are, of what a sector has. -/
def SlotCell (w0 w : World) (v1 v2 : Value) (r : Option (Nat × List UInt8)) : Prop :=
  match r with
  | none => v1 = .int .i64 0 ∧ v2 = .slice none 0 0
  | some (t, b) => v1 = .int .i64 t ∧ ∃ A c, v2 = .slice A b.length c ∧ SlAt w A b.length c (u8vs b) ∧ (A = none → c = 0) ∧ ∀ p, A = some p → w0.heap.size ≤ p.block

theorem SlotCell.kept {w0 w w' : World} {v1 v2 : Value} {r : Option (Nat × List UInt8)} {F : List Nat} (h : SlotCell w0 w v1 v2 r) (hk : Kept F w w') (hF : ∀ p, v2.ownBlock = some p → p ∉ F) (hv : ∀ A n c p, v2 = .slice A n c → A = some p → p.block ∉ F) : SlotCell w0 w' v1 v2 r := by
  cases r with
  | none => exact h
  | some tb =>
    obtain ⟨t, b⟩ := tb
    obtain ⟨h1, A, c, h2, h3, h4, h5⟩ := h
    exact ⟨h1, A, c, h2, h3.kept hk (fun p e => hv A _ c p h2 e), h4, h5⟩

/-- What Open does. -/
def Op11 (w : World) (a : Nat) (d : Dev) (first : Int) (e : Ending) (w' : World) : Prop :=
  Kept [] w w' ∧ ((d.at_ first ≠ 0 ∧ e = .returned (.tuple #[.pointer none, .slice none 0 0, .int .i64 (d.at_ first)])) ∨
    (d.at_ first = 0 ∧ d.at_ (first + 1) ≠ 0 ∧ e = .returned (.tuple #[.pointer none, .slice none 0 0, .int .i64 (d.at_ (first + 1))])) ∨
    (d.at_ first = 0 ∧ d.at_ (first + 1) = 0 ∧ ∃ x y, d.secs[first.toNat]? = some x ∧ d.secs[first.toNat + 1]? = some y ∧
      ((Sl.of first.toNat x y = none ∧ e = .returned (.tuple #[.pointer none, .slice none 0 0, .int .i64 110])) ∨
       ∃ s, Sl.of first.toNat x y = some s ∧ ∃ z sp A c, e = .returned (.tuple #[.pointer (some ⟨z, 0, none⟩), .slice A s.text.length c, .int .i64 0]) ∧ TwAt w' z a sp s ∧ SlAt w' A s.text.length c (u8vs s.text) ∧ (A = none → c = 0) ∧
        (∀ j ∈ sp, w.heap.size ≤ j) ∧ ∀ p, A = some p → w.heap.size ≤ p.block ∧ p.block ∉ sp)))

theorem at_vals (d : Dev) (i : Int) : d.at_ i = 100 ∨ d.at_ i = 9 ∨ d.at_ i = 0 := by
  unfold Dev.at_
  split
  · exact .inl rfl
  · split
    · exact .inr (.inl rfl)
    · exact .inr (.inr rfl)

/-- The two slots, in a box. -/
def TwoBox (w : World) (B : Nat) (v1 v2 v3 v4 : Value) : Prop := w.heap[B]? = some (.cells #[v1, v2, v3, v4] 126 (0, 0))

theorem TwoBox.cells {w : World} {B : Nat} {v1 v2 v3 v4 : Value} (h : TwoBox w B v1 v2 v3 v4) : w.cell? ⟨B, 0, none⟩ = some v1 ∧ w.cell? ⟨B, 1, none⟩ = some v2 ∧ w.cell? ⟨B, 2, none⟩ = some v3 ∧ w.cell? ⟨B, 3, none⟩ = some v4 ∧ w.frozen? ⟨B, 0, none⟩ = false ∧ w.frozen? ⟨B, 1, none⟩ = false ∧ w.frozen? ⟨B, 2, none⟩ = false ∧ w.frozen? ⟨B, 3, none⟩ = false :=
  ⟨by rw [blk_cell h]; rfl, by rw [blk_cell h]; rfl, by rw [blk_cell h]; rfl, by rw [blk_cell h]; rfl, blk_frozen h 0, blk_frozen h 1, blk_frozen h 2, blk_frozen h 3⟩

theorem TwoBox.kept {w w' : World} {B : Nat} {v1 v2 v3 v4 : Value} {F : List Nat} (h : TwoBox w B v1 v2 v3 v4) (hk : Kept F w w') (hB : B ∉ F) : TwoBox w' B v1 v2 v3 v4 := (hk.block B (World.lt_of_heap h) hB).trans h

theorem TwoBox.set01 {w : World} {B : Nat} {v1 v2 v3 v4 : Value} (h : TwoBox w B v1 v2 v3 v4) (u1 u2 : Value) : TwoBox ((w.setCell ⟨B, 0, none⟩ u1).setCell ⟨B, 1, none⟩ u2) B u1 u2 v3 v4 := heap_set (heap_set h 0 u1) 1 u2
theorem TwoBox.set23 {w : World} {B : Nat} {v1 v2 v3 v4 : Value} (h : TwoBox w B v1 v2 v3 v4) (u1 u2 : Value) : TwoBox ((w.setCell ⟨B, 2, none⟩ u1).setCell ⟨B, 3, none⟩ u2) B v1 v2 u1 u2 := heap_set (heap_set h 2 u1) 3 u2

theorem set2_kept (w : World) (B i j : Nat) (u1 u2 : Value) : Kept [B] w ((w.setCell ⟨B, i, none⟩ u1).setCell ⟨B, j, none⟩ u2) :=
  (Kept.setCell (by simp) _).trans (Kept.setCell (by simp) _)

theorem readSlot_len {x : Blk} {t : Nat} {b : List UInt8} (h : readSlot x = some (t, b)) : b.length ≤ 100 := by
  unfold readSlot at h
  split at h
  · simp at h; obtain ⟨_, rfl⟩ := h; simp
  · split at h
    · cases h
    · split at h
      · simp only [Option.some.injEq, Prod.mk.injEq] at h
        rw [← h.2, List.length_take]
        omega
      · cases h

theorem tw_new {w wB w7 : World} {a f nw tn : Nat} {b : List UInt8} {A : Option Addr} {c : Nat} (hk : Kept [] w wB) (hs : SlAt wB A b.length c (u8vs b)) (hn : A = none → c = 0) (hf : ∀ p, A = some p → w.heap.size < p.block ∧ p.block < wB.heap.size)
    (hk7 : Kept [] (wB.alloc (.cells #[.pointer (some ⟨a, 0, none⟩), .int .i64 f, .int .i64 nw, .int .i64 tn, .slice A b.length c] 94)) w7) :
    TwAt w7 wB.heap.size a (wB.heap.size :: (A.map (·.block)).toList) ⟨f, nw, tn, b⟩ ∧ ∀ j ∈ wB.heap.size :: (A.map (·.block)).toList, w.heap.size ≤ j ∧ j ≤ wB.heap.size := by
  have hz := hk.size
  have hz7 := hk7.size
  simp at hz7
  have hin : ∀ j ∈ wB.heap.size :: (A.map (·.block)).toList, w.heap.size ≤ j ∧ j ≤ wB.heap.size := fun j hj => by
    simp only [List.mem_cons, Option.mem_toList, Option.map_eq_some_iff] at hj
    rcases hj with rfl | ⟨p, e, rfl⟩
    · omega
    · have := hf p e; omega
  refine ⟨⟨⟨A, c, (hk7.block _ (by simp) (by simp)).trans (heap_alloc_new _ _), (hs.kept (Kept.alloc [] _ _) (by simp)).kept hk7 (by simp), hn, fun p e => ⟨by simp [e], by have := hf p e; omega⟩⟩, by simp, fun j hj => by have := hin j hj; omega⟩, hin⟩

set_option maxHeartbeats 2000000 in
set_option maxRecDepth 100000 in
theorem slotsOpen_any {w : World} {a : Nat} {fp : List Nat} {d : Dev} (hD : Dv w a fp d) (first : Int) (h1 : I64 first) :
    Calls Try.prog 52 #[.pointer (some ⟨a, 0, none⟩), .int .i64 first] w (Op11 w a d first) := by
  unfold I64 at h1
  by_cases hz : d.at_ first = 0
  · obtain ⟨hdead, hf0, hf1⟩ := Dev.at_zero hz
    have hm := hD.wf.many
    obtain ⟨f, rfl⟩ : ∃ f : Nat, first = f := ⟨first.toNat, by omega⟩
    obtain ⟨x, hx⟩ : ∃ x, d.secs[f]? = some x := ⟨_, List.getElem?_eq_getElem (by omega)⟩
    have cr0 := fun W (h2 : Dv W a fp d) => slotRead_ok h2 (f : Int) hz (x := x) (by simpa using hx)
    have e0 : IntKind.i64.wrap ((f : Int) + 0) = (f : Int) := by rw [IntKind.wrap_i64]; omega
    by_cases hz1 : d.at_ ((f : Int) + 1) = 0
    · obtain ⟨_, hg0, hg1⟩ := Dev.at_zero hz1
      have ef1 : ((f : Int) + 1).toNat = f + 1 := by omega
      obtain ⟨y, hy⟩ : ∃ y, d.secs[f + 1]? = some y := ⟨_, List.getElem?_eq_getElem (by omega)⟩
      have cr1 := fun W (h2 : Dv W a fp d) => slotRead_ok h2 ((f : Int) + 1) hz1 (x := y) (by rw [ef1]; exact hy)
      have fin : ∀ e w', Kept [] w w' → ((Sl.of f x y = none ∧ e = .returned (.tuple #[.pointer none, .slice none 0 0, .int .i64 110])) ∨
       ∃ s, Sl.of f x y = some s ∧ ∃ z sp A c, e = .returned (.tuple #[.pointer (some ⟨z, 0, none⟩), .slice A s.text.length c, .int .i64 0]) ∧ TwAt w' z a sp s ∧ SlAt w' A s.text.length c (u8vs s.text) ∧ (A = none → c = 0) ∧
        (∀ j ∈ sp, w.heap.size ≤ j) ∧ ∀ p, A = some p → w.heap.size ≤ p.block ∧ p.block ∉ sp) → Op11 w a d (f : Int) e w' := fun e w' hk h => ⟨hk, .inr (.inr ⟨hz, hz1, x, y, by simpa using hx, by simpa using hy, by simpa using h⟩)⟩
      have FIN := Lib.hid fin
      clear fin hz hz1 hx hy ef1
      go_enter Try.func52, Try.ntmps52
      go_wp2_with fail
      refine wp_loop_rounds 3 ?_
      rw [rounds_succ]
      go_wp2_with fail
      refine (cr0 _ (hD.new_kept (Kept.alloc [] w _))).mono ?_
      rintro e w1 ⟨hk1, hr⟩
      have hbx : TwoBox w1 w.heap.size (.int .i64 0) (.slice none 0 0) (.int .i64 0) (.slice none 0 0) := (hk1.block _ (by simp) (by simp)).trans (heap_alloc_new _ _)
      have hkw := (Kept.alloc [] w _).trans hk1
      cases hrx : readSlot x with
      | none =>
        simp only [hrx] at hr
        subst hr
        have hof : Sl.of f x y = none := by unfold Sl.of; rw [hrx]
        have HOF := Lib.hid hof
        clear hrx hk1 hof
        go_wp2_with fail
        rw [rounds_succ]
        go_wp2_with fail
        have hkw1 := hkw.trans (Kept.alloc [] w1 (.cells #[.int .i64 0, .slice none 0 0] 92))
        have hbx1 := hbx.kept (Kept.alloc [] w1 (.cells #[.int .i64 0, .slice none 0 0] 92)) (by simp)
        refine (cr1 _ (hD.new_kept hkw1)).mono ?_
        rintro e w2 ⟨hk2, hr2⟩
        have hkw2 := hkw1.trans hk2
        have hbx2 := hbx1.kept hk2 (by simp)
        cases hry : readSlot y with
        | none =>
          simp only [hry] at hr2
          subst hr2
          clear hry hk2 hbx hbx1 hkw hkw1
          go_wp2_with fail
          rw [rounds_succ]
          go_wp2_with fail
          go_ret3
          exact FIN.out _ _ (hkw2.trans (Kept.alloc [] _ _)) (.inl ⟨HOF.out, rfl⟩)
        | some tb =>
          obtain ⟨t, b⟩ := tb
          simp only [hry] at hr2
          obtain ⟨A, n, c, rfl, hs, hn, hb⟩ := hr2
          have hbx3 := hbx2.kept (Kept.alloc [] w2 (.cells #[.int .i64 t, .slice A n c] 92)) (by simp)
          obtain ⟨x0, x1, x2, x3, y0, y1, y2, y3⟩ := hbx3.cells
          have hkw3 := (hkw2.trans (Kept.alloc [] w2 (.cells #[.int .i64 t, .slice A n c] 92))).trans' (set2_kept _ w.heap.size 2 3 (.int .i64 t) (.slice A n c)) (by simp)
          clear hry hk2 hbx hbx1 hbx2 hbx3 hkw hkw1 hkw2
          go_wp2_with fail
          rw [rounds_succ]
          go_wp2_with fail
          go_ret3
          exact FIN.out _ _ hkw3 (.inl ⟨HOF.out, rfl⟩)
      | some tb =>
        obtain ⟨m, b1⟩ := tb
        simp only [hrx] at hr
        obtain ⟨A1, n1, c1, rfl, hs1, hn1, hb1⟩ := hr
        replace hb1 : ∀ p, A1 = some p → w.heap.size < p.block ∧ p.block < w1.heap.size := fun p e => by have := hb1 p e; simp at this; omega
        have hbx1 := hbx.kept (Kept.alloc [] w1 (.cells #[.int .i64 m, .slice A1 n1 c1] 92)) (by simp)
        obtain ⟨x0, x1, x2, x3, y0, y1, y2, y3⟩ := hbx1.cells
        have hbx2 := hbx1.set01 (.int .i64 m) (.slice A1 n1 c1)
        have hkw1 := (hkw.trans (Kept.alloc [] w1 (.cells #[.int .i64 m, .slice A1 n1 c1] 92))).trans' (set2_kept _ w.heap.size 0 1 (.int .i64 m) (.slice A1 n1 c1)) (by simp)
        have HRX := Lib.hid hrx
        clear hk1 hbx hbx1 hkw hrx
        go_wp2_with fail
        rw [rounds_succ]
        go_wp2_with fail
        clear x0 x1 x2 x3 y0 y1 y2 y3
        have hsA := (hs1.kept (Kept.alloc [] w1 (.cells #[.int .i64 m, .slice A1 n1 c1] 92)) (by simp)).kept (set2_kept _ w.heap.size 0 1 (.int .i64 m) (.slice A1 n1 c1)) (fun p e hm => by have h1 := hb1 p e; simp at hm; omega)
        have hkA1 : w1.heap.size ≤ (((w1.alloc (.cells #[.int .i64 m, .slice A1 n1 c1] 92)).setCell ⟨w.heap.size, 0, none⟩ (.int .i64 m)).setCell ⟨w.heap.size, 1, none⟩ (.slice A1 n1 c1)).heap.size := Nat.le_trans (Kept.alloc [] w1 _).size (set2_kept _ w.heap.size 0 1 _ _).size
        generalize ((w1.alloc (.cells #[.int .i64 m, .slice A1 n1 c1] 92)).setCell ⟨w.heap.size, 0, none⟩ (.int .i64 m)).setCell ⟨w.heap.size, 1, none⟩ (.slice A1 n1 c1) = wA at *
        have hkA : w.heap.size < wA.heap.size := World.lt_of_heap hbx2
        refine (cr1 _ (hD.new_kept hkw1)).mono ?_
        rintro e w2 ⟨hk2, hr2⟩
        have hkw2 := hkw1.trans hk2
        have hbx3 := hbx2.kept hk2 (by simp)
        have hsB := hsA.kept hk2 (by simp)
        clear hbx2 hsA hs1
        cases hry : readSlot y with
        | none =>
          have hof : Sl.of f x y = none := by unfold Sl.of; rw [HRX.out, hry]
          have HOF := Lib.hid hof
          simp only [hry] at hr2
          subst hr2
          clear hry hk2 hkw1 hof hbx3
          go_wp2_with fail
          rw [rounds_succ]
          go_wp2_with fail
          go_ret3
          exact FIN.out _ _ (hkw2.trans (Kept.alloc [] _ _)) (.inl ⟨HOF.out, rfl⟩)
        | some tb =>
          obtain ⟨t, b2⟩ := tb
          have hof : Sl.of f x y = if m = t ∧ 0 < m then none else if m < t then some ⟨f, 1, t, b2⟩ else some ⟨f, 0, m, b1⟩ := by unfold Sl.of; rw [HRX.out, hry]
          simp only [hry] at hr2
          obtain ⟨A2, n2, c2, rfl, hs2, hn2, hb2⟩ := hr2
          replace hb2 : ∀ p, A2 = some p → w.heap.size < p.block ∧ p.block < w2.heap.size := fun p e => by have := hb2 p e; have := hkA; omega
          have hbx4 := hbx3.kept (Kept.alloc [] w2 (.cells #[.int .i64 t, .slice A2 n2 c2] 92)) (by simp)
          obtain ⟨x0, x1, x2, x3, y0, y1, y2, y3⟩ := hbx4.cells
          have hbx5 := hbx4.set23 (.int .i64 t) (.slice A2 n2 c2)
          have hkw3 := (hkw2.trans (Kept.alloc [] w2 (.cells #[.int .i64 t, .slice A2 n2 c2] 92))).trans' (set2_kept _ w.heap.size 2 3 (.int .i64 t) (.slice A2 n2 c2)) (by simp)
          have hzw := hkw1.size
          have hsC := (hsB.kept (Kept.alloc [] w2 (.cells #[.int .i64 t, .slice A2 n2 c2] 92)) (by simp)).kept (set2_kept _ w.heap.size 2 3 (.int .i64 t) (.slice A2 n2 c2)) (fun p e hm => by have h1 := hb1 p e; simp at hm; omega)
          have hsD := (hs2.kept (Kept.alloc [] w2 (.cells #[.int .i64 t, .slice A2 n2 c2] 92)) (by simp)).kept (set2_kept _ w.heap.size 2 3 (.int .i64 t) (.slice A2 n2 c2)) (fun p e hm => by have h1 := hb2 p e; simp at hm; omega)
          have hl1 := readSlot_len HRX.out; have hl2 := readSlot_len hry
          have hw12 : w1.heap.size ≤ w2.heap.size := by have h1 := hk2.size; have h2 := hkA1; omega
          have hw2B := (Kept.alloc [] w2 (.cells #[.int .i64 t, .slice A2 n2 c2] 92)).size
          have hwB2 := (set2_kept (w2.alloc (.cells #[.int .i64 t, .slice A2 n2 c2] 92)) w.heap.size 2 3 (.int .i64 t) (.slice A2 n2 c2)).size
          have hnb1 : n1 = b1.length := by have := hsB.len; simpa [u8vs] using this.symm
          have hnb2 : n2 = b2.length := by have := hs2.len; simpa [u8vs] using this.symm
          have hn100 : n1 ≤ 100 ∧ n2 ≤ 100 := by omega
          clear hry hk2 hkw1 hkw2 hbx3 hbx4 hsB hs2 hnb1 hnb2
          go_wp2_with fail
          clear x0 x1 x2 x3 y0 y1 y2 y3
          generalize ((w2.alloc (.cells #[.int .i64 t, .slice A2 n2 c2] 92)).setCell ⟨w.heap.size, 2, none⟩ (.int .i64 t)).setCell ⟨w.heap.size, 3, none⟩ (.slice A2 n2 c2) = wB at *
          obtain ⟨x0, x1, x2, x3, y0, y1, y2, y3⟩ := hbx5.cells
          have hq := fun O => (hbx5.kept (Kept.alloc [] wB O) (by simp)).cells
          have q0 := fun O => (hq O).1; have q1 := fun O => (hq O).2.1; have q2 := fun O => (hq O).2.2.1; have q3 := fun O => (hq O).2.2.2.1
          clear hq
          have HOF := Lib.hid hof
          clear hof
          rw [rounds_succ]
          by_cases hmt : m = t
          · subst hmt
            by_cases hm0 : m = 0
            · subst hm0
              go_wp2_with fail
              refine (bytesClone_any _ A1 n1 c1 b1 (hsC.kept (Kept.alloc [] wB _) (by simp)) (by omega)).mono ?_
              rintro e w7 ⟨A7, c7, rfl, hown7, hbel7⟩
              have hk7 := Kept.of_below (F := []) hbel7
              have hn7 : A7 = none → c7 = 0 := fun e => row_nil' hown7 e
              have hl7 := own_block hown7
              obtain ⟨hs7, _⟩ := ClonePost.sl hown7
              go_wp2_with fail
              go_ret3
              obtain rfl : b1.length = n1 := by have := hsC.len; simpa [u8vs] using this
              obtain ⟨hT, hin⟩ := tw_new (f := f) (nw := 0) (tn := 0) hkw3 hsC hn1 (fun p e => ⟨(hb1 p e).1, by have := (hb1 p e).2; omega⟩) hk7
              refine FIN.out _ _ ((hkw3.trans (Kept.alloc [] _ _)).trans hk7) (.inr ⟨⟨f, 0, 0, b1⟩, by rw [HOF.out]; simp, wB.heap.size, _, A7, c7, rfl, hT, hs7, hn7, fun j hj => (hin j hj).1, fun p e => ⟨?_, fun hm => ?_⟩⟩)
              · have h1 := (hl7 p e).1
                have h0 := hkw3.size
                simp at h1
                omega
              · have h1 := (hl7 p e).1
                have h2 := (hin _ hm).2
                simp at h1
                omega
            · have i1 : (0 : Int) < (m : Int) := by omega
              go_wp2_with fail
              go_ret3
              exact FIN.out _ _ hkw3 (.inl ⟨by rw [HOF.out, if_pos ⟨by first | rfl | trivial, by omega⟩], rfl⟩)
          · have hb : ((m : Int) == (t : Int)) = false := beq_eq_false_iff_ne.2 (by omega)
            by_cases hlt : m < t
            · have i1 : (m : Int) < (t : Int) := by omega
              go_wp2_with fail
              refine (bytesClone_any _ A2 n2 c2 b2 (hsD.kept (Kept.alloc [] wB _) (by simp)) (by omega)).mono ?_
              rintro e w7 ⟨A7, c7, rfl, hown7, hbel7⟩
              have hk7 := Kept.of_below (F := []) hbel7
              have hn7 : A7 = none → c7 = 0 := fun e => row_nil' hown7 e
              have hl7 := own_block hown7
              obtain ⟨hs7, _⟩ := ClonePost.sl hown7
              go_wp2_with fail
              go_ret3
              obtain rfl : b2.length = n2 := by have := hsD.len; simpa [u8vs] using this
              obtain ⟨hT, hin⟩ := tw_new (f := f) (nw := 1) (tn := t) hkw3 hsD hn2 (fun p e => ⟨(hb2 p e).1, by have := (hb2 p e).2; omega⟩) hk7
              refine FIN.out _ _ ((hkw3.trans (Kept.alloc [] _ _)).trans hk7) (.inr ⟨⟨f, 1, t, b2⟩, by rw [HOF.out]; rw [if_neg (by omega), if_pos hlt], wB.heap.size, _, A7, c7, rfl, hT, hs7, hn7, fun j hj => (hin j hj).1, fun p e => ⟨?_, fun hm => ?_⟩⟩)
              · have h1 := (hl7 p e).1
                have h0 := hkw3.size
                simp at h1
                omega
              · have h1 := (hl7 p e).1
                have h2 := (hin _ hm).2
                simp at h1
                omega
            · have i1 : ¬ (m : Int) < (t : Int) := by omega
              go_wp2_with fail
              refine (bytesClone_any _ A1 n1 c1 b1 (hsC.kept (Kept.alloc [] wB _) (by simp)) (by omega)).mono ?_
              rintro e w7 ⟨A7, c7, rfl, hown7, hbel7⟩
              have hk7 := Kept.of_below (F := []) hbel7
              have hn7 : A7 = none → c7 = 0 := fun e => row_nil' hown7 e
              have hl7 := own_block hown7
              obtain ⟨hs7, _⟩ := ClonePost.sl hown7
              go_wp2_with fail
              go_ret3
              obtain rfl : b1.length = n1 := by have := hsC.len; simpa [u8vs] using this
              obtain ⟨hT, hin⟩ := tw_new (f := f) (nw := 0) (tn := m) hkw3 hsC hn1 (fun p e => ⟨(hb1 p e).1, by have := (hb1 p e).2; omega⟩) hk7
              refine FIN.out _ _ ((hkw3.trans (Kept.alloc [] _ _)).trans hk7) (.inr ⟨⟨f, 0, m, b1⟩, by rw [HOF.out]; rw [if_neg (by omega), if_neg hlt], wB.heap.size, _, A7, c7, rfl, hT, hs7, hn7, fun j hj => (hin j hj).1, fun p e => ⟨?_, fun hm => ?_⟩⟩)
              · have h1 := (hl7 p e).1
                have h0 := hkw3.size
                simp at h1
                omega
              · have h1 := (hl7 p e).1
                have h2 := (hin _ hm).2
                simp at h1
                omega
    · have hv := at_vals d ((f : Int) + 1)
      have cr1 := fun W (h2 : Dv W a fp d) => slotRead_bad h2 ((f : Int) + 1) hz1
      obtain ⟨er, her⟩ : ∃ er, d.at_ ((f : Int) + 1) = er := ⟨_, rfl⟩
      rw [her] at cr1 hv
      have hb0 : (er == 0) = false := beq_eq_false_iff_ne.2 (by rw [← her]; exact hz1)
      have hb1 : (er == 110) = false := beq_eq_false_iff_ne.2 (by omega)
      have HER := Lib.hid her; have HZ := Lib.hid hz; have HZ1 := Lib.hid hz1
      clear her hz hz1 hx
      go_enter Try.func52, Try.ntmps52
      go_wp2_with fail
      refine wp_loop_rounds 2 ?_
      rw [rounds_succ]
      go_wp2_with fail
      refine (cr0 _ (hD.new_kept (Kept.alloc [] w _))).mono ?_
      rintro e w1 ⟨hk1, hr⟩
      have hbx : TwoBox w1 w.heap.size (.int .i64 0) (.slice none 0 0) (.int .i64 0) (.slice none 0 0) := (hk1.block _ (by simp) (by simp)).trans (heap_alloc_new _ _)
      have hkw := (Kept.alloc [] w _).trans hk1
      cases hrx : readSlot x with
      | none =>
        simp only [hrx] at hr
        subst hr
        clear hrx hk1 hbx
        go_wp2_with fail
        rw [rounds_succ]
        go_wp2_with fail
        refine (cr1 _ (hD.new_kept (hkw.trans (Kept.alloc [] w1 _)))).mono ?_
        rintro e w2 ⟨rfl, hk2⟩
        go_wp2_with fail
        go_ret3
        exact ⟨((hkw.trans (Kept.alloc [] w1 _)).trans hk2).trans (Kept.alloc [] _ _), .inr (.inl ⟨HZ.out, HZ1.out, by rw [HER.out]; rfl⟩)⟩
      | some tb =>
        obtain ⟨t, b⟩ := tb
        simp only [hrx] at hr
        obtain ⟨A, n, c, rfl, hs, hn, hb⟩ := hr
        have hbx1 := hbx.kept (Kept.alloc [] w1 (.cells #[.int .i64 t, .slice A n c] 92)) (by simp)
        obtain ⟨x0, x1, x2, x3, y0, y1, y2, y3⟩ := hbx1.cells
        clear hrx hk1 hbx
        go_wp2_with fail
        rw [rounds_succ]
        have hk2 := (hkw.trans (Kept.alloc [] w1 (.cells #[.int .i64 t, .slice A n c] 92))).trans' (set2_kept _ w.heap.size 0 1 (.int .i64 t) (.slice A n c)) (by simp)
        go_wp2_with fail
        refine (cr1 _ (hD.new_kept hk2)).mono ?_
        rintro e w2 ⟨rfl, hk3⟩
        go_wp2_with fail
        go_ret3
        exact ⟨(hk2.trans hk3).trans (Kept.alloc [] _ _), .inr (.inl ⟨HZ.out, HZ1.out, by rw [HER.out]; rfl⟩)⟩
  · have hv := at_vals d first
    have hb0 : (d.at_ first == 0) = false := beq_eq_false_iff_ne.2 hz
    have hb1 : (d.at_ first == 110) = false := beq_eq_false_iff_ne.2 (by omega)
    go_enter Try.func52, Try.ntmps52
    go_wp2_with fail
    refine wp_loop_rounds 1 ?_
    rw [rounds_succ]
    go_wp2_with fail
    refine (slotRead_bad (hD.new_kept (Kept.alloc [] w _)) first hz).mono ?_
    rintro e w1 ⟨rfl, hk1⟩
    go_wp2_with fail
    go_ret3
    exact ⟨((Kept.alloc [] w _).trans hk1).trans (Kept.alloc [] _ _), .inl ⟨hz, rfl⟩⟩
end Go.Proofs.Ytbnflbkaogpnbaa
