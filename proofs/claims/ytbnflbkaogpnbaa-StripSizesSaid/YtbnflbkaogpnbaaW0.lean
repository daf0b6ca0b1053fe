/- The midst of a Write. -/
import Derived.Test.YtbnflbkaogpnbaaK1
import Derived.Deep.MidRow
import Derived.StillTailTactics
namespace Go.Proofs.Ytbnflbkaogpnbaa
open Go.RowKit Go.Maps
open Go.ChangeMaps (setBlock heap_setBlock_same heap_setBlock_other)

theorem still_load_mid {P : Program} {ops : Array Oper} {rest : List Oper} {op : Oper} {a : Act} {w : World} {Q : Act → Prop} (hgd : op.guard = none) (ty : TypeId) (x : Operand) (ho : op.op = .load ty x)
    (b o : Nat) (hx : a.eval x = .pointer (some ⟨b, o, none⟩)) (cs : List Value) (d : TypeDesc) (hc : w.rangeAt b o cs)
    (hu : P.underlying ty = some d) (hd : d.isRow = true) (hi : (P.info? ty).map (·.size) = some cs.length)
    (h : wpStill P ops w Q rest (a.put op.dst (.agg cs.toArray))) : wpStill P ops w Q (op :: rest) a := by
  unfold wpStill
  rw [if_pos (by simp [Region.wanted, hgd])]
  unfold Oper.still execOp
  simp only [ho, hx, Instr.loadAt, Instr.sureAddr, Sem.run_bind, Sem.run_pure, Result.andThen_ok, run_loadVar_mid w b o ty cs d hc hu hd hi]
  exact ⟨rfl, h⟩

theorem size_block : (Try.prog.info? 108).map (·.size) = some 128 := by kernel_rfl

/-- A row of values is stored into a block from an offset on: the row behind it. -/
def spliced (cs : Array Value) (o : Nat) (vs : List Value) : Array Value := (cs.toList.take o ++ vs ++ cs.toList.drop (o + vs.length)).toArray

theorem splice_step {α : Type} (l : List α) (o : Nat) (v : α) (r : List α) (h : o + (r.length + 1) ≤ l.length) :
    (l.set o v).take (o + 1) ++ r ++ (l.set o v).drop (o + 1 + r.length) = l.take o ++ (v :: r) ++ l.drop (o + (r.length + 1)) := by
  have e1 : (l.set o v).take (o + 1) = l.take o ++ [v] := by
    rw [List.take_succ_eq_append_getElem (by simp; omega), List.take_set_of_le (by omega)]
    simp
  have e2 : (l.set o v).drop (o + 1 + r.length) = l.drop (o + (r.length + 1)) := by
    rw [List.drop_set_of_lt (by omega)]
    congr 1
    omega
  rw [e1, e2]
  simp

theorem setCells_heap (b : Nat) (t : TypeId) : ∀ (vs : List Value) (o : Nat) (w : World) (cs : Array Value), w.heap[b]? = some (.cells cs t (0, 0)) → o + vs.length ≤ cs.size →
    (w.setCells b o vs).heap[b]? = some (.cells (spliced cs o vs) t (0, 0)) := by
  intro vs
  induction vs with
  | nil => intro o w cs h _; simp [World.setCells, spliced, h]
  | cons v r ih =>
    intro o w cs h hl
    simp only [List.length_cons] at hl
    simp only [World.setCells]
    rw [ih (o + 1) _ _ (heap_set h o v) (by simp; omega)]
    simp only [spliced, Array.toList_setIfInBounds, List.length_cons]
    rw [splice_step cs.toList o v r (by simpa using hl)]

theorem setCells_kept (b : Nat) (vs : List Value) : ∀ (o : Nat) (w : World), Kept [b] w (w.setCells b o vs) := by
  induction vs with
  | nil => intro o w; exact Kept.refl _ _
  | cons v r ih => intro o w; exact (Kept.setCell (p := ⟨b, o, none⟩) (by simp) v).trans (ih (o + 1) _)

theorem flat_set (s : List Blk) (hs : ∀ b ∈ s, b.length = 128) (k : Nat) (hk : k < s.length) (b : Blk) (hb : b.length = 128) : spliced (flat s) (k * 128) (u8vs b) = flat (s.set k b) := by
  have hl : (u8vs b).length = 128 := by simp [u8vs, hb]
  have key : ∀ (s : List Blk) (k : Nat), (∀ b ∈ s, b.length = 128) → k < s.length → (s.flatMap u8vs).take (k * 128) ++ u8vs b ++ (s.flatMap u8vs).drop (k * 128 + 128) = (s.set k b).flatMap u8vs := by
    intro s
    induction s with
    | nil => intro k _ hk; simp at hk
    | cons c r ih =>
      intro k hs hk
      have hc : (u8vs c).length = 128 := by simp [u8vs, hs c List.mem_cons_self]
      cases k with
      | zero =>
        simp only [Nat.zero_mul, List.take_zero, List.nil_append, Nat.zero_add, List.flatMap_cons, List.set_cons_zero]
        have e2 : (u8vs c ++ r.flatMap u8vs).drop 128 = r.flatMap u8vs := by
          rw [← hc]; exact List.drop_left
        rw [e2]
      | succ k =>
        have h1 := ih k (fun b hb => hs b (List.mem_cons_of_mem _ hb)) (by simpa using hk)
        simp only [List.flatMap_cons, List.set_cons_succ]
        have e1 : (u8vs c ++ r.flatMap u8vs).take ((k + 1) * 128) = u8vs c ++ (r.flatMap u8vs).take (k * 128) := by
          have e0 : (k + 1) * 128 - 128 = k * 128 := by omega
          rw [List.take_append, List.take_of_length_le (by omega), hc, e0]
        have e2 : (u8vs c ++ r.flatMap u8vs).drop ((k + 1) * 128 + 128) = (r.flatMap u8vs).drop (k * 128 + 128) := by
          have e0 : (k + 1) * 128 + 128 - 128 = k * 128 + 128 := by omega
          rw [List.drop_append, List.drop_of_length_le (by omega), hc, List.nil_append, e0]
        rw [← h1, e1, e2]
        simp only [List.append_assoc]
  have h1 := key s k hs hk
  unfold spliced flat
  rw [hl, ← h1]

theorem flat_range {w : World} {S : Nat} {s : List Blk} (h : w.heap[S]? = some (.cells (flat s) 108 (0, 0))) (hs : ∀ b ∈ s, b.length = 128) {k : Nat} {b : Blk} (hb : s[k]? = some b) : w.rangeAt S (k * 128) (u8vs b) := by
  intro j v hj
  have hl : j < 128 := by
    have h1 := (List.getElem?_eq_some_iff.1 hj).1
    simpa [u8vs, hs b (List.mem_of_getElem? hb)] using h1
  rw [blk_cell h, flat_at s hs k j b hb hl, hj]

theorem flat_there {w : World} {S : Nat} {s : List Blk} (h : w.heap[S]? = some (.cells (flat s) 108 (0, 0))) (hs : ∀ b ∈ s, b.length = 128) {k : Nat} (hk : k < s.length) : w.there S (k * 128) 128 := by
  intro j hj
  refine ⟨?_, blk_frozen h _⟩
  rw [blk_cell h, Array.getElem?_eq_getElem (by rw [length_flat s hs]; omega)]
  rfl

theorem SlAt.range {w : World} {b o n c : Nat} {xs : List Value} (h : SlAt w (some ⟨b, o, none⟩) n c xs) : w.rangeAt b o xs := by
  intro j v hj
  have := h.news j v hj
  rwa [add_block] at this
end Go.Proofs.Ytbnflbkaogpnbaa
