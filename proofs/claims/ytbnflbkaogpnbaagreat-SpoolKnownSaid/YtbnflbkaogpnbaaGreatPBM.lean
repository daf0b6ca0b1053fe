/- Texts in one: KX. -/
import Derived.Test.YtbnflbkaogpnbaaGreatPBL
import Derived.Great.BuildSlice
namespace Go.Proofs.YtbnflbkaogpnbaaGreat
set_option linter.unusedVariables false
set_option maxRecDepth 100000
open Go.RowKit
def D13.cellsL (d : D13) : List Value := [.int .i64 d.kind, .int .i64 d.num, d.data.val, .slice d.lstA d.lstn d.lstc, .slice d.keepA d.keepn d.keepc]
def d13cells (l : List D13) : List Value := l.flatMap D13.cellsL
theorem d13cells_at : ∀ {l : List D13} {i j : Nat} {d : D13}, l[i]? = some d → j < 5 → (d13cells l)[i * 5 + j]? = d.cellsL[j]?
 | [], i, j, d, h, hj => by simp at h
 | x :: l, 0, j, d, h, hj => by
  simp at h
  subst h
  rw [d13cells, List.flatMap_cons, List.getElem?_append_left (by simp [D13.cellsL]; omega)]
  congr 1
  omega
 | x :: l, i + 1, j, d, h, hj => by
  simp only [List.getElem?_cons_succ] at h
  rw [d13cells, List.flatMap_cons, List.getElem?_append_right (by simp [D13.cellsL]; omega), ← d13cells, ← d13cells_at h hj]
  congr 1
  simp [D13.cellsL]
  omega
theorem D13s.of_block {w : World} {g : Nat} {cs : Array Value} {t : TypeId} {fz : Nat × Nat} (hg : w.heap[g]? = some (.cells cs t fz)) {l : List D13} {n c : Nat} (hl : l.length = n) (hn : n ≤ c) (hc : c ≤ maxLen)
  (hs : cs.toList = d13cells l) (hok : ∀ d ∈ l, d.Ok w) : D13s w (some ⟨g, 0, none⟩) n c l :=
 ⟨hl, hn, hc, hok, fun _ => ⟨g, 0, rfl, World.lt_of_heap hg, fun i d hd => by
  have key : ∀ j, j < 5 → w.cell? ⟨g, 0 + i * 5 + j, none⟩ = d.cellsL[j]? := fun j hj => by
   rw [blk_cell hg, ← d13cells_at hd hj, ← hs, Array.getElem?_toList]
   congr 1
   omega
  exact ⟨key 0 (by omega), key 1 (by omega), key 2 (by omega), key 3 (by omega), key 4 (by omega)⟩⟩⟩
theorem BytessAt.soft {w0 w w' : World} {A : Option Addr} {n c : Nat} {l : List Part} (h : BytessAt w A n c l) (hs : Soft w0 w w') : BytessAt w' A n c l :=
 ⟨h.len, h.le, h.max, fun q hq => ⟨(h.all q hq).1.soft hs, (h.all q hq).2⟩, fun hn => by
  obtain ⟨b, o, e, hb, hc⟩ := h.cells hn
  exact ⟨b, o, e, Nat.lt_of_lt_of_le hb hs.size, fun i p hp => hs.cell _ _ (hc i p hp)⟩⟩
def StS (v : Value) (w : World) : Prop := ∃ b, v = .slice (some ⟨b, 0, none⟩) 2 2 ∧ b < w.heap.size ∧ w.cell? ⟨b, 0, none⟩ = some (.string ⟨#[120]⟩) ∧ w.cell? ⟨b, 1, none⟩ = some (.string ⟨#[121, 121]⟩)
def LS (v : Value) (w : World) : Prop := ∃ A n c ps, v = .slice A n c ∧ BytessAt w A n c ps ∧ n ≤ 1000 ∧ ∀ q ∈ ps, q.n ≤ 100000
def DZ (n : Nat) (v : Value) (w : World) : Prop := ∃ (b : Nat) (l : List D13), v = .slice (some ⟨b, 0, none⟩) n n ∧ D13s w (some ⟨b, 0, none⟩) n n l ∧ ∀ x ∈ l, x.Fits
def GgB (n : Nat) (v : Value) (w : World) : Prop := ∃ d, v = .agg #[.int .i64 0, .int .i64 0, d, .slice none 0 0, .slice none 0 0] ∧ BS n d w
def GgI (kind num : Int) (n : Nat) (v : Value) (w : World) : Prop := ∃ d, v = .agg #[.int .i64 kind, .int .i64 num, .slice none 0 0, .slice none 0 0, d] ∧ IS n d w
def GgL (v : Value) (w : World) : Prop := ∃ d, v = .agg #[.int .i64 2, .int .i64 0, .slice none 0 0, d, .slice none 0 0] ∧ LS d w
section
variable {w0 w w' : World} {v : Value} {n : Nat}
theorem StS.soft (h : StS v w) (hs : Soft w0 w w') : StS v w' := by
 obtain ⟨b, h1, h2, h3, h4⟩ := h
 exact ⟨b, h1, Nat.lt_of_lt_of_le h2 hs.size, hs.cell _ _ h3, hs.cell _ _ h4⟩
theorem LS.soft (h : LS v w) (hs : Soft w0 w w') : LS v w' := by
 obtain ⟨A, n, c, ps, h1, h2, h3, h4⟩ := h
 exact ⟨A, n, c, ps, h1, h2.soft hs, h3, h4⟩
theorem D13.Ok.soft {d : D13} (h : d.Ok w) (hs : Soft w0 w w') : d.Ok w' := ⟨h.kind, h.num, ⟨h.data.1.soft hs, h.data.2⟩, h.lst.soft hs, h.keepS.soft hs, h.keepL, h.keepI⟩
theorem D13s.soft {A : Option Addr} {c : Nat} {l : List D13} (h : D13s w A n c l) (hs : Soft w0 w w') : D13s w' A n c l :=
 ⟨h.len, h.le, h.max, fun d hd => (h.ok d hd).soft hs, fun hn => by
  obtain ⟨b, o, e, hb, hc⟩ := h.cells hn
  refine ⟨b, o, e, Nat.lt_of_lt_of_le hb hs.size, fun i d hd => ?_⟩
  obtain ⟨h1, h2, h3, h4, h5⟩ := hc i d hd
  exact ⟨hs.cell _ _ h1, hs.cell _ _ h2, hs.cell _ _ h3, hs.cell _ _ h4, hs.cell _ _ h5⟩⟩
theorem D13s.kept' {A : Option Addr} {c : Nat} {l : List D13} (h : D13s w A n c l) (hk : Kept [] w w') : D13s w' A n c l := h.soft (Soft.of_kept (w0 := w) hk (Nat.le_refl _))
theorem DZ.soft (h : DZ n v w) (hs : Soft w0 w w') : DZ n v w' := by
 obtain ⟨b, l, h1, h2, h3⟩ := h
 exact ⟨b, l, h1, h2.soft hs, h3⟩
theorem GgB.soft (h : GgB n v w) (hs : Soft w0 w w') : GgB n v w' := by
 obtain ⟨d, h1, h2⟩ := h
 exact ⟨d, h1, h2.soft hs⟩
theorem GgI.soft {kind num : Int} (h : GgI kind num n v w) (hs : Soft w0 w w') : GgI kind num n v w' := by
 obtain ⟨d, h1, h2⟩ := h
 exact ⟨d, h1, h2.soft hs⟩
theorem GgL.soft (h : GgL v w) (hs : Soft w0 w w') : GgL v w' := by
 obtain ⟨d, h1, h2⟩ := h
 exact ⟨d, h1, h2.soft hs⟩
end
/-- What each operation of the region yields. -/
def zkS (z i k kA : Nat) (j : Nat) (v : Value) (w : World) : Prop :=
 match j with
 | 0 => BS 1 v w ∧ BC z v w
 | 1 => BS 1 v w
 | 2 => GgB 1 v w
 | 6 => BS kA v w
 | 7 => GgB kA v w
 | 11 => IS 3 v w
 | 12 => GgI 5 i 3 v w
 | 14 => StS v w
 | 15 => LS v w
 | 16 => GgL v w
 | 17 => IS 3 v w
 | 18 => GgI 4 0 3 v w
 | 22 => BS 200 v w
 | 23 => GgB 200 v w
 | 25 => BS 16385 v w
 | 26 => LS v w
 | 27 => GgL v w
 | 30 => BS 1 v w ∧ BC z v w
 | 31 => BS 1 v w
 | 32 => GgB 1 v w
 | 40 => DZ 17 v w
 | 41 => DZ 17 v w
 | _ => True
theorem zkS_soft {w0 : World} {z i k kA : Nat} (j : Nat) (v : Value) (w w' : World) (h : zkS z i k kA j v w) (hs : Soft w0 w w') : zkS z i k kA j v w' := by
 unfold zkS at *
 split at h
 ·exact ⟨h.1.soft hs, h.2.soft hs⟩
 ·exact h.soft hs
 ·exact h.soft hs
 ·exact h.soft hs
 ·exact h.soft hs
 ·exact h.soft hs
 ·exact h.soft hs
 ·exact h.soft hs
 ·exact h.soft hs
 ·exact h.soft hs
 ·exact h.soft hs
 ·exact h.soft hs
 ·exact h.soft hs
 ·exact h.soft hs
 ·exact h.soft hs
 ·exact h.soft hs
 ·exact h.soft hs
 ·exact ⟨h.1.soft hs, h.2.soft hs⟩
 ·exact h.soft hs
 ·exact h.soft hs
 ·exact h.soft hs
 ·exact h.soft hs
 ·trivial
theorem OffD.putsZ {a : Act} {D : List Nat} {a0 : Act} (h : OffD D a0 a) (hb : (D.all (fun s => decide (s < a0.tmps.size))) = true) : a = D.foldl (fun b s => b.put (some s) (a.eval (.tmp s))) a0 :=
 h.puts (fun s hs => by simpa using List.all_eq_true.1 hb s hs)
theorem calm_normalZ {Q : Exit → Act → World → Prop} {a : Act} {w : World} (h : Q .normal a w) : calmQ Q .normal a w := h
section
variable {ops : Array Oper} {Q : Exit → Act → World → Prop} {a : Act} {w0 w : World} {i k kA : Nat} {pos : String} {after : Array Edge}
theorem zk_op0 (h : ops[0]? = some { dst := some 99, op := Op.buildSlice 45 1 #[(0, Operand.const (Value.int IntKind.u8 97))], type := 45, pos := pos, after := after, guard := none }) (hz : w0.heap.size ≤ w.heap.size) :
  wpOp Tryz.prog ops Q 0 (fun a' w' => ∃ v, a' = a.put (some 99) v ∧ zkS w0.heap.size i k kA 0 v w' ∧ Soft w0 w w') a w := by
 refine wpOp_run h rfl ?_
 refine wp_buildSlice _ _ _ _ rfl #[.int .u8 97] _ _ Tryz.underlying45 rfl rfl (by decide) (by decide) (by kernel_rfl) ?_
 have hb := heap_alloc_new w (.cells #[.int .u8 97] 5)
 exact ⟨_, rfl, ⟨⟨w.heap.size, [97], rfl, SlAt.blk hb rfl (by unfold maxLen; omega)⟩, ⟨w.heap.size, 1, _, _, hz, rfl, hb⟩⟩, Soft.of_kept (Kept.alloc [] w _) hz⟩
theorem zk_op30 (h : ops[30]? = some { dst := some 129, op := Op.buildSlice 45 1 #[(0, Operand.const (Value.int IntKind.u8 122))], type := 45, pos := pos, after := after, guard := none }) (hz : w0.heap.size ≤ w.heap.size) :
  wpOp Tryz.prog ops Q 30 (fun a' w' => ∃ v, a' = a.put (some 129) v ∧ zkS w0.heap.size i k kA 30 v w' ∧ Soft w0 w w') a w := by
 refine wpOp_run h rfl ?_
 refine wp_buildSlice _ _ _ _ rfl #[.int .u8 122] _ _ Tryz.underlying45 rfl rfl (by decide) (by decide) (by kernel_rfl) ?_
 have hb := heap_alloc_new w (.cells #[.int .u8 122] 5)
 exact ⟨_, rfl, ⟨⟨w.heap.size, [122], rfl, SlAt.blk hb rfl (by unfold maxLen; omega)⟩, ⟨w.heap.size, 1, _, _, hz, rfl, hb⟩⟩, Soft.of_kept (Kept.alloc [] w _) hz⟩
theorem zk_op1 (h : ops[1]? = some { dst := some 100, op := Op.convert 45 45 (Operand.tmp 99), type := 45, pos := pos, after := after, guard := none }) (hz : w0.heap.size ≤ w.heap.size) (h0 : zkS w0.heap.size i k kA 0 (a.eval (.tmp 99)) w) :
  wpOp Tryz.prog ops Q 1 (fun a' w' => ∃ v, a' = a.put (some 100) v ∧ zkS w0.heap.size i k kA 1 v w' ∧ Soft w0 w w') a w := by
 obtain ⟨⟨b, xs, e, hs⟩, ⟨b2, n2, C, fz, hb, e2, hc⟩⟩ := h0
 rw [e] at e2
 simp only [Value.slice.injEq, Option.some.injEq, Addr.mk.injEq, and_true] at e2
 obtain ⟨rfl, rfl, -⟩ := e2
 refine wpOp_run h rfl ?_
 have hx : (execOp a.eval { dst := some 100, op := Op.convert 45 45 (Operand.tmp 99), type := 45, pos := pos, after := after, guard := none }).run Tryz.prog w = .ok (.value (.slice (some ⟨b, 0, none⟩) 1 1)) (w.freeze ⟨b, C.size, none⟩ 1) := by
  simp only [execOp, e, Sem.run_bind, run_convert_bytes w b 1 1 C fz hc]
  rfl
 unfold Oper.wp
 rw [hx]
 have hf := freeze_soft (w0 := w0) (w := w) (k := C.size) hb
 exact ⟨_, rfl, ⟨b, xs, rfl, hs.soft hf⟩, hf⟩
theorem zk_op31 (h : ops[31]? = some { dst := some 130, op := Op.convert 45 45 (Operand.tmp 129), type := 45, pos := pos, after := after, guard := none }) (hz : w0.heap.size ≤ w.heap.size) (h0 : zkS w0.heap.size i k kA 30 (a.eval (.tmp 129)) w) :
  wpOp Tryz.prog ops Q 31 (fun a' w' => ∃ v, a' = a.put (some 130) v ∧ zkS w0.heap.size i k kA 31 v w' ∧ Soft w0 w w') a w := by
 obtain ⟨⟨b, xs, e, hs⟩, ⟨b2, n2, C, fz, hb, e2, hc⟩⟩ := h0
 rw [e] at e2
 simp only [Value.slice.injEq, Option.some.injEq, Addr.mk.injEq, and_true] at e2
 obtain ⟨rfl, rfl, -⟩ := e2
 refine wpOp_run h rfl ?_
 have hx : (execOp a.eval { dst := some 130, op := Op.convert 45 45 (Operand.tmp 129), type := 45, pos := pos, after := after, guard := none }).run Tryz.prog w = .ok (.value (.slice (some ⟨b, 0, none⟩) 1 1)) (w.freeze ⟨b, C.size, none⟩ 1) := by
  simp only [execOp, e, Sem.run_bind, run_convert_bytes w b 1 1 C fz hc]
  rfl
 unfold Oper.wp
 rw [hx]
 have hf := freeze_soft (w0 := w0) (w := w) (k := C.size) hb
 exact ⟨_, rfl, ⟨b, xs, rfl, hs.soft hf⟩, hf⟩
theorem zk_op2 (h : ops[2]? = some { dst := some 101, op := Op.build 47 #[(2, Operand.tmp 100)], type := 47, pos := pos, after := after, guard := none }) (hz : w0.heap.size ≤ w.heap.size) (h0 : BS 1 (a.eval (.tmp 100)) w) :
  wpOp Tryz.prog ops Q 2 (fun a' w' => ∃ v, a' = a.put (some 101) v ∧ zkS w0.heap.size i k kA 2 v w' ∧ Soft w0 w w') a w := by
 refine wpOp_run h rfl ?_
 obtain ⟨b, xs, e, hs⟩ := h0
 have hx : (execOp a.eval { dst := some 101, op := Op.build 47 #[(2, Operand.tmp 100)], type := 47, pos := pos, after := after, guard := none }).run Tryz.prog w = .ok (.value (.agg #[.int .i64 0, .int .i64 0, .slice (some ⟨b, 0, none⟩) 1 1, .slice none 0 0, .slice none 0 0])) w := by
  simp only [execOp, List.map_toArray, List.map_cons, List.map_nil, e]
  kernel_rfl
 unfold Oper.wp
 rw [hx]
 exact ⟨_, rfl, ⟨_, rfl, b, xs, rfl, hs⟩, Soft.refl _ _⟩
theorem zk_op7 (h : ops[7]? = some { dst := some 106, op := Op.build 47 #[(2, Operand.tmp 105)], type := 47, pos := pos, after := after, guard := none }) (hz : w0.heap.size ≤ w.heap.size) (h0 : BS kA (a.eval (.tmp 105)) w) :
  wpOp Tryz.prog ops Q 7 (fun a' w' => ∃ v, a' = a.put (some 106) v ∧ zkS w0.heap.size i k kA 7 v w' ∧ Soft w0 w w') a w := by
 refine wpOp_run h rfl ?_
 obtain ⟨b, xs, e, hs⟩ := h0
 have hx : (execOp a.eval { dst := some 106, op := Op.build 47 #[(2, Operand.tmp 105)], type := 47, pos := pos, after := after, guard := none }).run Tryz.prog w = .ok (.value (.agg #[.int .i64 0, .int .i64 0, .slice (some ⟨b, 0, none⟩) kA kA, .slice none 0 0, .slice none 0 0])) w := by
  simp only [execOp, List.map_toArray, List.map_cons, List.map_nil, e]
  kernel_rfl
 unfold Oper.wp
 rw [hx]
 exact ⟨_, rfl, ⟨_, rfl, b, xs, rfl, hs⟩, Soft.refl _ _⟩
theorem zk_op23 (h : ops[23]? = some { dst := some 122, op := Op.build 47 #[(2, Operand.tmp 121)], type := 47, pos := pos, after := after, guard := none }) (hz : w0.heap.size ≤ w.heap.size) (h0 : BS 200 (a.eval (.tmp 121)) w) :
  wpOp Tryz.prog ops Q 23 (fun a' w' => ∃ v, a' = a.put (some 122) v ∧ zkS w0.heap.size i k kA 23 v w' ∧ Soft w0 w w') a w := by
 refine wpOp_run h rfl ?_
 obtain ⟨b, xs, e, hs⟩ := h0
 have hx : (execOp a.eval { dst := some 122, op := Op.build 47 #[(2, Operand.tmp 121)], type := 47, pos := pos, after := after, guard := none }).run Tryz.prog w = .ok (.value (.agg #[.int .i64 0, .int .i64 0, .slice (some ⟨b, 0, none⟩) 200 200, .slice none 0 0, .slice none 0 0])) w := by
  simp only [execOp, List.map_toArray, List.map_cons, List.map_nil, e]
  kernel_rfl
 unfold Oper.wp
 rw [hx]
 exact ⟨_, rfl, ⟨_, rfl, b, xs, rfl, hs⟩, Soft.refl _ _⟩
theorem zk_op32 (h : ops[32]? = some { dst := some 131, op := Op.build 47 #[(2, Operand.tmp 130)], type := 47, pos := pos, after := after, guard := none }) (hz : w0.heap.size ≤ w.heap.size) (h0 : BS 1 (a.eval (.tmp 130)) w) :
  wpOp Tryz.prog ops Q 32 (fun a' w' => ∃ v, a' = a.put (some 131) v ∧ zkS w0.heap.size i k kA 32 v w' ∧ Soft w0 w w') a w := by
 refine wpOp_run h rfl ?_
 obtain ⟨b, xs, e, hs⟩ := h0
 have hx : (execOp a.eval { dst := some 131, op := Op.build 47 #[(2, Operand.tmp 130)], type := 47, pos := pos, after := after, guard := none }).run Tryz.prog w = .ok (.value (.agg #[.int .i64 0, .int .i64 0, .slice (some ⟨b, 0, none⟩) 1 1, .slice none 0 0, .slice none 0 0])) w := by
  simp only [execOp, List.map_toArray, List.map_cons, List.map_nil, e]
  kernel_rfl
 unfold Oper.wp
 rw [hx]
 exact ⟨_, rfl, ⟨_, rfl, b, xs, rfl, hs⟩, Soft.refl _ _⟩
theorem zk_op12 (h : ops[12]? = some { dst := some 111, op := Op.build 47 #[(0, Operand.const (Value.int IntKind.i64 5)), (1, Operand.tmp 107), (4, Operand.tmp 110)], type := 47, pos := pos, after := after, guard := none }) (hz : w0.heap.size ≤ w.heap.size) (h0 : IS 3 (a.eval (.tmp 110)) w) (h1 : a.eval (.tmp 107) = .int .i64 i) :
  wpOp Tryz.prog ops Q 12 (fun a' w' => ∃ v, a' = a.put (some 111) v ∧ zkS w0.heap.size i k kA 12 v w' ∧ Soft w0 w w') a w := by
 refine wpOp_run h rfl ?_
 obtain ⟨b, xs, e, hs⟩ := h0
 have hx : (execOp a.eval { dst := some 111, op := Op.build 47 #[(0, Operand.const (Value.int IntKind.i64 5)), (1, Operand.tmp 107), (4, Operand.tmp 110)], type := 47, pos := pos, after := after, guard := none }).run Tryz.prog w = .ok (.value (.agg #[.int .i64 5, .int .i64 i, .slice none 0 0, .slice none 0 0, .slice (some ⟨b, 0, none⟩) 3 3])) w := by
  simp only [execOp, List.map_toArray, List.map_cons, List.map_nil, e, h1]
  kernel_rfl
 unfold Oper.wp
 rw [hx]
 exact ⟨_, rfl, ⟨_, rfl, b, xs, rfl, hs⟩, Soft.refl _ _⟩
theorem zk_op18 (h : ops[18]? = some { dst := some 117, op := Op.build 47 #[(0, Operand.const (Value.int IntKind.i64 4)), (4, Operand.tmp 116)], type := 47, pos := pos, after := after, guard := none }) (hz : w0.heap.size ≤ w.heap.size) (h0 : IS 3 (a.eval (.tmp 116)) w) :
  wpOp Tryz.prog ops Q 18 (fun a' w' => ∃ v, a' = a.put (some 117) v ∧ zkS w0.heap.size i k kA 18 v w' ∧ Soft w0 w w') a w := by
 refine wpOp_run h rfl ?_
 obtain ⟨b, xs, e, hs⟩ := h0
 have hx : (execOp a.eval { dst := some 117, op := Op.build 47 #[(0, Operand.const (Value.int IntKind.i64 4)), (4, Operand.tmp 116)], type := 47, pos := pos, after := after, guard := none }).run Tryz.prog w = .ok (.value (.agg #[.int .i64 4, .int .i64 0, .slice none 0 0, .slice none 0 0, .slice (some ⟨b, 0, none⟩) 3 3])) w := by
  simp only [execOp, List.map_toArray, List.map_cons, List.map_nil, e]
  kernel_rfl
 unfold Oper.wp
 rw [hx]
 exact ⟨_, rfl, ⟨_, rfl, b, xs, rfl, hs⟩, Soft.refl _ _⟩
theorem zk_op16 (h : ops[16]? = some { dst := some 115, op := Op.build 47 #[(0, Operand.const (Value.int IntKind.i64 2)), (3, Operand.tmp 114)], type := 47, pos := pos, after := after, guard := none }) (hz : w0.heap.size ≤ w.heap.size) (h0 : LS (a.eval (.tmp 114)) w) :
  wpOp Tryz.prog ops Q 16 (fun a' w' => ∃ v, a' = a.put (some 115) v ∧ zkS w0.heap.size i k kA 16 v w' ∧ Soft w0 w w') a w := by
 refine wpOp_run h rfl ?_
 obtain ⟨A, n, c, ps, e, hs⟩ := h0
 have hx : (execOp a.eval { dst := some 115, op := Op.build 47 #[(0, Operand.const (Value.int IntKind.i64 2)), (3, Operand.tmp 114)], type := 47, pos := pos, after := after, guard := none }).run Tryz.prog w = .ok (.value (.agg #[.int .i64 2, .int .i64 0, .slice none 0 0, .slice A n c, .slice none 0 0])) w := by
  simp only [execOp, List.map_toArray, List.map_cons, List.map_nil, e]
  kernel_rfl
 unfold Oper.wp
 rw [hx]
 exact ⟨_, rfl, ⟨_, rfl, A, n, c, ps, rfl, hs⟩, Soft.refl _ _⟩
theorem zk_op27 (h : ops[27]? = some { dst := some 126, op := Op.build 47 #[(0, Operand.const (Value.int IntKind.i64 2)), (3, Operand.tmp 125)], type := 47, pos := pos, after := after, guard := none }) (hz : w0.heap.size ≤ w.heap.size) (h0 : LS (a.eval (.tmp 125)) w) :
  wpOp Tryz.prog ops Q 27 (fun a' w' => ∃ v, a' = a.put (some 126) v ∧ zkS w0.heap.size i k kA 27 v w' ∧ Soft w0 w w') a w := by
 refine wpOp_run h rfl ?_
 obtain ⟨A, n, c, ps, e, hs⟩ := h0
 have hx : (execOp a.eval { dst := some 126, op := Op.build 47 #[(0, Operand.const (Value.int IntKind.i64 2)), (3, Operand.tmp 125)], type := 47, pos := pos, after := after, guard := none }).run Tryz.prog w = .ok (.value (.agg #[.int .i64 2, .int .i64 0, .slice none 0 0, .slice A n c, .slice none 0 0])) w := by
  simp only [execOp, List.map_toArray, List.map_cons, List.map_nil, e]
  kernel_rfl
 unfold Oper.wp
 rw [hx]
 exact ⟨_, rfl, ⟨_, rfl, A, n, c, ps, rfl, hs⟩, Soft.refl _ _⟩
theorem zk_op11 (h : ops[11]? = some { dst := some 110, op := Op.buildSlice 42 3 #[(0, Operand.tmp 108), (1, Operand.tmp 109), (2, Operand.const (Value.int IntKind.i64 1))], type := 42, pos := pos, after := after, guard := none }) (hz : w0.heap.size ≤ w.heap.size) (h0 : a.eval (.tmp 108) = .int .i64 k) (h1 : a.eval (.tmp 109) = .int .i64 i) (hk : k < 10) (hi : i < 10) :
  wpOp Tryz.prog ops Q 11 (fun a' w' => ∃ v, a' = a.put (some 110) v ∧ zkS w0.heap.size i k kA 11 v w' ∧ Soft w0 w w') a w := by
 refine wpOp_run h rfl ?_
 refine wp_buildSlice _ _ _ _ rfl ([(k : Int), (i : Int), 1].map i64v).toArray _ _ Tryz.underlying42 rfl rfl (by decide) (by decide) (by simp only [List.map_toArray, List.map_cons, List.map_nil, h0, h1]; kernel_rfl) ?_
 have hb := heap_alloc_new w (.cells ([(k : Int), (i : Int), 1].map i64v).toArray 3)
 exact ⟨_, rfl, ⟨w.heap.size, [(k : Int), (i : Int), 1], rfl, SlAt.blk hb rfl (by unfold maxLen; omega), by
  intro x hx
  simp only [List.mem_cons, List.not_mem_nil, or_false] at hx
  unfold I64
  omega⟩, Soft.of_kept (Kept.alloc [] w _) hz⟩
theorem zk_op17 (h : ops[17]? = some { dst := some 116, op := Op.buildSlice 42 3 #[(0, Operand.const (Value.int IntKind.i64 1)), (1, Operand.const (Value.int IntKind.i64 0)), (2, Operand.const (Value.int IntKind.i64 1))], type := 42, pos := pos, after := after, guard := none }) (hz : w0.heap.size ≤ w.heap.size) :
  wpOp Tryz.prog ops Q 17 (fun a' w' => ∃ v, a' = a.put (some 116) v ∧ zkS w0.heap.size i k kA 17 v w' ∧ Soft w0 w w') a w := by
 refine wpOp_run h rfl ?_
 refine wp_buildSlice _ _ _ _ rfl ([(1 : Int), 0, 1].map i64v).toArray _ _ Tryz.underlying42 rfl rfl (by decide) (by decide) (by kernel_rfl) ?_
 have hb := heap_alloc_new w (.cells ([(1 : Int), 0, 1].map i64v).toArray 3)
 exact ⟨_, rfl, ⟨w.heap.size, [(1 : Int), 0, 1], rfl, SlAt.blk hb rfl (by unfold maxLen; omega), by
  intro x hx
  simp only [List.mem_cons, List.not_mem_nil, or_false] at hx
  unfold I64
  omega⟩, Soft.of_kept (Kept.alloc [] w _) hz⟩
theorem zk_op22 (h : ops[22]? = some { dst := some 121, op := Op.makeSlice 45 (Operand.const (Value.int IntKind.i64 200)) (Operand.const (Value.int IntKind.i64 200)), type := 45, pos := pos, after := after, guard := none }) (hz : w0.heap.size ≤ w.heap.size) :
  wpOp Tryz.prog ops Q 22 (fun a' w' => ∃ v, a' = a.put (some 121) v ∧ zkS w0.heap.size i k kA 22 v w' ∧ Soft w0 w w') a w := by
 refine wpOp_run h rfl ?_
 obtain ⟨j0, hj0, ju0, ju1, ju2⟩ := info_parts info_u8
 have hmk := run_make (P := Tryz.prog) w 45 5 j0 _ Tryz.underlying45 hj0 ju0 .i64 .i64 200 200 (by omega) (Int.le_refl _) (by rw [ju2]; omega) (by omega)
 simp only [ju1, Nat.mul_one, show (Value.int .u8 0).cells = #[.int .u8 0] from rfl] at hmk
 have hb := heap_alloc_new w (.cells (madeCells #[.int .u8 0] (Int.toNat 200)) 5)
 unfold Oper.wp
 have hex : (execOp a.eval { dst := some 121, op := Op.makeSlice 45 (Operand.const (Value.int IntKind.i64 200)) (Operand.const (Value.int IntKind.i64 200)), type := 45, pos := pos, after := after, guard := none }).run Tryz.prog w = .ok (.value (.slice (some ⟨w.heap.size, 0, none⟩) 200 200)) (w.alloc (.cells (madeCells #[.int .u8 0] 200) 5)) := by
  go_simp
 rw [hex]
 exact ⟨_, rfl, ⟨w.heap.size, List.replicate 200 0, rfl, made_sl w 200 (by unfold maxLen; omega)⟩, Soft.of_kept (Kept.alloc [] w _) hz⟩
theorem zk_op25 (h : ops[25]? = some { dst := some 124, op := Op.makeSlice 45 (Operand.const (Value.int IntKind.i64 16385)) (Operand.const (Value.int IntKind.i64 16385)), type := 45, pos := pos, after := after, guard := none }) (hz : w0.heap.size ≤ w.heap.size) :
  wpOp Tryz.prog ops Q 25 (fun a' w' => ∃ v, a' = a.put (some 124) v ∧ zkS w0.heap.size i k kA 25 v w' ∧ Soft w0 w w') a w := by
 refine wpOp_run h rfl ?_
 obtain ⟨j0, hj0, ju0, ju1, ju2⟩ := info_parts info_u8
 have hmk := run_make (P := Tryz.prog) w 45 5 j0 _ Tryz.underlying45 hj0 ju0 .i64 .i64 16385 16385 (by omega) (Int.le_refl _) (by rw [ju2]; omega) (by omega)
 simp only [ju1, Nat.mul_one, show (Value.int .u8 0).cells = #[.int .u8 0] from rfl] at hmk
 have hb := heap_alloc_new w (.cells (madeCells #[.int .u8 0] (Int.toNat 16385)) 5)
 unfold Oper.wp
 have hex : (execOp a.eval { dst := some 124, op := Op.makeSlice 45 (Operand.const (Value.int IntKind.i64 16385)) (Operand.const (Value.int IntKind.i64 16385)), type := 45, pos := pos, after := after, guard := none }).run Tryz.prog w = .ok (.value (.slice (some ⟨w.heap.size, 0, none⟩) 16385 16385)) (w.alloc (.cells (madeCells #[.int .u8 0] 16385) 5)) := by
  go_simp
 rw [hex]
 exact ⟨_, rfl, ⟨w.heap.size, List.replicate 16385 0, rfl, made_sl w 16385 (by unfold maxLen; omega)⟩, Soft.of_kept (Kept.alloc [] w _) hz⟩
theorem zk_op6 (h : ops[6]? = some { dst := some 105, op := Op.makeSlice 45 (Operand.tmp 104) (Operand.tmp 104), type := 45, pos := pos, after := after, guard := none }) (hz : w0.heap.size ≤ w.heap.size) (h0 : a.eval (.tmp 104) = .int .i64 kA) (hk : kA ≤ 360) :
  wpOp Tryz.prog ops Q 6 (fun a' w' => ∃ v, a' = a.put (some 105) v ∧ zkS w0.heap.size i k kA 6 v w' ∧ Soft w0 w w') a w := by
 refine wpOp_run h rfl ?_
 obtain ⟨j0, hj0, ju0, ju1, ju2⟩ := info_parts info_u8
 have hmk := run_make (P := Tryz.prog) w 45 5 j0 _ Tryz.underlying45 hj0 ju0 .i64 .i64 kA kA (by omega) (Int.le_refl _) (by rw [ju2]; omega) (by omega)
 simp only [ju1, Nat.mul_one, show (Value.int .u8 0).cells = #[.int .u8 0] from rfl] at hmk
 have hb := heap_alloc_new w (.cells (madeCells #[.int .u8 0] (Int.toNat kA)) 5)
 unfold Oper.wp
 have hex : (execOp a.eval { dst := some 105, op := Op.makeSlice 45 (Operand.tmp 104) (Operand.tmp 104), type := 45, pos := pos, after := after, guard := none }).run Tryz.prog w = .ok (.value (.slice (some ⟨w.heap.size, 0, none⟩) kA kA)) (w.alloc (.cells (madeCells #[.int .u8 0] kA) 5)) := by
  go_simp
  have h1 : a.tmps[104]?.getD undef = .int .i64 kA := by simpa [Act.eval] using h0
  rw [h1, hmk]
  rfl
 rw [hex]
 exact ⟨_, rfl, ⟨w.heap.size, List.replicate kA 0, rfl, made_sl w kA (by unfold maxLen; omega)⟩, Soft.of_kept (Kept.alloc [] w _) hz⟩
theorem zk_op14 (h : ops[14]? = some { dst := some 113, op := Op.buildSlice 65 2 #[(0, Operand.const (Value.string ⟨#[120]⟩)), (1, Operand.const (Value.string ⟨#[121, 121]⟩))], type := 65, pos := pos, after := after, guard := none }) (hz : w0.heap.size ≤ w.heap.size) :
  wpOp Tryz.prog ops Q 14 (fun a' w' => ∃ v, a' = a.put (some 113) v ∧ zkS w0.heap.size i k kA 14 v w' ∧ Soft w0 w w') a w := by
 refine wpOp_run h rfl ?_
 refine wp_buildSlice _ _ _ _ rfl #[.string ⟨#[120]⟩, .string ⟨#[121, 121]⟩] _ _ Tryz.underlying65 rfl rfl (by decide) (by decide) (by kernel_rfl) ?_
 have hb := heap_alloc_new w (.cells #[.string ⟨#[120]⟩, .string ⟨#[121, 121]⟩] 9)
 exact ⟨_, rfl, ⟨w.heap.size, rfl, World.lt_of_heap hb, by rw [blk_cell hb]; rfl, by rw [blk_cell hb]; rfl⟩, Soft.of_kept (Kept.alloc [] w _) hz⟩
theorem zk_op15 (h : ops[15]? = some { dst := some 114, op := Op.call { callee := Callee.value (Operand.func 14), args := #[Operand.tmp 113], argTypes := #[65] }, type := 37, pos := pos, after := after, guard := none }) (hz : w0.heap.size ≤ w.heap.size) (h0 : StS (a.eval (.tmp 113)) w) :
  wpOp Tryz.prog ops Q 15 (fun a' w' => ∃ v, a' = a.put (some 114) v ∧ zkS w0.heap.size i k kA 15 v w' ∧ Soft w0 w w') a w := by
 refine wpOp_run h rfl ?_
 obtain ⟨b, e, hb, c0, c1⟩ := h0
 have ct := texts13_any w b 0 2 2 [[120], [121, 121]] rfl (by omega) (by omega) (by omega) (by decide) hb (fun i s hs => by
  rw [Nat.zero_add]
  match i, hs with
  | 0, hs => cases hs; exact c0
  | 1, hs => cases hs; exact c1
  | i + 2, hs => simp at hs)
 have h1 : a.tmps[113]?.getD undef = .slice (some ⟨b, 0, none⟩) 2 2 := by rw [← e]; simp [Act.eval]
 go_simp
 refine ct.mono ?_
 rintro e w' ⟨A, c, ps, rfl, k1, hB, ht, _, _⟩
 refine ⟨_, rfl, ⟨A, 2, c, ps, rfl, hB, by omega, fun q hq => ?_⟩, Soft.of_kept k1 hz⟩
 have h2 : q.xs ∈ texts ps := List.mem_map_of_mem hq
 rw [ht] at h2
 have h3 : q.xs.length = q.n := by simpa [u8vs] using (hB.all q hq).1.len
 simp only [List.mem_cons, List.not_mem_nil, or_false] at h2
 rcases h2 with h2 | h2 <;> (rw [h2] at h3; simp at h3; omega)
theorem zk_op26 (h : ops[26]? = some { dst := some 125, op := Op.buildSlice 37 1 #[(0, Operand.tmp 124)], type := 37, pos := pos, after := after, guard := none }) (hz : w0.heap.size ≤ w.heap.size) (h0 : BS 16385 (a.eval (.tmp 124)) w) :
  wpOp Tryz.prog ops Q 26 (fun a' w' => ∃ v, a' = a.put (some 125) v ∧ zkS w0.heap.size i k kA 26 v w' ∧ Soft w0 w w') a w := by
 refine wpOp_run h rfl ?_
 obtain ⟨b, xs, e, hs⟩ := h0
 refine wp_buildSlice _ _ _ _ rfl #[.slice (some ⟨b, 0, none⟩) 16385 16385] _ _ Tryz.underlying37 rfl rfl (by decide) (by decide) (by simp only [List.map_toArray, List.map_cons, List.map_nil, e]; kernel_rfl) ?_
 have hb := heap_alloc_new w (.cells #[.slice (some ⟨b, 0, none⟩) 16385 16385] 45)
 have hk : Kept [] w (w.alloc (.cells #[.slice (some ⟨b, 0, none⟩) 16385 16385] 45)) := Kept.alloc [] w _
 refine ⟨_, rfl, ⟨_, 1, 1, [⟨some ⟨b, 0, none⟩, 16385, 16385, xs⟩], rfl, ⟨rfl, Nat.le_refl _, by unfold maxLen; omega, fun q hq => ?_, fun _ => ⟨w.heap.size, 0, rfl, World.lt_of_heap hb, fun j p hp => ?_⟩⟩, by omega, fun q hq => ?_⟩, Soft.of_kept (Kept.alloc [] w _) hz⟩
 ·simp only [List.mem_singleton] at hq
  subst hq
  exact ⟨hs.kept hk (by simp), fun e => by cases e⟩
 ·match j, hp with
  | 0, hp => cases hp; rw [blk_cell hb]; rfl
  | j + 1, hp => simp at hp
 ·simp only [List.mem_singleton] at hq
  subst hq
  show 16385 ≤ 100000
  omega
theorem zk_op40 (h : ops[40]? = some { dst := some 139, op := Op.buildSlice 49 17 #[(0, Operand.tmp 101), (1, Operand.tmp 102), (2, Operand.tmp 106), (3, Operand.tmp 111), (4, Operand.tmp 112), (5, Operand.tmp 115), (6, Operand.tmp 117), (7, Operand.tmp 120), (8, Operand.tmp 122), (9, Operand.tmp 123), (10, Operand.tmp 126), (11, Operand.tmp 127), (12, Operand.tmp 128), (13, Operand.tmp 131), (14, Operand.tmp 132), (15, Operand.tmp 137), (16, Operand.tmp 138)], type := 49, pos := pos, after := after, guard := none }) (hz : w0.heap.size ≤ w.heap.size) {kB kC : Nat} (hi : i < 10) (hkA : kA ≤ 360) (hkB : kB ≤ 20000) (hkC : kC ≤ 4) (h101 : GgB 1 (a.eval (.tmp 101)) w) (e102 : a.eval (.tmp 102) = .agg #[.int .i64 1, .int .i64 (0), .slice none 0 0, .slice none 0 0, .slice none 0 0]) (h106 : GgB kA (a.eval (.tmp 106)) w) (h111 : GgI 5 i 3 (a.eval (.tmp 111)) w) (e112 : a.eval (.tmp 112) = .agg #[.int .i64 1, .int .i64 (0), .slice none 0 0, .slice none 0 0, .slice none 0 0]) (h115 : GgL (a.eval (.tmp 115)) w) (h117 : GgI 4 0 3 (a.eval (.tmp 117)) w) (e120 : a.eval (.tmp 120) = .agg #[.int .i64 6, .int .i64 (kC), .slice none 0 0, .slice none 0 0, .slice none 0 0]) (h122 : GgB 200 (a.eval (.tmp 122)) w) (e123 : a.eval (.tmp 123) = .agg #[.int .i64 1, .int .i64 (0), .slice none 0 0, .slice none 0 0, .slice none 0 0]) (h126 : GgL (a.eval (.tmp 126)) w) (e127 : a.eval (.tmp 127) = .agg #[.int .i64 6, .int .i64 (-1), .slice none 0 0, .slice none 0 0, .slice none 0 0]) (e128 : a.eval (.tmp 128) = .agg #[.int .i64 3, .int .i64 (0), .slice none 0 0, .slice none 0 0, .slice none 0 0]) (h131 : GgB 1 (a.eval (.tmp 131)) w) (e132 : a.eval (.tmp 132) = .agg #[.int .i64 1, .int .i64 (0), .slice none 0 0, .slice none 0 0, .slice none 0 0]) (e137 : a.eval (.tmp 137) = .agg #[.int .i64 7, .int .i64 (kB), .slice none 0 0, .slice none 0 0, .slice none 0 0]) (e138 : a.eval (.tmp 138) = .agg #[.int .i64 3, .int .i64 (0), .slice none 0 0, .slice none 0 0, .slice none 0 0]) :
  wpOp Tryz.prog ops Q 40 (fun a' w' => ∃ v, a' = a.put (some 139) v ∧ zkS w0.heap.size i k kA 40 v w' ∧ Soft w0 w w') a w := by
 obtain ⟨_, e101, b101, x101, rfl, s101⟩ := h101
 obtain ⟨_, e106, b106, x106, rfl, s106⟩ := h106
 obtain ⟨_, e111, b111, x111, rfl, s111, t111⟩ := h111
 obtain ⟨_, e115, A115, n115, c115, p115, rfl, s115, t115, u115⟩ := h115
 obtain ⟨_, e117, b117, x117, rfl, s117, t117⟩ := h117
 obtain ⟨_, e122, b122, x122, rfl, s122⟩ := h122
 obtain ⟨_, e126, A126, n126, c126, p126, rfl, s126, t126, u126⟩ := h126
 obtain ⟨_, e131, b131, x131, rfl, s131⟩ := h131
 refine wpOp_run h rfl ?_
 refine wp_buildSlice _ _ _ _ rfl #[.int .i64 0, .int .i64 0, .slice (some ⟨b101, 0, none⟩) 1 1, .slice none 0 0, .slice none 0 0, .int .i64 1, .int .i64 (0), .slice none 0 0, .slice none 0 0, .slice none 0 0, .int .i64 0, .int .i64 0, .slice (some ⟨b106, 0, none⟩) kA kA, .slice none 0 0, .slice none 0 0, .int .i64 5, .int .i64 i, .slice none 0 0, .slice none 0 0, .slice (some ⟨b111, 0, none⟩) 3 3, .int .i64 1, .int .i64 (0), .slice none 0 0, .slice none 0 0, .slice none 0 0, .int .i64 2, .int .i64 0, .slice none 0 0, .slice A115 n115 c115, .slice none 0 0, .int .i64 4, .int .i64 0, .slice none 0 0, .slice none 0 0, .slice (some ⟨b117, 0, none⟩) 3 3, .int .i64 6, .int .i64 (kC), .slice none 0 0, .slice none 0 0, .slice none 0 0, .int .i64 0, .int .i64 0, .slice (some ⟨b122, 0, none⟩) 200 200, .slice none 0 0, .slice none 0 0, .int .i64 1, .int .i64 (0), .slice none 0 0, .slice none 0 0, .slice none 0 0, .int .i64 2, .int .i64 0, .slice none 0 0, .slice A126 n126 c126, .slice none 0 0, .int .i64 6, .int .i64 (-1), .slice none 0 0, .slice none 0 0, .slice none 0 0, .int .i64 3, .int .i64 (0), .slice none 0 0, .slice none 0 0, .slice none 0 0, .int .i64 0, .int .i64 0, .slice (some ⟨b131, 0, none⟩) 1 1, .slice none 0 0, .slice none 0 0, .int .i64 1, .int .i64 (0), .slice none 0 0, .slice none 0 0, .slice none 0 0, .int .i64 7, .int .i64 (kB), .slice none 0 0, .slice none 0 0, .slice none 0 0, .int .i64 3, .int .i64 (0), .slice none 0 0, .slice none 0 0, .slice none 0 0] _ _ Tryz.underlying49 rfl rfl (by decide) (by decide) (by simp only [List.map_toArray, List.map_cons, List.map_nil, e101, e102, e106, e111, e112, e115, e117, e120, e122, e123, e126, e127, e128, e131, e132, e137, e138]; kernel_rfl) ?_
 have hb := heap_alloc_new w (.cells #[.int .i64 0, .int .i64 0, .slice (some ⟨b101, 0, none⟩) 1 1, .slice none 0 0, .slice none 0 0, .int .i64 1, .int .i64 (0), .slice none 0 0, .slice none 0 0, .slice none 0 0, .int .i64 0, .int .i64 0, .slice (some ⟨b106, 0, none⟩) kA kA, .slice none 0 0, .slice none 0 0, .int .i64 5, .int .i64 i, .slice none 0 0, .slice none 0 0, .slice (some ⟨b111, 0, none⟩) 3 3, .int .i64 1, .int .i64 (0), .slice none 0 0, .slice none 0 0, .slice none 0 0, .int .i64 2, .int .i64 0, .slice none 0 0, .slice A115 n115 c115, .slice none 0 0, .int .i64 4, .int .i64 0, .slice none 0 0, .slice none 0 0, .slice (some ⟨b117, 0, none⟩) 3 3, .int .i64 6, .int .i64 (kC), .slice none 0 0, .slice none 0 0, .slice none 0 0, .int .i64 0, .int .i64 0, .slice (some ⟨b122, 0, none⟩) 200 200, .slice none 0 0, .slice none 0 0, .int .i64 1, .int .i64 (0), .slice none 0 0, .slice none 0 0, .slice none 0 0, .int .i64 2, .int .i64 0, .slice none 0 0, .slice A126 n126 c126, .slice none 0 0, .int .i64 6, .int .i64 (-1), .slice none 0 0, .slice none 0 0, .slice none 0 0, .int .i64 3, .int .i64 (0), .slice none 0 0, .slice none 0 0, .slice none 0 0, .int .i64 0, .int .i64 0, .slice (some ⟨b131, 0, none⟩) 1 1, .slice none 0 0, .slice none 0 0, .int .i64 1, .int .i64 (0), .slice none 0 0, .slice none 0 0, .slice none 0 0, .int .i64 7, .int .i64 (kB), .slice none 0 0, .slice none 0 0, .slice none 0 0, .int .i64 3, .int .i64 (0), .slice none 0 0, .slice none 0 0, .slice none 0 0] 47)
 have hk : Kept [] w (w.alloc (.cells #[.int .i64 0, .int .i64 0, .slice (some ⟨b101, 0, none⟩) 1 1, .slice none 0 0, .slice none 0 0, .int .i64 1, .int .i64 (0), .slice none 0 0, .slice none 0 0, .slice none 0 0, .int .i64 0, .int .i64 0, .slice (some ⟨b106, 0, none⟩) kA kA, .slice none 0 0, .slice none 0 0, .int .i64 5, .int .i64 i, .slice none 0 0, .slice none 0 0, .slice (some ⟨b111, 0, none⟩) 3 3, .int .i64 1, .int .i64 (0), .slice none 0 0, .slice none 0 0, .slice none 0 0, .int .i64 2, .int .i64 0, .slice none 0 0, .slice A115 n115 c115, .slice none 0 0, .int .i64 4, .int .i64 0, .slice none 0 0, .slice none 0 0, .slice (some ⟨b117, 0, none⟩) 3 3, .int .i64 6, .int .i64 (kC), .slice none 0 0, .slice none 0 0, .slice none 0 0, .int .i64 0, .int .i64 0, .slice (some ⟨b122, 0, none⟩) 200 200, .slice none 0 0, .slice none 0 0, .int .i64 1, .int .i64 (0), .slice none 0 0, .slice none 0 0, .slice none 0 0, .int .i64 2, .int .i64 0, .slice none 0 0, .slice A126 n126 c126, .slice none 0 0, .int .i64 6, .int .i64 (-1), .slice none 0 0, .slice none 0 0, .slice none 0 0, .int .i64 3, .int .i64 (0), .slice none 0 0, .slice none 0 0, .slice none 0 0, .int .i64 0, .int .i64 0, .slice (some ⟨b131, 0, none⟩) 1 1, .slice none 0 0, .slice none 0 0, .int .i64 1, .int .i64 (0), .slice none 0 0, .slice none 0 0, .slice none 0 0, .int .i64 7, .int .i64 (kB), .slice none 0 0, .slice none 0 0, .slice none 0 0, .int .i64 3, .int .i64 (0), .slice none 0 0, .slice none 0 0, .slice none 0 0] 47)) := Kept.alloc [] w _
 obtain ⟨w', hw'⟩ : ∃ w', w.alloc (.cells #[.int .i64 0, .int .i64 0, .slice (some ⟨b101, 0, none⟩) 1 1, .slice none 0 0, .slice none 0 0, .int .i64 1, .int .i64 (0), .slice none 0 0, .slice none 0 0, .slice none 0 0, .int .i64 0, .int .i64 0, .slice (some ⟨b106, 0, none⟩) kA kA, .slice none 0 0, .slice none 0 0, .int .i64 5, .int .i64 i, .slice none 0 0, .slice none 0 0, .slice (some ⟨b111, 0, none⟩) 3 3, .int .i64 1, .int .i64 (0), .slice none 0 0, .slice none 0 0, .slice none 0 0, .int .i64 2, .int .i64 0, .slice none 0 0, .slice A115 n115 c115, .slice none 0 0, .int .i64 4, .int .i64 0, .slice none 0 0, .slice none 0 0, .slice (some ⟨b117, 0, none⟩) 3 3, .int .i64 6, .int .i64 (kC), .slice none 0 0, .slice none 0 0, .slice none 0 0, .int .i64 0, .int .i64 0, .slice (some ⟨b122, 0, none⟩) 200 200, .slice none 0 0, .slice none 0 0, .int .i64 1, .int .i64 (0), .slice none 0 0, .slice none 0 0, .slice none 0 0, .int .i64 2, .int .i64 0, .slice none 0 0, .slice A126 n126 c126, .slice none 0 0, .int .i64 6, .int .i64 (-1), .slice none 0 0, .slice none 0 0, .slice none 0 0, .int .i64 3, .int .i64 (0), .slice none 0 0, .slice none 0 0, .slice none 0 0, .int .i64 0, .int .i64 0, .slice (some ⟨b131, 0, none⟩) 1 1, .slice none 0 0, .slice none 0 0, .int .i64 1, .int .i64 (0), .slice none 0 0, .slice none 0 0, .slice none 0 0, .int .i64 7, .int .i64 (kB), .slice none 0 0, .slice none 0 0, .slice none 0 0, .int .i64 3, .int .i64 (0), .slice none 0 0, .slice none 0 0, .slice none 0 0] 47) = w' := ⟨_, rfl⟩
 rw [hw'] at hb hk ⊢
 have ok : ∀ d ∈ ([⟨0, 0, ⟨some ⟨b101, 0, none⟩, 1, 1, x101⟩, none, 0, 0, [], none, 0, 0, []⟩, ⟨1, 0, ⟨none, 0, 0, []⟩, none, 0, 0, [], none, 0, 0, []⟩, ⟨0, 0, ⟨some ⟨b106, 0, none⟩, kA, kA, x106⟩, none, 0, 0, [], none, 0, 0, []⟩, ⟨5, i, ⟨none, 0, 0, []⟩, none, 0, 0, [], some ⟨b111, 0, none⟩, 3, 3, x111⟩, ⟨1, 0, ⟨none, 0, 0, []⟩, none, 0, 0, [], none, 0, 0, []⟩, ⟨2, 0, ⟨none, 0, 0, []⟩, A115, n115, c115, p115, none, 0, 0, []⟩, ⟨4, 0, ⟨none, 0, 0, []⟩, none, 0, 0, [], some ⟨b117, 0, none⟩, 3, 3, x117⟩, ⟨6, kC, ⟨none, 0, 0, []⟩, none, 0, 0, [], none, 0, 0, []⟩, ⟨0, 0, ⟨some ⟨b122, 0, none⟩, 200, 200, x122⟩, none, 0, 0, [], none, 0, 0, []⟩, ⟨1, 0, ⟨none, 0, 0, []⟩, none, 0, 0, [], none, 0, 0, []⟩, ⟨2, 0, ⟨none, 0, 0, []⟩, A126, n126, c126, p126, none, 0, 0, []⟩, ⟨6, -1, ⟨none, 0, 0, []⟩, none, 0, 0, [], none, 0, 0, []⟩, ⟨3, 0, ⟨none, 0, 0, []⟩, none, 0, 0, [], none, 0, 0, []⟩, ⟨0, 0, ⟨some ⟨b131, 0, none⟩, 1, 1, x131⟩, none, 0, 0, [], none, 0, 0, []⟩, ⟨1, 0, ⟨none, 0, 0, []⟩, none, 0, 0, [], none, 0, 0, []⟩, ⟨7, kB, ⟨none, 0, 0, []⟩, none, 0, 0, [], none, 0, 0, []⟩, ⟨3, 0, ⟨none, 0, 0, []⟩, none, 0, 0, [], none, 0, 0, []⟩] : List D13), d.Ok w' ∧ d.Fits := by
  simp only [List.forall_mem_cons]
  refine ⟨⟨?_, ?_⟩, ⟨?_, ?_⟩, ⟨?_, ?_⟩, ⟨?_, ?_⟩, ⟨?_, ?_⟩, ⟨?_, ?_⟩, ⟨?_, ?_⟩, ⟨?_, ?_⟩, ⟨?_, ?_⟩, ⟨?_, ?_⟩, ⟨?_, ?_⟩, ⟨?_, ?_⟩, ⟨?_, ?_⟩, ⟨?_, ?_⟩, ⟨?_, ?_⟩, ⟨?_, ?_⟩, ⟨?_, ?_⟩, fun d hd => by cases hd⟩
  ·exact ⟨by unfold I64; (try dsimp only); omega, by unfold I64; (try dsimp only); omega, ⟨s101.kept hk (by simp), fun e => by cases e⟩, BytessAt.nil w', SlAt.nil w', by (try dsimp only); omega, fun n hn => by cases hn⟩
  ·exact ⟨by (try dsimp only); omega, by (try dsimp only); omega, fun q hq => by cases hq⟩
  ·exact ⟨by unfold I64; (try dsimp only); omega, by unfold I64; (try dsimp only); omega, ⟨SlAt.nil w', fun _ => rfl⟩, BytessAt.nil w', SlAt.nil w', by (try dsimp only); omega, fun n hn => by cases hn⟩
  ·exact ⟨by (try dsimp only); omega, by (try dsimp only); omega, fun q hq => by cases hq⟩
  ·exact ⟨by unfold I64; (try dsimp only); omega, by unfold I64; (try dsimp only); omega, ⟨s106.kept hk (by simp), fun e => by cases e⟩, BytessAt.nil w', SlAt.nil w', by (try dsimp only); omega, fun n hn => by cases hn⟩
  ·exact ⟨by (try dsimp only); omega, by (try dsimp only); omega, fun q hq => by cases hq⟩
  ·exact ⟨by unfold I64; (try dsimp only); omega, by unfold I64; (try dsimp only); omega, ⟨SlAt.nil w', fun _ => rfl⟩, BytessAt.nil w', s111.kept hk (by simp), by (try dsimp only); omega, t111⟩
  ·exact ⟨by (try dsimp only); omega, by (try dsimp only); omega, fun q hq => by cases hq⟩
  ·exact ⟨by unfold I64; (try dsimp only); omega, by unfold I64; (try dsimp only); omega, ⟨SlAt.nil w', fun _ => rfl⟩, BytessAt.nil w', SlAt.nil w', by (try dsimp only); omega, fun n hn => by cases hn⟩
  ·exact ⟨by (try dsimp only); omega, by (try dsimp only); omega, fun q hq => by cases hq⟩
  ·exact ⟨by unfold I64; (try dsimp only); omega, by unfold I64; (try dsimp only); omega, ⟨SlAt.nil w', fun _ => rfl⟩, s115.new hk, SlAt.nil w', by (try dsimp only); omega, fun n hn => by cases hn⟩
  ·exact ⟨by (try dsimp only); omega, t115, u115⟩
  ·exact ⟨by unfold I64; (try dsimp only); omega, by unfold I64; (try dsimp only); omega, ⟨SlAt.nil w', fun _ => rfl⟩, BytessAt.nil w', s117.kept hk (by simp), by (try dsimp only); omega, t117⟩
  ·exact ⟨by (try dsimp only); omega, by (try dsimp only); omega, fun q hq => by cases hq⟩
  ·exact ⟨by unfold I64; (try dsimp only); omega, by unfold I64; (try dsimp only); omega, ⟨SlAt.nil w', fun _ => rfl⟩, BytessAt.nil w', SlAt.nil w', by (try dsimp only); omega, fun n hn => by cases hn⟩
  ·exact ⟨by (try dsimp only); omega, by (try dsimp only); omega, fun q hq => by cases hq⟩
  ·exact ⟨by unfold I64; (try dsimp only); omega, by unfold I64; (try dsimp only); omega, ⟨s122.kept hk (by simp), fun e => by cases e⟩, BytessAt.nil w', SlAt.nil w', by (try dsimp only); omega, fun n hn => by cases hn⟩
  ·exact ⟨by (try dsimp only); omega, by (try dsimp only); omega, fun q hq => by cases hq⟩
  ·exact ⟨by unfold I64; (try dsimp only); omega, by unfold I64; (try dsimp only); omega, ⟨SlAt.nil w', fun _ => rfl⟩, BytessAt.nil w', SlAt.nil w', by (try dsimp only); omega, fun n hn => by cases hn⟩
  ·exact ⟨by (try dsimp only); omega, by (try dsimp only); omega, fun q hq => by cases hq⟩
  ·exact ⟨by unfold I64; (try dsimp only); omega, by unfold I64; (try dsimp only); omega, ⟨SlAt.nil w', fun _ => rfl⟩, s126.new hk, SlAt.nil w', by (try dsimp only); omega, fun n hn => by cases hn⟩
  ·exact ⟨by (try dsimp only); omega, t126, u126⟩
  ·exact ⟨by unfold I64; (try dsimp only); omega, by unfold I64; (try dsimp only); omega, ⟨SlAt.nil w', fun _ => rfl⟩, BytessAt.nil w', SlAt.nil w', by (try dsimp only); omega, fun n hn => by cases hn⟩
  ·exact ⟨by (try dsimp only); omega, by (try dsimp only); omega, fun q hq => by cases hq⟩
  ·exact ⟨by unfold I64; (try dsimp only); omega, by unfold I64; (try dsimp only); omega, ⟨SlAt.nil w', fun _ => rfl⟩, BytessAt.nil w', SlAt.nil w', by (try dsimp only); omega, fun n hn => by cases hn⟩
  ·exact ⟨by (try dsimp only); omega, by (try dsimp only); omega, fun q hq => by cases hq⟩
  ·exact ⟨by unfold I64; (try dsimp only); omega, by unfold I64; (try dsimp only); omega, ⟨s131.kept hk (by simp), fun e => by cases e⟩, BytessAt.nil w', SlAt.nil w', by (try dsimp only); omega, fun n hn => by cases hn⟩
  ·exact ⟨by (try dsimp only); omega, by (try dsimp only); omega, fun q hq => by cases hq⟩
  ·exact ⟨by unfold I64; (try dsimp only); omega, by unfold I64; (try dsimp only); omega, ⟨SlAt.nil w', fun _ => rfl⟩, BytessAt.nil w', SlAt.nil w', by (try dsimp only); omega, fun n hn => by cases hn⟩
  ·exact ⟨by (try dsimp only); omega, by (try dsimp only); omega, fun q hq => by cases hq⟩
  ·exact ⟨by unfold I64; (try dsimp only); omega, by unfold I64; (try dsimp only); omega, ⟨SlAt.nil w', fun _ => rfl⟩, BytessAt.nil w', SlAt.nil w', by (try dsimp only); omega, fun n hn => by cases hn⟩
  ·exact ⟨by (try dsimp only); omega, by (try dsimp only); omega, fun q hq => by cases hq⟩
  ·exact ⟨by unfold I64; (try dsimp only); omega, by unfold I64; (try dsimp only); omega, ⟨SlAt.nil w', fun _ => rfl⟩, BytessAt.nil w', SlAt.nil w', by (try dsimp only); omega, fun n hn => by cases hn⟩
  ·exact ⟨by (try dsimp only); omega, by (try dsimp only); omega, fun q hq => by cases hq⟩
 exact ⟨_, rfl, ⟨w.heap.size, [⟨0, 0, ⟨some ⟨b101, 0, none⟩, 1, 1, x101⟩, none, 0, 0, [], none, 0, 0, []⟩, ⟨1, 0, ⟨none, 0, 0, []⟩, none, 0, 0, [], none, 0, 0, []⟩, ⟨0, 0, ⟨some ⟨b106, 0, none⟩, kA, kA, x106⟩, none, 0, 0, [], none, 0, 0, []⟩, ⟨5, i, ⟨none, 0, 0, []⟩, none, 0, 0, [], some ⟨b111, 0, none⟩, 3, 3, x111⟩, ⟨1, 0, ⟨none, 0, 0, []⟩, none, 0, 0, [], none, 0, 0, []⟩, ⟨2, 0, ⟨none, 0, 0, []⟩, A115, n115, c115, p115, none, 0, 0, []⟩, ⟨4, 0, ⟨none, 0, 0, []⟩, none, 0, 0, [], some ⟨b117, 0, none⟩, 3, 3, x117⟩, ⟨6, kC, ⟨none, 0, 0, []⟩, none, 0, 0, [], none, 0, 0, []⟩, ⟨0, 0, ⟨some ⟨b122, 0, none⟩, 200, 200, x122⟩, none, 0, 0, [], none, 0, 0, []⟩, ⟨1, 0, ⟨none, 0, 0, []⟩, none, 0, 0, [], none, 0, 0, []⟩, ⟨2, 0, ⟨none, 0, 0, []⟩, A126, n126, c126, p126, none, 0, 0, []⟩, ⟨6, -1, ⟨none, 0, 0, []⟩, none, 0, 0, [], none, 0, 0, []⟩, ⟨3, 0, ⟨none, 0, 0, []⟩, none, 0, 0, [], none, 0, 0, []⟩, ⟨0, 0, ⟨some ⟨b131, 0, none⟩, 1, 1, x131⟩, none, 0, 0, [], none, 0, 0, []⟩, ⟨1, 0, ⟨none, 0, 0, []⟩, none, 0, 0, [], none, 0, 0, []⟩, ⟨7, kB, ⟨none, 0, 0, []⟩, none, 0, 0, [], none, 0, 0, []⟩, ⟨3, 0, ⟨none, 0, 0, []⟩, none, 0, 0, [], none, 0, 0, []⟩], rfl, D13s.of_block hb rfl (by omega) (by unfold maxLen; omega) (by rfl) (fun d hd => (ok d hd).1), fun d hd => (ok d hd).2⟩, Soft.of_kept hk hz⟩
theorem zk_op41 (h : ops[41]? = some { dst := some 17, op := Op.assign (Operand.tmp 139), type := 49, pos := pos, after := after, guard := none }) (hz : w0.heap.size ≤ w.heap.size) (h0 : DZ 17 (a.eval (.tmp 139)) w) :
  wpOp Tryz.prog ops Q 41 (fun a' w' => ∃ v, a' = a.put (some 17) v ∧ zkS w0.heap.size i k kA 41 v w' ∧ Soft w0 w w') a w := by
 refine wpOp_run h rfl ?_
 go_simp
 refine ⟨_, rfl, ?_, Soft.refl _ _⟩
 have e : a.eval (.tmp 139) = a.tmps[139]?.getD undef := by simp [Act.eval]
 rw [← e]
 exact h0
end
end Go.Proofs.YtbnflbkaogpnbaaGreat
