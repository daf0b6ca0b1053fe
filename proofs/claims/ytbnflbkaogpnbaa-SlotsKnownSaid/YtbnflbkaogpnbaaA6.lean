/- StripKnown's region: each operation by itself. -/
import Derived.Test.YtbnflbkaogpnbaaA5
import Derived.Great.BuildSlice
namespace Go.Proofs.Ytbnflbkaogpnbaa
set_option linter.unusedVariables false
set_option maxRecDepth 100000
open Go.RowKit

def D11.cellsL (d : D11) : List Value := [.int .i64 d.kind, .int .i64 d.num, d.data.val, .slice d.keepA d.keepn d.keepc]
def d11cells (l : List D11) : List Value := l.flatMap D11.cellsL
theorem d11cells_at : ∀ {l : List D11} {i j : Nat} {d : D11}, l[i]? = some d → j < 4 → (d11cells l)[i * 4 + j]? = d.cellsL[j]?
  | [], i, j, d, h, hj => by simp at h
  | x :: l, 0, j, d, h, hj => by
    simp at h
    subst h
    rw [d11cells, List.flatMap_cons, List.getElem?_append_left (by simp [D11.cellsL]; omega)]
    congr 1
    omega
  | x :: l, i + 1, j, d, h, hj => by
    simp only [List.getElem?_cons_succ] at h
    rw [d11cells, List.flatMap_cons, List.getElem?_append_right (by simp [D11.cellsL]; omega), ← d11cells, ← d11cells_at h hj]
    congr 1
    simp [D11.cellsL]
    omega

theorem D11s.of_block {w : World} {g : Nat} {cs : Array Value} {t : TypeId} {fz : Nat × Nat} (hg : w.heap[g]? = some (.cells cs t fz)) {l : List D11} {n c : Nat} (hl : l.length = n) (hn : n ≤ c) (hc : c ≤ maxLen)
    (hs : cs.toList = d11cells l) (hok : ∀ d ∈ l, d.Ok w) : D11s w (some ⟨g, 0, none⟩) n c l :=
  ⟨hl, hn, hc, hok, fun _ => ⟨g, 0, rfl, World.lt_of_heap hg, fun i d hd => by
    have key : ∀ j, j < 4 → w.cell? ⟨g, 0 + i * 4 + j, none⟩ = d.cellsL[j]? := fun j hj => by
      rw [blk_cell hg, ← d11cells_at hd hj, ← hs, Array.getElem?_toList]
      congr 1
      omega
    exact ⟨key 0 (by omega), key 1 (by omega), key 2 (by omega), key 3 (by omega)⟩⟩⟩

section
variable {ops : Array Oper} {Q : Exit → Act → World → Prop} {a : Act} {w0 w : World} {i k kA : Nat} {pos : String} {after : Array Edge}
theorem sk_op0 (h : ops[0]? = some { dst := some 87, op := Op.buildSlice 34 1 #[(0, Operand.const (Value.int IntKind.u8 97))], type := 34, pos := pos, after := after, guard := none }) (hz : w0.heap.size ≤ w.heap.size) :
    wpOp Try.prog ops Q 0 (fun a' w' => ∃ v, a' = a.put (some 87) v ∧ skS w0.heap.size i k kA 0 v w' ∧ Soft w0 w w') a w := by
  refine wpOp_run h rfl ?_
  refine wp_buildSlice _ _ _ _ rfl #[.int .u8 97] _ _ Try.underlying34 rfl rfl (by decide) (by decide) (by kernel_rfl) ?_
  have hb := heap_alloc_new w (.cells #[.int .u8 97] 5)
  exact ⟨_, rfl, ⟨⟨w.heap.size, [97], rfl, SlAt.blk hb rfl (by unfold maxLen; omega)⟩, ⟨w.heap.size, 1, _, _, hz, rfl, hb⟩⟩, Soft.of_kept (Kept.alloc [] w _) hz⟩
theorem sk_op1 (h : ops[1]? = some { dst := some 88, op := Op.convert 34 34 (Operand.tmp 87), type := 34, pos := pos, after := after, guard := none }) (hz : w0.heap.size ≤ w.heap.size) (h0 : skS w0.heap.size i k kA 0 (a.eval (.tmp 87)) w) :
    wpOp Try.prog ops Q 1 (fun a' w' => ∃ v, a' = a.put (some 88) v ∧ skS w0.heap.size i k kA 1 v w' ∧ Soft w0 w w') a w := by
  obtain ⟨⟨b, xs, e, hs⟩, ⟨b2, n2, C, fz, hb, e2, hc⟩⟩ := h0
  rw [e] at e2
  simp only [Value.slice.injEq, Option.some.injEq, Addr.mk.injEq, and_true] at e2
  obtain ⟨rfl, rfl, -⟩ := e2
  refine wpOp_run h rfl ?_
  have hx : (execOp a.eval { dst := some 88, op := Op.convert 34 34 (Operand.tmp 87), type := 34, pos := pos, after := after, guard := none }).run Try.prog w = .ok (.value (.slice (some ⟨b, 0, none⟩) 1 1)) (w.freeze ⟨b, C.size, none⟩ 1) := by
    simp only [execOp, e, Sem.run_bind, run_convert_bytes w b 1 1 C fz hc]
    rfl
  unfold Oper.wp
  rw [hx]
  have hf := freeze_soft (w0 := w0) (w := w) (k := C.size) hb
  exact ⟨_, rfl, ⟨b, xs, rfl, hs.soft hf⟩, hf⟩
theorem sk_op2 (h : ops[2]? = some { dst := some 89, op := Op.build 80 #[(2, Operand.tmp 88)], type := 80, pos := pos, after := after, guard := none }) (hz : w0.heap.size ≤ w.heap.size) (h0 : BS 1 (a.eval (.tmp 88)) w) :
    wpOp Try.prog ops Q 2 (fun a' w' => ∃ v, a' = a.put (some 89) v ∧ skS w0.heap.size i k kA 2 v w' ∧ Soft w0 w w') a w := by
  refine wpOp_run h rfl ?_
  obtain ⟨b, xs, e, hs⟩ := h0
  have hx : (execOp a.eval { dst := some 89, op := Op.build 80 #[(2, Operand.tmp 88)], type := 80, pos := pos, after := after, guard := none }).run Try.prog w = .ok (.value (.agg #[.int .i64 0, .int .i64 0, .slice (some ⟨b, 0, none⟩) 1 1, .slice none 0 0])) w := by
    simp only [execOp, List.map_toArray, List.map_cons, List.map_nil, e]
    kernel_rfl
  unfold Oper.wp
  rw [hx]
  exact ⟨_, rfl, ⟨_, rfl, b, xs, rfl, hs⟩, Soft.refl _ _⟩
theorem sk_op10 (h : ops[10]? = some { dst := some 97, op := Op.build 80 #[(2, Operand.tmp 96)], type := 80, pos := pos, after := after, guard := none }) (hz : w0.heap.size ≤ w.heap.size) (h0 : BS 130 (a.eval (.tmp 96)) w) :
    wpOp Try.prog ops Q 10 (fun a' w' => ∃ v, a' = a.put (some 97) v ∧ skS w0.heap.size i k kA 10 v w' ∧ Soft w0 w w') a w := by
  refine wpOp_run h rfl ?_
  obtain ⟨b, xs, e, hs⟩ := h0
  have hx : (execOp a.eval { dst := some 97, op := Op.build 80 #[(2, Operand.tmp 96)], type := 80, pos := pos, after := after, guard := none }).run Try.prog w = .ok (.value (.agg #[.int .i64 0, .int .i64 0, .slice (some ⟨b, 0, none⟩) 130 130, .slice none 0 0])) w := by
    simp only [execOp, List.map_toArray, List.map_cons, List.map_nil, e]
    kernel_rfl
  unfold Oper.wp
  rw [hx]
  exact ⟨_, rfl, ⟨_, rfl, b, xs, rfl, hs⟩, Soft.refl _ _⟩
theorem sk_op20 (h : ops[20]? = some { dst := some 107, op := Op.build 80 #[(2, Operand.tmp 106)], type := 80, pos := pos, after := after, guard := none }) (hz : w0.heap.size ≤ w.heap.size) (h0 : BS kA (a.eval (.tmp 106)) w) :
    wpOp Try.prog ops Q 20 (fun a' w' => ∃ v, a' = a.put (some 107) v ∧ skS w0.heap.size i k kA 20 v w' ∧ Soft w0 w w') a w := by
  refine wpOp_run h rfl ?_
  obtain ⟨b, xs, e, hs⟩ := h0
  have hx : (execOp a.eval { dst := some 107, op := Op.build 80 #[(2, Operand.tmp 106)], type := 80, pos := pos, after := after, guard := none }).run Try.prog w = .ok (.value (.agg #[.int .i64 0, .int .i64 0, .slice (some ⟨b, 0, none⟩) kA kA, .slice none 0 0])) w := by
    simp only [execOp, List.map_toArray, List.map_cons, List.map_nil, e]
    kernel_rfl
  unfold Oper.wp
  rw [hx]
  exact ⟨_, rfl, ⟨_, rfl, b, xs, rfl, hs⟩, Soft.refl _ _⟩
theorem sk_op27 (h : ops[27]? = some { dst := some 114, op := Op.build 80 #[(2, Operand.tmp 113)], type := 80, pos := pos, after := after, guard := none }) (hz : w0.heap.size ≤ w.heap.size) (h0 : BS 300 (a.eval (.tmp 113)) w) :
    wpOp Try.prog ops Q 27 (fun a' w' => ∃ v, a' = a.put (some 114) v ∧ skS w0.heap.size i k kA 27 v w' ∧ Soft w0 w w') a w := by
  refine wpOp_run h rfl ?_
  obtain ⟨b, xs, e, hs⟩ := h0
  have hx : (execOp a.eval { dst := some 114, op := Op.build 80 #[(2, Operand.tmp 113)], type := 80, pos := pos, after := after, guard := none }).run Try.prog w = .ok (.value (.agg #[.int .i64 0, .int .i64 0, .slice (some ⟨b, 0, none⟩) 300 300, .slice none 0 0])) w := by
    simp only [execOp, List.map_toArray, List.map_cons, List.map_nil, e]
    kernel_rfl
  unfold Oper.wp
  rw [hx]
  exact ⟨_, rfl, ⟨_, rfl, b, xs, rfl, hs⟩, Soft.refl _ _⟩
theorem sk_op16 (h : ops[16]? = some { dst := some 103, op := Op.build 80 #[(0, Operand.const (Value.int IntKind.i64 5)), (1, Operand.tmp 99), (3, Operand.tmp 102)], type := 80, pos := pos, after := after, guard := none }) (hz : w0.heap.size ≤ w.heap.size) (h0 : IS 3 (a.eval (.tmp 102)) w) (h1 : a.eval (.tmp 99) = .int .i64 i) :
    wpOp Try.prog ops Q 16 (fun a' w' => ∃ v, a' = a.put (some 103) v ∧ skS w0.heap.size i k kA 16 v w' ∧ Soft w0 w w') a w := by
  refine wpOp_run h rfl ?_
  obtain ⟨b, xs, e, hs⟩ := h0
  have hx : (execOp a.eval { dst := some 103, op := Op.build 80 #[(0, Operand.const (Value.int IntKind.i64 5)), (1, Operand.tmp 99), (3, Operand.tmp 102)], type := 80, pos := pos, after := after, guard := none }).run Try.prog w = .ok (.value (.agg #[.int .i64 5, .int .i64 i, .slice none 0 0, .slice (some ⟨b, 0, none⟩) 3 3])) w := by
    simp only [execOp, List.map_toArray, List.map_cons, List.map_nil, e, h1]
    kernel_rfl
  unfold Oper.wp
  rw [hx]
  exact ⟨_, rfl, ⟨_, rfl, b, xs, rfl, hs⟩, Soft.refl _ _⟩
theorem sk_op22 (h : ops[22]? = some { dst := some 109, op := Op.build 80 #[(0, Operand.const (Value.int IntKind.i64 4)), (3, Operand.tmp 108)], type := 80, pos := pos, after := after, guard := none }) (hz : w0.heap.size ≤ w.heap.size) (h0 : IS 3 (a.eval (.tmp 108)) w) :
    wpOp Try.prog ops Q 22 (fun a' w' => ∃ v, a' = a.put (some 109) v ∧ skS w0.heap.size i k kA 22 v w' ∧ Soft w0 w w') a w := by
  refine wpOp_run h rfl ?_
  obtain ⟨b, xs, e, hs⟩ := h0
  have hx : (execOp a.eval { dst := some 109, op := Op.build 80 #[(0, Operand.const (Value.int IntKind.i64 4)), (3, Operand.tmp 108)], type := 80, pos := pos, after := after, guard := none }).run Try.prog w = .ok (.value (.agg #[.int .i64 4, .int .i64 0, .slice none 0 0, .slice (some ⟨b, 0, none⟩) 3 3])) w := by
    simp only [execOp, List.map_toArray, List.map_cons, List.map_nil, e]
    kernel_rfl
  unfold Oper.wp
  rw [hx]
  exact ⟨_, rfl, ⟨_, rfl, b, xs, rfl, hs⟩, Soft.refl _ _⟩
theorem sk_op15 (h : ops[15]? = some { dst := some 102, op := Op.buildSlice 23 3 #[(0, Operand.tmp 100), (1, Operand.tmp 101), (2, Operand.const (Value.int IntKind.i64 1))], type := 23, pos := pos, after := after, guard := none }) (hz : w0.heap.size ≤ w.heap.size) (h0 : a.eval (.tmp 100) = .int .i64 k) (h1 : a.eval (.tmp 101) = .int .i64 i) (hk : k < 8) (hi : i < 8) :
    wpOp Try.prog ops Q 15 (fun a' w' => ∃ v, a' = a.put (some 102) v ∧ skS w0.heap.size i k kA 15 v w' ∧ Soft w0 w w') a w := by
  refine wpOp_run h rfl ?_
  refine wp_buildSlice _ _ _ _ rfl ([(k : Int), (i : Int), 1].map i64v).toArray _ _ Try.underlying23 rfl rfl (by decide) (by decide) (by simp only [List.map_toArray, List.map_cons, List.map_nil, h0, h1]; kernel_rfl) ?_
  have hb := heap_alloc_new w (.cells ([(k : Int), (i : Int), 1].map i64v).toArray 3)
  exact ⟨_, rfl, ⟨w.heap.size, [(k : Int), (i : Int), 1], rfl, SlAt.blk hb rfl (by unfold maxLen; omega), by
    intro x hx
    simp only [List.mem_cons, List.not_mem_nil, or_false] at hx
    unfold I64
    omega⟩, Soft.of_kept (Kept.alloc [] w _) hz⟩
theorem sk_op21 (h : ops[21]? = some { dst := some 108, op := Op.buildSlice 23 3 #[(0, Operand.const (Value.int IntKind.i64 1)), (1, Operand.const (Value.int IntKind.i64 0)), (2, Operand.const (Value.int IntKind.i64 1))], type := 23, pos := pos, after := after, guard := none }) (hz : w0.heap.size ≤ w.heap.size) :
    wpOp Try.prog ops Q 21 (fun a' w' => ∃ v, a' = a.put (some 108) v ∧ skS w0.heap.size i k kA 21 v w' ∧ Soft w0 w w') a w := by
  refine wpOp_run h rfl ?_
  refine wp_buildSlice _ _ _ _ rfl ([(1 : Int), 0, 1].map i64v).toArray _ _ Try.underlying23 rfl rfl (by decide) (by decide) (by kernel_rfl) ?_
  have hb := heap_alloc_new w (.cells ([(1 : Int), 0, 1].map i64v).toArray 3)
  exact ⟨_, rfl, ⟨w.heap.size, [(1 : Int), 0, 1], rfl, SlAt.blk hb rfl (by unfold maxLen; omega), by
    intro x hx
    simp only [List.mem_cons, List.not_mem_nil, or_false] at hx
    unfold I64
    omega⟩, Soft.of_kept (Kept.alloc [] w _) hz⟩
theorem sk_op9 (h : ops[9]? = some { dst := some 96, op := Op.makeSlice 34 (Operand.const (Value.int IntKind.i64 130)) (Operand.const (Value.int IntKind.i64 130)), type := 34, pos := pos, after := after, guard := none }) (hz : w0.heap.size ≤ w.heap.size) :
    wpOp Try.prog ops Q 9 (fun a' w' => ∃ v, a' = a.put (some 96) v ∧ skS w0.heap.size i k kA 9 v w' ∧ Soft w0 w w') a w := by
  refine wpOp_run h rfl ?_
  obtain ⟨j0, hj0, ju0, ju1, ju2⟩ := info_parts info_u8
  have hmk := run_make (P := Try.prog) w 34 5 j0 _ Try.underlying34 hj0 ju0 .i64 .i64 130 130 (by omega) (Int.le_refl _) (by rw [ju2]; omega) (by omega)
  simp only [ju1, Nat.mul_one, show (Value.int .u8 0).cells = #[.int .u8 0] from rfl] at hmk
  have hb := heap_alloc_new w (.cells (madeCells #[.int .u8 0] (Int.toNat 130)) 5)
  unfold Oper.wp
  have hex : (execOp a.eval { dst := some 96, op := Op.makeSlice 34 (Operand.const (Value.int IntKind.i64 130)) (Operand.const (Value.int IntKind.i64 130)), type := 34, pos := pos, after := after, guard := none }).run Try.prog w = .ok (.value (.slice (some ⟨w.heap.size, 0, none⟩) 130 130)) (w.alloc (.cells (madeCells #[.int .u8 0] 130) 5)) := by
    go_simp



  rw [hex]
  exact ⟨_, rfl, ⟨w.heap.size, List.replicate 130 0, rfl, made_sl w 130 (by unfold maxLen; omega)⟩, Soft.of_kept (Kept.alloc [] w _) hz⟩
theorem sk_op26 (h : ops[26]? = some { dst := some 113, op := Op.makeSlice 34 (Operand.const (Value.int IntKind.i64 300)) (Operand.const (Value.int IntKind.i64 300)), type := 34, pos := pos, after := after, guard := none }) (hz : w0.heap.size ≤ w.heap.size) :
    wpOp Try.prog ops Q 26 (fun a' w' => ∃ v, a' = a.put (some 113) v ∧ skS w0.heap.size i k kA 26 v w' ∧ Soft w0 w w') a w := by
  refine wpOp_run h rfl ?_
  obtain ⟨j0, hj0, ju0, ju1, ju2⟩ := info_parts info_u8
  have hmk := run_make (P := Try.prog) w 34 5 j0 _ Try.underlying34 hj0 ju0 .i64 .i64 300 300 (by omega) (Int.le_refl _) (by rw [ju2]; omega) (by omega)
  simp only [ju1, Nat.mul_one, show (Value.int .u8 0).cells = #[.int .u8 0] from rfl] at hmk
  have hb := heap_alloc_new w (.cells (madeCells #[.int .u8 0] (Int.toNat 300)) 5)
  unfold Oper.wp
  have hex : (execOp a.eval { dst := some 113, op := Op.makeSlice 34 (Operand.const (Value.int IntKind.i64 300)) (Operand.const (Value.int IntKind.i64 300)), type := 34, pos := pos, after := after, guard := none }).run Try.prog w = .ok (.value (.slice (some ⟨w.heap.size, 0, none⟩) 300 300)) (w.alloc (.cells (madeCells #[.int .u8 0] 300) 5)) := by
    go_simp



  rw [hex]
  exact ⟨_, rfl, ⟨w.heap.size, List.replicate 300 0, rfl, made_sl w 300 (by unfold maxLen; omega)⟩, Soft.of_kept (Kept.alloc [] w _) hz⟩
theorem sk_op19 (h : ops[19]? = some { dst := some 106, op := Op.makeSlice 34 (Operand.tmp 105) (Operand.tmp 105), type := 34, pos := pos, after := after, guard := none }) (hz : w0.heap.size ≤ w.heap.size) (h0 : a.eval (.tmp 105) = .int .i64 kA) (hk : kA ≤ 207) :
    wpOp Try.prog ops Q 19 (fun a' w' => ∃ v, a' = a.put (some 106) v ∧ skS w0.heap.size i k kA 19 v w' ∧ Soft w0 w w') a w := by
  refine wpOp_run h rfl ?_
  obtain ⟨j0, hj0, ju0, ju1, ju2⟩ := info_parts info_u8
  have hmk := run_make (P := Try.prog) w 34 5 j0 _ Try.underlying34 hj0 ju0 .i64 .i64 kA kA (by omega) (Int.le_refl _) (by rw [ju2]; omega) (by omega)
  simp only [ju1, Nat.mul_one, show (Value.int .u8 0).cells = #[.int .u8 0] from rfl] at hmk
  have hb := heap_alloc_new w (.cells (madeCells #[.int .u8 0] (Int.toNat kA)) 5)
  unfold Oper.wp
  have hex : (execOp a.eval { dst := some 106, op := Op.makeSlice 34 (Operand.tmp 105) (Operand.tmp 105), type := 34, pos := pos, after := after, guard := none }).run Try.prog w = .ok (.value (.slice (some ⟨w.heap.size, 0, none⟩) kA kA)) (w.alloc (.cells (madeCells #[.int .u8 0] kA) 5)) := by
    go_simp
    have h1 : a.tmps[105]?.getD undef = .int .i64 kA := by simpa [Act.eval] using h0
    rw [h1, hmk]
    rfl
  rw [hex]
  exact ⟨_, rfl, ⟨w.heap.size, List.replicate kA 0, rfl, made_sl w kA (by unfold maxLen; omega)⟩, Soft.of_kept (Kept.alloc [] w _) hz⟩
theorem sk_op34 (h : ops[34]? = some { dst := some 121, op := Op.buildSlice 81 14 #[(0, Operand.tmp 89), (1, Operand.tmp 94), (2, Operand.tmp 95), (3, Operand.tmp 97), (4, Operand.tmp 98), (5, Operand.tmp 103), (6, Operand.tmp 107), (7, Operand.tmp 109), (8, Operand.tmp 112), (9, Operand.tmp 114), (10, Operand.tmp 115), (11, Operand.tmp 116), (12, Operand.tmp 119), (13, Operand.tmp 120)], type := 81, pos := pos, after := after, guard := none }) (hz : w0.heap.size ≤ w.heap.size) {E : Int} {kB kC : Nat} (hE : I64 E) (hi : i < 8) (hkA : kA ≤ 207) (hkB : kB ≤ 40) (hkC : kC ≤ 2) (h89 : AgB 1 (a.eval (.tmp 89)) w) (e94 : a.eval (.tmp 94) = .agg #[.int .i64 2, .int .i64 (E), .slice none 0 0, .slice none 0 0]) (e95 : a.eval (.tmp 95) = .agg #[.int .i64 2, .int .i64 (8), .slice none 0 0, .slice none 0 0]) (h97 : AgB 130 (a.eval (.tmp 97)) w) (e98 : a.eval (.tmp 98) = .agg #[.int .i64 3, .int .i64 (0), .slice none 0 0, .slice none 0 0]) (h103 : AgI 5 i 3 (a.eval (.tmp 103)) w) (h107 : AgB kA (a.eval (.tmp 107)) w) (h109 : AgI 4 0 3 (a.eval (.tmp 109)) w) (e112 : a.eval (.tmp 112) = .agg #[.int .i64 6, .int .i64 (kC), .slice none 0 0, .slice none 0 0]) (h114 : AgB 300 (a.eval (.tmp 114)) w) (e115 : a.eval (.tmp 115) = .agg #[.int .i64 6, .int .i64 (-1), .slice none 0 0, .slice none 0 0]) (e116 : a.eval (.tmp 116) = .agg #[.int .i64 1, .int .i64 (0), .slice none 0 0, .slice none 0 0]) (e119 : a.eval (.tmp 119) = .agg #[.int .i64 7, .int .i64 (kB), .slice none 0 0, .slice none 0 0]) (e120 : a.eval (.tmp 120) = .agg #[.int .i64 1, .int .i64 (0), .slice none 0 0, .slice none 0 0]) :
    wpOp Try.prog ops Q 34 (fun a' w' => ∃ v, a' = a.put (some 121) v ∧ skS w0.heap.size i k kA 34 v w' ∧ Soft w0 w w') a w := by
  obtain ⟨_, e89, b89, x89, rfl, s89⟩ := h89
  obtain ⟨_, e97, b97, x97, rfl, s97⟩ := h97
  obtain ⟨_, e103, b103, x103, rfl, s103, t103⟩ := h103
  obtain ⟨_, e107, b107, x107, rfl, s107⟩ := h107
  obtain ⟨_, e109, b109, x109, rfl, s109, t109⟩ := h109
  obtain ⟨_, e114, b114, x114, rfl, s114⟩ := h114
  refine wpOp_run h rfl ?_
  refine wp_buildSlice _ _ _ _ rfl #[.int .i64 0, .int .i64 0, .slice (some ⟨b89, 0, none⟩) 1 1, .slice none 0 0, .int .i64 2, .int .i64 (E), .slice none 0 0, .slice none 0 0, .int .i64 2, .int .i64 (8), .slice none 0 0, .slice none 0 0, .int .i64 0, .int .i64 0, .slice (some ⟨b97, 0, none⟩) 130 130, .slice none 0 0, .int .i64 3, .int .i64 (0), .slice none 0 0, .slice none 0 0, .int .i64 5, .int .i64 i, .slice none 0 0, .slice (some ⟨b103, 0, none⟩) 3 3, .int .i64 0, .int .i64 0, .slice (some ⟨b107, 0, none⟩) kA kA, .slice none 0 0, .int .i64 4, .int .i64 0, .slice none 0 0, .slice (some ⟨b109, 0, none⟩) 3 3, .int .i64 6, .int .i64 (kC), .slice none 0 0, .slice none 0 0, .int .i64 0, .int .i64 0, .slice (some ⟨b114, 0, none⟩) 300 300, .slice none 0 0, .int .i64 6, .int .i64 (-1), .slice none 0 0, .slice none 0 0, .int .i64 1, .int .i64 (0), .slice none 0 0, .slice none 0 0, .int .i64 7, .int .i64 (kB), .slice none 0 0, .slice none 0 0, .int .i64 1, .int .i64 (0), .slice none 0 0, .slice none 0 0] _ _ Try.underlying81 rfl rfl (by decide) (by decide) (by simp only [List.map_toArray, List.map_cons, List.map_nil, e89, e94, e95, e97, e98, e103, e107, e109, e112, e114, e115, e116, e119, e120]; kernel_rfl) ?_
  have hb := heap_alloc_new w (.cells #[.int .i64 0, .int .i64 0, .slice (some ⟨b89, 0, none⟩) 1 1, .slice none 0 0, .int .i64 2, .int .i64 (E), .slice none 0 0, .slice none 0 0, .int .i64 2, .int .i64 (8), .slice none 0 0, .slice none 0 0, .int .i64 0, .int .i64 0, .slice (some ⟨b97, 0, none⟩) 130 130, .slice none 0 0, .int .i64 3, .int .i64 (0), .slice none 0 0, .slice none 0 0, .int .i64 5, .int .i64 i, .slice none 0 0, .slice (some ⟨b103, 0, none⟩) 3 3, .int .i64 0, .int .i64 0, .slice (some ⟨b107, 0, none⟩) kA kA, .slice none 0 0, .int .i64 4, .int .i64 0, .slice none 0 0, .slice (some ⟨b109, 0, none⟩) 3 3, .int .i64 6, .int .i64 (kC), .slice none 0 0, .slice none 0 0, .int .i64 0, .int .i64 0, .slice (some ⟨b114, 0, none⟩) 300 300, .slice none 0 0, .int .i64 6, .int .i64 (-1), .slice none 0 0, .slice none 0 0, .int .i64 1, .int .i64 (0), .slice none 0 0, .slice none 0 0, .int .i64 7, .int .i64 (kB), .slice none 0 0, .slice none 0 0, .int .i64 1, .int .i64 (0), .slice none 0 0, .slice none 0 0] 80)
  have hk : Kept [] w (w.alloc (.cells #[.int .i64 0, .int .i64 0, .slice (some ⟨b89, 0, none⟩) 1 1, .slice none 0 0, .int .i64 2, .int .i64 (E), .slice none 0 0, .slice none 0 0, .int .i64 2, .int .i64 (8), .slice none 0 0, .slice none 0 0, .int .i64 0, .int .i64 0, .slice (some ⟨b97, 0, none⟩) 130 130, .slice none 0 0, .int .i64 3, .int .i64 (0), .slice none 0 0, .slice none 0 0, .int .i64 5, .int .i64 i, .slice none 0 0, .slice (some ⟨b103, 0, none⟩) 3 3, .int .i64 0, .int .i64 0, .slice (some ⟨b107, 0, none⟩) kA kA, .slice none 0 0, .int .i64 4, .int .i64 0, .slice none 0 0, .slice (some ⟨b109, 0, none⟩) 3 3, .int .i64 6, .int .i64 (kC), .slice none 0 0, .slice none 0 0, .int .i64 0, .int .i64 0, .slice (some ⟨b114, 0, none⟩) 300 300, .slice none 0 0, .int .i64 6, .int .i64 (-1), .slice none 0 0, .slice none 0 0, .int .i64 1, .int .i64 (0), .slice none 0 0, .slice none 0 0, .int .i64 7, .int .i64 (kB), .slice none 0 0, .slice none 0 0, .int .i64 1, .int .i64 (0), .slice none 0 0, .slice none 0 0] 80)) := Kept.alloc [] w _
  obtain ⟨w', hw'⟩ : ∃ w', w.alloc (.cells #[.int .i64 0, .int .i64 0, .slice (some ⟨b89, 0, none⟩) 1 1, .slice none 0 0, .int .i64 2, .int .i64 (E), .slice none 0 0, .slice none 0 0, .int .i64 2, .int .i64 (8), .slice none 0 0, .slice none 0 0, .int .i64 0, .int .i64 0, .slice (some ⟨b97, 0, none⟩) 130 130, .slice none 0 0, .int .i64 3, .int .i64 (0), .slice none 0 0, .slice none 0 0, .int .i64 5, .int .i64 i, .slice none 0 0, .slice (some ⟨b103, 0, none⟩) 3 3, .int .i64 0, .int .i64 0, .slice (some ⟨b107, 0, none⟩) kA kA, .slice none 0 0, .int .i64 4, .int .i64 0, .slice none 0 0, .slice (some ⟨b109, 0, none⟩) 3 3, .int .i64 6, .int .i64 (kC), .slice none 0 0, .slice none 0 0, .int .i64 0, .int .i64 0, .slice (some ⟨b114, 0, none⟩) 300 300, .slice none 0 0, .int .i64 6, .int .i64 (-1), .slice none 0 0, .slice none 0 0, .int .i64 1, .int .i64 (0), .slice none 0 0, .slice none 0 0, .int .i64 7, .int .i64 (kB), .slice none 0 0, .slice none 0 0, .int .i64 1, .int .i64 (0), .slice none 0 0, .slice none 0 0] 80) = w' := ⟨_, rfl⟩
  rw [hw'] at hb hk ⊢
  have ok : ∀ d ∈ ([⟨0, 0, ⟨some ⟨b89, 0, none⟩, 1, 1, x89⟩, none, 0, 0, []⟩, ⟨2, E, ⟨none, 0, 0, []⟩, none, 0, 0, []⟩, ⟨2, 8, ⟨none, 0, 0, []⟩, none, 0, 0, []⟩, ⟨0, 0, ⟨some ⟨b97, 0, none⟩, 130, 130, x97⟩, none, 0, 0, []⟩, ⟨3, 0, ⟨none, 0, 0, []⟩, none, 0, 0, []⟩, ⟨5, i, ⟨none, 0, 0, []⟩, some ⟨b103, 0, none⟩, 3, 3, x103⟩, ⟨0, 0, ⟨some ⟨b107, 0, none⟩, kA, kA, x107⟩, none, 0, 0, []⟩, ⟨4, 0, ⟨none, 0, 0, []⟩, some ⟨b109, 0, none⟩, 3, 3, x109⟩, ⟨6, kC, ⟨none, 0, 0, []⟩, none, 0, 0, []⟩, ⟨0, 0, ⟨some ⟨b114, 0, none⟩, 300, 300, x114⟩, none, 0, 0, []⟩, ⟨6, -1, ⟨none, 0, 0, []⟩, none, 0, 0, []⟩, ⟨1, 0, ⟨none, 0, 0, []⟩, none, 0, 0, []⟩, ⟨7, kB, ⟨none, 0, 0, []⟩, none, 0, 0, []⟩, ⟨1, 0, ⟨none, 0, 0, []⟩, none, 0, 0, []⟩] : List D11), d.Ok w' ∧ d.data.n ≤ 900 := by
    simp only [List.forall_mem_cons]
    refine ⟨⟨?_, by (try dsimp only); omega⟩, ⟨?_, by (try dsimp only); omega⟩, ⟨?_, by (try dsimp only); omega⟩, ⟨?_, by (try dsimp only); omega⟩, ⟨?_, by (try dsimp only); omega⟩, ⟨?_, by (try dsimp only); omega⟩, ⟨?_, by (try dsimp only); omega⟩, ⟨?_, by (try dsimp only); omega⟩, ⟨?_, by (try dsimp only); omega⟩, ⟨?_, by (try dsimp only); omega⟩, ⟨?_, by (try dsimp only); omega⟩, ⟨?_, by (try dsimp only); omega⟩, ⟨?_, by (try dsimp only); omega⟩, ⟨?_, by (try dsimp only); omega⟩, fun d hd => by cases hd⟩
    · exact ⟨by unfold I64; (try dsimp only); omega, by unfold I64; (try dsimp only); omega, ⟨s89.kept hk (by simp), fun e => by cases e⟩, SlAt.nil w', by (try dsimp only); omega, fun n hn => by cases hn⟩
    · exact ⟨by unfold I64; (try dsimp only); omega, by first | exact hE | (unfold I64; (try dsimp only); omega), ⟨SlAt.nil w', fun _ => rfl⟩, SlAt.nil w', by (try dsimp only); omega, fun n hn => by cases hn⟩
    · exact ⟨by unfold I64; (try dsimp only); omega, by first | exact hE | (unfold I64; (try dsimp only); omega), ⟨SlAt.nil w', fun _ => rfl⟩, SlAt.nil w', by (try dsimp only); omega, fun n hn => by cases hn⟩
    · exact ⟨by unfold I64; (try dsimp only); omega, by unfold I64; (try dsimp only); omega, ⟨s97.kept hk (by simp), fun e => by cases e⟩, SlAt.nil w', by (try dsimp only); omega, fun n hn => by cases hn⟩
    · exact ⟨by unfold I64; (try dsimp only); omega, by first | exact hE | (unfold I64; (try dsimp only); omega), ⟨SlAt.nil w', fun _ => rfl⟩, SlAt.nil w', by (try dsimp only); omega, fun n hn => by cases hn⟩
    · exact ⟨by unfold I64; (try dsimp only); omega, by unfold I64; (try dsimp only); omega, ⟨SlAt.nil w', fun _ => rfl⟩, s103.kept hk (by simp), by (try dsimp only); omega, t103⟩
    · exact ⟨by unfold I64; (try dsimp only); omega, by unfold I64; (try dsimp only); omega, ⟨s107.kept hk (by simp), fun e => by cases e⟩, SlAt.nil w', by (try dsimp only); omega, fun n hn => by cases hn⟩
    · exact ⟨by unfold I64; (try dsimp only); omega, by unfold I64; (try dsimp only); omega, ⟨SlAt.nil w', fun _ => rfl⟩, s109.kept hk (by simp), by (try dsimp only); omega, t109⟩
    · exact ⟨by unfold I64; (try dsimp only); omega, by first | exact hE | (unfold I64; (try dsimp only); omega), ⟨SlAt.nil w', fun _ => rfl⟩, SlAt.nil w', by (try dsimp only); omega, fun n hn => by cases hn⟩
    · exact ⟨by unfold I64; (try dsimp only); omega, by unfold I64; (try dsimp only); omega, ⟨s114.kept hk (by simp), fun e => by cases e⟩, SlAt.nil w', by (try dsimp only); omega, fun n hn => by cases hn⟩
    · exact ⟨by unfold I64; (try dsimp only); omega, by first | exact hE | (unfold I64; (try dsimp only); omega), ⟨SlAt.nil w', fun _ => rfl⟩, SlAt.nil w', by (try dsimp only); omega, fun n hn => by cases hn⟩
    · exact ⟨by unfold I64; (try dsimp only); omega, by first | exact hE | (unfold I64; (try dsimp only); omega), ⟨SlAt.nil w', fun _ => rfl⟩, SlAt.nil w', by (try dsimp only); omega, fun n hn => by cases hn⟩
    · exact ⟨by unfold I64; (try dsimp only); omega, by first | exact hE | (unfold I64; (try dsimp only); omega), ⟨SlAt.nil w', fun _ => rfl⟩, SlAt.nil w', by (try dsimp only); omega, fun n hn => by cases hn⟩
    · exact ⟨by unfold I64; (try dsimp only); omega, by first | exact hE | (unfold I64; (try dsimp only); omega), ⟨SlAt.nil w', fun _ => rfl⟩, SlAt.nil w', by (try dsimp only); omega, fun n hn => by cases hn⟩
  exact ⟨_, rfl, ⟨w.heap.size, [⟨0, 0, ⟨some ⟨b89, 0, none⟩, 1, 1, x89⟩, none, 0, 0, []⟩, ⟨2, E, ⟨none, 0, 0, []⟩, none, 0, 0, []⟩, ⟨2, 8, ⟨none, 0, 0, []⟩, none, 0, 0, []⟩, ⟨0, 0, ⟨some ⟨b97, 0, none⟩, 130, 130, x97⟩, none, 0, 0, []⟩, ⟨3, 0, ⟨none, 0, 0, []⟩, none, 0, 0, []⟩, ⟨5, i, ⟨none, 0, 0, []⟩, some ⟨b103, 0, none⟩, 3, 3, x103⟩, ⟨0, 0, ⟨some ⟨b107, 0, none⟩, kA, kA, x107⟩, none, 0, 0, []⟩, ⟨4, 0, ⟨none, 0, 0, []⟩, some ⟨b109, 0, none⟩, 3, 3, x109⟩, ⟨6, kC, ⟨none, 0, 0, []⟩, none, 0, 0, []⟩, ⟨0, 0, ⟨some ⟨b114, 0, none⟩, 300, 300, x114⟩, none, 0, 0, []⟩, ⟨6, -1, ⟨none, 0, 0, []⟩, none, 0, 0, []⟩, ⟨1, 0, ⟨none, 0, 0, []⟩, none, 0, 0, []⟩, ⟨7, kB, ⟨none, 0, 0, []⟩, none, 0, 0, []⟩, ⟨1, 0, ⟨none, 0, 0, []⟩, none, 0, 0, []⟩], rfl, D11s.of_block hb rfl (by omega) (by unfold maxLen; omega) (by rfl) (fun d hd => (ok d hd).1), fun d hd => (ok d hd).2⟩, Soft.of_kept hk hz⟩
theorem sk_op35 (h : ops[35]? = some { dst := some 17, op := Op.assign (Operand.tmp 121), type := 81, pos := pos, after := after, guard := none }) (hz : w0.heap.size ≤ w.heap.size) (h0 : DS 14 (a.eval (.tmp 121)) w) :
    wpOp Try.prog ops Q 35 (fun a' w' => ∃ v, a' = a.put (some 17) v ∧ skS w0.heap.size i k kA 35 v w' ∧ Soft w0 w w') a w := by
  refine wpOp_run h rfl ?_
  go_simp
  refine ⟨_, rfl, ?_, Soft.refl _ _⟩
  have e : a.eval (.tmp 121) = a.tmps[121]?.getD undef := by simp [Act.eval]
  rw [← e]
  exact h0
end

theorem OffD.puts' {a : Act} {D : List Nat} {a0 : Act} (h : OffD D a0 a) (hb : (D.all (fun s => decide (s < a0.tmps.size))) = true) : a = D.foldl (fun b s => b.put (some s) (a.eval (.tmp s))) a0 :=
  h.puts (fun s hs => by simpa using List.all_eq_true.1 hb s hs)
end Go.Proofs.Ytbnflbkaogpnbaa

