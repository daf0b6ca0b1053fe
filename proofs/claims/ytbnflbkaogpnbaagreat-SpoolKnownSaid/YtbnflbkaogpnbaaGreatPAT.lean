/- Texts in one: J8 J9 KP. -/
import Derived.Test.YtbnflbkaogpnbaaGreatPAS
import Derived.OwnWalk
namespace Go.Proofs.YtbnflbkaogpnbaaGreat
set_option linter.unusedVariables false
open Go.RowKit
theorem four_or (y0 y1 y2 y3 : UInt8) : bits .or .i64 (bits .or .i64 (bits .or .i64 (wrap64 (wrap64 (y0.toNat : Int) * 16777216)) (wrap64 (wrap64 (y1.toNat : Int) * 65536))) (wrap64 (wrap64 (y2.toNat : Int) * 256))) (wrap64 (y3.toNat : Int)) = ((y0.toNat * 16777216 + y1.toNat * 65536 + y2.toNat * 256 + y3.toNat : Nat) : Int) := by
 have h0 := y0.toNat_lt; have h1 := y1.toNat_lt; have h2 := y2.toNat_lt; have h3 := y3.toNat_lt
 have e0 : wrap64 (wrap64 (y0.toNat : Int) * 16777216) = ((y0.toNat * 16777216 : Nat) : Int) := by simp only [wrap64]; omega
 have e1 : wrap64 (wrap64 (y1.toNat : Int) * 65536) = ((y1.toNat * 65536 : Nat) : Int) := by simp only [wrap64]; omega
 have e2 : wrap64 (wrap64 (y2.toNat : Int) * 256) = ((y2.toNat * 256 : Nat) : Int) := by simp only [wrap64]; omega
 have e3 : wrap64 (y3.toNat : Int) = ((y3.toNat : Nat) : Int) := by simp only [wrap64]; omega
 rw [e0, e1, e2, e3, i64_or_nat _ _ (by omega) (by omega)]
 rw [nat_join 24 (y0.toNat * 16777216) (y1.toNat * 65536) (by omega) (by omega), i64_or_nat _ _ (by omega) (by omega), nat_join 16 _ (y2.toNat * 256) (by omega) (by omega), i64_or_nat _ _ (by omega) (by omega), nat_join 8 _ _ (by omega) (by omega)]
set_option maxHeartbeats 1000000 in
theorem parse1_any (w : World) (A : Option Addr) (n c : Nat) (b : List UInt8) (hb : SlAt w A n c (u8vs b)) (hn : 4 ≤ n) : Calls Tryz.prog 52 #[.slice A n c] w fun e w' => e = .returned (.int .i64 (four b)) ∧ ∃ q, w' = w.drewN q := by
 have hbl : b.length = n := by simpa [u8vs] using hb.len
 obtain ⟨g, o, rfl, _, hcell⟩ := hb.cells (by omega)
 obtain ⟨y0, y1, y2, y3, tl, rfl⟩ : ∃ y0 y1 y2 y3 tl, b = y0 :: y1 :: y2 :: y3 :: tl := by
  match b, (show 4 ≤ b.length by omega) with
  | y0 :: y1 :: y2 :: y3 :: tl, _ => exact ⟨y0, y1, y2, y3, tl, rfl⟩
 have c0 : w.cell? ⟨g, o, none⟩ = some (.int .u8 y0.toNat) := hcell 0 (by omega)
 have c1 : w.cell? ⟨g, o + 1, none⟩ = some (.int .u8 y1.toNat) := hcell 1 (by omega)
 have c2 : w.cell? ⟨g, o + 2, none⟩ = some (.int .u8 y2.toNat) := hcell 2 (by omega)
 have c3 : w.cell? ⟨g, o + 3, none⟩ = some (.int .u8 y3.toNat) := hcell 3 (by omega)
 have hle := hb.le; have hmx := hb.max
 unfold maxLen at hmx
 have hf : four (y0 :: y1 :: y2 :: y3 :: tl) = y0.toNat * 16777216 + y1.toNat * 65536 + y2.toNat * 256 + y3.toNat := by simp [four]
 rw [hf, ← four_or]
 clear hf hbl hcell hb
 go_enter Tryz.func52, Tryz.ntmps52
 go_wp2_with fail
 go_quiet (fail)
 go_wp2_with fail
 go_ret
 exact ⟨rfl, nq, rfl⟩
theorem parse1_kept (w : World) (A : Option Addr) (n c : Nat) (b : List UInt8) (F : Nat) (hF : four b = F) (hb : SlAt w A n c (u8vs b)) (hn : 4 ≤ n) : Calls Tryz.prog 52 #[.slice A n c] w fun e w' => e = .returned (.int .i64 F) ∧ Kept [] w w' :=
 (parse1_any w A n c b hb hn).mono fun e w' h => by
  obtain ⟨rfl, q, rfl⟩ := h
  exact ⟨by rw [hF], Kept.drewN [] w q⟩
theorem results_man {P : Program} {fn : Func} {p q : Tmp} {ty : TypeId} (h : fn.results = #[.cell p ty, .tmp q]) (tmps : Array Value) (w : World) (b : Nat) (v1 v2 v3 v4 : Value)
  (e1 : tmps.getD p undef = .pointer (some ⟨b, 0, none⟩)) (e2 : tmps.getD q undef = v4) (c1 : w.cell? ⟨b, 0, none⟩ = some v1) (c2 : w.cell? ⟨b, 1, none⟩ = some v2) (c3 : w.cell? ⟨b, 2, none⟩ = some v3)
  (g1 : ∀ w, (isAgg ty).run P w = .ok true w) (g2 : ∀ w, (sizeOf ty).run P w = .ok 3 w) : (results fn tmps).run P w = .ok (.tuple #[.agg #[v1, v2, v3], v4]) w := by
 have e1' : tmps[p]?.getD undef = .pointer (some ⟨b, 0, none⟩) := by simpa using e1
 have e2' : tmps[q]?.getD undef = v4 := by simpa using e2
 have c1' : w.cell? ((⟨b, 0, none⟩ : Addr).add 0) = some v1 := by rw [add_block]; exact c1
 have c2' : w.cell? ((⟨b, 0, none⟩ : Addr).add 1) = some v2 := by rw [add_block]; exact c2
 have c3' : w.cell? ((⟨b, 0, none⟩ : Addr).add 2) = some v3 := by rw [add_block]; exact c3
 simp [results, h, e1', e2', asAddr, loadVar, Sem.run_bind, g1, g2, Result.andThen, c1', c2', c3', loadCells, loadCellsFrom]
theorem agg_man (w : World) : (isAgg 55).run Tryz.prog w = .ok true w := by simp [isAgg, Sem.run_bind, run_underlying Tryz.underlying55, Result.andThen]
theorem size_man (w : World) : (sizeOf 55).run Tryz.prog w = .ok 3 w := by
 have h : (Tryz.prog.info? 55).map (·.size) = some 3 := by kernel_rfl
 cases hq : Tryz.prog.info? 55 with
 | none => rw [hq] at h; cases h
 | some q =>
  rw [hq] at h
  simp only [Option.map_some, Option.some.injEq] at h
  simp [sizeOf, typeInfo, hq, h, Sem.run_bind, Result.andThen]
/-- A manifest in a box. -/
def ManBox (w : World) (B : Nat) (v1 v2 v3 : Value) : Prop := w.heap[B]? = some (.cells #[v1, v2, v3] 55 (0, 0))
theorem ManBox.cells {w : World} {B : Nat} {v1 v2 v3 : Value} (h : ManBox w B v1 v2 v3) : w.cell? ⟨B, 0, none⟩ = some v1 ∧ w.cell? ⟨B, 1, none⟩ = some v2 ∧ w.cell? ⟨B, 2, none⟩ = some v3 ∧ w.frozen? ⟨B, 0, none⟩ = false ∧ w.frozen? ⟨B, 1, none⟩ = false ∧ w.frozen? ⟨B, 2, none⟩ = false :=
 ⟨by rw [blk_cell h]; rfl, by rw [blk_cell h]; rfl, by rw [blk_cell h]; rfl, blk_frozen h 0, blk_frozen h 1, blk_frozen h 2⟩
theorem ManBox.set {w : World} {B : Nat} {v1 v2 v3 : Value} (h : ManBox w B v1 v2 v3) (u1 u2 u3 : Value) : ManBox (((w.setCell ⟨B, 0, none⟩ u1).setCell ⟨B, 1, none⟩ u2).setCell ⟨B, 2, none⟩ u3) B u1 u2 u3 := heap_set (heap_set (heap_set h 0 u1) 1 u2) 2 u3
theorem manBox_kept (w : World) (B : Nat) (u1 u2 u3 : Value) : Kept [B] w (((w.setCell ⟨B, 0, none⟩ u1).setCell ⟨B, 1, none⟩ u2).setCell ⟨B, 2, none⟩ u3) :=
 ((Kept.setCell (by simp) _).trans (Kept.setCell (by simp) _)).trans (Kept.setCell (by simp) _)
/-- What parse does. -/
def ParPost (w : World) (b : List UInt8) (e : Ending) (w' : World) : Prop :=
 Kept [] w w' ∧ match parseMan b with
  | none => e = .returned (.tuple #[.agg #[.int .i64 0, .int .i64 0, .int .i64 0], .bool false])
  | some (h, f, m) => e = .returned (.tuple #[.agg #[.int .i64 h, .int .i64 f, .int .i64 m], .bool true])
set_option maxHeartbeats 2000000 in
set_option maxRecDepth 100000 in
theorem parse_any (w : World) (A : Option Addr) (n c : Nat) (b : List UInt8) (hb : SlAt w A n c (u8vs b)) (hA : A = none → c = 0) : Calls Tryz.prog 31 #[.slice A n c] w (ParPost w b) := by
 have hbl : b.length = n := by simpa [u8vs] using hb.len
 have hle := hb.le; have hmx := hb.max
 unfold maxLen at hmx
 have hbx : ManBox (w.alloc (.cells #[.int .i64 0, .int .i64 0, .int .i64 0] 55)) w.heap.size (.int .i64 0) (.int .i64 0) (.int .i64 0) := heap_alloc_new _ _
 have hkW := Kept.alloc [] w (.cells #[.int .i64 0, .int .i64 0, .int .i64 0] 55)
 by_cases h9 : n = 9
 ·subst h9
  obtain ⟨g, o, rfl, hgl, hcell⟩ := hb.cells (by omega)
  obtain ⟨y0, hy0⟩ : ∃ y0, b[0]? = some y0 := ⟨_, List.getElem?_eq_getElem (by omega)⟩
  have c0 : w.cell? ⟨g, o, none⟩ = some (.int .u8 y0.toNat) := by
   have := hcell 0 (by omega)
   simp only [u8vs, List.getElem?_map, hy0] at this
   exact this
  have c0W := hkW.cell (p := ⟨g, o, none⟩) hgl (by simp) |>.trans c0
  by_cases h1 : 1 < y0.toNat
  ·have hp : parseMan b = none := by unfold parseMan; rw [if_pos (.inr (by rw [hy0]; exact h1))]
   have i1 : (1 : Int) < (y0.toNat : Int) := by omega
   have HP := Lib.hid hp
   clear hp h1 hcell hy0 c0
   go_enter Tryz.func31, Tryz.ntmps31
   go_wp2_with fail
   obtain ⟨d0, d1, d2, -⟩ := hbx.cells
   refine bodyPost_ret (v := .tuple #[.agg #[.int .i64 0, .int .i64 0, .int .i64 0], .bool false]) (results_man rfl _ _ w.heap.size _ _ _ _ rfl rfl d0 d1 d2 agg_man size_man) rfl ⟨hkW, ?_⟩
   rw [HP.out]
  ·have i1 : ¬ (1 : Int) < (y0.toNat : Int) := by omega
   have hp : parseMan b = some (y0.toNat, four (b.drop 1), four (b.drop 5)) := by
    unfold parseMan; rw [if_neg (by rw [hbl, hy0]; simp; omega), hy0]; rfl
   have HP := Lib.hid hp; have HY := Lib.hid hy0; have HL := Lib.hid hbl
   clear hp h1 hcell hy0 c0 hbl
   go_enter Tryz.func31, Tryz.ntmps31
   go_wp2_with fail
   obtain ⟨W, hW⟩ : ∃ W, w.alloc (.cells #[.int .i64 0, .int .i64 0, .int .i64 0] 55) = W := ⟨_, rfl⟩
   rw [hW]
   have hkD : Kept [] w W.drew := by rw [← hW]; exact hkW.trans (Kept.drew [] _)
   have hbxD : ManBox W.drew w.heap.size (.int .i64 0) (.int .i64 0) (.int .i64 0) := by rw [← hW]; exact hbx
   have c0D : W.drew.cell? ⟨g, o, none⟩ = some (.int .u8 y0.toNat) := by rw [← hW]; exact c0W
   have hbD := hb.kept hkD (by simp)
   have hwr : IntKind.i64.wrap (y0.toNat : Int) = (y0.toNat : Int) := by have := y0.toNat_lt; rw [IntKind.wrap_i64]; omega
   have s1 : SlAt W.drew (if c = 1 then some ⟨g, o, none⟩ else some ⟨g, o + 1, none⟩) 8 (c - 1) (u8vs (b.drop 1)) := by
    have h := hbD.sliced (i := 1) (j := 9) (by omega) (by omega)
    rw [List.take_of_length_le (by rw [HL.out]; exact Nat.le_refl _)] at h
    exact h
   have s5 : SlAt W.drew (if c = 5 then some ⟨g, o, none⟩ else some ⟨g, o + 5, none⟩) 4 (c - 5) (u8vs (b.drop 5)) := by
    have h := hbD.sliced (i := 5) (j := 9) (by omega) (by omega)
    rw [List.take_of_length_le (by rw [HL.out]; exact Nat.le_refl _)] at h
    exact h
   obtain ⟨F1, hF1⟩ : ∃ F1, four (b.drop 1) = F1 := ⟨_, rfl⟩
   obtain ⟨F5, hF5⟩ : ∃ F5, four (b.drop 5) = F5 := ⟨_, rfl⟩
   have hpp := HP.out
   rw [hF1, hF5] at hpp
   have c1 := fun W A (h : SlAt W A 8 (c - 1) (u8vs (b.drop 1))) => parse1_kept W A 8 (c - 1) (b.drop 1) F1 hF1 h (by omega)
   have c5 := fun W A (h : SlAt W A 4 (c - 5) (u8vs (b.drop 5))) => parse1_kept W A 4 (c - 5) (b.drop 5) F5 hF5 h (by omega)
   have HPP := Lib.hid hpp
   clear hF1 hF5 hpp HP
   have hgW : g < W.drew.heap.size := Nat.lt_of_lt_of_le hgl hkD.size
   have hgw : g ≠ w.heap.size := by omega
   clear hW hkW hbx c0W
   refine wp_region_calm (S := (fun W => W.cell? ⟨g, o, none⟩ = some (.int .u8 y0.toNat))) (by kernel_rfl) c0D (fun hHeld => ?_)
   refine tk (i := 0) (v := ?_) (hy := Or.inl ⟨by rfl, ?_⟩) (hS := hHeld) (h := ?_)
   rotate_left
   ·intro w hSw
    try dsimp only at hSw
    go_simp
    all_goals with_reducible rfl
   try simp only [Act.put, List.setIfInBounds_toArray, List.set_cons_zero, List.set_cons_succ]
   refine tk (i := 1) (v := ?_) (hy := Or.inl ⟨by rfl, ?_⟩) (hS := hHeld) (h := ?_)
   rotate_left
   ·intro w hSw
    try dsimp only at hSw
    go_simp
    all_goals with_reducible rfl
   try simp only [Act.put, List.setIfInBounds_toArray, List.set_cons_zero, List.set_cons_succ]
   refine tk (i := 2) (v := ?_) (hy := Or.inl ⟨by rfl, ?_⟩) (hS := hHeld) (h := ?_)
   rotate_left
   ·intro w hSw
    try dsimp only at hSw
    have s0 := hSw
    go_simp
    all_goals with_reducible rfl
   try simp only [Act.put, List.setIfInBounds_toArray, List.set_cons_zero, List.set_cons_succ]
   refine tk (i := 3) (v := ?_) (hy := Or.inl ⟨by rfl, ?_⟩) (hS := hHeld) (h := ?_)
   rotate_left
   ·intro w hSw
    try dsimp only at hSw
    go_simp
    all_goals with_reducible rfl
   try simp only [Act.put, List.setIfInBounds_toArray, List.set_cons_zero, List.set_cons_succ]
   try simp only [hwr]
   refine tk (i := 4) (v := ?_) (hy := Or.inl ⟨by rfl, ?_⟩) (hS := hHeld) (h := ?_)
   rotate_left
   ·intro w hSw
    try dsimp only at hSw
    go_simp
    all_goals with_reducible rfl
   try simp only [Act.put, List.setIfInBounds_toArray, List.set_cons_zero, List.set_cons_succ]
   refine tk (i := 5) (v := ?_) (hy := Or.inl ⟨by rfl, ?_⟩) (hS := hHeld) (h := ?_)
   rotate_left
   ·intro w hSw
    try dsimp only at hSw
    go_simp
    all_goals with_reducible rfl
   try simp only [Act.put, List.setIfInBounds_toArray, List.set_cons_zero, List.set_cons_succ]
   refine tk (i := 6) (v := ?_) (hy := Or.inl ⟨by rfl, ?_⟩) (hS := hHeld) (h := ?_)
   rotate_left
   ·intro w hSw
    try dsimp only at hSw
    go_simp
    all_goals with_reducible rfl
   try simp only [Act.put, List.setIfInBounds_toArray, List.set_cons_zero, List.set_cons_succ]
   refine tk (i := 8) (v := ?_) (hy := Or.inl ⟨by rfl, ?_⟩) (hS := hHeld) (h := ?_)
   rotate_left
   ·intro w hSw
    try dsimp only at hSw
    go_simp
    all_goals with_reducible rfl
   try simp only [Act.put, List.setIfInBounds_toArray, List.set_cons_zero, List.set_cons_succ]
   refine tk (i := 9) (v := ?_) (hy := Or.inl ⟨by rfl, ?_⟩) (hS := hHeld) (h := ?_)
   rotate_left
   ·intro w hSw
    try dsimp only at hSw
    go_simp
    all_goals with_reducible rfl
   try simp only [Act.put, List.setIfInBounds_toArray, List.set_cons_zero, List.set_cons_succ]
   refine tk (i := 10) (v := ?_) (hy := Or.inl ⟨by rfl, ?_⟩) (hS := hHeld) (h := ?_)
   rotate_left
   ·intro w hSw
    try dsimp only at hSw
    go_simp
    all_goals with_reducible rfl
   try simp only [Act.put, List.setIfInBounds_toArray, List.set_cons_zero, List.set_cons_succ]
   generalize (if c = 1 then (some ⟨g, o, none⟩ : Option Addr) else some ⟨g, o + 1, none⟩) = A1 at s1 ⊢
   generalize (if c = 5 then (some ⟨g, o, none⟩ : Option Addr) else some ⟨g, o + 5, none⟩) = A5 at s5 ⊢
   refine wpAnyH_ready (rs := [7]) (by kernel_rfl) (by simp) ?_
   refine AllReadyH.cons (by simp only [List.getElem?_toArray, List.getElem?_cons_succ, List.getElem?_cons_zero]; rfl) (fun K hK => ?_) AllReadyH.nil
   go_simp
   refine (c1 _ _ s1).mono ?_
   rintro e w4 ⟨rfl, hk4⟩
   have s5b := s5.kept hk4 (by simp)
   have c0b := (hk4.cell hgW (by simp)).trans c0D
   have hbx4 : ManBox w4 w.heap.size (.int .i64 0) (.int .i64 0) (.int .i64 0) := (hk4.block _ (World.lt_of_heap hbxD) (by simp)).trans hbxD
   have hgW4 := Nat.lt_of_lt_of_le hgW hk4.size
   go_wp2_with fail
   refine hK.out _ _ ?_ (fun hHeld2 => ?_)
   ·exact c0b
   clear hK K hHeld
   have hHeld := hHeld2
   clear hHeld2
   try simp only [Act.put, List.setIfInBounds_toArray, List.set_cons_zero, List.set_cons_succ]
   refine wpAnyH_ready (rs := [11]) (by kernel_rfl) (by simp) ?_
   refine AllReadyH.cons (by simp only [List.getElem?_toArray, List.getElem?_cons_succ, List.getElem?_cons_zero]; rfl) (fun K hK => ?_) AllReadyH.nil
   go_simp
   refine (c5 _ _ s5b).mono ?_
   rintro e w6 ⟨rfl, hk6⟩
   have c0c := (hk6.cell hgW4 (by simp)).trans c0b
   have hbx6 : ManBox w6 w.heap.size (.int .i64 0) (.int .i64 0) (.int .i64 0) := (hk6.block _ (World.lt_of_heap hbx4) (by simp)).trans hbx4
   have hgW6 := Nat.lt_of_lt_of_le hgW4 hk6.size
   obtain ⟨m0, m1, m2, f0, f1, f2⟩ := hbx6.cells
   go_wp2_with fail
   refine hK.out _ _ ?_ (fun hHeld2 => ?_)
   ·exact c0c
   clear hK K hHeld
   have hHeld := hHeld2
   clear hHeld2
   try simp only [Act.put, List.setIfInBounds_toArray, List.set_cons_zero, List.set_cons_succ]
   refine tk (i := 12) (v := ?_) (hy := Or.inl ⟨by rfl, ?_⟩) (hS := hHeld) (h := ?_)
   rotate_left
   ·intro w hSw
    try dsimp only at hSw
    go_simp
    all_goals with_reducible rfl
   try simp only [Act.put, List.setIfInBounds_toArray, List.set_cons_zero, List.set_cons_succ]
   refine wpAnyH_ready (rs := [13]) (by kernel_rfl) (by simp) ?_
   refine AllReadyH.cons (by simp only [List.getElem?_toArray, List.getElem?_cons_succ, List.getElem?_cons_zero]; rfl) (fun K hK => ?_) AllReadyH.nil
   go_simp
   go_wp2_with fail
   go_wp2_with fail
   refine hK.out _ _ ?_ (fun hHeld2 => ?_)
   ·exact ((manBox_kept w6 w.heap.size _ _ _).cell (p := ⟨g, o, none⟩) hgW6 (by simp; exact hgw)).trans c0c
   clear hK K hHeld
   have hHeld := hHeld2
   clear hHeld2
   try simp only [Act.put, List.setIfInBounds_toArray, List.set_cons_zero, List.set_cons_succ]
   refine tk (i := 14) (v := ?_) (hy := Or.inl ⟨by rfl, ?_⟩) (hS := hHeld) (h := ?_)
   rotate_left
   ·intro w hSw
    try dsimp only at hSw
    go_simp
    all_goals with_reducible rfl
   try simp only [Act.put, List.setIfInBounds_toArray, List.set_cons_zero, List.set_cons_succ]
   refine wpAnyH_calm (by kernel_rfl) ?_ _
   clear hHeld c1 c5
   go_wp2_with fail
   obtain ⟨d0, d1, d2, -⟩ := (hbx6.set (.int .i64 y0.toNat) (.int .i64 F1) (.int .i64 F5)).cells
   refine bodyPost_ret (v := .tuple #[.agg #[.int .i64 y0.toNat, .int .i64 F1, .int .i64 F5], .bool true]) (results_man rfl _ _ w.heap.size _ _ _ _ rfl rfl d0 d1 d2 agg_man size_man) rfl ⟨((hkD.trans hk4).trans hk6).trans' (manBox_kept _ _ _ _ _) (by simp), ?_⟩
   rw [HPP.out]
 ·have hp : parseMan b = none := by unfold parseMan; rw [if_pos (.inl (by omega))]
  have i1 : ((n : Int) != 9) = true := by simp; omega
  have HP := Lib.hid hp
  clear hp h9 hbl
  go_enter Tryz.func31, Tryz.ntmps31
  go_wp2_with fail
  obtain ⟨d0, d1, d2, -⟩ := hbx.cells
  refine bodyPost_ret (v := .tuple #[.agg #[.int .i64 0, .int .i64 0, .int .i64 0], .bool false]) (results_man rfl _ _ w.heap.size _ _ _ _ rfl rfl d0 d1 d2 agg_man size_man) rfl ⟨hkW, ?_⟩
  rw [HP.out]
end Go.Proofs.YtbnflbkaogpnbaaGreat
namespace Go.Proofs.YtbnflbkaogpnbaaGreat
set_option linter.unusedVariables false
open Go.RowKit
theorem OpenPost.tuple {w w' : World} {a : Nat} {d : Dev} {first many fin : Int} {e : Ending} (h : OpenPost w a d first many fin e w') : ∃ v1 v2 v3, e = .returned (.tuple #[v1, v2, v3]) := by
 rcases h.2 with ⟨_, rfl⟩ | ⟨_, _, rfl⟩ | ⟨_, _, _, _, _, _, _, rfl, _⟩
 ·exact ⟨_, _, _, rfl⟩
 ·exact ⟨_, _, _, rfl⟩
 ·exact ⟨_, _, _, rfl⟩
theorem OpenPost.drew {w w' : World} {a : Nat} {d : Dev} {first many fin : Int} {e : Ending} (h : OpenPost w.drew a d first many fin e w') : OpenPost w a d first many fin e w' :=
 ⟨(Kept.drew [] w).trans h.1, h.2⟩
set_option maxHeartbeats 2000000 in
set_option maxRecDepth 100000 in
theorem spoolopen_any {w : World} {a y zs : Nat} {zt : Value} {fp : List Nat} {d : Dev} {s : Sp} (hD : Dv w a fp d) (hy : w.heap[y]? = some (.cells #[.pointer (some ⟨a, 0, none⟩), .pointer (some ⟨zs, 0, none⟩), zt, .int .i64 s.first, .int .i64 s.each, .int .i64 s.half, .int .i64 s.many, .bool s.added, .bool s.broken] 33 (0, 0)))
  (half fin : Nat) (h1 : half ≤ 1) (h2 : s.first < 1000000) (h3 : s.each < 1000000) (h4 : fin < 4294967296) :
  Calls Tryz.prog 22 #[.pointer (some ⟨y, 0, none⟩), .int .i64 half, .int .i64 fin] w (OpenPost w a d (s.first + half * s.each : Nat) s.each fin) := by
 have hyl := World.lt_of_heap hy
 have hyd : w.drew.heap[y]? = some (.cells #[.pointer (some ⟨a, 0, none⟩), .pointer (some ⟨zs, 0, none⟩), zt, .int .i64 s.first, .int .i64 s.each, .int .i64 s.half, .int .i64 s.many, .bool s.added, .bool s.broken] 33 (0, 0)) := hy
 have S0 : w.drew.cell? ⟨y, 0, none⟩ = some (.pointer (some ⟨a, 0, none⟩)) ∧ w.drew.cell? ⟨y, 3, none⟩ = some (.int .i64 s.first) ∧ w.drew.cell? ⟨y, 4, none⟩ = some (.int .i64 s.each) := ⟨by rw [blk_cell hyd]; rfl, by rw [blk_cell hyd]; rfl, by rw [blk_cell hyd]; rfl⟩
 have hDd := hD.new_kept (Kept.drew [] w)
 obtain ⟨M, hM⟩ : ∃ M, half * s.each = M := ⟨_, rfl⟩
 have hMl : M < 1000000 := by
  rw [← hM]
  have : half = 0 ∨ half = 1 := by omega
  rcases this with rfl | rfl <;> omega
 have eM : ((half : Int) * (s.each : Int)) = (M : Int) := by rw [← hM]; push_cast; rfl
 have hw1 : IntKind.i64.wrap ((half : Int) * (s.each : Int)) = (M : Int) := by rw [eM, IntKind.wrap_i64]; omega
 have hw2 : IntKind.i64.wrap ((s.first : Int) + (M : Int)) = ((s.first + M : Nat) : Int) := by rw [IntKind.wrap_i64]; push_cast; omega
 rw [hM]
 obtain ⟨N, hN⟩ : ∃ N, s.first + M = N := ⟨_, rfl⟩
 rw [hN] at hw2 ⊢
 have co := open_any hDd (N : Int) (s.each : Int) (fin : Int) (by unfold I64; omega) (by unfold I64; omega) (by unfold I64; omega)
 clear hM hN eM hy hyd hD hDd
 go_enter Tryz.func22, Tryz.ntmps22
 go_wp2_with fail
 refine wp_region_calm (S := (fun W => W.cell? ⟨y, 0, none⟩ = some (.pointer (some ⟨a, 0, none⟩)) ∧ W.cell? ⟨y, 3, none⟩ = some (.int .i64 s.first) ∧ W.cell? ⟨y, 4, none⟩ = some (.int .i64 s.each))) (by kernel_rfl) S0 (fun hHeld => ?_)
 refine tk (i := 0) (v := ?_) (hy := Or.inl ⟨by rfl, ?_⟩) (hS := hHeld) (h := ?_)
 rotate_left
 ·intro w hSw
  try dsimp only at hSw
  go_simp
  all_goals with_reducible rfl
 try simp only [Act.put, List.setIfInBounds_toArray, List.set_cons_zero, List.set_cons_succ]
 refine tk (i := 1) (v := ?_) (hy := Or.inl ⟨by rfl, ?_⟩) (hS := hHeld) (h := ?_)
 rotate_left
 ·intro w hSw
  try dsimp only at hSw
  go_simp
  all_goals with_reducible rfl
 try simp only [Act.put, List.setIfInBounds_toArray, List.set_cons_zero, List.set_cons_succ]
 refine tk (i := 2) (v := ?_) (hy := Or.inl ⟨by rfl, ?_⟩) (hS := hHeld) (h := ?_)
 rotate_left
 ·intro w hSw
  try dsimp only at hSw
  go_simp
  all_goals with_reducible rfl
 try simp only [Act.put, List.setIfInBounds_toArray, List.set_cons_zero, List.set_cons_succ]
 refine tk (i := 3) (v := ?_) (hy := Or.inl ⟨by rfl, ?_⟩) (hS := hHeld) (h := ?_)
 rotate_left
 ·intro w hSw
  try dsimp only at hSw
  obtain ⟨s0, s1, s2⟩ := hSw
  go_simp
  all_goals with_reducible rfl
 try simp only [Act.put, List.setIfInBounds_toArray, List.set_cons_zero, List.set_cons_succ]
 refine tk (i := 4) (v := ?_) (hy := Or.inl ⟨by rfl, ?_⟩) (hS := hHeld) (h := ?_)
 rotate_left
 ·intro w hSw
  try dsimp only at hSw
  go_simp
  all_goals with_reducible rfl
 try simp only [Act.put, List.setIfInBounds_toArray, List.set_cons_zero, List.set_cons_succ]
 refine tk (i := 5) (v := ?_) (hy := Or.inl ⟨by rfl, ?_⟩) (hS := hHeld) (h := ?_)
 rotate_left
 ·intro w hSw
  try dsimp only at hSw
  go_simp
  all_goals with_reducible rfl
 try simp only [Act.put, List.setIfInBounds_toArray, List.set_cons_zero, List.set_cons_succ]
 refine tk (i := 6) (v := ?_) (hy := Or.inl ⟨by rfl, ?_⟩) (hS := hHeld) (h := ?_)
 rotate_left
 ·intro w hSw
  try dsimp only at hSw
  go_simp
  all_goals with_reducible rfl
 try simp only [Act.put, List.setIfInBounds_toArray, List.set_cons_zero, List.set_cons_succ]
 refine tk (i := 7) (v := ?_) (hy := Or.inl ⟨by rfl, ?_⟩) (hS := hHeld) (h := ?_)
 rotate_left
 ·intro w hSw
  try dsimp only at hSw
  obtain ⟨s0, s1, s2⟩ := hSw
  go_simp
  all_goals with_reducible rfl
 try simp only [Act.put, List.setIfInBounds_toArray, List.set_cons_zero, List.set_cons_succ]
 refine tk (i := 8) (v := ?_) (hy := Or.inl ⟨by rfl, ?_⟩) (hS := hHeld) (h := ?_)
 rotate_left
 ·intro w hSw
  try dsimp only at hSw
  go_simp
  all_goals with_reducible rfl
 try simp only [Act.put, List.setIfInBounds_toArray, List.set_cons_zero, List.set_cons_succ]
 refine tk (i := 9) (v := ?_) (hy := Or.inl ⟨by rfl, ?_⟩) (hS := hHeld) (h := ?_)
 rotate_left
 ·intro w hSw
  try dsimp only at hSw
  go_simp
  all_goals with_reducible rfl
 try simp only [Act.put, List.setIfInBounds_toArray, List.set_cons_zero, List.set_cons_succ]
 refine tk (i := 10) (v := ?_) (hy := Or.inl ⟨by rfl, ?_⟩) (hS := hHeld) (h := ?_)
 rotate_left
 ·intro w hSw
  try dsimp only at hSw
  go_simp
  all_goals with_reducible rfl
 try simp only [Act.put, List.setIfInBounds_toArray, List.set_cons_zero, List.set_cons_succ]
 refine tk (i := 11) (v := ?_) (hy := Or.inl ⟨by rfl, ?_⟩) (hS := hHeld) (h := ?_)
 rotate_left
 ·intro w hSw
  try dsimp only at hSw
  go_simp
  all_goals with_reducible rfl
 try simp only [Act.put, List.setIfInBounds_toArray, List.set_cons_zero, List.set_cons_succ]
 refine tk (i := 12) (v := ?_) (hy := Or.inl ⟨by rfl, ?_⟩) (hS := hHeld) (h := ?_)
 rotate_left
 ·intro w hSw
  try dsimp only at hSw
  obtain ⟨s0, s1, s2⟩ := hSw
  go_simp
  all_goals with_reducible rfl
 try simp only [Act.put, List.setIfInBounds_toArray, List.set_cons_zero, List.set_cons_succ]
 refine tk (i := 13) (v := ?_) (hy := Or.inl ⟨by rfl, ?_⟩) (hS := hHeld) (h := ?_)
 rotate_left
 ·intro w hSw
  try dsimp only at hSw
  go_simp
  all_goals with_reducible rfl
 try simp only [Act.put, List.setIfInBounds_toArray, List.set_cons_zero, List.set_cons_succ]
 try simp only [hw1]
 refine tk (i := 14) (v := ?_) (hy := Or.inl ⟨by rfl, ?_⟩) (hS := hHeld) (h := ?_)
 rotate_left
 ·intro w hSw
  try dsimp only at hSw
  go_simp
  all_goals with_reducible rfl
 try simp only [Act.put, List.setIfInBounds_toArray, List.set_cons_zero, List.set_cons_succ]
 try simp only [hw2]
 refine tk (i := 15) (v := ?_) (hy := Or.inl ⟨by rfl, ?_⟩) (hS := hHeld) (h := ?_)
 rotate_left
 ·intro w hSw
  try dsimp only at hSw
  go_simp
  all_goals with_reducible rfl
 try simp only [Act.put, List.setIfInBounds_toArray, List.set_cons_zero, List.set_cons_succ]
 refine tk (i := 16) (v := ?_) (hy := Or.inl ⟨by rfl, ?_⟩) (hS := hHeld) (h := ?_)
 rotate_left
 ·intro w hSw
  try dsimp only at hSw
  go_simp
  all_goals with_reducible rfl
 try simp only [Act.put, List.setIfInBounds_toArray, List.set_cons_zero, List.set_cons_succ]
 refine tk (i := 17) (v := ?_) (hy := Or.inl ⟨by rfl, ?_⟩) (hS := hHeld) (h := ?_)
 rotate_left
 ·intro w hSw
  try dsimp only at hSw
  go_simp
  all_goals with_reducible rfl
 try simp only [Act.put, List.setIfInBounds_toArray, List.set_cons_zero, List.set_cons_succ]
 refine tk (i := 18) (v := ?_) (hy := Or.inl ⟨by rfl, ?_⟩) (hS := hHeld) (h := ?_)
 rotate_left
 ·intro w hSw
  try dsimp only at hSw
  obtain ⟨s0, s1, s2⟩ := hSw
  go_simp
  all_goals with_reducible rfl
 try simp only [Act.put, List.setIfInBounds_toArray, List.set_cons_zero, List.set_cons_succ]
 refine tk (i := 19) (v := ?_) (hy := Or.inl ⟨by rfl, ?_⟩) (hS := hHeld) (h := ?_)
 rotate_left
 ·intro w hSw
  try dsimp only at hSw
  go_simp
  all_goals with_reducible rfl
 try simp only [Act.put, List.setIfInBounds_toArray, List.set_cons_zero, List.set_cons_succ]
 have H1 := Lib.hid hw1; have H2 := Lib.hid hw2
 clear hw1 hw2
 refine wpAnyH_ready (rs := [20]) (by kernel_rfl) (by simp) ?_
 refine AllReadyH.cons (by simp only [List.getElem?_toArray, List.getElem?_cons_succ, List.getElem?_cons_zero]; rfl) (fun K hK => ?_) AllReadyH.nil
 go_simp
 refine co.mono ?_
 rintro e w2 h2
 obtain ⟨v1, v2, v3, rfl⟩ := h2.tuple
 have S2 : w2.cell? ⟨y, 0, none⟩ = some (.pointer (some ⟨a, 0, none⟩)) ∧ w2.cell? ⟨y, 3, none⟩ = some (.int .i64 s.first) ∧ w2.cell? ⟨y, 4, none⟩ = some (.int .i64 s.each) := ⟨(h2.1.cell (p := ⟨y, 0, none⟩) hyl (by simp)).trans S0.1, (h2.1.cell (p := ⟨y, 3, none⟩) hyl (by simp)).trans S0.2.1, (h2.1.cell (p := ⟨y, 4, none⟩) hyl (by simp)).trans S0.2.2⟩
 go_wp2_with fail
 refine hK.out _ _ ?_ (fun hHeld2 => ?_)
 ·exact S2
 clear hK K hHeld
 have hHeld := hHeld2
 clear hHeld2
 try simp only [Act.put, List.setIfInBounds_toArray, List.set_cons_zero, List.set_cons_succ]
 refine tk (i := 21) (v := ?_) (hy := Or.inl ⟨by rfl, ?_⟩) (hS := hHeld) (h := ?_)
 rotate_left
 ·intro w hSw
  try dsimp only at hSw
  go_simp
  all_goals with_reducible rfl
 try simp only [Act.put, List.setIfInBounds_toArray, List.set_cons_zero, List.set_cons_succ]
 refine tk (i := 22) (v := ?_) (hy := Or.inl ⟨by rfl, ?_⟩) (hS := hHeld) (h := ?_)
 rotate_left
 ·intro w hSw
  try dsimp only at hSw
  go_simp
  all_goals with_reducible rfl
 try simp only [Act.put, List.setIfInBounds_toArray, List.set_cons_zero, List.set_cons_succ]
 refine tk (i := 23) (v := ?_) (hy := Or.inl ⟨by rfl, ?_⟩) (hS := hHeld) (h := ?_)
 rotate_left
 ·intro w hSw
  try dsimp only at hSw
  go_simp
  all_goals with_reducible rfl
 try simp only [Act.put, List.setIfInBounds_toArray, List.set_cons_zero, List.set_cons_succ]
 refine tk (i := 24) (v := ?_) (hy := Or.inl ⟨by rfl, ?_⟩) (hS := hHeld) (h := ?_)
 rotate_left
 ·intro w hSw
  try dsimp only at hSw
  go_simp
  all_goals with_reducible rfl
 try simp only [Act.put, List.setIfInBounds_toArray, List.set_cons_zero, List.set_cons_succ]
 refine tk (i := 25) (v := ?_) (hy := Or.inl ⟨by rfl, ?_⟩) (hS := hHeld) (h := ?_)
 rotate_left
 ·intro w hSw
  try dsimp only at hSw
  go_simp
  all_goals with_reducible rfl
 try simp only [Act.put, List.setIfInBounds_toArray, List.set_cons_zero, List.set_cons_succ]
 refine tk (i := 26) (v := ?_) (hy := Or.inl ⟨by rfl, ?_⟩) (hS := hHeld) (h := ?_)
 rotate_left
 ·intro w hSw
  try dsimp only at hSw
  go_simp
  all_goals with_reducible rfl
 try simp only [Act.put, List.setIfInBounds_toArray, List.set_cons_zero, List.set_cons_succ]
 refine wpAnyH_calm (by kernel_rfl) ?_ _
 clear hHeld co
 go_wp2_with fail
 go_ret3
 exact h2.drew
end Go.Proofs.YtbnflbkaogpnbaaGreat
namespace Go.Proofs.YtbnflbkaogpnbaaGreat
set_option linter.unusedVariables false
open Go.RowKit
/-- What the manifest of slots tells. -/
def manOf (s : Sl) : Option (Nat × Nat × Nat) := if s.turn = 0 then some (0, 0, 0) else parseMan s.text
/-- How many sectors a half has. -/
def eachOf (sectors : Int) : Nat := ((sectors - 2) / 2).toNat
/-- Why no log can be opened there, whatever lies there. -/
def logBad (d : Dev) (first sectors : Int) : Int :=
 if d.at_ 0 ≠ 0 then d.at_ 0 else if first < 0 ∨ (d.secs.length : Int) < first ∨ sectors < 4 ∨ (d.secs.length : Int) - first < sectors then 9 else 0
/-- The bytes of a half, up to an end. -/
def halfB (d : Dev) (f m half fin : Nat) : List UInt8 := (d.bytesAt (f + 2 + half * m)).take fin
/-- A log as it is opened. -/
def Sp.from_ (d : Dev) (f m half fin many : Nat) (sl : Sl) : Sp :=
 ⟨f + 2, m, half, many, false, false, sl, ⟨f + 2 + half * m, m, fin, (halfB d f m half fin).drop (fin - fin % 128)⟩⟩
/-- There is a log s, of records l. -/
def LogIs (d : Dev) (f m : Nat) (s : Sp) (l : List (List UInt8)) : Prop :=
 ∃ x y sl half fin many, d.secs[f]? = some x ∧ d.secs[f + 1]? = some y ∧ Sl.of f x y = some sl ∧ manOf sl = some (half, fin, many) ∧ fin ≤ 128 * m ∧ Small l ∧ halfB d f m half fin = recs l ∧ l.length = many ∧ s = Sp.from_ d f m half fin many sl
/-- There is none. -/
def LogNot (d : Dev) (f m : Nat) : Prop :=
 ∃ x y, d.secs[f]? = some x ∧ d.secs[f + 1]? = some y ∧ (Sl.of f x y = none ∨ ∃ sl, Sl.of f x y = some sl ∧ (manOf sl = none ∨ ∃ half fin many, manOf sl = some (half, fin, many) ∧
  (128 * m < fin ∨ (fin ≤ 128 * m ∧ (NoRecs (halfB d f m half fin) ∨ ∃ l, Small l ∧ halfB d f m half fin = recs l ∧ l.length ≠ many)))))
theorem LogIs.same {d : Dev} {f m : Nat} {s s' : Sp} {l l' : List (List UInt8)} (h : LogIs d f m s l) (h' : LogIs d f m s' l') : s = s' ∧ l = l' := by
 obtain ⟨x, y, sl, half, fin, many, a1, a2, a3, a4, a5, a6, a7, a8, rfl⟩ := h
 obtain ⟨x', y', sl', half', fin', many', b1, b2, b3, b4, b5, b6, b7, b8, rfl⟩ := h'
 rw [a1] at b1
 rw [a2] at b2
 cases b1
 cases b2
 rw [a3] at b3
 cases b3
 rw [a4] at b4
 cases b4
 exact ⟨rfl, recs_inj a6 b6 (a7.symm.trans b7)⟩
theorem LogIs.not {d : Dev} {f m : Nat} {s : Sp} {l : List (List UInt8)} (h : LogIs d f m s l) : ¬ LogNot d f m := by
 obtain ⟨x, y, sl, half, fin, many, a1, a2, a3, a4, a5, a6, a7, a8, rfl⟩ := h
 rintro ⟨x', y', b1, b2, b3⟩
 rw [a1] at b1
 rw [a2] at b2
 cases b1
 cases b2
 rw [a3] at b3
 rcases b3 with b3 | ⟨sl', b3, b4⟩
 ·cases b3
 ·cases b3
  rw [a4] at b4
  rcases b4 with b4 | ⟨half', fin', many', b4, b5⟩
  ·cases b4
  ·cases b4
   rcases b5 with b5 | ⟨_, b5 | ⟨l', c1, c2, c3⟩⟩
   ·omega
   ·exact b5 l a6 a7
   ·exact c3 (by rw [← recs_inj a6 c1 (a7.symm.trans c2)]; exact a8)
theorem manOf_half {s : Sl} {half fin many : Nat} (h : manOf s = some (half, fin, many)) : half ≤ 1 ∧ fin < 4294967296 ∧ many < 4294967296 := by
 have f4 : ∀ b : List UInt8, four b < 4294967296 := fun b => by
  unfold four
  have h0 := (b[0]?.getD 0).toNat_lt; have h1 := (b[1]?.getD 0).toNat_lt; have h2 := (b[2]?.getD 0).toNat_lt; have h3 := (b[3]?.getD 0).toNat_lt
  omega
 unfold manOf at h
 split at h
 ·cases h
  omega
 ·unfold parseMan at h
  split at h
  ·cases h
  ·cases h
   rename_i hn
   exact ⟨by omega, f4 _, f4 _⟩
/-- What an Open of a log does, on the program's side. -/
def Op13 (w : World) (a : Nat) (fp : List Nat) (d : Dev) (first sectors : Int) (e : Ending) (w' : World) : Prop :=
 Kept [] w w' ∧ ((logBad d first sectors ≠ 0 ∧ e = .returned (.tuple #[.pointer none, .slice none 0 0, .int .i64 (logBad d first sectors)])) ∨
  (logBad d first sectors = 0 ∧ LogNot d first.toNat (eachOf sectors) ∧ e = .returned (.tuple #[.pointer none, .slice none 0 0, .int .i64 110])) ∨
  (logBad d first sectors = 0 ∧ ∃ s l y zs zt slp stp A n c ps, LogIs d first.toNat (eachOf sectors) s l ∧ e = .returned (.tuple #[.pointer (some ⟨y, 0, none⟩), .slice A n c, .int .i64 0]) ∧ SpP w' y zs zt a fp slp stp s d ∧ BytessAt w' A n c ps ∧ texts ps = l ∧
   (∀ j, j = y ∨ j ∈ slp ∨ j ∈ stp → w.heap.size ≤ j) ∧ (∀ p, A = some p → w.heap.size ≤ p.block ∧ p.block ≠ y ∧ p.block ∉ slp ∧ p.block ∉ stp) ∧ ∀ q ∈ ps, ∀ p, q.A = some p → w.heap.size ≤ p.block ∧ p.block ≠ y ∧ p.block ∉ slp ∧ p.block ∉ stp))
end Go.Proofs.YtbnflbkaogpnbaaGreat
