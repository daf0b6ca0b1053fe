/- Texts in one: KC KD. -/
import Derived.Test.YtbnflbkaogpnbaaGreatPAT
import Derived.Test.YtbnflbkaogpnbaaGreatPAY
import Derived.Test.YtbnflbkaogpnbaaGreatPAX
namespace Go.Proofs.YtbnflbkaogpnbaaGreat
set_option linter.unusedVariables false
open Go.RowKit
set_option maxHeartbeats 1000000 in
theorem ref13four_any (w : World) (A : Option Addr) (n c : Nat) (b : List UInt8) (hb : SlAt w A n c (u8vs b)) (hn : 4 ≤ n) : Calls Tryz.prog 91 #[.slice A n c] w fun e w' => e = .returned (.int .i64 (four b)) ∧ Kept [] w w' := by
 have hbl : b.length = n := by simpa [u8vs] using hb.len
 obtain ⟨g, o, rfl, _, hcell⟩ := hb.cells (by omega)
 obtain ⟨y0, y1, y2, y3, tl, rfl⟩ : ∃ y0 y1 y2 y3 tl, b = y0 :: y1 :: y2 :: y3 :: tl := by
  match b, (show 4 ≤ b.length by omega) with
  | y0 :: y1 :: y2 :: y3 :: tl, _ => exact ⟨y0, y1, y2, y3, tl, rfl⟩
 have c0 : w.cell? ⟨g, o, none⟩ = some (.int .u8 y0.toNat) := hcell 0 (by omega)
 have c1 : w.cell? ⟨g, o + 1, none⟩ = some (.int .u8 y1.toNat) := hcell 1 (by omega)
 have c2 : w.cell? ⟨g, o + 2, none⟩ = some (.int .u8 y2.toNat) := hcell 2 (by omega)
 have c3 : w.cell? ⟨g, o + 3, none⟩ = some (.int .u8 y3.toNat) := hcell 3 (by omega)
 have hle := hb.le; have hmx := hb.max
 unfold maxLen at hmx
 have hf : four (y0 :: y1 :: y2 :: y3 :: tl) = y0.toNat * 16777216 + y1.toNat * 65536 + y2.toNat * 256 + y3.toNat := by simp [four]
 rw [hf, ← four_or]
 clear hf hbl hcell hb
 go_enter Tryz.func91, Tryz.ntmps91
 go_wp2_with fail
 go_quiet (fail)
 go_wp2_with fail
 go_ret
 exact ⟨rfl, Kept.drewN [] w nq⟩
theorem ref13place_any (w : World) (f m half : Nat) (h1 : half ≤ 1) (h2 : f < 1000000) (h3 : m < 1000000) : Calls Tryz.prog 93 #[.int .i64 f, .int .i64 m, .int .i64 half] w fun e w' => e = .returned (.int .i64 (f + 2 + half * m : Nat)) ∧ w = w' := by
 have hh : half = 0 ∨ half = 1 := by omega
 rcases hh with rfl | rfl
 ·have e1 : IntKind.i64.wrap ((f : Int) + 2) = (f : Int) + 2 := by rw [IntKind.wrap_i64]; omega
  have e2 : ((f + 2 + 0 * m : Nat) : Int) = (f : Int) + 2 := by omega
  rw [e2]
  go_enter Tryz.func93, Tryz.ntmps93
  go_wp2_with fail
  go_ret
  exact ⟨rfl, rfl⟩
 ·have e1 : IntKind.i64.wrap ((f : Int) + 2) = (f : Int) + 2 := by rw [IntKind.wrap_i64]; omega
  have e3 : IntKind.i64.wrap (m : Int) = (m : Int) := by rw [IntKind.wrap_i64]; omega
  have e4 : IntKind.i64.wrap ((f : Int) + 2 + (m : Int)) = (f : Int) + 2 + (m : Int) := by rw [IntKind.wrap_i64]; omega
  have e2 : ((f + 2 + 1 * m : Nat) : Int) = (f : Int) + 2 + (m : Int) := by omega
  rw [e2]
  go_enter Tryz.func93, Tryz.ntmps93
  go_wp2_with fail
  go_ret
  exact ⟨rfl, rfl⟩
theorem manB_cells {half fin many : Nat} (h1 : half ≤ 1) (h2 : fin < 4294967296) (h3 : many < 4294967296) : #[Value.int .u8 half, .int .u8 ((fin : Int) / 16777216), .int .u8 ((fin : Int) / 65536 % 256), .int .u8 ((fin : Int) / 256 % 256), .int .u8 ((fin : Int) % 256), .int .u8 ((many : Int) / 16777216), .int .u8 ((many : Int) / 65536 % 256), .int .u8 ((many : Int) / 256 % 256), .int .u8 ((many : Int) % 256)] = (u8vs (manB half fin many)).toArray := by
 have a1 : (fin : Int) / 16777216 = ((fin / 16777216 % 256 : Nat) : Int) := by omega
 have a2 : (fin : Int) / 65536 % 256 = ((fin / 65536 % 256 : Nat) : Int) := by omega
 have a3 : (fin : Int) / 256 % 256 = ((fin / 256 % 256 : Nat) : Int) := by omega
 have a4 : (fin : Int) % 256 = ((fin % 256 : Nat) : Int) := by omega
 have b1 : (many : Int) / 16777216 = ((many / 16777216 % 256 : Nat) : Int) := by omega
 have b2 : (many : Int) / 65536 % 256 = ((many / 65536 % 256 : Nat) : Int) := by omega
 have b3 : (many : Int) / 256 % 256 = ((many / 256 % 256 : Nat) : Int) := by omega
 have b4 : (many : Int) % 256 = ((many % 256 : Nat) : Int) := by omega
 have c : (half : Int) = ((half % 256 : Nat) : Int) := by omega
 rw [a1, a2, a3, a4, b1, b2, b3, b4, c]
 rfl
set_option maxHeartbeats 1000000 in
set_option maxRecDepth 100000 in
theorem ref13manifest_any (w : World) (half fin many : Nat) (h1 : half ≤ 1) (h2 : fin < 4294967296) (h3 : many < 4294967296) :
  Calls Tryz.prog 116 #[.int .i64 half, .int .i64 fin, .int .i64 many] w fun e w' => ∃ g, e = .returned (.slice (some ⟨g, 0, none⟩) 9 9) ∧ SlAt w' (some ⟨g, 0, none⟩) 9 9 (u8vs (manB half fin many)) ∧ w.heap.size ≤ g ∧ Kept [] w w' := by
 have hc := manB_cells h1 h2 h3
 have h0 : (half : Int) % 256 = (half : Int) := by omega
 have ha : (fin : Int) / 16777216 % 256 = (fin : Int) / 16777216 := by omega
 have hb : (many : Int) / 16777216 % 256 = (many : Int) / 16777216 := by omega
 obtain ⟨W, hW⟩ : ∃ W, w.alloc (.cells (u8vs (manB half fin many)).toArray 5) = W := ⟨_, rfl⟩
 have hs : SlAt W (some ⟨w.heap.size, 0, none⟩) 9 9 (u8vs (manB half fin many)) := by rw [← hW]; exact SlAt.blk (heap_alloc_new _ _) (by simp [u8vs, length_manB]) (by unfold maxLen; omega)
 have hk : Kept [] w W := by rw [← hW]; exact Kept.alloc [] _ _
 rw [← hc] at hW
 clear hc
 go_enter Tryz.func116, Tryz.ntmps116
 go_wp2_with fail
 try rw [hW]
 go_ret
 exact ⟨_, rfl, hs, Nat.le_refl _, hk⟩
/-- The document's log at y, beside its device: its slots at zm, its strip at zt. -/
structure RgQ (w : World) (y zm zt r F : Nat) (sp : List Nat) (s : Sp) (B : List UInt8) : Prop where
 head : w.heap[y]? = some (.cells #[.pointer (some ⟨r, 0, none⟩), .pointer (some ⟨zm, 0, none⟩), .pointer (some ⟨zt, 0, none⟩), .int .i64 F, .int .i64 s.each, .int .i64 s.half, .int .i64 s.many, .bool s.added, .bool s.broken] 117 (0, 0))
 sl : R11At w zm r s.sl
 st : RtAt w zt r sp s.st B
 fst : s.first = F + 2
 y3 : y ∉ sp
 yz : y ≠ zm
 z3 : zm ∉ sp
/-- And on its device. -/
structure RgP (w : World) (y zm zt r F : Nat) (gp sp : List Nat) (s : Sp) (d : Dev) (B : List UInt8) : Prop where
 q : RgQ w y zm zt r F sp s B
 dv : Rv w r gp d
 y1 : y ∉ gp
 z1 : zm ∉ gp
 d2 : ∀ j ∈ sp, j ∉ gp
section
variable {w w' : World} {y zm zt r F : Nat} {gp sp : List Nat} {s : Sp} {d : Dev} {B : List UInt8}
theorem RgQ.yl (h : RgQ w y zm zt r F sp s B) : y < w.heap.size := World.lt_of_heap h.head
theorem RgQ.zl (h : RgQ w y zm zt r F sp s B) : zm < w.heap.size := World.lt_of_heap h.sl
theorem RgQ.kept {G : List Nat} (h : RgQ w y zm zt r F sp s B) (hk : Kept G w w') (g0 : y ∉ G) (g1 : zm ∉ G) (g2 : ∀ j ∈ sp, j ∉ G) : RgQ w' y zm zt r F sp s B :=
 ⟨(hk.block y h.yl g0).trans h.head, h.sl.kept hk g1, h.st.kept hk g2, h.fst, h.y3, h.yz, h.z3⟩
theorem RgP.new (h : RgP w y zm zt r F gp sp s d B) (hk : Kept [] w w') : RgP w' y zm zt r F gp sp s d B :=
 ⟨h.q.kept hk (by simp) (by simp) (by simp), h.dv.new_kept hk, h.y1, h.z1, h.d2⟩
/-- Its own block is written. -/
theorem RgP.put {s' : Sp} (h : RgP w y zm zt r F gp sp s d B) (hk : Kept [y] w w') (e1 : s'.sl = s.sl) (e2 : s'.st = s.st) (e3 : s'.first = s.first)
  (hh : w'.heap[y]? = some (.cells #[.pointer (some ⟨r, 0, none⟩), .pointer (some ⟨zm, 0, none⟩), .pointer (some ⟨zt, 0, none⟩), .int .i64 F, .int .i64 s'.each, .int .i64 s'.half, .int .i64 s'.many, .bool s'.added, .bool s'.broken] 117 (0, 0))) : RgP w' y zm zt r F gp sp s' d B :=
 ⟨⟨hh, e1 ▸ h.q.sl.kept hk (fun hm => h.q.yz (by simp at hm; exact hm.symm)), e2 ▸ h.q.st.kept hk (fun j hj hm => h.q.y3 (by simp at hm; exact hm ▸ hj)), e3 ▸ h.q.fst, h.q.y3, h.q.yz, h.q.z3⟩, h.dv.kept hk (fun j hj hm => h.y1 (by simp at hm; exact hm ▸ hj)), h.y1, h.z1, h.d2⟩
theorem RgQ.cells (h : RgQ w y zm zt r F sp s B) : w.cell? ⟨y, 0, none⟩ = some (.pointer (some ⟨r, 0, none⟩)) ∧ w.cell? ⟨y, 1, none⟩ = some (.pointer (some ⟨zm, 0, none⟩)) ∧ w.cell? ⟨y, 2, none⟩ = some (.pointer (some ⟨zt, 0, none⟩)) ∧
  w.cell? ⟨y, 3, none⟩ = some (.int .i64 F) ∧ w.cell? ⟨y, 4, none⟩ = some (.int .i64 s.each) ∧ w.cell? ⟨y, 5, none⟩ = some (.int .i64 s.half) ∧ w.cell? ⟨y, 6, none⟩ = some (.int .i64 s.many) ∧ w.cell? ⟨y, 7, none⟩ = some (.bool s.added) ∧ w.cell? ⟨y, 8, none⟩ = some (.bool s.broken) ∧ ∀ i, w.frozen? ⟨y, i, none⟩ = false :=
 ⟨blk_cell h.head 0, blk_cell h.head 1, blk_cell h.head 2, blk_cell h.head 3, blk_cell h.head 4, blk_cell h.head 5, blk_cell h.head 6, blk_cell h.head 7, blk_cell h.head 8, fun i => blk_frozen h.head i⟩
theorem RgQ.fin (h : RgQ w y zm zt r F sp s B) : w.cell? ⟨zt, 3, none⟩ = some (.int .i64 s.st.fin) := by
 obtain ⟨A, c, hz, -, -, -⟩ := h.st.head
 rw [blk_cell hz]
 rfl
theorem Rv.deadCell (h : Rv w r gp d) : w.cell? ⟨r, 5, none⟩ = some (.bool d.dead) := by
 obtain ⟨B, cap, l, rs, hA, hI⟩ := h
 obtain ⟨-, -, -, -, c5, -, -⟩ := hA.cells
 rw [hI.dead] at c5
 exact c5
/-- What is told of what is wrong. -/
def WrR (w : World) (y zm zt r F : Nat) (gp sp : List Nat) (s : Sp) (d : Dev) (B : List UInt8) (n : Int) (e : Ending) (w' : World) : Prop :=
 e = .returned (.int .i64 n) ∧ RgP w' y zm zt r F gp sp s d B ∧ Kept [y] w w'
set_option maxHeartbeats 1000000 in
theorem ref13Wrong_any (h : RgP w y zm zt r F gp sp s d B) : Calls Tryz.prog 71 #[.pointer (some ⟨y, 0, none⟩)] w (WrR w y zm zt r F gp sp (s.touch d) d B (if s.wrong d then 100 else 0)) := by
 have hk := Kept.setCell (F := [y]) (w := w) (p := ⟨y, 8, none⟩) (by simp) (.bool (s.broken || d.dead))
 have hP : RgP (w.setCell ⟨y, 8, none⟩ (.bool (s.broken || d.dead))) y zm zt r F gp sp (s.touch d) d B := h.put hk rfl rfl rfl (heap_set h.q.head 8 _)
 have fin : ∀ e, e = .returned (.int .i64 (if s.wrong d then 100 else 0)) → WrR w y zm zt r F gp sp (s.touch d) d B (if s.wrong d then 100 else 0) e (w.setCell ⟨y, 8, none⟩ (.bool (s.broken || d.dead))) := fun e he => ⟨he, hP, hk⟩
 obtain ⟨c0, c1, c2, c3, c4, c5, c6, c7, c8, cf⟩ := h.q.cells
 have cd := h.dv.deadCell
 unfold Sp.wrong at fin ⊢
 cases hb : s.broken with
 | true =>
  rw [hb] at c8 fin
  simp only [Bool.true_or, if_true] at fin ⊢
  have FIN := Lib.hid fin
  clear hb hP hk fin c1 c2 c3 c4 c5 c6 c7
  go_enter Tryz.func71, Tryz.ntmps71
  go_wp2_with fail
  go_ret
  exact FIN.out _ rfl
 | false =>
  rw [hb] at c8 fin
  simp only [Bool.false_or] at fin ⊢
  cases hd : d.dead with
  | true =>
   rw [hd] at cd fin
   have FIN := Lib.hid fin
   clear hb hd hP hk fin c1 c2 c3 c4 c5 c6 c7
   go_enter Tryz.func71, Tryz.ntmps71
   go_wp2_with fail
   go_ret
   exact FIN.out _ rfl
  | false =>
   rw [hd] at cd fin
   have FIN := Lib.hid fin
   clear hb hd hP hk fin c1 c2 c3 c4 c5 c6 c7
   go_enter Tryz.func71, Tryz.ntmps71
   go_wp2_with fail
   go_ret
   exact FIN.out _ rfl
theorem ref_wrong_yes (h : RgP w y zm zt r F gp sp s d B) (hw : s.wrong d = true) : Calls Tryz.prog 71 #[.pointer (some ⟨y, 0, none⟩)] w (WrR w y zm zt r F gp sp (s.touch d) d B 100) := by
 have := ref13Wrong_any h
 rw [if_pos hw] at this
 exact this
theorem ref_wrong_no (h : RgP w y zm zt r F gp sp s d B) (hw : s.wrong d = false) : Calls Tryz.prog 71 #[.pointer (some ⟨y, 0, none⟩)] w (WrR w y zm zt r F gp sp s d B 0) := by
 have := ref13Wrong_any h
 rw [if_neg (by rw [hw]; decide), touch_no hw] at this
 exact this
set_option maxHeartbeats 1000000 in
theorem ref13Left_any (h : RgP w y zm zt r F gp sp s d B) (hm : s.each ≤ 10000) (hf : s.st.fin ≤ 128 * s.each) : Calls Tryz.prog 72 #[.pointer (some ⟨y, 0, none⟩)] w fun e w' => e = .returned (.int .i64 (128 * s.each - s.st.fin)) ∧ Kept [] w w' := by
 obtain ⟨c0, c1, c2, c3, c4, c5, c6, c7, c8, cf⟩ := h.q.cells
 have c9 := h.q.fin
 have e1 : IntKind.i64.wrap (128 * (s.each : Int)) = 128 * (s.each : Int) := by rw [IntKind.wrap_i64]; omega
 have e2 : IntKind.i64.wrap (128 * (s.each : Int) - (s.st.fin : Int)) = 128 * (s.each : Int) - (s.st.fin : Int) := by rw [IntKind.wrap_i64]; omega
 go_enter Tryz.func72, Tryz.ntmps72
 go_wp2_with fail
 go_quiet (fail)
 go_wp2_with fail
 go_ret
 exact ⟨rfl, Kept.drewN [] w nq⟩
end
end Go.Proofs.YtbnflbkaogpnbaaGreat
namespace Go.Proofs.YtbnflbkaogpnbaaGreat
set_option linter.unusedVariables false
open Go.RowKit
/-- A step of the document's log's blocks. -/
structure RgS (w w' : World) (y zm : Nat) (gp sp gp' sp' : List Nat) : Prop where
 kept : Kept (y :: zm :: (gp ++ sp)) w w'
 g : ∀ j ∈ gp', j ∈ gp ∨ w.heap.size ≤ j
 t : ∀ j ∈ sp', j ∈ sp ∨ w.heap.size ≤ j
theorem RgS.new {w w' : World} {y zm : Nat} {gp sp : List Nat} (hk : Kept [] w w') : RgS w w' y zm gp sp gp sp := ⟨hk.mono (by simp), fun j hj => .inl hj, fun j hj => .inl hj⟩
theorem RgS.own {w w' : World} {y zm : Nat} {gp sp : List Nat} (hk : Kept [y] w w') : RgS w w' y zm gp sp gp sp := ⟨hk.mono (fun i hi => .inl (by simp at hi; simp [hi])), fun j hj => .inl hj, fun j hj => .inl hj⟩
theorem RgS.trans {w w1 w2 : World} {y zm : Nat} {gp sp gp1 sp1 gp2 sp2 : List Nat} (h : RgS w w1 y zm gp sp gp1 sp1) (k : RgS w1 w2 y zm gp1 sp1 gp2 sp2) : RgS w w2 y zm gp sp gp2 sp2 := by
 have hz := h.kept.size
 refine ⟨h.kept.trans' k.kept (fun i hi => ?_), fun j hj => ?_, fun j hj => ?_⟩
 ·simp only [List.mem_cons, List.mem_append] at hi ⊢
  rcases hi with e | e | e | e
  ·exact .inl (.inl e)
  ·exact .inl (.inr (.inl e))
  ·rcases h.g i e with e | e
   ·exact .inl (.inr (.inr (.inl e)))
   ·exact .inr e
  ·rcases h.t i e with e | e
   ·exact .inl (.inr (.inr (.inr e)))
   ·exact .inr e
 ·rcases k.g j hj with e | e
  ·exact h.g j e
  ·exact .inr (by omega)
 ·rcases k.t j hj with e | e
  ·exact h.t j e
  ·exact .inr (by omega)
theorem RgS.dev {w w' : World} {y zm : Nat} {gp sp gp' : List Nat} (hk : Kept gp w w') (hn : ∀ j ∈ gp', j ∈ gp ∨ w.heap.size ≤ j) : RgS w w' y zm gp sp gp' sp := ⟨hk.mono (fun i hi => .inl (by simp [hi])), hn, fun j hj => .inl hj⟩
theorem RgS.slots {w w' : World} {y zm : Nat} {gp sp gp' : List Nat} (hk : Kept (zm :: gp) w w') (hn : ∀ j ∈ gp', j ∈ gp ∨ w.heap.size ≤ j) : RgS w w' y zm gp sp gp' sp := ⟨hk.mono (fun i hi => .inl (by simp at hi; rcases hi with e | e <;> simp [e])), hn, fun j hj => .inl hj⟩
theorem RgS.strip {w w' : World} {y zm : Nat} {gp sp gp' sp' : List Nat} (hk : Kept (gp ++ sp) w w') (hn : ∀ j ∈ gp', j ∈ gp ∨ w.heap.size ≤ j) (hm : ∀ j ∈ sp', j ∈ sp ∨ w.heap.size ≤ j) : RgS w w' y zm gp sp gp' sp' := ⟨hk.mono (fun i hi => .inl (by simp at hi; rcases hi with e | e <;> simp [e])), hn, hm⟩
section
variable {w w' : World} {y zm zt r F : Nat} {gp sp : List Nat} {s : Sp} {d : Dev} {B : List UInt8}
theorem RgP.devD {gp' : List Nat} {d' : Dev} (h : RgP w y zm zt r F gp sp s d B) (hD : Rv w' r gp' d') (hk : Kept gp w w') (hn : ∀ j ∈ gp', j ∈ gp ∨ w.heap.size ≤ j) : RgP w' y zm zt r F gp' sp s d' B := by
 have fresh : ∀ {j}, j < w.heap.size → j ∉ gp → j ∉ gp' := fun hj hf hm => by
  rcases hn _ hm with e | e
  ·exact hf e
  ·omega
 exact ⟨h.q.kept hk h.y1 h.z1 h.d2, hD, fresh h.q.yl h.y1, fresh h.q.zl h.z1, fun j hj => fresh (h.q.st.lt j hj) (h.d2 j hj)⟩
theorem RgP.slotsD {gp' : List Nat} {sl' : Sl} {d' : Dev} (h : RgP w y zm zt r F gp sp s d B) (hD : Rv w' r gp' d') (hS : R11At w' zm r sl') (hk : Kept (zm :: gp) w w') (hn : ∀ j ∈ gp', j ∈ gp ∨ w.heap.size ≤ j) : RgP w' y zm zt r F gp' sp { s with sl := sl' } d' B := by
 have fresh : ∀ {j}, j < w.heap.size → j ∉ gp → j ∉ gp' := fun hj hf hm => by
  rcases hn _ hm with e | e
  ·exact hf e
  ·omega
 have hz : ∀ j ∈ sp, j ∉ zm :: gp := fun j hj hm => by
  simp only [List.mem_cons] at hm
  rcases hm with e | e
  ·exact h.q.z3 (e ▸ hj)
  ·exact h.d2 j hj e
 exact ⟨⟨(hk.block y h.q.yl (by simp only [List.mem_cons, not_or]; exact ⟨h.q.yz, h.y1⟩)).trans h.q.head, hS, h.q.st.kept hk hz, h.q.fst, h.q.y3, h.q.yz, h.q.z3⟩, hD, fresh h.q.yl h.y1, fresh h.q.zl h.z1, fun j hj => fresh (h.q.st.lt j hj) (h.d2 j hj)⟩
theorem RgP.stripD {gp' sp' : List Nat} {st' : St} {d' : Dev} {B' : List UInt8} (h : RgP w y zm zt r F gp sp s d B) (hD : Rv w' r gp' d') (hS : RtAt w' zt r sp' st' B') (hk : Kept (gp ++ sp) w w') (hn : ∀ j ∈ gp', j ∈ gp ∨ w.heap.size ≤ j) (hm : ∀ j ∈ sp', j ∈ sp ∨ w.heap.size ≤ j) (hd : ∀ j ∈ sp', j ∉ gp') : RgP w' y zm zt r F gp' sp' { s with st := st' } d' B' := by
 have fresh : ∀ {j}, j < w.heap.size → j ∉ gp → j ∉ gp' := fun hj hf hm => by
  rcases hn _ hm with e | e
  ·exact hf e
  ·omega
 have fresh2 : ∀ {j}, j < w.heap.size → j ∉ sp → j ∉ sp' := fun hj hf hm' => by
  rcases hm _ hm' with e | e
  ·exact hf e
  ·omega
 have na : ∀ {j : Nat}, j ∉ gp → j ∉ sp → j ∉ gp ++ sp := fun h1 h2 hm => by
  rcases List.mem_append.mp hm with e | e
  ·exact h1 e
  ·exact h2 e
 exact ⟨⟨(hk.block y h.q.yl (na h.y1 h.q.y3)).trans h.q.head, h.q.sl.kept hk (na h.z1 h.q.z3), hS, h.q.fst, fresh2 h.q.yl h.q.y3, h.q.yz, fresh2 h.q.zl h.q.z3⟩, hD, fresh h.q.yl h.y1, fresh h.q.zl h.z1, hd⟩
/-- A deed of the document's log. -/
def RgZ (w : World) (y zm zt r F : Nat) (gp sp : List Nat) (s : Sp) (d : Dev) (n : Int) (e : Ending) (w' : World) : Prop :=
 e = .returned (.int .i64 n) ∧ ∃ gp' sp' B', RgP w' y zm zt r F gp' sp' s d B' ∧ RgS w w' y zm gp sp gp' sp'
theorem RgZ.of {gp' sp' : List Nat} {n : Int} {B' : List UInt8} (h : RgP w' y zm zt r F gp' sp' s d B') (hs : RgS w w' y zm gp sp gp' sp') : RgZ w y zm zt r F gp sp s d n (.returned (.int .i64 n)) w' := ⟨rfl, gp', sp', B', h, hs⟩
set_option maxHeartbeats 2000000 in
set_option maxRecDepth 100000 in
theorem ref13Append_any (h : RgP w y zm zt r F gp sp s d B) (hdw : d.Wf) (hwf : s.st.Wf d) (hmany : s.many < 1000000000) (A : Option Addr) (n c : Nat) (b : List UInt8) (hb : SlAt w A n c (u8vs b)) (hA : A = none → c = 0) (hAy : ∀ p, A = some p → 0 < n → p.block ≠ y)
  (hwk : d.works < 9223372036854000000) : Calls Tryz.prog 58 #[.pointer (some ⟨y, 0, none⟩), .slice A n c] w (RgZ w y zm zt r F gp sp (s.append d b).1 (s.append d b).2.1 (s.append d b).2.2) := by
 cases hw : s.wrong d with
 | true =>
  have e1 : s.append d b = (s.touch d, d, 100) := by unfold Sp.append; rw [if_pos hw]
  rw [e1]
  have cw := ref_wrong_yes h hw
  clear e1
  go_enter Tryz.func58, Tryz.ntmps58
  go_wp2_with fail
  refine cw.mono ?_
  rintro e w1 ⟨rfl, hP1, hk1⟩
  go_wp2_with fail
  go_ret
  exact .of hP1 (.own hk1)
 | false =>
  have cw := ref_wrong_no h hw
  obtain ⟨R, hR⟩ : ∃ R, s.st.append d b = R := ⟨_, rfl⟩
  have e1 : s.append d b = if R.2.2 = 0 then ({ s with st := R.1, many := s.many + 1, added := true }, R.2.1, 0) else ({ s with st := R.1 }, R.2.1, R.2.2) := by
   unfold Sp.append; rw [if_neg (by rw [hw]; decide), hR]
  have E1 := Lib.hid e1
  clear e1
  go_enter Tryz.func58, Tryz.ntmps58
  go_wp2_with fail
  refine cw.mono ?_
  rintro e w1 ⟨rfl, hP1, hk1⟩
  have c2 : w1.cell? ⟨y, 2, none⟩ = some (.pointer (some ⟨zt, 0, none⟩)) := hP1.q.cells.2.2.1
  go_wp2_with fail
  refine (ref12Append_any hP1.dv hdw hP1.q.st hP1.d2 hwf A n c b (hb.keptP hk1 (fun p e hn => by simpa using hAy p e hn)) hA hwk).mono ?_
  rw [hR]
  rintro e w2 ⟨rfl, gp2, sp2, B2, hD2, hS2, hk2, hf2, hp2, hd2⟩
  have hP2 := hP1.stripD hD2 hS2 hk2 hf2 hp2 hd2
  have hs2 : RgS w w2 y zm gp sp gp2 sp2 := (RgS.own hk1).trans (.strip hk2 hf2 hp2)
  have HR := Lib.hid hR
  obtain ⟨s2, d2, n2⟩ := R
  simp only at hP2 E1 ⊢
  by_cases h0 : n2 = 0
  ·subst h0
   have hfin := E1.out
   rw [if_pos rfl] at hfin
   have HF := Lib.hid hfin
   clear hfin
   have hww : IntKind.i64.wrap ((s.many : Int) + 1) = (s.many : Int) + 1 := by rw [IntKind.wrap_i64]; omega
   obtain ⟨_, _, _, _, _, _, c6, c7, _, cf⟩ := hP2.q.cells
   replace c6 : w2.cell? ⟨y, 6, none⟩ = some (.int .i64 s.many) := c6
   have hh1 := heap_set hP2.q.head 6 (.int .i64 ((s.many : Int) + 1))
   have hh2 := heap_set hh1 7 (.bool true)
   have hk3 : Kept [y] w2 ((w2.setCell ⟨y, 6, none⟩ (.int .i64 ((s.many : Int) + 1))).setCell ⟨y, 7, none⟩ (.bool true)) := (Kept.setCell (by simp) _).trans (Kept.setCell (by simp) _)
   have e3 : ((s.many + 1 : Nat) : Int) = (s.many : Int) + 1 := by push_cast; rfl
   have hP3 := hP2.put (s' := { s with st := s2, many := s.many + 1, added := true }) hk3 rfl rfl rfl (by simp only [e3]; exact hh2)
   clear c2 hR HR E1 hS2 hD2 hP1
   go_wp2_with fail
   go_ret
   rw [HF.out]
   exact .of hP3 (hs2.trans (.own hk3))
  ·have hnb : (n2 != 0) = true := by simpa using h0
   have hfin := E1.out
   rw [if_neg h0] at hfin
   have HF := Lib.hid hfin
   clear hfin c2 hR HR E1 h0
   go_wp2_with fail
   go_ret
   rw [HF.out]
   exact .of hP2 hs2
/-- The document's save: the manifest alone. -/
def Sp.saveM (s : Sp) (d : Dev) (m : List UInt8) : Sp × Dev × Int :=
 ({ s with sl := (s.sl.save d m).1, broken := s.broken || decide ((s.sl.save d m).2.2 ≠ 0) }, (s.sl.save d m).2.1, (s.sl.save d m).2.2)
theorem RgP.broken (h : RgP w y zm zt r F gp sp s d B) (b : Bool) : RgP (w.setCell ⟨y, 8, none⟩ (.bool b)) y zm zt r F gp sp { s with broken := b } d B :=
 h.put (Kept.setCell (by simp) _) rfl rfl rfl (heap_set h.q.head 8 _)
set_option maxHeartbeats 2000000 in
set_option maxRecDepth 100000 in
theorem ref13save_any (h : RgP w y zm zt r F gp sp s d B) (hdw : d.Wf) (half fin many : Nat) (h1 : half ≤ 1) (h2 : fin < 4294967296) (h3 : many < 4294967296) (hnw : s.sl.newer ≤ 1) (htn : s.sl.turn < 9223372036854775000) (hfi : s.sl.first < 9223372036854775000)
  (hwk : d.works < 9223372036854000000) : Calls Tryz.prog 96 #[.pointer (some ⟨y, 0, none⟩), .int .i64 half, .int .i64 fin, .int .i64 many] w (RgZ w y zm zt r F gp sp (s.saveM d (manB half fin many)).1 (s.saveM d (manB half fin many)).2.1 (s.saveM d (manB half fin many)).2.2) := by
 have hml := length_manB half fin many
 obtain ⟨m, hm⟩ : ∃ m, manB half fin many = m := ⟨_, rfl⟩
 obtain ⟨X, hX⟩ : ∃ X, s.sl.save d m = X := ⟨_, rfl⟩
 have e1 : s.saveM d m = ({ s with sl := X.1, broken := s.broken || decide (X.2.2 ≠ 0) }, X.2.1, X.2.2) := by unfold Sp.saveM; rw [hX]
 have cm := ref13manifest_any w.drew half fin many h1 h2 h3
 rw [hm] at cm hml ⊢
 have E1 := Lib.hid e1; have HX := Lib.hid hX
 have c1 := (h.new (Kept.drew [] w)).q.cells.2.1
 clear e1 hm hX
 go_enter Tryz.func96, Tryz.ntmps96
 go_wp2_with fail
 refine wp_region_calm (S := (fun W => W.cell? ⟨y, 1, none⟩ = some (.pointer (some ⟨zm, 0, none⟩)))) (by kernel_rfl) (by exact c1) (fun hHeld => ?_)
 refine tk (i := 0) (v := ?_) (hy := Or.inl ⟨by rfl, ?_⟩) (hS := hHeld) (h := ?_)
 rotate_left
 ·intro w hSw
  try dsimp only at hSw
  go_simp
  all_goals with_reducible rfl
 try simp only [Act.put, List.setIfInBounds_toArray, List.set_cons_zero, List.set_cons_succ]
 refine tk (i := 1) (v := ?_) (hy := Or.inl ⟨by rfl, ?_⟩) (hS := hHeld) (h := ?_)
 rotate_left
 ·intro w hSw
  try dsimp only at hSw
  go_simp
  all_goals with_reducible rfl
 try simp only [Act.put, List.setIfInBounds_toArray, List.set_cons_zero, List.set_cons_succ]
 refine tk (i := 2) (v := ?_) (hy := Or.inl ⟨by rfl, ?_⟩) (hS := hHeld) (h := ?_)
 rotate_left
 ·intro w hSw
  try dsimp only at hSw
  go_simp
  all_goals with_reducible rfl
 try simp only [Act.put, List.setIfInBounds_toArray, List.set_cons_zero, List.set_cons_succ]
 refine tk (i := 3) (v := ?_) (hy := Or.inl ⟨by rfl, ?_⟩) (hS := hHeld) (h := ?_)
 rotate_left
 ·intro w hSw
  try dsimp only at hSw
  have s0 := hSw
  go_simp
  all_goals with_reducible rfl
 try simp only [Act.put, List.setIfInBounds_toArray, List.set_cons_zero, List.set_cons_succ]
 refine tk (i := 4) (v := ?_) (hy := Or.inl ⟨by rfl, ?_⟩) (hS := hHeld) (h := ?_)
 rotate_left
 ·intro w hSw
  try dsimp only at hSw
  go_simp
  all_goals with_reducible rfl
 try simp only [Act.put, List.setIfInBounds_toArray, List.set_cons_zero, List.set_cons_succ]
 refine tk (i := 5) (v := ?_) (hy := Or.inl ⟨by rfl, ?_⟩) (hS := hHeld) (h := ?_)
 rotate_left
 ·intro w hSw
  try dsimp only at hSw
  go_simp
  all_goals with_reducible rfl
 try simp only [Act.put, List.setIfInBounds_toArray, List.set_cons_zero, List.set_cons_succ]
 refine tk (i := 6) (v := ?_) (hy := Or.inl ⟨by rfl, ?_⟩) (hS := hHeld) (h := ?_)
 rotate_left
 ·intro w hSw
  try dsimp only at hSw
  go_simp
  all_goals with_reducible rfl
 try simp only [Act.put, List.setIfInBounds_toArray, List.set_cons_zero, List.set_cons_succ]
 refine wpAnyH_ready (rs := [7]) (by kernel_rfl) (by simp) ?_
 refine AllReadyH.cons (by simp only [List.getElem?_toArray, List.getElem?_cons_succ, List.getElem?_cons_zero]; rfl) (fun K hK => ?_) AllReadyH.nil
 go_simp
 refine cm.mono ?_
 rintro e w2 ⟨g, rfl, hs2, hg2, hk2⟩
 have hk02 := (Kept.drew [] w).trans hk2
 have hP2 := h.new hk02
 have c2 := hP2.q.cells.2.1
 go_wp2_with fail
 refine hK.out _ _ ?_ (fun hHeld2 => ?_)
 ·exact c2
 clear hK K hHeld
 have hHeld := hHeld2
 clear hHeld2
 try simp only [Act.put, List.setIfInBounds_toArray, List.set_cons_zero, List.set_cons_succ]
 refine wpAnyH_ready (rs := [8]) (by kernel_rfl) (by simp) ?_
 refine AllReadyH.cons (by simp only [List.getElem?_toArray, List.getElem?_cons_succ, List.getElem?_cons_zero]; rfl) (fun K hK => ?_) AllReadyH.nil
 go_simp
 refine (ref11Save_any hP2.dv hdw hP2.q.sl hP2.z1 hnw htn hfi (some ⟨g, 0, none⟩) 9 9 m hs2 hwk).mono ?_
 rintro e w3 ⟨rfl, gp3, hD3, hS3, hk3, hn3⟩
 rw [HX.out] at hD3 hS3 ⊢
 have hP3 := hP2.slotsD hD3 hS3 hk3 hn3
 have hs3 : RgS w w3 y zm gp sp gp3 sp := (RgS.new hk02).trans (.slots hk3 hn3)
 have c3 := hP3.q.cells.2.1
 go_wp2_with fail
 refine hK.out _ _ ?_ (fun hHeld2 => ?_)
 ·exact c3
 clear hK K hHeld
 have hHeld := hHeld2
 clear hHeld2
 try simp only [Act.put, List.setIfInBounds_toArray, List.set_cons_zero, List.set_cons_succ]
 refine tk (i := 9) (v := ?_) (hy := Or.inl ⟨by rfl, ?_⟩) (hS := hHeld) (h := ?_)
 rotate_left
 ·intro w hSw
  try dsimp only at hSw
  go_simp
  all_goals with_reducible rfl
 try simp only [Act.put, List.setIfInBounds_toArray, List.set_cons_zero, List.set_cons_succ]
 refine wpAnyH_calm (by kernel_rfl) ?_ _
 obtain ⟨x1, x2, x3⟩ := X
 simp only at hP3 hD3 hS3 E1 ⊢
 have c8 := hP3.q.cells.2.2.2.2.2.2.2.2.1
 have cf := hP3.q.cells.2.2.2.2.2.2.2.2.2
 by_cases h0 : x3 = 0
 ·subst h0
  have hfin := E1.out
  have HF := Lib.hid hfin
  clear hHeld cm c1 hfin hS3 hD3 E1
  go_wp2_with fail
  go_ret
  rw [HF.out]
  refine .of (B' := B) ?_ hs3
  simpa using hP3
 ·have hnb : (x3 != 0) = true := by simpa using h0
  have hP4 := hP3.broken true
  have hk4 : Kept [y] w3 (w3.setCell ⟨y, 8, none⟩ (.bool true)) := Kept.setCell (by simp) _
  have hfin := E1.out
  have HF := Lib.hid hfin
  have H0 := Lib.hid h0
  clear hHeld cm c1 hfin hS3 hD3 E1 h0
  go_wp2_with fail
  go_ret
  rw [HF.out]
  refine .of (B' := B) ?_ (hs3.trans (.own hk4))
  have e9 : (s.broken || decide (x3 ≠ 0)) = true := by simp [H0.out]
  rw [e9]
  exact hP4
theorem save_saveM (s : Sp) (d : Dev) (m : List UInt8) : s.save d m = if d.flush.2 ≠ 0 then (s, d.flush.1, d.flush.2) else s.saveM d.flush.1 m := rfl
theorem Dev.Wf.flushOk {d : Dev} (h : d.Wf) : d.flush.1.Wf := by
 unfold Dev.flush
 split
 ·exact h
 ·split
  ·exact h
  ·split
   ·exact h.gone _
   ·exact ({ h with keyIn := by simp, sureSize := by simp, nodup := by simp } : ({ d with sure := [] } : Dev).Wf).counted
set_option maxHeartbeats 2000000 in
set_option maxRecDepth 100000 in
theorem ref13Flush_any (h : RgP w y zm zt r F gp sp s d B) (hdw : d.Wf) (h1 : s.half ≤ 1) (h2 : s.st.fin < 4294967296) (h3 : s.many < 4294967296) (hnw : s.sl.newer ≤ 1) (htn : s.sl.turn < 9223372036854775000) (hfi : s.sl.first < 9223372036854775000)
  (hwk : d.works < 9223372036853000000) : Calls Tryz.prog 60 #[.pointer (some ⟨y, 0, none⟩)] w (RgZ w y zm zt r F gp sp (s.flush d).1 (s.flush d).2.1 (s.flush d).2.2) := by
 cases hw : s.wrong d with
 | true =>
  have e1 : s.flush d = (s.touch d, d, 100) := by unfold Sp.flush; rw [if_pos hw]
  rw [e1]
  have cw := ref_wrong_yes h hw
  clear e1
  go_enter Tryz.func60, Tryz.ntmps60
  go_wp2_with fail
  refine cw.mono ?_
  rintro e w1 ⟨rfl, hP1, hk1⟩
  go_wp2_with fail
  go_ret
  exact .of hP1 (.own hk1)
 | false =>
  have cw := ref_wrong_no h hw
  cases ha : s.added with
  | false =>
   have e1 : s.flush d = (s, d, 0) := by unfold Sp.flush; rw [if_neg (by rw [hw]; decide), if_pos ha]
   rw [e1]
   clear e1
   go_enter Tryz.func60, Tryz.ntmps60
   go_wp2_with fail
   refine cw.mono ?_
   rintro e w1 ⟨rfl, hP1, hk1⟩
   have c7 : w1.cell? ⟨y, 7, none⟩ = some (.bool false) := by rw [← ha]; exact hP1.q.cells.2.2.2.2.2.2.2.1
   clear ha
   go_wp2_with fail
   go_ret
   exact .of hP1 (.own hk1)
  | true =>
   obtain ⟨Q, hQ⟩ : ∃ Q, d.flush = Q := ⟨_, rfl⟩
   have hQw : Q.1.Wf := by rw [← hQ]; exact hdw.flushOk
   have hQk : Q.1.works ≤ d.works + 1 := by rw [← hQ]; exact Dev.flush_works d
   obtain ⟨q1, q2⟩ := Q
   simp only at hQw hQk
   have e1 : s.flush d = if q2 ≠ 0 then (s, q1, q2) else ({ (s.saveM q1 (manB s.half s.st.fin s.many)).1 with added := decide ((s.saveM q1 (manB s.half s.st.fin s.many)).2.2 ≠ 0) }, (s.saveM q1 (manB s.half s.st.fin s.many)).2.1, (s.saveM q1 (manB s.half s.st.fin s.many)).2.2) := by
    unfold Sp.flush
    rw [if_neg (by rw [hw]; decide), if_neg (by rw [ha]; decide), save_saveM, hQ]
    by_cases h0 : q2 = 0
    ·rw [if_neg (by simpa using h0), if_neg (by simpa using h0)]
    ·rw [if_pos h0, if_pos h0]
     simp only [ne_eq, h0, not_false_eq_true, decide_true]
     rw [← ha]
   have E1 := Lib.hid e1
   have cD := fun W (hD : Rv W r gp d) => rv_flush hD hdw (by omega)
   rw [hQ] at cD
   clear e1 hQ
   go_enter Tryz.func60, Tryz.ntmps60
   go_wp2_with fail
   refine cw.mono ?_
   rintro e w1 ⟨rfl, hP1, hk1⟩
   have c7 : w1.cell? ⟨y, 7, none⟩ = some (.bool true) := by rw [← ha]; exact hP1.q.cells.2.2.2.2.2.2.2.1
   have c0 := hP1.q.cells.1
   have HA := Lib.hid ha
   clear ha
   go_wp2_with fail
   refine (cD _ hP1.dv).mono ?_
   rintro e w2 ⟨rfl, gp2, hD2, hk2, hn2⟩
   have hP2 := hP1.devD hD2 hk2 hn2
   have hs2 : RgS w w2 y zm gp sp gp2 sp := (RgS.own hk1).trans (.dev hk2 hn2)
   simp only at hP2 hD2
   clear cw cD c7 c0
   by_cases h0 : q2 = 0
   ·subst h0
    obtain ⟨k0, k1, k2, k3, k4, k5, k6, k7, k8, kf⟩ := hP2.q.cells
    have k9 := hP2.q.fin
    obtain ⟨X, hX⟩ : ∃ X, s.saveM q1 (manB s.half s.st.fin s.many) = X := ⟨_, rfl⟩
    have hXh : X.1.half = s.half ∧ X.1.added = s.added ∧ X.1.st = s.st ∧ X.1.many = s.many := by rw [← hX]; exact ⟨rfl, rfl, rfl, rfl⟩
    obtain ⟨x5, x6, x7, x8⟩ := hXh
    have cs := fun W (hk : Kept [] w2 W) => ref13save_any (hP2.new hk) hQw s.half s.st.fin s.many h1 h2 h3 hnw htn hfi (by omega)
    rw [hX] at cs
    have hfin := E1.out
    rw [if_neg (by simp), hX] at hfin
    have HF := Lib.hid hfin
    clear hfin hX E1 k0 k1 k3 k4 k7 k8 kf
    go_wp2_with fail
    refine wp_region_calm (S := (fun W => W.cell? ⟨y, 5, none⟩ = some (.int .i64 s.half) ∧ W.cell? ⟨y, 2, none⟩ = some (.pointer (some ⟨zt, 0, none⟩)) ∧ W.cell? ⟨zt, 3, none⟩ = some (.int .i64 s.st.fin) ∧ W.cell? ⟨y, 6, none⟩ = some (.int .i64 s.many))) (by kernel_rfl) (show _ ∧ _ ∧ _ ∧ _ from ⟨k5, k2, k9, k6⟩) (fun hHeld => ?_)
    refine tk (i := 0) (v := ?_) (hy := Or.inl ⟨by rfl, ?_⟩) (hS := hHeld) (h := ?_)
    rotate_left
    ·intro w hSw
     try dsimp only at hSw
     go_simp
     all_goals with_reducible rfl
    try simp only [Act.put, List.setIfInBounds_toArray, List.set_cons_zero, List.set_cons_succ]
    refine tk (i := 1) (v := ?_) (hy := Or.inl ⟨by rfl, ?_⟩) (hS := hHeld) (h := ?_)
    rotate_left
    ·intro w hSw
     try dsimp only at hSw
     go_simp
     all_goals with_reducible rfl
    try simp only [Act.put, List.setIfInBounds_toArray, List.set_cons_zero, List.set_cons_succ]
    refine tk (i := 2) (v := ?_) (hy := Or.inl ⟨by rfl, ?_⟩) (hS := hHeld) (h := ?_)
    rotate_left
    ·intro w hSw
     try dsimp only at hSw
     go_simp
     all_goals with_reducible rfl
    try simp only [Act.put, List.setIfInBounds_toArray, List.set_cons_zero, List.set_cons_succ]
    refine tk (i := 3) (v := ?_) (hy := Or.inl ⟨by rfl, ?_⟩) (hS := hHeld) (h := ?_)
    rotate_left
    ·intro w hSw
     try dsimp only at hSw
     go_simp
     all_goals with_reducible rfl
    try simp only [Act.put, List.setIfInBounds_toArray, List.set_cons_zero, List.set_cons_succ]
    refine tk (i := 4) (v := ?_) (hy := Or.inl ⟨by rfl, ?_⟩) (hS := hHeld) (h := ?_)
    rotate_left
    ·intro w hSw
     try dsimp only at hSw
     obtain ⟨s0, s1, s2, s3⟩ := hSw
     go_simp
     all_goals with_reducible rfl
    try simp only [Act.put, List.setIfInBounds_toArray, List.set_cons_zero, List.set_cons_succ]
    refine tk (i := 5) (v := ?_) (hy := Or.inl ⟨by rfl, ?_⟩) (hS := hHeld) (h := ?_)
    rotate_left
    ·intro w hSw
     try dsimp only at hSw
     go_simp
     all_goals with_reducible rfl
    try simp only [Act.put, List.setIfInBounds_toArray, List.set_cons_zero, List.set_cons_succ]
    refine tk (i := 6) (v := ?_) (hy := Or.inl ⟨by rfl, ?_⟩) (hS := hHeld) (h := ?_)
    rotate_left
    ·intro w hSw
     try dsimp only at hSw
     go_simp
     all_goals with_reducible rfl
    try simp only [Act.put, List.setIfInBounds_toArray, List.set_cons_zero, List.set_cons_succ]
    refine tk (i := 7) (v := ?_) (hy := Or.inl ⟨by rfl, ?_⟩) (hS := hHeld) (h := ?_)
    rotate_left
    ·intro w hSw
     try dsimp only at hSw
     go_simp
     all_goals with_reducible rfl
    try simp only [Act.put, List.setIfInBounds_toArray, List.set_cons_zero, List.set_cons_succ]
    refine tk (i := 8) (v := ?_) (hy := Or.inl ⟨by rfl, ?_⟩) (hS := hHeld) (h := ?_)
    rotate_left
    ·intro w hSw
     try dsimp only at hSw
     obtain ⟨s0, s1, s2, s3⟩ := hSw
     go_simp
     all_goals with_reducible rfl
    try simp only [Act.put, List.setIfInBounds_toArray, List.set_cons_zero, List.set_cons_succ]
    refine tk (i := 9) (v := ?_) (hy := Or.inl ⟨by rfl, ?_⟩) (hS := hHeld) (h := ?_)
    rotate_left
    ·intro w hSw
     try dsimp only at hSw
     go_simp
     all_goals with_reducible rfl
    try simp only [Act.put, List.setIfInBounds_toArray, List.set_cons_zero, List.set_cons_succ]
    refine tk (i := 10) (v := ?_) (hy := Or.inl ⟨by rfl, ?_⟩) (hS := hHeld) (h := ?_)
    rotate_left
    ·intro w hSw
     try dsimp only at hSw
     go_simp
     all_goals with_reducible rfl
    try simp only [Act.put, List.setIfInBounds_toArray, List.set_cons_zero, List.set_cons_succ]
    refine tk (i := 11) (v := ?_) (hy := Or.inl ⟨by rfl, ?_⟩) (hS := hHeld) (h := ?_)
    rotate_left
    ·intro w hSw
     try dsimp only at hSw
     obtain ⟨s0, s1, s2, s3⟩ := hSw
     go_simp
     all_goals with_reducible rfl
    try simp only [Act.put, List.setIfInBounds_toArray, List.set_cons_zero, List.set_cons_succ]
    refine tk (i := 12) (v := ?_) (hy := Or.inl ⟨by rfl, ?_⟩) (hS := hHeld) (h := ?_)
    rotate_left
    ·intro w hSw
     try dsimp only at hSw
     go_simp
     all_goals with_reducible rfl
    try simp only [Act.put, List.setIfInBounds_toArray, List.set_cons_zero, List.set_cons_succ]
    refine tk (i := 13) (v := ?_) (hy := Or.inl ⟨by rfl, ?_⟩) (hS := hHeld) (h := ?_)
    rotate_left
    ·intro w hSw
     try dsimp only at hSw
     go_simp
     all_goals with_reducible rfl
    try simp only [Act.put, List.setIfInBounds_toArray, List.set_cons_zero, List.set_cons_succ]
    refine tk (i := 14) (v := ?_) (hy := Or.inl ⟨by rfl, ?_⟩) (hS := hHeld) (h := ?_)
    rotate_left
    ·intro w hSw
     try dsimp only at hSw
     go_simp
     all_goals with_reducible rfl
    try simp only [Act.put, List.setIfInBounds_toArray, List.set_cons_zero, List.set_cons_succ]
    refine tk (i := 15) (v := ?_) (hy := Or.inl ⟨by rfl, ?_⟩) (hS := hHeld) (h := ?_)
    rotate_left
    ·intro w hSw
     try dsimp only at hSw
     obtain ⟨s0, s1, s2, s3⟩ := hSw
     go_simp
     all_goals with_reducible rfl
    try simp only [Act.put, List.setIfInBounds_toArray, List.set_cons_zero, List.set_cons_succ]
    refine wpAnyH_ready (rs := [16]) (by kernel_rfl) (by simp) ?_
    refine AllReadyH.cons (by simp only [List.getElem?_toArray, List.getElem?_cons_succ, List.getElem?_cons_zero]; rfl) (fun K hK => ?_) AllReadyH.nil
    go_simp
    refine (cs _ (Kept.drew [] w2)).mono ?_
    rintro e w3 ⟨rfl, gp3, sp3, B3, hP3, hs3⟩
    have hs4 : RgS w w3 y zm gp sp gp3 sp3 := (hs2.trans (.new (Kept.drew [] w2))).trans hs3
    have j2 := hP3.q.cells.2.2.1
    have j5 := hP3.q.cells.2.2.2.2.2.1
    have j6 := hP3.q.cells.2.2.2.2.2.2.1
    have j9 := hP3.q.fin
    rw [x5] at j5
    rw [x8] at j6
    rw [x7] at j9
    go_wp2_with fail
    refine hK.out _ _ ?_ (fun hHeld2 => ?_)
    ·exact ⟨j5, j2, j9, j6⟩
    clear hK K hHeld
    have hHeld := hHeld2
    clear hHeld2
    try simp only [Act.put, List.setIfInBounds_toArray, List.set_cons_zero, List.set_cons_succ]
    refine tk (i := 17) (v := ?_) (hy := Or.inl ⟨by rfl, ?_⟩) (hS := hHeld) (h := ?_)
    rotate_left
    ·intro w hSw
     try dsimp only at hSw
     go_simp
     all_goals with_reducible rfl
    try simp only [Act.put, List.setIfInBounds_toArray, List.set_cons_zero, List.set_cons_succ]
    refine wpAnyH_calm (by kernel_rfl) ?_ _
    clear hHeld cs j2 j5 j6 j9 k2 k5 k6 k9
    obtain ⟨X1, X2, n3⟩ := X
    simp only at hP3 HF x6 ⊢
    have j7 := hP3.q.cells.2.2.2.2.2.2.2.1
    have jf := hP3.q.cells.2.2.2.2.2.2.2.2.2
    rw [x6, HA.out] at j7
    by_cases h9 : n3 = 0
    ·subst h9
     have hk5 : Kept [y] w3 (w3.setCell ⟨y, 7, none⟩ (.bool false)) := Kept.setCell (by simp) _
     have hP5 := hP3.put (s' := { X1 with added := false }) hk5 rfl rfl rfl (heap_set hP3.q.head 7 _)
     clear x5 x6 x7 x8
     go_wp2_with fail
     go_ret
     rw [HF.out]
     exact .of hP5 (hs4.trans (.own hk5))
    ·have hnb : (n3 != 0) = true := by simpa using h9
     have H9 := Lib.hid h9
     have X6 := Lib.hid x6
     clear h9 x5 x6 x7 x8
     go_wp2_with fail
     go_ret
     rw [HF.out]
     refine .of (B' := B3) ?_ hs4
     have e9 : ({ X1 with added := decide (n3 ≠ 0) } : Sp) = X1 := by
      rw [show decide (n3 ≠ 0) = X1.added by rw [X6.out, HA.out]; simpa using H9.out]
     rw [e9]
     exact hP3
   ·have hnb : (q2 != 0) = true := by simpa using h0
    have hfin := E1.out
    rw [if_pos h0] at hfin
    have HF := Lib.hid hfin
    clear hfin h0 E1
    go_wp2_with fail
    go_ret
    rw [HF.out]
    exact .of hP2 hs2
end
end Go.Proofs.YtbnflbkaogpnbaaGreat
