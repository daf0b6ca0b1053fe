/- muslinlaw13.awake. -/
import Derived.Test.YtbnflbkaogpnbaaI5
import Derived.Lib.SlBytesConst
namespace Go.Proofs.Ytbnflbkaogpnbaa
set_option linter.unusedVariables false
open Go.RowKit

theorem lit_sl (W : World) (xs : List UInt8) (t : TypeId) (h : xs.length ≤ 1000) : SlAt (W.alloc (.cells (u8vs xs).toArray t)) (some ⟨W.heap.size, 0, none⟩) xs.length xs.length (u8vs xs) :=
  SlAt.blk (heap_alloc_new _ _) (by simp [u8vs]) (by unfold maxLen; omega)

theorem lit_conv (W : World) (xs : List UInt8) (h : xs.length ≤ 1000) : ∃ W', (convert 34 34 (.slice (some ⟨W.heap.size, 0, none⟩) xs.length xs.length)).run Try.prog (W.alloc (.cells (u8vs xs).toArray 5)) = .ok (.slice (some ⟨W.heap.size, 0, none⟩) xs.length xs.length) W' ∧ Kept [] W W' ∧ SlAt W' (some ⟨W.heap.size, 0, none⟩) xs.length xs.length (u8vs xs) ∧ W.heap.size < W'.heap.size :=
  ⟨_, Lib.run_convert_bytes_const W 34 5 (u8vs xs).toArray xs.length xs.length Try.underlying34 Try.underlying5, Kept.alloc [] _ _, SlAt.blk (heap_alloc_new _ _) (by simp [u8vs]) (by unfold maxLen; omega), by simp⟩

theorem SpK.fresh {w0 w : World} {y a : Nat} {F : List Nat} {f each half : Nat} {now sure : List (List UInt8)} {N t W : Nat} (h : SpK w0 w y a F f each half now sure N t W) {j : Nat} (hj : w.heap.size ≤ j) : j ∉ F := fun hm => by have := h.lt j hm; omega

theorem texts_c (W : World) : Calls Try.prog 64 #[.slice (some ⟨W.heap.size, 0, none⟩) 1 1] (W.alloc (.cells #[.string ⟨#[99]⟩] 9)) (TxPost (W.alloc (.cells #[.string ⟨#[99]⟩] 9)) [[99]]) := by
  have hl : (W.alloc (.cells #[.string ⟨#[99]⟩] 9)).heap[W.heap.size]? = some (.cells #[.string ⟨#[99]⟩] 9 (0, 0)) := heap_alloc_new _ _
  exact texts13_any (W.alloc (.cells #[.string ⟨#[99]⟩] 9)) W.heap.size 0 1 1 [[99]] rfl (by omega) (by omega) (by omega) (by decide) (by simp) (fun i s hs => by
    rw [blk_cell hl, Nat.zero_add]
    match i, hs with
    | 0, hs => cases hs; rfl
    | i + 1, hs => simp at hs)

set_option maxHeartbeats 4000000 in
set_option maxRecDepth 100000 in
theorem awake13_any (w : World) : Calls Try.prog 63 #[] w (TruePost w) := by
  go_enter Try.func63, Try.ntmps63
  go_wp2_with fail
  refine (new_any 10 _ (by omega) (by omega)).mono ?_
  rintro e w1 ⟨a, f1, rfl, hD1, hA1, hN1⟩
  go_wp2_with fail
  refine (spk_new (n := 10) (f := 0) (sectors := 10) (each := 4) hD1 hA1 hN1 (by omega) rfl (by omega)).mono ?_
  rintro e w2 ⟨y, F, A2, c2, rfl, h2⟩
  clear hD1 hA1 hN1
  obtain ⟨v2, hv2, kv2, sv2, -⟩ := lit_conv w2 [97] (by simp)
  have ca := (h2.next kv2).append (by omega) (by simp) (some ⟨w2.heap.size, 0, none⟩) 1 1 [97] sv2 (fun e => by cases e) (fun p e _ => by cases e; exact h2.fresh (Nat.le_refl _)) (by simp) (by simp [recs_nil])
  replace hv2 : (convert 34 34 (.slice (some ⟨w2.heap.size, 0, none⟩) 1 1)).run Try.prog (w2.alloc (.cells #[.int .u8 97] 5)) = .ok (.slice (some ⟨w2.heap.size, 0, none⟩) 1 1) v2 := hv2
  go_wp2_with fail
  refine ca.mono ?_
  rintro e w3 ⟨rfl, F3, h3, -⟩
  clear ca h2 hv2 kv2 sv2
  obtain ⟨v3, hv3, kv3, sv3, -⟩ := lit_conv w3 [98] (by simp)
  have cb := (h3.next kv3).append (by simp) (by simp) (some ⟨w3.heap.size, 0, none⟩) 1 1 [98] sv3 (fun e => by cases e) (fun p e _ => by cases e; exact h3.fresh (Nat.le_refl _)) (by simp) (by decide)
  replace hv3 : (convert 34 34 (.slice (some ⟨w3.heap.size, 0, none⟩) 1 1)).run Try.prog (w3.alloc (.cells #[.int .u8 98] 5)) = .ok (.slice (some ⟨w3.heap.size, 0, none⟩) 1 1) v3 := hv3
  go_wp2_with fail
  refine cb.mono ?_
  rintro e w4 ⟨rfl, F4, h4, -⟩
  clear cb h3 hv3 kv3 sv3
  have c4 := h4.len
  go_wp2_with fail
  refine c4.mono ?_
  rintro e w5 ⟨rfl, F5, h5, -⟩
  clear c4 h4
  have c5 := h5.left
  rw [show (128 * ((4 : Nat) : Int) - (((recs (([] : List (List UInt8)) ++ [[97]] ++ [[98]])).length : Nat) : Int)) = 496 by decide] at c5
  go_wp2_with fail
  refine c5.mono ?_
  rintro e w6 ⟨rfl, F6, h6, -⟩
  clear c5 h5
  have c6 := h6.opens none 0 0 [] (BytessAt.nil w6) rfl
  go_wp2_with fail
  refine c6.mono ?_
  rintro e w7 ⟨rfl, k7⟩
  have h7 := h6.next k7
  clear c6 h6
  have c7 := h7.flush (by simp) (by simp) (by omega)
  go_wp2_with fail
  refine c7.mono ?_
  rintro e w8 ⟨rfl, F8, h8, -⟩
  clear c7 h7
  have h9 := h8.next (Kept.alloc [] w8 (.cells #[.string ⟨#[97]⟩, .string ⟨#[98]⟩] 9))
  have hl8 : (w8.alloc (.cells #[.string ⟨#[97]⟩, .string ⟨#[98]⟩] 9)).heap[w8.heap.size]? = some (.cells #[.string ⟨#[97]⟩, .string ⟨#[98]⟩] 9 (0, 0)) := heap_alloc_new _ _
  have ct := texts13_any (w8.alloc (.cells #[.string ⟨#[97]⟩, .string ⟨#[98]⟩] 9)) w8.heap.size 0 2 2 [[97], [98]] rfl (by omega) (by omega) (by omega) (by decide) (by simp) (fun i s hs => by
    rw [blk_cell hl8, Nat.zero_add]
    match i, hs with
    | 0, hs => cases hs; rfl
    | 1, hs => cases hs; rfl
    | i + 2, hs => simp at hs)
  go_wp2_with fail
  refine ct.mono ?_
  rintro e w10 ⟨A10, c10, ps10, rfl, k10, hB10, ht10, -, -⟩
  have h10 := h9.next k10
  have co10 := h10.opens A10 2 c10 ps10 hB10 ht10
  clear ct h8 h9 hl8 hB10 ht10
  go_wp2_with fail
  refine co10.mono ?_
  rintro e w11 ⟨rfl, k11⟩
  have h11 := h10.next k11
  clear co10 h10 k10 k11
  have h12 := h11.next (Kept.alloc [] w11 (.cells #[.string ⟨#[99]⟩] 9))
  have ct := texts_c w11
  go_wp2_with fail
  refine ct.mono ?_
  rintro e w13 ⟨A13, c13, ps13, rfl, k13, hB13, ht13, hA13, hp13⟩
  have h13 := h12.next k13
  have cr := h13.replace (by simp) (by omega) A13 1 c13 ps13 hB13 (by rw [ht13]; intro b hb; simp at hb; subst hb; simp) (by omega) (fun p e _ => h12.fresh (hA13 p e)) (fun q hq p e _ => h12.fresh (hp13 q hq p e)) (by rw [ht13]; decide)
  rw [ht13] at cr
  clear ct h11 h12 hB13 ht13 hA13 hp13
  go_wp2_with fail
  refine cr.mono ?_
  rintro e w14 ⟨rfl, F14, h14, -⟩
  clear cr h13
  have c14 := h14.half_
  rw [show (((1 - 0 : Nat) : Nat) : Int) = 1 from rfl] at c14
  go_wp2_with fail
  refine c14.mono ?_
  rintro e w15 ⟨rfl, F15, h15, -⟩
  clear c14 h14
  have c15 := h15.left
  rw [show (128 * ((4 : Nat) : Int) - (((recs [[99]]).length : Nat) : Int)) = 504 by decide] at c15
  go_wp2_with fail
  refine c15.mono ?_
  rintro e w16 ⟨rfl, F16, h16, -⟩
  clear c15 h15
  have h17 := h16.next (Kept.alloc [] w16 (.cells #[.string ⟨#[99]⟩] 9))
  have ct := texts_c w16
  go_wp2_with fail
  refine ct.mono ?_
  rintro e w18 ⟨A18, c18, ps18, rfl, k18, hB18, ht18, -, -⟩
  have h18 := h17.next k18
  have co := h18.opens A18 1 c18 ps18 hB18 ht18
  clear ct h16 h17 hB18 ht18
  go_wp2_with fail
  refine co.mono ?_
  rintro e w19 ⟨rfl, k19⟩
  have h19 := h18.next k19
  clear co h18 k18 k19 k13
  obtain ⟨j0, hj0, ju0, ju1, ju2⟩ := info_parts info_u8
  have hmk := fun wx : World => run_make (P := Try.prog) wx 34 5 j0 _ Try.underlying34 hj0 ju0 .i64 .i64 170 170 (by omega) (Int.le_refl _) (by rw [ju2]; omega) (by omega)
  have hmk2 := fun wx : World => run_make (P := Try.prog) wx 34 5 j0 _ Try.underlying34 hj0 ju0 .i64 .i64 498 498 (by omega) (Int.le_refl _) (by rw [ju2]; omega) (by omega)
  simp only [ju1, show Int.toNat 170 = 170 from rfl, show Int.toNat 498 = 498 from rfl, Nat.mul_one, show (Value.int .u8 0).cells = #[.int .u8 0] from rfl] at hmk hmk2
  have hz19 := h19
  obtain ⟨sv, dv, hsp, hcl, _⟩ := hz19
  obtain ⟨fpv, hDv, _⟩ := hsp.at_.dv
  have hlen := hcl.len
  have cf := spool_few hDv (by obtain ⟨q, hq⟩ := hcl.inv; exact hq.live.dead) (by omega)
  go_wp2_with fail
  refine cf.mono ?_
  rintro e w20 ⟨rfl, k20⟩
  clear cf hDv hsp hcl hlen
  have h20 := h19.next k20
  obtain ⟨Z1, hZ1⟩ : ∃ Z : List UInt8, Z = List.replicate 170 0 := ⟨_, rfl⟩
  obtain ⟨Z4, hZ4⟩ : ∃ Z : List UInt8, Z = List.replicate 498 0 := ⟨_, rfl⟩
  have lZ1 : Z1.length = 170 := by rw [hZ1, List.length_replicate]
  have lZ4 : Z4.length = 498 := by rw [hZ4, List.length_replicate]
  have su1 : SlAt (w20.alloc (.cells (madeCells #[.int .u8 0] 170) 5)) (some ⟨w20.heap.size, 0, none⟩) 170 170 (u8vs Z1) := by rw [hZ1]; exact made_sl w20 170 (by unfold maxLen; omega)
  have ku1 := Kept.alloc [] w20 (.cells (madeCells #[.int .u8 0] 170) 5)
  have ku2 := Kept.alloc [] (w20.alloc (.cells (madeCells #[.int .u8 0] 170) 5)) (.cells (madeCells #[.int .u8 0] 498) 5)
  have su2 : SlAt ((w20.alloc (.cells (madeCells #[.int .u8 0] 170) 5)).alloc (.cells (madeCells #[.int .u8 0] 498) 5)) (some ⟨w20.heap.size + 1, 0, none⟩) 498 498 (u8vs Z4) := by
    have := made_sl (w20.alloc (.cells (madeCells #[.int .u8 0] 170) 5)) 498 (by unfold maxLen; omega)
    rw [hZ4]
    simpa using this
  clear hZ1 hZ4 h19
  have h22 := (h20.next ku1).next ku2
  have cfu := h22.full (by simp [allSize]) (by simp) (some ⟨w20.heap.size + 1, 0, none⟩) 498 498 Z4 su2 (fun e => by cases e) (fun p e _ => by cases e; exact (h20.next ku1).fresh (by simp)) (by omega) (by show 128 * 4 < (recs [[99]]).length + _; rw [show (recs [[99]]).length = 8 by decide]; omega)
  go_wp2_with fail
  refine cfu.mono ?_
  rintro e w23 ⟨rfl, F23, h23, st23⟩
  have su3 : SlAt w23 (some ⟨w20.heap.size, 0, none⟩) 170 170 (u8vs Z1) := (su1.kept ku2 (by simp)).kept st23.kept (fun p e => by cases e; exact h20.fresh (Nat.le_refl _))
  have hne23 : w20.heap.size ∉ F23 := fun hm => by
    rcases st23.new _ hm with e | e
    · exact h20.fresh (Nat.le_refl _) e
    · simp at e; omega
  clear cfu h22 h20 su1 su2 hmk hmk2
  have h24 := h23.next (Kept.alloc [] w23 (.cells #[.slice (some ⟨w20.heap.size, 0, none⟩) 170 170, .slice (some ⟨w20.heap.size, 0, none⟩) 170 170, .slice (some ⟨w20.heap.size, 0, none⟩) 170 170] 34))
  have hl24 : (w23.alloc (.cells #[.slice (some ⟨w20.heap.size, 0, none⟩) 170 170, .slice (some ⟨w20.heap.size, 0, none⟩) 170 170, .slice (some ⟨w20.heap.size, 0, none⟩) 170 170] 34)).heap[w23.heap.size]? = _ := heap_alloc_new _ _
  have su4 := su3.kept (Kept.alloc [] w23 (.cells #[.slice (some ⟨w20.heap.size, 0, none⟩) 170 170, .slice (some ⟨w20.heap.size, 0, none⟩) 170 170, .slice (some ⟨w20.heap.size, 0, none⟩) 170 170] 34)) (by simp)
  obtain ⟨P, hP⟩ : ∃ P : Part, P = ⟨some ⟨w20.heap.size, 0, none⟩, 170, 170, Z1⟩ := ⟨_, rfl⟩
  have hPP : ∀ q ∈ [P, P, P], q = P := fun q hq => by simp at hq; exact hq
  have hB24 : BytessAt (w23.alloc (.cells #[.slice (some ⟨w20.heap.size, 0, none⟩) 170 170, .slice (some ⟨w20.heap.size, 0, none⟩) 170 170, .slice (some ⟨w20.heap.size, 0, none⟩) 170 170] 34)) (some ⟨w23.heap.size, 0, none⟩) 3 3 [P, P, P] :=
    ⟨rfl, by omega, by unfold maxLen; omega, fun q hq => by rw [hPP q hq, hP]; exact ⟨su4, fun e => by cases e⟩, fun _ => ⟨w23.heap.size, 0, rfl, by simp, fun i p hp => by
      rw [blk_cell hl24, Nat.zero_add]
      match i, hp with
      | 0, hp => cases hp; rw [hP]; rfl
      | 1, hp => cases hp; rw [hP]; rfl
      | 2, hp => cases hp; rw [hP]; rfl
      | i + 3, hp => simp at hp⟩⟩
  have hPx : P.xs.length = 170 := by rw [hP]; exact lZ1
  have hsm24 : Small (texts [P, P, P]) := fun b hb => by
    obtain ⟨q, hq, rfl⟩ := List.mem_map.1 hb
    rw [hPP q hq, hPx]; omega
  have has24 : allSize (texts [P, P, P]) = 531 := by simp only [texts, allSize, List.map_cons, List.map_nil, List.sum_cons, List.sum_nil, hPx]; rfl
  have cg := h24.great (by simp [allSize]) (by omega) (some ⟨w23.heap.size, 0, none⟩) 3 3 [P, P, P] hB24 hsm24 (by omega) (fun p e _ => by cases e; exact h23.fresh (Nat.le_refl _)) (fun q hq p e _ => by rw [hPP q hq, hP] at e; cases e; exact hne23) (by rw [has24]; omega)
  clear hB24 su4 su3 hl24
  go_wp2_with fail
  refine cg.mono ?_
  rintro e w25 ⟨rfl, F25, h25, -⟩
  clear cg h24 h23
  have h26 := h25.next (Kept.alloc [] w25 (.cells #[.string ⟨#[99]⟩] 9))
  have ct := texts_c w25
  go_wp2_with fail
  refine ct.mono ?_
  rintro e w27 ⟨A27, c27, ps27, rfl, k27, hB27, ht27, -, -⟩
  have h27 := h26.next k27
  have co := h27.opens A27 1 c27 ps27 hB27 ht27
  clear ct h25 h26 hB27 ht27
  go_wp2_with fail
  refine co.mono ?_
  rintro e w28 ⟨rfl, k28⟩
  go_wp2_with fail
  go_ret
  exact ⟨rfl, (h27.next k28).kept⟩
end Go.Proofs.Ytbnflbkaogpnbaa
