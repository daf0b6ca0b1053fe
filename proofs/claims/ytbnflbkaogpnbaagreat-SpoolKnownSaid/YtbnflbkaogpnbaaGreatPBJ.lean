/- Texts in one: I6 L1 KK HC KM. -/
import Derived.Test.YtbnflbkaogpnbaaGreatPBI
import Derived.Lib.SlBytesConst
import Derived.Test.YtbnflbkaogpnbaaGreatPAI
import Derived.Deep.AppendLies
import Derived.Test.YtbnflbkaogpnbaaGreatPAV
import Derived.Test.YtbnflbkaogpnbaaGreatPAQ
import Derived.Laws.OwnMore
import Derived.Test.YtbnflbkaogpnbaaGreatPBH
import Derived.Test.YtbnflbkaogpnbaaGreatPAN
namespace Go.Proofs.YtbnflbkaogpnbaaGreat
set_option linter.unusedVariables false
open Go.RowKit
theorem lit_conv (W : World) (xs : List UInt8) (h : xs.length ≤ 1000) : ∃ W', (convert 45 45 (.slice (some ⟨W.heap.size, 0, none⟩) xs.length xs.length)).run Tryz.prog (W.alloc (.cells (u8vs xs).toArray 5)) = .ok (.slice (some ⟨W.heap.size, 0, none⟩) xs.length xs.length) W' ∧ Kept [] W W' ∧ SlAt W' (some ⟨W.heap.size, 0, none⟩) xs.length xs.length (u8vs xs) ∧ W.heap.size < W'.heap.size :=
 ⟨_, Lib.run_convert_bytes_const W 45 5 (u8vs xs).toArray xs.length xs.length Tryz.underlying45 Tryz.underlying5, Kept.alloc [] _ _, SlAt.blk (heap_alloc_new _ _) (by simp [u8vs]) (by unfold maxLen; omega), by simp⟩
theorem SpK.fresh {w0 w : World} {y a : Nat} {F : List Nat} {f each half : Nat} {now sure : List (List UInt8)} {N t W : Nat} (h : SpK w0 w y a F f each half now sure N t W) {j : Nat} (hj : w.heap.size ≤ j) : j ∉ F := fun hm => by have := h.lt j hm; omega
theorem texts_c (W : World) : Calls Tryz.prog 14 #[.slice (some ⟨W.heap.size, 0, none⟩) 1 1] (W.alloc (.cells #[.string ⟨#[99]⟩] 9)) (TxPost (W.alloc (.cells #[.string ⟨#[99]⟩] 9)) [[99]]) := by
 have hl : (W.alloc (.cells #[.string ⟨#[99]⟩] 9)).heap[W.heap.size]? = some (.cells #[.string ⟨#[99]⟩] 9 (0, 0)) := heap_alloc_new _ _
 exact texts13_any (W.alloc (.cells #[.string ⟨#[99]⟩] 9)) W.heap.size 0 1 1 [[99]] rfl (by omega) (by omega) (by omega) (by decide) (by simp) (fun i s hs => by
  rw [blk_cell hl, Nat.zero_add]
  match i, hs with
  | 0, hs => cases hs; rfl
  | i + 1, hs => simp at hs)
set_option maxHeartbeats 4000000 in
set_option maxRecDepth 100000 in
theorem awake13_any (w : World) : Calls Tryz.prog 16 #[] w (TruePost w) := by
 go_enter Tryz.func16, Tryz.ntmps16
 go_wp2_with fail
 refine (new_any 10 _ (by omega) (by omega)).mono ?_
 rintro e w1 ⟨a, f1, rfl, hD1, hA1, hN1⟩
 go_wp2_with fail
 refine (spk_new (n := 10) (f := 0) (sectors := 10) (each := 4) hD1 hA1 hN1 (by omega) rfl (by omega)).mono ?_
 rintro e w2 ⟨y, F, A2, c2, rfl, h2⟩
 clear hD1 hA1 hN1
 obtain ⟨v2, hv2, kv2, sv2, -⟩ := lit_conv w2 [97] (by simp)
 have ca := (h2.next kv2).append (by omega) (by simp) (some ⟨w2.heap.size, 0, none⟩) 1 1 [97] sv2 (fun e => by cases e) (fun p e _ => by cases e; exact h2.fresh (Nat.le_refl _)) (by simp) (by simp [recs_nil])
 replace hv2 : (convert 45 45 (.slice (some ⟨w2.heap.size, 0, none⟩) 1 1)).run Tryz.prog (w2.alloc (.cells #[.int .u8 97] 5)) = .ok (.slice (some ⟨w2.heap.size, 0, none⟩) 1 1) v2 := hv2
 go_wp2_with fail
 refine ca.mono ?_
 rintro e w3 ⟨rfl, F3, h3, -⟩
 clear ca h2 hv2 kv2 sv2
 obtain ⟨v3, hv3, kv3, sv3, -⟩ := lit_conv w3 [98] (by simp)
 have cb := (h3.next kv3).append (by simp) (by simp) (some ⟨w3.heap.size, 0, none⟩) 1 1 [98] sv3 (fun e => by cases e) (fun p e _ => by cases e; exact h3.fresh (Nat.le_refl _)) (by simp) (by decide)
 replace hv3 : (convert 45 45 (.slice (some ⟨w3.heap.size, 0, none⟩) 1 1)).run Tryz.prog (w3.alloc (.cells #[.int .u8 98] 5)) = .ok (.slice (some ⟨w3.heap.size, 0, none⟩) 1 1) v3 := hv3
 go_wp2_with fail
 refine cb.mono ?_
 rintro e w4 ⟨rfl, F4, h4, -⟩
 clear cb h3 hv3 kv3 sv3
 have c4 := h4.len
 go_wp2_with fail
 refine c4.mono ?_
 rintro e w5 ⟨rfl, F5, h5, -⟩
 clear c4 h4
 have c5 := h5.left
 rw [show (128 * ((4 : Nat) : Int) - (((recs (([] : List (List UInt8)) ++ [[97]] ++ [[98]])).length : Nat) : Int)) = 496 by decide] at c5
 go_wp2_with fail
 refine c5.mono ?_
 rintro e w6 ⟨rfl, F6, h6, -⟩
 clear c5 h5
 have c6 := h6.opens none 0 0 [] (BytessAt.nil w6) rfl
 go_wp2_with fail
 refine c6.mono ?_
 rintro e w7 ⟨rfl, k7⟩
 have h7 := h6.next k7
 clear c6 h6
 have c7 := h7.flush (by simp) (by simp) (by omega)
 go_wp2_with fail
 refine c7.mono ?_
 rintro e w8 ⟨rfl, F8, h8, -⟩
 clear c7 h7
 have h9 := h8.next (Kept.alloc [] w8 (.cells #[.string ⟨#[97]⟩, .string ⟨#[98]⟩] 9))
 have hl8 : (w8.alloc (.cells #[.string ⟨#[97]⟩, .string ⟨#[98]⟩] 9)).heap[w8.heap.size]? = some (.cells #[.string ⟨#[97]⟩, .string ⟨#[98]⟩] 9 (0, 0)) := heap_alloc_new _ _
 have ct := texts13_any (w8.alloc (.cells #[.string ⟨#[97]⟩, .string ⟨#[98]⟩] 9)) w8.heap.size 0 2 2 [[97], [98]] rfl (by omega) (by omega) (by omega) (by decide) (by simp) (fun i s hs => by
  rw [blk_cell hl8, Nat.zero_add]
  match i, hs with
  | 0, hs => cases hs; rfl
  | 1, hs => cases hs; rfl
  | i + 2, hs => simp at hs)
 go_wp2_with fail
 refine ct.mono ?_
 rintro e w10 ⟨A10, c10, ps10, rfl, k10, hB10, ht10, -, -⟩
 have h10 := h9.next k10
 have co10 := h10.opens A10 2 c10 ps10 hB10 ht10
 clear ct h8 h9 hl8 hB10 ht10
 go_wp2_with fail
 refine co10.mono ?_
 rintro e w11 ⟨rfl, k11⟩
 have h11 := h10.next k11
 clear co10 h10 k10 k11
 have h12 := h11.next (Kept.alloc [] w11 (.cells #[.string ⟨#[99]⟩] 9))
 have ct := texts_c w11
 go_wp2_with fail
 refine ct.mono ?_
 rintro e w13 ⟨A13, c13, ps13, rfl, k13, hB13, ht13, hA13, hp13⟩
 have h13 := h12.next k13
 have cr := h13.replace (by simp) (by omega) A13 1 c13 ps13 hB13 (by rw [ht13]; intro b hb; simp at hb; subst hb; simp) (by omega) (fun p e _ => h12.fresh (hA13 p e)) (fun q hq p e _ => h12.fresh (hp13 q hq p e)) (by rw [ht13]; decide)
 rw [ht13] at cr
 clear ct h11 h12 hB13 ht13 hA13 hp13
 go_wp2_with fail
 refine cr.mono ?_
 rintro e w14 ⟨rfl, F14, h14, -⟩
 clear cr h13
 have c14 := h14.half_
 rw [show (((1 - 0 : Nat) : Nat) : Int) = 1 from rfl] at c14
 go_wp2_with fail
 refine c14.mono ?_
 rintro e w15 ⟨rfl, F15, h15, -⟩
 clear c14 h14
 have c15 := h15.left
 rw [show (128 * ((4 : Nat) : Int) - (((recs [[99]]).length : Nat) : Int)) = 504 by decide] at c15
 go_wp2_with fail
 refine c15.mono ?_
 rintro e w16 ⟨rfl, F16, h16, -⟩
 clear c15 h15
 have h17 := h16.next (Kept.alloc [] w16 (.cells #[.string ⟨#[99]⟩] 9))
 have ct := texts_c w16
 go_wp2_with fail
 refine ct.mono ?_
 rintro e w18 ⟨A18, c18, ps18, rfl, k18, hB18, ht18, -, -⟩
 have h18 := h17.next k18
 have co := h18.opens A18 1 c18 ps18 hB18 ht18
 clear ct h16 h17 hB18 ht18
 go_wp2_with fail
 refine co.mono ?_
 rintro e w19 ⟨rfl, k19⟩
 have h19 := h18.next k19
 clear co h18 k18 k19 k13
 obtain ⟨j0, hj0, ju0, ju1, ju2⟩ := info_parts info_u8
 have hmk := fun wx : World => run_make (P := Tryz.prog) wx 45 5 j0 _ Tryz.underlying45 hj0 ju0 .i64 .i64 170 170 (by omega) (Int.le_refl _) (by rw [ju2]; omega) (by omega)
 have hmk2 := fun wx : World => run_make (P := Tryz.prog) wx 45 5 j0 _ Tryz.underlying45 hj0 ju0 .i64 .i64 498 498 (by omega) (Int.le_refl _) (by rw [ju2]; omega) (by omega)
 simp only [ju1, show Int.toNat 170 = 170 from rfl, show Int.toNat 498 = 498 from rfl, Nat.mul_one, show (Value.int .u8 0).cells = #[.int .u8 0] from rfl] at hmk hmk2
 have hz19 := h19
 obtain ⟨sv, dv, hsp, hcl, _⟩ := hz19
 obtain ⟨fpv, hDv, _⟩ := hsp.at_.dv
 have hlen := hcl.len
 have cf := spool_few hDv (by obtain ⟨q, hq⟩ := hcl.inv; exact hq.live.dead) (by omega)
 go_wp2_with fail
 refine cf.mono ?_
 rintro e w20 ⟨rfl, k20⟩
 clear cf hDv hsp hcl hlen
 have h20 := h19.next k20
 obtain ⟨Z1, hZ1⟩ : ∃ Z : List UInt8, Z = List.replicate 170 0 := ⟨_, rfl⟩
 obtain ⟨Z4, hZ4⟩ : ∃ Z : List UInt8, Z = List.replicate 498 0 := ⟨_, rfl⟩
 have lZ1 : Z1.length = 170 := by rw [hZ1, List.length_replicate]
 have lZ4 : Z4.length = 498 := by rw [hZ4, List.length_replicate]
 have su1 : SlAt (w20.alloc (.cells (madeCells #[.int .u8 0] 170) 5)) (some ⟨w20.heap.size, 0, none⟩) 170 170 (u8vs Z1) := by rw [hZ1]; exact made_sl w20 170 (by unfold maxLen; omega)
 have ku1 := Kept.alloc [] w20 (.cells (madeCells #[.int .u8 0] 170) 5)
 have ku2 := Kept.alloc [] (w20.alloc (.cells (madeCells #[.int .u8 0] 170) 5)) (.cells (madeCells #[.int .u8 0] 498) 5)
 have su2 : SlAt ((w20.alloc (.cells (madeCells #[.int .u8 0] 170) 5)).alloc (.cells (madeCells #[.int .u8 0] 498) 5)) (some ⟨w20.heap.size + 1, 0, none⟩) 498 498 (u8vs Z4) := by
  have := made_sl (w20.alloc (.cells (madeCells #[.int .u8 0] 170) 5)) 498 (by unfold maxLen; omega)
  rw [hZ4]
  simpa using this
 clear hZ1 hZ4 h19
 have h22 := (h20.next ku1).next ku2
 have cfu := h22.full (by simp [allSize]) (by simp) (some ⟨w20.heap.size + 1, 0, none⟩) 498 498 Z4 su2 (fun e => by cases e) (fun p e _ => by cases e; exact (h20.next ku1).fresh (by simp)) (by omega) (by show 128 * 4 < (recs [[99]]).length + _; rw [show (recs [[99]]).length = 8 by decide]; omega)
 go_wp2_with fail
 refine cfu.mono ?_
 rintro e w23 ⟨rfl, F23, h23, st23⟩
 have su3 : SlAt w23 (some ⟨w20.heap.size, 0, none⟩) 170 170 (u8vs Z1) := (su1.kept ku2 (by simp)).kept st23.kept (fun p e => by cases e; exact h20.fresh (Nat.le_refl _))
 have hne23 : w20.heap.size ∉ F23 := fun hm => by
  rcases st23.new _ hm with e | e
  ·exact h20.fresh (Nat.le_refl _) e
  ·simp at e; omega
 clear cfu h22 h20 su1 su2 hmk hmk2
 have h24 := h23.next (Kept.alloc [] w23 (.cells #[.slice (some ⟨w20.heap.size, 0, none⟩) 170 170, .slice (some ⟨w20.heap.size, 0, none⟩) 170 170, .slice (some ⟨w20.heap.size, 0, none⟩) 170 170] 45))
 have hl24 : (w23.alloc (.cells #[.slice (some ⟨w20.heap.size, 0, none⟩) 170 170, .slice (some ⟨w20.heap.size, 0, none⟩) 170 170, .slice (some ⟨w20.heap.size, 0, none⟩) 170 170] 45)).heap[w23.heap.size]? = _ := heap_alloc_new _ _
 have su4 := su3.kept (Kept.alloc [] w23 (.cells #[.slice (some ⟨w20.heap.size, 0, none⟩) 170 170, .slice (some ⟨w20.heap.size, 0, none⟩) 170 170, .slice (some ⟨w20.heap.size, 0, none⟩) 170 170] 45)) (by simp)
 obtain ⟨P, hP⟩ : ∃ P : Part, P = ⟨some ⟨w20.heap.size, 0, none⟩, 170, 170, Z1⟩ := ⟨_, rfl⟩
 have hPP : ∀ q ∈ [P, P, P], q = P := fun q hq => by simp at hq; exact hq
 have hB24 : BytessAt (w23.alloc (.cells #[.slice (some ⟨w20.heap.size, 0, none⟩) 170 170, .slice (some ⟨w20.heap.size, 0, none⟩) 170 170, .slice (some ⟨w20.heap.size, 0, none⟩) 170 170] 45)) (some ⟨w23.heap.size, 0, none⟩) 3 3 [P, P, P] :=
  ⟨rfl, by omega, by unfold maxLen; omega, fun q hq => by rw [hPP q hq, hP]; exact ⟨su4, fun e => by cases e⟩, fun _ => ⟨w23.heap.size, 0, rfl, by simp, fun i p hp => by
   rw [blk_cell hl24, Nat.zero_add]
   match i, hp with
   | 0, hp => cases hp; rw [hP]; rfl
   | 1, hp => cases hp; rw [hP]; rfl
   | 2, hp => cases hp; rw [hP]; rfl
   | i + 3, hp => simp at hp⟩⟩
 have hPx : P.xs.length = 170 := by rw [hP]; exact lZ1
 have hsm24 : Small (texts [P, P, P]) := fun b hb => by
  obtain ⟨q, hq, rfl⟩ := List.mem_map.1 hb
  rw [hPP q hq, hPx]; omega
 have has24 : allSize (texts [P, P, P]) = 531 := by simp only [texts, allSize, List.map_cons, List.map_nil, List.sum_cons, List.sum_nil, hPx]; rfl
 have cg := h24.great (by simp [allSize]) (by omega) (some ⟨w23.heap.size, 0, none⟩) 3 3 [P, P, P] hB24 hsm24 (by omega) (fun p e _ => by cases e; exact h23.fresh (Nat.le_refl _)) (fun q hq p e _ => by rw [hPP q hq, hP] at e; cases e; exact hne23) (by rw [has24]; omega)
 clear hB24 su4 su3 hl24
 go_wp2_with fail
 refine cg.mono ?_
 rintro e w25 ⟨rfl, F25, h25, -⟩
 clear cg h24 h23
 have h26 := h25.next (Kept.alloc [] w25 (.cells #[.string ⟨#[99]⟩] 9))
 have ct := texts_c w25
 go_wp2_with fail
 refine ct.mono ?_
 rintro e w27 ⟨A27, c27, ps27, rfl, k27, hB27, ht27, -, -⟩
 have h27 := h26.next k27
 have co := h27.opens A27 1 c27 ps27 hB27 ht27
 clear ct h25 h26 hB27 ht27
 go_wp2_with fail
 refine co.mono ?_
 rintro e w28 ⟨rfl, k28⟩
 go_wp2_with fail
 go_ret
 exact ⟨rfl, (h27.next k28).kept⟩
end Go.Proofs.YtbnflbkaogpnbaaGreat
namespace Go.Proofs.YtbnflbkaogpnbaaGreat
set_option linter.unusedVariables false
open Go.RowKit
theorem BytessAt.ltA {w : World} {A : Option Addr} {n c : Nat} {ps : List Part} (h : BytessAt w A n c ps) (p : Addr) (e : A = some p) (hn : 0 < n) : p.block < w.heap.size := by
 obtain ⟨b, o, e2, hb, _⟩ := h.cells hn
 rw [e] at e2
 cases e2
 exact hb
section
variable {w w' : World} {F F' : List Nat} {v : Value} {l : List (List UInt8)}
end
end Go.Proofs.YtbnflbkaogpnbaaGreat
namespace Go.Proofs.YtbnflbkaogpnbaaGreat
set_option linter.unusedVariables false
open Go.RowKit
/-- What copies does. -/
def CpPost (w : World) (n : Nat) (l : List (List UInt8)) (e : Ending) (w' : World) : Prop :=
 ∃ A c qs, e = .returned (.slice A n c) ∧ Kept [] w w' ∧ BytessAt w' A n c qs ∧ texts qs = l ∧ (∀ p, A = some p → w.heap.size ≤ p.block) ∧ ∀ q ∈ qs, ∀ p, q.A = some p → w.heap.size ≤ p.block
set_option maxHeartbeats 2000000 in
set_option maxRecDepth 100000 in
theorem copies13_any (w : World) (A : Option Addr) (n c : Nat) (ls : List Part) (hB : BytessAt w A n c ls) (hn : n ≤ 1000) (hsz : ∀ p ∈ ls, p.n ≤ 100000) :
  Calls Tryz.prog 61 #[.slice A n c] w (CpPost w n (texts ls)) := by
 obtain ⟨j0, hj0, ju0, ju1, ju2⟩ := info_parts info_bytes
 have hnc := hB.le; have hcm := hB.max
 unfold maxLen at hcm
 obtain ⟨ss, hss⟩ : ∃ ss, texts ls = ss := ⟨_, rfl⟩
 have hlen : ss.length = n := by rw [← hss]; simp [texts, hB.len]
 rw [hss]
 have HSS := Lib.hid hss
 clear hss
 go_enter Tryz.func61, Tryz.ntmps61
 go_wp2_with fail
 go_loopw [3, 4] (fun v i wr => TxRel w ss v i wr) (fun _ i _ => n - (intOf i).toNat)
 case atStart => exact ⟨0, [], [], rfl, Nat.zero_le _, Kept.refl _ _, ⟨World.ownsRow_nil _ _ _ _, fun g e => by cases e⟩, by simp, by simp [texts], by simp, by simp⟩
 case round =>
  obtain ⟨k, ps, G, rfl, hk, hkw, hrow, hpa, htx, hpG, hGl⟩ := hrel
  by_cases hlt : k < n
  ·have i1 : (k : Int) < (n : Int) := by omega
   obtain ⟨b, o, x, rfl, hbl, hxk, hxa, hc0⟩ := hB.at_ hlt
   have hs : ss[k]? = some x.xs := by rw [← HSS.out]; simp [texts, hxk]
   have cs : wr.cell? ⟨b, o + k, none⟩ = some x.val := (hkw.cell (p := ⟨b, o + k, none⟩) hbl (by simp)).trans hc0
   have hxn := hsz x (List.mem_of_getElem? hxk)
   have hdat := hxa.1.kept hkw (by simp)
   have cc := copyBytes_any wr x.A x.n x.c x.xs hdat (by omega)
   unfold Part.val at cs
   clear hc0 hxk hxa
   go_wp2_with fail
   refine cc.mono ?_
   rintro e wA ⟨A2, c2, rfl, hown2, hbel2⟩
   have hkA := Kept.of_below (F := []) hbel2
   obtain ⟨hs2, hn2⟩ := ClonePost.sl hown2
   have hA2 := row_nil hown2
   have hl2 : ∀ p, A2 = some p → p.block < wA.heap.size := fun p e => (hown2.lt p.block (by rw [e]; rfl)).2
   have hzA := hkA.size
   have hpt : Part.At wA ⟨A2, x.n, c2, x.xs⟩ := ⟨hs2, hA2⟩
   have hrA : RowIn w.heap.size wA 45 (((A2.map (·.block)).toList) ++ G) u3 k (ps.map Part.val) := hrow.step ⟨hkA.mono (by simp), fun j hj => by
    rcases List.mem_append.mp hj with hj | hj
    ·cases A2 with
     | none => simp at hj
     | some p => simp at hj; subst hj; exact .inr (hn2 p rfl)
    ·exact .inl hj⟩
   have hkw2 := hkw.size
   clear cc hown2 hbel2
   go_wp2_with (at_builtin; refine Hold.of ?_)
   unfold Hold
   refine wpList_append_lies _ rfl (.tmp 11) (.tmp 17) 37 rfl w.heap.size 45 j0 _ 1 24 Tryz.underlying37 hj0 ju0 ju1 ju2 rfl (by decide) _ k _ rfl (hrA.next (Kept.alloc [] wA (.cells #[.slice A2 x.n c2] 45))).own ⟨wA.heap.size, 0, none⟩ 1 1 [.slice A2 x.n c2] rfl rfl (one_news wA _ _) (one_slice _ _ _) (by omega) (by unfold maxLen; omega) (by omega) (by simp; omega) (wA.heap.size + 1) (by simp) ?_
   intro g cap w5 hown5 hgrow5 hat5 hlt5
   have hF2 : ∀ j ∈ (A2.map (·.block)).toList ++ G, j < wA.heap.size := fun j hj => by
    rcases List.mem_append.mp hj with hj | hj
    ·cases A2 with
     | none => simp at hj
     | some p => simp at hj; subst hj; exact hl2 p rfl
    ·have := hGl j hj; omega
   obtain ⟨hr5, hk5, hu5⟩ := hrA.push hF2 (Kept.alloc [] wA (.cells #[.slice A2 x.n c2] 45)) hgrow5 hown5 hat5 (by simp)
   clear hown5 hgrow5 hat5 hlt5
   go_wp2_with fail
   go_roundw
   case rel =>
    refine ⟨k + 1, ps ++ [⟨A2, x.n, c2, x.xs⟩], (A2.map (·.block)).toList ++ G, by go_num, by omega, (hkw.trans hkA).trans' hk5 (fun i hi => .inr ((hrA.own.lt i (by simpa using hi)).1)), by rw [List.map_append]; exact hr5, ?_, ?_, ?_, ?_⟩
    ·intro p hp
     have hne : ∀ q : Part, (∀ a, q.A = some a → a.block ∈ (A2.map (·.block)).toList ++ G) → ∀ a, q.A = some a → a.block ∉ (u3.ownBlock).toList := fun q hq a e hm => hrA.ne a.block (by simpa using hm) (hq a e)
     rcases List.mem_append.mp hp with hp | hp
     ·exact ((hpa p hp).kept hkA (by simp)).kept hk5 (hne p (fun a e => List.mem_append_right _ (hpG p hp a e).2))
     ·obtain rfl := List.mem_singleton.mp hp
      exact hpt.kept hk5 (hne _ (fun a e => by simp only at e; subst e; simp))
    ·rw [take_snoc hs]
     simp only [texts, List.map_append, List.map_cons, List.map_nil]
     unfold texts at htx
     rw [htx]
    ·intro q hq p e
     rcases List.mem_append.mp hq with hq | hq
     ·exact ⟨(hpG q hq p e).1, List.mem_append_right _ (hpG q hq p e).2⟩
     ·obtain rfl := List.mem_singleton.mp hq
      simp only at e
      subst e
      have := hn2 p rfl
      exact ⟨by omega, by simp⟩
    ·intro j hj
     have h5 := hk5.size
     have := hF2 j hj
     omega
   case measure => simp [intOf]; omega
  ·obtain rfl : k = n := by omega
   go_wp2_with fail
   go_ret
   obtain ⟨A', c', rfl, hB'⟩ := hrow.parts hpa
   subst hlen
   rw [List.take_length] at htx
   exact ⟨A', c', ps, rfl, hkw, hB', htx, fun p e => (hrow.own.lt p.block (by rw [e]; rfl)).1, fun q hq p e => (hpG q hq p e).1⟩
end Go.Proofs.YtbnflbkaogpnbaaGreat
namespace Go.Proofs.YtbnflbkaogpnbaaGreat
set_option linter.unusedVariables false
open Go.RowKit
theorem append_plain {s : St} {d : Dev} {b : List UInt8} (hw : s.Wf d) : (s.append d b).1.Wf (s.append d b).2.1 ∧ (s.append d b).2.1.secs.length = d.secs.length ∧ (s.append d b).2.1.works ≤ d.works + (b.length + 3) ∧ (s.append d b).1.first = s.first ∧ (s.append d b).1.many = s.many := by
 unfold St.append
 split
 ·exact ⟨hw, rfl, by show d.works ≤ _; omega, rfl, rfl⟩
 ·split
  ·exact ⟨hw, rfl, by show d.works ≤ _; omega, rfl, rfl⟩
  ·rename_i h1 h2
   have hl := hw.last
   have hal : (s.last ++ recB b).length = s.fin % 128 + (b.length + 7) := by rw [List.length_append, hl, length_recB]
   have hx1 := writes_len ((chunks (s.last ++ recB b)).map pad) d (s.first + s.fin / 128 : Nat)
   have hx2 := writes_works_le ((chunks (s.last ++ recB b)).map pad) d (s.first + s.fin / 128 : Nat)
   rw [List.length_map, length_chunks, hal] at hx2
   simp only
   have hsame : ∀ d' : Dev, d'.secs.length = d.secs.length → s.Wf d' := fun d' e => ⟨hw.one, by rw [e]; exact hw.there, hw.fin, hw.last⟩
   split
   ·refine ⟨⟨hw.one, ?_, ?_, ?_⟩, hx1, ?_, rfl, rfl⟩
    ·show s.first + s.many ≤ _
     rw [hx1]
     exact hw.there
    ·show s.fin + (b.length + 7) ≤ 128 * s.many
     omega
    ·show (List.drop _ _).length = (s.fin + (b.length + 7)) % 128
     rw [List.length_drop, hal]
     omega
    ·show (d.writes _ _).1.works ≤ _
     omega
   ·refine ⟨hsame _ hx1, hx1, ?_, rfl, rfl⟩
    show (d.writes _ _).1.works ≤ _
    omega
theorem save_plain (s : Sl) (d : Dev) (b : List UInt8) (hn : s.newer ≤ 1) : (s.save d b).1.newer ≤ 1 ∧ (s.save d b).1.turn ≤ s.turn + 1 ∧ (s.save d b).1.first = s.first ∧ (s.save d b).2.1.secs.length = d.secs.length ∧ (s.save d b).2.1.works ≤ d.works + 2 := by
 have hw := write_works d ((s.first + s.which : Nat) : Int) (slotB (s.turn + 1) b)
 have hl := writes_len [slotB (s.turn + 1) b] d ((s.first + s.which : Nat) : Int)
 have hl1 : (d.write ((s.first + s.which : Nat) : Int) (slotB (s.turn + 1) b)).1.secs.length = d.secs.length := by
  rw [Dev.writes] at hl
  split at hl
  ·exact hl
  ·exact hl
 obtain ⟨f1, _⟩ := dev_len (d.write ((s.first + s.which : Nat) : Int) (slotB (s.turn + 1) b)).1
 obtain ⟨f2, _⟩ := dev_works (d.write ((s.first + s.which : Nat) : Int) (slotB (s.turn + 1) b)).1
 have hq : s.which ≤ 1 := by unfold Sl.which; split <;> omega
 unfold Sl.save
 split
 ·exact ⟨hn, Nat.le_succ _, rfl, rfl, by show d.works ≤ _; omega⟩
 ·simp only
  split
  ·exact ⟨hn, Nat.le_succ _, rfl, hl1, by show (d.write _ _).1.works ≤ _; omega⟩
  ·split
   ·exact ⟨hn, Nat.le_succ _, rfl, f1.trans hl1, by show (Dev.flush _).1.works ≤ _; omega⟩
   ·exact ⟨hq, Nat.le_refl _, rfl, f1.trans hl1, by show (Dev.flush _).1.works ≤ _; omega⟩
end Go.Proofs.YtbnflbkaogpnbaaGreat
namespace Go.Proofs.YtbnflbkaogpnbaaGreat
set_option linter.unusedVariables false
open Go.RowKit
theorem appends_plain : ∀ (l : List (List UInt8)) {s : St} {d : Dev}, s.Wf d → (s.appends d l).1.Wf (s.appends d l).2.1 ∧ (s.appends d l).2.1.secs.length = d.secs.length ∧ (s.appends d l).2.1.works ≤ d.works + allSize l ∧ (s.appends d l).1.first = s.first ∧ (s.appends d l).1.many = s.many := by
 intro l
 induction l with
 | nil => intro s d h; exact ⟨h, rfl, by show d.works ≤ _; simp [allSize], rfl, rfl⟩
 | cons b l ih =>
  intro s d h
  obtain ⟨a1, a2, a3, a4, a5⟩ := append_plain (b := b) h
  have hs : allSize (b :: l) = b.length + 7 + allSize l := by simp [allSize]
  rw [St.appends, hs]
  split
  ·obtain ⟨b1, b2, b3, b4, b5⟩ := ih a1
   exact ⟨b1, b2.trans a2, by push_cast at *; omega, b4.trans a4, b5.trans a5⟩
  ·exact ⟨a1, a2, by push_cast; omega, a4, a5⟩
theorem SpOk.saveM {s : Sp} {d : Dev} {k : Nat} (h : SpOk s d k) (m : List UInt8) : SpOk (s.saveM d m).1 (s.saveM d m).2.1 (k + 1) ∧ (s.saveM d m).2.1.secs.length = d.secs.length ∧ (s.saveM d m).2.1.works ≤ d.works + 2 := by
 obtain ⟨q1, q2, q3, q4, q5⟩ := save_plain s.sl d m h.newer
 refine ⟨⟨h.half, h.one, by show s.first + 2 * s.each ≤ _; unfold Sp.saveM; rw [q4]; exact h.room, ⟨h.wf.one, by show s.st.first + s.st.many ≤ _; unfold Sp.saveM; rw [q4]; exact h.wf.there, h.wf.fin, h.wf.last⟩, h.stm, by have := h.many; show s.many ≤ _; omega, q1, ?_, ?_⟩, q4, q5⟩
 ·have := h.turn
  show (s.sl.save d m).1.turn ≤ _
  omega
 ·show (s.sl.save d m).1.first < _
  rw [q3]
  exact h.slf
theorem SpOk.append {s : Sp} {d : Dev} {k : Nat} (h : SpOk s d k) (b : List UInt8) : SpOk (s.append d b).1 (s.append d b).2.1 (k + 1) ∧ (s.append d b).2.1.secs.length = d.secs.length ∧ (s.append d b).2.1.works ≤ d.works + (b.length + 3) := by
 obtain ⟨a1, a2, a3, a4, a5⟩ := append_plain (b := b) h.wf
 unfold Sp.append
 split
 ·exact ⟨h.touch.more (by omega), rfl, by show d.works ≤ _; omega⟩
 ·split
  ·exact ⟨⟨h.half, h.one, by show s.first + 2 * s.each ≤ (s.st.append d b).2.1.secs.length; rw [a2]; exact h.room, a1, by show (s.st.append d b).1.many = s.each; rw [a5]; exact h.stm, by have := h.many; show s.many + 1 ≤ _; omega, h.newer, by have := h.turn; show s.sl.turn ≤ _; omega, h.slf⟩, a2, a3⟩
  ·exact ⟨⟨h.half, h.one, by show s.first + 2 * s.each ≤ (s.st.append d b).2.1.secs.length; rw [a2]; exact h.room, a1, by show (s.st.append d b).1.many = s.each; rw [a5]; exact h.stm, by have := h.many; show s.many ≤ _; omega, h.newer, by have := h.turn; show s.sl.turn ≤ _; omega, h.slf⟩, a2, a3⟩
theorem SpOk.flush {s : Sp} {d : Dev} {k : Nat} (h : SpOk s d k) : SpOk (s.flush d).1 (s.flush d).2.1 (k + 1) ∧ (s.flush d).2.1.secs.length = d.secs.length ∧ (s.flush d).2.1.works ≤ d.works + 3 := by
 obtain ⟨f1, _⟩ := dev_len d
 obtain ⟨f2, _⟩ := dev_works d
 unfold Sp.flush
 split
 ·exact ⟨h.touch.more (by omega), rfl, by show d.works ≤ _; omega⟩
 ·split
  ·exact ⟨h.more (by omega), rfl, by show d.works ≤ _; omega⟩
  ·simp only
   rw [save_saveM]
   split
   ·have h2 := (h.dev f1 (Nat.le_refl k)).more (Nat.le_succ k)
    exact ⟨⟨h2.half, h2.one, h2.room, h2.wf, h2.stm, h2.many, h2.newer, h2.turn, h2.slf⟩, f1, by show d.flush.1.works ≤ _; omega⟩
   ·obtain ⟨h2, h3, h4⟩ := (h.dev f1 (Nat.le_refl k)).saveM (manB s.half s.st.fin s.many)
    exact ⟨⟨h2.half, h2.one, h2.room, h2.wf, h2.stm, h2.many, h2.newer, h2.turn, h2.slf⟩, h3.trans f1, by omega⟩
theorem SpOk.replace {s : Sp} {d : Dev} {k : Nat} (h : SpOk s d k) (l : List (List UInt8)) (hl : l.length ≤ 1000000) : SpOk (s.replace d l).1 (s.replace d l).2.1 (k + 1) ∧ (s.replace d l).2.1.secs.length = d.secs.length ∧ (s.replace d l).2.1.works ≤ d.works + 128 * s.each + 3 := by
 unfold Sp.replace
 split
 ·exact ⟨h.touch.more (by omega), rfl, by show d.works ≤ _; omega⟩
 ·split
  ·exact ⟨h.more (by omega), rfl, by show d.works ≤ _; omega⟩
  ·split
   ·exact ⟨h.more (by omega), rfl, by show d.works ≤ _; omega⟩
   ·rename_i hall
    have hE : (s.empty (1 - s.half)).Wf d := ⟨h.one, half_room (show 1 - s.half ≤ 1 by omega) h.room, Nat.zero_le _, rfl⟩
    obtain ⟨a1, a2, a3, a4, a5⟩ := appends_plain l hE
    simp only
    obtain ⟨R, hR⟩ : ∃ R, (s.empty (1 - s.half)).appends d l = R := ⟨_, rfl⟩
    rw [hR] at a1 a2 a3 a4 a5 ⊢
    split
    ·exact ⟨(h.dev a2 (Nat.le_refl k)).more (Nat.le_succ k), a2, by show R.2.1.works ≤ _; omega⟩
    ·obtain ⟨f1, _⟩ := dev_len R.2.1
     obtain ⟨f2, _⟩ := dev_works R.2.1
     have hd1 := h.dev (d' := R.2.1.flush.1) (f1.trans a2) (Nat.le_refl k)
     have hV : ∃ V, s.save R.2.1 (manB (1 - s.half) R.1.fin l.length) = V ∧ SpOk V.1 V.2.1 (k + 1) ∧ V.2.1.secs.length = d.secs.length ∧ V.2.1.works ≤ d.works + 128 * s.each + 3 := by
      refine ⟨_, rfl, ?_⟩
      rw [save_saveM]
      split
      ·exact ⟨hd1.more (Nat.le_succ k), f1.trans a2, by show R.2.1.flush.1.works ≤ _; omega⟩
      ·obtain ⟨h2, h3, h4⟩ := hd1.saveM (manB (1 - s.half) R.1.fin l.length)
       exact ⟨h2, (h3.trans f1).trans a2, by omega⟩
     have hVe : (s.save R.2.1 (manB (1 - s.half) R.1.fin l.length)).1.each = s.each := by
      rw [save_saveM]
      split <;> rfl
     obtain ⟨V, hV0, hV1, hV2, hV3⟩ := hV
     rw [hV0] at hVe ⊢
     split
     ·exact ⟨hV1, hV2, hV3⟩
     ·exact ⟨⟨by show 1 - s.half ≤ 1; omega, hV1.one, hV1.room, ⟨a1.one, by rw [hV2, ← a2]; exact a1.there, a1.fin, a1.last⟩, by show R.1.many = V.1.each; rw [a5, hVe]; rfl, by show l.length ≤ _; omega, hV1.newer, hV1.turn, hV1.slf⟩, hV2, hV3⟩
end Go.Proofs.YtbnflbkaogpnbaaGreat
