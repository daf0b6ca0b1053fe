/- Texts in one: N4. -/
import Derived.Test.YtbnflbkaogpnbaaGreatPAW
import Derived.Test.YtbnflbkaogpnbaaGreatPAQ
import Derived.Laws.CopyOwn
namespace Go.Proofs.YtbnflbkaogpnbaaGreat
set_option linter.unusedVariables false
open Go.RowKit
/-- What an Append does. -/
def RtApp (w : World) (z r : Nat) (fp sp : List Nat) (x : St × Dev × Int) (e : Ending) (w' : World) : Prop :=
 e = .returned (.int .i64 x.2.2) ∧ ∃ fp' sp' B', Rv w' r fp' x.2.1 ∧ RtAt w' z r sp' x.1 B' ∧ Kept (fp ++ sp) w w' ∧ (∀ j ∈ fp', j ∈ fp ∨ w.heap.size ≤ j) ∧ (∀ j ∈ sp', j ∈ sp ∨ w.heap.size ≤ j) ∧ ∀ j ∈ sp', j ∉ fp'
/-- Its loop: the sectors that were written. -/
def RaRel (w1 : World) (r : Nat) (fp : List Nat) (d : Dev) (f q : Nat) (all : List UInt8) (i : Value) (wr : World) : Prop :=
 ∃ (j : Nat) (dj : Dev) (fpj : List Nat), j ≤ (all.length + 127) / 128 ∧ i = .int .i64 ((q + j : Nat) : Int) ∧ d.writes ((f + q : Nat) : Int) ((List.range j).map (chunkAt all)) = (dj, 0) ∧ Rv wr r fpj dj ∧ dj.Wf ∧ dj.works ≤ d.works + j ∧ dj.secs.length = d.secs.length ∧ Kept fp w1 wr ∧ ∀ x ∈ fpj, x ∈ fp ∨ w1.heap.size ≤ x
theorem made128 : (madeCells #[.int .u8 0] 128) = (u8vs zeros).toArray := by kernel_rfl
/-- 'copy(one, x)', where one was made. -/
theorem copied_made (X : World) {g b o n c : Nat} {xs : List UInt8} (hg : X.heap[g]? = some (.cells (madeCells #[.int .u8 0] 128) 5 (0, 0))) (h : SlAt X (some ⟨b, o, none⟩) n c (u8vs xs)) : ∃ W2, (∀ ty cap, (Builtin.copy_ #[45, 45] ty #[.slice (some ⟨g, 0, none⟩) 128 128, .slice (some ⟨b, o, none⟩) n cap]).run Tryz.prog X = .ok (goInt (Nat.min n 128)) W2) ∧
  SlAt W2 (some ⟨g, 0, none⟩) 128 128 (u8vs (pad (xs.take 128))) ∧ Kept [g] X W2 := by
 have hl : xs.length = n := by simpa [u8vs] using h.len
 rw [made128] at hg
 obtain ⟨j0, hj0, ju0, ju1, ju2⟩ := info_parts info_u8
 have hcl : (u8vs (xs.take 128)).length = Nat.min n 128 := by
  simp only [u8vs, List.length_map, List.length_take, hl]
  show min 128 n = min n 128
  omega
 have hle : (u8vs (xs.take 128)).length ≤ 128 := by rw [hcl]; exact Nat.min_le_right _ _
 refine ⟨X.setRow g ((u8vs zeros).toArray.toList.take 0 ++ u8vs (xs.take 128) ++ (u8vs zeros).toArray.toList.drop (0 + (u8vs (xs.take 128)).length)).toArray, fun ty cap => ?_, ?_, ?_⟩
 ·have hr := run_copy_row (P := Tryz.prog) X 45 45 ty 5 g 0 128 128 ⟨b, o, none⟩ n cap (u8vs zeros).toArray 5 (u8vs (xs.take 128)) Tryz.underlying45 (by rw [hj0]; simp [ju1]) hg hcl (fun j v hj => h.news j v (by
   simp only [u8vs, List.getElem?_map, List.getElem?_take] at hj ⊢
   split at hj
   ·exact hj
   ·cases hj)) (by rw [Nat.zero_add]; simpa [u8vs, length_zeros] using hle) (one_u8s _)
  rw [hcl] at hr ⊢
  exact hr
 ·have e : ((u8vs zeros).toArray.toList.take 0 ++ u8vs (xs.take 128) ++ (u8vs zeros).toArray.toList.drop (0 + (u8vs (xs.take 128)).length)) = u8vs (pad (xs.take 128)) := by
   simp only [List.take_zero, List.nil_append, Nat.zero_add]
   unfold pad u8vs zeros
   rw [List.map_append, List.length_map, List.map_replicate, List.map_replicate, List.drop_replicate]
  have hh := setRow_heap X g (u8vs zeros).toArray ((u8vs zeros).toArray.toList.take 0 ++ u8vs (xs.take 128) ++ (u8vs zeros).toArray.toList.drop (0 + (u8vs (xs.take 128)).length)).toArray 5 (0, 0) hg
  rw [e] at hh ⊢
  exact SlAt.blk hh (by simp only [u8vs, List.length_map]; exact length_pad (by rw [List.length_take]; omega)) (by unfold maxLen; omega)
 ·exact ⟨rfl, rfl, rfl, by simp [World.setRow], fun k _ hk => setRow_other _ _ k _ (fun e => hk (by simp [e]))⟩
theorem last_drop {B rec : List UInt8} {L : List UInt8} (hL : L = B.drop (128 * (B.length / 128))) : (L ++ rec).drop ((L ++ rec).length - (L ++ rec).length % 128) = (B ++ rec).drop (128 * ((B.length + rec.length) / 128)) := by
 have hl : L.length = B.length % 128 := by rw [hL, List.length_drop]; omega
 have e1 : (L ++ rec).length - (L ++ rec).length % 128 = 128 * ((B.length + rec.length) / 128) - 128 * (B.length / 128) := by
  rw [List.length_append, hl]
  omega
 have e2 : L ++ rec = (B ++ rec).drop (128 * (B.length / 128)) := by rw [hL, List.drop_append_of_le_length (by omega)]
 rw [e1, e2, List.drop_drop]
 congr 1
 have : B.length / 128 ≤ (B.length + rec.length) / 128 := Nat.div_le_div_right (by omega)
 omega
set_option maxHeartbeats 4000000 in
set_option maxRecDepth 100000 in
theorem ref12Append_any {w : World} {z r : Nat} {fp sp : List Nat} {s : St} {B : List UInt8} {d : Dev} (hR : Rv w r fp d) (hw : d.Wf) (hS : RtAt w z r sp s B) (hne : ∀ j ∈ sp, j ∉ fp) (hwf : s.Wf d) (A : Option Addr) (n c : Nat) (b : List UInt8) (hb : SlAt w A n c (u8vs b)) (hA : A = none → c = 0)
  (hwk : d.works < 9223372036854000000) : Calls Tryz.prog 94 #[.pointer (some ⟨z, 0, none⟩), .slice A n c] w (RtApp w z r fp sp (s.append d b)) := by
 have hbl : b.length = n := by simpa [u8vs] using hb.len
 have hnc := hb.le; have hcm := hb.max
 unfold maxLen at hcm
 obtain ⟨AB, cB, hz, hsB, hABn, hAB⟩ := hS.head
 have hmny := hw.many; have hth := hwf.there; have hfin := hwf.fin; have hone := hwf.one
 have hfB := hS.fin
 by_cases hbig : 16384 < n
 ·have e1 : s.append d b = (s, d, 5) := by unfold St.append; rw [if_pos (by omega)]
  have i1 : (16384 : Int) < (n : Int) := by omega
  rw [e1]
  clear e1 hbl
  go_enter Tryz.func94, Tryz.ntmps94
  go_wp2_with fail
  go_ret
  exact ⟨rfl, fp, sp, B, hR, hS, Kept.refl _ _, fun j hj => .inl hj, fun j hj => .inl hj, hne⟩
 ·have i1 : ¬ (16384 : Int) < (n : Int) := by omega
  have cr := ref12Record_any w A n c b hb hA (by omega)
  have hlr : (recB b).length = n + 7 := by rw [length_recB, hbl]
  have HBL := Lib.hid hbl; clear hbl
  have hzl := hS.lt z hS.zin
  by_cases hroom : (128 * s.many : Int) - s.fin < n + 7
  ·have e1 : s.append d b = (s, d, 101) := by unfold St.append; rw [if_neg (by rw [HBL.out]; omega), if_pos (by rw [HBL.out]; exact hroom)]
   rw [e1]
   clear e1
   have hw1 : IntKind.i64.wrap (128 * (s.many : Int)) = 128 * (s.many : Int) := by rw [IntKind.wrap_i64]; omega
   have hw2 : IntKind.i64.wrap (128 * (s.many : Int) - (s.fin : Int)) = 128 * (s.many : Int) - (s.fin : Int) := by rw [IntKind.wrap_i64]; omega
   have i2 : 128 * (s.many : Int) - (s.fin : Int) < ((n + 7 : Nat) : Int) := by push_cast; omega
   go_enter Tryz.func94, Tryz.ntmps94
   go_wp2_with fail
   refine cr.mono ?_
   rintro e w2 ⟨A2, c2, rfl, hown2, hbel2⟩
   have hk2 := Kept.of_below (F := []) hbel2
   have hz2 := (hk2.block z hzl (by simp)).trans hz
   have d2 : w2.cell? ⟨z, 2, none⟩ = some (.int .i64 s.many) := by rw [blk_cell hz2]; rfl
   have d3 : w2.cell? ⟨z, 3, none⟩ = some (.int .i64 s.fin) := by rw [blk_cell hz2]; rfl
   go_wp2_with fail
   go_quiet (fail)
   try simp only [hw1, hw2]
   go_wp2_with fail
   go_ret
   have hkq := hk2.trans (Kept.drewN [] w2 nq)
   exact ⟨rfl, fp, sp, B, hR.new_kept hkq, hS.kept hkq (by simp), hkq.mono (by simp), fun j hj => .inl hj, fun j hj => .inl hj, hne⟩
  ·have i2 : ¬ 128 * (s.many : Int) - (s.fin : Int) < ((n + 7 : Nat) : Int) := by push_cast; omega
   have hw1 : IntKind.i64.wrap (128 * (s.many : Int)) = 128 * (s.many : Int) := by rw [IntKind.wrap_i64]; omega
   have hw2 : IntKind.i64.wrap (128 * (s.many : Int) - (s.fin : Int)) = 128 * (s.many : Int) - (s.fin : Int) := by rw [IntKind.wrap_i64]; omega
   obtain ⟨q, hq⟩ : ∃ q, s.fin / 128 = q := ⟨_, rfl⟩
   obtain ⟨all, hall⟩ : ∃ all, s.last ++ recB b = all := ⟨_, rfl⟩
   obtain ⟨ALL, hALL⟩ : ∃ ALL, B ++ recB b = ALL := ⟨_, rfl⟩
   have hlast := hS.last
   have hsl : s.last.length = s.fin - 128 * q := by rw [hlast, List.length_drop, ← hfB, hq]
   have h1 : all.length = s.fin - 128 * q + (n + 7) := by rw [← hall, List.length_append, hsl, hlr]
   have h2 : ALL.length = s.fin + (n + 7) := by rw [← hALL, List.length_append, hlr, hfB]
   have h3 : all = ALL.drop (128 * q) := by rw [← hall, ← hALL, hlast, hq, List.drop_append_of_le_length (by omega)]
   have hch : ∀ j, chunkAt all j = pad ((ALL.drop (128 * (q + j))).take 128) := fun j => by
    unfold chunkAt
    rw [h3, List.drop_drop]
    congr 3
    omega
   have hqf : 128 * q ≤ s.fin := by omega
   have e1 : s.append d b = if (d.writes ((s.first + q : Nat) : Int) ((chunks all).map pad)).2 = 0 then ({ s with fin := s.fin + (n + 7), last := all.drop (all.length - all.length % 128) }, (d.writes ((s.first + q : Nat) : Int) ((chunks all).map pad)).1, 0) else (s, (d.writes ((s.first + q : Nat) : Int) ((chunks all).map pad)).1, (d.writes ((s.first + q : Nat) : Int) ((chunks all).map pad)).2) := by
    unfold St.append
    rw [if_neg (by rw [HBL.out]; omega), if_neg (by rw [HBL.out]; exact hroom), HBL.out]
    simp only [hall, hq]
   have E1 := Lib.hid e1
   have hstq : s.first + q + (all.length + 127) / 128 ≤ d.secs.length := by omega
   obtain ⟨N, hN⟩ : ∃ N, (all.length + 127) / 128 = N := ⟨_, rfl⟩
   have hNl : ∀ j, 128 * (q + j) < s.fin + (n + 7) ↔ j < N := fun j => by rw [← hN]; omega
   rw [hN] at hstq
   have HN := Lib.hid hN; have HALL := Lib.hid hALL; have HA := Lib.hid hall; have H1 := Lib.hid h1; have H3 := Lib.hid h3; have H2 := Lib.hid h2; have HQ := Lib.hid hq; have HSL := Lib.hid hsl; have HFB := Lib.hid hfB; have HLA := Lib.hid hlast; have HLR := Lib.hid hlr
   have hdiv : (s.fin : Int) / 128 = (q : Int) := by omega
   clear e1 hN hALL hall h1 h3 h2 hq hsl hlast hlr hfB
   go_enter Tryz.func94, Tryz.ntmps94
   go_wp2_with fail
   refine cr.mono ?_
   rintro e w2 ⟨A2, c2, rfl, hown2, hbel2⟩
   have hk2 := Kept.of_below (F := []) hbel2
   obtain ⟨hs2, hn2⟩ := ClonePost.sl hown2
   have hA2 := row_nil hown2
   have hz2 := (hk2.block z hzl (by simp)).trans hz
   have d2 : w2.cell? ⟨z, 2, none⟩ = some (.int .i64 s.many) := by rw [blk_cell hz2]; rfl
   have d3 : w2.cell? ⟨z, 3, none⟩ = some (.int .i64 s.fin) := by rw [blk_cell hz2]; rfl
   clear cr hown2 hbel2
   go_wp2_with fail
   go_quiet (fail)
   try simp only [hw1, hw2]
   have hkq := hk2.trans (Kept.drewN [] w2 nq)
   have hs3 := hs2.kept (Kept.drewN [] w2 nq) (by simp)
   generalize w2.drewN nq = w3 at *
   have hz3 := (hkq.block z hzl (by simp)).trans hz
   have d0 : w3.cell? ⟨z, 0, none⟩ = some (.pointer (some ⟨r, 0, none⟩)) := by rw [blk_cell hz3]; rfl
   have d1 : w3.cell? ⟨z, 1, none⟩ = some (.int .i64 s.first) := by rw [blk_cell hz3]; rfl
   replace d3 : w3.cell? ⟨z, 3, none⟩ = some (.int .i64 s.fin) := by rw [blk_cell hz3]; rfl
   have d4 : w3.cell? ⟨z, 4, none⟩ = some (.slice AB B.length cB) := by rw [blk_cell hz3]; rfl
   have hsB3 := hsB.kept hkq (by simp)
   have hn0 : w3.ownsRow w3.heap.size 5 1 (.slice none 0 0) 0 (u8vs []) := by simpa [u8vs] using World.ownsRow_nil w3 w3.heap.size 5 1
   rw [← HFB.out] at hsB3 d4
   clear d2 hz2
   go_wp2_with (at_builtin; refine Hold.of ?_)
   unfold Hold
   refine wpList_append_u8 rfl (.tmp 28) (.tmp 32) rfl w3.heap.size (.slice none 0 0) 0 [] rfl hn0 AB s.fin cB B rfl hsB3 hABn (by omega) (Nat.le_refl _) ?_
   intro A4 c4 w4 hown4 hgrow4 hA4
   try simp only [Nat.zero_add, List.nil_append] at hown4 ⊢
   have k4 : Kept [] w3 w4 := Kept.grown (F := []) hgrow4 (fun i e => by cases e)
   have hs4 := hs3.kept k4 (by simp)
   have hz4 := k4.size
   go_wp2_with (at_builtin; refine Hold.of ?_)
   unfold Hold
   refine wpList_append_u8 rfl (.tmp 33) (.tmp 34) rfl w3.heap.size (.slice A4 s.fin c4) s.fin B rfl hown4 A2 (n + 7) c2 (recB b) rfl hs4 hA2 (by omega) hz4 ?_
   intro A5 c5 w5 hown5 hgrow5 hA5
   have k5 : Kept [] w3 w5 := k4.trans' (Kept.grown (F := (Value.slice A4 s.fin c4).ownBlock.toList) hgrow5 (fun j e => by rw [e]; simp)) (fun i hi => .inr (hown4.lt i (by simpa using hi)).1)
   have hkw5 := hkq.trans k5
   obtain ⟨A5', c5', e5, hs5, hb5⟩ := SlAt.of_own hown5
   cases e5
   rw [HALL.out] at hs5
   have hle5 := hs5.le; have hm5 := hs5.max
   unfold maxLen at hm5
   obtain ⟨bb, oo, rfl, hbbl, -⟩ := hs5.cells (by omega)
   have hbb : w3.heap.size ≤ bb := (hb5 _ rfl).2
   have hwsz := hkq.size
   have hz5 := (k5.block z (by have := hkq.size; omega) (by simp)).trans hz3
   have hR5 := hR.new_kept hkw5
   have hbbfp : bb ∉ fp := fun hm => by have := hR.lt _ hm; omega
   have hzfp : z ∉ fp := fun hm => hne z hS.zin hm
   obtain ⟨j0, hj0, ju0, ju1, ju2⟩ := info_parts info_u8
   have hmk := fun wx : World => run_make (P := Tryz.prog) wx 45 5 j0 _ Tryz.underlying45 hj0 ju0 .i64 .i64 128 128 (by omega) (Int.le_refl _) (by rw [ju2]; omega) (by omega)
   simp only [ju1, show Int.toNat 128 = 128 from rfl, Nat.mul_one, show (Value.int .u8 0).cells = #[.int .u8 0] from rfl] at hmk
   clear hown4 hgrow4 hs4 hs3 hs2 hown5 hgrow5 k4 hz4 d4 hsB3 hn0
   have d3' : w5.cell? ⟨z, 3, none⟩ = some (.int .i64 s.fin) := by rw [blk_cell hz5]; rfl
   clear d0 d1 d3
   go_wp2_with fail
   go_loopw [7] (fun i wr => RaRel w5 r fp d s.first q all i wr) (fun i _ => N + q + 1 - (intOf i).toNat)
   case atStart => exact ⟨0, d, fp, Nat.zero_le _, by simp, rfl, hR5, hw, by omega, rfl, Kept.refl _ _, fun x h => .inl h⟩
   case round =>
    obtain ⟨j, dj, fpj, hj, rfl, hwr, hRj, hwj, hwkj, hlj, hkj, hnj⟩ := hrel
    rw [HN.out] at hj
    have hzr := (hkj.block z (by have := k5.size; omega) hzfp).trans hz5
    have hsr := hs5.kept hkj (fun p e => by cases e; exact hbbfp)
    have hw5' : IntKind.i64.wrap (128 * ((q + j : Nat) : Int)) = ((128 * (q + j) : Nat) : Int) := by rw [IntKind.wrap_i64]; omega
    by_cases hlt : j < N
    ·have h128 := (hNl j).2 hlt
     have i3 : ((128 * (q + j) : Nat) : Int) < ((s.fin + (n + 7) : Nat) : Int) := by omega
     have d0 : wr.cell? ⟨z, 0, none⟩ = some (.pointer (some ⟨r, 0, none⟩)) := by rw [blk_cell hzr]; rfl
     have d1 : wr.cell? ⟨z, 1, none⟩ = some (.int .i64 s.first) := by rw [blk_cell hzr]; rfl
     have hsd := (hsr.kept (Kept.alloc [] wr (.cells (madeCells #[.int .u8 0] 128) 5)) (by simp)).cut (i := 128 * (q + j)) (j := s.fin + (n + 7)) (by omega) (Nat.le_refl _)
     rw [List.take_of_length_le (by rw [H2.out]; exact Nat.le_refl _)] at hsd
     obtain ⟨W2, hcp, hs2, hkc⟩ := copied_made (wr.alloc (.cells (madeCells #[.int .u8 0] 128) 5)) (heap_alloc_new _ _) hsd
     rw [← hch j] at hs2
     have hk2r : Kept [] wr W2 := (Kept.alloc [] wr _).trans' hkc (by simp)
     have hR2 := hRj.new_kept hk2r
     have e0 : W2.cell? ⟨z, 0, none⟩ = some (.pointer (some ⟨r, 0, none⟩)) := (hk2r.cell (p := ⟨z, 0, none⟩) (World.lt_of_heap hzr) (by simp)).trans d0
     have e1 : W2.cell? ⟨z, 1, none⟩ = some (.int .i64 s.first) := (hk2r.cell (p := ⟨z, 1, none⟩) (World.lt_of_heap hzr) (by simp)).trans d1
     have hw6 : IntKind.i64.wrap ((s.first : Int) + ((q : Int) + (j : Int))) = ((s.first + q + j : Nat) : Int) := by rw [IntKind.wrap_i64]; omega
     have hw7 : IntKind.i64.wrap ((s.first : Int) + ((q + j : Nat) : Int)) = ((s.first + q + j : Nat) : Int) := by rw [IntKind.wrap_i64]; omega
     have cw := fun W (h : Kept [] W2 W) => rv_write (hR2.new_kept h) hwj (by omega) ((s.first + q + j : Nat) : Int) (chunkAt all j) (some ⟨wr.heap.size, 0, none⟩) 128 128 (hs2.kept h (by simp))
     obtain ⟨x, hx⟩ : ∃ x, dj.write ((s.first + q + j : Nat) : Int) (chunkAt all j) = x := ⟨_, rfl⟩
     have hxw : x.1.Wf := by rw [← hx]; exact hwj.writeOk _ _
     have hxk : x.1.works ≤ d.works + (j + 1 : Nat) := by
      have := write_works dj ((s.first + q + j : Nat) : Int) (chunkAt all j)
      rw [hx] at this
      push_cast
      omega
     have hxl : x.1.secs.length = d.secs.length := by
      rw [← hx, ← hlj]
      have := writes_len [chunkAt all j] dj ((s.first + q + j : Nat) : Int)
      have h1 : ∀ y : Dev × Int, (if y.2 = 0 then Dev.writes y.1 (((s.first + q + j : Nat) : Int) + 1) [] else y).1 = y.1 := fun y => by
       split
       ·rfl
       ·rfl
      rw [Dev.writes, h1] at this
      exact this
     have hxs : d.writes ((s.first + q : Nat) : Int) ((List.range (j + 1)).map (chunkAt all)) = x := by
      rw [List.range_succ, List.map_append, List.map_cons, List.map_nil, writes_append _ _ _ _ _ hwr, ← hx]
      simp
     rw [hx] at cw
     have HX := Lib.hid hxs
     have hzj : z ∉ fpj := fun hm => by
      rcases hnj z hm with e | e
      ·exact hzfp e
      ·have := k5.size; omega
     have hzl2 : z < W2.drew.heap.size := Nat.lt_of_lt_of_le (World.lt_of_heap hzr) hk2r.size
     clear hx hxs hwr hRj hR2 hkc hsd hs2
     go_wp2_with fail
     refine wp_region_calm (S := (fun W => W.cell? ⟨z, 0, none⟩ = some (.pointer (some ⟨r, 0, none⟩)) ∧ W.cell? ⟨z, 1, none⟩ = some (.int .i64 s.first))) (by kernel_rfl) (show _ ∧ _ from ⟨e0, e1⟩) (fun hHeld => ?_)
     refine tk (i := 0) (v := ?_) (hy := Or.inl ⟨by rfl, ?_⟩) (hS := hHeld) (h := ?_)
     rotate_left
     ·intro w hSw
      try dsimp only at hSw
      go_simp
      all_goals with_reducible rfl
     try simp only [Act.put, List.setIfInBounds_toArray, List.set_cons_zero, List.set_cons_succ]
     refine tk (i := 1) (v := ?_) (hy := Or.inl ⟨by rfl, ?_⟩) (hS := hHeld) (h := ?_)
     rotate_left
     ·intro w hSw
      try dsimp only at hSw
      go_simp
      all_goals with_reducible rfl
     try simp only [Act.put, List.setIfInBounds_toArray, List.set_cons_zero, List.set_cons_succ]
     refine tk (i := 2) (v := ?_) (hy := Or.inl ⟨by rfl, ?_⟩) (hS := hHeld) (h := ?_)
     rotate_left
     ·intro w hSw
      try dsimp only at hSw
      go_simp
      all_goals with_reducible rfl
     try simp only [Act.put, List.setIfInBounds_toArray, List.set_cons_zero, List.set_cons_succ]
     refine tk (i := 3) (v := ?_) (hy := Or.inl ⟨by rfl, ?_⟩) (hS := hHeld) (h := ?_)
     rotate_left
     ·intro w hSw
      try dsimp only at hSw
      obtain ⟨s0, s1⟩ := hSw
      go_simp
      all_goals with_reducible rfl
     try simp only [Act.put, List.setIfInBounds_toArray, List.set_cons_zero, List.set_cons_succ]
     refine tk (i := 4) (v := ?_) (hy := Or.inl ⟨by rfl, ?_⟩) (hS := hHeld) (h := ?_)
     rotate_left
     ·intro w hSw
      try dsimp only at hSw
      go_simp
      all_goals with_reducible rfl
     try simp only [Act.put, List.setIfInBounds_toArray, List.set_cons_zero, List.set_cons_succ]
     refine tk (i := 5) (v := ?_) (hy := Or.inl ⟨by rfl, ?_⟩) (hS := hHeld) (h := ?_)
     rotate_left
     ·intro w hSw
      try dsimp only at hSw
      go_simp
      all_goals with_reducible rfl
     try simp only [Act.put, List.setIfInBounds_toArray, List.set_cons_zero, List.set_cons_succ]
     refine tk (i := 6) (v := ?_) (hy := Or.inl ⟨by rfl, ?_⟩) (hS := hHeld) (h := ?_)
     rotate_left
     ·intro w hSw
      try dsimp only at hSw
      go_simp
      all_goals with_reducible rfl
     try simp only [Act.put, List.setIfInBounds_toArray, List.set_cons_zero, List.set_cons_succ]
     refine tk (i := 7) (v := ?_) (hy := Or.inl ⟨by rfl, ?_⟩) (hS := hHeld) (h := ?_)
     rotate_left
     ·intro w hSw
      try dsimp only at hSw
      obtain ⟨s0, s1⟩ := hSw
      go_simp
      all_goals with_reducible rfl
     try simp only [Act.put, List.setIfInBounds_toArray, List.set_cons_zero, List.set_cons_succ]
     refine tk (i := 8) (v := ?_) (hy := Or.inl ⟨by rfl, ?_⟩) (hS := hHeld) (h := ?_)
     rotate_left
     ·intro w hSw
      try dsimp only at hSw
      go_simp
      all_goals with_reducible rfl
     try simp only [Act.put, List.setIfInBounds_toArray, List.set_cons_zero, List.set_cons_succ]
     refine tk (i := 9) (v := ?_) (hy := Or.inl ⟨by rfl, ?_⟩) (hS := hHeld) (h := ?_)
     rotate_left
     ·intro w hSw
      try dsimp only at hSw
      go_simp
      all_goals with_reducible rfl
     try simp only [Act.put, List.setIfInBounds_toArray, List.set_cons_zero, List.set_cons_succ]
     try simp only [hw6, hw7]
     refine tk (i := 10) (v := ?_) (hy := Or.inl ⟨by rfl, ?_⟩) (hS := hHeld) (h := ?_)
     rotate_left
     ·intro w hSw
      try dsimp only at hSw
      go_simp
      all_goals with_reducible rfl
     try simp only [Act.put, List.setIfInBounds_toArray, List.set_cons_zero, List.set_cons_succ]
     refine wpAnyH_ready (rs := [11]) (by kernel_rfl) (by simp) ?_
     refine AllReadyH.cons (by simp only [List.getElem?_toArray, List.getElem?_cons_succ, List.getElem?_cons_zero]; rfl) (fun K hK => ?_) AllReadyH.nil
     go_simp
     refine (cw _ (Kept.drew [] W2)).mono ?_
     rintro e w9 ⟨rfl, fp9, hR9, k9, n9⟩
     go_wp2_with fail
     refine hK.out _ _ ?_ (fun hHeld2 => ?_)
     ·exact ⟨(k9.cell (p := ⟨z, 0, none⟩) hzl2 hzj).trans e0, (k9.cell (p := ⟨z, 1, none⟩) hzl2 hzj).trans e1⟩
     clear hK K hHeld
     have hHeld := hHeld2
     clear hHeld2
     try simp only [Act.put, List.setIfInBounds_toArray, List.set_cons_zero, List.set_cons_succ]
     refine tk (i := 12) (v := ?_) (hy := Or.inl ⟨by rfl, ?_⟩) (hS := hHeld) (h := ?_)
     rotate_left
     ·intro w hSw
      try dsimp only at hSw
      go_simp
      all_goals with_reducible rfl
     try simp only [Act.put, List.setIfInBounds_toArray, List.set_cons_zero, List.set_cons_succ]
     refine wpAnyH_calm (by kernel_rfl) ?_ _
     clear hHeld
     have hk9 : Kept fp w5 w9 := (hkj.trans ((hk2r.trans (Kept.drew [] W2)).mono (by simp))).trans' k9 hnj
     have n9' : ∀ y ∈ fp9, y ∈ fp ∨ w5.heap.size ≤ y := fun y hy => by
      rcases n9 y hy with e | e
      ·exact hnj y e
      ·have h8 := hkj.size; have h9 := hk2r.size
       have : W2.drew.heap.size = W2.heap.size := rfl
       omega
     by_cases h0 : x.2 = 0
     ·have HX0 := Lib.hid h0
      obtain ⟨x1, x2⟩ := x
      simp only at h0
      subst h0
      go_wp2_with fail
      go_roundw
      case rel => exact ⟨j + 1, x1, fp9, by rw [HN.out]; omega, by go_num, HX.out, hR9, hxw, hxk, hxl, hk9, n9'⟩
      case measure => simp [intOf]; omega
     ·have hallw : d.writes ((s.first + q : Nat) : Int) ((chunks all).map pad) = x := by
       rw [← chunks_range, HN.out]
       exact writes_stop _ d _ (j + 1) x (by rw [← List.map_take, List.take_range, Nat.min_eq_left (by omega)]; exact HX.out) h0
      have HW := Lib.hid hallw
      clear hallw
      go_wp2_with fail
      go_ret
      have hkw9 : Kept fp w w9 := (hkw5.mono (by simp)).trans' hk9 (fun i hi => .inl hi)
      rw [E1.out, HW.out, if_neg h0]
      have hz0 := hkw5.size
      exact ⟨rfl, fp9, sp, B, hR9, hS.kept hkw9 hne, hkw9.mono (fun i hi => .inl (List.mem_append_left _ hi)), fun y hy => (n9' y hy).imp id (fun h => by omega), fun y hy => .inl hy, fun y hy hm => by
       rcases n9' y hm with e | e
       ·exact hne y hy e
       ·have := hS.lt y hy; omega⟩
    ·obtain rfl : j = N := by omega
     have h128 := mt (hNl j).1 hlt
     have i3 : ¬ ((128 * (q + j) : Nat) : Int) < ((s.fin + (n + 7) : Nat) : Int) := by omega
     have hallw : d.writes ((s.first + q : Nat) : Int) ((chunks all).map pad) = (dj, 0) := by rw [← chunks_range, HN.out]; exact hwr
     have HW := Lib.hid hallw
     have cf : ∀ i, wr.frozen? ⟨z, i, none⟩ = false := fun i => blk_frozen hzr i
     have x3 : wr.cell? ⟨z, 3, none⟩ = some (.int .i64 s.fin) := by rw [blk_cell hzr]; rfl
     have x4 : wr.cell? ⟨z, 4, none⟩ = some (.slice AB B.length cB) := by rw [blk_cell hzr]; rfl
     clear hallw hwr
     go_wp2_with fail
     go_ret
     have e9 : ((s.fin : Int) + ((n : Int) + 7)) = ((s.fin + (n + 7) : Nat) : Int) := by push_cast; rfl
     rw [e9]
     have hh1 := heap_set hzr 4 (.slice (some ⟨bb, oo, none⟩) (s.fin + (n + 7)) c5)
     have hh2 := heap_set hh1 3 (.int .i64 ((s.fin + (n + 7) : Nat) : Int))
     have hk1 : Kept [z] wr (wr.setCell ⟨z, 4, none⟩ (.slice (some ⟨bb, oo, none⟩) (s.fin + (n + 7)) c5)) := Kept.setCell (by simp) _
     have hk2 : Kept [z] wr ((wr.setCell ⟨z, 4, none⟩ (.slice (some ⟨bb, oo, none⟩) (s.fin + (n + 7)) c5)).setCell ⟨z, 3, none⟩ (.int .i64 ((s.fin + (n + 7) : Nat) : Int))) := hk1.trans (Kept.setCell (by simp) _)
     have hzj : ∀ y ∈ fpj, y ∉ [z] := fun y hy hm => by
      simp only [List.mem_singleton] at hm
      subst hm
      rcases hnj y hy with e | e
      ·exact hzfp e
      ·have := k5.size; omega
     have hz0 := hkw5.size
     have hbz : bb ≠ z := fun e => by subst e; omega
     have hbr : bb < wr.heap.size := Nat.lt_of_lt_of_le hbbl hkj.size
     have hbj : bb ∉ fpj := fun hm => by
      rcases hnj bb hm with e | e
      ·exact hbbfp e
      ·omega
     have hbw : w.heap.size ≤ bb := by omega
     rw [E1.out, HW.out, if_pos rfl]
     refine ⟨rfl, fpj, bb :: sp, ALL, hRj.kept hk2 hzj, ⟨⟨some ⟨bb, oo, none⟩, c5, ?_, ?_, (fun e => by cases e), (fun p e => by cases e; exact ⟨by simp, hbz⟩)⟩, List.mem_cons_of_mem _ hS.zin, fun y hy => ?_, H2.out.symm, ?_⟩, ?_, fun y hy => (hnj y hy).imp id (fun h => by omega), fun y hy => ?_, fun y hy => ?_⟩
     ·rw [H2.out]
      exact hh2
     ·rw [H2.out]
      exact hsr.kept hk2 (fun p e => by cases e; simpa using hbz)
     ·have h8 := hk2.size; have h9 := hkj.size
      rcases List.mem_cons.mp hy with rfl | hy
      ·omega
      ·have := hS.lt y hy; omega
     ·have h8 := last_drop (B := B) (rec := recB b) (L := s.last) (by rw [← HFB.out]; exact HLA.out)
      rw [HA.out, HALL.out, ← HFB.out, HLR.out] at h8
      exact h8
     ·exact ((hkw5.mono (by simp)).trans' hkj (fun i hi => .inl (List.mem_append_left _ hi))).trans' hk2 (fun i hi => by simp at hi; subst hi; exact .inl (List.mem_append_right _ hS.zin))
     ·rcases List.mem_cons.mp hy with rfl | hy
      ·exact .inr hbw
      ·exact .inl hy
     ·rcases List.mem_cons.mp hy with rfl | hy
      ·exact hbj
      ·intro hm
       rcases hnj y hm with e | e
       ·exact hne y hy e
       ·have := hS.lt y hy; omega
end Go.Proofs.YtbnflbkaogpnbaaGreat
