/- Texts in one: V7b V7 R3. -/
import Derived.Test.YtbnflbkaogpnbaaGreatPAH
import Derived.Sort.CutIn
import Derived.Deep.AppendLies
import Derived.Deep.Fields
import Derived.Deep.Slices
import Derived.OpenShut
import Derived.ProofKit
import Derived.SizedLaws
import Derived.Test.YtbnflbkaogpnbaaGreatPAD
import Derived.Test.YtbnflbkaogpnbaaGreatPAG
namespace Go.Proofs.YtbnflbkaogpnbaaGreat
open Go.RowKit Go.Shelf
attribute [local go_sem] Oper.semAt_some
set_option maxHeartbeats 4000000 in
set_option maxRecDepth 100000 in
theorem open_main {w : World} {a : Nat} {fp : List Nat} {d : Dev} (hD : Dv w a fp d) (f m e : Nat) (hz : d.at_ 0 = 0) (hfm : f + m ≤ d.secs.length) (hm1 : 1 ≤ m) (he : e ≤ 128 * m) (hob : openBad d f m e = 0) :
  Calls Tryz.prog 46 #[.pointer (some ⟨a, 0, none⟩), .int .i64 f, .int .i64 m, .int .i64 e] w (OpenPost w a d f m e) := by
 obtain ⟨W, hW⟩ : ∃ W, ((w.alloc (.cells #[.pointer none] 31)).alloc (.cells #[.slice none 0 0] 37)).alloc (.cells #[.int .i64 0] 23) = W := ⟨_, rfl⟩
 have hk : Kept [] w W := by rw [← hW]; exact ((Kept.alloc [] w _).trans (Kept.alloc [] _ _)).trans (Kept.alloc [] _ _)
 have hr1 : W.heap[w.heap.size]? = some (.cells #[.pointer none] 31 (0, 0)) := by rw [← hW, Below.heap_alloc _ _ _ (by simp; omega), Below.heap_alloc _ _ _ (by simp), heap_alloc_new]
 have hr2 : W.heap[w.heap.size + 1]? = some (.cells #[.slice none 0 0] 37 (0, 0)) := by
  have h := heap_alloc_new (w.alloc (.cells #[.pointer none] 31)) (.cells #[.slice none 0 0] 37)
  simp only [World.size_alloc] at h
  rw [← hW, Below.heap_alloc _ _ _ (by simp), h]
 have hr3 : W.heap[w.heap.size + 1 + 1]? = some (.cells #[.int .i64 0] 23 (0, 0)) := by
  have h := heap_alloc_new ((w.alloc (.cells #[.pointer none] 31)).alloc (.cells #[.slice none 0 0] 37)) (.cells #[.int .i64 0] 23)
  simp only [World.size_alloc] at h
  rw [← hW]; exact h
 have hOW : OpAt w W a fp d := ⟨hD.new_kept hk, hr1, hr2, hr3, hk⟩
 clear hk hr1 hr2 hr3
 have hm := hD.wf.many
 obtain ⟨hdead, _, hlen⟩ := Dev.at_zero hz
 obtain ⟨b0, hb0⟩ : ∃ b, d.secs[(0 : Int).toNat]? = some b := ⟨_, List.getElem?_eq_getElem (by simpa using hlen)⟩
 have cr := read_dv hOW.dv 0 hz hb0
 obtain ⟨M, hM⟩ : ∃ M, (e + 127) / 128 = M := ⟨_, rfl⟩
 obtain ⟨D, hDl⟩ : ∃ D, d.secs.length = D := ⟨_, rfl⟩
 have HM := Lib.hid hM; have HD := Lib.hid hDl
 have e1 : ¬ (f : Int) < 0 := by omega
 have e2 : ¬ (D : Int) < (f : Int) := by omega
 have e3 : ¬ (m : Int) < 1 := by omega
 have e4 : ¬ (D : Int) - (f : Int) < (m : Int) := by omega
 have e5 : ¬ (e : Int) < 0 := by omega
 have e6 : ¬ 128 * (m : Int) < (e : Int) := by omega
 have hMe : e ≤ 128 * M ∧ M ≤ m ∧ 128 * M < e + 128 := by omega
 rw [hDl] at hfm hm
 clear hM hDl hz hlen
 refine (callsIn_wide (n := 10)).1 ?_
 refine callsIn_of_wp_marks Tryz.func46 rfl trivial ?_ rfl
 simp only [Tryz.ntmps46, List.size_toArray, List.length_cons, List.length_nil, Nat.reduceAdd, Nat.reduceSub, Array.replicate_succ, Array.replicate_zero, List.push_toArray, List.append_toArray, List.nil_append, List.cons_append]
 refine wpIn_wide.2 ?_
 go_wp2_with (first | (go_at_call 27; refine cr.mono ?_; rintro e w1 ⟨A1, d1, rfl, hown1, hbel1⟩; have hO := hOW.next (Kept.of_below hbel1); obtain ⟨c1, c2, c3, f1, f2, f3⟩ := hO.cells; clear hown1 hbel1) | (go_at_call 28; refine (size_dv hO.dv).mono ?_; rintro e w' ⟨hsz, rfl⟩; rw [HD.out] at hsz; subst hsz))
 go_loopw [14, 63] (fun v i wr => OpL w w1 a fp d f M v i wr) (fun _ i _ => M - (intOf i).toNat)
 case atStart => exact ⟨0, none, 0, Nat.zero_le _, rfl, rfl, World.ownsRow_nil _ _ _ _, hO, Kept.refl _ _⟩
 case round =>
  obtain ⟨k, A2, n2, hk, rfl, rfl, hown, hO2, hk2⟩ := hrel
  by_cases hlt : k < M
  ·have i1 : (k : Int) < ((e : Int) + 128 - 1) / 128 := by have := HM.out; omega
   obtain ⟨bk, hbk⟩ : ∃ b, d.secs[f + k]? = some b := ⟨_, List.getElem?_eq_getElem (by rw [HD.out]; omega)⟩
   have hzk : d.at_ ((f : Int) + (k : Int)) = 0 := by unfold Dev.at_; rw [hdead, if_neg (by simp), if_neg (by rw [HD.out]; omega)]
   have crk := read_dv hO2.dv ((f : Int) + (k : Int)) hzk (b := bk) (by rw [show ((f : Int) + (k : Int)).toNat = f + k by omega]; exact hbk)
   have HBK := Lib.hid (bytes_step hD.wf hbk)
   have hk8 : 128 * k + 128 ≤ 140737488355328 := by omega
   clear hzk hbk
   go_wp2_with (first
    | (go_at_call 27; refine crk.mono ?_; rintro e x2 ⟨A3, d3, rfl, hown3, hbel3⟩; have hk3 := Kept.of_below (F := []) hbel3; have hO3 := hO2.next hk3; have hwn2 := row_kept hown hk3 (by simp); obtain ⟨hs3, _⟩ := ClonePost.sl hown3; have hA3 := row_nil' hown3; have hbase := (hk2.trans hk3).size; clear hown3 hbel3)
    | (refine wpList_append_u8 rfl (.tmp 74) (.tmp 75) rfl w1.heap.size _ (128 * k) _ rfl hwn2 A3 128 d3 bk rfl hs3 hA3 hk8 hbase ?_; intro A4 c4 w4 hown4 hgrow4 hA4))
   go_roundw
   case rel =>
    have hgk : Kept [] w1 w4 := (hk2.trans hk3).trans' (Kept.grown (F := (Value.slice A2 (128 * k) n2).ownBlock.toList) hgrow4 (fun i e => by
     have e' : (Value.slice A2 (128 * k) n2).ownBlock = some i := e
     rw [e']; simp)) (fun i hi => .inr (hwn2.lt i (by simpa using hi)).1)
    refine ⟨k + 1, A4, c4, by omega, by go_num, rfl, by rw [HBK.out]; exact hown4, hO.next hgk, hgk⟩
   case measure => simp [intOf]; omega
  ·have i1 : ¬ (k : Int) < ((e : Int) + 128 - 1) / 128 := by have := HM.out; omega
   obtain rfl : k = M := by omega
   obtain ⟨hsl2, hb2⟩ := own_sl hown
   have hnil2 := row_nil' hown
   have hle2 := hsl2.le; have hmx2 := hsl2.max
   unfold maxLen at hmx2
   have hse : (e : Int) ≤ (n2 : Int) := by omega
   clear hown
   obtain ⟨wL, hwL⟩ : ∃ W, wr.alloc (.cells #[.slice none 0 0] 37) = W := ⟨_, rfl⟩
   have hkL : Kept [] wr wL := by rw [← hwL]; exact Kept.alloc [] _ _
   have hLs : wL.heap.size ≤ wr.heap.size + 1 ∧ wr.heap.size + 1 ≤ wL.heap.size := by rw [← hwL]; simp
   have hLb : wL.heap[wr.heap.size]? = some (.cells #[.slice none 0 0] 37 (0, 0)) := by rw [← hwL]; exact heap_alloc_new _ _
   obtain ⟨b0, hb0⟩ : ∃ b0, (d.bytesAt f).take e = b0 := ⟨_, rfl⟩
   have hlow : SlAt wL A2 e n2 (u8vs b0) := by
    have h1 := (hsl2.low (j := e) hMe.1).kept hkL (by simp)
    rwa [List.take_take, Nat.min_eq_left hMe.1, hb0] at h1
   have hb0l : b0.length = e := by simpa [u8vs] using hlow.len
   have hsz2 := hk2.size
   have hszO := World.lt_of_heap hO.r3
   have hOL := hO2.next hkL
   have hHM := HM.out
   clear hO2 hsl2 c1 c2 c3 f1 f2 f3 hO
   go_wp2_with fail
   refine (cut_any _ _ _ _).mono ?_
   rintro e0 w8 ⟨rfl, hw8⟩
   have hk8 : Kept [] wL w8 := by rw [hw8]; exact Kept.alloc [] _ _
   have h8s : w8.heap.size ≤ wL.heap.size + 1 ∧ wL.heap.size + 1 ≤ w8.heap.size := by rw [hw8]; simp
   have hBb : w8.heap[wL.heap.size]? = some (.cells #[.slice A2 e n2] 45 (0, 0)) := by rw [hw8]; exact heap_alloc_new _ _
   have hLb8 := (hk8.block _ (World.lt_of_heap hLb) (by simp)).trans hLb
   have hO8 := hOL.next hk8
   have hlow8 := hlow.kept hk8 (by simp)
   have hcx : OpCtx w w8 fp wr.heap.size wL.heap.size A2 := ⟨hD.lt, by omega, by omega, by omega, fun p e => by have := hb2 p e; omega⟩
   have hR0 : OpI w w8 a fp d wr.heap.size A2 e n2 b0 [] w8 := ⟨none, 0, hO8, hLb8, World.ownsRow_nil _ _ _ _, by simp, by simp, hlow8⟩
   clear hOL hlow hLb hO8 hLb8 hw8 hkL hk8
   go_wp2_with fail
   refine (wpIn_wide (n := 10)).1 ?_
   refine' wpIn_rangeFunc_kept (encs := CutX.vals) (B := [wL.heap.size]) (R := wL.heap.size :: (A2.map (·.block)).toList) (G := CutGs b0) rfl (by omega) (gf := 103) (lb := #[.pointer (some ⟨wL.heap.size, 0, none⟩)]) rfl trivial (enters_of Tryz.func103 (by kernel_rfl) rfl)
    (cut_seq 9 (by omega) wL.heap.size b0 (by omega) A2 e n2 w8 hBb hlow8 (fun p e => by have := hb2 p e; omega)) (fun _ => rfl) (by simp; omega)
    (fun j hj => by
     simp only [List.mem_cons, Option.mem_toList, Option.map_eq_some_iff] at hj
     rcases hj with rfl | ⟨p, e, rfl⟩
     ·omega
     ·have := hb2 p e; omega)
    (fun _ _ _ _ _ h1 h hk => cutG_keep h1 h hk)
    (OpI w w8 a fp d wr.heap.size A2 e n2 b0) (OpX w a fp d)
    (fun pre X Y ⟨A, c, h⟩ hk => ⟨A, c, h.keep hcx hk (fun j hj => by simpa using hj)⟩)
    (fun c pre X Y ⟨h1, h2, h3⟩ hk => ⟨h1, h2, h3.keep hD.lt hk (fun j hj => by simp only [List.mem_cons, List.not_mem_nil, or_false] at hj; omega)⟩)
    hR0 _ ?assign ?body ?done ?stop
   case assign =>
    intro l x X K hK
    dsimp only [CutX.vals]
    gi_wp2
    exact hK
   case body =>
    rintro l pre ⟨xA, xn, xc, xs, ok⟩ X0 X hX0 ⟨AL, cL, hR⟩ hkX ⟨hpl, hG⟩
    have hRX := hR.keep hcx hkX (fun j hj => by simpa using hj)
    have hXs : w8.heap.size + 2 ≤ X.heap.size := Nat.le_trans hX0 hkX.size
    obtain ⟨c1, c2, c3, f1, f2, f3⟩ := hRX.op.cells
    cases ok with
    | false =>
     gi_wp2
     exact ⟨Stays.of_kept (hRX.op.set3 _ _ _).2.2.2 (fun k hk _ hm => by simp only [List.mem_cons, List.not_mem_nil, or_false] at hk hm; omega), rfl, ⟨pre, _, rfl, rfl⟩, hRX.op.put3 hcx.fp _ _ _⟩
    | true =>
     obtain ⟨hs, hsb, hs0, hs16⟩ := hG rfl
     obtain ⟨j0, hj0, ju0, ju1, ju2⟩ := info_parts info_bytes
     have cb : X.cell? ⟨wr.heap.size, 0, none⟩ = some (.slice AL pre.length cL) := by rw [blk_cell hRX.bx]; rfl
     have hkS : Kept [] X (X.alloc (.cells #[.slice xA xn xc] 45)) := Kept.alloc [] _ _
     have hrowS := row_kept hRX.row hkS (by simp)
     have hnews : ∀ j u, [Value.slice xA xn xc][j]? = some u → (X.alloc (.cells #[.slice xA xn xc] 45)).cell? ((⟨X.heap.size, 0, none⟩ : Addr).add j) = some u := fun j u hj => by
      have hj0 : j = 0 := by have := (List.getElem?_eq_some_iff.1 hj).1; simp at this; exact this
      subst hj0
      rw [add_block, blk_cell (heap_alloc_new _ _)]
      simpa using hj
     have hone : ∀ u ∈ [Value.slice xA xn xc], u.oneCell' = true := fun u hu => by simp at hu; subst hu; rfl
     have hbX := hRX.bx
     have hxb : ∀ p, xA = some p → w8.heap.size + 2 ≤ p.block ∧ p.block < X.heap.size ∧ (Value.slice AL pre.length cL).ownBlock ≠ some p.block := fun p e => by
      have h5 := hsb p e
      refine ⟨by omega, h5.2, fun he => ?_⟩
      have h6 := (hR.row.lt _ he).2
      omega
     have hmany : pre.length + 1 ≤ maxLen ∧ (pre.length + 1) * 24 ≤ 140737488355328 := by unfold maxLen; omega
     have hrlt := hRX.row.lt
     clear hkX c1 c2 c3 f1 f2 f3
     gi_upto_region 22 with fail
     refine wpIn_region_open (by kernel_rfl) (fun K hK => ?_)
     go_wp2_with (at_builtin; refine Hold.of ?_)
     unfold Hold
     refine wpList_append_lies _ rfl (.tmp 86) (.tmp 88) 37 rfl (w8.heap.size + 2) 45 j0 _ 1 24 Tryz.underlying37 hj0 ju0 ju1 ju2 rfl (by decide) _ pre.length _ rfl hrowS ⟨X.heap.size, 0, none⟩ 1 1 [.slice xA xn xc] rfl rfl hnews hone (by omega) hmany.1 hmany.2 (by simp; omega) (X.heap.size + 1) (by simp) ?_
     intro g cap w4 hown4 hgrow4 hat4 hlt4
     replace hgrow4 : (X.alloc (.cells #[.slice xA xn xc] 45)).grownBy w4 (Value.slice AL pre.length cL).ownBlock := hgrow4
     replace hat4 : (Value.slice AL pre.length cL).ownBlock = some g ∨ g = X.heap.size + 1 := hat4
     have hkg : Kept (Value.slice AL pre.length cL).ownBlock.toList (X.alloc (.cells #[.slice xA xn xc] 45)) w4 := Kept.grown hgrow4 (fun i e => by rw [e]; simp)
     have hLX := World.lt_of_heap hbX
     have hnotL : wr.heap.size ∉ (Value.slice AL pre.length cL).ownBlock.toList := fun hm => by have := (hrlt _ (by simpa using hm)).1; omega
     have hb4 := (hkg.block _ (by simp; omega) hnotL).trans ((hkS.block _ hLX (by simp)).trans hbX)
     have c4 : w4.cell? ⟨wr.heap.size, 0, none⟩ = some (.slice AL pre.length cL) := by rw [blk_cell hb4]; rfl
     have f4 : w4.frozen? ⟨wr.heap.size, 0, none⟩ = false := blk_frozen hb4 0
     obtain ⟨hR2, hk4⟩ := hRX.more (x := ⟨xA, xn, xc, xs, true⟩) hcx rfl ⟨hs, hs0⟩ hs16 hxb hkS hgrow4 (A' := some ⟨g, 0, none⟩) (c' := cap) hown4 (fun g2 e => by
      have e2 : g = g2 := by simpa [Value.ownBlock] using e
      subst e2
      rcases hat4 with h | h
      ·exact .inr h
      ·exact .inl (by simp; omega))
     have hHR2 := Lib.hid hR2; have hHk4 := Lib.hid hk4
     clear hR2 hk4 hkg hb4 hown4 hgrow4 hat4 hrowS hkS hbX hnews hone hR
     go_wp2_with fail
     exact ⟨Stays.of_kept hHk4.out (fun k hk _ hm => by
      simp only [List.mem_cons, Option.mem_toList, Option.map_eq_some_iff] at hk
      have hm2 : k = wr.heap.size ∨ w8.heap.size + 2 ≤ k := by
       simp only [List.mem_cons] at hm
       rcases hm with hm | hm
       ·exact .inl hm
       ·exact .inr (hrlt _ (by simpa using hm)).1
      rcases hk with rfl | rfl | rfl | ⟨p, e, rfl⟩
      ·omega
      ·omega
      ·omega
      ·have := hb2 p e; omega), _, _, hHR2.out⟩
   case done =>
    rintro pre X hS ⟨AL, cL, hR⟩ hDX
    obtain ⟨hok, hrec, hsm⟩ : (∀ x ∈ pre, x.ok = true) ∧ b0 = recs (pre.map CutX.xs) ∧ Small (pre.map CutX.xs) := by
     rcases hS with h | ⟨p, x, rfl, hx, _⟩
     ·exact h
     ·have := hR.ok x (by simp)
      rw [hx] at this
      cases this
    have hDs := World.lt_of_heap hDX
    obtain ⟨lo, hlo⟩ : ∃ lo, e - e % 128 = lo := ⟨_, rfl⟩
    have hloe : lo ≤ e := by omega
    have hlow : IntKind.i64.wrap ((e : Int) - (e : Int).tmod 128) = ((lo : Nat) : Int) := by
     rw [Int.tmod_eq_emod_of_nonneg (by omega), IntKind.wrap_i64]
     omega
    have hlast := (hR.sl.sliced hloe (Nat.le_refl e)).kept (Kept.drew [] X) (by simp)
    rw [List.take_of_length_le (by omega)] at hlast
    obtain ⟨AX, hAX⟩ : ∃ AX : Option Addr, (if n2 = lo then A2 else A2.map (·.add lo)) = AX := ⟨_, rfl⟩
    rw [hAX] at hlast
    have hlo1 : (0 ≤ ((lo : Nat) : Int) ∧ ((lo : Nat) : Int) ≤ (e : Int)) := by omega
    have hob0 : b0.drop lo = ((d.bytesAt f).take e).drop (e - e % 128) := by rw [hlo, hb0]
    have HLO := Lib.hid hlo; have HOB := Lib.hid hob0
    have x0 : X.cell? ⟨wr.heap.size, 0, none⟩ = some (.slice AL pre.length cL) := by rw [blk_cell hR.bx]; rfl
    have hLX := World.lt_of_heap hR.bx
    clear hlo hob0
    go_wp2_with fail
    refine wp_region_calm (S := (fun W => W.cell? ⟨wr.heap.size, 0, none⟩ = some (.slice AL pre.length cL))) (by kernel_rfl) x0 (fun hHeld => ?_)
    refine tk (i := 0) (v := ?_) (hy := Or.inl ⟨by rfl, ?_⟩) (hS := hHeld) (h := ?_)
    rotate_left
    ·intro w hSw
     try dsimp only at hSw
     go_simp
     all_goals with_reducible rfl
    try simp only [Act.put, List.setIfInBounds_toArray, List.set_cons_zero, List.set_cons_succ]
    refine tk (i := 1) (v := ?_) (hy := Or.inl ⟨by rfl, ?_⟩) (hS := hHeld) (h := ?_)
    rotate_left
    ·intro w hSw
     try dsimp only at hSw
     go_simp
     all_goals with_reducible rfl
    try simp only [Act.put, List.setIfInBounds_toArray, List.set_cons_zero, List.set_cons_succ]
    refine tk (i := 2) (v := ?_) (hy := Or.inl ⟨by rfl, ?_⟩) (hS := hHeld) (h := ?_)
    rotate_left
    ·intro w hSw
     try dsimp only at hSw
     go_simp
     all_goals with_reducible rfl
    try simp only [Act.put, List.setIfInBounds_toArray, List.set_cons_zero, List.set_cons_succ]
    refine tk (i := 3) (v := ?_) (hy := Or.inl ⟨by rfl, ?_⟩) (hS := hHeld) (h := ?_)
    rotate_left
    ·intro w hSw
     try dsimp only at hSw
     go_simp
     all_goals with_reducible rfl
    try simp only [Act.put, List.setIfInBounds_toArray, List.set_cons_zero, List.set_cons_succ]
    refine tk (i := 4) (v := ?_) (hy := Or.inl ⟨by rfl, ?_⟩) (hS := hHeld) (h := ?_)
    rotate_left
    ·intro w hSw
     try dsimp only at hSw
     go_simp
     all_goals with_reducible rfl
    try simp only [Act.put, List.setIfInBounds_toArray, List.set_cons_zero, List.set_cons_succ]
    refine tk (i := 5) (v := ?_) (hy := Or.inl ⟨by rfl, ?_⟩) (hS := hHeld) (h := ?_)
    rotate_left
    ·intro w hSw
     try dsimp only at hSw
     go_simp
     all_goals with_reducible rfl
    try simp only [Act.put, List.setIfInBounds_toArray, List.set_cons_zero, List.set_cons_succ]
    refine tk (i := 6) (v := ?_) (hy := Or.inl ⟨by rfl, ?_⟩) (hS := hHeld) (h := ?_)
    rotate_left
    ·intro w hSw
     try dsimp only at hSw
     go_simp
     all_goals with_reducible rfl
    try simp only [Act.put, List.setIfInBounds_toArray, List.set_cons_zero, List.set_cons_succ]
    refine tk (i := 7) (v := ?_) (hy := Or.inl ⟨by rfl, ?_⟩) (hS := hHeld) (h := ?_)
    rotate_left
    ·intro w hSw
     try dsimp only at hSw
     go_simp
     all_goals with_reducible rfl
    try simp only [Act.put, List.setIfInBounds_toArray, List.set_cons_zero, List.set_cons_succ]
    refine tk (i := 8) (v := ?_) (hy := Or.inl ⟨by rfl, ?_⟩) (hS := hHeld) (h := ?_)
    rotate_left
    ·intro w hSw
     try dsimp only at hSw
     go_simp
     all_goals with_reducible rfl
    try simp only [Act.put, List.setIfInBounds_toArray, List.set_cons_zero, List.set_cons_succ]
    try simp only [hlow]
    refine tk (i := 9) (v := ?_) (hy := Or.inl ⟨by rfl, ?_⟩) (hS := hHeld) (h := ?_)
    rotate_left
    ·intro w hSw
     try dsimp only at hSw
     go_simp
     all_goals with_reducible rfl
    try simp only [Act.put, List.setIfInBounds_toArray, List.set_cons_zero, List.set_cons_succ]
    refine tk (i := 10) (v := ?_) (hy := Or.inl ⟨by rfl, ?_⟩) (hS := hHeld) (h := ?_)
    rotate_left
    ·intro w hSw
     try dsimp only at hSw
     go_simp
     try simp only [hlo1, and_self, if_true]
     all_goals with_reducible rfl
    try simp only [Act.put, List.setIfInBounds_toArray, List.set_cons_zero, List.set_cons_succ]
    try simp only [hAX]
    refine tk (i := 14) (v := ?_) (hy := Or.inl ⟨by rfl, ?_⟩) (hS := hHeld) (h := ?_)
    rotate_left
    ·intro w hSw
     try dsimp only at hSw
     go_simp
     all_goals with_reducible rfl
    try simp only [Act.put, List.setIfInBounds_toArray, List.set_cons_zero, List.set_cons_succ]
    refine wpAnyH_ready (rs := [11]) (by kernel_rfl) (by simp) ?_
    refine AllReadyH.cons (by simp only [List.getElem?_toArray, List.getElem?_cons_succ, List.getElem?_cons_zero]; rfl) (fun K hK => ?_) AllReadyH.nil
    go_simp
    refine (bytesClone_any X.drew _ _ _ (b0.drop lo) hlast (by omega)).mono ?_
    rintro e0 x6 ⟨AN, cN, rfl, hownN, hbelN⟩
    have hk6 : Kept [] X x6 := (Kept.drew [] X).trans (Kept.of_below hbelN)
    obtain ⟨hsN, hNb0⟩ := own_sl hownN
    have hN0 := row_nil' hownN
    have hO6 := hR.op.next hk6
    have x6c : x6.cell? ⟨wr.heap.size, 0, none⟩ = some (.slice AL pre.length cL) := (hk6.cell (p := ⟨wr.heap.size, 0, none⟩) hLX (by simp)).trans x0
    clear hownN hbelN
    go_wp2_with fail
    refine hK.out _ _ ?_ (fun hHeld2 => ?_)
    ·exact x6c
    clear hK K hHeld
    have hHeld := hHeld2
    clear hHeld2
    try simp only [Act.put, List.setIfInBounds_toArray, List.set_cons_zero, List.set_cons_succ]
    refine tk (i := 12) (v := ?_) (hy := Or.inl ⟨by rfl, ?_⟩) (hS := hHeld) (h := ?_)
    rotate_left
    ·intro w hSw
     try dsimp only at hSw
     go_simp
     all_goals with_reducible rfl
    try simp only [Act.put, List.setIfInBounds_toArray, List.set_cons_zero, List.set_cons_succ]
    refine wpAnyH_ready (rs := [13]) (by kernel_rfl) (by simp) ?_
    refine AllReadyH.cons (by simp only [List.getElem?_toArray, List.getElem?_cons_succ, List.getElem?_cons_zero]; rfl) (fun K hK => ?_) AllReadyH.nil
    go_simp
    have hk7 : Kept [] x6 (x6.alloc (.cells #[.pointer (some ⟨a, 0, none⟩), .int .i64 f, .int .i64 m, .int .i64 e, .slice AN (e - lo) cN] 76)) := Kept.alloc [] _ _
    have hz7 := heap_alloc_new x6 (.cells #[.pointer (some ⟨a, 0, none⟩), .int .i64 f, .int .i64 m, .int .i64 e, .slice AN (e - lo) cN] 76)
    have hO7 := hO6.next hk7
    have x7c : (x6.alloc (.cells #[.pointer (some ⟨a, 0, none⟩), .int .i64 f, .int .i64 m, .int .i64 e, .slice AN (e - lo) cN] 76)).cell? ⟨wr.heap.size, 0, none⟩ = some (.slice AL pre.length cL) := (hk7.cell (p := ⟨wr.heap.size, 0, none⟩) (Nat.lt_of_lt_of_le hLX hk6.size) (by simp)).trans x6c
    obtain ⟨c1, c2, c3, f1, f2, f3⟩ := hO7.cells
    have hP9 := hO7.put3 hcx.fp (.pointer (some ⟨x6.heap.size, 0, none⟩)) (.slice AL pre.length cL) (.int .i64 0)
    have hk9 := (hO7.set3 (.pointer (some ⟨x6.heap.size, 0, none⟩)) (.slice AL pre.length cL) (.int .i64 0)).2.2.2
    have hL7 : wr.heap.size < (x6.alloc (.cells #[.pointer (some ⟨a, 0, none⟩), .int .i64 f, .int .i64 m, .int .i64 e, .slice AN (e - lo) cN] 76)).heap.size := Nat.lt_of_lt_of_le hLX (Nat.le_trans hk6.size hk7.size)
    generalize World.alloc x6 (.cells #[.pointer (some ⟨a, 0, none⟩), .int .i64 f, .int .i64 m, .int .i64 e, .slice AN (e - lo) cN] 76) = x7 at *
    refine hK.out _ _ ?_ (fun hHeld2 => ?_)
    ·exact x7c
    clear hK K hHeld
    have hHeld := hHeld2
    clear hHeld2
    try simp only [Act.put, List.setIfInBounds_toArray, List.set_cons_zero, List.set_cons_succ]
    refine wpAnyH_ready (rs := [15]) (by kernel_rfl) (by simp) ?_
    refine AllReadyH.cons (by simp only [List.getElem?_toArray, List.getElem?_cons_succ, List.getElem?_cons_zero]; rfl) (fun K hK => ?_) AllReadyH.nil
    go_simp
    have ks1 : Kept [w.heap.size] x7 (x7.setCell ⟨w.heap.size, 0, none⟩ (.pointer (some ⟨x6.heap.size, 0, none⟩))) := Kept.setCell (by simp) _
    have x8c := (ks1.cell (p := ⟨wr.heap.size, 0, none⟩) hL7 (by simp; omega)).trans x7c
    refine hK.out _ _ ?_ (fun hHeld2 => ?_)
    ·exact x8c
    clear hK K hHeld
    have hHeld := hHeld2
    clear hHeld2
    try simp only [Act.put, List.setIfInBounds_toArray, List.set_cons_zero, List.set_cons_succ]
    refine wpAnyH_ready (rs := [16]) (by kernel_rfl) (by simp) ?_
    refine AllReadyH.cons (by simp only [List.getElem?_toArray, List.getElem?_cons_succ, List.getElem?_cons_zero]; rfl) (fun K hK => ?_) AllReadyH.nil
    go_simp
    have ks2 : Kept [w.heap.size + 1] (x7.setCell ⟨w.heap.size, 0, none⟩ (.pointer (some ⟨x6.heap.size, 0, none⟩))) ((x7.setCell ⟨w.heap.size, 0, none⟩ (.pointer (some ⟨x6.heap.size, 0, none⟩))).setCell ⟨w.heap.size + 1, 0, none⟩ (.slice AL pre.length cL)) := Kept.setCell (by simp) _
    have x9c := (ks2.cell (p := ⟨wr.heap.size, 0, none⟩) (Nat.lt_of_lt_of_le hL7 ks1.size) (by simp; omega)).trans x8c
    refine hK.out _ _ ?_ (fun hHeld2 => ?_)
    ·exact x9c
    clear hK K hHeld
    have hHeld := hHeld2
    clear hHeld2
    try simp only [Act.put, List.setIfInBounds_toArray, List.set_cons_zero, List.set_cons_succ]
    refine wpAnyH_ready (rs := [17]) (by kernel_rfl) (by simp) ?_
    refine AllReadyH.cons (by simp only [List.getElem?_toArray, List.getElem?_cons_succ, List.getElem?_cons_zero]; rfl) (fun K hK => ?_) AllReadyH.nil
    go_simp
    have ks3 := Kept.setCell (F := [w.heap.size + 1 + 1]) (p := ⟨w.heap.size + 1 + 1, 0, none⟩) (w := (x7.setCell ⟨w.heap.size, 0, none⟩ (.pointer (some ⟨x6.heap.size, 0, none⟩))).setCell ⟨w.heap.size + 1, 0, none⟩ (.slice AL pre.length cL)) (by simp) (.int .i64 0)
    have x10c := (ks3.cell (p := ⟨wr.heap.size, 0, none⟩) (Nat.lt_of_lt_of_le hL7 (Nat.le_trans ks1.size ks2.size)) (by simp; omega)).trans x9c
    refine hK.out _ _ ?_ (fun hHeld2 => ?_)
    ·exact x10c
    clear hK K hHeld
    have hHeld := hHeld2
    clear hHeld2
    try simp only [Act.put, List.setIfInBounds_toArray, List.set_cons_zero, List.set_cons_succ]
    refine wpAnyH_calm (by kernel_rfl) ?_ _
    clear ks1 ks2 ks3 x8c x9c x10c x7c x6c c1 c2 c3 f1 f2 f3 hHeld
    generalize ((x7.setCell ⟨w.heap.size, 0, none⟩ (.pointer (some ⟨x6.heap.size, 0, none⟩))).setCell ⟨w.heap.size + 1, 0, none⟩ (.slice AL pre.length cL)).setCell ⟨w.heap.size + 1 + 1, 0, none⟩ (.int .i64 0) = x9 at *
    go_wp2_with fail
    have hD6 := (hk6.block _ hDs (by simp)).trans hDX
    have hD7 := (hk7.block _ (World.lt_of_heap hD6) (by simp)).trans hD6
    have hD9 := (hk9.block _ (World.lt_of_heap hD7) (by simp; omega)).trans hD7
    refine ⟨by simp, .inl ⟨_, _, rfl, run_takeDeferred hD9, ?_⟩⟩
    have hkD : Kept [w8.heap.size] x9 (x9.putObj w8.heap.size (.deferred none)) := Kept.putObj (r := w8.heap.size) (by simp) _ _
    have hPD := hP9.keep hD.lt hkD (fun j hj => by simp at hj; omega)
    refine ⟨_, results_cells3 rfl _ _ w.heap.size (w.heap.size + 1) (w.heap.size + 1 + 1) _ _ _ rfl rfl rfl (by rw [blk_cell hPD.r1]; rfl) (by rw [blk_cell hPD.r2]; rfl) (by rw [blk_cell hPD.r3]; rfl) agg_strip agg_bytess agg_errno, ?_⟩
    have hw6 := hk6.size
    have hw7 := hk7.size
    have hz9 := (hk9.block _ (World.lt_of_heap hz7) (by simp; omega)).trans hz7
    have hzD := (hkD.block _ (World.lt_of_heap hz9) (by simp; omega)).trans hz9
    exact hR.done (X1 := x6) (ln := e - lo) (last := b0.drop lo) (z := x6.heap.size) hcx hDs hob (by rw [hb0]; exact hrec) hsm hk6 HOB.out (by rw [List.length_drop, hb0l]) hsN hN0 (fun p e => hNb0 p e)
     (((hk7.mono (by simp)).trans (hk9.mono (fun i hi => .inl (by simp at hi ⊢; omega)))).trans (hkD.mono (fun i hi => .inl (by simp at hi ⊢; omega)))) (Nat.le_refl _) hzD
   case stop =>
    rintro c pre X hSp ⟨rfl, ⟨p, x, rfl, hxo⟩, hrt⟩ hDX
    have hno : NoRecs b0 := by
     obtain ⟨p2, x2, e2, h2⟩ := hSp
     obtain ⟨_, e3⟩ := List.append_inj' e2 rfl
     cases e3
     exact h2 hxo
    rw [← hb0] at hno
    refine (wpIn_wide (n := 10)).2 ?_
    go_wp2_with fail
    refine ⟨by simp, .inl ⟨_, _, rfl, run_takeDeferred hDX, ?_⟩⟩
    have hrf := hrt.keep hD.lt (Kept.putObj (F := [w8.heap.size]) (r := w8.heap.size) (by simp) X (.deferred none)) (fun j hj => by simp at hj; omega)
    refine ⟨_, results_cells3 rfl _ _ w.heap.size (w.heap.size + 1) (w.heap.size + 1 + 1) _ _ _ rfl rfl rfl (by rw [blk_cell hrf.r1]; rfl) (by rw [blk_cell hrf.r2]; rfl) (by rw [blk_cell hrf.r3]; rfl) agg_strip agg_bytess agg_errno, ?_⟩
    exact ⟨hrf.kept, .inr (.inl ⟨hob, hno, rfl⟩)⟩
end Go.Proofs.YtbnflbkaogpnbaaGreat
namespace Go.Proofs.YtbnflbkaogpnbaaGreat
open Go.RowKit Go.Shelf
attribute [local go_sem] Oper.semAt_some
set_option maxHeartbeats 4000000 in
set_option maxRecDepth 100000 in
theorem open_any {w : World} {a : Nat} {fp : List Nat} {d : Dev} (hD : Dv w a fp d) (first many fin : Int) (h1 : I64 first) (h2 : I64 many) (h3 : I64 fin) :
  Calls Tryz.prog 46 #[.pointer (some ⟨a, 0, none⟩), .int .i64 first, .int .i64 many, .int .i64 fin] w (OpenPost w a d first many fin) := by
 unfold I64 at h1 h2 h3
 obtain ⟨W, hW⟩ : ∃ W, ((w.alloc (.cells #[.pointer none] 31)).alloc (.cells #[.slice none 0 0] 37)).alloc (.cells #[.int .i64 0] 23) = W := ⟨_, rfl⟩
 have hk : Kept [] w W := by rw [← hW]; exact ((Kept.alloc [] w _).trans (Kept.alloc [] _ _)).trans (Kept.alloc [] _ _)
 have hr1 : W.heap[w.heap.size]? = some (.cells #[.pointer none] 31 (0, 0)) := by rw [← hW, Below.heap_alloc _ _ _ (by simp; omega), Below.heap_alloc _ _ _ (by simp), heap_alloc_new]
 have hr2 : W.heap[w.heap.size + 1]? = some (.cells #[.slice none 0 0] 37 (0, 0)) := by
  have h := heap_alloc_new (w.alloc (.cells #[.pointer none] 31)) (.cells #[.slice none 0 0] 37)
  simp only [World.size_alloc] at h
  rw [← hW, Below.heap_alloc _ _ _ (by simp), h]
 have hr3 : W.heap[w.heap.size + 1 + 1]? = some (.cells #[.int .i64 0] 23 (0, 0)) := by
  have h := heap_alloc_new ((w.alloc (.cells #[.pointer none] 31)).alloc (.cells #[.slice none 0 0] 37)) (.cells #[.int .i64 0] 23)
  simp only [World.size_alloc] at h
  rw [← hW]; exact h
 have hOW : OpAt w W a fp d := ⟨hD.new_kept hk, hr1, hr2, hr3, hk⟩
 clear hk hr1 hr2 hr3
 have hm := hD.wf.many
 by_cases hz : d.at_ 0 = 0
 ·obtain ⟨hdead, _, hlen⟩ := Dev.at_zero hz
  obtain ⟨b0, hb0⟩ : ∃ b, d.secs[(0 : Int).toNat]? = some b := ⟨_, List.getElem?_eq_getElem (by simpa using hlen)⟩
  have cr := read_dv hOW.dv 0 hz hb0
  by_cases e1 : first < 0
  ·have hob : openBad d first many fin = 9 := by unfold openBad; rw [if_neg (by omega), if_pos (by omega)]
   clear h1 h2 h3
   refine (callsIn_wide (n := 10)).1 ?_
   refine callsIn_of_wp_marks Tryz.func46 rfl trivial ?_ rfl
   simp only [Tryz.ntmps46, List.size_toArray, List.length_cons, List.length_nil, Nat.reduceAdd, Nat.reduceSub, Array.replicate_succ, Array.replicate_zero, List.push_toArray, List.append_toArray, List.nil_append, List.cons_append]
   refine wpIn_wide.2 ?_
   go_wp2_with (first | (go_at_call 27; refine cr.mono ?_; rintro e w1 ⟨A1, d1, rfl, hown1, hbel1⟩; have hO := hOW.next (Kept.of_below hbel1); obtain ⟨c1, c2, c3, f1, f2, f3⟩ := hO.cells; clear hown1 hbel1) | (go_at_call 28; refine (size_dv hO.dv).mono ?_; rintro e w' ⟨rfl, rfl⟩))
   obtain ⟨q1, q2, q3, _⟩ := hO.set3 (.pointer none) (.slice none 0 0) (.int .i64 9)
   refine ⟨_, results_cells3 rfl _ _ w.heap.size (w.heap.size + 1) (w.heap.size + 1 + 1) _ _ _ rfl rfl rfl q1 q2 q3 agg_strip agg_bytess agg_errno, ?_⟩
   exact hO.out hob (by decide)
  ·by_cases e2 : (d.secs.length : Int) < first
   ·have hob : openBad d first many fin = 9 := by unfold openBad; rw [if_neg (by omega), if_pos (by omega)]
    clear h1 h2 h3
    refine (callsIn_wide (n := 10)).1 ?_
    refine callsIn_of_wp_marks Tryz.func46 rfl trivial ?_ rfl
    simp only [Tryz.ntmps46, List.size_toArray, List.length_cons, List.length_nil, Nat.reduceAdd, Nat.reduceSub, Array.replicate_succ, Array.replicate_zero, List.push_toArray, List.append_toArray, List.nil_append, List.cons_append]
    refine wpIn_wide.2 ?_
    go_wp2_with (first | (go_at_call 27; refine cr.mono ?_; rintro e w1 ⟨A1, d1, rfl, hown1, hbel1⟩; have hO := hOW.next (Kept.of_below hbel1); obtain ⟨c1, c2, c3, f1, f2, f3⟩ := hO.cells; clear hown1 hbel1) | (go_at_call 28; refine (size_dv hO.dv).mono ?_; rintro e w' ⟨rfl, rfl⟩))
    obtain ⟨q1, q2, q3, _⟩ := hO.set3 (.pointer none) (.slice none 0 0) (.int .i64 9)
    refine ⟨_, results_cells3 rfl _ _ w.heap.size (w.heap.size + 1) (w.heap.size + 1 + 1) _ _ _ rfl rfl rfl q1 q2 q3 agg_strip agg_bytess agg_errno, ?_⟩
    exact hO.out hob (by decide)
   ·by_cases e3 : many < 1
    ·have hob : openBad d first many fin = 9 := by unfold openBad; rw [if_neg (by omega), if_pos (by omega)]
     clear h2 h3
     refine (callsIn_wide (n := 10)).1 ?_
     refine callsIn_of_wp_marks Tryz.func46 rfl trivial ?_ rfl
     simp only [Tryz.ntmps46, List.size_toArray, List.length_cons, List.length_nil, Nat.reduceAdd, Nat.reduceSub, Array.replicate_succ, Array.replicate_zero, List.push_toArray, List.append_toArray, List.nil_append, List.cons_append]
     refine wpIn_wide.2 ?_
     go_wp2_with (first | (go_at_call 27; refine cr.mono ?_; rintro e w1 ⟨A1, d1, rfl, hown1, hbel1⟩; have hO := hOW.next (Kept.of_below hbel1); obtain ⟨c1, c2, c3, f1, f2, f3⟩ := hO.cells; clear hown1 hbel1) | (go_at_call 28; refine (size_dv hO.dv).mono ?_; rintro e w' ⟨rfl, rfl⟩))
     obtain ⟨q1, q2, q3, _⟩ := hO.set3 (.pointer none) (.slice none 0 0) (.int .i64 9)
     refine ⟨_, results_cells3 rfl _ _ w.heap.size (w.heap.size + 1) (w.heap.size + 1 + 1) _ _ _ rfl rfl rfl q1 q2 q3 agg_strip agg_bytess agg_errno, ?_⟩
     exact hO.out hob (by decide)
    ·by_cases e4 : (d.secs.length : Int) - first < many
     ·have hob : openBad d first many fin = 9 := by unfold openBad; rw [if_neg (by omega), if_pos (by omega)]
      clear h2 h3
      refine (callsIn_wide (n := 10)).1 ?_
      refine callsIn_of_wp_marks Tryz.func46 rfl trivial ?_ rfl
      simp only [Tryz.ntmps46, List.size_toArray, List.length_cons, List.length_nil, Nat.reduceAdd, Nat.reduceSub, Array.replicate_succ, Array.replicate_zero, List.push_toArray, List.append_toArray, List.nil_append, List.cons_append]
      refine wpIn_wide.2 ?_
      go_wp2_with (first | (go_at_call 27; refine cr.mono ?_; rintro e w1 ⟨A1, d1, rfl, hown1, hbel1⟩; have hO := hOW.next (Kept.of_below hbel1); obtain ⟨c1, c2, c3, f1, f2, f3⟩ := hO.cells; clear hown1 hbel1) | (go_at_call 28; refine (size_dv hO.dv).mono ?_; rintro e w' ⟨rfl, rfl⟩))
      obtain ⟨q1, q2, q3, _⟩ := hO.set3 (.pointer none) (.slice none 0 0) (.int .i64 9)
      refine ⟨_, results_cells3 rfl _ _ w.heap.size (w.heap.size + 1) (w.heap.size + 1 + 1) _ _ _ rfl rfl rfl q1 q2 q3 agg_strip agg_bytess agg_errno, ?_⟩
      exact hO.out hob (by decide)
     ·by_cases e5 : fin < 0
      ·have hob : openBad d first many fin = 2 := by unfold openBad; rw [if_neg (by omega), if_neg (by omega), if_pos (by omega)]
       clear h3
       refine (callsIn_wide (n := 10)).1 ?_
       refine callsIn_of_wp_marks Tryz.func46 rfl trivial ?_ rfl
       simp only [Tryz.ntmps46, List.size_toArray, List.length_cons, List.length_nil, Nat.reduceAdd, Nat.reduceSub, Array.replicate_succ, Array.replicate_zero, List.push_toArray, List.append_toArray, List.nil_append, List.cons_append]
       refine wpIn_wide.2 ?_
       go_wp2_with (first | (go_at_call 27; refine cr.mono ?_; rintro e w1 ⟨A1, d1, rfl, hown1, hbel1⟩; have hO := hOW.next (Kept.of_below hbel1); obtain ⟨c1, c2, c3, f1, f2, f3⟩ := hO.cells; clear hown1 hbel1) | (go_at_call 28; refine (size_dv hO.dv).mono ?_; rintro e w' ⟨rfl, rfl⟩))
       obtain ⟨q1, q2, q3, _⟩ := hO.set3 (.pointer none) (.slice none 0 0) (.int .i64 2)
       refine ⟨_, results_cells3 rfl _ _ w.heap.size (w.heap.size + 1) (w.heap.size + 1 + 1) _ _ _ rfl rfl rfl q1 q2 q3 agg_strip agg_bytess agg_errno, ?_⟩
       exact hO.out hob (by decide)
      ·by_cases e6 : 128 * many < fin
       ·have hob : openBad d first many fin = 2 := by unfold openBad; rw [if_neg (by omega), if_neg (by omega), if_pos (by omega)]
        clear h3
        refine (callsIn_wide (n := 10)).1 ?_
        refine callsIn_of_wp_marks Tryz.func46 rfl trivial ?_ rfl
        simp only [Tryz.ntmps46, List.size_toArray, List.length_cons, List.length_nil, Nat.reduceAdd, Nat.reduceSub, Array.replicate_succ, Array.replicate_zero, List.push_toArray, List.append_toArray, List.nil_append, List.cons_append]
        refine wpIn_wide.2 ?_
        go_wp2_with (first | (go_at_call 27; refine cr.mono ?_; rintro e w1 ⟨A1, d1, rfl, hown1, hbel1⟩; have hO := hOW.next (Kept.of_below hbel1); obtain ⟨c1, c2, c3, f1, f2, f3⟩ := hO.cells; clear hown1 hbel1) | (go_at_call 28; refine (size_dv hO.dv).mono ?_; rintro e w' ⟨rfl, rfl⟩))
        obtain ⟨q1, q2, q3, _⟩ := hO.set3 (.pointer none) (.slice none 0 0) (.int .i64 2)
        refine ⟨_, results_cells3 rfl _ _ w.heap.size (w.heap.size + 1) (w.heap.size + 1 + 1) _ _ _ rfl rfl rfl q1 q2 q3 agg_strip agg_bytess agg_errno, ?_⟩
        exact hO.out hob (by decide)
       ·have hob : openBad d first many fin = 0 := by unfold openBad; rw [if_neg (by omega), if_neg (by omega), if_neg (by omega)]
        obtain ⟨f, rfl⟩ : ∃ f : Nat, first = f := ⟨first.toNat, by omega⟩
        obtain ⟨m, rfl⟩ : ∃ m : Nat, many = m := ⟨many.toNat, by omega⟩
        obtain ⟨e, rfl⟩ : ∃ e : Nat, fin = e := ⟨fin.toNat, by omega⟩
        exact open_main hD f m e hz (by omega) (by omega) (by omega) hob
 ·have hb : (d.at_ 0 != 0) = true := by simpa using hz
  have hob : openBad d first many fin = d.at_ 0 := by unfold openBad; rw [if_pos hz]
  have hO := hOW
  obtain ⟨c1, c2, c3, f1, f2, f3⟩ := hO.cells
  refine (callsIn_wide (n := 10)).1 ?_
  refine callsIn_of_wp_marks Tryz.func46 rfl trivial ?_ rfl
  simp only [Tryz.ntmps46, List.size_toArray, List.length_cons, List.length_nil, Nat.reduceAdd, Nat.reduceSub, Array.replicate_succ, Array.replicate_zero, List.push_toArray, List.append_toArray, List.nil_append, List.cons_append]
  refine wpIn_wide.2 ?_
  go_wp2_with (go_at_call 27; refine (read_bad hO.dv 0 hz).mono ?_; rintro e w' ⟨rfl, rfl⟩)
  obtain ⟨q1, q2, q3, _⟩ := hO.set3 (.pointer none) (.slice none 0 0) (.int .i64 (d.at_ 0))
  refine ⟨_, results_cells3 rfl _ _ w.heap.size (w.heap.size + 1) (w.heap.size + 1 + 1) _ _ _ rfl rfl rfl q1 q2 q3 agg_strip agg_bytess agg_errno, ?_⟩
  exact hO.out hob hz
end Go.Proofs.YtbnflbkaogpnbaaGreat
namespace Go.Proofs.YtbnflbkaogpnbaaGreat
open Go.RowKit Go.ChangeShapes Go.WideShapes Go.Deep
section
variable {H : Type} {enc : TypeId × Value → H} {w : World} {base : Nat} {held : Bool}
end
section
variable {H : Type} {enc : TypeId × Value → H} {w : World} {base : Nat} {held : Bool}
end
/-- A deed of chapter 13, as it lies in memory. -/
structure D13 where
 kind : Int
 num : Int
 data : Part
 lstA : Option Addr
 lstn : Nat
 lstc : Nat
 lst : List Part
 keepA : Option Addr
 keepn : Nat
 keepc : Nat
 keep : List Int
structure D13.Ok (w : World) (d : D13) : Prop where
 kind : I64 d.kind
 num : I64 d.num
 data : d.data.At w
 lst : BytessAt w d.lstA d.lstn d.lstc d.lst
 keepS : SlAt w d.keepA d.keepn d.keepc (d.keep.map i64v)
 keepL : d.keepn * 8 ≤ 140737488355328
 keepI : ∀ n ∈ d.keep, I64 n
/-- A slice of them. -/
structure D13s (w : World) (A : Option Addr) (n c : Nat) (l : List D13) : Prop where
 len : l.length = n
 le : n ≤ c
 max : c ≤ maxLen
 ok : ∀ d ∈ l, d.Ok w
 cells : 0 < n → ∃ b o, A = some ⟨b, o, none⟩ ∧ b < w.heap.size ∧ ∀ i d, l[i]? = some d → w.cell? ⟨b, o + i * 5, none⟩ = some (.int .i64 d.kind) ∧ w.cell? ⟨b, o + i * 5 + 1, none⟩ = some (.int .i64 d.num) ∧ w.cell? ⟨b, o + i * 5 + 2, none⟩ = some (d.data.val) ∧ w.cell? ⟨b, o + i * 5 + 3, none⟩ = some (.slice d.lstA d.lstn d.lstc) ∧ w.cell? ⟨b, o + i * 5 + 4, none⟩ = some (.slice d.keepA d.keepn d.keepc)
theorem D13s.at_ {w : World} {A : Option Addr} {n c : Nat} {l : List D13} (h : D13s w A n c l) {k : Nat} (hk : k < n) : ∃ b o d, A = some ⟨b, o, none⟩ ∧ b < w.heap.size ∧ l[k]? = some d ∧ d.Ok w ∧ w.cell? ⟨b, o + k * 5, none⟩ = some (.int .i64 d.kind) ∧ w.cell? ⟨b, o + k * 5 + 1, none⟩ = some (.int .i64 d.num) ∧ w.cell? ⟨b, o + k * 5 + 2, none⟩ = some (d.data.val) ∧ w.cell? ⟨b, o + k * 5 + 3, none⟩ = some (.slice d.lstA d.lstn d.lstc) ∧ w.cell? ⟨b, o + k * 5 + 4, none⟩ = some (.slice d.keepA d.keepn d.keepc) := by
 obtain ⟨b, o, hA, hb, hc⟩ := h.cells (by omega)
 have hd : l[k]? = some (l[k]'(by rw [h.len]; exact hk)) := List.getElem?_eq_getElem (by rw [h.len]; exact hk)
 exact ⟨b, o, _, hA, hb, hd, h.ok _ (List.mem_of_getElem? hd), hc k _ hd⟩
section
variable {H : Type} {enc : TypeId × Value → H} {w : World} {base : Nat} {held : Bool}
end
end Go.Proofs.YtbnflbkaogpnbaaGreat
