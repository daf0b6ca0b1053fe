/- Texts in one: G0 G1 H0 H1 H2 E0 F0 P0. -/
import Derived.Test.YtbnflbkaogpnbaaGreatPAB
import Derived.BigRegion
import Derived.Test.YtbnflbkaogpnbaaGreatPAA
namespace Go.Proofs.YtbnflbkaogpnbaaGreat
open Go.RowKit Go.Maps
theorem Dev.backs_append (keep : List Int) (f : Nat → Blk) (i : Nat) : ∀ (l : List Nat) (k : Nat) (s : List Blk),
  Dev.backs keep f k (l ++ [i]) s = if Dev.lost keep (k + l.length) then (Dev.backs keep f k l s).set i (f i) else Dev.backs keep f k l s := by
 intro l
 induction l with
 | nil => intro k s; simp [Dev.backs]
 | cons x r ih =>
  intro k s
  simp only [List.cons_append, Dev.backs]
  rw [ih]
  simp only [List.length_cons]
  have e : k + 1 + r.length = k + (r.length + 1) := by omega
  rw [e]
/-- The cell of a slice of ints at i, where there is one. -/
theorem SlAt.int_at {w : World} {A : Option Addr} {n c : Nat} {xs : List Int} (h : SlAt w A n c (xs.map i64v)) {k : Nat} (hk : k < n) :
  ∃ b o, A = some ⟨b, o, none⟩ ∧ b < w.heap.size ∧ w.cell? ⟨b, o + k, none⟩ = some (.int .i64 (xs[k]?.getD 0)) := by
 obtain ⟨b, o, hA, hb, hc⟩ := h.cells (by omega)
 have hl := h.len
 simp only [List.length_map] at hl
 refine ⟨b, o, hA, hb, ?_⟩
 rw [hc k hk, List.getElem?_map, List.getElem?_eq_getElem (by omega)]
 rfl
/-- The device in the midst of a loss. -/
def Dev.part (d : Dev) (keep : List Int) (j : Nat) : Dev := { d with secs := Dev.backs keep (fun i => (Dev.look d.sure i).getD []) 0 (d.keys.take j) d.secs }
theorem Dev.key_lt {d : Dev} (h : d.Wf) {i : Nat} (hi : i ∈ d.keys) : i < d.secs.length := by
 obtain ⟨p, hp, rfl⟩ := List.mem_map.1 (Dev.mem_keys.1 hi)
 exact h.keyIn p hp
theorem Dev.part_succ {d : Dev} {keep : List Int} {j : Nat} (hj : j < d.keys.length) :
  d.part keep (j + 1) = if Dev.lost keep j then { d.part keep j with secs := (d.part keep j).secs.set d.keys[j] ((Dev.look d.sure d.keys[j]).getD []) } else d.part keep j := by
 unfold Dev.part
 rw [List.take_succ_eq_append_getElem hj, Dev.backs_append]
 have e : 0 + (d.keys.take j).length = j := by simp; omega
 rw [e]
 split <;> rfl
end Go.Proofs.YtbnflbkaogpnbaaGreat
namespace Go.Proofs.YtbnflbkaogpnbaaGreat
open Go.RowKit Go.Maps
open Go.ChangeMaps (setBlock heap_setBlock_same heap_setBlock_other)
/-- Between two rounds of a loss. -/
structure GoneAt (w1 : World) (a S M : Nat) (K : Option Nat) (d : Dev) (keep : List Int) (j : Nat) (wr : World) : Prop where
 dev : DevAt wr a S M K (d.part keep j)
 kept : Kept [S] w1 wr
theorem GoneAt.skip {w1 wr : World} {a S M : Nat} {K : Option Nat} {d : Dev} {keep : List Int} {j : Nat} (h : GoneAt w1 a S M K d keep j wr) (hj : j < d.keys.length) (hl : Dev.lost keep j = false) : GoneAt w1 a S M K d keep (j + 1) wr :=
 ⟨by rw [Dev.part_succ hj, hl]; exact h.dev, h.kept⟩
theorem GoneAt.back {w1 wr : World} {a S M : Nat} {K : Option Nat} {d : Dev} {keep : List Int} {j : Nat} (h : GoneAt w1 a S M K d keep j wr) (hj : j < d.keys.length) (hl : Dev.lost keep j = true) {b : Blk} (hb : Dev.look d.sure d.keys[j] = some b)
  (hwf : d.Wf) : GoneAt w1 a S M K d keep (j + 1) (wr.drew.setCells S (d.keys[j] * 128) (u8vs b)) := by
 refine ⟨?_, (h.kept.trans (Kept.drew _ _)).trans (setCells_kept S (u8vs b) _ _)⟩
 have hk : d.keys[j] < (d.part keep j).secs.length := by
  have := Dev.key_lt hwf (List.getElem_mem hj)
  simpa [Dev.part, Dev.length_backs] using this
 have h1 := h.dev.drew.put hk (hwf.sureSize _ (Dev.look_mem hb))
 rw [Dev.part_succ hj, hl, hb]
 exact h1
set_option maxHeartbeats 1000000 in
set_option maxRecDepth 100000 in
theorem gone_any {w : World} {a S M : Nat} {K : Option Nat} {d : Dev} (hD : DevAt w a S M K d) (A : Option Addr) (n c : Nat) (keep : List Int) (hx : SlAt w A n c (keep.map i64v)) (hA : ∀ p, A = some p → 0 < n → p.block ≠ S) :
  Calls Tryz.prog 26 #[.pointer (some ⟨a, 0, none⟩), .slice A n c] w (DevPost w a S M K (d.gone keep, 100)) := by
 have hcs := hD.cells
 have hal := hD.lt
 have hne := hD.ne
 have c1 := hcs.2.1
 go_enter Tryz.func26, Tryz.ntmps26
 go_wp2_with (first | (go_at_call 49; refine (keys_any _ _).mono ?_; rintro e w' ⟨rfl, rfl⟩) | (go_at_call 48; refine (sortedKeys_any hD).mono ?_; rintro e w1 ⟨As, cs, rfl, hown, hbel⟩))
 have hk1 : Kept [] w w1 := (Kept.alloc [] w _).trans (Kept.of_below hbel)
 have hD1 := hD.kept hk1 (by simp) (by simp) (by simp) (by simp)
 have hx1 := hx.kept hk1 (by simp)
 have hs1 : SlAt w1 As d.keys.length cs ((d.keys.map fun i : Nat => (i : Int)).map i64v) ∧ ∀ p, As = some p → p.block ≠ S := by
  obtain ⟨A0, c0, e, h1, h2⟩ := SlAt.of_own hown
  simp only [Value.slice.injEq, true_and] at e
  obtain ⟨rfl, rfl⟩ := e
  refine ⟨by rw [List.map_map]; exact h1, fun p hp => ?_⟩
  have h3 := (h2 p hp).2
  have h4 := hal.2.1
  simp only [World.size_alloc] at h3
  omega
 obtain ⟨hs1, hsS⟩ := hs1
 clear hown hbel hcs
 have hwf := hD.wf
 have hgo : GoneAt w1 a S M K d keep 0 w1 := ⟨by simpa [Dev.part, Dev.backs] using hD1, Kept.refl _ _⟩
 clear hx hD1
 go_loopw [14] (fun i wr => ∃ j : Nat, j ≤ d.keys.length ∧ i = .int .i64 j ∧ GoneAt w1 a S M K d keep j wr) (fun i _ => d.keys.length - (intOf i).toNat)
 case atStart => exact ⟨0, Nat.zero_le _, rfl, hgo⟩
 case round =>
  obtain ⟨j, hj, rfl, hg⟩ := hrel
  have hmx := hs1.max; have hmn := hs1.le
  unfold maxLen at hmx
  by_cases hlt : j < d.keys.length
  ·have hsr := hs1.kept hg.kept (fun p hp => by simpa using hsS p hp)
   have hxr := hx1.keptP hg.kept (fun p hp hn => by simpa using hA p hp hn)
   obtain ⟨bs, os, hAs, _, hkc⟩ := hsr.int_at hlt
   subst hAs
   have hkc' : wr.cell? ⟨bs, os + j, none⟩ = some (.int .i64 (d.keys[j] : Nat)) := by
    rw [hkc]; simp [hlt]
   have hkl : d.keys[j] < (d.part keep j).secs.length := by
    have := Dev.key_lt hwf (List.getElem_mem hlt)
    simpa [Dev.part, Dev.length_backs] using this
   have hkm := hg.dev.wf.many
   obtain ⟨b, hb⟩ := Dev.look_of_key (Dev.mem_keys.1 (List.getElem_mem hlt))
   have hbl := hwf.sureSize _ (Dev.look_mem hb)
   have hj2 : (j : Int) < (d.keys.length : Int) := by omega
   have e0 := hg.dev.cells.1
   have e1 := hg.dev.cells.2.1
   have hback := fun hl => hg.back hlt hl hb hwf
   have hskip := hg.skip hlt
   have hlk : (Instr.lookup 41 (.map (some M)) (.int .i64 (d.keys[j] : Nat)) false).run Tryz.prog wr.drew = .ok (.agg (u8vs b).toArray) wr.drew := by
    rcases hg.dev.drew.lookup false d.keys[j] (by omega) with ⟨h, _⟩ | ⟨b2, h, h'⟩
    ·have : Dev.look d.sure d.keys[j] = none := h
     rw [hb] at this; cases this
    ·have : Dev.look d.sure d.keys[j] = some b2 := h
     rw [hb] at this; cases this; exact h'
   have ht3 : wr.drew.there S (d.keys[j] * 128) 128 := flat_there hg.dev.secs hg.dev.wf.size hkl
   have hlen : (d.part keep j).secs.length = d.secs.length := by simp [Dev.part, Dev.length_backs]
   have hkl2 : (d.keys[j] : Int) < ((d.part keep j).secs.length : Int) := by omega
   have HB := Lib.hid hbl; clear hbl hb hkc hg hlen
   generalize hq : d.keys[j] = q at *
   have HQ := Lib.hid hq; clear hq
   by_cases hnj : n ≤ j
   ·have hl : Dev.lost keep j = true := by
     have hh := hxr.len
     simp only [List.length_map] at hh
     simp [Dev.lost, hh, hnj]
    have hbk := hback hl
    clear hback hskip hl
    have h3 : (n : Int) ≤ (j : Int) := by omega
    go_wp2
    refine wp_region_still_tail 12 (by kernel_rfl) (by kernel_rfl) ?_
    simp only [List.take_succ_cons, List.take_zero, List.drop_succ_cons, List.drop_zero]
    repeat still_step
    refine wpStill_nil ?_
    refine wpList_store_mid rfl 90 _ _ rfl S (q * 128) (u8vs b).toArray rfl rfl (by simpa [u8vs, HB.out] using ht3) (by rw [size_block]; simp [u8vs, HB.out]) (all_oneCell_toArray (one_u8 b)) ?_
    go_wp2
    go_roundw
    case rel => exact ⟨j + 1, by omega, by go_num, hbk⟩
    case measure => simp [intOf]; omega
   ·obtain ⟨bk, ok, hAk, _, hkk⟩ := hxr.int_at (k := j) (by omega)
    subst hAk
    have h3 : ¬ (n : Int) ≤ (j : Int) := by omega
    have h4 : (j : Int) < (n : Int) := by omega
    have hxl := hxr.len
    have hxm := hxr.max; have hxn := hxr.le
    unfold maxLen at hxm
    simp only [List.length_map] at hxl
    by_cases hev : (keep[j]?.getD 0).tmod 2 = 0
    ·have hl : Dev.lost keep j = true := by simp [Dev.lost, hev]
     have hbk := hback hl
     have hev2 : ((keep[j]?.getD 0).tmod 2 == 0) = true := by simp [hev]
     clear hback hskip hl hev hxl
     go_wp2
     refine wp_region_still_tail 12 (by kernel_rfl) (by kernel_rfl) ?_
     simp only [List.take_succ_cons, List.take_zero, List.drop_succ_cons, List.drop_zero]
     repeat still_step
     refine wpStill_nil ?_
     refine wpList_store_mid rfl 90 _ _ rfl S (q * 128) (u8vs b).toArray rfl rfl (by simpa [u8vs, HB.out] using ht3) (by rw [size_block]; simp [u8vs, HB.out]) (all_oneCell_toArray (one_u8 b)) ?_
     go_wp2
     go_roundw
     case rel => exact ⟨j + 1, by omega, by go_num, hbk⟩
     case measure => simp [intOf]; omega
    ·have hl : Dev.lost keep j = false := by simp [Dev.lost, hev]; omega
     have hbk := hskip hl
     have hev2 : ((keep[j]?.getD 0).tmod 2 == 0) = false := by simp [hev]
     clear hback hskip hl hev hxl
     go_wp2
     go_roundw
     case rel => exact ⟨j + 1, by omega, by go_num, hbk⟩
     case measure => simp [intOf]; omega
  ·obtain rfl : j = d.keys.length := by omega
   have hdp := hg.dev
   have hpt : d.part keep d.keys.length = { d with secs := (d.gone keep).secs } := by simp [Dev.part, Dev.gone]
   have hkr := hg.kept
   rw [hpt] at hdp
   obtain ⟨clk, ⟨es, hme⟩, hcl⟩ := hdp.clear
   have hwf2 : ({ ({ d with secs := (d.gone keep).secs } : Dev) with sure := [] } : Dev).Wf := { hwf.gone keep with
    fail0 := hwf.fail0
    fail1 := hwf.fail1
    till0 := hwf.till0
    till1 := hwf.till1 }
   have hD2 := hdp.putSure hwf2 (es := #[]) (clk := clk) rfl (MapKept.stamped_empty clk)
   have hk2 : Kept [M] wr (setBlock wr M (.map #[] clk)) := Kept.setBlock hme (by simp) _
   have hkw : Kept [S, M] w1 (setBlock wr M (.map #[] clk)) := (hkr.mono (by simp)).trans (hk2.mono (by simp))
   generalize setBlock wr M (.map #[] clk) = W2 at hcl hD2 hk2 hkw
   have c1r := hdp.cells.2.1
   obtain ⟨f0, f1, f2, f4, f5, f6, ff⟩ := hD2.cells
   have h3 : ¬ (d.keys.length : Int) < (d.keys.length : Int) := by omega
   clear hdp hk2 hme hs1 hx1 hg hkr f0 f1 f5
   go_wp2
   go_ret
   have hks : Kept [a] W2 (((W2.setCell ⟨a, 6, none⟩ (.bool true)).setCell ⟨a, 2, none⟩ (.int .i64 (-1))).setCell ⟨a, 4, none⟩ (.int .i64 (-1))) :=
    ((Kept.setCell (by simp) _).trans (Kept.setCell (by simp) _)).trans (Kept.setCell (by simp) _)
   refine ⟨rfl, K, hD2.rehead hks (hwf.gone keep) rfl rfl (fun kv hh => ?_) rfl, ((hk1.mono (by simp)).trans (hkw.mono (fun i hi => .inl (by simp at hi ⊢; exact .inr hi)))).trans (hks.mono (by simp)), fun _ e => .inl e⟩
   rw [heap_set (heap_set (heap_set hh 6 _) 2 _) 4 _]
   rfl
end Go.Proofs.YtbnflbkaogpnbaaGreat
namespace Go.Proofs.YtbnflbkaogpnbaaGreat
open Go.RowKit Go.Maps
/-- What is to be kept, as a slice. -/
theorem DevAt.keep_cell {w : World} {a S M : Nat} {K : Option Nat} {d : Dev} (h : DevAt w a S M K d) :
  ∃ A c, w.cell? ⟨a, 3, none⟩ = some (.slice A d.keep.length c) ∧ SlAt w A d.keep.length c (d.keep.map i64v) ∧ ∀ p, A = some p → p.block ≠ S := by
 obtain ⟨kv, hh, hK, hr⟩ := h.head
 obtain ⟨n1, n2, n3, n4, n5, n6⟩ := h.ne
 obtain ⟨A, c, rfl, hs, hb⟩ := SlAt.of_own hr
 refine ⟨A, c, blk_cell hh 3, hs, fun p hp e => ?_⟩
 have := (hb p hp).1
 rw [hK] at this
 exact n5 (by rw [this, e])
theorem write2_any (w : World) : Calls Tryz.prog 80 #[] w fun e w' => e = .returned (.tuple #[]) ∧ w = w' := by
 go_enter Tryz.func80, Tryz.ntmps80
 go_wp2
 go_end0
 exact ⟨rfl, rfl⟩
theorem flush1_any (w : World) : Calls Tryz.prog 81 #[] w fun e w' => e = .returned (.tuple #[]) ∧ w = w' := by
 go_enter Tryz.func81, Tryz.ntmps81
 go_wp2
 go_end0
 exact ⟨rfl, rfl⟩
def Dev.workW (d : Dev) (k : Nat) (b : Blk) : Dev × Int :=
 if d.till = 0 then (d, 101) else if d.fail = 0 then ((d.midst k b).gone d.keep, 100) else ((d.midst k b).counted, 0)
theorem DevPost.of_mid {w W w' : World} {a S M : Nat} {K : Option Nat} {r : Dev × Int} {e : Ending} (hk : Kept [S, M] w W) (h : DevPost W a S M K r e w') : DevPost w a S M K r e w' := by
 obtain ⟨h1, K', h2, h3, h4⟩ := h
 refine ⟨h1, K', h2, (hk.mono (fun i hi => .inl (by simp at hi ⊢; exact .inr hi))).trans h3, fun k e => ?_⟩
 rcases h4 k e with h5 | h5
 ·exact .inl h5
 ·exact .inr (Nat.le_trans hk.size h5)
set_option maxHeartbeats 1000000 in
set_option maxRecDepth 100000 in
theorem workW_any {w : World} {a S M : Nat} {K : Option Nat} {d : Dev} (hD : DevAt w a S M K d) (x y z k : Nat) (b : Blk) (A : Option Addr) (c : Nat)
  (hx : w.cell? ⟨x, 0, none⟩ = some (.pointer (some ⟨a, 0, none⟩))) (hy : w.cell? ⟨y, 0, none⟩ = some (.int .i64 k)) (hz : w.cell? ⟨z, 0, none⟩ = some (.slice A 128 c))
  (hxs : x ∉ [S, M]) (hys : y ∉ [S, M]) (hzs : z ∉ [S, M]) (hAs : ∀ p, A = some p → p.block ∉ [S, M])
  (hs : SlAt w A 128 c (u8vs b)) (hk : k < d.secs.length) (hb : b.length = 128) (hwk : d.works < 9223372036854775807) :
  Calls Tryz.prog 78 #[.pointer (some ⟨a, 0, none⟩), .func (.func 79) #[] #[.pointer (some ⟨x, 0, none⟩), .pointer (some ⟨y, 0, none⟩), .pointer (some ⟨z, 0, none⟩)], .func (.func 80) #[] #[]] w
   (DevPost w a S M K (d.workW k b)) := by
 obtain ⟨c0, c1, c2, c4, c5, c6, cf⟩ := hD.cells
 have hw1 := write1_any hD x y z k b A c hx hy hz hxs hys hzs hAs hs hk hb
 by_cases ht : d.till = 0
 ·have e : d.workW k b = (d, 101) := by simp [Dev.workW, ht]
  rw [e]
  rw [ht] at c4
  clear c0 c1 c2 c5 c6 cf hw1 hx hy hz ht e
  go_enter Tryz.func78, Tryz.ntmps78
  go_wp2
  go_ret
  exact DevPost.same hD
 ·have ht2 : (d.till == 0) = false := by simpa using ht
  by_cases hf : d.fail = 0
  ·have e : d.workW k b = ((d.midst k b).gone d.keep, 100) := by simp [Dev.workW, ht, hf]
   rw [e]
   have HF := Lib.hid hf
   clear c0 c1 c2 c5 c6 cf hx hy hz ht e hf
   go_enter Tryz.func78, Tryz.ntmps78
   go_wp2_with (first | (go_at_call 79; refine hw1.mono ?_; rintro e W ⟨rfl, hDW, hkW⟩; have g2 : W.cell? ⟨a, 2, none⟩ = some (.int .i64 0) := hDW.cells.2.2.1.trans (by rw [show (d.midst k b).fail = 0 from HF.out]); obtain ⟨Ak, ck, g3, hsk, hSk⟩ := hDW.keep_cell) | (go_at_call 26; refine (gone_any hDW _ _ _ _ hsk (fun p hp _ => hSk p hp)).mono ?_; rintro e W' hpost; obtain ⟨rfl, hrest⟩ := hpost))
   go_ret
   exact DevPost.of_mid hkW ⟨rfl, hrest⟩
  ·have e : d.workW k b = ((d.midst k b).counted, 0) := by simp [Dev.workW, ht, hf]
   rw [e]
   have hf2 : (d.fail == 0) = false := by simpa using hf
   have HF := Lib.hid hf2
   have hw0 := hD.wf.works0
   have hf0 := hD.wf.fail0; have hf1 := hD.wf.fail1; have ht0 := hD.wf.till0; have ht1 := hD.wf.till1
   clear c0 c1 c2 c5 c6 cf hx hy hz ht e hf hf2
   go_enter Tryz.func78, Tryz.ntmps78
   go_wp2_with (first | (go_at_call 79; refine hw1.mono ?_; rintro e W ⟨rfl, hDW, hkW⟩; obtain ⟨g0, g1, g2, g4, g5, g6, gf⟩ := hDW.cells; have q1 : (d.midst k b).fail = d.fail := rfl; have q2 : (d.midst k b).till = d.till := rfl; have q3 : (d.midst k b).works = d.works := rfl; rw [q1] at g2; rw [q2] at g4; rw [q3] at g5; clear q1 q2 q3 g0 g1 g6; have hf2 := HF.out) | (go_at_call 80; refine (write2_any _).mono ?_; rintro e w' ⟨rfl, rfl⟩))
   have w2 : (W.setCell ⟨a, 5, none⟩ (.int .i64 (d.works + 1))).cell? ⟨a, 2, none⟩ = some (.int .i64 d.fail) := (World.cell?_setCell_other _ _ _ _ (by simp)).trans g2
   have w4 : (W.setCell ⟨a, 5, none⟩ (.int .i64 (d.works + 1))).cell? ⟨a, 4, none⟩ = some (.int .i64 d.till) := (World.cell?_setCell_other _ _ _ _ (by simp)).trans g4
   have wf : ∀ i, (W.setCell ⟨a, 5, none⟩ (.int .i64 (d.works + 1))).frozen? ⟨a, i, none⟩ = false := fun i => by rw [World.frozen?_setCell]; exact gf i
   have hkw5 : Kept [a] W (W.setCell ⟨a, 5, none⟩ (.int .i64 (d.works + 1))) := Kept.setCell (by simp) _
   have hh5 : ∀ kv, W.heap[a]? = some (.cells #[.slice (some ⟨S, 0, none⟩) (d.midst k b).secs.length (d.midst k b).secs.length, .map (some M), .int .i64 (d.midst k b).fail, kv, .int .i64 (d.midst k b).till, .int .i64 (d.midst k b).works, .bool (d.midst k b).dead] 44 (0, 0)) →
     (W.setCell ⟨a, 5, none⟩ (.int .i64 (d.works + 1))).heap[a]? = some (.cells #[.slice (some ⟨S, 0, none⟩) (d.midst k b).secs.length (d.midst k b).secs.length, .map (some M), .int .i64 (d.midst k b).fail, kv, .int .i64 (d.midst k b).till, .int .i64 (d.works + 1), .bool (d.midst k b).dead] 44 (0, 0)) := fun kv hh => by
    rw [heap_set hh]; rfl
   generalize W.setCell ⟨a, 5, none⟩ (.int .i64 (d.works + 1)) = W5 at *
   clear g2 g4 g5 gf hf2
   have hkF : Kept [a] W ((W5.setCell ⟨a, 2, none⟩ (.int .i64 (max (d.fail - 1) (-1)))).setCell ⟨a, 4, none⟩ (.int .i64 (max (d.till - 1) (-1)))).drew := ((hkw5.trans (Kept.setCell (by simp) _)).trans (Kept.setCell (by simp) _)).trans (Kept.drew _ _)
   go_region
   go_wp2
   go_ret
   refine DevPost.of_mid hkW ⟨rfl, K, hDW.rehead hkF hDW.wf.counted rfl rfl (fun kv hh => ?_) rfl, hkF.mono (fun i hi => .inl (by simp at hi; simp [hi])), fun _ e => .inl e⟩
   show (((W5.setCell ⟨a, 2, none⟩ (.int .i64 (max (d.fail - 1) (-1)))).setCell ⟨a, 4, none⟩ (.int .i64 (max (d.till - 1) (-1)))).heap)[a]? = _
   rw [heap_set (heap_set (hh5 kv hh) 2 _) 4 _]
   rfl
end Go.Proofs.YtbnflbkaogpnbaaGreat
namespace Go.Proofs.YtbnflbkaogpnbaaGreat
open Go.RowKit Go.Maps
open Go.ChangeMaps (setBlock heap_setBlock_same heap_setBlock_other)
theorem cleared_at {w : World} {a S M : Nat} {K : Option Nat} {d : Dev} (hD : DevAt w a S M K d) :
  ∃ W, (∀ ty, (Builtin.clear_ #[41] ty #[.map (some M)]).run Tryz.prog w = .ok (.tuple #[]) W) ∧ DevAt W a S M K { d with sure := [] } ∧ Kept [M] w W := by
 obtain ⟨clk, ⟨es, hme⟩, hcl⟩ := hD.clear
 exact ⟨_, hcl, hD.putSure hD.wf.cleared (es := #[]) (clk := clk) rfl (MapKept.stamped_empty clk), Kept.setBlock hme (by simp) _⟩
/-- What the end of a Flush does. -/
def DonePost (w : World) (a S M : Nat) (K : Option Nat) (d : Dev) (e : Ending) (w' : World) : Prop := e = .returned (.tuple #[]) ∧ DevAt w' a S M K { d with sure := [] } ∧ Kept [M] w w'
set_option maxHeartbeats 400000 in
theorem flush2_any {w : World} {a S M : Nat} {K : Option Nat} {d : Dev} (hD : DevAt w a S M K d) (x : Nat) (hx : w.cell? ⟨x, 0, none⟩ = some (.pointer (some ⟨a, 0, none⟩))) :
  Calls Tryz.prog 82 #[.pointer (some ⟨x, 0, none⟩)] w (DonePost w a S M K d) := by
 have c1 := hD.cells.2.1
 obtain ⟨W, hcl, hDW, hkW⟩ := cleared_at hD
 go_enter Tryz.func82, Tryz.ntmps82
 go_wp2
 go_end0
 exact ⟨rfl, hDW, hkW⟩
def Dev.workF (d : Dev) : Dev × Int := if d.till = 0 then (d, 101) else if d.fail = 0 then (d.gone d.keep, 100) else ({ d with sure := [] }.counted, 0)
set_option maxHeartbeats 1000000 in
set_option maxRecDepth 100000 in
theorem workF_any {w : World} {a S M : Nat} {K : Option Nat} {d : Dev} (hD : DevAt w a S M K d) (x : Nat)
  (hx : w.cell? ⟨x, 0, none⟩ = some (.pointer (some ⟨a, 0, none⟩))) (hwk : d.works < 9223372036854775807) :
  Calls Tryz.prog 78 #[.pointer (some ⟨a, 0, none⟩), .func (.func 81) #[] #[], .func (.func 82) #[] #[.pointer (some ⟨x, 0, none⟩)]] w
   (DevPost w a S M K d.workF) := by
 unfold Dev.workF
 obtain ⟨c0, c1, c2, c4, c5, c6, cf⟩ := hD.cells
 have hw1 := flush2_any hD x hx
 by_cases ht : d.till = 0
 ·rw [if_pos ht]
  rw [ht] at c4
  clear c0 c1 c2 c5 c6 cf hw1 hx ht
  go_enter Tryz.func78, Tryz.ntmps78
  go_wp2
  go_ret
  exact DevPost.same hD
 ·have ht2 : (d.till == 0) = false := by simpa using ht
  rw [if_neg ht]
  by_cases hf : d.fail = 0
  ·rw [if_pos hf]
   rw [hf] at c2
   obtain ⟨Ak, ck, g3, hsk, hSk⟩ := hD.keep_cell
   clear c0 c1 c5 c6 cf hx ht hf
   go_enter Tryz.func78, Tryz.ntmps78
   go_wp2_with (first | (go_at_call 81; refine (flush1_any _).mono ?_; rintro e w' ⟨rfl, rfl⟩) | (go_at_call 26; refine (gone_any hD _ _ _ _ hsk (fun p hp _ => hSk p hp)).mono ?_; rintro e W' hpost; obtain ⟨rfl, hrest⟩ := hpost))
   go_ret
   exact ⟨rfl, hrest⟩
  ·rw [if_neg hf]
   have hf2 : (d.fail == 0) = false := by simpa using hf
   have HF := Lib.hid hf2
   have hw0 := hD.wf.works0
   have hf0 := hD.wf.fail0; have hf1 := hD.wf.fail1; have ht0 := hD.wf.till0; have ht1 := hD.wf.till1
   clear c0 c1 c5 c6 cf hx ht hf
   go_enter Tryz.func78, Tryz.ntmps78
   go_wp2_with (first | (go_at_call 81; refine (flush1_any _).mono ?_; rintro e w' ⟨rfl, rfl⟩) | (go_at_call 82; refine hw1.mono ?_; rintro e W ⟨rfl, hDW, hkW⟩; obtain ⟨g0, g1, g2, g4, g5, g6, gf⟩ := hDW.cells; clear g0 g1 g6))
   have w2 : (W.setCell ⟨a, 5, none⟩ (.int .i64 (d.works + 1))).cell? ⟨a, 2, none⟩ = some (.int .i64 d.fail) := (World.cell?_setCell_other _ _ _ _ (by simp)).trans g2
   have w4 : (W.setCell ⟨a, 5, none⟩ (.int .i64 (d.works + 1))).cell? ⟨a, 4, none⟩ = some (.int .i64 d.till) := (World.cell?_setCell_other _ _ _ _ (by simp)).trans g4
   have wf : ∀ i, (W.setCell ⟨a, 5, none⟩ (.int .i64 (d.works + 1))).frozen? ⟨a, i, none⟩ = false := fun i => by rw [World.frozen?_setCell]; exact gf i
   have hkw5 : Kept [a] W (W.setCell ⟨a, 5, none⟩ (.int .i64 (d.works + 1))) := Kept.setCell (by simp) _
   have hh5 : ∀ kv, W.heap[a]? = some (.cells #[.slice (some ⟨S, 0, none⟩) d.secs.length d.secs.length, .map (some M), .int .i64 d.fail, kv, .int .i64 d.till, .int .i64 d.works, .bool d.dead] 44 (0, 0)) →
     (W.setCell ⟨a, 5, none⟩ (.int .i64 (d.works + 1))).heap[a]? = some (.cells #[.slice (some ⟨S, 0, none⟩) d.secs.length d.secs.length, .map (some M), .int .i64 d.fail, kv, .int .i64 d.till, .int .i64 (d.works + 1), .bool d.dead] 44 (0, 0)) := fun kv hh => by
    rw [heap_set hh]; rfl
   generalize W.setCell ⟨a, 5, none⟩ (.int .i64 (d.works + 1)) = W5 at *
   clear g2 g4 g5 gf hf2
   have hkF : Kept [a] W ((W5.setCell ⟨a, 2, none⟩ (.int .i64 (max (d.fail - 1) (-1)))).setCell ⟨a, 4, none⟩ (.int .i64 (max (d.till - 1) (-1)))).drew := ((hkw5.trans (Kept.setCell (by simp) _)).trans (Kept.setCell (by simp) _)).trans (Kept.drew _ _)
   go_region
   go_wp2
   go_ret
   refine DevPost.of_mid (hkW.mono (by simp)) ⟨rfl, K, hDW.rehead hkF hDW.wf.counted rfl rfl (fun kv hh => ?_) rfl, hkF.mono (fun i hi => .inl (by simp at hi; simp [hi])), fun _ e => .inl e⟩
   show (((W5.setCell ⟨a, 2, none⟩ (.int .i64 (max (d.fail - 1) (-1)))).setCell ⟨a, 4, none⟩ (.int .i64 (max (d.till - 1) (-1)))).heap)[a]? = _
   rw [heap_set (heap_set (hh5 kv hh) 2 _) 4 _]
   rfl
end Go.Proofs.YtbnflbkaogpnbaaGreat
namespace Go.Proofs.YtbnflbkaogpnbaaGreat
open Go.RowKit Go.Maps
theorem DevPost.of_new {w W w' : World} {a S M : Nat} {K : Option Nat} {r : Dev × Int} {e : Ending} (hk : Kept [] w W) (h : DevPost W a S M K r e w') : DevPost w a S M K r e w' :=
 DevPost.of_mid (hk.mono (by simp)) h
set_option maxHeartbeats 1000000 in
theorem write_any {w : World} {a S M : Nat} {K : Option Nat} {d : Dev} (hD : DevAt w a S M K d) (i : Int) (b : Blk) (A : Option Addr) (n c : Nat)
  (hs : SlAt w A n c (u8vs b)) (hAs : ∀ p, A = some p → p.block ∉ [S, M]) (hwk : d.works < 9223372036854775807) :
  Calls Tryz.prog 41 #[.pointer (some ⟨a, 0, none⟩), .int .i64 i, .slice A n c] w (DevPost w a S M K (d.write i b)) := by
 have hbl : b.length = n := by simpa [u8vs] using hs.len
 obtain ⟨W, hW⟩ : ∃ W, ((w.alloc (.cells #[.pointer (some ⟨a, 0, none⟩)] 29)).alloc (.cells #[.int .i64 i] 3)).alloc (.cells #[.slice A n c] 45) = W := ⟨_, rfl⟩
 have hk : Kept [] w W := by rw [← hW]; exact ((Kept.alloc [] w _).trans (Kept.alloc [] _ _)).trans (Kept.alloc [] _ _)
 have hDW := hD.kept hk (by simp) (by simp) (by simp) (by simp)
 have hsW := hs.kept hk (by simp)
 have hx : W.cell? ⟨w.heap.size, 0, none⟩ = some (.pointer (some ⟨a, 0, none⟩)) := by
  rw [← hW, World.cell?_alloc_lt _ _ _ (by simp; omega), World.cell?_alloc_lt _ _ _ (by simp), blk_cell (heap_alloc_new w _)]; rfl
 have hy : W.cell? ⟨w.heap.size + 1, 0, none⟩ = some (.int .i64 i) := by
  have h := heap_alloc_new (w.alloc (.cells #[.pointer (some ⟨a, 0, none⟩)] 29)) (.cells #[.int .i64 i] 3)
  simp only [World.size_alloc] at h
  rw [← hW, World.cell?_alloc_lt _ _ _ (by simp), blk_cell h]; rfl
 have hz : W.cell? ⟨w.heap.size + 1 + 1, 0, none⟩ = some (.slice A n c) := by
  have h := heap_alloc_new ((w.alloc (.cells #[.pointer (some ⟨a, 0, none⟩)] 29)).alloc (.cells #[.int .i64 i] 3)) (.cells #[.slice A n c] 45)
  simp only [World.size_alloc] at h
  rw [← hW, blk_cell h]; rfl
 have hat := at_any hDW i
 obtain ⟨l1, l2, l3, l4⟩ := hD.lt
 by_cases hz0 : d.at_ i = 0
 ·obtain ⟨h1, h2, h3⟩ := Dev.at_zero hz0
  obtain ⟨k, rfl⟩ := Int.eq_ofNat_of_zero_le h2
  rw [hz0] at hat
  have hkk : k < d.secs.length := by omega
  by_cases hn : n = 128
  ·subst hn
   have hwo := workW_any hDW w.heap.size (w.heap.size + 1) (w.heap.size + 1 + 1) k b A c hx hy hz (by simp; omega) (by simp; omega) (by simp; omega) hAs hsW hkk hbl hwk
   have e : d.write (k : Int) b = d.workW k b := by simp [Dev.write, Dev.workW, hz0, hbl]
   rw [e]
   clear hz0 h1 h2 h3 e hs hsW hbl hD
   go_enter Tryz.func41, Tryz.ntmps41
   go_wp2_with (first | (go_at_call 50; refine hat.mono ?_; rintro e w' ⟨rfl, rfl⟩) | (go_at_call 78; refine hwo.mono ?_; rintro e w' hpost; obtain ⟨rfl, hrest⟩ := hpost))
   go_ret
   exact DevPost.of_new hk ⟨rfl, hrest⟩
  ·have hn2 : ((n : Int) != 128) = true := by simp; omega
   have e : d.write (k : Int) b = (d, 2) := by simp [Dev.write, hz0, hbl, hn]
   rw [e]
   clear hz0 h1 h2 h3 e hs hsW hbl hD hn
   go_enter Tryz.func41, Tryz.ntmps41
   go_wp2_with (go_at_call 50; refine hat.mono ?_; rintro e w' ⟨rfl, rfl⟩)
   go_ret
   exact DevPost.of_new hk (DevPost.same hDW)
 ·have hb : (d.at_ i != 0) = true := by simpa using hz0
  have e : d.write i b = (d, d.at_ i) := by simp [Dev.write, hz0]
  rw [e]
  clear e hs hsW hbl hD hz0
  go_enter Tryz.func41, Tryz.ntmps41
  go_wp2_with (go_at_call 50; refine hat.mono ?_; rintro e w' ⟨rfl, rfl⟩)
  go_ret
  exact DevPost.of_new hk (DevPost.same hDW)
set_option maxHeartbeats 1000000 in
theorem flush_any {w : World} {a S M : Nat} {K : Option Nat} {d : Dev} (hD : DevAt w a S M K d) (hwk : d.works < 9223372036854775807) :
  Calls Tryz.prog 43 #[.pointer (some ⟨a, 0, none⟩)] w (DevPost w a S M K d.flush) := by
 obtain ⟨W, hW⟩ : ∃ W, w.alloc (.cells #[.pointer (some ⟨a, 0, none⟩)] 29) = W := ⟨_, rfl⟩
 have hk : Kept [] w W := by rw [← hW]; exact Kept.alloc [] w _
 have hDW := hD.kept hk (by simp) (by simp) (by simp) (by simp)
 have hx : W.cell? ⟨w.heap.size, 0, none⟩ = some (.pointer (some ⟨a, 0, none⟩)) := by
  rw [← hW, blk_cell (heap_alloc_new w _)]; rfl
 have hat := wrong_any hDW
 have hwo := workF_any hDW w.heap.size hx hwk
 have hd : d.dead = true ∨ d.dead = false := by cases d.dead <;> simp
 rcases hd with hd | hd
 ·rw [hd] at hat
  have e : d.flush = (d, 100) := by simp [Dev.flush, hd]
  rw [e]
  clear e hD hd hwo
  go_enter Tryz.func43, Tryz.ntmps43
  go_wp2_with (go_at_call 25; refine hat.mono ?_; rintro e w' ⟨rfl, rfl⟩)
  go_ret
  exact DevPost.of_new hk (DevPost.same hDW)
 ·rw [hd] at hat
  have e : d.flush = d.workF := by simp [Dev.flush, Dev.workF, hd]
  rw [e]
  clear e hD hd
  go_enter Tryz.func43, Tryz.ntmps43
  go_wp2_with (first | (go_at_call 25; refine hat.mono ?_; rintro e w' ⟨rfl, rfl⟩) | (go_at_call 78; refine hwo.mono ?_; rintro e w' hpost; obtain ⟨rfl, hrest⟩ := hpost))
  go_ret
  exact DevPost.of_new hk ⟨rfl, hrest⟩
set_option maxHeartbeats 1000000 in
theorem crash_any {w : World} {a S M : Nat} {K : Option Nat} {d : Dev} (hD : DevAt w a S M K d) (A : Option Addr) (n c : Nat) (keep : List Int) (hx : SlAt w A n c (keep.map i64v)) (hA : ∀ p, A = some p → 0 < n → p.block ≠ S) :
  Calls Tryz.prog 12 #[.pointer (some ⟨a, 0, none⟩), .slice A n c] w (DevPost w a S M K (d.crash keep)) := by
 have hat := wrong_any hD
 have hgo := gone_any hD A n c keep hx hA
 have hd : d.dead = true ∨ d.dead = false := by cases d.dead <;> simp
 rcases hd with hd | hd
 ·rw [hd] at hat
  have e : d.crash keep = (d, 100) := by simp [Dev.crash, hd]
  rw [e]
  clear e hd hgo
  go_enter Tryz.func12, Tryz.ntmps12
  go_wp2_with (go_at_call 25; refine hat.mono ?_; rintro e w' ⟨rfl, rfl⟩)
  go_ret
  exact DevPost.same hD
 ·rw [hd] at hat
  have e : d.crash keep = (d.gone keep, 0) := by simp [Dev.crash, hd]
  rw [e]
  clear e hd
  go_enter Tryz.func12, Tryz.ntmps12
  go_wp2_with (first | (go_at_call 25; refine hat.mono ?_; rintro e w' ⟨rfl, rfl⟩) | (go_at_call 26; refine hgo.mono ?_; rintro e w' hpost; obtain ⟨rfl, hrest⟩ := hpost))
  go_ret
  exact ⟨rfl, hrest⟩
end Go.Proofs.YtbnflbkaogpnbaaGreat
namespace Go.Proofs.YtbnflbkaogpnbaaGreat
open Go.RowKit
theorem ret_bool {a b : Bool} (h : a = b) : Ending.returned (.bool a) = .returned (.bool b) := by rw [h]
/-- The cell of a byte slice at i, where there is one. -/
theorem SlAt.at_ {w : World} {A : Option Addr} {n c : Nat} {xs : List UInt8} (h : SlAt w A n c (xs.map u8v)) {k : Nat} (hk : k < n) :
  ∃ b o, A = some ⟨b, o, none⟩ ∧ b < w.heap.size ∧ w.cell? ⟨b, o + k, none⟩ = some (.int .u8 ((xs[k]?.getD 0).toNat : Int)) := by
 obtain ⟨b, o, hA, hb, hc⟩ := h.cells (by omega)
 have hl := h.len
 simp only [List.length_map] at hl
 refine ⟨b, o, hA, hb, ?_⟩
 rw [hc k hk, List.getElem?_map, List.getElem?_eq_getElem (by omega)]
 rfl
theorem take_succ_eq {xs ys : List UInt8} {k : Nat} (hx : k < xs.length) (hy : k < ys.length) (h : xs.take k = ys.take k) (he : xs[k]?.getD 0 = ys[k]?.getD 0) : xs.take (k + 1) = ys.take (k + 1) := by
 rw [List.take_succ_eq_append_getElem hx, List.take_succ_eq_append_getElem hy, h]
 simp only [List.getElem?_eq_getElem hx, List.getElem?_eq_getElem hy, Option.getD_some] at he
 rw [he]
set_option maxHeartbeats 400000 in
theorem eqBytes_any (w : World) (A B : Option Addr) (n c m d : Nat) (xs ys : List UInt8) (hx : SlAt w A n c (xs.map u8v)) (hy : SlAt w B m d (ys.map u8v)) :
  Calls Tryz.prog 59 #[.slice A n c, .slice B m d] w fun e w' => e = .returned (.bool (decide (xs = ys))) ∧ ∃ q, w' = w.drewN q := by
 have hxl := hx.len; have hyl := hy.len
 have hc := hx.le; have hcm := hx.max
 have hd := hy.le; have hdm := hy.max
 unfold maxLen at hcm hdm
 simp only [List.length_map] at hxl hyl
 by_cases hnm : n = m
 ·subst hnm
  have hb : ((n : Int) != (n : Int)) = false := by simp
  have HX := Lib.hid hxl; have HY := Lib.hid hyl; clear hxl hyl
  go_enter Tryz.func59, Tryz.ntmps59
  go_wp2
  go_loopw [5] (fun i wr => ∃ k q : Nat, k ≤ n ∧ i = .int .i64 k ∧ wr = w.drewN q ∧ xs.take k = ys.take k) (fun i _ => n - (intOf i).toNat)
  case atStart => exact ⟨0, 0, Nat.zero_le _, rfl, rfl, rfl⟩
  case round =>
   obtain ⟨k, q, hk, rfl, rfl, ht⟩ := hrel
   by_cases hlt : k < n
   ·obtain ⟨b, o, hA, hbl, hcx⟩ := hx.at_ hlt
    obtain ⟨b', o', hB, hbl', hcy⟩ := hy.at_ hlt
    have HT := Lib.hid ht; clear ht
    subst hA hB
    have h2 : (k : Int) < (n : Int) := by omega
    by_cases he : xs[k]?.getD 0 = ys[k]?.getD 0
    ·have HE := Lib.hid he
     have hcy2 : w.cell? ⟨b', o' + k, none⟩ = some (.int .u8 ((xs[k]?.getD 0).toNat : Int)) := by rw [he]; exact hcy
     clear he hcy
     go_wp2
     go_quiet (fail)
     go_wp2
     go_roundw
     case rel => exact ⟨k + 1, q + nq, by omega, by go_num, by first | rfl | rw [World.drewN_drewN], take_succ_eq (by rw [HX.out]; exact hlt) (by rw [HY.out]; exact hlt) HT.out HE.out⟩
     case measure => simp [intOf]; omega
    ·have HE := Lib.hid he
     have hne : (((xs[k]?.getD 0).toNat : Int) != ((ys[k]?.getD 0).toNat : Int)) = true := by
      simp only [bne_iff_ne, ne_eq, Int.natCast_inj]
      exact fun e => he (UInt8.toNat_inj.1 e)
     clear he
     go_wp2
     go_quiet (fail)
     go_wp2
     go_ret
     exact ⟨ret_bool (by rw [decide_eq_false_iff_not.2]; exact fun e => HE.out (by rw [e])), q + nq, by first | rfl | rw [World.drewN_drewN]⟩
   ·have h2 : ¬ (k : Int) < (n : Int) := by omega
    go_wp2
    go_ret
    obtain rfl : k = n := by omega
    exact ⟨ret_bool (by
     rw [decide_eq_true_iff.2]
     have h1 := List.take_of_length_le (i := k) (l := xs) (by rw [HX.out]; exact Nat.le_refl _)
     have h3 := List.take_of_length_le (i := k) (l := ys) (by rw [HY.out]; exact Nat.le_refl _)
     rw [← h1, ← h3]; exact ht), _, rfl⟩
 ·have hne : ¬ xs = ys := fun e => hnm (by rw [← hxl, ← hyl, e])
  have hb : ((n : Int) != (m : Int)) = true := by simp; omega
  go_enter Tryz.func59, Tryz.ntmps59
  go_wp2
  go_ret
  exact ⟨ret_bool (by simp [hne]), 0, rfl⟩
set_option maxHeartbeats 400000 in
theorem bring_any (i n : Int) (w : World) (hn : 0 < n) (hn' : n ≤ 1000000) (h0 : -9223372036854775808 ≤ i) (h1 : i ≤ 9223372036854775807) :
  Calls Tryz.prog 56 #[.int .i64 i, .int .i64 n] w fun e w' => e = .returned (.int .i64 (i % n)) ∧ w = w' := by
 have h2 : 0 ≤ i % n := Int.emod_nonneg _ (by omega)
 have h3 : i % n < n := Int.emod_lt_of_pos _ hn
 by_cases hi : 0 ≤ i
 ·have e : i.tmod n = i % n := Int.tmod_eq_emod_of_nonneg hi
  have E := Lib.hid e
  have hnn : ¬ i.tmod n < 0 := by omega
  go_enter Tryz.func56, Tryz.ntmps56
  go_wp2
  all_goals (go_ret; exact ⟨ret_i64 (by first | exact E.out | rfl), rfl⟩)
 ·have e : i.tmod n = i % n ∨ i.tmod n = i % n - n := by
   have := Int.tmod_eq_emod (a := i) (b := n)
   rw [this]
   split
   ·left; omega
   ·right; omega
  have hle : i.tmod n ≤ 0 := by
   have h4 : i.tmod n = -((-i).tmod n) := by rw [Int.neg_tmod]; omega
   have h5 : 0 ≤ (-i).tmod n := Int.tmod_nonneg _ (by omega)
   omega
  by_cases hz : i.tmod n < 0
  ·have e2 : wrap64 (i.tmod n + n) = i % n := by
    unfold wrap64
    omega
   have E := Lib.hid e2
   clear e e2
   go_enter Tryz.func56, Tryz.ntmps56
   go_wp2
   all_goals (go_ret; exact ⟨ret_i64 (by first | exact E.out | rfl), rfl⟩)
  ·have e2 : i.tmod n = i % n := by omega
   have E := Lib.hid e2
   clear e e2
   go_enter Tryz.func56, Tryz.ntmps56
   go_wp2
   all_goals (go_ret; exact ⟨ret_i64 (by first | exact E.out | rfl), rfl⟩)
end Go.Proofs.YtbnflbkaogpnbaaGreat
namespace Go.Proofs.YtbnflbkaogpnbaaGreat
open Go.RowKit
/-- A deed that answers an error number, at a device whose blocks are fp. -/
def DvPost (w : World) (a : Nat) (fp : List Nat) (r : Dev × Int) (e : Ending) (w' : World) : Prop :=
 e = .returned (.int .i64 r.2) ∧ ∃ fp', Dv w' a fp' r.1 ∧ Kept fp w w' ∧ ∀ j ∈ fp', j ∈ fp ∨ w.heap.size ≤ j
theorem DvPost.of {w : World} {a S M : Nat} {K : Option Nat} {r : Dev × Int} {e : Ending} {w' : World} (h : DevPost w a S M K r e w') : DvPost w a (a :: S :: M :: K.toList) r e w' := by
 obtain ⟨h1, K', h2, h3, h4⟩ := h
 refine ⟨h1, _, ⟨S, M, K', rfl, h2⟩, h3.mono (fun i hi => .inl (by simp at hi ⊢; rcases hi with rfl | rfl | rfl <;> simp)), fun j hj => ?_⟩
 simp only [List.mem_cons, Option.mem_toList] at hj ⊢
 rcases hj with rfl | rfl | rfl | hj
 ·simp
 ·simp
 ·simp
 ·rcases h4 j hj with h5 | h5
  ·simp [h5]
  ·exact .inr h5
section
variable {w : World} {a : Nat} {fp : List Nat} {d : Dev}
theorem write_dv (hD : Dv w a fp d) (i : Int) (b : Blk) (A : Option Addr) (n c : Nat) (hs : SlAt w A n c (u8vs b)) (hA : ∀ p, A = some p → p.block ∉ fp) (hwk : d.works < 9223372036854775807) :
  Calls Tryz.prog 41 #[.pointer (some ⟨a, 0, none⟩), .int .i64 i, .slice A n c] w (DvPost w a fp (d.write i b)) := by
 obtain ⟨S, M, K, rfl, h⟩ := hD
 exact (write_any h i b A n c hs (fun p hp hm => hA p hp (by simp at hm ⊢; rcases hm with h | h <;> simp [h])) hwk).mono fun e w' h => .of h
theorem flush_dv (hD : Dv w a fp d) (hwk : d.works < 9223372036854775807) : Calls Tryz.prog 43 #[.pointer (some ⟨a, 0, none⟩)] w (DvPost w a fp d.flush) := by
 obtain ⟨S, M, K, rfl, h⟩ := hD
 exact (flush_any h hwk).mono fun e w' h => .of h
theorem crash_dv (hD : Dv w a fp d) (A : Option Addr) (n c : Nat) (keep : List Int) (hx : SlAt w A n c (keep.map i64v)) (hA : ∀ p, A = some p → 0 < n → p.block ∉ fp) :
  Calls Tryz.prog 12 #[.pointer (some ⟨a, 0, none⟩), .slice A n c] w (DvPost w a fp (d.crash keep)) := by
 obtain ⟨S, M, K, rfl, h⟩ := hD
 exact (crash_any h A n c keep hx (fun p hp hn e => hA p hp hn (by simp [e]))).mono fun e w' h => .of h
theorem fail_dv (hD : Dv w a fp d) (n : Int) (h0 : -9223372036854775808 ≤ n) (h1 : n ≤ 9223372036854775807) (A : Option Addr) (m c : Nat) (keep : List Int) (hx : SlAt w A m c (keep.map i64v)) (hn : m * 8 ≤ 140737488355328)
  (hk : ∀ n ∈ keep, -9223372036854775808 ≤ n ∧ n ≤ 9223372036854775807) :
  Calls Tryz.prog 66 #[.pointer (some ⟨a, 0, none⟩), .int .i64 n, .slice A m c] w (DvPost w a fp (d.failAt n keep)) := by
 obtain ⟨S, M, K, rfl, h⟩ := hD
 exact (fail_any h n h0 h1 A m c keep hx hn hk).mono fun e w' h => .of h
theorem refuse_dv (hD : Dv w a fp d) (n : Int) (h0 : -9223372036854775808 ≤ n) (h1 : n ≤ 9223372036854775807) : Calls Tryz.prog 68 #[.pointer (some ⟨a, 0, none⟩), .int .i64 n] w (DvPost w a fp (d.refuse n)) := by
 obtain ⟨S, M, K, rfl, h⟩ := hD
 exact (refuse_any h n h0 h1).mono fun e w' h => .of h
theorem boot_dv (hD : Dv w a fp d) : Calls Tryz.prog 64 #[.pointer (some ⟨a, 0, none⟩)] w (DvPost w a fp (d.boot, 0)) := by
 obtain ⟨S, M, K, rfl, h⟩ := hD
 exact (boot_any h).mono fun e w' h => .of h
/-- What Read does, where there is a sector. -/
def ReadsPost (w : World) (b : Blk) (e : Ending) (w' : World) : Prop :=
 ∃ A c, e = .returned (.tuple #[.slice A 128 c, .int .i64 0]) ∧ w'.ownsRow w.heap.size 5 1 (.slice A 128 c) 128 (u8vs b) ∧ Below w.heap.size w w'
theorem read_dv (hD : Dv w a fp d) (i : Int) {b : Blk} (hz : d.at_ i = 0) (hb : d.secs[i.toNat]? = some b) : Calls Tryz.prog 27 #[.pointer (some ⟨a, 0, none⟩), .int .i64 i] w (ReadsPost w b) := by
 obtain ⟨S, M, K, rfl, h⟩ := hD
 refine (read_any h i).mono ?_
 rintro e w' (⟨h, _⟩ | ⟨_, v, bb, he, hb', hown, hbel⟩)
 ·exact absurd hz h
 ·rw [hb] at hb'
  cases hb'
  obtain ⟨A, c, rfl, _⟩ := SlAt.of_own hown
  exact ⟨A, c, he, hown, hbel⟩
theorem read_bad (hD : Dv w a fp d) (i : Int) (hz : d.at_ i ≠ 0) : Calls Tryz.prog 27 #[.pointer (some ⟨a, 0, none⟩), .int .i64 i] w fun e w' => e = .returned (.tuple #[.slice none 0 0, .int .i64 (d.at_ i)]) ∧ w = w' := by
 obtain ⟨S, M, K, rfl, h⟩ := hD
 refine (read_any h i).mono ?_
 rintro e w' (⟨_, he, rfl⟩ | ⟨h0, _⟩)
 ·exact ⟨he, rfl⟩
 ·exact absurd h0 hz
theorem size_dv (hD : Dv w a fp d) : Calls Tryz.prog 28 #[.pointer (some ⟨a, 0, none⟩)] w fun e w' => e = .returned (.int .i64 d.secs.length) ∧ w = w' := by
 obtain ⟨S, M, K, rfl, h⟩ := hD
 exact size_any h
theorem works_dv (hD : Dv w a fp d) : Calls Tryz.prog 53 #[.pointer (some ⟨a, 0, none⟩)] w fun e w' => e = .returned (.int .i64 d.works) ∧ w = w' := by
 obtain ⟨S, M, K, rfl, h⟩ := hD
 exact works_any h
theorem dead_dv (hD : Dv w a fp d) : Calls Tryz.prog 37 #[.pointer (some ⟨a, 0, none⟩)] w fun e w' => e = .returned (.bool d.dead) ∧ w = w' := by
 obtain ⟨S, M, K, rfl, h⟩ := hD
 exact dead_any h
end
/-- A new row, as an argument. -/
theorem ClonePost.sl {w w' : World} {t : TypeId} {n : Nat} {xs : List Value} {A : Option Addr} {c : Nat} (h : w'.ownsRow w.heap.size t 1 (.slice A n c) n xs) : SlAt w' A n c xs ∧ ∀ p, A = some p → w.heap.size ≤ p.block := by
 obtain ⟨A2, c2, e, h1, h2⟩ := SlAt.of_own h
 cases e
 exact ⟨h1, fun p hp => (h2 p hp).2⟩
/-- A device that is there in w, below its heap's size. -/
theorem Dv.old {w : World} {a : Nat} {fp : List Nat} {d : Dev} (h : Dv w a fp d) {j : Nat} (hj : w.heap.size ≤ j) : j ∉ fp := fun hm => by
 have := h.lt j hm
 omega
theorem Dv.new_kept {w w' : World} {a : Nat} {fp : List Nat} {d : Dev} (h : Dv w a fp d) (hk : Kept [] w w') : Dv w' a fp d := h.kept hk (by simp)
end Go.Proofs.YtbnflbkaogpnbaaGreat
namespace Go.Proofs.YtbnflbkaogpnbaaGreat
theorem keys_two (d : Dev) (b c : Blk) (h : d.sure = [(0, b), (2, c)]) : d.keys = [0, 2] := by
 unfold Dev.keys
 rw [h]
 exact List.mergeSort_of_pairwise (by simp)
/-- A sector full of one byte. -/
def fullB (x : UInt8) : Blk := List.replicate 128 x
theorem length_fullB (x : UInt8) : (fullB x).length = 128 := by simp [fullB]
def e0 : Dev := Dev.new 3
def e1 : Dev := ⟨[fullB 97, zeros, zeros], [(0, zeros)], -1, [], -1, 1, false⟩
def e2 : Dev := ⟨[fullB 97, zeros, fullB 98], [(0, zeros), (2, zeros)], -1, [], -1, 2, false⟩
def e3 : Dev := ⟨[fullB 97, zeros, fullB 98], [], -1, [], -1, 3, false⟩
def e4 : Dev := ⟨[fullB 98, zeros, fullB 98], [(0, fullB 97)], -1, [], -1, 4, false⟩
def e5 : Dev := ⟨[fullB 98, zeros, fullB 97], [(0, fullB 97), (2, fullB 98)], -1, [], -1, 5, false⟩
def e6 : Dev := ⟨[fullB 97, zeros, fullB 97], [], -1, [], -1, 5, true⟩
def e7 : Dev := ⟨[fullB 97, zeros, fullB 97], [], -1, [], -1, 5, false⟩
def e8 : Dev := ⟨[fullB 97, zeros, fullB 97], [], 0, [1], -1, 5, false⟩
def e9 : Dev := ⟨[fullB 97, fullB 97, fullB 97], [], -1, [1], -1, 5, true⟩
def e10 : Dev := ⟨[fullB 97, fullB 97, fullB 97], [], -1, [1], -1, 5, false⟩
def e11 : Dev := ⟨[fullB 97, fullB 97, fullB 97], [], -1, [1], 1, 5, false⟩
def e12 : Dev := ⟨[fullB 97, fullB 98, fullB 97], [(1, fullB 97)], -1, [1], 0, 6, false⟩
theorem write_ok {d : Dev} {i : Int} {b : Blk} (h1 : d.at_ i = 0) (h2 : b.length = 128) (h3 : d.till ≠ 0) (h4 : d.fail ≠ 0) : d.write i b = ((d.midst i.toNat b).counted, 0) := by
 simp [Dev.write, h1, h2, h3, h4]
theorem write_falls {d : Dev} {i : Int} {b : Blk} (h1 : d.at_ i = 0) (h2 : b.length = 128) (h3 : d.till ≠ 0) (h4 : d.fail = 0) : d.write i b = ((d.midst i.toNat b).gone d.keep, 100) := by
 simp [Dev.write, h1, h2, h3, h4]
theorem s1 : e0.write 0 (fullB 97) = (e1, 0) := by rw [write_ok rfl (length_fullB _) (by decide) (by decide)]; rfl
theorem s2 : e1.write 2 (fullB 98) = (e2, 0) := by rw [write_ok rfl (length_fullB _) (by decide) (by decide)]; rfl
theorem s3 : e2.flush = (e3, 0) := rfl
theorem s4 : e3.write 0 (fullB 98) = (e4, 0) := by rw [write_ok rfl (length_fullB _) (by decide) (by decide)]; rfl
theorem s5 : e4.write 2 (fullB 97) = (e5, 0) := by rw [write_ok rfl (length_fullB _) (by decide) (by decide)]; rfl
theorem s6 : e5.crash [0, 1] = (e6, 0) := by
 show (e5.gone [0, 1], (0 : Int)) = (e6, 0)
 unfold Dev.gone
 rw [keys_two e5 (fullB 97) (fullB 98) rfl]
 rfl
end Go.Proofs.YtbnflbkaogpnbaaGreat
