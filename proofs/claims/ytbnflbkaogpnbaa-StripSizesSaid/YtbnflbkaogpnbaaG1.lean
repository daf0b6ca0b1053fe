/- The power goes: the walk. -/
import Derived.Test.YtbnflbkaogpnbaaG0
namespace Go.Proofs.Ytbnflbkaogpnbaa
open Go.RowKit Go.Maps
open Go.ChangeMaps (setBlock heap_setBlock_same heap_setBlock_other)

/-- Between two rounds of a loss. -/
structure GoneAt (w1 : World) (a S M : Nat) (K : Option Nat) (d : Dev) (keep : List Int) (j : Nat) (wr : World) : Prop where
  dev : DevAt wr a S M K (d.part keep j)
  kept : Kept [S] w1 wr

theorem GoneAt.skip {w1 wr : World} {a S M : Nat} {K : Option Nat} {d : Dev} {keep : List Int} {j : Nat} (h : GoneAt w1 a S M K d keep j wr) (hj : j < d.keys.length) (hl : Dev.lost keep j = false) : GoneAt w1 a S M K d keep (j + 1) wr :=
  ⟨by rw [Dev.part_succ hj, hl]; exact h.dev, h.kept⟩

theorem GoneAt.back {w1 wr : World} {a S M : Nat} {K : Option Nat} {d : Dev} {keep : List Int} {j : Nat} (h : GoneAt w1 a S M K d keep j wr) (hj : j < d.keys.length) (hl : Dev.lost keep j = true) {b : Blk} (hb : Dev.look d.sure d.keys[j] = some b)
    (hwf : d.Wf) : GoneAt w1 a S M K d keep (j + 1) (wr.drew.setCells S (d.keys[j] * 128) (u8vs b)) := by
  refine ⟨?_, (h.kept.trans (Kept.drew _ _)).trans (setCells_kept S (u8vs b) _ _)⟩
  have hk : d.keys[j] < (d.part keep j).secs.length := by
    have := Dev.key_lt hwf (List.getElem_mem hj)
    simpa [Dev.part, Dev.length_backs] using this
  have h1 := h.dev.drew.put hk (hwf.sureSize _ (Dev.look_mem hb))
  rw [Dev.part_succ hj, hl, hb]
  exact h1

set_option maxHeartbeats 1000000 in
set_option maxRecDepth 100000 in
theorem gone_any {w : World} {a S M : Nat} {K : Option Nat} {d : Dev} (hD : DevAt w a S M K d) (A : Option Addr) (n c : Nat) (keep : List Int) (hx : SlAt w A n c (keep.map i64v)) (hA : ∀ p, A = some p → 0 < n → p.block ≠ S) :
    Calls Try.prog 72 #[.pointer (some ⟨a, 0, none⟩), .slice A n c] w (DevPost w a S M K (d.gone keep, 100)) := by
  have hcs := hD.cells
  have hal := hD.lt
  have hne := hD.ne
  have c1 := hcs.2.1
  go_enter Try.func72, Try.ntmps72
  go_wp2_with (first | (go_at_call 105; refine (keys_any _ _).mono ?_; rintro e w' ⟨rfl, rfl⟩) | (go_at_call 104; refine (sortedKeys_any hD).mono ?_; rintro e w1 ⟨As, cs, rfl, hown, hbel⟩))
  have hk1 : Kept [] w w1 := (Kept.alloc [] w _).trans (Kept.of_below hbel)
  have hD1 := hD.kept hk1 (by simp) (by simp) (by simp) (by simp)
  have hx1 := hx.kept hk1 (by simp)
  have hs1 : SlAt w1 As d.keys.length cs ((d.keys.map fun i : Nat => (i : Int)).map i64v) ∧ ∀ p, As = some p → p.block ≠ S := by
    obtain ⟨A0, c0, e, h1, h2⟩ := SlAt.of_own hown
    simp only [Value.slice.injEq, true_and] at e
    obtain ⟨rfl, rfl⟩ := e
    refine ⟨by rw [List.map_map]; exact h1, fun p hp => ?_⟩
    have h3 := (h2 p hp).2
    have h4 := hal.2.1
    simp only [World.size_alloc] at h3
    omega
  obtain ⟨hs1, hsS⟩ := hs1
  clear hown hbel hcs
  have hwf := hD.wf
  have hgo : GoneAt w1 a S M K d keep 0 w1 := ⟨by simpa [Dev.part, Dev.backs] using hD1, Kept.refl _ _⟩
  clear hx hD1
  go_loopw [14] (fun i wr => ∃ j : Nat, j ≤ d.keys.length ∧ i = .int .i64 j ∧ GoneAt w1 a S M K d keep j wr) (fun i _ => d.keys.length - (intOf i).toNat)
  case atStart => exact ⟨0, Nat.zero_le _, rfl, hgo⟩
  case round =>
    obtain ⟨j, hj, rfl, hg⟩ := hrel
    have hmx := hs1.max; have hmn := hs1.le
    unfold maxLen at hmx
    by_cases hlt : j < d.keys.length
    · have hsr := hs1.kept hg.kept (fun p hp => by simpa using hsS p hp)
      have hxr := hx1.keptP hg.kept (fun p hp hn => by simpa using hA p hp hn)
      obtain ⟨bs, os, hAs, _, hkc⟩ := hsr.int_at hlt
      subst hAs
      have hkc' : wr.cell? ⟨bs, os + j, none⟩ = some (.int .i64 (d.keys[j] : Nat)) := by
        rw [hkc]; simp [hlt]
      have hkl : d.keys[j] < (d.part keep j).secs.length := by
        have := Dev.key_lt hwf (List.getElem_mem hlt)
        simpa [Dev.part, Dev.length_backs] using this
      have hkm := hg.dev.wf.many
      obtain ⟨b, hb⟩ := Dev.look_of_key (Dev.mem_keys.1 (List.getElem_mem hlt))
      have hbl := hwf.sureSize _ (Dev.look_mem hb)
      have hj2 : (j : Int) < (d.keys.length : Int) := by omega
      have e0 := hg.dev.cells.1
      have e1 := hg.dev.cells.2.1
      have hback := fun hl => hg.back hlt hl hb hwf
      have hskip := hg.skip hlt
      have hlk : (Instr.lookup 59 (.map (some M)) (.int .i64 (d.keys[j] : Nat)) false).run Try.prog wr.drew = .ok (.agg (u8vs b).toArray) wr.drew := by
        rcases hg.dev.drew.lookup false d.keys[j] (by omega) with ⟨h, _⟩ | ⟨b2, h, h'⟩
        · have : Dev.look d.sure d.keys[j] = none := h
          rw [hb] at this; cases this
        · have : Dev.look d.sure d.keys[j] = some b2 := h
          rw [hb] at this; cases this; exact h'
      have ht3 : wr.drew.there S (d.keys[j] * 128) 128 := flat_there hg.dev.secs hg.dev.wf.size hkl
      have hlen : (d.part keep j).secs.length = d.secs.length := by simp [Dev.part, Dev.length_backs]
      have hkl2 : (d.keys[j] : Int) < ((d.part keep j).secs.length : Int) := by omega
      have HB := Lib.hid hbl; clear hbl hb hkc hg hlen
      generalize hq : d.keys[j] = q at *
      have HQ := Lib.hid hq; clear hq
      by_cases hnj : n ≤ j
      · have hl : Dev.lost keep j = true := by
          have hh := hxr.len
          simp only [List.length_map] at hh
          simp [Dev.lost, hh, hnj]
        have hbk := hback hl
        clear hback hskip hl
        have h3 : (n : Int) ≤ (j : Int) := by omega
        go_wp2
        refine wp_region_still_tail 12 (by kernel_rfl) (by kernel_rfl) ?_
        simp only [List.take_succ_cons, List.take_zero, List.drop_succ_cons, List.drop_zero]
        repeat still_step
        refine wpStill_nil ?_
        refine wpList_store_mid rfl 108 _ _ rfl S (q * 128) (u8vs b).toArray rfl rfl (by simpa [u8vs, HB.out] using ht3) (by rw [size_block]; simp [u8vs, HB.out]) (all_oneCell_toArray (one_u8 b)) ?_
        go_wp2
        go_roundw
        case rel => exact ⟨j + 1, by omega, by go_num, hbk⟩
        case measure => simp [intOf]; omega
      · obtain ⟨bk, ok, hAk, _, hkk⟩ := hxr.int_at (k := j) (by omega)
        subst hAk
        have h3 : ¬ (n : Int) ≤ (j : Int) := by omega
        have h4 : (j : Int) < (n : Int) := by omega
        have hxl := hxr.len
        have hxm := hxr.max; have hxn := hxr.le
        unfold maxLen at hxm
        simp only [List.length_map] at hxl
        by_cases hev : (keep[j]?.getD 0).tmod 2 = 0
        · have hl : Dev.lost keep j = true := by simp [Dev.lost, hev]
          have hbk := hback hl
          have hev2 : ((keep[j]?.getD 0).tmod 2 == 0) = true := by simp [hev]
          clear hback hskip hl hev hxl
          go_wp2
          refine wp_region_still_tail 12 (by kernel_rfl) (by kernel_rfl) ?_
          simp only [List.take_succ_cons, List.take_zero, List.drop_succ_cons, List.drop_zero]
          repeat still_step
          refine wpStill_nil ?_
          refine wpList_store_mid rfl 108 _ _ rfl S (q * 128) (u8vs b).toArray rfl rfl (by simpa [u8vs, HB.out] using ht3) (by rw [size_block]; simp [u8vs, HB.out]) (all_oneCell_toArray (one_u8 b)) ?_
          go_wp2
          go_roundw
          case rel => exact ⟨j + 1, by omega, by go_num, hbk⟩
          case measure => simp [intOf]; omega
        · have hl : Dev.lost keep j = false := by simp [Dev.lost, hev]; omega
          have hbk := hskip hl
          have hev2 : ((keep[j]?.getD 0).tmod 2 == 0) = false := by simp [hev]
          clear hback hskip hl hev hxl
          go_wp2
          go_roundw
          case rel => exact ⟨j + 1, by omega, by go_num, hbk⟩
          case measure => simp [intOf]; omega
    · obtain rfl : j = d.keys.length := by omega
      have hdp := hg.dev
      have hpt : d.part keep d.keys.length = { d with secs := (d.gone keep).secs } := by simp [Dev.part, Dev.gone]
      have hkr := hg.kept
      rw [hpt] at hdp
      obtain ⟨clk, ⟨es, hme⟩, hcl⟩ := hdp.clear
      have hwf2 : ({ ({ d with secs := (d.gone keep).secs } : Dev) with sure := [] } : Dev).Wf := { hwf.gone keep with
        fail0 := hwf.fail0
        fail1 := hwf.fail1
        till0 := hwf.till0
        till1 := hwf.till1 }
      have hD2 := hdp.putSure hwf2 (es := #[]) (clk := clk) rfl (MapKept.stamped_empty clk)
      have hk2 : Kept [M] wr (setBlock wr M (.map #[] clk)) := Kept.setBlock hme (by simp) _
      have hkw : Kept [S, M] w1 (setBlock wr M (.map #[] clk)) := (hkr.mono (by simp)).trans (hk2.mono (by simp))
      generalize setBlock wr M (.map #[] clk) = W2 at hcl hD2 hk2 hkw
      have c1r := hdp.cells.2.1
      obtain ⟨f0, f1, f2, f4, f5, f6, ff⟩ := hD2.cells
      have h3 : ¬ (d.keys.length : Int) < (d.keys.length : Int) := by omega
      clear hdp hk2 hme hs1 hx1 hg hkr f0 f1 f5
      go_wp2
      go_ret
      have hks : Kept [a] W2 (((W2.setCell ⟨a, 6, none⟩ (.bool true)).setCell ⟨a, 2, none⟩ (.int .i64 (-1))).setCell ⟨a, 4, none⟩ (.int .i64 (-1))) :=
        ((Kept.setCell (by simp) _).trans (Kept.setCell (by simp) _)).trans (Kept.setCell (by simp) _)
      refine ⟨rfl, K, hD2.rehead hks (hwf.gone keep) rfl rfl (fun kv hh => ?_) rfl, ((hk1.mono (by simp)).trans (hkw.mono (fun i hi => .inl (by simp at hi ⊢; exact .inr hi)))).trans (hks.mono (by simp)), fun _ e => .inl e⟩
      rw [heap_set (heap_set (heap_set hh 6 _) 2 _) 4 _]
      rfl
end Go.Proofs.Ytbnflbkaogpnbaa
