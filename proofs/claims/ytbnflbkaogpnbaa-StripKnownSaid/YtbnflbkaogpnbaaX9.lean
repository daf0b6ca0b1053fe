/- meant10; EqInts. -/
import Derived.Test.YtbnflbkaogpnbaaX8
namespace Go.Proofs.Ytbnflbkaogpnbaa
open Go.RowKit

/-- The bytes that a deed writes. -/
def DeedR.bytes (x : DeedR) : Blk := List.replicate (fullLen x.short) (byteOf x.b)

set_option maxHeartbeats 2000000 in
theorem meant10_any {w : World} {r : Nat} {fp : List Nat} {d : Dev} (hD : Rv w r fp d) (hw : d.Wf) (x : DeedR) (hx : x.Ok w) (hKA : ∀ p, x.kA = some p → 0 < x.kn → p.block ∉ fp) (hwk : d.works < 9223372036854775807) :
    Calls Try.prog 40 #[.pointer (some ⟨r, 0, none⟩), x.val] w (RvPost w r fp (d.deed x x.bytes)) := by
  have hk0 := Kept.alloc [] w (.cells #[.int .i64 x.kind, .int .i64 x.a, .int .i64 x.b, .int .i64 x.short, .slice x.kA x.kn x.kc] 31)
  have hD1 := hD.new_kept hk0
  have hk1 := hx.sl.kept hk0 (by simp)
  have hsm := hx.small
  have e1 := hx.kind; have e2 := hx.a
  unfold I64 at e1 e2
  have hki := hx.keep
  have cb := fun W => bring_any x.kind 6 W (by omega) (by omega) e1.1 e1.2
  have hd : d.deed x x.bytes = if x.kind % 6 = 0 then d.write x.a x.bytes else if x.kind % 6 = 1 then d.flush else if x.kind % 6 = 2 then d.crash x.keep else if x.kind % 6 = 3 then d.failAt x.a x.keep else if x.kind % 6 = 4 then d.refuse x.a else (d.boot, 0) := rfl
  have hr0 : 0 ≤ x.kind % 6 := Int.emod_nonneg _ (by omega)
  have hr6 : x.kind % 6 < 6 := Int.emod_lt_of_pos _ (by omega)
  obtain ⟨m, hm⟩ : ∃ m, x.kind % 6 = m := ⟨_, rfl⟩
  simp only [hm] at cb hd hr0 hr6
  rw [hd]
  clear hd hm hx
  unfold DeedR.val
  obtain rfl | rfl | rfl | rfl | rfl | rfl : m = 0 ∨ m = 1 ∨ m = 2 ∨ m = 3 ∨ m = 4 ∨ m = 5 := by omega
  · have h1 : ∀ W, Kept [] (w.alloc (.cells #[.int .i64 x.kind, .int .i64 x.a, .int .i64 x.b, .int .i64 x.short, .slice x.kA x.kn x.kc] 31)) W →
        W.cell? ⟨w.heap.size, 1, none⟩ = some (.int .i64 x.a) ∧ W.cell? ⟨w.heap.size, 2, none⟩ = some (.int .i64 x.b) ∧ W.cell? ⟨w.heap.size, 3, none⟩ = some (.int .i64 x.short) := fun W hkW => by
      have hb := (hkW.block w.heap.size (by simp) (by simp)).trans (heap_alloc_new w _)
      exact ⟨by rw [blk_cell hb]; rfl, by rw [blk_cell hb]; rfl, by rw [blk_cell hb]; rfl⟩
    have hDd := hD1.new_kept (Kept.drew [] _)
    have hkd : Kept [] w (w.alloc (.cells #[.int .i64 x.kind, .int .i64 x.a, .int .i64 x.b, .int .i64 x.short, .slice x.kA x.kn x.kc] 31)).drew := hk0.trans (Kept.drew [] _)
    go_enter Try.func40, Try.ntmps40
    go_wp2_with (go_at_call 22; refine (cb _).mono ?_; rintro e w' ⟨rfl, rfl⟩)
    go_region_held3 (fun W => W.cell? ⟨w.heap.size, 1, none⟩ = some (.int .i64 x.a) ∧ W.cell? ⟨w.heap.size, 2, none⟩ = some (.int .i64 x.b) ∧ W.cell? ⟨w.heap.size, 3, none⟩ = some (.int .i64 x.short))
      (first | exact h1 _ (Kept.drew [] _) | exact q4 | exact q5)
      (first
        | (go_at_call 25
           refine (full_any x.b x.short _).mono ?_
           rintro e w4 ⟨A4, c4, rfl, hown4, hbel4⟩
           obtain ⟨hs4, hA4⟩ := ClonePost.sl hown4
           have hk4 := Kept.of_below (F := []) hbel4
           have hD4 := hDd.new_kept hk4
           have q4 := h1 _ ((Kept.drew [] _).trans hk4)
           have hkw4 := hkd.trans hk4
           clear hown4 hbel4)
        | (go_at_call 76
           refine (rv_write hD4 hw hwk x.a x.bytes A4 (fullLen x.short) c4 hs4).mono ?_
           rintro e w5 hp
           have q5 : w5.cell? ⟨w.heap.size, 1, none⟩ = some (.int .i64 x.a) ∧ w5.cell? ⟨w.heap.size, 2, none⟩ = some (.int .i64 x.b) ∧ w5.cell? ⟨w.heap.size, 3, none⟩ = some (.int .i64 x.short) := by
             obtain ⟨_, f5, _, hk5, _⟩ := hp
             have hnf : w.heap.size ∉ fp := fun hm => by have := hD.lt _ hm; omega
             have hlt : w.heap.size < w4.heap.size := by have h8 := hk4.size; simp [World.drew] at h8; omega
             exact ⟨(hk5.cell (p := ⟨w.heap.size, 1, none⟩) hlt hnf).trans q4.1, (hk5.cell (p := ⟨w.heap.size, 2, none⟩) hlt hnf).trans q4.2.1, (hk5.cell (p := ⟨w.heap.size, 3, none⟩) hlt hnf).trans q4.2.2⟩
           have hp2 := hp.from hkw4
           obtain ⟨rfl, _⟩ := hp))
    go_wp2_with fail
    go_ret
    exact hp2
  · have cw := rv_flush hD1 hw hwk
    go_enter Try.func40, Try.ntmps40
    go_wp2_with (go_at_call 22; refine (cb _).mono ?_; rintro e w' ⟨rfl, rfl⟩)
    refine cw.mono ?_
    rintro e w5 hp
    have hp2 := hp.from hk0
    obtain ⟨rfl, _⟩ := hp
    clear cw
    go_wp2_with fail
    go_ret
    exact hp2
  · have cw := rv_crash hD1 hw x.kA x.kn x.kc x.keep hk1 hKA hki
    go_enter Try.func40, Try.ntmps40
    go_wp2_with (go_at_call 22; refine (cb _).mono ?_; rintro e w' ⟨rfl, rfl⟩)
    refine cw.mono ?_
    rintro e w5 hp
    have hp2 := hp.from hk0
    obtain ⟨rfl, _⟩ := hp
    clear cw
    go_wp2_with fail
    go_ret
    exact hp2
  · have cw := rv_fail hD1 x.a x.kA x.kn x.kc x.keep hk1 (by omega) hKA hki
    go_enter Try.func40, Try.ntmps40
    go_wp2_with (go_at_call 22; refine (cb _).mono ?_; rintro e w' ⟨rfl, rfl⟩)
    refine cw.mono ?_
    rintro e w5 hp
    have hp2 := hp.from hk0
    obtain ⟨rfl, _⟩ := hp
    clear cw
    go_wp2_with fail
    go_ret
    exact hp2
  · have cw := rv_refuse hD1 x.a
    go_enter Try.func40, Try.ntmps40
    go_wp2_with (go_at_call 22; refine (cb _).mono ?_; rintro e w' ⟨rfl, rfl⟩)
    refine cw.mono ?_
    rintro e w5 hp
    have hp2 := hp.from hk0
    obtain ⟨rfl, _⟩ := hp
    clear cw
    go_wp2_with fail
    go_ret
    exact hp2
  · have cw := rv_boot hD1
    go_enter Try.func40, Try.ntmps40
    go_wp2_with (go_at_call 22; refine (cb _).mono ?_; rintro e w' ⟨rfl, rfl⟩)
    refine cw.mono ?_
    rintro e w5 hp
    have hp2 := hp.from hk0
    obtain ⟨rfl, _⟩ := hp
    clear cw
    go_wp2_with fail
    go_ret
    exact hp2

theorem take_succ_eqI {xs ys : List Int} {k : Nat} (hx : k < xs.length) (hy : k < ys.length) (h : xs.take k = ys.take k) (he : xs[k]?.getD 0 = ys[k]?.getD 0) : xs.take (k + 1) = ys.take (k + 1) := by
  rw [List.take_succ_eq_append_getElem hx, List.take_succ_eq_append_getElem hy, h]
  simp only [List.getElem?_eq_getElem hx, List.getElem?_eq_getElem hy, Option.getD_some] at he
  rw [he]

set_option maxHeartbeats 400000 in
theorem eqInts_any (w : World) (A B : Option Addr) (n c m d : Nat) (xs ys : List Int) (hx : SlAt w A n c (xs.map i64v)) (hy : SlAt w B m d (ys.map i64v)) :
    Calls Try.prog 41 #[.slice A n c, .slice B m d] w fun e w' => e = .returned (.bool (decide (xs = ys))) ∧ ∃ q, w' = w.drewN q := by
  have hxl := hx.len; have hyl := hy.len
  have hc := hx.le; have hcm := hx.max
  have hd := hy.le; have hdm := hy.max
  unfold maxLen at hcm hdm
  simp only [List.length_map] at hxl hyl
  by_cases hnm : n = m
  · subst hnm
    have hb : ((n : Int) != (n : Int)) = false := by simp
    have HX := Lib.hid hxl; have HY := Lib.hid hyl; clear hxl hyl
    go_enter Try.func41, Try.ntmps41
    go_wp2
    go_loopw [5] (fun i wr => ∃ k q : Nat, k ≤ n ∧ i = .int .i64 k ∧ wr = w.drewN q ∧ xs.take k = ys.take k) (fun i _ => n - (intOf i).toNat)
    case atStart => exact ⟨0, 0, Nat.zero_le _, rfl, rfl, rfl⟩
    case round =>
      obtain ⟨k, q, hk, rfl, rfl, ht⟩ := hrel
      by_cases hlt : k < n
      · obtain ⟨b, o, hA, hbl, hcx⟩ := hx.int_at hlt
        obtain ⟨b', o', hB, hbl', hcy⟩ := hy.int_at hlt
        have HT := Lib.hid ht; clear ht
        subst hA hB
        have h2 : (k : Int) < (n : Int) := by omega
        by_cases he : xs[k]?.getD 0 = ys[k]?.getD 0
        · have HE := Lib.hid he
          have hcy2 : w.cell? ⟨b', o' + k, none⟩ = some (.int .i64 (xs[k]?.getD 0)) := by rw [he]; exact hcy
          clear he hcy
          go_wp2
          go_quiet (fail)
          go_wp2
          go_roundw
          case rel => exact ⟨k + 1, q + nq, by omega, by go_num, by first | rfl | rw [World.drewN_drewN], take_succ_eqI (by rw [HX.out]; exact hlt) (by rw [HY.out]; exact hlt) HT.out HE.out⟩
          case measure => simp [intOf]; omega
        · have HE := Lib.hid he
          have hne : ((xs[k]?.getD 0) != (ys[k]?.getD 0)) = true := by
            simp only [bne_iff_ne, ne_eq]
            exact he
          clear he
          go_wp2
          go_quiet (fail)
          go_wp2
          go_ret
          exact ⟨ret_bool (by rw [decide_eq_false_iff_not.2]; exact fun e => HE.out (by rw [e])), q + nq, by first | rfl | rw [World.drewN_drewN]⟩
      · have h2 : ¬ (k : Int) < (n : Int) := by omega
        go_wp2
        go_ret
        obtain rfl : k = n := by omega
        exact ⟨ret_bool (by
          rw [decide_eq_true_iff.2]
          have h1 := List.take_of_length_le (i := k) (l := xs) (by rw [HX.out]; exact Nat.le_refl _)
          have h3 := List.take_of_length_le (i := k) (l := ys) (by rw [HY.out]; exact Nat.le_refl _)
          rw [← h1, ← h3]; exact ht), _, rfl⟩
  · have hne : ¬ xs = ys := fun e => hnm (by rw [← hxl, ← hyl, e])
    have hb : ((n : Int) != (m : Int)) = true := by simp; omega
    go_enter Try.func41, Try.ntmps41
    go_wp2
    go_ret
    exact ⟨ret_bool (by simp [hne]), 0, rfl⟩

theorem eqInts_true (w : World) (A B : Option Addr) (n c m d : Nat) (xs : List Int) (hx : SlAt w A n c (xs.map i64v)) (hy : SlAt w B m d (xs.map i64v)) :
    Calls Try.prog 41 #[.slice A n c, .slice B m d] w (TruePost w) := by
  refine (eqInts_any w A B n c m d xs xs hx hy).mono ?_
  rintro e w' ⟨he, q, rfl⟩
  rw [decide_eq_true rfl] at he
  exact ⟨he, Kept.drewN _ _ _⟩

/-- Read, of the document's: what stands in the way, or what is there. -/
theorem rv_read {w : World} {r : Nat} {fp : List Nat} {d : Dev} (h : Rv w r fp d) (i : Int) {b : Blk} (hz : d.at_ i = 0) (hb : d.secs[i.toNat]? = some b) : Calls Try.prog 42 #[.pointer (some ⟨r, 0, none⟩), .int .i64 i] w (ReadsPost w b) := by
  obtain ⟨B, cap, l, s, hR, hI⟩ := h
  unfold Dev.at_ at hz
  have hd : d.dead = false := by
    by_cases hd : d.dead = true
    · rw [if_pos hd] at hz; exact absurd hz (by decide)
    · simpa using hd
  rw [hd] at hz
  simp only [Bool.false_eq_true, if_false] at hz
  have hi : ¬ (i < 0 ∨ (d.secs.length : Int) ≤ i) := fun hi => by rw [if_pos hi] at hz; exact absurd hz (by decide)
  obtain ⟨q, rfl⟩ : ∃ q : Nat, i = q := ⟨i.toNat, by omega⟩
  have hq : q < s.n := by rw [hI.n]; omega
  have hn := hI.now q hq
  rw [Int.toNat_natCast, hn] at hb
  cases hb
  exact refRead_ok hR q (hI.dead.trans hd) hq

theorem rv_read_bad {w : World} {r : Nat} {fp : List Nat} {d : Dev} (h : Rv w r fp d) (i : Int) (hz : d.at_ i ≠ 0) : Calls Try.prog 42 #[.pointer (some ⟨r, 0, none⟩), .int .i64 i] w (fun e w' => e = .returned (.tuple #[.slice none 0 0, .int .i64 (d.at_ i)]) ∧ w = w') := by
  obtain ⟨B, cap, l, s, hR, hI⟩ := h
  by_cases hd : d.dead = true
  · have e : d.at_ i = 100 := by simp [Dev.at_, hd]
    rw [e]
    exact refRead_dead hR i (hI.dead.trans hd)
  · have hd' : d.dead = false := by simpa using hd
    have hi : i < 0 ∨ (d.secs.length : Int) ≤ i := by
      unfold Dev.at_ at hz
      rw [hd'] at hz
      by_cases hi : i < 0 ∨ (d.secs.length : Int) ≤ i
      · exact hi
      · simp [hi] at hz
    have e : d.at_ i = 9 := by simp [Dev.at_, hd', hi]
    rw [e]
    exact refRead_out hR i (hI.dead.trans hd') (by rw [hI.n]; exact hi)

/-- What the statement reads of the document's device itself. -/
theorem Rv.fields {w : World} {r : Nat} {fp : List Nat} {d : Dev} (h : Rv w r fp d) : (∃ B cap, w.cell? ⟨r, 0, none⟩ = some (.slice (some ⟨B, 0, none⟩) d.secs.length cap)) ∧ w.cell? ⟨r, 4, none⟩ = some (.int .i64 d.works) ∧ w.cell? ⟨r, 5, none⟩ = some (.bool d.dead) := by
  obtain ⟨B, cap, l, s, hR, hI⟩ := h
  obtain ⟨c0, c1, c3, c4, c5, c6, cf⟩ := hR.cells
  rw [hR.len, hI.n] at c0
  rw [hI.works] at c4
  rw [hI.dead] at c5
  exact ⟨⟨B, cap, c0⟩, c4, c5⟩
end Go.Proofs.Ytbnflbkaogpnbaa
