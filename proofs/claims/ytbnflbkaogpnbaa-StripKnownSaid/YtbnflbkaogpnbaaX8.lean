/- The document's device, as the plain model. -/
import Derived.Test.YtbnflbkaogpnbaaX7
import Derived.Test.YtbnflbkaogpnbaaY1
namespace Go.Proofs.Ytbnflbkaogpnbaa
open Go.RowKit

/-- The document's device at block r is d. -/
def Rv (w : World) (r : Nat) (fp : List Nat) (d : Dev) : Prop := ∃ B cap l s, RefAt w r B cap l fp s ∧ s.Is d
def RvPost (w : World) (r : Nat) (fp : List Nat) (x : Dev × Int) (e : Ending) (w' : World) : Prop :=
  e = .returned (.int .i64 x.2) ∧ ∃ fp', Rv w' r fp' x.1 ∧ Kept fp w w' ∧ ∀ j ∈ fp', j ∈ fp ∨ w.heap.size ≤ j

theorem Rv.kept {w w' : World} {r : Nat} {fp : List Nat} {d : Dev} {F : List Nat} (h : Rv w r fp d) (hk : Kept F w w') (hF : ∀ j ∈ fp, j ∉ F) : Rv w' r fp d := by
  obtain ⟨B, cap, l, s, hR, hI⟩ := h
  exact ⟨B, cap, l, s, hR.kept hk hF, hI⟩
theorem Rv.new_kept {w w' : World} {r : Nat} {fp : List Nat} {d : Dev} (h : Rv w r fp d) (hk : Kept [] w w') : Rv w' r fp d := h.kept hk (by simp)
theorem Rv.lt {w : World} {r : Nat} {fp : List Nat} {d : Dev} (h : Rv w r fp d) : ∀ j ∈ fp, j < w.heap.size := by
  obtain ⟨B, cap, l, s, hR, hI⟩ := h
  exact hR.lt
theorem Rv.rin {w : World} {r : Nat} {fp : List Nat} {d : Dev} (h : Rv w r fp d) : r ∈ fp := by
  obtain ⟨B, cap, l, s, hR, hI⟩ := h
  exact hR.rin
theorem RvPost.of {w : World} {r : Nat} {fp : List Nat} {s : RS} {x : Dev × Int} {n : Int} {e : Ending} {w' : World} (h : RfPost w r fp s (.int .i64 n) e w') (hs : s.Is x.1 ∧ n = x.2) : RvPost w r fp x e w' := by
  obtain ⟨he, B, cap, l, fp', hR, hk, hn⟩ := h
  exact ⟨by rw [he, hs.2], fp', ⟨B, cap, l, s, hR, hs.1⟩, hk, hn⟩
theorem RvPost.same {w : World} {r : Nat} {fp : List Nat} {d : Dev} (h : Rv w r fp d) (n : Int) : RvPost w r fp (d, n) (.returned (.int .i64 n)) w := ⟨rfl, fp, h, Kept.refl _ _, fun _ h => .inl h⟩
theorem RfPost.of_head {w : World} {r B cap : Nat} {l : List One} {fp : List Nat} {s s' : RS} {v : Value} {e : Ending} {w' : World} (h : RefAt w r B cap l fp s) (hp : HdPost w r B cap l fp s' (.returned v) e w') : RfPost w r fp s' v e w' := by
  obtain ⟨rfl, hR, hk⟩ := hp
  exact ((Rn.start h).head hR hk).post v

section
variable {w : World} {r : Nat} {fp : List Nat} {d : Dev}

theorem rv_write (h : Rv w r fp d) (hw : d.Wf) (hk : d.works < 9223372036854775807) (i : Int) (b : Blk) (A : Option Addr) (n c : Nat) (hs : SlAt w A n c (u8vs b)) :
    Calls Try.prog 76 #[.pointer (some ⟨r, 0, none⟩), .int .i64 i, .slice A n c] w (RvPost w r fp (d.write i b)) := by
  obtain ⟨B, cap, l, s, hR, hI⟩ := h
  have hlen : b.length = n := by have := hs.len; simpa [u8vs] using this
  have hl := hI.write hw i b
  unfold RS.write at hl
  rw [hlen] at hl
  by_cases hz : s.stops i n ≠ 0
  · rw [if_pos hz] at hl
    refine (refWrite_no hR i A n c hz).mono ?_
    rintro e w' ⟨rfl, rfl⟩
    exact RvPost.of ((Rn.start hR).post _) hl
  · rw [if_neg hz] at hl
    have hz0 : s.stops i n = 0 := by omega
    have hn : n = 128 := by
      rw [hI.stops] at hz0
      by_cases ha : d.at_ i ≠ 0
      · rw [if_pos ha] at hz0; exact absurd hz0 ha
      · rw [if_neg ha] at hz0
        by_cases hn : n ≠ 128
        · rw [if_pos hn] at hz0; exact absurd hz0 (by decide)
        · omega
    subst hn
    refine (refWrite_ok hR i A c b hs hz0 (hI.fine hw hk)).mono fun e w' hp => ?_
    exact RvPost.of hp hl

theorem rv_flush (h : Rv w r fp d) (hw : d.Wf) (hk : d.works < 9223372036854775807) : Calls Try.prog 77 #[.pointer (some ⟨r, 0, none⟩)] w (RvPost w r fp d.flush) := by
  obtain ⟨B, cap, l, s, hR, hI⟩ := h
  have hl := hI.flushes hw
  unfold RS.flushes at hl
  by_cases hz : s.stopsF ≠ 0
  · rw [if_pos hz] at hl
    refine (refFlush_no hR hz).mono ?_
    rintro e w' ⟨rfl, rfl⟩
    exact RvPost.of ((Rn.start hR).post _) hl
  · rw [if_neg hz] at hl
    refine (refFlush_ok hR (by omega) (hI.fine hw hk)).mono fun e w' hp => ?_
    exact RvPost.of hp hl

theorem rv_crash (h : Rv w r fp d) (hw : d.Wf) (A : Option Addr) (n c : Nat) (keep : List Int) (hx : SlAt w A n c (keep.map i64v)) (hA : ∀ p, A = some p → 0 < n → p.block ∉ fp) (hki : ∀ n ∈ keep, I64 n) :
    Calls Try.prog 78 #[.pointer (some ⟨r, 0, none⟩), .slice A n c] w (RvPost w r fp (d.crash keep)) := by
  obtain ⟨B, cap, l, s, hR, hI⟩ := h
  refine (refCrash_any hR A n c keep hx (fun p hp h0 hm => absurd hm (hA p hp h0)) hki).mono fun e w' hp => ?_
  exact RvPost.of hp (hI.crash hw keep)

set_option maxHeartbeats 400000 in
theorem refFail_dead {B cap : Nat} {l : List One} {s : RS} (h : RefAt w r B cap l fp s) (n : Int) (A : Option Addr) (m c : Nat) (hd : s.dead = true) :
    Calls Try.prog 79 #[.pointer (some ⟨r, 0, none⟩), .int .i64 n, .slice A m c] w (fun e w' => e = .returned (.int .i64 100) ∧ w = w') := by
  obtain ⟨c0, c1, c3, c4, c5, c6, cf⟩ := h.cells
  rw [hd] at c5
  clear c0 c1 c3 c4 c6
  have HD := Lib.hid hd; clear hd
  go_enter Try.func79, Try.ntmps79
  go_wp2
  go_ret
  exact ⟨rfl, rfl⟩

set_option maxHeartbeats 400000 in
theorem refRefuse_dead {B cap : Nat} {l : List One} {s : RS} (h : RefAt w r B cap l fp s) (n : Int) (hd : s.dead = true) :
    Calls Try.prog 80 #[.pointer (some ⟨r, 0, none⟩), .int .i64 n] w (fun e w' => e = .returned (.int .i64 100) ∧ w = w') := by
  obtain ⟨c0, c1, c3, c4, c5, c6, cf⟩ := h.cells
  rw [hd] at c5
  clear c0 c1 c3 c4 c6
  have HD := Lib.hid hd; clear hd
  go_enter Try.func80, Try.ntmps80
  go_wp2
  go_ret
  exact ⟨rfl, rfl⟩

theorem rv_fail (h : Rv w r fp d) (n : Int) (A : Option Addr) (m c : Nat) (keep : List Int) (hx : SlAt w A m c (keep.map i64v)) (hm : m * 8 ≤ 140737488355328) (hA : ∀ p, A = some p → 0 < m → p.block ∉ fp) (hki : ∀ n ∈ keep, I64 n) :
    Calls Try.prog 79 #[.pointer (some ⟨r, 0, none⟩), .int .i64 n, .slice A m c] w (RvPost w r fp (d.failAt n keep)) := by
  obtain ⟨B, cap, l, s, hR, hI⟩ := h
  have hl := hI.failAt n keep
  unfold RS.failAt at hl
  by_cases hd : s.dead = true
  · rw [if_pos hd] at hl
    refine (refFail_dead hR n A m c hd).mono ?_
    rintro e w' ⟨rfl, rfl⟩
    exact RvPost.of ((Rn.start hR).post _) hl
  · rw [if_neg hd] at hl
    refine (refFail_any hR n A m c keep hx hm (fun p hp h0 e => hA p hp h0 (e ▸ hR.rin)) hki (by simpa using hd)).mono fun e w' hp => ?_
    exact RvPost.of hp hl

theorem rv_refuse (h : Rv w r fp d) (n : Int) : Calls Try.prog 80 #[.pointer (some ⟨r, 0, none⟩), .int .i64 n] w (RvPost w r fp (d.refuse n)) := by
  obtain ⟨B, cap, l, s, hR, hI⟩ := h
  have hl := hI.refuse n
  unfold RS.refuse at hl
  by_cases hd : s.dead = true
  · rw [if_pos hd] at hl
    refine (refRefuse_dead hR n hd).mono ?_
    rintro e w' ⟨rfl, rfl⟩
    exact RvPost.of ((Rn.start hR).post _) hl
  · rw [if_neg hd] at hl
    refine (refRefuse_any hR n (by simpa using hd)).mono fun e w' hp => ?_
    exact RvPost.of (RfPost.of_head hR hp) hl

theorem rv_boot (h : Rv w r fp d) : Calls Try.prog 81 #[.pointer (some ⟨r, 0, none⟩)] w (RvPost w r fp (d.boot, 0)) := by
  obtain ⟨B, cap, l, s, hR, hI⟩ := h
  refine (refBoot_any hR).mono fun e w' hp => ?_
  exact RvPost.of (RfPost.of_head hR hp) ⟨hI.boot, rfl⟩
end

/-- A deed that came in, as the plain model takes it: with these bytes. -/
def Dev.deed (d : Dev) (x : DeedR) (b : Blk) : Dev × Int :=
  if x.kind % 6 = 0 then d.write x.a b else if x.kind % 6 = 1 then d.flush else if x.kind % 6 = 2 then d.crash x.keep else if x.kind % 6 = 3 then d.failAt x.a x.keep else if x.kind % 6 = 4 then d.refuse x.a else (d.boot, 0)

def DeedR.val (x : DeedR) : Value := .agg #[.int .i64 x.kind, .int .i64 x.a, .int .i64 x.b, .int .i64 x.short, .slice x.kA x.kn x.kc]

theorem DvPost.from {w w1 : World} {a : Nat} {fp : List Nat} {x : Dev × Int} {e : Ending} {w' : World} (hk : Kept [] w w1) (h : DvPost w1 a fp x e w') : DvPost w a fp x e w' := by
  obtain ⟨he, fp', hD, hk', hn⟩ := h
  exact ⟨he, fp', hD, (hk.mono (by simp)).trans hk', fun j hj => by
    rcases hn j hj with h1 | h1
    · exact .inl h1
    · exact .inr (Nat.le_trans hk.size h1)⟩
theorem RvPost.from {w w1 : World} {a : Nat} {fp : List Nat} {x : Dev × Int} {e : Ending} {w' : World} (hk : Kept [] w w1) (h : RvPost w1 a fp x e w') : RvPost w a fp x e w' := by
  obtain ⟨he, fp', hD, hk', hn⟩ := h
  exact ⟨he, fp', hD, (hk.mono (by simp)).trans hk', fun j hj => by
    rcases hn j hj with h1 | h1
    · exact .inl h1
    · exact .inr (Nat.le_trans hk.size h1)⟩

set_option maxHeartbeats 2000000 in
theorem does10_any {w : World} {a : Nat} {fp : List Nat} {d : Dev} (hD : Dv w a fp d) (x : DeedR) (hx : x.Ok w) (b : Blk) (A : Option Addr) (n c : Nat) (hs : SlAt w A n c (u8vs b)) (hA : ∀ p, A = some p → p.block ∉ fp)
    (KA : Option Addr) (kn kc : Nat) (hk : SlAt w KA kn kc (x.keep.map i64v)) (hKA : ∀ p, KA = some p → p.block ∉ fp) (hwk : d.works < 9223372036854775807) :
    Calls Try.prog 39 #[.pointer (some ⟨a, 0, none⟩), x.val, .slice A n c, .slice KA kn kc] w (DvPost w a fp (d.deed x b)) := by
  have hk0 := Kept.alloc [] w (.cells #[.int .i64 x.kind, .int .i64 x.a, .int .i64 x.b, .int .i64 x.short, .slice x.kA x.kn x.kc] 31)
  have hD1 := hD.new_kept hk0
  have hs1 := hs.kept hk0 (by simp)
  have hk1 := hk.kept hk0 (by simp)
  have hkl : x.kn = kn := by have h1 := hk.len; have h2 := hx.sl.len; omega
  have hsm := hx.small
  rw [hkl] at hsm
  have e1 := hx.kind; have e2 := hx.a
  unfold I64 at e1 e2
  have hki := hx.keep
  have cb := fun W => bring_any x.kind 6 W (by omega) (by omega) e1.1 e1.2
  have hd : d.deed x b = if x.kind % 6 = 0 then d.write x.a b else if x.kind % 6 = 1 then d.flush else if x.kind % 6 = 2 then d.crash x.keep else if x.kind % 6 = 3 then d.failAt x.a x.keep else if x.kind % 6 = 4 then d.refuse x.a else (d.boot, 0) := rfl
  have hr0 : 0 ≤ x.kind % 6 := Int.emod_nonneg _ (by omega)
  have hr6 : x.kind % 6 < 6 := Int.emod_lt_of_pos _ (by omega)
  obtain ⟨m, hm⟩ : ∃ m, x.kind % 6 = m := ⟨_, rfl⟩
  simp only [hm] at cb hd hr0 hr6
  rw [hd]
  clear hd hm hx hkl
  unfold DeedR.val
  obtain rfl | rfl | rfl | rfl | rfl | rfl : m = 0 ∨ m = 1 ∨ m = 2 ∨ m = 3 ∨ m = 4 ∨ m = 5 := by omega
  · have cw := write_dv hD1 x.a b A n c hs1 hA hwk
    go_enter Try.func39, Try.ntmps39
    go_wp2_with (go_at_call 22; refine (cb _).mono ?_; rintro e w' ⟨rfl, rfl⟩)
    refine cw.mono ?_
    rintro e w5 hp
    have hp2 := hp.from hk0
    obtain ⟨rfl, _⟩ := hp
    clear cw
    go_wp2_with fail
    go_ret
    exact hp2
  · have cw := flush_dv hD1 hwk
    go_enter Try.func39, Try.ntmps39
    go_wp2_with (go_at_call 22; refine (cb _).mono ?_; rintro e w' ⟨rfl, rfl⟩)
    refine cw.mono ?_
    rintro e w5 hp
    have hp2 := hp.from hk0
    obtain ⟨rfl, _⟩ := hp
    clear cw
    go_wp2_with fail
    go_ret
    exact hp2
  · have cw := crash_dv hD1 KA kn kc x.keep hk1 (fun p hp _ => hKA p hp)
    go_enter Try.func39, Try.ntmps39
    go_wp2_with (go_at_call 22; refine (cb _).mono ?_; rintro e w' ⟨rfl, rfl⟩)
    refine cw.mono ?_
    rintro e w5 hp
    have hp2 := hp.from hk0
    obtain ⟨rfl, _⟩ := hp
    clear cw
    go_wp2_with fail
    go_ret
    exact hp2
  · have cw := fail_dv hD1 x.a e2.1 e2.2 KA kn kc x.keep hk1 (by omega) hki
    go_enter Try.func39, Try.ntmps39
    go_wp2_with (go_at_call 22; refine (cb _).mono ?_; rintro e w' ⟨rfl, rfl⟩)
    refine cw.mono ?_
    rintro e w5 hp
    have hp2 := hp.from hk0
    obtain ⟨rfl, _⟩ := hp
    clear cw
    go_wp2_with fail
    go_ret
    exact hp2
  · have cw := refuse_dv hD1 x.a e2.1 e2.2
    go_enter Try.func39, Try.ntmps39
    go_wp2_with (go_at_call 22; refine (cb _).mono ?_; rintro e w' ⟨rfl, rfl⟩)
    refine cw.mono ?_
    rintro e w5 hp
    have hp2 := hp.from hk0
    obtain ⟨rfl, _⟩ := hp
    clear cw
    go_wp2_with fail
    go_ret
    exact hp2
  · have cw := boot_dv hD1
    go_enter Try.func39, Try.ntmps39
    go_wp2_with (go_at_call 22; refine (cb _).mono ?_; rintro e w' ⟨rfl, rfl⟩)
    refine cw.mono ?_
    rintro e w5 hp
    have hp2 := hp.from hk0
    obtain ⟨rfl, _⟩ := hp
    clear cw
    go_wp2_with fail
    go_ret
    exact hp2
end Go.Proofs.Ytbnflbkaogpnbaa
