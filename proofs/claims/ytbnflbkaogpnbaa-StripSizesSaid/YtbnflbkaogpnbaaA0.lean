/- The chapter's examples: the walk (printed by wip/py/awake10.py). -/
import Derived.Test.YtbnflbkaogpnbaaF0
import Derived.Test.YtbnflbkaogpnbaaP0
namespace Go.Proofs.Ytbnflbkaogpnbaa
open Go.RowKit

theorem full_std (b : Int) (x : UInt8) (h : byteOf b = x) (w : World) : Calls Try.prog 25 #[.int .i64 b, .int .i64 0] w (ClonePost w 5 128 (u8vs (fullB x))) := by
  have := full_any b 0 w
  rw [fullLen_zero, h] at this
  exact this

/-- What was new stays new. -/
theorem news {w wk wk' : World} {fp fp' : List Nat} (hA : Kept [] w wk) (hN : ∀ j ∈ fp, w.heap.size ≤ j) (hk : Kept fp wk wk') (hn : ∀ j ∈ fp', j ∈ fp ∨ wk.heap.size ≤ j) : Kept [] w wk' ∧ ∀ j ∈ fp', w.heap.size ≤ j :=
  ⟨hA.trans' hk (fun i hi => .inr (hN i hi)), fun j hj => by
    rcases hn j hj with h | h
    · exact hN j h
    · exact Nat.le_trans hA.size h⟩

theorem hasB_of {d : Dev} {i b : Int} {x : UInt8} (h1 : d.at_ i = 0) (h2 : byteOf b = x) (h3 : d.secs[i.toNat]? = some (fullB x)) : d.hasB i b = true := by
  have h4 : d.secs[i.toNat]? = some (List.replicate 128 (byteOf b)) := by rw [h2]; exact h3
  unfold Dev.hasB
  rw [decide_eq_true h1, decide_eq_true h4]
  rfl

def TruePost (w : World) (e : Ending) (w' : World) : Prop := e = .returned (.bool true) ∧ Kept [] w w'

set_option maxHeartbeats 4000000 in
set_option maxRecDepth 100000 in
theorem awake10_any (w : World) : Calls Try.prog 29 #[] w (TruePost w) := by
  go_enter Try.func29, Try.ntmps29
  go_wp2_with fail
  refine (new_any 3 _ (by omega) (by omega)).mono ?_
  rintro e w1 ⟨a, f1, rfl, hD1, hA1, hN1⟩
  replace hD1 : Dv w1 a f1 e0 := hD1
  go_wp2_with fail
  refine (full_std 97 97 (by decide) _).mono ?_
  rintro e w2 ⟨A, cc, rfl, hown, hbel⟩
  obtain ⟨hs, hA⟩ := ClonePost.sl hown
  have hO := fun p hp => hD1.old (hA p hp)
  have hk := Kept.of_below (F := []) hbel
  clear hown hbel hA
  have hD2 := hD1.new_kept hk
  have hA2 := hA1.trans hk
  have hN2 := hN1
  clear hk hA1 hN1 hD1
  go_wp2_with fail
  have c := write_dv hD2 0 (fullB 97) A 128 cc hs hO (by decide)
  rw [s1] at c
  refine c.mono ?_
  clear c
  rintro e w3 ⟨rfl, f3, hD3, hk, hn⟩
  obtain ⟨hA3, hN3⟩ := news hA2 hN2 hk hn
  clear hk hn hD2 hA2 hN2
  clear hs hO
  go_wp2_with fail
  refine (full_std 98 98 (by decide) _).mono ?_
  rintro e w4 ⟨A, cc, rfl, hown, hbel⟩
  obtain ⟨hs, hA⟩ := ClonePost.sl hown
  have hO := fun p hp => hD3.old (hA p hp)
  have hk := Kept.of_below (F := []) hbel
  clear hown hbel hA
  have hD4 := hD3.new_kept hk
  have hA4 := hA3.trans hk
  have hN4 := hN3
  clear hk hA3 hN3 hD3
  go_wp2_with fail
  have c := write_dv hD4 2 (fullB 98) A 128 cc hs hO (by decide)
  rw [s2] at c
  refine c.mono ?_
  clear c
  rintro e w5 ⟨rfl, f5, hD5, hk, hn⟩
  obtain ⟨hA5, hN5⟩ := news hA4 hN4 hk hn
  clear hk hn hD4 hA4 hN4
  clear hs hO
  go_wp2_with fail
  have c := flush_dv hD5 (by decide)
  rw [s3] at c
  refine c.mono ?_
  clear c
  rintro e w6 ⟨rfl, f6, hD6, hk, hn⟩
  obtain ⟨hA6, hN6⟩ := news hA5 hN5 hk hn
  clear hk hn hD5 hA5 hN5
  go_wp2_with fail
  refine (full_std 98 98 (by decide) _).mono ?_
  rintro e w7 ⟨A, cc, rfl, hown, hbel⟩
  obtain ⟨hs, hA⟩ := ClonePost.sl hown
  have hO := fun p hp => hD6.old (hA p hp)
  have hk := Kept.of_below (F := []) hbel
  clear hown hbel hA
  have hD7 := hD6.new_kept hk
  have hA7 := hA6.trans hk
  have hN7 := hN6
  clear hk hA6 hN6 hD6
  go_wp2_with fail
  have c := write_dv hD7 0 (fullB 98) A 128 cc hs hO (by decide)
  rw [s4] at c
  refine c.mono ?_
  clear c
  rintro e w8 ⟨rfl, f8, hD8, hk, hn⟩
  obtain ⟨hA8, hN8⟩ := news hA7 hN7 hk hn
  clear hk hn hD7 hA7 hN7
  clear hs hO
  go_wp2_with fail
  refine (full_std 97 97 (by decide) _).mono ?_
  rintro e w9 ⟨A, cc, rfl, hown, hbel⟩
  obtain ⟨hs, hA⟩ := ClonePost.sl hown
  have hO := fun p hp => hD8.old (hA p hp)
  have hk := Kept.of_below (F := []) hbel
  clear hown hbel hA
  have hD9 := hD8.new_kept hk
  have hA9 := hA8.trans hk
  have hN9 := hN8
  clear hk hA8 hN8 hD8
  go_wp2_with fail
  have c := write_dv hD9 2 (fullB 97) A 128 cc hs hO (by decide)
  rw [s5] at c
  refine c.mono ?_
  clear c
  rintro e w10 ⟨rfl, f10, hD10, hk, hn⟩
  obtain ⟨hA10, hN10⟩ := news hA9 hN9 hk hn
  clear hk hn hD9 hA9 hN9
  clear hs hO
  obtain ⟨w11, hW⟩ : ∃ W, w10.alloc (.cells #[.int .i64 0, .int .i64 1] 3) = W := ⟨_, rfl⟩
  have hown : (w10.alloc (.cells #[.int .i64 0, .int .i64 1] 3)).ownsRow w10.heap.size 3 1 (.slice (some ⟨w10.heap.size, 0, none⟩) 2 2) 2 (List.map i64v [0, 1]) := World.ownsRow_lit w10 #[.int .i64 0, .int .i64 1] 2 (Nat.le_refl _) (by unfold maxLen; omega) rfl
  obtain ⟨hs, hA⟩ := ClonePost.sl hown
  have hO := fun p hp => hD10.old (hA p hp)
  have hk := Kept.alloc [] w10 (.cells #[.int .i64 0, .int .i64 1] 3)
  rw [hW] at hs hk
  clear hown hA
  have hD11 := hD10.new_kept hk
  have hA11 := hA10.trans hk
  have hN11 := hN10
  clear hk hA10 hN10 hD10
  go_wp2_with fail
  have c := crash_dv hD11 _ 2 2 [0, 1] hs (fun p hp _ => hO p hp)
  rw [s6] at c
  refine c.mono ?_
  clear c
  rintro e w12 ⟨rfl, f12, hD12, hk, hn⟩
  obtain ⟨hA12, hN12⟩ := news hA11 hN11 hk hn
  clear hk hn hD11 hA11 hN11
  clear hs hO hW
  go_wp2_with fail
  have c := read_bad hD12 0 (by decide)
  rw [show e6.at_ 0 = 100 from rfl] at c
  refine c.mono ?_
  clear c
  rintro e w0 ⟨rfl, rfl⟩
  go_wp2_with fail
  have c := boot_dv hD12
  rw [s7] at c
  refine c.mono ?_
  clear c
  rintro e w13 ⟨rfl, f13, hD13, hk, hn⟩
  obtain ⟨hA13, hN13⟩ := news hA12 hN12 hk hn
  clear hk hn hD12 hA12 hN12
  go_wp2_with fail
  have c := has_dv hD13 0 97
  rw [hasB_of (x := 97) rfl (by decide) rfl] at c
  refine c.mono ?_
  clear c
  rintro e w14 ⟨rfl, hk⟩
  have hD14 := hD13.new_kept hk
  have hA14 := hA13.trans hk
  have hN14 := hN13
  clear hk hA13 hN13 hD13
  go_wp2_with fail
  have c := has_dv hD14 1 0
  rw [hasB_of (x := 0) rfl (by decide) rfl] at c
  refine c.mono ?_
  clear c
  rintro e w15 ⟨rfl, hk⟩
  have hD15 := hD14.new_kept hk
  have hA15 := hA14.trans hk
  have hN15 := hN14
  clear hk hA14 hN14 hD14
  go_wp2_with fail
  have c := has_dv hD15 2 97
  rw [hasB_of (x := 97) rfl (by decide) rfl] at c
  refine c.mono ?_
  clear c
  rintro e w16 ⟨rfl, hk⟩
  have hD16 := hD15.new_kept hk
  have hA16 := hA15.trans hk
  have hN16 := hN15
  clear hk hA15 hN15 hD15
  go_wp2_with fail
  refine (new_bad 0 _ (by omega)).mono ?_
  rintro e w0 ⟨rfl, rfl⟩
  go_wp2_with fail
  refine (full_std 97 97 (by decide) _).mono ?_
  rintro e w17 ⟨A, cc, rfl, hown, hbel⟩
  obtain ⟨hs, hA⟩ := ClonePost.sl hown
  have hO := fun p hp => hD16.old (hA p hp)
  have hk := Kept.of_below (F := []) hbel
  clear hown hbel hA
  have hD17 := hD16.new_kept hk
  have hA17 := hA16.trans hk
  have hN17 := hN16
  clear hk hA16 hN16 hD16
  go_wp2_with fail
  have c := write_dv hD17 3 (fullB 97) A 128 cc hs hO (by decide)
  rw [s8] at c
  refine c.mono ?_
  clear c
  rintro e w18 ⟨rfl, f18, hD18, hk, hn⟩
  obtain ⟨hA18, hN18⟩ := news hA17 hN17 hk hn
  clear hk hn hD17 hA17 hN17
  clear hs hO
  go_wp2_with fail
  have c := write_dv hD18 0 [] .none 0 0 (SlAt.nil _) (by simp) (by decide)
  rw [s9] at c
  refine c.mono ?_
  clear c
  rintro e w19 ⟨rfl, f19, hD19, hk, hn⟩
  obtain ⟨hA19, hN19⟩ := news hA18 hN18 hk hn
  clear hk hn hD18 hA18 hN18
  obtain ⟨w20, hW⟩ : ∃ W, w19.alloc (.cells #[.int .i64 1] 3) = W := ⟨_, rfl⟩
  have hown : (w19.alloc (.cells #[.int .i64 1] 3)).ownsRow w19.heap.size 3 1 (.slice (some ⟨w19.heap.size, 0, none⟩) 1 1) 1 (List.map i64v [1]) := World.ownsRow_lit w19 #[.int .i64 1] 1 (Nat.le_refl _) (by unfold maxLen; omega) rfl
  obtain ⟨hs, hA⟩ := ClonePost.sl hown
  have hO := fun p hp => hD19.old (hA p hp)
  have hk := Kept.alloc [] w19 (.cells #[.int .i64 1] 3)
  rw [hW] at hs hk
  clear hown hA
  have hD20 := hD19.new_kept hk
  have hA20 := hA19.trans hk
  have hN20 := hN19
  clear hk hA19 hN19 hD19
  go_wp2_with fail
  have c := fail_dv hD20 0 (by omega) (by omega) _ 1 1 [1] hs (by omega) (by simp)
  rw [s10] at c
  refine c.mono ?_
  clear c
  rintro e w21 ⟨rfl, f21, hD21, hk, hn⟩
  obtain ⟨hA21, hN21⟩ := news hA20 hN20 hk hn
  clear hk hn hD20 hA20 hN20
  clear hs hO hW
  go_wp2_with fail
  refine (full_std 97 97 (by decide) _).mono ?_
  rintro e w22 ⟨A, cc, rfl, hown, hbel⟩
  obtain ⟨hs, hA⟩ := ClonePost.sl hown
  have hO := fun p hp => hD21.old (hA p hp)
  have hk := Kept.of_below (F := []) hbel
  clear hown hbel hA
  have hD22 := hD21.new_kept hk
  have hA22 := hA21.trans hk
  have hN22 := hN21
  clear hk hA21 hN21 hD21
  go_wp2_with fail
  have c := write_dv hD22 1 (fullB 97) A 128 cc hs hO (by decide)
  rw [s11] at c
  refine c.mono ?_
  clear c
  rintro e w23 ⟨rfl, f23, hD23, hk, hn⟩
  obtain ⟨hA23, hN23⟩ := news hA22 hN22 hk hn
  clear hk hn hD22 hA22 hN22
  clear hs hO
  go_wp2_with fail
  have c := boot_dv hD23
  rw [s12] at c
  refine c.mono ?_
  clear c
  rintro e w24 ⟨rfl, f24, hD24, hk, hn⟩
  obtain ⟨hA24, hN24⟩ := news hA23 hN23 hk hn
  clear hk hn hD23 hA23 hN23
  go_wp2_with fail
  have c := has_dv hD24 1 97
  rw [hasB_of (x := 97) rfl (by decide) rfl] at c
  refine c.mono ?_
  clear c
  rintro e w25 ⟨rfl, hk⟩
  have hD25 := hD24.new_kept hk
  have hA25 := hA24.trans hk
  have hN25 := hN24
  clear hk hA24 hN24 hD24
  go_wp2_with fail
  have c := refuse_dv hD25 1 (by omega) (by omega)
  rw [s13] at c
  refine c.mono ?_
  clear c
  rintro e w26 ⟨rfl, f26, hD26, hk, hn⟩
  obtain ⟨hA26, hN26⟩ := news hA25 hN25 hk hn
  clear hk hn hD25 hA25 hN25
  go_wp2_with fail
  refine (full_std 98 98 (by decide) _).mono ?_
  rintro e w27 ⟨A, cc, rfl, hown, hbel⟩
  obtain ⟨hs, hA⟩ := ClonePost.sl hown
  have hO := fun p hp => hD26.old (hA p hp)
  have hk := Kept.of_below (F := []) hbel
  clear hown hbel hA
  have hD27 := hD26.new_kept hk
  have hA27 := hA26.trans hk
  have hN27 := hN26
  clear hk hA26 hN26 hD26
  go_wp2_with fail
  have c := write_dv hD27 1 (fullB 98) A 128 cc hs hO (by decide)
  rw [s14] at c
  refine c.mono ?_
  clear c
  rintro e w28 ⟨rfl, f28, hD28, hk, hn⟩
  obtain ⟨hA28, hN28⟩ := news hA27 hN27 hk hn
  clear hk hn hD27 hA27 hN27
  clear hs hO
  go_wp2_with fail
  have c := flush_dv hD28 (by decide)
  rw [s15] at c
  refine c.mono ?_
  clear c
  rintro e w29 ⟨rfl, f29, hD29, hk, hn⟩
  obtain ⟨hA29, hN29⟩ := news hA28 hN28 hk hn
  clear hk hn hD28 hA28 hN28
  go_wp2_with fail
  have c := refuse_dv hD29 (-1) (by omega) (by omega)
  rw [s16] at c
  refine c.mono ?_
  clear c
  rintro e w30 ⟨rfl, f30, hD30, hk, hn⟩
  obtain ⟨hA30, hN30⟩ := news hA29 hN29 hk hn
  clear hk hn hD29 hA29 hN29
  go_wp2_with fail
  have c := flush_dv hD30 (by decide)
  rw [s17] at c
  refine c.mono ?_
  clear c
  rintro e w31 ⟨rfl, f31, hD31, hk, hn⟩
  obtain ⟨hA31, hN31⟩ := news hA30 hN30 hk hn
  clear hk hn hD30 hA30 hN30
  go_wp2_with fail
  go_ret
  exact ⟨rfl, hA31⟩
end Go.Proofs.Ytbnflbkaogpnbaa
