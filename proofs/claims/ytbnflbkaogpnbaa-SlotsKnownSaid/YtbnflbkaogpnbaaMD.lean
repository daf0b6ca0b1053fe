/- Texts in one: P0 A0 P1 C0 P2. -/
import Derived.Test.YtbnflbkaogpnbaaMA
import Derived.Test.YtbnflbkaogpnbaaMC
/- The chapter's examples, on the plain model. -/
namespace Go.Proofs.Ytbnflbkaogpnbaa

theorem keys_two (d : Dev) (b c : Blk) (h : d.sure = [(0, b), (2, c)]) : d.keys = [0, 2] := by
  unfold Dev.keys
  rw [h]
  exact List.mergeSort_of_pairwise (by simp)
theorem keys_one (d : Dev) (i : Nat) (b : Blk) (h : d.sure = [(i, b)]) : d.keys = [i] := by
  unfold Dev.keys
  rw [h]
  exact List.mergeSort_of_pairwise (by simp)

/-- A sector full of one byte. -/
def fullB (x : UInt8) : Blk := List.replicate 128 x
theorem length_fullB (x : UInt8) : (fullB x).length = 128 := by simp [fullB]

def e0 : Dev := Dev.new 3
def e1 : Dev := ⟨[fullB 97, zeros, zeros], [(0, zeros)], -1, [], -1, 1, false⟩
def e2 : Dev := ⟨[fullB 97, zeros, fullB 98], [(0, zeros), (2, zeros)], -1, [], -1, 2, false⟩
def e3 : Dev := ⟨[fullB 97, zeros, fullB 98], [], -1, [], -1, 3, false⟩
def e4 : Dev := ⟨[fullB 98, zeros, fullB 98], [(0, fullB 97)], -1, [], -1, 4, false⟩
def e5 : Dev := ⟨[fullB 98, zeros, fullB 97], [(0, fullB 97), (2, fullB 98)], -1, [], -1, 5, false⟩
def e6 : Dev := ⟨[fullB 97, zeros, fullB 97], [], -1, [], -1, 5, true⟩
def e7 : Dev := ⟨[fullB 97, zeros, fullB 97], [], -1, [], -1, 5, false⟩
def e8 : Dev := ⟨[fullB 97, zeros, fullB 97], [], 0, [1], -1, 5, false⟩
def e9 : Dev := ⟨[fullB 97, fullB 97, fullB 97], [], -1, [1], -1, 5, true⟩
def e10 : Dev := ⟨[fullB 97, fullB 97, fullB 97], [], -1, [1], -1, 5, false⟩
def e11 : Dev := ⟨[fullB 97, fullB 97, fullB 97], [], -1, [1], 1, 5, false⟩
def e12 : Dev := ⟨[fullB 97, fullB 98, fullB 97], [(1, fullB 97)], -1, [1], 0, 6, false⟩
def e13 : Dev := ⟨[fullB 97, fullB 98, fullB 97], [(1, fullB 97)], -1, [1], -1, 6, false⟩
def e14 : Dev := ⟨[fullB 97, fullB 98, fullB 97], [], -1, [1], -1, 7, false⟩

theorem write_ok {d : Dev} {i : Int} {b : Blk} (h1 : d.at_ i = 0) (h2 : b.length = 128) (h3 : d.till ≠ 0) (h4 : d.fail ≠ 0) : d.write i b = ((d.midst i.toNat b).counted, 0) := by
  simp [Dev.write, h1, h2, h3, h4]
theorem write_falls {d : Dev} {i : Int} {b : Blk} (h1 : d.at_ i = 0) (h2 : b.length = 128) (h3 : d.till ≠ 0) (h4 : d.fail = 0) : d.write i b = ((d.midst i.toNat b).gone d.keep, 100) := by
  simp [Dev.write, h1, h2, h3, h4]

theorem s1 : e0.write 0 (fullB 97) = (e1, 0) := by rw [write_ok rfl (length_fullB _) (by decide) (by decide)]; rfl
theorem s2 : e1.write 2 (fullB 98) = (e2, 0) := by rw [write_ok rfl (length_fullB _) (by decide) (by decide)]; rfl
theorem s3 : e2.flush = (e3, 0) := rfl
theorem s4 : e3.write 0 (fullB 98) = (e4, 0) := by rw [write_ok rfl (length_fullB _) (by decide) (by decide)]; rfl
theorem s5 : e4.write 2 (fullB 97) = (e5, 0) := by rw [write_ok rfl (length_fullB _) (by decide) (by decide)]; rfl
theorem s6 : e5.crash [0, 1] = (e6, 0) := by
  show (e5.gone [0, 1], (0 : Int)) = (e6, 0)
  unfold Dev.gone
  rw [keys_two e5 (fullB 97) (fullB 98) rfl]
  rfl
theorem s7 : e6.boot = e7 := rfl
theorem s8 : e7.write 3 (fullB 97) = (e7, 9) := rfl
theorem s9 : e7.write 0 [] = (e7, 2) := rfl
theorem s10 : e7.failAt 0 [1] = (e8, 0) := rfl
theorem s11 : e8.write 1 (fullB 97) = (e9, 100) := by
  rw [write_falls rfl (length_fullB _) (by decide) (by decide)]
  show ((e8.midst 1 (fullB 97)).gone [1], (100 : Int)) = (e9, 100)
  unfold Dev.gone
  rw [keys_one (e8.midst 1 (fullB 97)) 1 zeros rfl]
  rfl
theorem s12 : e9.boot = e10 := rfl
theorem s13 : e10.refuse 1 = (e11, 0) := rfl
theorem s14 : e11.write 1 (fullB 98) = (e12, 0) := by rw [write_ok rfl (length_fullB _) (by decide) (by decide)]; rfl
theorem s15 : e12.flush = (e12, 101) := rfl
theorem s16 : e12.refuse (-1) = (e13, 0) := rfl
theorem s17 : e13.flush = (e14, 0) := rfl
end Go.Proofs.Ytbnflbkaogpnbaa

/- The chapter's examples: the walk (printed by wip/py/awake10.py). -/
namespace Go.Proofs.Ytbnflbkaogpnbaa
open Go.RowKit

theorem full_std (b : Int) (x : UInt8) (h : byteOf b = x) (w : World) : Calls Try.prog 25 #[.int .i64 b, .int .i64 0] w (ClonePost w 5 128 (u8vs (fullB x))) := by
  have := full_any b 0 w
  rw [fullLen_zero, h] at this
  exact this

/-- What was new stays new. -/
theorem news {w wk wk' : World} {fp fp' : List Nat} (hA : Kept [] w wk) (hN : ∀ j ∈ fp, w.heap.size ≤ j) (hk : Kept fp wk wk') (hn : ∀ j ∈ fp', j ∈ fp ∨ wk.heap.size ≤ j) : Kept [] w wk' ∧ ∀ j ∈ fp', w.heap.size ≤ j :=
  ⟨hA.trans' hk (fun i hi => .inr (hN i hi)), fun j hj => by
    rcases hn j hj with h | h
    · exact hN j h
    · exact Nat.le_trans hA.size h⟩

theorem hasB_of {d : Dev} {i b : Int} {x : UInt8} (h1 : d.at_ i = 0) (h2 : byteOf b = x) (h3 : d.secs[i.toNat]? = some (fullB x)) : d.hasB i b = true := by
  have h4 : d.secs[i.toNat]? = some (List.replicate 128 (byteOf b)) := by rw [h2]; exact h3
  unfold Dev.hasB
  rw [decide_eq_true h1, decide_eq_true h4]
  rfl

def TruePost (w : World) (e : Ending) (w' : World) : Prop := e = .returned (.bool true) ∧ Kept [] w w'

set_option maxHeartbeats 4000000 in
set_option maxRecDepth 100000 in
theorem awake10_any (w : World) : Calls Try.prog 29 #[] w (TruePost w) := by
  go_enter Try.func29, Try.ntmps29
  go_wp2_with fail
  refine (new_any 3 _ (by omega) (by omega)).mono ?_
  rintro e w1 ⟨a, f1, rfl, hD1, hA1, hN1⟩
  replace hD1 : Dv w1 a f1 e0 := hD1
  go_wp2_with fail
  refine (full_std 97 97 (by decide) _).mono ?_
  rintro e w2 ⟨A, cc, rfl, hown, hbel⟩
  obtain ⟨hs, hA⟩ := ClonePost.sl hown
  have hO := fun p hp => hD1.old (hA p hp)
  have hk := Kept.of_below (F := []) hbel
  clear hown hbel hA
  have hD2 := hD1.new_kept hk
  have hA2 := hA1.trans hk
  have hN2 := hN1
  clear hk hA1 hN1 hD1
  go_wp2_with fail
  have c := write_dv hD2 0 (fullB 97) A 128 cc hs hO (by decide)
  rw [s1] at c
  refine c.mono ?_
  clear c
  rintro e w3 ⟨rfl, f3, hD3, hk, hn⟩
  obtain ⟨hA3, hN3⟩ := news hA2 hN2 hk hn
  clear hk hn hD2 hA2 hN2
  clear hs hO
  go_wp2_with fail
  refine (full_std 98 98 (by decide) _).mono ?_
  rintro e w4 ⟨A, cc, rfl, hown, hbel⟩
  obtain ⟨hs, hA⟩ := ClonePost.sl hown
  have hO := fun p hp => hD3.old (hA p hp)
  have hk := Kept.of_below (F := []) hbel
  clear hown hbel hA
  have hD4 := hD3.new_kept hk
  have hA4 := hA3.trans hk
  have hN4 := hN3
  clear hk hA3 hN3 hD3
  go_wp2_with fail
  have c := write_dv hD4 2 (fullB 98) A 128 cc hs hO (by decide)
  rw [s2] at c
  refine c.mono ?_
  clear c
  rintro e w5 ⟨rfl, f5, hD5, hk, hn⟩
  obtain ⟨hA5, hN5⟩ := news hA4 hN4 hk hn
  clear hk hn hD4 hA4 hN4
  clear hs hO
  go_wp2_with fail
  have c := flush_dv hD5 (by decide)
  rw [s3] at c
  refine c.mono ?_
  clear c
  rintro e w6 ⟨rfl, f6, hD6, hk, hn⟩
  obtain ⟨hA6, hN6⟩ := news hA5 hN5 hk hn
  clear hk hn hD5 hA5 hN5
  go_wp2_with fail
  refine (full_std 98 98 (by decide) _).mono ?_
  rintro e w7 ⟨A, cc, rfl, hown, hbel⟩
  obtain ⟨hs, hA⟩ := ClonePost.sl hown
  have hO := fun p hp => hD6.old (hA p hp)
  have hk := Kept.of_below (F := []) hbel
  clear hown hbel hA
  have hD7 := hD6.new_kept hk
  have hA7 := hA6.trans hk
  have hN7 := hN6
  clear hk hA6 hN6 hD6
  go_wp2_with fail
  have c := write_dv hD7 0 (fullB 98) A 128 cc hs hO (by decide)
  rw [s4] at c
  refine c.mono ?_
  clear c
  rintro e w8 ⟨rfl, f8, hD8, hk, hn⟩
  obtain ⟨hA8, hN8⟩ := news hA7 hN7 hk hn
  clear hk hn hD7 hA7 hN7
  clear hs hO
  go_wp2_with fail
  refine (full_std 97 97 (by decide) _).mono ?_
  rintro e w9 ⟨A, cc, rfl, hown, hbel⟩
  obtain ⟨hs, hA⟩ := ClonePost.sl hown
  have hO := fun p hp => hD8.old (hA p hp)
  have hk := Kept.of_below (F := []) hbel
  clear hown hbel hA
  have hD9 := hD8.new_kept hk
  have hA9 := hA8.trans hk
  have hN9 := hN8
  clear hk hA8 hN8 hD8
  go_wp2_with fail
  have c := write_dv hD9 2 (fullB 97) A 128 cc hs hO (by decide)
  rw [s5] at c
  refine c.mono ?_
  clear c
  rintro e w10 ⟨rfl, f10, hD10, hk, hn⟩
  obtain ⟨hA10, hN10⟩ := news hA9 hN9 hk hn
  clear hk hn hD9 hA9 hN9
  clear hs hO
  obtain ⟨w11, hW⟩ : ∃ W, w10.alloc (.cells #[.int .i64 0, .int .i64 1] 3) = W := ⟨_, rfl⟩
  have hown : (w10.alloc (.cells #[.int .i64 0, .int .i64 1] 3)).ownsRow w10.heap.size 3 1 (.slice (some ⟨w10.heap.size, 0, none⟩) 2 2) 2 (List.map i64v [0, 1]) := World.ownsRow_lit w10 #[.int .i64 0, .int .i64 1] 2 (Nat.le_refl _) (by unfold maxLen; omega) rfl
  obtain ⟨hs, hA⟩ := ClonePost.sl hown
  have hO := fun p hp => hD10.old (hA p hp)
  have hk := Kept.alloc [] w10 (.cells #[.int .i64 0, .int .i64 1] 3)
  rw [hW] at hs hk
  clear hown hA
  have hD11 := hD10.new_kept hk
  have hA11 := hA10.trans hk
  have hN11 := hN10
  clear hk hA10 hN10 hD10
  go_wp2_with fail
  have c := crash_dv hD11 _ 2 2 [0, 1] hs (fun p hp _ => hO p hp)
  rw [s6] at c
  refine c.mono ?_
  clear c
  rintro e w12 ⟨rfl, f12, hD12, hk, hn⟩
  obtain ⟨hA12, hN12⟩ := news hA11 hN11 hk hn
  clear hk hn hD11 hA11 hN11
  clear hs hO hW
  go_wp2_with fail
  have c := read_bad hD12 0 (by decide)
  rw [show e6.at_ 0 = 100 from rfl] at c
  refine c.mono ?_
  clear c
  rintro e w0 ⟨rfl, rfl⟩
  go_wp2_with fail
  have c := boot_dv hD12
  rw [s7] at c
  refine c.mono ?_
  clear c
  rintro e w13 ⟨rfl, f13, hD13, hk, hn⟩
  obtain ⟨hA13, hN13⟩ := news hA12 hN12 hk hn
  clear hk hn hD12 hA12 hN12
  go_wp2_with fail
  have c := has_dv hD13 0 97
  rw [hasB_of (x := 97) rfl (by decide) rfl] at c
  refine c.mono ?_
  clear c
  rintro e w14 ⟨rfl, hk⟩
  have hD14 := hD13.new_kept hk
  have hA14 := hA13.trans hk
  have hN14 := hN13
  clear hk hA13 hN13 hD13
  go_wp2_with fail
  have c := has_dv hD14 1 0
  rw [hasB_of (x := 0) rfl (by decide) rfl] at c
  refine c.mono ?_
  clear c
  rintro e w15 ⟨rfl, hk⟩
  have hD15 := hD14.new_kept hk
  have hA15 := hA14.trans hk
  have hN15 := hN14
  clear hk hA14 hN14 hD14
  go_wp2_with fail
  have c := has_dv hD15 2 97
  rw [hasB_of (x := 97) rfl (by decide) rfl] at c
  refine c.mono ?_
  clear c
  rintro e w16 ⟨rfl, hk⟩
  have hD16 := hD15.new_kept hk
  have hA16 := hA15.trans hk
  have hN16 := hN15
  clear hk hA15 hN15 hD15
  go_wp2_with fail
  refine (new_bad 0 _ (by omega)).mono ?_
  rintro e w0 ⟨rfl, rfl⟩
  go_wp2_with fail
  refine (full_std 97 97 (by decide) _).mono ?_
  rintro e w17 ⟨A, cc, rfl, hown, hbel⟩
  obtain ⟨hs, hA⟩ := ClonePost.sl hown
  have hO := fun p hp => hD16.old (hA p hp)
  have hk := Kept.of_below (F := []) hbel
  clear hown hbel hA
  have hD17 := hD16.new_kept hk
  have hA17 := hA16.trans hk
  have hN17 := hN16
  clear hk hA16 hN16 hD16
  go_wp2_with fail
  have c := write_dv hD17 3 (fullB 97) A 128 cc hs hO (by decide)
  rw [s8] at c
  refine c.mono ?_
  clear c
  rintro e w18 ⟨rfl, f18, hD18, hk, hn⟩
  obtain ⟨hA18, hN18⟩ := news hA17 hN17 hk hn
  clear hk hn hD17 hA17 hN17
  clear hs hO
  go_wp2_with fail
  have c := write_dv hD18 0 [] .none 0 0 (SlAt.nil _) (by simp) (by decide)
  rw [s9] at c
  refine c.mono ?_
  clear c
  rintro e w19 ⟨rfl, f19, hD19, hk, hn⟩
  obtain ⟨hA19, hN19⟩ := news hA18 hN18 hk hn
  clear hk hn hD18 hA18 hN18
  obtain ⟨w20, hW⟩ : ∃ W, w19.alloc (.cells #[.int .i64 1] 3) = W := ⟨_, rfl⟩
  have hown : (w19.alloc (.cells #[.int .i64 1] 3)).ownsRow w19.heap.size 3 1 (.slice (some ⟨w19.heap.size, 0, none⟩) 1 1) 1 (List.map i64v [1]) := World.ownsRow_lit w19 #[.int .i64 1] 1 (Nat.le_refl _) (by unfold maxLen; omega) rfl
  obtain ⟨hs, hA⟩ := ClonePost.sl hown
  have hO := fun p hp => hD19.old (hA p hp)
  have hk := Kept.alloc [] w19 (.cells #[.int .i64 1] 3)
  rw [hW] at hs hk
  clear hown hA
  have hD20 := hD19.new_kept hk
  have hA20 := hA19.trans hk
  have hN20 := hN19
  clear hk hA19 hN19 hD19
  go_wp2_with fail
  have c := fail_dv hD20 0 (by omega) (by omega) _ 1 1 [1] hs (by omega) (by simp)
  rw [s10] at c
  refine c.mono ?_
  clear c
  rintro e w21 ⟨rfl, f21, hD21, hk, hn⟩
  obtain ⟨hA21, hN21⟩ := news hA20 hN20 hk hn
  clear hk hn hD20 hA20 hN20
  clear hs hO hW
  go_wp2_with fail
  refine (full_std 97 97 (by decide) _).mono ?_
  rintro e w22 ⟨A, cc, rfl, hown, hbel⟩
  obtain ⟨hs, hA⟩ := ClonePost.sl hown
  have hO := fun p hp => hD21.old (hA p hp)
  have hk := Kept.of_below (F := []) hbel
  clear hown hbel hA
  have hD22 := hD21.new_kept hk
  have hA22 := hA21.trans hk
  have hN22 := hN21
  clear hk hA21 hN21 hD21
  go_wp2_with fail
  have c := write_dv hD22 1 (fullB 97) A 128 cc hs hO (by decide)
  rw [s11] at c
  refine c.mono ?_
  clear c
  rintro e w23 ⟨rfl, f23, hD23, hk, hn⟩
  obtain ⟨hA23, hN23⟩ := news hA22 hN22 hk hn
  clear hk hn hD22 hA22 hN22
  clear hs hO
  go_wp2_with fail
  have c := boot_dv hD23
  rw [s12] at c
  refine c.mono ?_
  clear c
  rintro e w24 ⟨rfl, f24, hD24, hk, hn⟩
  obtain ⟨hA24, hN24⟩ := news hA23 hN23 hk hn
  clear hk hn hD23 hA23 hN23
  go_wp2_with fail
  have c := has_dv hD24 1 97
  rw [hasB_of (x := 97) rfl (by decide) rfl] at c
  refine c.mono ?_
  clear c
  rintro e w25 ⟨rfl, hk⟩
  have hD25 := hD24.new_kept hk
  have hA25 := hA24.trans hk
  have hN25 := hN24
  clear hk hA24 hN24 hD24
  go_wp2_with fail
  have c := refuse_dv hD25 1 (by omega) (by omega)
  rw [s13] at c
  refine c.mono ?_
  clear c
  rintro e w26 ⟨rfl, f26, hD26, hk, hn⟩
  obtain ⟨hA26, hN26⟩ := news hA25 hN25 hk hn
  clear hk hn hD25 hA25 hN25
  go_wp2_with fail
  refine (full_std 98 98 (by decide) _).mono ?_
  rintro e w27 ⟨A, cc, rfl, hown, hbel⟩
  obtain ⟨hs, hA⟩ := ClonePost.sl hown
  have hO := fun p hp => hD26.old (hA p hp)
  have hk := Kept.of_below (F := []) hbel
  clear hown hbel hA
  have hD27 := hD26.new_kept hk
  have hA27 := hA26.trans hk
  have hN27 := hN26
  clear hk hA26 hN26 hD26
  go_wp2_with fail
  have c := write_dv hD27 1 (fullB 98) A 128 cc hs hO (by decide)
  rw [s14] at c
  refine c.mono ?_
  clear c
  rintro e w28 ⟨rfl, f28, hD28, hk, hn⟩
  obtain ⟨hA28, hN28⟩ := news hA27 hN27 hk hn
  clear hk hn hD27 hA27 hN27
  clear hs hO
  go_wp2_with fail
  have c := flush_dv hD28 (by decide)
  rw [s15] at c
  refine c.mono ?_
  clear c
  rintro e w29 ⟨rfl, f29, hD29, hk, hn⟩
  obtain ⟨hA29, hN29⟩ := news hA28 hN28 hk hn
  clear hk hn hD28 hA28 hN28
  go_wp2_with fail
  have c := refuse_dv hD29 (-1) (by omega) (by omega)
  rw [s16] at c
  refine c.mono ?_
  clear c
  rintro e w30 ⟨rfl, f30, hD30, hk, hn⟩
  obtain ⟨hA30, hN30⟩ := news hA29 hN29 hk hn
  clear hk hn hD29 hA29 hN29
  go_wp2_with fail
  have c := flush_dv hD30 (by decide)
  rw [s17] at c
  refine c.mono ?_
  clear c
  rintro e w31 ⟨rfl, f31, hD31, hk, hn⟩
  obtain ⟨hA31, hN31⟩ := news hA30 hN30 hk hn
  clear hk hn hD30 hA30 hN30
  go_wp2_with fail
  go_ret
  exact ⟨rfl, hA31⟩
end Go.Proofs.Ytbnflbkaogpnbaa

/- SectorKeeps, on the plain model. -/
namespace Go.Proofs.Ytbnflbkaogpnbaa

theorem backs_at (keep : List Int) (f : Nat → Blk) (i : Nat) : ∀ (r : List Nat) (k : Nat) (s : List Blk), (Dev.backs keep f k r s)[i]? = s[i]? ∨ (i ∈ r ∧ (Dev.backs keep f k r s)[i]? = some (f i)) := by
  intro r
  induction r with
  | nil => intro k s; exact .inl rfl
  | cons x r ih =>
    intro k s
    rw [Dev.backs]
    rcases ih (k + 1) (if Dev.lost keep k then s.set x (f x) else s) with h | ⟨h1, h2⟩
    · rw [h]
      split
      · by_cases hx : x = i
        · subst hx
          by_cases hl : x < s.length
          · right; exact ⟨List.mem_cons_self, by rw [List.getElem?_set_self hl]⟩
          · left; rw [List.getElem?_eq_none (by simp; omega), List.getElem?_eq_none (by omega)]
        · left; rw [List.getElem?_set_ne hx]
      · exact .inl rfl
    · exact .inr ⟨List.mem_cons_of_mem _ h1, h2⟩

/-- What a device has behind k deeds, of which each counts: what was written last, and what was sure. -/
structure KInv (k : Nat) (d : Dev) (now sure : List UInt8) : Prop where
  len : now.length = 6
  slen : sure.length = 6
  secs : d.secs = now.map fullB
  dead : d.dead = false
  fail : d.fail = -1
  till : d.till = -1
  works : d.works ≤ k
  had : ∀ i b, Dev.look d.sure i = some b → b = fullB (sure[i]?.getD 0)
  same : ∀ i, i < 6 → Dev.look d.sure i = none → now[i]?.getD 0 = sure[i]?.getD 0

theorem fullB_zero : zeros = fullB 0 := rfl

theorem KInv.start : KInv 0 (Dev.new 6) (List.replicate 6 0) (List.replicate 6 0) where
  len := rfl
  slen := rfl
  secs := rfl
  dead := rfl
  fail := rfl
  till := rfl
  works := Int.le_refl _
  had := fun i b h => by simp [Dev.new, Dev.look] at h
  same := fun i _ _ => rfl

theorem KInv.flush {k : Nat} {d : Dev} {now sure : List UInt8} (h : KInv k d now sure) : ∃ d', d.flush = (d', 0) ∧ KInv (k + 1) d' now now := by
  refine ⟨{ d with sure := [] }.counted, by simp [Dev.flush, h.dead, h.fail, h.till], ?_⟩
  exact ⟨h.len, h.len, h.secs, h.dead, by show max (d.fail - 1) (-1) = -1; rw [h.fail]; decide, by show max (d.till - 1) (-1) = -1; rw [h.till]; decide, by have := h.works; simp only [Dev.counted]; omega, fun i b hb => by simp [Dev.counted, Dev.look] at hb, fun _ _ _ => rfl⟩

theorem look_append (s : List (Nat × Blk)) (i j : Nat) (b : Blk) (h : Dev.look s i = none) : Dev.look (s ++ [(i, b)]) j = if j = i then some b else Dev.look s j := by
  unfold Dev.look at h ⊢
  rw [List.find?_append]
  by_cases hj : j = i
  · subst hj
    simp only [Option.map_eq_none_iff] at h
    simp [h]
  · have : ¬ i = j := fun e => hj e.symm
    simp [hj, this]

theorem KInv.at_zero {k : Nat} {d : Dev} {now sure : List UInt8} (h : KInv k d now sure) {i : Nat} (hi : i < 6) : d.at_ (i : Int) = 0 := by
  have : d.secs.length = 6 := by rw [h.secs]; simpa using h.len
  simp [Dev.at_, h.dead]
  omega

theorem KInv.write {k : Nat} {d : Dev} {now sure : List UInt8} (h : KInv k d now sure) {i : Nat} (hi : i < 6) (x : UInt8) : ∃ d', d.write (i : Int) (fullB x) = (d', 0) ∧ KInv (k + 1) d' (now.set i x) sure := by
  have hw := write_ok (d := d) (i := (i : Int)) (b := fullB x) (h.at_zero hi) (length_fullB x) (by rw [h.till]; decide) (by rw [h.fail]; decide)
  refine ⟨_, hw, ?_⟩
  simp only [Int.toNat_natCast]
  have hn : now[i]? = some (now[i]?.getD 0) := by rw [List.getElem?_eq_getElem (by rw [h.len]; exact hi)]; rfl
  have hs : d.secs[i]? = some (fullB (now[i]?.getD 0)) := by rw [h.secs, List.getElem?_map, hn]; rfl
  refine ⟨by simpa using h.len, h.slen, ?_, h.dead, by show max (d.fail - 1) (-1) = -1; rw [h.fail]; decide, by show max (d.till - 1) (-1) = -1; rw [h.till]; decide, by have := h.works; simp only [Dev.counted, Dev.midst]; omega, ?_, ?_⟩
  · simp only [Dev.counted, Dev.midst, h.secs, List.map_set]
  · intro j b hb
    simp only [Dev.counted, Dev.midst] at hb
    split at hb
    · exact h.had j b hb
    · rename_i hnone
      have hnone' : Dev.look d.sure i = none := by
        cases hl : Dev.look d.sure i with
        | none => rfl
        | some v => rw [hl] at hnone; simp at hnone
      rw [look_append _ _ _ _ hnone'] at hb
      split at hb
      · rename_i hj
        subst hj
        rw [hs] at hb
        simp only [Option.getD_some, Option.some.injEq] at hb
        rw [← hb, h.same j hi hnone']
      · exact h.had j b hb
  · intro j hj hb
    simp only [Dev.counted, Dev.midst] at hb
    have hne : j ≠ i := by
      rintro rfl
      split at hb
      · rename_i h1; rw [hb] at h1; simp at h1
      · rename_i hnone
        have hnone' : Dev.look d.sure j = none := by
          cases hl : Dev.look d.sure j with
          | none => rfl
          | some v => rw [hl] at hnone; simp at hnone
        rw [look_append _ _ _ _ hnone', if_pos rfl] at hb
        cases hb
    have hb' : Dev.look d.sure j = none := by
      split at hb
      · exact hb
      · rename_i hnone
        have hnone' : Dev.look d.sure i = none := by
          cases hl : Dev.look d.sure i with
          | none => rfl
          | some v => rw [hl] at hnone; simp at hnone
        rw [look_append _ _ _ _ hnone', if_neg hne] at hb
        exact hb
    rw [List.getElem?_set_ne (fun e => hne e.symm)]
    exact h.same j hj hb'

/-- The power has gone, and the device is booted: each sector has what it was written last, or what was sure. -/
theorem KInv.ends {k : Nat} {d : Dev} {now sure : List UInt8} (h : KInv k d now sure) (keep : List Int) : ∃ d', d.crash keep = (d', 0) ∧ d'.boot.secs.length = 6 ∧ d'.boot.dead = false ∧
    ∀ i, i < 6 → d'.boot.secs[i]? = some (fullB (now[i]?.getD 0)) ∨ d'.boot.secs[i]? = some (fullB (sure[i]?.getD 0)) := by
  refine ⟨d.gone keep, by simp [Dev.crash, h.dead], by simp [Dev.boot, Dev.gone, Dev.length_backs, h.secs, h.len], rfl, fun i hi => ?_⟩
  show (Dev.backs keep _ 0 d.keys d.secs)[i]? = _ ∨ (Dev.backs keep _ 0 d.keys d.secs)[i]? = _
  have hn : now[i]? = some (now[i]?.getD 0) := by rw [List.getElem?_eq_getElem (by rw [h.len]; exact hi)]; rfl
  have hs : d.secs[i]? = some (fullB (now[i]?.getD 0)) := by rw [h.secs, List.getElem?_map, hn]; rfl
  rcases backs_at keep (fun i => (Dev.look d.sure i).getD []) i d.keys 0 d.secs with h1 | ⟨h1, h2⟩
  · left; rw [h1, hs]
  · right
    rw [h2]
    obtain ⟨b, hb⟩ := Dev.look_of_key (Dev.mem_keys.1 h1)
    rw [hb, h.had i b hb]
    rfl
end Go.Proofs.Ytbnflbkaogpnbaa

/- Deeds, as they come in; SectorKeeps: the walk. -/
namespace Go.Proofs.Ytbnflbkaogpnbaa
open Go.RowKit

/-- A deed, as it lies in memory. -/
structure DeedR where
  kind : Int
  a : Int
  b : Int
  short : Int
  kA : Option Addr
  kn : Nat
  kc : Nat
  keep : List Int

def I64 (n : Int) : Prop := -9223372036854775808 ≤ n ∧ n ≤ 9223372036854775807

/-- A deed is well formed, and its list reads. -/
structure DeedR.Ok (w : World) (d : DeedR) : Prop where
  kind : I64 d.kind
  a : I64 d.a
  b : I64 d.b
  short : I64 d.short
  sl : SlAt w d.kA d.kn d.kc (d.keep.map i64v)
  small : d.kn * 8 ≤ 140737488351232
  keep : ∀ n ∈ d.keep, I64 n

/-- A slice of deeds. -/
structure DeedsAt (w : World) (A : Option Addr) (n c : Nat) (l : List DeedR) : Prop where
  len : l.length = n
  le : n ≤ c
  max : c ≤ maxLen
  ok : ∀ d ∈ l, d.Ok w
  cells : 0 < n → ∃ b o, A = some ⟨b, o, none⟩ ∧ b < w.heap.size ∧ ∀ i d, l[i]? = some d → w.cell? ⟨b, o + i * 5, none⟩ = some (.int .i64 d.kind) ∧ w.cell? ⟨b, o + i * 5 + 1, none⟩ = some (.int .i64 d.a) ∧
    w.cell? ⟨b, o + i * 5 + 2, none⟩ = some (.int .i64 d.b) ∧ w.cell? ⟨b, o + i * 5 + 3, none⟩ = some (.int .i64 d.short) ∧ w.cell? ⟨b, o + i * 5 + 4, none⟩ = some (.slice d.kA d.kn d.kc)

theorem DeedsAt.kept {w w' : World} {A : Option Addr} {n c : Nat} {l : List DeedR} (h : DeedsAt w A n c l) (hk : Kept [] w w') : DeedsAt w' A n c l :=
  ⟨h.len, h.le, h.max, fun d hd => { h.ok d hd with sl := (h.ok d hd).sl.kept hk (by simp) }, fun hn => by
    obtain ⟨b, o, hA, hb, hc⟩ := h.cells hn
    refine ⟨b, o, hA, Nat.lt_of_lt_of_le hb hk.size, fun i d hd => ?_⟩
    obtain ⟨h1, h2, h3, h4, h5⟩ := hc i d hd
    have e : ∀ j, w'.cell? ⟨b, j, none⟩ = w.cell? ⟨b, j, none⟩ := fun j => hk.cell (p := ⟨b, j, none⟩) hb (by simp)
    exact ⟨(e _).trans h1, (e _).trans h2, (e _).trans h3, (e _).trans h4, (e _).trans h5⟩⟩

theorem DeedsAt.at_ {w : World} {A : Option Addr} {n c : Nat} {l : List DeedR} (h : DeedsAt w A n c l) {k : Nat} (hk : k < n) :
    ∃ b o d, A = some ⟨b, o, none⟩ ∧ b < w.heap.size ∧ l[k]? = some d ∧ d.Ok w ∧ w.cell? ⟨b, o + k * 5, none⟩ = some (.int .i64 d.kind) ∧ w.cell? ⟨b, o + k * 5 + 1, none⟩ = some (.int .i64 d.a) ∧
    w.cell? ⟨b, o + k * 5 + 2, none⟩ = some (.int .i64 d.b) ∧ w.cell? ⟨b, o + k * 5 + 3, none⟩ = some (.int .i64 d.short) ∧ w.cell? ⟨b, o + k * 5 + 4, none⟩ = some (.slice d.kA d.kn d.kc) := by
  obtain ⟨b, o, hA, hb, hc⟩ := h.cells (by omega)
  have hd : l[k]? = some (l[k]'(by rw [h.len]; exact hk)) := List.getElem?_eq_getElem (by rw [h.len]; exact hk)
  exact ⟨b, o, _, hA, hb, hd, h.ok _ (List.mem_of_getElem? hd), hc k _ hd⟩

/-- The world of SectorKeeps at a round's head. -/
structure KpAt (w : World) (a bn bs k : Nat) (now sure : List Int) (d : Dev) (fp : List Nat) (wr : World) : Prop where
  dv : Dv wr a fp d
  new : ∀ j ∈ fp, w.heap.size ≤ j
  nfp : bn ∉ fp
  sfp : bs ∉ fp
  rown : wr.heap[bn]? = some (.cells (now.map i64v).toArray 28 (0, 0))
  rows : wr.heap[bs]? = some (.cells (sure.map i64v).toArray 28 (0, 0))
  inv : KInv k d (now.map byteOf) (sure.map byteOf)
  kept : Kept [] w wr

def KpRel (w : World) (a bn bs n : Nat) (i : Value) (wr : World) : Prop :=
  ∃ k now sure d fp, k ≤ n ∧ k ≤ 50 ∧ i = .int .i64 (k : Nat) ∧ KpAt w a bn bs k now sure d fp wr

theorem spliced_all (cs : Array Value) (vs : List Value) (h : vs.length = cs.size) : spliced cs 0 vs = vs.toArray := by
  unfold spliced
  rw [List.take_zero, List.nil_append, Nat.zero_add, List.drop_of_length_le (by rw [Array.length_toList]; omega), List.append_nil]

theorem row_there {w : World} {g : Nat} {cs : Array Value} {t : TypeId} (h : w.heap[g]? = some (.cells cs t (0, 0))) : w.there g 0 cs.size := by
  intro j hj
  refine ⟨?_, blk_frozen h _⟩
  rw [blk_cell h, Array.getElem?_eq_getElem (by omega)]
  rfl

theorem row_range {w : World} {g : Nat} {cs : List Value} {t : TypeId} (h : w.heap[g]? = some (.cells cs.toArray t (0, 0))) : w.rangeAt g 0 cs := by
  intro j v hj
  rw [blk_cell h, List.getElem?_toArray, Nat.zero_add]
  exact hj

theorem size_six : (Try.prog.info? 28).map (·.size) = some 6 := by kernel_rfl

theorem KpAt.start {w w1 : World} {a : Nat} {f1 : List Nat} (hD : Dv w1 a f1 (Dev.new 6)) (hA : Kept [] w w1) (hN : ∀ j ∈ f1, w.heap.size ≤ j) :
    KpAt w a w1.heap.size (w1.heap.size + 1) 0 (List.replicate 6 0) (List.replicate 6 0) (Dev.new 6) f1 ((w1.alloc (.cells #[.int .i64 0, .int .i64 0, .int .i64 0, .int .i64 0, .int .i64 0, .int .i64 0] 28)).alloc (.cells #[.int .i64 0, .int .i64 0, .int .i64 0, .int .i64 0, .int .i64 0, .int .i64 0] 28)) := by
  have hk := (Kept.alloc [] w1 (.cells #[.int .i64 0, .int .i64 0, .int .i64 0, .int .i64 0, .int .i64 0, .int .i64 0] 28)).trans (Kept.alloc [] _ (.cells #[.int .i64 0, .int .i64 0, .int .i64 0, .int .i64 0, .int .i64 0, .int .i64 0] 28))
  refine ⟨hD.new_kept hk, hN, hD.old (Nat.le_refl _), hD.old (by omega), ?_, ?_, KInv.start, hA.trans hk⟩
  · rw [Below.heap_alloc _ _ _ (by simp), heap_alloc_new]
    rfl
  · have h := heap_alloc_new (w1.alloc (.cells #[.int .i64 0, .int .i64 0, .int .i64 0, .int .i64 0, .int .i64 0, .int .i64 0] 28)) (.cells #[.int .i64 0, .int .i64 0, .int .i64 0, .int .i64 0, .int .i64 0, .int .i64 0] 28)
    simp only [World.size_alloc] at h
    exact h

theorem KpAt.ne {w : World} {a bn bs k : Nat} {now sure : List Int} {d : Dev} {fp : List Nat} {wr : World} (h : KpAt w a bn bs k now sure d fp wr) : now.length = 6 ∧ sure.length = 6 ∧ bn < wr.heap.size ∧ bs < wr.heap.size :=
  ⟨by simpa using h.inv.len, by simpa using h.inv.slen, World.lt_of_heap h.rown, World.lt_of_heap h.rows⟩

/-- Behind a flush. -/
theorem KpAt.flushed {w : World} {a bn bs k : Nat} {now sure : List Int} {d : Dev} {fp : List Nat} {wr : World} (h : KpAt w a bn bs k now sure d fp wr) (hne : bn ≠ bs) (hs : w.heap.size ≤ bs) {d' : Dev} {fp' : List Nat} {w2 : World}
    (hD : Dv w2 a fp' d') (hk : Kept fp wr w2) (hn : ∀ j ∈ fp', j ∈ fp ∨ wr.heap.size ≤ j) (hi : KInv (k + 1) d' (now.map byteOf) (now.map byteOf)) : KpAt w a bn bs (k + 1) now now d' fp' (w2.setCells bs 0 (now.map i64v)) := by
  obtain ⟨l1, l2, l3, l4⟩ := h.ne
  obtain ⟨hA, hN⟩ := news h.kept h.new hk hn
  have hk3 := setCells_kept bs (now.map i64v) 0 w2
  have hnf : bn ∉ fp' := fun hm => by
    rcases hn bn hm with h1 | h1
    · exact h.nfp h1
    · omega
  have hsf : bs ∉ fp' := fun hm => by
    rcases hn bs hm with h1 | h1
    · exact h.sfp h1
    · omega
  have hrn := (hk.block bn l3 h.nfp).trans h.rown
  have hrs := (hk.block bs l4 h.sfp).trans h.rows
  refine ⟨hD.kept hk3 (fun j hj e => hsf (by simp at e; exact e ▸ hj)), hN, hnf, hsf, ?_, ?_, hi, hA.trans' hk3 (fun i hi => .inr (by simp at hi; omega))⟩
  · exact (hk3.block bn (World.lt_of_heap hrn) (by simpa using hne)).trans hrn
  · rw [setCells_heap bs 28 (now.map i64v) 0 w2 _ hrs (by simp [l1, l2]), spliced_all _ _ (by simp [l1, l2])]

/-- Behind a write. -/
theorem KpAt.written {w : World} {a bn bs k : Nat} {now sure : List Int} {d : Dev} {fp : List Nat} {wr wf : World} (h : KpAt w a bn bs k now sure d fp wr) (hne : bn ≠ bs) (hs : w.heap.size ≤ bn) (hkf : Kept [] wr wf) {d' : Dev} {fp' : List Nat} {w2 : World}
    (hD : Dv w2 a fp' d') (hk : Kept fp wf w2) (hn : ∀ j ∈ fp', j ∈ fp ∨ wf.heap.size ≤ j) {q : Nat} {x : Int} (hi : KInv (k + 1) d' ((now.map byteOf).set q (byteOf x)) (sure.map byteOf)) : KpAt w a bn bs (k + 1) (now.set q x) sure d' fp' (w2.setCell ⟨bn, q, none⟩ (.int .i64 x)) := by
  obtain ⟨l1, l2, l3, l4⟩ := h.ne
  obtain ⟨hA, hN⟩ := news (h.kept.trans hkf) h.new hk hn
  have hk3 : Kept [bn] w2 (w2.setCell ⟨bn, q, none⟩ (.int .i64 x)) := Kept.setCell (by simp) _
  have hnf : bn ∉ fp' := fun hm => by
    rcases hn bn hm with h1 | h1
    · exact h.nfp h1
    · have := hkf.size; omega
  have hsf : bs ∉ fp' := fun hm => by
    rcases hn bs hm with h1 | h1
    · exact h.sfp h1
    · have := hkf.size; omega
  have hsz := hkf.size
  have hrn := (hk.block bn (by omega) h.nfp).trans ((hkf.block bn l3 (by simp)).trans h.rown)
  have hrs := (hk.block bs (by omega) h.sfp).trans ((hkf.block bs l4 (by simp)).trans h.rows)
  refine ⟨hD.kept hk3 (fun j hj e => hnf (by simp at e; exact e ▸ hj)), hN, hnf, hsf, ?_, ?_, by rw [List.map_set]; exact hi, hA.trans' hk3 (fun i hi => .inr (by simp at hi; omega))⟩
  · rw [heap_set hrn, List.map_set]
    simp [i64v]
  · exact (hk3.block bs (World.lt_of_heap hrs) (by simpa using fun e => hne e.symm)).trans hrs

theorem KpAt.nowCell {w : World} {a bn bs k : Nat} {now sure : List Int} {d : Dev} {fp : List Nat} {wr : World} (h : KpAt w a bn bs k now sure d fp wr) {q : Nat} (hq : q < 6) : wr.cell? ⟨bn, q, none⟩ = some (.int .i64 (now[q]?.getD 0)) := by
  rw [blk_cell h.rown, List.getElem?_toArray, List.getElem?_map, List.getElem?_eq_getElem (by rw [h.ne.1]; exact hq)]
  rfl
theorem KpAt.sureCell {w : World} {a bn bs k : Nat} {now sure : List Int} {d : Dev} {fp : List Nat} {wr : World} (h : KpAt w a bn bs k now sure d fp wr) {q : Nat} (hq : q < 6) : wr.cell? ⟨bs, q, none⟩ = some (.int .i64 (sure[q]?.getD 0)) := by
  rw [blk_cell h.rows, List.getElem?_toArray, List.getElem?_map, List.getElem?_eq_getElem (by rw [h.ne.2.1]; exact hq)]
  rfl

/-- The world of SectorKeeps behind the loss. -/
structure KpEnd (w : World) (a bn bs : Nat) (now sure : List Int) (d : Dev) (fp : List Nat) (wr : World) : Prop where
  dv : Dv wr a fp d
  len : now.length = 6
  slen : sure.length = 6
  secs : d.secs.length = 6
  dead : d.dead = false
  rown : wr.heap[bn]? = some (.cells (now.map i64v).toArray 28 (0, 0))
  rows : wr.heap[bs]? = some (.cells (sure.map i64v).toArray 28 (0, 0))
  fine : ∀ i, i < 6 → d.secs[i]? = some (fullB (byteOf (now[i]?.getD 0))) ∨ d.secs[i]? = some (fullB (byteOf (sure[i]?.getD 0)))
  all : Kept [] w wr

theorem KpEnd.kept' {w : World} {a bn bs : Nat} {now sure : List Int} {d : Dev} {fp : List Nat} {wr w' : World} (h : KpEnd w a bn bs now sure d fp wr) (hk : Kept [] wr w') : KpEnd w a bn bs now sure d fp w' :=
  { h with
    dv := h.dv.new_kept hk
    rown := (hk.block bn (World.lt_of_heap h.rown) (by simp)).trans h.rown
    rows := (hk.block bs (World.lt_of_heap h.rows) (by simp)).trans h.rows
    all := h.all.trans hk }

theorem KpEnd.nowCell {w : World} {a bn bs : Nat} {now sure : List Int} {d : Dev} {fp : List Nat} {wr : World} (h : KpEnd w a bn bs now sure d fp wr) {q : Nat} (hq : q < 6) : wr.cell? ⟨bn, q, none⟩ = some (.int .i64 (now[q]?.getD 0)) := by
  rw [blk_cell h.rown, List.getElem?_toArray, List.getElem?_map, List.getElem?_eq_getElem (by rw [h.len]; exact hq)]
  rfl
theorem KpEnd.sureCell {w : World} {a bn bs : Nat} {now sure : List Int} {d : Dev} {fp : List Nat} {wr : World} (h : KpEnd w a bn bs now sure d fp wr) {q : Nat} (hq : q < 6) : wr.cell? ⟨bs, q, none⟩ = some (.int .i64 (sure[q]?.getD 0)) := by
  rw [blk_cell h.rows, List.getElem?_toArray, List.getElem?_map, List.getElem?_eq_getElem (by rw [h.slen]; exact hq)]
  rfl

theorem KpEnd.either {w : World} {a bn bs : Nat} {now sure : List Int} {d : Dev} {fp : List Nat} {wr : World} (h : KpEnd w a bn bs now sure d fp wr) {q : Nat} (hq : q < 6) :
    d.hasB q (now[q]?.getD 0) = true ∨ d.hasB q (sure[q]?.getD 0) = true := by
  have hat : d.at_ (q : Int) = 0 := by
    have := h.secs
    simp [Dev.at_, h.dead]
    omega
  rcases h.fine q hq with h1 | h1
  · exact .inl (hasB_of hat rfl (by simpa using h1))
  · exact .inr (hasB_of hat rfl (by simpa using h1))

def EndRel (w : World) (a bn bs : Nat) (now sure : List Int) (d : Dev) (fp : List Nat) (i : Value) (wr : World) : Prop :=
  ∃ q : Nat, q ≤ 6 ∧ i = .int .i64 (q : Nat) ∧ KpEnd w a bn bs now sure d fp wr

set_option maxHeartbeats 4000000 in
set_option maxRecDepth 100000 in
theorem sectorKeeps_walk (w : World) (A : Option Addr) (n c : Nat) (l : List DeedR) (hl : DeedsAt w A n c l) (B : Option Addr) (m e : Nat) (keep : List Int) (hk : SlAt w B m e (keep.map i64v)) :
    Calls Try.prog 3 #[.slice A n c, .slice B m e] w (TruePost w) := by
  have hnc := hl.le; have hcm := hl.max
  unfold maxLen at hcm
  go_enter Try.func3, Try.ntmps3
  go_wp2_with fail
  refine (new_any 6 _ (by omega) (by omega)).mono ?_
  rintro e w1 ⟨a, f1, rfl, hD1, hA1, hN1⟩
  have hst := KpAt.start hD1 hA1 hN1
  have hne : w1.heap.size ≠ w1.heap.size + 1 := by omega
  have hsn : w.heap.size ≤ w1.heap.size := hA1.size
  have hss : w.heap.size ≤ w1.heap.size + 1 := by omega
  clear hD1 hA1 hN1
  go_wp2_with fail
  generalize ((w1.alloc (.cells #[.int .i64 0, .int .i64 0, .int .i64 0, .int .i64 0, .int .i64 0, .int .i64 0] 28)).alloc (.cells #[.int .i64 0, .int .i64 0, .int .i64 0, .int .i64 0, .int .i64 0, .int .i64 0] 28)) = W at hst
  generalize w1.heap.size + 1 = bs at *
  generalize w1.heap.size = bn at *
  clear w1
  go_loopw [9] (fun i wr => KpRel w a bn bs n i wr) (fun i _ => n - (intOf i).toNat)
  case atStart => exact ⟨0, _, _, _, _, Nat.zero_le _, by omega, rfl, hst⟩
  case round =>
    clear hst
    obtain ⟨k, now, sure, d, fp, hkn, hk5, rfl, hK⟩ := hrel
    by_cases hlt : k < n
    · by_cases h50 : k < 50
      · obtain ⟨b, o, dk, hAe, hbl, hdk, hok, g0, g1, g2, g3, g4⟩ := (hl.kept hK.kept).at_ hlt
        subst hAe
        have i1 : (k : Int) < (n : Int) := by omega
        have i2 : (k : Int) < 50 := by omega
        have ha := hok.a; have hb := hok.b; have hkd := hok.kind
        unfold I64 at ha hb hkd
        obtain ⟨q, hq⟩ : ∃ q : Nat, dk.a % 6 = q := ⟨_, (Int.toNat_of_nonneg (Int.emod_nonneg _ (by omega))).symm⟩
        have hq6 : q < 6 := by have := Int.emod_lt_of_pos dk.a (show (0 : Int) < 6 by omega); omega
        have ca := bring_any dk.a 6 wr (by omega) (by omega) ha.1 ha.2
        rw [hq] at ca
        have ck := bring_any dk.kind 4 wr (by omega) (by omega) hkd.1 hkd.2
        clear g3 g4 hdk hok hq
        go_wp2_with fail
        refine ca.mono ?_
        clear ca
        rintro e w' ⟨rfl, rfl⟩
        go_wp2_with fail
        by_cases hk0 : dk.kind % 4 = 0
        · rw [hk0] at ck
          refine ck.mono ?_
          clear ck hk0
          rintro e w' ⟨rfl, rfl⟩
          obtain ⟨d', hd', hi'⟩ := hK.inv.flush
          have cf := flush_dv hK.dv (by have := hK.inv.works; omega)
          rw [hd'] at cf
          go_wp2_with fail
          refine cf.mono ?_
          clear cf hd'
          rintro e w2 ⟨rfl, f2, hD2, hk2, hn2⟩
          obtain ⟨l1, l2, l3, l4⟩ := hK.ne
          have hr2 := row_range ((hk2.block bn l3 hK.nfp).trans hK.rown)
          have ht2 := row_there ((hk2.block bs l4 hK.sfp).trans hK.rows)
          have hnew := hK.flushed hne hss hD2 hk2 hn2 hi'
          have L1 := Lib.hid l1; have L2 := Lib.hid l2
          clear l1 l2 hD2 hk2 hn2 hi' hK
          go_wp2_with (first | (refine wpList_load_mid rfl 28 _ rfl bn 0 rfl (now.map i64v) _ hr2 Try.underlying28 rfl (by rw [size_six]; simp [L1.out]) ?_) | (refine wpList_store_mid rfl 28 _ _ rfl bs 0 (now.map i64v).toArray rfl rfl (by simpa [L1.out, L2.out] using ht2) (by rw [size_six]; simp [L1.out]) (all_oneCell_toArray (one_i64 now)) ?_))
          go_roundw
          case rel => exact ⟨k + 1, _, _, _, _, by omega, by omega, by go_num, hnew⟩
          case measure => simp [intOf]; omega
        · have hk1 : (dk.kind % 4 == 0) = false := by simpa using hk0
          refine ck.mono ?_
          clear ck hk0
          rintro e w' ⟨rfl, rfl⟩
          obtain ⟨r, hr⟩ : ∃ r : Nat, dk.b % 200 = r := ⟨_, (Int.toNat_of_nonneg (Int.emod_nonneg _ (by omega))).symm⟩
          have hr200 : (r : Int) < 200 := by have := Int.emod_lt_of_pos dk.b (show (0 : Int) < 200 by omega); omega
          have cb := bring_any dk.b 200 wr (by omega) (by omega) hb.1 hb.2
          rw [hr] at cb
          clear hr
          go_wp2_with fail
          refine cb.mono ?_
          clear cb
          rintro e w' ⟨rfl, rfl⟩
          go_wp2_with fail
          refine (full_std (1 + (r : Int)) (byteOf (1 + (r : Int))) rfl _).mono ?_
          rintro e w2 ⟨A2, c2, rfl, hown, hbel⟩
          obtain ⟨hs, hA⟩ := ClonePost.sl hown
          have hO := fun p hp => hK.dv.old (hA p hp)
          have hkf := Kept.of_below (F := []) hbel
          have hDf := hK.dv.new_kept hkf
          clear hown hbel hA
          obtain ⟨d', hd', hi'⟩ := hK.inv.write hq6 (byteOf (1 + (r : Int)))
          have cw := write_dv hDf q (fullB (byteOf (1 + (r : Int)))) A2 128 c2 hs hO (by have := hK.inv.works; omega)
          rw [hd'] at cw
          go_wp2_with fail
          refine cw.mono ?_
          clear cw hd' hs hO
          rintro e w3 ⟨rfl, f3, hD3, hk3, hn3⟩
          have hnew := hK.written hne hsn hkf hD3 hk3 hn3 hi'
          obtain ⟨l1, l2, l3, l4⟩ := hK.ne
          have hbn := (hk3.block bn (by have := hkf.size; omega) hK.nfp).trans ((hkf.block bn l3 (by simp)).trans hK.rown)
          have hcn : w3.cell? ⟨bn, q, none⟩ = some (.int .i64 (now[q]?.getD 0)) := by
            rw [blk_cell hbn, List.getElem?_toArray, List.getElem?_map, List.getElem?_eq_getElem (by omega)]
            rfl
          have hcf : w3.frozen? ⟨bn, q, none⟩ = false := blk_frozen hbn q
          have hq7 : (q : Int) < 6 := by omega
          clear l1 l2 hD3 hk3 hn3 hi' hK hkf hDf hbn
          go_wp2_with fail
          go_roundw
          case rel => exact ⟨k + 1, _, _, _, _, by omega, by omega, by go_num, hnew⟩
          case measure => simp [intOf]; omega
      · have i1 : (k : Int) < (n : Int) := by omega
        have i2 : ¬ (k : Int) < 50 := by omega
        have hkk := hK.kept
        have hBf : ∀ p, B = some p → 0 < m → p.block ∉ fp := fun p hp hm hin => by
          obtain ⟨b, o, e, hb, _⟩ := hk.cells hm
          rw [hp] at e
          cases e
          have h9 : w.heap.size ≤ b := hK.new _ hin
          omega
        have cc := crash_dv hK.dv B m e keep (hk.kept hkk (by simp)) hBf
        obtain ⟨d', hd', he1, he2, he3⟩ := hK.inv.ends keep
        rw [hd'] at cc
        go_wp2_with fail
        refine cc.mono ?_
        clear cc hd' hBf
        rintro e w2 ⟨rfl, f2, hD2, hk2, hn2⟩
        obtain ⟨l1, l2, l3, l4⟩ := hK.ne
        have hrn := (hk2.block bn l3 hK.nfp).trans hK.rown
        have hrs := (hk2.block bs l4 hK.sfp).trans hK.rows
        have hnf : bn ∉ f2 := fun hm => by
          rcases hn2 bn hm with h1 | h1
          · exact hK.nfp h1
          · omega
        have hsf : bs ∉ f2 := fun hm => by
          rcases hn2 bs hm with h1 | h1
          · exact hK.sfp h1
          · omega
        obtain ⟨hA2, hN2⟩ := news hK.kept hK.new hk2 hn2
        have l3' := hk2.size
        have cb := boot_dv hD2
        clear hk2 hn2 hkk hK
        go_wp2_with fail
        refine cb.mono ?_
        clear cb
        rintro e w3 ⟨rfl, f3, hD3, hk3, hn3⟩
        have hrn := (hk3.block bn (by omega) hnf).trans hrn
        have hrs := (hk3.block bs (by omega) hsf).trans hrs
        obtain ⟨hA3, hN3⟩ := news hA2 hN2 hk3 hn3
        have hE : KpEnd w a bn bs now sure d'.boot f3 w3 := ⟨hD3, by omega, by omega, he1, he2, hrn, hrs, fun i hi => by
          have := he3 i hi
          simpa [List.getElem?_map, List.getElem?_eq_getElem (show i < now.length by omega), List.getElem?_eq_getElem (show i < sure.length by omega)] using this, hA3⟩
        clear hnf hsf hA2 hN2 l3' hk3 hn3 hrn hrs hA3 hN3 hD2 hD3 he1 he2 he3 l1 l2 l3 l4
        go_wp2_with fail
        go_loopw [12] (fun i wr => EndRel w a bn bs now sure d'.boot f3 i wr) (fun i _ => 6 - (intOf i).toNat)
        case atStart => exact ⟨0, by omega, rfl, hE⟩
        case round =>
          clear hE
          obtain ⟨q, hq6, rfl, hE⟩ := hrel
          by_cases hq : q < 6
          · have hq7 : (q : Int) < 6 := by omega
            have n1 := hE.nowCell hq
            have n2 := hE.sureCell hq
            have ch := has_dv hE.dv q (now[q]?.getD 0)
            go_wp2_with fail
            refine ch.mono ?_
            clear ch
            rintro e w4 ⟨rfl, hk4⟩
            have hE4 := hE.kept' hk4
            have n2' := hE4.sureCell hq
            have hor := hE.either hq
            by_cases hb1 : d'.boot.hasB q (now[q]?.getD 0) = true
            · have HB := Lib.hid hb1
              clear n1 n2 hE
              go_wp2_with fail
              go_roundw
              case rel => exact ⟨q + 1, by omega, by go_num, hE4⟩
              case measure => simp [intOf]; omega
            · have hb2 : d'.boot.hasB q (sure[q]?.getD 0) = true := by
                rcases hor with h | h
                · exact absurd h hb1
                · exact h
              have hb1' : d'.boot.hasB q (now[q]?.getD 0) = false := by simpa using hb1
              have ch2 := has_dv hE4.dv q (sure[q]?.getD 0)
              rw [hb2] at ch2
              clear n1 n2 hE hb1 hor hb2
              go_wp2_with fail
              refine ch2.mono ?_
              clear ch2
              rintro e w5 ⟨rfl, hk5⟩
              have hE5 := hE4.kept' hk5
              go_wp2_with fail
              go_roundw
              case rel => exact ⟨q + 1, by omega, by go_num, hE5⟩
              case measure => simp [intOf]; omega
          · obtain rfl : q = 6 := by omega
            have hq7 : ¬ ((6 : Nat) : Int) < 6 := by omega
            go_wp2_with fail
            refine (awake10_any _).mono ?_
            rintro e w4 ⟨rfl, hk4⟩
            go_wp2_with fail
            go_ret
            exact ⟨rfl, hE.all.trans hk4⟩
    · have i1 : ¬ (k : Int) < (n : Int) := by omega
      have hkk := hK.kept
      have hBf : ∀ p, B = some p → 0 < m → p.block ∉ fp := fun p hp hm hin => by
        obtain ⟨b, o, e, hb, _⟩ := hk.cells hm
        rw [hp] at e
        cases e
        have h9 : w.heap.size ≤ b := hK.new _ hin
        omega
      have cc := crash_dv hK.dv B m e keep (hk.kept hkk (by simp)) hBf
      obtain ⟨d', hd', he1, he2, he3⟩ := hK.inv.ends keep
      rw [hd'] at cc
      go_wp2_with fail
      refine cc.mono ?_
      clear cc hd' hBf
      rintro e w2 ⟨rfl, f2, hD2, hk2, hn2⟩
      obtain ⟨l1, l2, l3, l4⟩ := hK.ne
      have hrn := (hk2.block bn l3 hK.nfp).trans hK.rown
      have hrs := (hk2.block bs l4 hK.sfp).trans hK.rows
      have hnf : bn ∉ f2 := fun hm => by
        rcases hn2 bn hm with h1 | h1
        · exact hK.nfp h1
        · omega
      have hsf : bs ∉ f2 := fun hm => by
        rcases hn2 bs hm with h1 | h1
        · exact hK.sfp h1
        · omega
      obtain ⟨hA2, hN2⟩ := news hK.kept hK.new hk2 hn2
      have l3' := hk2.size
      have cb := boot_dv hD2
      clear hk2 hn2 hkk hK
      go_wp2_with fail
      refine cb.mono ?_
      clear cb
      rintro e w3 ⟨rfl, f3, hD3, hk3, hn3⟩
      have hrn := (hk3.block bn (by omega) hnf).trans hrn
      have hrs := (hk3.block bs (by omega) hsf).trans hrs
      obtain ⟨hA3, hN3⟩ := news hA2 hN2 hk3 hn3
      have hE : KpEnd w a bn bs now sure d'.boot f3 w3 := ⟨hD3, by omega, by omega, he1, he2, hrn, hrs, fun i hi => by
        have := he3 i hi
        simpa [List.getElem?_map, List.getElem?_eq_getElem (show i < now.length by omega), List.getElem?_eq_getElem (show i < sure.length by omega)] using this, hA3⟩
      clear hnf hsf hA2 hN2 l3' hk3 hn3 hrn hrs hA3 hN3 hD2 hD3 he1 he2 he3 l1 l2 l3 l4
      go_wp2_with fail
      go_loopw [12] (fun i wr => EndRel w a bn bs now sure d'.boot f3 i wr) (fun i _ => 6 - (intOf i).toNat)
      case atStart => exact ⟨0, by omega, rfl, hE⟩
      case round =>
        clear hE
        obtain ⟨q, hq6, rfl, hE⟩ := hrel
        by_cases hq : q < 6
        · have hq7 : (q : Int) < 6 := by omega
          have n1 := hE.nowCell hq
          have n2 := hE.sureCell hq
          have ch := has_dv hE.dv q (now[q]?.getD 0)
          go_wp2_with fail
          refine ch.mono ?_
          clear ch
          rintro e w4 ⟨rfl, hk4⟩
          have hE4 := hE.kept' hk4
          have n2' := hE4.sureCell hq
          have hor := hE.either hq
          by_cases hb1 : d'.boot.hasB q (now[q]?.getD 0) = true
          · have HB := Lib.hid hb1
            clear n1 n2 hE
            go_wp2_with fail
            go_roundw
            case rel => exact ⟨q + 1, by omega, by go_num, hE4⟩
            case measure => simp [intOf]; omega
          · have hb2 : d'.boot.hasB q (sure[q]?.getD 0) = true := by
              rcases hor with h | h
              · exact absurd h hb1
              · exact h
            have hb1' : d'.boot.hasB q (now[q]?.getD 0) = false := by simpa using hb1
            have ch2 := has_dv hE4.dv q (sure[q]?.getD 0)
            rw [hb2] at ch2
            clear n1 n2 hE hb1 hor hb2
            go_wp2_with fail
            refine ch2.mono ?_
            clear ch2
            rintro e w5 ⟨rfl, hk5⟩
            have hE5 := hE4.kept' hk5
            go_wp2_with fail
            go_roundw
            case rel => exact ⟨q + 1, by omega, by go_num, hE5⟩
            case measure => simp [intOf]; omega
        · obtain rfl : q = 6 := by omega
          have hq7 : ¬ ((6 : Nat) : Int) < 6 := by omega
          go_wp2_with fail
          refine (awake10_any _).mono ?_
          rintro e w4 ⟨rfl, hk4⟩
          go_wp2_with fail
          go_ret
          exact ⟨rfl, hE.all.trans hk4⟩
end Go.Proofs.Ytbnflbkaogpnbaa

/- SectorRefuses, SectorFails, SectorAlone, on the plain model. -/
namespace Go.Proofs.Ytbnflbkaogpnbaa

theorem at_zero6 {d : Dev} (hl : d.secs.length = 6) (hd : d.dead = false) {q : Nat} (hq : q < 6) : d.at_ (q : Int) = 0 := by
  simp [Dev.at_, hd]
  omega

/-- Behind k deeds of which the first n count: the device that refuses from there on. -/
structure RInv (n k : Nat) (d : Dev) : Prop where
  len : d.secs.length = 6
  dead : d.dead = false
  fail : d.fail = -1
  till : d.till = max ((n : Int) - k) 0
  works : d.works = min (k : Int) n

theorem RInv.start (n : Nat) : ∃ d, (Dev.new 6).refuse (n : Int) = (d, 0) ∧ RInv n 0 d :=
  ⟨{ Dev.new 6 with till := max (n : Int) (-1) }, rfl, by simp [Dev.new], rfl, rfl, by show max (n : Int) (-1) = max ((n : Int) - (0 : Nat)) 0; omega, by show (0 : Int) = min ((0 : Nat) : Int) n; omega⟩

theorem RInv.inside {n k : Nat} {d : Dev} (h : RInv n k d) {q : Nat} (hq : q < 6) {b : Blk} (hb : b.length = 128) (hk : k < n) : ∃ d', d.write (q : Int) b = (d', 0) ∧ RInv n (k + 1) d' ∧ d'.secs[q]? = some b := by
  have hw := write_ok (d := d) (i := (q : Int)) (b := b) (at_zero6 h.len h.dead hq) hb (by rw [h.till]; omega) (by rw [h.fail]; decide)
  refine ⟨_, hw, ⟨by simpa [Dev.counted, Dev.midst] using h.len, h.dead, ?_, ?_, ?_⟩, ?_⟩
  · show max (d.fail - 1) (-1) = -1
    rw [h.fail]; decide
  · show max (d.till - 1) (-1) = _
    rw [h.till]; omega
  · show d.works + 1 = _
    rw [h.works]; omega
  · simp only [Dev.counted, Dev.midst, Int.toNat_natCast]
    rw [List.getElem?_set_self (by rw [h.len]; exact hq)]

theorem RInv.outside {n k : Nat} {d : Dev} (h : RInv n k d) {q : Nat} (hq : q < 6) {b : Blk} (hb : b.length = 128) (hk : n ≤ k) : d.write (q : Int) b = (d, 101) ∧ RInv n (k + 1) d := by
  have ht : d.till = 0 := by rw [h.till]; omega
  refine ⟨by simp [Dev.write, at_zero6 h.len h.dead hq, hb, ht], h.len, h.dead, h.fail, ?_, ?_⟩
  · rw [h.till]; omega
  · rw [h.works]; omega

theorem RInv.ends {n k : Nat} {d : Dev} (h : RInv n k d) : ∃ d1 d2, d.refuse (-1) = (d1, 0) ∧ d1.flush = (d2, 0) ∧ d1.works = min (k : Int) n ∧ d2.works = min (k : Int) n + 1 := by
  refine ⟨{ d with till := -1 }, { d with sure := [], till := -1 }.counted, by simp [Dev.refuse, h.dead], by simp [Dev.flush, h.dead, h.fail], h.works, ?_⟩
  show d.works + 1 = _
  rw [h.works]

/-- Behind k deeds: the device that dies at the n-th. -/
structure FInv (n k : Nat) (d : Dev) : Prop where
  len : d.secs.length = 6
  dead : d.dead = false
  fail : d.fail = (n : Int) - k
  till : d.till = -1
  works : d.works = k
  le : k ≤ n

theorem FInv.start (n : Nat) : ∃ d, (Dev.new 6).failAt (n : Int) [] = (d, 0) ∧ FInv n 0 d :=
  ⟨{ Dev.new 6 with fail := max (n : Int) (-1), keep := [] }, rfl, by simp [Dev.new], rfl, by show max (n : Int) (-1) = (n : Int) - (0 : Nat); omega, rfl, rfl, Nat.zero_le _⟩

/-- What is there behind the loss. -/
structure FEnd (n : Nat) (d : Dev) : Prop where
  dead : d.dead = true
  fail : d.fail = -1
  till : d.till = -1
  works : d.works = n

theorem FInv.write {n k : Nat} {d : Dev} (h : FInv n k d) {q : Nat} (hq : q < 6) {b : Blk} (hb : b.length = 128) : ∃ d' : Dev, (d.write (q : Int) b = (d', if k = n then 100 else 0)) ∧ (k = n → FEnd n d') ∧ (k ≠ n → FInv n (k + 1) d') := by
  by_cases hk : k = n
  · have hw := write_falls (d := d) (i := (q : Int)) (b := b) (at_zero6 h.len h.dead hq) hb (by rw [h.till]; decide) (by rw [h.fail]; omega)
    refine ⟨(d.midst (q : Int).toNat b).gone d.keep, by rw [if_pos hk]; exact hw, fun _ => ⟨rfl, rfl, rfl, ?_⟩, fun h => absurd hk h⟩
    show d.works = _
    rw [h.works, hk]
  · have hw := write_ok (d := d) (i := (q : Int)) (b := b) (at_zero6 h.len h.dead hq) hb (by rw [h.till]; decide) (by rw [h.fail]; have := h.le; omega)
    refine ⟨(d.midst (q : Int).toNat b).counted, by rw [if_neg hk]; exact hw, fun h => absurd h hk, fun _ => ⟨by simpa [Dev.counted, Dev.midst] using h.len, h.dead, ?_, ?_, ?_, by have := h.le; omega⟩⟩
    · show max (d.fail - 1) (-1) = _
      rw [h.fail]; have := h.le; omega
    · show max (d.till - 1) (-1) = _
      rw [h.till]; decide
    · show d.works + 1 = _
      rw [h.works]; omega

theorem FInv.flush {n k : Nat} {d : Dev} (h : FInv n k d) : ∃ d' : Dev, (d.flush = (d', if k = n then 100 else 0)) ∧ (k = n → FEnd n d') ∧ (k ≠ n → FInv n (k + 1) d') := by
  have ht : d.till ≠ 0 := by rw [h.till]; decide
  by_cases hk : k = n
  · have hf : d.fail = 0 := by rw [h.fail]; omega
    refine ⟨d.gone d.keep, by simp [Dev.flush, h.dead, ht, hf, hk], fun _ => ⟨rfl, rfl, rfl, ?_⟩, fun h => absurd hk h⟩
    show d.works = _
    rw [h.works, hk]
  · have hf : d.fail ≠ 0 := by rw [h.fail]; have := h.le; omega
    refine ⟨{ d with sure := [] }.counted, by simp [Dev.flush, h.dead, ht, hf, hk], fun h => absurd h hk, fun _ => ⟨h.len, h.dead, ?_, ?_, ?_, by have := h.le; omega⟩⟩
    · show max (d.fail - 1) (-1) = _
      rw [h.fail]; have := h.le; omega
    · show max (d.till - 1) (-1) = _
      rw [h.till]; decide
    · show d.works + 1 = _
      rw [h.works]; omega

theorem FEnd.flush {n : Nat} {d : Dev} (h : FEnd n d) : ∃ d', d.boot.flush = (d', 0) :=
  ⟨{ d.boot with sure := [] }.counted, by simp [Dev.flush, Dev.boot, h.fail, h.till]⟩

/-- One device behind k deeds, of which each counts. -/
structure OInv (k : Nat) (d : Dev) : Prop where
  len : d.secs.length = 6
  dead : d.dead = false
  fail : d.fail = -1
  till : d.till = -1
  works : d.works ≤ k

theorem OInv.start : OInv 0 (Dev.new 6) := ⟨by simp [Dev.new], rfl, rfl, rfl, Int.le_refl _⟩
theorem OInv.more {k : Nat} {d : Dev} (h : OInv k d) : OInv (k + 1) d := ⟨h.len, h.dead, h.fail, h.till, by have := h.works; omega⟩

theorem OInv.write {k : Nat} {d : Dev} (h : OInv k d) {q : Nat} (hq : q < 6) {b : Blk} (hb : b.length = 128) : ∃ d' : Dev, d.write (q : Int) b = (d', 0) ∧ OInv (k + 1) d' ∧ d'.secs = d.secs.set q b := by
  have hw := write_ok (d := d) (i := (q : Int)) (b := b) (at_zero6 h.len h.dead hq) hb (by rw [h.till]; decide) (by rw [h.fail]; decide)
  refine ⟨_, hw, ⟨by simpa [Dev.counted, Dev.midst] using h.len, h.dead, ?_, ?_, ?_⟩, rfl⟩
  · show max (d.fail - 1) (-1) = _
    rw [h.fail]; decide
  · show max (d.till - 1) (-1) = _
    rw [h.till]; decide
  · show d.works + 1 ≤ _
    have := h.works; omega

theorem OInv.flush {k : Nat} {d : Dev} (h : OInv k d) : ∃ d' : Dev, d.flush = (d', 0) ∧ OInv (k + 1) d' ∧ d'.secs = d.secs := by
  refine ⟨{ d with sure := [] }.counted, by simp [Dev.flush, h.dead, h.fail, h.till], ⟨h.len, h.dead, ?_, ?_, ?_⟩, rfl⟩
  · show max (d.fail - 1) (-1) = _
    rw [h.fail]; decide
  · show max (d.till - 1) (-1) = _
    rw [h.till]; decide
  · show d.works + 1 ≤ _
    have := h.works; omega
end Go.Proofs.Ytbnflbkaogpnbaa
