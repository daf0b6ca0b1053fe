/- The helpers of the statements: EqBytes, Bring, full. -/
import Derived.Test.YtbnflbkaogpnbaaH2
namespace Go.Proofs.Ytbnflbkaogpnbaa
open Go.RowKit
theorem ret_bool {a b : Bool} (h : a = b) : Ending.returned (.bool a) = .returned (.bool b) := by rw [h]

/-- The cell of a byte slice at i, where there is one. -/
theorem SlAt.at_ {w : World} {A : Option Addr} {n c : Nat} {xs : List UInt8} (h : SlAt w A n c (xs.map u8v)) {k : Nat} (hk : k < n) :
    ∃ b o, A = some ⟨b, o, none⟩ ∧ b < w.heap.size ∧ w.cell? ⟨b, o + k, none⟩ = some (.int .u8 ((xs[k]?.getD 0).toNat : Int)) := by
  obtain ⟨b, o, hA, hb, hc⟩ := h.cells (by omega)
  have hl := h.len
  simp only [List.length_map] at hl
  refine ⟨b, o, hA, hb, ?_⟩
  rw [hc k hk, List.getElem?_map, List.getElem?_eq_getElem (by omega)]
  rfl

theorem take_succ_eq {xs ys : List UInt8} {k : Nat} (hx : k < xs.length) (hy : k < ys.length) (h : xs.take k = ys.take k) (he : xs[k]?.getD 0 = ys[k]?.getD 0) : xs.take (k + 1) = ys.take (k + 1) := by
  rw [List.take_succ_eq_append_getElem hx, List.take_succ_eq_append_getElem hy, h]
  simp only [List.getElem?_eq_getElem hx, List.getElem?_eq_getElem hy, Option.getD_some] at he
  rw [he]

set_option maxHeartbeats 400000 in
theorem eqBytes_any (w : World) (A B : Option Addr) (n c m d : Nat) (xs ys : List UInt8) (hx : SlAt w A n c (xs.map u8v)) (hy : SlAt w B m d (ys.map u8v)) :
    Calls Try.prog 31 #[.slice A n c, .slice B m d] w fun e w' => e = .returned (.bool (decide (xs = ys))) ∧ ∃ q, w' = w.drewN q := by
  have hxl := hx.len; have hyl := hy.len
  have hc := hx.le; have hcm := hx.max
  have hd := hy.le; have hdm := hy.max
  unfold maxLen at hcm hdm
  simp only [List.length_map] at hxl hyl
  by_cases hnm : n = m
  · subst hnm
    have hb : ((n : Int) != (n : Int)) = false := by simp
    have HX := Lib.hid hxl; have HY := Lib.hid hyl; clear hxl hyl
    go_enter Try.func31, Try.ntmps31
    go_wp2
    go_loopw [5] (fun i wr => ∃ k q : Nat, k ≤ n ∧ i = .int .i64 k ∧ wr = w.drewN q ∧ xs.take k = ys.take k) (fun i _ => n - (intOf i).toNat)
    case atStart => exact ⟨0, 0, Nat.zero_le _, rfl, rfl, rfl⟩
    case round =>
      obtain ⟨k, q, hk, rfl, rfl, ht⟩ := hrel
      by_cases hlt : k < n
      · obtain ⟨b, o, hA, hbl, hcx⟩ := hx.at_ hlt
        obtain ⟨b', o', hB, hbl', hcy⟩ := hy.at_ hlt
        have HT := Lib.hid ht; clear ht
        subst hA hB
        have h2 : (k : Int) < (n : Int) := by omega
        by_cases he : xs[k]?.getD 0 = ys[k]?.getD 0
        · have HE := Lib.hid he
          have hcy2 : w.cell? ⟨b', o' + k, none⟩ = some (.int .u8 ((xs[k]?.getD 0).toNat : Int)) := by rw [he]; exact hcy
          clear he hcy
          go_wp2
          go_quiet (fail)
          go_wp2
          go_roundw
          case rel => exact ⟨k + 1, q + nq, by omega, by go_num, by first | rfl | rw [World.drewN_drewN], take_succ_eq (by rw [HX.out]; exact hlt) (by rw [HY.out]; exact hlt) HT.out HE.out⟩
          case measure => simp [intOf]; omega
        · have HE := Lib.hid he
          have hne : (((xs[k]?.getD 0).toNat : Int) != ((ys[k]?.getD 0).toNat : Int)) = true := by
            simp only [bne_iff_ne, ne_eq, Int.natCast_inj]
            exact fun e => he (UInt8.toNat_inj.1 e)
          clear he
          go_wp2
          go_quiet (fail)
          go_wp2
          go_ret
          exact ⟨ret_bool (by rw [decide_eq_false_iff_not.2]; exact fun e => HE.out (by rw [e])), q + nq, by first | rfl | rw [World.drewN_drewN]⟩
      · have h2 : ¬ (k : Int) < (n : Int) := by omega
        go_wp2
        go_ret
        obtain rfl : k = n := by omega
        exact ⟨ret_bool (by
          rw [decide_eq_true_iff.2]
          have h1 := List.take_of_length_le (i := k) (l := xs) (by rw [HX.out]; exact Nat.le_refl _)
          have h3 := List.take_of_length_le (i := k) (l := ys) (by rw [HY.out]; exact Nat.le_refl _)
          rw [← h1, ← h3]; exact ht), _, rfl⟩
  · have hne : ¬ xs = ys := fun e => hnm (by rw [← hxl, ← hyl, e])
    have hb : ((n : Int) != (m : Int)) = true := by simp; omega
    go_enter Try.func31, Try.ntmps31
    go_wp2
    go_ret
    exact ⟨ret_bool (by simp [hne]), 0, rfl⟩

theorem eqBytes_u8 (w : World) (A B : Option Addr) (n c m d : Nat) (xs ys : List UInt8) (hx : SlAt w A n c (u8vs xs)) (hy : SlAt w B m d (u8vs ys)) :
    Calls Try.prog 31 #[.slice A n c, .slice B m d] w fun e w' => e = .returned (.bool (decide (xs = ys))) ∧ ∃ q, w' = w.drewN q := eqBytes_any w A B n c m d xs ys hx hy

set_option maxHeartbeats 400000 in
theorem bring_any (i n : Int) (w : World) (hn : 0 < n) (hn' : n ≤ 1000000) (h0 : -9223372036854775808 ≤ i) (h1 : i ≤ 9223372036854775807) :
    Calls Try.prog 22 #[.int .i64 i, .int .i64 n] w fun e w' => e = .returned (.int .i64 (i % n)) ∧ w = w' := by
  have h2 : 0 ≤ i % n := Int.emod_nonneg _ (by omega)
  have h3 : i % n < n := Int.emod_lt_of_pos _ hn
  by_cases hi : 0 ≤ i
  · have e : i.tmod n = i % n := Int.tmod_eq_emod_of_nonneg hi
    have E := Lib.hid e
    have hnn : ¬ i.tmod n < 0 := by omega
    go_enter Try.func22, Try.ntmps22
    go_wp2
    all_goals (go_ret; exact ⟨ret_i64 (by first | exact E.out | rfl), rfl⟩)
  · have e : i.tmod n = i % n ∨ i.tmod n = i % n - n := by
      have := Int.tmod_eq_emod (a := i) (b := n)
      rw [this]
      split
      · left; omega
      · right; omega
    have hle : i.tmod n ≤ 0 := by
      have h4 : i.tmod n = -((-i).tmod n) := by rw [Int.neg_tmod]; omega
      have h5 : 0 ≤ (-i).tmod n := Int.tmod_nonneg _ (by omega)
      omega
    by_cases hz : i.tmod n < 0
    · have e2 : wrap64 (i.tmod n + n) = i % n := by
        unfold wrap64
        omega
      have E := Lib.hid e2
      clear e e2
      go_enter Try.func22, Try.ntmps22
      go_wp2
      all_goals (go_ret; exact ⟨ret_i64 (by first | exact E.out | rfl), rfl⟩)
    · have e2 : i.tmod n = i % n := by omega
      have E := Lib.hid e2
      clear e e2
      go_enter Try.func22, Try.ntmps22
      go_wp2
      all_goals (go_ret; exact ⟨ret_i64 (by first | exact E.out | rfl), rfl⟩)

/-- The byte of a number. -/
def byteOf (b : Int) : UInt8 := UInt8.ofNat (b % 256).toNat

theorem byteOf_val (b : Int) : ((byteOf b).toNat : Int) = b % 256 := by
  unfold byteOf
  have h1 : 0 ≤ b % 256 := Int.emod_nonneg _ (by omega)
  have h2 : b % 256 < 256 := Int.emod_lt_of_pos _ (by omega)
  rw [UInt8.toNat_ofNat']
  omega

theorem wrap_u8 (b : Int) : IntKind.u8.wrap b = ((byteOf b).toNat : Int) := by
  rw [byteOf_val]
  simp [IntKind.wrap, IntKind.bits, IntKind.signed]

/-- How long full's list is. -/
def fullLen (short : Int) : Nat := (128 - max 0 (min short 128)).toNat

theorem fullLen_zero : fullLen 0 = 128 := by decide

/-- A row that is being filled: k bytes are in. -/
structure FillAt (w : World) (g n : Nat) (x : UInt8) (k : Nat) (wr : World) : Prop where
  row : wr.heap[g]? = some (.cells (List.replicate k (u8v x) ++ List.replicate (n - k) (u8v 0)).toArray 5 (0, 0))
  below : Below w.heap.size w wr

theorem FillAt.step {w wr : World} {g n : Nat} {x : UInt8} {k : Nat} (h : FillAt w g n x k wr) (hg : w.heap.size ≤ g) (hk : k < n) : FillAt w g n x (k + 1) (wr.setCell ⟨g, k, none⟩ (u8v x)) := by
  refine ⟨?_, h.below.setCell hg _⟩
  rw [heap_set h.row]
  suffices hh : (List.replicate k (u8v x) ++ List.replicate (n - k) (u8v 0)).toArray.setIfInBounds k (u8v x) = (List.replicate (k + 1) (u8v x) ++ List.replicate (n - (k + 1)) (u8v 0)).toArray by rw [hh]
  apply Array.ext'
  simp only [Array.toList_setIfInBounds]
  have e : n - k = (n - (k + 1)) + 1 := by omega
  rw [e, List.replicate_succ (n := n - (k + 1)), List.set_append]
  simp only [List.length_replicate, Nat.lt_irrefl, if_false, Nat.sub_self, List.set_cons_zero]
  rw [List.replicate_succ', List.append_assoc]
  rfl

set_option maxHeartbeats 400000 in
theorem full_any (b short : Int) (w : World) :
    Calls Try.prog 25 #[.int .i64 b, .int .i64 short] w (ClonePost w 5 (fullLen short) (u8vs (List.replicate (fullLen short) (byteOf b)))) := by
  obtain ⟨i0, hi, hz0, hz1, hz2⟩ := info_parts info_u8
  have hn0 : 0 ≤ 128 - max 0 (min short 128) := by omega
  obtain ⟨n, hn⟩ : ∃ n : Nat, 128 - max 0 (min short 128) = n := ⟨_, (Int.toNat_of_nonneg hn0).symm⟩
  have hfl : fullLen short = n := by unfold fullLen; rw [hn]; exact Int.toNat_natCast n
  have hn1 : n ≤ 128 := by omega
  have hmk := fun wx : World => run_make (P := Try.prog) wx 34 5 i0 _ Try.underlying34 hi hz0 .i64 .i64 (n : Int) (n : Int) (by omega) (Int.le_refl _) (by rw [hz2]; omega) (by omega)
  simp only [Int.toNat_natCast, hz1] at hmk
  rw [hfl]
  clear hfl
  go_enter Try.func25, Try.ntmps25
  go_wp2
  have hst : FillAt w w.heap.size n (byteOf b) 0 (w.alloc (.cells (madeCells #[.int .u8 0] n) 5)) := by
    refine ⟨?_, (Below.refl _ w).alloc (Nat.le_refl _) _⟩
    have e : madeCells #[.int .u8 0] n = (List.replicate 0 (u8v (byteOf b)) ++ List.replicate (n - 0) (u8v 0)).toArray := by
      apply Array.ext'
      rw [toList_madeCells_one]
      simp [u8v]
    rw [heap_alloc_new, e]
  generalize w.alloc (.cells (madeCells #[.int .u8 0] n) 5) = W at hst
  have HN := Lib.hid hn; clear hn
  go_loopw [6] (fun i wr => ∃ k : Nat, k ≤ n ∧ i = .int .i64 k ∧ FillAt w w.heap.size n (byteOf b) k wr) (fun i _ => n - (intOf i).toNat)
  case atStart => exact ⟨0, Nat.zero_le _, rfl, hst⟩
  case round =>
    obtain ⟨k, hk, rfl, hf⟩ := hrel
    by_cases hlt : k < n
    · have h2 : (k : Int) < (n : Int) := by omega
      have hc : wr.cell? ⟨w.heap.size, k, none⟩ = some (.int .u8 0) := by
        rw [blk_cell hf.row, List.getElem?_toArray, List.getElem?_append_right (by simp)]
        simp only [List.length_replicate, Nat.sub_self]
        rw [List.getElem?_replicate, if_pos (by omega)]
        rfl
      have hfz : wr.frozen? ⟨w.heap.size, k, none⟩ = false := blk_frozen hf.row k
      have hw8 := wrap_u8 b
      have hstep := hf.step (Nat.le_refl _) hlt
      unfold u8v at hstep
      go_wp2
      go_roundw
      case rel => exact ⟨k + 1, by omega, by go_num, hstep⟩
      case measure => simp [intOf]; omega
    · obtain rfl : k = n := by omega
      have h2 : ¬ (k : Int) < (k : Int) := by omega
      go_wp2
      go_ret
      have hr := hf.row
      simp only [Nat.sub_self, List.replicate_zero, List.append_nil] at hr
      refine ClonePost.mk ⟨by simp [u8vs], .inr ⟨w.heap.size, k, _, rfl, Nat.le_refl _, hr, Nat.le_refl _, by unfold maxLen; omega, by simp, ?_⟩⟩ hf.below
      rw [List.take_of_length_le (by simp)]
      simp [u8vs]
end Go.Proofs.Ytbnflbkaogpnbaa
