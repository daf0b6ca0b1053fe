/- The examples of chapter 12: awake. -/
import Derived.Test.YtbnflbkaogpnbaaQ3
import Derived.Test.YtbnflbkaogpnbaaA0
import Derived.Lib.SlBytesConst
namespace Go.Proofs.Ytbnflbkaogpnbaa
open Go.RowKit

def abc : List UInt8 := [97, 98, 99]

theorem recs_abc : recs [abc, []] = recB abc ++ recB [] := by simp [recs]

theorem new_calm (n : Nat) : (Dev.new n).Calm := Dev.Calm.new n

set_option maxHeartbeats 4000000 in
set_option maxRecDepth 100000 in
theorem awake12_any (w : World) : Calls Try.prog 45 #[] w (TruePost w) := by
  obtain ⟨j0, hj0, ju0, ju1, ju2⟩ := info_parts info_u8
  have hm1 := fun wx : World => run_make (P := Try.prog) wx 34 5 j0 _ Try.underlying34 hj0 ju0 .i64 .i64 361 361 (by omega) (Int.le_refl _) (by rw [ju2]; omega) (by omega)
  have hm2 := fun wx : World => run_make (P := Try.prog) wx 34 5 j0 _ Try.underlying34 hj0 ju0 .i64 .i64 360 360 (by omega) (Int.le_refl _) (by rw [ju2]; omega) (by omega)
  simp only [ju1, show Int.toNat 361 = 361 from rfl, show Int.toNat 360 = 360 from rfl, Nat.mul_one, show (Value.int .u8 0).cells = #[.int .u8 0] from rfl] at hm1 hm2
  have kc := fun (w : World) (C : Array Value) (n c : Nat) => Lib.run_convert_bytes_const (P := Try.prog) w 34 5 C n c Try.underlying34 Try.underlying5
  go_enter Try.func45, Try.ntmps45
  go_wp2_with fail
  refine (new_any 4 _ (by omega) (by omega)).mono ?_
  rintro e w1 ⟨a, f1, rfl, hD1, hA1, hN1⟩
  go_wp2_with fail
  refine (sd_open0 hD1 (new_calm 4) hA1 hN1 (first := 1) (many := 3) (by omega) (by simp [Dev.new])).mono ?_
  rintro e w2 ⟨z, s, A, c, rfl, h2, e1, e2, e3⟩
  have E1 := Lib.hid e1; have E2 := Lib.hid e2; have E3 := Lib.hid e3
  clear e1 e2 e3 hD1
  go_wp2_with fail
  refine ((h2.next (Kept.alloc [] w2 (.cells #[.int .u8 97, .int .u8 98, .int .u8 99] 5 (3, 4)))).fits _ 3 3 abc (SlAt.blk (heap_alloc_new _ _) rfl (by unfold maxLen; omega)) (fun e => by cases e) (by decide) (by rw [E3.out, E2.out]; decide) (by decide)).mono ?_
  rintro e w3 ⟨rfl, s1, d1, h3, k1⟩
  have n1 : s1.first = 1 ∧ s1.many = 3 ∧ s1.fin = 10 ∧ d1.secs.length = 4 ∧ d1.works ≤ 11 := ⟨by rw [k1.first, E1.out], by rw [k1.many, E2.out], by rw [k1.fin, E3.out]; rfl, by rw [k1.secs]; rfl, by have := k1.works; exact this⟩
  have N1 := Lib.hid n1
  clear n1 k1 h2 hA1 hN1 E1 E2 E3
  go_wp2_with fail
  refine (h3.fits none 0 0 [] ⟨rfl, Nat.le_refl _, by unfold maxLen; omega, fun h => by omega⟩ (fun _ => rfl) (by decide) (by rw [N1.out.2.2.1, N1.out.2.1]; decide) (by have := N1.out.2.2.2.2; omega)).mono ?_
  rintro e w4 ⟨rfl, s2, d2, h4, k2⟩
  have n2 : s2.first = 1 ∧ s2.many = 3 ∧ s2.fin = 17 ∧ d2.secs.length = 4 ∧ d2.works ≤ 20 := ⟨by rw [k2.first, N1.out.1], by rw [k2.many, N1.out.2.1], by rw [k2.fin, N1.out.2.2.1]; rfl, by rw [k2.secs, N1.out.2.2.2.1], by have := k2.works; have := N1.out.2.2.2.2; simp only [List.length_nil] at *; omega⟩
  have N2 := Lib.hid n2
  clear n2 k2 h3 N1
  have hfin := h4.fin
  rw [N2.out.2.2.1] at hfin
  go_wp2_with fail
  refine hfin.mono ?_
  rintro e w5 ⟨rfl, rfl⟩
  have hleft := h4.left
  rw [N2.out.2.2.1, N2.out.2.1] at hleft
  clear hfin
  go_wp2_with fail
  refine hleft.mono ?_
  rintro e w5 ⟨rfl, h5⟩
  clear hleft h4
  have hrow := h5.inv.rows
  rw [N2.out.1, N2.out.2.2.1] at hrow
  have hsm : Small [abc, []] := by simp [Small, abc]
  have hrow2 : (d2.bytesAt 1).take 17 = recs [abc, []] := hrow
  have hlen : (recs [abc, []]).length = 17 := by decide
  have hr10 : (d2.bytesAt 1).take 10 = recs [abc] := by
    have h1 : ((d2.bytesAt 1).take 17).take 10 = (d2.bytesAt 1).take 10 := by rw [List.take_take]; rfl
    rw [← h1, hrow2]
    decide
  have hr11 : NoRecs ((d2.bytesAt 1).take 11) := by
    have h1 : ((d2.bytesAt 1).take 17).take 11 = (d2.bytesAt 1).take 11 := by rw [List.take_take]; rfl
    rw [← h1, hrow2]
    rcases recs_take hsm (n := 11) (by rw [hlen]; decide) with ⟨i, hi, e, _⟩ | ⟨h, _⟩
    · exfalso
      have hi2 : i = 0 ∨ i = 1 ∨ i = 2 := by simp at hi; omega
      rcases hi2 with rfl | rfl | rfl <;> revert e <;> decide
    · exact h
  have HR0 := Lib.hid hrow2; have HR1 := Lib.hid hr10
  clear hrow hrow2 hr10
  go_wp2_with fail
  have h5a := h5.next (Kept.alloc [] w5 (.cells #[.string ⟨#[97, 98, 99]⟩, .string ⟨#[]⟩] 9))
  obtain ⟨fa, hDa, _⟩ := h5a.dv
  refine (opens_ok hDa h5a.calm (fin := 17) (by rw [N2.out.2.2.2.1]; omega) (by omega) hsm HR0.out _ 2 2 (strs_sl w5 9 [abc, []] (by unfold maxLen; simp))).mono ?_
  rintro e w6 ⟨rfl, hk6⟩
  have h6 := h5a.next hk6
  clear h5 h5a hDa hk6
  go_wp2_with fail
  have h6a := h6.next (Kept.alloc [] w6 (.cells #[.string ⟨#[97, 98, 99]⟩] 9))
  obtain ⟨fb, hDb, _⟩ := h6a.dv
  refine (opens_ok hDb h6a.calm (fin := 10) (by rw [N2.out.2.2.2.1]; omega) (by omega) (Small.one (by decide)) HR1.out _ 1 1 (strs_sl w6 9 [abc] (by unfold maxLen; simp))).mono ?_
  rintro e w7 ⟨rfl, hk7⟩
  have h7 := h6a.next hk7
  clear h6 h6a hDb hk7
  go_wp2_with fail
  obtain ⟨fc, hDc, _⟩ := h7.dv
  refine (opens_no hDc h7.calm (fin := 11) (by rw [N2.out.2.2.2.1]; omega) (by omega) hr11).mono ?_
  rintro e w8 ⟨rfl, hk8⟩
  have h8 := h7.next hk8
  clear h7 hDc hk8
  have hz : d2.at_ 0 = 0 := h8.calm.at0 (Int.le_refl 0) (by rw [N2.out.2.2.2.1]; decide)
  have hb1 : openBad d2 2 3 0 = 9 := by unfold openBad; rw [hz, if_neg (by simp), if_pos (by rw [N2.out.2.2.2.1]; omega)]
  have hb2 : openBad d2 1 3 385 = 2 := by unfold openBad; rw [hz, if_neg (by simp), if_neg (by rw [N2.out.2.2.2.1]; omega), if_pos (by omega)]
  have HB1 := Lib.hid hb1; have HB2 := Lib.hid hb2
  clear hz hb1 hb2
  go_wp2_with fail
  obtain ⟨fd, hDd, _⟩ := h8.dv
  refine (open_bad hDd 2 3 0 (by unfold I64; omega) (by unfold I64; omega) (by unfold I64; omega) HB1.out (by decide)).mono ?_
  rintro e w9 ⟨rfl, hk9⟩
  have h9 := h8.next hk9
  clear h8 hDd hk9
  go_wp2_with fail
  obtain ⟨fe, hDe, _⟩ := h9.dv
  refine (open_bad hDe 1 3 385 (by unfold I64; omega) (by unfold I64; omega) (by unfold I64; omega) HB2.out (by decide)).mono ?_
  rintro e wa ⟨rfl, hka⟩
  have ha := h9.next hka
  clear h9 hDe hka
  go_wp2_with fail
  refine ((ha.next (Kept.alloc [] wa (.cells (madeCells #[.int .u8 0] 361) 5))).full _ 361 361 (List.replicate 361 0) (made_sl wa 361 (by unfold maxLen; omega)) (fun e => by cases e) (by rw [List.length_replicate]; omega) (by rw [List.length_replicate, N2.out.2.2.1, N2.out.2.1]; omega) (by have := N2.out.2.2.2.2; omega)).mono ?_
  rintro e wb ⟨rfl, hb⟩
  clear ha
  go_wp2_with fail
  refine ((hb.next (Kept.alloc [] wb (.cells (madeCells #[.int .u8 0] 360) 5))).fits _ 360 360 (List.replicate 360 0) (made_sl wb 360 (by unfold maxLen; omega)) (fun e => by cases e) (by rw [List.length_replicate]; omega) (by rw [List.length_replicate, N2.out.2.2.1, N2.out.2.1]; omega) (by have := N2.out.2.2.2.2; omega)).mono ?_
  rintro e wc ⟨rfl, s3, d3, hc, _⟩
  have hkc := hc.kept
  clear hb hc
  go_wp2_with fail
  go_ret
  exact ⟨rfl, hkc⟩
end Go.Proofs.Ytbnflbkaogpnbaa
