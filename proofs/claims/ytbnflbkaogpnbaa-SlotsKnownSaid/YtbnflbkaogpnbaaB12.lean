/- StripFits: the walk. -/
import Derived.Test.YtbnflbkaogpnbaaQA
namespace Go.Proofs.Ytbnflbkaogpnbaa
open Go.RowKit

/-- Of a row of bytes the first m, where m is what there is, K at most. -/
theorem part_low {w : World} {p : Part} (h : p.At w) (K : Nat) : ∃ m, min (p.n : Int) K = (m : Nat) ∧ m ≤ p.n ∧ m ≤ K ∧ (p.xs.take K).length = m ∧ ∀ q, SlAt (w.drewN q) p.A m p.c (u8vs (p.xs.take K)) := by
  have hl : p.xs.length = p.n := by have := h.1.len; simpa [u8vs] using this
  refine ⟨min p.n K, by omega, by omega, by omega, by rw [List.length_take, hl]; omega, fun q => ?_⟩
  have h1 := (h.drewN q).1.low (j := min p.n K) (by omega)
  have e : p.xs.take (min p.n K) = p.xs.take K := by
    by_cases hk : p.n ≤ K
    · rw [Nat.min_eq_left hk, ← hl, List.take_length, List.take_of_length_le (by omega)]
    · rw [Nat.min_eq_right (by omega)]
  rwa [e] at h1

def FitRel (wb : World) (a z f m : Nat) (u i : Value) (wr : World) : Prop :=
  ∃ (k : Nat) (s : St) (d : Dev) (L : List (List UInt8)), i = .int .i64 k ∧ u = .int .i64 s.fin ∧ k ≤ 40 ∧ Sd wb wr z a s d L ∧ s.first = f ∧ s.many = m ∧ d.secs.length = 10 ∧ d.works ≤ 408 * k ∧ ∀ i : Nat, i < f ∨ f + m ≤ i → d.secs[i]? = (Dev.new 10).secs[i]?

set_option maxHeartbeats 4000000 in
set_option maxRecDepth 100000 in
theorem stripFits_walk (w : World) (a0 a1 : Int) (h0 : I64 a0) (h1 : I64 a1) (A : Option Addr) (n c : Nat) (l : List Part) (hl : BytessAt w A n c l) :
    Calls Try.prog 12 #[.agg #[.int .i64 a0, .int .i64 a1], .slice A n c] w (TruePost w) := by
  unfold I64 at h0 h1
  obtain ⟨wb, hwb⟩ : ∃ wb, w.alloc (.cells #[.int .i64 a0, .int .i64 a1] 74) = wb := ⟨_, rfl⟩
  have hkb : Kept [] w wb := by rw [← hwb]; exact Kept.alloc [] _ _
  have hbx : wb.heap[w.heap.size]? = some (.cells #[.int .i64 a0, .int .i64 a1] 74 (0, 0)) := by rw [← hwb]; exact heap_alloc_new _ _
  have hlb := hl.new hkb
  obtain ⟨f, hf⟩ : ∃ f : Nat, 1 + a0 % 8 = f := ⟨(1 + a0 % 8).toNat, by omega⟩
  have hf1 : 1 ≤ f ∧ f ≤ 8 := by omega
  obtain ⟨m, hm⟩ : ∃ m : Nat, 1 + a1 % (9 - (f : Int)) = m := ⟨(1 + a1 % (9 - (f : Int))).toNat, by have := Int.emod_nonneg a1 (show 9 - (f : Int) ≠ 0 by omega); omega⟩
  have hm1 : 1 ≤ m ∧ f + m ≤ 9 := by have h1 := Int.emod_nonneg a1 (show 9 - (f : Int) ≠ 0 by omega); have h2 := Int.emod_lt_of_pos a1 (show 0 < 9 - (f : Int) by omega); omega
  have c0 := fun W => bring_any a0 8 W (by omega) (by omega) h0.1 h0.2
  have c1 := fun W => bring_any a1 (9 - (f : Int)) W (by omega) (by omega) h1.1 h1.2
  have x0 : wb.cell? ⟨w.heap.size, 0, none⟩ = some (.int .i64 a0) := by rw [blk_cell hbx]; rfl
  have x1 : wb.cell? ⟨w.heap.size, 1, none⟩ = some (.int .i64 a1) := by rw [blk_cell hbx]; rfl
  clear h0 h1
  go_enter Try.func12, Try.ntmps12
  go_wp2_with fail
  refine (new_any 10 _ (by omega) (by omega)).mono ?_
  rintro e w1 ⟨a, f1, rfl, hD1, hA1, hN1⟩
  have x0a := (hA1.cell (p := ⟨w.heap.size, 0, none⟩) (World.lt_of_heap hbx) (by simp)).trans x0
  have x1a := (hA1.cell (p := ⟨w.heap.size, 1, none⟩) (World.lt_of_heap hbx) (by simp)).trans x1
  have hq0 : 0 ≤ a0 % 8 ∧ a0 % 8 < 8 := by omega
  have hq1 : 0 ≤ a1 % (9 - (f : Int)) ∧ a1 % (9 - (f : Int)) < 9 := by omega
  clear x0 x1 hbx
  go_wp2_with fail
  refine (c0 _).mono ?_
  rintro e w1 ⟨rfl, rfl⟩
  go_wp2_with fail
  refine (c1 _).mono ?_
  rintro e w1 ⟨rfl, rfl⟩
  go_wp2_with fail
  refine (sd_open0 hD1 (new_calm 10) hA1 hN1 (first := f) (many := m) (by omega) (by show f + m ≤ 10; omega)).mono ?_
  rintro e w2 ⟨z, s, A2, c2, rfl, h2, e1, e2, e3⟩
  clear c0 c1 hf hm x0a x1a hq0 hq1 hD1 hA1 hN1
  go_wp2_with fail
  go_loopw [12, 13] (fun u i wr => FitRel wb a z f m u i wr) (fun _ i _ => 40 - (intOf i).toNat)
  case atStart => exact ⟨0, s, Dev.new 10, [], rfl, by rw [e3]; rfl, by omega, h2, e1, e2, rfl, by decide, fun _ _ => rfl⟩
  case round =>
    obtain ⟨k, s1, d1, L, rfl, rfl, hk, h3, g1, g2, g3, g4, g5⟩ := hrel
    have hlr := hlb.new h3.kept
    by_cases hlt : k < n ∧ k < 40
    · have i1 : (k : Int) < (n : Int) := by omega
      have i2 : (k : Int) < 40 := by omega
      obtain ⟨b, o, p, hA, hbl, hpl, hpa, hcx⟩ := hlr.at_ hlt.1
      obtain ⟨ml, hmin, hml1, hml2, hml3, hsl⟩ := part_low hpa 400
      have hple := hpa.1.le; have hpmx := hpa.1.max; have hpn := hpa.2
      have hcl := hlr.le; have hcm := hlr.max
      unfold maxLen at hpmx hcm
      subst hA
      replace hmin : min (p.n : Int) 400 = (ml : Nat) := hmin
      have hfin := h3.inv.wf.fin
      obtain ⟨u, hu⟩ : ∃ u, s1.fin = u := ⟨_, rfl⟩
      rw [hu, g2] at hfin
      have HU := Lib.hid hu; have G1 := Lib.hid g1; have G2 := Lib.hid g2; have G3 := Lib.hid g3
      rw [hu]
      have hw1 : d1.works < 9223372036854000000 := by omega
      have hbl : (p.xs.take 400).length ≤ 16384 := by omega
      clear hpl hpa hlr hu g1 g2 g3
      by_cases hfit : u + ml + 7 ≤ 128 * m
      · have i3 : (u : Int) + (ml : Int) + 7 ≤ 128 * (m : Int) := by omega
        go_wp2_with fail
        go_quiet (fail)
        go_wp2_with fail
        refine ((h3.next (Kept.drewN [] wr nq)).fits p.A ml p.c (p.xs.take 400) (hsl nq) hpn hbl (by rw [HU.out, G2.out, hml3]; omega) hw1).mono ?_
        rintro e w4 ⟨rfl, s2, d2, h4, k2⟩
        have hs2 : s2.fin = u + (ml + 7) := by rw [k2.fin, HU.out, hml3]
        have hm2 : s2.many = m := by rw [k2.many, G2.out]
        have hf2 : s2.first = f := by rw [k2.first, G1.out]
        have hd2 : d2.secs.length = 10 := by rw [k2.secs, G3.out]
        have hwk2 : d2.works ≤ 408 * ((k + 1 : Nat) : Int) := by have := k2.works; rw [hml3] at this; omega
        have g5' : ∀ i : Nat, i < f ∨ f + m ≤ i → d2.secs[i]? = (Dev.new 10).secs[i]? := fun i hi => (k2.rest i (by rw [G1.out, G2.out]; omega)).trans (g5 i hi)
        have hs3 : (s2.fin : Int) = (u : Int) + (ml : Int) + 7 := by omega
        have cf := h4.fin
        have cl := h4.left
        rw [hs3] at cf cl
        rw [hm2] at cl
        have HS3 := Lib.hid hs3; have HM2 := Lib.hid hm2; have HF2 := Lib.hid hf2; have HD2 := Lib.hid hd2
        clear hs2 hs3 hm2 hf2 hd2 h3
        go_wp2_with fail
        refine cf.mono ?_
        rintro e w5 ⟨rfl, rfl⟩
        clear cf
        go_wp2_with fail
        refine cl.mono ?_
        rintro e w5 ⟨rfl, h5⟩
        clear cl h4
        go_wp2_with fail
        go_roundw
        case rel => exact ⟨k + 1, s2, d2, L ++ [p.xs.take 400], by go_num, by rw [HS3.out], by omega, h5, HF2.out, HM2.out, HD2.out, hwk2, g5'⟩
        case measure => simp [intOf]; omega
      · have i3 : ¬ (u : Int) + (ml : Int) + 7 ≤ 128 * (m : Int) := by omega
        have cf := fun W (h : Sd wb W z a s1 d1 L) => h.fin
        have cl := fun W (h : Sd wb W z a s1 d1 L) => h.left
        rw [HU.out] at cf cl
        rw [G2.out] at cl
        go_wp2_with fail
        go_quiet (fail)
        go_wp2_with fail
        refine ((h3.next (Kept.drewN [] wr nq)).full p.A ml p.c (p.xs.take 400) (hsl nq) hpn hbl (by rw [HU.out, G2.out, hml3]; omega) hw1).mono ?_
        rintro e w4 ⟨rfl, h4⟩
        clear h3
        go_wp2_with fail
        refine (cf _ h4).mono ?_
        rintro e w5 ⟨rfl, rfl⟩
        clear cf
        go_wp2_with fail
        refine (cl _ h4).mono ?_
        rintro e w5 ⟨rfl, h5⟩
        clear cl h4
        go_wp2_with fail
        go_roundw
        case rel => exact ⟨k + 1, s1, d1, L, by go_num, by rw [HU.out], by omega, h5, G1.out, G2.out, G3.out, by omega, g5⟩
        case measure => simp [intOf]; omega
    · have hcase : ¬ (k : Int) < (n : Int) ∨ ((k : Int) < (n : Int) ∧ ¬ (k : Int) < 40) := by omega
      have G3 := Lib.hid g3
      obtain ⟨j0, hj0, ju0, ju1, ju2⟩ := info_parts info_u8
      have hmk := fun wx : World => run_make (P := Try.prog) wx 34 5 j0 _ Try.underlying34 hj0 ju0 .i64 .i64 128 128 (by omega) (Int.le_refl _) (by rw [ju2]; omega) (by omega)
      simp only [ju1, show Int.toNat 128 = 128 from rfl, Nat.mul_one, show (Value.int .u8 0).cells = #[.int .u8 0] from rfl] at hmk
      clear g1 g2 g3 hlr e1 e2 e3 h2
      rcases hcase with i1 | ⟨i1, i2⟩
      all_goals
        go_wp2_with fail
        go_loopw [17] (fun i wx => ∃ j : Nat, j ≤ 10 ∧ i = .int .i64 j ∧ Sd wb wx z a s1 d1 L) (fun i _ => 10 - (intOf i).toNat)
        case atStart => exact ⟨0, Nat.zero_le _, rfl, h3⟩
        case round =>
          obtain ⟨j, hj, rfl, h4⟩ := hrel
          by_cases hj2 : j < 10
          · have i5 : (j : Int) < 10 := by omega
            obtain ⟨fp, hDv, _⟩ := h4.dv
            obtain ⟨bk, hbk⟩ : ∃ b, d1.secs[j]? = some b := ⟨_, List.getElem?_eq_getElem (by rw [G3.out]; exact hj2)⟩
            have cr := read_dv hDv (j : Int) (h4.calm.at0 (by omega) (by rw [G3.out]; omega)) (b := bk) (by simpa using hbk)
            by_cases hout : j < f ∨ f + m ≤ j
            · have hz : bk = List.replicate 128 0 := by
                have h5 := g5 j hout
                rw [hbk] at h5
                simp only [Dev.new, List.getElem?_replicate, hj2, if_true, Option.some.injEq] at h5
                exact h5
              subst hz
              have ce := fun (W : World) (A3 : Option Addr) (c3 : Nat) (h5 : SlAt W A3 128 c3 (u8vs (List.replicate 128 0))) => eqBytes_any (W.alloc (.cells (madeCells #[.int .u8 0] 128) 5)) A3 (some ⟨W.heap.size, 0, none⟩) 128 c3 128 128 _ _ (h5.kept (Kept.alloc [] W _) (by simp)) (made_sl W 128 (by unfold maxLen; omega))
              simp only [decide_true] at ce
              clear hbk hDv
              rcases hout with i6 | i6
              · have i7 : (j : Int) < (f : Int) := by omega
                go_wp2_with fail
                refine cr.mono ?_
                rintro e w5 ⟨A3, c3, rfl, hown3, hbel3⟩
                have hs3 := (ClonePost.sl hown3).1
                have h5 := h4.next (Kept.of_below hbel3)
                clear cr hown3 hbel3 h4
                go_wp2_with fail
                refine (ce _ _ _ hs3).mono ?_
                rintro e w6 ⟨rfl, q, rfl⟩
                have h6 := (h5.next (Kept.alloc [] w5 (.cells (madeCells #[.int .u8 0] 128) 5))).next (Kept.drewN [] _ q)
                clear ce h5
                go_wp2_with fail
                go_roundw
                case rel => exact ⟨j + 1, by omega, by go_num, h6⟩
                case measure => simp [intOf]; omega
              · have i7 : ¬ (j : Int) < (f : Int) := by omega
                have i8 : (f : Int) + (m : Int) ≤ (j : Int) := by omega
                go_wp2_with fail
                refine cr.mono ?_
                rintro e w5 ⟨A3, c3, rfl, hown3, hbel3⟩
                have hs3 := (ClonePost.sl hown3).1
                have h5 := h4.next (Kept.of_below hbel3)
                clear cr hown3 hbel3 h4
                go_wp2_with fail
                refine (ce _ _ _ hs3).mono ?_
                rintro e w6 ⟨rfl, q, rfl⟩
                have h6 := (h5.next (Kept.alloc [] w5 (.cells (madeCells #[.int .u8 0] 128) 5))).next (Kept.drewN [] _ q)
                clear ce h5
                go_wp2_with fail
                go_roundw
                case rel => exact ⟨j + 1, by omega, by go_num, h6⟩
                case measure => simp [intOf]; omega
            · have i7 : ¬ (j : Int) < (f : Int) := by omega
              have i8 : ¬ (f : Int) + (m : Int) ≤ (j : Int) := by omega
              go_wp2_with fail
              refine cr.mono ?_
              rintro e w5 ⟨A3, c3, rfl, hown3, hbel3⟩
              have h5 := h4.next (Kept.of_below hbel3)
              clear cr hown3 hbel3 h4
              go_wp2_with fail
              go_roundw
              case rel => exact ⟨j + 1, by omega, by go_num, h5⟩
              case measure => simp [intOf]; omega
          · have i5 : ¬ (j : Int) < 10 := by omega
            have hk4 := h4.kept
            go_wp2_with fail
            refine (awake12_any _).mono ?_
            rintro e w5 ⟨rfl, hk5⟩
            go_wp2_with fail
            go_ret
            exact ⟨rfl, (hkb.trans hk4).trans hk5⟩
end Go.Proofs.Ytbnflbkaogpnbaa
