/- StripTurned: the walk. -/
import Derived.Test.YtbnflbkaogpnbaaQB
import Derived.Test.YtbnflbkaogpnbaaS5
import Derived.Deep.AppendLies
import Derived.StillTailTactics
namespace Go.Proofs.Ytbnflbkaogpnbaa
set_option linter.unusedVariables false
open Go.RowKit

def TuRel1 (w : World) (z a : Nat) (F : List Nat) (s : St) (d : Dev) (L : List (List UInt8)) (v i : Value) (wr : World) : Prop :=
  ∃ j : Nat, i = .int .i64 j ∧ j ≤ 8 ∧ SdF w wr z a F s d L ∧ RowIn w.heap.size wr 5 F v (128 * j) (u8vs ((d.bytesAt 0).take (128 * j)))

/-- A row of bytes of one's own, written in place. -/
structure BufAt (w : World) (g c : Nat) (X : List UInt8) : Prop where
  cells : ∃ cur, w.heap[g]? = some (.cells cur 5 (0, 0)) ∧ cur.size = c ∧ cur.toList.take X.length = u8vs X
  le : X.length ≤ c
  max : c ≤ maxLen

theorem BufAt.of {base : Nat} {w : World} {F : List Nat} {v : Value} {n : Nat} {X : List UInt8} (h : RowIn base w 5 F v n (u8vs X)) (hn : 0 < n) : ∃ g c, v = .slice (some ⟨g, 0, none⟩) n c ∧ BufAt w g c X ∧ g ∉ F ∧ base ≤ g := by
  obtain ⟨g, c, rfl, hb, hl⟩ := h.own.form hn
  have hX : X.length = n := by have := h.own.1; simpa [u8vs] using this
  refine ⟨g, c, rfl, ?_, h.ne g rfl, hb⟩
  rcases h.own.2 with ⟨e, _⟩ | ⟨g2, c2, cur, e, _, hg, h1, h2, h3, h4⟩
  · cases e
  · cases e
    exact ⟨⟨cur, hg, by simpa using h3, by rw [hX]; simpa using h4⟩, by omega, h2⟩

theorem BufAt.kept {w w' : World} {g c : Nat} {X : List UInt8} {F : List Nat} (h : BufAt w g c X) (hk : Kept F w w') (hF : g ∉ F) : BufAt w' g c X := by
  obtain ⟨cur, h1, h2, h3⟩ := h.cells
  exact ⟨⟨cur, (hk.block g (World.lt_of_heap h1) hF).trans h1, h2, h3⟩, h.le, h.max⟩

theorem BufAt.lt {w : World} {g c : Nat} {X : List UInt8} (h : BufAt w g c X) : g < w.heap.size := by
  obtain ⟨cur, h1, h2, h3⟩ := h.cells
  exact World.lt_of_heap h1

theorem BufAt.cell {w : World} {g c : Nat} {X : List UInt8} (h : BufAt w g c X) {i : Nat} (hi : i < X.length) : w.cell? ⟨g, i, none⟩ = some (u8v (X[i]?.getD 0)) ∧ w.frozen? ⟨g, i, none⟩ = false := by
  obtain ⟨cur, h1, h2, h3⟩ := h.cells
  refine ⟨?_, blk_frozen h1 i⟩
  rw [blk_cell h1]
  have h4 := congrArg (fun l => l[i]?) h3
  simp only [List.getElem?_take, hi, if_true, u8vs, List.getElem?_map] at h4
  rw [← Array.getElem?_toList, h4, List.getElem?_eq_getElem hi]
  rfl

theorem BufAt.sl {w : World} {g c : Nat} {X : List UInt8} (h : BufAt w g c X) : SlAt w (some ⟨g, 0, none⟩) X.length c (u8vs X) :=
  ⟨by simp [u8vs], h.le, h.max, fun _ => ⟨g, 0, rfl, h.lt, fun i hi => by
    rw [Nat.zero_add, (h.cell hi).1]
    simp only [u8vs, List.getElem?_map, List.getElem?_eq_getElem hi]
    rfl⟩⟩

theorem BufAt.set {w : World} {g c : Nat} {X : List UInt8} (h : BufAt w g c X) {i : Nat} (hi : i < X.length) (x : UInt8) : BufAt (w.setCell ⟨g, i, none⟩ (u8v x)) g c (X.set i x) := by
  obtain ⟨cur, h1, h2, h3⟩ := h.cells
  refine ⟨⟨_, heap_set h1 i (u8v x), by simp [h2], ?_⟩, by rw [List.length_set]; exact h.le, h.max⟩
  have e : (cur.setIfInBounds i (u8v x)).toList = cur.toList.set i (u8v x) := by simp
  rw [e, List.length_set, List.take_set, h3]
  simp [u8vs, List.map_set]

theorem turn_bits (a : Int) : ∃ t : Nat, bits .or .u32 (a % 4294967296) 1 = (t : Int) ∧ t < 4294967296 ∧ t.testBit 0 = true := by
  obtain ⟨q, hq⟩ : ∃ q : Nat, a % 4294967296 = q := ⟨(a % 4294967296).toNat, by omega⟩
  have hql : q < 4294967296 := by omega
  refine ⟨q ||| 1, ?_, Nat.or_lt_two_pow (n := 32) (by omega) (by omega), ?_⟩
  · rw [hq]
    exact u32_or_nat q 1 hql (by omega)
  · rw [Nat.testBit_or]; simp

theorem bit_test (t j : Nat) (ht : t < 4294967296) : (bits .and .u32 ((t : Int) / 2 ^ j) 1 == 1) = if t.testBit j = true then true else false := by
  have h1 : ((t : Int) / 2 ^ j) = ((t / 2 ^ j : Nat) : Int) := by push_cast; rfl
  have h2 : t / 2 ^ j < 4294967296 := Nat.lt_of_le_of_lt (Nat.div_le_self _ _) ht
  rw [h1, show (1 : Int) = ((1 : Nat) : Int) from rfl, u32_and_nat _ 1 h2 (by omega), nat_mask1, Nat.testBit_eq_decide_div_mod_eq]
  by_cases h : t / 2 ^ j % 2 = 1
  · simp [h]
  · have h3 : t / 2 ^ j % 2 = 0 := by omega
    simp [h3]

theorem u8_pow {R : Nat} (h : R < 8) : IntKind.u8.wrap (2 ^ R) = ((2 ^ R : Nat) : Int) := by
  have : R = 0 ∨ R = 1 ∨ R = 2 ∨ R = 3 ∨ R = 4 ∨ R = 5 ∨ R = 6 ∨ R = 7 := by omega
  rcases this with rfl | rfl | rfl | rfl | rfl | rfl | rfl | rfl <;> decide

theorem SdF.other {w0 w w' : World} {z a : Nat} {F : List Nat} {s : St} {d : Dev} {L : List (List UInt8)} {g : Nat} (h : SdF w0 w z a F s d L) (hk : Kept [g] w w') (hg : g ∉ F) (hb : w0.heap.size ≤ g) : SdF w0 w' z a F s d L :=
  ⟨h.sd.kept hk (fun j hj hm => by simp at hm; subst hm; exact hg hj), h.low, h.inv, h.calm, h.kept.trans' hk (fun i hi => .inr (by simp at hi; subst hi; exact hb))⟩

def TuRel2 (w : World) (z a : Nat) (F : List Nat) (s : St) (d : Dev) (L : List (List UInt8)) (gB cB k t n : Nat) (X : List UInt8) (i : Value) (wr : World) : Prop :=
  ∃ (j : Nat) (Y : List UInt8), i = .int .i64 j ∧ j ≤ 32 ∧ SdF w wr z a F s d L ∧ BufAt wr gB cB Y ∧ Y.length = X.length ∧ ∀ q, bitOf Y q = xor (bitOf X q) (decide (k ≤ q ∧ q < k + j ∧ q < 24 + 8 * n) && t.testBit (q - k))

def TuRel3 (w : World) (z a gB cB : Nat) (Y : List UInt8) (s : St) (i : Value) (wr : World) : Prop :=
  ∃ (j : Nat) (d : Dev) (F : List Nat), i = .int .i64 j ∧ j ≤ 8 ∧ SdAt wr z a F s d ∧ (∀ q ∈ F, w.heap.size ≤ q) ∧ gB ∉ F ∧ Kept [] w wr ∧ d.Calm ∧ d.secs.length = 8 ∧ d.works ≤ 1000 + j ∧ BufAt wr gB cB Y ∧ ∀ i : Nat, i < j → d.secs[i]? = some ((Y.drop (128 * i)).take 128)

theorem flat_blocks {d : Dev} {Y : List UInt8} (hs : ∀ b ∈ d.secs, b.length = 128) (hl : d.secs.length = 8) (hY : Y.length = 1024) (h : ∀ i : Nat, i < 8 → d.secs[i]? = some ((Y.drop (128 * i)).take 128)) : d.bytesAt 0 = Y := by
  unfold Dev.bytesAt
  rw [List.drop_zero]
  apply List.ext_getElem?
  intro p
  rw [flatten_at _ hs]
  by_cases hp : p < 1024
  · rw [h (p / 128) (by omega), Option.getD_some, List.getElem?_take, if_pos (by omega), List.getElem?_drop, show 128 * (p / 128) + p % 128 = p by omega]
  · rw [List.getElem?_eq_none (show d.secs.length ≤ p / 128 by omega), List.getElem?_eq_none (show Y.length ≤ p by omega)]
    rfl

set_option maxHeartbeats 4000000 in
set_option maxRecDepth 100000 in
theorem stripTurned_walk (w : World) (A : Option Addr) (n c : Nat) (bs : List UInt8) (hb : SlAt w A n c (u8vs bs)) (hA : A = none → c = 0) (a1 : Int) (h1 : I64 a1) (a2 : Int) (h2 : I64 a2) :
    Calls Try.prog 11 #[.slice A n c, .int .i64 a1, .int .i64 a2] w (TruePost w) := by
  unfold I64 at h1 h2
  obtain ⟨j0, hj0, ju0, ju1, ju2⟩ := info_parts info_u8
  have hpl := part_low (w := w) (p := ⟨A, n, c, bs⟩) ⟨hb, hA⟩ 500
  obtain ⟨m, hmin, hm1, hm2, hm3, hsl⟩ := hpl
  replace hmin : min (n : Int) 500 = (m : Nat) := hmin
  simp only at hm1 hm3 hsl
  have hsl0 := hsl 0
  rw [World.drewN_zero] at hsl0
  have hle := hb.le; have hmx := hb.max
  unfold maxLen at hmx
  obtain ⟨data, hdata⟩ : ∃ data, bs.take 500 = data := ⟨_, rfl⟩
  rw [hdata] at hm3 hsl0
  clear hsl hdata hb
  go_enter Try.func11, Try.ntmps11
  go_wp2_with fail
  refine (new_any 8 _ (by omega) (by omega)).mono ?_
  rintro e w1 ⟨a, f1, rfl, hD1, hA1, hN1⟩
  go_wp2_with fail
  refine (openF hD1 (new_calm 8) hA1 hN1 (first := 0) (many := 8) (by omega) (by decide)).mono ?_
  rintro e w2 ⟨z, s, A2, c2, F, rfl, h3, e1, e2, e3⟩
  clear hD1 hA1 hN1
  go_wp2_with fail
  refine (h3.fits A m c data (hsl0.kept h3.kept (by simp)) hA (by omega) (by rw [e2, e3, hm3]; omega) (by decide)).mono ?_
  rintro e w4 ⟨rfl, s2, d2, F2, h4, k2, st⟩
  have hf0 : s2.first = 0 := by rw [k2.first, e1]
  have hfin : s2.fin = m + 7 := by rw [k2.fin, e3, hm3]; omega
  have hd8 : d2.secs.length = 8 := by rw [k2.secs]; rfl
  have hwk : d2.works ≤ 1000 := by
    have h5 := k2.works
    rw [hm3] at h5
    have h6 : (Dev.new 8).works = 0 := rfl
    omega
  have hrec : (d2.bytesAt 0).take (m + 7) = recB data := by
    have h5 := h4.inv.rows
    rw [hf0, hfin] at h5
    rw [h5]
    simp [recs]
  have HF0 := Lib.hid hf0; have HFIN := Lib.hid hfin; have HD8 := Lib.hid hd8; have HREC := Lib.hid hrec; have HM3 := Lib.hid hm3
  clear h3 e1 e2 e3 k2 st hf0 hfin hd8 hrec hsl0 hm3
  go_wp2_with fail
  go_loopw [12, 13] (fun v i wr => TuRel1 w z a F2 s2 d2 ([] ++ [data]) v i wr) (fun _ i _ => 8 - (intOf i).toNat)
  case atStart => exact ⟨0, rfl, by omega, h4, ⟨World.ownsRow_nil _ _ _ _, fun g e => by cases e⟩⟩
  case round =>
    obtain ⟨j, rfl, hj, h5, hr5⟩ := hrel
    clear h4
    by_cases hlt : j < 8
    · have i1 : (j : Int) < 8 := by omega
      obtain ⟨fp, hDv, hFp⟩ := h5.dv
      obtain ⟨bk, hbk⟩ : ∃ b, d2.secs[0 + j]? = some b := ⟨_, List.getElem?_eq_getElem (by rw [HD8.out]; omega)⟩
      have cr := read_dv hDv (j : Int) (h5.calm.at0 (by omega) (by rw [HD8.out]; omega)) (b := bk) (by simpa using hbk)
      have HBK := Lib.hid (bytes_step hDv.wf hbk)
      have hbl : bk.length = 128 := hDv.wf.size bk (List.mem_of_getElem? hbk)
      have hk8 : 128 * j + 128 ≤ maxLen ∧ (128 * j + 128) * 1 ≤ 140737488355328 := by unfold maxLen; omega
      clear hbk hDv
      go_wp2_with fail
      refine cr.mono ?_
      rintro e w6 ⟨A6, c6, rfl, hown6, hbel6⟩
      have hk6 := Kept.of_below (F := []) hbel6
      have h6 := h5.next hk6
      have hr6 := hr5.next hk6
      obtain ⟨g6, cc6, e6, hb6, hl6⟩ := hown6.form (by omega)
      cases e6
      have hs6 := (ClonePost.sl hown6).1
      have hb6 := h6.kept.size
      clear cr hown6 hbel6 h5 hr5
      go_wp2_with (at_builtin; refine Hold.of ?_)
      unfold Hold
      refine wpList_append_lies _ rfl (.tmp 60) (.tmp 61) 34 rfl w.heap.size 5 j0 _ 1 1 Try.underlying34 hj0 ju0 ju1 ju2 rfl (by decide) _ (128 * j) _ rfl hr6.own ⟨g6, 0, none⟩ 128 c6 (u8vs bk) rfl (by simp [u8vs, hbl]) (byte_news hs6) (one_u8s bk) (by omega) hk8.1 hk8.2 hb6 w6.heap.size rfl ?_
      intro g cap w7 hown7 hgrow7 hat7 hlt7
      obtain ⟨hr7, hk7, _⟩ := hr6.push h6.sd.lt (Kept.refl [] w6) hgrow7 hown7 hat7 rfl
      have h7 := h6.row hr6 hk7
      clear hown7 hgrow7 hat7 hlt7 hk7 hr6 h6 hs6
      go_wp2_with fail
      go_roundw
      case rel =>
        refine ⟨j + 1, by go_num, by omega, h7, ?_⟩
        rw [HBK.out]
        have e7 : u8vs ((d2.bytesAt 0).take (128 * j) ++ bk) = u8vs ((d2.bytesAt 0).take (128 * j)) ++ u8vs bk := by simp [u8vs]
        rw [e7]
        exact hr7
      case measure => simp [intOf]; omega
    · have i1 : ¬ (j : Int) < 8 := by omega
      obtain rfl : j = 8 := by omega
      obtain ⟨X, hX⟩ : ∃ X, d2.bytesAt 0 = X := ⟨_, rfl⟩
      have hXl : X.length = 1024 := by rw [← hX, bytesAt_len h5.calm, HD8.out]
      have hXt : (d2.bytesAt 0).take (128 * 8) = X := by rw [hX, List.take_of_length_le (by omega)]
      rw [hXt] at hr5
      obtain ⟨gB, cB, rfl, hB, hBF, hBb⟩ := BufAt.of hr5 (by omega)
      have hBle := hB.le; have hBmx := hB.max
      unfold maxLen at hBmx
      have HX := Lib.hid hX; have HXL := Lib.hid hXl
      have cf := h5.fin
      rw [HFIN.out] at cf
      clear hX hXl hXt hr5
      by_cases hm0 : m = 0
      · subst hm0
        go_wp2_with fail
        refine cf.mono ?_
        rintro e w6 ⟨rfl, rfl⟩
        go_wp2_with fail
        refine (awake12_any _).mono ?_
        rintro e w7 ⟨rfl, hk7⟩
        go_wp2_with fail
        go_ret
        exact ⟨rfl, h5.kept.trans hk7⟩
      · have i2 : ¬ (m : Int) = 0 := by omega
        go_wp2_with fail
        refine cf.mono ?_
        rintro e w6 ⟨rfl, rfl⟩
        clear cf
        obtain ⟨kq, hkq⟩ : ∃ kq : Nat, a1 % (8 * (m : Int)) = kq := ⟨(a1 % (8 * (m : Int))).toNat, by have := Int.emod_nonneg a1 (show 8 * (m : Int) ≠ 0 by omega); omega⟩
        have hkl : kq < 8 * m := by have := Int.emod_lt_of_pos a1 (show 0 < 8 * (m : Int) by omega); omega
        have c0 := fun W => bring_any a1 (8 * (m : Int)) W (by omega) (by omega) h1.1 h1.2
        rw [hkq] at c0
        obtain ⟨t, ht1, ht2, ht3⟩ := turn_bits a2
        have HT3 := Lib.hid ht3
        clear hkq h1 ht3
        go_wp2_with fail
        refine (c0 _).mono ?_
        rintro e w7 ⟨rfl, rfl⟩
        clear c0
        go_wp2_with fail
        clear ht1
        go_loopw [18] (fun i wr => TuRel2 w z a F2 s2 d2 ([] ++ [data]) gB cB (24 + kq) t m X i wr) (fun i _ => 32 - (intOf i).toNat)
        case atStart => exact ⟨0, X, rfl, by omega, h5, hB, rfl, fun q => by rw [decide_eq_false (by omega)]; simp⟩
        case round =>
          obtain ⟨j, Y, rfl, hj, h6, hBY, hYl, hbits⟩ := hrel
          clear h5 hB
          have hXL := HXL.out
          have HB := Lib.hid hbits; have HYL := Lib.hid hYl
          clear hbits hYl
          by_cases hin : j < 32 ∧ 24 + kq + j < 24 + 8 * m
          · have i3 : (j : Int) < 32 := by omega
            have i4 : 24 + (kq : Int) + (j : Int) < 24 + 8 * (m : Int) := by omega
            by_cases hbit : t.testBit j = true
            · have hbt := bit_test t j ht2
              rw [if_pos hbit] at hbt
              obtain ⟨P, hP⟩ : ∃ P, 24 + kq + j = P := ⟨_, rfl⟩
              have hPl : P < 1024 * 8 := by omega
              obtain ⟨D, hD⟩ : ∃ D, P / 8 = D := ⟨_, rfl⟩
              obtain ⟨R, hR⟩ : ∃ R, P % 8 = R := ⟨_, rfl⟩
              have hDl : D < 1024 := by omega
              have hRl : R < 8 := by omega
              have hcb := hBY.cell (i := D) (by rw [HYL.out, hXL]; exact hDl)
              obtain ⟨yv, hyv⟩ : ∃ yv, (Y[D]?.getD 0).toNat = yv := ⟨_, rfl⟩
              have hyl : yv < 256 := by rw [← hyv]; exact (Y[D]?.getD 0).toNat_lt
              have hcd : wr.drew.cell? ⟨gB, D, none⟩ = some (.int .u8 yv) := by rw [← hyv]; exact hcb.1
              obtain ⟨xv, hxv⟩ : ∃ xv, yv ^^^ 2 ^ R = xv := ⟨_, rfl⟩
              have e6 : bits .xor .u8 (yv : Int) (2 ^ R) = (xv : Int) := by
                have h := u8_xor_nat yv (2 ^ R) hyl (Nat.pow_lt_pow_right (a := 2) (n := 8) (by omega) hRl)
                rw [hxv] at h
                rw [← h]
                push_cast
                rfl
              have HYV := Lib.hid hyv; have HXV := Lib.hid hxv
              have hfd : wr.drew.frozen? ⟨gB, D, none⟩ = false := hcb.2
              have i5 : (24 + (kq : Int) + (j : Int)) = (P : Int) := by omega
              have e1 : IntKind.i64.wrap (P : Int) = (P : Int) := by rw [IntKind.wrap_i64]; omega
              have e2 : IntKind.i64.wrap ((P : Int).tdiv 8) = (D : Int) := by rw [IntKind.wrap_i64, Int.tdiv_eq_ediv_of_nonneg (by omega)]; omega
              have e3 : (P : Int).tmod 8 = (R : Int) := by rw [Int.tmod_eq_emod_of_nonneg (by omega)]; omega
              have e4 : IntKind.i64.wrap ((P : Int) / 8) = (D : Int) := by rw [IntKind.wrap_i64]; omega
              have e5 : IntKind.u8.wrap (2 ^ R) = ((2 ^ R : Nat) : Int) := u8_pow hRl
              have i6 : (D : Int) < 1024 := by omega
              have i8 : (R : Int) < 8 := by omega
              have hBR := Lib.hid hBY
              have HDD := Lib.hid hD; have HRR := Lib.hid hR; have HPP := Lib.hid hP
              clear hD hR hP hcb hBY hyv hxv
              go_wp2_with fail
              refine wp_region_calm (S := (fun _ => True)) (by kernel_rfl) trivial (fun hHeld => ?_)
              refine wpAnyH_take (i := 0) (v := ?_) (by simp only [List.getElem?_toArray, List.getElem?_cons_zero]; rfl) (by kernel_rfl) (by kernel_rfl) (by kernel_rfl) (by exact fun _ _ _ h => h) (Or.inl ⟨by rfl, ?_⟩) hHeld ?_
              rotate_left
              · intro w hSw
                try dsimp only at hSw
                go_simp
                all_goals with_reducible rfl
              try simp only [Act.put, List.setIfInBounds_toArray, List.set_cons_zero, List.set_cons_succ]
              refine wpAnyH_take (i := 1) (v := ?_) (by simp only [List.getElem?_toArray, List.getElem?_cons_succ, List.getElem?_cons_zero]; rfl) (by kernel_rfl) (by kernel_rfl) (by kernel_rfl) (by exact fun _ _ _ h => h) (Or.inl ⟨by rfl, ?_⟩) hHeld ?_
              rotate_left
              · intro w hSw
                try dsimp only at hSw
                go_simp
                all_goals with_reducible rfl
              try simp only [Act.put, List.setIfInBounds_toArray, List.set_cons_zero, List.set_cons_succ]
              refine wpAnyH_take (i := 2) (v := ?_) (by simp only [List.getElem?_toArray, List.getElem?_cons_succ, List.getElem?_cons_zero]; rfl) (by kernel_rfl) (by kernel_rfl) (by kernel_rfl) (by exact fun _ _ _ h => h) (Or.inl ⟨by rfl, ?_⟩) hHeld ?_
              rotate_left
              · intro w hSw
                try dsimp only at hSw
                go_simp
                all_goals with_reducible rfl
              try simp only [Act.put, List.setIfInBounds_toArray, List.set_cons_zero, List.set_cons_succ]
              refine wpAnyH_take (i := 3) (v := ?_) (by simp only [List.getElem?_toArray, List.getElem?_cons_succ, List.getElem?_cons_zero]; rfl) (by kernel_rfl) (by kernel_rfl) (by kernel_rfl) (by exact fun _ _ _ h => h) (Or.inl ⟨by rfl, ?_⟩) hHeld ?_
              rotate_left
              · intro w hSw
                try dsimp only at hSw
                go_simp
                all_goals with_reducible rfl
              try simp only [Act.put, List.setIfInBounds_toArray, List.set_cons_zero, List.set_cons_succ]
              try simp only [e1, e2, e3, e4, e5]
              refine wpAnyH_take (i := 4) (v := ?_) (by simp only [List.getElem?_toArray, List.getElem?_cons_succ, List.getElem?_cons_zero]; rfl) (by kernel_rfl) (by kernel_rfl) (by kernel_rfl) (by exact fun _ _ _ h => h) (Or.inl ⟨by rfl, ?_⟩) hHeld ?_
              rotate_left
              · intro w hSw
                try dsimp only at hSw
                go_simp
                all_goals with_reducible rfl
              try simp only [Act.put, List.setIfInBounds_toArray, List.set_cons_zero, List.set_cons_succ]
              try simp only [e1, e2, e3, e4, e5]
              refine wpAnyH_take (i := 5) (v := ?_) (by simp only [List.getElem?_toArray, List.getElem?_cons_succ, List.getElem?_cons_zero]; rfl) (by kernel_rfl) (by kernel_rfl) (by kernel_rfl) (by exact fun _ _ _ h => h) (Or.inl ⟨by rfl, ?_⟩) hHeld ?_
              rotate_left
              · intro w hSw
                try dsimp only at hSw
                go_simp
                all_goals with_reducible rfl
              try simp only [Act.put, List.setIfInBounds_toArray, List.set_cons_zero, List.set_cons_succ]
              refine wpAnyH_take (i := 6) (v := ?_) (by simp only [List.getElem?_toArray, List.getElem?_cons_succ, List.getElem?_cons_zero]; rfl) (by kernel_rfl) (by kernel_rfl) (by kernel_rfl) (by exact fun _ _ _ h => h) (Or.inl ⟨by rfl, ?_⟩) hHeld ?_
              rotate_left
              · intro w hSw
                try dsimp only at hSw
                go_simp
                all_goals with_reducible rfl
              try simp only [Act.put, List.setIfInBounds_toArray, List.set_cons_zero, List.set_cons_succ]
              refine wpAnyH_take (i := 7) (v := ?_) (by simp only [List.getElem?_toArray, List.getElem?_cons_succ, List.getElem?_cons_zero]; rfl) (by kernel_rfl) (by kernel_rfl) (by kernel_rfl) (by exact fun _ _ _ h => h) (Or.inl ⟨by rfl, ?_⟩) hHeld ?_
              rotate_left
              · intro w hSw
                try dsimp only at hSw
                go_simp
                all_goals with_reducible rfl
              try simp only [Act.put, List.setIfInBounds_toArray, List.set_cons_zero, List.set_cons_succ]
              refine wpAnyH_take (i := 8) (v := ?_) (by simp only [List.getElem?_toArray, List.getElem?_cons_succ, List.getElem?_cons_zero]; rfl) (by kernel_rfl) (by kernel_rfl) (by kernel_rfl) (by exact fun _ _ _ h => h) (Or.inl ⟨by rfl, ?_⟩) hHeld ?_
              rotate_left
              · intro w hSw
                try dsimp only at hSw
                go_simp
                all_goals with_reducible rfl
              try simp only [Act.put, List.setIfInBounds_toArray, List.set_cons_zero, List.set_cons_succ]
              try simp only [e1, e2, e3, e4, e5]
              refine wpAnyH_take (i := 9) (v := ?_) (by simp only [List.getElem?_toArray, List.getElem?_cons_succ, List.getElem?_cons_zero]; rfl) (by kernel_rfl) (by kernel_rfl) (by kernel_rfl) (by exact fun _ _ _ h => h) (Or.inl ⟨by rfl, ?_⟩) hHeld ?_
              rotate_left
              · intro w hSw
                try dsimp only at hSw
                go_simp
                all_goals with_reducible rfl
              try simp only [Act.put, List.setIfInBounds_toArray, List.set_cons_zero, List.set_cons_succ]
              try simp only [e1, e2, e3, e4, e5]
              refine wpAnyH_take (i := 10) (v := ?_) (by simp only [List.getElem?_toArray, List.getElem?_cons_succ, List.getElem?_cons_zero]; rfl) (by kernel_rfl) (by kernel_rfl) (by kernel_rfl) (by exact fun _ _ _ h => h) (Or.inl ⟨by rfl, ?_⟩) hHeld ?_
              rotate_left
              · intro w hSw
                try dsimp only at hSw
                go_simp
                all_goals with_reducible rfl
              try simp only [Act.put, List.setIfInBounds_toArray, List.set_cons_zero, List.set_cons_succ]
              refine wpAnyH_take (i := 12) (v := ?_) (by simp only [List.getElem?_toArray, List.getElem?_cons_succ, List.getElem?_cons_zero]; rfl) (by kernel_rfl) (by kernel_rfl) (by kernel_rfl) (by exact fun _ _ _ h => h) (Or.inl ⟨by rfl, ?_⟩) hHeld ?_
              rotate_left
              · intro w hSw
                try dsimp only at hSw
                go_simp
                all_goals with_reducible rfl
              try simp only [Act.put, List.setIfInBounds_toArray, List.set_cons_zero, List.set_cons_succ]
              refine wpAnyH_take (i := 13) (v := ?_) (by simp only [List.getElem?_toArray, List.getElem?_cons_succ, List.getElem?_cons_zero]; rfl) (by kernel_rfl) (by kernel_rfl) (by kernel_rfl) (by exact fun _ _ _ h => h) (Or.inl ⟨by rfl, ?_⟩) hHeld ?_
              rotate_left
              · intro w hSw
                try dsimp only at hSw
                go_simp
                all_goals with_reducible rfl
              try simp only [Act.put, List.setIfInBounds_toArray, List.set_cons_zero, List.set_cons_succ]
              refine wpAnyH_take (i := 14) (v := ?_) (by simp only [List.getElem?_toArray, List.getElem?_cons_succ, List.getElem?_cons_zero]; rfl) (by kernel_rfl) (by kernel_rfl) (by kernel_rfl) (by exact fun _ _ _ h => h) (Or.inl ⟨by rfl, ?_⟩) hHeld ?_
              rotate_left
              · intro w hSw
                try dsimp only at hSw
                go_simp
                all_goals with_reducible rfl
              try simp only [Act.put, List.setIfInBounds_toArray, List.set_cons_zero, List.set_cons_succ]
              try simp only [e1, e2, e3, e4, e5]
              refine wpAnyH_take (i := 15) (v := ?_) (by simp only [List.getElem?_toArray, List.getElem?_cons_succ, List.getElem?_cons_zero]; rfl) (by kernel_rfl) (by kernel_rfl) (by kernel_rfl) (by exact fun _ _ _ h => h) (Or.inl ⟨by rfl, ?_⟩) hHeld ?_
              rotate_left
              · intro w hSw
                try dsimp only at hSw
                go_simp
                all_goals with_reducible rfl
              try simp only [Act.put, List.setIfInBounds_toArray, List.set_cons_zero, List.set_cons_succ]
              try simp only [e1, e2, e3, e4, e5]
              refine wpAnyH_take (i := 16) (v := ?_) (by simp only [List.getElem?_toArray, List.getElem?_cons_succ, List.getElem?_cons_zero]; rfl) (by kernel_rfl) (by kernel_rfl) (by kernel_rfl) (by exact fun _ _ _ h => h) (Or.inl ⟨by rfl, ?_⟩) hHeld ?_
              rotate_left
              · intro w hSw
                try dsimp only at hSw
                go_simp
                all_goals with_reducible rfl
              try simp only [Act.put, List.setIfInBounds_toArray, List.set_cons_zero, List.set_cons_succ]
              try simp only [e1, e2, e3, e4, e5]
              refine wpAnyH_ready (rs := [11]) (by kernel_rfl) (by simp) ?_
              refine AllReadyH.cons (by simp only [List.getElem?_toArray, List.getElem?_cons_succ, List.getElem?_cons_zero]; rfl) (fun K hK => ?_) AllReadyH.nil
              go_simp

              go_wp2_with fail
              refine hK.out _ _ ?_ (fun hHeld2 => ?_)
              · exact trivial
              clear hK K hHeld
              have hHeld := hHeld2
              clear hHeld2
              try simp only [Act.put, List.setIfInBounds_toArray, List.set_cons_zero, List.set_cons_succ]
              refine wpAnyH_take (i := 17) (v := ?_) (by simp only [List.getElem?_toArray, List.getElem?_cons_succ, List.getElem?_cons_zero]; rfl) (by kernel_rfl) (by kernel_rfl) (by kernel_rfl) (by exact fun _ _ _ h => h) (Or.inl ⟨by rfl, ?_⟩) hHeld ?_
              rotate_left
              · intro w hSw
                try dsimp only at hSw
                go_simp
                all_goals with_reducible rfl
              try simp only [Act.put, List.setIfInBounds_toArray, List.set_cons_zero, List.set_cons_succ]
              try simp only [e6]
              refine wpAnyH_take (i := 18) (v := ?_) (by simp only [List.getElem?_toArray, List.getElem?_cons_succ, List.getElem?_cons_zero]; rfl) (by kernel_rfl) (by kernel_rfl) (by kernel_rfl) (by exact fun _ _ _ h => h) (Or.inl ⟨by rfl, ?_⟩) hHeld ?_
              rotate_left
              · intro w hSw
                try dsimp only at hSw
                go_simp
                all_goals with_reducible rfl
              try simp only [Act.put, List.setIfInBounds_toArray, List.set_cons_zero, List.set_cons_succ]
              refine wpAnyH_ready (rs := [19]) (by kernel_rfl) (by simp) ?_
              refine AllReadyH.cons (by simp only [List.getElem?_toArray, List.getElem?_cons_succ, List.getElem?_cons_zero]; rfl) (fun K hK => ?_) AllReadyH.nil
              go_simp
              refine hK.out _ _ ?_ (fun hHeld2 => ?_)
              · exact trivial
              clear hK K hHeld
              have hHeld := hHeld2
              clear hHeld2
              try simp only [Act.put, List.setIfInBounds_toArray, List.set_cons_zero, List.set_cons_succ]
              refine wpAnyH_calm (by kernel_rfl) ?_ _
              clear hHeld hcd hfd
              go_wp2_with fail
              go_roundw
              case rel =>
                have hks : Kept [gB] wr (wr.setCell ⟨gB, D, none⟩ (.int .u8 xv)).drew := (Kept.setCell (by simp) _).trans (Kept.drew _ _)
                have hfl : flip Y P = Y.set D (UInt8.ofNat xv) := by
                  unfold flip
                  rw [HDD.out, HRR.out, HYV.out, HXV.out]
                have hxl : xv < 256 := by rw [← HXV.out]; exact Nat.xor_lt_two_pow (n := 8) hyl (Nat.pow_lt_pow_right (a := 2) (n := 8) (by omega) hRl)
                have hBn : BufAt (wr.setCell ⟨gB, D, none⟩ (.int .u8 xv)).drew gB cB (flip Y P) := by
                  have h8 := (hBR.out.set (i := D) (by rw [HYL.out, hXL]; exact hDl) (UInt8.ofNat xv)).kept (Kept.drew [] _) (by simp)
                  rw [hfl]
                  have e8 : u8v (UInt8.ofNat xv) = .int .u8 xv := by unfold u8v; rw [UInt8.toNat_ofNat', Nat.mod_eq_of_lt (by omega)]
                  rw [e8] at h8
                  exact h8
                refine ⟨j + 1, flip Y P, by go_num, by omega, h6.other hks hBF hBb, hBn, by rw [length_flip, HYL.out], fun q => ?_⟩
                rw [bitOf_flip (by rw [HYL.out, hXL]; omega), HB.out q, Bool.xor_assoc]
                congr 1
                have hPP := HPP.out
                by_cases hq : q = P
                · subst hq
                  rw [decide_eq_false (by omega), decide_eq_true (rfl : q = q), decide_eq_true (by omega), show q - (24 + kq) = j by omega, hbit]
                  rfl
                · rw [decide_eq_false hq, Bool.xor_false]
                  congr 1
                  apply decide_eq_decide.2
                  omega
              case measure => simp [intOf]; omega
            · have hbt := bit_test t j ht2
              rw [if_neg hbit] at hbt
              go_wp2_with fail
              go_roundw
              case rel => exact ⟨j + 1, Y, by go_num, by omega, h6, hBY, HYL.out, fun q => by
                rw [HB.out q]
                by_cases hq : q = 24 + kq + j
                · subst hq
                  simp only [Nat.add_sub_cancel_left, Bool.eq_false_iff.2 hbit, Bool.and_false]
                · congr 2
                  apply decide_eq_decide.2
                  omega⟩
              case measure => simp [intOf]; omega
          · have hcase : ¬ (j : Int) < 32 ∨ ((j : Int) < 32 ∧ ¬ 24 + (kq : Int) + (j : Int) < 24 + 8 * (m : Int)) := by omega
            have hall : ∀ q, bitOf Y q = xor (bitOf X q) (decide (24 + kq ≤ q ∧ q < 24 + kq + 32 ∧ q < 24 + 8 * m) && t.testBit (q - (24 + kq))) := fun q => by
              rw [HB.out q]
              congr 2
              apply decide_eq_decide.2
              omega
            have hXR := HX.out
            have hrecX : X.take (m + 7) = recB data := by rw [← hXR]; exact HREC.out
            have hno := turned_of (HM3.out) (by omega) (X := X) (Y := Y) (by rw [hXL]; omega) HYL.out hrecX (k := 24 + kq) (t := t) (by omega) (by omega) HT3.out hall
            have HNO := Lib.hid hno
            have hsd := h6.sd; have hlow := h6.low; have hkpt := h6.kept; have hcm := h6.calm
            clear hall hrecX hno HB hXR h6
            rcases hcase with i3 | ⟨i3, i4⟩
            all_goals
              go_wp2_with fail
              go_loopw [19] (fun i wx => TuRel3 w z a gB cB Y s2 i wx) (fun i _ => 8 - (intOf i).toNat)
              case atStart => exact ⟨0, d2, F2, rfl, by omega, hsd, hlow, hBF, hkpt, hcm, HD8.out, by omega, hBY, fun _ h => by omega⟩
              case round =>
                obtain ⟨v, d3, F3, rfl, hv, hsd3, hlow3, hBF3, hk3, hcm3, hl3, hw3, hB3, hrow⟩ := hrel
                clear hsd hlow hkpt hBY
                have hYl := HYL.out
                by_cases hlt : v < 8
                · have i5 : (v : Int) < 8 := by omega
                  have hcut := hB3.sl.cut (i := 128 * v) (j := 128 * v + 128) (by omega) (by omega)
                  rw [show 128 * v + 128 - 128 * v = 128 by omega] at hcut
                  simp only [Nat.zero_add] at hcut
                  obtain ⟨bk, hbk⟩ : ∃ bk, (Y.drop (128 * v)).take 128 = bk := ⟨_, rfl⟩
                  have hbk2 : (Y.take (128 * v + 128)).drop (128 * v) = bk := by rw [List.drop_take, show 128 * v + 128 - 128 * v = 128 by omega, hbk]
                  have hbl : bk.length = 128 := by rw [← hbk, List.length_take, List.length_drop]; omega
                  rw [hbk2] at hcut
                  obtain ⟨k1, k2, k3, k4, _⟩ := hcm3.write (i := v) (by omega) hbl
                  obtain ⟨d4, hd4⟩ : ∃ d4, (d3.midst v bk).counted = d4 := ⟨_, rfl⟩
                  rw [hd4] at k1 k2 k3 k4
                  have hcw := sd_dv hsd3 (f := 24) (args := #[.pointer (some ⟨a, 0, none⟩), .int .i64 v, .slice (some ⟨gB, 128 * v, none⟩) 128 (cB - 128 * v)]) (r := d3.write (v : Int) bk) (fun fp hD hF => write_dv hD (v : Int) bk _ 128 _ hcut (fun p e hm => by cases e; exact hBF3 (hF _ hm)) (by omega))
                  rw [k1] at hcw
                  have i6 : 128 * v ≤ 128 * v + 128 := by omega
                  have i7 : 128 * v + 128 ≤ cB := by omega
                  have i8 : ¬ cB = 128 * v := by omega
                  have HR := Lib.hid hrow; have HBK := Lib.hid hbk; have HL3 := Lib.hid hl3; have K3 := Lib.hid k3; have HYL2 := Lib.hid hYl
                  clear hcut hbk2 hbk k1 hd4 hrow hl3 k3 hYl hbl
                  go_wp2_with fail
                  refine hcw.mono ?_
                  rintro e w8 ⟨rfl, F8, g8, y1, y2⟩
                  clear hcw
                  have hgl := hB3.lt
                  have hB8 := hB3.kept y1 hBF3
                  have hBF8 : gB ∉ F8 := fun hm => by
                    rcases y2 _ hm with e | e
                    · exact hBF3 e
                    · omega
                  have hlow8 : ∀ q ∈ F8, w.heap.size ≤ q := fun q hq => by
                    rcases y2 q hq with e | e
                    · exact hlow3 q e
                    · have := hk3.size; omega
                  have hk8 : Kept [] w w8 := hk3.trans' y1 (fun q hq => .inr (hlow3 q hq))
                  clear hB3 y1 y2 hsd3
                  go_wp2_with fail
                  go_roundw
                  case rel => exact ⟨v + 1, d4, F8, by go_num, by omega, g8, hlow8, hBF8, hk8, k2, by rw [K3.out, List.length_set, HL3.out], by push_cast; omega, hB8, fun q hq => by
                    rw [K3.out]
                    by_cases e : q = v
                    · subst e
                      rw [List.getElem?_set_self (by rw [HL3.out]; omega), HBK.out]
                    · rw [List.getElem?_set_ne (fun e2 => e e2.symm), HR.out q (by omega)]⟩
                  case measure => simp [intOf]; omega
                · have i5 : ¬ (v : Int) < 8 := by omega
                  obtain rfl : v = 8 := by omega
                  have hby : d3.bytesAt 0 = Y := flat_blocks hcm3.size hl3 (by rw [hYl, hXL]) hrow
                  have hnr : NoRecs ((d3.bytesAt 0).take (m + 7)) := by rw [hby]; exact HNO.out
                  obtain ⟨fp3, sp3, hD3, _⟩ := hsd3.parts
                  have co := open_no hD3 hcm3 (first := 0) (many := 8) (fin := m + 7) (by omega) (by rw [hl3]; omega) (by omega) hnr
                  have ce := sd_end hsd3
                  rw [HFIN.out] at ce
                  rw [show ((m + 7 : Nat) : Int) = (m : Int) + 7 by push_cast; rfl] at co ce
                  clear hby hnr hrow hl3 hB3 hYl
                  go_wp2_with fail
                  refine ce.mono ?_
                  rintro e w8 ⟨rfl, rfl⟩
                  go_wp2_with fail
                  refine co.mono ?_
                  rintro e w9 ⟨rfl, k9⟩
                  clear ce co
                  go_wp2_with fail
                  refine (awake12_any _).mono ?_
                  rintro e w10 ⟨rfl, hk10⟩
                  go_wp2_with fail
                  go_ret
                  exact ⟨rfl, (hk3.trans k9).trans hk10⟩
end Go.Proofs.Ytbnflbkaogpnbaa
