/- Texts in one: V5 V4b V4. -/
import Derived.Test.YtbnflbkaogpnbaaVA
import Derived.Lib.QuoteBits
import Derived.Deep.CutRange
/- strip.cut: what its value promises. -/
namespace Go.Proofs.Ytbnflbkaogpnbaa
open Go.RowKit Go.Shelf

/-- What cut gives: a record's bytes, copied; or that there is none. -/
structure CutX where
  A : Option Addr
  n : Nat
  c : Nat
  xs : List UInt8
  ok : Bool

def CutX.vals (x : CutX) : Array Value := #[.slice x.A x.n x.c, .bool x.ok]
def badX : CutX := ⟨none, 0, 0, [], false⟩

/-- What is said of it. -/
def CutG (X0 : World) (x : CutX) (X : World) : Prop :=
  x.ok = true → SlAt X x.A x.n x.c (u8vs x.xs) ∧ (∀ p, x.A = some p → X0.heap.size ≤ p.block ∧ p.block < X.heap.size) ∧ (x.A = none → x.c = 0) ∧ x.n ≤ 16384

def CutGs (b : List UInt8) (pre : List CutX) (X0 : World) (x : CutX) (X : World) : Prop := pre.length ≤ b.length ∧ CutG X0 x X

theorem recs_many : ∀ l : List (List UInt8), l.length ≤ (recs l).length
  | [] => Nat.le_refl _
  | b :: l => by
    have := recs_many l
    rw [recs_cons, List.length_append, length_recB, List.length_cons]
    omega

def CutS (b : List UInt8) (l : List CutX) : Prop :=
  ((∀ x ∈ l, x.ok = true) ∧ b = recs (l.map CutX.xs) ∧ Small (l.map CutX.xs)) ∨ ∃ p x, l = p ++ [x] ∧ x.ok = false ∧ NoRecs b
def CutSp (b : List UInt8) (l : List CutX) : Prop := ∃ p x, l = p ++ [x] ∧ (x.ok = false → NoRecs b)

theorem SlAt.cut {w : World} {b o n c : Nat} {xs : List UInt8} (h : SlAt w (some ⟨b, o, none⟩) n c (u8vs xs)) {i j : Nat} (hij : i ≤ j) (hj : j ≤ n) : SlAt w (some ⟨b, o + i, none⟩) (j - i) (c - i) (u8vs ((xs.take j).drop i)) := by
  have hl : xs.length = n := by simpa [u8vs] using h.len
  have hnc := h.le
  refine ⟨by simp [u8vs, hl]; omega, by omega, by have := h.max; omega, fun hn => ?_⟩
  obtain ⟨b2, o2, e, hb, hc⟩ := h.cells (by omega)
  cases e
  refine ⟨b, o + i, rfl, hb, fun k hk => ?_⟩
  rw [Nat.add_assoc, hc (i + k) (by omega)]
  simp only [u8vs, List.getElem?_map, List.getElem?_drop, List.getElem?_take]
  rw [if_pos (by omega)]

theorem wrap_i64_lt (n : Nat) (h : n < 9223372036854775808) : IntKind.i64.wrap (n : Int) = (n : Int) := by rw [IntKind.wrap_i64]; omega

theorem i64_or_nat (a b : Nat) (ha : a < 4294967296) (hb : b < 4294967296) : bits .or .i64 (a : Int) (b : Int) = ((a ||| b : Nat) : Int) := by
  have hx : a ||| b < 2 ^ 32 := Nat.or_lt_two_pow (by omega) (by omega)
  show IntKind.i64.wrap ((BitVec.ofInt 64 (a : Int) ||| BitVec.ofInt 64 (b : Int)).toNat : Int) = _
  rw [BitVec.toNat_or, ofInt_u64 a (by omega), ofInt_u64 b (by omega)]
  exact wrap_i64_lt _ (by omega)

theorem or_head (y0 y1 y2 : UInt8) (tl : List UInt8) : bits .or .i64 (bits .or .i64 (wrap64 (wrap64 (y0.toNat : Int) * 65536)) (wrap64 (wrap64 (y1.toNat : Int) * 256))) (wrap64 (y2.toNat : Int)) = ((size3 (y0 :: y1 :: y2 :: tl) : Nat) : Int) := by
  have h0 := y0.toNat_lt; have h1 := y1.toNat_lt; have h2 := y2.toNat_lt
  have e0 : wrap64 (wrap64 (y0.toNat : Int) * 65536) = ((y0.toNat * 65536 : Nat) : Int) := by unfold wrap64; omega
  have e1 : wrap64 (wrap64 (y1.toNat : Int) * 256) = ((y1.toNat * 256 : Nat) : Int) := by unfold wrap64; omega
  have e2 : wrap64 (y2.toNat : Int) = ((y2.toNat : Nat) : Int) := by unfold wrap64; omega
  rw [e0, e1, e2, i64_or_nat _ _ (by omega) (by omega), nat_join 16 (y0.toNat * 65536) (y1.toNat * 256) (by omega) (by omega), i64_or_nat _ _ (by omega) (by omega), nat_join 8 _ _ (by omega) (by omega)]
  rfl

theorem row_nil {w : World} {base : Nat} {t : TypeId} {A : Option Addr} {n c : Nat} {xs : List Value} (h : w.ownsRow base t 1 (.slice A n c) n xs) (e : A = none) : c = 0 := by
  subst e
  rcases h.2 with ⟨e, _⟩ | ⟨g, cap, cur, e, _⟩
  · injection e
  · cases e

theorem SlAt.stays {w w' : World} {b o n c : Nat} {xs : List Value} (h : SlAt w (some ⟨b, o, none⟩) n c xs) (hb : w'.heap[b]? = w.heap[b]?) (hs : w.heap.size ≤ w'.heap.size) : SlAt w' (some ⟨b, o, none⟩) n c xs :=
  ⟨h.len, h.le, h.max, fun hn => by
    obtain ⟨b2, o2, e, hl, hc⟩ := h.cells hn
    cases e
    exact ⟨b, o, rfl, Nat.lt_of_lt_of_le hl hs, fun i hi => (World.cell?_of_block (a := ⟨b, o + i, none⟩) hb).trans (hc i hi)⟩⟩

/-- The state of cut at a round's head. -/
def CutAt (W : World) (Bb : Nat) (R : List Nat) (b0 : List UInt8) (J : List CutX → World → Prop) (wr : World) : Prop :=
  ∃ (pre : List CutX) (rest : List UInt8) (A : Option Addr) (m c : Nat), J pre wr ∧ (∀ x ∈ pre, x.ok = true) ∧ b0 = recs (pre.map CutX.xs) ++ rest ∧ Small (pre.map CutX.xs) ∧ wr.heap[Bb]? = some (.cells #[.slice A m c] 34 (0, 0)) ∧
    SlAt wr A m c (u8vs rest) ∧ (∀ p, A = some p → p.block ∈ R ∧ p.block ≠ Bb) ∧ W.heap.size ≤ wr.heap.size

def cutLeft (Bb : Nat) (wr : World) : Nat := match wr.cell? ⟨Bb, 0, none⟩ with
  | some (.slice _ m _) => m
  | _ => 0

attribute [local go_sem] Oper.semAt_some

set_option maxRecDepth 100000 in
set_option maxHeartbeats 4000000 in
theorem cut1_in (n : Nat) (hn : 1 ≤ n) (l Bb : Nat) (R : List Nat) (hBR : Bb ∈ R) (b0 : List UInt8) (hb0 : b0.length ≤ 100000000) (A0 : Option Addr) (m0 c0 : Nat) (J Jx : List CutX → World → Prop) (W : World)
    (hBb : W.heap[Bb]? = some (.cells #[.slice A0 m0 c0] 34 (0, 0))) (hs0 : SlAt W A0 m0 c0 (u8vs b0)) (hA0 : ∀ p, A0 = some p → p.block ∈ R ∧ p.block ≠ Bb)
    (hJ : ∀ s X Y, J s X → Kept [Bb] X Y → J s Y)
    (hY : ∀ pre x X0 X, J pre X0 → W.heap.size ≤ X0.heap.size → Kept [Bb] X0 X → CutGs b0 pre X0 x X → YieldAt Fence.wide (n - 1) Try.prog l x.vals X fun e Y =>
      (e = .returned (.bool true) ∧ J (pre ++ [x]) Y ∧ Stays R X Y) ∨ (e = .returned (.bool false) ∧ Jx (pre ++ [x]) Y ∧ X.heap.size ≤ Y.heap.size))
    (h0 : J [] W) :
    CallsIn Fence.wide n Try.prog 109 #[.func (.yield l) #[] #[], .pointer (some ⟨Bb, 0, none⟩)] W fun e Y => (∃ v, e = .returned v) ∧
      ((∃ ys, CutS b0 ys ∧ J ys Y) ∨ (∃ pre, CutSp b0 pre ∧ Jx pre Y)) := by
  refine callsIn_of_wp Try.func109 rfl trivial ?_ rfl
  simp only [Try.ntmps109, List.size_toArray, List.length_cons, List.length_nil, Nat.reduceAdd, Nat.reduceSub, Array.replicate_succ, Array.replicate_zero, List.push_toArray, List.append_toArray, List.nil_append, List.cons_append]
  gi_wp2
  gi_loopw [3] (fun _ wr => CutAt W Bb R b0 J wr) (fun _ wr => cutLeft Bb wr)
  case atStart => exact ⟨[], b0, A0, m0, c0, h0, by simp, by simp [recs_nil], by simp [Small], hBb, hs0, hA0, Nat.le_refl _⟩
  case round =>
    obtain ⟨pre, rest, A, m, c, hJs, hok, hb, hsm, hBw, hsl, hAR, hsz⟩ := hrel
    have hpl : pre.length ≤ b0.length := by
      have h1 := recs_many (pre.map CutX.xs)
      rw [hb, List.length_append]
      rw [List.length_map] at h1
      omega
    have hrl : rest.length = m := by simpa [u8vs] using hsl.len
    have hmc := hsl.le; have hcm := hsl.max
    unfold maxLen at hcm
    have hm1 : m ≤ 100000000 := by
      have := congrArg List.length hb
      rw [List.length_append] at this
      omega
    have cb : wr.cell? ⟨Bb, 0, none⟩ = some (.slice A m c) := by rw [blk_cell hBw]; rfl
    have cf : wr.frozen? ⟨Bb, 0, none⟩ = false := blk_frozen hBw 0
    by_cases hm0 : m = 0
    · subst hm0
      obtain rfl : rest = [] := List.length_eq_zero_iff.1 hrl
      gi_wp2
      go_end0
      exact ⟨⟨_, rfl⟩, .inl ⟨pre, .inl ⟨hok, by simpa using hb, hsm⟩, hJs⟩⟩
    · have i0 : 0 < (m : Int) := by omega
      obtain ⟨blk, o, rfl, hbl, hcells⟩ := hsl.cells (by omega)
      have hrne : rest ≠ [] := fun e => by rw [e] at hrl; simp at hrl; omega
      by_cases h7 : m < 7
      · have i1 : (m : Int) < 7 := by omega
        have hno : NoRecs b0 := by rw [hb]; exact noRecs_behind hsm (noRecs_short hrne (by omega))
        obtain ⟨fn, tmps, assign, body, hy, hR⟩ := hY pre badX wr wr hJs hsz (Kept.refl _ _) ⟨hpl, fun h => by cases h⟩
        dsimp only [CutX.vals, badX] at hy
        gi_wp2
        refine hR.mono ?_
        clear hR hy
        rintro e W3 (⟨rfl, hJ3, hk3⟩ | ⟨rfl, hJx3, hsz3⟩)
        · gi_wp2
          refine bodyPost_ret (results_none rfl _ _ _) rfl ?_
          exact ⟨⟨_, rfl⟩, .inl ⟨_, .inr ⟨pre, badX, rfl, rfl, hno⟩, hJ3⟩⟩
        · gi_wp2
          refine bodyPost_ret (results_none rfl _ _ _) rfl ?_
          exact ⟨⟨_, rfl⟩, .inr ⟨_, ⟨pre, badX, rfl, fun _ => hno⟩, hJx3⟩⟩
      · have i1 : ¬ (m : Int) < 7 := by omega
        obtain ⟨y0, y1, y2, tl, rfl⟩ : ∃ y0 y1 y2 tl, rest = y0 :: y1 :: y2 :: tl := by
          rcases rest with _ | ⟨y0, _ | ⟨y1, _ | ⟨y2, tl⟩⟩⟩
          · simp at hrl; omega
          · simp at hrl; omega
          · simp at hrl; omega
          · exact ⟨y0, y1, y2, tl, rfl⟩
        have g0 : wr.cell? ⟨blk, o, none⟩ = some (.int .u8 (y0.toNat : Int)) := (hcells 0 (by omega)).trans (by simp [u8vs, u8v])
        have g1 : wr.cell? ⟨blk, o + 1, none⟩ = some (.int .u8 (y1.toNat : Int)) := (hcells 1 (by omega)).trans (by simp [u8vs, u8v])
        have g2 : wr.cell? ⟨blk, o + 2, none⟩ = some (.int .u8 (y2.toNat : Int)) := (hcells 2 (by omega)).trans (by simp [u8vs, u8v])
        have i2 : (2 : Int) < (m : Int) := by omega
        have i3 : (1 : Int) < (m : Int) := by omega
        gi_wp2
        refine wpIn_wide.2 ?_
        go_region
        have hsz3 := or_head y0 y1 y2 tl
        rw [hsz3]
        clear hsz3 g0 g1 g2 i2 i3
        generalize hk3 : size3 (y0 :: y1 :: y2 :: tl) = k at *
        generalize y0 :: y1 :: y2 :: tl = rest at *
        by_cases hbig : 16384 < k
        · have i4 : (16384 : Int) < (k : Int) := by omega
          have hd1 : decide ((16384 : Int) < (k : Int)) = true := decide_eq_true i4
          have hno : NoRecs b0 := by rw [hb]; exact noRecs_behind hsm (noRecs_great hrne (by omega))
          gi_wp2
          refine wpIn_wide.2 ?_
          go_quiet (fail)
          obtain ⟨fn, tmps, assign, body, hy, hR⟩ := hY pre badX wr (wr.drewN (1 + nq)) hJs hsz (Kept.drewN _ wr _) ⟨hpl, fun h => by cases h⟩
          dsimp only [CutX.vals, badX] at hy
          gi_wp2
          refine hR.mono ?_
          clear hR hy
          rintro e W3 (⟨rfl, hJ3, hk3⟩ | ⟨rfl, hJx3, hsz3⟩)
          · gi_wp2
            refine bodyPost_ret (results_none rfl _ _ _) rfl ?_
            exact ⟨⟨_, rfl⟩, .inl ⟨_, .inr ⟨pre, badX, rfl, rfl, hno⟩, hJ3⟩⟩
          · gi_wp2
            refine bodyPost_ret (results_none rfl _ _ _) rfl ?_
            exact ⟨⟨_, rfl⟩, .inr ⟨_, ⟨pre, badX, rfl, fun _ => hno⟩, hJx3⟩⟩
        · by_cases hshort : m < k + 7
          · have i4 : ¬ (16384 : Int) < (k : Int) := by omega
            have i5 : (m : Int) < (k : Int) + 7 := by omega
            have hd1 : decide ((16384 : Int) < (k : Int)) = false := decide_eq_false i4
            have hd2 : decide ((m : Int) < (k : Int) + 7) = true := decide_eq_true i5
            clear i4 i5
            have hno : NoRecs b0 := by rw [hb]; exact noRecs_behind hsm (noRecs_cut hrne (by omega))
            gi_wp2
            refine wpIn_wide.2 ?_
            go_quiet (fail)
            obtain ⟨fn, tmps, assign, body, hy, hR⟩ := hY pre badX wr (wr.drewN (1 + nq)) hJs hsz (Kept.drewN _ wr _) ⟨hpl, fun h => by cases h⟩
            dsimp only [CutX.vals, badX] at hy
            gi_wp2
            refine hR.mono ?_
            clear hR hy
            rintro e W3 (⟨rfl, hJ3, hk3⟩ | ⟨rfl, hJx3, hsz3⟩)
            · gi_wp2
              refine bodyPost_ret (results_none rfl _ _ _) rfl ?_
              exact ⟨⟨_, rfl⟩, .inl ⟨_, .inr ⟨pre, badX, rfl, rfl, hno⟩, hJ3⟩⟩
            · gi_wp2
              refine bodyPost_ret (results_none rfl _ _ _) rfl ?_
              exact ⟨⟨_, rfl⟩, .inr ⟨_, ⟨pre, badX, rfl, fun _ => hno⟩, hJx3⟩⟩
          · have i4 : ¬ (16384 : Int) < (k : Int) := by omega
            have i5 : ¬ (m : Int) < (k : Int) + 7 := by omega
            have hd1 : decide ((16384 : Int) < (k : Int)) = false := decide_eq_false i4
            have hd2 : decide ((m : Int) < (k : Int) + 7) = false := decide_eq_false i5
            have hw7 : IntKind.i64.wrap ((k : Int) + 7) = (k : Int) + 7 := by rw [IntKind.wrap_i64]; omega
            have hw3 : IntKind.i64.wrap (3 + (k : Int)) = 3 + (k : Int) := by rw [IntKind.wrap_i64]; omega
            have hs1 : (0 ≤ 3 + (k : Int) ∧ 3 + (k : Int) ≤ (c : Int)) = True := by simp only [eq_iff_iff, iff_true]; omega
            have hs2 : (3 ≤ max (3 + (k : Int)) 0) = True := by simp only [eq_iff_iff, iff_true]; omega
            have hs3 : (c = 3) = False := by simp only [eq_iff_iff, iff_false]; omega
            have hs4 : (3 + (k : Int)).toNat - 3 = k := by omega
            have hs5 : (0 ≤ (k : Int) + 7 ∧ (k : Int) + 7 ≤ (c : Int)) = True := by simp only [eq_iff_iff, iff_true]; omega
            have hs6 : ((k : Int) + 7).toNat = k + 7 := by omega
            have hkw := (Kept.drew [] wr).trans (Kept.drew [] _)
            have hsd := hsl.kept hkw (by simp)
            have hbody := hsd.cut (i := 3) (j := 3 + k) (by omega) (by omega)
            rw [show 3 + k - 3 = k by omega, List.drop_take, show 3 + k - 3 = k by omega] at hbody
            have hwhole := hsd.cut (i := 0) (j := k + 7) (by omega) (by omega)
            simp only [Nat.add_zero, Nat.sub_zero, List.drop_zero] at hwhole
            gi_wp2
            refine wpIn_wide.2 ?_
            refine wp_region_calm (S := (fun W => W.cell? ⟨Bb, 0, none⟩ = some (.slice (some ⟨blk, o, none⟩) m c))) (by kernel_rfl) cb (fun hHeld => ?_)
            refine wpAnyH_take (i := 0) (v := ?_) (by simp only [List.getElem?_toArray, List.getElem?_cons_zero]; rfl) (by kernel_rfl) (by kernel_rfl) (by kernel_rfl) (by exact fun _ _ _ h => h) (Or.inl ⟨by rfl, ?_⟩) hHeld ?_
            rotate_left
            · intro w hSw
              try dsimp only at hSw
              go_simp
              all_goals with_reducible rfl
            try simp only [Act.put, List.setIfInBounds_toArray, List.set_cons_zero, List.set_cons_succ]
            refine wpAnyH_take (i := 1) (v := ?_) (by simp only [List.getElem?_toArray, List.getElem?_cons_succ, List.getElem?_cons_zero]; rfl) (by kernel_rfl) (by kernel_rfl) (by kernel_rfl) (by exact fun _ _ _ h => h) (Or.inl ⟨by rfl, ?_⟩) hHeld ?_
            rotate_left
            · intro w hSw
              try dsimp only at hSw
              go_simp
              all_goals with_reducible rfl
            try simp only [Act.put, List.setIfInBounds_toArray, List.set_cons_zero, List.set_cons_succ]
            try simp only [hd1]
            refine wpAnyH_take (i := 2) (v := ?_) (by simp only [List.getElem?_toArray, List.getElem?_cons_succ, List.getElem?_cons_zero]; rfl) (by kernel_rfl) (by kernel_rfl) (by kernel_rfl) (by exact fun _ _ _ h => h) (Or.inl ⟨by rfl, ?_⟩) hHeld ?_
            rotate_left
            · intro w hSw
              try dsimp only at hSw
              go_simp
              all_goals with_reducible rfl
            try simp only [Act.put, List.setIfInBounds_toArray, List.set_cons_zero, List.set_cons_succ]
            refine wpAnyH_take (i := 3) (v := ?_) (by simp only [List.getElem?_toArray, List.getElem?_cons_succ, List.getElem?_cons_zero]; rfl) (by kernel_rfl) (by kernel_rfl) (by kernel_rfl) (by exact fun _ _ _ h => h) (Or.inl ⟨by rfl, ?_⟩) hHeld ?_
            rotate_left
            · intro w hSw
              try dsimp only at hSw
              go_simp
              all_goals with_reducible rfl
            try simp only [Act.put, List.setIfInBounds_toArray, List.set_cons_zero, List.set_cons_succ]
            refine wpAnyH_take (i := 4) (v := ?_) (by simp only [List.getElem?_toArray, List.getElem?_cons_succ, List.getElem?_cons_zero]; rfl) (by kernel_rfl) (by kernel_rfl) (by kernel_rfl) (by exact fun _ _ _ h => h) (Or.inl ⟨by rfl, ?_⟩) hHeld ?_
            rotate_left
            · intro w hSw
              try dsimp only at hSw
              go_simp
              all_goals with_reducible rfl
            try simp only [Act.put, List.setIfInBounds_toArray, List.set_cons_zero, List.set_cons_succ]
            refine wpAnyH_take (i := 5) (v := ?_) (by simp only [List.getElem?_toArray, List.getElem?_cons_succ, List.getElem?_cons_zero]; rfl) (by kernel_rfl) (by kernel_rfl) (by kernel_rfl) (by exact fun _ _ _ h => h) (Or.inl ⟨by rfl, ?_⟩) hHeld ?_
            rotate_left
            · intro w hSw
              try dsimp only at hSw
              go_simp
              all_goals with_reducible rfl
            try simp only [Act.put, List.setIfInBounds_toArray, List.set_cons_zero, List.set_cons_succ]
            refine wpAnyH_take (i := 6) (v := ?_) (by simp only [List.getElem?_toArray, List.getElem?_cons_succ, List.getElem?_cons_zero]; rfl) (by kernel_rfl) (by kernel_rfl) (by kernel_rfl) (by exact fun _ _ _ h => h) (Or.inl ⟨by rfl, ?_⟩) hHeld ?_
            rotate_left
            · intro w hSw
              try dsimp only at hSw
              go_simp
              all_goals with_reducible rfl
            try simp only [Act.put, List.setIfInBounds_toArray, List.set_cons_zero, List.set_cons_succ]
            try simp only [hw7]
            refine wpAnyH_take (i := 7) (v := ?_) (by simp only [List.getElem?_toArray, List.getElem?_cons_succ, List.getElem?_cons_zero]; rfl) (by kernel_rfl) (by kernel_rfl) (by kernel_rfl) (by exact fun _ _ _ h => h) (Or.inl ⟨by rfl, ?_⟩) hHeld ?_
            rotate_left
            · intro w hSw
              try dsimp only at hSw
              go_simp
              all_goals with_reducible rfl
            try simp only [Act.put, List.setIfInBounds_toArray, List.set_cons_zero, List.set_cons_succ]
            try simp only [hd2]
            refine wpAnyH_take (i := 8) (v := ?_) (by simp only [List.getElem?_toArray, List.getElem?_cons_succ, List.getElem?_cons_zero]; rfl) (by kernel_rfl) (by kernel_rfl) (by kernel_rfl) (by exact fun _ _ _ h => h) (Or.inl ⟨by rfl, ?_⟩) hHeld ?_
            rotate_left
            · intro w hSw
              try dsimp only at hSw
              go_simp
              all_goals with_reducible rfl
            try simp only [Act.put, List.setIfInBounds_toArray, List.set_cons_zero, List.set_cons_succ]
            refine wpAnyH_take (i := 9) (v := ?_) (by simp only [List.getElem?_toArray, List.getElem?_cons_succ, List.getElem?_cons_zero]; rfl) (by kernel_rfl) (by kernel_rfl) (by kernel_rfl) (by exact fun _ _ _ h => h) (Or.inl ⟨by rfl, ?_⟩) hHeld ?_
            rotate_left
            · intro w hSw
              try dsimp only at hSw
              go_simp
              all_goals with_reducible rfl
            try simp only [Act.put, List.setIfInBounds_toArray, List.set_cons_zero, List.set_cons_succ]
            refine wpAnyH_take (i := 10) (v := ?_) (by simp only [List.getElem?_toArray, List.getElem?_cons_succ, List.getElem?_cons_zero]; rfl) (by kernel_rfl) (by kernel_rfl) (by kernel_rfl) (by exact fun _ _ _ h => h) (Or.inl ⟨by rfl, ?_⟩) hHeld ?_
            rotate_left
            · intro w hSw
              try dsimp only at hSw
              go_simp
              all_goals with_reducible rfl
            try simp only [Act.put, List.setIfInBounds_toArray, List.set_cons_zero, List.set_cons_succ]
            refine wpAnyH_take (i := 11) (v := ?_) (by simp only [List.getElem?_toArray, List.getElem?_cons_succ, List.getElem?_cons_zero]; rfl) (by kernel_rfl) (by kernel_rfl) (by kernel_rfl) (by exact fun _ _ _ h => h) (Or.inl ⟨by rfl, ?_⟩) hHeld ?_
            rotate_left
            · intro w hSw
              try dsimp only at hSw
              go_simp
              all_goals with_reducible rfl
            try simp only [Act.put, List.setIfInBounds_toArray, List.set_cons_zero, List.set_cons_succ]
            refine wpAnyH_take (i := 12) (v := ?_) (by simp only [List.getElem?_toArray, List.getElem?_cons_succ, List.getElem?_cons_zero]; rfl) (by kernel_rfl) (by kernel_rfl) (by kernel_rfl) (by exact fun _ _ _ h => h) (Or.inl ⟨by rfl, ?_⟩) hHeld ?_
            rotate_left
            · intro w hSw
              try dsimp only at hSw
              go_simp
              all_goals with_reducible rfl
            try simp only [Act.put, List.setIfInBounds_toArray, List.set_cons_zero, List.set_cons_succ]
            try simp only [hw3]
            refine wpAnyH_take (i := 13) (v := ?_) (by simp only [List.getElem?_toArray, List.getElem?_cons_succ, List.getElem?_cons_zero]; rfl) (by kernel_rfl) (by kernel_rfl) (by kernel_rfl) (by exact fun _ _ _ h => h) (Or.inl ⟨by rfl, ?_⟩) hHeld ?_
            rotate_left
            · intro w hSw
              try dsimp only at hSw
              go_simp
              try simp only [hs1, hs2, hs3, hs4, if_true, if_false]
              all_goals with_reducible rfl
            try simp only [Act.put, List.setIfInBounds_toArray, List.set_cons_zero, List.set_cons_succ]
            refine wpAnyH_take (i := 15) (v := ?_) (by simp only [List.getElem?_toArray, List.getElem?_cons_succ, List.getElem?_cons_zero]; rfl) (by kernel_rfl) (by kernel_rfl) (by kernel_rfl) (by exact fun _ _ _ h => h) (Or.inl ⟨by rfl, ?_⟩) hHeld ?_
            rotate_left
            · intro w hSw
              try dsimp only at hSw
              go_simp
              all_goals with_reducible rfl
            try simp only [Act.put, List.setIfInBounds_toArray, List.set_cons_zero, List.set_cons_succ]
            refine wpAnyH_take (i := 16) (v := ?_) (by simp only [List.getElem?_toArray, List.getElem?_cons_succ, List.getElem?_cons_zero]; rfl) (by kernel_rfl) (by kernel_rfl) (by kernel_rfl) (by exact fun _ _ _ h => h) (Or.inl ⟨by rfl, ?_⟩) hHeld ?_
            rotate_left
            · intro w hSw
              try dsimp only at hSw
              go_simp
              all_goals with_reducible rfl
            try simp only [Act.put, List.setIfInBounds_toArray, List.set_cons_zero, List.set_cons_succ]
            refine wpAnyH_take (i := 17) (v := ?_) (by simp only [List.getElem?_toArray, List.getElem?_cons_succ, List.getElem?_cons_zero]; rfl) (by kernel_rfl) (by kernel_rfl) (by kernel_rfl) (by exact fun _ _ _ h => h) (Or.inl ⟨by rfl, ?_⟩) hHeld ?_
            rotate_left
            · intro w hSw
              try dsimp only at hSw
              go_simp
              all_goals with_reducible rfl
            try simp only [Act.put, List.setIfInBounds_toArray, List.set_cons_zero, List.set_cons_succ]
            try simp only [hw7]
            refine wpAnyH_take (i := 18) (v := ?_) (by simp only [List.getElem?_toArray, List.getElem?_cons_succ, List.getElem?_cons_zero]; rfl) (by kernel_rfl) (by kernel_rfl) (by kernel_rfl) (by exact fun _ _ _ h => h) (Or.inl ⟨by rfl, ?_⟩) hHeld ?_
            rotate_left
            · intro w hSw
              try dsimp only at hSw
              go_simp
              try simp only [hs5, hs6, if_true]
              all_goals with_reducible rfl
            try simp only [Act.put, List.setIfInBounds_toArray, List.set_cons_zero, List.set_cons_succ]
            refine wpAnyH_ready (rs := [14]) (by kernel_rfl) (by simp) ?_
            refine AllReadyH.cons (by simp only [List.getElem?_toArray, List.getElem?_cons_succ, List.getElem?_cons_zero]; rfl) (fun K hK => ?_) AllReadyH.nil
            go_simp
            refine (record_any _ _ k _ ((rest.drop 3).take k) hbody (fun e => by cases e) (by omega)).mono ?_
            rintro e w4 ⟨AR, cR, rfl, hownR, hbelR⟩
            have hk4 := Kept.of_below (F := []) hbelR
            have hsR := (ClonePost.sl hownR).1
            have hwhole4 := hwhole.kept hk4 (by simp)
            have cb4 := (hk4.cell (p := ⟨Bb, 0, none⟩) (World.lt_of_heap hBw) (by simp)).trans cb
            clear hownR hbelR
            go_wp2_with fail
            refine hK.out _ _ ?_ (fun hHeld2 => ?_)
            · exact cb4
            clear hK K hHeld
            have hHeld := hHeld2
            clear hHeld2
            try simp only [Act.put, List.setIfInBounds_toArray, List.set_cons_zero, List.set_cons_succ]
            refine wpAnyH_ready (rs := [19]) (by kernel_rfl) (by simp) ?_
            refine AllReadyH.cons (by simp only [List.getElem?_toArray, List.getElem?_cons_succ, List.getElem?_cons_zero]; rfl) (fun K hK => ?_) AllReadyH.nil
            go_simp
            refine (bytesEqual_any _ AR _ _ cR _ c (recB ((rest.drop 3).take k)) (rest.take (k + 7)) hsR hwhole4 (by omega) (by omega)).mono ?_
            rintro e w5 ⟨rfl, rfl⟩
            go_wp2_with fail
            refine hK.out _ _ ?_ (fun hHeld2 => ?_)
            · exact cb4
            clear hK K hHeld
            have hHeld := hHeld2
            clear hHeld2
            try simp only [Act.put, List.setIfInBounds_toArray, List.set_cons_zero, List.set_cons_succ]
            refine wpAnyH_take (i := 20) (v := ?_) (by simp only [List.getElem?_toArray, List.getElem?_cons_succ, List.getElem?_cons_zero]; rfl) (by kernel_rfl) (by kernel_rfl) (by kernel_rfl) (by exact fun _ _ _ h => h) (Or.inl ⟨by rfl, ?_⟩) hHeld ?_
            rotate_left
            · intro w hSw
              try dsimp only at hSw
              go_simp
              all_goals with_reducible rfl
            try simp only [Act.put, List.setIfInBounds_toArray, List.set_cons_zero, List.set_cons_succ]
            refine wpAnyH_take (i := 21) (v := ?_) (by simp only [List.getElem?_toArray, List.getElem?_cons_succ, List.getElem?_cons_zero]; rfl) (by kernel_rfl) (by kernel_rfl) (by kernel_rfl) (by exact fun _ _ _ h => h) (Or.inl ⟨by rfl, ?_⟩) hHeld ?_
            rotate_left
            · intro w hSw
              try dsimp only at hSw
              go_simp
              all_goals with_reducible rfl
            try simp only [Act.put, List.setIfInBounds_toArray, List.set_cons_zero, List.set_cons_succ]
            refine wpAnyH_calm (by kernel_rfl) ?_ _
            have hkx := hkw.trans hk4
            have hBw4 := (hkx.block Bb (World.lt_of_heap hBw) (by simp)).trans hBw
            have cf4 : w4.frozen? ⟨Bb, 0, none⟩ = false := blk_frozen hBw4 0
            have hbody4 := hbody.kept hk4 (by simp)
            clear hsR hwhole4 hwhole hbody
            by_cases heq : recB ((rest.drop 3).take k) = rest.take (k + 7)
            · have hdq : decide (recB ((rest.drop 3).take k) = rest.take (k + 7)) = true := decide_eq_true heq
              rw [hdq]
              gi_wp2
              refine ⟨trivial, ?_⟩
              refine (callsIn_wide.2 (bytesClone_any w4 _ _ _ ((rest.drop 3).take k) hbody4 (by omega))).mono ?_
              rintro e w6 ⟨A6, c6, rfl, hown6, hbel6⟩
              have hk6 := Kept.of_below (F := []) hbel6
              obtain ⟨hs6, hn6⟩ := ClonePost.sl hown6
              have hA6 := row_nil hown6
              have hn7 : ∀ p, A6 = some p → w4.heap.size ≤ p.block ∧ p.block < w6.heap.size := fun p e => ⟨hn6 p e, (hown6.lt p.block (by rw [e]; rfl)).2⟩
              have hJ4 := hJ pre wr w4 hJs (hkx.mono (by simp))
              obtain ⟨fn, tmps, assign, body, hy, hR⟩ := hY pre ⟨A6, k, c6, (rest.drop 3).take k, true⟩ w4 w6 hJ4 (Nat.le_trans hsz hkx.size) (hk6.mono (by simp)) ⟨hpl, fun _ => ⟨hs6, hn7, hA6, Nat.le_of_not_lt hbig⟩⟩
              dsimp only [CutX.vals] at hy
              clear hown6 hbel6
              gi_wp2
              refine hR.mono ?_
              clear hR hy
              rintro e W3 (⟨rfl, hJ3, hk3'⟩ | ⟨rfl, hJx3, hsz3⟩)
              · have hkr6 := hkx.trans hk6
                have hB6 := (hkr6.block Bb (World.lt_of_heap hBw) (by simp)).trans hBw
                have hB3 := (hk3'.same Bb hBR (World.lt_of_heap hB6)).trans hB6
                have cb3 : W3.cell? ⟨Bb, 0, none⟩ = some (.slice (some ⟨blk, o, none⟩) m c) := by rw [blk_cell hB3]; rfl
                have cf3 : W3.frozen? ⟨Bb, 0, none⟩ = false := blk_frozen hB3 0
                have hsl3 : SlAt W3 (some ⟨blk, o, none⟩) m c (u8vs rest) := (hsl.kept hkr6 (by simp)).stays ((hk3'.same blk (hAR _ rfl).1 (Nat.lt_of_lt_of_le hbl hkr6.size))) hk3'.size
                clear hsl cb cb4 cf cf4 hbody4
                have hrf := rec_first (b := rest) (by rw [hk3]; exact heq)
                rw [hk3] at hrf
                gi_wp2
                have hWk : Kept [Bb] W3 (W3.setCell ⟨Bb, 0, none⟩ (.slice (if c = k + 7 then some ⟨blk, o, none⟩ else some ⟨blk, o + (k + 7), none⟩) (m - (k + 7)) (c - (k + 7)))) := Kept.setCell (by simp) _
                have hWh := heap_set hB3 0 (.slice (if c = k + 7 then some ⟨blk, o, none⟩ else some ⟨blk, o + (k + 7), none⟩) (m - (k + 7)) (c - (k + 7)))
                refine ⟨⟨pre ++ [⟨A6, k, c6, (rest.drop 3).take k, true⟩], rest.drop (k + 7), _, _, _, hJ _ _ _ hJ3 hWk, ?_, ?_, ?_, hWh, ?_, ?_, ?_⟩, ?_⟩
                · intro x hx
                  rcases List.mem_append.1 hx with h1 | h1
                  · exact hok x h1
                  · simp only [List.mem_singleton] at h1; rw [h1]
                · rw [List.map_append, recs_append, List.append_assoc, hb]
                  congr 1
                  simp only [List.map_cons, List.map_nil, recs_cons, recs_nil, List.append_nil]
                  exact hrf
                · rw [List.map_append]
                  exact hsm.append (Small.one (by rw [List.length_take]; omega))
                · have hd : SlAt W3 (if c = k + 7 then some ⟨blk, o, none⟩ else some ⟨blk, o + (k + 7), none⟩) (m - (k + 7)) (c - (k + 7)) (u8vs (rest.drop (k + 7))) := by
                    split
                    · exact ⟨by simp [u8vs, hrl], by omega, by unfold maxLen; omega, fun h => by omega⟩
                    · have h1 := hsl3.cut (i := k + 7) (j := m) (by omega) (by omega)
                      rwa [List.take_of_length_le (by omega)] at h1
                  exact hd.kept hWk (fun p e => by split at e <;> (cases e; simp; exact (hAR ⟨blk, o, none⟩ rfl).2))
                · intro p e
                  split at e <;> (cases e; exact hAR ⟨blk, o, none⟩ rfl)
                · have h1 := hkr6.size; have h2 := hk3'.size; have h3 := hWk.size
                  omega
                · unfold cutLeft
                  rw [blk_cell hWh, blk_cell hBw]
                  show m - (k + 7) < m
                  omega
              · gi_wp2
                refine bodyPost_ret (results_none rfl _ _ _) rfl ?_
                exact ⟨⟨_, rfl⟩, .inr ⟨_, ⟨pre, _, rfl, fun h => by cases h⟩, hJx3⟩⟩
            · have hdq : decide (recB ((rest.drop 3).take k) = rest.take (k + 7)) = false := decide_eq_false heq
              have hno : NoRecs b0 := by rw [hb]; exact noRecs_behind hsm (noRecs_other hrne (by rw [hk3]; exact heq))
              rw [hdq]
              obtain ⟨fn, tmps, assign, body, hy, hR⟩ := hY pre badX wr w4 hJs hsz (hkx.mono (by simp)) ⟨hpl, fun h => by cases h⟩
              dsimp only [CutX.vals, badX] at hy
              gi_wp2
              refine hR.mono ?_
              clear hR hy
              rintro e W3 (⟨rfl, hJ3, hk3'⟩ | ⟨rfl, hJx3, hsz3⟩)
              · gi_wp2
                refine bodyPost_ret (results_none rfl _ _ _) rfl ?_
                exact ⟨⟨_, rfl⟩, .inl ⟨_, .inr ⟨pre, badX, rfl, rfl, hno⟩, hJ3⟩⟩
              · gi_wp2
                refine bodyPost_ret (results_none rfl _ _ _) rfl ?_
                exact ⟨⟨_, rfl⟩, .inr ⟨_, ⟨pre, badX, rfl, fun _ => hno⟩, hJx3⟩⟩

/-- strip.cut(b): its value. -/
theorem cut_any (w : World) (A : Option Addr) (n c : Nat) : Calls Try.prog 84 #[.slice A n c] w fun e w' =>
    e = .returned (.func (.func 109) #[] #[.pointer (some ⟨w.heap.size, 0, none⟩)]) ∧ w' = w.alloc (.cells #[.slice A n c] 34) := by
  go_enter Try.func84, Try.ntmps84
  go_wp2
  go_ret
  exact ⟨rfl, rfl⟩

/-- What cut's value promises. -/
theorem cut_seq (n : Nat) (hn : 1 ≤ n) (Bb : Nat) (b0 : List UInt8) (hb0 : b0.length ≤ 100000000) (A : Option Addr) (m c : Nat) (w : World)
    (hBb : w.heap[Bb]? = some (.cells #[.slice A m c] 34 (0, 0))) (hs : SlAt w A m c (u8vs b0)) (hA : ∀ p, A = some p → p.block < w.heap.size ∧ p.block ≠ Bb) :
    SeqAt Fence.wide n Try.prog 109 #[.pointer (some ⟨Bb, 0, none⟩)] CutX.vals [Bb] (Bb :: (A.map (·.block)).toList) (CutGs b0) (CutS b0) (CutSp b0) w := fun l J Jx W hW hJ hJx hY h0 => by
  refine (cut1_in n hn l Bb (Bb :: (A.map (·.block)).toList) (by simp) b0 hb0 A m c J Jx W ((hW.block Bb (World.lt_of_heap hBb) (by simp)).trans hBb) (hs.kept hW (by simp)) (fun p e => ?_) hJ hY h0).mono ?_
  · subst e
    exact ⟨by simp, (hA p rfl).2⟩
  · rintro e Y ⟨he, h⟩
    exact ⟨he, h⟩
end Go.Proofs.Ytbnflbkaogpnbaa

/- A strip's Append: what its last steps need. -/
namespace Go.Proofs.Ytbnflbkaogpnbaa
open Go.RowKit

theorem SlAt.blk {w : World} {g n : Nat} {xs : List Value} {t : TypeId} {fz : Nat × Nat} (h : w.heap[g]? = some (.cells xs.toArray t fz)) (hn : xs.length = n) (hm : n ≤ maxLen) : SlAt w (some ⟨g, 0, none⟩) n n xs :=
  ⟨hn, Nat.le_refl _, hm, fun _ => ⟨g, 0, rfl, World.lt_of_heap h, fun i _ => by rw [blk_cell h, Nat.zero_add, List.getElem?_toArray]⟩⟩

theorem write_works (d : Dev) (i : Int) (b : Blk) : (d.write i b).1.works ≤ d.works + 1 := by
  unfold Dev.write
  split
  · simp only; omega
  · split
    · simp only; omega
    · split
      · simp only; omega
      · split
        · simp only [Dev.gone, Dev.midst]; omega
        · simp only [Dev.counted, Dev.midst]; omega

theorem chunk_cut {all : List UInt8} {L k e : Nat} (hL : all.length = L) (he : min 128 (L - 128 * k) = e) (hk : 128 * k ≤ L) : (all.take (128 * k + e)).drop (128 * k) = (all.drop (128 * k)).take 128 := by
  rw [List.drop_take, show 128 * k + e - 128 * k = e by omega]
  apply List.take_eq_take_iff.2
  rw [List.length_drop, hL]
  omega

theorem stays_kept {R F : List Nat} {X Y Z : World} (h : Stays R X Y) (hk : Kept F Y Z) (hF : ∀ j ∈ R, j ∉ F) : Stays R X Z := h.trans (Stays.of_kept hk (fun j hj _ => hF j hj))

theorem stays_sub {a b : Nat} {R : List Nat} {X Y : World} (h : Stays (a :: b :: R) X Y) : Stays [a, b] X Y := ⟨h.size, fun k hk => h.same k (by simp at hk ⊢; rcases hk with rfl | rfl <;> simp)⟩

/-- What is kept of a row behind the last whole sector. -/
theorem last_sl {w : World} {b o n c : Nat} {xs : List UInt8} (h : SlAt w (some ⟨b, o, none⟩) n c (u8vs xs)) : SlAt w (if c = n - n % 128 then some ⟨b, o, none⟩ else some ⟨b, o + (n - n % 128), none⟩) (n - (n - n % 128)) (c - (n - n % 128)) (u8vs (xs.drop (n - n % 128))) := by
  have hl : xs.length = n := by simpa [u8vs] using h.len
  have hnc := h.le; have hcm := h.max
  split
  · exact ⟨by simp [u8vs, hl], by omega, by omega, fun hn => by omega⟩
  · have h1 := h.cut (i := n - n % 128) (j := n) (by omega) (by omega)
    rwa [List.take_of_length_le (by omega)] at h1

theorem ApLoop.ends {w W8 : World} {z a : Nat} {AL : Option Addr} {cL : Nat} {fp sp : List Nat} {s : St} {d : Dev} {bC oC cC L at_ : Nat} {all : List UInt8} {k : Nat} {d' : Dev} {fp' : List Nat} {r v : Int} {X : World} (hc : ApCtx w W8 z AL fp at_ bC)
    (h : ApLoop w W8 z a AL cL fp s d bC oC cC L at_ all k d' fp' r v X) (hz : z ∈ sp) (hlt : ∀ j ∈ sp, j < w.heap.size) (hne : ∀ j ∈ sp, j ∉ fp) (hAL : AL = none → cL = 0) (hLn : ∀ p, AL = some p → p.block ∈ sp ∧ p.block ≠ z) :
    AppPost w z a fp sp (s, d', r) (.returned (.int .i64 r)) X := by
  have h1 := hc.size
  refine ⟨rfl, fp', sp, h.dv, ⟨⟨AL, cL, h.zl, h.sl, hAL, hLn⟩, hz, fun j hj => Nat.lt_of_lt_of_le (hlt j hj) h.kept.size⟩, h.kept.mono (fun i hi => .inl (List.mem_append_left _ hi)), fun j hj => ?_, fun j hj => .inl hj, fun j hj hm => ?_⟩
  · rcases h.new j hj with e | e
    · exact .inl e
    · exact .inr (by omega)
  · rcases h.new j hm with e | e
    · exact hne j hj e
    · have := hlt j hj; omega

theorem ApLoop.done {w W8 : World} {z a : Nat} {AL : Option Addr} {cL : Nat} {fp sp : List Nat} {s s' : St} {d : Dev} {bC oC cC L at_ : Nat} {all : List UInt8} {k : Nat} {d' : Dev} {fp' : List Nat} {r v : Int} {X X1 Y : World} (hc : ApCtx w W8 z AL fp at_ bC)
    (h : ApLoop w W8 z a AL cL fp s d bC oC cC L at_ all k d' fp' r v X) (hz : z ∈ sp) (hD : W8.heap.size < X.heap.size) (hk1 : Kept [] X X1) {AN : Option Addr} {cN : Nat} (hs : SlAt X1 AN s'.last.length cN (u8vs s'.last)) (hAN : AN = none → cN = 0)
    (hNn : ∀ p, AN = some p → X.heap.size ≤ p.block ∧ p.block < X1.heap.size) (hkY : Kept [z, w.heap.size + 1, W8.heap.size] X1 Y) (hzY : Y.heap[z]? = some (.cells #[.pointer (some ⟨a, 0, none⟩), .int .i64 s'.first, .int .i64 s'.many, .int .i64 s'.fin, .slice AN s'.last.length cN] 78 (0, 0))) :
    AppPost w z a fp sp (s', d', 0) (.returned (.int .i64 0)) Y := by
  have h1 := hc.size; have h2 := hc.hz
  have hfl : ∀ j ∈ fp', j < X.heap.size := h.dv.lt
  have hfz : ∀ j ∈ fp', j ≠ z ∧ j ≠ w.heap.size + 1 ∧ j ≠ W8.heap.size := fun j hj => by
    rcases h.new j hj with e | e
    · have h3 := hc.hfp j e
      exact ⟨fun e2 => hc.hzfp (e2 ▸ e), by omega, by omega⟩
    · omega
  have hzX : z < X1.heap.size := Nat.lt_of_lt_of_le (World.lt_of_heap h.zl) hk1.size
  refine ⟨rfl, fp', z :: (AN.map (·.block)).toList, (h.dv.new_kept hk1).kept hkY (fun j hj hm => ?_), ⟨⟨AN, cN, hzY, hs.kept hkY (fun p e hm => ?_), hAN, fun p e => ?_⟩, by simp, fun j hj => ?_⟩, ?_, fun j hj => ?_, fun j hj => ?_, fun j hj hm => ?_⟩
  · simp only [List.mem_cons, List.not_mem_nil, or_false] at hm
    have := hfz j hj
    rcases hm with e | e | e <;> simp [e] at this
  · simp only [List.mem_cons, List.not_mem_nil, or_false] at hm
    have h3 := (hNn p e).1
    have h4 := World.lt_of_heap h.zl
    have h5 := World.lt_of_heap h.rt
    omega
  · subst e
    exact ⟨by simp, fun e2 => by have h3 := (hNn p rfl).1; have h4 := World.lt_of_heap h.zl; omega⟩
  · simp only [List.mem_cons, Option.mem_toList, Option.map_eq_some_iff] at hj
    rcases hj with rfl | ⟨p, e, rfl⟩
    · exact Nat.lt_of_lt_of_le hzX hkY.size
    · exact Nat.lt_of_lt_of_le (hNn p e).2 hkY.size
  · refine ((h.kept.trans' hk1 (by simp)).mono (fun i hi => .inl (List.mem_append_left _ hi))).trans' hkY (fun i hi => ?_)
    simp only [List.mem_cons, List.not_mem_nil, or_false] at hi
    rcases hi with rfl | rfl | rfl
    · exact .inl (List.mem_append_right _ hz)
    · exact .inr (by omega)
    · exact .inr (by omega)
  · rcases h.new j hj with e | e
    · exact .inl e
    · exact .inr (by omega)
  · simp only [List.mem_cons, Option.mem_toList, Option.map_eq_some_iff] at hj
    rcases hj with rfl | ⟨p, e, rfl⟩
    · exact .inl hz
    · have := (hNn p e).1; exact .inr (by omega)
  · simp only [List.mem_cons, Option.mem_toList, Option.map_eq_some_iff] at hj
    rcases hj with rfl | ⟨p, e, rfl⟩
    · exact (hfz _ hm).1 rfl
    · have h3 := (hNn p e).1; have h4 := hfl _ hm; omega
end Go.Proofs.Ytbnflbkaogpnbaa

/- A strip's Append. -/
namespace Go.Proofs.Ytbnflbkaogpnbaa
open Go.RowKit Go.Shelf

attribute [local go_sem] Oper.semAt_some

set_option maxHeartbeats 4000000 in
set_option maxRecDepth 100000 in
theorem append_any {w : World} {z a : Nat} {fp sp : List Nat} {s : St} {d : Dev} (hD : Dv w a fp d) (hS : StAt w z a sp s) (hne : ∀ j ∈ sp, j ∉ fp) (hw : s.Wf d) (A : Option Addr) (n c : Nat) (b : List UInt8) (hb : SlAt w A n c (u8vs b)) (hA : A = none → c = 0)
    (hwk : d.works < 9223372036854000000) : Calls Try.prog 47 #[.pointer (some ⟨z, 0, none⟩), .slice A n c] w (AppPost w z a fp sp (s.append d b)) := by
  have hbl : b.length = n := by simpa [u8vs] using hb.len
  obtain ⟨W, hW⟩ : ∃ W, (w.alloc (.cells #[.pointer (some ⟨z, 0, none⟩)] 65)).alloc (.cells #[.int .i64 0] 25) = W := ⟨_, rfl⟩
  have hk : Kept [] w W := by rw [← hW]; exact (Kept.alloc [] w _).trans (Kept.alloc [] _ _)
  have hs : W.heap[w.heap.size]? = some (.cells #[.pointer (some ⟨z, 0, none⟩)] 65 (0, 0)) := by rw [← hW, Below.heap_alloc _ _ _ (by simp), heap_alloc_new]
  have hr : W.heap[w.heap.size + 1]? = some (.cells #[.int .i64 0] 25 (0, 0)) := by
    have h := heap_alloc_new (w.alloc (.cells #[.pointer (some ⟨z, 0, none⟩)] 65)) (.cells #[.int .i64 0] 25)
    simp only [World.size_alloc] at h
    rw [← hW]; exact h
  have hSW := hS.kept hk (by simp)
  have hbW := hb.kept hk (by simp)
  have hDW := hD.new_kept hk
  obtain ⟨c0, c1, c2, c3, cf⟩ := hSW.cells
  have x0 : W.cell? ⟨w.heap.size, 0, none⟩ = some (.pointer (some ⟨z, 0, none⟩)) := by rw [blk_cell hs]; rfl
  have y0 : W.cell? ⟨w.heap.size + 1, 0, none⟩ = some (.int .i64 0) := by rw [blk_cell hr]; rfl
  have yf : W.frozen? ⟨w.heap.size + 1, 0, none⟩ = false := blk_frozen hr 0
  have hnc := hb.le; have hcm := hb.max
  unfold maxLen at hcm
  have HB := Lib.hid hb
  clear hb
  have hDold : ∀ {j}, w.heap.size ≤ j → j ∉ fp := fun h => hD.old h
  have hSold : ∀ {j}, w.heap.size ≤ j → j ∉ sp := fun h hm => by have := hS.lt _ hm; omega
  have hmany : s.many ≤ 10000 := by have h1 := hw.there; have h2 := hD.wf.many; omega
  by_cases h1 : 16384 < n
  · have e1 : s.append d b = (s, d, 5) := by unfold St.append; rw [if_pos (by omega)]
    have i1 : (16384 : Int) < (n : Int) := by omega
    rw [e1]
    clear e1 h1
    refine (callsIn_wide (n := 10)).1 ?_
    refine callsIn_of_wp_marks Try.func47 rfl trivial ?_ rfl
    simp only [Try.ntmps47, List.size_toArray, List.length_cons, List.length_nil, Nat.reduceAdd, Nat.reduceSub, Array.replicate_succ, Array.replicate_zero, List.push_toArray, List.append_toArray, List.nil_append, List.cons_append]
    refine wpIn_wide.2 ?_
    go_wp2_with fail
    refine ⟨_, results_cell_int rfl _ _ (w.heap.size + 1) (.int .i64 5) rfl (World.cell?_setCell_same' _ _ _ (by rw [y0]; rfl)) Try.underlying25, ?_⟩
    exact app_out hDW hSW (hk.mono (by simp)) (fun j hj => .inl hj) (fun j hj => .inl hj) hne (by omega) (hDold (by omega)) (hSold (by omega)) _
  · by_cases h2 : (128 * s.many : Int) - s.fin < n + 7
    · have e1 : s.append d b = (s, d, 101) := by unfold St.append; rw [if_neg (by omega), if_pos (by omega)]
      have i1 : ¬ (16384 : Int) < (n : Int) := by omega
      rw [e1]
      clear e1 h1
      have hsz : stripSize n = n + 7 := by unfold stripSize; rw [if_neg (by omega)]
      refine (callsIn_wide (n := 10)).1 ?_
      refine callsIn_of_wp_marks Try.func47 rfl trivial ?_ rfl
      simp only [Try.ntmps47, List.size_toArray, List.length_cons, List.length_nil, Nat.reduceAdd, Nat.reduceSub, Array.replicate_succ, Array.replicate_zero, List.push_toArray, List.append_toArray, List.nil_append, List.cons_append]
      refine wpIn_wide.2 ?_
      go_wp2_with fail
      refine wp_region_calm (S := (fun W => W.cell? ⟨w.heap.size, 0, none⟩ = some (.pointer (some ⟨z, 0, none⟩)))) (by kernel_rfl) x0 (fun hHeld => ?_)
      refine wpAnyH_take (i := 0) (v := ?_) (by simp only [List.getElem?_toArray, List.getElem?_cons_zero]; rfl) (by kernel_rfl) (by kernel_rfl) (by kernel_rfl) (by exact fun _ _ _ h => h) (Or.inl ⟨by rfl, ?_⟩) hHeld ?_
      rotate_left
      · intro w hSw
        try dsimp only at hSw
        go_simp
        all_goals with_reducible rfl
      try simp only [Act.put, List.setIfInBounds_toArray, List.set_cons_zero, List.set_cons_succ]
      refine wpAnyH_take (i := 1) (v := ?_) (by simp only [List.getElem?_toArray, List.getElem?_cons_succ, List.getElem?_cons_zero]; rfl) (by kernel_rfl) (by kernel_rfl) (by kernel_rfl) (by exact fun _ _ _ h => h) (Or.inl ⟨by rfl, ?_⟩) hHeld ?_
      rotate_left
      · intro w hSw
        try dsimp only at hSw
        go_simp
        all_goals with_reducible rfl
      try simp only [Act.put, List.setIfInBounds_toArray, List.set_cons_zero, List.set_cons_succ]
      refine wpAnyH_take (i := 3) (v := ?_) (by simp only [List.getElem?_toArray, List.getElem?_cons_succ, List.getElem?_cons_zero]; rfl) (by kernel_rfl) (by kernel_rfl) (by kernel_rfl) (by exact fun _ _ _ h => h) (Or.inl ⟨by rfl, ?_⟩) hHeld ?_
      rotate_left
      · intro w hSw
        try dsimp only at hSw
        go_simp
        all_goals with_reducible rfl
      try simp only [Act.put, List.setIfInBounds_toArray, List.set_cons_zero, List.set_cons_succ]
      refine wpAnyH_ready (rs := [2]) (by kernel_rfl) (by simp) ?_
      refine AllReadyH.cons (by simp only [List.getElem?_toArray, List.getElem?_cons_succ, List.getElem?_cons_zero]; rfl) (fun K hK => ?_) AllReadyH.nil
      go_simp
      refine (stripSize_any _ _).mono ?_
      rintro e w' ⟨rfl, rfl⟩
      go_wp2_with fail
      refine hK.out _ _ ?_ (fun hHeld2 => ?_)
      · exact x0
      clear hK K hHeld
      have hHeld := hHeld2
      clear hHeld2
      try simp only [Act.put, List.setIfInBounds_toArray, List.set_cons_zero, List.set_cons_succ]
      refine wpAnyH_ready (rs := [4]) (by kernel_rfl) (by simp) ?_
      refine AllReadyH.cons (by simp only [List.getElem?_toArray, List.getElem?_cons_succ, List.getElem?_cons_zero]; rfl) (fun K hK => ?_) AllReadyH.nil
      go_simp
      refine (stripLeft_any (hSW.kept (Kept.drew [] W) (by simp)) hmany hw.fin).mono ?_
      rintro e w' ⟨rfl, q, rfl⟩
      go_wp2_with fail
      refine hK.out _ _ ?_ (fun hHeld2 => ?_)
      · exact x0
      clear hK K hHeld
      have hHeld := hHeld2
      clear hHeld2
      try simp only [Act.put, List.setIfInBounds_toArray, List.set_cons_zero, List.set_cons_succ]
      refine wpAnyH_take (i := 5) (v := ?_) (by simp only [List.getElem?_toArray, List.getElem?_cons_succ, List.getElem?_cons_zero]; rfl) (by kernel_rfl) (by kernel_rfl) (by kernel_rfl) (by exact fun _ _ _ h => h) (Or.inl ⟨by rfl, ?_⟩) hHeld ?_
      rotate_left
      · intro w hSw
        try dsimp only at hSw
        go_simp
        all_goals with_reducible rfl
      try simp only [Act.put, List.setIfInBounds_toArray, List.set_cons_zero, List.set_cons_succ]
      refine wpAnyH_take (i := 6) (v := ?_) (by simp only [List.getElem?_toArray, List.getElem?_cons_succ, List.getElem?_cons_zero]; rfl) (by kernel_rfl) (by kernel_rfl) (by kernel_rfl) (by exact fun _ _ _ h => h) (Or.inl ⟨by rfl, ?_⟩) hHeld ?_
      rotate_left
      · intro w hSw
        try dsimp only at hSw
        go_simp
        all_goals with_reducible rfl
      try simp only [Act.put, List.setIfInBounds_toArray, List.set_cons_zero, List.set_cons_succ]
      refine wpAnyH_calm (by kernel_rfl) ?_ _
      go_wp2_with fail
      refine ⟨_, results_cell_int rfl _ _ (w.heap.size + 1) (.int .i64 101) rfl (World.cell?_setCell_same' _ _ _ (by rw [show (W.drewN (1 + q)).cell? ⟨w.heap.size + 1, 0, none⟩ = W.cell? ⟨w.heap.size + 1, 0, none⟩ from rfl, y0]; rfl)) Try.underlying25, ?_⟩
      exact app_out (hDW.new_kept (Kept.drewN _ _ _)) (hSW.kept (Kept.drewN [] _ _) (by simp)) ((hk.trans (Kept.drewN [] _ _)).mono (by simp)) (fun j hj => .inl hj) (fun j hj => .inl hj) hne (by omega) (hDold (by omega)) (hSold (by omega)) _
    · have i1 : ¬ (16384 : Int) < (n : Int) := by omega
      have hsz : stripSize n = n + 7 := by unfold stripSize; rw [if_neg (by omega)]
      have hgt : ¬ (128 * (s.many : Int) - (s.fin : Int)) < (n : Int) + 7 := h2
      obtain ⟨AL, cL, hzl, hsl, hAL, hLn⟩ := hSW.head
      have hwd : IntKind.i64.wrap ((s.fin : Int) / 128) = (s.fin : Int) / 128 := by rw [IntKind.wrap_i64]; have h1 := hw.fin; omega
      have hll0 := hw.last
      have hll1 : s.last.length ≤ 127 := by omega
      clear hll0
      have hP : ApAt w W z a AL cL fp s d A n c b := ⟨hDW, hzl, hsl, hs, hr, hbW, hk⟩
      have hnz := hS.lt z hS.zin
      have hPS := hP.S
      have hO : ApOld w z AL fp A n := ⟨hnz, hD.lt, fun p e => hS.lt _ (hLn p e).1, fun p e hn => HB.out.lt' hn e⟩
      refine (callsIn_wide (n := 10)).1 ?_
      refine callsIn_of_wp_marks Try.func47 rfl trivial ?_ rfl
      simp only [Try.ntmps47, List.size_toArray, List.length_cons, List.length_nil, Nat.reduceAdd, Nat.reduceSub, Array.replicate_succ, Array.replicate_zero, List.push_toArray, List.append_toArray, List.nil_append, List.cons_append]
      refine wpIn_wide.2 ?_
      go_wp2_with fail
      refine wp_region_calm (S := (fun W => W.cell? ⟨w.heap.size, 0, none⟩ = some (.pointer (some ⟨z, 0, none⟩)))) (by kernel_rfl) x0 (fun hHeld => ?_)
      refine wpAnyH_take (i := 0) (v := ?_) (by simp only [List.getElem?_toArray, List.getElem?_cons_zero]; rfl) (by kernel_rfl) (by kernel_rfl) (by kernel_rfl) (by exact fun _ _ _ h => h) (Or.inl ⟨by rfl, ?_⟩) hHeld ?_
      rotate_left
      · intro w hSw
        try dsimp only at hSw
        go_simp
        all_goals with_reducible rfl
      try simp only [Act.put, List.setIfInBounds_toArray, List.set_cons_zero, List.set_cons_succ]
      refine wpAnyH_take (i := 1) (v := ?_) (by simp only [List.getElem?_toArray, List.getElem?_cons_succ, List.getElem?_cons_zero]; rfl) (by kernel_rfl) (by kernel_rfl) (by kernel_rfl) (by exact fun _ _ _ h => h) (Or.inl ⟨by rfl, ?_⟩) hHeld ?_
      rotate_left
      · intro w hSw
        try dsimp only at hSw
        go_simp
        all_goals with_reducible rfl
      try simp only [Act.put, List.setIfInBounds_toArray, List.set_cons_zero, List.set_cons_succ]
      refine wpAnyH_take (i := 3) (v := ?_) (by simp only [List.getElem?_toArray, List.getElem?_cons_succ, List.getElem?_cons_zero]; rfl) (by kernel_rfl) (by kernel_rfl) (by kernel_rfl) (by exact fun _ _ _ h => h) (Or.inl ⟨by rfl, ?_⟩) hHeld ?_
      rotate_left
      · intro w hSw
        try dsimp only at hSw
        go_simp
        all_goals with_reducible rfl
      try simp only [Act.put, List.setIfInBounds_toArray, List.set_cons_zero, List.set_cons_succ]
      refine wpAnyH_ready (rs := [2]) (by kernel_rfl) (by simp) ?_
      refine AllReadyH.cons (by simp only [List.getElem?_toArray, List.getElem?_cons_succ, List.getElem?_cons_zero]; rfl) (fun K hK => ?_) AllReadyH.nil
      go_simp
      refine (stripSize_any _ _).mono ?_
      rintro e w' ⟨rfl, rfl⟩
      go_wp2_with fail
      refine hK.out _ _ ?_ (fun hHeld2 => ?_)
      · exact x0
      clear hK K hHeld
      have hHeld := hHeld2
      clear hHeld2
      try simp only [Act.put, List.setIfInBounds_toArray, List.set_cons_zero, List.set_cons_succ]
      refine wpAnyH_ready (rs := [4]) (by kernel_rfl) (by simp) ?_
      refine AllReadyH.cons (by simp only [List.getElem?_toArray, List.getElem?_cons_succ, List.getElem?_cons_zero]; rfl) (fun K hK => ?_) AllReadyH.nil
      go_simp
      refine (stripLeft_any (hSW.kept (Kept.drew [] W) (by simp)) hmany hw.fin).mono ?_
      rintro e w3 ⟨rfl, q, hq3⟩
      have hk3 : Kept [] W w3 := by rw [hq3]; exact (Kept.drew [] W).trans (Kept.drewN [] _ q)
      clear hq3
      have hP3 := hP.next hk3
      have hsz3 : w.heap.size + 2 ≤ w3.heap.size := by have h1 := World.lt_of_heap hP3.rt; omega
      go_wp2_with fail
      refine hK.out _ _ ?_ (fun hHeld2 => ?_)
      · exact hP3.S.1
      clear hK K hHeld
      have hHeld := hHeld2
      clear hHeld2
      try simp only [Act.put, List.setIfInBounds_toArray, List.set_cons_zero, List.set_cons_succ]
      refine wpAnyH_take (i := 5) (v := ?_) (by simp only [List.getElem?_toArray, List.getElem?_cons_succ, List.getElem?_cons_zero]; rfl) (by kernel_rfl) (by kernel_rfl) (by kernel_rfl) (by exact fun _ _ _ h => h) (Or.inl ⟨by rfl, ?_⟩) hHeld ?_
      rotate_left
      · intro w hSw
        try dsimp only at hSw
        go_simp
        all_goals with_reducible rfl
      try simp only [Act.put, List.setIfInBounds_toArray, List.set_cons_zero, List.set_cons_succ]
      refine wpAnyH_take (i := 6) (v := ?_) (by simp only [List.getElem?_toArray, List.getElem?_cons_succ, List.getElem?_cons_zero]; rfl) (by kernel_rfl) (by kernel_rfl) (by kernel_rfl) (by exact fun _ _ _ h => h) (Or.inl ⟨by rfl, ?_⟩) hHeld ?_
      rotate_left
      · intro w hSw
        try dsimp only at hSw
        go_simp
        all_goals with_reducible rfl
      try simp only [Act.put, List.setIfInBounds_toArray, List.set_cons_zero, List.set_cons_succ]
      refine wpAnyH_calm (by kernel_rfl) ?_ _
      clear hP hPS hzl hsl hs hr hbW hk hSW hDW c0 c1 c2 c3 cf x0 y0 yf hW hk3
      go_upto_region 7 with fail
      go_cut [5, 6] from 31 to 43 (fun v5 v6 wx => ApMid w z a AL cL fp s d A n c b v5 v6 wx)
      case first =>
        refine wp_region_calm (S := (fun W => ApS w z a AL cL s W)) (by kernel_rfl) (hP3.next (Kept.drew [] w3)).S (fun hHeld => ?_)
        have hP := hP3.next (Kept.drew [] w3)
        have hsz : w.heap.size + 2 ≤ w3.drew.heap.size := hsz3
        generalize w3.drew = w3d at *
        refine wpAnyH_take (i := 0) (v := ?_) (by simp only [List.getElem?_toArray, List.getElem?_cons_zero]; rfl) (by kernel_rfl) (by kernel_rfl) (by kernel_rfl) (by exact fun _ _ _ h => h) (Or.inl ⟨by rfl, ?_⟩) hHeld ?_
        rotate_left
        · intro w hSw
          try dsimp only at hSw
          obtain ⟨s0, s1, s2, s3, s4, s5⟩ := hSw
          go_simp
          all_goals with_reducible rfl
        try simp only [Act.put, List.setIfInBounds_toArray, List.set_cons_zero, List.set_cons_succ]
        refine wpAnyH_take (i := 1) (v := ?_) (by simp only [List.getElem?_toArray, List.getElem?_cons_succ, List.getElem?_cons_zero]; rfl) (by kernel_rfl) (by kernel_rfl) (by kernel_rfl) (by exact fun _ _ _ h => h) (Or.inl ⟨by rfl, ?_⟩) hHeld ?_
        rotate_left
        · intro w hSw
          try dsimp only at hSw
          go_simp
          all_goals with_reducible rfl
        try simp only [Act.put, List.setIfInBounds_toArray, List.set_cons_zero, List.set_cons_succ]
        refine wpAnyH_take (i := 2) (v := ?_) (by simp only [List.getElem?_toArray, List.getElem?_cons_succ, List.getElem?_cons_zero]; rfl) (by kernel_rfl) (by kernel_rfl) (by kernel_rfl) (by exact fun _ _ _ h => h) (Or.inl ⟨by rfl, ?_⟩) hHeld ?_
        rotate_left
        · intro w hSw
          try dsimp only at hSw
          go_simp
          all_goals with_reducible rfl
        try simp only [Act.put, List.setIfInBounds_toArray, List.set_cons_zero, List.set_cons_succ]
        refine wpAnyH_take (i := 3) (v := ?_) (by simp only [List.getElem?_toArray, List.getElem?_cons_succ, List.getElem?_cons_zero]; rfl) (by kernel_rfl) (by kernel_rfl) (by kernel_rfl) (by exact fun _ _ _ h => h) (Or.inl ⟨by rfl, ?_⟩) hHeld ?_
        rotate_left
        · intro w hSw
          try dsimp only at hSw
          obtain ⟨s0, s1, s2, s3, s4, s5⟩ := hSw
          go_simp
          all_goals with_reducible rfl
        try simp only [Act.put, List.setIfInBounds_toArray, List.set_cons_zero, List.set_cons_succ]
        refine wpAnyH_take (i := 4) (v := ?_) (by simp only [List.getElem?_toArray, List.getElem?_cons_succ, List.getElem?_cons_zero]; rfl) (by kernel_rfl) (by kernel_rfl) (by kernel_rfl) (by exact fun _ _ _ h => h) (Or.inl ⟨by rfl, ?_⟩) hHeld ?_
        rotate_left
        · intro w hSw
          try dsimp only at hSw
          go_simp
          all_goals with_reducible rfl
        try simp only [Act.put, List.setIfInBounds_toArray, List.set_cons_zero, List.set_cons_succ]
        refine wpAnyH_take (i := 8) (v := ?_) (by simp only [List.getElem?_toArray, List.getElem?_cons_succ, List.getElem?_cons_zero]; rfl) (by kernel_rfl) (by kernel_rfl) (by kernel_rfl) (by exact fun _ _ _ h => h) (Or.inl ⟨by rfl, ?_⟩) hHeld ?_
        rotate_left
        · intro w hSw
          try dsimp only at hSw
          obtain ⟨s0, s1, s2, s3, s4, s5⟩ := hSw
          go_simp
          all_goals with_reducible rfl
        try simp only [Act.put, List.setIfInBounds_toArray, List.set_cons_zero, List.set_cons_succ]
        refine wpAnyH_take (i := 9) (v := ?_) (by simp only [List.getElem?_toArray, List.getElem?_cons_succ, List.getElem?_cons_zero]; rfl) (by kernel_rfl) (by kernel_rfl) (by kernel_rfl) (by exact fun _ _ _ h => h) (Or.inl ⟨by rfl, ?_⟩) hHeld ?_
        rotate_left
        · intro w hSw
          try dsimp only at hSw
          go_simp
          all_goals with_reducible rfl
        try simp only [Act.put, List.setIfInBounds_toArray, List.set_cons_zero, List.set_cons_succ]
        refine wpAnyH_take (i := 10) (v := ?_) (by simp only [List.getElem?_toArray, List.getElem?_cons_succ, List.getElem?_cons_zero]; rfl) (by kernel_rfl) (by kernel_rfl) (by kernel_rfl) (by exact fun _ _ _ h => h) (Or.inl ⟨by rfl, ?_⟩) hHeld ?_
        rotate_left
        · intro w hSw
          try dsimp only at hSw
          go_simp
          all_goals with_reducible rfl
        try simp only [Act.put, List.setIfInBounds_toArray, List.set_cons_zero, List.set_cons_succ]
        refine wpAnyH_take (i := 11) (v := ?_) (by simp only [List.getElem?_toArray, List.getElem?_cons_succ, List.getElem?_cons_zero]; rfl) (by kernel_rfl) (by kernel_rfl) (by kernel_rfl) (by exact fun _ _ _ h => h) (Or.inl ⟨by rfl, ?_⟩) hHeld ?_
        rotate_left
        · intro w hSw
          try dsimp only at hSw
          obtain ⟨s0, s1, s2, s3, s4, s5⟩ := hSw
          go_simp
          all_goals with_reducible rfl
        try simp only [Act.put, List.setIfInBounds_toArray, List.set_cons_zero, List.set_cons_succ]
        refine wpAnyH_take (i := 12) (v := ?_) (by simp only [List.getElem?_toArray, List.getElem?_cons_succ, List.getElem?_cons_zero]; rfl) (by kernel_rfl) (by kernel_rfl) (by kernel_rfl) (by exact fun _ _ _ h => h) (Or.inl ⟨by rfl, ?_⟩) hHeld ?_
        rotate_left
        · intro w hSw
          try dsimp only at hSw
          go_simp
          all_goals with_reducible rfl
        try simp only [Act.put, List.setIfInBounds_toArray, List.set_cons_zero, List.set_cons_succ]
        try simp only [hwd]
        refine wpAnyH_ready (rs := [5, 13]) (by kernel_rfl) (by simp) ?_
        refine AllReadyH.cons (by simp only [List.getElem?_toArray, List.getElem?_cons_succ, List.getElem?_cons_zero]; rfl) (fun K hK => ?_) (AllReadyH.cons (by simp only [List.getElem?_toArray, List.getElem?_cons_succ, List.getElem?_cons_zero]; rfl) (fun K hK => ?_) AllReadyH.nil)
        · go_simp
          refine (record_any _ A n c b hP.bs hA (by omega)).mono ?_
          rintro e w4 ⟨AR, cR, rfl, hownR, hbelN⟩
          have hkN := Kept.of_below (F := []) hbelN
          obtain ⟨hR, hRb⟩ := ClonePost.sl hownR
          have hR0 := row_nil' hownR
          replace hP := hP.next hkN
          replace hsz := Nat.le_trans hsz hkN.size
          clear hownR hbelN hkN
          go_wp2_with fail
          refine hK.out _ _ ?_ (fun hHeld2 => ?_)
          · exact hP.S
          clear hK K hHeld
          have hHeld := hHeld2
          clear hHeld2
          try simp only [Act.put, List.setIfInBounds_toArray, List.set_cons_zero, List.set_cons_succ]
          refine wpAnyH_ready (rs := [6, 13]) (by kernel_rfl) (by simp) ?_
          refine AllReadyH.cons (by simp only [List.getElem?_toArray, List.getElem?_cons_succ, List.getElem?_cons_zero]; rfl) (fun K hK => ?_) (AllReadyH.cons (by simp only [List.getElem?_toArray, List.getElem?_cons_succ, List.getElem?_cons_zero]; rfl) (fun K hK => ?_) AllReadyH.nil)
          · go_simp
            have hkN := Kept.alloc [] w4 (.cells #[.slice AL s.last.length cL, .slice AR (n + 7) cR] 34)
            have hG := heap_alloc_new w4 (.cells #[.slice AL s.last.length cL, .slice AR (n + 7) cR] 34)
            replace hP := hP.next hkN
            replace hsz := Nat.le_trans hsz hkN.size
            replace hR := hR.kept hkN (by simp)
            generalize World.alloc w4 (.cells #[.slice AL s.last.length cL, .slice AR (n + 7) cR] 34) = w5 at *
            generalize w4.heap.size = g_ at *
            clear hkN
            refine hK.out _ _ ?_ (fun hHeld2 => ?_)
            · exact hP.S
            clear hK K hHeld
            have hHeld := hHeld2
            clear hHeld2
            try simp only [Act.put, List.setIfInBounds_toArray, List.set_cons_zero, List.set_cons_succ]
            refine wpAnyH_ready (rs := [7, 13]) (by kernel_rfl) (by simp) ?_
            refine AllReadyH.cons (by simp only [List.getElem?_toArray, List.getElem?_cons_succ, List.getElem?_cons_zero]; rfl) (fun K hK => ?_) (AllReadyH.cons (by simp only [List.getElem?_toArray, List.getElem?_cons_succ, List.getElem?_cons_zero]; rfl) (fun K hK => ?_) AllReadyH.nil)
            · go_simp
              refine (concat_two _ g_ AL AR s.last.length cL (n + 7) cR s.last (recB b) hG hP.sl hAL hR hR0 (by omega) (by omega)).mono ?_
              rintro e w6 ⟨AC, cC, rfl, hownC, hbelN⟩
              have hkN := Kept.of_below (F := []) hbelN
              obtain ⟨hC, hCb0⟩ := ClonePost.sl hownC
              obtain ⟨bC, oC, rfl, hCl, _⟩ := hC.cells (by omega)
              have hCb1 := hCb0 _ rfl
              have hCb : w.heap.size + 2 ≤ bC := Nat.le_trans hsz hCb1
              replace hP := hP.next hkN
              replace hsz := Nat.le_trans hsz hkN.size
              replace hR := hR.kept hkN (by simp)
              replace hG := (hkN.block g_ (World.lt_of_heap hG) (by simp)).trans hG
              clear hownC hbelN hkN hCb0 hCb1
              go_wp2_with fail
              refine hK.out _ _ ?_ (fun hHeld2 => ?_)
              · exact hP.S
              clear hK K hHeld
              have hHeld := hHeld2
              clear hHeld2
              try simp only [Act.put, List.setIfInBounds_toArray, List.set_cons_zero, List.set_cons_succ]
              refine wpAnyH_ready (rs := [13]) (by kernel_rfl) (by simp) ?_
              refine AllReadyH.cons (by simp only [List.getElem?_toArray, List.getElem?_cons_succ, List.getElem?_cons_zero]; rfl) (fun K hK => ?_) AllReadyH.nil
              go_simp
              have hkN := Kept.alloc [] w6 (.cells #[.int .i64 0] 3)
              have hAt := heap_alloc_new w6 (.cells #[.int .i64 0] 3)
              have hatn := hsz
              replace hP := hP.next hkN
              replace hsz := Nat.le_trans hsz hkN.size
              replace hR := hR.kept hkN (by simp)
              replace hG := (hkN.block g_ (World.lt_of_heap hG) (by simp)).trans hG
              replace hC := hC.kept hkN (by simp)
              have hCne : bC ≠ w6.heap.size := by have := hCl; omega
              generalize World.alloc w6 (.cells #[.int .i64 0] 3) = w7 at *
              generalize w6.heap.size = at_ at *
              clear hkN
              refine hK.out _ _ ?_ (fun hHeld2 => ?_)
              · exact hP.S
              clear hK K hHeld
              have hHeld := hHeld2
              clear hHeld2
              try simp only [Act.put, List.setIfInBounds_toArray, List.set_cons_zero, List.set_cons_succ]
              refine wpAnyH_take (i := 14) (v := ?_) (by simp only [List.getElem?_toArray, List.getElem?_cons_succ, List.getElem?_cons_zero]; rfl) (by kernel_rfl) (by kernel_rfl) (by kernel_rfl) (by exact fun _ _ _ h => h) (Or.inl ⟨by rfl, ?_⟩) hHeld ?_
              rotate_left
              · intro w hSw
                try dsimp only at hSw
                go_simp
                all_goals with_reducible rfl
              try simp only [Act.put, List.setIfInBounds_toArray, List.set_cons_zero, List.set_cons_succ]
              refine wpAnyH_ready (rs := [15]) (by kernel_rfl) (by simp) ?_
              refine AllReadyH.cons (by simp only [List.getElem?_toArray, List.getElem?_cons_succ, List.getElem?_cons_zero]; rfl) (fun K hK => ?_) AllReadyH.nil
              have ca : w7.cell? ⟨at_, 0, none⟩ = some (.int .i64 0) := by rw [blk_cell hAt]; rfl
              have cfa : w7.frozen? ⟨at_, 0, none⟩ = false := blk_frozen hAt 0
              go_simp
              have hkN : Kept [at_] w7 (w7.setCell ⟨at_, 0, none⟩ (.int .i64 ((s.fin : Int) / 128))) := Kept.setCell (by simp) _
              have hPf := hP.put hO hatn (.int .i64 ((s.fin : Int) / 128))
              have hAf := heap_set hAt 0 (.int .i64 ((s.fin : Int) / 128))
              have hCf := hC.kept hkN (fun p e => by cases e; simpa using hCne)
              refine hK.out _ _ ?_ (fun hHeld2 => ?_)
              · exact hPf.S
              clear hK K hHeld
              have hHeld := hHeld2
              clear hHeld2
              try simp only [Act.put, List.setIfInBounds_toArray, List.set_cons_zero, List.set_cons_succ]
              refine wpAnyH_calm (by kernel_rfl) ?_ _
              go_wp2_with fail
              go_meet
              exact ⟨bC, oC, cC, at_, rfl, rfl, hPf, hAf, hatn, hCf, hCb, hCne⟩
            · go_simp
              have hkN := Kept.alloc [] w5 (.cells #[.int .i64 0] 3)
              have hAt := heap_alloc_new w5 (.cells #[.int .i64 0] 3)
              have hatn := hsz
              replace hP := hP.next hkN
              replace hsz := Nat.le_trans hsz hkN.size
              replace hR := hR.kept hkN (by simp)
              replace hG := (hkN.block g_ (World.lt_of_heap hG) (by simp)).trans hG
              generalize World.alloc w5 (.cells #[.int .i64 0] 3) = w6 at *
              generalize w5.heap.size = at_ at *
              clear hkN
              refine hK.out _ _ ?_ (fun hHeld2 => ?_)
              · exact hP.S
              clear hK K hHeld
              have hHeld := hHeld2
              clear hHeld2
              try simp only [Act.put, List.setIfInBounds_toArray, List.set_cons_zero, List.set_cons_succ]
              refine wpAnyH_ready (rs := [7]) (by kernel_rfl) (by simp) ?_
              refine AllReadyH.cons (by simp only [List.getElem?_toArray, List.getElem?_cons_succ, List.getElem?_cons_zero]; rfl) (fun K hK => ?_) AllReadyH.nil
              go_simp
              refine (concat_two _ g_ AL AR s.last.length cL (n + 7) cR s.last (recB b) hG hP.sl hAL hR hR0 (by omega) (by omega)).mono ?_
              rintro e w7 ⟨AC, cC, rfl, hownC, hbelN⟩
              have hkN := Kept.of_below (F := []) hbelN
              obtain ⟨hC, hCb0⟩ := ClonePost.sl hownC
              obtain ⟨bC, oC, rfl, hCl, _⟩ := hC.cells (by omega)
              have hCb1 := hCb0 _ rfl
              have hCb : w.heap.size + 2 ≤ bC := Nat.le_trans hsz hCb1
              have hCne : bC ≠ at_ := by have h1 := World.lt_of_heap hAt; have h2 : w6.heap.size ≤ bC := hCb1; omega
              replace hP := hP.next hkN
              replace hsz := Nat.le_trans hsz hkN.size
              replace hAt := (hkN.block at_ (World.lt_of_heap hAt) (by simp)).trans hAt
              replace hR := hR.kept hkN (by simp)
              replace hG := (hkN.block g_ (World.lt_of_heap hG) (by simp)).trans hG
              clear hownC hbelN hkN hCb0 hCb1
              go_wp2_with fail
              refine hK.out _ _ ?_ (fun hHeld2 => ?_)
              · exact hP.S
              clear hK K hHeld
              have hHeld := hHeld2
              clear hHeld2
              try simp only [Act.put, List.setIfInBounds_toArray, List.set_cons_zero, List.set_cons_succ]
              refine wpAnyH_take (i := 14) (v := ?_) (by simp only [List.getElem?_toArray, List.getElem?_cons_succ, List.getElem?_cons_zero]; rfl) (by kernel_rfl) (by kernel_rfl) (by kernel_rfl) (by exact fun _ _ _ h => h) (Or.inl ⟨by rfl, ?_⟩) hHeld ?_
              rotate_left
              · intro w hSw
                try dsimp only at hSw
                go_simp
                all_goals with_reducible rfl
              try simp only [Act.put, List.setIfInBounds_toArray, List.set_cons_zero, List.set_cons_succ]
              refine wpAnyH_ready (rs := [15]) (by kernel_rfl) (by simp) ?_
              refine AllReadyH.cons (by simp only [List.getElem?_toArray, List.getElem?_cons_succ, List.getElem?_cons_zero]; rfl) (fun K hK => ?_) AllReadyH.nil
              have ca : w7.cell? ⟨at_, 0, none⟩ = some (.int .i64 0) := by rw [blk_cell hAt]; rfl
              have cfa : w7.frozen? ⟨at_, 0, none⟩ = false := blk_frozen hAt 0
              go_simp
              have hkN : Kept [at_] w7 (w7.setCell ⟨at_, 0, none⟩ (.int .i64 ((s.fin : Int) / 128))) := Kept.setCell (by simp) _
              have hPf := hP.put hO hatn (.int .i64 ((s.fin : Int) / 128))
              have hAf := heap_set hAt 0 (.int .i64 ((s.fin : Int) / 128))
              have hCf := hC.kept hkN (fun p e => by cases e; simpa using hCne)
              refine hK.out _ _ ?_ (fun hHeld2 => ?_)
              · exact hPf.S
              clear hK K hHeld
              have hHeld := hHeld2
              clear hHeld2
              try simp only [Act.put, List.setIfInBounds_toArray, List.set_cons_zero, List.set_cons_succ]
              refine wpAnyH_calm (by kernel_rfl) ?_ _
              go_wp2_with fail
              go_meet
              exact ⟨bC, oC, cC, at_, rfl, rfl, hPf, hAf, hatn, hCf, hCb, hCne⟩
          · go_simp
            have hkN := Kept.alloc [] w4 (.cells #[.int .i64 0] 3)
            have hAt := heap_alloc_new w4 (.cells #[.int .i64 0] 3)
            have hatn := hsz
            replace hP := hP.next hkN
            replace hsz := Nat.le_trans hsz hkN.size
            replace hR := hR.kept hkN (by simp)
            generalize World.alloc w4 (.cells #[.int .i64 0] 3) = w5 at *
            generalize w4.heap.size = at_ at *
            clear hkN
            refine hK.out _ _ ?_ (fun hHeld2 => ?_)
            · exact hP.S
            clear hK K hHeld
            have hHeld := hHeld2
            clear hHeld2
            try simp only [Act.put, List.setIfInBounds_toArray, List.set_cons_zero, List.set_cons_succ]
            refine wpAnyH_ready (rs := [6]) (by kernel_rfl) (by simp) ?_
            refine AllReadyH.cons (by simp only [List.getElem?_toArray, List.getElem?_cons_succ, List.getElem?_cons_zero]; rfl) (fun K hK => ?_) AllReadyH.nil
            go_simp
            have hkN := Kept.alloc [] w5 (.cells #[.slice AL s.last.length cL, .slice AR (n + 7) cR] 34)
            have hG := heap_alloc_new w5 (.cells #[.slice AL s.last.length cL, .slice AR (n + 7) cR] 34)
            replace hP := hP.next hkN
            replace hsz := Nat.le_trans hsz hkN.size
            replace hAt := (hkN.block at_ (World.lt_of_heap hAt) (by simp)).trans hAt
            replace hR := hR.kept hkN (by simp)
            generalize World.alloc w5 (.cells #[.slice AL s.last.length cL, .slice AR (n + 7) cR] 34) = w6 at *
            generalize w5.heap.size = g_ at *
            clear hkN
            refine hK.out _ _ ?_ (fun hHeld2 => ?_)
            · exact hP.S
            clear hK K hHeld
            have hHeld := hHeld2
            clear hHeld2
            try simp only [Act.put, List.setIfInBounds_toArray, List.set_cons_zero, List.set_cons_succ]
            refine wpAnyH_ready (rs := [7]) (by kernel_rfl) (by simp) ?_
            refine AllReadyH.cons (by simp only [List.getElem?_toArray, List.getElem?_cons_succ, List.getElem?_cons_zero]; rfl) (fun K hK => ?_) AllReadyH.nil
            go_simp
            refine (concat_two _ g_ AL AR s.last.length cL (n + 7) cR s.last (recB b) hG hP.sl hAL hR hR0 (by omega) (by omega)).mono ?_
            rintro e w7 ⟨AC, cC, rfl, hownC, hbelN⟩
            have hkN := Kept.of_below (F := []) hbelN
            obtain ⟨hC, hCb0⟩ := ClonePost.sl hownC
            obtain ⟨bC, oC, rfl, hCl, _⟩ := hC.cells (by omega)
            have hCb1 := hCb0 _ rfl
            have hCb : w.heap.size + 2 ≤ bC := Nat.le_trans hsz hCb1
            have hCne : bC ≠ at_ := by have h1 := World.lt_of_heap hAt; have h2 : w6.heap.size ≤ bC := hCb1; omega
            replace hP := hP.next hkN
            replace hsz := Nat.le_trans hsz hkN.size
            replace hAt := (hkN.block at_ (World.lt_of_heap hAt) (by simp)).trans hAt
            replace hR := hR.kept hkN (by simp)
            replace hG := (hkN.block g_ (World.lt_of_heap hG) (by simp)).trans hG
            clear hownC hbelN hkN hCb0 hCb1
            go_wp2_with fail
            refine hK.out _ _ ?_ (fun hHeld2 => ?_)
            · exact hP.S
            clear hK K hHeld
            have hHeld := hHeld2
            clear hHeld2
            try simp only [Act.put, List.setIfInBounds_toArray, List.set_cons_zero, List.set_cons_succ]
            refine wpAnyH_take (i := 14) (v := ?_) (by simp only [List.getElem?_toArray, List.getElem?_cons_succ, List.getElem?_cons_zero]; rfl) (by kernel_rfl) (by kernel_rfl) (by kernel_rfl) (by exact fun _ _ _ h => h) (Or.inl ⟨by rfl, ?_⟩) hHeld ?_
            rotate_left
            · intro w hSw
              try dsimp only at hSw
              go_simp
              all_goals with_reducible rfl
            try simp only [Act.put, List.setIfInBounds_toArray, List.set_cons_zero, List.set_cons_succ]
            refine wpAnyH_ready (rs := [15]) (by kernel_rfl) (by simp) ?_
            refine AllReadyH.cons (by simp only [List.getElem?_toArray, List.getElem?_cons_succ, List.getElem?_cons_zero]; rfl) (fun K hK => ?_) AllReadyH.nil
            have ca : w7.cell? ⟨at_, 0, none⟩ = some (.int .i64 0) := by rw [blk_cell hAt]; rfl
            have cfa : w7.frozen? ⟨at_, 0, none⟩ = false := blk_frozen hAt 0
            go_simp
            have hkN : Kept [at_] w7 (w7.setCell ⟨at_, 0, none⟩ (.int .i64 ((s.fin : Int) / 128))) := Kept.setCell (by simp) _
            have hPf := hP.put hO hatn (.int .i64 ((s.fin : Int) / 128))
            have hAf := heap_set hAt 0 (.int .i64 ((s.fin : Int) / 128))
            have hCf := hC.kept hkN (fun p e => by cases e; simpa using hCne)
            refine hK.out _ _ ?_ (fun hHeld2 => ?_)
            · exact hPf.S
            clear hK K hHeld
            have hHeld := hHeld2
            clear hHeld2
            try simp only [Act.put, List.setIfInBounds_toArray, List.set_cons_zero, List.set_cons_succ]
            refine wpAnyH_calm (by kernel_rfl) ?_ _
            go_wp2_with fail
            go_meet
            exact ⟨bC, oC, cC, at_, rfl, rfl, hPf, hAf, hatn, hCf, hCb, hCne⟩
        · go_simp
          have hkN := Kept.alloc [] w3d (.cells #[.int .i64 0] 3)
          have hAt := heap_alloc_new w3d (.cells #[.int .i64 0] 3)
          have hatn := hsz
          replace hP := hP.next hkN
          replace hsz := Nat.le_trans hsz hkN.size
          generalize World.alloc w3d (.cells #[.int .i64 0] 3) = w4 at *
          generalize w3d.heap.size = at_ at *
          clear hkN
          refine hK.out _ _ ?_ (fun hHeld2 => ?_)
          · exact hP.S
          clear hK K hHeld
          have hHeld := hHeld2
          clear hHeld2
          try simp only [Act.put, List.setIfInBounds_toArray, List.set_cons_zero, List.set_cons_succ]
          refine wpAnyH_ready (rs := [5]) (by kernel_rfl) (by simp) ?_
          refine AllReadyH.cons (by simp only [List.getElem?_toArray, List.getElem?_cons_succ, List.getElem?_cons_zero]; rfl) (fun K hK => ?_) AllReadyH.nil
          go_simp
          refine (record_any _ A n c b hP.bs hA (by omega)).mono ?_
          rintro e w5 ⟨AR, cR, rfl, hownR, hbelN⟩
          have hkN := Kept.of_below (F := []) hbelN
          obtain ⟨hR, hRb⟩ := ClonePost.sl hownR
          have hR0 := row_nil' hownR
          replace hP := hP.next hkN
          replace hsz := Nat.le_trans hsz hkN.size
          replace hAt := (hkN.block at_ (World.lt_of_heap hAt) (by simp)).trans hAt
          clear hownR hbelN hkN
          go_wp2_with fail
          refine hK.out _ _ ?_ (fun hHeld2 => ?_)
          · exact hP.S
          clear hK K hHeld
          have hHeld := hHeld2
          clear hHeld2
          try simp only [Act.put, List.setIfInBounds_toArray, List.set_cons_zero, List.set_cons_succ]
          refine wpAnyH_ready (rs := [6]) (by kernel_rfl) (by simp) ?_
          refine AllReadyH.cons (by simp only [List.getElem?_toArray, List.getElem?_cons_succ, List.getElem?_cons_zero]; rfl) (fun K hK => ?_) AllReadyH.nil
          go_simp
          have hkN := Kept.alloc [] w5 (.cells #[.slice AL s.last.length cL, .slice AR (n + 7) cR] 34)
          have hG := heap_alloc_new w5 (.cells #[.slice AL s.last.length cL, .slice AR (n + 7) cR] 34)
          replace hP := hP.next hkN
          replace hsz := Nat.le_trans hsz hkN.size
          replace hAt := (hkN.block at_ (World.lt_of_heap hAt) (by simp)).trans hAt
          replace hR := hR.kept hkN (by simp)
          generalize World.alloc w5 (.cells #[.slice AL s.last.length cL, .slice AR (n + 7) cR] 34) = w6 at *
          generalize w5.heap.size = g_ at *
          clear hkN
          refine hK.out _ _ ?_ (fun hHeld2 => ?_)
          · exact hP.S
          clear hK K hHeld
          have hHeld := hHeld2
          clear hHeld2
          try simp only [Act.put, List.setIfInBounds_toArray, List.set_cons_zero, List.set_cons_succ]
          refine wpAnyH_ready (rs := [7]) (by kernel_rfl) (by simp) ?_
          refine AllReadyH.cons (by simp only [List.getElem?_toArray, List.getElem?_cons_succ, List.getElem?_cons_zero]; rfl) (fun K hK => ?_) AllReadyH.nil
          go_simp
          refine (concat_two _ g_ AL AR s.last.length cL (n + 7) cR s.last (recB b) hG hP.sl hAL hR hR0 (by omega) (by omega)).mono ?_
          rintro e w7 ⟨AC, cC, rfl, hownC, hbelN⟩
          have hkN := Kept.of_below (F := []) hbelN
          obtain ⟨hC, hCb0⟩ := ClonePost.sl hownC
          obtain ⟨bC, oC, rfl, hCl, _⟩ := hC.cells (by omega)
          have hCb1 := hCb0 _ rfl
          have hCb : w.heap.size + 2 ≤ bC := Nat.le_trans hsz hCb1
          have hCne : bC ≠ at_ := by have h1 := World.lt_of_heap hAt; have h2 : w6.heap.size ≤ bC := hCb1; omega
          replace hP := hP.next hkN
          replace hsz := Nat.le_trans hsz hkN.size
          replace hAt := (hkN.block at_ (World.lt_of_heap hAt) (by simp)).trans hAt
          replace hR := hR.kept hkN (by simp)
          replace hG := (hkN.block g_ (World.lt_of_heap hG) (by simp)).trans hG
          clear hownC hbelN hkN hCb0 hCb1
          go_wp2_with fail
          refine hK.out _ _ ?_ (fun hHeld2 => ?_)
          · exact hP.S
          clear hK K hHeld
          have hHeld := hHeld2
          clear hHeld2
          try simp only [Act.put, List.setIfInBounds_toArray, List.set_cons_zero, List.set_cons_succ]
          refine wpAnyH_take (i := 14) (v := ?_) (by simp only [List.getElem?_toArray, List.getElem?_cons_succ, List.getElem?_cons_zero]; rfl) (by kernel_rfl) (by kernel_rfl) (by kernel_rfl) (by exact fun _ _ _ h => h) (Or.inl ⟨by rfl, ?_⟩) hHeld ?_
          rotate_left
          · intro w hSw
            try dsimp only at hSw
            go_simp
            all_goals with_reducible rfl
          try simp only [Act.put, List.setIfInBounds_toArray, List.set_cons_zero, List.set_cons_succ]
          refine wpAnyH_ready (rs := [15]) (by kernel_rfl) (by simp) ?_
          refine AllReadyH.cons (by simp only [List.getElem?_toArray, List.getElem?_cons_succ, List.getElem?_cons_zero]; rfl) (fun K hK => ?_) AllReadyH.nil
          have ca : w7.cell? ⟨at_, 0, none⟩ = some (.int .i64 0) := by rw [blk_cell hAt]; rfl
          have cfa : w7.frozen? ⟨at_, 0, none⟩ = false := blk_frozen hAt 0
          go_simp
          have hkN : Kept [at_] w7 (w7.setCell ⟨at_, 0, none⟩ (.int .i64 ((s.fin : Int) / 128))) := Kept.setCell (by simp) _
          have hPf := hP.put hO hatn (.int .i64 ((s.fin : Int) / 128))
          have hAf := heap_set hAt 0 (.int .i64 ((s.fin : Int) / 128))
          have hCf := hC.kept hkN (fun p e => by cases e; simpa using hCne)
          refine hK.out _ _ ?_ (fun hHeld2 => ?_)
          · exact hPf.S
          clear hK K hHeld
          have hHeld := hHeld2
          clear hHeld2
          try simp only [Act.put, List.setIfInBounds_toArray, List.set_cons_zero, List.set_cons_succ]
          refine wpAnyH_calm (by kernel_rfl) ?_ _
          go_wp2_with fail
          go_meet
          exact ⟨bC, oC, cC, at_, rfl, rfl, hPf, hAf, hatn, hCf, hCb, hCne⟩
      case rest =>
        obtain ⟨bC, oC, cC, at_, rfl, rfl, hP, hAt, hatn, hC, hCb, hCne⟩ := hcut
        clear hP3 hsz3
        have hCl := hC.le; have hCm := hC.max
        unfold maxLen at hCm
        go_wp2_with fail
        refine (chunk_any wc _ _ cC).mono ?_
        rintro e w8 ⟨rfl, hw8⟩
        have hk8 : Kept [] wc w8 := by rw [hw8]; exact (Kept.alloc [] _ _).trans (Kept.alloc [] _ _)
        have hBs : w8.heap[wc.heap.size]? = some (.cells #[.slice (some ⟨bC, oC, none⟩) (s.last.length + (n + 7)) cC] 34 (0, 0)) := by rw [hw8, Below.heap_alloc _ _ _ (by simp), heap_alloc_new]
        have hBn : w8.heap[wc.heap.size + 1]? = some (.cells #[.int .i64 128] 3 (0, 0)) := by
          have h := heap_alloc_new (wc.alloc (.cells #[.slice (some ⟨bC, oC, none⟩) (s.last.length + (n + 7)) cC] 34)) (.cells #[.int .i64 128] 3)
          simp only [World.size_alloc] at h
          rw [hw8]; exact h
        have hwc := World.lt_of_heap hP.rt
        have hP8 := hP.next hk8
        have hA8 := (hk8.block at_ (World.lt_of_heap hAt) (by simp)).trans hAt
        have hC8 := hC.kept hk8 (by simp)
        have hlC := hC8.lt' (by omega) rfl
        have hlA := World.lt_of_heap hA8
        have hlr := World.lt_of_heap hP8.rt
        have hlBs := World.lt_of_heap hBs
        have hlBn := World.lt_of_heap hBn
        have hcx : ApCtx w w8 z AL fp at_ bC := ⟨by omega, hO.z, hO.fp, hne _ hS.zin, fun p e => ⟨hO.al p e, hne _ (hLn p e).1, (hLn p e).2⟩, hatn, hlA, hCb, hlC, hCne⟩
        have hab : wc.heap.size ≠ at_ ∧ wc.heap.size + 1 ≠ at_ := by have := World.lt_of_heap hAt; omega
        have hl0 : ApLoop w w8 z a AL cL fp s d bC oC cC (s.last.length + (n + 7)) at_ (s.last ++ recB b) 0 d fp 0 ((s.fin / 128 : Nat) : Int) w8 := ⟨hP8.dv, fun j hj => .inl hj, hP8.zl, hP8.sl, hP8.bx, hP8.rt, hA8, hC8, hP8.kept.mono (by simp), by omega⟩
        clear hw8 hP hAt hC hP8 hA8 hC8
        go_wp2_with fail
        refine (wpIn_wide (n := 10)).1 ?_
        refine' wpIn_rangeFunc_kept (encs := fun k : Nat => #[chunkV bC oC (s.last.length + (n + 7)) k]) (B := []) (R := [wc.heap.size, wc.heap.size + 1]) (G := fun pre _ k _ => k < (s.last.length + (n + 7) + 127) / 128 ∧ pre = List.range k) rfl (by omega) (gf := 114)
          (lb := #[.pointer (some ⟨wc.heap.size, 0, none⟩), .pointer (some ⟨wc.heap.size + 1, 0, none⟩)]) rfl trivial (enters_of Try.func114 (by kernel_rfl) rfl)
          (chunk_seq 9 (by omega) wc.heap.size (wc.heap.size + 1) bC oC (s.last.length + (n + 7)) cC (by omega) hCl (by omega) w8 (by rw [blk_cell hBs]; rfl) (by rw [blk_cell hBn]; rfl) hlBs hlBn) (fun _ => rfl) (by simp)
          (fun j hj => by simp only [List.mem_cons, List.not_mem_nil, or_false] at hj; rcases hj with rfl | rfl <;> omega) (fun _ _ _ _ _ _ h _ => h)
          (ApI w w8 z a AL cL fp s d bC oC cC (s.last.length + (n + 7)) at_ (s.last ++ recB b)) (ApIx w w8 z a AL cL fp s d bC oC cC (s.last.length + (n + 7)) at_ (s.last ++ recB b))
          (fun pre X Y ⟨d', fp', h1, h3⟩ hk => ⟨d', fp', h1, h3.next hcx hk (fun j hj => by simpa using hj)⟩)
          (fun c pre X Y ⟨h0, d', fp', r, k, v, h1, h2, h3⟩ hk => ⟨h0, d', fp', r, k, v, h1, h2, h3.next hcx hk (fun j hj => by simpa using hj)⟩)
          ⟨d, fp, rfl, hl0⟩ _ ?assign ?body ?done ?stop
        case assign =>
          intro l k X K hK
          gi_wp2
          exact hK
        case body =>
          rintro l pre k X0 X hX0 ⟨d', fp', hw1, hl1⟩ hkX hG
          have hl2 := hl1.next hcx hkX (fun j hj => by simpa using hj)
          obtain ⟨hkm, hpre⟩ := hG
          have hpl : pre.length = k := by rw [hpre, List.length_range]
          have HPRE := Lib.hid hpre
          clear hpre
          have HW1 := Lib.hid hw1
          have hXs : w8.heap.size + 2 ≤ X.heap.size := Nat.le_trans hX0 hkX.size
          clear hw1 hl1 hkX
          obtain ⟨e, he⟩ : ∃ e, min 128 (s.last.length + (n + 7) - 128 * k) = e := ⟨_, rfl⟩
          have hLl : (s.last ++ recB b).length = s.last.length + (n + 7) := by rw [List.length_append, length_recB, hbl]
          have hch := hl2.sb.cut (i := 128 * k) (j := 128 * k + e) (by omega) (by omega)
          rw [chunk_cut hLl he (by omega), show 128 * k + e - 128 * k = e by omega] at hch
          have he128 : e ≤ 128 := by omega
          obtain ⟨W2, hcp, hW2, hk2⟩ := copied X hch he128
          have hl3 := hl2.next hcx hk2 (by simp)
          obtain ⟨av, hav⟩ : ∃ av : Int, ((s.fin / 128 + pre.length : Nat) : Int) = av := ⟨_, rfl⟩
          obtain ⟨idx, hidx⟩ : ∃ i : Int, ((s.first + s.fin / 128 : Nat) : Int) + (pre.map (chunkAt (s.last ++ recB b))).length = i := ⟨_, rfl⟩
          rw [hav] at hl3
          have hwr : IntKind.i64.wrap ((s.first : Int) + av) = idx := by
            have h1 := hw.there; have h2 := hD.wf.many; have h3 := hw.fin
            rw [← hav, ← hidx, IntKind.wrap_i64, List.length_map]
            omega
          obtain ⟨d2, v, hdv⟩ : ∃ d2 v, d'.write idx (chunkAt (s.last ++ recB b) k) = (d2, v) := ⟨_, _, rfl⟩
          have hlt2 : ∀ j ∈ fp', j < X.heap.size := hl2.dv.lt
          have hone : SlAt W2.drew (some ⟨X.heap.size, 0, none⟩) 128 128 (u8vs (chunkAt (s.last ++ recB b) k)) := SlAt.blk hW2 (by simp [u8vs, chunkAt]; exact length_pad (by rw [List.length_take]; omega)) (by unfold maxLen; omega)
          have hl4 := hl3.next hcx (Kept.drew [] W2) (by simp)
          have hwk4 : d'.works < 9223372036854775807 := by have h1 := hl4.works; omega
          have cw := write_dv hl4.dv idx (chunkAt (s.last ++ recB b) k) (some ⟨X.heap.size, 0, none⟩) 128 128 hone (fun p e hm => Nat.lt_irrefl _ (hlt2 X.heap.size (by cases e; exact hm))) hwk4
          rw [hdv] at cw
          unfold chunkV
          rw [he]
          have x0 : W2.cell? ⟨w.heap.size, 0, none⟩ = some (.pointer (some ⟨z, 0, none⟩)) := by rw [blk_cell hl3.bx]; rfl
          have z0 : W2.cell? ⟨z, 0, none⟩ = some (.pointer (some ⟨a, 0, none⟩)) := by rw [blk_cell hl3.zl]; rfl
          have z1 : W2.cell? ⟨z, 1, none⟩ = some (.int .i64 s.first) := by rw [blk_cell hl3.zl]; rfl
          have a0 : W2.cell? ⟨at_, 0, none⟩ = some (.int .i64 av) := by rw [blk_cell hl3.at_]; rfl
          have hd2w : d2.works ≤ d'.works + 1 := by have h := write_works d' idx (chunkAt (s.last ++ recB b) k); rw [hdv] at h; exact h
          have hW2s := hk2.size
          have hfin : (d.writes (s.first + s.fin / 128 : Nat) ((pre ++ [k]).map (chunkAt (s.last ++ recB b)))) = (d2, v) := by
            rw [List.map_append, List.map_cons, List.map_nil, writes_append _ _ _ _ _ HW1.out, hidx, hdv]
          have HF := Lib.hid hfin
          have hcells : X.heap.size < W2.heap.size := World.lt_of_heap hW2
          have HAV := Lib.hid hav; have HPL := Lib.hid hpl
          clear hfin hdv hch hW2 hone hl2 hav hidx hpl
          gi_wp2
          refine wpIn_region_calm (S := (fun W => W.cell? ⟨w.heap.size, 0, none⟩ = some (.pointer (some ⟨z, 0, none⟩)) ∧ W.cell? ⟨z, 0, none⟩ = some (.pointer (some ⟨a, 0, none⟩)) ∧ W.cell? ⟨z, 1, none⟩ = some (.int .i64 s.first) ∧ W.cell? ⟨at_, 0, none⟩ = some (.int .i64 av))) (by kernel_rfl) (by kernel_rfl) ⟨x0, z0, z1, a0⟩ (fun hHeld => ?_)
          refine wpAnyH_take (i := 0) (v := ?_) (by simp only [List.getElem?_toArray, List.getElem?_cons_zero]; rfl) (by kernel_rfl) (by kernel_rfl) (by kernel_rfl) (by exact fun _ _ _ h => h) (Or.inl ⟨by rfl, ?_⟩) hHeld ?_
          rotate_left
          · intro w hSw
            try dsimp only at hSw
            obtain ⟨s0, s1, s2, s3⟩ := hSw
            go_simp
            all_goals with_reducible rfl
          try simp only [Act.put, List.setIfInBounds_toArray, List.set_cons_zero, List.set_cons_succ]
          refine wpAnyH_take (i := 1) (v := ?_) (by simp only [List.getElem?_toArray, List.getElem?_cons_succ, List.getElem?_cons_zero]; rfl) (by kernel_rfl) (by kernel_rfl) (by kernel_rfl) (by exact fun _ _ _ h => h) (Or.inl ⟨by rfl, ?_⟩) hHeld ?_
          rotate_left
          · intro w hSw
            try dsimp only at hSw
            go_simp
            all_goals with_reducible rfl
          try simp only [Act.put, List.setIfInBounds_toArray, List.set_cons_zero, List.set_cons_succ]
          refine wpAnyH_take (i := 2) (v := ?_) (by simp only [List.getElem?_toArray, List.getElem?_cons_succ, List.getElem?_cons_zero]; rfl) (by kernel_rfl) (by kernel_rfl) (by kernel_rfl) (by exact fun _ _ _ h => h) (Or.inl ⟨by rfl, ?_⟩) hHeld ?_
          rotate_left
          · intro w hSw
            try dsimp only at hSw
            go_simp
            all_goals with_reducible rfl
          try simp only [Act.put, List.setIfInBounds_toArray, List.set_cons_zero, List.set_cons_succ]
          refine wpAnyH_take (i := 3) (v := ?_) (by simp only [List.getElem?_toArray, List.getElem?_cons_succ, List.getElem?_cons_zero]; rfl) (by kernel_rfl) (by kernel_rfl) (by kernel_rfl) (by exact fun _ _ _ h => h) (Or.inl ⟨by rfl, ?_⟩) hHeld ?_
          rotate_left
          · intro w hSw
            try dsimp only at hSw
            obtain ⟨s0, s1, s2, s3⟩ := hSw
            go_simp
            all_goals with_reducible rfl
          try simp only [Act.put, List.setIfInBounds_toArray, List.set_cons_zero, List.set_cons_succ]
          refine wpAnyH_take (i := 4) (v := ?_) (by simp only [List.getElem?_toArray, List.getElem?_cons_succ, List.getElem?_cons_zero]; rfl) (by kernel_rfl) (by kernel_rfl) (by kernel_rfl) (by exact fun _ _ _ h => h) (Or.inl ⟨by rfl, ?_⟩) hHeld ?_
          rotate_left
          · intro w hSw
            try dsimp only at hSw
            obtain ⟨s0, s1, s2, s3⟩ := hSw
            go_simp
            all_goals with_reducible rfl
          try simp only [Act.put, List.setIfInBounds_toArray, List.set_cons_zero, List.set_cons_succ]
          refine wpAnyH_take (i := 5) (v := ?_) (by simp only [List.getElem?_toArray, List.getElem?_cons_succ, List.getElem?_cons_zero]; rfl) (by kernel_rfl) (by kernel_rfl) (by kernel_rfl) (by exact fun _ _ _ h => h) (Or.inl ⟨by rfl, ?_⟩) hHeld ?_
          rotate_left
          · intro w hSw
            try dsimp only at hSw
            go_simp
            all_goals with_reducible rfl
          try simp only [Act.put, List.setIfInBounds_toArray, List.set_cons_zero, List.set_cons_succ]
          refine wpAnyH_take (i := 6) (v := ?_) (by simp only [List.getElem?_toArray, List.getElem?_cons_succ, List.getElem?_cons_zero]; rfl) (by kernel_rfl) (by kernel_rfl) (by kernel_rfl) (by exact fun _ _ _ h => h) (Or.inl ⟨by rfl, ?_⟩) hHeld ?_
          rotate_left
          · intro w hSw
            try dsimp only at hSw
            go_simp
            all_goals with_reducible rfl
          try simp only [Act.put, List.setIfInBounds_toArray, List.set_cons_zero, List.set_cons_succ]
          refine wpAnyH_take (i := 7) (v := ?_) (by simp only [List.getElem?_toArray, List.getElem?_cons_succ, List.getElem?_cons_zero]; rfl) (by kernel_rfl) (by kernel_rfl) (by kernel_rfl) (by exact fun _ _ _ h => h) (Or.inl ⟨by rfl, ?_⟩) hHeld ?_
          rotate_left
          · intro w hSw
            try dsimp only at hSw
            obtain ⟨s0, s1, s2, s3⟩ := hSw
            go_simp
            all_goals with_reducible rfl
          try simp only [Act.put, List.setIfInBounds_toArray, List.set_cons_zero, List.set_cons_succ]
          refine wpAnyH_take (i := 8) (v := ?_) (by simp only [List.getElem?_toArray, List.getElem?_cons_succ, List.getElem?_cons_zero]; rfl) (by kernel_rfl) (by kernel_rfl) (by kernel_rfl) (by exact fun _ _ _ h => h) (Or.inl ⟨by rfl, ?_⟩) hHeld ?_
          rotate_left
          · intro w hSw
            try dsimp only at hSw
            obtain ⟨s0, s1, s2, s3⟩ := hSw
            go_simp
            all_goals with_reducible rfl
          try simp only [Act.put, List.setIfInBounds_toArray, List.set_cons_zero, List.set_cons_succ]
          refine wpAnyH_take (i := 9) (v := ?_) (by simp only [List.getElem?_toArray, List.getElem?_cons_succ, List.getElem?_cons_zero]; rfl) (by kernel_rfl) (by kernel_rfl) (by kernel_rfl) (by exact fun _ _ _ h => h) (Or.inl ⟨by rfl, ?_⟩) hHeld ?_
          rotate_left
          · intro w hSw
            try dsimp only at hSw
            go_simp
            all_goals with_reducible rfl
          try simp only [Act.put, List.setIfInBounds_toArray, List.set_cons_zero, List.set_cons_succ]
          try simp only [hwr]
          refine wpAnyH_take (i := 10) (v := ?_) (by simp only [List.getElem?_toArray, List.getElem?_cons_succ, List.getElem?_cons_zero]; rfl) (by kernel_rfl) (by kernel_rfl) (by kernel_rfl) (by exact fun _ _ _ h => h) (Or.inl ⟨by rfl, ?_⟩) hHeld ?_
          rotate_left
          · intro w hSw
            try dsimp only at hSw
            go_simp
            all_goals with_reducible rfl
          try simp only [Act.put, List.setIfInBounds_toArray, List.set_cons_zero, List.set_cons_succ]
          refine wpAnyH_ready (rs := [11]) (by kernel_rfl) (by simp) ?_
          refine AllReadyH.cons (by simp only [List.getElem?_toArray, List.getElem?_cons_succ, List.getElem?_cons_zero]; rfl) (fun K hK => ?_) AllReadyH.nil
          go_simp
          refine cw.mono ?_
          rintro e w5 ⟨rfl, f5, hD5, hk5, hn5⟩
          have hl5 := hl4.wrote hcx hD5 hk5 hn5 (Nat.le_trans hXs hW2s) hd2w
          go_wp2_with fail
          refine hK.out _ _ ?_ (fun hHeld2 => ?_)
          · exact ⟨by rw [blk_cell hl5.bx]; rfl, by rw [blk_cell hl5.zl]; rfl, by rw [blk_cell hl5.zl]; rfl, by rw [blk_cell hl5.at_]; rfl⟩
          clear hK K hHeld
          have hHeld := hHeld2
          clear hHeld2
          try simp only [Act.put, List.setIfInBounds_toArray, List.set_cons_zero, List.set_cons_succ]
          refine wpAnyH_take (i := 12) (v := ?_) (by simp only [List.getElem?_toArray, List.getElem?_cons_succ, List.getElem?_cons_zero]; rfl) (by kernel_rfl) (by kernel_rfl) (by kernel_rfl) (by exact fun _ _ _ h => h) (Or.inl ⟨by rfl, ?_⟩) hHeld ?_
          rotate_left
          · intro w hSw
            try dsimp only at hSw
            go_simp
            all_goals with_reducible rfl
          try simp only [Act.put, List.setIfInBounds_toArray, List.set_cons_zero, List.set_cons_succ]
          refine wpAnyH_calm (by kernel_rfl) ?_ _
          have hRF : ∀ j ∈ w8.heap.size :: (w8.heap.size + 1) :: [wc.heap.size, wc.heap.size + 1], j ∉ fp' := fun j hj hm => by
            simp only [List.mem_cons, List.not_mem_nil, or_false] at hj
            rcases hl4.new j hm with e | e
            · have := hO.fp j e
              rcases hj with rfl | rfl | rfl | rfl <;> omega
            · rcases hj with rfl | rfl | rfl | rfl <;> omega
          have hRA : ∀ j ∈ w8.heap.size :: (w8.heap.size + 1) :: [wc.heap.size, wc.heap.size + 1], j ∉ [at_] := fun j hj => by
            simp only [List.mem_cons, List.not_mem_nil, or_false] at hj ⊢
            rcases hj with rfl | rfl | rfl | rfl <;> omega
          have hst := stays_kept (stays_kept (Stays.of_kept (R := w8.heap.size :: (w8.heap.size + 1) :: [wc.heap.size, wc.heap.size + 1]) hk2 (by simp)) (Kept.drew [] W2) (by simp)) hk5 hRF
          have ca5 : w5.cell? ⟨at_, 0, none⟩ = some (.int .i64 av) := by rw [blk_cell hl5.at_]; rfl
          have cf5 : w5.frozen? ⟨at_, 0, none⟩ = false := blk_frozen hl5.at_ 0
          have cr5 : w5.cell? ⟨w.heap.size + 1, 0, none⟩ = some (.int .i64 0) := by rw [blk_cell hl5.rt]; rfl
          have cg5 : w5.frozen? ⟨w.heap.size + 1, 0, none⟩ = false := blk_frozen hl5.rt 0
          clear hk2 hk5 hn5 hl4 cw hcp x0 z0 z1 a0 hD5
          by_cases hv : v = 0
          · subst hv
            have hfit : -9223372036854775808 ≤ av + 1 ∧ av + 1 ≤ 9223372036854775807 := by have h1 := HAV.out; have h2 := hw.fin; have h3 := HPL.out; omega
            gi_wp2
            refine ⟨stays_kept hst (Kept.setCell (F := [at_]) (by simp) _) hRA, d2, f5, HF.out, ?_⟩
            have e2 : (pre ++ [k]).length = pre.length + 1 := by simp
            have hval : av + 1 = ((s.fin / 128 + (pre.length + 1) : Nat) : Int) := by rw [← HAV.out]; omega
            have hlf := hl5.putAt hcx (av + 1)
            rw [hval] at hlf ⊢
            rw [e2]
            exact hlf
          · have hv1 : (v != 0) = true := by simpa using hv
            gi_wp2
            exact ⟨stays_kept (stays_sub hst) (Kept.setCell (F := [w.heap.size + 1]) (by simp) _) (fun j hj => by simp only [List.mem_cons, List.not_mem_nil, or_false] at hj ⊢; rcases hj with rfl | rfl <;> omega), rfl, d2, f5, v, _, _, hv, HF.out, hl5.putRt hcx v⟩
        case done =>
          rintro pre X hS ⟨d', fp', hw1, hl1⟩ hDX
          have hLl : (s.last ++ recB b).length = s.last.length + (n + 7) := by rw [List.length_append, length_recB, hbl]
          have hfin : d.writes (s.first + s.fin / 128 : Nat) ((chunks (s.last ++ recB b)).map pad) = (d', 0) := by rw [← chunks_range, hLl, ← hS]; exact hw1
          obtain ⟨lo, hlo⟩ : ∃ lo, s.last.length + (n + 7) - (s.last.length + (n + 7)) % 128 = lo := ⟨_, rfl⟩
          obtain ⟨nf, hnf⟩ : ∃ nf, s.fin + (n + 7) = nf := ⟨_, rfl⟩
          have hap : s.append d b = ({ s with fin := nf, last := (s.last ++ recB b).drop lo }, d', 0) := by
            unfold St.append
            rw [if_neg (by omega), if_neg (by omega)]
            simp only [hfin, if_true, hLl, hlo, hbl, hnf]
          have hlol : ((s.last ++ recB b).drop lo).length = s.last.length + (n + 7) - lo := by rw [List.length_drop, hLl]
          have HAP := Lib.hid hap
          clear hw1 hfin hap hS
          go_wp2_with fail
          have x0 : X.cell? ⟨w.heap.size, 0, none⟩ = some (.pointer (some ⟨z, 0, none⟩)) := by rw [blk_cell hl1.bx]; rfl
          have hlow : IntKind.i64.wrap ((s.last.length : Int) + ((n : Int) + 7) - ((s.last.length : Int) + ((n : Int) + 7)).tmod 128) = ((lo : Nat) : Int) := by
            rw [Int.tmod_eq_emod_of_nonneg (by omega), IntKind.wrap_i64]
            omega
          have hloL : lo ≤ s.last.length + (n + 7) := by omega
          have hlast := last_sl (hl1.sb.kept (Kept.drew [] X) (by simp))
          rw [hlo] at hlast
          obtain ⟨AX, hAX⟩ : ∃ AX : Option Addr, (if cC = lo then some ⟨bC, oC, none⟩ else some ⟨bC, oC + lo, none⟩) = AX := ⟨_, rfl⟩
          rw [hAX] at hlast
          have hlo1 : (0 ≤ ((lo : Nat) : Int) ∧ ((lo : Nat) : Int) ≤ (s.last.length : Int) + ((n : Int) + 7)) := by omega
          have hDs := World.lt_of_heap hDX
          refine wp_region_calm (S := (fun W => W.cell? ⟨w.heap.size, 0, none⟩ = some (.pointer (some ⟨z, 0, none⟩)))) (by kernel_rfl) x0 (fun hHeld => ?_)
          refine wpAnyH_take (i := 0) (v := ?_) (by simp only [List.getElem?_toArray, List.getElem?_cons_zero]; rfl) (by kernel_rfl) (by kernel_rfl) (by kernel_rfl) (by exact fun _ _ _ h => h) (Or.inl ⟨by rfl, ?_⟩) hHeld ?_
          rotate_left
          · intro w hSw
            try dsimp only at hSw
            go_simp
            all_goals with_reducible rfl
          try simp only [Act.put, List.setIfInBounds_toArray, List.set_cons_zero, List.set_cons_succ]
          refine wpAnyH_take (i := 1) (v := ?_) (by simp only [List.getElem?_toArray, List.getElem?_cons_succ, List.getElem?_cons_zero]; rfl) (by kernel_rfl) (by kernel_rfl) (by kernel_rfl) (by exact fun _ _ _ h => h) (Or.inl ⟨by rfl, ?_⟩) hHeld ?_
          rotate_left
          · intro w hSw
            try dsimp only at hSw
            go_simp
            all_goals with_reducible rfl
          try simp only [Act.put, List.setIfInBounds_toArray, List.set_cons_zero, List.set_cons_succ]
          refine wpAnyH_take (i := 2) (v := ?_) (by simp only [List.getElem?_toArray, List.getElem?_cons_succ, List.getElem?_cons_zero]; rfl) (by kernel_rfl) (by kernel_rfl) (by kernel_rfl) (by exact fun _ _ _ h => h) (Or.inl ⟨by rfl, ?_⟩) hHeld ?_
          rotate_left
          · intro w hSw
            try dsimp only at hSw
            go_simp
            all_goals with_reducible rfl
          try simp only [Act.put, List.setIfInBounds_toArray, List.set_cons_zero, List.set_cons_succ]
          refine wpAnyH_take (i := 3) (v := ?_) (by simp only [List.getElem?_toArray, List.getElem?_cons_succ, List.getElem?_cons_zero]; rfl) (by kernel_rfl) (by kernel_rfl) (by kernel_rfl) (by exact fun _ _ _ h => h) (Or.inl ⟨by rfl, ?_⟩) hHeld ?_
          rotate_left
          · intro w hSw
            try dsimp only at hSw
            go_simp
            all_goals with_reducible rfl
          try simp only [Act.put, List.setIfInBounds_toArray, List.set_cons_zero, List.set_cons_succ]
          refine wpAnyH_take (i := 4) (v := ?_) (by simp only [List.getElem?_toArray, List.getElem?_cons_succ, List.getElem?_cons_zero]; rfl) (by kernel_rfl) (by kernel_rfl) (by kernel_rfl) (by exact fun _ _ _ h => h) (Or.inl ⟨by rfl, ?_⟩) hHeld ?_
          rotate_left
          · intro w hSw
            try dsimp only at hSw
            go_simp
            all_goals with_reducible rfl
          try simp only [Act.put, List.setIfInBounds_toArray, List.set_cons_zero, List.set_cons_succ]
          refine wpAnyH_take (i := 5) (v := ?_) (by simp only [List.getElem?_toArray, List.getElem?_cons_succ, List.getElem?_cons_zero]; rfl) (by kernel_rfl) (by kernel_rfl) (by kernel_rfl) (by exact fun _ _ _ h => h) (Or.inl ⟨by rfl, ?_⟩) hHeld ?_
          rotate_left
          · intro w hSw
            try dsimp only at hSw
            go_simp
            all_goals with_reducible rfl
          try simp only [Act.put, List.setIfInBounds_toArray, List.set_cons_zero, List.set_cons_succ]
          refine wpAnyH_take (i := 6) (v := ?_) (by simp only [List.getElem?_toArray, List.getElem?_cons_succ, List.getElem?_cons_zero]; rfl) (by kernel_rfl) (by kernel_rfl) (by kernel_rfl) (by exact fun _ _ _ h => h) (Or.inl ⟨by rfl, ?_⟩) hHeld ?_
          rotate_left
          · intro w hSw
            try dsimp only at hSw
            go_simp
            all_goals with_reducible rfl
          try simp only [Act.put, List.setIfInBounds_toArray, List.set_cons_zero, List.set_cons_succ]
          refine wpAnyH_take (i := 7) (v := ?_) (by simp only [List.getElem?_toArray, List.getElem?_cons_succ, List.getElem?_cons_zero]; rfl) (by kernel_rfl) (by kernel_rfl) (by kernel_rfl) (by exact fun _ _ _ h => h) (Or.inl ⟨by rfl, ?_⟩) hHeld ?_
          rotate_left
          · intro w hSw
            try dsimp only at hSw
            go_simp
            all_goals with_reducible rfl
          try simp only [Act.put, List.setIfInBounds_toArray, List.set_cons_zero, List.set_cons_succ]
          try simp only [hlow]
          refine wpAnyH_take (i := 8) (v := ?_) (by simp only [List.getElem?_toArray, List.getElem?_cons_succ, List.getElem?_cons_zero]; rfl) (by kernel_rfl) (by kernel_rfl) (by kernel_rfl) (by exact fun _ _ _ h => h) (Or.inl ⟨by rfl, ?_⟩) hHeld ?_
          rotate_left
          · intro w hSw
            try dsimp only at hSw
            go_simp
            try simp only [hlo1, and_self, if_true]
            all_goals with_reducible rfl
          try simp only [Act.put, List.setIfInBounds_toArray, List.set_cons_zero, List.set_cons_succ]
          try simp only [hAX]
          refine wpAnyH_ready (rs := [9]) (by kernel_rfl) (by simp) ?_
          refine AllReadyH.cons (by simp only [List.getElem?_toArray, List.getElem?_cons_succ, List.getElem?_cons_zero]; rfl) (fun K hK => ?_) AllReadyH.nil
          go_simp
          refine (bytesClone_any X.drew _ _ _ ((s.last ++ recB b).drop lo) hlast (by omega)).mono ?_
          rintro e x6 ⟨AN, cN, rfl, hownN, hbelN⟩
          have hk6 : Kept [] X x6 := (Kept.drew [] X).trans (Kept.of_below hbelN)
          obtain ⟨hsN, hNb⟩ := ClonePost.sl hownN
          have hN0 := row_nil' hownN
          have hNlt : ∀ p, AN = some p → p.block < x6.heap.size := fun p e => (hownN.lt p.block (by rw [e]; rfl)).2
          have hz6 := (hk6.block z (World.lt_of_heap hl1.zl) (by simp)).trans hl1.zl
          have hb6 := (hk6.block _ (World.lt_of_heap hl1.bx) (by simp)).trans hl1.bx
          have x6c : x6.cell? ⟨w.heap.size, 0, none⟩ = some (.pointer (some ⟨z, 0, none⟩)) := by rw [blk_cell hb6]; rfl
          have z6c : (x6.cell? ⟨z, 4, none⟩) = some (.slice AL s.last.length cL) := by rw [blk_cell hz6]; rfl
          have z6f : x6.frozen? ⟨z, 4, none⟩ = false := blk_frozen hz6 4
          clear hownN hbelN
          go_wp2_with fail
          refine hK.out _ _ ?_ (fun hHeld2 => ?_)
          · exact x6c
          clear hK K hHeld
          have hHeld := hHeld2
          clear hHeld2
          try simp only [Act.put, List.setIfInBounds_toArray, List.set_cons_zero, List.set_cons_succ]
          refine wpAnyH_take (i := 10) (v := ?_) (by simp only [List.getElem?_toArray, List.getElem?_cons_succ, List.getElem?_cons_zero]; rfl) (by kernel_rfl) (by kernel_rfl) (by kernel_rfl) (by exact fun _ _ _ h => h) (Or.inl ⟨by rfl, ?_⟩) hHeld ?_
          rotate_left
          · intro w hSw
            try dsimp only at hSw
            go_simp
            all_goals with_reducible rfl
          try simp only [Act.put, List.setIfInBounds_toArray, List.set_cons_zero, List.set_cons_succ]
          refine wpAnyH_take (i := 11) (v := ?_) (by simp only [List.getElem?_toArray, List.getElem?_cons_succ, List.getElem?_cons_zero]; rfl) (by kernel_rfl) (by kernel_rfl) (by kernel_rfl) (by exact fun _ _ _ h => h) (Or.inl ⟨by rfl, ?_⟩) hHeld ?_
          rotate_left
          · intro w hSw
            try dsimp only at hSw
            go_simp
            all_goals with_reducible rfl
          try simp only [Act.put, List.setIfInBounds_toArray, List.set_cons_zero, List.set_cons_succ]
          refine wpAnyH_ready (rs := [12]) (by kernel_rfl) (by simp) ?_
          refine AllReadyH.cons (by simp only [List.getElem?_toArray, List.getElem?_cons_succ, List.getElem?_cons_zero]; rfl) (fun K hK => ?_) AllReadyH.nil
          go_simp
          have hz7 := heap_set hz6 4 (.slice AN (s.last.length + (n + 7) - lo) cN)
          have hk7 : Kept [z] x6 (x6.setCell ⟨z, 4, none⟩ (.slice AN (s.last.length + (n + 7) - lo) cN)) := Kept.setCell (by simp) _
          have x7c := (hk7.cell (p := ⟨w.heap.size, 0, none⟩) (World.lt_of_heap hb6) (by simp; omega)).trans x6c
          refine hK.out _ _ ?_ (fun hHeld2 => ?_)
          · exact x7c
          clear hK K hHeld
          have hHeld := hHeld2
          clear hHeld2
          try simp only [Act.put, List.setIfInBounds_toArray, List.set_cons_zero, List.set_cons_succ]
          refine wpAnyH_calm (by kernel_rfl) ?_ _
          generalize x6.setCell ⟨z, 4, none⟩ (.slice AN (s.last.length + (n + 7) - lo) cN) = x7 at *
          have z7c : x7.cell? ⟨z, 3, none⟩ = some (.int .i64 s.fin) := by rw [blk_cell hz7]; rfl
          have z7f : x7.frozen? ⟨z, 3, none⟩ = false := blk_frozen hz7 3
          have hfs : IntKind.i64.wrap ((s.fin : Int) + ((n : Int) + 7)) = ((nf : Nat) : Int) := by
            have h2 := hw.fin
            rw [IntKind.wrap_i64]
            omega
          go_wp2_with fail
          refine wp_region_calm (S := (fun W => W.cell? ⟨w.heap.size, 0, none⟩ = some (.pointer (some ⟨z, 0, none⟩)))) (by kernel_rfl) x7c (fun hHeld => ?_)
          have z7c' : x7.drew.cell? ⟨z, 3, none⟩ = some (.int .i64 s.fin) := z7c
          have z7f' : x7.drew.frozen? ⟨z, 3, none⟩ = false := z7f
          have hz7' : x7.drew.heap[z]? = some (.cells #[.pointer (some ⟨a, 0, none⟩), .int .i64 s.first, .int .i64 s.many, .int .i64 s.fin, .slice AN (s.last.length + (n + 7) - lo) cN] 78 (0, 0)) := hz7
          have hk7d := Kept.drew [z] x7
          have x7dc : x7.drew.cell? ⟨w.heap.size, 0, none⟩ = some (.pointer (some ⟨z, 0, none⟩)) := x7c
          generalize x7.drew = x7d at *
          refine wpAnyH_take (i := 0) (v := ?_) (by simp only [List.getElem?_toArray, List.getElem?_cons_zero]; rfl) (by kernel_rfl) (by kernel_rfl) (by kernel_rfl) (by exact fun _ _ _ h => h) (Or.inl ⟨by rfl, ?_⟩) hHeld ?_
          rotate_left
          · intro w hSw
            try dsimp only at hSw
            go_simp
            all_goals with_reducible rfl
          try simp only [Act.put, List.setIfInBounds_toArray, List.set_cons_zero, List.set_cons_succ]
          refine wpAnyH_take (i := 1) (v := ?_) (by simp only [List.getElem?_toArray, List.getElem?_cons_succ, List.getElem?_cons_zero]; rfl) (by kernel_rfl) (by kernel_rfl) (by kernel_rfl) (by exact fun _ _ _ h => h) (Or.inl ⟨by rfl, ?_⟩) hHeld ?_
          rotate_left
          · intro w hSw
            try dsimp only at hSw
            go_simp
            all_goals with_reducible rfl
          try simp only [Act.put, List.setIfInBounds_toArray, List.set_cons_zero, List.set_cons_succ]
          refine wpAnyH_take (i := 2) (v := ?_) (by simp only [List.getElem?_toArray, List.getElem?_cons_succ, List.getElem?_cons_zero]; rfl) (by kernel_rfl) (by kernel_rfl) (by kernel_rfl) (by exact fun _ _ _ h => h) (Or.inl ⟨by rfl, ?_⟩) hHeld ?_
          rotate_left
          · intro w hSw
            try dsimp only at hSw
            go_simp
            all_goals with_reducible rfl
          try simp only [Act.put, List.setIfInBounds_toArray, List.set_cons_zero, List.set_cons_succ]
          refine wpAnyH_take (i := 4) (v := ?_) (by simp only [List.getElem?_toArray, List.getElem?_cons_succ, List.getElem?_cons_zero]; rfl) (by kernel_rfl) (by kernel_rfl) (by kernel_rfl) (by exact fun _ _ _ h => h) (Or.inl ⟨by rfl, ?_⟩) hHeld ?_
          rotate_left
          · intro w hSw
            try dsimp only at hSw
            go_simp
            all_goals with_reducible rfl
          try simp only [Act.put, List.setIfInBounds_toArray, List.set_cons_zero, List.set_cons_succ]
          refine wpAnyH_take (i := 5) (v := ?_) (by simp only [List.getElem?_toArray, List.getElem?_cons_succ, List.getElem?_cons_zero]; rfl) (by kernel_rfl) (by kernel_rfl) (by kernel_rfl) (by exact fun _ _ _ h => h) (Or.inl ⟨by rfl, ?_⟩) hHeld ?_
          rotate_left
          · intro w hSw
            try dsimp only at hSw
            go_simp
            all_goals with_reducible rfl
          try simp only [Act.put, List.setIfInBounds_toArray, List.set_cons_zero, List.set_cons_succ]
          refine wpAnyH_ready (rs := [3, 6]) (by kernel_rfl) (by simp) ?_
          refine AllReadyH.cons (by simp only [List.getElem?_toArray, List.getElem?_cons_succ, List.getElem?_cons_zero]; rfl) (fun K hK => ?_) (AllReadyH.cons (by simp only [List.getElem?_toArray, List.getElem?_cons_succ, List.getElem?_cons_zero]; rfl) (fun K hK => ?_) AllReadyH.nil)
          · go_simp
            refine hK.out _ _ ?_ (fun hHeld2 => ?_)
            · exact x7dc
            clear hK K hHeld
            have hHeld := hHeld2
            clear hHeld2
            try simp only [Act.put, List.setIfInBounds_toArray, List.set_cons_zero, List.set_cons_succ]
            refine wpAnyH_ready (rs := [6]) (by kernel_rfl) (by simp) ?_
            refine AllReadyH.cons (by simp only [List.getElem?_toArray, List.getElem?_cons_succ, List.getElem?_cons_zero]; rfl) (fun K hK => ?_) AllReadyH.nil
            go_simp
            refine (stripSize_any _ _).mono ?_
            rintro e w' ⟨rfl, rfl⟩
            go_wp2_with fail
            refine hK.out _ _ ?_ (fun hHeld2 => ?_)
            · exact x7dc
            clear hK K hHeld
            have hHeld := hHeld2
            clear hHeld2
            try simp only [Act.put, List.setIfInBounds_toArray, List.set_cons_zero, List.set_cons_succ]
            refine wpAnyH_take (i := 7) (v := ?_) (by simp only [List.getElem?_toArray, List.getElem?_cons_succ, List.getElem?_cons_zero]; rfl) (by kernel_rfl) (by kernel_rfl) (by kernel_rfl) (by exact fun _ _ _ h => h) (Or.inl ⟨by rfl, ?_⟩) hHeld ?_
            rotate_left
            · intro w hSw
              try dsimp only at hSw
              go_simp
              all_goals with_reducible rfl
            try simp only [Act.put, List.setIfInBounds_toArray, List.set_cons_zero, List.set_cons_succ]
            try simp only [hfs]
            refine wpAnyH_take (i := 8) (v := ?_) (by simp only [List.getElem?_toArray, List.getElem?_cons_succ, List.getElem?_cons_zero]; rfl) (by kernel_rfl) (by kernel_rfl) (by kernel_rfl) (by exact fun _ _ _ h => h) (Or.inl ⟨by rfl, ?_⟩) hHeld ?_
            rotate_left
            · intro w hSw
              try dsimp only at hSw
              go_simp
              all_goals with_reducible rfl
            try simp only [Act.put, List.setIfInBounds_toArray, List.set_cons_zero, List.set_cons_succ]
            refine wpAnyH_take (i := 9) (v := ?_) (by simp only [List.getElem?_toArray, List.getElem?_cons_succ, List.getElem?_cons_zero]; rfl) (by kernel_rfl) (by kernel_rfl) (by kernel_rfl) (by exact fun _ _ _ h => h) (Or.inl ⟨by rfl, ?_⟩) hHeld ?_
            rotate_left
            · intro w hSw
              try dsimp only at hSw
              go_simp
              all_goals with_reducible rfl
            try simp only [Act.put, List.setIfInBounds_toArray, List.set_cons_zero, List.set_cons_succ]
            refine wpAnyH_ready (rs := [10]) (by kernel_rfl) (by simp) ?_
            refine AllReadyH.cons (by simp only [List.getElem?_toArray, List.getElem?_cons_succ, List.getElem?_cons_zero]; rfl) (fun K hK => ?_) AllReadyH.nil
            go_simp
            have hz8 := heap_set hz7' 3 (.int .i64 ((nf : Nat) : Int))
            have hk8' : Kept [z] x7 (x7d.setCell ⟨z, 3, none⟩ (.int .i64 ((nf : Nat) : Int))) := hk7d.trans (Kept.setCell (by simp) _)
            have hk68 : Kept [z] x6 (x7d.setCell ⟨z, 3, none⟩ (.int .i64 ((nf : Nat) : Int))) := hk7.trans hk8'
            refine hK.out _ _ ?_ (fun hHeld2 => ?_)
            · exact (hk68.cell (p := ⟨w.heap.size, 0, none⟩) (World.lt_of_heap hb6) (by simp; omega)).trans x6c
            clear hK K hHeld
            have hHeld := hHeld2
            clear hHeld2
            try simp only [Act.put, List.setIfInBounds_toArray, List.set_cons_zero, List.set_cons_succ]
            refine wpAnyH_calm (by kernel_rfl) ?_ _
            generalize World.setCell x7d ⟨z, 3, none⟩ (.int .i64 ((nf : Nat) : Int)) = x8 at *
            have hr6 := (hk6.block _ (World.lt_of_heap hl1.rt) (by simp)).trans hl1.rt
            have hr8 := (hk68.block _ (World.lt_of_heap hr6) (by simp; omega)).trans hr6
            have r8c : x8.cell? ⟨w.heap.size + 1, 0, none⟩ = some (.int .i64 0) := by rw [blk_cell hr8]; rfl
            have r8f : x8.frozen? ⟨w.heap.size + 1, 0, none⟩ = false := blk_frozen hr8 0
            go_wp2_with fail
            rw [HAP.out]
            have hk89 : Kept [w.heap.size + 1] x8 (x8.setCell ⟨w.heap.size + 1, 0, none⟩ (.int .i64 0)) := Kept.setCell (by simp) _
            have hD6 := (hk6.block _ hDs (by simp)).trans hDX
            have hD8 := (hk68.block _ (World.lt_of_heap hD6) (by simp; omega)).trans hD6
            have hD9 := (hk89.block _ (World.lt_of_heap hD8) (by simp; omega)).trans hD8
            have hz9 := (hk89.block z (World.lt_of_heap hz8) (by simp; omega)).trans hz8
            have hr9 := heap_set hr8 0 (.int .i64 0)
            refine ⟨by simp, .inl ⟨_, _, rfl, run_takeDeferred hD9, ?_⟩⟩
            have hkD : Kept [w8.heap.size] (x8.setCell ⟨w.heap.size + 1, 0, none⟩ (.int .i64 0)) (World.putObj (x8.setCell ⟨w.heap.size + 1, 0, none⟩ (.int .i64 0)) w8.heap.size (.deferred none)) := Kept.putObj (r := w8.heap.size) (by simp) _ _
            have hrY := (hkD.block _ (World.lt_of_heap hr9) (by simp; omega)).trans hr9
            have hzY := (hkD.block z (World.lt_of_heap hz9) (by simp; omega)).trans hz9
            refine ⟨_, results_cell_int rfl _ _ (w.heap.size + 1) (.int .i64 0) rfl (by rw [blk_cell hrY]; rfl) Try.underlying25, ?_⟩
            refine hl1.done (s' := { s with fin := nf, last := (s.last ++ recB b).drop lo }) (AN := AN) (cN := cN) hcx hS.zin hDs hk6 (by rw [hlol]; exact hsN) hN0 (fun p e => ⟨hNb p e, hNlt p e⟩) (((hk68.mono (fun i hi => .inl (by simp at hi; simp [hi]))).trans (hk89.mono (fun i hi => .inl (by simp at hi; simp [hi])))).trans (hkD.mono (fun i hi => .inl (by simp at hi; simp [hi])))) ?_
            rw [hzY, hlol]
            rfl
          · go_simp
            refine (stripSize_any _ _).mono ?_
            rintro e w' ⟨rfl, rfl⟩
            go_wp2_with fail
            refine hK.out _ _ ?_ (fun hHeld2 => ?_)
            · exact x7dc
            clear hK K hHeld
            have hHeld := hHeld2
            clear hHeld2
            try simp only [Act.put, List.setIfInBounds_toArray, List.set_cons_zero, List.set_cons_succ]
            refine wpAnyH_ready (rs := [3]) (by kernel_rfl) (by simp) ?_
            refine AllReadyH.cons (by simp only [List.getElem?_toArray, List.getElem?_cons_succ, List.getElem?_cons_zero]; rfl) (fun K hK => ?_) AllReadyH.nil
            go_simp
            refine hK.out _ _ ?_ (fun hHeld2 => ?_)
            · exact x7dc
            clear hK K hHeld
            have hHeld := hHeld2
            clear hHeld2
            try simp only [Act.put, List.setIfInBounds_toArray, List.set_cons_zero, List.set_cons_succ]
            refine wpAnyH_take (i := 7) (v := ?_) (by simp only [List.getElem?_toArray, List.getElem?_cons_succ, List.getElem?_cons_zero]; rfl) (by kernel_rfl) (by kernel_rfl) (by kernel_rfl) (by exact fun _ _ _ h => h) (Or.inl ⟨by rfl, ?_⟩) hHeld ?_
            rotate_left
            · intro w hSw
              try dsimp only at hSw
              go_simp
              all_goals with_reducible rfl
            try simp only [Act.put, List.setIfInBounds_toArray, List.set_cons_zero, List.set_cons_succ]
            try simp only [hfs]
            refine wpAnyH_take (i := 8) (v := ?_) (by simp only [List.getElem?_toArray, List.getElem?_cons_succ, List.getElem?_cons_zero]; rfl) (by kernel_rfl) (by kernel_rfl) (by kernel_rfl) (by exact fun _ _ _ h => h) (Or.inl ⟨by rfl, ?_⟩) hHeld ?_
            rotate_left
            · intro w hSw
              try dsimp only at hSw
              go_simp
              all_goals with_reducible rfl
            try simp only [Act.put, List.setIfInBounds_toArray, List.set_cons_zero, List.set_cons_succ]
            refine wpAnyH_take (i := 9) (v := ?_) (by simp only [List.getElem?_toArray, List.getElem?_cons_succ, List.getElem?_cons_zero]; rfl) (by kernel_rfl) (by kernel_rfl) (by kernel_rfl) (by exact fun _ _ _ h => h) (Or.inl ⟨by rfl, ?_⟩) hHeld ?_
            rotate_left
            · intro w hSw
              try dsimp only at hSw
              go_simp
              all_goals with_reducible rfl
            try simp only [Act.put, List.setIfInBounds_toArray, List.set_cons_zero, List.set_cons_succ]
            refine wpAnyH_ready (rs := [10]) (by kernel_rfl) (by simp) ?_
            refine AllReadyH.cons (by simp only [List.getElem?_toArray, List.getElem?_cons_succ, List.getElem?_cons_zero]; rfl) (fun K hK => ?_) AllReadyH.nil
            go_simp
            have hz8 := heap_set hz7' 3 (.int .i64 ((nf : Nat) : Int))
            have hk8' : Kept [z] x7 (x7d.setCell ⟨z, 3, none⟩ (.int .i64 ((nf : Nat) : Int))) := hk7d.trans (Kept.setCell (by simp) _)
            have hk68 : Kept [z] x6 (x7d.setCell ⟨z, 3, none⟩ (.int .i64 ((nf : Nat) : Int))) := hk7.trans hk8'
            refine hK.out _ _ ?_ (fun hHeld2 => ?_)
            · exact (hk68.cell (p := ⟨w.heap.size, 0, none⟩) (World.lt_of_heap hb6) (by simp; omega)).trans x6c
            clear hK K hHeld
            have hHeld := hHeld2
            clear hHeld2
            try simp only [Act.put, List.setIfInBounds_toArray, List.set_cons_zero, List.set_cons_succ]
            refine wpAnyH_calm (by kernel_rfl) ?_ _
            generalize World.setCell x7d ⟨z, 3, none⟩ (.int .i64 ((nf : Nat) : Int)) = x8 at *
            have hr6 := (hk6.block _ (World.lt_of_heap hl1.rt) (by simp)).trans hl1.rt
            have hr8 := (hk68.block _ (World.lt_of_heap hr6) (by simp; omega)).trans hr6
            have r8c : x8.cell? ⟨w.heap.size + 1, 0, none⟩ = some (.int .i64 0) := by rw [blk_cell hr8]; rfl
            have r8f : x8.frozen? ⟨w.heap.size + 1, 0, none⟩ = false := blk_frozen hr8 0
            go_wp2_with fail
            rw [HAP.out]
            have hk89 : Kept [w.heap.size + 1] x8 (x8.setCell ⟨w.heap.size + 1, 0, none⟩ (.int .i64 0)) := Kept.setCell (by simp) _
            have hD6 := (hk6.block _ hDs (by simp)).trans hDX
            have hD8 := (hk68.block _ (World.lt_of_heap hD6) (by simp; omega)).trans hD6
            have hD9 := (hk89.block _ (World.lt_of_heap hD8) (by simp; omega)).trans hD8
            have hz9 := (hk89.block z (World.lt_of_heap hz8) (by simp; omega)).trans hz8
            have hr9 := heap_set hr8 0 (.int .i64 0)
            refine ⟨by simp, .inl ⟨_, _, rfl, run_takeDeferred hD9, ?_⟩⟩
            have hkD : Kept [w8.heap.size] (x8.setCell ⟨w.heap.size + 1, 0, none⟩ (.int .i64 0)) (World.putObj (x8.setCell ⟨w.heap.size + 1, 0, none⟩ (.int .i64 0)) w8.heap.size (.deferred none)) := Kept.putObj (r := w8.heap.size) (by simp) _ _
            have hrY := (hkD.block _ (World.lt_of_heap hr9) (by simp; omega)).trans hr9
            have hzY := (hkD.block z (World.lt_of_heap hz9) (by simp; omega)).trans hz9
            refine ⟨_, results_cell_int rfl _ _ (w.heap.size + 1) (.int .i64 0) rfl (by rw [blk_cell hrY]; rfl) Try.underlying25, ?_⟩
            refine hl1.done (s' := { s with fin := nf, last := (s.last ++ recB b).drop lo }) (AN := AN) (cN := cN) hcx hS.zin hDs hk6 (by rw [hlol]; exact hsN) hN0 (fun p e => ⟨hNb p e, hNlt p e⟩) (((hk68.mono (fun i hi => .inl (by simp at hi; simp [hi]))).trans (hk89.mono (fun i hi => .inl (by simp at hi; simp [hi])))).trans (hkD.mono (fun i hi => .inl (by simp at hi; simp [hi])))) ?_
            rw [hzY, hlol]
            rfl
        case stop =>
          rintro c pre X hSp ⟨rfl, d', fp', r, k, v, hr0, hw1, hl1⟩ hDX
          have hLl : (s.last ++ recB b).length = s.last.length + (n + 7) := by rw [List.length_append, length_recB, hbl]
          obtain ⟨k2, hk2, hpre⟩ := hSp
          have hfin : d.writes (s.first + s.fin / 128 : Nat) ((chunks (s.last ++ recB b)).map pad) = (d', r) := by
            refine writes_stop _ d _ k2 (d', r) ?_ hr0
            rw [← chunks_range, hLl, ← List.map_take, List.take_range, Nat.min_eq_left hk2, ← hpre]
            exact hw1
          have hap : s.append d b = (s, d', r) := by
            unfold St.append
            rw [if_neg (by omega), if_neg (by omega)]
            simp only [hfin, hr0, if_false]
          rw [hap]
          clear hw1 hfin hap hpre hk2
          refine (wpIn_wide (n := 10)).2 ?_
          go_wp2_with fail
          refine ⟨by simp, .inl ⟨_, _, rfl, run_takeDeferred hDX, ?_⟩⟩
          have hlf := hl1.next hcx (Kept.putObj (F := [w8.heap.size]) (r := w8.heap.size) (by simp) X (.deferred none)) (fun j hj => .inl (by simpa using hj))
          refine ⟨_, results_cell_int rfl _ _ (w.heap.size + 1) (.int .i64 r) rfl (by rw [blk_cell hlf.rt]; rfl) Try.underlying25, ?_⟩
          exact hlf.ends hcx hS.zin hS.lt hne hAL hLn
end Go.Proofs.Ytbnflbkaogpnbaa
