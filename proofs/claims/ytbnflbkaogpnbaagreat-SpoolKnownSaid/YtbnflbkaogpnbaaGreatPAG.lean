/- Texts in one: V5 V4b V6. -/
import Derived.Test.YtbnflbkaogpnbaaGreatPAF
import Derived.Lib.QuoteBits
import Derived.Test.YtbnflbkaogpnbaaGreatPAE
namespace Go.Proofs.YtbnflbkaogpnbaaGreat
open Go.RowKit Go.Shelf
/-- What cut gives: a record's bytes, copied; or that there is none. -/
structure CutX where
 A : Option Addr
 n : Nat
 c : Nat
 xs : List UInt8
 ok : Bool
def CutX.vals (x : CutX) : Array Value := #[.slice x.A x.n x.c, .bool x.ok]
def badX : CutX := ⟨none, 0, 0, [], false⟩
/-- What is said of it. -/
def CutG (X0 : World) (x : CutX) (X : World) : Prop :=
 x.ok = true → SlAt X x.A x.n x.c (u8vs x.xs) ∧ (∀ p, x.A = some p → X0.heap.size ≤ p.block ∧ p.block < X.heap.size) ∧ (x.A = none → x.c = 0) ∧ x.n ≤ 16384
def CutGs (b : List UInt8) (pre : List CutX) (X0 : World) (x : CutX) (X : World) : Prop := pre.length ≤ b.length ∧ CutG X0 x X
theorem recs_many : ∀ l : List (List UInt8), l.length ≤ (recs l).length
 | [] => Nat.le_refl _
 | b :: l => by
  have := recs_many l
  rw [recs_cons, List.length_append, length_recB, List.length_cons]
  omega
def CutS (b : List UInt8) (l : List CutX) : Prop :=
 ((∀ x ∈ l, x.ok = true) ∧ b = recs (l.map CutX.xs) ∧ Small (l.map CutX.xs)) ∨ ∃ p x, l = p ++ [x] ∧ x.ok = false ∧ NoRecs b
def CutSp (b : List UInt8) (l : List CutX) : Prop := ∃ p x, l = p ++ [x] ∧ (x.ok = false → NoRecs b)
theorem SlAt.cut {w : World} {b o n c : Nat} {xs : List UInt8} (h : SlAt w (some ⟨b, o, none⟩) n c (u8vs xs)) {i j : Nat} (hij : i ≤ j) (hj : j ≤ n) : SlAt w (some ⟨b, o + i, none⟩) (j - i) (c - i) (u8vs ((xs.take j).drop i)) := by
 have hl : xs.length = n := by simpa [u8vs] using h.len
 have hnc := h.le
 refine ⟨by simp [u8vs, hl]; omega, by omega, by have := h.max; omega, fun hn => ?_⟩
 obtain ⟨b2, o2, e, hb, hc⟩ := h.cells (by omega)
 cases e
 refine ⟨b, o + i, rfl, hb, fun k hk => ?_⟩
 rw [Nat.add_assoc, hc (i + k) (by omega)]
 simp only [u8vs, List.getElem?_map, List.getElem?_drop, List.getElem?_take]
 rw [if_pos (by omega)]
theorem wrap_i64_lt (n : Nat) (h : n < 9223372036854775808) : IntKind.i64.wrap (n : Int) = (n : Int) := by rw [IntKind.wrap_i64]; omega
theorem i64_or_nat (a b : Nat) (ha : a < 4294967296) (hb : b < 4294967296) : bits .or .i64 (a : Int) (b : Int) = ((a ||| b : Nat) : Int) := by
 have hx : a ||| b < 2 ^ 32 := Nat.or_lt_two_pow (by omega) (by omega)
 show IntKind.i64.wrap ((BitVec.ofInt 64 (a : Int) ||| BitVec.ofInt 64 (b : Int)).toNat : Int) = _
 rw [BitVec.toNat_or, ofInt_u64 a (by omega), ofInt_u64 b (by omega)]
 exact wrap_i64_lt _ (by omega)
theorem or_head (y0 y1 y2 : UInt8) (tl : List UInt8) : bits .or .i64 (bits .or .i64 (wrap64 (wrap64 (y0.toNat : Int) * 65536)) (wrap64 (wrap64 (y1.toNat : Int) * 256))) (wrap64 (y2.toNat : Int)) = ((size3 (y0 :: y1 :: y2 :: tl) : Nat) : Int) := by
 have h0 := y0.toNat_lt; have h1 := y1.toNat_lt; have h2 := y2.toNat_lt
 have e0 : wrap64 (wrap64 (y0.toNat : Int) * 65536) = ((y0.toNat * 65536 : Nat) : Int) := by unfold wrap64; omega
 have e1 : wrap64 (wrap64 (y1.toNat : Int) * 256) = ((y1.toNat * 256 : Nat) : Int) := by unfold wrap64; omega
 have e2 : wrap64 (y2.toNat : Int) = ((y2.toNat : Nat) : Int) := by unfold wrap64; omega
 rw [e0, e1, e2, i64_or_nat _ _ (by omega) (by omega), nat_join 16 (y0.toNat * 65536) (y1.toNat * 256) (by omega) (by omega), i64_or_nat _ _ (by omega) (by omega), nat_join 8 _ _ (by omega) (by omega)]
 rfl
theorem row_nil {w : World} {base : Nat} {t : TypeId} {A : Option Addr} {n c : Nat} {xs : List Value} (h : w.ownsRow base t 1 (.slice A n c) n xs) (e : A = none) : c = 0 := by
 subst e
 rcases h.2 with ⟨e, _⟩ | ⟨g, cap, cur, e, _⟩
 ·injection e
 ·cases e
theorem SlAt.stays {w w' : World} {b o n c : Nat} {xs : List Value} (h : SlAt w (some ⟨b, o, none⟩) n c xs) (hb : w'.heap[b]? = w.heap[b]?) (hs : w.heap.size ≤ w'.heap.size) : SlAt w' (some ⟨b, o, none⟩) n c xs :=
 ⟨h.len, h.le, h.max, fun hn => by
  obtain ⟨b2, o2, e, hl, hc⟩ := h.cells hn
  cases e
  exact ⟨b, o, rfl, Nat.lt_of_lt_of_le hl hs, fun i hi => (World.cell?_of_block (a := ⟨b, o + i, none⟩) hb).trans (hc i hi)⟩⟩
/-- The state of cut at a round's head. -/
def CutAt (W : World) (Bb : Nat) (R : List Nat) (b0 : List UInt8) (J : List CutX → World → Prop) (wr : World) : Prop :=
 ∃ (pre : List CutX) (rest : List UInt8) (A : Option Addr) (m c : Nat), J pre wr ∧ (∀ x ∈ pre, x.ok = true) ∧ b0 = recs (pre.map CutX.xs) ++ rest ∧ Small (pre.map CutX.xs) ∧ wr.heap[Bb]? = some (.cells #[.slice A m c] 45 (0, 0)) ∧
  SlAt wr A m c (u8vs rest) ∧ (∀ p, A = some p → p.block ∈ R ∧ p.block ≠ Bb) ∧ W.heap.size ≤ wr.heap.size
def cutLeft (Bb : Nat) (wr : World) : Nat := match wr.cell? ⟨Bb, 0, none⟩ with
 | some (.slice _ m _) => m
 | _ => 0
attribute [local go_sem] Oper.semAt_some
set_option maxRecDepth 100000 in
set_option maxHeartbeats 4000000 in
theorem cut1_in (n : Nat) (hn : 1 ≤ n) (l Bb : Nat) (R : List Nat) (hBR : Bb ∈ R) (b0 : List UInt8) (hb0 : b0.length ≤ 100000000) (A0 : Option Addr) (m0 c0 : Nat) (J Jx : List CutX → World → Prop) (W : World)
  (hBb : W.heap[Bb]? = some (.cells #[.slice A0 m0 c0] 45 (0, 0))) (hs0 : SlAt W A0 m0 c0 (u8vs b0)) (hA0 : ∀ p, A0 = some p → p.block ∈ R ∧ p.block ≠ Bb)
  (hJ : ∀ s X Y, J s X → Kept [Bb] X Y → J s Y)
  (hY : ∀ pre x X0 X, J pre X0 → W.heap.size ≤ X0.heap.size → Kept [Bb] X0 X → CutGs b0 pre X0 x X → YieldAt Fence.wide (n - 1) Tryz.prog l x.vals X fun e Y =>
   (e = .returned (.bool true) ∧ J (pre ++ [x]) Y ∧ Stays R X Y) ∨ (e = .returned (.bool false) ∧ Jx (pre ++ [x]) Y ∧ X.heap.size ≤ Y.heap.size))
  (h0 : J [] W) :
  CallsIn Fence.wide n Tryz.prog 103 #[.func (.yield l) #[] #[], .pointer (some ⟨Bb, 0, none⟩)] W fun e Y => (∃ v, e = .returned v) ∧
   ((∃ ys, CutS b0 ys ∧ J ys Y) ∨ (∃ pre, CutSp b0 pre ∧ Jx pre Y)) := by
 refine callsIn_of_wp Tryz.func103 rfl trivial ?_ rfl
 simp only [Tryz.ntmps103, List.size_toArray, List.length_cons, List.length_nil, Nat.reduceAdd, Nat.reduceSub, Array.replicate_succ, Array.replicate_zero, List.push_toArray, List.append_toArray, List.nil_append, List.cons_append]
 gi_wp2
 gi_loopw [3] (fun _ wr => CutAt W Bb R b0 J wr) (fun _ wr => cutLeft Bb wr)
 case atStart => exact ⟨[], b0, A0, m0, c0, h0, by simp, by simp [recs_nil], by simp [Small], hBb, hs0, hA0, Nat.le_refl _⟩
 case round =>
  obtain ⟨pre, rest, A, m, c, hJs, hok, hb, hsm, hBw, hsl, hAR, hsz⟩ := hrel
  have hpl : pre.length ≤ b0.length := by
   have h1 := recs_many (pre.map CutX.xs)
   rw [hb, List.length_append]
   rw [List.length_map] at h1
   omega
  have hrl : rest.length = m := by simpa [u8vs] using hsl.len
  have hmc := hsl.le; have hcm := hsl.max
  unfold maxLen at hcm
  have hm1 : m ≤ 100000000 := by
   have := congrArg List.length hb
   rw [List.length_append] at this
   omega
  have cb : wr.cell? ⟨Bb, 0, none⟩ = some (.slice A m c) := by rw [blk_cell hBw]; rfl
  have cf : wr.frozen? ⟨Bb, 0, none⟩ = false := blk_frozen hBw 0
  by_cases hm0 : m = 0
  ·subst hm0
   obtain rfl : rest = [] := List.length_eq_zero_iff.1 hrl
   gi_wp2
   go_end0
   exact ⟨⟨_, rfl⟩, .inl ⟨pre, .inl ⟨hok, by simpa using hb, hsm⟩, hJs⟩⟩
  ·have i0 : 0 < (m : Int) := by omega
   obtain ⟨blk, o, rfl, hbl, hcells⟩ := hsl.cells (by omega)
   have hrne : rest ≠ [] := fun e => by rw [e] at hrl; simp at hrl; omega
   by_cases h7 : m < 7
   ·have i1 : (m : Int) < 7 := by omega
    have hno : NoRecs b0 := by rw [hb]; exact noRecs_behind hsm (noRecs_short hrne (by omega))
    obtain ⟨fn, tmps, assign, body, hy, hR⟩ := hY pre badX wr wr hJs hsz (Kept.refl _ _) ⟨hpl, fun h => by cases h⟩
    dsimp only [CutX.vals, badX] at hy
    gi_wp2
    refine hR.mono ?_
    clear hR hy
    rintro e W3 (⟨rfl, hJ3, hk3⟩ | ⟨rfl, hJx3, hsz3⟩)
    ·gi_wp2
     refine bodyPost_ret (results_none rfl _ _ _) rfl ?_
     exact ⟨⟨_, rfl⟩, .inl ⟨_, .inr ⟨pre, badX, rfl, rfl, hno⟩, hJ3⟩⟩
    ·gi_wp2
     refine bodyPost_ret (results_none rfl _ _ _) rfl ?_
     exact ⟨⟨_, rfl⟩, .inr ⟨_, ⟨pre, badX, rfl, fun _ => hno⟩, hJx3⟩⟩
   ·have i1 : ¬ (m : Int) < 7 := by omega
    obtain ⟨y0, y1, y2, tl, rfl⟩ : ∃ y0 y1 y2 tl, rest = y0 :: y1 :: y2 :: tl := by
     rcases rest with _ | ⟨y0, _ | ⟨y1, _ | ⟨y2, tl⟩⟩⟩
     ·simp at hrl; omega
     ·simp at hrl; omega
     ·simp at hrl; omega
     ·exact ⟨y0, y1, y2, tl, rfl⟩
    have g0 : wr.cell? ⟨blk, o, none⟩ = some (.int .u8 (y0.toNat : Int)) := (hcells 0 (by omega)).trans (by simp [u8vs, u8v])
    have g1 : wr.cell? ⟨blk, o + 1, none⟩ = some (.int .u8 (y1.toNat : Int)) := (hcells 1 (by omega)).trans (by simp [u8vs, u8v])
    have g2 : wr.cell? ⟨blk, o + 2, none⟩ = some (.int .u8 (y2.toNat : Int)) := (hcells 2 (by omega)).trans (by simp [u8vs, u8v])
    have i2 : (2 : Int) < (m : Int) := by omega
    have i3 : (1 : Int) < (m : Int) := by omega
    gi_wp2
    refine wpIn_wide.2 ?_
    go_region
    have hsz3 := or_head y0 y1 y2 tl
    rw [hsz3]
    clear hsz3 g0 g1 g2 i2 i3
    generalize hk3 : size3 (y0 :: y1 :: y2 :: tl) = k at *
    generalize y0 :: y1 :: y2 :: tl = rest at *
    by_cases hbig : 16384 < k
    ·have i4 : (16384 : Int) < (k : Int) := by omega
     have hd1 : decide ((16384 : Int) < (k : Int)) = true := decide_eq_true i4
     have hno : NoRecs b0 := by rw [hb]; exact noRecs_behind hsm (noRecs_great hrne (by omega))
     gi_wp2
     refine wpIn_wide.2 ?_
     go_quiet (fail)
     obtain ⟨fn, tmps, assign, body, hy, hR⟩ := hY pre badX wr (wr.drewN (1 + nq)) hJs hsz (Kept.drewN _ wr _) ⟨hpl, fun h => by cases h⟩
     dsimp only [CutX.vals, badX] at hy
     gi_wp2
     refine hR.mono ?_
     clear hR hy
     rintro e W3 (⟨rfl, hJ3, hk3⟩ | ⟨rfl, hJx3, hsz3⟩)
     ·gi_wp2
      refine bodyPost_ret (results_none rfl _ _ _) rfl ?_
      exact ⟨⟨_, rfl⟩, .inl ⟨_, .inr ⟨pre, badX, rfl, rfl, hno⟩, hJ3⟩⟩
     ·gi_wp2
      refine bodyPost_ret (results_none rfl _ _ _) rfl ?_
      exact ⟨⟨_, rfl⟩, .inr ⟨_, ⟨pre, badX, rfl, fun _ => hno⟩, hJx3⟩⟩
    ·by_cases hshort : m < k + 7
     ·have i4 : ¬ (16384 : Int) < (k : Int) := by omega
      have i5 : (m : Int) < (k : Int) + 7 := by omega
      have hd1 : decide ((16384 : Int) < (k : Int)) = false := decide_eq_false i4
      have hd2 : decide ((m : Int) < (k : Int) + 7) = true := decide_eq_true i5
      clear i4 i5
      have hno : NoRecs b0 := by rw [hb]; exact noRecs_behind hsm (noRecs_cut hrne (by omega))
      gi_wp2
      refine wpIn_wide.2 ?_
      go_quiet (fail)
      obtain ⟨fn, tmps, assign, body, hy, hR⟩ := hY pre badX wr (wr.drewN (1 + nq)) hJs hsz (Kept.drewN _ wr _) ⟨hpl, fun h => by cases h⟩
      dsimp only [CutX.vals, badX] at hy
      gi_wp2
      refine hR.mono ?_
      clear hR hy
      rintro e W3 (⟨rfl, hJ3, hk3⟩ | ⟨rfl, hJx3, hsz3⟩)
      ·gi_wp2
       refine bodyPost_ret (results_none rfl _ _ _) rfl ?_
       exact ⟨⟨_, rfl⟩, .inl ⟨_, .inr ⟨pre, badX, rfl, rfl, hno⟩, hJ3⟩⟩
      ·gi_wp2
       refine bodyPost_ret (results_none rfl _ _ _) rfl ?_
       exact ⟨⟨_, rfl⟩, .inr ⟨_, ⟨pre, badX, rfl, fun _ => hno⟩, hJx3⟩⟩
     ·have i4 : ¬ (16384 : Int) < (k : Int) := by omega
      have i5 : ¬ (m : Int) < (k : Int) + 7 := by omega
      have hd1 : decide ((16384 : Int) < (k : Int)) = false := decide_eq_false i4
      have hd2 : decide ((m : Int) < (k : Int) + 7) = false := decide_eq_false i5
      have hw7 : IntKind.i64.wrap ((k : Int) + 7) = (k : Int) + 7 := by rw [IntKind.wrap_i64]; omega
      have hw3 : IntKind.i64.wrap (3 + (k : Int)) = 3 + (k : Int) := by rw [IntKind.wrap_i64]; omega
      have hs1 : (0 ≤ 3 + (k : Int) ∧ 3 + (k : Int) ≤ (c : Int)) = True := by simp only [eq_iff_iff, iff_true]; omega
      have hs2 : (3 ≤ max (3 + (k : Int)) 0) = True := by simp only [eq_iff_iff, iff_true]; omega
      have hs3 : (c = 3) = False := by simp only [eq_iff_iff, iff_false]; omega
      have hs4 : (3 + (k : Int)).toNat - 3 = k := by omega
      have hs5 : (0 ≤ (k : Int) + 7 ∧ (k : Int) + 7 ≤ (c : Int)) = True := by simp only [eq_iff_iff, iff_true]; omega
      have hs6 : ((k : Int) + 7).toNat = k + 7 := by omega
      have hkw := (Kept.drew [] wr).trans (Kept.drew [] _)
      have hsd := hsl.kept hkw (by simp)
      have hbody := hsd.cut (i := 3) (j := 3 + k) (by omega) (by omega)
      rw [show 3 + k - 3 = k by omega, List.drop_take, show 3 + k - 3 = k by omega] at hbody
      have hwhole := hsd.cut (i := 0) (j := k + 7) (by omega) (by omega)
      simp only [Nat.add_zero, Nat.sub_zero, List.drop_zero] at hwhole
      gi_wp2
      refine wpIn_wide.2 ?_
      refine wp_region_calm (S := (fun W => W.cell? ⟨Bb, 0, none⟩ = some (.slice (some ⟨blk, o, none⟩) m c))) (by kernel_rfl) cb (fun hHeld => ?_)
      refine tk (i := 0) (v := ?_) (hy := Or.inl ⟨by rfl, ?_⟩) (hS := hHeld) (h := ?_)
      rotate_left
      ·intro w hSw
       try dsimp only at hSw
       go_simp
       all_goals with_reducible rfl
      try simp only [Act.put, List.setIfInBounds_toArray, List.set_cons_zero, List.set_cons_succ]
      refine tk (i := 1) (v := ?_) (hy := Or.inl ⟨by rfl, ?_⟩) (hS := hHeld) (h := ?_)
      rotate_left
      ·intro w hSw
       try dsimp only at hSw
       go_simp
       all_goals with_reducible rfl
      try simp only [Act.put, List.setIfInBounds_toArray, List.set_cons_zero, List.set_cons_succ]
      try simp only [hd1]
      refine tk (i := 2) (v := ?_) (hy := Or.inl ⟨by rfl, ?_⟩) (hS := hHeld) (h := ?_)
      rotate_left
      ·intro w hSw
       try dsimp only at hSw
       go_simp
       all_goals with_reducible rfl
      try simp only [Act.put, List.setIfInBounds_toArray, List.set_cons_zero, List.set_cons_succ]
      refine tk (i := 3) (v := ?_) (hy := Or.inl ⟨by rfl, ?_⟩) (hS := hHeld) (h := ?_)
      rotate_left
      ·intro w hSw
       try dsimp only at hSw
       go_simp
       all_goals with_reducible rfl
      try simp only [Act.put, List.setIfInBounds_toArray, List.set_cons_zero, List.set_cons_succ]
      refine tk (i := 4) (v := ?_) (hy := Or.inl ⟨by rfl, ?_⟩) (hS := hHeld) (h := ?_)
      rotate_left
      ·intro w hSw
       try dsimp only at hSw
       go_simp
       all_goals with_reducible rfl
      try simp only [Act.put, List.setIfInBounds_toArray, List.set_cons_zero, List.set_cons_succ]
      refine tk (i := 5) (v := ?_) (hy := Or.inl ⟨by rfl, ?_⟩) (hS := hHeld) (h := ?_)
      rotate_left
      ·intro w hSw
       try dsimp only at hSw
       go_simp
       all_goals with_reducible rfl
      try simp only [Act.put, List.setIfInBounds_toArray, List.set_cons_zero, List.set_cons_succ]
      refine tk (i := 6) (v := ?_) (hy := Or.inl ⟨by rfl, ?_⟩) (hS := hHeld) (h := ?_)
      rotate_left
      ·intro w hSw
       try dsimp only at hSw
       go_simp
       all_goals with_reducible rfl
      try simp only [Act.put, List.setIfInBounds_toArray, List.set_cons_zero, List.set_cons_succ]
      try simp only [hw7]
      refine tk (i := 7) (v := ?_) (hy := Or.inl ⟨by rfl, ?_⟩) (hS := hHeld) (h := ?_)
      rotate_left
      ·intro w hSw
       try dsimp only at hSw
       go_simp
       all_goals with_reducible rfl
      try simp only [Act.put, List.setIfInBounds_toArray, List.set_cons_zero, List.set_cons_succ]
      try simp only [hd2]
      refine tk (i := 8) (v := ?_) (hy := Or.inl ⟨by rfl, ?_⟩) (hS := hHeld) (h := ?_)
      rotate_left
      ·intro w hSw
       try dsimp only at hSw
       go_simp
       all_goals with_reducible rfl
      try simp only [Act.put, List.setIfInBounds_toArray, List.set_cons_zero, List.set_cons_succ]
      refine tk (i := 9) (v := ?_) (hy := Or.inl ⟨by rfl, ?_⟩) (hS := hHeld) (h := ?_)
      rotate_left
      ·intro w hSw
       try dsimp only at hSw
       go_simp
       all_goals with_reducible rfl
      try simp only [Act.put, List.setIfInBounds_toArray, List.set_cons_zero, List.set_cons_succ]
      refine tk (i := 10) (v := ?_) (hy := Or.inl ⟨by rfl, ?_⟩) (hS := hHeld) (h := ?_)
      rotate_left
      ·intro w hSw
       try dsimp only at hSw
       go_simp
       all_goals with_reducible rfl
      try simp only [Act.put, List.setIfInBounds_toArray, List.set_cons_zero, List.set_cons_succ]
      refine tk (i := 11) (v := ?_) (hy := Or.inl ⟨by rfl, ?_⟩) (hS := hHeld) (h := ?_)
      rotate_left
      ·intro w hSw
       try dsimp only at hSw
       go_simp
       all_goals with_reducible rfl
      try simp only [Act.put, List.setIfInBounds_toArray, List.set_cons_zero, List.set_cons_succ]
      refine tk (i := 12) (v := ?_) (hy := Or.inl ⟨by rfl, ?_⟩) (hS := hHeld) (h := ?_)
      rotate_left
      ·intro w hSw
       try dsimp only at hSw
       go_simp
       all_goals with_reducible rfl
      try simp only [Act.put, List.setIfInBounds_toArray, List.set_cons_zero, List.set_cons_succ]
      try simp only [hw3]
      refine tk (i := 13) (v := ?_) (hy := Or.inl ⟨by rfl, ?_⟩) (hS := hHeld) (h := ?_)
      rotate_left
      ·intro w hSw
       try dsimp only at hSw
       go_simp
       try simp only [hs1, hs2, hs3, hs4, if_true, if_false]
       all_goals with_reducible rfl
      try simp only [Act.put, List.setIfInBounds_toArray, List.set_cons_zero, List.set_cons_succ]
      refine tk (i := 15) (v := ?_) (hy := Or.inl ⟨by rfl, ?_⟩) (hS := hHeld) (h := ?_)
      rotate_left
      ·intro w hSw
       try dsimp only at hSw
       go_simp
       all_goals with_reducible rfl
      try simp only [Act.put, List.setIfInBounds_toArray, List.set_cons_zero, List.set_cons_succ]
      refine tk (i := 16) (v := ?_) (hy := Or.inl ⟨by rfl, ?_⟩) (hS := hHeld) (h := ?_)
      rotate_left
      ·intro w hSw
       try dsimp only at hSw
       go_simp
       all_goals with_reducible rfl
      try simp only [Act.put, List.setIfInBounds_toArray, List.set_cons_zero, List.set_cons_succ]
      refine tk (i := 17) (v := ?_) (hy := Or.inl ⟨by rfl, ?_⟩) (hS := hHeld) (h := ?_)
      rotate_left
      ·intro w hSw
       try dsimp only at hSw
       go_simp
       all_goals with_reducible rfl
      try simp only [Act.put, List.setIfInBounds_toArray, List.set_cons_zero, List.set_cons_succ]
      try simp only [hw7]
      refine tk (i := 18) (v := ?_) (hy := Or.inl ⟨by rfl, ?_⟩) (hS := hHeld) (h := ?_)
      rotate_left
      ·intro w hSw
       try dsimp only at hSw
       go_simp
       try simp only [hs5, hs6, if_true]
       all_goals with_reducible rfl
      try simp only [Act.put, List.setIfInBounds_toArray, List.set_cons_zero, List.set_cons_succ]
      refine wpAnyH_ready (rs := [14]) (by kernel_rfl) (by simp) ?_
      refine AllReadyH.cons (by simp only [List.getElem?_toArray, List.getElem?_cons_succ, List.getElem?_cons_zero]; rfl) (fun K hK => ?_) AllReadyH.nil
      go_simp
      refine (record_any _ _ k _ ((rest.drop 3).take k) hbody (fun e => by cases e) (by omega)).mono ?_
      rintro e w4 ⟨AR, cR, rfl, hownR, hbelR⟩
      have hk4 := Kept.of_below (F := []) hbelR
      have hsR := (ClonePost.sl hownR).1
      have hwhole4 := hwhole.kept hk4 (by simp)
      have cb4 := (hk4.cell (p := ⟨Bb, 0, none⟩) (World.lt_of_heap hBw) (by simp)).trans cb
      clear hownR hbelR
      go_wp2_with fail
      refine hK.out _ _ ?_ (fun hHeld2 => ?_)
      ·exact cb4
      clear hK K hHeld
      have hHeld := hHeld2
      clear hHeld2
      try simp only [Act.put, List.setIfInBounds_toArray, List.set_cons_zero, List.set_cons_succ]
      refine wpAnyH_ready (rs := [19]) (by kernel_rfl) (by simp) ?_
      refine AllReadyH.cons (by simp only [List.getElem?_toArray, List.getElem?_cons_succ, List.getElem?_cons_zero]; rfl) (fun K hK => ?_) AllReadyH.nil
      go_simp
      refine (bytesEqual_any _ AR _ _ cR _ c (recB ((rest.drop 3).take k)) (rest.take (k + 7)) hsR hwhole4 (by omega) (by omega)).mono ?_
      rintro e w5 ⟨rfl, rfl⟩
      go_wp2_with fail
      refine hK.out _ _ ?_ (fun hHeld2 => ?_)
      ·exact cb4
      clear hK K hHeld
      have hHeld := hHeld2
      clear hHeld2
      try simp only [Act.put, List.setIfInBounds_toArray, List.set_cons_zero, List.set_cons_succ]
      refine tk (i := 20) (v := ?_) (hy := Or.inl ⟨by rfl, ?_⟩) (hS := hHeld) (h := ?_)
      rotate_left
      ·intro w hSw
       try dsimp only at hSw
       go_simp
       all_goals with_reducible rfl
      try simp only [Act.put, List.setIfInBounds_toArray, List.set_cons_zero, List.set_cons_succ]
      refine tk (i := 21) (v := ?_) (hy := Or.inl ⟨by rfl, ?_⟩) (hS := hHeld) (h := ?_)
      rotate_left
      ·intro w hSw
       try dsimp only at hSw
       go_simp
       all_goals with_reducible rfl
      try simp only [Act.put, List.setIfInBounds_toArray, List.set_cons_zero, List.set_cons_succ]
      refine wpAnyH_calm (by kernel_rfl) ?_ _
      have hkx := hkw.trans hk4
      have hBw4 := (hkx.block Bb (World.lt_of_heap hBw) (by simp)).trans hBw
      have cf4 : w4.frozen? ⟨Bb, 0, none⟩ = false := blk_frozen hBw4 0
      have hbody4 := hbody.kept hk4 (by simp)
      clear hsR hwhole4 hwhole hbody
      by_cases heq : recB ((rest.drop 3).take k) = rest.take (k + 7)
      ·have hdq : decide (recB ((rest.drop 3).take k) = rest.take (k + 7)) = true := decide_eq_true heq
       rw [hdq]
       gi_wp2
       refine ⟨trivial, ?_⟩
       refine (callsIn_wide.2 (bytesClone_any w4 _ _ _ ((rest.drop 3).take k) hbody4 (by omega))).mono ?_
       rintro e w6 ⟨A6, c6, rfl, hown6, hbel6⟩
       have hk6 := Kept.of_below (F := []) hbel6
       obtain ⟨hs6, hn6⟩ := ClonePost.sl hown6
       have hA6 := row_nil hown6
       have hn7 : ∀ p, A6 = some p → w4.heap.size ≤ p.block ∧ p.block < w6.heap.size := fun p e => ⟨hn6 p e, (hown6.lt p.block (by rw [e]; rfl)).2⟩
       have hJ4 := hJ pre wr w4 hJs (hkx.mono (by simp))
       obtain ⟨fn, tmps, assign, body, hy, hR⟩ := hY pre ⟨A6, k, c6, (rest.drop 3).take k, true⟩ w4 w6 hJ4 (Nat.le_trans hsz hkx.size) (hk6.mono (by simp)) ⟨hpl, fun _ => ⟨hs6, hn7, hA6, Nat.le_of_not_lt hbig⟩⟩
       dsimp only [CutX.vals] at hy
       clear hown6 hbel6
       gi_wp2
       refine hR.mono ?_
       clear hR hy
       rintro e W3 (⟨rfl, hJ3, hk3'⟩ | ⟨rfl, hJx3, hsz3⟩)
       ·have hkr6 := hkx.trans hk6
        have hB6 := (hkr6.block Bb (World.lt_of_heap hBw) (by simp)).trans hBw
        have hB3 := (hk3'.same Bb hBR (World.lt_of_heap hB6)).trans hB6
        have cb3 : W3.cell? ⟨Bb, 0, none⟩ = some (.slice (some ⟨blk, o, none⟩) m c) := by rw [blk_cell hB3]; rfl
        have cf3 : W3.frozen? ⟨Bb, 0, none⟩ = false := blk_frozen hB3 0
        have hsl3 : SlAt W3 (some ⟨blk, o, none⟩) m c (u8vs rest) := (hsl.kept hkr6 (by simp)).stays ((hk3'.same blk (hAR _ rfl).1 (Nat.lt_of_lt_of_le hbl hkr6.size))) hk3'.size
        clear hsl cb cb4 cf cf4 hbody4
        have hrf := rec_first (b := rest) (by rw [hk3]; exact heq)
        rw [hk3] at hrf
        gi_wp2
        have hWk : Kept [Bb] W3 (W3.setCell ⟨Bb, 0, none⟩ (.slice (if c = k + 7 then some ⟨blk, o, none⟩ else some ⟨blk, o + (k + 7), none⟩) (m - (k + 7)) (c - (k + 7)))) := Kept.setCell (by simp) _
        have hWh := heap_set hB3 0 (.slice (if c = k + 7 then some ⟨blk, o, none⟩ else some ⟨blk, o + (k + 7), none⟩) (m - (k + 7)) (c - (k + 7)))
        refine ⟨⟨pre ++ [⟨A6, k, c6, (rest.drop 3).take k, true⟩], rest.drop (k + 7), _, _, _, hJ _ _ _ hJ3 hWk, ?_, ?_, ?_, hWh, ?_, ?_, ?_⟩, ?_⟩
        ·intro x hx
         rcases List.mem_append.1 hx with h1 | h1
         ·exact hok x h1
         ·simp only [List.mem_singleton] at h1; rw [h1]
        ·rw [List.map_append, recs_append, List.append_assoc, hb]
         congr 1
         simp only [List.map_cons, List.map_nil, recs_cons, recs_nil, List.append_nil]
         exact hrf
        ·rw [List.map_append]
         exact hsm.append (Small.one (by rw [List.length_take]; omega))
        ·have hd : SlAt W3 (if c = k + 7 then some ⟨blk, o, none⟩ else some ⟨blk, o + (k + 7), none⟩) (m - (k + 7)) (c - (k + 7)) (u8vs (rest.drop (k + 7))) := by
          split
          ·exact ⟨by simp [u8vs, hrl], by omega, by unfold maxLen; omega, fun h => by omega⟩
          ·have h1 := hsl3.cut (i := k + 7) (j := m) (by omega) (by omega)
           rwa [List.take_of_length_le (by omega)] at h1
         exact hd.kept hWk (fun p e => by split at e <;> (cases e; simp; exact (hAR ⟨blk, o, none⟩ rfl).2))
        ·intro p e
         split at e <;> (cases e; exact hAR ⟨blk, o, none⟩ rfl)
        ·have h1 := hkr6.size; have h2 := hk3'.size; have h3 := hWk.size
         omega
        ·unfold cutLeft
         rw [blk_cell hWh, blk_cell hBw]
         show m - (k + 7) < m
         omega
       ·gi_wp2
        refine bodyPost_ret (results_none rfl _ _ _) rfl ?_
        exact ⟨⟨_, rfl⟩, .inr ⟨_, ⟨pre, _, rfl, fun h => by cases h⟩, hJx3⟩⟩
      ·have hdq : decide (recB ((rest.drop 3).take k) = rest.take (k + 7)) = false := decide_eq_false heq
       have hno : NoRecs b0 := by rw [hb]; exact noRecs_behind hsm (noRecs_other hrne (by rw [hk3]; exact heq))
       rw [hdq]
       obtain ⟨fn, tmps, assign, body, hy, hR⟩ := hY pre badX wr w4 hJs hsz (hkx.mono (by simp)) ⟨hpl, fun h => by cases h⟩
       dsimp only [CutX.vals, badX] at hy
       gi_wp2
       refine hR.mono ?_
       clear hR hy
       rintro e W3 (⟨rfl, hJ3, hk3'⟩ | ⟨rfl, hJx3, hsz3⟩)
       ·gi_wp2
        refine bodyPost_ret (results_none rfl _ _ _) rfl ?_
        exact ⟨⟨_, rfl⟩, .inl ⟨_, .inr ⟨pre, badX, rfl, rfl, hno⟩, hJ3⟩⟩
       ·gi_wp2
        refine bodyPost_ret (results_none rfl _ _ _) rfl ?_
        exact ⟨⟨_, rfl⟩, .inr ⟨_, ⟨pre, badX, rfl, fun _ => hno⟩, hJx3⟩⟩
/-- strip.cut(b): its value. -/
theorem cut_any (w : World) (A : Option Addr) (n c : Nat) : Calls Tryz.prog 84 #[.slice A n c] w fun e w' =>
  e = .returned (.func (.func 103) #[] #[.pointer (some ⟨w.heap.size, 0, none⟩)]) ∧ w' = w.alloc (.cells #[.slice A n c] 45) := by
 go_enter Tryz.func84, Tryz.ntmps84
 go_wp2
 go_ret
 exact ⟨rfl, rfl⟩
/-- What cut's value promises. -/
theorem cut_seq (n : Nat) (hn : 1 ≤ n) (Bb : Nat) (b0 : List UInt8) (hb0 : b0.length ≤ 100000000) (A : Option Addr) (m c : Nat) (w : World)
  (hBb : w.heap[Bb]? = some (.cells #[.slice A m c] 45 (0, 0))) (hs : SlAt w A m c (u8vs b0)) (hA : ∀ p, A = some p → p.block < w.heap.size ∧ p.block ≠ Bb) :
  SeqAt Fence.wide n Tryz.prog 103 #[.pointer (some ⟨Bb, 0, none⟩)] CutX.vals [Bb] (Bb :: (A.map (·.block)).toList) (CutGs b0) (CutS b0) (CutSp b0) w := fun l J Jx W hW hJ hJx hY h0 => by
 refine (cut1_in n hn l Bb (Bb :: (A.map (·.block)).toList) (by simp) b0 hb0 A m c J Jx W ((hW.block Bb (World.lt_of_heap hBb) (by simp)).trans hBb) (hs.kept hW (by simp)) (fun p e => ?_) hJ hY h0).mono ?_
 ·subst e
  exact ⟨by simp, (hA p rfl).2⟩
 ·rintro e Y ⟨he, h⟩
  exact ⟨he, h⟩
end Go.Proofs.YtbnflbkaogpnbaaGreat
namespace Go.Proofs.YtbnflbkaogpnbaaGreat
open Go.RowKit
theorem SlAt.blk {w : World} {g n : Nat} {xs : List Value} {t : TypeId} {fz : Nat × Nat} (h : w.heap[g]? = some (.cells xs.toArray t fz)) (hn : xs.length = n) (hm : n ≤ maxLen) : SlAt w (some ⟨g, 0, none⟩) n n xs :=
 ⟨hn, Nat.le_refl _, hm, fun _ => ⟨g, 0, rfl, World.lt_of_heap h, fun i _ => by rw [blk_cell h, Nat.zero_add, List.getElem?_toArray]⟩⟩
theorem write_works (d : Dev) (i : Int) (b : Blk) : (d.write i b).1.works ≤ d.works + 1 := by
 unfold Dev.write
 split
 ·simp only; omega
 ·split
  ·simp only; omega
  ·split
   ·simp only; omega
   ·split
    ·simp only [Dev.gone, Dev.midst]; omega
    ·simp only [Dev.counted, Dev.midst]; omega
theorem chunk_cut {all : List UInt8} {L k e : Nat} (hL : all.length = L) (he : min 128 (L - 128 * k) = e) (hk : 128 * k ≤ L) : (all.take (128 * k + e)).drop (128 * k) = (all.drop (128 * k)).take 128 := by
 rw [List.drop_take, show 128 * k + e - 128 * k = e by omega]
 apply List.take_eq_take_iff.2
 rw [List.length_drop, hL]
 omega
theorem stays_kept {R F : List Nat} {X Y Z : World} (h : Stays R X Y) (hk : Kept F Y Z) (hF : ∀ j ∈ R, j ∉ F) : Stays R X Z := h.trans (Stays.of_kept hk (fun j hj _ => hF j hj))
theorem stays_sub {a b : Nat} {R : List Nat} {X Y : World} (h : Stays (a :: b :: R) X Y) : Stays [a, b] X Y := ⟨h.size, fun k hk => h.same k (by simp at hk ⊢; rcases hk with rfl | rfl <;> simp)⟩
/-- What is kept of a row behind the last whole sector. -/
theorem last_sl {w : World} {b o n c : Nat} {xs : List UInt8} (h : SlAt w (some ⟨b, o, none⟩) n c (u8vs xs)) : SlAt w (if c = n - n % 128 then some ⟨b, o, none⟩ else some ⟨b, o + (n - n % 128), none⟩) (n - (n - n % 128)) (c - (n - n % 128)) (u8vs (xs.drop (n - n % 128))) := by
 have hl : xs.length = n := by simpa [u8vs] using h.len
 have hnc := h.le; have hcm := h.max
 split
 ·exact ⟨by simp [u8vs, hl], by omega, by omega, fun hn => by omega⟩
 ·have h1 := h.cut (i := n - n % 128) (j := n) (by omega) (by omega)
  rwa [List.take_of_length_le (by omega)] at h1
theorem ApLoop.ends {w W8 : World} {z a : Nat} {AL : Option Addr} {cL : Nat} {fp sp : List Nat} {s : St} {d : Dev} {bC oC cC L at_ : Nat} {all : List UInt8} {k : Nat} {d' : Dev} {fp' : List Nat} {r v : Int} {X : World} (hc : ApCtx w W8 z AL fp at_ bC)
  (h : ApLoop w W8 z a AL cL fp s d bC oC cC L at_ all k d' fp' r v X) (hz : z ∈ sp) (hlt : ∀ j ∈ sp, j < w.heap.size) (hne : ∀ j ∈ sp, j ∉ fp) (hAL : AL = none → cL = 0) (hLn : ∀ p, AL = some p → p.block ∈ sp ∧ p.block ≠ z) :
  AppPost w z a fp sp (s, d', r) (.returned (.int .i64 r)) X := by
 have h1 := hc.size
 refine ⟨rfl, fp', sp, h.dv, ⟨⟨AL, cL, h.zl, h.sl, hAL, hLn⟩, hz, fun j hj => Nat.lt_of_lt_of_le (hlt j hj) h.kept.size⟩, h.kept.mono (fun i hi => .inl (List.mem_append_left _ hi)), fun j hj => ?_, fun j hj => .inl hj, fun j hj hm => ?_⟩
 ·rcases h.new j hj with e | e
  ·exact .inl e
  ·exact .inr (by omega)
 ·rcases h.new j hm with e | e
  ·exact hne j hj e
  ·have := hlt j hj; omega
theorem ApLoop.done {w W8 : World} {z a : Nat} {AL : Option Addr} {cL : Nat} {fp sp : List Nat} {s s' : St} {d : Dev} {bC oC cC L at_ : Nat} {all : List UInt8} {k : Nat} {d' : Dev} {fp' : List Nat} {r v : Int} {X X1 Y : World} (hc : ApCtx w W8 z AL fp at_ bC)
  (h : ApLoop w W8 z a AL cL fp s d bC oC cC L at_ all k d' fp' r v X) (hz : z ∈ sp) (hD : W8.heap.size < X.heap.size) (hk1 : Kept [] X X1) {AN : Option Addr} {cN : Nat} (hs : SlAt X1 AN s'.last.length cN (u8vs s'.last)) (hAN : AN = none → cN = 0)
  (hNn : ∀ p, AN = some p → X.heap.size ≤ p.block ∧ p.block < X1.heap.size) (hkY : Kept [z, w.heap.size + 1, W8.heap.size] X1 Y) (hzY : Y.heap[z]? = some (.cells #[.pointer (some ⟨a, 0, none⟩), .int .i64 s'.first, .int .i64 s'.many, .int .i64 s'.fin, .slice AN s'.last.length cN] 76 (0, 0))) :
  AppPost w z a fp sp (s', d', 0) (.returned (.int .i64 0)) Y := by
 have h1 := hc.size; have h2 := hc.hz
 have hfl : ∀ j ∈ fp', j < X.heap.size := h.dv.lt
 have hfz : ∀ j ∈ fp', j ≠ z ∧ j ≠ w.heap.size + 1 ∧ j ≠ W8.heap.size := fun j hj => by
  rcases h.new j hj with e | e
  ·have h3 := hc.hfp j e
   exact ⟨fun e2 => hc.hzfp (e2 ▸ e), by omega, by omega⟩
  ·omega
 have hzX : z < X1.heap.size := Nat.lt_of_lt_of_le (World.lt_of_heap h.zl) hk1.size
 refine ⟨rfl, fp', z :: (AN.map (·.block)).toList, (h.dv.new_kept hk1).kept hkY (fun j hj hm => ?_), ⟨⟨AN, cN, hzY, hs.kept hkY (fun p e hm => ?_), hAN, fun p e => ?_⟩, by simp, fun j hj => ?_⟩, ?_, fun j hj => ?_, fun j hj => ?_, fun j hj hm => ?_⟩
 ·simp only [List.mem_cons, List.not_mem_nil, or_false] at hm
  have := hfz j hj
  rcases hm with e | e | e <;> simp [e] at this
 ·simp only [List.mem_cons, List.not_mem_nil, or_false] at hm
  have h3 := (hNn p e).1
  have h4 := World.lt_of_heap h.zl
  have h5 := World.lt_of_heap h.rt
  omega
 ·subst e
  exact ⟨by simp, fun e2 => by have h3 := (hNn p rfl).1; have h4 := World.lt_of_heap h.zl; omega⟩
 ·simp only [List.mem_cons, Option.mem_toList, Option.map_eq_some_iff] at hj
  rcases hj with rfl | ⟨p, e, rfl⟩
  ·exact Nat.lt_of_lt_of_le hzX hkY.size
  ·exact Nat.lt_of_lt_of_le (hNn p e).2 hkY.size
 ·refine ((h.kept.trans' hk1 (by simp)).mono (fun i hi => .inl (List.mem_append_left _ hi))).trans' hkY (fun i hi => ?_)
  simp only [List.mem_cons, List.not_mem_nil, or_false] at hi
  rcases hi with rfl | rfl | rfl
  ·exact .inl (List.mem_append_right _ hz)
  ·exact .inr (by omega)
  ·exact .inr (by omega)
 ·rcases h.new j hj with e | e
  ·exact .inl e
  ·exact .inr (by omega)
 ·simp only [List.mem_cons, Option.mem_toList, Option.map_eq_some_iff] at hj
  rcases hj with rfl | ⟨p, e, rfl⟩
  ·exact .inl hz
  ·have := (hNn p e).1; exact .inr (by omega)
 ·simp only [List.mem_cons, Option.mem_toList, Option.map_eq_some_iff] at hj
  rcases hj with rfl | ⟨p, e, rfl⟩
  ·exact (hfz _ hm).1 rfl
  ·have h3 := (hNn p e).1; have h4 := hfl _ hm; omega
end Go.Proofs.YtbnflbkaogpnbaaGreat
namespace Go.Proofs.YtbnflbkaogpnbaaGreat
open Go.RowKit
/-- A slice of rows of bytes. -/
structure BytessAt (w : World) (A : Option Addr) (n c : Nat) (l : List Part) : Prop where
 len : l.length = n
 le : n ≤ c
 max : c ≤ maxLen
 all : ∀ p ∈ l, p.At w
 cells : 0 < n → ∃ b o, A = some ⟨b, o, none⟩ ∧ b < w.heap.size ∧ ∀ i p, l[i]? = some p → w.cell? ⟨b, o + i, none⟩ = some p.val
theorem BytessAt.kept {w w' : World} {A : Option Addr} {n c : Nat} {l : List Part} {F : List Nat} (h : BytessAt w A n c l) (hk : Kept F w w') (hA : ∀ p, A = some p → p.block ∉ F) (hF : ∀ q ∈ l, ∀ p, q.A = some p → p.block ∉ F) : BytessAt w' A n c l :=
 ⟨h.len, h.le, h.max, fun q hq => (h.all q hq).kept hk (hF q hq), fun hn => by
  obtain ⟨b, o, rfl, hb, hc⟩ := h.cells hn
  exact ⟨b, o, rfl, Nat.lt_of_lt_of_le hb hk.size, fun i p hi => (hk.cell (p := ⟨b, o + i, none⟩) hb (hA ⟨b, o, none⟩ rfl)).trans (hc i p hi)⟩⟩
theorem BytessAt.new {w w' : World} {A : Option Addr} {n c : Nat} {l : List Part} (h : BytessAt w A n c l) (hk : Kept [] w w') : BytessAt w' A n c l := h.kept hk (by simp) (by simp)
theorem BytessAt.nil (w : World) : BytessAt w none 0 0 [] := ⟨rfl, Nat.le_refl _, by unfold maxLen; omega, by simp, fun h => by omega⟩
theorem BytessAt.at_ {w : World} {A : Option Addr} {n c : Nat} {l : List Part} (h : BytessAt w A n c l) {k : Nat} (hk : k < n) :
  ∃ b o p, A = some ⟨b, o, none⟩ ∧ b < w.heap.size ∧ l[k]? = some p ∧ p.At w ∧ w.cell? ⟨b, o + k, none⟩ = some (.slice p.A p.n p.c) := by
 obtain ⟨b, o, hA, hb, hc⟩ := h.cells (by omega)
 have hd : l[k]? = some (l[k]'(by rw [h.len]; exact hk)) := List.getElem?_eq_getElem (by rw [h.len]; exact hk)
 exact ⟨b, o, _, hA, hb, hd, h.all _ (List.mem_of_getElem? hd), hc k _ hd⟩
/-- Out of a row of one's own. -/
theorem BytessAt.of_own {w : World} {base : Nat} {t : TypeId} {v : Value} {n : Nat} {l : List Part} (h : w.ownsRow base t 1 v n (l.map Part.val)) (hp : ∀ p ∈ l, p.At w) : ∃ A c, v = .slice A n c ∧ BytessAt w A n c l := by
 obtain ⟨A, c, rfl, hs, hb⟩ := SlAt.of_own h
 refine ⟨A, c, rfl, by simpa using hs.len, hs.le, hs.max, hp, fun hn => ?_⟩
 obtain ⟨b, o, rfl, hbl, hc⟩ := hs.cells hn
 refine ⟨b, o, rfl, hbl, fun i p hi => ?_⟩
 have hil := (List.getElem?_eq_some_iff.1 hi).1
 have hln := hs.len
 simp only [List.length_map] at hln
 rw [hc i (by omega), List.getElem?_map, hi]
 rfl
def texts (l : List Part) : List (List UInt8) := l.map Part.xs
theorem Part.At.drewN {w : World} {p : Part} (h : p.At w) (q : Nat) : p.At (w.drewN q) := h.kept (Kept.drewN [] w q) (by simp)
end Go.Proofs.YtbnflbkaogpnbaaGreat
