/- Texts in one: Q0 N2. -/
import Derived.Test.YtbnflbkaogpnbaaGreatPAG
import Derived.Test.YtbnflbkaogpnbaaGreatPAC
import Derived.BigQuiet
import Derived.Test.YtbnflbkaogpnbaaGreatPAU
import Derived.Test.YtbnflbkaogpnbaaGreatPAQ
import Derived.Deep.AppendLies
namespace Go.Proofs.YtbnflbkaogpnbaaGreat
open Go.RowKit
theorem take_next {l m : List (List UInt8)} {k : Nat} {x y : List UInt8} (hx : l[k]? = some x) (hy : m[k]? = some y) (h : l.take k = m.take k) (he : x = y) : l.take (k + 1) = m.take (k + 1) := by
 obtain ⟨hk, e1⟩ := List.getElem?_eq_some_iff.1 hx
 obtain ⟨hk2, e2⟩ := List.getElem?_eq_some_iff.1 hy
 rw [List.take_succ_eq_append_getElem hk, List.take_succ_eq_append_getElem hk2, h, e1, e2, he]
theorem Calls.quiet_of_drew {P : Program} {f : FuncId} {args : Array Value} {w : World} {q n : Nat} {v : Value}
  (h : Calls P f args (w.drewN (q + n)) fun e w' => e = .returned v ∧ ∃ k, w' = (w.drewN (q + n)).drewN k) : Calls P f args (w.drewN (q + n)) fun e w'' => e = .returned v ∧ ∃ m, w'' = w.drewN (q + m) :=
 h.mono fun _ _ ⟨he, k, hm⟩ => ⟨he, n + k, by rw [hm, World.drewN_drewN, Nat.add_assoc]⟩
def SamePost (w : World) (l m : List (List UInt8)) (e : Ending) (w' : World) : Prop := e = .returned (.bool (decide (l = m))) ∧ ∃ q, w' = w.drewN q
set_option maxHeartbeats 1000000 in
theorem sameLists_any (w : World) (A B : Option Addr) (n c m d : Nat) (l k : List Part) (hx : BytessAt w A n c l) (hy : BytessAt w B m d k) :
  Calls Tryz.prog 55 #[.slice A n c, .slice B m d] w (SamePost w (texts l) (texts k)) := by
 have hxl := hx.len; have hyl := hy.len
 have hc := hx.le; have hcm := hx.max
 have hd := hy.le; have hdm := hy.max
 have hlx : (texts l).length = n := by simp [texts, hxl]
 have hly : (texts k).length = m := by simp [texts, hyl]
 unfold maxLen at hcm hdm
 have HX := Lib.hid hlx; have HY := Lib.hid hly
 clear hxl hyl hlx hly
 by_cases hnm : n = m
 ·subst hnm
  have hb : ((n : Int) != (n : Int)) = false := by simp
  go_enter Tryz.func55, Tryz.ntmps55
  go_wp2
  go_loopw [5] (fun i wr => ∃ j q : Nat, j ≤ n ∧ i = .int .i64 j ∧ wr = w.drewN q ∧ (texts l).take j = (texts k).take j) (fun i _ => n - (intOf i).toNat)
  case atStart => exact ⟨0, 0, Nat.zero_le _, rfl, rfl, rfl⟩
  case round =>
   obtain ⟨j, q, hk, rfl, rfl, ht⟩ := hrel
   by_cases hlt : j < n
   ·obtain ⟨b, o, p, hA, hbl, hpl, hpa, hcx⟩ := hx.at_ hlt
    obtain ⟨b', o', p', hB, hbl', hpl', hpa', hcy⟩ := hy.at_ hlt
    have htx : (texts l)[j]? = some p.xs := by simp [texts, hpl]
    have hty : (texts k)[j]? = some p'.xs := by simp [texts, hpl']
    have HT := Lib.hid ht; have HTX := Lib.hid htx; have HTY := Lib.hid hty
    clear ht htx hty hpl hpl'
    subst hA hB
    have h2 : (j : Int) < (n : Int) := by omega
    have ce : ∀ i, Calls Tryz.prog 59 #[.slice p.A p.n p.c, .slice p'.A p'.n p'.c] (w.drewN i) fun e w' => e = .returned (.bool (decide (p.xs = p'.xs))) ∧ ∃ q2, w' = (w.drewN i).drewN q2 := fun i => eqBytes_any _ p.A p'.A p.n p.c p'.n p'.c p.xs p'.xs (hpa.drewN i).1 (hpa'.drewN i).1
    clear hpa hpa'
    by_cases he : p.xs = p'.xs
    ·have HE := Lib.hid he
     simp only [decide_eq_true he] at ce
     clear he
     go_wp2
     go_big_quiet (first | (go_at_call 59; exact Calls.quiet_of_drew (ce _)))
     go_wp2
     go_roundw
     case rel => exact ⟨j + 1, _, by omega, by go_num, rfl, take_next HTX.out HTY.out HT.out HE.out⟩
     case measure => simp [intOf]; omega
    ·have HE := Lib.hid he
     simp only [decide_eq_false he] at ce
     clear he
     go_wp2
     go_big_quiet (first | (go_at_call 59; exact Calls.quiet_of_drew (ce _)))
     go_wp2
     go_ret
     refine ⟨ret_bool (decide_eq_false fun e => HE.out ?_).symm, _, World.drewN_drewN _ _ _⟩
     have h1 := HTX.out
     rw [e, HTY.out] at h1
     injection h1 with h1
     exact h1.symm
   ·have h2 : ¬ (j : Int) < (n : Int) := by omega
    obtain rfl : j = n := by omega
    rw [List.take_of_length_le (by rw [HX.out]; exact Nat.le_refl _), List.take_of_length_le (by rw [HY.out]; exact Nat.le_refl _)] at ht
    have HT := Lib.hid ht
    clear ht
    go_wp2
    go_ret
    exact ⟨ret_bool (decide_eq_true HT.out).symm, q, rfl⟩
 ·have hb : ((n : Int) != (m : Int)) = true := by simp; omega
  go_enter Tryz.func55, Tryz.ntmps55
  go_wp2
  go_ret
  refine ⟨ret_bool (decide_eq_false fun e => ?_).symm, 0, rfl⟩
  have := congrArg List.length e
  rw [HX.out, HY.out] at this
  exact hnm this
def SameTrue (w : World) (e : Ending) (w' : World) : Prop := e = .returned (.bool true) ∧ ∃ q, w' = w.drewN q
theorem sameLists_true (w : World) (A B : Option Addr) (n c m d : Nat) (l k : List Part) (hx : BytessAt w A n c l) (hy : BytessAt w B m d k) (ht : texts l = texts k) : Calls Tryz.prog 55 #[.slice A n c, .slice B m d] w (SameTrue w) := by
 refine (sameLists_any w A B n c m d l k hx hy).mono ?_
 rintro e w' ⟨rfl, h⟩
 exact ⟨by rw [decide_eq_true ht], h⟩
end Go.Proofs.YtbnflbkaogpnbaaGreat
namespace Go.Proofs.YtbnflbkaogpnbaaGreat
set_option linter.unusedVariables false
open Go.RowKit
/-- What records does. -/
def RcPost (w : World) (xs : List UInt8) (e : Ending) (w' : World) : Prop :=
 Kept [] w w' ∧ ((∃ l A c ps, Small l ∧ xs = recs l ∧ e = .returned (.tuple #[.slice A l.length c, .bool true]) ∧ BytessAt w' A l.length c ps ∧ texts ps = l) ∨ (NoRecs xs ∧ e = .returned (.tuple #[.slice none 0 0, .bool false])))
def RcRel (w : World) (xs : List UInt8) (v0 v4 : Value) (wr : World) : Prop :=
 ∃ (m c : Nat) (B : Option Addr) (t : List UInt8) (ps : List Part) (G : List Nat), v0 = .slice B m c ∧ SlAt w B m c (u8vs t) ∧ xs = recs (texts ps) ++ t ∧ Small (texts ps) ∧ Kept [] w wr ∧
  RowIn w.heap.size wr 45 G v4 ps.length (ps.map Part.val) ∧ (∀ p ∈ ps, p.At wr) ∧ (∀ q ∈ ps, ∀ p, q.A = some p → w.heap.size ≤ p.block ∧ p.block ∈ G) ∧ ∀ j ∈ G, j < wr.heap.size
def rcLeft (v : Value) : Nat := match v with | .slice _ m _ => m | _ => 0
set_option maxHeartbeats 4000000 in
set_option maxRecDepth 100000 in
theorem ref12records_any (w : World) (A : Option Addr) (n c : Nat) (xs : List UInt8) (hx : SlAt w A n c (u8vs xs)) (hn : n ≤ 10000000) : Calls Tryz.prog 111 #[.slice A n c] w (RcPost w xs) := by
 obtain ⟨j0, hj0, ju0, ju1, ju2⟩ := info_parts info_bytes
 have hxl : xs.length = n := by simpa [u8vs] using hx.len
 have hnc := hx.le; have hcm := hx.max
 unfold maxLen at hcm
 go_enter Tryz.func111, Tryz.ntmps111
 go_wp2_with fail
 go_loopw [0, 4] (fun v0 v4 wr => RcRel w xs v0 v4 wr) (fun v0 _ _ => rcLeft v0)
 case atStart => exact ⟨n, c, A, xs, [], [], rfl, hx, by simp [texts, recs_nil], by simp [texts, Small], Kept.refl _ _, ⟨World.ownsRow_nil _ _ _ _, fun g e => by cases e⟩, by simp, by simp, by simp⟩
 case round =>
  obtain ⟨m, c', B, t, ps, G, rfl, hsl0, hb, hsm, hkw, hrow, hpa, hpG, hGl⟩ := hrel
  have hsl := hsl0.kept hkw (by simp)
  have hrl : t.length = m := by simpa [u8vs] using hsl.len
  have hmc := hsl.le; have hcm' := hsl.max
  unfold maxLen at hcm'
  have hpl : ps.length ≤ n := by
   have h1 := recs_many (texts ps)
   have h2 := congrArg List.length hb
   rw [List.length_append] at h2
   have h3 : (texts ps).length = ps.length := by simp [texts]
   omega
  have hm1 : m ≤ 10000000 := by
   have := congrArg List.length hb
   rw [List.length_append] at this
   omega
  by_cases hm0 : m = 0
  ·subst hm0
   obtain rfl : t = [] := List.length_eq_zero_iff.1 hrl
   obtain ⟨A', c2, e4, hB⟩ := hrow.parts hpa
   subst e4
   have hll : (texts ps).length = ps.length := by simp [texts]
   go_wp2_with fail
   go_ret2
   exact ⟨hkw, .inl ⟨texts ps, A', c2, ps, hsm, by simpa using hb, by rw [hll]; rfl, by rw [hll]; exact hB, rfl⟩⟩
  ·have i0 : 0 < (m : Int) := by omega
   obtain ⟨blk, o, rfl, hbl, hcells⟩ := hsl.cells (by omega)
   have hrne : t ≠ [] := fun e => by rw [e] at hrl; simp at hrl; omega
   by_cases h7 : m < 7
   ·have i1 : (m : Int) < 7 := by omega
    have hno : NoRecs xs := by rw [hb]; exact noRecs_behind hsm (noRecs_short hrne (by omega))
    go_wp2_with fail
    go_ret2
    exact ⟨hkw, .inr ⟨hno, rfl⟩⟩
   ·have i1 : ¬ (m : Int) < 7 := by omega
    obtain ⟨y0, y1, y2, tl, rfl⟩ : ∃ y0 y1 y2 tl, t = y0 :: y1 :: y2 :: tl := by
     rcases t with _ | ⟨y0, _ | ⟨y1, _ | ⟨y2, tl⟩⟩⟩
     ·simp at hrl; omega
     ·simp at hrl; omega
     ·simp at hrl; omega
     ·exact ⟨y0, y1, y2, tl, rfl⟩
    have g0 : wr.cell? ⟨blk, o, none⟩ = some (.int .u8 (y0.toNat : Int)) := (hcells 0 (by omega)).trans (by simp [u8vs, u8v])
    have g1 : wr.cell? ⟨blk, o + 1, none⟩ = some (.int .u8 (y1.toNat : Int)) := (hcells 1 (by omega)).trans (by simp [u8vs, u8v])
    have g2 : wr.cell? ⟨blk, o + 2, none⟩ = some (.int .u8 (y2.toNat : Int)) := (hcells 2 (by omega)).trans (by simp [u8vs, u8v])
    have i2 : (2 : Int) < (m : Int) := by omega
    have i3 : (1 : Int) < (m : Int) := by omega
    go_wp2_with fail
    go_quiet (fail)
    have hsz3 := or_head y0 y1 y2 tl
    rw [hsz3]
    clear hsz3 g0 g1 g2 i2 i3
    generalize hk3 : size3 (y0 :: y1 :: y2 :: tl) = k at *
    generalize y0 :: y1 :: y2 :: tl = t at *
    have hkq := Kept.drewN [] wr nq
    generalize wr.drewN nq = wq at *
    have hcl1 : 7 ≤ c' := by omega
    by_cases hbig : 16384 < k
    ·have i4 : (16384 : Int) < (k : Int) := by omega
     have hd1 : decide ((16384 : Int) < (k : Int)) = true := decide_eq_true i4
     have hno : NoRecs xs := by rw [hb]; exact noRecs_behind hsm (noRecs_great hrne (by omega))
     clear hk3
     go_wp2_with fail
     go_quiet (fail)
     go_wp2_with fail
     go_ret2
     exact ⟨(hkw.trans hkq).trans (Kept.drewN [] wq _), .inr ⟨hno, rfl⟩⟩
    ·by_cases hshort : m < k + 7
     ·have i4 : ¬ (16384 : Int) < (k : Int) := by omega
      have i5 : (m : Int) < (k : Int) + 7 := by omega
      have hd1 : decide ((16384 : Int) < (k : Int)) = false := decide_eq_false i4
      have hd2 : decide ((m : Int) < (k : Int) + 7) = true := decide_eq_true i5
      have hno : NoRecs xs := by rw [hb]; exact noRecs_behind hsm (noRecs_cut hrne (by omega))
      clear i4 i5 hk3
      go_wp2_with fail
      go_quiet (fail)
      go_wp2_with fail
      go_ret2
      exact ⟨(hkw.trans hkq).trans (Kept.drewN [] wq _), .inr ⟨hno, rfl⟩⟩
     ·have i4 : ¬ (16384 : Int) < (k : Int) := by omega
      have i5 : ¬ (m : Int) < (k : Int) + 7 := by omega
      have hd1 : decide ((16384 : Int) < (k : Int)) = false := decide_eq_false i4
      have hd2 : decide ((m : Int) < (k : Int) + 7) = false := decide_eq_false i5
      have hw7 : IntKind.i64.wrap ((k : Int) + 7) = (k : Int) + 7 := by rw [IntKind.wrap_i64]; omega
      have hw3 : IntKind.i64.wrap (3 + (k : Int)) = 3 + (k : Int) := by rw [IntKind.wrap_i64]; omega
      have hs1 : (0 ≤ 3 + (k : Int) ∧ 3 + (k : Int) ≤ (c' : Int)) = True := by simp only [eq_iff_iff, iff_true]; omega
      have hs2 : (3 ≤ max (3 + (k : Int)) 0) = True := by simp only [eq_iff_iff, iff_true]; omega
      have hs3 : (c' = 3) = False := by simp only [eq_iff_iff, iff_false]; omega
      have hs4 : (3 + (k : Int)).toNat - 3 = k := by omega
      have hs5 : (0 ≤ (k : Int) + 7 ∧ (k : Int) + 7 ≤ (c' : Int)) = True := by simp only [eq_iff_iff, iff_true]; omega
      have hs6 : ((k : Int) + 7).toNat = k + 7 := by omega
      have hsd := (hsl.kept hkq (by simp)).kept (Kept.drew [] wq) (by simp)
      have hbody := hsd.cut (i := 3) (j := 3 + k) (by omega) (by omega)
      rw [show 3 + k - 3 = k by omega, List.drop_take, show 3 + k - 3 = k by omega] at hbody
      have hwhole := hsd.cut (i := 0) (j := k + 7) (by omega) (by omega)
      simp only [Nat.add_zero, Nat.sub_zero, List.drop_zero] at hwhole
      go_wp2_with fail
      refine wp_region_calm (S := (fun _ => True)) (by kernel_rfl) trivial (fun hHeld => ?_)
      refine tk (i := 0) (v := ?_) (hy := Or.inl ⟨by rfl, ?_⟩) (hS := hHeld) (h := ?_)
      rotate_left
      ·intro w hSw
       try dsimp only at hSw
       go_simp
       all_goals with_reducible rfl
      try simp only [Act.put, List.setIfInBounds_toArray, List.set_cons_zero, List.set_cons_succ]
      refine tk (i := 1) (v := ?_) (hy := Or.inl ⟨by rfl, ?_⟩) (hS := hHeld) (h := ?_)
      rotate_left
      ·intro w hSw
       try dsimp only at hSw
       go_simp
       all_goals with_reducible rfl
      try simp only [Act.put, List.setIfInBounds_toArray, List.set_cons_zero, List.set_cons_succ]
      try simp only [hd1]
      refine tk (i := 2) (v := ?_) (hy := Or.inl ⟨by rfl, ?_⟩) (hS := hHeld) (h := ?_)
      rotate_left
      ·intro w hSw
       try dsimp only at hSw
       go_simp
       all_goals with_reducible rfl
      try simp only [Act.put, List.setIfInBounds_toArray, List.set_cons_zero, List.set_cons_succ]
      refine tk (i := 3) (v := ?_) (hy := Or.inl ⟨by rfl, ?_⟩) (hS := hHeld) (h := ?_)
      rotate_left
      ·intro w hSw
       try dsimp only at hSw
       go_simp
       all_goals with_reducible rfl
      try simp only [Act.put, List.setIfInBounds_toArray, List.set_cons_zero, List.set_cons_succ]
      refine tk (i := 4) (v := ?_) (hy := Or.inl ⟨by rfl, ?_⟩) (hS := hHeld) (h := ?_)
      rotate_left
      ·intro w hSw
       try dsimp only at hSw
       go_simp
       all_goals with_reducible rfl
      try simp only [Act.put, List.setIfInBounds_toArray, List.set_cons_zero, List.set_cons_succ]
      refine tk (i := 5) (v := ?_) (hy := Or.inl ⟨by rfl, ?_⟩) (hS := hHeld) (h := ?_)
      rotate_left
      ·intro w hSw
       try dsimp only at hSw
       go_simp
       all_goals with_reducible rfl
      try simp only [Act.put, List.setIfInBounds_toArray, List.set_cons_zero, List.set_cons_succ]
      refine tk (i := 6) (v := ?_) (hy := Or.inl ⟨by rfl, ?_⟩) (hS := hHeld) (h := ?_)
      rotate_left
      ·intro w hSw
       try dsimp only at hSw
       go_simp
       all_goals with_reducible rfl
      try simp only [Act.put, List.setIfInBounds_toArray, List.set_cons_zero, List.set_cons_succ]
      try simp only [hw7]
      refine tk (i := 7) (v := ?_) (hy := Or.inl ⟨by rfl, ?_⟩) (hS := hHeld) (h := ?_)
      rotate_left
      ·intro w hSw
       try dsimp only at hSw
       go_simp
       all_goals with_reducible rfl
      try simp only [Act.put, List.setIfInBounds_toArray, List.set_cons_zero, List.set_cons_succ]
      try simp only [hd2]
      refine tk (i := 8) (v := ?_) (hy := Or.inl ⟨by rfl, ?_⟩) (hS := hHeld) (h := ?_)
      rotate_left
      ·intro w hSw
       try dsimp only at hSw
       go_simp
       all_goals with_reducible rfl
      try simp only [Act.put, List.setIfInBounds_toArray, List.set_cons_zero, List.set_cons_succ]
      refine tk (i := 9) (v := ?_) (hy := Or.inl ⟨by rfl, ?_⟩) (hS := hHeld) (h := ?_)
      rotate_left
      ·intro w hSw
       try dsimp only at hSw
       go_simp
       all_goals with_reducible rfl
      try simp only [Act.put, List.setIfInBounds_toArray, List.set_cons_zero, List.set_cons_succ]
      refine tk (i := 10) (v := ?_) (hy := Or.inl ⟨by rfl, ?_⟩) (hS := hHeld) (h := ?_)
      rotate_left
      ·intro w hSw
       try dsimp only at hSw
       go_simp
       all_goals with_reducible rfl
      try simp only [Act.put, List.setIfInBounds_toArray, List.set_cons_zero, List.set_cons_succ]
      refine tk (i := 11) (v := ?_) (hy := Or.inl ⟨by rfl, ?_⟩) (hS := hHeld) (h := ?_)
      rotate_left
      ·intro w hSw
       try dsimp only at hSw
       go_simp
       all_goals with_reducible rfl
      try simp only [Act.put, List.setIfInBounds_toArray, List.set_cons_zero, List.set_cons_succ]
      refine tk (i := 12) (v := ?_) (hy := Or.inl ⟨by rfl, ?_⟩) (hS := hHeld) (h := ?_)
      rotate_left
      ·intro w hSw
       try dsimp only at hSw
       go_simp
       all_goals with_reducible rfl
      try simp only [Act.put, List.setIfInBounds_toArray, List.set_cons_zero, List.set_cons_succ]
      try simp only [hw3]
      refine tk (i := 13) (v := ?_) (hy := Or.inl ⟨by rfl, ?_⟩) (hS := hHeld) (h := ?_)
      rotate_left
      ·intro w hSw
       try dsimp only at hSw
       go_simp
       try simp only [hs1, hs2, hs3, hs4, if_true, if_false]
       all_goals with_reducible rfl
      try simp only [Act.put, List.setIfInBounds_toArray, List.set_cons_zero, List.set_cons_succ]
      refine tk (i := 15) (v := ?_) (hy := Or.inl ⟨by rfl, ?_⟩) (hS := hHeld) (h := ?_)
      rotate_left
      ·intro w hSw
       try dsimp only at hSw
       go_simp
       all_goals with_reducible rfl
      try simp only [Act.put, List.setIfInBounds_toArray, List.set_cons_zero, List.set_cons_succ]
      refine tk (i := 16) (v := ?_) (hy := Or.inl ⟨by rfl, ?_⟩) (hS := hHeld) (h := ?_)
      rotate_left
      ·intro w hSw
       try dsimp only at hSw
       go_simp
       all_goals with_reducible rfl
      try simp only [Act.put, List.setIfInBounds_toArray, List.set_cons_zero, List.set_cons_succ]
      refine tk (i := 17) (v := ?_) (hy := Or.inl ⟨by rfl, ?_⟩) (hS := hHeld) (h := ?_)
      rotate_left
      ·intro w hSw
       try dsimp only at hSw
       go_simp
       all_goals with_reducible rfl
      try simp only [Act.put, List.setIfInBounds_toArray, List.set_cons_zero, List.set_cons_succ]
      try simp only [hw7]
      refine tk (i := 18) (v := ?_) (hy := Or.inl ⟨by rfl, ?_⟩) (hS := hHeld) (h := ?_)
      rotate_left
      ·intro w hSw
       try dsimp only at hSw
       go_simp
       try simp only [hs5, hs6, if_true]
       all_goals with_reducible rfl
      try simp only [Act.put, List.setIfInBounds_toArray, List.set_cons_zero, List.set_cons_succ]
      refine wpAnyH_ready (rs := [14]) (by kernel_rfl) (by simp) ?_
      refine AllReadyH.cons (by simp only [List.getElem?_toArray, List.getElem?_cons_succ, List.getElem?_cons_zero]; rfl) (fun K hK => ?_) AllReadyH.nil
      go_simp
      refine (ref12Record_any _ _ k _ ((t.drop 3).take k) hbody (fun e => by cases e) (by omega)).mono ?_
      rintro e w4 ⟨AR, cR, rfl, hownR, hbelR⟩
      have hk4 := Kept.of_below (F := []) hbelR
      have hsR := (ClonePost.sl hownR).1
      have hwhole4 := hwhole.kept hk4 (by simp)
      go_wp2_with fail
      refine hK.out _ _ ?_ (fun hHeld2 => ?_)
      ·exact trivial
      clear hK K hHeld
      have hHeld := hHeld2
      clear hHeld2
      try simp only [Act.put, List.setIfInBounds_toArray, List.set_cons_zero, List.set_cons_succ]
      refine wpAnyH_ready (rs := [19]) (by kernel_rfl) (by simp) ?_
      refine AllReadyH.cons (by simp only [List.getElem?_toArray, List.getElem?_cons_succ, List.getElem?_cons_zero]; rfl) (fun K hK => ?_) AllReadyH.nil
      go_simp
      refine (eqBytes_any _ AR _ _ cR _ c' (recB ((t.drop 3).take k)) (t.take (k + 7)) hsR hwhole4).mono ?_
      rintro e w5 ⟨rfl, q5, rfl⟩
      go_wp2_with fail
      refine hK.out _ _ ?_ (fun hHeld2 => ?_)
      ·exact trivial
      clear hK K hHeld
      have hHeld := hHeld2
      clear hHeld2
      try simp only [Act.put, List.setIfInBounds_toArray, List.set_cons_zero, List.set_cons_succ]
      refine tk (i := 20) (v := ?_) (hy := Or.inl ⟨by rfl, ?_⟩) (hS := hHeld) (h := ?_)
      rotate_left
      ·intro w hSw
       try dsimp only at hSw
       go_simp
       all_goals with_reducible rfl
      try simp only [Act.put, List.setIfInBounds_toArray, List.set_cons_zero, List.set_cons_succ]
      refine tk (i := 21) (v := ?_) (hy := Or.inl ⟨by rfl, ?_⟩) (hS := hHeld) (h := ?_)
      rotate_left
      ·intro w hSw
       try dsimp only at hSw
       go_simp
       all_goals with_reducible rfl
      try simp only [Act.put, List.setIfInBounds_toArray, List.set_cons_zero, List.set_cons_succ]
      refine wpAnyH_calm (by kernel_rfl) ?_ _
      clear hHeld
      have hkx := ((hkq.trans (Kept.drew [] wq)).trans hk4).trans (Kept.drewN [] w4 q5)
      have hbody5 := (hbody.kept hk4 (by simp)).kept (Kept.drewN [] w4 q5) (by simp)
      generalize w4.drewN q5 = w5 at *
      clear hsR hwhole4 hwhole hbody hownR hbelR hsd hk4
      by_cases heq : recB ((t.drop 3).take k) = t.take (k + 7)
      ·have hdq : decide (recB ((t.drop 3).take k) = t.take (k + 7)) = true := decide_eq_true heq
       rw [hdq]
       have hrf := rec_first (b := t) (by rw [hk3]; exact heq)
       rw [hk3] at hrf
       have hbl : ((t.drop 3).take k).length = k := by rw [List.length_take, List.length_drop, hrl]; omega
       have HRF := Lib.hid hrf; have HHB := Lib.hid hb
       clear hdq heq hrf hb hk3 hd1 hd2
       go_wp2_with fail
       refine (copyBytes_any w5 _ k _ ((t.drop 3).take k) hbody5 (by omega)).mono ?_
       rintro e w6 ⟨A6, c6, rfl, hown6, hbel6⟩
       have hk6 := Kept.of_below (F := []) hbel6
       obtain ⟨hs6, hn6⟩ := ClonePost.sl hown6
       have hA6 := row_nil hown6
       have hl6 : ∀ p, A6 = some p → p.block < w6.heap.size := fun p e => (hown6.lt p.block (by rw [e]; rfl)).2
       have hkr6 := hkx.trans hk6
       have hz5 := (hkw.trans hkx).size
       clear hown6 hbel6 hbody5
       have hrow6 : RowIn w.heap.size w6 45 ((A6.map (·.block)).toList ++ G) u4 ps.length (ps.map Part.val) := hrow.step ⟨hkr6.mono (by simp), fun j hj => by
        rcases List.mem_append.mp hj with hj | hj
        ·have : ∃ p, A6 = some p ∧ p.block = j := by simpa using hj
         obtain ⟨p, e, rfl⟩ := this
         have := hn6 p e
         have := hkx.size
         exact .inr (by omega)
        ·exact .inl hj⟩
       go_wp2_with (at_builtin; refine Hold.of ?_)
       unfold Hold
       refine wpList_append_lies _ rfl (.tmp 50) (.tmp 56) 37 rfl w.heap.size 45 j0 _ 1 24 Tryz.underlying37 hj0 ju0 ju1 ju2 rfl (by decide) _ ps.length _ rfl (hrow6.next (Kept.alloc [] w6 (.cells #[.slice A6 k c6] 45))).own ⟨w6.heap.size, 0, none⟩ 1 1 [.slice A6 k c6] rfl rfl (one_news w6 _ _) (one_slice _ _ _) (by omega) (by unfold maxLen; omega) (by omega) (by have := hk6.size; simp; omega) (w6.heap.size + 1) (by simp) ?_
       intro g cap w7 hown7 hgrow7 hat7 hlt7
       have hG6 : ∀ j ∈ (A6.map (·.block)).toList ++ G, j < w6.heap.size := fun j hj => by
        rcases List.mem_append.mp hj with hj | hj
        ·have : ∃ p, A6 = some p ∧ p.block = j := by simpa using hj
         obtain ⟨p, e, rfl⟩ := this
         exact hl6 p e
        ·have := hGl j hj
         have := hkr6.size
         omega
       obtain ⟨hr7, hk7, -⟩ := hrow6.push hG6 (Kept.alloc [] w6 (.cells #[.slice A6 k c6] 45)) hgrow7 hown7 hat7 (by simp)
       clear hown7 hgrow7 hat7 hlt7
       go_wp2_with fail
       have hrl0 : (u8vs t).length = m := hsl0.len
       have hps : ∀ p ∈ ps, p.At w7 := fun p hp => ((hpa p hp).kept hkr6 (by simp)).kept hk7 (fun a e hm => hrow.ne a.block (by simpa using hm) (hpG p hp a e).2)
       have hnew : Part.At w7 ⟨A6, k, c6, (t.drop 3).take k⟩ := (show Part.At w6 ⟨A6, k, c6, (t.drop 3).take k⟩ from ⟨hs6, hA6⟩).kept hk7 (fun a e hm => hrow6.ne a.block (by simpa using hm) (by
        have e' : A6 = some a := e
        simp [e']))
       refine ⟨⟨m - (k + 7), c' - (k + 7), _, t.drop (k + 7), ps ++ [⟨A6, k, c6, (t.drop 3).take k⟩], (A6.map (·.block)).toList ++ G, rfl, ?_, ?_, ?_, (hkw.trans hkr6).trans' hk7 (fun i hi => .inr ((hrow.own.lt i (by simpa using hi)).1)), by rw [List.map_append, List.length_append]; exact hr7, fun p hp => ?_, fun q hq p e => ?_, fun j hj => ?_⟩, ?_⟩
       ·split
        ·exact ⟨by simp [u8vs, hrl], by omega, by unfold maxLen; omega, fun h => by omega⟩
        ·have h1 := hsl0.cut (i := k + 7) (j := m) (by omega) (by omega)
         rwa [List.take_of_length_le (by omega)] at h1
       ·rw [HHB.out]
        have e1 : texts (ps ++ [⟨A6, k, c6, (t.drop 3).take k⟩]) = texts ps ++ [(t.drop 3).take k] := by simp [texts]
        rw [e1, recs_append, List.append_assoc]
        congr 1
        simp only [recs_cons, recs_nil, List.append_nil]
        exact HRF.out
       ·have e1 : texts (ps ++ [⟨A6, k, c6, (t.drop 3).take k⟩]) = texts ps ++ [(t.drop 3).take k] := by simp [texts]
        rw [e1]
        exact hsm.append (Small.one (by omega))
       ·rcases List.mem_append.mp hp with hp | hp
        ·exact hps p hp
        ·obtain rfl := List.mem_singleton.mp hp
         exact hnew
       ·rcases List.mem_append.mp hq with hq | hq
        ·exact ⟨(hpG q hq p e).1, List.mem_append_right _ (hpG q hq p e).2⟩
        ·obtain rfl := List.mem_singleton.mp hq
         have e' : A6 = some p := e
         exact ⟨by have := hn6 p e'; omega, by simp [e']⟩
       ·exact Nat.lt_of_lt_of_le (hG6 j hj) hk7.size
       ·show m - (k + 7) < m
        omega
      ·have hdq : decide (recB ((t.drop 3).take k) = t.take (k + 7)) = false := decide_eq_false heq
       have hno : NoRecs xs := by rw [hb]; exact noRecs_behind hsm (noRecs_other hrne (by rw [hk3]; exact heq))
       rw [hdq]
       clear hdq heq hk3 hd1 hd2
       go_wp2_with fail
       go_ret2
       exact ⟨hkw.trans hkx, .inr ⟨hno, rfl⟩⟩
end Go.Proofs.YtbnflbkaogpnbaaGreat
