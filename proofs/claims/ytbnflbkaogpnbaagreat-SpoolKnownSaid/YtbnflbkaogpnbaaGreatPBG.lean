/- Texts in one: KI. -/
import Derived.Test.YtbnflbkaogpnbaaGreatPBF
namespace Go.Proofs.YtbnflbkaogpnbaaGreat
set_option linter.unusedVariables false
open Go.RowKit
theorem SpOk.dev {s : Sp} {d d' : Dev} {k k' : Nat} (h : SpOk s d k) (hl : d'.secs.length = d.secs.length) (hk : k ≤ k') : SpOk s d' k' :=
 ⟨h.half, h.one, by rw [hl]; exact h.room, ⟨h.wf.one, by rw [hl]; exact h.wf.there, h.wf.fin, h.wf.last⟩, h.stm, by have := h.many; omega, h.newer, by have := h.turn; omega, h.slf⟩
def PzStep (w0 : World) (p a r : Nat) (f m : Int) (k : Nat) (e : Ending) (w' : World) : Prop :=
 e = .returned (.tuple #[]) ∧ ∃ d os, PrZ w0 w' p a r f m d os k
/-- Behind a deed of both devices. -/
theorem PrZ.both {w0 w w' : World} {p a r : Nat} {f m : Int} {d d' : Dev} {os : Option Sp} {k k' : Nat} (h : PrZ w0 w p a r f m d os k) (hk : k ≤ k') {vs vm : Value} {fp gp S G : List Nat} {t : Nat → Nat} (hP : Pr13 w0 w' p a r f m d' d' os os vs vm fp gp S G t) (hl : d'.secs.length = d.secs.length) (hw : d'.works ≤ 10000000 * k') : PrZ w0 w' p a r f m d' os k' :=
 ⟨⟨vs, vm, fp, gp, S, G, t, hP⟩, fun s hs => (h.wf s hs).dev hl hk, hw, by rw [hl]; exact h.len, h.fI, h.mI⟩
theorem PrZ.next {w0 w w' : World} {p a r : Nat} {f m : Int} {d : Dev} {os : Option Sp} {k : Nat} (h : PrZ w0 w p a r f m d os k) (hk : Kept [] w w') : PrZ w0 w' p a r f m d os k := by
 obtain ⟨vs, vm, fp, gp, S, G, t, hP⟩ := h.ex
 exact ⟨⟨vs, vm, fp, gp, S, G, t, hP.next hk⟩, h.wf, h.works, h.len, h.fI, h.mI⟩
theorem PrZ.more {w0 w : World} {p a r : Nat} {f m : Int} {d : Dev} {os : Option Sp} {k : Nat} (h : PrZ w0 w p a r f m d os k) : PrZ w0 w p a r f m d os (k + 1) :=
 ⟨h.ex, fun s hs => (h.wf s hs).more (by omega), by have := h.works; push_cast; omega, h.len, h.fI, h.mI⟩
set_option maxHeartbeats 4000000 in
set_option maxRecDepth 100000 in
theorem pairTurn13_any {w0 w : World} {p a r : Nat} {f m : Int} {d : Dev} {os : Option Sp} {k : Nat} (h : PrZ w0 w p a r f m d os k) (hk : k ≤ 1000) (en : Int) (he : I64 en) :
  Calls Tryz.prog 70 #[.pointer (some ⟨p, 0, none⟩), .int .i64 en] w (PzStep w0 p a r f m (k + 1)) := by
 obtain ⟨vs, vm, fp, gp, S, G, t, hP⟩ := h.ex
 obtain ⟨c0, c1, c2, c3, c4, c5, c6, cf⟩ := pr13_cells hP.head
 have hpl := hP.pl
 have hdw := hP.dv.wf
 have hone := hdw.one; have hlen := h.len; have hwks := h.works
 obtain ⟨N, hN⟩ : ∃ N, d.secs.length = N := ⟨_, rfl⟩
 obtain ⟨Bx, cap, lx, sx, hA, hI⟩ := id hP.rv
 obtain ⟨r0, -, -, -, -, -, -⟩ := hA.cells
 rw [hA.len, hI.n, hN] at r0
 rw [hN] at hone hlen
 obtain ⟨K, hK⟩ : ∃ K : Nat, en % (1024 * (N : Int)) = K := ⟨(en % (1024 * (N : Int))).toNat, by have := Int.emod_nonneg en (show 1024 * (N : Int) ≠ 0 by omega); omega⟩
 have hKl : (K : Int) < 1024 * (N : Int) := by rw [← hK]; exact Int.emod_lt_of_pos _ (by omega)
 have cb := fun W => bring_any en (1024 * (N : Int)) W (by omega) (by omega) he.1 he.2
 rw [hK] at cb
 have hw1 : IntKind.i64.wrap (1024 * (N : Int)) = 1024 * (N : Int) := by rw [IntKind.wrap_i64]; omega
 obtain ⟨q, hq⟩ : ∃ q, K / 1024 = q := ⟨_, rfl⟩
 obtain ⟨x, hx⟩ : ∃ x, K % 1024 = x := ⟨_, rfl⟩
 obtain ⟨j, hj⟩ : ∃ j, x / 8 = j := ⟨_, rfl⟩
 obtain ⟨R, hR⟩ : ∃ R, K % 8 = R := ⟨_, rfl⟩
 have hql : q < N := by omega
 have hjl : j < 128 := by omega
 have hRl : R < 8 := by omega
 have e1 : (K : Int) / 1024 = (q : Int) := by omega
 have e2 : (K : Int) % 1024 = (x : Int) := by omega
 have e2' : (K : Int).tmod 1024 = (x : Int) := by rw [Int.tmod_eq_emod_of_nonneg (by omega)]; omega
 have e3 : (x : Int) / 8 = (j : Int) := by omega
 have e4 : (K : Int) % 8 = (R : Int) := by omega
 have e4' : (K : Int).tmod 8 = (R : Int) := by rw [Int.tmod_eq_emod_of_nonneg (by omega)]; omega
 have e5 : IntKind.u8.wrap (2 ^ R) = ((2 ^ R : Nat) : Int) := u8_pow_ hRl
 have e6 : IntKind.i64.wrap ((K : Int).tdiv 1024) = (q : Int) := by rw [IntKind.wrap_i64, Int.tdiv_eq_ediv_of_nonneg (by omega)]; omega
 have e7 : IntKind.i64.wrap ((x : Int).tdiv 8) = (j : Int) := by rw [IntKind.wrap_i64, Int.tdiv_eq_ediv_of_nonneg (by omega)]; omega
 have e10 : IntKind.i64.wrap (j : Int) = (j : Int) := by rw [IntKind.wrap_i64]; omega
 have e11 : IntKind.i64.wrap (x : Int) = (x : Int) := by rw [IntKind.wrap_i64]; omega
 have e12 : IntKind.i64.wrap (R : Int) = (R : Int) := by rw [IntKind.wrap_i64]; omega
 have HH := Lib.hid hN
 clear hK hq hx hj hR hN
 go_enter Tryz.func70, Tryz.ntmps70
 go_wp2_with fail
 refine (cb _).mono ?_
 rintro e w1 ⟨rfl, rfl⟩
 clear cb
 by_cases hd : d.dead = true
 ·have ha : d.at_ (q : Int) = 100 := by simp [Dev.at_, hd]
  have cr := rv_read_bad hP.rv (q : Int) (by rw [ha]; decide)
  rw [ha] at cr
  clear ha hd
  go_wp2_with fail
  refine cr.mono ?_
  rintro e w2 ⟨rfl, rfl⟩
  go_wp2_with fail
  go_end0
  exact ⟨rfl, d, os, ⟨_, _, _, _, _, _, _, hP⟩, fun s hs => (h.wf s hs).more (by omega), by push_cast; omega, h.len, h.fI, h.mI⟩
 ·have hd0 : d.dead = false := by simpa using hd
  obtain ⟨b, hb⟩ : ∃ b, d.secs[q]? = some b := ⟨_, List.getElem?_eq_getElem (by rw [HH.out]; exact hql)⟩
  have cr := rv_read hP.rv (q : Int) (at_live_ hd0 (by rw [HH.out]; exact hql)) (b := b) (by rw [Int.toNat_natCast]; exact hb)
  have hbz := hdw.size b (List.mem_of_getElem? hb)
  clear hd hd0 hb
  go_wp2_with fail
  refine cr.mono ?_
  rintro e w2 ⟨A2, c2', rfl, hown2, hbel2⟩
  have hk2 := Kept.of_below (F := []) hbel2
  obtain ⟨g, c, e0, hB2, hg2⟩ := BfAt.of_own hown2 (by omega)
  cases e0
  have hcb := hB2.cell (i := j) (by rw [hbz]; exact hjl)
  obtain ⟨yv, hyv⟩ : ∃ yv, (b[j]?.getD 0).toNat = yv := ⟨_, rfl⟩
  have hyl : yv < 256 := by rw [← hyv]; exact (b[j]?.getD 0).toNat_lt
  have hcd : w2.drew.cell? ⟨g, j, none⟩ = some (.int .u8 yv) := by rw [← hyv]; exact hcb.1
  obtain ⟨xv, hxv⟩ : ∃ xv, yv ^^^ 2 ^ R = xv := ⟨_, rfl⟩
  have hxl : xv < 256 := by rw [← hxv]; exact Nat.xor_lt_two_pow (n := 8) hyl (Nat.pow_lt_pow_right (a := 2) (n := 8) (by omega) hRl)
  have e8 : bits .xor .u8 (yv : Int) (2 ^ R) = (xv : Int) := by
   have h := u8_xor_nat yv (2 ^ R) hyl (Nat.pow_lt_pow_right (a := 2) (n := 8) (by omega) hRl)
   rw [hxv] at h
   rw [← h]
   push_cast
   rfl
  have hfd : w2.drew.frozen? ⟨g, j, none⟩ = false := hcb.2
  have i6 : (j : Int) < 128 := by omega
  have i8 : (R : Int) < 8 := by omega
  have hBx := hB2.set (i := j) (by rw [hbz]; exact hjl) (UInt8.ofNat xv)
  have e9 : u8v (UInt8.ofNat xv) = .int .u8 (xv : Int) := by
   unfold u8v
   rw [UInt8.toNat_ofNat', Nat.mod_eq_of_lt hxl]
  rw [e9] at hBx
  have hks : Kept [g] w2 (w2.setCell ⟨g, j, none⟩ (.int .u8 xv)) := Kept.setCell (by simp) _
  have hkw3 : Kept [] w (w2.setCell ⟨g, j, none⟩ (.int .u8 xv)) := hk2.trans' hks (fun i hi => by simp at hi; subst hi; exact .inr hg2)
  have hcA : (128 : Nat) ≤ c2' := by have := hB2.le; omega
  obtain ⟨b', hb'⟩ : ∃ b', b.set j (UInt8.ofNat xv) = b' := ⟨_, rfl⟩
  rw [hb'] at hBx
  have hbl' : b'.length = 128 := by rw [← hb', List.length_set]; exact hbz
  obtain ⟨W3, hW3⟩ : ∃ W3, (w2.setCell ⟨g, j, none⟩ (.int .u8 xv)).drew = W3 := ⟨_, rfl⟩
  have hk3 : Kept [] w W3 := by rw [← hW3]; exact hkw3.trans (Kept.drew [] _)
  have hs3 : SlAt W3 (some ⟨g, 0, none⟩) 128 c2' (u8vs b') := by
   rw [← hW3]
   have := hBx.sl.kept (Kept.drew [] _) (by simp)
   rw [hbl'] at this
   exact this
  have hP3 := hP.next hk3
  obtain ⟨x0, x1, x2, x3, x4, x5, x6, xf⟩ := pr13_cells hP3.head
  have hgf : ∀ i ∈ fp, i ≠ g := fun i hi e => by have := hP.dv.lt i hi; omega
  have cw := write_dv hP3.dv (q : Int) b' (some ⟨g, 0, none⟩) 128 c2' hs3 (fun p' e hm => by cases e; exact hgf _ hm rfl) (by omega)
  obtain ⟨X, hX⟩ : ∃ X, d.write (q : Int) b' = X := ⟨_, rfl⟩
  have hXl : X.1.secs.length = d.secs.length := by rw [← hX]; exact write_len _ _ _
  have hXw : X.1.works ≤ 10000000 * ((k + 1 : Nat) : Int) := by
   have := write_works d (q : Int) b'
   rw [hX] at this
   push_cast
   omega
  rw [hX] at cw
  have HX := Lib.hid hX
  clear hX hb'
  clear hyv hxv e9 hcb hown2 hbel2 cr hBx hks hkw3 c0 c1 c2 c3 c4 c5 c6 cf
  go_wp2_with fail
  refine wp_region_calm (S := (fun _ => True)) (by kernel_rfl) trivial (fun hHeld => ?_)
  refine tk (i := 0) (v := ?_) (hy := Or.inl ⟨by rfl, ?_⟩) (hS := hHeld) (h := ?_)
  rotate_left
  ·intro w hSw
   try dsimp only at hSw
   go_simp
   all_goals with_reducible rfl
  try simp only [Act.put, List.setIfInBounds_toArray, List.set_cons_zero, List.set_cons_succ]
  refine tk (i := 1) (v := ?_) (hy := Or.inl ⟨by rfl, ?_⟩) (hS := hHeld) (h := ?_)
  rotate_left
  ·intro w hSw
   try dsimp only at hSw
   go_simp
   all_goals with_reducible rfl
  try simp only [Act.put, List.setIfInBounds_toArray, List.set_cons_zero, List.set_cons_succ]
  refine tk (i := 2) (v := ?_) (hy := Or.inl ⟨by rfl, ?_⟩) (hS := hHeld) (h := ?_)
  rotate_left
  ·intro w hSw
   try dsimp only at hSw
   go_simp
   all_goals with_reducible rfl
  try simp only [Act.put, List.setIfInBounds_toArray, List.set_cons_zero, List.set_cons_succ]
  try simp only [e1, e2, e2', e3, e4, e4', e5, e6, e7, e10, e11, e12]
  refine tk (i := 3) (v := ?_) (hy := Or.inl ⟨by rfl, ?_⟩) (hS := hHeld) (h := ?_)
  rotate_left
  ·intro w hSw
   try dsimp only at hSw
   go_simp
   all_goals with_reducible rfl
  try simp only [Act.put, List.setIfInBounds_toArray, List.set_cons_zero, List.set_cons_succ]
  try simp only [e1, e2, e2', e3, e4, e4', e5, e6, e7, e10, e11, e12]
  refine tk (i := 4) (v := ?_) (hy := Or.inl ⟨by rfl, ?_⟩) (hS := hHeld) (h := ?_)
  rotate_left
  ·intro w hSw
   try dsimp only at hSw
   go_simp
   all_goals with_reducible rfl
  try simp only [Act.put, List.setIfInBounds_toArray, List.set_cons_zero, List.set_cons_succ]
  refine tk (i := 5) (v := ?_) (hy := Or.inl ⟨by rfl, ?_⟩) (hS := hHeld) (h := ?_)
  rotate_left
  ·intro w hSw
   try dsimp only at hSw
   go_simp
   all_goals with_reducible rfl
  try simp only [Act.put, List.setIfInBounds_toArray, List.set_cons_zero, List.set_cons_succ]
  refine tk (i := 6) (v := ?_) (hy := Or.inl ⟨by rfl, ?_⟩) (hS := hHeld) (h := ?_)
  rotate_left
  ·intro w hSw
   try dsimp only at hSw
   go_simp
   all_goals with_reducible rfl
  try simp only [Act.put, List.setIfInBounds_toArray, List.set_cons_zero, List.set_cons_succ]
  try simp only [e1, e2, e2', e3, e4, e4', e5, e6, e7, e10, e11, e12]
  refine tk (i := 7) (v := ?_) (hy := Or.inl ⟨by rfl, ?_⟩) (hS := hHeld) (h := ?_)
  rotate_left
  ·intro w hSw
   try dsimp only at hSw
   go_simp
   all_goals with_reducible rfl
  try simp only [Act.put, List.setIfInBounds_toArray, List.set_cons_zero, List.set_cons_succ]
  try simp only [e1, e2, e2', e3, e4, e4', e5, e6, e7, e10, e11, e12]
  refine tk (i := 8) (v := ?_) (hy := Or.inl ⟨by rfl, ?_⟩) (hS := hHeld) (h := ?_)
  rotate_left
  ·intro w hSw
   try dsimp only at hSw
   go_simp
   all_goals with_reducible rfl
  try simp only [Act.put, List.setIfInBounds_toArray, List.set_cons_zero, List.set_cons_succ]
  refine tk (i := 10) (v := ?_) (hy := Or.inl ⟨by rfl, ?_⟩) (hS := hHeld) (h := ?_)
  rotate_left
  ·intro w hSw
   try dsimp only at hSw
   go_simp
   all_goals with_reducible rfl
  try simp only [Act.put, List.setIfInBounds_toArray, List.set_cons_zero, List.set_cons_succ]
  refine tk (i := 11) (v := ?_) (hy := Or.inl ⟨by rfl, ?_⟩) (hS := hHeld) (h := ?_)
  rotate_left
  ·intro w hSw
   try dsimp only at hSw
   go_simp
   all_goals with_reducible rfl
  try simp only [Act.put, List.setIfInBounds_toArray, List.set_cons_zero, List.set_cons_succ]
  try simp only [e1, e2, e2', e3, e4, e4', e5, e6, e7, e10, e11, e12]
  refine tk (i := 12) (v := ?_) (hy := Or.inl ⟨by rfl, ?_⟩) (hS := hHeld) (h := ?_)
  rotate_left
  ·intro w hSw
   try dsimp only at hSw
   go_simp
   all_goals with_reducible rfl
  try simp only [Act.put, List.setIfInBounds_toArray, List.set_cons_zero, List.set_cons_succ]
  try simp only [e1, e2, e2', e3, e4, e4', e5, e6, e7, e10, e11, e12]
  refine wpAnyH_ready (rs := [9]) (by kernel_rfl) (by simp) ?_
  refine AllReadyH.cons (by simp only [List.getElem?_toArray, List.getElem?_cons_succ, List.getElem?_cons_zero]; rfl) (fun K hK => ?_) AllReadyH.nil
  go_simp
  refine hK.out _ _ ?_ (fun hHeld2 => ?_)
  ·exact trivial
  clear hK K hHeld
  have hHeld := hHeld2
  clear hHeld2
  try simp only [Act.put, List.setIfInBounds_toArray, List.set_cons_zero, List.set_cons_succ]
  refine tk (i := 13) (v := ?_) (hy := Or.inl ⟨by rfl, ?_⟩) (hS := hHeld) (h := ?_)
  rotate_left
  ·intro w hSw
   try dsimp only at hSw
   go_simp
   all_goals with_reducible rfl
  try simp only [Act.put, List.setIfInBounds_toArray, List.set_cons_zero, List.set_cons_succ]
  try simp only [e8]
  refine tk (i := 14) (v := ?_) (hy := Or.inl ⟨by rfl, ?_⟩) (hS := hHeld) (h := ?_)
  rotate_left
  ·intro w hSw
   try dsimp only at hSw
   go_simp
   all_goals with_reducible rfl
  try simp only [Act.put, List.setIfInBounds_toArray, List.set_cons_zero, List.set_cons_succ]
  refine wpAnyH_ready (rs := [15]) (by kernel_rfl) (by simp) ?_
  refine AllReadyH.cons (by simp only [List.getElem?_toArray, List.getElem?_cons_succ, List.getElem?_cons_zero]; rfl) (fun K hK => ?_) AllReadyH.nil
  go_simp
  refine hK.out _ _ ?_ (fun hHeld2 => ?_)
  ·exact trivial
  clear hK K hHeld
  have hHeld := hHeld2
  clear hHeld2
  try simp only [Act.put, List.setIfInBounds_toArray, List.set_cons_zero, List.set_cons_succ]
  refine wpAnyH_calm (by kernel_rfl) ?_ _
  clear hHeld
  clear hW3
  go_wp2_with fail
  refine cw.mono ?_
  rintro e w4 ⟨rfl, fp', hD', hk4, hn4⟩
  obtain ⟨t', hP4⟩ := hP3.dev hD' hk4 hn4
  obtain ⟨y0, y1, y2, y3, y4, y5, y6, yf⟩ := pr13_cells hP4.head
  have cv := rv_write hP4.rv hdw (by omega) (q : Int) b' (some ⟨g, 0, none⟩) 128 c2' (hs3.kept hk4 (fun p' e hm => by cases e; exact hgf _ hm rfl))
  rw [HX.out] at cv
  clear cw x0 x1 x2 x3 x4 x5 x6 xf
  go_wp2_with fail
  refine cv.mono ?_
  rintro e w5 ⟨rfl, gp', hR', hk5, hn5⟩
  obtain ⟨t'', hP5⟩ := hP4.ref hR' hk5 hn5
  go_wp2_with fail
  go_end0
  exact ⟨rfl, X.1, os, ⟨_, _, _, _, _, _, _, hP5⟩, fun s hs => (h.wf s hs).dev hXl (by omega), hXw, by rw [hXl]; exact h.len, h.fI, h.mI⟩
end Go.Proofs.YtbnflbkaogpnbaaGreat
