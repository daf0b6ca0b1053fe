/- Texts in one: KJ. -/
import Derived.Test.YtbnflbkaogpnbaaGreatPBG
namespace Go.Proofs.YtbnflbkaogpnbaaGreat
set_option linter.unusedVariables false
open Go.RowKit
section
variable {w : World} {y zs zt a : Nat} {fp slp stp : List Nat} {s : Sp} {d : Dev}
set_option maxHeartbeats 1000000 in
theorem spoolBroken_any (h : SpP w y zs zt a fp slp stp s d) : Calls Tryz.prog 10 #[.pointer (some ⟨y, 0, none⟩)] w (TlPost w y zs zt a fp slp stp s d (.bool (s.wrong d))) := by
 cases hw : s.wrong d with
 | true =>
  have cw := wrong_yes h hw
  go_enter Tryz.func10, Tryz.ntmps10
  go_wp2_with fail
  refine cw.mono ?_
  rintro e w1 ⟨rfl, hP1, hk1⟩
  go_wp2_with fail
  go_ret
  exact ⟨rfl, hP1, hk1⟩
 | false =>
  have cw := wrong_no h hw
  go_enter Tryz.func10, Tryz.ntmps10
  go_wp2_with fail
  refine cw.mono ?_
  rintro e w1 ⟨rfl, hP1, hk1⟩
  go_wp2_with fail
  go_ret
  exact ⟨rfl, by rw [touch_no hw]; exact hP1, hk1⟩
set_option maxHeartbeats 1000000 in
theorem spoolLen_wrong (h : SpP w y zs zt a fp slp stp s d) (hw : s.wrong d = true) : Calls Tryz.prog 7 #[.pointer (some ⟨y, 0, none⟩)] w (TlPost w y zs zt a fp slp stp s d (.int .i64 0)) := by
 have cu := spoolUp_any h
 rw [hw] at cu
 go_enter Tryz.func7, Tryz.ntmps7
 go_wp2_with fail
 refine cu.mono ?_
 rintro e w1 ⟨rfl, hP1, hk1⟩
 go_wp2_with fail
 go_ret
 exact ⟨rfl, hP1, hk1⟩
set_option maxHeartbeats 1000000 in
theorem spoolLeft_wrong (h : SpP w y zs zt a fp slp stp s d) (hw : s.wrong d = true) : Calls Tryz.prog 8 #[.pointer (some ⟨y, 0, none⟩)] w (TlPost w y zs zt a fp slp stp s d (.int .i64 0)) := by
 have cu := spoolUp_any h
 rw [hw] at cu
 go_enter Tryz.func8, Tryz.ntmps8
 go_wp2_with fail
 refine cu.mono ?_
 rintro e w1 ⟨rfl, hP1, hk1⟩
 go_wp2_with fail
 go_ret
 exact ⟨rfl, hP1, hk1⟩
set_option maxHeartbeats 1000000 in
theorem spoolHalf_wrong (h : SpP w y zs zt a fp slp stp s d) (hw : s.wrong d = true) : Calls Tryz.prog 9 #[.pointer (some ⟨y, 0, none⟩)] w (TlPost w y zs zt a fp slp stp s d (.int .i64 0)) := by
 have cu := spoolUp_any h
 rw [hw] at cu
 go_enter Tryz.func9, Tryz.ntmps9
 go_wp2_with fail
 refine cu.mono ?_
 rintro e w1 ⟨rfl, hP1, hk1⟩
 go_wp2_with fail
 go_ret
 exact ⟨rfl, hP1, hk1⟩
end
/-- The pair in the midst of what it tells: both logs, one ahead of the other one. -/
def PrT (w0 w : World) (p a r : Nat) (f m : Int) (d : Dev) (s1 s2 : Sp) (y1 y2 : Nat) : Prop :=
 ∃ fp gp S G t, Pr13 w0 w p a r f m d d (some s1) (some s2) (.pointer (some ⟨y1, 0, none⟩)) (.pointer (some ⟨y2, 0, none⟩)) fp gp S G t
def TlT (w0 : World) (p a r : Nat) (f m : Int) (d : Dev) (s1 s2 : Sp) (y1 y2 : Nat) (v : Value) (e : Ending) (w' : World) : Prop := e = .returned v ∧ PrT w0 w' p a r f m d s1 s2 y1 y2
section
variable {w0 w w' : World} {p a r : Nat} {f m : Int} {d : Dev} {s1 s2 : Sp} {y1 y2 : Nat}
theorem PrT.next (h : PrT w0 w p a r f m d s1 s2 y1 y2) (hk : Kept [] w w') : PrT w0 w' p a r f m d s1 s2 y1 y2 := by
 obtain ⟨fp, gp, S, G, t, hP⟩ := h
 exact ⟨fp, gp, S, G, t, hP.next hk⟩
theorem PrT.cells (h : PrT w0 w p a r f m d s1 s2 y1 y2) : w.cell? ⟨p, 3, none⟩ = some (.pointer (some ⟨y1, 0, none⟩)) ∧ w.cell? ⟨p, 5, none⟩ = some (.pointer (some ⟨y2, 0, none⟩)) ∧ w.cell? ⟨y2, 6, none⟩ = some (.int .i64 s2.many) ∧ w.cell? ⟨y2, 5, none⟩ = some (.int .i64 s2.half) := by
 obtain ⟨fp, gp, S, G, t, hP⟩ := h
 obtain ⟨c0, c1, c2, c3, c4, c5, c6, cf⟩ := pr13_cells hP.head
 obtain ⟨y, zm, zt, sp, B, e, hR, _⟩ := hP.rgP
 simp only [Value.pointer.injEq, Option.some.injEq, Addr.mk.injEq, and_true] at e
 subst e
 obtain ⟨k0, k1, k2, k3, k4, k5, k6, k7, k8, kf⟩ := hR.q.cells
 exact ⟨c3, c5, k6, k5⟩
theorem PrT.tell {g : FuncId} {v : Value} (h : PrT w0 w p a r f m d s1 s2 y1 y2) (hc : ∀ zs zt fp slp stp, SpP w y1 zs zt a fp slp stp s1 d → Calls Tryz.prog g #[.pointer (some ⟨y1, 0, none⟩)] w (TlPost w y1 zs zt a fp slp stp s1 d v)) :
  Calls Tryz.prog g #[.pointer (some ⟨y1, 0, none⟩)] w (TlT w0 p a r f m d (s1.touch d) s2 y1 y2 v) := by
 obtain ⟨fp, gp, S, G, t, hP⟩ := h
 obtain ⟨y, zs, zt, slp, stp, e, hS, hj⟩ := hP.spP
 simp only [Value.pointer.injEq, Option.some.injEq, Addr.mk.injEq, and_true] at e
 subst e
 refine (hc zs zt fp slp stp hS).mono ?_
 rintro e w' ⟨rfl, h1, h2⟩
 obtain ⟨t', hQ⟩ := hP.log hj h1 (.own h2)
 exact ⟨rfl, _, _, _, _, t', hQ⟩
theorem PrT.wrongR (h : PrT w0 w p a r f m d s1 s2 y1 y2) : Calls Tryz.prog 71 #[.pointer (some ⟨y2, 0, none⟩)] w (TlT w0 p a r f m d s1 (s2.touch d) y1 y2 (.int .i64 (if s2.wrong d then 100 else 0))) := by
 obtain ⟨fp, gp, S, G, t, hP⟩ := h
 obtain ⟨y, zm, zt, sp, B, e, hR, hj⟩ := hP.rgP
 simp only [Value.pointer.injEq, Option.some.injEq, Addr.mk.injEq, and_true] at e
 subst e
 refine (ref13Wrong_any hR).mono ?_
 rintro e w' ⟨rfl, h1, h2⟩
 obtain ⟨t', hQ⟩ := hP.rlog hj h1 (.own h2)
 exact ⟨rfl, _, _, _, _, t', hQ⟩
theorem PrT.leftR (h : PrT w0 w p a r f m d s1 s2 y1 y2) (hm : s2.each ≤ 10000) (hf : s2.st.fin ≤ 128 * s2.each) : Calls Tryz.prog 72 #[.pointer (some ⟨y2, 0, none⟩)] w (TlT w0 p a r f m d s1 s2 y1 y2 (.int .i64 (128 * s2.each - s2.st.fin))) := by
 have h' := h
 obtain ⟨fp, gp, S, G, t, hP⟩ := h
 obtain ⟨y, zm, zt, sp, B, e, hR, hj⟩ := hP.rgP
 simp only [Value.pointer.injEq, Option.some.injEq, Addr.mk.injEq, and_true] at e
 subst e
 refine (ref13Left_any hR hm hf).mono ?_
 rintro e w' ⟨rfl, h2⟩
 exact ⟨rfl, h'.next h2⟩
end
theorem touch_touch (s : Sp) (d : Dev) : (s.touch d).touch d = s.touch d ∧ (s.touch d).wrong d = s.wrong d := by
 unfold Sp.touch Sp.wrong
 refine ⟨?_, ?_⟩
 ·simp
 ·simp
theorem SpOk.touch {s : Sp} {d : Dev} {k : Nat} (h : SpOk s d k) : SpOk (s.touch d) d k := ⟨h.half, h.one, h.room, h.wf, h.stm, h.many, h.newer, h.turn, h.slf⟩
/-- What tells leaves: both logs know that their device is dead. -/
def PtPost (w0 : World) (p a r : Nat) (f m : Int) (d : Dev) (k : Nat) (e : Ending) (w' : World) : Prop := e = .returned (.bool true) ∧ ∃ os, PrZ w0 w' p a r f m d os k
set_option maxHeartbeats 8000000 in
set_option maxRecDepth 100000 in
theorem pairTells13_any {w0 w : World} {p a r : Nat} {f m : Int} {d : Dev} {os : Option Sp} {k : Nat} (h : PrZ w0 w p a r f m d os k) :
  Calls Tryz.prog 35 #[.pointer (some ⟨p, 0, none⟩)] w (PtPost w0 p a r f m d k) := by
 obtain ⟨vs, vm, fp, gp, S, G, t, hP⟩ := h.ex
 obtain ⟨c0, c1, c2, c3, c4, c5, c6, cf⟩ := pr13_cells hP.head
 have hdw := hP.dv.wf
 have hone := hdw.one; have hlen := h.len
 obtain ⟨N, hN⟩ : ∃ N, d.secs.length = N := ⟨_, rfl⟩
 rw [hN] at hone hlen
 have rlen : ∀ {W : World} {g : List Nat}, Rv W r g d → ∃ B cap, W.cell? ⟨r, 0, none⟩ = some (.slice (some ⟨B, 0, none⟩) N cap) ∧ r < W.heap.size := fun hR => by
  have hrl := hR.lt r hR.rin
  obtain ⟨Bx, cap, lx, sx, hA, hI⟩ := hR
  obtain ⟨r0, -, -, -, -, -, -⟩ := hA.cells
  rw [hA.len, hI.n, hN] at r0
  exact ⟨_, _, r0, hrl⟩
 have HH := Lib.hid hN
 clear hN
 cases os with
 | none =>
  have hm0 : vm = .pointer none := hP.rt
  subst hm0
  obtain ⟨Bx, cap, r0, hrl⟩ := rlen hP.rv
  clear rlen
  go_enter Tryz.func35, Tryz.ntmps35
  go_wp2_with fail
  go_loopw [4] (fun i wr => TlRel12 w N i wr) (fun i _ => N - (intOf i).toNat)
  case atStart => exact ⟨0, Nat.zero_le _, rfl, Kept.refl _ _⟩
  case round =>
   obtain ⟨q, hq, rfl, hkw⟩ := hrel
   have hPr := hP.next hkw
   obtain ⟨x0, x1, x2, x3, x4, x5, x6, xf⟩ := pr13_cells hPr.head
   have rr := (hkw.cell (p := ⟨r, 0, none⟩) hrl (by simp)).trans r0
   by_cases hlt : q < N
   ·have i1 : (q : Int) < (N : Int) := by omega
    by_cases hd : d.dead = true
    ·have ha : d.at_ (q : Int) = 100 := by simp [Dev.at_, hd]
     have cr1 := read_bad hPr.dv (q : Int) (by rw [ha]; decide)
     have cr2 := rv_read_bad hPr.rv (q : Int) (by rw [ha]; decide)
     rw [ha] at cr1 cr2
     have ce := eqb_true wr none none 0 0 0 0 [] (SlAt.nil _) (SlAt.nil _)
     clear ha hd
     go_wp2_with fail
     refine cr1.mono ?_
     rintro e w2 ⟨rfl, rfl⟩
     go_wp2_with fail
     refine cr2.mono ?_
     rintro e w2 ⟨rfl, rfl⟩
     go_wp2_with fail
     refine ce.mono ?_
     rintro e w2 ⟨rfl, k2⟩
     clear cr1 cr2 ce
     go_wp2_with fail
     go_roundw
     case rel => exact ⟨q + 1, by omega, by go_num, hkw.trans k2⟩
     case measure => simp [intOf]; omega
    ·have hd0 : d.dead = false := by simpa using hd
     obtain ⟨b, hb⟩ : ∃ b, d.secs[q]? = some b := ⟨_, List.getElem?_eq_getElem (by rw [HH.out]; exact hlt)⟩
     have cr1 := read_dv hPr.dv (q : Int) (at_live_ hd0 (by rw [HH.out]; exact hlt)) (b := b) (by rw [Int.toNat_natCast]; exact hb)
     have cr2 := fun W (hk : Kept [] wr W) => rv_read (hPr.next hk).rv (q : Int) (at_live_ hd0 (by rw [HH.out]; exact hlt)) (b := b) (by rw [Int.toNat_natCast]; exact hb)
     clear hd hd0 hb
     go_wp2_with fail
     refine cr1.mono ?_
     rintro e w2 ⟨A2, n2, rfl, hown2, hbel2⟩
     have hk2 := Kept.of_below (F := []) hbel2
     have hs2 := (ClonePost.sl hown2).1
     obtain ⟨y0, y1, y2, y3, y4, y5, y6, yf⟩ := pr13_cells (hPr.next hk2).head
     clear x0 x1 x2 x3 x4 x5 x6 xf rr hown2 hbel2
     go_wp2_with fail
     refine (cr2 _ hk2).mono ?_
     rintro e w3 ⟨A3, n3, rfl, hown3, hbel3⟩
     have hk3 := Kept.of_below (F := []) hbel3
     have hs3 := (ClonePost.sl hown3).1
     have ce := eqb_true w3 A2 A3 128 n2 128 n3 b (hs2.kept hk3 (by simp)) hs3
     clear cr1 cr2 hown3 hbel3
     go_wp2_with fail
     refine ce.mono ?_
     rintro e w4 ⟨rfl, k4⟩
     clear ce
     go_wp2_with fail
     go_roundw
     case rel => exact ⟨q + 1, by omega, by go_num, ((hkw.trans hk2).trans hk3).trans k4⟩
     case measure => simp [intOf]; omega
   ·have i1 : ¬ (q : Int) < (N : Int) := by omega
    go_wp2_with fail
    go_ret
    exact ⟨rfl, none, h.next hkw⟩
 | some s =>
  have hok := h.wf s rfl
  obtain ⟨y1, zs, zt1, slp, stp, hvs, hS1, hj1⟩ := hP.spP
  obtain ⟨y2, zm, zt2, sp, B, hvm, hR1, hj2⟩ := hP.rgP
  subst hvs hvm
  have hT : PrT w0 w p a r f m d s s y1 y2 := ⟨fp, gp, S, G, t, hP⟩
  have hw0 := h.works; have hfI := h.fI; have hmI := h.mI; have hl9 := h.len
  obtain ⟨tt1, tt2⟩ := touch_touch s d
  cases hwr : s.wrong d with
  | true =>
   have cw := hT.wrongR
   rw [if_pos hwr] at cw
   rw [hwr] at tt2
   have cB := fun W (hW : PrT w0 W p a r f m d s (s.touch d) y1 y2) => hW.tell (g := 10) (fun zs zt fp slp stp hS => spoolBroken_any hS)
   rw [hwr] at cB
   have cL := fun W (hW : PrT w0 W p a r f m d (s.touch d) (s.touch d) y1 y2) => hW.tell (g := 7) (fun zs zt fp slp stp hS => spoolLen_wrong hS tt2)
   have cLe := fun W (hW : PrT w0 W p a r f m d (s.touch d) (s.touch d) y1 y2) => hW.tell (g := 8) (fun zs zt fp slp stp hS => spoolLeft_wrong hS tt2)
   have cHa := fun W (hW : PrT w0 W p a r f m d (s.touch d) (s.touch d) y1 y2) => hW.tell (g := 9) (fun zs zt fp slp stp hS => spoolHalf_wrong hS tt2)
   rw [tt1] at cL cLe cHa
   have hok2 := hok.touch
   obtain ⟨s', hs'⟩ : ∃ s', s.touch d = s' := ⟨_, rfl⟩
   rw [hs'] at cw cB cL cLe cHa hok2
   clear hs' tt1 tt2 hwr hS1 hR1 hj1 hj2 hP hok
   go_enter Tryz.func35, Tryz.ntmps35
   go_wp2_with fail
   refine cw.mono ?_
   rintro e w1 ⟨rfl, hT1⟩
   have k1 := (hT1.next (Kept.drew [] w1)).cells.1
   have hwz : IntKind.i64.wrap 0 = 0 := by decide
   clear cw c0 c1 c2 c3 c4 c5 c6 cf
   go_wp2_with fail
   refine wp_region_calm (S := (fun W => W.cell? ⟨p, 3, none⟩ = some (.pointer (some ⟨y1, 0, none⟩)))) (by kernel_rfl) (by exact k1) (fun hHeld => ?_)
   refine tk (i := 0) (v := ?_) (hy := Or.inl ⟨by rfl, ?_⟩) (hS := hHeld) (h := ?_)
   rotate_left
   ·intro w hSw
    try dsimp only at hSw
    go_simp
    all_goals with_reducible rfl
   try simp only [Act.put, List.setIfInBounds_toArray, List.set_cons_zero, List.set_cons_succ]
   refine tk (i := 1) (v := ?_) (hy := Or.inl ⟨by rfl, ?_⟩) (hS := hHeld) (h := ?_)
   rotate_left
   ·intro w hSw
    try dsimp only at hSw
    go_simp
    all_goals with_reducible rfl
   try simp only [Act.put, List.setIfInBounds_toArray, List.set_cons_zero, List.set_cons_succ]
   refine tk (i := 2) (v := ?_) (hy := Or.inl ⟨by rfl, ?_⟩) (hS := hHeld) (h := ?_)
   rotate_left
   ·intro w hSw
    try dsimp only at hSw
    go_simp
    all_goals with_reducible rfl
   try simp only [Act.put, List.setIfInBounds_toArray, List.set_cons_zero, List.set_cons_succ]
   refine tk (i := 3) (v := ?_) (hy := Or.inl ⟨by rfl, ?_⟩) (hS := hHeld) (h := ?_)
   rotate_left
   ·intro w hSw
    try dsimp only at hSw
    have s0 := hSw
    go_simp
    all_goals with_reducible rfl
   try simp only [Act.put, List.setIfInBounds_toArray, List.set_cons_zero, List.set_cons_succ]
   refine tk (i := 5) (v := ?_) (hy := Or.inl ⟨by rfl, ?_⟩) (hS := hHeld) (h := ?_)
   rotate_left
   ·intro w hSw
    try dsimp only at hSw
    go_simp
    all_goals with_reducible rfl
   try simp only [Act.put, List.setIfInBounds_toArray, List.set_cons_zero, List.set_cons_succ]
   refine wpAnyH_ready (rs := [4]) (by kernel_rfl) (by simp) ?_
   refine AllReadyH.cons (by simp only [List.getElem?_toArray, List.getElem?_cons_succ, List.getElem?_cons_zero]; rfl) (fun K hK => ?_) AllReadyH.nil
   go_simp
   refine (cB _ (hT1.next (Kept.drew [] w1))).mono ?_
   rintro e w2 ⟨rfl, hT2⟩
   have k2 := hT2.cells.1
   go_wp2_with fail
   refine hK.out _ _ ?_ (fun hHeld2 => ?_)
   ·exact k2
   clear hK K hHeld
   have hHeld := hHeld2
   clear hHeld2
   try simp only [Act.put, List.setIfInBounds_toArray, List.set_cons_zero, List.set_cons_succ]
   refine tk (i := 6) (v := ?_) (hy := Or.inl ⟨by rfl, ?_⟩) (hS := hHeld) (h := ?_)
   rotate_left
   ·intro w hSw
    try dsimp only at hSw
    go_simp
    all_goals with_reducible rfl
   try simp only [Act.put, List.setIfInBounds_toArray, List.set_cons_zero, List.set_cons_succ]
   refine tk (i := 7) (v := ?_) (hy := Or.inl ⟨by rfl, ?_⟩) (hS := hHeld) (h := ?_)
   rotate_left
   ·intro w hSw
    try dsimp only at hSw
    go_simp
    all_goals with_reducible rfl
   try simp only [Act.put, List.setIfInBounds_toArray, List.set_cons_zero, List.set_cons_succ]
   refine tk (i := 8) (v := ?_) (hy := Or.inl ⟨by rfl, ?_⟩) (hS := hHeld) (h := ?_)
   rotate_left
   ·intro w hSw
    try dsimp only at hSw
    go_simp
    all_goals with_reducible rfl
   try simp only [Act.put, List.setIfInBounds_toArray, List.set_cons_zero, List.set_cons_succ]
   refine tk (i := 9) (v := ?_) (hy := Or.inl ⟨by rfl, ?_⟩) (hS := hHeld) (h := ?_)
   rotate_left
   ·intro w hSw
    try dsimp only at hSw
    go_simp
    all_goals with_reducible rfl
   try simp only [Act.put, List.setIfInBounds_toArray, List.set_cons_zero, List.set_cons_succ]
   refine tk (i := 10) (v := ?_) (hy := Or.inl ⟨by rfl, ?_⟩) (hS := hHeld) (h := ?_)
   rotate_left
   ·intro w hSw
    try dsimp only at hSw
    go_simp
    all_goals with_reducible rfl
   try simp only [Act.put, List.setIfInBounds_toArray, List.set_cons_zero, List.set_cons_succ]
   refine tk (i := 11) (v := ?_) (hy := Or.inl ⟨by rfl, ?_⟩) (hS := hHeld) (h := ?_)
   rotate_left
   ·intro w hSw
    try dsimp only at hSw
    go_simp
    all_goals with_reducible rfl
   try simp only [Act.put, List.setIfInBounds_toArray, List.set_cons_zero, List.set_cons_succ]
   refine tk (i := 12) (v := ?_) (hy := Or.inl ⟨by rfl, ?_⟩) (hS := hHeld) (h := ?_)
   rotate_left
   ·intro w hSw
    try dsimp only at hSw
    go_simp
    all_goals with_reducible rfl
   try simp only [Act.put, List.setIfInBounds_toArray, List.set_cons_zero, List.set_cons_succ]
   refine tk (i := 13) (v := ?_) (hy := Or.inl ⟨by rfl, ?_⟩) (hS := hHeld) (h := ?_)
   rotate_left
   ·intro w hSw
    try dsimp only at hSw
    have s0 := hSw
    go_simp
    all_goals with_reducible rfl
   try simp only [Act.put, List.setIfInBounds_toArray, List.set_cons_zero, List.set_cons_succ]
   refine tk (i := 15) (v := ?_) (hy := Or.inl ⟨by rfl, ?_⟩) (hS := hHeld) (h := ?_)
   rotate_left
   ·intro w hSw
    try dsimp only at hSw
    go_simp
    all_goals with_reducible rfl
   try simp only [Act.put, List.setIfInBounds_toArray, List.set_cons_zero, List.set_cons_succ]
   refine tk (i := 16) (v := ?_) (hy := Or.inl ⟨by rfl, ?_⟩) (hS := hHeld) (h := ?_)
   rotate_left
   ·intro w hSw
    try dsimp only at hSw
    go_simp
    all_goals with_reducible rfl
   try simp only [Act.put, List.setIfInBounds_toArray, List.set_cons_zero, List.set_cons_succ]
   refine tk (i := 17) (v := ?_) (hy := Or.inl ⟨by rfl, ?_⟩) (hS := hHeld) (h := ?_)
   rotate_left
   ·intro w hSw
    try dsimp only at hSw
    go_simp
    all_goals with_reducible rfl
   try simp only [Act.put, List.setIfInBounds_toArray, List.set_cons_zero, List.set_cons_succ]
   refine tk (i := 18) (v := ?_) (hy := Or.inl ⟨by rfl, ?_⟩) (hS := hHeld) (h := ?_)
   rotate_left
   ·intro w hSw
    try dsimp only at hSw
    have s0 := hSw
    go_simp
    all_goals with_reducible rfl
   try simp only [Act.put, List.setIfInBounds_toArray, List.set_cons_zero, List.set_cons_succ]
   refine tk (i := 21) (v := ?_) (hy := Or.inl ⟨by rfl, ?_⟩) (hS := hHeld) (h := ?_)
   rotate_left
   ·intro w hSw
    try dsimp only at hSw
    go_simp
    all_goals with_reducible rfl
   try simp only [Act.put, List.setIfInBounds_toArray, List.set_cons_zero, List.set_cons_succ]
   refine tk (i := 22) (v := ?_) (hy := Or.inl ⟨by rfl, ?_⟩) (hS := hHeld) (h := ?_)
   rotate_left
   ·intro w hSw
    try dsimp only at hSw
    go_simp
    all_goals with_reducible rfl
   try simp only [Act.put, List.setIfInBounds_toArray, List.set_cons_zero, List.set_cons_succ]
   refine tk (i := 23) (v := ?_) (hy := Or.inl ⟨by rfl, ?_⟩) (hS := hHeld) (h := ?_)
   rotate_left
   ·intro w hSw
    try dsimp only at hSw
    go_simp
    all_goals with_reducible rfl
   try simp only [Act.put, List.setIfInBounds_toArray, List.set_cons_zero, List.set_cons_succ]
   refine tk (i := 24) (v := ?_) (hy := Or.inl ⟨by rfl, ?_⟩) (hS := hHeld) (h := ?_)
   rotate_left
   ·intro w hSw
    try dsimp only at hSw
    have s0 := hSw
    go_simp
    all_goals with_reducible rfl
   try simp only [Act.put, List.setIfInBounds_toArray, List.set_cons_zero, List.set_cons_succ]
   refine wpAnyH_ready (rs := [14]) (by kernel_rfl) (by simp) ?_
   refine AllReadyH.cons (by simp only [List.getElem?_toArray, List.getElem?_cons_succ, List.getElem?_cons_zero]; rfl) (fun K hK => ?_) AllReadyH.nil
   go_simp
   refine (cL _ hT2).mono ?_
   rintro e w3 ⟨rfl, hT3⟩
   have k3 := hT3.cells.1
   go_wp2_with fail
   refine hK.out _ _ ?_ (fun hHeld2 => ?_)
   ·exact k3
   clear hK K hHeld
   have hHeld := hHeld2
   clear hHeld2
   try simp only [Act.put, List.setIfInBounds_toArray, List.set_cons_zero, List.set_cons_succ]
   refine wpAnyH_ready (rs := [19]) (by kernel_rfl) (by simp) ?_
   refine AllReadyH.cons (by simp only [List.getElem?_toArray, List.getElem?_cons_succ, List.getElem?_cons_zero]; rfl) (fun K hK => ?_) AllReadyH.nil
   go_simp
   refine (cLe _ hT3).mono ?_
   rintro e w4 ⟨rfl, hT4⟩
   have k4 := hT4.cells.1
   go_wp2_with fail
   refine hK.out _ _ ?_ (fun hHeld2 => ?_)
   ·exact k4
   clear hK K hHeld
   have hHeld := hHeld2
   clear hHeld2
   try simp only [Act.put, List.setIfInBounds_toArray, List.set_cons_zero, List.set_cons_succ]
   refine tk (i := 20) (v := ?_) (hy := Or.inl ⟨by rfl, ?_⟩) (hS := hHeld) (h := ?_)
   rotate_left
   ·intro w hSw
    try dsimp only at hSw
    go_simp
    all_goals with_reducible rfl
   try simp only [Act.put, List.setIfInBounds_toArray, List.set_cons_zero, List.set_cons_succ]
   try simp only [hwz]
   refine wpAnyH_ready (rs := [25]) (by kernel_rfl) (by simp) ?_
   refine AllReadyH.cons (by simp only [List.getElem?_toArray, List.getElem?_cons_succ, List.getElem?_cons_zero]; rfl) (fun K hK => ?_) AllReadyH.nil
   go_simp
   refine (cHa _ hT4).mono ?_
   rintro e w5 ⟨rfl, hT5⟩
   have k5 := hT5.cells.1
   go_wp2_with fail
   refine hK.out _ _ ?_ (fun hHeld2 => ?_)
   ·exact k5
   clear hK K hHeld
   have hHeld := hHeld2
   clear hHeld2
   try simp only [Act.put, List.setIfInBounds_toArray, List.set_cons_zero, List.set_cons_succ]
   refine tk (i := 26) (v := ?_) (hy := Or.inl ⟨by rfl, ?_⟩) (hS := hHeld) (h := ?_)
   rotate_left
   ·intro w hSw
    try dsimp only at hSw
    go_simp
    all_goals with_reducible rfl
   try simp only [Act.put, List.setIfInBounds_toArray, List.set_cons_zero, List.set_cons_succ]
   try simp only [hwz]
   refine tk (i := 27) (v := ?_) (hy := Or.inl ⟨by rfl, ?_⟩) (hS := hHeld) (h := ?_)
   rotate_left
   ·intro w hSw
    try dsimp only at hSw
    go_simp
    all_goals with_reducible rfl
   try simp only [Act.put, List.setIfInBounds_toArray, List.set_cons_zero, List.set_cons_succ]
   refine tk (i := 28) (v := ?_) (hy := Or.inl ⟨by rfl, ?_⟩) (hS := hHeld) (h := ?_)
   rotate_left
   ·intro w hSw
    try dsimp only at hSw
    go_simp
    all_goals with_reducible rfl
   try simp only [Act.put, List.setIfInBounds_toArray, List.set_cons_zero, List.set_cons_succ]
   refine tk (i := 29) (v := ?_) (hy := Or.inl ⟨by rfl, ?_⟩) (hS := hHeld) (h := ?_)
   rotate_left
   ·intro w hSw
    try dsimp only at hSw
    go_simp
    all_goals with_reducible rfl
   try simp only [Act.put, List.setIfInBounds_toArray, List.set_cons_zero, List.set_cons_succ]
   refine wpAnyH_calm (by kernel_rfl) ?_ _
   clear hHeld cB cL cLe cHa
   go_wp2_with fail
   refine wp_region_calm (S := (fun _ => True)) (by kernel_rfl) trivial (fun hHeld => ?_)
   refine tk (i := 0) (v := ?_) (hy := Or.inl ⟨by rfl, ?_⟩) (hS := hHeld) (h := ?_)
   rotate_left
   ·intro w hSw
    try dsimp only at hSw
    go_simp
    all_goals with_reducible rfl
   try simp only [Act.put, List.setIfInBounds_toArray, List.set_cons_zero, List.set_cons_succ]
   refine tk (i := 1) (v := ?_) (hy := Or.inl ⟨by rfl, ?_⟩) (hS := hHeld) (h := ?_)
   rotate_left
   ·intro w hSw
    try dsimp only at hSw
    go_simp
    all_goals with_reducible rfl
   try simp only [Act.put, List.setIfInBounds_toArray, List.set_cons_zero, List.set_cons_succ]
   refine tk (i := 2) (v := ?_) (hy := Or.inl ⟨by rfl, ?_⟩) (hS := hHeld) (h := ?_)
   rotate_left
   ·intro w hSw
    try dsimp only at hSw
    go_simp
    all_goals with_reducible rfl
   try simp only [Act.put, List.setIfInBounds_toArray, List.set_cons_zero, List.set_cons_succ]
   refine wpAnyH_take (i := 3) (v := ?_) (by simp only [List.getElem?_toArray, List.getElem?_cons_succ, List.getElem?_cons_zero]; rfl) (by kernel_rfl) (by kernel_rfl) (by kernel_rfl) (by exact fun _ _ _ h => h) (Or.inr ⟨by rfl, by rfl⟩) hHeld ?_
   try simp only [Act.put, List.setIfInBounds_toArray, List.set_cons_zero, List.set_cons_succ]
   refine wpAnyH_take (i := 4) (v := ?_) (by simp only [List.getElem?_toArray, List.getElem?_cons_succ, List.getElem?_cons_zero]; rfl) (by kernel_rfl) (by kernel_rfl) (by kernel_rfl) (by exact fun _ _ _ h => h) (Or.inr ⟨by rfl, by rfl⟩) hHeld ?_
   try simp only [Act.put, List.setIfInBounds_toArray, List.set_cons_zero, List.set_cons_succ]
   refine wpAnyH_take (i := 5) (v := ?_) (by simp only [List.getElem?_toArray, List.getElem?_cons_succ, List.getElem?_cons_zero]; rfl) (by kernel_rfl) (by kernel_rfl) (by kernel_rfl) (by exact fun _ _ _ h => h) (Or.inr ⟨by rfl, by rfl⟩) hHeld ?_
   try simp only [Act.put, List.setIfInBounds_toArray, List.set_cons_zero, List.set_cons_succ]
   refine wpAnyH_take (i := 6) (v := ?_) (by simp only [List.getElem?_toArray, List.getElem?_cons_succ, List.getElem?_cons_zero]; rfl) (by kernel_rfl) (by kernel_rfl) (by kernel_rfl) (by exact fun _ _ _ h => h) (Or.inr ⟨by rfl, by rfl⟩) hHeld ?_
   try simp only [Act.put, List.setIfInBounds_toArray, List.set_cons_zero, List.set_cons_succ]
   refine wpAnyH_take (i := 7) (v := ?_) (by simp only [List.getElem?_toArray, List.getElem?_cons_succ, List.getElem?_cons_zero]; rfl) (by kernel_rfl) (by kernel_rfl) (by kernel_rfl) (by exact fun _ _ _ h => h) (Or.inr ⟨by rfl, by rfl⟩) hHeld ?_
   try simp only [Act.put, List.setIfInBounds_toArray, List.set_cons_zero, List.set_cons_succ]
   refine wpAnyH_take (i := 8) (v := ?_) (by simp only [List.getElem?_toArray, List.getElem?_cons_succ, List.getElem?_cons_zero]; rfl) (by kernel_rfl) (by kernel_rfl) (by kernel_rfl) (by exact fun _ _ _ h => h) (Or.inr ⟨by rfl, by rfl⟩) hHeld ?_
   try simp only [Act.put, List.setIfInBounds_toArray, List.set_cons_zero, List.set_cons_succ]
   refine wpAnyH_take (i := 9) (v := ?_) (by simp only [List.getElem?_toArray, List.getElem?_cons_succ, List.getElem?_cons_zero]; rfl) (by kernel_rfl) (by kernel_rfl) (by kernel_rfl) (by exact fun _ _ _ h => h) (Or.inr ⟨by rfl, by rfl⟩) hHeld ?_
   try simp only [Act.put, List.setIfInBounds_toArray, List.set_cons_zero, List.set_cons_succ]
   refine wpAnyH_take (i := 10) (v := ?_) (by simp only [List.getElem?_toArray, List.getElem?_cons_succ, List.getElem?_cons_zero]; rfl) (by kernel_rfl) (by kernel_rfl) (by kernel_rfl) (by exact fun _ _ _ h => h) (Or.inr ⟨by rfl, by rfl⟩) hHeld ?_
   try simp only [Act.put, List.setIfInBounds_toArray, List.set_cons_zero, List.set_cons_succ]
   refine wpAnyH_take (i := 11) (v := ?_) (by simp only [List.getElem?_toArray, List.getElem?_cons_succ, List.getElem?_cons_zero]; rfl) (by kernel_rfl) (by kernel_rfl) (by kernel_rfl) (by exact fun _ _ _ h => h) (Or.inr ⟨by rfl, by rfl⟩) hHeld ?_
   try simp only [Act.put, List.setIfInBounds_toArray, List.set_cons_zero, List.set_cons_succ]
   refine wpAnyH_take (i := 12) (v := ?_) (by simp only [List.getElem?_toArray, List.getElem?_cons_succ, List.getElem?_cons_zero]; rfl) (by kernel_rfl) (by kernel_rfl) (by kernel_rfl) (by exact fun _ _ _ h => h) (Or.inr ⟨by rfl, by rfl⟩) hHeld ?_
   try simp only [Act.put, List.setIfInBounds_toArray, List.set_cons_zero, List.set_cons_succ]
   refine wpAnyH_take (i := 13) (v := ?_) (by simp only [List.getElem?_toArray, List.getElem?_cons_succ, List.getElem?_cons_zero]; rfl) (by kernel_rfl) (by kernel_rfl) (by kernel_rfl) (by exact fun _ _ _ h => h) (Or.inr ⟨by rfl, by rfl⟩) hHeld ?_
   try simp only [Act.put, List.setIfInBounds_toArray, List.set_cons_zero, List.set_cons_succ]
   refine wpAnyH_take (i := 14) (v := ?_) (by simp only [List.getElem?_toArray, List.getElem?_cons_succ, List.getElem?_cons_zero]; rfl) (by kernel_rfl) (by kernel_rfl) (by kernel_rfl) (by exact fun _ _ _ h => h) (Or.inr ⟨by rfl, by rfl⟩) hHeld ?_
   try simp only [Act.put, List.setIfInBounds_toArray, List.set_cons_zero, List.set_cons_succ]
   refine wpAnyH_take (i := 15) (v := ?_) (by simp only [List.getElem?_toArray, List.getElem?_cons_succ, List.getElem?_cons_zero]; rfl) (by kernel_rfl) (by kernel_rfl) (by kernel_rfl) (by exact fun _ _ _ h => h) (Or.inr ⟨by rfl, by rfl⟩) hHeld ?_
   try simp only [Act.put, List.setIfInBounds_toArray, List.set_cons_zero, List.set_cons_succ]
   refine wpAnyH_take (i := 16) (v := ?_) (by simp only [List.getElem?_toArray, List.getElem?_cons_succ, List.getElem?_cons_zero]; rfl) (by kernel_rfl) (by kernel_rfl) (by kernel_rfl) (by exact fun _ _ _ h => h) (Or.inr ⟨by rfl, by rfl⟩) hHeld ?_
   try simp only [Act.put, List.setIfInBounds_toArray, List.set_cons_zero, List.set_cons_succ]
   refine wpAnyH_take (i := 17) (v := ?_) (by simp only [List.getElem?_toArray, List.getElem?_cons_succ, List.getElem?_cons_zero]; rfl) (by kernel_rfl) (by kernel_rfl) (by kernel_rfl) (by exact fun _ _ _ h => h) (Or.inr ⟨by rfl, by rfl⟩) hHeld ?_
   try simp only [Act.put, List.setIfInBounds_toArray, List.set_cons_zero, List.set_cons_succ]
   refine wpAnyH_take (i := 18) (v := ?_) (by simp only [List.getElem?_toArray, List.getElem?_cons_succ, List.getElem?_cons_zero]; rfl) (by kernel_rfl) (by kernel_rfl) (by kernel_rfl) (by exact fun _ _ _ h => h) (Or.inr ⟨by rfl, by rfl⟩) hHeld ?_
   try simp only [Act.put, List.setIfInBounds_toArray, List.set_cons_zero, List.set_cons_succ]
   refine wpAnyH_take (i := 19) (v := ?_) (by simp only [List.getElem?_toArray, List.getElem?_cons_succ, List.getElem?_cons_zero]; rfl) (by kernel_rfl) (by kernel_rfl) (by kernel_rfl) (by exact fun _ _ _ h => h) (Or.inr ⟨by rfl, by rfl⟩) hHeld ?_
   try simp only [Act.put, List.setIfInBounds_toArray, List.set_cons_zero, List.set_cons_succ]
   refine wpAnyH_take (i := 20) (v := ?_) (by simp only [List.getElem?_toArray, List.getElem?_cons_succ, List.getElem?_cons_zero]; rfl) (by kernel_rfl) (by kernel_rfl) (by kernel_rfl) (by exact fun _ _ _ h => h) (Or.inr ⟨by rfl, by rfl⟩) hHeld ?_
   try simp only [Act.put, List.setIfInBounds_toArray, List.set_cons_zero, List.set_cons_succ]
   refine wpAnyH_take (i := 21) (v := ?_) (by simp only [List.getElem?_toArray, List.getElem?_cons_succ, List.getElem?_cons_zero]; rfl) (by kernel_rfl) (by kernel_rfl) (by kernel_rfl) (by exact fun _ _ _ h => h) (Or.inr ⟨by rfl, by rfl⟩) hHeld ?_
   try simp only [Act.put, List.setIfInBounds_toArray, List.set_cons_zero, List.set_cons_succ]
   refine wpAnyH_take (i := 22) (v := ?_) (by simp only [List.getElem?_toArray, List.getElem?_cons_succ, List.getElem?_cons_zero]; rfl) (by kernel_rfl) (by kernel_rfl) (by kernel_rfl) (by exact fun _ _ _ h => h) (Or.inr ⟨by rfl, by rfl⟩) hHeld ?_
   try simp only [Act.put, List.setIfInBounds_toArray, List.set_cons_zero, List.set_cons_succ]
   refine wpAnyH_take (i := 23) (v := ?_) (by simp only [List.getElem?_toArray, List.getElem?_cons_succ, List.getElem?_cons_zero]; rfl) (by kernel_rfl) (by kernel_rfl) (by kernel_rfl) (by exact fun _ _ _ h => h) (Or.inr ⟨by rfl, by rfl⟩) hHeld ?_
   try simp only [Act.put, List.setIfInBounds_toArray, List.set_cons_zero, List.set_cons_succ]
   refine wpAnyH_take (i := 24) (v := ?_) (by simp only [List.getElem?_toArray, List.getElem?_cons_succ, List.getElem?_cons_zero]; rfl) (by kernel_rfl) (by kernel_rfl) (by kernel_rfl) (by exact fun _ _ _ h => h) (Or.inr ⟨by rfl, by rfl⟩) hHeld ?_
   try simp only [Act.put, List.setIfInBounds_toArray, List.set_cons_zero, List.set_cons_succ]
   refine wpAnyH_take (i := 25) (v := ?_) (by simp only [List.getElem?_toArray, List.getElem?_cons_succ, List.getElem?_cons_zero]; rfl) (by kernel_rfl) (by kernel_rfl) (by kernel_rfl) (by exact fun _ _ _ h => h) (Or.inr ⟨by rfl, by rfl⟩) hHeld ?_
   try simp only [Act.put, List.setIfInBounds_toArray, List.set_cons_zero, List.set_cons_succ]
   refine wpAnyH_take (i := 26) (v := ?_) (by simp only [List.getElem?_toArray, List.getElem?_cons_succ, List.getElem?_cons_zero]; rfl) (by kernel_rfl) (by kernel_rfl) (by kernel_rfl) (by exact fun _ _ _ h => h) (Or.inr ⟨by rfl, by rfl⟩) hHeld ?_
   try simp only [Act.put, List.setIfInBounds_toArray, List.set_cons_zero, List.set_cons_succ]
   refine wpAnyH_take (i := 27) (v := ?_) (by simp only [List.getElem?_toArray, List.getElem?_cons_succ, List.getElem?_cons_zero]; rfl) (by kernel_rfl) (by kernel_rfl) (by kernel_rfl) (by exact fun _ _ _ h => h) (Or.inr ⟨by rfl, by rfl⟩) hHeld ?_
   try simp only [Act.put, List.setIfInBounds_toArray, List.set_cons_zero, List.set_cons_succ]
   refine wpAnyH_take (i := 28) (v := ?_) (by simp only [List.getElem?_toArray, List.getElem?_cons_succ, List.getElem?_cons_zero]; rfl) (by kernel_rfl) (by kernel_rfl) (by kernel_rfl) (by exact fun _ _ _ h => h) (Or.inr ⟨by rfl, by rfl⟩) hHeld ?_
   try simp only [Act.put, List.setIfInBounds_toArray, List.set_cons_zero, List.set_cons_succ]
   refine wpAnyH_take (i := 29) (v := ?_) (by simp only [List.getElem?_toArray, List.getElem?_cons_succ, List.getElem?_cons_zero]; rfl) (by kernel_rfl) (by kernel_rfl) (by kernel_rfl) (by exact fun _ _ _ h => h) (Or.inr ⟨by rfl, by rfl⟩) hHeld ?_
   try simp only [Act.put, List.setIfInBounds_toArray, List.set_cons_zero, List.set_cons_succ]
   refine wpAnyH_take (i := 30) (v := ?_) (by simp only [List.getElem?_toArray, List.getElem?_cons_succ, List.getElem?_cons_zero]; rfl) (by kernel_rfl) (by kernel_rfl) (by kernel_rfl) (by exact fun _ _ _ h => h) (Or.inr ⟨by rfl, by rfl⟩) hHeld ?_
   try simp only [Act.put, List.setIfInBounds_toArray, List.set_cons_zero, List.set_cons_succ]
   refine wpAnyH_take (i := 31) (v := ?_) (by simp only [List.getElem?_toArray, List.getElem?_cons_succ, List.getElem?_cons_zero]; rfl) (by kernel_rfl) (by kernel_rfl) (by kernel_rfl) (by exact fun _ _ _ h => h) (Or.inr ⟨by rfl, by rfl⟩) hHeld ?_
   try simp only [Act.put, List.setIfInBounds_toArray, List.set_cons_zero, List.set_cons_succ]
   refine wpAnyH_take (i := 32) (v := ?_) (by simp only [List.getElem?_toArray, List.getElem?_cons_succ, List.getElem?_cons_zero]; rfl) (by kernel_rfl) (by kernel_rfl) (by kernel_rfl) (by exact fun _ _ _ h => h) (Or.inr ⟨by rfl, by rfl⟩) hHeld ?_
   try simp only [Act.put, List.setIfInBounds_toArray, List.set_cons_zero, List.set_cons_succ]
   refine wpAnyH_take (i := 33) (v := ?_) (by simp only [List.getElem?_toArray, List.getElem?_cons_succ, List.getElem?_cons_zero]; rfl) (by kernel_rfl) (by kernel_rfl) (by kernel_rfl) (by exact fun _ _ _ h => h) (Or.inr ⟨by rfl, by rfl⟩) hHeld ?_
   try simp only [Act.put, List.setIfInBounds_toArray, List.set_cons_zero, List.set_cons_succ]
   refine wpAnyH_take (i := 34) (v := ?_) (by simp only [List.getElem?_toArray, List.getElem?_cons_succ, List.getElem?_cons_zero]; rfl) (by kernel_rfl) (by kernel_rfl) (by kernel_rfl) (by exact fun _ _ _ h => h) (Or.inr ⟨by rfl, by rfl⟩) hHeld ?_
   try simp only [Act.put, List.setIfInBounds_toArray, List.set_cons_zero, List.set_cons_succ]
   refine wpAnyH_take (i := 35) (v := ?_) (by simp only [List.getElem?_toArray, List.getElem?_cons_succ, List.getElem?_cons_zero]; rfl) (by kernel_rfl) (by kernel_rfl) (by kernel_rfl) (by exact fun _ _ _ h => h) (Or.inr ⟨by rfl, by rfl⟩) hHeld ?_
   try simp only [Act.put, List.setIfInBounds_toArray, List.set_cons_zero, List.set_cons_succ]
   refine wpAnyH_take (i := 36) (v := ?_) (by simp only [List.getElem?_toArray, List.getElem?_cons_succ, List.getElem?_cons_zero]; rfl) (by kernel_rfl) (by kernel_rfl) (by kernel_rfl) (by exact fun _ _ _ h => h) (Or.inr ⟨by rfl, by rfl⟩) hHeld ?_
   try simp only [Act.put, List.setIfInBounds_toArray, List.set_cons_zero, List.set_cons_succ]
   refine wpAnyH_take (i := 37) (v := ?_) (by simp only [List.getElem?_toArray, List.getElem?_cons_succ, List.getElem?_cons_zero]; rfl) (by kernel_rfl) (by kernel_rfl) (by kernel_rfl) (by exact fun _ _ _ h => h) (Or.inr ⟨by rfl, by rfl⟩) hHeld ?_
   try simp only [Act.put, List.setIfInBounds_toArray, List.set_cons_zero, List.set_cons_succ]
   refine wpAnyH_take (i := 38) (v := ?_) (by simp only [List.getElem?_toArray, List.getElem?_cons_succ, List.getElem?_cons_zero]; rfl) (by kernel_rfl) (by kernel_rfl) (by kernel_rfl) (by exact fun _ _ _ h => h) (Or.inr ⟨by rfl, by rfl⟩) hHeld ?_
   try simp only [Act.put, List.setIfInBounds_toArray, List.set_cons_zero, List.set_cons_succ]
   refine wpAnyH_take (i := 39) (v := ?_) (by simp only [List.getElem?_toArray, List.getElem?_cons_succ, List.getElem?_cons_zero]; rfl) (by kernel_rfl) (by kernel_rfl) (by kernel_rfl) (by exact fun _ _ _ h => h) (Or.inr ⟨by rfl, by rfl⟩) hHeld ?_
   try simp only [Act.put, List.setIfInBounds_toArray, List.set_cons_zero, List.set_cons_succ]
   refine wpAnyH_take (i := 40) (v := ?_) (by simp only [List.getElem?_toArray, List.getElem?_cons_succ, List.getElem?_cons_zero]; rfl) (by kernel_rfl) (by kernel_rfl) (by kernel_rfl) (by exact fun _ _ _ h => h) (Or.inr ⟨by rfl, by rfl⟩) hHeld ?_
   try simp only [Act.put, List.setIfInBounds_toArray, List.set_cons_zero, List.set_cons_succ]
   refine wpAnyH_take (i := 41) (v := ?_) (by simp only [List.getElem?_toArray, List.getElem?_cons_succ, List.getElem?_cons_zero]; rfl) (by kernel_rfl) (by kernel_rfl) (by kernel_rfl) (by exact fun _ _ _ h => h) (Or.inr ⟨by rfl, by rfl⟩) hHeld ?_
   try simp only [Act.put, List.setIfInBounds_toArray, List.set_cons_zero, List.set_cons_succ]
   refine wpAnyH_take (i := 42) (v := ?_) (by simp only [List.getElem?_toArray, List.getElem?_cons_succ, List.getElem?_cons_zero]; rfl) (by kernel_rfl) (by kernel_rfl) (by kernel_rfl) (by exact fun _ _ _ h => h) (Or.inr ⟨by rfl, by rfl⟩) hHeld ?_
   try simp only [Act.put, List.setIfInBounds_toArray, List.set_cons_zero, List.set_cons_succ]
   refine wpAnyH_take (i := 43) (v := ?_) (by simp only [List.getElem?_toArray, List.getElem?_cons_succ, List.getElem?_cons_zero]; rfl) (by kernel_rfl) (by kernel_rfl) (by kernel_rfl) (by exact fun _ _ _ h => h) (Or.inr ⟨by rfl, by rfl⟩) hHeld ?_
   try simp only [Act.put, List.setIfInBounds_toArray, List.set_cons_zero, List.set_cons_succ]
   refine tk (i := 44) (v := ?_) (hy := Or.inl ⟨by rfl, ?_⟩) (hS := hHeld) (h := ?_)
   rotate_left
   ·intro w hSw
    try dsimp only at hSw
    go_simp
    all_goals with_reducible rfl
   try simp only [Act.put, List.setIfInBounds_toArray, List.set_cons_zero, List.set_cons_succ]
   refine wpAnyH_calm (by kernel_rfl) ?_ _
   clear hHeld
   have hT6 := (hT5.next (Kept.drew [] w5))
   generalize w5.drew = wq at *
   obtain ⟨fp6, gp6, S6, G6, t6, hP6⟩ := hT6
   obtain ⟨c0, c1, c2, c3, c4, c5, c6, cf⟩ := pr13_cells hP6.head
   obtain ⟨Bx, cap, r0, hrl⟩ := rlen hP6.rv
   clear rlen
   go_wp2_with fail
   go_loopw [4] (fun i wr => TlRel12 wq N i wr) (fun i _ => N - (intOf i).toNat)
   case atStart => exact ⟨0, Nat.zero_le _, rfl, Kept.refl _ _⟩
   case round =>
    obtain ⟨q, hq, rfl, hkw⟩ := hrel
    have hPr := hP6.next hkw
    obtain ⟨x0, x1, x2, x3, x4, x5, x6, xf⟩ := pr13_cells hPr.head
    have rr := (hkw.cell (p := ⟨r, 0, none⟩) hrl (by simp)).trans r0
    by_cases hlt : q < N
    ·have i1 : (q : Int) < (N : Int) := by omega
     by_cases hd : d.dead = true
     ·have ha : d.at_ (q : Int) = 100 := by simp [Dev.at_, hd]
      have cr1 := read_bad hPr.dv (q : Int) (by rw [ha]; decide)
      have cr2 := rv_read_bad hPr.rv (q : Int) (by rw [ha]; decide)
      rw [ha] at cr1 cr2
      have ce := eqb_true wr none none 0 0 0 0 [] (SlAt.nil _) (SlAt.nil _)
      clear ha hd
      go_wp2_with fail
      refine cr1.mono ?_
      rintro e w2 ⟨rfl, rfl⟩
      go_wp2_with fail
      refine cr2.mono ?_
      rintro e w2 ⟨rfl, rfl⟩
      go_wp2_with fail
      refine ce.mono ?_
      rintro e w2 ⟨rfl, k2⟩
      clear cr1 cr2 ce
      go_wp2_with fail
      go_roundw
      case rel => exact ⟨q + 1, by omega, by go_num, hkw.trans k2⟩
      case measure => simp [intOf]; omega
     ·have hd0 : d.dead = false := by simpa using hd
      obtain ⟨b, hb⟩ : ∃ b, d.secs[q]? = some b := ⟨_, List.getElem?_eq_getElem (by rw [HH.out]; exact hlt)⟩
      have cr1 := read_dv hPr.dv (q : Int) (at_live_ hd0 (by rw [HH.out]; exact hlt)) (b := b) (by rw [Int.toNat_natCast]; exact hb)
      have cr2 := fun W (hk : Kept [] wr W) => rv_read (hPr.next hk).rv (q : Int) (at_live_ hd0 (by rw [HH.out]; exact hlt)) (b := b) (by rw [Int.toNat_natCast]; exact hb)
      clear hd hd0 hb
      go_wp2_with fail
      refine cr1.mono ?_
      rintro e w2 ⟨A2, n2, rfl, hown2, hbel2⟩
      have hk2 := Kept.of_below (F := []) hbel2
      have hs2 := (ClonePost.sl hown2).1
      obtain ⟨y0, y1, y2, y3, y4, y5, y6, yf⟩ := pr13_cells (hPr.next hk2).head
      clear x0 x1 x2 x3 x4 x5 x6 xf rr hown2 hbel2
      go_wp2_with fail
      refine (cr2 _ hk2).mono ?_
      rintro e w3 ⟨A3, n3, rfl, hown3, hbel3⟩
      have hk3 := Kept.of_below (F := []) hbel3
      have hs3 := (ClonePost.sl hown3).1
      have ce := eqb_true w3 A2 A3 128 n2 128 n3 b (hs2.kept hk3 (by simp)) hs3
      clear cr1 cr2 hown3 hbel3
      go_wp2_with fail
      refine ce.mono ?_
      rintro e w4 ⟨rfl, k4⟩
      clear ce
      go_wp2_with fail
      go_roundw
      case rel => exact ⟨q + 1, by omega, by go_num, ((hkw.trans hk2).trans hk3).trans k4⟩
      case measure => simp [intOf]; omega
    ·have i1 : ¬ (q : Int) < (N : Int) := by omega
     go_wp2_with fail
     go_ret
     exact ⟨rfl, some s', ⟨_, _, _, _, _, _, _, hPr⟩, fun z hz => (by cases hz; exact hok2), hw0, hl9, hfI, hmI⟩
  | false =>
   have cw := hT.wrongR
   rw [if_neg (by rw [hwr]; decide), touch_no hwr] at cw
   have hfin := hok.wf.fin; have hth := hok.wf.there; have hstm := hok.stm
   have cB := fun W (hW : PrT w0 W p a r f m d s s y1 y2) => hW.tell (g := 10) (fun zs zt fp slp stp hS => spoolBroken_any hS)
   rw [hwr] at cB
   have cL := fun W (hW : PrT w0 W p a r f m d s s y1 y2) => hW.tell (g := 7) (fun zs zt fp slp stp hS => spoolLen_any hS hwr)
   have cLe := fun W (hW : PrT w0 W p a r f m d s s y1 y2) => hW.tell (g := 8) (fun zs zt fp slp stp hS => spoolLeft_any hS hwr (by omega) hfin)
   have cHa := fun W (hW : PrT w0 W p a r f m d s s y1 y2) => hW.tell (g := 9) (fun zs zt fp slp stp hS => spoolHalf_any hS hwr)
   rw [touch_no hwr] at cB cL cLe cHa
   have cRl := fun W (hW : PrT w0 W p a r f m d s s y1 y2) => hW.leftR (by omega) (by omega)
   rw [hstm] at cLe
   obtain ⟨lf, hlf⟩ : ∃ lf, 128 * (s.each : Int) - (s.st.fin : Int) = lf := ⟨_, rfl⟩
   simp only [hlf] at cLe cRl
   clear hlf hfin hth hstm hwr tt1 tt2 hS1 hR1 hj1 hj2 hP
   go_enter Tryz.func35, Tryz.ntmps35
   go_wp2_with fail
   refine cw.mono ?_
   rintro e w1 ⟨rfl, hT1⟩
   have k1 := (hT1.next (Kept.drew [] w1)).cells.1
   clear cw c0 c1 c2 c3 c4 c5 c6 cf
   go_wp2_with fail
   refine wp_region_calm (S := (fun W => W.cell? ⟨p, 3, none⟩ = some (.pointer (some ⟨y1, 0, none⟩)))) (by kernel_rfl) (by exact k1) (fun hHeld => ?_)
   refine tk (i := 0) (v := ?_) (hy := Or.inl ⟨by rfl, ?_⟩) (hS := hHeld) (h := ?_)
   rotate_left
   ·intro w hSw
    try dsimp only at hSw
    go_simp
    all_goals with_reducible rfl
   try simp only [Act.put, List.setIfInBounds_toArray, List.set_cons_zero, List.set_cons_succ]
   refine tk (i := 1) (v := ?_) (hy := Or.inl ⟨by rfl, ?_⟩) (hS := hHeld) (h := ?_)
   rotate_left
   ·intro w hSw
    try dsimp only at hSw
    go_simp
    all_goals with_reducible rfl
   try simp only [Act.put, List.setIfInBounds_toArray, List.set_cons_zero, List.set_cons_succ]
   refine tk (i := 2) (v := ?_) (hy := Or.inl ⟨by rfl, ?_⟩) (hS := hHeld) (h := ?_)
   rotate_left
   ·intro w hSw
    try dsimp only at hSw
    go_simp
    all_goals with_reducible rfl
   try simp only [Act.put, List.setIfInBounds_toArray, List.set_cons_zero, List.set_cons_succ]
   refine tk (i := 3) (v := ?_) (hy := Or.inl ⟨by rfl, ?_⟩) (hS := hHeld) (h := ?_)
   rotate_left
   ·intro w hSw
    try dsimp only at hSw
    have s0 := hSw
    go_simp
    all_goals with_reducible rfl
   try simp only [Act.put, List.setIfInBounds_toArray, List.set_cons_zero, List.set_cons_succ]
   refine tk (i := 5) (v := ?_) (hy := Or.inl ⟨by rfl, ?_⟩) (hS := hHeld) (h := ?_)
   rotate_left
   ·intro w hSw
    try dsimp only at hSw
    go_simp
    all_goals with_reducible rfl
   try simp only [Act.put, List.setIfInBounds_toArray, List.set_cons_zero, List.set_cons_succ]
   refine wpAnyH_ready (rs := [4]) (by kernel_rfl) (by simp) ?_
   refine AllReadyH.cons (by simp only [List.getElem?_toArray, List.getElem?_cons_succ, List.getElem?_cons_zero]; rfl) (fun K hK => ?_) AllReadyH.nil
   go_simp
   refine (cB _ (hT1.next (Kept.drew [] w1))).mono ?_
   rintro e w2 ⟨rfl, hT2⟩
   have k2 := hT2.cells.1
   go_wp2_with fail
   refine hK.out _ _ ?_ (fun hHeld2 => ?_)
   ·exact k2
   clear hK K hHeld
   have hHeld := hHeld2
   clear hHeld2
   try simp only [Act.put, List.setIfInBounds_toArray, List.set_cons_zero, List.set_cons_succ]
   refine tk (i := 6) (v := ?_) (hy := Or.inl ⟨by rfl, ?_⟩) (hS := hHeld) (h := ?_)
   rotate_left
   ·intro w hSw
    try dsimp only at hSw
    go_simp
    all_goals with_reducible rfl
   try simp only [Act.put, List.setIfInBounds_toArray, List.set_cons_zero, List.set_cons_succ]
   refine tk (i := 7) (v := ?_) (hy := Or.inl ⟨by rfl, ?_⟩) (hS := hHeld) (h := ?_)
   rotate_left
   ·intro w hSw
    try dsimp only at hSw
    go_simp
    all_goals with_reducible rfl
   try simp only [Act.put, List.setIfInBounds_toArray, List.set_cons_zero, List.set_cons_succ]
   refine tk (i := 8) (v := ?_) (hy := Or.inl ⟨by rfl, ?_⟩) (hS := hHeld) (h := ?_)
   rotate_left
   ·intro w hSw
    try dsimp only at hSw
    go_simp
    all_goals with_reducible rfl
   try simp only [Act.put, List.setIfInBounds_toArray, List.set_cons_zero, List.set_cons_succ]
   refine tk (i := 9) (v := ?_) (hy := Or.inl ⟨by rfl, ?_⟩) (hS := hHeld) (h := ?_)
   rotate_left
   ·intro w hSw
    try dsimp only at hSw
    go_simp
    all_goals with_reducible rfl
   try simp only [Act.put, List.setIfInBounds_toArray, List.set_cons_zero, List.set_cons_succ]
   refine wpAnyH_take (i := 10) (v := ?_) (by simp only [List.getElem?_toArray, List.getElem?_cons_succ, List.getElem?_cons_zero]; rfl) (by kernel_rfl) (by kernel_rfl) (by kernel_rfl) (by exact fun _ _ _ h => h) (Or.inr ⟨by rfl, by rfl⟩) hHeld ?_
   try simp only [Act.put, List.setIfInBounds_toArray, List.set_cons_zero, List.set_cons_succ]
   refine wpAnyH_take (i := 11) (v := ?_) (by simp only [List.getElem?_toArray, List.getElem?_cons_succ, List.getElem?_cons_zero]; rfl) (by kernel_rfl) (by kernel_rfl) (by kernel_rfl) (by exact fun _ _ _ h => h) (Or.inr ⟨by rfl, by rfl⟩) hHeld ?_
   try simp only [Act.put, List.setIfInBounds_toArray, List.set_cons_zero, List.set_cons_succ]
   refine wpAnyH_take (i := 12) (v := ?_) (by simp only [List.getElem?_toArray, List.getElem?_cons_succ, List.getElem?_cons_zero]; rfl) (by kernel_rfl) (by kernel_rfl) (by kernel_rfl) (by exact fun _ _ _ h => h) (Or.inr ⟨by rfl, by rfl⟩) hHeld ?_
   try simp only [Act.put, List.setIfInBounds_toArray, List.set_cons_zero, List.set_cons_succ]
   refine wpAnyH_take (i := 13) (v := ?_) (by simp only [List.getElem?_toArray, List.getElem?_cons_succ, List.getElem?_cons_zero]; rfl) (by kernel_rfl) (by kernel_rfl) (by kernel_rfl) (by exact fun _ _ _ h => h) (Or.inr ⟨by rfl, by rfl⟩) hHeld ?_
   try simp only [Act.put, List.setIfInBounds_toArray, List.set_cons_zero, List.set_cons_succ]
   refine wpAnyH_take (i := 14) (v := ?_) (by simp only [List.getElem?_toArray, List.getElem?_cons_succ, List.getElem?_cons_zero]; rfl) (by kernel_rfl) (by kernel_rfl) (by kernel_rfl) (by exact fun _ _ _ h => h) (Or.inr ⟨by rfl, by rfl⟩) hHeld ?_
   try simp only [Act.put, List.setIfInBounds_toArray, List.set_cons_zero, List.set_cons_succ]
   refine wpAnyH_take (i := 15) (v := ?_) (by simp only [List.getElem?_toArray, List.getElem?_cons_succ, List.getElem?_cons_zero]; rfl) (by kernel_rfl) (by kernel_rfl) (by kernel_rfl) (by exact fun _ _ _ h => h) (Or.inr ⟨by rfl, by rfl⟩) hHeld ?_
   try simp only [Act.put, List.setIfInBounds_toArray, List.set_cons_zero, List.set_cons_succ]
   refine wpAnyH_take (i := 16) (v := ?_) (by simp only [List.getElem?_toArray, List.getElem?_cons_succ, List.getElem?_cons_zero]; rfl) (by kernel_rfl) (by kernel_rfl) (by kernel_rfl) (by exact fun _ _ _ h => h) (Or.inr ⟨by rfl, by rfl⟩) hHeld ?_
   try simp only [Act.put, List.setIfInBounds_toArray, List.set_cons_zero, List.set_cons_succ]
   refine wpAnyH_take (i := 17) (v := ?_) (by simp only [List.getElem?_toArray, List.getElem?_cons_succ, List.getElem?_cons_zero]; rfl) (by kernel_rfl) (by kernel_rfl) (by kernel_rfl) (by exact fun _ _ _ h => h) (Or.inr ⟨by rfl, by rfl⟩) hHeld ?_
   try simp only [Act.put, List.setIfInBounds_toArray, List.set_cons_zero, List.set_cons_succ]
   refine wpAnyH_take (i := 18) (v := ?_) (by simp only [List.getElem?_toArray, List.getElem?_cons_succ, List.getElem?_cons_zero]; rfl) (by kernel_rfl) (by kernel_rfl) (by kernel_rfl) (by exact fun _ _ _ h => h) (Or.inr ⟨by rfl, by rfl⟩) hHeld ?_
   try simp only [Act.put, List.setIfInBounds_toArray, List.set_cons_zero, List.set_cons_succ]
   refine wpAnyH_take (i := 19) (v := ?_) (by simp only [List.getElem?_toArray, List.getElem?_cons_succ, List.getElem?_cons_zero]; rfl) (by kernel_rfl) (by kernel_rfl) (by kernel_rfl) (by exact fun _ _ _ h => h) (Or.inr ⟨by rfl, by rfl⟩) hHeld ?_
   try simp only [Act.put, List.setIfInBounds_toArray, List.set_cons_zero, List.set_cons_succ]
   refine wpAnyH_take (i := 20) (v := ?_) (by simp only [List.getElem?_toArray, List.getElem?_cons_succ, List.getElem?_cons_zero]; rfl) (by kernel_rfl) (by kernel_rfl) (by kernel_rfl) (by exact fun _ _ _ h => h) (Or.inr ⟨by rfl, by rfl⟩) hHeld ?_
   try simp only [Act.put, List.setIfInBounds_toArray, List.set_cons_zero, List.set_cons_succ]
   refine wpAnyH_take (i := 21) (v := ?_) (by simp only [List.getElem?_toArray, List.getElem?_cons_succ, List.getElem?_cons_zero]; rfl) (by kernel_rfl) (by kernel_rfl) (by kernel_rfl) (by exact fun _ _ _ h => h) (Or.inr ⟨by rfl, by rfl⟩) hHeld ?_
   try simp only [Act.put, List.setIfInBounds_toArray, List.set_cons_zero, List.set_cons_succ]
   refine wpAnyH_take (i := 22) (v := ?_) (by simp only [List.getElem?_toArray, List.getElem?_cons_succ, List.getElem?_cons_zero]; rfl) (by kernel_rfl) (by kernel_rfl) (by kernel_rfl) (by exact fun _ _ _ h => h) (Or.inr ⟨by rfl, by rfl⟩) hHeld ?_
   try simp only [Act.put, List.setIfInBounds_toArray, List.set_cons_zero, List.set_cons_succ]
   refine wpAnyH_take (i := 23) (v := ?_) (by simp only [List.getElem?_toArray, List.getElem?_cons_succ, List.getElem?_cons_zero]; rfl) (by kernel_rfl) (by kernel_rfl) (by kernel_rfl) (by exact fun _ _ _ h => h) (Or.inr ⟨by rfl, by rfl⟩) hHeld ?_
   try simp only [Act.put, List.setIfInBounds_toArray, List.set_cons_zero, List.set_cons_succ]
   refine wpAnyH_take (i := 24) (v := ?_) (by simp only [List.getElem?_toArray, List.getElem?_cons_succ, List.getElem?_cons_zero]; rfl) (by kernel_rfl) (by kernel_rfl) (by kernel_rfl) (by exact fun _ _ _ h => h) (Or.inr ⟨by rfl, by rfl⟩) hHeld ?_
   try simp only [Act.put, List.setIfInBounds_toArray, List.set_cons_zero, List.set_cons_succ]
   refine wpAnyH_take (i := 25) (v := ?_) (by simp only [List.getElem?_toArray, List.getElem?_cons_succ, List.getElem?_cons_zero]; rfl) (by kernel_rfl) (by kernel_rfl) (by kernel_rfl) (by exact fun _ _ _ h => h) (Or.inr ⟨by rfl, by rfl⟩) hHeld ?_
   try simp only [Act.put, List.setIfInBounds_toArray, List.set_cons_zero, List.set_cons_succ]
   refine wpAnyH_take (i := 26) (v := ?_) (by simp only [List.getElem?_toArray, List.getElem?_cons_succ, List.getElem?_cons_zero]; rfl) (by kernel_rfl) (by kernel_rfl) (by kernel_rfl) (by exact fun _ _ _ h => h) (Or.inr ⟨by rfl, by rfl⟩) hHeld ?_
   try simp only [Act.put, List.setIfInBounds_toArray, List.set_cons_zero, List.set_cons_succ]
   refine wpAnyH_take (i := 27) (v := ?_) (by simp only [List.getElem?_toArray, List.getElem?_cons_succ, List.getElem?_cons_zero]; rfl) (by kernel_rfl) (by kernel_rfl) (by kernel_rfl) (by exact fun _ _ _ h => h) (Or.inr ⟨by rfl, by rfl⟩) hHeld ?_
   try simp only [Act.put, List.setIfInBounds_toArray, List.set_cons_zero, List.set_cons_succ]
   refine tk (i := 28) (v := ?_) (hy := Or.inl ⟨by rfl, ?_⟩) (hS := hHeld) (h := ?_)
   rotate_left
   ·intro w hSw
    try dsimp only at hSw
    go_simp
    all_goals with_reducible rfl
   try simp only [Act.put, List.setIfInBounds_toArray, List.set_cons_zero, List.set_cons_succ]
   refine tk (i := 29) (v := ?_) (hy := Or.inl ⟨by rfl, ?_⟩) (hS := hHeld) (h := ?_)
   rotate_left
   ·intro w hSw
    try dsimp only at hSw
    go_simp
    all_goals with_reducible rfl
   try simp only [Act.put, List.setIfInBounds_toArray, List.set_cons_zero, List.set_cons_succ]
   refine wpAnyH_calm (by kernel_rfl) ?_ _
   clear hHeld cB
   have kk := (hT2.next (Kept.drew [] w2)).cells
   go_wp2_with fail
   refine wp_region_calm (S := (fun W => W.cell? ⟨p, 3, none⟩ = some (.pointer (some ⟨y1, 0, none⟩)) ∧ W.cell? ⟨p, 5, none⟩ = some (.pointer (some ⟨y2, 0, none⟩)) ∧ W.cell? ⟨y2, 6, none⟩ = some (.int .i64 s.many) ∧ W.cell? ⟨y2, 5, none⟩ = some (.int .i64 s.half))) (by kernel_rfl) (by exact kk) (fun hHeld => ?_)
   refine tk (i := 0) (v := ?_) (hy := Or.inl ⟨by rfl, ?_⟩) (hS := hHeld) (h := ?_)
   rotate_left
   ·intro w hSw
    try dsimp only at hSw
    go_simp
    all_goals with_reducible rfl
   try simp only [Act.put, List.setIfInBounds_toArray, List.set_cons_zero, List.set_cons_succ]
   refine tk (i := 1) (v := ?_) (hy := Or.inl ⟨by rfl, ?_⟩) (hS := hHeld) (h := ?_)
   rotate_left
   ·intro w hSw
    try dsimp only at hSw
    go_simp
    all_goals with_reducible rfl
   try simp only [Act.put, List.setIfInBounds_toArray, List.set_cons_zero, List.set_cons_succ]
   refine tk (i := 2) (v := ?_) (hy := Or.inl ⟨by rfl, ?_⟩) (hS := hHeld) (h := ?_)
   rotate_left
   ·intro w hSw
    try dsimp only at hSw
    go_simp
    all_goals with_reducible rfl
   try simp only [Act.put, List.setIfInBounds_toArray, List.set_cons_zero, List.set_cons_succ]
   refine tk (i := 3) (v := ?_) (hy := Or.inl ⟨by rfl, ?_⟩) (hS := hHeld) (h := ?_)
   rotate_left
   ·intro w hSw
    try dsimp only at hSw
    go_simp
    all_goals with_reducible rfl
   try simp only [Act.put, List.setIfInBounds_toArray, List.set_cons_zero, List.set_cons_succ]
   refine tk (i := 4) (v := ?_) (hy := Or.inl ⟨by rfl, ?_⟩) (hS := hHeld) (h := ?_)
   rotate_left
   ·intro w hSw
    try dsimp only at hSw
    go_simp
    all_goals with_reducible rfl
   try simp only [Act.put, List.setIfInBounds_toArray, List.set_cons_zero, List.set_cons_succ]
   refine tk (i := 5) (v := ?_) (hy := Or.inl ⟨by rfl, ?_⟩) (hS := hHeld) (h := ?_)
   rotate_left
   ·intro w hSw
    try dsimp only at hSw
    go_simp
    all_goals with_reducible rfl
   try simp only [Act.put, List.setIfInBounds_toArray, List.set_cons_zero, List.set_cons_succ]
   refine tk (i := 6) (v := ?_) (hy := Or.inl ⟨by rfl, ?_⟩) (hS := hHeld) (h := ?_)
   rotate_left
   ·intro w hSw
    try dsimp only at hSw
    obtain ⟨s0, s1, s2, s3⟩ := hSw
    go_simp
    all_goals with_reducible rfl
   try simp only [Act.put, List.setIfInBounds_toArray, List.set_cons_zero, List.set_cons_succ]
   refine tk (i := 8) (v := ?_) (hy := Or.inl ⟨by rfl, ?_⟩) (hS := hHeld) (h := ?_)
   rotate_left
   ·intro w hSw
    try dsimp only at hSw
    go_simp
    all_goals with_reducible rfl
   try simp only [Act.put, List.setIfInBounds_toArray, List.set_cons_zero, List.set_cons_succ]
   refine tk (i := 9) (v := ?_) (hy := Or.inl ⟨by rfl, ?_⟩) (hS := hHeld) (h := ?_)
   rotate_left
   ·intro w hSw
    try dsimp only at hSw
    go_simp
    all_goals with_reducible rfl
   try simp only [Act.put, List.setIfInBounds_toArray, List.set_cons_zero, List.set_cons_succ]
   refine tk (i := 10) (v := ?_) (hy := Or.inl ⟨by rfl, ?_⟩) (hS := hHeld) (h := ?_)
   rotate_left
   ·intro w hSw
    try dsimp only at hSw
    go_simp
    all_goals with_reducible rfl
   try simp only [Act.put, List.setIfInBounds_toArray, List.set_cons_zero, List.set_cons_succ]
   refine tk (i := 11) (v := ?_) (hy := Or.inl ⟨by rfl, ?_⟩) (hS := hHeld) (h := ?_)
   rotate_left
   ·intro w hSw
    try dsimp only at hSw
    obtain ⟨s0, s1, s2, s3⟩ := hSw
    go_simp
    all_goals with_reducible rfl
   try simp only [Act.put, List.setIfInBounds_toArray, List.set_cons_zero, List.set_cons_succ]
   refine tk (i := 12) (v := ?_) (hy := Or.inl ⟨by rfl, ?_⟩) (hS := hHeld) (h := ?_)
   rotate_left
   ·intro w hSw
    try dsimp only at hSw
    go_simp
    all_goals with_reducible rfl
   try simp only [Act.put, List.setIfInBounds_toArray, List.set_cons_zero, List.set_cons_succ]
   refine tk (i := 13) (v := ?_) (hy := Or.inl ⟨by rfl, ?_⟩) (hS := hHeld) (h := ?_)
   rotate_left
   ·intro w hSw
    try dsimp only at hSw
    go_simp
    all_goals with_reducible rfl
   try simp only [Act.put, List.setIfInBounds_toArray, List.set_cons_zero, List.set_cons_succ]
   refine tk (i := 14) (v := ?_) (hy := Or.inl ⟨by rfl, ?_⟩) (hS := hHeld) (h := ?_)
   rotate_left
   ·intro w hSw
    try dsimp only at hSw
    obtain ⟨s0, s1, s2, s3⟩ := hSw
    go_simp
    all_goals with_reducible rfl
   try simp only [Act.put, List.setIfInBounds_toArray, List.set_cons_zero, List.set_cons_succ]
   refine wpAnyH_ready (rs := [7]) (by kernel_rfl) (by simp) ?_
   refine AllReadyH.cons (by simp only [List.getElem?_toArray, List.getElem?_cons_succ, List.getElem?_cons_zero]; rfl) (fun K hK => ?_) AllReadyH.nil
   go_simp
   refine (cL _ (hT2.next (Kept.drew [] w2))).mono ?_
   rintro e w3 ⟨rfl, hT3⟩
   have k3 := hT3.cells
   go_wp2_with fail
   refine hK.out _ _ ?_ (fun hHeld2 => ?_)
   ·exact k3
   clear hK K hHeld
   have hHeld := hHeld2
   clear hHeld2
   try simp only [Act.put, List.setIfInBounds_toArray, List.set_cons_zero, List.set_cons_succ]
   refine tk (i := 15) (v := ?_) (hy := Or.inl ⟨by rfl, ?_⟩) (hS := hHeld) (h := ?_)
   rotate_left
   ·intro w hSw
    try dsimp only at hSw
    go_simp
    all_goals with_reducible rfl
   try simp only [Act.put, List.setIfInBounds_toArray, List.set_cons_zero, List.set_cons_succ]
   refine tk (i := 16) (v := ?_) (hy := Or.inl ⟨by rfl, ?_⟩) (hS := hHeld) (h := ?_)
   rotate_left
   ·intro w hSw
    try dsimp only at hSw
    go_simp
    all_goals with_reducible rfl
   try simp only [Act.put, List.setIfInBounds_toArray, List.set_cons_zero, List.set_cons_succ]
   refine tk (i := 17) (v := ?_) (hy := Or.inl ⟨by rfl, ?_⟩) (hS := hHeld) (h := ?_)
   rotate_left
   ·intro w hSw
    try dsimp only at hSw
    go_simp
    all_goals with_reducible rfl
   try simp only [Act.put, List.setIfInBounds_toArray, List.set_cons_zero, List.set_cons_succ]
   refine tk (i := 18) (v := ?_) (hy := Or.inl ⟨by rfl, ?_⟩) (hS := hHeld) (h := ?_)
   rotate_left
   ·intro w hSw
    try dsimp only at hSw
    go_simp
    all_goals with_reducible rfl
   try simp only [Act.put, List.setIfInBounds_toArray, List.set_cons_zero, List.set_cons_succ]
   refine tk (i := 19) (v := ?_) (hy := Or.inl ⟨by rfl, ?_⟩) (hS := hHeld) (h := ?_)
   rotate_left
   ·intro w hSw
    try dsimp only at hSw
    go_simp
    all_goals with_reducible rfl
   try simp only [Act.put, List.setIfInBounds_toArray, List.set_cons_zero, List.set_cons_succ]
   refine tk (i := 20) (v := ?_) (hy := Or.inl ⟨by rfl, ?_⟩) (hS := hHeld) (h := ?_)
   rotate_left
   ·intro w hSw
    try dsimp only at hSw
    obtain ⟨s0, s1, s2, s3⟩ := hSw
    go_simp
    all_goals with_reducible rfl
   try simp only [Act.put, List.setIfInBounds_toArray, List.set_cons_zero, List.set_cons_succ]
   refine tk (i := 22) (v := ?_) (hy := Or.inl ⟨by rfl, ?_⟩) (hS := hHeld) (h := ?_)
   rotate_left
   ·intro w hSw
    try dsimp only at hSw
    go_simp
    all_goals with_reducible rfl
   try simp only [Act.put, List.setIfInBounds_toArray, List.set_cons_zero, List.set_cons_succ]
   refine tk (i := 23) (v := ?_) (hy := Or.inl ⟨by rfl, ?_⟩) (hS := hHeld) (h := ?_)
   rotate_left
   ·intro w hSw
    try dsimp only at hSw
    go_simp
    all_goals with_reducible rfl
   try simp only [Act.put, List.setIfInBounds_toArray, List.set_cons_zero, List.set_cons_succ]
   refine tk (i := 24) (v := ?_) (hy := Or.inl ⟨by rfl, ?_⟩) (hS := hHeld) (h := ?_)
   rotate_left
   ·intro w hSw
    try dsimp only at hSw
    go_simp
    all_goals with_reducible rfl
   try simp only [Act.put, List.setIfInBounds_toArray, List.set_cons_zero, List.set_cons_succ]
   refine tk (i := 25) (v := ?_) (hy := Or.inl ⟨by rfl, ?_⟩) (hS := hHeld) (h := ?_)
   rotate_left
   ·intro w hSw
    try dsimp only at hSw
    obtain ⟨s0, s1, s2, s3⟩ := hSw
    go_simp
    all_goals with_reducible rfl
   try simp only [Act.put, List.setIfInBounds_toArray, List.set_cons_zero, List.set_cons_succ]
   refine wpAnyH_ready (rs := [21]) (by kernel_rfl) (by simp) ?_
   refine AllReadyH.cons (by simp only [List.getElem?_toArray, List.getElem?_cons_succ, List.getElem?_cons_zero]; rfl) (fun K hK => ?_) AllReadyH.nil
   go_simp
   refine (cLe _ hT3).mono ?_
   rintro e w4 ⟨rfl, hT4⟩
   have k4 := hT4.cells
   go_wp2_with fail
   refine hK.out _ _ ?_ (fun hHeld2 => ?_)
   ·exact k4
   clear hK K hHeld
   have hHeld := hHeld2
   clear hHeld2
   try simp only [Act.put, List.setIfInBounds_toArray, List.set_cons_zero, List.set_cons_succ]
   refine wpAnyH_ready (rs := [26]) (by kernel_rfl) (by simp) ?_
   refine AllReadyH.cons (by simp only [List.getElem?_toArray, List.getElem?_cons_succ, List.getElem?_cons_zero]; rfl) (fun K hK => ?_) AllReadyH.nil
   go_simp
   refine (cRl _ hT4).mono ?_
   rintro e w5 ⟨rfl, hT5⟩
   have k5 := hT5.cells
   go_wp2_with fail
   refine hK.out _ _ ?_ (fun hHeld2 => ?_)
   ·exact k5
   clear hK K hHeld
   have hHeld := hHeld2
   clear hHeld2
   try simp only [Act.put, List.setIfInBounds_toArray, List.set_cons_zero, List.set_cons_succ]
   refine tk (i := 27) (v := ?_) (hy := Or.inl ⟨by rfl, ?_⟩) (hS := hHeld) (h := ?_)
   rotate_left
   ·intro w hSw
    try dsimp only at hSw
    go_simp
    all_goals with_reducible rfl
   try simp only [Act.put, List.setIfInBounds_toArray, List.set_cons_zero, List.set_cons_succ]
   refine tk (i := 28) (v := ?_) (hy := Or.inl ⟨by rfl, ?_⟩) (hS := hHeld) (h := ?_)
   rotate_left
   ·intro w hSw
    try dsimp only at hSw
    go_simp
    all_goals with_reducible rfl
   try simp only [Act.put, List.setIfInBounds_toArray, List.set_cons_zero, List.set_cons_succ]
   refine tk (i := 29) (v := ?_) (hy := Or.inl ⟨by rfl, ?_⟩) (hS := hHeld) (h := ?_)
   rotate_left
   ·intro w hSw
    try dsimp only at hSw
    go_simp
    all_goals with_reducible rfl
   try simp only [Act.put, List.setIfInBounds_toArray, List.set_cons_zero, List.set_cons_succ]
   refine tk (i := 30) (v := ?_) (hy := Or.inl ⟨by rfl, ?_⟩) (hS := hHeld) (h := ?_)
   rotate_left
   ·intro w hSw
    try dsimp only at hSw
    go_simp
    all_goals with_reducible rfl
   try simp only [Act.put, List.setIfInBounds_toArray, List.set_cons_zero, List.set_cons_succ]
   refine tk (i := 31) (v := ?_) (hy := Or.inl ⟨by rfl, ?_⟩) (hS := hHeld) (h := ?_)
   rotate_left
   ·intro w hSw
    try dsimp only at hSw
    go_simp
    all_goals with_reducible rfl
   try simp only [Act.put, List.setIfInBounds_toArray, List.set_cons_zero, List.set_cons_succ]
   refine tk (i := 32) (v := ?_) (hy := Or.inl ⟨by rfl, ?_⟩) (hS := hHeld) (h := ?_)
   rotate_left
   ·intro w hSw
    try dsimp only at hSw
    go_simp
    all_goals with_reducible rfl
   try simp only [Act.put, List.setIfInBounds_toArray, List.set_cons_zero, List.set_cons_succ]
   refine tk (i := 33) (v := ?_) (hy := Or.inl ⟨by rfl, ?_⟩) (hS := hHeld) (h := ?_)
   rotate_left
   ·intro w hSw
    try dsimp only at hSw
    obtain ⟨s0, s1, s2, s3⟩ := hSw
    go_simp
    all_goals with_reducible rfl
   try simp only [Act.put, List.setIfInBounds_toArray, List.set_cons_zero, List.set_cons_succ]
   refine tk (i := 35) (v := ?_) (hy := Or.inl ⟨by rfl, ?_⟩) (hS := hHeld) (h := ?_)
   rotate_left
   ·intro w hSw
    try dsimp only at hSw
    go_simp
    all_goals with_reducible rfl
   try simp only [Act.put, List.setIfInBounds_toArray, List.set_cons_zero, List.set_cons_succ]
   refine tk (i := 36) (v := ?_) (hy := Or.inl ⟨by rfl, ?_⟩) (hS := hHeld) (h := ?_)
   rotate_left
   ·intro w hSw
    try dsimp only at hSw
    go_simp
    all_goals with_reducible rfl
   try simp only [Act.put, List.setIfInBounds_toArray, List.set_cons_zero, List.set_cons_succ]
   refine tk (i := 37) (v := ?_) (hy := Or.inl ⟨by rfl, ?_⟩) (hS := hHeld) (h := ?_)
   rotate_left
   ·intro w hSw
    try dsimp only at hSw
    go_simp
    all_goals with_reducible rfl
   try simp only [Act.put, List.setIfInBounds_toArray, List.set_cons_zero, List.set_cons_succ]
   refine tk (i := 38) (v := ?_) (hy := Or.inl ⟨by rfl, ?_⟩) (hS := hHeld) (h := ?_)
   rotate_left
   ·intro w hSw
    try dsimp only at hSw
    obtain ⟨s0, s1, s2, s3⟩ := hSw
    go_simp
    all_goals with_reducible rfl
   try simp only [Act.put, List.setIfInBounds_toArray, List.set_cons_zero, List.set_cons_succ]
   refine tk (i := 39) (v := ?_) (hy := Or.inl ⟨by rfl, ?_⟩) (hS := hHeld) (h := ?_)
   rotate_left
   ·intro w hSw
    try dsimp only at hSw
    go_simp
    all_goals with_reducible rfl
   try simp only [Act.put, List.setIfInBounds_toArray, List.set_cons_zero, List.set_cons_succ]
   refine tk (i := 40) (v := ?_) (hy := Or.inl ⟨by rfl, ?_⟩) (hS := hHeld) (h := ?_)
   rotate_left
   ·intro w hSw
    try dsimp only at hSw
    go_simp
    all_goals with_reducible rfl
   try simp only [Act.put, List.setIfInBounds_toArray, List.set_cons_zero, List.set_cons_succ]
   refine tk (i := 41) (v := ?_) (hy := Or.inl ⟨by rfl, ?_⟩) (hS := hHeld) (h := ?_)
   rotate_left
   ·intro w hSw
    try dsimp only at hSw
    obtain ⟨s0, s1, s2, s3⟩ := hSw
    go_simp
    all_goals with_reducible rfl
   try simp only [Act.put, List.setIfInBounds_toArray, List.set_cons_zero, List.set_cons_succ]
   refine wpAnyH_ready (rs := [34]) (by kernel_rfl) (by simp) ?_
   refine AllReadyH.cons (by simp only [List.getElem?_toArray, List.getElem?_cons_succ, List.getElem?_cons_zero]; rfl) (fun K hK => ?_) AllReadyH.nil
   go_simp
   refine (cHa _ hT5).mono ?_
   rintro e w6 ⟨rfl, hT6⟩
   have k6 := hT6.cells
   go_wp2_with fail
   refine hK.out _ _ ?_ (fun hHeld2 => ?_)
   ·exact k6
   clear hK K hHeld
   have hHeld := hHeld2
   clear hHeld2
   try simp only [Act.put, List.setIfInBounds_toArray, List.set_cons_zero, List.set_cons_succ]
   refine tk (i := 42) (v := ?_) (hy := Or.inl ⟨by rfl, ?_⟩) (hS := hHeld) (h := ?_)
   rotate_left
   ·intro w hSw
    try dsimp only at hSw
    go_simp
    all_goals with_reducible rfl
   try simp only [Act.put, List.setIfInBounds_toArray, List.set_cons_zero, List.set_cons_succ]
   refine tk (i := 43) (v := ?_) (hy := Or.inl ⟨by rfl, ?_⟩) (hS := hHeld) (h := ?_)
   rotate_left
   ·intro w hSw
    try dsimp only at hSw
    go_simp
    all_goals with_reducible rfl
   try simp only [Act.put, List.setIfInBounds_toArray, List.set_cons_zero, List.set_cons_succ]
   refine tk (i := 44) (v := ?_) (hy := Or.inl ⟨by rfl, ?_⟩) (hS := hHeld) (h := ?_)
   rotate_left
   ·intro w hSw
    try dsimp only at hSw
    go_simp
    all_goals with_reducible rfl
   try simp only [Act.put, List.setIfInBounds_toArray, List.set_cons_zero, List.set_cons_succ]
   refine wpAnyH_calm (by kernel_rfl) ?_ _
   clear hHeld cL cLe cHa cRl
   obtain ⟨fp6, gp6, S6, G6, t6, hP6⟩ := hT6
   obtain ⟨c0, c1, c2, c3, c4, c5, c6, cf⟩ := pr13_cells hP6.head
   obtain ⟨Bx, cap, r0, hrl⟩ := rlen hP6.rv
   clear rlen
   go_wp2_with fail
   go_loopw [4] (fun i wr => TlRel12 w6 N i wr) (fun i _ => N - (intOf i).toNat)
   case atStart => exact ⟨0, Nat.zero_le _, rfl, Kept.refl _ _⟩
   case round =>
    obtain ⟨q, hq, rfl, hkw⟩ := hrel
    have hPr := hP6.next hkw
    obtain ⟨x0, x1, x2, x3, x4, x5, x6, xf⟩ := pr13_cells hPr.head
    have rr := (hkw.cell (p := ⟨r, 0, none⟩) hrl (by simp)).trans r0
    by_cases hlt : q < N
    ·have i1 : (q : Int) < (N : Int) := by omega
     by_cases hd : d.dead = true
     ·have ha : d.at_ (q : Int) = 100 := by simp [Dev.at_, hd]
      have cr1 := read_bad hPr.dv (q : Int) (by rw [ha]; decide)
      have cr2 := rv_read_bad hPr.rv (q : Int) (by rw [ha]; decide)
      rw [ha] at cr1 cr2
      have ce := eqb_true wr none none 0 0 0 0 [] (SlAt.nil _) (SlAt.nil _)
      clear ha hd
      go_wp2_with fail
      refine cr1.mono ?_
      rintro e w2 ⟨rfl, rfl⟩
      go_wp2_with fail
      refine cr2.mono ?_
      rintro e w2 ⟨rfl, rfl⟩
      go_wp2_with fail
      refine ce.mono ?_
      rintro e w2 ⟨rfl, k2⟩
      clear cr1 cr2 ce
      go_wp2_with fail
      go_roundw
      case rel => exact ⟨q + 1, by omega, by go_num, hkw.trans k2⟩
      case measure => simp [intOf]; omega
     ·have hd0 : d.dead = false := by simpa using hd
      obtain ⟨b, hb⟩ : ∃ b, d.secs[q]? = some b := ⟨_, List.getElem?_eq_getElem (by rw [HH.out]; exact hlt)⟩
      have cr1 := read_dv hPr.dv (q : Int) (at_live_ hd0 (by rw [HH.out]; exact hlt)) (b := b) (by rw [Int.toNat_natCast]; exact hb)
      have cr2 := fun W (hk : Kept [] wr W) => rv_read (hPr.next hk).rv (q : Int) (at_live_ hd0 (by rw [HH.out]; exact hlt)) (b := b) (by rw [Int.toNat_natCast]; exact hb)
      clear hd hd0 hb
      go_wp2_with fail
      refine cr1.mono ?_
      rintro e w2 ⟨A2, n2, rfl, hown2, hbel2⟩
      have hk2 := Kept.of_below (F := []) hbel2
      have hs2 := (ClonePost.sl hown2).1
      obtain ⟨y0, y1, y2, y3, y4, y5, y6, yf⟩ := pr13_cells (hPr.next hk2).head
      clear x0 x1 x2 x3 x4 x5 x6 xf rr hown2 hbel2
      go_wp2_with fail
      refine (cr2 _ hk2).mono ?_
      rintro e w3 ⟨A3, n3, rfl, hown3, hbel3⟩
      have hk3 := Kept.of_below (F := []) hbel3
      have hs3 := (ClonePost.sl hown3).1
      have ce := eqb_true w3 A2 A3 128 n2 128 n3 b (hs2.kept hk3 (by simp)) hs3
      clear cr1 cr2 hown3 hbel3
      go_wp2_with fail
      refine ce.mono ?_
      rintro e w4 ⟨rfl, k4⟩
      clear ce
      go_wp2_with fail
      go_roundw
      case rel => exact ⟨q + 1, by omega, by go_num, ((hkw.trans hk2).trans hk3).trans k4⟩
      case measure => simp [intOf]; omega
    ·have i1 : ¬ (q : Int) < (N : Int) := by omega
     go_wp2_with fail
     go_ret
     exact ⟨rfl, some s, ⟨_, _, _, _, _, _, _, hPr⟩, fun z hz => (by cases hz; exact hok), hw0, hl9, hfI, hmI⟩
end Go.Proofs.YtbnflbkaogpnbaaGreat
