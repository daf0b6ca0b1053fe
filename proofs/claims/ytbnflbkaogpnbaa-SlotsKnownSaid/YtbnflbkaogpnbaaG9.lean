/- The pair of chapter 11: tells (py/g9.py prints it: its loop is N8's). -/
import Derived.Test.YtbnflbkaogpnbaaG8
import Derived.Test.YtbnflbkaogpnbaaGH
namespace Go.Proofs.Ytbnflbkaogpnbaa
set_option linter.unusedVariables false
open Go.RowKit

theorem PrY.next {w0 w w' : World} {p a r : Nat} {first : Int} {d : Dev} {os : Option Sl} {k : Nat} (h : PrY w0 w p a r first d os k) (hk : Kept [] w w') : PrY w0 w' p a r first d os k := by
  obtain ⟨vs, vm, fp, gp, S, G, t, hP⟩ := h.ex
  exact ⟨⟨vs, vm, fp, gp, S, G, t, hP.next hk⟩, h.wf, h.works, h.len, h.fI⟩

set_option maxHeartbeats 2000000 in
set_option maxRecDepth 100000 in
theorem pairTells11_any {w0 w : World} {p a r : Nat} {first : Int} {d : Dev} {os : Option Sl} {k : Nat} (h : PrY w0 w p a r first d os k) :
    Calls Try.prog 95 #[.pointer (some ⟨p, 0, none⟩)] w (TrueKept w) := by
  obtain ⟨vs, vm, fp, gp, S, G, t, hP⟩ := h.ex
  obtain ⟨c0, c1, c2, c3, c4, cf⟩ := pr11_cells hP.head
  have hpl := hP.pl
  have hdw := hP.dv.wf
  have hone := hdw.one; have hlen := h.len
  obtain ⟨N, hN⟩ : ∃ N, d.secs.length = N := ⟨_, rfl⟩
  obtain ⟨Bx, cap, lx, sx, hA, hI⟩ := id hP.rv
  obtain ⟨r0, -, -, -, -, -, -⟩ := hA.cells
  rw [hA.len, hI.n, hN] at r0
  have hrl : r < w.heap.size := hP.rv.lt r hP.rv.rin
  rw [hN] at hone hlen
  have HH := Lib.hid hN
  clear hN
  have hkq := Kept.refl [] w
  cases os with
  | none =>
    have hm0 : vm = .pointer none := hP.rt
    subst hm0
    clear hkq
    go_enter Try.func95, Try.ntmps95
    go_wp2_with fail
    go_quiet (fail)
    have hkq := Kept.drewN [] w nq
    generalize w.drewN nq = wq at *
    go_wp2_with fail
    go_loopw [3] (fun i wr => TlRel12 w N i wr) (fun i _ => N - (intOf i).toNat)
    case atStart => exact ⟨0, Nat.zero_le _, rfl, hkq⟩
    case round =>
      obtain ⟨q, hq, rfl, hkw⟩ := hrel
      have hPr := hP.next hkw
      obtain ⟨x0, x1, x2, x3, x4, xf⟩ := pr11_cells hPr.head
      have rr := (hkw.cell (p := ⟨r, 0, none⟩) hrl (by simp)).trans r0
      clear c0 c1 c2 c3 c4 cf r0
      by_cases hlt : q < N
      · have i1 : (q : Int) < (N : Int) := by omega
        by_cases hd : d.dead = true
        · have ha : d.at_ (q : Int) = 100 := by simp [Dev.at_, hd]
          have cr1 := read_bad hPr.dv (q : Int) (by rw [ha]; decide)
          have cr2 := rv_read_bad hPr.rv (q : Int) (by rw [ha]; decide)
          rw [ha] at cr1 cr2
          have ce := eqb_true wr none none 0 0 0 0 [] (SlAt.nil _) (SlAt.nil _)
          clear ha hd
          go_wp2_with fail
          refine cr1.mono ?_
          rintro e w2 ⟨rfl, rfl⟩
          go_wp2_with fail
          refine cr2.mono ?_
          rintro e w2 ⟨rfl, rfl⟩
          go_wp2_with fail
          refine ce.mono ?_
          rintro e w2 ⟨rfl, k2⟩
          clear cr1 cr2 ce
          go_wp2_with fail
          go_roundw
          case rel => exact ⟨q + 1, by omega, by go_num, hkw.trans k2⟩
          case measure => simp [intOf]; omega
        · have hd0 : d.dead = false := by simpa using hd
          obtain ⟨b, hb⟩ : ∃ b, d.secs[q]? = some b := ⟨_, List.getElem?_eq_getElem (by rw [HH.out]; exact hlt)⟩
          have cr1 := read_dv hPr.dv (q : Int) (at_live_ hd0 (by rw [HH.out]; exact hlt)) (b := b) (by rw [Int.toNat_natCast]; exact hb)
          have cr2 := fun W (hk : Kept [] wr W) => rv_read (hPr.next hk).rv (q : Int) (at_live_ hd0 (by rw [HH.out]; exact hlt)) (b := b) (by rw [Int.toNat_natCast]; exact hb)
          clear hd hd0 hb
          go_wp2_with fail
          refine cr1.mono ?_
          rintro e w2 ⟨A2, n2, rfl, hown2, hbel2⟩
          have hk2 := Kept.of_below (F := []) hbel2
          have hs2 := (ClonePost.sl hown2).1
          obtain ⟨y0, y1, y2, y3, y4, yf⟩ := pr11_cells (hPr.next hk2).head
          clear x0 x1 x2 x3 x4 xf rr hown2 hbel2
          go_wp2_with fail
          refine (cr2 _ hk2).mono ?_
          rintro e w3 ⟨A3, n3, rfl, hown3, hbel3⟩
          have hk3 := Kept.of_below (F := []) hbel3
          have hs3 := (ClonePost.sl hown3).1
          have ce := eqb_true w3 A2 A3 128 n2 128 n3 b (hs2.kept hk3 (by simp)) hs3
          clear cr1 cr2 hown3 hbel3
          go_wp2_with fail
          refine ce.mono ?_
          rintro e w4 ⟨rfl, k4⟩
          clear ce
          go_wp2_with fail
          go_roundw
          case rel => exact ⟨q + 1, by omega, by go_num, ((hkw.trans hk2).trans hk3).trans k4⟩
          case measure => simp [intOf]; omega
      · have i1 : ¬ (q : Int) < (N : Int) := by omega
        go_wp2_with fail
        go_ret
        exact ⟨rfl, hkw⟩
  | some s =>
    obtain ⟨zs, hvs, hS⟩ := hP.st
    obtain ⟨zm, hvm, hG, _⟩ := hP.rt
    subst hvs hvm
    obtain ⟨m0, m1, m2, m3, -, -⟩ := hG.cells
    have ct := slotsTurn_any (hS.kept (Kept.drew [] w) (by simp))
    clear hkq
    go_enter Try.func95, Try.ntmps95
    go_wp2_with fail
    refine wp_region_calm (S := (fun W => W.cell? ⟨p, 1, none⟩ = some (.pointer (some ⟨zs, 0, none⟩)) ∧ W.cell? ⟨p, 3, none⟩ = some (.pointer (some ⟨zm, 0, none⟩)) ∧ W.cell? ⟨zm, 2, none⟩ = some (.int .i64 s.turn))) (by kernel_rfl) (show _ ∧ _ ∧ _ from ⟨c1, c3, m2⟩) (fun hHeld => ?_)
    refine wpAnyH_take (i := 0) (v := ?_) (by simp only [List.getElem?_toArray, List.getElem?_cons_zero]; rfl) (by kernel_rfl) (by kernel_rfl) (by kernel_rfl) (by exact fun _ _ _ h => h) (Or.inl ⟨by rfl, ?_⟩) hHeld ?_
    rotate_left
    · intro w hSw
      try dsimp only at hSw
      go_simp
      all_goals with_reducible rfl
    try simp only [Act.put, List.setIfInBounds_toArray, List.set_cons_zero, List.set_cons_succ]
    refine wpAnyH_take (i := 1) (v := ?_) (by simp only [List.getElem?_toArray, List.getElem?_cons_succ, List.getElem?_cons_zero]; rfl) (by kernel_rfl) (by kernel_rfl) (by kernel_rfl) (by exact fun _ _ _ h => h) (Or.inl ⟨by rfl, ?_⟩) hHeld ?_
    rotate_left
    · intro w hSw
      try dsimp only at hSw
      go_simp
      all_goals with_reducible rfl
    try simp only [Act.put, List.setIfInBounds_toArray, List.set_cons_zero, List.set_cons_succ]
    refine wpAnyH_take (i := 2) (v := ?_) (by simp only [List.getElem?_toArray, List.getElem?_cons_succ, List.getElem?_cons_zero]; rfl) (by kernel_rfl) (by kernel_rfl) (by kernel_rfl) (by exact fun _ _ _ h => h) (Or.inl ⟨by rfl, ?_⟩) hHeld ?_
    rotate_left
    · intro w hSw
      try dsimp only at hSw
      go_simp
      all_goals with_reducible rfl
    try simp only [Act.put, List.setIfInBounds_toArray, List.set_cons_zero, List.set_cons_succ]
    refine wpAnyH_take (i := 3) (v := ?_) (by simp only [List.getElem?_toArray, List.getElem?_cons_succ, List.getElem?_cons_zero]; rfl) (by kernel_rfl) (by kernel_rfl) (by kernel_rfl) (by exact fun _ _ _ h => h) (Or.inl ⟨by rfl, ?_⟩) hHeld ?_
    rotate_left
    · intro w hSw
      try dsimp only at hSw
      obtain ⟨s0, s1, s2⟩ := hSw
      go_simp
      all_goals with_reducible rfl
    try simp only [Act.put, List.setIfInBounds_toArray, List.set_cons_zero, List.set_cons_succ]
    refine wpAnyH_take (i := 4) (v := ?_) (by simp only [List.getElem?_toArray, List.getElem?_cons_succ, List.getElem?_cons_zero]; rfl) (by kernel_rfl) (by kernel_rfl) (by kernel_rfl) (by exact fun _ _ _ h => h) (Or.inl ⟨by rfl, ?_⟩) hHeld ?_
    rotate_left
    · intro w hSw
      try dsimp only at hSw
      go_simp
      all_goals with_reducible rfl
    try simp only [Act.put, List.setIfInBounds_toArray, List.set_cons_zero, List.set_cons_succ]
    refine wpAnyH_take (i := 5) (v := ?_) (by simp only [List.getElem?_toArray, List.getElem?_cons_succ, List.getElem?_cons_zero]; rfl) (by kernel_rfl) (by kernel_rfl) (by kernel_rfl) (by exact fun _ _ _ h => h) (Or.inl ⟨by rfl, ?_⟩) hHeld ?_
    rotate_left
    · intro w hSw
      try dsimp only at hSw
      go_simp
      all_goals with_reducible rfl
    try simp only [Act.put, List.setIfInBounds_toArray, List.set_cons_zero, List.set_cons_succ]
    refine wpAnyH_take (i := 6) (v := ?_) (by simp only [List.getElem?_toArray, List.getElem?_cons_succ, List.getElem?_cons_zero]; rfl) (by kernel_rfl) (by kernel_rfl) (by kernel_rfl) (by exact fun _ _ _ h => h) (Or.inl ⟨by rfl, ?_⟩) hHeld ?_
    rotate_left
    · intro w hSw
      try dsimp only at hSw
      go_simp
      all_goals with_reducible rfl
    try simp only [Act.put, List.setIfInBounds_toArray, List.set_cons_zero, List.set_cons_succ]
    refine wpAnyH_take (i := 7) (v := ?_) (by simp only [List.getElem?_toArray, List.getElem?_cons_succ, List.getElem?_cons_zero]; rfl) (by kernel_rfl) (by kernel_rfl) (by kernel_rfl) (by exact fun _ _ _ h => h) (Or.inl ⟨by rfl, ?_⟩) hHeld ?_
    rotate_left
    · intro w hSw
      try dsimp only at hSw
      go_simp
      all_goals with_reducible rfl
    try simp only [Act.put, List.setIfInBounds_toArray, List.set_cons_zero, List.set_cons_succ]
    refine wpAnyH_take (i := 8) (v := ?_) (by simp only [List.getElem?_toArray, List.getElem?_cons_succ, List.getElem?_cons_zero]; rfl) (by kernel_rfl) (by kernel_rfl) (by kernel_rfl) (by exact fun _ _ _ h => h) (Or.inl ⟨by rfl, ?_⟩) hHeld ?_
    rotate_left
    · intro w hSw
      try dsimp only at hSw
      go_simp
      all_goals with_reducible rfl
    try simp only [Act.put, List.setIfInBounds_toArray, List.set_cons_zero, List.set_cons_succ]
    refine wpAnyH_take (i := 9) (v := ?_) (by simp only [List.getElem?_toArray, List.getElem?_cons_succ, List.getElem?_cons_zero]; rfl) (by kernel_rfl) (by kernel_rfl) (by kernel_rfl) (by exact fun _ _ _ h => h) (Or.inl ⟨by rfl, ?_⟩) hHeld ?_
    rotate_left
    · intro w hSw
      try dsimp only at hSw
      obtain ⟨s0, s1, s2⟩ := hSw
      go_simp
      all_goals with_reducible rfl
    try simp only [Act.put, List.setIfInBounds_toArray, List.set_cons_zero, List.set_cons_succ]
    refine wpAnyH_take (i := 11) (v := ?_) (by simp only [List.getElem?_toArray, List.getElem?_cons_succ, List.getElem?_cons_zero]; rfl) (by kernel_rfl) (by kernel_rfl) (by kernel_rfl) (by exact fun _ _ _ h => h) (Or.inl ⟨by rfl, ?_⟩) hHeld ?_
    rotate_left
    · intro w hSw
      try dsimp only at hSw
      go_simp
      all_goals with_reducible rfl
    try simp only [Act.put, List.setIfInBounds_toArray, List.set_cons_zero, List.set_cons_succ]
    refine wpAnyH_take (i := 12) (v := ?_) (by simp only [List.getElem?_toArray, List.getElem?_cons_succ, List.getElem?_cons_zero]; rfl) (by kernel_rfl) (by kernel_rfl) (by kernel_rfl) (by exact fun _ _ _ h => h) (Or.inl ⟨by rfl, ?_⟩) hHeld ?_
    rotate_left
    · intro w hSw
      try dsimp only at hSw
      go_simp
      all_goals with_reducible rfl
    try simp only [Act.put, List.setIfInBounds_toArray, List.set_cons_zero, List.set_cons_succ]
    refine wpAnyH_take (i := 13) (v := ?_) (by simp only [List.getElem?_toArray, List.getElem?_cons_succ, List.getElem?_cons_zero]; rfl) (by kernel_rfl) (by kernel_rfl) (by kernel_rfl) (by exact fun _ _ _ h => h) (Or.inl ⟨by rfl, ?_⟩) hHeld ?_
    rotate_left
    · intro w hSw
      try dsimp only at hSw
      go_simp
      all_goals with_reducible rfl
    try simp only [Act.put, List.setIfInBounds_toArray, List.set_cons_zero, List.set_cons_succ]
    refine wpAnyH_take (i := 14) (v := ?_) (by simp only [List.getElem?_toArray, List.getElem?_cons_succ, List.getElem?_cons_zero]; rfl) (by kernel_rfl) (by kernel_rfl) (by kernel_rfl) (by exact fun _ _ _ h => h) (Or.inl ⟨by rfl, ?_⟩) hHeld ?_
    rotate_left
    · intro w hSw
      try dsimp only at hSw
      obtain ⟨s0, s1, s2⟩ := hSw
      go_simp
      all_goals with_reducible rfl
    try simp only [Act.put, List.setIfInBounds_toArray, List.set_cons_zero, List.set_cons_succ]
    refine wpAnyH_take (i := 15) (v := ?_) (by simp only [List.getElem?_toArray, List.getElem?_cons_succ, List.getElem?_cons_zero]; rfl) (by kernel_rfl) (by kernel_rfl) (by kernel_rfl) (by exact fun _ _ _ h => h) (Or.inl ⟨by rfl, ?_⟩) hHeld ?_
    rotate_left
    · intro w hSw
      try dsimp only at hSw
      go_simp
      all_goals with_reducible rfl
    try simp only [Act.put, List.setIfInBounds_toArray, List.set_cons_zero, List.set_cons_succ]
    refine wpAnyH_take (i := 16) (v := ?_) (by simp only [List.getElem?_toArray, List.getElem?_cons_succ, List.getElem?_cons_zero]; rfl) (by kernel_rfl) (by kernel_rfl) (by kernel_rfl) (by exact fun _ _ _ h => h) (Or.inl ⟨by rfl, ?_⟩) hHeld ?_
    rotate_left
    · intro w hSw
      try dsimp only at hSw
      go_simp
      all_goals with_reducible rfl
    try simp only [Act.put, List.setIfInBounds_toArray, List.set_cons_zero, List.set_cons_succ]
    refine wpAnyH_take (i := 17) (v := ?_) (by simp only [List.getElem?_toArray, List.getElem?_cons_succ, List.getElem?_cons_zero]; rfl) (by kernel_rfl) (by kernel_rfl) (by kernel_rfl) (by exact fun _ _ _ h => h) (Or.inl ⟨by rfl, ?_⟩) hHeld ?_
    rotate_left
    · intro w hSw
      try dsimp only at hSw
      obtain ⟨s0, s1, s2⟩ := hSw
      go_simp
      all_goals with_reducible rfl
    try simp only [Act.put, List.setIfInBounds_toArray, List.set_cons_zero, List.set_cons_succ]
    refine wpAnyH_ready (rs := [10]) (by kernel_rfl) (by simp) ?_
    refine AllReadyH.cons (by simp only [List.getElem?_toArray, List.getElem?_cons_succ, List.getElem?_cons_zero]; rfl) (fun K hK => ?_) AllReadyH.nil
    go_simp
    refine ct.mono ?_
    rintro e w1 ⟨rfl, hw1'⟩
    subst hw1'
    go_wp2_with fail
    refine hK.out _ _ ?_ (fun hHeld2 => ?_)
    · exact ⟨c1, c3, m2⟩
    clear hK K hHeld
    have hHeld := hHeld2
    clear hHeld2
    try simp only [Act.put, List.setIfInBounds_toArray, List.set_cons_zero, List.set_cons_succ]
    refine wpAnyH_take (i := 18) (v := ?_) (by simp only [List.getElem?_toArray, List.getElem?_cons_succ, List.getElem?_cons_zero]; rfl) (by kernel_rfl) (by kernel_rfl) (by kernel_rfl) (by exact fun _ _ _ h => h) (Or.inl ⟨by rfl, ?_⟩) hHeld ?_
    rotate_left
    · intro w hSw
      try dsimp only at hSw
      go_simp
      all_goals with_reducible rfl
    try simp only [Act.put, List.setIfInBounds_toArray, List.set_cons_zero, List.set_cons_succ]
    refine wpAnyH_take (i := 19) (v := ?_) (by simp only [List.getElem?_toArray, List.getElem?_cons_succ, List.getElem?_cons_zero]; rfl) (by kernel_rfl) (by kernel_rfl) (by kernel_rfl) (by exact fun _ _ _ h => h) (Or.inl ⟨by rfl, ?_⟩) hHeld ?_
    rotate_left
    · intro w hSw
      try dsimp only at hSw
      go_simp
      all_goals with_reducible rfl
    try simp only [Act.put, List.setIfInBounds_toArray, List.set_cons_zero, List.set_cons_succ]
    refine wpAnyH_calm (by kernel_rfl) ?_ _
    clear hHeld ct m0 m1 m2 m3
    have hkq := Kept.drew [] w
    generalize w.drew = wq at *
    go_wp2_with fail
    go_loopw [3] (fun i wr => TlRel12 w N i wr) (fun i _ => N - (intOf i).toNat)
    case atStart => exact ⟨0, Nat.zero_le _, rfl, hkq⟩
    case round =>
      obtain ⟨q, hq, rfl, hkw⟩ := hrel
      have hPr := hP.next hkw
      obtain ⟨x0, x1, x2, x3, x4, xf⟩ := pr11_cells hPr.head
      have rr := (hkw.cell (p := ⟨r, 0, none⟩) hrl (by simp)).trans r0
      clear c0 c1 c2 c3 c4 cf r0
      by_cases hlt : q < N
      · have i1 : (q : Int) < (N : Int) := by omega
        by_cases hd : d.dead = true
        · have ha : d.at_ (q : Int) = 100 := by simp [Dev.at_, hd]
          have cr1 := read_bad hPr.dv (q : Int) (by rw [ha]; decide)
          have cr2 := rv_read_bad hPr.rv (q : Int) (by rw [ha]; decide)
          rw [ha] at cr1 cr2
          have ce := eqb_true wr none none 0 0 0 0 [] (SlAt.nil _) (SlAt.nil _)
          clear ha hd
          go_wp2_with fail
          refine cr1.mono ?_
          rintro e w2 ⟨rfl, rfl⟩
          go_wp2_with fail
          refine cr2.mono ?_
          rintro e w2 ⟨rfl, rfl⟩
          go_wp2_with fail
          refine ce.mono ?_
          rintro e w2 ⟨rfl, k2⟩
          clear cr1 cr2 ce
          go_wp2_with fail
          go_roundw
          case rel => exact ⟨q + 1, by omega, by go_num, hkw.trans k2⟩
          case measure => simp [intOf]; omega
        · have hd0 : d.dead = false := by simpa using hd
          obtain ⟨b, hb⟩ : ∃ b, d.secs[q]? = some b := ⟨_, List.getElem?_eq_getElem (by rw [HH.out]; exact hlt)⟩
          have cr1 := read_dv hPr.dv (q : Int) (at_live_ hd0 (by rw [HH.out]; exact hlt)) (b := b) (by rw [Int.toNat_natCast]; exact hb)
          have cr2 := fun W (hk : Kept [] wr W) => rv_read (hPr.next hk).rv (q : Int) (at_live_ hd0 (by rw [HH.out]; exact hlt)) (b := b) (by rw [Int.toNat_natCast]; exact hb)
          clear hd hd0 hb
          go_wp2_with fail
          refine cr1.mono ?_
          rintro e w2 ⟨A2, n2, rfl, hown2, hbel2⟩
          have hk2 := Kept.of_below (F := []) hbel2
          have hs2 := (ClonePost.sl hown2).1
          obtain ⟨y0, y1, y2, y3, y4, yf⟩ := pr11_cells (hPr.next hk2).head
          clear x0 x1 x2 x3 x4 xf rr hown2 hbel2
          go_wp2_with fail
          refine (cr2 _ hk2).mono ?_
          rintro e w3 ⟨A3, n3, rfl, hown3, hbel3⟩
          have hk3 := Kept.of_below (F := []) hbel3
          have hs3 := (ClonePost.sl hown3).1
          have ce := eqb_true w3 A2 A3 128 n2 128 n3 b (hs2.kept hk3 (by simp)) hs3
          clear cr1 cr2 hown3 hbel3
          go_wp2_with fail
          refine ce.mono ?_
          rintro e w4 ⟨rfl, k4⟩
          clear ce
          go_wp2_with fail
          go_roundw
          case rel => exact ⟨q + 1, by omega, by go_num, ((hkw.trans hk2).trans hk3).trans k4⟩
          case measure => simp [intOf]; omega
      · have i1 : ¬ (q : Int) < (N : Int) := by omega
        go_wp2_with fail
        go_ret
        exact ⟨rfl, hkw⟩
end Go.Proofs.Ytbnflbkaogpnbaa
