/- A log in memory: Flush. -/
import Derived.Test.YtbnflbkaogpnbaaJ6
namespace Go.Proofs.Ytbnflbkaogpnbaa
set_option linter.unusedVariables false
open Go.RowKit

theorem added_put {w : World} {y zs zt a : Nat} {fp slp stp : List Nat} {s : Sp} {d : Dev} (h : SpP w y zs zt a fp slp stp s d) (b : Bool) :
    SpP (w.setCell ⟨y, 7, none⟩ (.bool b)) y zs zt a fp slp stp { s with added := b } d ∧ Kept [y] w (w.setCell ⟨y, 7, none⟩ (.bool b)) := by
  have hk : Kept [y] w (w.setCell ⟨y, 7, none⟩ (.bool b)) := Kept.setCell (by simp) _
  exact ⟨h.put hk rfl rfl (heap_set h.head 7 _), hk⟩

theorem Sp.save_half (s : Sp) (d : Dev) (m : List UInt8) : (s.save d m).1.half = s.half := by
  unfold Sp.save
  split <;> rfl
theorem Sp.save_many (s : Sp) (d : Dev) (m : List UInt8) : (s.save d m).1.many = s.many := by
  unfold Sp.save
  split <;> rfl
theorem Sp.save_added (s : Sp) (d : Dev) (m : List UInt8) : (s.save d m).1.added = s.added := by
  unfold Sp.save
  split <;> rfl

section
variable {w : World} {y zs zt a : Nat} {fp slp stp : List Nat} {s : Sp} {d : Dev}

set_option maxHeartbeats 1000000 in
theorem spoolFlush_any (h : SpP w y zs zt a fp slp stp s d) (h1 : s.half ≤ 1) (h2 : s.st.fin < 4294967296) (h3 : s.many < 4294967296) (hnw : s.sl.newer ≤ 1) (htn : s.sl.turn < 9223372036854775000) (hfi : s.sl.first < 9223372036854775000)
    (hwk : d.works < 9223372036853000000) : Calls Try.prog 60 #[.pointer (some ⟨y, 0, none⟩)] w (SpPZ w y zs zt a fp slp stp (s.flush d).1 (s.flush d).2.1 (s.flush d).2.2) := by
  cases hw : s.wrong d with
  | true =>
    have e1 : s.flush d = (s.touch d, d, 100) := by unfold Sp.flush; rw [if_pos hw]
    rw [e1]
    have cw := wrong_yes h hw
    clear e1
    go_enter Try.func60, Try.ntmps60
    go_wp2_with fail
    refine cw.mono ?_
    rintro e w1 ⟨rfl, hP1, hk1⟩
    go_wp2_with fail
    go_ret
    exact .of hP1 (.own hk1)
  | false =>
    have cw := wrong_no h hw
    cases ha : s.added with
    | false =>
      have e1 : s.flush d = (s, d, 0) := by unfold Sp.flush; rw [if_neg (by rw [hw]; decide), if_pos ha]
      rw [e1]
      clear e1
      go_enter Try.func60, Try.ntmps60
      go_wp2_with fail
      refine cw.mono ?_
      rintro e w1 ⟨rfl, hP1, hk1⟩
      have c7 : w1.cell? ⟨y, 7, none⟩ = some (.bool false) := by rw [← ha]; exact hP1.cells.2.2.2.2.2.2.2.1
      clear ha
      go_wp2_with fail
      go_ret
      exact .of hP1 (.own hk1)
    | true =>
      obtain ⟨R, hR⟩ : ∃ R, s.save d (manB s.half s.st.fin s.many) = R := ⟨_, rfl⟩
      have e1 : s.flush d = ({ R.1 with added := decide (R.2.2 ≠ 0) }, R.2.1, R.2.2) := by
        unfold Sp.flush
        rw [if_neg (by rw [hw]; decide), if_neg (by rw [ha]; decide)]
        simp only [hR]
      have hadd : R.1.added = true := by rw [← hR, Sp.save_added, ha]
      have hhf : R.1.half = s.half := by rw [← hR, Sp.save_half]
      have hmn : R.1.many = s.many := by rw [← hR, Sp.save_many]
      have HF := Lib.hid e1
      clear e1
      go_enter Try.func60, Try.ntmps60
      go_wp2_with fail
      refine cw.mono ?_
      rintro e w1 ⟨rfl, hP1, hk1⟩
      have c7 : w1.cell? ⟨y, 7, none⟩ = some (.bool true) := by rw [← ha]; exact hP1.cells.2.2.2.2.2.2.2.1
      have HA := Lib.hid ha
      clear ha
      go_wp2_with fail
      have hs1 : SpS w w1.drew y fp slp stp fp slp stp := (SpS.own hk1).trans (.new (Kept.drew [] w1))
      have hPd := hP1.new (Kept.drew [] w1)
      obtain ⟨-, -, c2, -, -, c5, c6, -⟩ := hPd.cells
      have csv := spoolSave_any hPd s.half s.st.fin s.many h1 h2 h3 hnw htn hfi hwk
      rw [hR] at csv
      have HR := Lib.hid hR
      clear hR c7 hP1
      refine wp_region_calm (S := (fun W => W.cell? ⟨y, 2, none⟩ = some (.pointer (some ⟨zt, 0, none⟩)) ∧ W.cell? ⟨y, 5, none⟩ = some (.int .i64 s.half) ∧ W.cell? ⟨y, 6, none⟩ = some (.int .i64 s.many))) (by kernel_rfl) ⟨c2, c5, c6⟩ (fun hHeld => ?_)
      refine wpAnyH_take (i := 0) (v := ?_) (by simp only [List.getElem?_toArray, List.getElem?_cons_zero]; rfl) (by kernel_rfl) (by kernel_rfl) (by kernel_rfl) (by exact fun _ _ _ h => h) (Or.inl ⟨by rfl, ?_⟩) hHeld ?_
      rotate_left
      · intro w hSw
        try dsimp only at hSw
        go_simp
        all_goals with_reducible rfl
      try simp only [Act.put, List.setIfInBounds_toArray, List.set_cons_zero, List.set_cons_succ]
      refine wpAnyH_take (i := 1) (v := ?_) (by simp only [List.getElem?_toArray, List.getElem?_cons_succ, List.getElem?_cons_zero]; rfl) (by kernel_rfl) (by kernel_rfl) (by kernel_rfl) (by exact fun _ _ _ h => h) (Or.inl ⟨by rfl, ?_⟩) hHeld ?_
      rotate_left
      · intro w hSw
        try dsimp only at hSw
        go_simp
        all_goals with_reducible rfl
      try simp only [Act.put, List.setIfInBounds_toArray, List.set_cons_zero, List.set_cons_succ]
      refine wpAnyH_take (i := 2) (v := ?_) (by simp only [List.getElem?_toArray, List.getElem?_cons_succ, List.getElem?_cons_zero]; rfl) (by kernel_rfl) (by kernel_rfl) (by kernel_rfl) (by exact fun _ _ _ h => h) (Or.inl ⟨by rfl, ?_⟩) hHeld ?_
      rotate_left
      · intro w hSw
        try dsimp only at hSw
        go_simp
        all_goals with_reducible rfl
      try simp only [Act.put, List.setIfInBounds_toArray, List.set_cons_zero, List.set_cons_succ]
      refine wpAnyH_take (i := 3) (v := ?_) (by simp only [List.getElem?_toArray, List.getElem?_cons_succ, List.getElem?_cons_zero]; rfl) (by kernel_rfl) (by kernel_rfl) (by kernel_rfl) (by exact fun _ _ _ h => h) (Or.inl ⟨by rfl, ?_⟩) hHeld ?_
      rotate_left
      · intro w hSw
        try dsimp only at hSw
        go_simp
        all_goals with_reducible rfl
      try simp only [Act.put, List.setIfInBounds_toArray, List.set_cons_zero, List.set_cons_succ]
      refine wpAnyH_take (i := 4) (v := ?_) (by simp only [List.getElem?_toArray, List.getElem?_cons_succ, List.getElem?_cons_zero]; rfl) (by kernel_rfl) (by kernel_rfl) (by kernel_rfl) (by exact fun _ _ _ h => h) (Or.inl ⟨by rfl, ?_⟩) hHeld ?_
      rotate_left
      · intro w hSw
        try dsimp only at hSw
        obtain ⟨s0, s1, s2⟩ := hSw
        go_simp
        all_goals with_reducible rfl
      try simp only [Act.put, List.setIfInBounds_toArray, List.set_cons_zero, List.set_cons_succ]
      refine wpAnyH_take (i := 5) (v := ?_) (by simp only [List.getElem?_toArray, List.getElem?_cons_succ, List.getElem?_cons_zero]; rfl) (by kernel_rfl) (by kernel_rfl) (by kernel_rfl) (by exact fun _ _ _ h => h) (Or.inl ⟨by rfl, ?_⟩) hHeld ?_
      rotate_left
      · intro w hSw
        try dsimp only at hSw
        go_simp
        all_goals with_reducible rfl
      try simp only [Act.put, List.setIfInBounds_toArray, List.set_cons_zero, List.set_cons_succ]
      refine wpAnyH_take (i := 6) (v := ?_) (by simp only [List.getElem?_toArray, List.getElem?_cons_succ, List.getElem?_cons_zero]; rfl) (by kernel_rfl) (by kernel_rfl) (by kernel_rfl) (by exact fun _ _ _ h => h) (Or.inl ⟨by rfl, ?_⟩) hHeld ?_
      rotate_left
      · intro w hSw
        try dsimp only at hSw
        go_simp
        all_goals with_reducible rfl
      try simp only [Act.put, List.setIfInBounds_toArray, List.set_cons_zero, List.set_cons_succ]
      refine wpAnyH_take (i := 7) (v := ?_) (by simp only [List.getElem?_toArray, List.getElem?_cons_succ, List.getElem?_cons_zero]; rfl) (by kernel_rfl) (by kernel_rfl) (by kernel_rfl) (by exact fun _ _ _ h => h) (Or.inl ⟨by rfl, ?_⟩) hHeld ?_
      rotate_left
      · intro w hSw
        try dsimp only at hSw
        go_simp
        all_goals with_reducible rfl
      try simp only [Act.put, List.setIfInBounds_toArray, List.set_cons_zero, List.set_cons_succ]
      refine wpAnyH_take (i := 8) (v := ?_) (by simp only [List.getElem?_toArray, List.getElem?_cons_succ, List.getElem?_cons_zero]; rfl) (by kernel_rfl) (by kernel_rfl) (by kernel_rfl) (by exact fun _ _ _ h => h) (Or.inl ⟨by rfl, ?_⟩) hHeld ?_
      rotate_left
      · intro w hSw
        try dsimp only at hSw
        obtain ⟨s0, s1, s2⟩ := hSw
        go_simp
        all_goals with_reducible rfl
      try simp only [Act.put, List.setIfInBounds_toArray, List.set_cons_zero, List.set_cons_succ]
      refine wpAnyH_take (i := 10) (v := ?_) (by simp only [List.getElem?_toArray, List.getElem?_cons_succ, List.getElem?_cons_zero]; rfl) (by kernel_rfl) (by kernel_rfl) (by kernel_rfl) (by exact fun _ _ _ h => h) (Or.inl ⟨by rfl, ?_⟩) hHeld ?_
      rotate_left
      · intro w hSw
        try dsimp only at hSw
        go_simp
        all_goals with_reducible rfl
      try simp only [Act.put, List.setIfInBounds_toArray, List.set_cons_zero, List.set_cons_succ]
      refine wpAnyH_take (i := 11) (v := ?_) (by simp only [List.getElem?_toArray, List.getElem?_cons_succ, List.getElem?_cons_zero]; rfl) (by kernel_rfl) (by kernel_rfl) (by kernel_rfl) (by exact fun _ _ _ h => h) (Or.inl ⟨by rfl, ?_⟩) hHeld ?_
      rotate_left
      · intro w hSw
        try dsimp only at hSw
        go_simp
        all_goals with_reducible rfl
      try simp only [Act.put, List.setIfInBounds_toArray, List.set_cons_zero, List.set_cons_succ]
      refine wpAnyH_take (i := 12) (v := ?_) (by simp only [List.getElem?_toArray, List.getElem?_cons_succ, List.getElem?_cons_zero]; rfl) (by kernel_rfl) (by kernel_rfl) (by kernel_rfl) (by exact fun _ _ _ h => h) (Or.inl ⟨by rfl, ?_⟩) hHeld ?_
      rotate_left
      · intro w hSw
        try dsimp only at hSw
        go_simp
        all_goals with_reducible rfl
      try simp only [Act.put, List.setIfInBounds_toArray, List.set_cons_zero, List.set_cons_succ]
      refine wpAnyH_take (i := 13) (v := ?_) (by simp only [List.getElem?_toArray, List.getElem?_cons_succ, List.getElem?_cons_zero]; rfl) (by kernel_rfl) (by kernel_rfl) (by kernel_rfl) (by exact fun _ _ _ h => h) (Or.inl ⟨by rfl, ?_⟩) hHeld ?_
      rotate_left
      · intro w hSw
        try dsimp only at hSw
        obtain ⟨s0, s1, s2⟩ := hSw
        go_simp
        all_goals with_reducible rfl
      try simp only [Act.put, List.setIfInBounds_toArray, List.set_cons_zero, List.set_cons_succ]
      refine wpAnyH_ready (rs := [9]) (by kernel_rfl) (by simp) ?_
      refine AllReadyH.cons (by simp only [List.getElem?_toArray, List.getElem?_cons_succ, List.getElem?_cons_zero]; rfl) (fun K hK => ?_) AllReadyH.nil
      go_simp
      refine (stripEnd_any hPd.st).mono ?_
      rintro e w4 ⟨rfl, rfl⟩
      go_wp2_with fail
      refine hK.out _ _ ?_ (fun hHeld2 => ?_)
      · exact ⟨c2, c5, c6⟩
      clear hK K hHeld
      have hHeld := hHeld2
      clear hHeld2
      try simp only [Act.put, List.setIfInBounds_toArray, List.set_cons_zero, List.set_cons_succ]
      refine wpAnyH_take (i := 14) (v := ?_) (by simp only [List.getElem?_toArray, List.getElem?_cons_succ, List.getElem?_cons_zero]; rfl) (by kernel_rfl) (by kernel_rfl) (by kernel_rfl) (by exact fun _ _ _ h => h) (Or.inl ⟨by rfl, ?_⟩) hHeld ?_
      rotate_left
      · intro w hSw
        try dsimp only at hSw
        go_simp
        all_goals with_reducible rfl
      try simp only [Act.put, List.setIfInBounds_toArray, List.set_cons_zero, List.set_cons_succ]
      refine wpAnyH_ready (rs := [15]) (by kernel_rfl) (by simp) ?_
      refine AllReadyH.cons (by simp only [List.getElem?_toArray, List.getElem?_cons_succ, List.getElem?_cons_zero]; rfl) (fun K hK => ?_) AllReadyH.nil
      go_simp
      refine csv.mono ?_
      rintro e w6 ⟨rfl, fp6, slp6, stp6, hP6, hS6⟩
      obtain ⟨-, -, d2, -, -, d5, d6, -⟩ := hP6.cells
      rw [hhf] at d5
      rw [hmn] at d6
      go_wp2_with fail
      refine hK.out _ _ ?_ (fun hHeld2 => ?_)
      · exact ⟨d2, d5, d6⟩
      clear hK K hHeld
      have hHeld := hHeld2
      clear hHeld2
      try simp only [Act.put, List.setIfInBounds_toArray, List.set_cons_zero, List.set_cons_succ]
      refine wpAnyH_take (i := 16) (v := ?_) (by simp only [List.getElem?_toArray, List.getElem?_cons_succ, List.getElem?_cons_zero]; rfl) (by kernel_rfl) (by kernel_rfl) (by kernel_rfl) (by exact fun _ _ _ h => h) (Or.inl ⟨by rfl, ?_⟩) hHeld ?_
      rotate_left
      · intro w hSw
        try dsimp only at hSw
        go_simp
        all_goals with_reducible rfl
      try simp only [Act.put, List.setIfInBounds_toArray, List.set_cons_zero, List.set_cons_succ]
      refine wpAnyH_calm (by kernel_rfl) ?_ _
      clear hHeld csv HR cw
      have hs6 := hs1.trans hS6
      obtain ⟨Rs, Rd, Rn⟩ := R
      simp only at hP6 HF hadd ⊢
      obtain ⟨-, -, -, -, -, -, -, c7, -, cf⟩ := hP6.cells
      rw [hadd] at c7
      have g8 := added_put hP6 (decide (Rn ≠ 0))
      have FIN : ∀ e, e = .returned (.int .i64 Rn) → SpPZ w y zs zt a fp slp stp (s.flush d).1 (s.flush d).2.1 (s.flush d).2.2 e (w6.setCell ⟨y, 7, none⟩ (.bool (decide (Rn ≠ 0)))) := fun e he => by
        subst he
        rw [HF.out]
        exact .of g8.1 (hs6.trans (.own g8.2))
      clear HF g8 hP6 hs6 hS6 hadd c2 c5 c6
      by_cases hr0 : Rn = 0
      · subst hr0
        rw [show decide ((0 : Int) ≠ 0) = false from rfl] at FIN
        have FN := Lib.hid FIN
        clear FIN
        go_wp2_with fail
        go_ret
        exact FN.out _ rfl
      · have hrb : (Rn != 0) = true := by simpa using hr0
        rw [show decide (Rn ≠ 0) = true by simpa using hr0] at FIN
        have FN := Lib.hid FIN
        clear FIN hr0
        go_wp2_with fail
        go_ret
        exact FN.out _ rfl
end
end Go.Proofs.Ytbnflbkaogpnbaa
