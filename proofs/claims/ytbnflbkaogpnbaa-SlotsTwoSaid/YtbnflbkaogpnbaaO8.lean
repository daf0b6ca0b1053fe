/- SlotsTwo: the walk. -/
import Derived.Test.YtbnflbkaogpnbaaO7
import Derived.Test.YtbnflbkaogpnbaaVA
namespace Go.Proofs.Ytbnflbkaogpnbaa
set_option linter.unusedVariables false
open Go.RowKit

/-- Behind k Saves. -/
structure TwInv (k : Nat) (s : Sl) (d : Dev) : Prop where
  first : s.first = 1
  turn : s.turn = k
  which : s.which = k % 2
  calm : d.Calm
  sure : d.Sure d.secs
  on : SlOn s d
  len : d.secs.length = 4
  low : d.secs[0]? = some zeros
  high : d.secs[3]? = some zeros
  works : d.works = 2 * k

theorem TwInv.start : TwInv 0 ⟨1, 0, 0, []⟩ (Dev.new 4) := ⟨rfl, rfl, rfl, Dev.Calm.new 4, Dev.Sure.new 4, SlOn.new (by omega), rfl, rfl, rfl, rfl⟩

/-- The sector that is not the newer one. -/
theorem Sl.In.old {s : Sl} {x y : Blk} (h : s.In x y) : ∀ b, (s.which = 0 → x ≠ slotB (s.turn + 1) b) ∧ (s.which = 1 → y ≠ slotB (s.turn + 1) b) := fun b => by
  have ht := h.turn
  have hz : ∀ {c : List UInt8}, zeros ≠ slotB (s.turn + 1) c := fun e => slotB_ne_zeros _ (by omega) (by omega) e.symm
  have ho : ∀ {v}, Older s.turn v → v ≠ slotB (s.turn + 1) b := fun {v} ho e => by
    rcases ho with rfl | ⟨u, c, rfl, h1, h2, _⟩
    · exact hz e
    · have := slotB_turn (by omega) (by omega) e
      omega
  by_cases h0 : s.turn = 0
  · obtain ⟨_, _, e1, e2⟩ := h.zero h0
    exact ⟨fun _ => by rw [e1]; exact hz, fun _ => by rw [e2]; exact hz⟩
  · obtain ⟨p1, p2⟩ := h.pos (by omega)
    have hn := h.newer
    unfold Sl.which
    rw [if_neg h0]
    exact ⟨fun e => ho (p2 (by omega)).2, fun e => ho (p1 (by omega)).2⟩

theorem TwInv.next {k : Nat} {s : Sl} {d d' : Dev} (h : TwInv k s d) {b : List UInt8} (h1 : SlOn (s.next b) d') (h2 : d'.Calm) (h3 : d'.Sure d'.secs) (h4 : d'.secs = d.secs.set (s.first + s.which) (slotB (s.turn + 1) b)) (h5 : d'.works = d.works + 2) : TwInv (k + 1) (s.next b) d' := by
  have hw : s.which ≤ 1 := by rw [h.which]; omega
  refine ⟨h.first, by show s.turn + 1 = _; rw [h.turn], ?_, h2, h3, h1, by rw [h4, List.length_set, h.len], ?_, ?_, by rw [h5, h.works]; push_cast; omega⟩
  · show (if s.turn + 1 = 0 then 0 else 1 - s.which) = _
    rw [if_neg (by omega), h.which]
    omega
  · rw [h4, List.getElem?_set_ne (by rw [h.first]; omega), h.low]
  · rw [h4, List.getElem?_set_ne (by rw [h.first]; omega), h.high]

/-- What stands in the two sectors behind a Save. -/
theorem two_secs {k : Nat} {s : Sl} {d d' : Dev} {x y : Blk} {b : List UInt8} (h : TwInv k s d) (hin : s.In x y) (hx : d.secs[1]? = some x) (hy : d.secs[2]? = some y) (hS : d'.secs = d.secs.set (s.first + s.which) (slotB (s.turn + 1) b)) (_hk : k ≤ 1000) :
    ∃ X Y, d'.secs[1]? = some X ∧ d'.secs[2]? = some Y ∧ decide (x = X) = decide (k % 2 = 1) ∧ decide (y = Y) = decide (k % 2 = 0) := by
  have hw := h.which; have hf := h.first; have hl := h.len
  obtain ⟨o1, o2⟩ := hin.old b
  rcases (by omega : k % 2 = 0 ∨ k % 2 = 1) with e | e
  · refine ⟨slotB (s.turn + 1) b, y, by rw [hS, hf, hw, e, List.getElem?_set_self (by omega)], by rw [hS, hf, hw, e, List.getElem?_set_ne (by omega), hy], ?_, by simp [e]⟩
    rw [decide_eq_false (o1 (by omega)), e]
    rfl
  · refine ⟨x, slotB (s.turn + 1) b, by rw [hS, hf, hw, e, List.getElem?_set_ne (by omega), hx], by rw [hS, hf, hw, e, List.getElem?_set_self (by omega)], by simp [e], ?_⟩
    rw [decide_eq_false (o2 (by omega)), e]
    rfl

theorem made_at (w : World) (m : Nat) (hm : w.heap.size = m) : SlAt (w.alloc (.cells (madeCells #[.int .u8 0] 128) 5)) (some ⟨m, 0, none⟩) 128 128 (u8vs (List.replicate 128 0)) := by
  subst hm; exact made_sl w 128 (by unfold maxLen; omega)

def TwRel (w : World) (z a : Nat) (i : Value) (wr : World) : Prop :=
  ∃ (k : Nat) (s : Sl) (d : Dev) (F : List Nat), i = .int .i64 k ∧ k ≤ 20 ∧ TdF w wr z a F s d ∧ TwInv k s d

set_option maxHeartbeats 4000000 in
set_option maxRecDepth 100000 in
theorem slotsTwo_walk (w : World) (A : Option Addr) (n c : Nat) (l : List Part) (hl : BytessAt w A n c l) :
    Calls Try.prog 15 #[.slice A n c] w (TruePost w) := by
  obtain ⟨j0, hj0, ju0, ju1, ju2⟩ := info_parts info_u8
  have hmk := fun wx : World => run_make (P := Try.prog) wx 34 5 j0 _ Try.underlying34 hj0 ju0 .i64 .i64 128 128 (by omega) (Int.le_refl _) (by rw [ju2]; omega) (by omega)
  simp only [ju1, show Int.toNat 128 = 128 from rfl, Nat.mul_one, show (Value.int .u8 0).cells = #[.int .u8 0] from rfl] at hmk
  have hln := hl.le; have hlm := hl.max
  unfold maxLen at hlm
  go_enter Try.func15, Try.ntmps15
  go_wp2_with fail
  refine (new_any 4 _ (by omega) (by omega)).mono ?_
  rintro e w1 ⟨a, f1, rfl, hD1, hA1, hN1⟩
  go_wp2_with fail
  refine (slots_new (n := 4) (f := 1) hD1 hA1 hN1 (by omega)).mono ?_
  rintro e w2 ⟨z, F, A2, c2, rfl, h2⟩
  clear hD1 hA1 hN1
  go_wp2_with fail
  go_loopw [8] (fun i wr => TwRel w z a i wr) (fun i _ => 20 - (intOf i).toNat)
  case atStart => exact ⟨0, _, _, F, rfl, by omega, h2, TwInv.start⟩
  case round =>
    obtain ⟨k, s, d, F3, rfl, hk, h3, hi⟩ := hrel
    clear h2
    by_cases hlt : k < n ∧ k < 20
    · have i1 : (k : Int) < (n : Int) := by omega
      have i2 : (k : Int) < 20 := by omega
      obtain ⟨b, o, p, hA, hbl, hpl, hpa0, hcx0⟩ := hl.at_ hlt.1
      have hpa : p.At wr := hpa0.kept h3.kept (by simp)
      have hpb : ∀ q, p.A = some q → 0 < p.n → q.block < w.heap.size := fun q e hq => hpa0.1.lt' hq e
      have hcx := (h3.kept.cell (p := ⟨b, o + k, none⟩) hbl (by simp)).trans hcx0
      obtain ⟨ml, hmin, hml1, hml2, hml3, hsl⟩ := part_low hpa 100
      replace hmin : min (p.n : Int) 100 = (ml : Nat) := hmin
      have hple := hpa.1.le; have hpmx := hpa.1.max; have hpn := hpa.2
      unfold maxLen at hpmx
      subst hA
      obtain ⟨x, y, hx, hy, hin⟩ := hi.on.pair
      rw [hi.first] at hx hy
      obtain ⟨txt, htxt⟩ : ∃ txt, p.xs.take 100 = txt := ⟨_, rfl⟩
      rw [htxt] at hml3 hsl
      have hsl0 := hsl 0
      rw [World.drewN_zero] at hsl0
      obtain ⟨fp, hDv, hFp⟩ := h3.dv
      have z1 : d.at_ 1 = 0 := at_live hi.calm.dead (i := 1) (by rw [hi.len]; omega)
      have z2 : d.at_ 2 = 0 := at_live hi.calm.dead (i := 2) (by rw [hi.len]; omega)
      have hwk := hi.works
      obtain ⟨W0, hW0⟩ : ∃ W0, d.works = W0 := ⟨_, rfl⟩
      have hW1 : 0 ≤ W0 ∧ W0 ≤ 1000 := by omega
      have cwk := works_dv hDv
      have HI := Lib.hid hi; have HW0 := Lib.hid hW0; have HX := Lib.hid hx; have HY := Lib.hid hy; have HML := Lib.hid hml3
      have cr1 := read_dv hDv 1 z1 (b := x) hx
      clear hpl hpa hpa0 hcx0 htxt hsl hwk hW0 hx hy hml3 z1 hi
      go_wp2_with fail
      refine cr1.mono ?_
      rintro e w3 ⟨A3, c3, rfl, hown3, hbel3⟩
      have k3 := Kept.of_below (F := []) hbel3
      have hA3 := (ClonePost.sl hown3).2
      have hs3 := (ClonePost.sl hown3).1
      have cr2 := read_dv (hDv.new_kept k3) 2 z2 (b := y) HY.out
      clear hown3 hbel3 cr1 z2
      go_wp2_with fail
      refine cr2.mono ?_
      rintro e w4 ⟨A4, c4, rfl, hown4, hbel4⟩
      have k34 := Kept.of_below (F := []) hbel4
      have k4 := k3.trans k34
      have hA4 := (ClonePost.sl hown4).2
      have hs4 := (ClonePost.sl hown4).1
      have h4 := h3.next k4
      have hlt3 := h3.at_.lt
      have cwk := works_dv (hDv.new_kept k4)
      rw [HW0.out] at cwk
      replace hs3 := hs3.kept k34 (by simp)
      replace hcx := (k4.cell (p := ⟨b, o + k, none⟩) (Nat.lt_of_lt_of_le hbl h3.kept.size) (by simp)).trans hcx
      replace hsl0 := hsl0.kept k4 (by simp)
      clear hown4 hbel4 cr2 k34 hDv h3
      go_wp2_with fail
      refine cwk.mono ?_
      rintro e w4' ⟨rfl, rfl⟩
      clear cwk
      go_wp2_with fail
      have k3s := k3.size; have k4s := k4.size
      have hd4 := h4.next (Kept.drew [] w4)
      have hcxd : w4.drew.cell? ⟨b, o + k, none⟩ = some (.slice p.A p.n p.c) := hcx
      have hsld := hsl0.kept (Kept.drew [] w4) (by simp)
      have hs3d := hs3.kept (Kept.drew [] w4) (by simp)
      have hs4d := hs4.kept (Kept.drew [] w4) (by simp)
      have hbF : b ∉ F3 := fun hm => by have := hd4.low b hm; omega
      have hF3 : ∀ j ∈ F3, j < wr.heap.size := fun j hj => hlt3 j hj
      have hturn : s.turn + 1 ≤ 1000000 := by rw [HI.out.turn]; omega
      have hlen : txt.length ≤ 100 := by rw [HML.out]; exact hml2
      have i3 : ml ≤ p.c := by omega
      have i4 : (ml : Int) ≤ (p.c : Int) := by omega
      have hwv : IntKind.i64.wrap (W0 + 2) = W0 + 2 := by rw [IntKind.wrap_i64]; omega
      have hkv : IntKind.i64.wrap ((k : Int) + 1) = (k : Int) + 1 := by rw [IntKind.wrap_i64]; omega
      clear hcx hsl0 hs3 hs4 h4
      refine wp_region_calm (S := (fun W => W.cell? ⟨b, o + k, none⟩ = some (.slice p.A p.n p.c))) (by kernel_rfl) hcxd (fun hHeld => ?_)
      refine wpAnyH_take (i := 0) (v := ?_) (by simp only [List.getElem?_toArray, List.getElem?_cons_zero]; rfl) (by kernel_rfl) (by kernel_rfl) (by kernel_rfl) (by exact fun _ _ _ h => h) (Or.inl ⟨by rfl, ?_⟩) hHeld ?_
      rotate_left
      · intro w hSw
        try dsimp only at hSw
        go_simp
        all_goals with_reducible rfl
      try simp only [Act.put, List.setIfInBounds_toArray, List.set_cons_zero, List.set_cons_succ]
      refine wpAnyH_take (i := 1) (v := ?_) (by simp only [List.getElem?_toArray, List.getElem?_cons_succ, List.getElem?_cons_zero]; rfl) (by kernel_rfl) (by kernel_rfl) (by kernel_rfl) (by exact fun _ _ _ h => h) (Or.inl ⟨by rfl, ?_⟩) hHeld ?_
      rotate_left
      · intro w hSw
        try dsimp only at hSw
        go_simp
        all_goals with_reducible rfl
      try simp only [Act.put, List.setIfInBounds_toArray, List.set_cons_zero, List.set_cons_succ]
      refine wpAnyH_take (i := 2) (v := ?_) (by simp only [List.getElem?_toArray, List.getElem?_cons_succ, List.getElem?_cons_zero]; rfl) (by kernel_rfl) (by kernel_rfl) (by kernel_rfl) (by exact fun _ _ _ h => h) (Or.inl ⟨by rfl, ?_⟩) hHeld ?_
      rotate_left
      · intro w hSw
        try dsimp only at hSw
        go_simp
        all_goals with_reducible rfl
      try simp only [Act.put, List.setIfInBounds_toArray, List.set_cons_zero, List.set_cons_succ]
      refine wpAnyH_take (i := 3) (v := ?_) (by simp only [List.getElem?_toArray, List.getElem?_cons_succ, List.getElem?_cons_zero]; rfl) (by kernel_rfl) (by kernel_rfl) (by kernel_rfl) (by exact fun _ _ _ h => h) (Or.inl ⟨by rfl, ?_⟩) hHeld ?_
      rotate_left
      · intro w hSw
        try dsimp only at hSw
        go_simp
        all_goals with_reducible rfl
      try simp only [Act.put, List.setIfInBounds_toArray, List.set_cons_zero, List.set_cons_succ]
      refine wpAnyH_take (i := 4) (v := ?_) (by simp only [List.getElem?_toArray, List.getElem?_cons_succ, List.getElem?_cons_zero]; rfl) (by kernel_rfl) (by kernel_rfl) (by kernel_rfl) (by exact fun _ _ _ h => h) (Or.inl ⟨by rfl, ?_⟩) hHeld ?_
      rotate_left
      · intro w hSw
        try dsimp only at hSw
        go_simp
        all_goals with_reducible rfl
      try simp only [Act.put, List.setIfInBounds_toArray, List.set_cons_zero, List.set_cons_succ]
      refine wpAnyH_take (i := 5) (v := ?_) (by simp only [List.getElem?_toArray, List.getElem?_cons_succ, List.getElem?_cons_zero]; rfl) (by kernel_rfl) (by kernel_rfl) (by kernel_rfl) (by exact fun _ _ _ h => h) (Or.inl ⟨by rfl, ?_⟩) hHeld ?_
      rotate_left
      · intro w hSw
        try dsimp only at hSw
        go_simp
        all_goals with_reducible rfl
      try simp only [Act.put, List.setIfInBounds_toArray, List.set_cons_zero, List.set_cons_succ]
      refine wpAnyH_take (i := 6) (v := ?_) (by simp only [List.getElem?_toArray, List.getElem?_cons_succ, List.getElem?_cons_zero]; rfl) (by kernel_rfl) (by kernel_rfl) (by kernel_rfl) (by exact fun _ _ _ h => h) (Or.inl ⟨by rfl, ?_⟩) hHeld ?_
      rotate_left
      · intro w hSw
        try dsimp only at hSw
        go_simp
        all_goals with_reducible rfl
      try simp only [Act.put, List.setIfInBounds_toArray, List.set_cons_zero, List.set_cons_succ]
      refine wpAnyH_take (i := 7) (v := ?_) (by simp only [List.getElem?_toArray, List.getElem?_cons_succ, List.getElem?_cons_zero]; rfl) (by kernel_rfl) (by kernel_rfl) (by kernel_rfl) (by exact fun _ _ _ h => h) (Or.inl ⟨by rfl, ?_⟩) hHeld ?_
      rotate_left
      · intro w hSw
        try dsimp only at hSw
        go_simp
        all_goals with_reducible rfl
      try simp only [Act.put, List.setIfInBounds_toArray, List.set_cons_zero, List.set_cons_succ]
      refine wpAnyH_take (i := 8) (v := ?_) (by simp only [List.getElem?_toArray, List.getElem?_cons_succ, List.getElem?_cons_zero]; rfl) (by kernel_rfl) (by kernel_rfl) (by kernel_rfl) (by exact fun _ _ _ h => h) (Or.inl ⟨by rfl, ?_⟩) hHeld ?_
      rotate_left
      · intro w hSw
        try dsimp only at hSw
        go_simp
        all_goals with_reducible rfl
      try simp only [Act.put, List.setIfInBounds_toArray, List.set_cons_zero, List.set_cons_succ]
      refine wpAnyH_take (i := 9) (v := ?_) (by simp only [List.getElem?_toArray, List.getElem?_cons_succ, List.getElem?_cons_zero]; rfl) (by kernel_rfl) (by kernel_rfl) (by kernel_rfl) (by exact fun _ _ _ h => h) (Or.inl ⟨by rfl, ?_⟩) hHeld ?_
      rotate_left
      · intro w hSw
        try dsimp only at hSw
        go_simp
        all_goals with_reducible rfl
      try simp only [Act.put, List.setIfInBounds_toArray, List.set_cons_zero, List.set_cons_succ]
      refine wpAnyH_take (i := 10) (v := ?_) (by simp only [List.getElem?_toArray, List.getElem?_cons_succ, List.getElem?_cons_zero]; rfl) (by kernel_rfl) (by kernel_rfl) (by kernel_rfl) (by exact fun _ _ _ h => h) (Or.inl ⟨by rfl, ?_⟩) hHeld ?_
      rotate_left
      · intro w hSw
        try dsimp only at hSw
        go_simp
        all_goals with_reducible rfl
      try simp only [Act.put, List.setIfInBounds_toArray, List.set_cons_zero, List.set_cons_succ]
      try simp only [hmin]
      refine wpAnyH_take (i := 11) (v := ?_) (by simp only [List.getElem?_toArray, List.getElem?_cons_succ, List.getElem?_cons_zero]; rfl) (by kernel_rfl) (by kernel_rfl) (by kernel_rfl) (by exact fun _ _ _ h => h) (Or.inl ⟨by rfl, ?_⟩) hHeld ?_
      rotate_left
      · intro w hSw
        try dsimp only at hSw
        go_simp
        all_goals with_reducible rfl
      try simp only [Act.put, List.setIfInBounds_toArray, List.set_cons_zero, List.set_cons_succ]
      refine wpAnyH_ready (rs := [12]) (by kernel_rfl) (by simp) ?_
      refine AllReadyH.cons (by simp only [List.getElem?_toArray, List.getElem?_cons_succ, List.getElem?_cons_zero]; rfl) (fun K hK => ?_) AllReadyH.nil
      go_simp
      refine (hd4.saveC HI.out.on HI.out.calm HI.out.sure hturn p.A ml p.c txt hsld hlen (by rw [HW0.out]; omega)).mono ?_
      rintro e w5 ⟨rfl, d5, F5, h5, ho5, hc5, hq5, hS5, hW5, st5⟩
      have hcx5 := (st5.kept.cell (p := ⟨b, o + k, none⟩) (show b < w4.heap.size by have := hd4.kept.size; exact Nat.lt_of_lt_of_le hbl this) hbF).trans hcxd
      have hs3 := hs3d.kept st5.kept (fun q e hm => by have h7 := hA3 q e; have h8 := hF3 _ hm; omega)
      have hs4 := hs4d.kept st5.kept (fun q e hm => by have h7 := hA4 q e; have h8 := hF3 _ hm; omega)
      have cw5 : Calls Try.prog 33 #[.pointer (some ⟨a, 0, none⟩)] w5 fun e w' => e = .returned (.int .i64 (W0 + 2)) ∧ w5 = w' := by
        obtain ⟨fq, hq, _⟩ := h5.dv
        have h9 := works_dv hq
        rw [hW5, HW0.out] at h9
        exact h9
      have ct5 : Calls Try.prog 54 #[.pointer (some ⟨z, 0, none⟩)] w5 fun e w' => e = .returned (.int .i64 ((k : Int) + 1)) ∧ w5 = w' := by
        have h9 := td_turn h5.at_
        rw [show (((s.next txt).turn : Nat) : Int) = (k : Int) + 1 by show ((s.turn + 1 : Nat) : Int) = _; rw [HI.out.turn]; push_cast; rfl] at h9
        exact h9
      clear hd4 hsld hs3d hs4d st5 hcxd
      go_wp2_with fail
      refine hK.out _ _ ?_ (fun hHeld2 => ?_)
      · exact hcx5
      clear hK K hHeld
      have hHeld := hHeld2
      clear hHeld2
      try simp only [Act.put, List.setIfInBounds_toArray, List.set_cons_zero, List.set_cons_succ]
      refine wpAnyH_take (i := 13) (v := ?_) (by simp only [List.getElem?_toArray, List.getElem?_cons_succ, List.getElem?_cons_zero]; rfl) (by kernel_rfl) (by kernel_rfl) (by kernel_rfl) (by exact fun _ _ _ h => h) (Or.inl ⟨by rfl, ?_⟩) hHeld ?_
      rotate_left
      · intro w hSw
        try dsimp only at hSw
        go_simp
        all_goals with_reducible rfl
      try simp only [Act.put, List.setIfInBounds_toArray, List.set_cons_zero, List.set_cons_succ]
      refine wpAnyH_take (i := 14) (v := ?_) (by simp only [List.getElem?_toArray, List.getElem?_cons_succ, List.getElem?_cons_zero]; rfl) (by kernel_rfl) (by kernel_rfl) (by kernel_rfl) (by exact fun _ _ _ h => h) (Or.inl ⟨by rfl, ?_⟩) hHeld ?_
      rotate_left
      · intro w hSw
        try dsimp only at hSw
        go_simp
        all_goals with_reducible rfl
      try simp only [Act.put, List.setIfInBounds_toArray, List.set_cons_zero, List.set_cons_succ]
      refine wpAnyH_take (i := 15) (v := ?_) (by simp only [List.getElem?_toArray, List.getElem?_cons_succ, List.getElem?_cons_zero]; rfl) (by kernel_rfl) (by kernel_rfl) (by kernel_rfl) (by exact fun _ _ _ h => h) (Or.inl ⟨by rfl, ?_⟩) hHeld ?_
      rotate_left
      · intro w hSw
        try dsimp only at hSw
        go_simp
        all_goals with_reducible rfl
      try simp only [Act.put, List.setIfInBounds_toArray, List.set_cons_zero, List.set_cons_succ]
      refine wpAnyH_take (i := 17) (v := ?_) (by simp only [List.getElem?_toArray, List.getElem?_cons_succ, List.getElem?_cons_zero]; rfl) (by kernel_rfl) (by kernel_rfl) (by kernel_rfl) (by exact fun _ _ _ h => h) (Or.inl ⟨by rfl, ?_⟩) hHeld ?_
      rotate_left
      · intro w hSw
        try dsimp only at hSw
        go_simp
        all_goals with_reducible rfl
      try simp only [Act.put, List.setIfInBounds_toArray, List.set_cons_zero, List.set_cons_succ]
      refine wpAnyH_take (i := 18) (v := ?_) (by simp only [List.getElem?_toArray, List.getElem?_cons_succ, List.getElem?_cons_zero]; rfl) (by kernel_rfl) (by kernel_rfl) (by kernel_rfl) (by exact fun _ _ _ h => h) (Or.inl ⟨by rfl, ?_⟩) hHeld ?_
      rotate_left
      · intro w hSw
        try dsimp only at hSw
        go_simp
        all_goals with_reducible rfl
      try simp only [Act.put, List.setIfInBounds_toArray, List.set_cons_zero, List.set_cons_succ]
      try simp only [hwv]
      refine wpAnyH_ready (rs := [16]) (by kernel_rfl) (by simp) ?_
      refine AllReadyH.cons (by simp only [List.getElem?_toArray, List.getElem?_cons_succ, List.getElem?_cons_zero]; rfl) (fun K hK => ?_) AllReadyH.nil
      go_simp
      refine cw5.mono ?_
      rintro e w5' ⟨rfl, rfl⟩
      go_wp2_with fail
      refine hK.out _ _ ?_ (fun hHeld2 => ?_)
      · exact hcx5
      clear hK K hHeld
      have hHeld := hHeld2
      clear hHeld2
      try simp only [Act.put, List.setIfInBounds_toArray, List.set_cons_zero, List.set_cons_succ]
      refine wpAnyH_take (i := 19) (v := ?_) (by simp only [List.getElem?_toArray, List.getElem?_cons_succ, List.getElem?_cons_zero]; rfl) (by kernel_rfl) (by kernel_rfl) (by kernel_rfl) (by exact fun _ _ _ h => h) (Or.inl ⟨by rfl, ?_⟩) hHeld ?_
      rotate_left
      · intro w hSw
        try dsimp only at hSw
        go_simp
        all_goals with_reducible rfl
      try simp only [Act.put, List.setIfInBounds_toArray, List.set_cons_zero, List.set_cons_succ]
      refine wpAnyH_take (i := 20) (v := ?_) (by simp only [List.getElem?_toArray, List.getElem?_cons_succ, List.getElem?_cons_zero]; rfl) (by kernel_rfl) (by kernel_rfl) (by kernel_rfl) (by exact fun _ _ _ h => h) (Or.inl ⟨by rfl, ?_⟩) hHeld ?_
      rotate_left
      · intro w hSw
        try dsimp only at hSw
        go_simp
        all_goals with_reducible rfl
      try simp only [Act.put, List.setIfInBounds_toArray, List.set_cons_zero, List.set_cons_succ]
      refine wpAnyH_take (i := 21) (v := ?_) (by simp only [List.getElem?_toArray, List.getElem?_cons_succ, List.getElem?_cons_zero]; rfl) (by kernel_rfl) (by kernel_rfl) (by kernel_rfl) (by exact fun _ _ _ h => h) (Or.inl ⟨by rfl, ?_⟩) hHeld ?_
      rotate_left
      · intro w hSw
        try dsimp only at hSw
        go_simp
        all_goals with_reducible rfl
      try simp only [Act.put, List.setIfInBounds_toArray, List.set_cons_zero, List.set_cons_succ]
      refine wpAnyH_take (i := 22) (v := ?_) (by simp only [List.getElem?_toArray, List.getElem?_cons_succ, List.getElem?_cons_zero]; rfl) (by kernel_rfl) (by kernel_rfl) (by kernel_rfl) (by exact fun _ _ _ h => h) (Or.inl ⟨by rfl, ?_⟩) hHeld ?_
      rotate_left
      · intro w hSw
        try dsimp only at hSw
        go_simp
        all_goals with_reducible rfl
      try simp only [Act.put, List.setIfInBounds_toArray, List.set_cons_zero, List.set_cons_succ]
      refine wpAnyH_take (i := 24) (v := ?_) (by simp only [List.getElem?_toArray, List.getElem?_cons_succ, List.getElem?_cons_zero]; rfl) (by kernel_rfl) (by kernel_rfl) (by kernel_rfl) (by exact fun _ _ _ h => h) (Or.inl ⟨by rfl, ?_⟩) hHeld ?_
      rotate_left
      · intro w hSw
        try dsimp only at hSw
        go_simp
        all_goals with_reducible rfl
      try simp only [Act.put, List.setIfInBounds_toArray, List.set_cons_zero, List.set_cons_succ]
      refine wpAnyH_take (i := 25) (v := ?_) (by simp only [List.getElem?_toArray, List.getElem?_cons_succ, List.getElem?_cons_zero]; rfl) (by kernel_rfl) (by kernel_rfl) (by kernel_rfl) (by exact fun _ _ _ h => h) (Or.inl ⟨by rfl, ?_⟩) hHeld ?_
      rotate_left
      · intro w hSw
        try dsimp only at hSw
        go_simp
        all_goals with_reducible rfl
      try simp only [Act.put, List.setIfInBounds_toArray, List.set_cons_zero, List.set_cons_succ]
      try simp only [hkv]
      refine wpAnyH_ready (rs := [23]) (by kernel_rfl) (by simp) ?_
      refine AllReadyH.cons (by simp only [List.getElem?_toArray, List.getElem?_cons_succ, List.getElem?_cons_zero]; rfl) (fun K hK => ?_) AllReadyH.nil
      go_simp
      refine ct5.mono ?_
      rintro e w5' ⟨rfl, rfl⟩
      go_wp2_with fail
      refine hK.out _ _ ?_ (fun hHeld2 => ?_)
      · exact hcx5
      clear hK K hHeld
      have hHeld := hHeld2
      clear hHeld2
      try simp only [Act.put, List.setIfInBounds_toArray, List.set_cons_zero, List.set_cons_succ]
      refine wpAnyH_take (i := 26) (v := ?_) (by simp only [List.getElem?_toArray, List.getElem?_cons_succ, List.getElem?_cons_zero]; rfl) (by kernel_rfl) (by kernel_rfl) (by kernel_rfl) (by exact fun _ _ _ h => h) (Or.inl ⟨by rfl, ?_⟩) hHeld ?_
      rotate_left
      · intro w hSw
        try dsimp only at hSw
        go_simp
        all_goals with_reducible rfl
      try simp only [Act.put, List.setIfInBounds_toArray, List.set_cons_zero, List.set_cons_succ]
      refine wpAnyH_take (i := 27) (v := ?_) (by simp only [List.getElem?_toArray, List.getElem?_cons_succ, List.getElem?_cons_zero]; rfl) (by kernel_rfl) (by kernel_rfl) (by kernel_rfl) (by exact fun _ _ _ h => h) (Or.inl ⟨by rfl, ?_⟩) hHeld ?_
      rotate_left
      · intro w hSw
        try dsimp only at hSw
        go_simp
        all_goals with_reducible rfl
      try simp only [Act.put, List.setIfInBounds_toArray, List.set_cons_zero, List.set_cons_succ]
      refine wpAnyH_calm (by kernel_rfl) ?_ _
      clear hHeld hcx5 cw5 ct5 hbF hF3 hwv hkv k3 k4
      have hpar : k % 2 = 0 ∨ k % 2 = 1 := by omega
      rcases hpar with hp | hp
      · skip
        obtain ⟨X', Y', e1, e2, e3, e4⟩ := two_secs HI.out hin HX.out HY.out hS5 (by omega)
        rw [show decide (k % 2 = 1) = false by simp [hp]] at e3
        rw [show decide (k % 2 = 0) = true by simp [hp]] at e4
        have hp2 : (k : Int) % 2 = 0 := by omega
        have hI6 := HI.out.next ho5 hc5 hq5 hS5 hW5
        have hz0 : d5.secs[0]? = some zeros := hI6.low
        have hz3 : d5.secs[3]? = some zeros := hI6.high
        have hl5 : d5.secs.length = 4 := hI6.len
        have y1 : d5.at_ 1 = 0 := at_live hc5.dead (i := 1) (by omega)
        have y2 : d5.at_ 2 = 0 := at_live hc5.dead (i := 2) (by omega)
        have y0 : d5.at_ 0 = 0 := at_live hc5.dead (i := 0) (by omega)
        have y3 : d5.at_ 3 = 0 := at_live hc5.dead (i := 3) (by omega)
        obtain ⟨fq, hDq, hFq⟩ := h5.dv
        have r1 := fun W (hk : Kept [] w5 W) => read_dv (hDq.new_kept hk) 1 y1 (b := X') e1
        have r2 := fun W (hk : Kept [] w5 W) => read_dv (hDq.new_kept hk) 2 y2 (b := Y') e2
        have r0 := fun W (hk : Kept [] w5 W) => read_dv (hDq.new_kept hk) 0 y0 (b := zeros) hz0
        have r3 := fun W (hk : Kept [] w5 W) => read_dv (hDq.new_kept hk) 3 y3 (b := zeros) hz3
        have H6 := Lib.hid hI6
        clear hI6 hz0 hz3 hl5 y1 y2 y0 y3 e1 e2 ho5 hc5 hq5 hS5 hW5 hDq hp
        go_wp2_with fail
        refine (r1 _ (Kept.refl _ _)).mono ?_
        rintro e w6 ⟨A6, c6, rfl, hown6, hbel6⟩
        have q6 := Kept.of_below (F := []) hbel6
        have s6 := (ClonePost.sl hown6).1
        clear hown6 hbel6
        go_wp2_with fail
        refine (r2 _ q6).mono ?_
        rintro e w7 ⟨A7, c7, rfl, hown7, hbel7⟩
        have q67 := Kept.of_below (F := []) hbel7
        have q7 := q6.trans q67
        have s7 := (ClonePost.sl hown7).1
        replace s6 := s6.kept q67 (by simp)
        clear hown7 hbel7 q67 q6
        go_wp2_with fail
        refine (r0 _ q7).mono ?_
        rintro e w8 ⟨A8, c8, rfl, hown8, hbel8⟩
        have q78 := Kept.of_below (F := []) hbel8
        have q8 := q7.trans q78
        have s8 := (ClonePost.sl hown8).1
        replace s6 := s6.kept q78 (by simp)
        replace s7 := s7.kept q78 (by simp)
        clear hown8 hbel8 q78 q7
        go_wp2_with fail
        refine (r3 _ q8).mono ?_
        rintro e w9 ⟨A9, c9, rfl, hown9, hbel9⟩
        have q89 := Kept.of_below (F := []) hbel9
        have q9 := q8.trans q89
        have s9 := (ClonePost.sl hown9).1
        replace s6 := s6.kept q89 (by simp)
        replace s7 := s7.kept q89 (by simp)
        replace s8 := s8.kept q89 (by simp)
        have s3 := hs3.kept q9 (by simp)
        have s4 := hs4.kept q9 (by simp)
        have h9 := h5.next q9
        clear hown9 hbel9 q89 q8 q9 hs3 hs4 h5 r0 r1 r2 r3
        have cx := fun W (hk : Kept [] w9 W) => eqBytes_u8 W A3 A6 128 c3 128 c6 x X' (s3.kept hk (by simp)) (s6.kept hk (by simp))
        have cy := fun W (hk : Kept [] w9 W) => eqBytes_u8 W A4 A7 128 c4 128 c7 y Y' (s4.kept hk (by simp)) (s7.kept hk (by simp))
        have cz := fun W B (hk : Kept [] w9 W) (hb : SlAt W B 128 128 (u8vs (List.replicate 128 0))) => eqBytes_u8 W A8 B 128 c8 128 128 zeros _ (s8.kept hk (by simp)) hb
        have cu := fun W B (hk : Kept [] w9 W) (hb : SlAt W B 128 128 (u8vs (List.replicate 128 0))) => eqBytes_u8 W A9 B 128 c9 128 128 zeros _ (s9.kept hk (by simp)) hb
        rw [e3] at cx
        rw [e4] at cy
        rw [show decide (zeros = List.replicate 128 0) = true from decide_eq_true rfl] at cz cu
        clear e3 e4 s3 s4 s6 s7 s8 s9
        go_wp2_with fail
        refine (cx _ (Kept.refl _ _)).mono ?_
        rintro e wa ⟨rfl, qa, rfl⟩
        go_wp2_with fail
        refine (cy _ (Kept.drewN _ _ _)).mono ?_
        rintro e wb ⟨rfl, qb, hwb⟩
        rw [World.drewN_drewN] at hwb
        subst hwb
        go_wp2_with fail
        refine (cz _ _ ((Kept.drewN [] w9 _).trans (Kept.alloc [] _ _)) (made_sl _ 128 (by unfold maxLen; omega))).mono ?_
        rintro e wc ⟨rfl, qc, rfl⟩
        have kc : Kept [] w9 (((w9.drewN (qa + qb)).alloc (.cells (madeCells #[.int .u8 0] 128) 5)).drewN qc) := ((Kept.drewN [] w9 _).trans (Kept.alloc [] _ _)).trans (Kept.drewN [] _ _)
        go_wp2_with fail
        refine (cu _ _ (kc.trans (Kept.alloc [] _ _)) (made_at _ (w9.heap.size + 1) (by exact World.size_alloc _ _))).mono ?_
        rintro e wd ⟨rfl, qd, rfl⟩
        have kd := (kc.trans (Kept.alloc [] _ (.cells (madeCells #[.int .u8 0] 128) 5))).trans (Kept.drewN [] _ qd)
        clear kc
        go_wp2_with fail
        refine (cy _ kd).mono ?_
        rintro e we ⟨rfl, qe, rfl⟩
        have ke := kd.trans (Kept.drewN [] _ qe)
        rw [World.drewN_drewN] at ke
        clear kd cx cy cz cu
        go_wp2_with fail
        go_roundw
        case rel => exact ⟨k + 1, _, d5, F5, by go_num, by omega, h9.next ke, H6.out⟩
        case measure => simp [intOf]; omega
      · skip
        obtain ⟨X', Y', e1, e2, e3, e4⟩ := two_secs HI.out hin HX.out HY.out hS5 (by omega)
        rw [show decide (k % 2 = 1) = true by simp [hp]] at e3
        rw [show decide (k % 2 = 0) = false by simp [hp]] at e4
        have hp2 : (k : Int) % 2 = 1 := by omega
        have hI6 := HI.out.next ho5 hc5 hq5 hS5 hW5
        have hz0 : d5.secs[0]? = some zeros := hI6.low
        have hz3 : d5.secs[3]? = some zeros := hI6.high
        have hl5 : d5.secs.length = 4 := hI6.len
        have y1 : d5.at_ 1 = 0 := at_live hc5.dead (i := 1) (by omega)
        have y2 : d5.at_ 2 = 0 := at_live hc5.dead (i := 2) (by omega)
        have y0 : d5.at_ 0 = 0 := at_live hc5.dead (i := 0) (by omega)
        have y3 : d5.at_ 3 = 0 := at_live hc5.dead (i := 3) (by omega)
        obtain ⟨fq, hDq, hFq⟩ := h5.dv
        have r1 := fun W (hk : Kept [] w5 W) => read_dv (hDq.new_kept hk) 1 y1 (b := X') e1
        have r2 := fun W (hk : Kept [] w5 W) => read_dv (hDq.new_kept hk) 2 y2 (b := Y') e2
        have r0 := fun W (hk : Kept [] w5 W) => read_dv (hDq.new_kept hk) 0 y0 (b := zeros) hz0
        have r3 := fun W (hk : Kept [] w5 W) => read_dv (hDq.new_kept hk) 3 y3 (b := zeros) hz3
        have H6 := Lib.hid hI6
        clear hI6 hz0 hz3 hl5 y1 y2 y0 y3 e1 e2 ho5 hc5 hq5 hS5 hW5 hDq hp
        go_wp2_with fail
        refine (r1 _ (Kept.refl _ _)).mono ?_
        rintro e w6 ⟨A6, c6, rfl, hown6, hbel6⟩
        have q6 := Kept.of_below (F := []) hbel6
        have s6 := (ClonePost.sl hown6).1
        clear hown6 hbel6
        go_wp2_with fail
        refine (r2 _ q6).mono ?_
        rintro e w7 ⟨A7, c7, rfl, hown7, hbel7⟩
        have q67 := Kept.of_below (F := []) hbel7
        have q7 := q6.trans q67
        have s7 := (ClonePost.sl hown7).1
        replace s6 := s6.kept q67 (by simp)
        clear hown7 hbel7 q67 q6
        go_wp2_with fail
        refine (r0 _ q7).mono ?_
        rintro e w8 ⟨A8, c8, rfl, hown8, hbel8⟩
        have q78 := Kept.of_below (F := []) hbel8
        have q8 := q7.trans q78
        have s8 := (ClonePost.sl hown8).1
        replace s6 := s6.kept q78 (by simp)
        replace s7 := s7.kept q78 (by simp)
        clear hown8 hbel8 q78 q7
        go_wp2_with fail
        refine (r3 _ q8).mono ?_
        rintro e w9 ⟨A9, c9, rfl, hown9, hbel9⟩
        have q89 := Kept.of_below (F := []) hbel9
        have q9 := q8.trans q89
        have s9 := (ClonePost.sl hown9).1
        replace s6 := s6.kept q89 (by simp)
        replace s7 := s7.kept q89 (by simp)
        replace s8 := s8.kept q89 (by simp)
        have s3 := hs3.kept q9 (by simp)
        have s4 := hs4.kept q9 (by simp)
        have h9 := h5.next q9
        clear hown9 hbel9 q89 q8 q9 hs3 hs4 h5 r0 r1 r2 r3
        have cx := fun W (hk : Kept [] w9 W) => eqBytes_u8 W A3 A6 128 c3 128 c6 x X' (s3.kept hk (by simp)) (s6.kept hk (by simp))
        have cy := fun W (hk : Kept [] w9 W) => eqBytes_u8 W A4 A7 128 c4 128 c7 y Y' (s4.kept hk (by simp)) (s7.kept hk (by simp))
        have cz := fun W B (hk : Kept [] w9 W) (hb : SlAt W B 128 128 (u8vs (List.replicate 128 0))) => eqBytes_u8 W A8 B 128 c8 128 128 zeros _ (s8.kept hk (by simp)) hb
        have cu := fun W B (hk : Kept [] w9 W) (hb : SlAt W B 128 128 (u8vs (List.replicate 128 0))) => eqBytes_u8 W A9 B 128 c9 128 128 zeros _ (s9.kept hk (by simp)) hb
        rw [e3] at cx
        rw [e4] at cy
        rw [show decide (zeros = List.replicate 128 0) = true from decide_eq_true rfl] at cz cu
        clear e3 e4 s3 s4 s6 s7 s8 s9
        go_wp2_with fail
        refine (cx _ (Kept.refl _ _)).mono ?_
        rintro e wa ⟨rfl, qa, rfl⟩
        go_wp2_with fail
        refine (cy _ (Kept.drewN _ _ _)).mono ?_
        rintro e wb ⟨rfl, qb, hwb⟩
        rw [World.drewN_drewN] at hwb
        subst hwb
        go_wp2_with fail
        refine (cz _ _ ((Kept.drewN [] w9 _).trans (Kept.alloc [] _ _)) (made_sl _ 128 (by unfold maxLen; omega))).mono ?_
        rintro e wc ⟨rfl, qc, rfl⟩
        have kc : Kept [] w9 (((w9.drewN (qa + qb)).alloc (.cells (madeCells #[.int .u8 0] 128) 5)).drewN qc) := ((Kept.drewN [] w9 _).trans (Kept.alloc [] _ _)).trans (Kept.drewN [] _ _)
        go_wp2_with fail
        refine (cu _ _ (kc.trans (Kept.alloc [] _ _)) (made_at _ (w9.heap.size + 1) (by exact World.size_alloc _ _))).mono ?_
        rintro e wd ⟨rfl, qd, rfl⟩
        have kd := (kc.trans (Kept.alloc [] _ (.cells (madeCells #[.int .u8 0] 128) 5))).trans (Kept.drewN [] _ qd)
        clear kc
        go_wp2_with fail
        refine (cy _ kd).mono ?_
        rintro e we ⟨rfl, qe, rfl⟩
        have ke := kd.trans (Kept.drewN [] _ qe)
        rw [World.drewN_drewN] at ke
        clear kd cx cy cz cu
        go_wp2_with fail
        go_roundw
        case rel => exact ⟨k + 1, _, d5, F5, by go_num, by omega, h9.next ke, H6.out⟩
        case measure => simp [intOf]; omega
    · have hcase : ¬ (k : Int) < (n : Int) ∨ ((k : Int) < (n : Int) ∧ ¬ (k : Int) < 20) := by omega
      rcases hcase with i1 | ⟨i1, i2⟩
      all_goals
        go_wp2_with fail
        refine (awake11_any _).mono ?_
        rintro e w3 ⟨rfl, hk3⟩
        go_wp2_with fail
        go_ret
        exact ⟨rfl, h3.kept.trans hk3⟩
end Go.Proofs.Ytbnflbkaogpnbaa
