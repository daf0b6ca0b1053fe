/- SectorDoes: the walk. -/
import Derived.Test.YtbnflbkaogpnbaaZ0
import Derived.Test.YtbnflbkaogpnbaaZ2
namespace Go.Proofs.Ytbnflbkaogpnbaa
open Go.RowKit

/-- A deed in a block of its own. -/
structure XAt (W : World) (X : Nat) (x : DeedR) : Prop where
  cells : W.heap[X]? = some (.cells #[.int .i64 x.kind, .int .i64 x.a, .int .i64 x.b, .int .i64 x.short, .slice x.kA x.kn x.kc] 31 (0, 0))
  ok : x.Ok W

theorem XAt.kept {W W' : World} {X : Nat} {x : DeedR} {F : List Nat} (h : XAt W X x) (hk : Kept F W W') (hX : X ∉ F) (hA : ∀ p, x.kA = some p → 0 < x.kn → p.block ∉ F) : XAt W' X x :=
  ⟨(hk.block X (World.lt_of_heap h.cells) hX).trans h.cells, { h.ok with sl := h.ok.sl.keptP hk hA }⟩

theorem XAt.cell {W : World} {X : Nat} {x : DeedR} (h : XAt W X x) : W.cell? ⟨X, 0, none⟩ = some (.int .i64 x.kind) ∧ W.cell? ⟨X, 1, none⟩ = some (.int .i64 x.a) ∧ W.cell? ⟨X, 2, none⟩ = some (.int .i64 x.b) ∧ W.cell? ⟨X, 3, none⟩ = some (.int .i64 x.short) ∧ W.cell? ⟨X, 4, none⟩ = some (.slice x.kA x.kn x.kc) := by
  refine ⟨?_, ?_, ?_, ?_, ?_⟩ <;> (rw [blk_cell h.cells]; rfl)

theorem own_out {A : Option Addr} {n c : Nat} {L : List Nat} (h : ∀ p, A = some p → p.block ∉ L) : ∀ j, (Value.slice A n c).ownBlock = some j → j ∉ L := fun j e => by
  cases A with
  | none => cases e
  | some p =>
    have : p.block = j := by simpa [Value.ownBlock] using e
    rw [← this]
    exact h p rfl

/-- What is held may be turned, once the cells that are read before are read. -/
theorem wpAnyH_turn {P : Program} {md : Region.Mode} {ops : Array Oper} {Q : Exit → Act → World → Prop} {S S' : World → Prop} {fuel : Nat} {listed : Array Bool} {a : Act} {w : World}
    (hS : ∀ W, S' W → S W) : wpAnyH P md ops Q S' fuel listed a w → wpAnyH P md ops Q S fuel listed a w := by
  induction fuel generalizing listed a w with
  | zero => exact fun h => h
  | succ fuel ih => exact fun h => ⟨h.1, fun i hi => wpOp_mono (fun a' w' h' => ⟨hS _ h'.1, ih h'.2⟩) (h.2 i hi)⟩

def SdRel (w : World) (a r n m q : Nat) (i : Value) (wr : World) : Prop :=
  ∃ k d fp gp, k ≤ q ∧ k ≤ 60 ∧ i = .int .i64 (k : Nat) ∧ DoAt w a r n m k d fp gp wr

set_option maxHeartbeats 8000000 in
set_option maxRecDepth 100000 in
theorem sectorDoes_small (w : World) (n : Nat) (hn1 : 1 ≤ n) (hn2 : n ≤ 40) (A : Option Addr) (q c : Nat) (l : List DeedR) (hl : DeedsAt w A q c l) :
    Calls Try.prog 7 #[.int .i64 n, .slice A q c] w (TruePost w) := by
  have hnc := hl.le; have hcm := hl.max
  unfold maxLen at hcm
  have b1 : ¬ (n : Int) < 1 := by omega
  have b2 : ¬ (8192 : Int) < (n : Int) := by omega
  have b3 : ¬ (40 : Int) < (n : Int) := by omega
  have b4 : min (n : Int) 40 = (n : Int) := by omega
  go_enter Try.func7, Try.ntmps7
  go_wp2_with fail
  refine (new_any n _ (by omega) (by omega)).mono ?_
  rintro e w1 ⟨a, f1, rfl, hD1, hA1, hN1⟩
  go_wp2_with fail
  refine (refNew_any n _ (by omega) (by omega)).mono ?_
  rintro e w2 ⟨r, B, cap, l2, g1, rfl, hR2, hA2, hN2⟩
  have hst : DoAt w a r n n 0 (Dev.new n) f1 g1 w2 :=
    ⟨⟨hD1.new_kept hA2, ⟨B, cap, l2, RS.new n, hR2, by
      have e : (Dev.new n).cut n = Dev.new n := by unfold Dev.cut Dev.new; simp
      rw [e]
      exact ⟨by simp [RS.new, Dev.new], fun i hi => by simp [RS.new] at hi; simp [Dev.new, RS.new, hi], fun i hi => by simp [Dev.new, RS.new, Dev.look], fun i hi => by simp [Dev.new, RS.new, Dev.look], rfl, rfl, rfl, rfl, rfl, rfl⟩⟩,
      hN1, fun j hj => Nat.le_trans hA1.size (hN2 j hj), fun j hj hm => by
        have h1 := hD1.lt j hj
        have h2 := hN2 j hm
        omega, hA1.trans hA2⟩, by simp [Dev.new], by show (0 : Int) ≤ _; omega, by
      have e : (Dev.new n).cut n = Dev.new n := by unfold Dev.cut Dev.new; simp
      rw [e]; exact Dev.wf_new hn1 (by omega)⟩
  have cs := size_dv hst.at_.one
  rw [show (Dev.new n).secs.length = n by simp [Dev.new]] at cs
  clear hD1 hA1 hN1 hR2 hA2 hN2
  go_wp2_with fail
  refine cs.mono ?_
  clear cs
  rintro e w' ⟨rfl, rfl⟩
  go_wp2_with fail
  go_loopw [9] (fun i wr => SdRel w a r n n q i wr) (fun i _ => q - (intOf i).toNat)
  case atStart => exact ⟨0, _, _, _, Nat.zero_le _, by omega, rfl, hst⟩
  case round =>
    clear hst
    obtain ⟨k, d, fp, gp, hkq, hk6, rfl, hK⟩ := hrel
    by_cases hin : k < q ∧ k < 60
    · obtain ⟨hlt, h60⟩ := hin
      obtain ⟨b, o, x, hAe, hbl, hdk, hok, g0, g1, g2, g3, g4⟩ := (hl.kept hK.at_.kept).at_ hlt
      subst hAe
      have i1 : (k : Int) < (q : Int) := by omega
      have i2 : (k : Int) < 60 := by omega
      have hok0 := hok
      have hkA : ∀ p, x.kA = some p → 0 < x.kn → p.block < w.heap.size := fun p hp h0 => by
        obtain ⟨b2, o2, x2, _, _, hdk2, hok2, _⟩ := hl.at_ hlt
        rw [hdk] at hdk2
        cases hdk2
        exact hok2.sl.lt h0 hp
      clear hdk
      have hk1 := Kept.alloc [] wr (.cells #[.int .i64 x.kind, .int .i64 x.a, .int .i64 x.b, .int .i64 x.short, .slice x.kA x.kn x.kc] 31)
      have hT1 := hK.at_.kept' hk1
      have hX1 : XAt (wr.alloc (.cells #[.int .i64 x.kind, .int .i64 x.a, .int .i64 x.b, .int .i64 x.short, .slice x.kA x.kn x.kc] 31)) wr.heap.size x := ⟨heap_alloc_new _ _, { hok with sl := hok.sl.kept hk1 (by simp) }⟩
      have hXf : wr.heap.size ∉ fp := fun hm => by have := hK.at_.one.lt _ hm; omega
      have hXg : wr.heap.size ∉ gp := fun hm => by have := hK.at_.two.lt _ hm; omega
      have hXw := hK.at_.kept.size
      have hlen := hK.len
      have hwk := hK.works
      have hwf2 := hK.wf2
      go_wp2_with fail
      generalize (wr.alloc (.cells #[.int .i64 x.kind, .int .i64 x.a, .int .i64 x.b, .int .i64 x.short, .slice x.kA x.kn x.kc] 31)) = W1 at hX1 hT1
      generalize wr.heap.size = X at *
      clear hk1 hK hok hok0 g0 g1 g2 g3 g4 hbl wr
      have hXd := hX1.kept (Kept.drew [] W1) (by simp) (by simp)
      have hTd := hT1.kept' (Kept.drew [] W1)
      obtain ⟨_, _, q2, q3, q4⟩ := hXd.cell
      have hsm := hXd.ok.small
      go_region_held3 (fun W => W.cell? ⟨X, 2, none⟩ = some (.int .i64 x.b) ∧ W.cell? ⟨X, 3, none⟩ = some (.int .i64 x.short) ∧ W.cell? ⟨X, 4, none⟩ = some (.slice x.kA x.kn x.kc)) (first | exact ⟨q2, q3, q4⟩ | exact q5 | exact q6)
        (first
          | (go_at_call 25
             refine (full_any x.b x.short _).mono ?_
             rintro e w4 ⟨A4, c4, rfl, hown4, hbel4⟩
             have hk4 := Kept.of_below (F := []) hbel4
             have hT4 := hTd.kept' hk4
             have hX4 := hXd.kept hk4 (by simp) (by simp)
             have q5 := hX4.cell.2.2
             clear hbel4)
          | (go_at_call 38
             refine (copyInts_any _ x.kA x.kn x.kc x.keep hX4.ok.sl (by omega)).mono ?_
             rintro e w5 ⟨A5, c5, rfl, hown5, hbel5⟩
             have hk5 := Kept.of_below (F := []) hbel5
             have hT5 := hT4.kept' hk5
             have hX5 := hX4.kept hk5 (by simp) (by simp)
             have q6 := hX5.cell.2.2
             clear hbel5))
      clear q2 q3 q4 q5 q6 hXd hTd
      have hlt4 : ∀ p, A4 = some p → W1.heap.size ≤ p.block ∧ p.block < w4.heap.size := fun p hp => ⟨(ClonePost.sl hown4).2 p hp, own_lt hown4 hp⟩
      have hlt5 : ∀ p, A5 = some p → w4.heap.size ≤ p.block ∧ p.block < w5.heap.size := fun p hp => ⟨(ClonePost.sl hown5).2 p hp, own_lt hown5 hp⟩
      have h45 := hk5.size
      have h14 : W1.heap.size ≤ w4.heap.size := hk4.size
      have hA4f : ∀ p, A4 = some p → p.block ∉ fp := fun p hp hm => by have h1 := hT1.one.lt _ hm; have h2 := hlt4 p hp; omega
      have hA4g : ∀ p, A4 = some p → p.block ∉ gp := fun p hp hm => by have h1 := hT1.two.lt _ hm; have h2 := hlt4 p hp; omega
      have hA5f : ∀ p, A5 = some p → p.block ∉ fp := fun p hp hm => by have h1 := hT1.one.lt _ hm; have h2 := hlt5 p hp; omega
      have hA5g : ∀ p, A5 = some p → p.block ∉ gp := fun p hp hm => by have h1 := hT1.two.lt _ hm; have h2 := hlt5 p hp; omega
      have hA45 : ∀ p p', A4 = some p → A5 = some p' → p.block ≠ p'.block := fun p p' hp hp' => by have h1 := hlt4 p hp; have h2 := hlt5 p' hp'; omega
      have own4 := own_kept (own_kept hown4 hk5 (by simp)) (Kept.drew [] w5) (by simp)
      have own5 := own_kept hown5 (Kept.drew [] w5) (by simp)
      have hTd := hT5.kept' (Kept.drew [] w5)
      have hXd := hX5.kept (Kept.drew [] w5) (by simp) (by simp)
      have s5 := hXd.cell
      obtain ⟨d', v, hde⟩ : ∃ d' v, d.deed x x.bytes = (d', v) := ⟨_, _, rfl⟩
      have hde2 : (d.cut n).deed x x.bytes = (d'.cut n, v) := by
        rw [cut_deed x x.bytes (fun _ => .inl (by omega)) (by omega), hde]
      have hdw := deed_works (d := d) x x.bytes
      have hwf2' := deed_wf hwf2 x hXd.ok x.bytes
      rw [hde] at hdw
      rw [hde2] at hwf2'
      have hnA : ∀ (L : List Nat), (∀ j ∈ L, w.heap.size ≤ j) → ∀ p, x.kA = some p → 0 < x.kn → p.block ∉ L := fun L hL p hp h0 hm => by have h1 := hkA p hp h0; have h2 := hL _ hm; omega
      have cdo := does10_any hTd.one x hXd.ok x.bytes A4 (fullLen x.short) c4 (ClonePost.sl own4).1 hA4f A5 x.kn c5 (ClonePost.sl own5).1 hA5f (by omega)
      rw [hde] at cdo
      unfold DeedR.val at cdo
      have hcw : (d.cut n).works < 9223372036854775807 := by show d.works < _; omega
      go_wp2_with fail
      refine wp_region_held_drew (S := (fun W => W.cell? ⟨X, 0, none⟩ = some (.int .i64 x.kind) ∧ W.cell? ⟨X, 1, none⟩ = some (.int .i64 x.a) ∧ W.cell? ⟨X, 2, none⟩ = some (.int .i64 x.b) ∧ W.cell? ⟨X, 3, none⟩ = some (.int .i64 x.short) ∧ W.cell? ⟨X, 4, none⟩ = some (.slice x.kA x.kn x.kc))) (by kernel_rfl) s5 (fun hHeld => ?_)
      refine wpAnyH_take (i := 0) (v := ?_) (by simp only [List.getElem?_toArray, List.getElem?_cons_zero]; rfl) (by kernel_rfl) (by kernel_rfl) (by kernel_rfl) (by exact fun _ _ _ h => h) (Or.inl ⟨by rfl, ?_⟩) hHeld ?_
      rotate_left
      · intro w hSw
        try dsimp only at hSw
        go_simp
        all_goals with_reducible rfl
      try simp only [Act.put, List.setIfInBounds_toArray, List.set_cons_zero, List.set_cons_succ]
      refine wpAnyH_take (i := 1) (v := ?_) (by simp only [List.getElem?_toArray, List.getElem?_cons_succ, List.getElem?_cons_zero]; rfl) (by kernel_rfl) (by kernel_rfl) (by kernel_rfl) (by exact fun _ _ _ h => h) (Or.inl ⟨by rfl, ?_⟩) hHeld ?_
      rotate_left
      · intro w hSw
        try dsimp only at hSw
        go_simp
        all_goals with_reducible rfl
      try simp only [Act.put, List.setIfInBounds_toArray, List.set_cons_zero, List.set_cons_succ]
      refine wpAnyH_take (i := 2) (v := ?_) (by simp only [List.getElem?_toArray, List.getElem?_cons_succ, List.getElem?_cons_zero]; rfl) (by kernel_rfl) (by kernel_rfl) (by kernel_rfl) (by exact fun _ _ _ h => h) (Or.inl ⟨by rfl, ?_⟩) hHeld ?_
      rotate_left
      · intro w hSw
        try dsimp only at hSw
        go_simp
        all_goals with_reducible rfl
      try simp only [Act.put, List.setIfInBounds_toArray, List.set_cons_zero, List.set_cons_succ]
      refine wpAnyH_take (i := 3) (v := ?_) (by simp only [List.getElem?_toArray, List.getElem?_cons_succ, List.getElem?_cons_zero]; rfl) (by kernel_rfl) (by kernel_rfl) (by kernel_rfl) (by exact fun _ _ _ h => h) (Or.inl ⟨by rfl, ?_⟩) hHeld ?_
      rotate_left
      · intro w hSw
        try dsimp only at hSw
        go_simp
        all_goals with_reducible rfl
      try simp only [Act.put, List.setIfInBounds_toArray, List.set_cons_zero, List.set_cons_succ]
      refine wpAnyH_take (i := 5) (v := ?_) (by simp only [List.getElem?_toArray, List.getElem?_cons_succ, List.getElem?_cons_zero]; rfl) (by kernel_rfl) (by kernel_rfl) (by kernel_rfl) (by exact fun _ _ _ h => h) (Or.inl ⟨by rfl, ?_⟩) hHeld ?_
      rotate_left
      · intro w hSw
        try dsimp only at hSw
        go_simp
        all_goals with_reducible rfl
      try simp only [Act.put, List.setIfInBounds_toArray, List.set_cons_zero, List.set_cons_succ]
      refine wpAnyH_take (i := 6) (v := ?_) (by simp only [List.getElem?_toArray, List.getElem?_cons_succ, List.getElem?_cons_zero]; rfl) (by kernel_rfl) (by kernel_rfl) (by kernel_rfl) (by exact fun _ _ _ h => h) (Or.inl ⟨by rfl, ?_⟩) hHeld ?_
      rotate_left
      · intro w hSw
        try dsimp only at hSw
        go_simp
        all_goals with_reducible rfl
      try simp only [Act.put, List.setIfInBounds_toArray, List.set_cons_zero, List.set_cons_succ]
      refine wpAnyH_ready (rs := [4]) (by kernel_rfl) (by simp) ?_
      refine AllReadyH.cons (by simp only [List.getElem?_toArray, List.getElem?_cons_succ, List.getElem?_cons_zero]; rfl) (fun K hK => ?_) AllReadyH.nil
      go_simp
      refine cdo.mono ?_
      rintro e w6 ⟨rfl, f6, hD6, hk6', hn6⟩
      have hT6 := hTd.first hD6 hk6' hn6
      have hX6 := hXd.kept hk6' hXf (hnA _ hTd.newf)
      have s6 := hX6.cell
      have hs46 := (ClonePost.sl own4).1.kept hk6' hA4f
      have hs56 := (ClonePost.sl own5).1.kept hk6' hA5f
      have o46 := own_kept own4 hk6' (own_out hA4f)
      have o56 := own_kept own5 hk6' (own_out hA5f)
      go_wp2_with fail
      refine hK.out _ _ ?_ (fun hHeld2 => ?_)
      · exact s6
      clear hK K hHeld
      have hHeld := hHeld2
      clear hHeld2
      try simp only [Act.put, List.setIfInBounds_toArray, List.set_cons_zero, List.set_cons_succ]
      refine wpAnyH_ready (rs := [7]) (by kernel_rfl) (by simp) ?_
      refine AllReadyH.cons (by simp only [List.getElem?_toArray, List.getElem?_cons_succ, List.getElem?_cons_zero]; rfl) (fun K hK => ?_) AllReadyH.nil
      go_simp
      have cme := meant10_any hT6.two hwf2 x hX6.ok (hnA _ hT6.newg) hcw
      rw [hde2] at cme
      unfold DeedR.val at cme
      refine cme.mono ?_
      rintro e w7 ⟨rfl, g7, hD7, hk7, hn7⟩
      have hT7 := hT6.second hD7 hk7 hn7
      have hX7 := hX6.kept hk7 hXg (hnA _ hT6.newg)
      have s7 := hX7.cell
      have hs47 := hs46.kept hk7 hA4g
      have hs57 := hs56.kept hk7 hA5g
      have o47 := own_kept o46 hk7 (own_out hA4g)
      have o57 := own_kept o56 hk7 (own_out hA5g)
      clear cme
      go_wp2_with fail
      refine hK.out _ _ ?_ (fun hHeld2 => ?_)
      · exact s7
      clear hK K hHeld
      have hHeld := hHeld2
      clear hHeld2
      try simp only [Act.put, List.setIfInBounds_toArray, List.set_cons_zero, List.set_cons_succ]
      refine wpAnyH_take (i := 8) (v := ?_) (by simp only [List.getElem?_toArray, List.getElem?_cons_succ, List.getElem?_cons_zero]; rfl) (by kernel_rfl) (by kernel_rfl) (by kernel_rfl) (by exact fun _ _ _ h => h) (Or.inl ⟨by rfl, ?_⟩) hHeld ?_
      rotate_left
      · intro w hSw
        try dsimp only at hSw
        go_simp
        all_goals with_reducible rfl
      try simp only [Act.put, List.setIfInBounds_toArray, List.set_cons_zero, List.set_cons_succ]
      refine wpAnyH_take (i := 9) (v := ?_) (by simp only [List.getElem?_toArray, List.getElem?_cons_succ, List.getElem?_cons_zero]; rfl) (by kernel_rfl) (by kernel_rfl) (by kernel_rfl) (by exact fun _ _ _ h => h) (Or.inl ⟨by rfl, ?_⟩) hHeld ?_
      rotate_left
      · intro w hSw
        try dsimp only at hSw
        go_simp
        all_goals with_reducible rfl
      try simp only [Act.put, List.setIfInBounds_toArray, List.set_cons_zero, List.set_cons_succ]
      refine wpAnyH_take (i := 10) (v := ?_) (by simp only [List.getElem?_toArray, List.getElem?_cons_succ, List.getElem?_cons_zero]; rfl) (by kernel_rfl) (by kernel_rfl) (by kernel_rfl) (by exact fun _ _ _ h => h) (Or.inl ⟨by rfl, ?_⟩) hHeld ?_
      rotate_left
      · intro w hSw
        try dsimp only at hSw
        go_simp
        all_goals with_reducible rfl
      try simp only [Act.put, List.setIfInBounds_toArray, List.set_cons_zero, List.set_cons_succ]
      refine wpAnyH_take (i := 11) (v := ?_) (by simp only [List.getElem?_toArray, List.getElem?_cons_succ, List.getElem?_cons_zero]; rfl) (by kernel_rfl) (by kernel_rfl) (by kernel_rfl) (by exact fun _ _ _ h => h) (Or.inl ⟨by rfl, ?_⟩) hHeld ?_
      rotate_left
      · intro w hSw
        try dsimp only at hSw
        go_simp
        all_goals with_reducible rfl
      try simp only [Act.put, List.setIfInBounds_toArray, List.set_cons_zero, List.set_cons_succ]
      refine wpAnyH_take (i := 12) (v := ?_) (by simp only [List.getElem?_toArray, List.getElem?_cons_succ, List.getElem?_cons_zero]; rfl) (by kernel_rfl) (by kernel_rfl) (by kernel_rfl) (by exact fun _ _ _ h => h) (Or.inl ⟨by rfl, ?_⟩) hHeld ?_
      rotate_left
      · intro w hSw
        try dsimp only at hSw
        go_simp
        all_goals with_reducible rfl
      try simp only [Act.put, List.setIfInBounds_toArray, List.set_cons_zero, List.set_cons_succ]
      refine wpAnyH_take (i := 13) (v := ?_) (by simp only [List.getElem?_toArray, List.getElem?_cons_succ, List.getElem?_cons_zero]; rfl) (by kernel_rfl) (by kernel_rfl) (by kernel_rfl) (by exact fun _ _ _ h => h) (Or.inl ⟨by rfl, ?_⟩) hHeld ?_
      rotate_left
      · intro w hSw
        try dsimp only at hSw
        go_simp
        all_goals with_reducible rfl
      try simp only [Act.put, List.setIfInBounds_toArray, List.set_cons_zero, List.set_cons_succ]
      refine wpAnyH_take (i := 14) (v := ?_) (by simp only [List.getElem?_toArray, List.getElem?_cons_succ, List.getElem?_cons_zero]; rfl) (by kernel_rfl) (by kernel_rfl) (by kernel_rfl) (by exact fun _ _ _ h => h) (Or.inl ⟨by rfl, ?_⟩) hHeld ?_
      rotate_left
      · intro w hSw
        try dsimp only at hSw
        go_simp
        all_goals with_reducible rfl
      try simp only [Act.put, List.setIfInBounds_toArray, List.set_cons_zero, List.set_cons_succ]
      refine wpAnyH_ready (rs := [15]) (by kernel_rfl) (by simp) ?_
      refine AllReadyH.cons (by simp only [List.getElem?_toArray, List.getElem?_cons_succ, List.getElem?_cons_zero]; rfl) (fun K hK => ?_) AllReadyH.nil
      go_simp
      refine (full_any x.b x.short _).mono ?_
      rintro e w8 ⟨A8, c8, rfl, hown8, hbel8⟩
      have hk8 := Kept.of_below (F := []) hbel8
      have hT8 := hT7.kept' hk8
      have hX8 := hX7.kept hk8 (by simp) (by simp)
      have s8 := hX8.cell
      have hs48 := hs47.kept hk8 (by simp)
      have hs58 := hs57.kept hk8 (by simp)
      have o48 := own_kept o47 hk8 (by simp)
      have o58 := own_kept o57 hk8 (by simp)
      have hs88 := (ClonePost.sl hown8).1
      clear hbel8 hown8
      go_wp2_with fail
      refine hK.out _ _ ?_ (fun hHeld2 => ?_)
      · exact s8
      clear hK K hHeld
      have hHeld := hHeld2
      clear hHeld2
      try simp only [Act.put, List.setIfInBounds_toArray, List.set_cons_zero, List.set_cons_succ]
      refine wpAnyH_ready (rs := [16]) (by kernel_rfl) (by simp) ?_
      refine AllReadyH.cons (by simp only [List.getElem?_toArray, List.getElem?_cons_succ, List.getElem?_cons_zero]; rfl) (fun K hK => ?_) AllReadyH.nil
      go_simp
      refine (eq_true _ A4 A8 _ c4 _ c8 x.bytes hs48 hs88).mono ?_
      rintro e w9 ⟨rfl, hk9⟩
      have hT9 := hT8.kept' hk9
      have hX9 := hX8.kept hk9 (by simp) (by simp)
      have s9 := hX9.cell
      have hs59 := hs58.kept hk9 (by simp)
      have o49 := own_kept o48 hk9 (by simp)
      have o59 := own_kept o58 hk9 (by simp)
      go_wp2_with fail
      refine hK.out _ _ ?_ (fun hHeld2 => ?_)
      · exact s9
      clear hK K hHeld
      have hHeld := hHeld2
      clear hHeld2
      try simp only [Act.put, List.setIfInBounds_toArray, List.set_cons_zero, List.set_cons_succ]
      refine wpAnyH_take (i := 17) (v := ?_) (by simp only [List.getElem?_toArray, List.getElem?_cons_succ, List.getElem?_cons_zero]; rfl) (by kernel_rfl) (by kernel_rfl) (by kernel_rfl) (by exact fun _ _ _ h => h) (Or.inl ⟨by rfl, ?_⟩) hHeld ?_
      rotate_left
      · intro w hSw
        try dsimp only at hSw
        go_simp
        all_goals with_reducible rfl
      try simp only [Act.put, List.setIfInBounds_toArray, List.set_cons_zero, List.set_cons_succ]
      refine wpAnyH_take (i := 18) (v := ?_) (by simp only [List.getElem?_toArray, List.getElem?_cons_succ, List.getElem?_cons_zero]; rfl) (by kernel_rfl) (by kernel_rfl) (by kernel_rfl) (by exact fun _ _ _ h => h) (Or.inl ⟨by rfl, ?_⟩) hHeld ?_
      rotate_left
      · intro w hSw
        try dsimp only at hSw
        go_simp
        all_goals with_reducible rfl
      try simp only [Act.put, List.setIfInBounds_toArray, List.set_cons_zero, List.set_cons_succ]
      refine wpAnyH_take (i := 19) (v := ?_) (by simp only [List.getElem?_toArray, List.getElem?_cons_succ, List.getElem?_cons_zero]; rfl) (by kernel_rfl) (by kernel_rfl) (by kernel_rfl) (by exact fun _ _ _ h => h) (Or.inl ⟨by rfl, ?_⟩) hHeld ?_
      rotate_left
      · intro w hSw
        try dsimp only at hSw
        go_simp
        all_goals with_reducible rfl
      try simp only [Act.put, List.setIfInBounds_toArray, List.set_cons_zero, List.set_cons_succ]
      refine wpAnyH_take (i := 20) (v := ?_) (by simp only [List.getElem?_toArray, List.getElem?_cons_succ, List.getElem?_cons_zero]; rfl) (by kernel_rfl) (by kernel_rfl) (by kernel_rfl) (by exact fun _ _ _ h => h) (Or.inl ⟨by rfl, ?_⟩) hHeld ?_
      rotate_left
      · intro w hSw
        try dsimp only at hSw
        go_simp
        all_goals with_reducible rfl
      try simp only [Act.put, List.setIfInBounds_toArray, List.set_cons_zero, List.set_cons_succ]
      refine wpAnyH_take (i := 21) (v := ?_) (by simp only [List.getElem?_toArray, List.getElem?_cons_succ, List.getElem?_cons_zero]; rfl) (by kernel_rfl) (by kernel_rfl) (by kernel_rfl) (by exact fun _ _ _ h => h) (Or.inl ⟨by rfl, ?_⟩) hHeld ?_
      rotate_left
      · intro w hSw
        try dsimp only at hSw
        go_simp
        all_goals with_reducible rfl
      try simp only [Act.put, List.setIfInBounds_toArray, List.set_cons_zero, List.set_cons_succ]
      refine wpAnyH_take (i := 22) (v := ?_) (by simp only [List.getElem?_toArray, List.getElem?_cons_succ, List.getElem?_cons_zero]; rfl) (by kernel_rfl) (by kernel_rfl) (by kernel_rfl) (by exact fun _ _ _ h => h) (Or.inl ⟨by rfl, ?_⟩) hHeld ?_
      rotate_left
      · intro w hSw
        try dsimp only at hSw
        go_simp
        all_goals with_reducible rfl
      try simp only [Act.put, List.setIfInBounds_toArray, List.set_cons_zero, List.set_cons_succ]
      refine wpAnyH_ready (rs := [23]) (by kernel_rfl) (by simp) ?_
      refine AllReadyH.cons (by simp only [List.getElem?_toArray, List.getElem?_cons_succ, List.getElem?_cons_zero]; rfl) (fun K hK => ?_) AllReadyH.nil
      go_simp
      refine (eqInts_true _ A5 x.kA _ c5 _ x.kc x.keep hs59 hX9.ok.sl).mono ?_
      rintro e w10 ⟨rfl, hk10⟩
      have hT10 := hT9.kept' hk10
      have hX10 := hX9.kept hk10 (by simp) (by simp)
      have s10 := hX10.cell
      have o410 := own_kept o49 hk10 (by simp)
      have o510 := own_kept o59 hk10 (by simp)
      have r5 : w10.cell? ⟨r, 5, none⟩ = some (.bool d'.dead) := hT10.two.fields.2.2
      have r4 : w10.cell? ⟨r, 4, none⟩ = some (.int .i64 d'.works) := hT10.two.fields.2.1
      go_wp2_with fail
      refine hK.out _ _ ?_ (fun hHeld2 => ?_)
      · exact s10
      clear hK K hHeld
      have hHeld := hHeld2
      clear hHeld2
      try simp only [Act.put, List.setIfInBounds_toArray, List.set_cons_zero, List.set_cons_succ]
      refine wpAnyH_turn (S' := (fun W => W.cell? ⟨r, 5, none⟩ = some (.bool d'.dead) ∧ W.cell? ⟨r, 4, none⟩ = some (.int .i64 d'.works) ∧ W.cell? ⟨X, 0, none⟩ = some (.int .i64 x.kind) ∧ W.cell? ⟨X, 1, none⟩ = some (.int .i64 x.a) ∧ W.cell? ⟨X, 2, none⟩ = some (.int .i64 x.b) ∧ W.cell? ⟨X, 3, none⟩ = some (.int .i64 x.short) ∧ W.cell? ⟨X, 4, none⟩ = some (.slice x.kA x.kn x.kc))) (fun W h => h.2.2) ?_
      clear hHeld
      have hHeld := And.intro r5 (And.intro r4 s10)
      refine wpAnyH_take (i := 24) (v := ?_) (by simp only [List.getElem?_toArray, List.getElem?_cons_succ, List.getElem?_cons_zero]; rfl) (by kernel_rfl) (by kernel_rfl) (by kernel_rfl) (by exact fun _ _ _ h => h) (Or.inl ⟨by rfl, ?_⟩) hHeld ?_
      rotate_left
      · intro w hSw
        try dsimp only at hSw
        go_simp
        all_goals with_reducible rfl
      try simp only [Act.put, List.setIfInBounds_toArray, List.set_cons_zero, List.set_cons_succ]
      refine wpAnyH_take (i := 25) (v := ?_) (by simp only [List.getElem?_toArray, List.getElem?_cons_succ, List.getElem?_cons_zero]; rfl) (by kernel_rfl) (by kernel_rfl) (by kernel_rfl) (by exact fun _ _ _ h => h) (Or.inl ⟨by rfl, ?_⟩) hHeld ?_
      rotate_left
      · intro w hSw
        try dsimp only at hSw
        go_simp
        all_goals with_reducible rfl
      try simp only [Act.put, List.setIfInBounds_toArray, List.set_cons_zero, List.set_cons_succ]
      refine wpAnyH_take (i := 26) (v := ?_) (by simp only [List.getElem?_toArray, List.getElem?_cons_succ, List.getElem?_cons_zero]; rfl) (by kernel_rfl) (by kernel_rfl) (by kernel_rfl) (by exact fun _ _ _ h => h) (Or.inl ⟨by rfl, ?_⟩) hHeld ?_
      rotate_left
      · intro w hSw
        try dsimp only at hSw
        go_simp
        all_goals with_reducible rfl
      try simp only [Act.put, List.setIfInBounds_toArray, List.set_cons_zero, List.set_cons_succ]
      refine wpAnyH_take (i := 27) (v := ?_) (by simp only [List.getElem?_toArray, List.getElem?_cons_succ, List.getElem?_cons_zero]; rfl) (by kernel_rfl) (by kernel_rfl) (by kernel_rfl) (by exact fun _ _ _ h => h) (Or.inl ⟨by rfl, ?_⟩) hHeld ?_
      rotate_left
      · intro w hSw
        try dsimp only at hSw
        go_simp
        all_goals with_reducible rfl
      try simp only [Act.put, List.setIfInBounds_toArray, List.set_cons_zero, List.set_cons_succ]
      refine wpAnyH_take (i := 29) (v := ?_) (by simp only [List.getElem?_toArray, List.getElem?_cons_succ, List.getElem?_cons_zero]; rfl) (by kernel_rfl) (by kernel_rfl) (by kernel_rfl) (by exact fun _ _ _ h => h) (Or.inl ⟨by rfl, ?_⟩) hHeld ?_
      rotate_left
      · intro w hSw
        try dsimp only at hSw
        go_simp
        all_goals with_reducible rfl
      try simp only [Act.put, List.setIfInBounds_toArray, List.set_cons_zero, List.set_cons_succ]
      refine wpAnyH_take (i := 30) (v := ?_) (by simp only [List.getElem?_toArray, List.getElem?_cons_succ, List.getElem?_cons_zero]; rfl) (by kernel_rfl) (by kernel_rfl) (by kernel_rfl) (by exact fun _ _ _ h => h) (Or.inl ⟨by rfl, ?_⟩) hHeld ?_
      rotate_left
      · intro w hSw
        try dsimp only at hSw
        go_simp
        all_goals with_reducible rfl
      try simp only [Act.put, List.setIfInBounds_toArray, List.set_cons_zero, List.set_cons_succ]
      refine wpAnyH_take (i := 31) (v := ?_) (by simp only [List.getElem?_toArray, List.getElem?_cons_succ, List.getElem?_cons_zero]; rfl) (by kernel_rfl) (by kernel_rfl) (by kernel_rfl) (by exact fun _ _ _ h => h) (Or.inl ⟨by rfl, ?_⟩) hHeld ?_
      rotate_left
      · intro w hSw
        try dsimp only at hSw
        go_simp
        all_goals with_reducible rfl
      try simp only [Act.put, List.setIfInBounds_toArray, List.set_cons_zero, List.set_cons_succ]
      refine wpAnyH_take (i := 32) (v := ?_) (by simp only [List.getElem?_toArray, List.getElem?_cons_succ, List.getElem?_cons_zero]; rfl) (by kernel_rfl) (by kernel_rfl) (by kernel_rfl) (by exact fun _ _ _ h => h) (Or.inl ⟨by rfl, ?_⟩) hHeld ?_
      rotate_left
      · intro w hSw
        try dsimp only at hSw
        go_simp
        all_goals with_reducible rfl
      try simp only [Act.put, List.setIfInBounds_toArray, List.set_cons_zero, List.set_cons_succ]
      refine wpAnyH_ready (rs := [28]) (by kernel_rfl) (by simp) ?_
      refine AllReadyH.cons (by simp only [List.getElem?_toArray, List.getElem?_cons_succ, List.getElem?_cons_zero]; rfl) (fun K hK => ?_) AllReadyH.nil
      go_simp
      refine (dead_dv hT10.one).mono ?_
      rintro e w' ⟨rfl, rfl⟩
      go_wp2_with fail
      refine hK.out _ _ ?_ (fun hHeld2 => ?_)
      · exact ⟨r5, r4, s10⟩
      clear hK K hHeld
      have hHeld := hHeld2
      clear hHeld2
      try simp only [Act.put, List.setIfInBounds_toArray, List.set_cons_zero, List.set_cons_succ]
      refine wpAnyH_take (i := 33) (v := ?_) (by simp only [List.getElem?_toArray, List.getElem?_cons_succ, List.getElem?_cons_zero]; rfl) (by kernel_rfl) (by kernel_rfl) (by kernel_rfl) (by exact fun _ _ _ h => h) (Or.inl ⟨by rfl, ?_⟩) hHeld ?_
      rotate_left
      · intro w hSw
        try dsimp only at hSw
        go_simp
        all_goals with_reducible rfl
      try simp only [Act.put, List.setIfInBounds_toArray, List.set_cons_zero, List.set_cons_succ]
      refine wpAnyH_take (i := 34) (v := ?_) (by simp only [List.getElem?_toArray, List.getElem?_cons_succ, List.getElem?_cons_zero]; rfl) (by kernel_rfl) (by kernel_rfl) (by kernel_rfl) (by exact fun _ _ _ h => h) (Or.inl ⟨by rfl, ?_⟩) hHeld ?_
      rotate_left
      · intro w hSw
        try dsimp only at hSw
        go_simp
        all_goals with_reducible rfl
      try simp only [Act.put, List.setIfInBounds_toArray, List.set_cons_zero, List.set_cons_succ]
      refine wpAnyH_take (i := 35) (v := ?_) (by simp only [List.getElem?_toArray, List.getElem?_cons_succ, List.getElem?_cons_zero]; rfl) (by kernel_rfl) (by kernel_rfl) (by kernel_rfl) (by exact fun _ _ _ h => h) (Or.inl ⟨by rfl, ?_⟩) hHeld ?_
      rotate_left
      · intro w hSw
        try dsimp only at hSw
        go_simp
        all_goals with_reducible rfl
      try simp only [Act.put, List.setIfInBounds_toArray, List.set_cons_zero, List.set_cons_succ]
      refine wpAnyH_take (i := 36) (v := ?_) (by simp only [List.getElem?_toArray, List.getElem?_cons_succ, List.getElem?_cons_zero]; rfl) (by kernel_rfl) (by kernel_rfl) (by kernel_rfl) (by exact fun _ _ _ h => h) (Or.inl ⟨by rfl, ?_⟩) hHeld ?_
      rotate_left
      · intro w hSw
        try dsimp only at hSw
        go_simp
        all_goals with_reducible rfl
      try simp only [Act.put, List.setIfInBounds_toArray, List.set_cons_zero, List.set_cons_succ]
      refine wpAnyH_take (i := 38) (v := ?_) (by simp only [List.getElem?_toArray, List.getElem?_cons_succ, List.getElem?_cons_zero]; rfl) (by kernel_rfl) (by kernel_rfl) (by kernel_rfl) (by exact fun _ _ _ h => h) (Or.inl ⟨by rfl, ?_⟩) hHeld ?_
      rotate_left
      · intro w hSw
        try dsimp only at hSw
        go_simp
        all_goals with_reducible rfl
      try simp only [Act.put, List.setIfInBounds_toArray, List.set_cons_zero, List.set_cons_succ]
      refine wpAnyH_take (i := 39) (v := ?_) (by simp only [List.getElem?_toArray, List.getElem?_cons_succ, List.getElem?_cons_zero]; rfl) (by kernel_rfl) (by kernel_rfl) (by kernel_rfl) (by exact fun _ _ _ h => h) (Or.inl ⟨by rfl, ?_⟩) hHeld ?_
      rotate_left
      · intro w hSw
        try dsimp only at hSw
        go_simp
        all_goals with_reducible rfl
      try simp only [Act.put, List.setIfInBounds_toArray, List.set_cons_zero, List.set_cons_succ]
      refine wpAnyH_take (i := 40) (v := ?_) (by simp only [List.getElem?_toArray, List.getElem?_cons_succ, List.getElem?_cons_zero]; rfl) (by kernel_rfl) (by kernel_rfl) (by kernel_rfl) (by exact fun _ _ _ h => h) (Or.inl ⟨by rfl, ?_⟩) hHeld ?_
      rotate_left
      · intro w hSw
        try dsimp only at hSw
        go_simp
        all_goals with_reducible rfl
      try simp only [Act.put, List.setIfInBounds_toArray, List.set_cons_zero, List.set_cons_succ]
      refine wpAnyH_take (i := 41) (v := ?_) (by simp only [List.getElem?_toArray, List.getElem?_cons_succ, List.getElem?_cons_zero]; rfl) (by kernel_rfl) (by kernel_rfl) (by kernel_rfl) (by exact fun _ _ _ h => h) (Or.inl ⟨by rfl, ?_⟩) hHeld ?_
      rotate_left
      · intro w hSw
        try dsimp only at hSw
        go_simp
        all_goals with_reducible rfl
      try simp only [Act.put, List.setIfInBounds_toArray, List.set_cons_zero, List.set_cons_succ]
      refine wpAnyH_ready (rs := [37]) (by kernel_rfl) (by simp) ?_
      refine AllReadyH.cons (by simp only [List.getElem?_toArray, List.getElem?_cons_succ, List.getElem?_cons_zero]; rfl) (fun K hK => ?_) AllReadyH.nil
      go_simp
      refine (works_dv hT10.one).mono ?_
      rintro e w' ⟨rfl, rfl⟩
      go_wp2_with fail
      refine hK.out _ _ ?_ (fun hHeld2 => ?_)
      · exact ⟨r5, r4, s10⟩
      clear hK K hHeld
      have hHeld := hHeld2
      clear hHeld2
      try simp only [Act.put, List.setIfInBounds_toArray, List.set_cons_zero, List.set_cons_succ]
      refine wpAnyH_take (i := 42) (v := ?_) (by simp only [List.getElem?_toArray, List.getElem?_cons_succ, List.getElem?_cons_zero]; rfl) (by kernel_rfl) (by kernel_rfl) (by kernel_rfl) (by exact fun _ _ _ h => h) (Or.inl ⟨by rfl, ?_⟩) hHeld ?_
      rotate_left
      · intro w hSw
        try dsimp only at hSw
        go_simp
        all_goals with_reducible rfl
      try simp only [Act.put, List.setIfInBounds_toArray, List.set_cons_zero, List.set_cons_succ]
      refine wpAnyH_take (i := 43) (v := ?_) (by simp only [List.getElem?_toArray, List.getElem?_cons_succ, List.getElem?_cons_zero]; rfl) (by kernel_rfl) (by kernel_rfl) (by kernel_rfl) (by exact fun _ _ _ h => h) (Or.inl ⟨by rfl, ?_⟩) hHeld ?_
      rotate_left
      · intro w hSw
        try dsimp only at hSw
        go_simp
        all_goals with_reducible rfl
      try simp only [Act.put, List.setIfInBounds_toArray, List.set_cons_zero, List.set_cons_succ]
      refine wpAnyH_done (by kernel_rfl) ?_ _
      have hsz6 := hk6'.size
      have hw5 : w5.drew.heap.size = w5.heap.size := rfl
      have hA4f6 : ∀ p, A4 = some p → w.heap.size ≤ p.block ∧ p.block ∉ f6 ∧ p.block ∉ g7 := fun p hp => ⟨by have := (hlt4 p hp).1; have := hT1.kept.size; omega, fun hm => by
        rcases hn6 _ hm with h1 | h1
        · exact hA4f p hp h1
        · have := (hlt4 p hp).2; omega, fun hm => by
        rcases hn7 _ hm with h1 | h1
        · exact hA4g p hp h1
        · have := (hlt4 p hp).2; omega⟩
      have hA5f6 : ∀ p, A5 = some p → w.heap.size ≤ p.block ∧ p.block ∉ f6 ∧ p.block ∉ g7 := fun p hp => ⟨by have := (hlt5 p hp).1; have := hT1.kept.size; omega, fun hm => by
        rcases hn6 _ hm with h1 | h1
        · exact hA5f p hp h1
        · have := (hlt5 p hp).2; omega, fun hm => by
        rcases hn7 _ hm with h1 | h1
        · exact hA5g p hp h1
        · have := (hlt5 p hp).2; omega⟩
      have hM4 := MutAt.start_u8 o410
      have o510' : ∀ W, Kept (blksOf A4) w10 W → W.ownsRow w4.heap.size 3 1 (.slice A5 x.kn c5) x.kn (x.keep.map i64v) := fun W hkW => own_kept o510 hkW (fun j e hj => by
        obtain ⟨p, hp, e2⟩ := of_blksOf hj
        cases h5 : A5 with
        | none => rw [h5] at e; cases e
        | some p5 =>
          rw [h5] at e
          have : p5.block = j := by simpa [Value.ownBlock] using e
          exact hA45 p p5 hp h5 (by omega))
      clear s5 s6 s7 s8 s9 s10 r4 r5 hHeld o46 o47 o48 o49 o410 o56 o57 o58 o59 o510 hs46 hs47 hs48 hs56 hs57 hs58 hs59 hs88 hX6 hX7 hX8 hX9 hX10 hT6 hT7 hT8 hT9 hTd hXd hX5 hX4 hT5 hT4 hown4 hown5 own4 own5 cdo hk4 hk5 hk6' hk7 hk8 hk9 hk10 hn6 hn7 hD6 hD7 hXf hXg hlt4 hlt5 h45 h14 hA4f hA4g hA5f hA5g hA45 hsz6 hw5 hnA hde hde2 hX1 hT1
      have hfl : fullLen x.short ≤ 128 := by unfold fullLen; omega
      go_wp2_with fail
      go_loopw [13] (fun i wr => MuRel .u8 W1.drew.heap.size 5 A4 (fullLen x.short) c4 w10 i wr) (fun i _ => fullLen x.short - (intOf i).toNat)
      case atStart => exact ⟨0, Nat.zero_le _, rfl, hM4⟩
      case round =>
        clear hM4
        obtain ⟨j, hj, rfl, hM⟩ := hrel
        by_cases hjl : j < fullLen x.short
        · obtain ⟨g, z, hA, hc, hf, hle, hmx, hM'⟩ := hM.at_ hjl
          unfold maxLen at hmx
          subst hA
          have j1 : (j : Int) < (fullLen x.short : Int) := by omega
          clear hM
          go_wp2_with fail
          go_roundw
          case rel => exact ⟨j + 1, by omega, by go_num, hM' _⟩
          case measure => simp [intOf]; omega
        · obtain rfl : j = fullLen x.short := by omega
          clear hjl
          have j1 : ¬ ((fullLen x.short : Nat) : Int) < (fullLen x.short : Int) := by omega
          have hM5 := MutAt.start_i64 (o510' _ hM.kept)
          have hT11 := hT10.keptF hM.kept (fun j hj => by obtain ⟨p, hp, e⟩ := of_blksOf hj; rw [← e]; exact hA4f6 p hp)
          clear hM hT10 o510'
          go_wp2_with fail
          go_loopw [14] (fun i w12 => MuRel .i64 w4.heap.size 3 A5 x.kn c5 wr i w12) (fun i _ => x.kn - (intOf i).toNat)
          case atStart => exact ⟨0, Nat.zero_le _, rfl, hM5⟩
          case round =>
            clear hM5
            obtain ⟨j, hj, rfl, hM⟩ := hrel
            by_cases hjl : j < x.kn
            · obtain ⟨g, z, hA, hc, hf, hle, hmx, hM'⟩ := hM.at_ hjl
              unfold maxLen at hmx
              subst hA
              have j1 : (j : Int) < (x.kn : Int) := by omega
              clear hM
              go_wp2_with fail
              go_roundw
              case rel => exact ⟨j + 1, by omega, by go_num, hM' _⟩
              case measure => simp [intOf]; omega
            · obtain rfl : j = x.kn := by omega
              clear hjl
              have j1 : ¬ ((x.kn : Nat) : Int) < (x.kn : Int) := by omega
              have hT12 := hT11.keptF hM.kept (fun j hj => by obtain ⟨p, hp, e⟩ := of_blksOf hj; rw [← e]; exact hA5f6 p hp)
              clear hM hT11
              have hdn : d'.secs.length = n := hdw.2.trans hlen
              have hcut : d'.cut n = d' := by unfold Dev.cut; rw [List.take_of_length_le (by omega)]
              rw [hcut] at hT12 hwf2'
              clear hA4f6 hA5f6
              go_wp2_with fail
              go_loopw [15] (fun i w13 => CmRel wr n i w13) (fun i _ => n + 2 - (intOf i + 1).toNat)
              case atStart => exact ⟨0, by omega, rfl, Kept.refl _ _⟩
              case round =>
                obtain ⟨j, hj, rfl, hk13⟩ := hrel
                have hT13 := hT12.kept' hk13
                obtain ⟨⟨B13, cap13, r13⟩, _, _⟩ := hT13.two.fields
                rw [hdn] at r13
                by_cases hjn : j ≤ n + 1
                · have j1 : (j : Int) - 1 ≤ (n : Int) := by omega
                  by_cases hz : d'.at_ ((j : Int) - 1) = 0
                  · obtain ⟨hj0, hjl⟩ : 1 ≤ j ∧ j - 1 < d'.secs.length := by
                      unfold Dev.at_ at hz
                      by_cases hdd : d'.dead = true
                      · rw [if_pos hdd] at hz; exact absurd hz (by decide)
                      · rw [if_neg hdd] at hz
                        by_cases hi : (j : Int) - 1 < 0 ∨ (d'.secs.length : Int) ≤ (j : Int) - 1
                        · rw [if_pos hi] at hz; exact absurd hz (by decide)
                        · omega
                    obtain ⟨bb, hbb⟩ : ∃ bb, d'.secs[((j : Int) - 1).toNat]? = some bb := ⟨_, List.getElem?_eq_getElem (by omega)⟩
                    have cr := read_dv hT13.one ((j : Int) - 1) hz hbb
                    have hjj : ((j : Int) - 1 == (n : Int)) = false := by simp; omega
                    go_wp2_with fail
                    refine cr.mono ?_
                    clear cr
                    rintro e w8 ⟨A8, c8, rfl, hown8, hbel8⟩
                    have hk8 := Kept.of_below (F := []) hbel8
                    have hT8 := hT13.kept' hk8
                    have cr := rv_read hT8.two ((j : Int) - 1) hz hbb
                    go_wp2_with fail
                    refine cr.mono ?_
                    clear cr
                    rintro e w9 ⟨A9, c9, rfl, hown9, hbel9⟩
                    have hk9 := Kept.of_below (F := []) hbel9
                    have ce := eq_true w9 A8 A9 128 c8 128 c9 bb ((ClonePost.sl hown8).1.kept hk9 (by simp)) (ClonePost.sl hown9).1
                    go_wp2_with fail
                    refine ce.mono ?_
                    clear ce
                    rintro e w10 ⟨rfl, hk10⟩
                    have hM8 := MutAt.start_u8 (own_kept (own_kept hown8 hk9 (by simp)) hk10 (by simp))
                    have hkA := ((hk13.trans hk8).trans hk9).trans hk10
                    have hA8 := (ClonePost.sl hown8).2
                    have hsz13 := hk13.size
                    clear hown8 hown9 hbel8 hbel9 hT8 hk8 hk9 hk10
                    go_wp2_with fail
                    go_loopw [20] (fun i w15 => MuRel .u8 wr.heap.size 5 A8 128 c8 w10 i w15) (fun i _ => 128 - (intOf i).toNat)
                    case atStart => exact ⟨0, Nat.zero_le _, rfl, hM8⟩
                    case round =>
                      clear hM8
                      obtain ⟨y, hy, rfl, hM⟩ := hrel
                      by_cases hyl : y < 128
                      · obtain ⟨g, z, hA, hc, hf, hle, hmx, hM'⟩ := hM.at_ hyl
                        unfold maxLen at hmx
                        subst hA
                        have y1 : (y : Int) < ((128 : Nat) : Int) := by omega
                        clear hM
                        go_wp2_with fail
                        go_roundw
                        case rel => exact ⟨y + 1, by omega, by go_num, hM' _⟩
                        case measure => simp [intOf]; omega
                      · obtain rfl : y = 128 := by omega
                        clear hyl
                        have hkk := hkA.trans' hM.kept (fun i hi => by obtain ⟨p, hp, e⟩ := of_blksOf hi; have := hA8 p hp; exact .inr (by omega))
                        go_wp2_with fail
                        go_roundw
                        case rel => exact ⟨j + 1, by omega, by first | rfl | go_num | (congr 1; omega), hkk⟩
                        case measure => simp [intOf]; omega
                  · have cr := read_bad hT13.one ((j : Int) - 1) hz
                    have cr2 := rv_read_bad hT13.two ((j : Int) - 1) hz
                    have hM8 : MutAt .u8 0 5 none 0 0 wr wr := ⟨⟨[], World.ownsRow_nil _ _ _ _, by simp⟩, Kept.refl _ _⟩
                    generalize d'.at_ ((j : Int) - 1) = ev at cr cr2 hz
                    by_cases hj2 : (j : Int) - 1 = (n : Int)
                    · have hjj : ((j : Int) - 1 == (n : Int)) = true := by simp [hj2]
                      clear hj2
                      go_wp2_with fail
                      refine cr.mono ?_
                      clear cr
                      rintro e w' ⟨rfl, rfl⟩
                      go_wp2_with fail
                      refine cr2.mono ?_
                      clear cr2
                      rintro e w' ⟨rfl, rfl⟩
                      have ce := eq_true wr none none 0 0 0 0 [] (SlAt.nil _) (SlAt.nil _)
                      go_wp2_with fail
                      refine ce.mono ?_
                      clear ce
                      rintro e w10 ⟨rfl, hk10⟩
                      have hkA := hk13.trans hk10
                      have hM8 : MutAt .u8 0 5 none 0 0 w10 w10 := ⟨⟨[], World.ownsRow_nil _ _ _ _, by simp⟩, Kept.refl _ _⟩
                      go_wp2_with fail
                      go_loopw [20] (fun i w15 => MuRel .u8 0 5 none 0 0 w10 i w15) (fun i _ => 0 - (intOf i).toNat)
                      case atStart => exact ⟨0, Nat.zero_le _, rfl, hM8⟩
                      case round =>
                        clear hM8
                        obtain ⟨y, hy, rfl, hM⟩ := hrel
                        by_cases hyl : y < 0
                        · exact absurd hyl (by omega)
                        · obtain rfl : y = 0 := by omega
                          clear hyl
                          have hkk := hkA.trans' hM.kept (fun i hi => by simp [blksOf] at hi)
                          go_wp2_with fail
                          go_roundw
                          case rel => exact ⟨j + 1, by omega, by first | rfl | go_num | (congr 1; omega), hkk⟩
                          case measure => simp [intOf]; omega
                    · have hjj : ((j : Int) - 1 == (n : Int)) = false := by simp [hj2]
                      clear hj2
                      go_wp2_with fail
                      refine cr.mono ?_
                      clear cr
                      rintro e w' ⟨rfl, rfl⟩
                      go_wp2_with fail
                      refine cr2.mono ?_
                      clear cr2
                      rintro e w' ⟨rfl, rfl⟩
                      have ce := eq_true wr none none 0 0 0 0 [] (SlAt.nil _) (SlAt.nil _)
                      go_wp2_with fail
                      refine ce.mono ?_
                      clear ce
                      rintro e w10 ⟨rfl, hk10⟩
                      have hkA := hk13.trans hk10
                      have hM8 : MutAt .u8 0 5 none 0 0 w10 w10 := ⟨⟨[], World.ownsRow_nil _ _ _ _, by simp⟩, Kept.refl _ _⟩
                      go_wp2_with fail
                      go_loopw [20] (fun i w15 => MuRel .u8 0 5 none 0 0 w10 i w15) (fun i _ => 0 - (intOf i).toNat)
                      case atStart => exact ⟨0, Nat.zero_le _, rfl, hM8⟩
                      case round =>
                        clear hM8
                        obtain ⟨y, hy, rfl, hM⟩ := hrel
                        by_cases hyl : y < 0
                        · exact absurd hyl (by omega)
                        · obtain rfl : y = 0 := by omega
                          clear hyl
                          have hkk := hkA.trans' hM.kept (fun i hi => by simp [blksOf] at hi)
                          go_wp2_with fail
                          go_roundw
                          case rel => exact ⟨j + 1, by omega, by first | rfl | go_num | (congr 1; omega), hkk⟩
                          case measure => simp [intOf]; omega
                · obtain rfl : j = n + 2 := by omega
                  have j1 : ¬ (((n + 2 : Nat) : Int) - 1 ≤ (n : Int)) := by omega
                  go_wp2_with fail
                  go_roundw
                  case rel => exact ⟨k + 1, d', f6, g7, by omega, by omega, by go_num, ⟨by rw [hcut]; exact hT13, hdn, by have h9 : d'.works ≤ d.works + 1 := hdw.1; show d'.works ≤ ((k + 1 : Nat) : Int); omega, by rw [hcut]; exact hwf2'⟩⟩
                  case measure => simp [intOf]; omega
    · have hend : (k : Int) = q ∨ (k : Int) < q ∧ ¬ (k : Int) < 60 := by omega
      rcases hend with i1 | ⟨i1, i2⟩
      · have i1 : ¬ (k : Int) < q := by omega
        clear hin
        go_wp2_with fail
        refine (awake10_any _).mono ?_
        rintro e w4 ⟨rfl, hk4⟩
        go_wp2_with fail
        go_ret
        exact ⟨rfl, hK.at_.kept.trans hk4⟩
      · clear hin
        go_wp2_with fail
        refine (awake10_any _).mono ?_
        rintro e w4 ⟨rfl, hk4⟩
        go_wp2_with fail
        go_ret
        exact ⟨rfl, hK.at_.kept.trans hk4⟩
end Go.Proofs.Ytbnflbkaogpnbaa
