/- StripBack: the walk. -/
import Derived.Test.YtbnflbkaogpnbaaQB
import Derived.Deep.AppendLies
namespace Go.Proofs.Ytbnflbkaogpnbaa
open Go.RowKit

/-- Where the records end. -/
def endV (cp : List Part) (j : Nat) : Value := .int .i64 ((recs (texts (cp.take j))).length : Nat)
def endsV (cp : List Part) (k : Nat) : List Value := (List.range (k + 1)).map (endV cp)

theorem endsV_next (cp : List Part) (k : Nat) : endsV cp (k + 1) = endsV cp k ++ [endV cp (k + 1)] := by
  unfold endsV
  rw [List.range_succ, List.map_append]
  rfl

theorem BytessAt.low {w : World} {A : Option Addr} {n c : Nat} {l : List Part} (h : BytessAt w A n c l) {i : Nat} (hi : i ≤ n) : BytessAt w A i c (l.take i) :=
  ⟨by rw [List.length_take, h.len]; omega, Nat.le_trans hi h.le, h.max, fun p hp => h.all p (List.mem_of_mem_take hp), fun hn => by
    obtain ⟨b, o, e, hb, hc⟩ := h.cells (by omega)
    refine ⟨b, o, e, hb, fun j p hj => hc j p ?_⟩
    rw [List.getElem?_take] at hj
    split at hj
    · exact hj
    · cases hj⟩

def endN (cp : List Part) (j : Nat) : Nat := (recs (texts (cp.take j))).length
theorem endV_eq (cp : List Part) (j : Nat) : endV cp j = .int .i64 (endN cp j : Nat) := rfl

theorem texts_low (cp : List Part) (j : Nat) : texts (cp.take j) = (texts cp).take j := by simp [texts, List.map_take]

theorem ends_of {cp : List Part} {k q : Nat} (hcp : cp.length = k) (hs : Small (texts cp)) (hq : q ≤ (recs (texts cp)).length) :
    (∃ i, i ≤ k ∧ endN cp i = q ∧ (recs (texts cp)).take q = recs (texts (cp.take i)) ∧ ∀ j, j ≤ k → endN cp j = q → texts (cp.take j) = texts (cp.take i)) ∨ (NoRecs ((recs (texts cp)).take q) ∧ ∀ j, j ≤ k → endN cp j ≠ q) := by
  have hl : (texts cp).length = k := by simp [texts, hcp]
  rcases recs_take hs hq with ⟨i, hi, h1, h2⟩ | ⟨h1, h2⟩
  · refine .inl ⟨i, by omega, by rw [endN, texts_low, ← h1], by rw [texts_low, h2], fun j hj h3 => ?_⟩
    apply recs_inj (by rw [texts_low]; exact hs.take j) (by rw [texts_low]; exact hs.take i)
    have h4 : recs (texts cp) = recs ((texts cp).take j) ++ recs ((texts cp).drop j) := by rw [← recs_append, List.take_append_drop]
    have h5 : (recs (texts cp)).take q = recs ((texts cp).take j) := by
      rw [endN, texts_low] at h3
      rw [h4, ← h3, List.take_left]
    rw [texts_low, texts_low, ← h5, h2]
  · exact .inr ⟨h1, fun j hj h3 => h2 j (by omega) (by rw [← h3, endN, texts_low])⟩

def BkLoop (w6 : World) (cp : List Part) (k q : Nat) (i : Value) (wx : World) : Prop := ∃ j : Nat, j ≤ k + 1 ∧ i = .int .i64 j ∧ wx = w6 ∧ ∀ j', j' < j → endN cp j' ≠ q

def BkRel (w : World) (z a T : Nat) (cp : List Part) (v u i : Value) (wr : World) : Prop :=
  ∃ (k : Nat) (s : St) (d : Dev) (F : List Nat), i = .int .i64 k ∧ k ≤ T ∧ SdF w wr z a F s d (texts (cp.take k)) ∧ s.first = 0 ∧ s.many = 64 ∧ d.secs.length = 64 ∧ d.works ≤ 320 * k ∧ s.fin ≤ 307 * k ∧
    RowIn w.heap.size wr 34 F v k ((cp.take k).map Part.val) ∧ RowIn w.heap.size wr 3 F u (k + 1) (endsV cp k) ∧ ∀ g, v.ownBlock = some g → u.ownBlock ≠ some g

theorem row_cells {base : Nat} {w : World} {t : TypeId} {F : List Nat} {v : Value} {n : Nat} {xs : List Value} (h : RowIn base w t F v n xs) (hn : 0 < n) : ∃ g c, v = .slice (some ⟨g, 0, none⟩) n c ∧ g < w.heap.size ∧ g ∉ F ∧ n ≤ c ∧ c ≤ maxLen ∧ ∀ i x, xs[i]? = some x → w.cell? ⟨g, i, none⟩ = some x := by
  obtain ⟨g, c, rfl, _, hl⟩ := h.own.form hn
  obtain ⟨hs, _⟩ := own_sl h.own
  refine ⟨g, c, rfl, hl, h.ne g rfl, hs.le, hs.max, fun i x hx => ?_⟩
  have h1 := h.own.cells (g := g) rfl i x hx
  rw [add_block, Nat.zero_add] at h1
  exact h1

set_option maxHeartbeats 4000000 in
set_option maxRecDepth 100000 in
theorem stripBack_walk (w : World) (A : Option Addr) (n c : Nat) (l : List Part) (hl : BytessAt w A n c l) (a1 : Int) (h1 : I64 a1) :
    Calls Try.prog 10 #[.slice A n c, .int .i64 a1] w (TruePost w) := by
  unfold I64 at h1
  obtain ⟨j0, hj0, ju0, ju1, ju2⟩ := info_parts info_bytes
  obtain ⟨v0, hv0, vu0, vu1, vu2⟩ := info_parts info_int
  obtain ⟨T, hT⟩ : ∃ T : Nat, min (n : Int) 20 = T := ⟨min n 20, by omega⟩
  have hT1 : T ≤ n ∧ T ≤ 20 ∧ (T = n ∨ T = 20) := by omega
  obtain ⟨cp, hcp⟩ : ∃ cp, (l.take 20).map (Part.low 300) = cp := ⟨_, rfl⟩
  have hcpl : cp.length = T := by rw [← hcp, List.length_map, List.length_take, hl.len]; omega
  have hcpa : ∀ p ∈ cp, p.At w := fun p hp => by
    rw [← hcp] at hp
    obtain ⟨p0, h0, rfl⟩ := List.mem_map.1 hp
    exact (hl.all p0 (List.mem_of_mem_take h0)).low 300
  have hcpk : ∀ k p, k < 20 → l[k]? = some p → cp[k]? = some (p.low 300) := fun k p hk hp => by
    rw [← hcp, List.getElem?_map, List.getElem?_take, if_pos hk, hp]; rfl
  have HCP := Lib.hid hcp; have HCPL := Lib.hid hcpl
  have hln := hl.le; have hlm := hl.max
  unfold maxLen at hlm
  clear hcp hcpl hT
  go_enter Try.func10, Try.ntmps10
  go_wp2_with fail
  refine (new_any 64 _ (by omega) (by omega)).mono ?_
  rintro e w1 ⟨a, f1, rfl, hD1, hA1, hN1⟩
  go_wp2_with fail
  refine (openF hD1 (new_calm 64) hA1 hN1 (first := 0) (many := 64) (by omega) (by decide)).mono ?_
  rintro e w2 ⟨z, s, A2, c2, F, rfl, h2, e1, e2, e3⟩
  clear hD1 hA1 hN1
  go_wp2_with fail
  have hk3 := Kept.alloc [] w2 (.cells #[.int .i64 0] 3)
  have hrowE : RowIn w.heap.size (w2.alloc (.cells #[.int .i64 0] 3)) 3 F (.slice (some ⟨w2.heap.size, 0, none⟩) 1 1) (0 + 1) (endsV cp 0) :=
    ⟨⟨rfl, .inr ⟨w2.heap.size, 1, #[.int .i64 0], rfl, h2.kept.size, heap_alloc_new _ _, Nat.le_refl _, by unfold maxLen; omega, rfl, rfl⟩⟩, fun g e hm => by
      have e4 : w2.heap.size = g := by simpa [Value.ownBlock] using e
      have := h2.sd.lt g hm
      omega⟩
  go_loopw [10, 11, 12] (fun v u i wr => BkRel w z a T cp v u i wr) (fun _ _ i _ => 20 - (intOf i).toNat)
  case atStart => exact ⟨0, s, Dev.new 64, F, rfl, by omega, h2.next hk3, e1, e2, rfl, by decide, by omega, ⟨World.ownsRow_nil _ _ _ _, fun g e => by cases e⟩, hrowE, fun g e => by cases e⟩
  case round =>
    obtain ⟨k, s1, d1, F1, rfl, hk, h3, g1, g2, g3, g4, g5, hrA, hrE, hne⟩ := hrel
    clear h2 e1 e2 e3 hrowE hk3
    by_cases hlt : k < T
    · have i1 : (k : Int) < (n : Int) := by omega
      have i2 : (k : Int) < 20 := by omega
      have i3 : (k : Int) < (k : Int) + 1 := by omega
      have hlr := hl.new h3.kept
      obtain ⟨b, o, p, hA, hbl, hpl, hpa, hcx⟩ := hlr.at_ (show k < n by omega)
      obtain ⟨ml, hmin, hml1, hml2, hml3, hsl⟩ := part_low hpa 300
      replace hmin : min (p.n : Int) 300 = (ml : Nat) := hmin
      have hple := hpa.1.le; have hpmx := hpa.1.max; have hpn := hpa.2
      unfold maxLen at hpmx
      have hcpp := hcpk k p (by omega) hpl
      have htk := texts_take cp hcpp
      have hlowv : (p.low 300).val = .slice p.A ml p.c := by unfold Part.low Part.val; rw [show min p.n 300 = ml by omega]
      have hfe := h3.inv.fin h3.calm.size
      obtain ⟨gE, cE, rfl, hgl, hgF, hgc, hgm, hcell⟩ := row_cells hrE (by omega)
      unfold maxLen at hgm
      obtain ⟨u, hu⟩ : ∃ u, s1.fin = u := ⟨_, rfl⟩
      have xk : wr.cell? ⟨gE, k, none⟩ = some (.int .i64 u) := by
        rw [hcell k (endV cp k) (by simp [endsV])]
        unfold endV
        rw [← hfe, hu]
      subst hA
      have HLV := Lib.hid hlowv; have HTK := Lib.hid htk; have HCPP := Lib.hid hcpp; have HUU := Lib.hid hu
      have G1 := Lib.hid g1; have G2 := Lib.hid g2; have G3 := Lib.hid g3
      have hbl2 : (p.xs.take 300).length ≤ 16384 := by omega
      have hroom : s1.fin + ((p.xs.take 300).length + 7) ≤ 128 * s1.many := by rw [g2, hml3]; omega
      have hu20 : u ≤ 10000 := by omega
      clear hpl hpa hlr hcpp htk hlowv g1 g2 g3 hfe hcell hu
      go_wp2_with fail
      go_quiet (fail)
      go_wp2_with fail
      have xk2 : (wr.drewN nq).cell? ⟨gE, k, none⟩ = some (.int .i64 u) := xk
      have hrA2 := hrA.next (Kept.drewN [] wr nq)
      have hrE2 := hrE.next (Kept.drewN [] wr nq)
      have h3n := h3.next (Kept.drewN [] wr nq)
      have hgl2 : gE < (wr.drewN nq).heap.size := hgl
      have hsl2 := hsl nq
      clear hrA hrE h3 xk hgl hsl
      generalize wr.drewN nq = wn at *
      have h3d := h3n.next (Kept.drew [] wn)
      have hsl3 := hsl2.kept (Kept.drew [] wn) (by simp)
      have hrA3 := hrA2.next (Kept.drew [] wn)
      have hrE3 := hrE2.next (Kept.drew [] wn)
      have hsz : stripSize (ml : Int) = (ml : Int) + 7 := by unfold stripSize; rw [if_neg (by omega)]
      have hwv : IntKind.i64.wrap ((u : Int) + ((ml : Int) + 7)) = (u : Int) + ((ml : Int) + 7) := by rw [IntKind.wrap_i64]; omega
      have hkq2 : k + 1 ≤ maxLen ∧ (k + 1) * 24 ≤ 140737488355328 := by unfold maxLen; omega
      have hkq3 : k + 1 + 1 ≤ maxLen ∧ (k + 1 + 1) * 8 ≤ 140737488355328 := by unfold maxLen; omega
      have hdw : d1.works < 9223372036854000000 := by omega
      clear hrA2 hrE2 h3n hsl2
      refine wp_region_calm (S := (fun W => W.cell? ⟨gE, k, none⟩ = some (.int .i64 u))) (by kernel_rfl) xk2 (fun hHeld => ?_)
      refine wpAnyH_take (i := 0) (v := ?_) (by simp only [List.getElem?_toArray, List.getElem?_cons_zero]; rfl) (by kernel_rfl) (by kernel_rfl) (by kernel_rfl) (by exact fun _ _ _ h => h) (Or.inl ⟨by rfl, ?_⟩) hHeld ?_
      rotate_left
      · intro w hSw
        try dsimp only at hSw
        go_simp
        all_goals with_reducible rfl
      try simp only [Act.put, List.setIfInBounds_toArray, List.set_cons_zero, List.set_cons_succ]
      refine wpAnyH_take (i := 1) (v := ?_) (by simp only [List.getElem?_toArray, List.getElem?_cons_succ, List.getElem?_cons_zero]; rfl) (by kernel_rfl) (by kernel_rfl) (by kernel_rfl) (by exact fun _ _ _ h => h) (Or.inl ⟨by rfl, ?_⟩) hHeld ?_
      rotate_left
      · intro w hSw
        try dsimp only at hSw
        go_simp
        all_goals with_reducible rfl
      try simp only [Act.put, List.setIfInBounds_toArray, List.set_cons_zero, List.set_cons_succ]
      refine wpAnyH_ready (rs := [2]) (by kernel_rfl) (by simp) ?_
      refine AllReadyH.cons (by simp only [List.getElem?_toArray, List.getElem?_cons_succ, List.getElem?_cons_zero]; rfl) (fun K hK => ?_) AllReadyH.nil
      go_simp
      refine (h3d.fits p.A ml p.c (p.xs.take 300) hsl3 hpn hbl2 hroom hdw).mono ?_
      rintro e w4 ⟨rfl, s2, d2, F2, h4, k2, st⟩
      have xk4 : w4.cell? ⟨gE, k, none⟩ = some (.int .i64 u) := (st.kept.cell (p := ⟨gE, k, none⟩) hgl2 hgF).trans xk2
      have hs3 : (s2.fin : Int) = (u : Int) + ((ml : Int) + 7) := by rw [k2.fin, HUU.out, hml3]; push_cast; rfl
      have cf := h4.fin
      rw [hs3] at cf
      have HS3 := Lib.hid hs3
      have hrA4 := hrA3.step st
      have hrE4 := hrE3.step st
      have hb4 := h4.kept.size
      clear hs3 hrA3 hrE3 h3d hsl3 st
      go_wp2_with fail
      refine hK.out _ _ ?_ (fun hHeld2 => ?_)
      · exact xk4
      clear hK K hHeld
      have hHeld := hHeld2
      clear hHeld2
      try simp only [Act.put, List.setIfInBounds_toArray, List.set_cons_zero, List.set_cons_succ]
      refine wpAnyH_take (i := 3) (v := ?_) (by simp only [List.getElem?_toArray, List.getElem?_cons_succ, List.getElem?_cons_zero]; rfl) (by kernel_rfl) (by kernel_rfl) (by kernel_rfl) (by exact fun _ _ _ h => h) (Or.inl ⟨by rfl, ?_⟩) hHeld ?_
      rotate_left
      · intro w hSw
        try dsimp only at hSw
        go_simp
        all_goals with_reducible rfl
      try simp only [Act.put, List.setIfInBounds_toArray, List.set_cons_zero, List.set_cons_succ]
      refine wpAnyH_take (i := 4) (v := ?_) (by simp only [List.getElem?_toArray, List.getElem?_cons_succ, List.getElem?_cons_zero]; rfl) (by kernel_rfl) (by kernel_rfl) (by kernel_rfl) (by exact fun _ _ _ h => h) (Or.inl ⟨by rfl, ?_⟩) hHeld ?_
      rotate_left
      · intro w hSw
        try dsimp only at hSw
        go_simp
        all_goals with_reducible rfl
      try simp only [Act.put, List.setIfInBounds_toArray, List.set_cons_zero, List.set_cons_succ]
      refine wpAnyH_take (i := 5) (v := ?_) (by simp only [List.getElem?_toArray, List.getElem?_cons_succ, List.getElem?_cons_zero]; rfl) (by kernel_rfl) (by kernel_rfl) (by kernel_rfl) (by exact fun _ _ _ h => h) (Or.inl ⟨by rfl, ?_⟩) hHeld ?_
      rotate_left
      · intro w hSw
        try dsimp only at hSw
        go_simp
        all_goals with_reducible rfl
      try simp only [Act.put, List.setIfInBounds_toArray, List.set_cons_zero, List.set_cons_succ]
      refine wpAnyH_take (i := 7) (v := ?_) (by simp only [List.getElem?_toArray, List.getElem?_cons_succ, List.getElem?_cons_zero]; rfl) (by kernel_rfl) (by kernel_rfl) (by kernel_rfl) (by exact fun _ _ _ h => h) (Or.inl ⟨by rfl, ?_⟩) hHeld ?_
      rotate_left
      · intro w hSw
        try dsimp only at hSw
        go_simp
        all_goals with_reducible rfl
      try simp only [Act.put, List.setIfInBounds_toArray, List.set_cons_zero, List.set_cons_succ]
      refine wpAnyH_take (i := 8) (v := ?_) (by simp only [List.getElem?_toArray, List.getElem?_cons_succ, List.getElem?_cons_zero]; rfl) (by kernel_rfl) (by kernel_rfl) (by kernel_rfl) (by exact fun _ _ _ h => h) (Or.inl ⟨by rfl, ?_⟩) hHeld ?_
      rotate_left
      · intro w hSw
        try dsimp only at hSw
        go_simp
        all_goals with_reducible rfl
      try simp only [Act.put, List.setIfInBounds_toArray, List.set_cons_zero, List.set_cons_succ]
      refine wpAnyH_take (i := 9) (v := ?_) (by simp only [List.getElem?_toArray, List.getElem?_cons_succ, List.getElem?_cons_zero]; rfl) (by kernel_rfl) (by kernel_rfl) (by kernel_rfl) (by exact fun _ _ _ h => h) (Or.inl ⟨by rfl, ?_⟩) hHeld ?_
      rotate_left
      · intro w hSw
        try dsimp only at hSw
        go_simp
        all_goals with_reducible rfl
      try simp only [Act.put, List.setIfInBounds_toArray, List.set_cons_zero, List.set_cons_succ]
      refine wpAnyH_take (i := 10) (v := ?_) (by simp only [List.getElem?_toArray, List.getElem?_cons_succ, List.getElem?_cons_zero]; rfl) (by kernel_rfl) (by kernel_rfl) (by kernel_rfl) (by exact fun _ _ _ h => h) (Or.inl ⟨by rfl, ?_⟩) hHeld ?_
      rotate_left
      · intro w hSw
        try dsimp only at hSw
        go_simp
        all_goals with_reducible rfl
      try simp only [Act.put, List.setIfInBounds_toArray, List.set_cons_zero, List.set_cons_succ]
      refine wpAnyH_take (i := 11) (v := ?_) (by simp only [List.getElem?_toArray, List.getElem?_cons_succ, List.getElem?_cons_zero]; rfl) (by kernel_rfl) (by kernel_rfl) (by kernel_rfl) (by exact fun _ _ _ h => h) (Or.inl ⟨by rfl, ?_⟩) hHeld ?_
      rotate_left
      · intro w hSw
        try dsimp only at hSw
        go_simp
        all_goals with_reducible rfl
      try simp only [Act.put, List.setIfInBounds_toArray, List.set_cons_zero, List.set_cons_succ]
      refine wpAnyH_take (i := 12) (v := ?_) (by simp only [List.getElem?_toArray, List.getElem?_cons_succ, List.getElem?_cons_zero]; rfl) (by kernel_rfl) (by kernel_rfl) (by kernel_rfl) (by exact fun _ _ _ h => h) (Or.inl ⟨by rfl, ?_⟩) hHeld ?_
      rotate_left
      · intro w hSw
        try dsimp only at hSw
        go_simp
        all_goals with_reducible rfl
      try simp only [Act.put, List.setIfInBounds_toArray, List.set_cons_zero, List.set_cons_succ]
      refine wpAnyH_ready (rs := [6]) (by kernel_rfl) (by simp) ?_
      refine AllReadyH.cons (by simp only [List.getElem?_toArray, List.getElem?_cons_succ, List.getElem?_cons_zero]; rfl) (fun K hK => ?_) AllReadyH.nil
      go_simp
      refine cf.mono ?_
      rintro e w6 ⟨rfl, rfl⟩
      go_wp2_with fail
      refine hK.out _ _ ?_ (fun hHeld2 => ?_)
      · exact xk4
      clear hK K hHeld
      have hHeld := hHeld2
      clear hHeld2
      try simp only [Act.put, List.setIfInBounds_toArray, List.set_cons_zero, List.set_cons_succ]
      refine wpAnyH_ready (rs := [13]) (by kernel_rfl) (by simp) ?_
      refine AllReadyH.cons (by simp only [List.getElem?_toArray, List.getElem?_cons_succ, List.getElem?_cons_zero]; rfl) (fun K hK => ?_) AllReadyH.nil
      go_simp
      refine (stripSize_any _ _).mono ?_
      rintro e w6 ⟨rfl, rfl⟩
      try simp only [hsz]
      go_wp2_with fail
      refine hK.out _ _ ?_ (fun hHeld2 => ?_)
      · exact xk4
      clear hK K hHeld
      have hHeld := hHeld2
      clear hHeld2
      try simp only [Act.put, List.setIfInBounds_toArray, List.set_cons_zero, List.set_cons_succ]
      clear cf
      refine wpAnyH_take (i := 14) (v := ?_) (by simp only [List.getElem?_toArray, List.getElem?_cons_succ, List.getElem?_cons_zero]; rfl) (by kernel_rfl) (by kernel_rfl) (by kernel_rfl) (by exact fun _ _ _ h => h) (Or.inl ⟨by rfl, ?_⟩) hHeld ?_
      rotate_left
      · intro w hSw
        try dsimp only at hSw
        go_simp
        all_goals with_reducible rfl
      try simp only [Act.put, List.setIfInBounds_toArray, List.set_cons_zero, List.set_cons_succ]
      try simp only [hwv]
      refine wpAnyH_take (i := 15) (v := ?_) (by simp only [List.getElem?_toArray, List.getElem?_cons_succ, List.getElem?_cons_zero]; rfl) (by kernel_rfl) (by kernel_rfl) (by kernel_rfl) (by exact fun _ _ _ h => h) (Or.inl ⟨by rfl, ?_⟩) hHeld ?_
      rotate_left
      · intro w hSw
        try dsimp only at hSw
        go_simp
        all_goals with_reducible rfl
      try simp only [Act.put, List.setIfInBounds_toArray, List.set_cons_zero, List.set_cons_succ]
      refine wpAnyH_take (i := 16) (v := ?_) (by simp only [List.getElem?_toArray, List.getElem?_cons_succ, List.getElem?_cons_zero]; rfl) (by kernel_rfl) (by kernel_rfl) (by kernel_rfl) (by exact fun _ _ _ h => h) (Or.inl ⟨by rfl, ?_⟩) hHeld ?_
      rotate_left
      · intro w hSw
        try dsimp only at hSw
        go_simp
        all_goals with_reducible rfl
      try simp only [Act.put, List.setIfInBounds_toArray, List.set_cons_zero, List.set_cons_succ]
      refine wpAnyH_calm (by kernel_rfl) ?_ _
      clear hHeld xk4 xk2
      go_wp2_with (at_builtin; refine Hold.of ?_)
      unfold Hold
      refine wpList_append_lies _ rfl (.tmp 74) (.tmp 76) 64 rfl w.heap.size 34 j0 _ 1 24 Try.underlying64 hj0 ju0 ju1 ju2 rfl (by decide) _ k _ rfl (hrA4.next (Kept.alloc [] w4 (.cells #[.slice p.A ml p.c] 34))).own ⟨w4.heap.size, 0, none⟩ 1 1 [.slice p.A ml p.c] rfl rfl (one_news w4 _ _) (one_slice _ _ _) (by omega) hkq2.1 hkq2.2 (by simp; omega) (w4.heap.size + 1) (by simp) ?_
      intro g cap w5 hown5 hgrow5 hat5 hlt5
      obtain ⟨hrA5, hk5, hne5⟩ := hrA4.push h4.sd.lt (Kept.alloc [] w4 (.cells #[.slice p.A ml p.c] 34)) hgrow5 hown5 hat5 (by simp)
      have hneE := hne5 _ (fun g2 e2 => (hrE4.own.lt g2 e2).2) hne
      have hrE5 := hrE4.other hk5 (fun g2 e2 e3 => hne g2 e3 e2)
      have h5 := h4.row hrA4 hk5
      have cf5 := h5.fin
      rw [HS3.out] at cf5
      have hb5 := h5.kept.size
      have HRA5 := Lib.hid hrA5
      clear hown5 hgrow5 hat5 hlt5 hk5 hne5 hrE4 hrA4 h4 hb4 hrA5
      go_wp2_with fail
      refine cf5.mono ?_
      rintro e w6 ⟨rfl, rfl⟩
      clear cf5
      go_wp2_with (at_builtin; refine Hold.of ?_)
      unfold Hold
      refine wpList_append_lies _ rfl (.tmp 78) (.tmp 81) 23 rfl w.heap.size 3 v0 _ 1 8 Try.underlying23 hv0 vu0 vu1 vu2 rfl (by decide) _ (k + 1) _ rfl (hrE5.next (Kept.alloc [] w5 (.cells #[.int .i64 ((u : Int) + ((ml : Int) + 7))] 3))).own ⟨w5.heap.size, 0, none⟩ 1 1 [.int .i64 ((u : Int) + ((ml : Int) + 7))] rfl rfl (one_news w5 _ _) (one_int _ _) (by omega) hkq3.1 hkq3.2 (by simp; omega) (w5.heap.size + 1) (by simp) ?_
      intro g6 cap6 w6 hown6 hgrow6 hat6 hlt6
      obtain ⟨hrE6, hk6, hne6⟩ := hrE5.push h5.sd.lt (Kept.alloc [] w5 (.cells #[.int .i64 ((u : Int) + ((ml : Int) + 7))] 3)) hgrow6 hown6 hat6 (by simp)
      have hneF := hne6 _ (fun g2 e2 => (HRA5.out.own.lt g2 e2).2) (fun g2 e2 e3 => by
        have e4 : g = g2 := by simpa [Value.ownBlock] using e3
        subst e4
        exact hneE e2)
      have hrA6 := HRA5.out.other hk6 (fun g2 e2 e3 => by
        have e4 : g = g2 := by simpa [Value.ownBlock] using e2
        subst e4
        exact hneE e3)
      have h6 := h5.row hrE5 hk6
      have HRE6 := Lib.hid hrE6; have HRA6 := Lib.hid hrA6
      clear hown6 hgrow6 hat6 hlt6 hk6 hne6 hrE5 h5 hrE6 hrA6 HRA5
      go_wp2_with fail
      go_roundw
      case rel =>
        refine ⟨k + 1, s2, d2, F2, by go_num, by omega, by rw [HTK.out]; exact h6, by rw [k2.first, G1.out], by rw [k2.many, G2.out], by rw [k2.secs, G3.out], by have := k2.works; rw [hml3] at this; push_cast; omega, by rw [k2.fin, hml3]; omega, ?_, ?_, fun g2 e2 e3 => ?_⟩
        · rw [take_part HCPP.out, List.map_append]
          have h7 := HRA6.out
          rw [← HLV.out] at h7
          exact h7
        · rw [endsV_next]
          have h7 := HRE6.out
          have h8 : endV cp (k + 1) = .int .i64 ((u : Int) + ((ml : Int) + 7)) := by
            unfold endV
            rw [← HS3.out, HTK.out, h6.inv.fin h6.calm.size]
            rfl
          rw [h8]
          exact h7
        · have e4 : g = g2 := by simpa [Value.ownBlock] using e2
          have e5 : g6 = g2 := by simpa [Value.ownBlock] using e3
          subst e4
          exact hneF (by simp [Value.ownBlock, e5])
      case measure => simp [intOf]; omega
    · obtain rfl : k = T := by omega
      have hcase : ¬ (k : Int) < (n : Int) ∨ ((k : Int) < (n : Int) ∧ ¬ (k : Int) < 20) := by omega
      have hck : cp.take k = cp := List.take_of_length_le (by rw [HCPL.out]; exact Nat.le_refl _)
      rw [hck] at h3
      have hrow := h3.inv.rows
      have hfe := h3.inv.fin h3.calm.size
      obtain ⟨u, hu⟩ : ∃ u, s1.fin = u := ⟨_, rfl⟩
      rw [hu] at hfe hrow g5
      have hu20 : u ≤ 6140 := by omega
      obtain ⟨q, hq⟩ : ∃ q : Nat, a1 % ((u : Int) + 1) = q := ⟨(a1 % ((u : Int) + 1)).toNat, by have := Int.emod_nonneg a1 (show (u : Int) + 1 ≠ 0 by omega); omega⟩
      have hqu : q ≤ u := by have := Int.emod_lt_of_pos a1 (show 0 < (u : Int) + 1 by omega); omega
      have c0 := fun W => bring_any a1 ((u : Int) + 1) W (by omega) (by omega) h1.1 h1.2
      rw [hq] at c0
      have cf := h3.fin
      rw [hu] at cf
      have hrq : (d1.bytesAt 0).take q = (recs (texts cp)).take q := by
        rw [g1] at hrow
        rw [← hrow, List.take_take, Nat.min_eq_left hqu]
      have hends := ends_of HCPL.out h3.inv.small (q := q) (by omega)
      obtain ⟨gE, cE, rfl, hgl, hgF, hgc, hgm, hcell⟩ := row_cells hrE (by omega)
      unfold maxLen at hgm
      obtain ⟨AW, cW, rfl, hbW⟩ := hrA.parts (fun p hp => (hcpa p (List.mem_of_mem_take hp)).kept h3.kept (by simp))
      rw [hck] at hbW
      have hcells : ∀ j, j ≤ k → wr.cell? ⟨gE, j, none⟩ = some (endV cp j) := fun j hj => hcell j _ (by rw [endsV, List.getElem?_map, List.getElem?_range (by omega)]; rfl)
      have HRQ := Lib.hid hrq; have HEN := Lib.hid hends; have G3 := Lib.hid g3; have HCL := Lib.hid hcells
      clear hck hrow hfe hu hq hrq hends hcell hcells g1 g2 g3 hrA hrE hne hu20
      have hk20 : k + 1 ≤ 21 := by omega
      rcases HEN.out with ⟨i0, hi0, he0, hr0, hj0⟩ | ⟨hn0, hno⟩
      · obtain ⟨fp, hDv, hFp⟩ := h3.dv
        have co := open_ok hDv h3.calm (first := 0) (many := 64) (fin := q) (by omega) (by rw [G3.out]; omega) (by omega) (l := texts (cp.take i0)) (by rw [texts_low]; exact h3.inv.small.take _) (by rw [HRQ.out, hr0])
        have HE0 := Lib.hid he0; have HJ0 := Lib.hid hj0
        clear hr0 he0 hj0 hDv HEN
        rcases hcase with i1 | ⟨i1, i2⟩
        all_goals
          go_wp2_with fail
          refine cf.mono ?_
          rintro e w5 ⟨rfl, rfl⟩
          clear cf
          go_wp2_with fail
          refine (c0 _).mono ?_
          rintro e w5 ⟨rfl, rfl⟩
          clear c0
          go_wp2_with fail
          refine co.mono ?_
          rintro e w6 ⟨k6, z6, F6, A6, n6, c6, ps, s6, rfl, hb6, htx, _⟩
          clear co
          have hbW6 := hbW.new k6
          have hk6 := h3.kept.trans k6
          have HTX := Lib.hid htx
          have HC6 : ∀ j, j ≤ k → w6.cell? ⟨gE, j, none⟩ = some (endV cp j) := fun j hj => (k6.cell (p := ⟨gE, j, none⟩) hgl (by simp)).trans (HCL.out j hj)
          have HC7 := Lib.hid HC6
          clear htx h3 k6 hbW HC6
          go_wp2_with fail
          go_loopw [18] (fun i wx => BkLoop w6 cp k q i wx) (fun i _ => k + 1 - (intOf i).toNat)
          case atStart => exact ⟨0, Nat.zero_le _, rfl, rfl, fun _ h => by omega⟩
          case round =>
            obtain ⟨j, hj, rfl, rfl, hall⟩ := hrel
            by_cases hlt2 : j < k + 1
            · have i5 : (j : Int) < (k : Int) + 1 := by omega
              have hcj := HC7.out j (by omega)
              rw [endV_eq] at hcj
              obtain ⟨E, hE⟩ : ∃ E, endN cp j = E := ⟨_, rfl⟩
              rw [hE] at hcj
              have HALL := Lib.hid hall
              clear hall
              by_cases heq : E = q
              · subst heq
                have htj := HTX.out.trans (HJ0.out j (by omega) hE).symm
                have cs := sameLists_true _ A6 AW n6 c6 j cW ps (cp.take j) hb6 (hbW6.low (by omega)) htj
                have i6 : (j : Int) ≤ (cW : Int) := by have := hbW6.le; omega
                clear hE htj
                go_wp2_with fail
                refine cs.mono ?_
                rintro e w9 ⟨rfl, q9, rfl⟩
                clear cs
                go_wp2_with fail
                refine (awake12_any _).mono ?_
                rintro e w10 ⟨rfl, hk10⟩
                go_wp2_with fail
                go_ret
                exact ⟨rfl, (hk6.trans (Kept.drewN [] _ _)).trans hk10⟩
              · have i6 : ((E : Int) == (q : Int)) = false := beq_eq_false_iff_ne.2 (by omega)
                have HE := Lib.hid hE
                clear hE
                go_wp2_with fail
                go_roundw
                case rel => exact ⟨j + 1, by omega, by go_num, rfl, fun j' h' => by
                  rcases Nat.lt_or_ge j' j with h | h
                  · exact HALL.out j' h
                  · obtain rfl : j' = j := by omega
                    rw [HE.out]; exact heq⟩
                case measure => simp [intOf]; omega
            · exact absurd HE0.out (hall i0 (by omega))
      · obtain ⟨fp, hDv, hFp⟩ := h3.dv
        have co := open_no hDv h3.calm (first := 0) (many := 64) (fin := q) (by omega) (by rw [G3.out]; omega) (by omega) (by rw [HRQ.out]; exact hn0)
        have HNO := Lib.hid hno
        clear hn0 hno hDv HEN
        rcases hcase with i1 | ⟨i1, i2⟩
        all_goals
          go_wp2_with fail
          refine cf.mono ?_
          rintro e w5 ⟨rfl, rfl⟩
          clear cf
          go_wp2_with fail
          refine (c0 _).mono ?_
          rintro e w5 ⟨rfl, rfl⟩
          clear c0
          go_wp2_with fail
          refine co.mono ?_
          rintro e w6 ⟨rfl, k6⟩
          clear co
          have hk6 := h3.kept.trans k6
          have HC6 : ∀ j, j ≤ k → w6.cell? ⟨gE, j, none⟩ = some (endV cp j) := fun j hj => (k6.cell (p := ⟨gE, j, none⟩) hgl (by simp)).trans (HCL.out j hj)
          have HC7 := Lib.hid HC6
          clear h3 k6 hbW HC6
          go_wp2_with fail
          go_loopw [18] (fun i wx => BkLoop w6 cp k q i wx) (fun i _ => k + 1 - (intOf i).toNat)
          case atStart => exact ⟨0, Nat.zero_le _, rfl, rfl, fun _ h => by omega⟩
          case round =>
            obtain ⟨j, hj, rfl, rfl, hall⟩ := hrel
            by_cases hlt2 : j < k + 1
            · have i5 : (j : Int) < (k : Int) + 1 := by omega
              have hcj := HC7.out j (by omega)
              rw [endV_eq] at hcj
              have hEn := HNO.out j (by omega)
              obtain ⟨E, hE⟩ : ∃ E, endN cp j = E := ⟨_, rfl⟩
              rw [hE] at hcj hEn
              have i6 : ((E : Int) == (q : Int)) = false := beq_eq_false_iff_ne.2 (by omega)
              have HALL := Lib.hid hall; have HE := Lib.hid hE
              clear hall hE
              go_wp2_with fail
              go_roundw
              case rel => exact ⟨j + 1, by omega, by go_num, rfl, fun j' h' => by
                rcases Nat.lt_or_ge j' j with h | h
                · exact HALL.out j' h
                · obtain rfl : j' = j := by omega
                  rw [HE.out]; exact hEn⟩
              case measure => simp [intOf]; omega
            · have i5 : ¬ (j : Int) < (k : Int) + 1 := by omega
              have HALL := Lib.hid hall
              clear hall
              go_wp2_with fail
              refine (awake12_any _).mono ?_
              rintro e w10 ⟨rfl, hk10⟩
              go_wp2_with fail
              go_ret
              exact ⟨rfl, hk6.trans hk10⟩
end Go.Proofs.Ytbnflbkaogpnbaa
