/- SpoolKeeps: the walk. (Printed by py/l6.py.) -/
import Derived.Test.YtbnflbkaogpnbaaL3
import Derived.Deep.CutRange
namespace Go.Proofs.Ytbnflbkaogpnbaa
set_option linter.unusedVariables false
open Go.RowKit

set_option maxHeartbeats 20000000 in
set_option maxRecDepth 100000 in
theorem spoolKeeps_walk (w : World) (A : Option Addr) (n c : Nat) (l : List D13) (hl : D13s w A n c l) :
    Calls Try.prog 20 #[.slice A n c] w (TruePost w) := by
  obtain ⟨j0, hj0, ju0, ju1, ju2⟩ := info_parts info_bytes
  have hln := hl.le; have hlm := hl.max
  unfold maxLen at hlm
  go_enter Try.func20, Try.ntmps20
  go_wp2_with fail
  refine (new_any 100 _ (by omega) (by omega)).mono ?_
  rintro e w1 ⟨a, f1, rfl, hD1, hA1, hN1⟩
  go_wp2_with fail
  refine (kq_new hD1 hA1 hN1).mono ?_
  rintro e w2 ⟨y, F, A2, c2, s2, d2, rfl, h2, hs2, hf2⟩
  clear hD1 hA1 hN1
  go_wp2_with fail
  go_loopw [5, 8, 9, 10] (fun v5 v8 v9 i wr => KqRel w a v5 v8 v9 i wr) (fun _ _ _ i _ => 30 - (intOf i).toNat)
  case atStart => exact ⟨0, y, F, s2, d2, [], [], rfl, by omega, rfl, h2, hs2, hf2, LiAt.nil _ _, LiAt.nil _ _⟩
  case round =>
    clear h2 hs2 hf2
    obtain ⟨k, y, F1, s, d, now, sure, rfl, hk, rfl, h3, hst, hfl, hsu, hnw⟩ := hrel
    by_cases hlt : k < n ∧ k < 30
    · have i1 : (k : Int) < (n : Int) := by omega
      have i2 : (k : Int) < 30 := by omega
      obtain ⟨b, o, x, hA, hbl, hpl, hok0, hc0, hc1, hc2, hc3, hc4⟩ := hl.at_ hlt.1
      have e : ∀ j, wr.cell? ⟨b, j, none⟩ = w.cell? ⟨b, j, none⟩ := fun j => h3.kept.cell (p := ⟨b, j, none⟩) hbl (by simp)
      rw [← e] at hc0 hc1 hc2 hc3 hc4
      subst hA
      obtain ⟨q, hq⟩ : ∃ q : Nat, x.kind % 3 = q := ⟨(x.kind % 3).toNat, by omega⟩
      have hq3 : q < 3 := by omega
      obtain ⟨wk, hwk⟩ : ∃ q : Nat, x.num % 20 = q := ⟨(x.num % 20).toNat, by omega⟩
      have hwk20 : wk < 20 := by omega
      have c0 := fun W => bring_any x.kind 3 W (by omega) (by omega) hok0.kind.1 hok0.kind.2
      rw [hq] at c0
      have c1 := fun W => bring_any x.num 20 W (by omega) (by omega) hok0.num.1 hok0.num.2
      rw [hwk] at c1
      unfold Part.val at hc2
      obtain ⟨WD, hWD⟩ : ∃ WD, wr.alloc (.cells #[.int .i64 x.kind, .int .i64 x.num, .slice x.data.A x.data.n x.data.c, .slice x.lstA x.lstn x.lstc, .slice x.keepA x.keepn x.keepc] 101) = WD := ⟨_, rfl⟩
      have kD : Kept [] wr WD := by rw [← hWD]; exact Kept.alloc [] _ _
      have hbD : WD.heap[wr.heap.size]? = some (.cells #[.int .i64 x.kind, .int .i64 x.num, .slice x.data.A x.data.n x.data.c, .slice x.lstA x.lstn x.lstc, .slice x.keepA x.keepn x.keepc] 101 (0, 0)) := by rw [← hWD]; exact heap_alloc_new _ _
      have h4 := h3.next kD
      have hsu4 := hsu.next kD
      have hnw4 := hnw.next kD
      have hDF : wr.heap.size ∉ F1 := fun hm => Nat.lt_irrefl _ (h3.at_.lt _ hm)
      have hk4 := h4.kept
      have hok := hok0.kept hk4
      have hbw : w.heap.size ≤ wr.heap.size := h3.kept.size
      clear hpl hq hwk e
      go_upto_region 10 with fail
      try rw [hWD]
      clear hWD hc0 hc1 hc2 hc3 hc4 hsu hnw h3
      generalize wr.heap.size = DB at hbD hDF hbw ⊢
      have d0 : WD.cell? ⟨DB, 0, none⟩ = some (.int .i64 x.kind) := by rw [blk_cell hbD]; rfl
      have d1 : WD.cell? ⟨DB, 1, none⟩ = some (.int .i64 x.num) := by rw [blk_cell hbD]; rfl
      have d4 : WD.cell? ⟨DB, 4, none⟩ = some (.slice x.keepA x.keepn x.keepc) := by rw [blk_cell hbD]; rfl
      go_wp2_with fail
      refine (c1 _).mono ?_
      rintro e w3 ⟨rfl, rfl⟩
      clear c1
      go_upto_if 61 with fail
      go_cut [] from 43 to 212 (fun wx => KqArm w y a k now sure u8 u9 DB #[.int .i64 x.kind, .int .i64 x.num, .slice x.data.A x.data.n x.data.c, .slice x.lstA x.lstn x.lstc, .slice x.keepA x.keepn x.keepc] wx)
      case first =>
        by_cases hw10 : wk < 10
        · have i6 : (wk : Int) < 10 := by omega
          have cf := kq_fail h4 hst (wk : Int) (by omega) (by omega) x.keepA x.keepn x.keepc x.keep hok.keepS hok.keepL hok.keepI
          go_wp2_with fail
          refine cf.mono ?_
          rintro e w4 ⟨F4, d4', rfl, h5, hst5, -, st5⟩
          go_wp2_with fail
          go_meet
          refine ⟨F4, s, d4', h5, hst5, hsu4.step st5, hnw4.step st5, (st5.kept.block DB (World.lt_of_heap hbD) hDF).trans hbD, fun hm => ?_⟩
          rcases st5.new _ hm with e | e
          · exact hDF e
          · have := World.lt_of_heap hbD; omega
        · have i6 : ¬ (wk : Int) < 10 := by omega
          go_wp2_with fail
          go_meet
          exact ⟨F1, s, d, h4, hst, hsu4, hnw4, hbD, hDF⟩
      case rest =>
        clear h4 hst hsu4 hnw4 hbD hDF hk4 hok d0 d1 d4 hfl
        obtain ⟨F5, s5, d5, h5, hst5, hsu5, hnw5, hb5, hD5⟩ := hcut
        have hk5 := h5.kept
        have hok5 := hok0.kept hk5
        have d0 : wc.cell? ⟨DB, 0, none⟩ = some (.int .i64 x.kind) := by rw [blk_cell hb5]; rfl
        have d2 : wc.cell? ⟨DB, 2, none⟩ = some (.slice x.data.A x.data.n x.data.c) := by rw [blk_cell hb5]; rfl
        have d3 : wc.cell? ⟨DB, 3, none⟩ = some (.slice x.lstA x.lstn x.lstc) := by rw [blk_cell hb5]; rfl
        go_wp2_with fail
        refine (c0 _).mono ?_
        rintro e w3 ⟨rfl, rfl⟩
        clear c0
        go_upto_region 16 with fail
        go_step
        go_step
        go_step
        go_step
        go_step
        go_step
        go_step
        go_cut [13, 14] from 43 to 212 (fun v13 v14 wx => KqMid w y a k now sure q u8 u9 v13 v14 wx)
        case first =>
          have hqc : q = 0 ∨ q = 1 ∨ q = 2 := by omega
          rcases hqc with rfl | rfl | rfl
          · as_aux_lemma =>
              obtain ⟨ml, hmin, hml1, hml2, hml3, hsl⟩ := part_low hok5.data 200
              replace hmin : min (x.data.n : Int) 200 = (ml : Nat) := hmin
              have hple := hok5.data.1.le; have hpmx := hok5.data.1.max; have hpn := hok5.data.2
              unfold maxLen at hpmx
              have hsl0 := hsl 0
              rw [World.drewN_zero] at hsl0
              have hdl := hok0.data.low_
              have hlow := h5.low
              have hmny := hst5.many
              have hxF : ∀ F' : List Nat, (∀ j ∈ F', w.heap.size ≤ j) → ∀ p, x.data.A = some p → 0 < ml → p.block ∉ F' := fun F' h p e hn hm => by
                have h8 := hdl p e (by omega)
                have h9 := h _ hm
                omega
              have ca := kq_append h5 hst5 (by omega) x.data.A ml x.data.c (x.data.xs.take 200) hsl0 hpn (hxF F5 hlow) (by omega)
              clear hsl
              go_wp2_with fail
              refine ca.mono ?_
              rintro e w6 ⟨n6, F6, rfl, hE6, st6⟩
              have hsu6 := hsu5.step st6
              have hnw6 := hnw5.step st6
              obtain ⟨hlt6, hlo6, hk6⟩ := hE6.lt
              have hnwx := hnw6
              obtain ⟨A9, c9, ps9, e9, hB9, ht9, hA9, hps9⟩ := hnw6.ex
              subst e9
              clear ca h5 hsu5 hnw5 st6 hst5 hsl0
              go_wp2_with (at_builtin; refine Hold.of ?_)
              unfold Hold
              refine wpList_append_bytess rfl (.tmp 115) (.tmp 116) 64 rfl w6.heap.size 34 j0 _ 24 Try.underlying64 hj0 ju0 ju1 ju2 rfl _ 0 [] rfl (World.ownsRow_nil _ _ _ _) A9 now.length c9 ps9 rfl hB9 (by unfold maxLen; omega) (by omega) (Nat.le_refl _) ?_
              intro v17 w7 hown7 hgr7 hat7
              simp only [Nat.zero_add, List.nil_append] at hown7
              have k7 : Kept [] w6 w7 := Kept.grown (F := []) hgr7 (fun i e => by cases e)
              have hr7 : RowIn w6.heap.size w7 34 F6 v17 now.length (ps9.map Part.val) := ⟨hown7, fun g e hm => by
                have h1 := (hown7.lt g e).1
                have h2 := hlt6 g hm
                omega⟩
              have hz7 := k7.size
              clear hown7 hgr7 hat7
              go_wp2_with (at_builtin; refine Hold.of ?_)
              unfold Hold
              refine wpList_append_lies _ rfl (.tmp 118) (.tmp 120) 64 rfl w6.heap.size 34 j0 _ 1 24 Try.underlying64 hj0 ju0 ju1 ju2 rfl (by decide) _ now.length _ rfl (hr7.next (Kept.alloc [] w7 (.cells #[.slice x.data.A ml x.data.c] 34))).own ⟨w7.heap.size, 0, none⟩ 1 1 [.slice x.data.A ml x.data.c] rfl rfl (one_news w7 _ _) (one_slice _ _ _) (by omega) (by unfold maxLen; omega) (by omega) (by simp; omega) (w7.heap.size + 1) (by simp) ?_
              intro g cap w8 hown8 hgrow8 hat8 hlt8
              obtain ⟨hr8, hk8, -⟩ := hr7.push (fun j hj => Nat.lt_of_lt_of_le (hlt6 j hj) hz7) (Kept.alloc [] w7 (.cells #[.slice x.data.A ml x.data.c] 34)) hgrow8 hown8 hat8 (by simp)
              have k8 : Kept [] w6 w8 := k7.trans' hk8 (fun i hi => .inr (hr7.own.lt i (by simpa using hi)).1)
              have hL8 : LiAt w8 F6 (.slice (some ⟨g, 0, none⟩) (now.length + 1) cap) (now ++ [x.data.xs.take 200]) := by
                have hval : (x.data.low 200).val = .slice x.data.A ml x.data.c := by unfold Part.low Part.val; rw [show min x.data.n 200 = ml by omega]
                have h := LiAt.row (F := F6) (base := w6.heap.size) (n := now.length + 1) (v := .slice (some ⟨g, 0, none⟩) (now.length + 1) cap) (w := w8) (ps := ps9 ++ [x.data.low 200]) (by rw [List.map_append, List.map_cons, List.map_nil, hval]; exact hr8) (fun p hp => by
                  rcases List.mem_append.mp hp with hp | hp
                  · exact (hB9.all p hp).kept k8 (by simp)
                  · obtain rfl := List.mem_singleton.mp hp
                    exact (hok0.data.low 200).kept (hk6.trans k8) (by simp)) (fun q hq p e hn hm => by
                  rcases List.mem_append.mp hq with hq | hq
                  · exact hps9 q hq p e hn hm
                  · obtain rfl := List.mem_singleton.mp hq
                    exact hxF F6 hlo6 p e (by have h1 : 0 < min x.data.n 200 := hn; omega) hm)
                have e2 : texts (ps9 ++ [x.data.low 200]) = now ++ [x.data.xs.take 200] := by rw [← ht9]; simp [texts, Part.low]
                rw [e2] at h
                exact h
              clear hown8 hgrow8 hat8 hlt8 hr7 hr8 hk8 hB9 ht9 hA9 hps9 k7
              go_wp2_with fail
              go_meet
              exact ⟨F6, n6, _, sure, rfl, hE6.next k8, hsu6.next k8, hnwx.next k8, hL8, rfl⟩
          · as_aux_lemma =>
              have cf := kq_flush h5 hst5 (by omega)
              go_wp2_with fail
              refine cf.mono ?_
              rintro e w6 ⟨n6, F6, rfl, hE6, st6⟩
              go_wp2_with fail
              go_meet
              exact ⟨F6, n6, now, now, rfl, hE6, hsu5.step st6, hnw5.step st6, hnw5.step st6, rfl⟩
          · as_aux_lemma =>
              have h4 := h5
              have hlle := hok5.lst.le; have hllm := hok5.lst.max
              unfold maxLen at hllm
              have hDBl := World.lt_of_heap hb5
              have d3w := fun (W : World) (hk : Kept [] wc W) => (hk.cell (p := ⟨DB, 3, none⟩) hDBl (by simp)).trans d3
              go_wp2_with fail
              go_loopw [18, 19] (fun v18 i wx => LnRel 5 200 w wc F5 x.lst v18 i wx) (fun _ i _ => 5 - (intOf i).toNat)
              case atStart => exact ⟨0, by omega, by omega, rfl, ⟨World.ownsRow_nil _ _ _ _, fun g e => by cases e⟩, Kept.refl _ _, fun g e => by cases e⟩
              case round =>
                obtain ⟨j, hj, hjl, rfl, hrM, kM, hMo⟩ := hrel
                have d3' := d3w _ kM
                by_cases hjt : j < x.lstn ∧ j < 5
                · have i3 : (j : Int) < (x.lstn : Int) := by omega
                  have i4 : (j : Int) < 5 := by omega
                  obtain ⟨bl, ol, p, hAl, hbll, hplk, hpla, hcl⟩ := (hok5.lst.new kM).at_ hjt.1
                  obtain ⟨ml, hmin, hml1, hml2, hml3, hsl⟩ := part_low hpla 200
                  replace hmin : min (p.n : Int) 200 = (ml : Nat) := hmin
                  have hple := hpla.1.le; have hpmx := hpla.1.max; have hpn := hpla.2
                  unfold maxLen at hpmx
                  have i5 : ml ≤ p.c := by omega
                  have hbz : w.heap.size ≤ wr.heap.size := by have h8 := hk5.size; have h9 := kM.size; omega
                  have hbl0 : bl < wc.heap.size := by
                    obtain ⟨b2, o2, p2, e2, g2, _⟩ := hok0.lst.at_ hjt.1
                    rw [hAl] at e2
                    cases e2
                    have h8 := hk5.size
                    omega
                  have ef : x.lstA = some ⟨bl, ol, none⟩ := hAl
                  rw [ef] at d3'
                  have S0 : wr.drew.cell? ⟨DB, 3, none⟩ = some (.slice (some ⟨bl, ol, none⟩) x.lstn x.lstc) ∧ wr.drew.cell? ⟨bl, ol + j, none⟩ = some (.slice p.A p.n p.c) := ⟨d3', hcl⟩
                  have hrMd := hrM.next (Kept.drew [] wr)
                  go_wp2_with fail
                  refine wp_region_calm (S := (fun W => W.cell? ⟨DB, 3, none⟩ = some (.slice (some ⟨bl, ol, none⟩) x.lstn x.lstc) ∧ W.cell? ⟨bl, ol + j, none⟩ = some (.slice p.A p.n p.c))) (by kernel_rfl) S0 (fun hHeld => ?_)
                  refine wpAnyH_take (i := 0) (v := ?_) (by simp only [List.getElem?_toArray, List.getElem?_cons_zero]; rfl) (by kernel_rfl) (by kernel_rfl) (by kernel_rfl) (by exact fun _ _ _ h => h) (Or.inl ⟨by rfl, ?_⟩) hHeld ?_
                  rotate_left
                  · intro w hSw
                    try dsimp only at hSw
                    go_simp
                    all_goals with_reducible rfl
                  try simp only [Act.put, List.setIfInBounds_toArray, List.set_cons_zero, List.set_cons_succ]
                  refine wpAnyH_take (i := 1) (v := ?_) (by simp only [List.getElem?_toArray, List.getElem?_cons_succ, List.getElem?_cons_zero]; rfl) (by kernel_rfl) (by kernel_rfl) (by kernel_rfl) (by exact fun _ _ _ h => h) (Or.inl ⟨by rfl, ?_⟩) hHeld ?_
                  rotate_left
                  · intro w hSw
                    try dsimp only at hSw
                    go_simp
                    all_goals with_reducible rfl
                  try simp only [Act.put, List.setIfInBounds_toArray, List.set_cons_zero, List.set_cons_succ]
                  refine wpAnyH_take (i := 2) (v := ?_) (by simp only [List.getElem?_toArray, List.getElem?_cons_succ, List.getElem?_cons_zero]; rfl) (by kernel_rfl) (by kernel_rfl) (by kernel_rfl) (by exact fun _ _ _ h => h) (Or.inl ⟨by rfl, ?_⟩) hHeld ?_
                  rotate_left
                  · intro w hSw
                    try dsimp only at hSw
                    obtain ⟨s0, s1⟩ := hSw
                    go_simp
                    all_goals with_reducible rfl
                  try simp only [Act.put, List.setIfInBounds_toArray, List.set_cons_zero, List.set_cons_succ]
                  refine wpAnyH_take (i := 3) (v := ?_) (by simp only [List.getElem?_toArray, List.getElem?_cons_succ, List.getElem?_cons_zero]; rfl) (by kernel_rfl) (by kernel_rfl) (by kernel_rfl) (by exact fun _ _ _ h => h) (Or.inl ⟨by rfl, ?_⟩) hHeld ?_
                  rotate_left
                  · intro w hSw
                    try dsimp only at hSw
                    go_simp
                    all_goals with_reducible rfl
                  try simp only [Act.put, List.setIfInBounds_toArray, List.set_cons_zero, List.set_cons_succ]
                  refine wpAnyH_take (i := 4) (v := ?_) (by simp only [List.getElem?_toArray, List.getElem?_cons_succ, List.getElem?_cons_zero]; rfl) (by kernel_rfl) (by kernel_rfl) (by kernel_rfl) (by exact fun _ _ _ h => h) (Or.inl ⟨by rfl, ?_⟩) hHeld ?_
                  rotate_left
                  · intro w hSw
                    try dsimp only at hSw
                    go_simp
                    all_goals with_reducible rfl
                  try simp only [Act.put, List.setIfInBounds_toArray, List.set_cons_zero, List.set_cons_succ]
                  refine wpAnyH_take (i := 5) (v := ?_) (by simp only [List.getElem?_toArray, List.getElem?_cons_succ, List.getElem?_cons_zero]; rfl) (by kernel_rfl) (by kernel_rfl) (by kernel_rfl) (by exact fun _ _ _ h => h) (Or.inl ⟨by rfl, ?_⟩) hHeld ?_
                  rotate_left
                  · intro w hSw
                    try dsimp only at hSw
                    obtain ⟨s0, s1⟩ := hSw
                    go_simp
                    all_goals with_reducible rfl
                  try simp only [Act.put, List.setIfInBounds_toArray, List.set_cons_zero, List.set_cons_succ]
                  refine wpAnyH_take (i := 6) (v := ?_) (by simp only [List.getElem?_toArray, List.getElem?_cons_succ, List.getElem?_cons_zero]; rfl) (by kernel_rfl) (by kernel_rfl) (by kernel_rfl) (by exact fun _ _ _ h => h) (Or.inl ⟨by rfl, ?_⟩) hHeld ?_
                  rotate_left
                  · intro w hSw
                    try dsimp only at hSw
                    go_simp
                    all_goals with_reducible rfl
                  try simp only [Act.put, List.setIfInBounds_toArray, List.set_cons_zero, List.set_cons_succ]
                  refine wpAnyH_take (i := 7) (v := ?_) (by simp only [List.getElem?_toArray, List.getElem?_cons_succ, List.getElem?_cons_zero]; rfl) (by kernel_rfl) (by kernel_rfl) (by kernel_rfl) (by exact fun _ _ _ h => h) (Or.inl ⟨by rfl, ?_⟩) hHeld ?_
                  rotate_left
                  · intro w hSw
                    try dsimp only at hSw
                    obtain ⟨s0, s1⟩ := hSw
                    go_simp
                    all_goals with_reducible rfl
                  try simp only [Act.put, List.setIfInBounds_toArray, List.set_cons_zero, List.set_cons_succ]
                  refine wpAnyH_take (i := 8) (v := ?_) (by simp only [List.getElem?_toArray, List.getElem?_cons_succ, List.getElem?_cons_zero]; rfl) (by kernel_rfl) (by kernel_rfl) (by kernel_rfl) (by exact fun _ _ _ h => h) (Or.inl ⟨by rfl, ?_⟩) hHeld ?_
                  rotate_left
                  · intro w hSw
                    try dsimp only at hSw
                    go_simp
                    all_goals with_reducible rfl
                  try simp only [Act.put, List.setIfInBounds_toArray, List.set_cons_zero, List.set_cons_succ]
                  refine wpAnyH_take (i := 9) (v := ?_) (by simp only [List.getElem?_toArray, List.getElem?_cons_succ, List.getElem?_cons_zero]; rfl) (by kernel_rfl) (by kernel_rfl) (by kernel_rfl) (by exact fun _ _ _ h => h) (Or.inl ⟨by rfl, ?_⟩) hHeld ?_
                  rotate_left
                  · intro w hSw
                    try dsimp only at hSw
                    go_simp
                    all_goals with_reducible rfl
                  try simp only [Act.put, List.setIfInBounds_toArray, List.set_cons_zero, List.set_cons_succ]
                  refine wpAnyH_take (i := 10) (v := ?_) (by simp only [List.getElem?_toArray, List.getElem?_cons_succ, List.getElem?_cons_zero]; rfl) (by kernel_rfl) (by kernel_rfl) (by kernel_rfl) (by exact fun _ _ _ h => h) (Or.inl ⟨by rfl, ?_⟩) hHeld ?_
                  rotate_left
                  · intro w hSw
                    try dsimp only at hSw
                    obtain ⟨s0, s1⟩ := hSw
                    go_simp
                    all_goals with_reducible rfl
                  try simp only [Act.put, List.setIfInBounds_toArray, List.set_cons_zero, List.set_cons_succ]
                  refine wpAnyH_take (i := 11) (v := ?_) (by simp only [List.getElem?_toArray, List.getElem?_cons_succ, List.getElem?_cons_zero]; rfl) (by kernel_rfl) (by kernel_rfl) (by kernel_rfl) (by exact fun _ _ _ h => h) (Or.inl ⟨by rfl, ?_⟩) hHeld ?_
                  rotate_left
                  · intro w hSw
                    try dsimp only at hSw
                    go_simp
                    all_goals with_reducible rfl
                  try simp only [Act.put, List.setIfInBounds_toArray, List.set_cons_zero, List.set_cons_succ]
                  refine wpAnyH_take (i := 12) (v := ?_) (by simp only [List.getElem?_toArray, List.getElem?_cons_succ, List.getElem?_cons_zero]; rfl) (by kernel_rfl) (by kernel_rfl) (by kernel_rfl) (by exact fun _ _ _ h => h) (Or.inl ⟨by rfl, ?_⟩) hHeld ?_
                  rotate_left
                  · intro w hSw
                    try dsimp only at hSw
                    go_simp
                    all_goals with_reducible rfl
                  try simp only [Act.put, List.setIfInBounds_toArray, List.set_cons_zero, List.set_cons_succ]
                  try simp only [hmin]
                  refine wpAnyH_take (i := 13) (v := ?_) (by simp only [List.getElem?_toArray, List.getElem?_cons_succ, List.getElem?_cons_zero]; rfl) (by kernel_rfl) (by kernel_rfl) (by kernel_rfl) (by exact fun _ _ _ h => h) (Or.inl ⟨by rfl, ?_⟩) hHeld ?_
                  rotate_left
                  · intro w hSw
                    try dsimp only at hSw
                    go_simp
                    all_goals with_reducible rfl
                  try simp only [Act.put, List.setIfInBounds_toArray, List.set_cons_zero, List.set_cons_succ]
                  refine wpAnyH_ready (rs := [14]) (by kernel_rfl) (by simp) ?_
                  refine AllReadyH.cons (by simp only [List.getElem?_toArray, List.getElem?_cons_succ, List.getElem?_cons_zero]; rfl) (fun K hK => ?_) AllReadyH.nil
                  go_simp
                  refine hK.out _ _ ?_ (fun hHeld2 => ?_)
                  · exact ⟨Lib.cell?_alloc_marked _ S0.1, Lib.cell?_alloc_marked _ S0.2⟩
                  clear hK K hHeld
                  have hHeld := hHeld2
                  clear hHeld2
                  try simp only [Act.put, List.setIfInBounds_toArray, List.set_cons_zero, List.set_cons_succ]
                  refine wpAnyH_ready (rs := [15]) (by kernel_rfl) (by simp) ?_
                  refine AllReadyH.cons (by simp only [List.getElem?_toArray, List.getElem?_cons_succ, List.getElem?_cons_zero]; rfl) (fun K hK => ?_) AllReadyH.nil
                  refine wp_append_lies _ (.tmp 83) (.tmp 97) 64 rfl w.heap.size 34 j0 _ 1 24 Try.underlying64 hj0 ju0 ju1 ju2 rfl (by decide) _ j _ (by simp [Act.eval]) (hrMd.next (Kept.alloc [] wr.drew (.cells #[.slice p.A ml p.c] 34))).own ⟨wr.heap.size, 0, none⟩ 1 1 [.slice p.A ml p.c] (by simp [Act.eval]) rfl (one_news wr.drew _ _) (one_slice _ _ _) (by omega) (by unfold maxLen; omega) (by omega) (by simp; omega) (wr.heap.size + 1) (by simp) ?_
                  intro g cap w6 hown6 hgrow6 hat6 hlt6
                  obtain ⟨hr6, hk6, -⟩ := hrMd.push (fun i hi => Nat.lt_of_lt_of_le (h4.at_.lt i hi) kM.size) (Kept.alloc [] wr.drew (.cells #[.slice p.A ml p.c] 34)) hgrow6 hown6 hat6 (by simp)
                  refine hK.out _ _ ?_ (fun hHeld2 => ?_)
                  · exact ⟨(hk6.cell (p := ⟨DB, 3, none⟩) (Nat.lt_of_lt_of_le hDBl kM.size) (fun hm => by have h9 := hMo DB (by simpa using hm); omega)).trans S0.1, (hk6.cell (p := ⟨bl, ol + j, none⟩) hbll (fun hm => by have h9 := hMo bl (by simpa using hm); omega)).trans S0.2⟩
                  clear hK K hHeld
                  have hHeld := hHeld2
                  clear hHeld2
                  try simp only [Act.put, List.setIfInBounds_toArray, List.set_cons_zero, List.set_cons_succ]
                  refine wpAnyH_take (i := 16) (v := ?_) (by simp only [List.getElem?_toArray, List.getElem?_cons_succ, List.getElem?_cons_zero]; rfl) (by kernel_rfl) (by kernel_rfl) (by kernel_rfl) (by exact fun _ _ _ h => h) (Or.inl ⟨by rfl, ?_⟩) hHeld ?_
                  rotate_left
                  · intro w hSw
                    try dsimp only at hSw
                    go_simp
                    all_goals with_reducible rfl
                  try simp only [Act.put, List.setIfInBounds_toArray, List.set_cons_zero, List.set_cons_succ]
                  refine wpAnyH_calm (by kernel_rfl) ?_ _
                  clear hHeld
                  go_wp2_with fail
                  go_roundw
                  case rel =>
                    have hvl : (p.low 200).val = .slice p.A ml p.c := by unfold Part.low Part.val; rw [show min p.n 200 = ml by omega]
                    (repeat apply Exists.intro)
                    refine ⟨?_, by first | rfl | rw [ef]⟩
                    refine ⟨j + 1, by omega, by have := hok5.lst.len; omega, by go_num, ?_, (kM.trans (Kept.drew [] wr)).trans' hk6 (fun i hi => .inr (hMo i (by simpa using hi))), fun g' e => ?_⟩
                    · rw [take_snoc hplk, List.map_append, List.map_append, List.map_cons, List.map_nil, List.map_cons, List.map_nil, hvl]
                      exact hr6
                    · have e2 : g = g' := by simpa [Value.ownBlock] using e
                      subst e2
                      rcases hat6 with h1 | h1
                      · exact hMo _ h1
                      · have := kM.size
                        omega
                  case measure => simp [intOf]; omega
                · have hcase : ¬ (j : Int) < (x.lstn : Int) ∨ ((j : Int) < (x.lstn : Int) ∧ ¬ (j : Int) < 5) := by omega
                  obtain ⟨ap, hap⟩ : ∃ ap, (x.lst.take j).map (Part.low 200) = ap := ⟨_, rfl⟩
                  have hapl : ap.length = j := by rw [← hap]; simp; omega
                  have hapw : ∀ p ∈ ap, p.At w ∧ p.xs.length ≤ 200 := fun p hp => by
                    rw [← hap] at hp
                    obtain ⟨p0, hp0, rfl⟩ := List.mem_map.1 hp
                    exact ⟨(hok0.lst.all _ (List.mem_of_mem_take hp0)).low 200, by simp [Part.low]; omega⟩
                  rw [hap] at hrM
                  have h6 := h5.next kM
                  have hlow := h6.low
                  have hkw := h6.kept
                  have hpaw : ∀ p ∈ ap, p.At wr := fun p hp => (hapw p hp).1.kept hkw (by simp)
                  have hsF : ∀ q ∈ ap, ∀ p, q.A = some p → 0 < q.n → p.block ∉ F5 := fun q hq p e hn hm => by
                    have h8 := (hapw q hq).1.1.lt' hn e
                    have h9 := hlow _ hm
                    omega
                  have hLi : LiAt wr F5 u18 (texts ap) := LiAt.row hrM hpaw hsF
                  have hne18 := hrM.ne
                  obtain ⟨A18, c18, e18, hB18⟩ := hrM.parts hpaw
                  subst e18
                  have cr := kq_replace h6 hst5 (by omega) A18 j c18 ap hB18 (fun b hb => by
                    obtain ⟨p, hp, rfl⟩ := List.mem_map.1 hb
                    exact (hapw p hp).2) hj (fun p e hn => hne18 p.block (by simp [Value.ownBlock, e])) hsF
                  have hsu6 := hsu5.next kM
                  have hnw6 := hnw5.next kM
                  clear hrM hB18 h4 hap
                  rcases hcase with i3 | ⟨i3, i4⟩
                  all_goals
                    go_wp2_with fail
                    refine cr.mono ?_
                    rintro e w7 ⟨n7, F7, rfl, hE7, st7⟩
                    go_wp2_with fail
                    go_meet
                    exact ⟨F7, n7, texts ap, texts ap, rfl, hE7, hsu6.step st7, hnw6.step st7, hLi.step st7, rfl⟩
        case rest =>
          clear h5 hst5 hsu5 hnw5 hb5 hD5 hk5 hok5 d0 d2 d3
          obtain ⟨F6, n6, next, sure', rfl, ⟨s6, d6, h6, hE6⟩, hsu6, hnw6, hnx6, hse⟩ := hcut
          have hk6 := h6.kept
          have cd := kq_dead h6
          have nilS : ∀ W : World, SlAt W none 0 0 (([] : List Int).map i64v) := fun W => ⟨rfl, Nat.le_refl _, by unfold maxLen; omega, fun h => absurd h (Nat.lt_irrefl 0)⟩
          rcases hE6 with ⟨rfl, hd6, hst6⟩ | ⟨rfl, hd6, hst6⟩ | ⟨rfl, hde⟩
          · as_aux_lemma =>
              rw [hd6] at cd
              have cf := kq_fail h6 hst6 (-1) (by omega) (by omega) none 0 0 [] (nilS _) (by omega) (by simp)
              by_cases hq0 : q = 0
              · have i5 : ¬ (0 : Int) < (q : Int) := by omega
                rw [if_pos hq0] at hse
                subst hse
                go_wp2_with fail
                refine cd.mono ?_
                rintro e w7 ⟨rfl, rfl⟩
                go_wp2_with fail
                refine cf.mono ?_
                rintro e w8 ⟨F8, d8, rfl, h8, hst8, hf8, st8⟩
                go_wp2_with fail
                go_roundw
                case rel =>
                  exact ⟨k + 1, y, F8, s6, d8, next, _, by go_num, by omega, rfl, h8, hst8, hf8, hsu6.step st8, hnx6.step st8⟩
                case measure => simp [intOf]; omega
              · have i5 : (0 : Int) < (q : Int) := by omega
                rw [if_neg hq0] at hse
                subst hse
                go_wp2_with fail
                refine cd.mono ?_
                rintro e w7 ⟨rfl, rfl⟩
                go_wp2_with fail
                refine cf.mono ?_
                rintro e w8 ⟨F8, d8, rfl, h8, hst8, hf8, st8⟩
                go_wp2_with fail
                go_roundw
                case rel =>
                  exact ⟨k + 1, y, F8, s6, d8, _, _, by go_num, by omega, rfl, h8, hst8, hf8, hnx6.step st8, hnx6.step st8⟩
                case measure => simp [intOf]; omega
          · as_aux_lemma =>
              rw [hd6] at cd
              have cf := kq_fail h6 hst6 (-1) (by omega) (by omega) none 0 0 [] (nilS _) (by omega) (by simp)
              go_wp2_with fail
              refine cd.mono ?_
              rintro e w7 ⟨rfl, rfl⟩
              go_wp2_with fail
              refine cf.mono ?_
              rintro e w8 ⟨F8, d8, rfl, h8, hst8, hf8, st8⟩
              go_wp2_with fail
              go_roundw
              case rel =>
                exact ⟨k + 1, y, F8, s6, d8, now, sure, by go_num, by omega, rfl, h8, hst8, hf8, hsu6.step st8, hnw6.step st8⟩
              case measure => simp [intOf]; omega
          · as_aux_lemma =>
              rw [hde.dead] at cd
              have cb := kq_boot h6
              go_wp2_with fail
              refine cd.mono ?_
              rintro e w7 ⟨rfl, rfl⟩
              go_wp2_with fail
              refine cb.mono ?_
              rintro e w8 ⟨F8, rfl, h8, st8⟩
              have c1 := kq_open1 h8 hde
              go_wp2_with fail
              refine c1.mono ?_
              rintro e w9 ⟨L, y9, F9, sl, half, d9, v9, rfl, h9, hst9, hf9, hdk9, hl9, st9, hL⟩
              have hsu9 := (hsu6.step st8).step st9
              have hnx9 := (hnx6.step st8).step st9
              have c2 := kq_open2 h9 hst9 hf9 hdk9 hl9
              clear cb c1 cd h6 h8 hsu6 hnx6 hnw6
              go_wp2_with fail
              refine c2.mono ?_
              rintro e w10 ⟨z, G, v10, rfl, hT, hl10, k10⟩
              have hsu10 := hsu9.next k10
              have hnx10 := hnx9.next k10
              have hli := hl9.next k10
              clear c2 hsu9 hnx9 hl9
              obtain ⟨A11, c11, ps11, e11, -⟩ := hli.ex
              have cs3 := fun W (hk : Kept [] w10 W) => (hli.next hk).sameT (hl10.next hk) rfl
              by_cases hLs : L = sure
              · have cs1 := hli.sameT hsu10 hLs
                subst e11
                clear hli hl10 hnx10 hsu10 hLs hL
                go_wp2_with fail
                refine cs1.mono ?_
                rintro e w11 ⟨rfl, k11⟩
                have cs4 := cs3 _ k11
                go_wp2_with fail
                refine cs4.mono ?_
                rintro e w12 ⟨rfl, k12⟩
                have hT12 := (hT.next k11).next k12
                have cy := hT12.lenY
                clear cs1 cs3 cs4 hT hT12
                go_wp2_with fail
                refine cy.mono ?_
                rintro e w13 ⟨rfl, hT13⟩
                have cz := hT13.lenZ
                go_wp2_with fail
                refine cz.mono ?_
                rintro e w14 ⟨rfl, hT14⟩
                clear cy cz hT13
                obtain ⟨s14, d14, g1, g2, g3, g4⟩ := hT14.ex
                have hl14 := hT14.li.mono (F' := F9) (fun j hj => List.mem_cons_of_mem _ hj)
                go_wp2_with fail
                go_roundw
                case rel =>
                  exact ⟨k + 1, y9, F9, s14, d14, L, L, by go_num, by omega, rfl, g1, g3, g4, hl14, hl14⟩
                case measure => simp [intOf]; omega
              · obtain ⟨hqd, hLn⟩ := hL.resolve_left hLs
                have i5 : (0 : Int) < (q : Int) := by
                  have := of_decide_eq_true hqd
                  omega
                have cs1 := hli.sameF hsu10 hLs
                have cs2 := fun W (hk : Kept [] w10 W) => (hli.next hk).sameT (hnx10.next hk) hLn
                subst e11
                clear hli hl10 hnx10 hsu10 hLs hL hLn hqd
                go_wp2_with fail
                refine cs1.mono ?_
                rintro e w11 ⟨rfl, k11⟩
                have cs5 := cs2 _ k11
                go_wp2_with fail
                refine cs5.mono ?_
                rintro e w11' ⟨rfl, k11'⟩
                have cs4 := cs3 _ (k11.trans k11')
                go_wp2_with fail
                refine cs4.mono ?_
                rintro e w12 ⟨rfl, k12⟩
                have hT12 := (hT.next (k11.trans k11')).next k12
                have cy := hT12.lenY
                clear cs1 cs2 cs3 cs4 cs5 hT hT12
                go_wp2_with fail
                refine cy.mono ?_
                rintro e w13 ⟨rfl, hT13⟩
                have cz := hT13.lenZ
                go_wp2_with fail
                refine cz.mono ?_
                rintro e w14 ⟨rfl, hT14⟩
                clear cy cz hT13
                obtain ⟨s14, d14, g1, g2, g3, g4⟩ := hT14.ex
                have hl14 := hT14.li.mono (F' := F9) (fun j hj => List.mem_cons_of_mem _ hj)
                go_wp2_with fail
                go_roundw
                case rel =>
                  exact ⟨k + 1, y9, F9, s14, d14, L, L, by go_num, by omega, rfl, g1, g3, g4, hl14, hl14⟩
                case measure => simp [intOf]; omega
    · have hcase : ¬ (k : Int) < (n : Int) ∨ ((k : Int) < (n : Int) ∧ ¬ (k : Int) < 30) := by omega
      have hk3 := h3.kept
      rcases hcase with i1 | ⟨i1, i2⟩
      all_goals
        go_wp2_with fail
        refine (awake13_any _).mono ?_
        rintro e w5 ⟨rfl, hk5⟩
        go_wp2_with fail
        go_ret
        exact ⟨rfl, hk3.trans hk5⟩
end Go.Proofs.Ytbnflbkaogpnbaa
