/- SpoolList: the walk. -/
import Derived.Test.YtbnflbkaogpnbaaL1
namespace Go.Proofs.Ytbnflbkaogpnbaa
set_option linter.unusedVariables false
open Go.RowKit

set_option maxHeartbeats 4000000 in
set_option maxRecDepth 100000 in
theorem spoolList_walk (w : World) (A : Option Addr) (n c : Nat) (l : List D13) (hl : D13s w A n c l) :
    Calls Try.prog 18 #[.slice A n c] w (TruePost w) := by
  obtain ⟨j0, hj0, ju0, ju1, ju2⟩ := info_parts info_bytes
  have hln := hl.le; have hlm := hl.max
  unfold maxLen at hlm
  go_enter Try.func18, Try.ntmps18
  go_wp2_with fail
  refine (new_any 60 _ (by omega) (by omega)).mono ?_
  rintro e w1 ⟨a, f1, rfl, hD1, hA1, hN1⟩
  go_wp2_with fail
  refine (spk_new (n := 60) (f := 0) (sectors := 60) (each := 29) hD1 hA1 hN1 (by omega) rfl (by omega)).mono ?_
  rintro e w2 ⟨y, F, A2, c2, rfl, h2⟩
  clear hD1 hA1 hN1
  go_wp2_with fail
  go_loopw [8, 9, 10] (fun v8 v9 i wr => LsRel w y a v8 v9 i wr) (fun _ _ i _ => 40 - (intOf i).toNat)
  case atStart => exact ⟨0, 0, 0, 0, F, [], [], rfl, by omega, h2, by omega, by omega, by simp, by simp, ⟨World.ownsRow_nil _ _ _ _, fun g e => by cases e⟩, fun _ => rfl, SureAt.nil _ _ _ _⟩
  case round =>
    obtain ⟨k, half, t, W, F1, np, sp, rfl, hk, h3, ht, hW, hnl, hnp, hr3, hnil, hs3⟩ := hrel
    clear h2
    by_cases hlt : k < n ∧ k < 40
    · have i1 : (k : Int) < (n : Int) := by omega
      have i2 : (k : Int) < 40 := by omega
      obtain ⟨b, o, x, hA, hbl, hpl, hok0, hc0, hc1, hc2, hc3, hc4⟩ := hl.at_ hlt.1
      have hok := hok0.kept h3.kept
      have e : ∀ j, wr.cell? ⟨b, j, none⟩ = w.cell? ⟨b, j, none⟩ := fun j => h3.kept.cell (p := ⟨b, j, none⟩) hbl (by simp)
      rw [← e] at hc0 hc1 hc2 hc3 hc4
      subst hA
      obtain ⟨q, hq⟩ : ∃ q : Nat, x.kind % 3 = q := ⟨(x.kind % 3).toNat, by omega⟩
      have hq3 : q < 3 := by omega
      have c0 := fun W => bring_any x.kind 3 W (by omega) (by omega) hok.kind.1 hok.kind.2
      rw [hq] at c0
      unfold Part.val at hc2
      clear hpl hq e
      go_wp2_with fail
      refine (c0 _).mono ?_
      rintro e w3 ⟨rfl, rfl⟩
      clear c0
      have hqc : q = 0 ∨ q = 1 ∨ q = 2 := by omega
      rcases hqc with rfl | rfl | rfl
      · obtain ⟨ml, hmin, hml1, hml2, hml3, hsl⟩ := part_low (hok.kept (Kept.alloc [] wr (.cells #[.int .i64 x.kind, .int .i64 x.num, .slice x.data.A x.data.n x.data.c, .slice x.lstA x.lstn x.lstc, .slice x.keepA x.keepn x.keepc] 101))).data 60
        replace hmin : min (x.data.n : Int) 60 = (ml : Nat) := hmin
        have hple := hok.data.1.le; have hpmx := hok.data.1.max; have hpn := hok.data.2
        unfold maxLen at hpmx
        have h4 := h3.next (Kept.alloc [] wr (.cells #[.int .i64 x.kind, .int .i64 x.num, .slice x.data.A x.data.n x.data.c, .slice x.lstA x.lstn x.lstc, .slice x.keepA x.keepn x.keepc] 101))
        have hr4 := hr3.next (Kept.alloc [] wr (.cells #[.int .i64 x.kind, .int .i64 x.num, .slice x.data.A x.data.n x.data.c, .slice x.lstA x.lstn x.lstc, .slice x.keepA x.keepn x.keepc] 101))
        have hs4 := hs3.next (Kept.alloc [] wr (.cells #[.int .i64 x.kind, .int .i64 x.num, .slice x.data.A x.data.n x.data.c, .slice x.lstA x.lstn x.lstc, .slice x.keepA x.keepn x.keepc] 101))
        have hsl0 := hsl 0
        rw [World.drewN_zero] at hsl0
        have hrec := recs_sixty np (fun p hp => (hnp p hp).2)
        have hlow := h3.low
        have hdl := hok0.data.low_
        have ca := h4.append (by omega) (by simp [texts]; omega) x.data.A ml x.data.c (x.data.xs.take 60) hsl0 hpn (fun p e hn hm => by have h8 := hdl p e (by omega); have h9 := hlow _ hm; omega) (by omega) (by omega)
        clear hsl hsl0 h3 hr3 hs3
        go_wp2_with fail
        refine ca.mono ?_
        rintro e w5 ⟨rfl, F5, h5, st5⟩
        have hr5 := hr4.step st5
        have hs5 := hs4.step st5 hlow
        clear ca h4 hr4 hs4
        go_wp2_with (at_builtin; refine Hold.of ?_)
        unfold Hold
        refine wpList_append_lies _ rfl (.tmp 99) (.tmp 101) 64 rfl w.heap.size 34 j0 _ 1 24 Try.underlying64 hj0 ju0 ju1 ju2 rfl (by decide) _ np.length _ rfl (hr5.next (Kept.alloc [] w5 (.cells #[.slice x.data.A ml x.data.c] 34))).own ⟨w5.heap.size, 0, none⟩ 1 1 [.slice x.data.A ml x.data.c] rfl rfl (one_news w5 _ _) (one_slice _ _ _) (by omega) (by unfold maxLen; omega) (by omega) (by have := h5.kept.size; simp; omega) (w5.heap.size + 1) (by simp) ?_
        intro g cap w6 hown6 hgrow6 hat6 hlt6
        obtain ⟨hr6, hk6, hu6⟩ := hr5.push h5.lt (Kept.alloc [] w5 (.cells #[.slice x.data.A ml x.data.c] 34)) hgrow6 hown6 hat6 (by simp)
        have h6 := h5.row hr5 hk6
        have hs6 := hs5.grow (v8' := .slice (some ⟨g, 0, none⟩) (np.length + 1) cap) hk6 (fun g e => (hr5.own.lt g e).1) (fun g' e => by
          have e2 : g = g' := by simpa [Value.ownBlock] using e
          subst e2
          rcases hat6 with h1 | h1
          · exact .inl h1
          · exact .inr (by omega))
        have hval : (x.data.low 60).val = .slice x.data.A ml x.data.c := by unfold Part.low Part.val; rw [show min x.data.n 60 = ml by omega]
        have hnx : (np ++ [x.data.low 60]).map Part.val = np.map Part.val ++ [.slice x.data.A ml x.data.c] := by rw [List.map_append, List.map_cons, List.map_nil, hval]
        have htx : texts np ++ [x.data.xs.take 60] = texts (np ++ [x.data.low 60]) := by simp [texts, Part.low]
        have hpx : ∀ p ∈ np ++ [x.data.low 60], p.At w ∧ p.xs.length ≤ 60 := fun p hp => by
          rcases List.mem_append.mp hp with hp | hp
          · exact hnp p hp
          · obtain rfl := List.mem_singleton.mp hp
            exact ⟨hok0.data.low 60, by simp [Part.low]; omega⟩
        rw [htx] at h6
        obtain ⟨NP, hNP⟩ : ∃ NP, np ++ [x.data.low 60] = NP := ⟨_, rfl⟩
        have hNPl : NP.length = np.length + 1 := by rw [← hNP]; simp
        rw [hNP] at h6 hpx hnx
        rw [← hnx, ← hNPl] at hr6
        rw [← hNPl] at hs6
        have HN := Lib.hid hNPl
        clear hown6 hgrow6 hat6 hlt6 hk6 hu6 hr5 hs5 h5 hnx htx hNP hval hnp
        try rw [← hNPl]
        clear hNPl
        have cag := h6.again (sectors := 60) (by omega) rfl (by omega)
        replace cag : Calls Try.prog 58 #[.pointer (some ⟨a, 0, none⟩), .int .i64 0, .int .i64 60] w6 (AgainSp w6 (texts sp)) := cag
        go_wp2_with fail
        refine cag.mono ?_
        rintro e w7 ⟨v7, A7, n7, c7, ps7, rfl, k7, hB7, ht7, hA7, hp7⟩
        have h7 := h6.next k7
        have hr7 := hr6.next k7
        have hs7 := hs6.next k7
        have cl := h7.len
        rw [show (((texts NP).length : Nat) : Int) = ((NP.length : Nat) : Int) by simp [texts]] at cl
        clear cag
        go_wp2_with fail
        refine cl.mono ?_
        rintro e w8 ⟨rfl, F8, h8, st8⟩
        have hr8 := hr7.step st8
        have hs8 := hs7.step st8 h7.low
        have hB8 := hB7.kept st8.kept (fun p e => h6.fresh (hA7 p e)) (fun q hq p e => h6.fresh (hp7 q hq p e))
        clear cl
        obtain ⟨A9, c9, e9, hB9, _⟩ := hs8.ex
        first | subst e9 | cases e9 | (injection e9 with x1 x2 x3; subst x1 x3)
        have csl := sameLists_true w8 A7 _ n7 c7 _ _ ps7 sp hB8 hB9 ht7
        go_wp2_with fail
        refine csl.mono ?_
        rintro e w9 ⟨rfl, q9, rfl⟩
        have kq := Kept.drewN [] w8 q9
        clear csl
        go_wp2_with fail
        go_roundw
        case rel => exact ⟨k + 1, half, t, _, F8, NP, sp, by go_num, by omega, h8.next kq, by omega, by omega, by rw [HN.out]; omega, hpx, hr8.next kq, fun e => by have := HN.out; rw [e] at this; simp at this, hs8.next kq⟩
        case measure => simp [intOf]; omega
      · have cf := (h3.next (Kept.alloc [] wr (.cells #[.int .i64 x.kind, .int .i64 x.num, .slice x.data.A x.data.n x.data.c, .slice x.lstA x.lstn x.lstc, .slice x.keepA x.keepn x.keepc] 101))).flush (by omega) (by simp [texts]; omega) (by omega)
        have hr4 := hr3.next (Kept.alloc [] wr (.cells #[.int .i64 x.kind, .int .i64 x.num, .slice x.data.A x.data.n x.data.c, .slice x.lstA x.lstn x.lstc, .slice x.keepA x.keepn x.keepc] 101))
        go_wp2_with fail
        refine cf.mono ?_
        rintro e w5 ⟨rfl, F5, h5, st5⟩
        have hr5 := hr4.step st5
        clear cf h3 hr3 hr4 hs3
        by_cases hne : np = []
        · obtain rfl := hnil hne
          subst hne
          have h6 := h5.next (Kept.alloc [] w5 (.cells #[] 34))
          have hr6 := hr5.next (Kept.alloc [] w5 (.cells #[] 34))
          have hs6 : SureAt w (w5.alloc (.cells #[] 34)) F5 (.slice none 0 0) (.slice (some ⟨w5.heap.size, 0, none⟩) 0 0) [] := ⟨⟨some ⟨w5.heap.size, 0, none⟩, 0, rfl, ⟨rfl, Nat.le_refl _, by unfold maxLen; omega, by simp, fun h => absurd h (Nat.lt_irrefl 0)⟩, fun p e hn => absurd hn (Nat.lt_irrefl 0)⟩, by simp⟩
          have cag := h6.again (sectors := 60) (by omega) rfl (by omega)
          replace cag : Calls Try.prog 58 #[.pointer (some ⟨a, 0, none⟩), .int .i64 0, .int .i64 60] _ (AgainSp _ (texts ([] : List Part))) := cag
          go_wp2_with fail
          refine cag.mono ?_
          rintro e w7 ⟨v7, A7, n7, c7, ps7, rfl, k7, hB7, ht7, hA7, hp7⟩
          have h7 := h6.next k7
          have hr7 := hr6.next k7
          have hs7 := hs6.next k7
          have cl := h7.len
          rw [show (((texts ([] : List Part)).length : Nat) : Int) = ((([] : List Part).length : Nat) : Int) by simp [texts]] at cl
          clear cag
          go_wp2_with fail
          refine cl.mono ?_
          rintro e w8 ⟨rfl, F8, h8, st8⟩
          have hr8 := hr7.step st8
          have hs8 := hs7.step st8 h7.low
          have hB8 := hB7.kept st8.kept (fun p e => h6.fresh (hA7 p e)) (fun q hq p e => h6.fresh (hp7 q hq p e))
          clear cl
          obtain ⟨A9, c9, e9, hB9, _⟩ := hs8.ex
          first | subst e9 | cases e9 | (injection e9 with x1 x2 x3; subst x1 x3)
          have csl := sameLists_true w8 A7 _ n7 c7 _ _ ps7 ([] : List Part) hB8 hB9 ht7
          go_wp2_with fail
          refine csl.mono ?_
          rintro e w9 ⟨rfl, q9, rfl⟩
          have kq := Kept.drewN [] w8 q9
          clear csl
          go_wp2_with fail
          go_roundw
          case rel => exact ⟨k + 1, half, t + 1, _, F8, [], [], by go_num, by omega, h8.next kq, by omega, by omega, by simp, by simp, hr8.next kq, fun _ => rfl, hs8.next kq⟩
          case measure => simp [intOf]; omega
        · have hnp0 : 0 < np.length := by
            rcases np with _ | _
            · exact absurd rfl hne
            · simp
          obtain ⟨g8, c8, rfl, hg8l, hg8F, hc81, hc82, hcells⟩ := row_cells hr5 hnp0
          have hl6 : (w5.alloc (.cells #[] 34)).heap[w5.heap.size]? = some (.cells #[] 34 (0, 0)) := heap_alloc_new _ _
          have hown0 : (w5.alloc (.cells #[] 34)).ownsRow w.heap.size 34 1 (.slice (some ⟨w5.heap.size, 0, none⟩) 0 0) 0 [] := ⟨rfl, .inr ⟨w5.heap.size, 0, #[], rfl, h5.kept.size, hl6, Nat.le_refl _, by unfold maxLen; omega, rfl, rfl⟩⟩
          have hpv : ∀ p ∈ np, p.At w := fun p hp => (hnp p hp).1
          have hkw5 := h5.kept
          go_wp2_with (at_builtin; refine Hold.of ?_)
          unfold Hold
          refine wpList_append_lies _ rfl (.tmp 108) (.tmp 109) 64 rfl w.heap.size 34 j0 _ 1 24 Try.underlying64 hj0 ju0 ju1 ju2 rfl (by decide) _ 0 _ rfl hown0 ⟨g8, 0, none⟩ np.length c8 (np.map Part.val) rfl (by simp) (fun j u hj => by rw [add_block, Nat.zero_add]; exact ((Kept.alloc [] w5 (.cells #[] 34)).cell (p := ⟨g8, j, none⟩) hg8l (by simp)).trans (hcells j u hj)) (partv_one np) hnp0 (by unfold maxLen; omega) (by omega) (by have := hkw5.size; simp; omega) (w5.heap.size + 1) (by simp) ?_
          intro g cap w6 hown6 hgrow6 hat6 hlt6
          simp only [Nat.zero_add, List.nil_append] at hown6
          replace hat6 : (Value.slice (some ⟨w5.heap.size, 0, none⟩) 0 0).ownBlock = some g ∨ g = w5.heap.size + 1 := hat6
          replace hgrow6 : (w5.alloc (.cells #[] 34)).grownBy w6 (Value.slice (some ⟨w5.heap.size, 0, none⟩) 0 0).ownBlock := hgrow6
          have hgg : w5.heap.size ≤ g := by
            rcases hat6 with h1 | h1
            · have : w5.heap.size = g := by simpa [Value.ownBlock] using h1
              omega
            · omega
          have hk6 : Kept [] w5 w6 := (Kept.alloc [] w5 (.cells #[] 34)).trans' (Kept.grown (F := [w5.heap.size]) hgrow6 (fun j e => .inl (by
            have : w5.heap.size = j := by simpa [Value.ownBlock] using e
            simp [this]))) (fun i hi => .inr (by simp at hi; omega))
          have h6 := h5.next hk6
          have hr6 := hr5.next hk6
          have hs6 : SureAt w w6 F5 (.slice (some ⟨g8, 0, none⟩) np.length c8) (.slice (some ⟨g, 0, none⟩) np.length cap) np := by
            obtain ⟨A9, c9, e9, hB9⟩ := BytessAt.of_own hown6 (fun p hp => (hpv p hp).kept (hkw5.trans hk6) (by simp))
            injection e9 with e1 e2 e3
            subst e1 e3
            exact ⟨⟨_, _, rfl, hB9, fun p e hn => by
              cases e
              refine ⟨Nat.le_trans hkw5.size hgg, fun hm => ?_, fun e => ?_, hlt6⟩
              · have := h5.lt _ hm; simp at this; omega
              · have : g8 = g := by simpa [Value.ownBlock] using e
                omega⟩, hpv⟩
          clear hown6 hgrow6 hat6 hlt6 hown0 hl6
          try rw [Nat.zero_add]
          have cag := h6.again (sectors := 60) (by omega) rfl (by omega)
          replace cag : Calls Try.prog 58 #[.pointer (some ⟨a, 0, none⟩), .int .i64 0, .int .i64 60] w6 (AgainSp w6 (texts np)) := cag
          go_wp2_with fail
          refine cag.mono ?_
          rintro e w7 ⟨v7, A7, n7, c7, ps7, rfl, k7, hB7, ht7, hA7, hp7⟩
          have h7 := h6.next k7
          have hr7 := hr6.next k7
          have hs7 := hs6.next k7
          have cl := h7.len
          rw [show (((texts np).length : Nat) : Int) = ((np.length : Nat) : Int) by simp [texts]] at cl
          clear cag
          go_wp2_with fail
          refine cl.mono ?_
          rintro e w8 ⟨rfl, F8, h8, st8⟩
          have hr8 := hr7.step st8
          have hs8 := hs7.step st8 h7.low
          have hB8 := hB7.kept st8.kept (fun p e => h6.fresh (hA7 p e)) (fun q hq p e => h6.fresh (hp7 q hq p e))
          clear cl
          obtain ⟨A9, c9, e9, hB9, _⟩ := hs8.ex
          first | subst e9 | cases e9 | (injection e9 with x1 x2 x3; subst x1 x3)
          have csl := sameLists_true w8 A7 _ n7 c7 _ _ ps7 np hB8 hB9 ht7
          go_wp2_with fail
          refine csl.mono ?_
          rintro e w9 ⟨rfl, q9, rfl⟩
          have kq := Kept.drewN [] w8 q9
          clear csl
          go_wp2_with fail
          go_roundw
          case rel => exact ⟨k + 1, half, t + 1, _, F8, np, np, by go_num, by omega, h8.next kq, by omega, by omega, by omega, hnp, hr8.next kq, fun e => absurd e hne, hs8.next kq⟩
          case measure => simp [intOf]; omega
      · obtain ⟨WD, hWD⟩ : ∃ WD, wr.alloc (.cells #[.int .i64 x.kind, .int .i64 x.num, .slice x.data.A x.data.n x.data.c, .slice x.lstA x.lstn x.lstc, .slice x.keepA x.keepn x.keepc] 101) = WD := ⟨_, rfl⟩
        have kD : Kept [] wr WD := by rw [← hWD]; exact Kept.alloc [] _ _
        have hbD : WD.heap[wr.heap.size]? = some (.cells #[.int .i64 x.kind, .int .i64 x.num, .slice x.data.A x.data.n x.data.c, .slice x.lstA x.lstn x.lstc, .slice x.keepA x.keepn x.keepc] 101 (0, 0)) := by rw [← hWD]; exact heap_alloc_new _ _
        have h4 := h3.next kD
        have hr4 := hr3.next kD
        have hs4 := hs3.next kD
        have hokD := hok.kept kD
        have d3 : WD.cell? ⟨wr.heap.size, 3, none⟩ = some (.slice x.lstA x.lstn x.lstc) := by rw [blk_cell hbD]; rfl
        have hlle := hokD.lst.le; have hllm := hokD.lst.max
        unfold maxLen at hllm
        have d3w := fun (W : World) (hk : Kept [] WD W) => (hk.cell (p := ⟨wr.heap.size, 3, none⟩) (World.lt_of_heap hbD) (by simp)).trans d3
        clear h3 hr3 hs3 hok hc0 hc1 hc2 hc3 hc4
        go_wp2_with fail
        try rw [hWD]
        clear hWD
        generalize wr.heap.size = DB at d3w d3 hbD ⊢
        go_loopw [13, 14] (fun v13 i wx => LmRel w WD F1 u8 u9 np sp x.lst v13 i wx) (fun _ i _ => 5 - (intOf i).toNat)
        case atStart => exact ⟨0, by omega, by omega, rfl, ⟨World.ownsRow_nil _ _ _ _, fun g e => by cases e⟩, fun _ => rfl, Kept.refl _ _, fun g e => by cases e⟩
        case round =>
          obtain ⟨j, hj, hjl, rfl, hrM, hM0, kM, hMo⟩ := hrel
          have d3' := d3w _ kM
          by_cases hjt : j < x.lstn ∧ j < 5
          · have i3 : (j : Int) < (x.lstn : Int) := by omega
            have i4 : (j : Int) < 5 := by omega
            obtain ⟨bl, ol, p, hAl, hbll, hplk, hpla, hcl⟩ := (hokD.lst.new kM).at_ hjt.1
            obtain ⟨ml, hmin, hml1, hml2, hml3, hsl⟩ := part_low hpla 60
            replace hmin : min (p.n : Int) 60 = (ml : Nat) := hmin
            have hple := hpla.1.le; have hpmx := hpla.1.max; have hpn := hpla.2
            unfold maxLen at hpmx
            have i5 : ml ≤ p.c := by omega
            have hDBl := World.lt_of_heap hbD
            have hbz : w.heap.size ≤ wr.heap.size := by have h8 := h4.kept.size; have h9 := kM.size; omega
            have hbl0 : bl < WD.heap.size := by
              obtain ⟨b2, o2, p2, e2, g2, _⟩ := hok0.lst.at_ hjt.1
              rw [hAl] at e2
              cases e2
              have h8 := h4.kept.size
              omega
            have ef : x.lstA = some ⟨bl, ol, none⟩ := hAl
            rw [ef] at d3'
            have S0 : wr.drew.cell? ⟨DB, 3, none⟩ = some (.slice (some ⟨bl, ol, none⟩) x.lstn x.lstc) ∧ wr.drew.cell? ⟨bl, ol + j, none⟩ = some (.slice p.A p.n p.c) := ⟨d3', hcl⟩
            have hrMd := hrM.next (Kept.drew [] wr)
            go_wp2_with fail
            refine wp_region_calm (S := (fun W => W.cell? ⟨DB, 3, none⟩ = some (.slice (some ⟨bl, ol, none⟩) x.lstn x.lstc) ∧ W.cell? ⟨bl, ol + j, none⟩ = some (.slice p.A p.n p.c))) (by kernel_rfl) S0 (fun hHeld => ?_)
            refine wpAnyH_take (i := 0) (v := ?_) (by simp only [List.getElem?_toArray, List.getElem?_cons_zero]; rfl) (by kernel_rfl) (by kernel_rfl) (by kernel_rfl) (by exact fun _ _ _ h => h) (Or.inl ⟨by rfl, ?_⟩) hHeld ?_
            rotate_left
            · intro w hSw
              try dsimp only at hSw
              go_simp
              all_goals with_reducible rfl
            try simp only [Act.put, List.setIfInBounds_toArray, List.set_cons_zero, List.set_cons_succ]
            refine wpAnyH_take (i := 1) (v := ?_) (by simp only [List.getElem?_toArray, List.getElem?_cons_succ, List.getElem?_cons_zero]; rfl) (by kernel_rfl) (by kernel_rfl) (by kernel_rfl) (by exact fun _ _ _ h => h) (Or.inl ⟨by rfl, ?_⟩) hHeld ?_
            rotate_left
            · intro w hSw
              try dsimp only at hSw
              go_simp
              all_goals with_reducible rfl
            try simp only [Act.put, List.setIfInBounds_toArray, List.set_cons_zero, List.set_cons_succ]
            refine wpAnyH_take (i := 2) (v := ?_) (by simp only [List.getElem?_toArray, List.getElem?_cons_succ, List.getElem?_cons_zero]; rfl) (by kernel_rfl) (by kernel_rfl) (by kernel_rfl) (by exact fun _ _ _ h => h) (Or.inl ⟨by rfl, ?_⟩) hHeld ?_
            rotate_left
            · intro w hSw
              try dsimp only at hSw
              obtain ⟨s0, s1⟩ := hSw
              go_simp
              all_goals with_reducible rfl
            try simp only [Act.put, List.setIfInBounds_toArray, List.set_cons_zero, List.set_cons_succ]
            refine wpAnyH_take (i := 3) (v := ?_) (by simp only [List.getElem?_toArray, List.getElem?_cons_succ, List.getElem?_cons_zero]; rfl) (by kernel_rfl) (by kernel_rfl) (by kernel_rfl) (by exact fun _ _ _ h => h) (Or.inl ⟨by rfl, ?_⟩) hHeld ?_
            rotate_left
            · intro w hSw
              try dsimp only at hSw
              go_simp
              all_goals with_reducible rfl
            try simp only [Act.put, List.setIfInBounds_toArray, List.set_cons_zero, List.set_cons_succ]
            refine wpAnyH_take (i := 4) (v := ?_) (by simp only [List.getElem?_toArray, List.getElem?_cons_succ, List.getElem?_cons_zero]; rfl) (by kernel_rfl) (by kernel_rfl) (by kernel_rfl) (by exact fun _ _ _ h => h) (Or.inl ⟨by rfl, ?_⟩) hHeld ?_
            rotate_left
            · intro w hSw
              try dsimp only at hSw
              go_simp
              all_goals with_reducible rfl
            try simp only [Act.put, List.setIfInBounds_toArray, List.set_cons_zero, List.set_cons_succ]
            refine wpAnyH_take (i := 5) (v := ?_) (by simp only [List.getElem?_toArray, List.getElem?_cons_succ, List.getElem?_cons_zero]; rfl) (by kernel_rfl) (by kernel_rfl) (by kernel_rfl) (by exact fun _ _ _ h => h) (Or.inl ⟨by rfl, ?_⟩) hHeld ?_
            rotate_left
            · intro w hSw
              try dsimp only at hSw
              obtain ⟨s0, s1⟩ := hSw
              go_simp
              all_goals with_reducible rfl
            try simp only [Act.put, List.setIfInBounds_toArray, List.set_cons_zero, List.set_cons_succ]
            refine wpAnyH_take (i := 6) (v := ?_) (by simp only [List.getElem?_toArray, List.getElem?_cons_succ, List.getElem?_cons_zero]; rfl) (by kernel_rfl) (by kernel_rfl) (by kernel_rfl) (by exact fun _ _ _ h => h) (Or.inl ⟨by rfl, ?_⟩) hHeld ?_
            rotate_left
            · intro w hSw
              try dsimp only at hSw
              go_simp
              all_goals with_reducible rfl
            try simp only [Act.put, List.setIfInBounds_toArray, List.set_cons_zero, List.set_cons_succ]
            refine wpAnyH_take (i := 7) (v := ?_) (by simp only [List.getElem?_toArray, List.getElem?_cons_succ, List.getElem?_cons_zero]; rfl) (by kernel_rfl) (by kernel_rfl) (by kernel_rfl) (by exact fun _ _ _ h => h) (Or.inl ⟨by rfl, ?_⟩) hHeld ?_
            rotate_left
            · intro w hSw
              try dsimp only at hSw
              obtain ⟨s0, s1⟩ := hSw
              go_simp
              all_goals with_reducible rfl
            try simp only [Act.put, List.setIfInBounds_toArray, List.set_cons_zero, List.set_cons_succ]
            refine wpAnyH_take (i := 8) (v := ?_) (by simp only [List.getElem?_toArray, List.getElem?_cons_succ, List.getElem?_cons_zero]; rfl) (by kernel_rfl) (by kernel_rfl) (by kernel_rfl) (by exact fun _ _ _ h => h) (Or.inl ⟨by rfl, ?_⟩) hHeld ?_
            rotate_left
            · intro w hSw
              try dsimp only at hSw
              go_simp
              all_goals with_reducible rfl
            try simp only [Act.put, List.setIfInBounds_toArray, List.set_cons_zero, List.set_cons_succ]
            refine wpAnyH_take (i := 9) (v := ?_) (by simp only [List.getElem?_toArray, List.getElem?_cons_succ, List.getElem?_cons_zero]; rfl) (by kernel_rfl) (by kernel_rfl) (by kernel_rfl) (by exact fun _ _ _ h => h) (Or.inl ⟨by rfl, ?_⟩) hHeld ?_
            rotate_left
            · intro w hSw
              try dsimp only at hSw
              go_simp
              all_goals with_reducible rfl
            try simp only [Act.put, List.setIfInBounds_toArray, List.set_cons_zero, List.set_cons_succ]
            refine wpAnyH_take (i := 10) (v := ?_) (by simp only [List.getElem?_toArray, List.getElem?_cons_succ, List.getElem?_cons_zero]; rfl) (by kernel_rfl) (by kernel_rfl) (by kernel_rfl) (by exact fun _ _ _ h => h) (Or.inl ⟨by rfl, ?_⟩) hHeld ?_
            rotate_left
            · intro w hSw
              try dsimp only at hSw
              obtain ⟨s0, s1⟩ := hSw
              go_simp
              all_goals with_reducible rfl
            try simp only [Act.put, List.setIfInBounds_toArray, List.set_cons_zero, List.set_cons_succ]
            refine wpAnyH_take (i := 11) (v := ?_) (by simp only [List.getElem?_toArray, List.getElem?_cons_succ, List.getElem?_cons_zero]; rfl) (by kernel_rfl) (by kernel_rfl) (by kernel_rfl) (by exact fun _ _ _ h => h) (Or.inl ⟨by rfl, ?_⟩) hHeld ?_
            rotate_left
            · intro w hSw
              try dsimp only at hSw
              go_simp
              all_goals with_reducible rfl
            try simp only [Act.put, List.setIfInBounds_toArray, List.set_cons_zero, List.set_cons_succ]
            refine wpAnyH_take (i := 12) (v := ?_) (by simp only [List.getElem?_toArray, List.getElem?_cons_succ, List.getElem?_cons_zero]; rfl) (by kernel_rfl) (by kernel_rfl) (by kernel_rfl) (by exact fun _ _ _ h => h) (Or.inl ⟨by rfl, ?_⟩) hHeld ?_
            rotate_left
            · intro w hSw
              try dsimp only at hSw
              go_simp
              all_goals with_reducible rfl
            try simp only [Act.put, List.setIfInBounds_toArray, List.set_cons_zero, List.set_cons_succ]
            try simp only [hmin]
            refine wpAnyH_take (i := 13) (v := ?_) (by simp only [List.getElem?_toArray, List.getElem?_cons_succ, List.getElem?_cons_zero]; rfl) (by kernel_rfl) (by kernel_rfl) (by kernel_rfl) (by exact fun _ _ _ h => h) (Or.inl ⟨by rfl, ?_⟩) hHeld ?_
            rotate_left
            · intro w hSw
              try dsimp only at hSw
              go_simp
              all_goals with_reducible rfl
            try simp only [Act.put, List.setIfInBounds_toArray, List.set_cons_zero, List.set_cons_succ]
            refine wpAnyH_ready (rs := [14]) (by kernel_rfl) (by simp) ?_
            refine AllReadyH.cons (by simp only [List.getElem?_toArray, List.getElem?_cons_succ, List.getElem?_cons_zero]; rfl) (fun K hK => ?_) AllReadyH.nil
            go_simp
            refine hK.out _ _ ?_ (fun hHeld2 => ?_)
            · exact ⟨Lib.cell?_alloc_marked _ S0.1, Lib.cell?_alloc_marked _ S0.2⟩
            clear hK K hHeld
            have hHeld := hHeld2
            clear hHeld2
            try simp only [Act.put, List.setIfInBounds_toArray, List.set_cons_zero, List.set_cons_succ]
            refine wpAnyH_ready (rs := [15]) (by kernel_rfl) (by simp) ?_
            refine AllReadyH.cons (by simp only [List.getElem?_toArray, List.getElem?_cons_succ, List.getElem?_cons_zero]; rfl) (fun K hK => ?_) AllReadyH.nil
            refine wp_append_lies _ (.tmp 62) (.tmp 76) 64 rfl w.heap.size 34 j0 _ 1 24 Try.underlying64 hj0 ju0 ju1 ju2 rfl (by decide) _ j _ (by simp [Act.eval]) (hrMd.next (Kept.alloc [] wr.drew (.cells #[.slice p.A ml p.c] 34))).own ⟨wr.heap.size, 0, none⟩ 1 1 [.slice p.A ml p.c] (by simp [Act.eval]) rfl (one_news wr.drew _ _) (one_slice _ _ _) (by omega) (by unfold maxLen; omega) (by omega) (by simp; omega) (wr.heap.size + 1) (by simp) ?_
            intro g cap w6 hown6 hgrow6 hat6 hlt6
            obtain ⟨hr6, hk6, -⟩ := hrMd.push (fun i hi => Nat.lt_of_lt_of_le (h4.lt i hi) kM.size) (Kept.alloc [] wr.drew (.cells #[.slice p.A ml p.c] 34)) hgrow6 hown6 hat6 (by simp)
            refine hK.out _ _ ?_ (fun hHeld2 => ?_)
            · exact ⟨(hk6.cell (p := ⟨DB, 3, none⟩) (Nat.lt_of_lt_of_le hDBl kM.size) (fun hm => by have h9 := hMo DB (by simpa using hm); omega)).trans S0.1, (hk6.cell (p := ⟨bl, ol + j, none⟩) hbll (fun hm => by have h9 := hMo bl (by simpa using hm); omega)).trans S0.2⟩
            clear hK K hHeld
            have hHeld := hHeld2
            clear hHeld2
            try simp only [Act.put, List.setIfInBounds_toArray, List.set_cons_zero, List.set_cons_succ]
            refine wpAnyH_take (i := 16) (v := ?_) (by simp only [List.getElem?_toArray, List.getElem?_cons_succ, List.getElem?_cons_zero]; rfl) (by kernel_rfl) (by kernel_rfl) (by kernel_rfl) (by exact fun _ _ _ h => h) (Or.inl ⟨by rfl, ?_⟩) hHeld ?_
            rotate_left
            · intro w hSw
              try dsimp only at hSw
              go_simp
              all_goals with_reducible rfl
            try simp only [Act.put, List.setIfInBounds_toArray, List.set_cons_zero, List.set_cons_succ]
            refine wpAnyH_calm (by kernel_rfl) ?_ _
            clear hHeld
            go_wp2_with fail
            go_roundw
            case rel =>
              have hvl : (p.low 60).val = .slice p.A ml p.c := by unfold Part.low Part.val; rw [show min p.n 60 = ml by omega]
              (repeat apply Exists.intro)
              refine ⟨?_, by rw [ef]⟩
              refine ⟨j + 1, by omega, by have := hokD.lst.len; omega, by go_num, ?_, fun e => by omega, (kM.trans (Kept.drew [] wr)).trans' hk6 (fun i hi => .inr (hMo i (by simpa using hi))), fun g' e => ?_⟩
              · rw [take_snoc hplk, List.map_append, List.map_append, List.map_cons, List.map_nil, List.map_cons, List.map_nil, hvl]
                exact hr6
              · have e2 : g = g' := by simpa [Value.ownBlock] using e
                subst e2
                rcases hat6 with h1 | h1
                · exact hMo _ h1
                · have := kM.size
                  omega
            case measure => simp [intOf]; omega
          · have hcase : ¬ (j : Int) < (x.lstn : Int) ∨ ((j : Int) < (x.lstn : Int) ∧ ¬ (j : Int) < 5) := by omega
            obtain ⟨ap, hap⟩ : ∃ ap, (x.lst.take j).map (Part.low 60) = ap := ⟨_, rfl⟩
            have hapl : ap.length = j := by rw [← hap]; simp; omega
            have hapw : ∀ p ∈ ap, p.At w ∧ p.xs.length ≤ 60 := fun p hp => by
              rw [← hap] at hp
              obtain ⟨p0, hp0, rfl⟩ := List.mem_map.1 hp
              exact ⟨(hok0.lst.all _ (List.mem_of_mem_take hp0)).low 60, by simp [Part.low]; omega⟩
            rw [hap] at hrM
            have h5 := h4.next kM
            have hlow := h5.low
            have hkw := h5.kept
            have hpaw : ∀ p ∈ ap, p.At wr := fun p hp => (hapw p hp).1.kept hkw (by simp)
            have hsF : ∀ q ∈ ap, ∀ p, q.A = some p → 0 < q.n → p.block ∉ F1 := fun q hq p e hn hm => by
              have h8 := (hapw q hq).1.1.lt' hn e
              have h9 := hlow _ hm
              omega
            have hne13 := hrM.ne
            have hown13 := hrM.own
            have hpv : ∀ p ∈ ap, p.At w := fun p hp => (hapw p hp).1
            obtain ⟨A13, c13, e13, hB13⟩ := hrM.parts hpaw
            have hn13 : ap = [] → Value.slice A13 j c13 = .slice none 0 0 := fun e => by
              rw [← e13]
              refine hM0 ?_
              rw [← hapl, e]
              rfl
            subst e13
            have hrec := recs_sixty ap (fun p hp => (hapw p hp).2)
            rw [allSize_recs] at hrec
            have cr := h5.replace (by omega) (by omega) A13 j c13 ap hB13 (fun b hb => by
              obtain ⟨p, hp, rfl⟩ := List.mem_map.1 hb
              have := (hapw p hp).2
              omega) (by omega) (fun p e hn => hne13 p.block (by simp [Value.ownBlock, e])) hsF (by omega)
            have d3' := d3w _ kM
            clear h4 hr4 hs4 hap hokD hbD d3 d3w hM0 hMo
            have hclose : ∀ (P : Prop), (¬ (j : Int) < (x.lstn : Int) → P) → ((j : Int) < (x.lstn : Int) → ¬ (j : Int) < 5 → P) → P := fun P h1 h2 => by
              rcases hcase with i1 | ⟨i1, i2⟩
              · exact h1 i1
              · exact h2 i1 i2
            clear hcase
            refine hclose _ (fun i3 => ?_) (fun i3 i4 => ?_)
            all_goals
              clear hclose
              go_wp2_with fail
              refine cr.mono ?_
              rintro e w5 ⟨rfl, F5, h5', st5⟩
              have hr5 := hrM.step st5
              have hB5 := hB13.keptP st5.kept (fun p e hn => hne13 p.block (by simp [Value.ownBlock, e])) hsF
              have hkw5 := h5'.kept
              have hlt5 := h5'.lt
              clear cr h5 hB13 hrM st5 kM hown13 d3'
              go_wp2_with (at_builtin; refine Hold.of ?_)
              unfold Hold
              have hl6 : (w5.alloc (.cells #[] 34)).heap[w5.heap.size]? = some (.cells #[] 34 (0, 0)) := heap_alloc_new _ _
              have hown0 : (w5.alloc (.cells #[] 34)).ownsRow w5.heap.size 34 1 (.slice (some ⟨w5.heap.size, 0, none⟩) 0 0) 0 [] := ⟨rfl, .inr ⟨w5.heap.size, 0, #[], rfl, Nat.le_refl _, hl6, Nat.le_refl _, by unfold maxLen; omega, rfl, rfl⟩⟩
              refine wpList_append_bytess rfl (.tmp 83) (.tmp 84) 64 rfl w5.heap.size 34 j0 _ 24 Try.underlying64 hj0 ju0 ju1 ju2 rfl (.slice (some ⟨w5.heap.size, 0, none⟩) 0 0) 0 [] rfl hown0 A13 j c13 ap rfl (hB5.new (Kept.alloc [] w5 (.cells #[] 34))) (by unfold maxLen; omega) (by omega) (by simp) ?_
              intro v9 w6 hown6 hgrow6 hat6
              simp only [Nat.zero_add, List.nil_append] at hown6
              have hk6 : Kept [] w5 w6 := (Kept.alloc [] w5 (.cells #[] 34)).trans' (Kept.grown (F := [w5.heap.size]) hgrow6 (fun j e => by
                have : w5.heap.size = j := by simpa [Value.ownBlock] using e
                simp [this])) (fun i hi => .inr (by simp at hi; omega))
              have h6 := h5'.next hk6
              have hr6 := hr5.next hk6
              have hs6 : SureAt w w6 F5 (.slice A13 j c13) v9 ap := by
                obtain ⟨A9, c9, e9, hB9⟩ := BytessAt.of_own hown6 (fun p hp => (hpv p hp).kept (hkw5.trans hk6) (by simp))
                subst e9
                have hz5 := hkw5.size
                refine ⟨⟨A9, c9, by rw [hapl], by rw [hapl]; exact hB9, fun p e hn => ?_⟩, hpv⟩
                have hb9 : (Value.slice A9 j c9).ownBlock = some p.block := by simp [Value.ownBlock, e]
                have h8 := (hown6.lt _ hb9)
                refine ⟨by omega, fun hm => by have := hlt5 _ hm; omega, fun e2 => ?_, h8.2⟩
                have := (hr5.own.lt _ e2).2
                omega
              clear hown6 hgrow6 hat6 hown0 hl6 hB5 h5' hr5
              try rw [Nat.zero_add]
              have cag := h6.again (sectors := 60) (by omega) rfl (by omega)
              replace cag : Calls Try.prog 58 #[.pointer (some ⟨a, 0, none⟩), .int .i64 0, .int .i64 60] w6 (AgainSp w6 (texts ap)) := cag
              go_wp2_with fail
              refine cag.mono ?_
              rintro e w7 ⟨v7, A7, n7, c7, ps7, rfl, k7, hB7, ht7, hA7, hp7⟩
              have h7 := h6.next k7
              have hr7 := hr6.next k7
              have hs7 := hs6.next k7
              have cl := h7.len
              rw [show (((texts ap).length : Nat) : Int) = ((j : Nat) : Int) by rw [← hapl]; simp [texts]] at cl
              have HN := Lib.hid hapl
              clear hapl
              clear cag
              go_wp2_with fail
              refine cl.mono ?_
              rintro e w8 ⟨rfl, F8, h8, st8⟩
              have hr8 := hr7.step st8
              have hs8 := hs7.step st8 h7.low
              have hB8 := hB7.kept st8.kept (fun p e => h6.fresh (hA7 p e)) (fun q hq p e => h6.fresh (hp7 q hq p e))
              clear cl
              obtain ⟨A9, c9, e9, hB9, _⟩ := hs8.ex
              first | subst e9 | cases e9 | (injection e9 with x1 x2 x3; subst x1 x3)
              have csl := sameLists_true w8 A7 _ n7 c7 _ _ ps7 ap hB8 hB9 ht7
              go_wp2_with fail
              refine csl.mono ?_
              rintro e w9 ⟨rfl, q9, rfl⟩
              have kq := Kept.drewN [] w8 q9
              clear csl
              go_wp2_with fail
              go_roundw
              case rel => exact ⟨k + 1, 1 - half, t + 1, _, F8, ap, ap, by go_num, by omega, h8.next kq, by omega, by have := HN.out; omega, by rw [HN.out]; omega, hapw, by rw [HN.out]; exact hr8.next kq, hn13, hs8.next kq⟩
              case measure => simp [intOf]; omega
    · have hcase : ¬ (k : Int) < (n : Int) ∨ ((k : Int) < (n : Int) ∧ ¬ (k : Int) < 40) := by omega
      have hk3 := h3.kept
      rcases hcase with i1 | ⟨i1, i2⟩
      all_goals
        go_wp2_with fail
        refine (awake13_any _).mono ?_
        rintro e w5 ⟨rfl, hk5⟩
        go_wp2_with fail
        go_ret
        exact ⟨rfl, hk3.trans hk5⟩
end Go.Proofs.Ytbnflbkaogpnbaa
