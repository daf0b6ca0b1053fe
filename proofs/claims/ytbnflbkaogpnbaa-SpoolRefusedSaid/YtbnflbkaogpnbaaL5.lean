/- SpoolRefused: the walk. (Printed by py/l5.py.) -/
import Derived.Test.YtbnflbkaogpnbaaL4
namespace Go.Proofs.Ytbnflbkaogpnbaa
set_option linter.unusedVariables false
open Go.RowKit

def TrRel (n : Int) (w : World) (g i : Value) (wx : World) : Prop := g = .int .i64 n ∧ i = .int .i64 0 ∧ w = wx

/-- What texts does, its row one's own. -/
def TxOwn (w : World) (ss : List (List UInt8)) (e : Ending) (w' : World) : Prop :=
  ∃ A c ps, e = .returned (.slice A ss.length c) ∧ Kept [] w w' ∧ w'.ownsRow w.heap.size 34 1 (.slice A ss.length c) ss.length (ps.map Part.val) ∧ (∀ p ∈ ps, p.At w') ∧ texts ps = ss ∧ ∀ q ∈ ps, ∀ p, q.A = some p → w.heap.size ≤ p.block ∧ ∀ g, (Value.slice A ss.length c).ownBlock = some g → g ≠ p.block

set_option maxHeartbeats 2000000 in
set_option maxRecDepth 100000 in
theorem texts13_own (w : World) (b o n c : Nat) (ss : List (List UInt8)) (hlen : ss.length = n) (hn : n ≤ 100) (hnc : n ≤ c) (hcm : c ≤ 9223372036854775807) (hss : ∀ s ∈ ss, 1 ≤ s.length ∧ s.length ≤ 1000) (hb : b < w.heap.size) (hc : ∀ i s, ss[i]? = some s → w.cell? ⟨b, o + i, none⟩ = some (.string ⟨s.toArray⟩)) :
    Calls Try.prog 64 #[.slice (some ⟨b, o, none⟩) n c] w (TxOwn w ss) := by
  obtain ⟨j0, hj0, ju0, ju1, ju2⟩ := info_parts info_bytes
  go_enter Try.func64, Try.ntmps64
  go_wp2_with fail
  go_loopw [3, 4] (fun v i wr => TxRel w ss v i wr) (fun _ i _ => n - (intOf i).toNat)
  case atStart => exact ⟨0, [], [], rfl, Nat.zero_le _, Kept.refl _ _, ⟨World.ownsRow_nil _ _ _ _, fun g e => by cases e⟩, by simp, by simp [texts], by simp, by simp⟩
  case round =>
    obtain ⟨k, ps, G, rfl, hk, hkw, hrow, hpa, htx, hpG, hGl⟩ := hrel
    by_cases hlt : k < n
    · have i1 : (k : Int) < (n : Int) := by omega
      obtain ⟨s, hs⟩ : ∃ s, ss[k]? = some s := ⟨_, List.getElem?_eq_getElem (by omega)⟩
      have cs : wr.cell? ⟨b, o + k, none⟩ = some (.string ⟨s.toArray⟩) := (hkw.cell (p := ⟨b, o + k, none⟩) hb (by simp)).trans (hc k s hs)
      have hmem := hss s (List.mem_of_getElem? hs)
      have hcv := run_bytes_of_string (P := Try.prog) wr 9 34 5 ⟨s.toArray⟩ Try.underlying9 Try.underlying34 Try.underlying5
      rw [show (⟨s.toArray⟩ : ByteArray).size = s.length by simp [ByteArray.size]] at hcv
      obtain ⟨G1, hG1⟩ : ∃ G1, grownCap wr s.length 0 5 = G1 := ⟨_, rfl⟩
      have hsl := str_sl wr s hmem.2 5
      have hkA := (Kept.drew [] wr).trans (Kept.alloc [] wr.drew (.cells (bytesRow ⟨s.toArray⟩ (grownCap wr s.length 0 5)) 5 ((bytesRow ⟨s.toArray⟩ (grownCap wr s.length 0 5)).size, (bytesRow ⟨s.toArray⟩ (grownCap wr s.length 0 5)).size + 1)))
      rw [hG1] at hcv hsl hkA
      obtain ⟨wA, hwA⟩ : ∃ wA, (wr.drew.alloc (.cells (bytesRow ⟨s.toArray⟩ G1) 5 ((bytesRow ⟨s.toArray⟩ G1).size, (bytesRow ⟨s.toArray⟩ G1).size + 1))) = wA := ⟨_, rfl⟩
      have hzA : wA.heap.size = wr.heap.size + 1 := by rw [← hwA]; simp
      rw [hwA] at hcv hsl hkA
      clear hwA hG1
      have hpt : Part.At wA ⟨some ⟨wr.heap.size, 0, none⟩, s.length, G1, s⟩ := ⟨hsl, fun e => by cases e⟩
      have hrA : RowIn w.heap.size wA 34 (wr.heap.size :: G) u3 k (ps.map Part.val) := hrow.step ⟨hkA.mono (by simp), fun j hj => by
        rcases List.mem_cons.mp hj with rfl | hj
        · exact .inr (Nat.le_refl _)
        · exact .inl hj⟩
      have hkw2 := hkw.size
      go_wp2_with (at_builtin; refine Hold.of ?_)
      clear hcv
      unfold Hold
      refine wpList_append_lies _ rfl (.tmp 11) (.tmp 17) 64 rfl w.heap.size 34 j0 _ 1 24 Try.underlying64 hj0 ju0 ju1 ju2 rfl (by decide) _ k _ rfl (hrA.next (Kept.alloc [] wA (.cells #[.slice (some ⟨wr.heap.size, 0, none⟩) s.length G1] 34))).own ⟨wr.heap.size + 1, 0, none⟩ 1 1 [.slice (some ⟨wr.heap.size, 0, none⟩) s.length G1] rfl rfl (by rw [← hzA]; exact one_news wA _ _) (one_slice _ _ _) (by omega) (by unfold maxLen; omega) (by omega) (by simp; omega) (wA.heap.size + 1) (by simp) ?_
      intro g cap w5 hown5 hgrow5 hat5 hlt5
      obtain ⟨hr5, hk5, hu5⟩ := hrA.push (fun j hj => by
        rcases List.mem_cons.mp hj with rfl | hj
        · omega
        · have := hGl j hj; omega) (Kept.alloc [] wA (.cells #[.slice (some ⟨wr.heap.size, 0, none⟩) s.length G1] 34)) hgrow5 hown5 hat5 (by simp)
      clear hown5 hgrow5 hat5 hlt5
      go_wp2_with fail
      go_roundw
      case rel =>
        refine ⟨k + 1, ps ++ [⟨some ⟨wr.heap.size, 0, none⟩, s.length, G1, s⟩], wr.heap.size :: G, by go_num, by omega, (hkw.trans hkA).trans' hk5 (fun i hi => .inr ((hrA.own.lt i (by simpa using hi)).1)), by rw [List.map_append]; exact hr5, ?_, ?_, ?_, ?_⟩
        · intro p hp
          have hne : ∀ q : Part, (∀ a, q.A = some a → a.block ∈ wr.heap.size :: G) → ∀ a, q.A = some a → a.block ∉ (u3.ownBlock).toList := fun q hq a e hm => hrA.ne a.block (by simpa using hm) (hq a e)
          rcases List.mem_append.mp hp with hp | hp
          · exact ((hpa p hp).kept hkA (by simp)).kept hk5 (hne p (fun a e => List.mem_cons_of_mem _ (hpG p hp a e).2))
          · obtain rfl := List.mem_singleton.mp hp
            exact hpt.kept hk5 (hne _ (fun a e => by cases e; simp))
        · rw [take_snoc hs]
          simp only [texts, List.map_append, List.map_cons, List.map_nil]
          unfold texts at htx
          rw [htx]
        · intro q hq p e
          rcases List.mem_append.mp hq with hq | hq
          · exact ⟨(hpG q hq p e).1, List.mem_cons_of_mem _ (hpG q hq p e).2⟩
          · obtain rfl := List.mem_singleton.mp hq
            cases e
            exact ⟨hkw2, by simp⟩
        · intro j hj
          have h5 := hk5.size
          rcases List.mem_cons.mp hj with rfl | hj
          · omega
          · have := hGl j hj; omega
      case measure => simp [intOf]; omega
    · obtain rfl : k = n := by omega
      go_wp2_with fail
      go_ret
      obtain ⟨A, c', rfl, hB⟩ := hrow.parts hpa
      subst hlen
      rw [List.take_length] at htx
      exact ⟨A, c', ps, rfl, hkw, hrow.own, hpa, htx, fun q hq p e => ⟨(hpG q hq p e).1, fun g eg hm => hrow.ne g eg (hm ▸ (hpG q hq p e).2)⟩⟩

theorem texts_sure (W : World) : Calls Try.prog 64 #[.slice (some ⟨W.heap.size, 0, none⟩) 1 1] (W.alloc (.cells #[.string ⟨#[115, 117, 114, 101]⟩] 9)) (TxPost (W.alloc (.cells #[.string ⟨#[115, 117, 114, 101]⟩] 9)) sureB) := by
  have hl : (W.alloc (.cells #[.string ⟨#[115, 117, 114, 101]⟩] 9)).heap[W.heap.size]? = some (.cells #[.string ⟨#[115, 117, 114, 101]⟩] 9 (0, 0)) := heap_alloc_new _ _
  exact texts13_any (W.alloc (.cells #[.string ⟨#[115, 117, 114, 101]⟩] 9)) W.heap.size 0 1 1 sureB rfl (by omega) (by omega) (by omega) (by decide) (by simp) (fun i s hs => by
    rw [blk_cell hl, Nat.zero_add]
    match i, hs with
    | 0, hs => cases hs; rfl
    | i + 1, hs => simp [sureB] at hs)

theorem texts_sure_own (W : World) : Calls Try.prog 64 #[.slice (some ⟨W.heap.size, 0, none⟩) 1 1] (W.alloc (.cells #[.string ⟨#[115, 117, 114, 101]⟩] 9)) (TxOwn (W.alloc (.cells #[.string ⟨#[115, 117, 114, 101]⟩] 9)) sureB) := by
  have hl : (W.alloc (.cells #[.string ⟨#[115, 117, 114, 101]⟩] 9)).heap[W.heap.size]? = some (.cells #[.string ⟨#[115, 117, 114, 101]⟩] 9 (0, 0)) := heap_alloc_new _ _
  exact texts13_own (W.alloc (.cells #[.string ⟨#[115, 117, 114, 101]⟩] 9)) W.heap.size 0 1 1 sureB rfl (by omega) (by omega) (by omega) (by decide) (by simp) (fun i s hs => by
    rw [blk_cell hl, Nat.zero_add]
    match i, hs with
    | 0, hs => cases hs; rfl
    | i + 1, hs => simp [sureB] at hs)

theorem RxAll.num {w0 w : World} {y a : Nat} {F : List Nat} {want : List (List UInt8)} {n : Int} (h : RxAll w0 w y a F want n) : n = 0 ∨ n = 101 := by
  obtain ⟨s, d, _, _, sl, half, L, _, ⟨h, _⟩ | ⟨h, _⟩⟩ := h
  · exact .inl h
  · exact .inr h
theorem RxAll.kept {w0 w : World} {y a : Nat} {F : List Nat} {want : List (List UInt8)} {n : Int} (h : RxAll w0 w y a F want n) : Kept [] w0 w := by
  obtain ⟨s, d, h, _⟩ := h
  exact h.kept

set_option maxHeartbeats 20000000 in
set_option maxRecDepth 100000 in
theorem spoolRefused_walk (w : World) (A : Option Addr) (n c : Nat) (l : List Part) (hl : BytessAt w A n c l) (b : Int) (hb : I64 b) (rp : Bool) :
    Calls Try.prog 19 #[.slice A n c, .int .i64 b, .bool rp] w (TruePost w) := by
  obtain ⟨j0, hj0, ju0, ju1, ju2⟩ := info_parts info_bytes
  have hln := hl.le; have hlm := hl.max
  unfold maxLen at hlm
  obtain ⟨bq, hbq⟩ : ∃ q : Nat, b % 20 = q := ⟨(b % 20).toNat, by omega⟩
  have hbq20 : bq < 20 := by omega
  have cb := fun W => bring_any b 20 W (by omega) (by omega) hb.1 hb.2
  rw [hbq] at cb
  clear hbq
  go_enter Try.func19, Try.ntmps19
  go_wp2_with fail
  refine (new_any 60 _ (by omega) (by omega)).mono ?_
  rintro e w1 ⟨a, f1, rfl, hD1, hA1, hN1⟩
  go_wp2_with fail
  refine (spk_new (n := 60) (f := 0) (sectors := 60) (each := 29) hD1 hA1 hN1 (by omega) rfl (by omega)).mono ?_
  rintro e w2 ⟨y, F, A2, c2, rfl, h2⟩
  clear hD1 hA1 hN1
  obtain ⟨v2, hv2, kv2, sv2, -⟩ := lit_conv w2 [115, 117, 114, 101] (by simp)
  have ca := (h2.next kv2).append (by omega) (by simp) (some ⟨w2.heap.size, 0, none⟩) 4 4 [115, 117, 114, 101] sv2 (fun e => by cases e) (fun p e _ => by cases e; exact h2.fresh (Nat.le_refl _)) (by simp) (by simp [recs_nil])
  replace hv2 : (convert 34 34 (.slice (some ⟨w2.heap.size, 0, none⟩) 4 4)).run Try.prog (w2.alloc (.cells #[.int .u8 115, .int .u8 117, .int .u8 114, .int .u8 101] 5)) = .ok (.slice (some ⟨w2.heap.size, 0, none⟩) 4 4) v2 := hv2
  go_wp2_with fail
  refine ca.mono ?_
  rintro e w3 ⟨rfl, F3, h3, -⟩
  clear ca h2 hv2 kv2 sv2
  replace h3 : SpK w w3 y a F3 0 29 0 sureB [] 60 0 (0 + (4 + 8)) := h3
  have cf := h3.flush (by omega) (by decide) (by omega)
  go_wp2_with fail
  refine cf.mono ?_
  rintro e w4 ⟨rfl, F4, h4, -⟩
  clear cf h3
  go_wp2_with fail
  refine (cb _).mono ?_
  rintro e w4' ⟨rfl, rfl⟩
  have ca := rx_arm h4 (by omega) (by omega) (bq : Int) (by omega) (by omega)
  go_wp2_with fail
  refine ca.mono ?_
  rintro e w5 ⟨F5, s, d, rfl, h5, hs5, -⟩
  clear ca h4 cb
  go_wp2_with fail
  have h4 := h5
  have k05 := h5.kept
  go_loopw [12, 13] (fun v12 i wr => LnRel 6 200 w w5 F5 l v12 i wr) (fun _ i _ => 6 - (intOf i).toNat)
  case atStart => exact ⟨0, by omega, by omega, rfl, ⟨World.ownsRow_nil _ _ _ _, fun g e => by cases e⟩, Kept.refl _ _, fun g e => by cases e⟩
  case round =>
    obtain ⟨j, hj, hjl, rfl, hrM, kM, hMo⟩ := hrel
    by_cases hjt : j < n ∧ j < 6
    · have i3 : (j : Int) < (n : Int) := by omega
      have i4 : (j : Int) < 6 := by omega
      obtain ⟨bl, ol, p, hAl, hbll0, hplk, hpla0, hcl0⟩ := hl.at_ hjt.1
      have hpla := hpla0.kept (k05.trans kM) (by simp)
      have hcl := ((k05.trans kM).cell (p := ⟨bl, ol + j, none⟩) hbll0 (by simp)).trans hcl0
      have hbll : bl < wr.heap.size := Nat.lt_of_lt_of_le hbll0 (k05.trans kM).size
      obtain ⟨ml, hmin, hml1, hml2, hml3, hsl⟩ := part_low hpla 200
      replace hmin : min (p.n : Int) 200 = (ml : Nat) := hmin
      have hple := hpla.1.le; have hpmx := hpla.1.max; have hpn := hpla.2
      unfold maxLen at hpmx
      have i5 : ml ≤ p.c := by omega
      have hbz : w.heap.size ≤ wr.heap.size := (k05.trans kM).size
      have hbl0 : bl < w5.heap.size := Nat.lt_of_lt_of_le hbll0 k05.size
      have ef : A = some ⟨bl, ol, none⟩ := hAl
      subst ef
      have S0 : wr.drew.cell? ⟨bl, ol + j, none⟩ = some (.slice p.A p.n p.c) := hcl
      have hrMd := hrM.next (Kept.drew [] wr)
      go_wp2_with fail
      refine wp_region_calm (S := (fun W => W.cell? ⟨bl, ol + j, none⟩ = some (.slice p.A p.n p.c))) (by kernel_rfl) S0 (fun hHeld => ?_)
      refine wpAnyH_take (i := 0) (v := ?_) (by simp only [List.getElem?_toArray, List.getElem?_cons_zero]; rfl) (by kernel_rfl) (by kernel_rfl) (by kernel_rfl) (by exact fun _ _ _ h => h) (Or.inl ⟨by rfl, ?_⟩) hHeld ?_
      rotate_left
      · intro w hSw
        try dsimp only at hSw
        go_simp
        all_goals with_reducible rfl
      try simp only [Act.put, List.setIfInBounds_toArray, List.set_cons_zero, List.set_cons_succ]
      refine wpAnyH_take (i := 1) (v := ?_) (by simp only [List.getElem?_toArray, List.getElem?_cons_succ, List.getElem?_cons_zero]; rfl) (by kernel_rfl) (by kernel_rfl) (by kernel_rfl) (by exact fun _ _ _ h => h) (Or.inl ⟨by rfl, ?_⟩) hHeld ?_
      rotate_left
      · intro w hSw
        try dsimp only at hSw
        go_simp
        all_goals with_reducible rfl
      try simp only [Act.put, List.setIfInBounds_toArray, List.set_cons_zero, List.set_cons_succ]
      refine wpAnyH_take (i := 2) (v := ?_) (by simp only [List.getElem?_toArray, List.getElem?_cons_succ, List.getElem?_cons_zero]; rfl) (by kernel_rfl) (by kernel_rfl) (by kernel_rfl) (by exact fun _ _ _ h => h) (Or.inl ⟨by rfl, ?_⟩) hHeld ?_
      rotate_left
      · intro w hSw
        try dsimp only at hSw
        go_simp
        all_goals with_reducible rfl
      try simp only [Act.put, List.setIfInBounds_toArray, List.set_cons_zero, List.set_cons_succ]
      refine wpAnyH_take (i := 3) (v := ?_) (by simp only [List.getElem?_toArray, List.getElem?_cons_succ, List.getElem?_cons_zero]; rfl) (by kernel_rfl) (by kernel_rfl) (by kernel_rfl) (by exact fun _ _ _ h => h) (Or.inl ⟨by rfl, ?_⟩) hHeld ?_
      rotate_left
      · intro w hSw
        try dsimp only at hSw
        go_simp
        all_goals with_reducible rfl
      try simp only [Act.put, List.setIfInBounds_toArray, List.set_cons_zero, List.set_cons_succ]
      refine wpAnyH_take (i := 4) (v := ?_) (by simp only [List.getElem?_toArray, List.getElem?_cons_succ, List.getElem?_cons_zero]; rfl) (by kernel_rfl) (by kernel_rfl) (by kernel_rfl) (by exact fun _ _ _ h => h) (Or.inl ⟨by rfl, ?_⟩) hHeld ?_
      rotate_left
      · intro w hSw
        try dsimp only at hSw
        go_simp
        all_goals with_reducible rfl
      try simp only [Act.put, List.setIfInBounds_toArray, List.set_cons_zero, List.set_cons_succ]
      refine wpAnyH_take (i := 5) (v := ?_) (by simp only [List.getElem?_toArray, List.getElem?_cons_succ, List.getElem?_cons_zero]; rfl) (by kernel_rfl) (by kernel_rfl) (by kernel_rfl) (by exact fun _ _ _ h => h) (Or.inl ⟨by rfl, ?_⟩) hHeld ?_
      rotate_left
      · intro w hSw
        try dsimp only at hSw
        go_simp
        all_goals with_reducible rfl
      try simp only [Act.put, List.setIfInBounds_toArray, List.set_cons_zero, List.set_cons_succ]
      refine wpAnyH_take (i := 6) (v := ?_) (by simp only [List.getElem?_toArray, List.getElem?_cons_succ, List.getElem?_cons_zero]; rfl) (by kernel_rfl) (by kernel_rfl) (by kernel_rfl) (by exact fun _ _ _ h => h) (Or.inl ⟨by rfl, ?_⟩) hHeld ?_
      rotate_left
      · intro w hSw
        try dsimp only at hSw
        go_simp
        all_goals with_reducible rfl
      try simp only [Act.put, List.setIfInBounds_toArray, List.set_cons_zero, List.set_cons_succ]
      refine wpAnyH_take (i := 7) (v := ?_) (by simp only [List.getElem?_toArray, List.getElem?_cons_succ, List.getElem?_cons_zero]; rfl) (by kernel_rfl) (by kernel_rfl) (by kernel_rfl) (by exact fun _ _ _ h => h) (Or.inl ⟨by rfl, ?_⟩) hHeld ?_
      rotate_left
      · intro w hSw
        try dsimp only at hSw
        go_simp
        all_goals with_reducible rfl
      try simp only [Act.put, List.setIfInBounds_toArray, List.set_cons_zero, List.set_cons_succ]
      refine wpAnyH_take (i := 8) (v := ?_) (by simp only [List.getElem?_toArray, List.getElem?_cons_succ, List.getElem?_cons_zero]; rfl) (by kernel_rfl) (by kernel_rfl) (by kernel_rfl) (by exact fun _ _ _ h => h) (Or.inl ⟨by rfl, ?_⟩) hHeld ?_
      rotate_left
      · intro w hSw
        try dsimp only at hSw
        go_simp
        all_goals with_reducible rfl
      try simp only [Act.put, List.setIfInBounds_toArray, List.set_cons_zero, List.set_cons_succ]
      refine wpAnyH_take (i := 9) (v := ?_) (by simp only [List.getElem?_toArray, List.getElem?_cons_succ, List.getElem?_cons_zero]; rfl) (by kernel_rfl) (by kernel_rfl) (by kernel_rfl) (by exact fun _ _ _ h => h) (Or.inl ⟨by rfl, ?_⟩) hHeld ?_
      rotate_left
      · intro w hSw
        try dsimp only at hSw
        go_simp
        all_goals with_reducible rfl
      try simp only [Act.put, List.setIfInBounds_toArray, List.set_cons_zero, List.set_cons_succ]
      refine wpAnyH_take (i := 10) (v := ?_) (by simp only [List.getElem?_toArray, List.getElem?_cons_succ, List.getElem?_cons_zero]; rfl) (by kernel_rfl) (by kernel_rfl) (by kernel_rfl) (by exact fun _ _ _ h => h) (Or.inl ⟨by rfl, ?_⟩) hHeld ?_
      rotate_left
      · intro w hSw
        try dsimp only at hSw
        go_simp
        all_goals with_reducible rfl
      try simp only [Act.put, List.setIfInBounds_toArray, List.set_cons_zero, List.set_cons_succ]
      try simp only [hmin]
      refine wpAnyH_take (i := 11) (v := ?_) (by simp only [List.getElem?_toArray, List.getElem?_cons_succ, List.getElem?_cons_zero]; rfl) (by kernel_rfl) (by kernel_rfl) (by kernel_rfl) (by exact fun _ _ _ h => h) (Or.inl ⟨by rfl, ?_⟩) hHeld ?_
      rotate_left
      · intro w hSw
        try dsimp only at hSw
        go_simp
        all_goals with_reducible rfl
      try simp only [Act.put, List.setIfInBounds_toArray, List.set_cons_zero, List.set_cons_succ]
      refine wpAnyH_ready (rs := [12]) (by kernel_rfl) (by simp) ?_
      refine AllReadyH.cons (by simp only [List.getElem?_toArray, List.getElem?_cons_succ, List.getElem?_cons_zero]; rfl) (fun K hK => ?_) AllReadyH.nil
      go_simp
      refine hK.out _ _ ?_ (fun hHeld2 => ?_)
      · exact Lib.cell?_alloc_marked _ S0
      clear hK K hHeld
      have hHeld := hHeld2
      clear hHeld2
      try simp only [Act.put, List.setIfInBounds_toArray, List.set_cons_zero, List.set_cons_succ]
      refine wpAnyH_ready (rs := [13]) (by kernel_rfl) (by simp) ?_
      refine AllReadyH.cons (by simp only [List.getElem?_toArray, List.getElem?_cons_succ, List.getElem?_cons_zero]; rfl) (fun K hK => ?_) AllReadyH.nil
      refine wp_append_lies _ (.tmp 65) (.tmp 77) 64 rfl w.heap.size 34 j0 _ 1 24 Try.underlying64 hj0 ju0 ju1 ju2 rfl (by decide) _ j _ (by simp [Act.eval]) (hrMd.next (Kept.alloc [] wr.drew (.cells #[.slice p.A ml p.c] 34))).own ⟨wr.heap.size, 0, none⟩ 1 1 [.slice p.A ml p.c] (by simp [Act.eval]) rfl (one_news wr.drew _ _) (one_slice _ _ _) (by omega) (by unfold maxLen; omega) (by omega) (by simp; omega) (wr.heap.size + 1) (by simp) ?_
      intro g cap w6 hown6 hgrow6 hat6 hlt6
      obtain ⟨hr6, hk6, -⟩ := hrMd.push (fun i hi => Nat.lt_of_lt_of_le (h4.at_.lt i hi) kM.size) (Kept.alloc [] wr.drew (.cells #[.slice p.A ml p.c] 34)) hgrow6 hown6 hat6 (by simp)
      refine hK.out _ _ ?_ (fun hHeld2 => ?_)
      · exact (hk6.cell (p := ⟨bl, ol + j, none⟩) hbll (fun hm => by have h9 := hMo bl (by simpa using hm); omega)).trans S0
      clear hK K hHeld
      have hHeld := hHeld2
      clear hHeld2
      try simp only [Act.put, List.setIfInBounds_toArray, List.set_cons_zero, List.set_cons_succ]
      refine wpAnyH_take (i := 14) (v := ?_) (by simp only [List.getElem?_toArray, List.getElem?_cons_succ, List.getElem?_cons_zero]; rfl) (by kernel_rfl) (by kernel_rfl) (by kernel_rfl) (by exact fun _ _ _ h => h) (Or.inl ⟨by rfl, ?_⟩) hHeld ?_
      rotate_left
      · intro w hSw
        try dsimp only at hSw
        go_simp
        all_goals with_reducible rfl
      try simp only [Act.put, List.setIfInBounds_toArray, List.set_cons_zero, List.set_cons_succ]
      refine wpAnyH_calm (by kernel_rfl) ?_ _
      clear hHeld
      go_wp2_with fail
      go_roundw
      case rel =>
        have hvl : (p.low 200).val = .slice p.A ml p.c := by unfold Part.low Part.val; rw [show min p.n 200 = ml by omega]
        refine ⟨j + 1, by omega, by have := hl.len; omega, by go_num, ?_, (kM.trans (Kept.drew [] wr)).trans' hk6 (fun i hi => .inr (hMo i (by simpa using hi))), fun g' e => ?_⟩
        · rw [take_snoc hplk, List.map_append, List.map_append, List.map_cons, List.map_nil, List.map_cons, List.map_nil, hvl]
          exact hr6
        · have e2 : g = g' := by simpa [Value.ownBlock] using e
          subst e2
          rcases hat6 with h1 | h1
          · exact hMo _ h1
          · have := kM.size
            omega
      case measure => simp [intOf]; omega
    · have hcase : ¬ (j : Int) < (n : Int) ∨ ((j : Int) < (n : Int) ∧ ¬ (j : Int) < 6) := by omega
      obtain ⟨ap, hap⟩ : ∃ ap, (l.take j).map (Part.low 200) = ap := ⟨_, rfl⟩
      have hapl : ap.length = j := by rw [← hap]; simp; omega
      have hapw : ∀ p ∈ ap, p.At w ∧ p.xs.length ≤ 200 := fun p hp => by
        rw [← hap] at hp
        obtain ⟨p0, hp0, rfl⟩ := List.mem_map.1 hp
        exact ⟨(hl.all _ (List.mem_of_mem_take hp0)).low 200, by simp [Part.low]; omega⟩
      rw [hap] at hrM
      have hlow := h5.low
      have hsF : ∀ q ∈ ap, ∀ p, q.A = some p → 0 < q.n → p.block < w.heap.size := fun q hq p e hn => (hapw q hq).1.1.lt' hn e
      have h6 := h5.next kM
      have hpaw : ∀ p ∈ ap, p.At wr := fun p hp => (hapw p hp).1.kept (k05.trans kM) (by simp)
      have hLi : LiAt wr F5 u12 (texts ap) := LiAt.row hrM hpaw (fun q hq p e hn hm => by have h8 := hsF q hq p e hn; have h9 := hlow _ hm; omega)
      have hj6 : j ≤ 6 := hj
      have hne12 := hrM.ne
      obtain ⟨A12, c12, e12, hB12⟩ := hrM.parts hpaw
      subst e12
      have h7 := h6.next (Kept.alloc [] wr (.cells #[.string ⟨#[115, 117, 114, 101]⟩] 9))
      have hLi7 := hLi.next (Kept.alloc [] wr (.cells #[.string ⟨#[115, 117, 114, 101]⟩] 9))
      have hB7 := hB12.new (Kept.alloc [] wr (.cells #[.string ⟨#[115, 117, 114, 101]⟩] 9))
      have ct := texts_sure_own wr
      obtain ⟨W7, hW7⟩ : ∃ W7, wr.alloc (.cells #[.string ⟨#[115, 117, 114, 101]⟩] 9) = W7 := ⟨_, rfl⟩
      rw [hW7] at h7 hLi7 hB7 ct
      have htl : (texts ap).length = j := by rw [← hapl]; simp [texts]
      have htx : ∀ b ∈ texts ap, b.length ≤ 200 := fun b hb => by
        obtain ⟨p, hp, rfl⟩ := List.mem_map.1 hb
        exact (hapw p hp).2
      clear hLi h5 h4 hrM hB12 hpaw hl hap h6
      have hclose : ∀ (P : Prop), (¬ (j : Int) < (n : Int) → P) → ((j : Int) < (n : Int) → ¬ (j : Int) < 6 → P) → P := fun P h1 h2 => by
        rcases hcase with i1 | ⟨i1, i2⟩
        · exact h1 i1
        · exact h2 i1 i2
      clear hcase
      refine hclose _ (fun i1 => ?_) (fun i1 i2 => ?_)
      all_goals
        clear hclose
        go_wp2_with fail
        try rw [hW7]
        refine ct.mono ?_
        rintro e w8 ⟨A8, c8, ps8, rfl, k8, hown8, hpa8, ht8, hp8⟩
        clear ct hW7
        have hB8 := hB7.new k8
        go_wp2_with (at_builtin; refine Hold.of ?_)
        unfold Hold
        refine wpList_append_bytess rfl (.tmp 80) (.tmp 81) 64 rfl W7.heap.size 34 j0 _ 24 Try.underlying64 hj0 ju0 ju1 ju2 rfl (.slice A8 sureB.length c8) sureB.length (ps8.map Part.val) rfl hown8 A12 j c12 ap rfl hB8 (by unfold maxLen; simp [sureB]; omega) (by simp [sureB]; omega) k8.size ?_
        intro v14 w9 hown9 hgr9 hat9
        have kg := Kept.grown (F := (Value.slice A8 sureB.length c8).ownBlock.toList) hgr9 (fun i e => by rw [e]; simp)
        have k9 : Kept [] W7 w9 := k8.trans' kg (fun i hi => .inr (hown8.lt i (by simpa using hi)).1)
        have h9 := h7.next k9
        have hLi9 := hLi7.next k9
        have hB9 := hB7.new k9
        have k09 := h9.kept
        have hF5 := h7.at_.lt
        rw [← List.map_append] at hown9
        have hWt : LiAt w9 F5 v14 (sureB ++ texts ap) := by
          have h := LiAt.row (F := F5) (base := W7.heap.size) (n := sureB.length + j) (ps := ps8 ++ ap) ⟨hown9, fun g e hm => by
            have h1 := (hown9.lt g e).1
            have h2 := hF5 g hm
            omega⟩ (fun p hp => by
            rcases List.mem_append.mp hp with hp | hp
            · exact (hpa8 p hp).kept kg (fun q e hm => (hp8 p hp q e).2 q.block (by simpa using hm) rfl)
            · exact (hapw p hp).1.kept k09 (by simp)) (fun q hq p e hn hm => by
            rcases List.mem_append.mp hq with hq | hq
            · have h1 := (hp8 q hq p e).1
              have h2 := hF5 _ hm
              omega
            · have h8 := hsF q hq p e hn
              have h9 := hlow _ hm
              omega)
          have e2 : texts (ps8 ++ ap) = sureB ++ texts ap := by rw [← ht8]; simp [texts]
          rw [e2] at h
          exact h
        clear hB7 hLi7 h7 hB8 hown8 hpa8 ht8 hp8 kg hown9 hgr9 hat9 k8 k9 hF5
        cases rp with
        | true =>
          have cr := rx_replace h9 hs5 (by omega) A12 j c12 ap hB9 htx (by omega) (fun p e hn => hne12 p.block (by simp [Value.ownBlock, e])) (fun q hq p e hn hm => by have h8 := hsF q hq p e hn; have h9 := hlow _ hm; omega)
          go_wp2_with fail
          refine cr.mono ?_
          rintro e w10 ⟨n10, F10, rfl, hR10, st10⟩
          have hL10 := hLi9.step st10
          have hn10 := hR10.num
          have hk10 := hR10.kept
          clear cr hWt hLi9 hB9 h9
          go_wp2_with fail
          go_loopw [15, 16] (fun g i wx => TrRel n10 w10 g i wx) (fun _ i _ => 0)
          case atStart => exact ⟨rfl, rfl, rfl⟩
          case round =>
            obtain ⟨rfl, rfl, hwx⟩ := hrel
            subst hwx
            have i7 : (0 < (j : Int)) ∨ ¬ (0 < (j : Int)) := by omega
            rcases i7 with i7 | i7
            all_goals
              rcases hn10 with rfl | rfl
              · go_wp2_with fail
                all_goals
                  have hR1 := hR10
                  have hW1 := hL10
                  have co := rx_off hR1
                  refine co.mono ?_
                  rintro e w5 ⟨F5', rfl, hR5, st5⟩
                  have hW5 := hW1.step st5
                  have hk5 := hR5.kept
                  have cp := rx_open hR5
                  clear co hR1 hW1
                  go_wp2_with fail
                  refine cp.mono ?_
                  rintro e w6 ⟨v6, A6, n6, c6, ps6, rfl, k6, hB6, hE6⟩
                  have hw6 := hW5.next k6
                  have hk6 := hk5.trans k6
                  clear cp hR5 hW5

                  have hLW6 : texts ps6 = (texts ap) := by
                    rcases hE6 with ⟨_, h⟩ | ⟨h, _⟩
                    · exact h
                    · cases h
                  clear hE6
                  obtain ⟨A14, c14, ps14, e14, hB14, ht14, _⟩ := hw6.ex
                  have cs0 := sameLists_true w6 A6 A14 n6 c6 _ c14 ps6 ps14 hB6 hB14 (hLW6.trans ht14.symm)
                  rw [← e14] at cs0
                  clear hB14 ht14 e14
                  have hLW := Lib.hid hLW6
                  clear hLW6
                  go_wp2_with fail
                  refine cs0.mono ?_
                  rintro e w6b ⟨rfl, q6, rfl⟩
                  replace hB6 := hB6.new (Kept.drewN [] w6 q6)
                  replace hw6 := hw6.next (Kept.drewN [] w6 q6)
                  replace hk6 := hk6.trans (Kept.drewN [] w6 q6)
                  clear cs0
                  generalize w6.drewN q6 = w6d at *

                  have hB7 := hB6.new (Kept.alloc [] w6d (.cells #[.string ⟨#[115, 117, 114, 101]⟩] 9))
                  have hw7 := hw6.next (Kept.alloc [] w6d (.cells #[.string ⟨#[115, 117, 114, 101]⟩] 9))
                  have hk7 := hk6.trans (Kept.alloc [] w6d (.cells #[.string ⟨#[115, 117, 114, 101]⟩] 9))
                  have ct := texts_sure w6d
                  go_wp2_with fail
                  refine ct.mono ?_
                  rintro e w8 ⟨A8, c8, ps8, rfl, k8, hB8, ht8, -, -⟩
                  clear ct
                  have cs := sameLists_any w8 A6 A8 n6 c6 1 c8 ps6 ps8 (hB7.new k8) hB8
                  rw [ht8] at cs
                  have hw8 := hw7.next k8
                  have hB68 := hB7.new k8
                  have hk8 := hk7.trans k8
                  clear hB6 hw6 hk6 hB7 hw7 hB8 ht8
                  by_cases hLS : texts ps6 = sureB
                  · have cs1 : Calls Try.prog 49 #[.slice A6 n6 c6, .slice A8 1 c8] w8 (TrueKept w8) := cs.mono (by
                      rintro _ w' ⟨rfl, q, rfl⟩
                      exact ⟨by rw [decide_eq_true hLS], Kept.drewN [] w8 q⟩)
                    clear cs hLS
                    go_wp2_with fail
                    refine cs1.mono ?_
                    rintro e w9 ⟨rfl, k9⟩
                    clear cs1
                    go_wp2_with fail
                    refine (awake13_any _).mono ?_
                    rintro e w10 ⟨rfl, hk10⟩
                    go_wp2_with fail
                    go_ret
                    exact ⟨rfl, (hk8.trans k9).trans hk10⟩
                  · have cs1 : Calls Try.prog 49 #[.slice A6 n6 c6, .slice A8 1 c8] w8 (FalseKept w8) := cs.mono (by
                      rintro _ w' ⟨rfl, q, rfl⟩
                      exact ⟨by rw [decide_eq_false hLS], Kept.drewN [] w8 q⟩)
                    have hLW9 : texts ps6 = (texts ap) := hLW.out
                    obtain ⟨A14, c14, ps14, e14, hB14, ht14, _⟩ := hw8.ex
                    have cs2 := fun W (k : Kept [] w8 W) => sameLists_true W A6 A14 n6 c6 _ c14 ps6 ps14 (hB68.new k) (hB14.new k) (hLW9.trans ht14.symm)
                    rw [← e14] at cs2
                    clear hB14 ht14 e14 hLW9 cs hLS
                    go_wp2_with fail
                    refine cs1.mono ?_
                    rintro e w9 ⟨rfl, k9⟩
                    clear cs1
                    have cs3 := cs2 _ k9
                    go_wp2_with fail
                    refine cs3.mono ?_
                    rintro e w11 ⟨rfl, q11, rfl⟩
                    clear cs2 cs3
                    go_wp2_with fail
                    refine (awake13_any _).mono ?_
                    rintro e w10 ⟨rfl, hk10⟩
                    go_wp2_with fail
                    go_ret
                    exact ⟨rfl, ((hk8.trans k9).trans (Kept.drewN [] _ q11)).trans hk10⟩
              · go_wp2_with fail
                all_goals
                  have hR1 := hR10
                  have hW1 := hL10
                  have co := rx_off hR1
                  refine co.mono ?_
                  rintro e w5 ⟨F5', rfl, hR5, st5⟩
                  have hW5 := hW1.step st5
                  have hk5 := hR5.kept
                  have cp := rx_open hR5
                  clear co hR1 hW1
                  go_wp2_with fail
                  refine cp.mono ?_
                  rintro e w6 ⟨v6, A6, n6, c6, ps6, rfl, k6, hB6, hE6⟩
                  have hw6 := hW5.next k6
                  have hk6 := hk5.trans k6
                  clear cp hR5 hW5

                  have hLW6 : texts ps6 = sureB ∨ texts ps6 = (texts ap) := by
                    rcases hE6 with ⟨h, _⟩ | ⟨_, h⟩
                    · cases h
                    · exact h
                  clear hE6

                  have hB7 := hB6.new (Kept.alloc [] w6 (.cells #[.string ⟨#[115, 117, 114, 101]⟩] 9))
                  have hw7 := hw6.next (Kept.alloc [] w6 (.cells #[.string ⟨#[115, 117, 114, 101]⟩] 9))
                  have hk7 := hk6.trans (Kept.alloc [] w6 (.cells #[.string ⟨#[115, 117, 114, 101]⟩] 9))
                  have ct := texts_sure w6
                  go_wp2_with fail
                  refine ct.mono ?_
                  rintro e w8 ⟨A8, c8, ps8, rfl, k8, hB8, ht8, -, -⟩
                  clear ct
                  have cs := sameLists_any w8 A6 A8 n6 c6 1 c8 ps6 ps8 (hB7.new k8) hB8
                  rw [ht8] at cs
                  have hw8 := hw7.next k8
                  have hB68 := hB7.new k8
                  have hk8 := hk7.trans k8
                  clear hB6 hw6 hk6 hB7 hw7 hB8 ht8
                  by_cases hLS : texts ps6 = sureB
                  · have cs1 : Calls Try.prog 49 #[.slice A6 n6 c6, .slice A8 1 c8] w8 (TrueKept w8) := cs.mono (by
                      rintro _ w' ⟨rfl, q, rfl⟩
                      exact ⟨by rw [decide_eq_true hLS], Kept.drewN [] w8 q⟩)
                    clear cs hLS
                    go_wp2_with fail
                    refine cs1.mono ?_
                    rintro e w9 ⟨rfl, k9⟩
                    clear cs1
                    go_wp2_with fail
                    refine (awake13_any _).mono ?_
                    rintro e w10 ⟨rfl, hk10⟩
                    go_wp2_with fail
                    go_ret
                    exact ⟨rfl, (hk8.trans k9).trans hk10⟩
                  · have cs1 : Calls Try.prog 49 #[.slice A6 n6 c6, .slice A8 1 c8] w8 (FalseKept w8) := cs.mono (by
                      rintro _ w' ⟨rfl, q, rfl⟩
                      exact ⟨by rw [decide_eq_false hLS], Kept.drewN [] w8 q⟩)
                    have hLW9 : texts ps6 = (texts ap) := hLW6.resolve_left hLS
                    obtain ⟨A14, c14, ps14, e14, hB14, ht14, _⟩ := hw8.ex
                    have cs2 := fun W (k : Kept [] w8 W) => sameLists_true W A6 A14 n6 c6 _ c14 ps6 ps14 (hB68.new k) (hB14.new k) (hLW9.trans ht14.symm)
                    rw [← e14] at cs2
                    clear hB14 ht14 e14 hLW9 cs hLS
                    go_wp2_with fail
                    refine cs1.mono ?_
                    rintro e w9 ⟨rfl, k9⟩
                    clear cs1
                    have cs3 := cs2 _ k9
                    go_wp2_with fail
                    refine cs3.mono ?_
                    rintro e w11 ⟨rfl, q11, rfl⟩
                    clear cs2 cs3
                    go_wp2_with fail
                    refine (awake13_any _).mono ?_
                    rintro e w10 ⟨rfl, hk10⟩
                    go_wp2_with fail
                    go_ret
                    exact ⟨rfl, ((hk8.trans k9).trans (Kept.drewN [] _ q11)).trans hk10⟩
        | false =>
          clear hne12
          go_wp2_with fail
          go_loopw [15, 16] (fun g i wx => RxRel w w9 y a F5 (texts ap) g i wx) (fun _ i _ => j - (intOf i).toNat)
          case atStart => exact ⟨0, 0, F5, Nat.zero_le _, rfl, rfl, .inl ⟨rfl, s, d, h9, by simpa using hs5⟩, Step.refl _ _⟩
          case round =>
            obtain ⟨r, n10, F10, hr, rfl, rfl, hE10, st10⟩ := hrel
            have hL10 := hLi9.step st10
            have hW10 := hWt.step st10
            rcases hE10 with ⟨rfl, s10, d10, h10, hs10⟩ | ⟨rfl, s10, d10, h10, hd10, sl10, half10, hk10⟩
            · by_cases hrj : r < j
              · have i7 : (r : Int) < (j : Int) := by omega
                obtain ⟨A14, c14, ps14, e14, hB14, ht14, hA14, hps14⟩ := hL10.ex
                obtain ⟨bl, ol, p, hAl, hbll, hplk, hpla, hcl⟩ := hB14.at_ (k := r) (by omega)
                injection e14 with x1 x2 x3
                subst x1 x3
                subst hAl
                have e3 : (texts ap).take (r + 1) = (texts ap).take r ++ [p.xs] := take_snoc (by rw [← ht14]; simp [texts, hplk])
                have hmem : p.xs ∈ texts ap := by rw [← ht14]; exact List.mem_map_of_mem (List.mem_of_getElem? hplk)
                have ca := rx_append h10 hs10 (by omega) p.A p.n p.c p.xs hpla.1 hpla.2 (fun q e hn => hps14 p (List.mem_of_getElem? hplk) q e hn) (htx _ hmem)
                have hE3 := Lib.hid e3
                clear x2 hB14 ht14 e3
                go_wp2_with fail
                refine ca.mono ?_
                rintro e w11 ⟨n11, F11, rfl, hE11, st11⟩
                go_wp2_with fail
                go_roundw
                case rel =>
                  refine ⟨r + 1, n11, F11, by omega, by go_num, rfl, ?_, st10.trans st11⟩
                  rw [hE3.out, ← List.append_assoc, show 1 + (r + 1) = 1 + r + 1 by omega]
                  exact hE11
                case measure => simp [intOf]; omega
              · obtain rfl : r = j := by omega
                rw [← htl, List.take_length] at hs10
                have cf := rx_flush h10 hs10 (by omega)
                have i7 : ¬ (r : Int) < (r : Int) := by omega
                go_wp2_with fail
                refine cf.mono ?_
                rintro e w11 ⟨n11, F11, rfl, hR11, st11⟩
                have hW11 := hW10.step st11
                clear cf
                rcases hR11.num with rfl | rfl
                · go_wp2_with fail
                  all_goals
                    have hR1 := hR11
                    have hW1 := hW11
                    have co := rx_off hR1
                    refine co.mono ?_
                    rintro e w5 ⟨F5', rfl, hR5, st5⟩
                    have hW5 := hW1.step st5
                    have hk5 := hR5.kept
                    have cp := rx_open hR5
                    clear co hR1 hW1
                    go_wp2_with fail
                    refine cp.mono ?_
                    rintro e w6 ⟨v6, A6, n6, c6, ps6, rfl, k6, hB6, hE6⟩
                    have hw6 := hW5.next k6
                    have hk6 := hk5.trans k6
                    clear cp hR5 hW5

                    have hLW6 : texts ps6 = (sureB ++ texts ap) := by
                      rcases hE6 with ⟨_, h⟩ | ⟨h, _⟩
                      · exact h
                      · cases h
                    clear hE6
                    obtain ⟨A14, c14, ps14, e14, hB14, ht14, _⟩ := hw6.ex
                    have cs0 := sameLists_true w6 A6 A14 n6 c6 _ c14 ps6 ps14 hB6 hB14 (hLW6.trans ht14.symm)
                    rw [← e14] at cs0
                    clear hB14 ht14 e14
                    have hLW := Lib.hid hLW6
                    clear hLW6
                    go_wp2_with fail
                    refine cs0.mono ?_
                    rintro e w6b ⟨rfl, q6, rfl⟩
                    replace hB6 := hB6.new (Kept.drewN [] w6 q6)
                    replace hw6 := hw6.next (Kept.drewN [] w6 q6)
                    replace hk6 := hk6.trans (Kept.drewN [] w6 q6)
                    clear cs0
                    generalize w6.drewN q6 = w6d at *

                    have hB7 := hB6.new (Kept.alloc [] w6d (.cells #[.string ⟨#[115, 117, 114, 101]⟩] 9))
                    have hw7 := hw6.next (Kept.alloc [] w6d (.cells #[.string ⟨#[115, 117, 114, 101]⟩] 9))
                    have hk7 := hk6.trans (Kept.alloc [] w6d (.cells #[.string ⟨#[115, 117, 114, 101]⟩] 9))
                    have ct := texts_sure w6d
                    go_wp2_with fail
                    refine ct.mono ?_
                    rintro e w8 ⟨A8, c8, ps8, rfl, k8, hB8, ht8, -, -⟩
                    clear ct
                    have cs := sameLists_any w8 A6 A8 n6 c6 1 c8 ps6 ps8 (hB7.new k8) hB8
                    rw [ht8] at cs
                    have hw8 := hw7.next k8
                    have hB68 := hB7.new k8
                    have hk8 := hk7.trans k8
                    clear hB6 hw6 hk6 hB7 hw7 hB8 ht8
                    by_cases hLS : texts ps6 = sureB
                    · have cs1 : Calls Try.prog 49 #[.slice A6 n6 c6, .slice A8 1 c8] w8 (TrueKept w8) := cs.mono (by
                        rintro _ w' ⟨rfl, q, rfl⟩
                        exact ⟨by rw [decide_eq_true hLS], Kept.drewN [] w8 q⟩)
                      clear cs hLS
                      go_wp2_with fail
                      refine cs1.mono ?_
                      rintro e w9 ⟨rfl, k9⟩
                      clear cs1
                      go_wp2_with fail
                      refine (awake13_any _).mono ?_
                      rintro e w10 ⟨rfl, hk10⟩
                      go_wp2_with fail
                      go_ret
                      exact ⟨rfl, (hk8.trans k9).trans hk10⟩
                    · have cs1 : Calls Try.prog 49 #[.slice A6 n6 c6, .slice A8 1 c8] w8 (FalseKept w8) := cs.mono (by
                        rintro _ w' ⟨rfl, q, rfl⟩
                        exact ⟨by rw [decide_eq_false hLS], Kept.drewN [] w8 q⟩)
                      have hLW9 : texts ps6 = (sureB ++ texts ap) := hLW.out
                      obtain ⟨A14, c14, ps14, e14, hB14, ht14, _⟩ := hw8.ex
                      have cs2 := fun W (k : Kept [] w8 W) => sameLists_true W A6 A14 n6 c6 _ c14 ps6 ps14 (hB68.new k) (hB14.new k) (hLW9.trans ht14.symm)
                      rw [← e14] at cs2
                      clear hB14 ht14 e14 hLW9 cs hLS
                      go_wp2_with fail
                      refine cs1.mono ?_
                      rintro e w9 ⟨rfl, k9⟩
                      clear cs1
                      have cs3 := cs2 _ k9
                      go_wp2_with fail
                      refine cs3.mono ?_
                      rintro e w11 ⟨rfl, q11, rfl⟩
                      clear cs2 cs3
                      go_wp2_with fail
                      refine (awake13_any _).mono ?_
                      rintro e w10 ⟨rfl, hk10⟩
                      go_wp2_with fail
                      go_ret
                      exact ⟨rfl, ((hk8.trans k9).trans (Kept.drewN [] _ q11)).trans hk10⟩
                · go_wp2_with fail
                  all_goals
                    have hR1 := hR11
                    have hW1 := hW11
                    have co := rx_off hR1
                    refine co.mono ?_
                    rintro e w5 ⟨F5', rfl, hR5, st5⟩
                    have hW5 := hW1.step st5
                    have hk5 := hR5.kept
                    have cp := rx_open hR5
                    clear co hR1 hW1
                    go_wp2_with fail
                    refine cp.mono ?_
                    rintro e w6 ⟨v6, A6, n6, c6, ps6, rfl, k6, hB6, hE6⟩
                    have hw6 := hW5.next k6
                    have hk6 := hk5.trans k6
                    clear cp hR5 hW5

                    have hLW6 : texts ps6 = sureB ∨ texts ps6 = (sureB ++ texts ap) := by
                      rcases hE6 with ⟨h, _⟩ | ⟨_, h⟩
                      · cases h
                      · exact h
                    clear hE6

                    have hB7 := hB6.new (Kept.alloc [] w6 (.cells #[.string ⟨#[115, 117, 114, 101]⟩] 9))
                    have hw7 := hw6.next (Kept.alloc [] w6 (.cells #[.string ⟨#[115, 117, 114, 101]⟩] 9))
                    have hk7 := hk6.trans (Kept.alloc [] w6 (.cells #[.string ⟨#[115, 117, 114, 101]⟩] 9))
                    have ct := texts_sure w6
                    go_wp2_with fail
                    refine ct.mono ?_
                    rintro e w8 ⟨A8, c8, ps8, rfl, k8, hB8, ht8, -, -⟩
                    clear ct
                    have cs := sameLists_any w8 A6 A8 n6 c6 1 c8 ps6 ps8 (hB7.new k8) hB8
                    rw [ht8] at cs
                    have hw8 := hw7.next k8
                    have hB68 := hB7.new k8
                    have hk8 := hk7.trans k8
                    clear hB6 hw6 hk6 hB7 hw7 hB8 ht8
                    by_cases hLS : texts ps6 = sureB
                    · have cs1 : Calls Try.prog 49 #[.slice A6 n6 c6, .slice A8 1 c8] w8 (TrueKept w8) := cs.mono (by
                        rintro _ w' ⟨rfl, q, rfl⟩
                        exact ⟨by rw [decide_eq_true hLS], Kept.drewN [] w8 q⟩)
                      clear cs hLS
                      go_wp2_with fail
                      refine cs1.mono ?_
                      rintro e w9 ⟨rfl, k9⟩
                      clear cs1
                      go_wp2_with fail
                      refine (awake13_any _).mono ?_
                      rintro e w10 ⟨rfl, hk10⟩
                      go_wp2_with fail
                      go_ret
                      exact ⟨rfl, (hk8.trans k9).trans hk10⟩
                    · have cs1 : Calls Try.prog 49 #[.slice A6 n6 c6, .slice A8 1 c8] w8 (FalseKept w8) := cs.mono (by
                        rintro _ w' ⟨rfl, q, rfl⟩
                        exact ⟨by rw [decide_eq_false hLS], Kept.drewN [] w8 q⟩)
                      have hLW9 : texts ps6 = (sureB ++ texts ap) := hLW6.resolve_left hLS
                      obtain ⟨A14, c14, ps14, e14, hB14, ht14, _⟩ := hw8.ex
                      have cs2 := fun W (k : Kept [] w8 W) => sameLists_true W A6 A14 n6 c6 _ c14 ps6 ps14 (hB68.new k) (hB14.new k) (hLW9.trans ht14.symm)
                      rw [← e14] at cs2
                      clear hB14 ht14 e14 hLW9 cs hLS
                      go_wp2_with fail
                      refine cs1.mono ?_
                      rintro e w9 ⟨rfl, k9⟩
                      clear cs1
                      have cs3 := cs2 _ k9
                      go_wp2_with fail
                      refine cs3.mono ?_
                      rintro e w11 ⟨rfl, q11, rfl⟩
                      clear cs2 cs3
                      go_wp2_with fail
                      refine (awake13_any _).mono ?_
                      rintro e w10 ⟨rfl, hk10⟩
                      go_wp2_with fail
                      go_ret
                      exact ⟨rfl, ((hk8.trans k9).trans (Kept.drewN [] _ q11)).trans hk10⟩
            · have hR11 : RxAll w wr y a F10 (sureB ++ texts ap) 101 := ⟨s10, d10, h10, hd10, sl10, half10, sureB, hk10, .inr ⟨rfl, .inl rfl⟩⟩
              have i7 : ((r : Int) < (j : Int)) ∨ ¬ ((r : Int) < (j : Int)) := by omega
              rcases i7 with i7 | i7
              all_goals
                go_wp2_with fail
                have hR1 := hR11
                have hW1 := hW10
                have co := rx_off hR1
                refine co.mono ?_
                rintro e w5 ⟨F5', rfl, hR5, st5⟩
                have hW5 := hW1.step st5
                have hk5 := hR5.kept
                have cp := rx_open hR5
                clear co hR1 hW1
                go_wp2_with fail
                refine cp.mono ?_
                rintro e w6 ⟨v6, A6, n6, c6, ps6, rfl, k6, hB6, hE6⟩
                have hw6 := hW5.next k6
                have hk6 := hk5.trans k6
                clear cp hR5 hW5

                have hLW6 : texts ps6 = sureB ∨ texts ps6 = (sureB ++ texts ap) := by
                  rcases hE6 with ⟨h, _⟩ | ⟨_, h⟩
                  · cases h
                  · exact h
                clear hE6

                have hB7 := hB6.new (Kept.alloc [] w6 (.cells #[.string ⟨#[115, 117, 114, 101]⟩] 9))
                have hw7 := hw6.next (Kept.alloc [] w6 (.cells #[.string ⟨#[115, 117, 114, 101]⟩] 9))
                have hk7 := hk6.trans (Kept.alloc [] w6 (.cells #[.string ⟨#[115, 117, 114, 101]⟩] 9))
                have ct := texts_sure w6
                go_wp2_with fail
                refine ct.mono ?_
                rintro e w8 ⟨A8, c8, ps8, rfl, k8, hB8, ht8, -, -⟩
                clear ct
                have cs := sameLists_any w8 A6 A8 n6 c6 1 c8 ps6 ps8 (hB7.new k8) hB8
                rw [ht8] at cs
                have hw8 := hw7.next k8
                have hB68 := hB7.new k8
                have hk8 := hk7.trans k8
                clear hB6 hw6 hk6 hB7 hw7 hB8 ht8
                by_cases hLS : texts ps6 = sureB
                · have cs1 : Calls Try.prog 49 #[.slice A6 n6 c6, .slice A8 1 c8] w8 (TrueKept w8) := cs.mono (by
                    rintro _ w' ⟨rfl, q, rfl⟩
                    exact ⟨by rw [decide_eq_true hLS], Kept.drewN [] w8 q⟩)
                  clear cs hLS
                  go_wp2_with fail
                  refine cs1.mono ?_
                  rintro e w9 ⟨rfl, k9⟩
                  clear cs1
                  go_wp2_with fail
                  refine (awake13_any _).mono ?_
                  rintro e w10 ⟨rfl, hk10⟩
                  go_wp2_with fail
                  go_ret
                  exact ⟨rfl, (hk8.trans k9).trans hk10⟩
                · have cs1 : Calls Try.prog 49 #[.slice A6 n6 c6, .slice A8 1 c8] w8 (FalseKept w8) := cs.mono (by
                    rintro _ w' ⟨rfl, q, rfl⟩
                    exact ⟨by rw [decide_eq_false hLS], Kept.drewN [] w8 q⟩)
                  have hLW9 : texts ps6 = (sureB ++ texts ap) := hLW6.resolve_left hLS
                  obtain ⟨A14, c14, ps14, e14, hB14, ht14, _⟩ := hw8.ex
                  have cs2 := fun W (k : Kept [] w8 W) => sameLists_true W A6 A14 n6 c6 _ c14 ps6 ps14 (hB68.new k) (hB14.new k) (hLW9.trans ht14.symm)
                  rw [← e14] at cs2
                  clear hB14 ht14 e14 hLW9 cs hLS
                  go_wp2_with fail
                  refine cs1.mono ?_
                  rintro e w9 ⟨rfl, k9⟩
                  clear cs1
                  have cs3 := cs2 _ k9
                  go_wp2_with fail
                  refine cs3.mono ?_
                  rintro e w11 ⟨rfl, q11, rfl⟩
                  clear cs2 cs3
                  go_wp2_with fail
                  refine (awake13_any _).mono ?_
                  rintro e w10 ⟨rfl, hk10⟩
                  go_wp2_with fail
                  go_ret
                  exact ⟨rfl, ((hk8.trans k9).trans (Kept.drewN [] _ q11)).trans hk10⟩
end Go.Proofs.Ytbnflbkaogpnbaa
